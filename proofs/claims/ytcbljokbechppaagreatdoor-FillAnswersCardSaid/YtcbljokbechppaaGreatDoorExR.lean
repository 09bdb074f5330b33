/-
  The runner: closed calls; calls whose numbers are not known, question by question. No condition.
-/
import Derived.Test.YtcbljokbechppaaGreatDoorExQ
namespace Go.Proofs.YtcbljokbechppaaGreatDoor.Ex
open Go
section
variable {P : Program} {gs : List (Nat × List Int)}
theorem tabs_nil {w : World} : Tabs [] w := fun g l h => by cases h
theorem ov_nil : OvOk P gs [] := fun f hf => by cases hf
/-- where a tree of questions leads to none of its ends -/
def BadP (σ : Nat → Int) : DT → Prop
  | .leaf => False
  | .bad => True
  | .node c t e => (c.ev σ = true ∧ BadP σ t) ∨ (c.ev σ = false ∧ BadP σ e)
theorem tree_calls (hm : P.follows .mixedOrders = true) {ov : List Nat} (hov : OvOk P gs ov) {n : Nat} {f : FuncId} {args : List AV} {args' : Array Value} {σ : Nat → Int}
    (ha : ∀ (fs : List (Cnd × Bool)) (ok : ∀ f ∈ fs, f.1.ev σ = f.2), @VRs { facts := fs, globs := gs, σ := σ, ok := ok } (fun _ => none) args args'.toList) : ∀ (d : DT) (fs : List (Cnd × Bool)), (∀ f ∈ fs, f.1.ev σ = f.2) → tree P gs ov n f args d fs = true → ¬ BadP σ d →
    ∀ w, Tabs gs w → Calls P f args' w fun e w' => e = .returned (.bool true) ∧ RowKit.Below w.heap.size w w'
  | .leaf, fs, hfs, h, _, w, hg => @runs_calls { facts := fs, globs := gs, σ := σ, ok := hfs } P hm ov hov n f args args' h (ha fs hfs) w hg
  | .bad, _, _, _, hb, _, _ => absurd trivial hb
  | .node c t e, fs, hfs, h, hb, w, hg => by
    unfold tree at h
    split at h <;> first | (cases h; done) | skip
    rename_i ht
    cases hc : c.ev σ with
    | true => exact tree_calls hm hov ha t ((c, true) :: fs) (fun f hf => by rcases List.mem_cons.1 hf with rfl | hf; exact hc; exact hfs f hf) ht (fun hx => hb (.inl ⟨hc, hx⟩)) w hg
    | false => exact tree_calls hm hov ha e ((c, false) :: fs) (fun f hf => by rcases List.mem_cons.1 hf with rfl | hf; exact hc; exact hfs f hf) h (fun hx => hb (.inr ⟨hc, hx⟩)) w hg
/-- A CALL WITHOUT ARGUMENTS -/
theorem leaf_calls (hm : P.follows .mixedOrders = true) {ov : List Nat} (hov : OvOk P gs ov) {n : Nat} {f : FuncId} (h : tree P gs ov n f [] .leaf [] = true) (w : World) (hg : Tabs gs w) : Calls P f #[] w fun e w' => e = .returned (.bool true) ∧ RowKit.Below w.heap.size w w' :=
  tree_calls (σ := fun _ => 0) (args' := #[]) hm hov (fun fs ok => @VRs.nil { facts := fs, globs := gs, σ := fun _ => 0, ok := ok } _) .leaf [] (by simp) h (fun h => h) w hg
theorem yes_calls (hm : P.follows .mixedOrders = true) {n : Nat} {f : FuncId} (h : yes P n f = true) (w : World) : Calls P f #[] w fun e w' => e = .returned (.bool true) ∧ RowKit.Below w.heap.size w w' :=
  leaf_calls (gs := []) hm ov_nil h w tabs_nil
theorem leaf_fn {ov : List Nat} {n : Nat} {f : FuncId} (hno : memB f ov = false) (h : tree P gs ov n f [] .leaf [] = true) : FnOk P f := by
  unfold tree runs at h
  split at h <;> first | (cases h; done) | skip
  rename_i h' hc
  cases n with
  | zero => simp [callN] at hc
  | succ n =>
    unfold callN at hc
    split at hc
    · rename_i hf; rw [hno] at hf; cases hf
    · split at hc <;> first | (cases hc; done) | skip
      rename_i fn hf
      split at hc <;> first | (cases hc; done) | skip
      rename_i hname
      split at hc <;> first | (cases hc; done) | skip
      rename_i c hb
      exact ⟨fn, c, hf, hname, hb⟩
/-- one more call that is known to give true -/
theorem ov_cons (hm : P.follows .mixedOrders = true) {ov : List Nat} (hov : OvOk P gs ov) {n : Nat} {f : FuncId} (h : tree P gs ov n f [] .leaf [] = true) : OvOk P gs (f :: ov) := by
  intro g hg
  unfold memB at hg
  split at hg
  · rename_i he
    have he := Nat.eq_of_beq_eq_true he
    subst he
    cases hf : memB f ov with
    | true => exact hov f hf
    | false => exact ⟨leaf_fn hf h, leaf_calls hm hov h⟩
  · exact hov g hg
theorem ov_one (hm : P.follows .mixedOrders = true) {n : Nat} {f : FuncId} (h : yes P n f = true) : OvOk P [] [f] := ov_cons (gs := []) hm ov_nil h
end
end Go.Proofs.YtcbljokbechppaaGreatDoor.Ex
