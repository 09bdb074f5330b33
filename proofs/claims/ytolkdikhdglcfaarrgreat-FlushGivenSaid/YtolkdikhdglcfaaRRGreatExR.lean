/-
  The runner: closed calls; calls whose numbers are not known, question by question. No condition.
-/
import Derived.Test.YtolkdikhdglcfaaRRGreatExQ
namespace Go.Proofs.YtolkdikhdglcfaaRRGreat.Ex
open Go
section
variable {P : Program}
/-- A CALL WITHOUT ARGUMENTS -/
theorem yes_calls (hm : P.follows .mixedOrders = true) {n : Nat} {f : FuncId} (h : yes P n f = true) (w : World) : Calls P f #[] w fun e w' => e = .returned (.bool true) ∧ RowKit.Below w.heap.size w w' := by
  let V : Nums := { facts := [], σ := fun _ => 0, ok := by simp }
  exact @runs_calls V P hm [] (fun f hf => by cases hf) n f [] #[] h (@VRs.nil V _) w
theorem yes_fn {n : Nat} {f : FuncId} (h : yes P n f = true) : FnOk P f := by
  let V : Nums := { facts := [], σ := fun _ => 0, ok := by simp }
  unfold yes runs at h
  split at h <;> first | (cases h; done) | skip
  rename_i h' hc
  cases n with
  | zero => simp [callN] at hc
  | succ n =>
    unfold callN at hc
    split at hc
    · rename_i hf; cases hf
    · split at hc <;> first | (cases hc; done) | skip
      rename_i fn hf
      split at hc <;> first | (cases hc; done) | skip
      rename_i hname
      split at hc <;> first | (cases hc; done) | skip
      rename_i c hb
      exact ⟨fn, c, hf, hname, hb⟩
theorem ov_one (hm : P.follows .mixedOrders = true) {n : Nat} {f : FuncId} (h : yes P n f = true) : OvOk P [f] := by
  intro g hg
  unfold memB at hg
  split at hg
  · rename_i he
    have he := Nat.eq_of_beq_eq_true he
    subst he
    exact ⟨yes_fn h, yes_calls hm h⟩
  · cases hg
/-- where a tree of questions leads to none of its ends -/
def BadP (σ : Nat → Int) : DT → Prop
  | .leaf => False
  | .bad => True
  | .node c t e => (c.ev σ = true ∧ BadP σ t) ∨ (c.ev σ = false ∧ BadP σ e)
theorem tree_calls (hm : P.follows .mixedOrders = true) {ov : List Nat} (hov : OvOk P ov) {n : Nat} {f : FuncId} {args : List AV} {args' : Array Value} {σ : Nat → Int}
    (ha : ∀ (fs : List (Cnd × Bool)) (ok : ∀ f ∈ fs, f.1.ev σ = f.2), @VRs { facts := fs, σ := σ, ok := ok } (fun _ => none) args args'.toList) : ∀ (d : DT) (fs : List (Cnd × Bool)), (∀ f ∈ fs, f.1.ev σ = f.2) → tree P ov n f args d fs = true → ¬ BadP σ d →
    ∀ w, Calls P f args' w fun e w' => e = .returned (.bool true) ∧ RowKit.Below w.heap.size w w'
  | .leaf, fs, hfs, h, _, w => @runs_calls { facts := fs, σ := σ, ok := hfs } P hm ov hov n f args args' h (ha fs hfs) w
  | .bad, _, _, _, hb, _ => absurd trivial hb
  | .node c t e, fs, hfs, h, hb, w => by
    unfold tree at h
    split at h <;> first | (cases h; done) | skip
    rename_i ht
    cases hc : c.ev σ with
    | true => exact tree_calls hm hov ha t ((c, true) :: fs) (fun f hf => by rcases List.mem_cons.1 hf with rfl | hf; exact hc; exact hfs f hf) ht (fun hx => hb (.inl ⟨hc, hx⟩)) w
    | false => exact tree_calls hm hov ha e ((c, false) :: fs) (fun f hf => by rcases List.mem_cons.1 hf with rfl | hf; exact hc; exact hfs f hf) h (fun hx => hb (.inr ⟨hc, hx⟩)) w
end
end Go.Proofs.YtolkdikhdglcfaaRRGreat.Ex
