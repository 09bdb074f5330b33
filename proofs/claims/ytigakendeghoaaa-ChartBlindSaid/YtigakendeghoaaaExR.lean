/-
  The runner: closed calls; calls whose numbers are not known, question by question. No condition.
-/
import Derived.Test.YtigakendeghoaaaExQ
namespace Go.Proofs.Ytigakendeghoaaa.Ex
open Go
section
variable {P : Program} {gs : List (Nat × List Int)} {σ : Nat → Int}
theorem tabs_nil {w : World} : Tabs [] w := fun g l h => by cases h
theorem ov_nil : OvOk P gs σ [] := fun f xs v hf => by cases hf
/-- where a tree of questions leads to none of its ends -/
def BadP (σ : Nat → Int) : DT → Prop
  | .leaf | .is _ => False
  | .bad => True
  | .node c t e => (c.ev σ = true ∧ BadP σ t) ∨ (c.ev σ = false ∧ BadP σ e)
/-- what a tree of questions leads to -/
def Ends (σ : Nat → Int) : DT → Value → Prop
  | .leaf, x => x = .bool true
  | .is v, x => x = valOf σ v
  | .bad, _ => False
  | .node c t e, x => (c.ev σ = true ∧ Ends σ t x) ∨ (c.ev σ = false ∧ Ends σ e x)
theorem tree_ends (hm : P.follows .mixedOrders = true) {ov : Ov} (hov : OvOk P gs σ ov) {n : Nat} {f : FuncId} {args : List AV} (ha : AV.shuts args = true) : ∀ (d : DT) (fs : List (Cnd × Bool)), (∀ f ∈ fs, f.1.ev σ = f.2) → tree P gs ov n f args d fs = true → ¬ BadP σ d →
    ∀ w, Tabs gs w → Calls P f (valsOf σ args).toArray w fun e w' => (∃ x, e = .returned x ∧ Ends σ d x) ∧ RowKit.Below w.heap.size w w'
  | .leaf, fs, hfs, h, _, w, hg => (@runs_calls { facts := fs, globs := gs, σ := σ, ok := hfs } P hm ov hov n f args (.bool true) h ha rfl w hg).mono fun _ _ h => ⟨⟨_, h.1, rfl⟩, h.2⟩
  | .is v, fs, hfs, h, _, w, hg => by
    unfold tree at h
    split at h <;> first | (cases h; done) | skip
    rename_i hv
    exact (@runs_calls { facts := fs, globs := gs, σ := σ, ok := hfs } P hm ov hov n f args v h ha hv w hg).mono fun _ _ h => ⟨⟨_, h.1, rfl⟩, h.2⟩
  | .bad, _, _, _, hb, _, _ => absurd trivial hb
  | .node c t e, fs, hfs, h, hb, w, hg => by
    unfold tree at h
    split at h <;> first | (cases h; done) | skip
    rename_i ht
    cases hc : c.ev σ with
    | true =>
      refine (tree_ends hm hov ha t ((c, true) :: fs) (fun f hf => by rcases List.mem_cons.1 hf with rfl | hf; exact hc; exact hfs f hf) ht (fun hx => hb (.inl ⟨hc, hx⟩)) w hg).mono ?_
      rintro _ _ ⟨⟨x, rfl, hx⟩, h2⟩
      exact ⟨⟨x, rfl, .inl ⟨hc, hx⟩⟩, h2⟩
    | false =>
      refine (tree_ends hm hov ha e ((c, false) :: fs) (fun f hf => by rcases List.mem_cons.1 hf with rfl | hf; exact hc; exact hfs f hf) h (fun hx => hb (.inr ⟨hc, hx⟩)) w hg).mono ?_
      rintro _ _ ⟨⟨x, rfl, hx⟩, h2⟩
      exact ⟨⟨x, rfl, .inr ⟨hc, hx⟩⟩, h2⟩
/-- no end but true -/
def DT.plain : DT → Bool
  | .leaf | .bad => true
  | .is _ => false
  | .node _ t e => t.plain && e.plain
theorem ends_plain : ∀ {d : DT} {x : Value}, d.plain = true → Ends σ d x → x = .bool true
  | .leaf, _, _, h => h
  | .bad, _, _, h => h.elim
  | .is _, _, hp, _ => by cases hp
  | .node c t e, x, hp, h => by
    unfold DT.plain at hp
    rw [Bool.and_eq_true] at hp
    rcases h with ⟨_, h⟩ | ⟨_, h⟩
    · exact ends_plain hp.1 h
    · exact ends_plain hp.2 h
theorem tree_calls (hm : P.follows .mixedOrders = true) {ov : Ov} (hov : OvOk P gs σ ov) {n : Nat} {f : FuncId} {args : List AV} (ha : AV.shuts args = true) (d : DT) (hp : d.plain = true) (h : tree P gs ov n f args d [] = true) (hb : ¬ BadP σ d) (w : World) (hg : Tabs gs w) :
    Calls P f (valsOf σ args).toArray w fun e w' => e = .returned (.bool true) ∧ RowKit.Below w.heap.size w w' := by
  refine (tree_ends hm hov ha d [] (by simp) h hb w hg).mono ?_
  rintro _ _ ⟨⟨x, rfl, hx⟩, h2⟩
  rw [ends_plain hp hx]
  exact ⟨rfl, h2⟩
/-- A CALL WITHOUT ARGUMENTS -/
theorem leaf_calls (hm : P.follows .mixedOrders = true) {ov : Ov} (hov : OvOk P gs σ ov) {n : Nat} {f : FuncId} (h : tree P gs ov n f [] .leaf [] = true) (w : World) (hg : Tabs gs w) : Calls P f #[] w fun e w' => e = .returned (.bool true) ∧ RowKit.Below w.heap.size w w' :=
  tree_calls hm hov rfl .leaf rfl h (fun h => h) w hg
theorem yes_calls (hm : P.follows .mixedOrders = true) {n : Nat} {f : FuncId} (h : yes P n f = true) (w : World) : Calls P f #[] w fun e w' => e = .returned (.bool true) ∧ RowKit.Below w.heap.size w w' :=
  leaf_calls (gs := []) (σ := fun _ => 0) hm ov_nil h w tabs_nil
/-- one more call that is known -/
theorem ov_cons {ov : Ov} {f : FuncId} {xs : List AV} {v : AV} (hov : OvOk P gs σ ov) (ha : AV.shuts xs = true) (hv : v.shut = true) (hf : FnOk P f) (hc : ∀ w, Tabs gs w → Calls P f (valsOf σ xs).toArray w fun e w' => e = .returned (valOf σ v) ∧ RowKit.Below w.heap.size w w') : OvOk P gs σ ((f, xs, v) :: ov) := by
  intro g xs' v' hm
  rcases List.mem_cons.1 hm with he | he
  · simp only [Prod.mk.injEq] at he
    obtain ⟨rfl, rfl, rfl⟩ := he
    exact ⟨ha, hv, hf, hc⟩
  · exact hov g xs' v' he
/-- .. by a run -/
theorem ov_run (hm : P.follows .mixedOrders = true) {ov : Ov} (hov : OvOk P gs σ ov) {n : Nat} {f : FuncId} (hf : FnOk P f) (h : tree P gs ov n f [] .leaf [] = true) : OvOk P gs σ ((f, [], .bool true) :: ov) :=
  ov_cons hov rfl rfl hf fun w hg => leaf_calls hm hov h w hg
end
end Go.Proofs.Ytigakendeghoaaa.Ex
