/-
  A list of numbers that the code writes down is owned.
-/
import Derived.Test.YtljcndcmdphmgaaEqInts
namespace Go.Proofs.Ytljcndcmdphmgaa
open Go.RowKit
section
variable {W : World} {m : List (Nat × Obj)} {w : World}
theorem lit_own (h : Own W m w) (l : List Int) (hl : l.length ≤ 60000) :
    IntsOwn true (.slice (some ⟨w.heap.size, 0, none⟩) l.length l.length) l [(w.heap.size, .cells (ints l).toArray 3)] ∧
      Own W ([(w.heap.size, .cells (ints l).toArray 3)] ++ m) (w.alloc (.cells (ints l).toArray 3)) := by
  refine ⟨?_, h.new _⟩
  have := SlO.made true 3 1 w.heap.size l.length (ints l).toArray l.length (Nat.le_refl _) (by unfold maxLen; omega) (by simp [ints])
  have e : (ints l).toArray.toList.take (l.length * 1) = ints l := List.take_of_length_le (by simp [ints])
  rw [e] at this
  exact this
theorem eqInts_yes {v1 v2 : Value} {l1 l2 : List Int} (h1 : IntsSrc w v1 l1) (h2 : IntsSrc w v2 l2) (hl1 : l1.length ≤ 60000) (he : l1 = l2) (h : Own W m w) :
    Calls Try.prog 52 #[v1, v2] w fun e w' => e = .returned (.bool true) ∧ Own W m w' := by
  subst he
  refine (eqInts_spec h1 h2 hl1 hl1).mono ?_
  rintro e w' ⟨rfl, n, rfl⟩
  exact ⟨by simp, h.drewN n⟩
end
end Go.Proofs.Ytljcndcmdphmgaa
