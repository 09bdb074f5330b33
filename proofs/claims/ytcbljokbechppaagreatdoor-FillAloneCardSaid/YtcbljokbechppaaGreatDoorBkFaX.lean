import Derived.Test.YtcbljokbechppaaGreatDoorBkFaW
/-
  wainscotlaw24.FillAlone: what is seen, in its reading's numbers. No condition.
-/
namespace Go.Proofs.YtcbljokbechppaaGreatDoor.Fa
open Go Ex Mem See
open Go.RowKit
namespace Na
section
variable {x : Na} (h : x.Ok)
theorem n100 (hm : x.m ≤ 3) : x.σA 100 = (if x.T then (x.sl : Int) else -1) := by
  refine (ev (x := x) (i := 100) (by omega)).trans ?_
  unfold vA
  rw [if_neg (by omega), if_neg (by omega), if_neg (by omega), if_neg (by omega), if_neg (by omega), if_neg (by omega), if_neg (by omega), if_neg (by omega), if_neg (by omega), if_neg (by omega), if_neg (by omega), if_neg (by omega), if_pos rfl]
theorem n101 (hm : x.m ≤ 3) : x.σA 101 = (if x.T then ((x.ow x.sl - 1 : Nat) : Int) else 0) := by
  refine (ev (x := x) (i := 101) (by omega)).trans ?_
  unfold vA
  rw [if_neg (by omega), if_neg (by omega), if_neg (by omega), if_neg (by omega), if_neg (by omega), if_neg (by omega), if_neg (by omega), if_neg (by omega), if_neg (by omega), if_neg (by omega), if_neg (by omega), if_neg (by omega), if_neg (by omega), if_pos rfl]
theorem n102 (hm : x.m ≤ 3) : x.σA 102 = (if x.T then 1 else 0) := by
  refine (ev (x := x) (i := 102) (by omega)).trans ?_
  unfold vA
  rw [if_neg (by omega), if_neg (by omega), if_neg (by omega), if_neg (by omega), if_neg (by omega), if_neg (by omega), if_neg (by omega), if_neg (by omega), if_neg (by omega), if_neg (by omega), if_neg (by omega), if_neg (by omega), if_neg (by omega), if_neg (by omega), if_pos rfl]
theorem n103 (hm : x.m ≤ 3) : x.σA 103 = 0 := by
  refine (ev (x := x) (i := 103) (by omega)).trans ?_
  unfold vA
  rw [if_neg (by omega), if_neg (by omega), if_neg (by omega), if_neg (by omega), if_neg (by omega), if_neg (by omega), if_neg (by omega), if_neg (by omega), if_neg (by omega), if_neg (by omega), if_neg (by omega), if_neg (by omega), if_neg (by omega), if_neg (by omega), if_neg (by omega), if_neg (by omega), if_neg (by omega)]
theorem n104 (hm : x.m ≤ 3) : x.σA 104 = ((x.m - (if x.kept then 0 else if x.m = 0 then 0 else 1) : Nat) : Int) := by
  refine (ev (x := x) (i := 104) (by omega)).trans ?_
  unfold vA
  rw [if_neg (by omega), if_neg (by omega), if_neg (by omega), if_neg (by omega), if_neg (by omega), if_neg (by omega), if_neg (by omega), if_neg (by omega), if_neg (by omega), if_neg (by omega), if_neg (by omega), if_neg (by omega), if_neg (by omega), if_neg (by omega), if_neg (by omega), if_pos rfl]
theorem n105 (hm : x.m ≤ 3) : x.σA 105 = 0 := by
  refine (ev (x := x) (i := 105) (by omega)).trans ?_
  unfold vA
  rw [if_neg (by omega), if_neg (by omega), if_neg (by omega), if_neg (by omega), if_neg (by omega), if_neg (by omega), if_neg (by omega), if_neg (by omega), if_neg (by omega), if_neg (by omega), if_neg (by omega), if_neg (by omega), if_neg (by omega), if_neg (by omega), if_neg (by omega), if_neg (by omega), if_neg (by omega)]
theorem n106 (hm : x.m ≤ 3) {i : Nat} (hi : i < 20) : x.σA (106 + i) = x.seenS i := by
  refine (ev (x := x) (i := 106 + i) (by omega)).trans ?_
  unfold vA
  rw [if_neg (by omega), if_neg (by omega), if_neg (by omega), if_neg (by omega), if_neg (by omega), if_neg (by omega), if_neg (by omega), if_neg (by omega), if_neg (by omega), if_neg (by omega), if_neg (by omega), if_neg (by omega), if_neg (by omega), if_neg (by omega), if_neg (by omega), if_neg (by omega), if_pos (by omega), show 106 + i - 106 = i by omega]
theorem seen_at {s j : Nat} (hj : j < 5) : x.seenS (5 * s + j) = if s = x.sl ∧ x.T = true then [(x.k : Int), x.k, 1, 1, 0].getD j 0 else if s < x.m then [((x.k - x.ow s : Nat) : Int), x.k, 0, 1, x.ow s].getD j 0 else 0 := by
  unfold seenS
  rw [show (5 * s + j) / 5 = s by omega, show (5 * s + j) % 5 = j by omega]
theorem slab_val (hm : x.m ≤ 3) {s : Nat} (hs : s < 4) : x.σA (106 + 5 * s) = (x.sbE s).counts.inuse ∧ x.σA (106 + 5 * s + 1) = (x.sbE s).counts.objects ∧ ((x.sbE s).counts.frozen = !(x.σA (106 + 5 * s + 2) == 0)) ∧ ((x.sbE s).counts.live = !(x.σA (106 + 5 * s + 3) == 0)) ∧ x.σA (106 + 5 * s + 4) = (x.sbE s).first.length := by
  have e : ∀ j, j < 5 → x.σA (106 + 5 * s + j) = x.seenS (5 * s + j) := fun j hj => by
    rw [Nat.add_assoc]
    exact n106 hm (by omega)
  have e0 : x.σA (106 + 5 * s) = x.seenS (5 * s + 0) := e 0 (by omega)
  rw [e0, e 1 (by omega), e 2 (by omega), e 3 (by omega), e 4 (by omega), seen_at (by omega), seen_at (by omega), seen_at (by omega), seen_at (by omega), seen_at (by omega)]
  unfold sbE
  by_cases hT : s = x.sl ∧ x.T = true
  · simp only [if_pos hT]
    exact ⟨rfl, rfl, rfl, rfl, rfl⟩
  · simp only [if_neg hT]
    by_cases hsm : s < x.m
    · simp only [if_pos hsm]
      refine ⟨rfl, rfl, rfl, rfl, ?_⟩
      rw [Back.upL_len, Nat.sub_zero]
      rfl
    · simp only [if_neg hsm]
      exact ⟨rfl, rfl, rfl, rfl, rfl⟩
theorem see_val (hm : x.m ≤ 3) : SeeValL x.σA x.coreE 1 4 100 := by
  refine ⟨⟨⟨?_, ?_, ?_, ?_⟩, trivial⟩, ⟨?_, ?_⟩, ⟨slab_val hm (s := 0) (by omega), slab_val hm (s := 1) (by omega), slab_val hm (s := 2) (by omega), slab_val hm (s := 3) (by omega), trivial⟩, by omega, by omega⟩
  · rw [n100 hm]
    unfold slE
    split <;> rfl
  · rw [show 100 + 1 = 101 from rfl, n101 hm]
    unfold slE
    split
    · rw [Back.upL_len]
    · rfl
  · rw [show 100 + 2 = 102 from rfl, n102 hm]
    unfold slE
    split <;> rfl
  · rw [show 100 + 3 = 103 from rfl, n103 hm]
    unfold slE
    split <;> rfl
  · rw [show 100 + 4 * 1 = 104 from rfl, n104 hm]
    show _ = ((Back.upL x.m x.tE).length : Int)
    rw [Back.upL_len]
    rfl
  · rw [show 100 + 4 * 1 + 1 = 105 from rfl, n105 hm]
    rfl
end
end Na
end Go.Proofs.YtcbljokbechppaaGreatDoor.Fa
