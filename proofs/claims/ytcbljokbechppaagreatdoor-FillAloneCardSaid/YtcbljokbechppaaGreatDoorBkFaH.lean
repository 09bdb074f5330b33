import Derived.Test.YtcbljokbechppaaGreatDoorBkFaF
/-
  wainscotlaw24.FillAlone: what it asks of what it saw. No condition.
-/
namespace Go.Proofs.YtcbljokbechppaaGreatDoor.Fa
open Go Ex Mem See
open Go.RowKit
namespace Na
section
variable {x : Na} (h : x.Ok)
include h
theorem facts_See : ∀ q ∈ fSee x.m x.kept, q.1.ev x.σA = q.2 := by
  have hm := h.m
  have n : ∀ i (y : Int), x.σA i = y → (v i).ev x.σA = y := fun i y hy => hy
  intro q hq
  simp only [fSee, List.mem_append, List.mem_singleton] at hq
  rcases hq with rfl | hq
  · exact eq_t (n 105 0 (n105 hm)) (y := 0) rfl rfl
  · by_cases hT : x.T = true
    · rw [if_pos (show (x.kept || x.m != 0) = true from hT)] at hq
      have es : (if x.kept = true then (3 : Nat) else 0) = x.sl := rfl
      rw [es] at hq
      have ss : ∀ j, j < 5 → x.σA (106 + 5 * x.sl + j) = [(x.k : Int), x.k, 1, 1, 0].getD j 0 := fun j hj => by
        have hsl := sl_lt (x := x)
        rw [Nat.add_assoc, n106 hm (by omega), seen_at hj, if_pos ⟨rfl, hT⟩]
      simp only [List.mem_cons, List.not_mem_nil, or_false] at hq
      have ho := h.ow x.sl
      have hk := k16 h
      rcases hq with rfl | rfl | rfl | rfl | rfl | rfl | rfl | rfl | rfl | rfl | rfl | rfl
      · rfl
      · rfl
      · exact eq_t (obj_ev h hT) (y := 0) rfl rfl
      · exact eq_t (n 100 _ (n100 hm)) (y := (x.sl : Int)) rfl (by rw [if_pos hT])
      · refine eq_t (n 101 _ (n101 hm)) (y := (x.ow x.sl : Int) - 1) ?_ (by rw [if_pos hT]; omega)
        show IntKind.i64.wrap ((ownE x.sl).ev x.σA - 1) = _
        rw [own_ev h sl_lt, i64_small (by omega) (by omega)]
      · exact eq_t (n 103 0 (n103 hm)) (y := 0) rfl rfl
      · refine eq_t (n 104 _ (n104 hm)) (y := ((if x.kept then x.m else x.m - 1 : Nat) : Int)) rfl ?_
        rcases T_cases hT with hk | ⟨hk, h0⟩
        · rw [hk]; rfl
        · rw [hk]
          simp only [Bool.false_eq_true, if_false, if_neg h0]
      · exact eq_t (n _ _ (show x.σA (110 + 5 * x.sl) = 0 by rw [show 110 + 5 * x.sl = 106 + 5 * x.sl + 4 by omega]; exact ss 4 (by omega))) (y := 0) rfl rfl
      · exact eq_t (n _ _ (show x.σA (106 + 5 * x.sl) = x.k from ss 0 (by omega))) (yk h) rfl
      · exact eq_t (n _ _ (show x.σA (107 + 5 * x.sl) = x.k by rw [show 107 + 5 * x.sl = 106 + 5 * x.sl + 1 by omega]; exact ss 1 (by omega))) (yk h) rfl
      · exact eq_f (n _ _ (show x.σA (108 + 5 * x.sl) = 1 by rw [show 108 + 5 * x.sl = 106 + 5 * x.sl + 2 by omega]; exact ss 2 (by omega))) (y := 0) rfl (by omega)
      · exact eq_f (n _ _ (show x.σA (109 + 5 * x.sl) = 1 by rw [show 109 + 5 * x.sl = 106 + 5 * x.sl + 3 by omega]; exact ss 3 (by omega))) (y := 0) rfl (by omega)
    · rw [if_neg (show ¬ (x.kept || x.m != 0) = true from hT)] at hq
      cases hq
end
end Na
end Go.Proofs.YtcbljokbechppaaGreatDoor.Fa
