import Derived.Test.YtcbljokbechppaaGreatDoorBkFilE
/-
  wainscotlaw24.FillApart: the runs of its loops. No condition.
-/
namespace Go.Proofs.YtcbljokbechppaaGreatDoor.Fil
open Go Ex
theorem run2_1_0 : run2 1 0 = true := by kernel_rfl
theorem run2_1_1 : run2 1 1 = true := by kernel_rfl
theorem run2_1_2 : run2 1 2 = true := by kernel_rfl
theorem run2_1_3 : run2 1 3 = true := by kernel_rfl
theorem run2_1_4 : run2 1 4 = true := by kernel_rfl
theorem run2_1_5 : run2 1 5 = true := by kernel_rfl
theorem run2_1_6 : run2 1 6 = true := by kernel_rfl
theorem run2_2_0 : run2 2 0 = true := by kernel_rfl
theorem run2_2_1 : run2 2 1 = true := by kernel_rfl
theorem run2_2_2 : run2 2 2 = true := by kernel_rfl
theorem run2_2_3 : run2 2 3 = true := by kernel_rfl
theorem run2_2_4 : run2 2 4 = true := by kernel_rfl
theorem run2_2_5 : run2 2 5 = true := by kernel_rfl
theorem run2_2_6 : run2 2 6 = true := by kernel_rfl
theorem run2_3_0 : run2 3 0 = true := by kernel_rfl
theorem run2_3_1 : run2 3 1 = true := by kernel_rfl
theorem run2_3_2 : run2 3 2 = true := by kernel_rfl
theorem run2_3_3 : run2 3 3 = true := by kernel_rfl
theorem run2_3_4 : run2 3 4 = true := by kernel_rfl
theorem run2_3_5 : run2 3 5 = true := by kernel_rfl
theorem run2_3_6 : run2 3 6 = true := by kernel_rfl
theorem run2_4_0 : run2 4 0 = true := by kernel_rfl
theorem run2_4_1 : run2 4 1 = true := by kernel_rfl
theorem run2_4_2 : run2 4 2 = true := by kernel_rfl
theorem run2_4_3 : run2 4 3 = true := by kernel_rfl
theorem run2_4_4 : run2 4 4 = true := by kernel_rfl
theorem run2_4_5 : run2 4 5 = true := by kernel_rfl
theorem run2_4_6 : run2 4 6 = true := by kernel_rfl
theorem run2_5_0 : run2 5 0 = true := by kernel_rfl
theorem run2_5_1 : run2 5 1 = true := by kernel_rfl
theorem run2_5_2 : run2 5 2 = true := by kernel_rfl
theorem run2_5_3 : run2 5 3 = true := by kernel_rfl
theorem run2_5_4 : run2 5 4 = true := by kernel_rfl
theorem run2_5_5 : run2 5 5 = true := by kernel_rfl
theorem run2_5_6 : run2 5 6 = true := by kernel_rfl
theorem run2_6_0 : run2 6 0 = true := by kernel_rfl
theorem run2_6_1 : run2 6 1 = true := by kernel_rfl
theorem run2_6_2 : run2 6 2 = true := by kernel_rfl
theorem run2_6_3 : run2 6 3 = true := by kernel_rfl
theorem run2_6_4 : run2 6 4 = true := by kernel_rfl
theorem run2_6_5 : run2 6 5 = true := by kernel_rfl
theorem run2_6_6 : run2 6 6 = true := by kernel_rfl
theorem run2_ok : ∀ n k : Nat, 1 ≤ n → n ≤ 6 → k ≤ 6 → run2 n k = true
  | 1, 0, _, _, _ => run2_1_0
  | 1, 1, _, _, _ => run2_1_1
  | 1, 2, _, _, _ => run2_1_2
  | 1, 3, _, _, _ => run2_1_3
  | 1, 4, _, _, _ => run2_1_4
  | 1, 5, _, _, _ => run2_1_5
  | 1, 6, _, _, _ => run2_1_6
  | 2, 0, _, _, _ => run2_2_0
  | 2, 1, _, _, _ => run2_2_1
  | 2, 2, _, _, _ => run2_2_2
  | 2, 3, _, _, _ => run2_2_3
  | 2, 4, _, _, _ => run2_2_4
  | 2, 5, _, _, _ => run2_2_5
  | 2, 6, _, _, _ => run2_2_6
  | 3, 0, _, _, _ => run2_3_0
  | 3, 1, _, _, _ => run2_3_1
  | 3, 2, _, _, _ => run2_3_2
  | 3, 3, _, _, _ => run2_3_3
  | 3, 4, _, _, _ => run2_3_4
  | 3, 5, _, _, _ => run2_3_5
  | 3, 6, _, _, _ => run2_3_6
  | 4, 0, _, _, _ => run2_4_0
  | 4, 1, _, _, _ => run2_4_1
  | 4, 2, _, _, _ => run2_4_2
  | 4, 3, _, _, _ => run2_4_3
  | 4, 4, _, _, _ => run2_4_4
  | 4, 5, _, _, _ => run2_4_5
  | 4, 6, _, _, _ => run2_4_6
  | 5, 0, _, _, _ => run2_5_0
  | 5, 1, _, _, _ => run2_5_1
  | 5, 2, _, _, _ => run2_5_2
  | 5, 3, _, _, _ => run2_5_3
  | 5, 4, _, _, _ => run2_5_4
  | 5, 5, _, _, _ => run2_5_5
  | 5, 6, _, _, _ => run2_5_6
  | 6, 0, _, _, _ => run2_6_0
  | 6, 1, _, _, _ => run2_6_1
  | 6, 2, _, _, _ => run2_6_2
  | 6, 3, _, _, _ => run2_6_3
  | 6, 4, _, _, _ => run2_6_4
  | 6, 5, _, _, _ => run2_6_5
  | 6, 6, _, _, _ => run2_6_6
  | 0, _, h, _, _ => absurd h (by omega)
  | n + 7, _, _, h, _ => absurd h (by omega)
  | 1, k + 7, _, _, h => absurd h (by omega)
  | 2, k + 7, _, _, h => absurd h (by omega)
  | 3, k + 7, _, _, h => absurd h (by omega)
  | 4, k + 7, _, _, h => absurd h (by omega)
  | 5, k + 7, _, _, h => absurd h (by omega)
  | 6, k + 7, _, _, h => absurd h (by omega)
theorem run4_1_0 : run4 1 0 = true := by kernel_rfl
theorem run4_1_1 : run4 1 1 = true := by kernel_rfl
theorem run4_1_2 : run4 1 2 = true := by kernel_rfl
theorem run4_1_3 : run4 1 3 = true := by kernel_rfl
theorem run4_1_4 : run4 1 4 = true := by kernel_rfl
theorem run4_1_5 : run4 1 5 = true := by kernel_rfl
theorem run4_1_6 : run4 1 6 = true := by kernel_rfl
theorem run4_2_0 : run4 2 0 = true := by kernel_rfl
theorem run4_2_1 : run4 2 1 = true := by kernel_rfl
theorem run4_2_2 : run4 2 2 = true := by kernel_rfl
theorem run4_2_3 : run4 2 3 = true := by kernel_rfl
theorem run4_2_4 : run4 2 4 = true := by kernel_rfl
theorem run4_2_5 : run4 2 5 = true := by kernel_rfl
theorem run4_2_6 : run4 2 6 = true := by kernel_rfl
theorem run4_3_0 : run4 3 0 = true := by kernel_rfl
theorem run4_3_1 : run4 3 1 = true := by kernel_rfl
theorem run4_3_2 : run4 3 2 = true := by kernel_rfl
theorem run4_3_3 : run4 3 3 = true := by kernel_rfl
theorem run4_3_4 : run4 3 4 = true := by kernel_rfl
theorem run4_3_5 : run4 3 5 = true := by kernel_rfl
theorem run4_3_6 : run4 3 6 = true := by kernel_rfl
theorem run4_4_0 : run4 4 0 = true := by kernel_rfl
theorem run4_4_1 : run4 4 1 = true := by kernel_rfl
theorem run4_4_2 : run4 4 2 = true := by kernel_rfl
theorem run4_4_3 : run4 4 3 = true := by kernel_rfl
theorem run4_4_4 : run4 4 4 = true := by kernel_rfl
theorem run4_4_5 : run4 4 5 = true := by kernel_rfl
theorem run4_4_6 : run4 4 6 = true := by kernel_rfl
theorem run4_5_0 : run4 5 0 = true := by kernel_rfl
theorem run4_5_1 : run4 5 1 = true := by kernel_rfl
theorem run4_5_2 : run4 5 2 = true := by kernel_rfl
theorem run4_5_3 : run4 5 3 = true := by kernel_rfl
theorem run4_5_4 : run4 5 4 = true := by kernel_rfl
theorem run4_5_5 : run4 5 5 = true := by kernel_rfl
theorem run4_5_6 : run4 5 6 = true := by kernel_rfl
theorem run4_6_0 : run4 6 0 = true := by kernel_rfl
theorem run4_6_1 : run4 6 1 = true := by kernel_rfl
theorem run4_6_2 : run4 6 2 = true := by kernel_rfl
theorem run4_6_3 : run4 6 3 = true := by kernel_rfl
theorem run4_6_4 : run4 6 4 = true := by kernel_rfl
theorem run4_6_5 : run4 6 5 = true := by kernel_rfl
theorem run4_6_6 : run4 6 6 = true := by kernel_rfl
theorem run4_ok : ∀ n k : Nat, 1 ≤ n → n ≤ 6 → k ≤ 6 → run4 n k = true
  | 1, 0, _, _, _ => run4_1_0
  | 1, 1, _, _, _ => run4_1_1
  | 1, 2, _, _, _ => run4_1_2
  | 1, 3, _, _, _ => run4_1_3
  | 1, 4, _, _, _ => run4_1_4
  | 1, 5, _, _, _ => run4_1_5
  | 1, 6, _, _, _ => run4_1_6
  | 2, 0, _, _, _ => run4_2_0
  | 2, 1, _, _, _ => run4_2_1
  | 2, 2, _, _, _ => run4_2_2
  | 2, 3, _, _, _ => run4_2_3
  | 2, 4, _, _, _ => run4_2_4
  | 2, 5, _, _, _ => run4_2_5
  | 2, 6, _, _, _ => run4_2_6
  | 3, 0, _, _, _ => run4_3_0
  | 3, 1, _, _, _ => run4_3_1
  | 3, 2, _, _, _ => run4_3_2
  | 3, 3, _, _, _ => run4_3_3
  | 3, 4, _, _, _ => run4_3_4
  | 3, 5, _, _, _ => run4_3_5
  | 3, 6, _, _, _ => run4_3_6
  | 4, 0, _, _, _ => run4_4_0
  | 4, 1, _, _, _ => run4_4_1
  | 4, 2, _, _, _ => run4_4_2
  | 4, 3, _, _, _ => run4_4_3
  | 4, 4, _, _, _ => run4_4_4
  | 4, 5, _, _, _ => run4_4_5
  | 4, 6, _, _, _ => run4_4_6
  | 5, 0, _, _, _ => run4_5_0
  | 5, 1, _, _, _ => run4_5_1
  | 5, 2, _, _, _ => run4_5_2
  | 5, 3, _, _, _ => run4_5_3
  | 5, 4, _, _, _ => run4_5_4
  | 5, 5, _, _, _ => run4_5_5
  | 5, 6, _, _, _ => run4_5_6
  | 6, 0, _, _, _ => run4_6_0
  | 6, 1, _, _, _ => run4_6_1
  | 6, 2, _, _, _ => run4_6_2
  | 6, 3, _, _, _ => run4_6_3
  | 6, 4, _, _, _ => run4_6_4
  | 6, 5, _, _, _ => run4_6_5
  | 6, 6, _, _, _ => run4_6_6
  | 0, _, h, _, _ => absurd h (by omega)
  | n + 7, _, _, h, _ => absurd h (by omega)
  | 1, k + 7, _, _, h => absurd h (by omega)
  | 2, k + 7, _, _, h => absurd h (by omega)
  | 3, k + 7, _, _, h => absurd h (by omega)
  | 4, k + 7, _, _, h => absurd h (by omega)
  | 5, k + 7, _, _, h => absurd h (by omega)
  | 6, k + 7, _, _, h => absurd h (by omega)
theorem run5_1_0 : run5 1 0 = true := by kernel_rfl
theorem run5_1_1 : run5 1 1 = true := by kernel_rfl
theorem run5_1_2 : run5 1 2 = true := by kernel_rfl
theorem run5_1_3 : run5 1 3 = true := by kernel_rfl
theorem run5_1_4 : run5 1 4 = true := by kernel_rfl
theorem run5_1_5 : run5 1 5 = true := by kernel_rfl
theorem run5_1_6 : run5 1 6 = true := by kernel_rfl
theorem run5_2_0 : run5 2 0 = true := by kernel_rfl
theorem run5_2_1 : run5 2 1 = true := by kernel_rfl
theorem run5_2_2 : run5 2 2 = true := by kernel_rfl
theorem run5_2_3 : run5 2 3 = true := by kernel_rfl
theorem run5_2_4 : run5 2 4 = true := by kernel_rfl
theorem run5_2_5 : run5 2 5 = true := by kernel_rfl
theorem run5_2_6 : run5 2 6 = true := by kernel_rfl
theorem run5_3_0 : run5 3 0 = true := by kernel_rfl
theorem run5_3_1 : run5 3 1 = true := by kernel_rfl
theorem run5_3_2 : run5 3 2 = true := by kernel_rfl
theorem run5_3_3 : run5 3 3 = true := by kernel_rfl
theorem run5_3_4 : run5 3 4 = true := by kernel_rfl
theorem run5_3_5 : run5 3 5 = true := by kernel_rfl
theorem run5_3_6 : run5 3 6 = true := by kernel_rfl
theorem run5_4_0 : run5 4 0 = true := by kernel_rfl
theorem run5_4_1 : run5 4 1 = true := by kernel_rfl
theorem run5_4_2 : run5 4 2 = true := by kernel_rfl
theorem run5_4_3 : run5 4 3 = true := by kernel_rfl
theorem run5_4_4 : run5 4 4 = true := by kernel_rfl
theorem run5_4_5 : run5 4 5 = true := by kernel_rfl
theorem run5_4_6 : run5 4 6 = true := by kernel_rfl
theorem run5_5_0 : run5 5 0 = true := by kernel_rfl
theorem run5_5_1 : run5 5 1 = true := by kernel_rfl
theorem run5_5_2 : run5 5 2 = true := by kernel_rfl
theorem run5_5_3 : run5 5 3 = true := by kernel_rfl
theorem run5_5_4 : run5 5 4 = true := by kernel_rfl
theorem run5_5_5 : run5 5 5 = true := by kernel_rfl
theorem run5_5_6 : run5 5 6 = true := by kernel_rfl
theorem run5_6_0 : run5 6 0 = true := by kernel_rfl
theorem run5_6_1 : run5 6 1 = true := by kernel_rfl
theorem run5_6_2 : run5 6 2 = true := by kernel_rfl
theorem run5_6_3 : run5 6 3 = true := by kernel_rfl
theorem run5_6_4 : run5 6 4 = true := by kernel_rfl
theorem run5_6_5 : run5 6 5 = true := by kernel_rfl
theorem run5_6_6 : run5 6 6 = true := by kernel_rfl
theorem run5_ok : ∀ n k : Nat, 1 ≤ n → n ≤ 6 → k ≤ 6 → run5 n k = true
  | 1, 0, _, _, _ => run5_1_0
  | 1, 1, _, _, _ => run5_1_1
  | 1, 2, _, _, _ => run5_1_2
  | 1, 3, _, _, _ => run5_1_3
  | 1, 4, _, _, _ => run5_1_4
  | 1, 5, _, _, _ => run5_1_5
  | 1, 6, _, _, _ => run5_1_6
  | 2, 0, _, _, _ => run5_2_0
  | 2, 1, _, _, _ => run5_2_1
  | 2, 2, _, _, _ => run5_2_2
  | 2, 3, _, _, _ => run5_2_3
  | 2, 4, _, _, _ => run5_2_4
  | 2, 5, _, _, _ => run5_2_5
  | 2, 6, _, _, _ => run5_2_6
  | 3, 0, _, _, _ => run5_3_0
  | 3, 1, _, _, _ => run5_3_1
  | 3, 2, _, _, _ => run5_3_2
  | 3, 3, _, _, _ => run5_3_3
  | 3, 4, _, _, _ => run5_3_4
  | 3, 5, _, _, _ => run5_3_5
  | 3, 6, _, _, _ => run5_3_6
  | 4, 0, _, _, _ => run5_4_0
  | 4, 1, _, _, _ => run5_4_1
  | 4, 2, _, _, _ => run5_4_2
  | 4, 3, _, _, _ => run5_4_3
  | 4, 4, _, _, _ => run5_4_4
  | 4, 5, _, _, _ => run5_4_5
  | 4, 6, _, _, _ => run5_4_6
  | 5, 0, _, _, _ => run5_5_0
  | 5, 1, _, _, _ => run5_5_1
  | 5, 2, _, _, _ => run5_5_2
  | 5, 3, _, _, _ => run5_5_3
  | 5, 4, _, _, _ => run5_5_4
  | 5, 5, _, _, _ => run5_5_5
  | 5, 6, _, _, _ => run5_5_6
  | 6, 0, _, _, _ => run5_6_0
  | 6, 1, _, _, _ => run5_6_1
  | 6, 2, _, _, _ => run5_6_2
  | 6, 3, _, _, _ => run5_6_3
  | 6, 4, _, _, _ => run5_6_4
  | 6, 5, _, _, _ => run5_6_5
  | 6, 6, _, _, _ => run5_6_6
  | 0, _, h, _, _ => absurd h (by omega)
  | n + 7, _, _, h, _ => absurd h (by omega)
  | 1, k + 7, _, _, h => absurd h (by omega)
  | 2, k + 7, _, _, h => absurd h (by omega)
  | 3, k + 7, _, _, h => absurd h (by omega)
  | 4, k + 7, _, _, h => absurd h (by omega)
  | 5, k + 7, _, _, h => absurd h (by omega)
  | 6, k + 7, _, _, h => absurd h (by omega)
end Go.Proofs.YtcbljokbechppaaGreatDoor.Fil
