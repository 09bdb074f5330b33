import Derived.Test.YtcbljokbechppaaGreatDoorBkFilRb
import Derived.Test.YtcbljokbechppaaGreatDoorBkFilRc
import Derived.Test.YtcbljokbechppaaGreatDoorBkFilRd
/-
  wainscotlaw24.FillApart: the runs of its whole text, all. No condition.
-/
namespace Go.Proofs.YtcbljokbechppaaGreatDoor.Fil
open Go Ex
theorem run0_ok : ∀ n k : Nat, 1 ≤ n → n ≤ 6 → k ≤ 6 → run0 n k = true
  | 1, 0, _, _, _ => run0_1_0
  | 1, 1, _, _, _ => run0_1_1
  | 1, 2, _, _, _ => run0_1_2
  | 1, 3, _, _, _ => run0_1_3
  | 1, 4, _, _, _ => run0_1_4
  | 1, 5, _, _, _ => run0_1_5
  | 1, 6, _, _, _ => run0_1_6
  | 2, 0, _, _, _ => run0_2_0
  | 2, 1, _, _, _ => run0_2_1
  | 2, 2, _, _, _ => run0_2_2
  | 2, 3, _, _, _ => run0_2_3
  | 2, 4, _, _, _ => run0_2_4
  | 2, 5, _, _, _ => run0_2_5
  | 2, 6, _, _, _ => run0_2_6
  | 3, 0, _, _, _ => run0_3_0
  | 3, 1, _, _, _ => run0_3_1
  | 3, 2, _, _, _ => run0_3_2
  | 3, 3, _, _, _ => run0_3_3
  | 3, 4, _, _, _ => run0_3_4
  | 3, 5, _, _, _ => run0_3_5
  | 3, 6, _, _, _ => run0_3_6
  | 4, 0, _, _, _ => run0_4_0
  | 4, 1, _, _, _ => run0_4_1
  | 4, 2, _, _, _ => run0_4_2
  | 4, 3, _, _, _ => run0_4_3
  | 4, 4, _, _, _ => run0_4_4
  | 4, 5, _, _, _ => run0_4_5
  | 4, 6, _, _, _ => run0_4_6
  | 5, 0, _, _, _ => run0_5_0
  | 5, 1, _, _, _ => run0_5_1
  | 5, 2, _, _, _ => run0_5_2
  | 5, 3, _, _, _ => run0_5_3
  | 5, 4, _, _, _ => run0_5_4
  | 5, 5, _, _, _ => run0_5_5
  | 5, 6, _, _, _ => run0_5_6
  | 6, 0, _, _, _ => run0_6_0
  | 6, 1, _, _, _ => run0_6_1
  | 6, 2, _, _, _ => run0_6_2
  | 6, 3, _, _, _ => run0_6_3
  | 6, 4, _, _, _ => run0_6_4
  | 6, 5, _, _, _ => run0_6_5
  | 6, 6, _, _, _ => run0_6_6
  | 0, _, h, _, _ => absurd h (by omega)
  | n + 7, _, _, h, _ => absurd h (by omega)
  | 1, k + 7, _, _, h => absurd h (by omega)
  | 2, k + 7, _, _, h => absurd h (by omega)
  | 3, k + 7, _, _, h => absurd h (by omega)
  | 4, k + 7, _, _, h => absurd h (by omega)
  | 5, k + 7, _, _, h => absurd h (by omega)
  | 6, k + 7, _, _, h => absurd h (by omega)
end Go.Proofs.YtcbljokbechppaaGreatDoor.Fil
