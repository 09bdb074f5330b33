import Derived.Test.YtcbljokbechppaaGreatDoorBkFaRb
import Derived.Test.YtcbljokbechppaaGreatDoorBkFaRc
import Derived.Test.YtcbljokbechppaaGreatDoorBkFaRd
/-
  wainscotlaw24.FillAlone: the runs of its whole text, all. No condition.
-/
namespace Go.Proofs.YtcbljokbechppaaGreatDoor.Fa
open Go Ex
theorem runA_ok : ∀ (m : Nat) (kp b : Bool), m ≤ 3 → runA m kp (b || m != 3) = true
  | 0, true, true, _ => runA_0_true_true
  | 0, true, false, _ => runA_0_true_true
  | 0, false, true, _ => runA_0_false_true
  | 0, false, false, _ => runA_0_false_true
  | 1, true, true, _ => runA_1_true_true
  | 1, true, false, _ => runA_1_true_true
  | 1, false, true, _ => runA_1_false_true
  | 1, false, false, _ => runA_1_false_true
  | 2, true, true, _ => runA_2_true_true
  | 2, true, false, _ => runA_2_true_true
  | 2, false, true, _ => runA_2_false_true
  | 2, false, false, _ => runA_2_false_true
  | 3, true, true, _ => runA_3_true_true
  | 3, true, false, _ => runA_3_true_false
  | 3, false, true, _ => runA_3_false_true
  | 3, false, false, _ => runA_3_false_false
  | m + 4, _, _, h => absurd h (by omega)
end Go.Proofs.YtcbljokbechppaaGreatDoor.Fa
