import Derived.Test.YtcbljokbechppaaGreatDoorBkFaE
/-
  wainscotlaw24.FillAlone: the runs of slabbed. No condition.
-/
namespace Go.Proofs.YtcbljokbechppaaGreatDoor.Fa
open Go Ex
theorem runSc_23_3 : runS1 23 3 (contS 3) (fSc 3) = true := by kernel_rfl
theorem runSo_23_3 : runS1 23 3 outS fSo = true := by kernel_rfl
theorem runS_23_3 : runS 23 3 true = true := by kernel_rfl
theorem runSc_25_0 : runS1 25 0 (contS 0) (fSc 0) = true := by kernel_rfl
theorem runSo_25_0 : runS1 25 0 outS fSo = true := by kernel_rfl
theorem runS_25_0 : runS 25 0 false = true := by kernel_rfl
theorem runSc_25_3 : runS1 25 3 (contS 3) (fSc 3) = true := by kernel_rfl
theorem runSo_25_3 : runS1 25 3 outS fSo = true := by kernel_rfl
theorem runS_25_3 : runS 25 3 true = true := by kernel_rfl
theorem runSc_27_0 : runS1 27 0 (contS 0) (fSc 0) = true := by kernel_rfl
theorem runSo_27_0 : runS1 27 0 outS fSo = true := by kernel_rfl
theorem runS_27_0 : runS 27 0 false = true := by kernel_rfl
theorem runSc_27_1 : runS1 27 1 (contS 1) (fSc 1) = true := by kernel_rfl
theorem runSo_27_1 : runS1 27 1 outS fSo = true := by kernel_rfl
theorem runS_27_1 : runS 27 1 false = true := by kernel_rfl
theorem runSc_27_3 : runS1 27 3 (contS 3) (fSc 3) = true := by kernel_rfl
theorem runSo_27_3 : runS1 27 3 outS fSo = true := by kernel_rfl
theorem runS_27_3 : runS 27 3 true = true := by kernel_rfl
theorem runSc_29_0 : runS1 29 0 (contS 0) (fSc 0) = true := by kernel_rfl
theorem runSo_29_0 : runS1 29 0 outS fSo = true := by kernel_rfl
theorem runS_29_0 : runS 29 0 false = true := by kernel_rfl
theorem runSc_29_1 : runS1 29 1 (contS 1) (fSc 1) = true := by kernel_rfl
theorem runSo_29_1 : runS1 29 1 outS fSo = true := by kernel_rfl
theorem runS_29_1 : runS 29 1 false = true := by kernel_rfl
theorem runSc_29_2 : runS1 29 2 (contS 2) (fSc 2) = true := by kernel_rfl
theorem runSo_29_2 : runS1 29 2 outS fSo = true := by kernel_rfl
theorem runS_29_2 : runS 29 2 false = true := by kernel_rfl
theorem runSc_29_3 : runS1 29 3 (contS 3) (fSc 3) = true := by kernel_rfl
theorem runSo_29_3 : runS1 29 3 outS fSo = true := by kernel_rfl
theorem runS_29_3 : runS 29 3 true = true := by kernel_rfl
theorem runs_slab : ∀ (m s : Nat) (kp : Bool), m ≤ 3 → (if kp then s = 3 else s < m) → runS1 (memN m) s (contS s) (fSc s) = true ∧ runS1 (memN m) s outS fSo = true ∧ runS (memN m) s kp = true
  | 0, 3, true, _, _ => ⟨runSc_23_3, runSo_23_3, runS_23_3⟩
  | 1, 3, true, _, _ => ⟨runSc_25_3, runSo_25_3, runS_25_3⟩
  | 1, 0, false, _, _ => ⟨runSc_25_0, runSo_25_0, runS_25_0⟩
  | 2, 3, true, _, _ => ⟨runSc_27_3, runSo_27_3, runS_27_3⟩
  | 2, 0, false, _, _ => ⟨runSc_27_0, runSo_27_0, runS_27_0⟩
  | 2, 1, false, _, _ => ⟨runSc_27_1, runSo_27_1, runS_27_1⟩
  | 3, 3, true, _, _ => ⟨runSc_29_3, runSo_29_3, runS_29_3⟩
  | 3, 0, false, _, _ => ⟨runSc_29_0, runSo_29_0, runS_29_0⟩
  | 3, 1, false, _, _ => ⟨runSc_29_1, runSo_29_1, runS_29_1⟩
  | 3, 2, false, _, _ => ⟨runSc_29_2, runSo_29_2, runS_29_2⟩
  | m + 4, _, _, h, _ => absurd h (by omega)
  | 0, 0, true, _, h => absurd h (by simp)
  | 0, 1, true, _, h => absurd h (by simp)
  | 0, 2, true, _, h => absurd h (by simp)
  | 0, s + 4, true, _, h => absurd h (by simp)
  | 0, s + 0, false, _, h => absurd h (by simp)
  | 1, 0, true, _, h => absurd h (by simp)
  | 1, 1, true, _, h => absurd h (by simp)
  | 1, 2, true, _, h => absurd h (by simp)
  | 1, s + 4, true, _, h => absurd h (by simp)
  | 1, s + 1, false, _, h => absurd h (by simp)
  | 2, 0, true, _, h => absurd h (by simp)
  | 2, 1, true, _, h => absurd h (by simp)
  | 2, 2, true, _, h => absurd h (by simp)
  | 2, s + 4, true, _, h => absurd h (by simp)
  | 2, s + 2, false, _, h => absurd h (by simp)
  | 3, 0, true, _, h => absurd h (by simp)
  | 3, 1, true, _, h => absurd h (by simp)
  | 3, 2, true, _, h => absurd h (by simp)
  | 3, s + 4, true, _, h => absurd h (by simp)
  | 3, s + 3, false, _, h => absurd h (by simp)
end Go.Proofs.YtcbljokbechppaaGreatDoor.Fa
