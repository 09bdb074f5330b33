import Derived.Test.YtcbljokbechppaaGreatDoorBkFilE
/-
  wainscotlaw24.FillApart: the chapter's examples. No condition.
-/
namespace Go.Proofs.YtcbljokbechppaaGreatDoor.Fil
open Go Ex
theorem runWorks : treeC Tryz.prog FillTab.gs rk40 (kgs []) [] 30 9 [] ⟨[], [], ⟨0, 0, 0, 0⟩⟩ (kcWorks.leaf {}) [] = true := by kernel_rfl
theorem fn_works : FnOk Tryz.prog 9 := ⟨Tryz.f9, _, Tryz.func9, by kernel_rfl, rfl⟩
end Go.Proofs.YtcbljokbechppaaGreatDoor.Fil
