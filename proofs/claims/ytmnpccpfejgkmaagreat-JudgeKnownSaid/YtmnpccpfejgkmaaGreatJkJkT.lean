import Derived.Test.YtmnpccpfejgkmaaGreatJkJkE
/-
  wainscotlaw30.JudgeKnown: JudgeTorn at one input, and the text around the loop. No condition.
-/
namespace Go.Proofs.YtmnpccpfejgkmaaGreat.Jk
open Go Ex
theorem runT : treeC Tryz.prog [] [] kcs0 [] 40 11 [.int .i64 4, .int .i64 3, .int .i64 2] ⟨[], [], ⟨0, 0, 0, 0⟩⟩ okT [] = true := by kernel_rfl
theorem run0 : treeC Tryz.prog [] [] kcs1 [L1] 40 3 [] ⟨[], [], ⟨0, 0, 0, 0⟩⟩ okT [] = true := by kernel_rfl
end Go.Proofs.YtmnpccpfejgkmaaGreat.Jk
