/-
  wainscotlaw24.FillAnswers, run by the kernel, question by question. No condition.
-/
import Derived.Test.YtcbljokbechppaaGreatDoorExFillWorks
namespace Go.Proofs.YtcbljokbechppaaGreatDoor.fillAnswers
open Go Ex
def args (b : Bool) : List AV := [.agg [.sym .i64 (.var 0), .sym .i64 (.var 1), .sym .i64 (.var 2), .sym .i64 (.var 3), .sym .i64 (.var 4), .sym .i64 (.var 5), .sym .i64 (.var 6), .sym .u64 (.var 7), .sym .u64 (.var 8), .sym .u64 (.var 9), .sym .u64 (.var 10), .sym .u64 (.var 11), .sym .i64 (.var 12), .sym .i64 (.var 13), .sym .i64 (.var 14), .sym .i64 (.var 15), .sym .i64 (.var 16)], .bool b, .sym .i64 (.var 17)]
def qe (i : Nat) (n : Int) : Cnd := .eq (.var i) (.lit n)
def dtB : DT := .node (.lt (.var 17) (.lit 0)) .leaf (.node (.lt (.var 17) (.lit 32)) .leaf .leaf)
def dt : DT := .node (qe 3 0) (.node (qe 4 1) dtB dtB) dtB
theorem runs_yes : tree Tryz.prog FillTab.gs [9] 30 3 (args true) dt [] = true := by kernel_rfl
theorem runs_no : tree Tryz.prog FillTab.gs [9] 30 3 (args false) dt [] = true := by kernel_rfl
theorem no_bad (σ : Nat → Int) : ¬ BadP σ dt := by
  simp [BadP, dt, dtB]
theorem walk (W : World) (hg : Tabs FillTab.gs W) (f0_0 f0_1 f0_2 f0_3 f0_4 f0_5 f0_6 f0_7 f0_8 f0_9 f0_10 f0_11 f0_12 f0_13 f0_14 f0_15 f0_16 : Int) (b : Bool) (n2 : Int) : Calls Tryz.prog 3 #[.agg #[.int .i64 f0_0, .int .i64 f0_1, .int .i64 f0_2, .int .i64 f0_3, .int .i64 f0_4, .int .i64 f0_5, .int .i64 f0_6, .int .u64 f0_7, .int .u64 f0_8, .int .u64 f0_9, .int .u64 f0_10, .int .u64 f0_11, .int .i64 f0_12, .int .i64 f0_13, .int .i64 f0_14, .int .i64 f0_15, .int .i64 f0_16], .bool b, .int .i64 n2] W fun e w' => e = .returned (.bool true) ∧ Own W [] w' := by
  have hr : tree Tryz.prog FillTab.gs [9] 30 3 (args b) dt [] = true := by
    cases b
    · exact runs_no
    · exact runs_yes
  have h := tree_calls (P := Tryz.prog) (args := args b) (args' := #[.agg #[.int .i64 f0_0, .int .i64 f0_1, .int .i64 f0_2, .int .i64 f0_3, .int .i64 f0_4, .int .i64 f0_5, .int .i64 f0_6, .int .u64 f0_7, .int .u64 f0_8, .int .u64 f0_9, .int .u64 f0_10, .int .u64 f0_11, .int .i64 f0_12, .int .i64 f0_13, .int .i64 f0_14, .int .i64 f0_15, .int .i64 f0_16], .bool b, .int .i64 n2]) (σ := fun i => [f0_0, f0_1, f0_2, f0_3, f0_4, f0_5, f0_6, f0_7, f0_8, f0_9, f0_10, f0_11, f0_12, f0_13, f0_14, f0_15, f0_16, n2].getD i 0) mixed fillWorks.ov
    (fun fs ok => by simp [args, VRs, VR, SE.ev]) dt [] (by simp) hr (no_bad _) W hg
  exact h.mono fun _ _ h => ⟨h.1, ⟨h.2, by simp, by simp⟩⟩
end Go.Proofs.YtcbljokbechppaaGreatDoor.fillAnswers
