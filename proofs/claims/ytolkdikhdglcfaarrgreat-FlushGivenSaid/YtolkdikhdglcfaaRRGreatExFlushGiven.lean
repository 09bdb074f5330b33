/-
  wainscotlaw25.FlushGiven, run by the kernel, question by question. No condition.
-/
import Derived.Test.YtolkdikhdglcfaaRRGreatExFlushWorks
namespace Go.Proofs.YtolkdikhdglcfaaRRGreat.flushGiven
open Go Ex
def args : List AV := [.agg [.sym .i64 (.var 0), .sym .i64 (.var 1), .sym .i64 (.var 2), .sym .i64 (.var 3), .sym .i64 (.var 4), .sym .i64 (.var 5), .sym .i64 (.var 6), .sym .u64 (.var 7), .sym .u64 (.var 8), .sym .u64 (.var 9), .sym .u64 (.var 10), .sym .u64 (.var 11), .sym .i64 (.var 12), .sym .i64 (.var 13), .sym .i64 (.var 14), .sym .i64 (.var 15), .sym .i64 (.var 16)]]
def qe (i : Nat) (n : Int) : Cnd := .eq (.var i) (.lit n)
def dtB : DT := .node (qe 15 79) .leaf (.node (qe 15 73) .leaf (.node (qe 15 95) .leaf (.node (qe 15 0) .leaf .leaf)))
def dtA : DT := .node (qe 3 0) (.node (qe 4 2) dtB .leaf) .leaf
def dt : DT := .node (qe 7 0) dtA dtA
theorem runs_all : tree Tryz.prog [6] 30 3 args dt [] = true := by kernel_rfl
theorem no_bad (σ : Nat → Int) : ¬ BadP σ dt := by
  simp [BadP, dt, dtA, dtB]
theorem walk (W : World) (f0_0 f0_1 f0_2 f0_3 f0_4 f0_5 f0_6 f0_7 f0_8 f0_9 f0_10 f0_11 f0_12 f0_13 f0_14 f0_15 f0_16 : Int) : Calls Tryz.prog 3 #[.agg #[.int .i64 f0_0, .int .i64 f0_1, .int .i64 f0_2, .int .i64 f0_3, .int .i64 f0_4, .int .i64 f0_5, .int .i64 f0_6, .int .u64 f0_7, .int .u64 f0_8, .int .u64 f0_9, .int .u64 f0_10, .int .u64 f0_11, .int .i64 f0_12, .int .i64 f0_13, .int .i64 f0_14, .int .i64 f0_15, .int .i64 f0_16]] W fun e w' => e = .returned (.bool true) ∧ Own W [] w' := by
  have h := tree_calls (P := Tryz.prog) (args := args) (args' := #[.agg #[.int .i64 f0_0, .int .i64 f0_1, .int .i64 f0_2, .int .i64 f0_3, .int .i64 f0_4, .int .i64 f0_5, .int .i64 f0_6, .int .u64 f0_7, .int .u64 f0_8, .int .u64 f0_9, .int .u64 f0_10, .int .u64 f0_11, .int .i64 f0_12, .int .i64 f0_13, .int .i64 f0_14, .int .i64 f0_15, .int .i64 f0_16]]) (σ := fun i => [f0_0, f0_1, f0_2, f0_3, f0_4, f0_5, f0_6, f0_7, f0_8, f0_9, f0_10, f0_11, f0_12, f0_13, f0_14, f0_15, f0_16].getD i 0) mixed (flushWorks.ov)
    (fun fs ok => by simp [args, VRs, VR, SE.ev]) dt [] (by simp) runs_all (no_bad _) W
  exact h.mono fun _ _ h => ⟨h.1, ⟨h.2, by simp, by simp⟩⟩
end Go.Proofs.YtolkdikhdglcfaaRRGreat.flushGiven
