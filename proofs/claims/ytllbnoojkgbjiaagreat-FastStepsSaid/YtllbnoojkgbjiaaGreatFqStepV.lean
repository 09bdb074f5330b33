import Derived.Test.YtllbnoojkgbjiaaGreatFq6
/-
  Words for the trees of steps: a task's, a chart's numbers; known calls of a memory and of the packages below. No condition.
-/
namespace Go.Proofs.YtllbnoojkgbjiaaGreat.Step
open Go Ex
noncomputable section
def v (i : Nat) : SE := .var i
def l (n : Int) : SE := .lit n
def mul (a b : SE) : SE := .bin .mul a b
def add (a b : SE) : SE := .bin .add a b
def sub (a b : SE) : SE := .bin .sub a b
def sI (i : Nat) : AV := .sym .i64 (.var i)
def sU (i : Nat) : AV := .sym .u64 (.var i)
def nI (n : Int) : AV := .int .i64 n
def nU (n : Int) : AV := .int .u64 n
/-- a task: 0 Job 1 Cpu 2 Pc 3 End 4 Want 5 Slab 6 Obj 7 H 8 T 9 F 10 K 11 N 12 Last 13 Many 14 To 15 Back 16 For -/
def taskA (pc e w : AV) : List AV := [sI 0, sI 1, pc, e, w, sI 5, sI 6, sU 7, sU 8, sU 9, sU 10, sU 11, sI 12, sI 13, sI 14, sI 15, sI 16]
def setA : Nat → AV → List AV → List AV
  | _, _, [] => []
  | 0, x, _ :: r => x :: r
  | n + 1, x, y :: r => y :: setA n x r
def tset : List (Nat × AV) → List AV → List AV
  | [], t => t
  | p :: u, t => tset u (setA p.1 p.2 t)
/-- a chart: 20 Cpus 21 Slabs 22 Objects 23 Min 24 Cap 25 Key -/
def chartA : AV := .agg [sI 20, sI 21, sI 22, sI 23, sI 24, sU 25]
/-- a task that goes on: what is changed, at which place -/
def onT (pc : Int) (u : List (Nat × AV)) (s : Nat) : DM := .is (.tup [.agg (tset u (taskA (nI pc) (nI 0) (nI 0))), nI 0]) s
def brk (pc : Int) (s : Nat) : DM := onT pc [(3, nI 3)] s
/-- a chart that may be; a memory that has words -/
def factsC : List (Cnd × Bool) := [(.lt (v 20) (l 1), false), (.lt (l 8) (v 20), false), (.lt (v 21) (l 1), false), (.lt (l 32) (v 21), false), (.lt (v 22) (l 1), false), (.lt (l 16) (v 22), false), (.lt (v 23) (l 0), false), (.lt (l 32) (v 23), false), (.lt (v 24) (l 0), false), (.lt (l 32) (v 24), false), (.eq (v 30) (l 0), false)]
/-! places -/
def base : SE := mul (l 4) (v 20)
def slabs : SE := add base (l 4)
def links : SE := add slabs (mul (l 4) (v 21))
def headE : SE := mul (l 4) (v 1)
def linkE (s o : SE) : SE := add (add links (mul s (v 22))) o
def keyE (s : SE) : SE := .ubin .add (v 25) (.ubin .mul (.cv .u64 s) (l 11400714819323198485))
/-- questions -/
def cpuQ (y n : DM) : DM := .node (.lt (v 1) (l 0)) n (.node (.lt (v 1) (v 20)) (.node (.lt (v 1) (l 8)) y .bad) n)
def linkQ (s o : SE) (y n : DM) : DM := .node (.lt s (l 0)) n (.node (.lt s (v 21)) (.node (.lt o (l 0)) n (.node (.lt o (v 22)) y n)) n)
def isQ (i : Nat) (y n : DM) : DM := .node (.eq (v i) (l 1)) y n
def okQ (i : Nat) (y n : DM) : DM := .node (.eq (v i) (l 0)) y n
/-- what is known where there is a place -/
def csCpu : List (Cnd × Bool) := [(.lt (v 1) (l 0), false), (.lt (v 1) (v 20), true)]
def csLink (s o : SE) : List (Cnd × Bool) := [(.lt s (l 0), false), (.lt s (v 21), true), (.lt o (l 0), false), (.lt o (v 22), true)]
/-! known calls: the memory's -/
def kLen (f : Nat) : Kn := { f := f, args := [.ptr 0 0], res := sI 30, effs := [(0, 0, 0), (1, 1, 1)] }
def kLoad (f : Nat) (a : SE) (i : Nat) (cs : List (Cnd × Bool)) : Kn := { f := f, args := [.ptr 0 0, .sym .i64 a], conds := cs, res := .tup [sU i, nI 0], effs := [(0, 0, 2), (1, 1, 3)] }
def kLoadN (f : Nat) : Kn := { f := f, args := [.ptr 0 0, nI (-1)], res := .tup [nU 0, nI 9], effs := [(0, 0, 0), (1, 1, 1)] }
def kStore (f : Nat) (a : SE) (x : AV) (cs : List (Cnd × Bool)) : Kn := { f := f, args := [.ptr 0 0, .sym .i64 a, x], conds := cs, res := nI 0, effs := [(0, 0, 2), (1, 1, 3)] }
def kStoreN (f : Nat) (x : AV) : Kn := { f := f, args := [.ptr 0 0, nI (-1), x], res := nI 9, effs := [(0, 0, 0), (1, 1, 1)] }
def kCas2Y (f : Nat) (a : SE) (xs : List AV) (cs : List (Cnd × Bool)) : Kn := { f := f, args := .ptr 0 0 :: .sym .i64 a :: xs, conds := cs ++ [(.eq (v 41) (l 1), true)], res := .tup [.bool true, nI 0], effs := [(0, 0, 2), (1, 1, 3)] }
def kCas2F (f : Nat) (a : SE) (xs : List AV) (cs : List (Cnd × Bool)) : Kn := { f := f, args := .ptr 0 0 :: .sym .i64 a :: xs, conds := cs ++ [(.eq (v 41) (l 1), false)], res := .tup [.bool false, nI 0], effs := [(0, 0, 4), (1, 1, 5)] }
def kCas2N (f : Nat) (xs : List AV) : Kn := { f := f, args := .ptr 0 0 :: nI (-1) :: xs, res := .tup [.bool false, nI 9], effs := [(0, 0, 0), (1, 1, 1)] }
/-! known calls: what words say -/
def kHeadOfY (f : Nat) : Kn := { f := f, args := [sU 31], conds := [(.eq (v 32) (l 1), true)], res := .tup [sI 33, sI 34, .bool true] }
def kHeadOfN (f : Nat) : Kn := { f := f, args := [sU 31], conds := [(.eq (v 32) (l 1), false)], res := .tup [nI (-1), nI (-1), .bool false] }
def kHeadOf0 (f : Nat) : Kn := { f := f, args := [nU 0], res := .tup [nI (-1), nI (-1), .bool true] }
def kHeadY (f : Nat) (xs : List AV) : Kn := { f := f, args := xs, conds := [(.eq (v 37) (l 0), true)], res := .tup [sU 38, nI 0] }
def kHeadN (f : Nat) (xs : List AV) : Kn := { f := f, args := xs, conds := [(.eq (v 37) (l 0), false)], res := .tup [nU 0, nI 2] }
/-- Show: 'i' tells whether it shows something, 'i + 1' what -/
def kShowY (f i : Nat) (xs : List AV) : Kn := { f := f, args := xs, conds := [(.eq (v i) (l 1), true)], res := .tup [sI (i + 1), .bool true] }
def kShowN (f i : Nat) (xs : List AV) : Kn := { f := f, args := xs, conds := [(.eq (v i) (l 1), false)], res := .tup [nI 0, .bool false] }
def kHideY (f : Nat) (xs : List AV) : Kn := { f := f, args := xs, conds := [(.eq (v 39) (l 0), true)], res := .tup [sU 40, nI 0] }
def kHideN (f : Nat) (xs : List AV) : Kn := { f := f, args := xs, conds := [(.eq (v 39) (l 0), false)], res := .tup [nU 0, nI 2] }
end
end Go.Proofs.YtllbnoojkgbjiaaGreat.Step
