import Derived.Test.YtcbljokbechppaaBkBackA
/-
  back.Step, of a task that gives an object back to a frozen slab: the runs of its text, each way. No condition.
-/
namespace Go.Proofs.Ytcbljokbechppaa.Ball
open Go Ex Back
noncomputable section
/-! numbers of a step: 0 objects less one, 1 the task's object, 2 Min, 3 Cap, 4 key, 5 accesses, 6 Pc, 7 End, 8 F, 9 K, 10 the counts that are to be, 11 the link that is hidden, 12 Inuse of K. List 0: the words -/
def taskB (pc en obj f k : AV) : List AV := [.int .i64 2, .int .i64 0, pc, en, .int .i64 0, .int .i64 1, obj, .int .u64 0, .int .u64 0, f, k, .int .u64 0, .int .i64 0, .int .i64 0, .int .i64 0, .int .i64 0, .int .i64 0]
def vi (i : Nat) : AV := .sym .i64 (v i)
def vu (i : Nat) : AV := .sym .u64 (v i)
def memH (cnt : SE) (L : SE) : List (Nat × TB) := [(0, .cells (memB 1 (wordsE (kE 0)) (.sym .i64 cnt)) 82), (1, .recs L [.int .u64] 26)]
def argP : List AV := [.ptr 0 0, .agg (chA 0 2 3 4), .agg (taskB (vi 6) (vi 7) (vi 1) (vu 8) (vu 9))]
def TP : Tm := ⟨[], memH (v 5) (.lvar 0), ⟨10, 1, 0, 2⟩⟩
def kcCountsP (K : SE) : Kc := { f := (kcCounts K (v 12) true).f, args := (kcCounts K (v 12) true).args, res := .tup [.agg [.sym .i64 (v 12), .sym .i64 (kE 0), .bool true, .bool true], .bool true] }
def kcPackP : Kc := { f := (kcPackT true 10).f, args := [.agg [.sym .i64 (.bin .sub (v 12) (l 1)), .sym .i64 (kE 0), .bool true, .bool true]], res := .tup [.sym .u64 (v 10), .int .i64 0] }
def kcHideP : Kc := { f := (kcHide (v 8) 11).f, args := [.sym .i64 (.bin .sub (.cv .i64 (v 8)) (l 1)), .sym .u64 (keyE (v 4)), .sym .i64 (v 1)], res := .tup [.sym .u64 (v 11), .int .i64 0] }
/-- the ways -/
inductive SW where
  | done
  | first
  | counts
  | tie
  | win
  | loseF
  | loseK
def SW.kcs : SW → Kg
  | .counts => kgs [kcCountsP (w 13)]
  | .tie => kgs [kcCountsP (v 9), kcHideP]
  | .win => kgs [kcCountsP (v 9), kcPackP]
  | .loseF => kgs [kcCountsP (v 9), kcPackP]
  | .loseK => kgs [kcCountsP (v 9), kcPackP]
  | _ => kgs []
def fP : List (Cnd × Bool) := [(.lt (v 0) (l 0), false), (.lt (v 0) (l 16), true), (.lt (v 1) (l 0), false), (.lt (v 1) (l 16), true), (.lt (v 1) (kE 0), true), (.lt (v 2) (l 0), false), (.lt (v 2) (l 3), true), (.lt (v 3) (l 0), false), (.lt (v 3) (l 3), true), (.lt (v 5) (l 0), false), (.lt (v 5) (l 1000), true), (.lt (.len (.lvar 0)) (l 18), false), (.lt (.len (.lvar 0)) (l 100), true),
  (.lt (.bin .sub (wordsE (kE 0)) (l 1)) (linkE (v 1)), false), (.lt (linkE (v 1)) (wordsE (kE 0)), true), (.lt (linkE (v 1)) (.len (.lvar 0)), true)]
def atPc (pc : Int) : List (Cnd × Bool) := [(.eq (v 6) (l pc), true), (.eq (v 7) (l 0), true)]
def SW.fs : SW → List (Cnd × Bool)
  | .done => [(.eq (v 7) (l 0), false)]
  | .first => atPc 50 ++ [(.lt (.cv .u64 (kE 0)) (w 12), false), (.lt (w 12) (l 0), false), (.lt (w 12) (l 17), true)]
  | .counts => atPc 51 ++ [(.lt (l 0) (v 12), true)]
  | .tie => atPc 52 ++ [(.lt (l 0) (v 12), true), (.lt (.cv .u64 (kE 0)) (v 8), false), (.lt (v 8) (l 0), false), (.lt (v 8) (l 17), true)]
  | .win => atPc 53 ++ [(.eq (w 12) (v 8), true), (.eq (w 13) (v 9), true)]
  | .loseF => atPc 53 ++ [(.eq (w 12) (v 8), false)]
  | .loseK => atPc 53 ++ [(.eq (w 12) (v 8), true), (.eq (w 13) (v 9), false)]
def SW.fx (a : SW) : List (Cnd × Bool) := a.fs ++ fP
def obj1 : SE := .cv .u64 (.bin .add (v 1) (l 1))
/-- what is behind: Pc, End, F, K, the words; the accesses -/
def SW.to : SW → SE × SE × SE × SE × SE
  | .first => (l 51, l 0, w 12, v 9, .lvar 0)
  | .counts => (l 52, l 0, v 8, w 13, .lvar 0)
  | .tie => (l 53, l 0, v 8, v 9, .lset (.lvar 0) (linkE (v 1)) 0 (v 11))
  | .win => (l 53, l 1, v 8, v 9, .lset (.lset (.lvar 0) (l 12) 0 obj1) (l 13) 0 (v 10))
  | .loseF => (l 50, l 0, v 8, v 9, .lvar 0)
  | .loseK => (l 50, l 0, v 8, v 9, .lvar 0)
  | .done => (v 6, v 7, v 8, v 9, .lvar 0)
/-- as a known call: a task's object, Pc, End, F, K as they come in; which numbers they are then; the accesses; lists of words -/
def kcStep (whose : List (Cnd × Bool)) (obj pc en f k : SE) (robj rpc ren rf rk : Nat) (cnt : SE) (rcnt : Nat) (q r : Nat) : Kc := { f := 13, args := [.ptr 0 0, .agg (chA 0 2 3 4), .agg (taskB (.sym .i64 pc) (.sym .i64 en) (.sym .i64 obj) (.sym .u64 f) (.sym .u64 k))], conds := whose ++ [(.eq en (l 0), true)], pre := memH cnt (.lvar q), post := memH (v rcnt) (.lvar r), res := .tup [.agg (taskB (vi rpc) (vi ren) (vi robj) (vu rf) (vu rk)), .int .i64 0] }
def kcDone (whose : List (Cnd × Bool)) (obj pc en f k : SE) (cnt : SE) (q : Nat) : Kc := { f := 13, args := [.ptr 0 0, .agg (chA 0 2 3 4), .agg (taskB (.sym .i64 pc) (.sym .i64 en) (.sym .i64 obj) (.sym .u64 f) (.sym .u64 k))], conds := whose ++ [(.eq en (l 0), false)], pre := memH cnt (.lvar q), post := memH cnt (.lvar q), res := .tup [.agg [.int .i64 0, .int .i64 0, .int .i64 0, .int .i64 0, .int .i64 0, .int .i64 0, .int .i64 0, .int .u64 0, .int .u64 0, .int .u64 0, .int .u64 0, .int .u64 0, .int .i64 0, .int .i64 0, .int .i64 0, .int .i64 0, .int .i64 0], .int .i64 292] }
/-- what a way's end puts in place of the numbers: 20 .. 24 the object, Pc, End, F, K, 25 the accesses, list 1 -/
def SW.th (a : SW) (robj rpc ren rf rk rcnt r : Nat) : Sub := { v := [(robj, v 1), (rpc, a.to.1), (ren, a.to.2.1), (rf, a.to.2.2.1), (rk, a.to.2.2.2.1), (rcnt, .bin .add (v 5) (l 1))], l := [(r, a.to.2.2.2.2)] }
def kcS0 : Kc := kcStep [] (v 1) (v 6) (v 7) (v 8) (v 9) 20 21 22 23 24 (v 5) 25 0 1
def kcD0 : Kc := kcDone [] (v 1) (v 6) (v 7) (v 8) (v 9) (v 5) 0
def SW.end_ : SW → CT
  | .done => kcD0.leaf {}
  | a => kcS0.leaf (a.th 20 21 22 23 24 25 1)
theorem runSW (rks : List (Nat × CK)) (a : SW) : treeC Try.prog [] rks a.kcs [] 30 13 argP TP a.end_ a.fx = true := by
  cases a <;> kernel_rfl
end
end Go.Proofs.Ytcbljokbechppaa.Ball
