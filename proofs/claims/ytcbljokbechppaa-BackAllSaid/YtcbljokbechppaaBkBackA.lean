import Derived.Test.YtcbljokbechppaaBkBackE
import Derived.Test.YtcbljokbechppaaBk10
/-
  wainscotlaw23.BackAlone: the runs of its text. No condition.
-/
namespace Go.Proofs.Ytcbljokbechppaa.Back
open Go Ex
noncomputable section
/-- a task, by its fields: Job Cpu Pc End Want Slab Obj H T F K N Last Many To Back For -/
def taskA (pc : Int) (obj : AV) (t f k n : AV) (too : Int) : List AV := [.int .i64 2, .int .i64 0, .int .i64 pc, .int .i64 0, .int .i64 0, .int .i64 1, obj, .int .u64 0, t, f, k, n, .int .i64 0, .int .i64 0, .int .i64 too, .int .i64 0, .int .i64 0]
def zu : AV := .int .u64 0
/-- numbers: objects less one, own, Min, Cap, key, accesses -/
def heapT0 : List (Nat × TB) := [(0, .cells (memB 1 (wordsE (kE 0)) (.sym .i64 (v 5))) 82), (1, wordsB 0)]
def w (i : Int) : SE := .at (.lvar 0) (l i) 0
def objE : SE := .bin .sub (kE 0) (l 1)
def argT : List AV := [.ptr 0 0, .agg (chA 0 2 3 4), .agg (taskA 50 (.sym .i64 objE) zu zu zu zu 0)]
/-- in use, before -/
def inE : SE := .bin .sub (kE 0) (v 1)
def outE : SE := .bin .sub inE (l 1)
def fT (z : Bool) : List (Cnd × Bool) := [(.eq (w 4) (l 0), true), (.lt (v 0) (l 0), false), (.lt (v 0) (l 16), true), (.lt (v 1) (l 0), false), (.lt (v 1) (l 1), z), (.lt (v 1) (l 17), true), (.lt (v 2) (l 0), false), (.lt (v 2) (l 3), true), (.lt (v 3) (l 0), false), (.lt (v 3) (l 3), true), (.lt (v 5) (l 0), false), (.lt (v 5) (l 100), true), (.lt (.len (.lvar 0)) (l 18), false), (.lt (.len (.lvar 0)) (l 100), true), (.lt (l 0) inE, true), (.lt objE (kE 0), true), (.lt (.bin .sub (wordsE (kE 0)) (l 1)) (linkE objE), false), (.lt (linkE objE) (wordsE (kE 0)), true), (.lt (linkE objE) (.len (.lvar 0)), true), (.eq (w 12) (l 0), z), (.lt (w 12) (l 0), false), (.lt (w 12) (l 1), z), (.lt (w 12) (l 2), true)]
def kcCounts (K i : SE) (fz : Bool) : Kc := { f := 55, args := [.sym .u64 K], res := .tup [.agg [.sym .i64 i, .sym .i64 (kE 0), .bool fz, .bool true], .bool true] }
def kcPackT (fz : Bool) (r : Nat) : Kc := { f := 24, args := [.agg [.sym .i64 outE, .sym .i64 (kE 0), .bool fz, .bool true]], res := .tup [.sym .u64 (v r), .int .i64 0] }
def kcHide (F : SE) (r : Nat) : Kc := { f := 73, args := [.sym .i64 (.bin .sub (.cv .i64 F) (l 1)), .sym .u64 (keyE (v 4)), .sym .i64 objE], res := .tup [.sym .u64 (v r), .int .i64 0] }
def kcPartOf (N : SE) : Kc := { f := 67, args := [.sym .u64 N], res := .tup [.int .i64 (-1), .int .i64 0, .bool true] }
def kcsT (fz : Bool) : Kg := kgs [kcCounts (w 13) inE fz, kcPackT fz 6, kcHide (w 12) 7]
/-! numbers: objects less one, own, Min, Cap, key, accesses; as they came in: 30 .. 33 -/
def kcBring (x n : SE) (r : Nat) : Kc := { f := 6, args := [.sym .i64 x, .sym .i64 n], res := .sym .i64 (v r) }
def kcsB (fz z : Bool) : Kg := kgs [kcBring (v 30) (l 16) 0, kcBring (v 31) (kE 0) 1, kcBring (v 32) (l 3) 2, kcBring (v 33) (l 3) 3, kcSlab 0 (v 1) (.ubin .mul (.cv .u64 (v 31)) (l 3)) fz (!z && !fz) 2 3 0 5 4, kcCounts (w 13) inE fz, kcPackT (fz || z) 6, kcHide (w 12) 7, kcPartOf (w 2)]
def argB (fz sh : Bool) : List AV := [.sym .i64 (v 30), .sym .i64 (v 31), .agg [.bool fz, .bool sh, .sym .i64 (v 32), .sym .i64 (v 33)]]
/-! the six ways: frozen; not in the list and Cap above 0; .. and Cap 0; more than one in use; one and Min above 0; one and Min 0 -/
inductive Way where
  | A (z : Bool)
  | B
  | C
  | D
  | E
  | F
def Way.fz : Way → Bool
  | .A _ => true
  | _ => false
def Way.z : Way → Bool
  | .A z => z
  | .B => true
  | .C => true
  | _ => false
def Way.facts : Way → List (Cnd × Bool)
  | .A _ => []
  | .B => [(.lt (l 0) (v 3), true)]
  | .C => [(.lt (l 0) (v 3), false)]
  | .D => [(.lt (l 0) outE, true), (.lt (l 1) inE, true)]
  | .E => [(.lt (l 0) outE, false), (.lt (l 0) (v 2), true), (.lt (.cv .u64 (v 2)) (w 6), false), (.lt (l 1) inE, false)]
  | .F => [(.lt (l 0) outE, false), (.lt (l 0) (v 2), false), (.lt (.cv .u64 (v 2)) (w 6), true), (.lt (w 5) (l 1), false), (.lt (w 5) (l 3), true), (.eq (.bin .sub (.cv .i64 (w 5)) (l 1)) (l 1), true), (.lt (w 14) (l 0), false), (.lt (w 14) (l 3), true), (.lt (l 1) inE, false)]
def Way.fs (a : Way) : List (Cnd × Bool) := a.facts ++ fT a.z
/-- the words behind all steps -/
def Way.end_ (a : Way) : SE :=
  let base : SE := .lset (.lvar 0) (linkE objE) 0 (v 7)
  let obj1 : SE := .cv .u64 (.bin .add objE (l 1))
  let turn (x : SE) : SE := .lset (.lset x (l 12) 0 obj1) (l 13) 0 (v 6)
  match a with
  | .B => .lset (.lset (.lset (turn base) (l 14) 0 (w 2)) (l 2) 0 (l 66)) (l 3) 0 (.ubin .add (w 3) (l 1))
  | .E => .lset (turn (.lset base (l 4) 0 (l 1))) (l 4) 0 (l 0)
  | .F => .lset (.lset (turn (.lset base (l 4) 0 (l 1))) (l 5) 0 (w 14)) (l 6) 0 (.ubin .add (w 6) (l 18446744073709551615))
  | _ => turn base
def Way.sh : Way → Sh
  | .B => ⟨[(true, false)], true, [true, false]⟩
  | .D => ⟨[(true, true)], false, [true, false]⟩
  | .E => ⟨[(true, true)], false, [true, false]⟩
  | _ => ⟨[(true, true)], true, [true, false]⟩
def kcClone (n : Nat) (len L : SE) (q : Nat) : Kc := { f := 32, args := [.dsl n len 1], pre := [(n, .recs L [.int .u64] 26)], post := [(n, .recs L [.int .u64] 26)], news := [wordsB q], res := .dsl rel (.len (.lvar q)) 1 }
def kcWorks : Kc := { f := 12, args := [], res := .bool true }
def kcsW (a : Way) : Kg := fun args => (kcsB a.fz a.z args ++ kgs [kcClone 2 (wordsE (kE 0)) a.end_ 1, kcWorks] args) ++ kgSl (fun n => kcSee n 1 (.agg (chA 0 2 3 4)) a.sh 50 10) args
/-! the list that is to be seen -/
/-- the name of the task that came of it -/
def Way.T : Way → Nat
  | .A _ => 311
  | .B => 473
  | .C => 355
  | .D => 311
  | .E => 401
  | .F => 497
/-- Pc, End, Obj; how many steps -/
def Way.did : Way → Int × Int × AV × Int
  | .A _ => (53, 1, .sym .i64 objE, 4)
  | .B => (63, 1, .sym .i64 objE, 8)
  | .C => (80, 0, .int .i64 (-1), 6)
  | .D => (53, 1, .sym .i64 objE, 4)
  | .E => (59, 1, .sym .i64 objE, 7)
  | .F => (76, 0, .sym .i64 objE, 10)
def Way.task (a : Way) : List AV := match a.did with
  | (pc, en, ob, _) => [.int .i64 2, .int .i64 0, .int .i64 pc, .int .i64 en, .int .i64 0, .int .i64 1, ob]
def namedFrom : Nat → List TB → List (Nat × TB)
  | _, [] => []
  | i, t :: r => (i, t) :: namedFrom (i + 1) r
/-- what was seen, where it lies -/
def Way.seen (a : Way) : List (Nat × TB) := namedFrom (a.T + 12) ((seeNews a.sh 50 10).map fun t => t.sub { n := relSub (a.T + 12) 0 (seeNews a.sh 50 10) })
def Way.core (a : Way) : List AV := match (seeRes a.sh 50 10).sub { n := relSub (a.T + 12) 0 (seeNews a.sh 50 10) } with
  | .tup [.agg l, _] => l
  | _ => []
def Way.nx (a : Way) : Nat := a.T + 12 + (seeNews a.sh 50 10).length
def TW (a : Way) : Tm := { env := [(16, .sym .i64 (v 20)), (15, .dsl 900 (.len (.lvar 3)) 1), (5, .ptr 0 0), (6, .bool false), (7, .sym .i64 (kE 0)), (8, .sym .i64 (v 1)), (11, .ptr a.T 0), (12, .int .i64 a.did.2.2.2), (13, .ptr (a.T + 8) 0)], heap := (0, .cells [.bool a.fz, .bool (!a.z && !a.fz), .sym .i64 (v 2), .sym .i64 (v 3)] 23) :: (a.T, .cells a.task 32) :: (a.T + 8, .cells a.core 39) :: (900, .recs (.lvar 3) [.int .i64] 3) :: a.seen, b := ⟨70, 30, 0, 1000⟩ }
def LW (a : Way) : Ln := { key := 15, nx := a.nx, t := TW a, th := { v := [(20, l 0)], l := [(3, .lsnoc .rnil (.rcons objE .rnil))], n := [(900, a.nx)] }, x := .exit 0, post := TW a }
def fW : List (Cnd × Bool) := [(.lt (v 20) (l 0), false), (.lt (v 20) (l 17), true), (.lt (v 1) (l 17), true), (.lt (.len (.lvar 3)) (l 0), false), (.lt (.len (.lvar 3)) (l 100), true)]
def DW : LT := .node (.lt (v 20) (v 1)) (.leaf (.cont { v := [(20, .bin .add (v 20) (l 1))], l := [(3, .lsnoc (.lvar 3) (.rcons (v 20) .rnil))], n := [(900, 1001)] })) (.leaf (.out {}))
theorem runW (a : Way) : treeL Try.prog [] [] (kgs []) [] 3 (ntOf Try.prog 3) a.nx (loopOf Try.prog 3 15) (TW a) (.exit 0) (TW a) DW fW = true := by
  cases a with
  | A z => cases z <;> kernel_rfl
  | _ => kernel_rfl
/-! the whole text -/
def kcEq (a qa b : Nat) (n lb : SE) : Kc := { f := 11, args := [.dsl a (.len (.lvar qa)) 1, .dsl b n 1], pre := [(a, .recs (.lvar qa) [.int .i64] 3), (b, .recs lb [.int .i64] 3)], post := [(a, .recs (.lvar qa) [.int .i64] 3), (b, .recs lb [.int .i64] 3)], res := .bool true }
def oneL : SE := .lsnoc .rnil (.rcons (l 1) .rnil)
def kgEq (w : Way) : Kg
  | [.dsl a _ _, .dsl b _ _] => match Nat.blt a 600000 && Nat.blt b 600000 with
    | true => [kcEq a 14 b (.len (.lvar 3)) (.lvar 3)]
    | false => []
  | [.dsl a _ _, .sl b _ _ _ _] => match Nat.blt a 600000 && Nat.blt b 600000 with
    | true => match w with
      | .B => [kcEq a 11 b (l 1) oneL]
      | .D => [kcEq a 12 b (l 1) oneL]
      | .E => [kcEq a 12 b (l 1) oneL]
      | _ => []
    | false => []
  | _ => []
def kcsX (a : Way) : Kg := fun args => kcsW a args ++ kgEq a args
def Way.fx (a : Way) : List (Cnd × Bool) := [(.eq (v 1) (l 0), a.z), (.eq (l 1) (.len (.lsnoc .rnil (.rcons objE .rnil))), true), (.eq (v 57) outE, true), (.eq (v 58) (kE 0), true), (.eq (v 60) (l 0), false), (.eq (v 59) (l 0), a.z || a.fz |> not), (.eq (v 52) (l 0), match a with | .F => false | _ => true)] ++ a.fs
/-- the whole text, each way -/
theorem runA (a : Way) (sh : Bool) : treeC Try.prog [] [] (kcsX a) [LW a] 30 3 (argB a.fz sh) ⟨[], [], ⟨0, 0, 0, 0⟩⟩ (.is (.bool true) []) (Way.fx a) = true := by
  cases sh <;> cases a with
  | A z => cases z <;> kernel_rfl
  | _ => kernel_rfl
end
end Go.Proofs.Ytcbljokbechppaa.Back
