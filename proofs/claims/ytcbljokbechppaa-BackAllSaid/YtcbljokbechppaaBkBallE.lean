import Derived.Test.YtcbljokbechppaaBkBallS
import Derived.Test.YtcbljokbechppaaBk10
/-
  wainscotlaw23.BackAll: the runs of its text. No condition.
-/
namespace Go.Proofs.Ytcbljokbechppaa.Ball
open Go Ex Back
noncomputable section
/-! numbers: 0 objects less one, 1 nothing, 2 Min, 3 Cap, 4 key, 5 accesses at first, 18 accesses, 19 tasks, 6 i, 47 a number that is brought, 48, 49, 41, 42 Pc, End, F, K behind a step, 43 the accesses then, 44 whose step it is, 45 its object; 17 i of the last loop; 30, 31 as they came in, 32, 33 brought. Lists: 40 whose, 0 words at first, 1 tasks, 2 words, 6 words behind a step -/
def ksT : List CK := [.int .i64, .int .i64, .int .i64, .int .i64, .int .i64, .int .i64, .int .i64, .int .u64, .int .u64, .int .u64, .int .u64, .int .u64, .int .i64, .int .i64, .int .i64, .int .i64, .int .i64]
def at1 (who : SE) (j : Nat) : SE := .at (.lvar 1) who j
def recE (obj : SE) : SE := .rcons (l 2) (.rcons (l 0) (.rcons (l 50) (.rcons (l 0) (.rcons (l 0) (.rcons (l 1) (.rcons obj (.rcons (l 0) (.rcons (l 0) (.rcons (l 0) (.rcons (l 0) (.rcons (l 0) (.rcons (l 0) (.rcons (l 0) (.rcons (l 0) (.rcons (l 0) (.rcons (l 0) .rnil))))))))))))))))
/-! a step's call, in the loop -/
def kcStepW (who : SE) : Kc := kcStep [(.eq who (v 44), true)] (at1 who 6) (at1 who 2) (at1 who 3) (at1 who 9) (at1 who 10) 45 48 49 41 42 (v 18) 43 2 6
def kcDoneW (who : SE) : Kc := kcDone [(.eq who (v 44), true)] (at1 who 6) (at1 who 2) (at1 who 3) (at1 who 9) (at1 who 10) (v 18) 2
def turnE : SE := .bin .rem (v 6) (v 19)
def kcBringW : Kc := kcBring (.at (.lvar 40) (v 6) 0) (v 19) 47
def T2 (i : Bool) : Tm := { env := (if i then [(13, .sym .i64 (v 6))] else []) ++ [(11, .dsl 60 (v 19) 17), (2, .rsl 40), (7, .sym .i64 (v 19)), (8, .sym .i64 (kE 0)), (9, .ptr 0 0), (10, .ptr 2 0)], heap := memH (v 18) (.lvar 2) ++ [(2, .cells (chA 0 2 3 4) 28), (60, .recs (.lvar 1) ksT 32)], b := ⟨40, 5, 0, 100⟩ }
def whoFacts (who : SE) : List (Cnd × Bool) := [(.lt who (v 19), true), (.lt who (l 0), false), (.lt who (l 6), true), (.lt who (.len (.lvar 1)), true), (.eq (at1 who 0) (l 2), true), (.eq (at1 who 1) (l 0), true), (.eq (at1 who 4) (l 0), true), (.eq (at1 who 5) (l 1), true), (.eq (at1 who 7) (l 0), true), (.eq (at1 who 8) (l 0), true), (.eq (at1 who 11) (l 0), true), (.eq (at1 who 12) (l 0), true), (.eq (at1 who 13) (l 0), true), (.eq (at1 who 14) (l 0), true), (.eq (at1 who 15) (l 0), true), (.eq (at1 who 16) (l 0), true)]
def f2 : List (Cnd × Bool) := [(.lt (v 6) (l 0), false), (.lt (v 6) (l 1000), true), (.lt (v 19) (l 1), false), (.lt (v 19) (l 7), true), (.lt (l 0) (v 19), true), (.eq (v 19) (l 0), false)] ++ whoFacts turnE ++ whoFacts (v 47)
/-- a step's task, as it is stored -/
def setT (who : SE) : SE :=
  let f (L : SE) (j : Nat) (x : SE) : SE := .lset L who j x
  f (f (f (f (f (f (f (f (f (f (f (f (f (f (f (f (f (.lvar 1) 0 (l 2)) 1 (l 0)) 2 (v 48)) 3 (v 49)) 4 (l 0)) 5 (l 1)) 6 (v 45)) 7 (l 0)) 8 (l 0)) 9 (v 41)) 10 (v 42)) 11 (l 0)) 12 (l 0)) 13 (l 0)) 14 (l 0)) 15 (l 0)) 16 (l 0)
def stT (who : SE) : LT := .node (.eq who (v 44)) (.node (.eq (at1 who 3) (l 0)) (.leaf (.cont { v := [(6, .bin .add (v 6) (l 1)), (18, v 43)], l := [(1, setT who), (2, .lvar 6)] })) (.leaf (.cont { v := [(6, .bin .add (v 6) (l 1))] }))) .bad
def D2 : LT := .node (.lt (v 6) (l 260)) (.node (.lt (v 6) (l 60)) (.node (.lt (v 6) (.len (.lvar 40))) (stT (v 47)) (stT turnE)) (stT turnE)) (.leaf (.out {}))
def kcs2 : Kg := kgs [kcBringW, kcStepW turnE, kcDoneW turnE, kcStepW (v 47), kcDoneW (v 47)]
theorem run2 : treeL Try.prog [] [(40, .int .i64)] kcs2 [] 30 (ntOf Try.prog 4) 3 (loopOf Try.prog 4 12) (T2 true) (.exit 2) (T2 false) D2 f2 = true := by kernel_rfl
/-! the whole text: a number of tasks -/
def nE : SE := .bin .add (l 1) (v 32)
def kE2 : SE := .bin .add nE (v 33)
def objE2 (j : Int) : SE := .bin .sub (.bin .sub kE2 (l 1)) (l j)
def listE : Nat → SE
  | 0 => .rnil
  | n + 1 => .lsnoc (listE n) (recE (objE2 n))
def L2 (n : Nat) : Ln := { key := 12, nx := 3, t := T2 true, th := { v := [(6, l 0), (18, v 5)], l := [(1, listE n), (2, .lvar 0)], n := [(60, 2 + 2 * n)] }, x := .exit 2, post := T2 false }
def shp : Ex.Sh := ⟨[(true, true)], true, [true, false]⟩
def kcs0 : Kg := fun args => kgs [kcBring (v 31) (l 6) 32, kcBring (v 30) (.bin .sub (l 17) nE) 33, kcSlab 0 (l 0) (.cv .u64 kE2) true false 2 3 0 5 4, kcClone 1 (wordsE (kE 0)) (.lvar 2) 9, kcWorks] args ++ kgSl (fun n => kcSee n 9 (.agg (chA 0 2 3 4)) shp 50 10) args
def f0 (n : Nat) : List (Cnd × Bool) := [(.eq (v 32) (l (n - 1)), true), (.eq kE2 (kE 0), true), (.eq nE (v 19), true), (.eq (l 0) (v 2), true), (.eq (l 0) (v 3), true), (.eq (v 2) (l 0), true), (.eq (v 3) (l 0), true), (.eq (v 19) (l n), true), (.eq (l n) (v 19), true), (.lt (v 0) (l 0), false), (.lt (v 0) (l 16), true), (.lt (v 33) (l 0), false), (.lt (v 33) (l 17), true), (.lt (.len (.lvar 2)) (l 18), false), (.lt (.len (.lvar 2)) (l 100), true), (.lt (v 18) (l 0), false), (.lt (v 18) (l 1000), true), (.eq (.len (.lvar 14)) (v 19), true), (.eq (v 57) (.bin .sub (kE 0) (v 19)), true), (.eq (v 59) (l 0), false)]
/-! what was seen, where it lies; the last loop -/
def seenAt : List (Nat × TB) := namedFrom 111 ((seeNews shp 50 10).map fun t => t.sub { n := relSub 111 0 (seeNews shp 50 10) })
def coreAt : List AV := match (seeRes shp 50 10).sub { n := relSub 111 0 (seeNews shp 50 10) } with
  | .tup [.agg l, _] => l
  | _ => []
def T3 (i : Bool) : Tm := { env := (if i then [(19, .sym .i64 (v 17)), (11, .dsl 60 (v 19) 17), (17, .ptr 107 0), (7, .sym .i64 (v 19)), (8, .sym .i64 (kE 0))] else []), heap := (if i then (60, .recs (.lvar 1) ksT 32) :: (107, .cells coreAt 39) :: seenAt else []), b := ⟨70, 20, 0, 200⟩ }
def f3 : List (Cnd × Bool) := [(.lt (v 17) (l 0), false), (.lt (v 17) (l 7), true), (.lt (v 19) (l 1), false), (.lt (v 19) (l 7), true)]
def D3 : LT := .node (.lt (v 17) (v 19)) (.node (.lt (v 17) (.len (.lvar 1))) (.node (.lt (v 17) (.len (.lvar 14))) (.node (.eq (at1 (v 17) 3) (l 1)) (.node (.lt (.at (.lvar 14) (v 17) 0) (.bin .sub (kE 0) (v 19))) .bad (.leaf (.cont { v := [(17, .bin .add (v 17) (l 1))] }))) .bad) .bad) .bad) (.leaf (.out {}))
theorem run3 : treeL Try.prog [] [(40, .int .i64)] (kgs []) [] 30 (ntOf Try.prog 4) 114 (loopOf Try.prog 4 24) (T3 true) (.exit 4) (T3 false) D3 f3 = true := by kernel_rfl
def L3 : Ln := { key := 24, nx := 114, t := T3 true, th := { v := [(17, l 0)] }, x := .exit 4, post := T3 false }
theorem run0 : ∀ n : Fin 7, 0 < n.val → treeC Try.prog [] [(40, .int .i64)] kcs0 [L2 n.val, L3] 30 4 [.sym .i64 (v 30), .sym .i64 (v 31), .rsl 40] ⟨[], [], ⟨0, 0, 0, 0⟩⟩ (.is (.bool true) []) (f0 n.val) = true
  | ⟨0, _⟩, h => absurd h (Nat.lt_irrefl 0)
  | ⟨1, _⟩, _ => by kernel_rfl
  | ⟨2, _⟩, _ => by kernel_rfl
  | ⟨3, _⟩, _ => by kernel_rfl
  | ⟨4, _⟩, _ => by kernel_rfl
  | ⟨5, _⟩, _ => by kernel_rfl
  | ⟨6, _⟩, _ => by kernel_rfl
end
end Go.Proofs.Ytcbljokbechppaa.Ball
