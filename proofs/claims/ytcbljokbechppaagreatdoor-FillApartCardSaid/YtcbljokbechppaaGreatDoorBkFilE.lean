import Derived.Test.YtcbljokbechppaaGreatDoorBkFilS
import Derived.Test.YtcbljokbechppaaGreatDoorBkKcSeeL
import Derived.Test.YtcbljokbechppaaGreatDoorBk11
/-
  wainscotlaw24.FillApart: the runs of its text. No condition.
-/
namespace Go.Proofs.YtcbljokbechppaaGreatDoor.Fil
open Go Ex
noncomputable section
/-! numbers: 0 processors, 5 accesses at first, 18 accesses, 20 words, 6 i; 17 i, 21 got, 22 j of the last loops; 30, 31 as they came in; 46 whether whose step it is runs (0), 44 whose, 47 brought; 50 .. 61 a step's results; 100 .. what was seen. Lists: 40 whose, 0 words at first, 1 tasks, 2 words, 6 words behind a step, 9 words that were cloned -/
def ksT : List CK := [.int .i64, .int .i64, .int .i64, .int .i64, .int .i64, .int .i64, .int .i64, .int .u64, .int .u64, .int .u64, .int .u64, .int .u64, .int .i64, .int .i64, .int .i64, .int .i64, .int .i64]
def kcBringI (x : SE) (n r : Int) : Kc := { f := 10, args := [.sym .i64 x, .int .i64 n], res := .int .i64 r }
def at1 (who : SE) (j : Nat) : SE := .at (.lvar 1) who j
def tnE (who : SE) : Tn := ⟨at1 who 2, at1 who 3, at1 who 4, at1 who 5, at1 who 6, at1 who 8, at1 who 9, at1 who 10, at1 who 11, at1 who 12⟩
/-! a step's call, in the loop -/
def kcStepW (who : SE) : Kc := kcStep [(.eq who (v 44), true), (.eq (v 46) (l 0), true)] (at1 who 1) (tnE who) 50 (v 18) 2 6
def kcIdleW (who : SE) : Kc := kcIdle [(.eq who (v 44), true), (.eq (v 46) (l 0), false)] (at1 who 1) (tnE who) (v 18) 2
def turnE (n : Nat) : SE := .bin .rem (v 6) (l n)
def kcBringW (n : Nat) : Kc := { f := 10, args := [.sym .i64 (.at (.lvar 40) (v 6) 0), .int .i64 n], res := .sym .i64 (v 47) }
def chN (n : Nat) : List AV := [.int .i64 n, .int .i64 8, .int .i64 5, .int .i64 0, .int .i64 0, .int .u64 9]
/-- the loop of 500 steps; n: processors, k: slabs on the shelf -/
def T2 (n k : Nat) (i : Bool) : Tm := { env := (if i then [(15, .sym .i64 (v 6))] else []) ++ [(13, .dsl 3000 (l n) 17), (2, .rsl 40), (7, .int .i64 n), (8, .int .i64 k), (9, .ptr 0 0), (12, .ptr 3002 0)], heap := memF (v 18) (.lvar 2) ++ [(0, .cells (chN n) 33), (3000, .recs (.lvar 1) ksT 24)], b := ⟨40, 5, 0, 3004⟩ }
def whoFacts (n : Nat) (who : SE) : List (Cnd × Bool) := rng who 0 n ++ [(.lt who (.len (.lvar 1)), true), (.eq (at1 who 0) (l 1), true), (.eq (at1 who 7) (l 0), true), (.eq (at1 who 13) (l 0), true), (.eq (at1 who 14) (l 0), true), (.eq (at1 who 15) (l 0), true), (.eq (at1 who 16) (l 0), true)]
def f2 (n : Nat) : List (Cnd × Bool) := rng (v 6) 0 1000 ++ [(.eq (l n) (v 0), true)] ++ whoFacts n (turnE n) ++ whoFacts n (v 47)
/-- a step's task, as it is stored -/
def setT (who : SE) : SE :=
  let f (L : SE) (j : Nat) (x : SE) : SE := .lset L who j x
  f (f (f (f (f (f (f (f (f (f (f (f (f (f (f (f (f (.lvar 1) 0 (l 1)) 1 (v 50)) 2 (v 51)) 3 (v 52)) 4 (v 53)) 5 (v 54)) 6 (v 55)) 7 (l 0)) 8 (v 56)) 9 (v 57)) 10 (v 58)) 11 (v 59)) 12 (v 60)) 13 (l 0)) 14 (l 0)) 15 (l 0)) 16 (l 0)
def stT (who : SE) : LT := .node (.eq who (v 44)) (.node (.eq (v 46) (l 0)) (.leaf (.cont { v := [(6, .bin .add (v 6) (l 1)), (18, v 61)], l := [(1, setT who), (2, .lvar 6)] })) (.leaf (.cont { v := [(6, .bin .add (v 6) (l 1))] }))) .bad
def D2 (n : Nat) : LT := .node (.lt (v 6) (l 500)) (.node (.lt (v 6) (l 100)) (.node (.lt (v 6) (.len (.lvar 40))) (stT (v 47)) (stT (turnE n))) (stT (turnE n))) (.leaf (.out {}))
def kcs2 (n : Nat) : Kg := kgs [kcBringW n, kcStepW (turnE n), kcIdleW (turnE n), kcStepW (v 47), kcIdleW (v 47)]
def rk40 : List (Nat × CK) := [(40, .int .i64)]
def run2 (n k : Nat) : Bool := treeL Tryz.prog FillTab.gs rk40 (kcs2 n) [] 30 (ntOf Tryz.prog 5) 1 (loopOf Tryz.prog 5 17) (T2 n k true) (.exit 4) (T2 n k false) (D2 n) (f2 n)
/-! the words at first -/
def own (s : Nat) : Nat := 1 + s % 5
def lastI (s : Nat) : Int := if 1 < own s then 1 else -1
def linkF (k s o : Nat) : Nat := if s < k ∧ o < own s then See.hideW (if o + 1 < own s then (o : Int) + 1 else -1) (See.keyOf 9 s) o else 0
/-- slabs that were taken; is it locked; how many on the shelf; slabs whose first was taken; heads' words; heads' turns -/
structure Mf where
  tk : Nat
  lk : Nat
  hd : Nat
  cut : Nat
  head : Nat → Nat
  turn : Nat → Nat
def wordF (n k : Nat) (m : Mf) (i : Nat) : Nat :=
  if i < 4 * n then (if i % 4 = 0 then m.head (i / 4) else if i % 4 = 1 then m.turn (i / 4) else 0)
  else if i < 4 * n + 4 then (if i = 4 * n then m.lk else if i = 4 * n + 1 then (if m.tk < k then m.tk + 1 else 0) else if i = 4 * n + 2 then m.hd else 0)
  else if i < 4 * n + 36 then (let s := (i - (4 * n + 4)) / 4; if (i - (4 * n + 4)) % 4 = 0 then (if m.cut ≤ s ∧ s < k then 1 else 0) else if (i - (4 * n + 4)) % 4 = 1 then (if s < k then (if s < m.cut then See.packN 5 5 true true else See.packN (5 - own s) 5 false true) else 0) else if (i - (4 * n + 4)) % 4 = 2 then (if s + 1 < k then s + 2 else 0) else 0)
  else linkF k ((i - (4 * n + 36)) / 5) ((i - (4 * n + 36)) % 5)
def gF (n k : Nat) (m : Mf) : List Nat := (List.range (76 + 4 * n)).map (wordF n k m)
def m0 (k : Nat) : Mf := ⟨0, 0, k, 0, fun _ => 0, fun _ => 0⟩
def taskL (j : Nat) (pc en want slab obj t f k n : Nat) (last : Int) : List Int := [1, j, pc, en, want, slab, obj, 0, t, f, k, n, last, 0, 0, 0, 0]
def tasks0 (n : Nat) : List (List Int) := (List.range n).map fun j => taskL j 30 0 0 0 0 0 0 0 0 0
def recE : List Int → SE
  | [] => .rnil
  | x :: r => .rcons (.lit x) (recE r)
def chainE (L : List (List Int)) : SE := L.foldl (fun a r => .lsnoc a (recE r)) .rnil
def cnt0 (k : Nat) : Nat := (List.range k).foldl (fun a s => a + own s + 6) 0
def tasksAt (n k : Nat) : Nat := [24, 157, 326, 531, 772, 1049, 1182].getD k 0 + 2 * n
def L2 (n k : Nat) : Ln := { key := 17, nx := 1, t := T2 n k true, th := { v := [(6, l 0), (18, l (cnt0 k))], l := [(1, chainE (tasks0 n)), (2, chainE (one (natsI (gF n k (m0 k)))))], n := [(3000, tasksAt n k), (3002, 24 + 2 * k), (3003, 23 + 2 * k)] }, x := .exit 4, post := T2 n k false }
def kcClone : Kc := { f := 44, args := [.dsl 3003 (v 20) 1], pre := [(3003, .recs (.lvar 2) [.int .u64] 22)], post := [(3003, .recs (.lvar 2) [.int .u64] 22)], news := [.recs (.lvar 9) [.int .u64] 22], res := .dsl rel (.len (.lvar 9)) 1 }
def kcWorks : Kc := { f := 9, args := [], res := .bool true }
def kcs0 (n k : Nat) : Kg := fun args => kgs [kcBringI (v 30) 6 (n - 1), kcBringI (v 31) 7 k, kcClone, kcWorks] args ++ kgSl (fun nm => kcSeeL nm 9 (.agg (chN n)) n 8 100) args
def f0 (n k : Nat) : List (Cnd × Bool) := [(.eq (l (76 + 4 * n)) (v 20), true), (.eq (v (100 + 4 * n)) (l (k - n : Nat)), true), (.eq (v (101 + 4 * n)) (l 0), true)] ++ rng (v 18) 0 2000 ++ rng (v 20) 80 101 ++ rng (.len (.lvar 2)) 80 101
def arg0 : List AV := [.sym .i64 (v 30), .sym .i64 (v 31), .rsl 40]
/-! the last loops: 17 i, 21 got; 130 j, 131 got behind a task -/
def coreL (n : Nat) : List AV := [.sl 3015 0 n 4 .any, .osl (v (100 + 4 * n)), .bsym (.eq (v (101 + 4 * n)) (l 0)) false, .sl 3016 0 8 5 .any]
def env4 (n k : Nat) (got : SE) : List (Nat × AV) := [(7, .int .i64 n), (8, .int .i64 k), (21, .sym .i64 got)]
def env4i : List (Nat × AV) := [(22, .sym .i64 (v 17)), (19, .ptr 3011 0)]
def heap4 (n : Nat) : List (Nat × TB) := [(3000, .recs (.lvar 1) ksT 24), (3011, .cells (coreL n) 46), (3015, .cells (slotL n 100) 56), (3016, .cells [] 54)]
def T4 (n k : Nat) (i : Bool) : Tm := { env := (if i then (13, .dsl 3000 (l n) 17) :: env4i else []) ++ env4 n k (v 21), heap := if i then heap4 n else [], b := ⟨130, 3, 0, 3200⟩ }
def gotE (g : Bool) : SE := v (if g then 131 else 132)
def T5 (n k : Nat) (g i : Bool) : Tm := { env := (if i then [(23, .sym .i64 (v 130))] else []) ++ ((13, .dsl 3000 (l n) 17) :: env4i ++ env4 n k (gotE g)), heap := heap4 n, b := ⟨133, 3, 0, 3300⟩ }
/-- g: the task was given something -/
def L5 (n k : Nat) (g : Bool) : Ln := { key := 39, nx := 3017, t := T5 n k g true, th := { v := [(130, l 0), (if g then 131 else 132, if g then .bin .add (v 21) (l 1) else v 21)] }, x := .exit 8, post := T5 n k g false }
def L4 (n k : Nat) : Ln := { key := 30, nx := 3017, t := T4 n k true, th := { v := [(17, l 0), (21, l 0)] }, x := .exit 6, post := T4 n k false }
def f5 (n : Nat) : List (Cnd × Bool) := rng (v 130) 0 n ++ rng (v 17) 0 n ++ [(.eq (.len (.lvar 1)) (l n), true)]
def cont5 : LT := .leaf (.cont { v := [(130, .bin .add (v 130) (l 1))] })
def D5 : LT := .node (.lt (v 130) (v 17)) (.node (.eq (at1 (v 17) 3) (l 1)) (.node (.eq (at1 (v 130) 3) (l 1)) (.node (.eq (at1 (v 17) 5) (at1 (v 130) 5)) .bad cont5) cont5) cont5) (.leaf (.out {}))
def run5g (n k : Nat) (g : Bool) : Bool := treeL Tryz.prog FillTab.gs rk40 (kgs []) [] 30 (ntOf Tryz.prog 5) 3017 (loopOf Tryz.prog 5 39) (T5 n k g true) (.exit 8) (T5 n k g false) D5 (f5 n)
def run5 (n k : Nat) : Bool := run5g n k true && run5g n k false
def f4 (n i : Nat) : List (Cnd × Bool) := [(.eq (v 17) (l i), true), (.eq (.len (.lvar 1)) (l n), true)] ++ rng (v 21) 0 7
def one4 (i : Nat) : LT := .node (.eq (at1 (v 17) 3) (l 1)) (.node (.eq (v (100 + 4 * i)) (at1 (v 17) 5)) (.leaf (.cont { v := [(17, .bin .add (v 17) (l 1)), (21, v 131)] })) .bad) (.node (.eq (at1 (v 17) 4) (l 1)) (.leaf (.cont { v := [(17, .bin .add (v 17) (l 1)), (21, v 132)] })) .bad)
def D4 (n i : Nat) : LT := match Nat.blt i n with
  | true => one4 i
  | false => .leaf (.out {})
def lns4 (n k i : Nat) : List Ln := match Nat.blt i n with
  | true => [L5 n k true, L5 n k false]
  | false => []
def run4i (n k i : Nat) : Bool := treeL Tryz.prog FillTab.gs rk40 (kgs []) (lns4 n k i) 30 (ntOf Tryz.prog 5) 3017 (loopOf Tryz.prog 5 30) (T4 n k true) (.exit 6) (T4 n k false) (D4 n i) (f4 n i)
def allTo (f : Nat → Bool) : Nat → Bool
  | 0 => f 0
  | n + 1 => f (n + 1) && allTo f n
def run4 (n k : Nat) : Bool := allTo (run4i n k) n
def f00 (n k : Nat) : List (Cnd × Bool) := (.eq (v 21) (l (min n k : Nat)), true) :: f0 n k
def run0 (n k : Nat) : Bool := treeC Tryz.prog FillTab.gs rk40 (kcs0 n k) [L2 n k, L4 n k] 30 5 arg0 ⟨[], [], ⟨0, 0, 0, 0⟩⟩ (.is (.bool true) []) (f00 n k)
end
end Go.Proofs.YtcbljokbechppaaGreatDoor.Fil
