import Derived.Test.YtcbljokbechppaaGreatDoorBk7
import Derived.Test.YtcbljokbechppaaGreatDoorBkTab
/-
  fill.Step, of a task that fills from a shelf of slabs with five objects: the runs of its text, each way. No condition.
-/
namespace Go.Proofs.YtcbljokbechppaaGreatDoor.Fil
open Go Ex
noncomputable section
def v (i : Nat) : SE := .var i
def l (n : Int) : SE := .lit n
/-! numbers of a step: 0 processors, 1 the task's, 2 slab, 5 accesses, 6 Pc, 7 End, 8 F, 9 K, 10 N, 11 Last, 12 Want, 14 T, 15 Obj, 20 words; 33 what a link shows, 34 a word that is packed, 35 Inuse. List 0: the words -/
def taskF (cpu pc en want slab obj t f k n last : AV) : List AV := [.int .i64 1, cpu, pc, en, want, slab, obj, .int .u64 0, t, f, k, n, last, .int .i64 0, .int .i64 0, .int .i64 0, .int .i64 0]
def vi (i : Nat) : AV := .sym .i64 (v i)
def vu (i : Nat) : AV := .sym .u64 (v i)
def memB (nm : Nat) (n : SE) (c : AV) : List AV := [.dsl nm n 1, c]
def memF (cnt : SE) (L : SE) : List (Nat × TB) := [(3002, .cells (memB 3003 (v 20) (.sym .i64 cnt)) 90), (3003, .recs L [.int .u64] 22)]
def chF : AV := .agg [.sym .i64 (v 0), .int .i64 8, .int .i64 5, .int .i64 0, .int .i64 0, .int .u64 9]
def argF : List AV := [.ptr 3002 0, chF, .agg (taskF (vi 1) (vi 6) (vi 7) (vi 12) (vi 2) (vi 15) (vu 14) (vu 8) (vu 9) (vu 10) (vi 11))]
def TF : Tm := ⟨[], memF (v 5) (.lvar 0), ⟨21, 1, 0, 3004⟩⟩
/-! places -/
def add (a b : SE) : SE := .bin .add a b
def baseE : SE := .bin .mul (l 4) (v 0)
def headE : SE := .bin .mul (l 4) (v 1)
def partE : SE := add headE (l 2)
def shelfE : SE := add baseE (l 1)
def heldE : SE := add baseE (l 2)
def firstE : SE := add (add baseE (l 4)) (.bin .mul (l 4) (v 2))
def nextE : SE := add firstE (l 2)
def linkE : SE := add (add (add (add baseE (l 4)) (l 32)) (.bin .mul (v 2) (l 5))) (v 15)
def keyE : SE := .ubin .add (l 9) (.ubin .mul (.cv .u64 (v 2)) (l 11400714819323198485))
def w (e : SE) : SE := .at (.lvar 0) e 0
inductive FW where
  | idleF
  | idleP
  | p30
  | p31
  | p34a
  | p34b
  | p35a
  | p35b
  | p36
  | p37
  | p38
  | p39
  | p46
  | p47
  | p48
  | p49
  | p40
  | p41
  | p42
def kcPartOf : Kc := { f := 91, args := [.sym .u64 (w partE)], res := .tup [.int .i64 (-1), .int .i64 0, .bool true] }
def kcCounts (K : SE) : Kc := { f := 65, args := [.sym .u64 K], res := .tup [.agg [.sym .i64 (v 35), .sym .i64 (l 5), .bool false, .bool true], .bool true] }
def kcPack : Kc := { f := 20, args := [.agg [.sym .i64 (l 5), .sym .i64 (l 5), .bool true, .bool true]], res := .tup [.sym .u64 (v 34), .int .i64 0] }
def kcShow : Kc := { f := 102, args := [.sym .u64 (w linkE), .sym .u64 keyE, .sym .i64 (v 15)], res := .tup [.sym .i64 (v 33), .bool true] }
def kcHead : Kc := { f := 89, args := [.sym .i64 (v 2), .sym .i64 (v 11)], res := .tup [.sym .u64 (v 34), .int .i64 0] }
def FW.kcs : FW → Kg
  | .p31 => kgs [kcPartOf]
  | .p38 => kgs [kcCounts (w (add firstE (l 1)))]
  | .p39 => kgs [kcCounts (v 9), kcPack]
  | .p40 => kgs [kcShow]
  | .p42 => kgs [kcHead]
  | _ => kgs []
def rng (e : SE) (a b : Int) : List (Cnd × Bool) := [(.lt e (l a), false), (.lt e (l b), true)]
def fF : List (Cnd × Bool) := rng (v 0) 1 7 ++ rng (v 1) 0 6 ++ [(.lt (v 1) (v 0), true)] ++ rng (v 2) 0 8 ++ rng (v 5) 0 2000 ++ rng (v 20) 80 101 ++ rng (.len (.lvar 0)) 80 101
def atPc (pc : Int) : List (Cnd × Bool) := [(.eq (v 6) (l pc), true), (.eq (v 7) (l 0), true), (.eq (v 12) (l 0), true)]
def FW.fs : FW → List (Cnd × Bool)
  | .idleF => [(.eq (v 6) (l 42), true), (.eq (v 7) (l 0), false)]
  | .idleP => [(.eq (v 6) (l 43), true), (.eq (v 7) (l 0), true), (.eq (v 12) (l 0), false)]
  | .p30 => atPc 30
  | .p31 => atPc 31
  | .p34a => atPc 34 ++ [(.eq (w baseE) (l 0), true)]
  | .p34b => atPc 34 ++ [(.eq (w baseE) (l 0), false)]
  | .p35a => atPc 35 ++ rng (w shelfE) 1 9 ++ [(.eq (w shelfE) (l 0), false)]
  | .p35b => atPc 35 ++ [(.eq (w shelfE) (l 0), true)]
  | .p36 => atPc 36
  | .p37 => atPc 37 ++ rng (w firstE) 1 6
  | .p38 => atPc 38
  | .p39 => atPc 39 ++ rng (v 8) 1 6 ++ [(.eq (w firstE) (v 8), true), (.eq (w (add firstE (l 1))) (v 9), true)]
  | .p46 => atPc 46 ++ rng (w nextE) 0 9
  | .p47 => atPc 47
  | .p48 => atPc 48
  | .p49 => atPc 49
  | .p40 => atPc 40 ++ rng (v 15) 0 5 ++ rng (v 33) (-1) 5 ++ [(.lt (.bin .sub (v 20) (l 1)) linkE, false), (.lt linkE (v 20), true), (.lt linkE (.len (.lvar 0)), true)]
  | .p41 => atPc 41
  | .p42 => atPc 42 ++ [(.eq (w headE) (l 0), true), (.eq (w (add headE (l 1))) (v 14), true)]
def FW.fx (a : FW) : List (Cnd × Bool) := a.fs ++ fF
/-- what is behind a step -/
structure To where
  pc : SE
  en : SE := l 0
  want : SE := l 0
  slab : SE := v 2
  obj : SE := v 15
  t : SE := v 14
  f : SE := v 8
  k : SE := v 9
  n : SE := v 10
  last : SE := v 11
  g : SE := .lvar 0
def set1 (a x : SE) : SE := .lset (.lvar 0) a 0 x
def FW.to : FW → To
  | .p30 => { pc := l 31, t := w (add partE (l 1)) }
  | .p31 => { pc := l 34, n := w partE }
  | .p34a => { pc := l 35, g := set1 baseE (l 1) }
  | .p34b => { pc := l 34 }
  | .p35a => { pc := l 37, n := w shelfE, slab := .bin .sub (.cv .i64 (w shelfE)) (l 1) }
  | .p35b => { pc := l 36, n := w shelfE }
  | .p36 => { pc := l 43, want := l 1, g := set1 baseE (l 0) }
  | .p37 => { pc := l 38, f := w firstE }
  | .p38 => { pc := l 39, k := w (add firstE (l 1)) }
  | .p39 => { pc := l 46, obj := .bin .sub (.cv .i64 (v 8)) (l 1), g := .lset (set1 firstE (l 0)) (add firstE (l 1)) 0 (v 34) }
  | .p46 => { pc := l 47, n := w nextE }
  | .p47 => { pc := l 48, g := set1 shelfE (v 10) }
  | .p48 => { pc := l 49, g := set1 heldE (.ubin .add (w heldE) (l 18446744073709551615)) }
  | .p49 => { pc := l 40, g := set1 baseE (l 0) }
  | .p40 => { pc := l 41, last := v 33 }
  | .p41 => { pc := l 42, t := w (add headE (l 1)) }
  | .p42 => { pc := l 42, en := l 1, g := .lset (set1 headE (v 34)) (add headE (l 1)) 0 (.ubin .add (v 14) (l 1)) }
  | .idleF => { pc := v 6 }
  | .idleP => { pc := v 6 }
/-- numbers of a task, each where it is to be found -/
structure Tn where
  pc : SE
  en : SE
  want : SE
  slab : SE
  obj : SE
  t : SE
  f : SE
  k : SE
  n : SE
  last : SE
def taskN (cpu : SE) (x : Tn) : List AV := taskF (.sym .i64 cpu) (.sym .i64 x.pc) (.sym .i64 x.en) (.sym .i64 x.want) (.sym .i64 x.slab) (.sym .i64 x.obj) (.sym .u64 x.t) (.sym .u64 x.f) (.sym .u64 x.k) (.sym .u64 x.n) (.sym .i64 x.last)
/-- numbers, from one on: cpu, Pc, End, Want, Slab, Obj, T, F, K, N, Last; the accesses -/
def resN (r : Nat) : Tn := ⟨v (r + 1), v (r + 2), v (r + 3), v (r + 4), v (r + 5), v (r + 6), v (r + 7), v (r + 8), v (r + 9), v (r + 10)⟩
/-- as a known call: whose; a task's numbers as they come in; where they are then, from one on; the accesses; lists of words -/
def kcStep (whose : List (Cnd × Bool)) (cpu : SE) (x : Tn) (r : Nat) (cnt : SE) (q r2 : Nat) : Kc := { f := 19, args := [.ptr 3002 0, chF, .agg (taskN cpu x)], conds := whose, pre := memF cnt (.lvar q), post := memF (v (r + 11)) (.lvar r2), res := .tup [.agg (taskN (v r) (resN r)), .int .i64 0] }
def kcIdle (whose : List (Cnd × Bool)) (cpu : SE) (x : Tn) (cnt : SE) (q : Nat) : Kc := { f := 19, args := [.ptr 3002 0, chF, .agg (taskN cpu x)], conds := whose, pre := memF cnt (.lvar q), post := memF cnt (.lvar q), res := .tup [.agg [.int .i64 0, .int .i64 0, .int .i64 0, .int .i64 0, .int .i64 0, .int .i64 0, .int .i64 0, .int .u64 0, .int .u64 0, .int .u64 0, .int .u64 0, .int .u64 0, .int .i64 0, .int .i64 0, .int .i64 0, .int .i64 0, .int .i64 0], .int .i64 292] }
def FW.th (a : FW) (r r2 : Nat) : Sub := { v := [(r, v 1), (r + 1, a.to.pc), (r + 2, a.to.en), (r + 3, a.to.want), (r + 4, a.to.slab), (r + 5, a.to.obj), (r + 6, a.to.t), (r + 7, a.to.f), (r + 8, a.to.k), (r + 9, a.to.n), (r + 10, a.to.last), (r + 11, add (v 5) (l 1))], l := [(r2, a.to.g)] }
def x0 : Tn := ⟨v 6, v 7, v 12, v 2, v 15, v 14, v 8, v 9, v 10, v 11⟩
def kcS0 : Kc := kcStep [] (v 1) x0 21 (v 5) 0 1
def kcI0 : Kc := kcIdle [] (v 1) x0 (v 5) 0
def FW.end_ : FW → CT
  | .idleF => kcI0.leaf {}
  | .idleP => kcI0.leaf {}
  | a => kcS0.leaf (a.th 21 1)
theorem runFW (rks : List (Nat × CK)) (a : FW) : treeC Tryz.prog FillTab.gs rks a.kcs [] 30 19 argF TF a.end_ a.fx = true := by
  cases a <;> kernel_rfl
end
end Go.Proofs.YtcbljokbechppaaGreatDoor.Fil
