import Derived.Test.YtllbnoojkgbjiaaGreatFq7
/-
  wainscotlaw22.FastSteps: the forms of its text, both steps within its loop. No condition.
-/
namespace Go.Proofs.YtllbnoojkgbjiaaGreat.Fss
open Go Ex
noncomputable section
def v (i : Nat) : SE := .var i
def l (n : Int) : SE := .lit n
def add (a b : SE) : SE := .bin .add a b
def mul (a b : SE) : SE := .bin .mul a b
def sI (i : Nat) : AV := .sym .i64 (.var i)
def sU (i : Nat) : AV := .sym .u64 (.var i)
def nI (n : Int) : AV := .int .i64 n
def nU (n : Int) : AV := .int .u64 n
def rng (e : SE) (a b : Int) : List (Cnd × Bool) := [(.lt e (l a), false), (.lt e (l b), true)]
/-! numbers: 0 .. 16 the task; 20 .. 25 the chart; 26 what Check answers; 30 how many words; 41 i; 42, 43 accesses; 61 63 64 what a head says; 65 66 (75 76: of nothing) what a link shows; 67 68, 77 78 a new head; 69 70 a new link. Lists: 1 words, 40 the words that came in -/
def chA : List AV := [sI 20, sI 21, sI 22, sI 23, sI 24, sU 25]
def taskA : List AV := [sI 0, sI 1, sI 2, sI 3, sI 4, sI 5, sI 6, sU 7, sU 8, sU 9, sU 10, sU 11, sI 12, sI 13, sI 14, sI 15, sI 16]
def rk40 : List (Nat × CK) := [(40, .int .u64)]
def memB (nm : Nat) (n : SE) (c : SE) : List AV := [.dsl nm n 1, .sym .i64 c]
def wordsB (L : SE) : TB := .recs L [.int .u64] 23
def n30 : SE := v 30
def kcNew (n : AV) (e : SE) (q : Nat) : Kc := { f := 13, args := [n], news := [.cells [.dsl (rel + 1) e 1, nI 0] 48, wordsB (.lvar q)], res := .tup [.ptr rel 0, nI 0] }
def kcRNew (n : AV) (e : SE) (q : Nat) : Kc := { f := 14, args := [n], news := [.cells [.dsl (rel + 1) e 1, nI 0] 66, wordsB (.lvar q)], res := .tup [.ptr rel 0, nI 0] }
def kcRCount (r : AV) : Kc := { f := 12, args := [.agg chA], res := r }
/-! laid; numbers: 41 i, 42 accesses. Lists: 0 zeros, 1 words -/
def nA : Bool → AV
  | true => sI 30
  | false => nI 64
def nE : Bool → SE
  | true => v 30
  | false => l 64
def TLaid (b : Bool) : Tm := { env := [(0, .rsl 40), (6, nA b), (7, .ptr 1 0), (9, .ptr 3 0), (11, sI 41)], heap := [(1, .cells (memB 2 (nE b) (v 42)) 48), (2, wordsB (.lvar 1)), (3, .cells (memB 4 (nE b) (v 42)) 66), (4, wordsB (.lvar 1))], b := ⟨44, 2, 0, 5⟩ }
def TLaidX (b : Bool) : Tm := { env := [(7, .ptr 1 0), (9, .ptr 3 0)], heap := [(1, .cells (memB 2 (nE b) (v 42)) 48), (2, wordsB (.lvar 1)), (3, .cells (memB 4 (nE b) (v 42)) 66), (4, wordsB (.lvar 1))], b := ⟨44, 2, 0, 5⟩ }
def LLaid (x : Nat) (b : Bool) : Ln := { key := 7, nx := 5, t := TLaid b, th := { v := [(41, l 0), (42, l 0)], l := [(1, .lvar 0)] }, x := .exit x, post := TLaidX b }
def atW (L : Nat) (e : SE) : SE := .at (.lvar L) e 0
def setW (L e x : SE) : SE := .lset L e 0 x
def contLaid : LT := .leaf (.cont { v := [(41, add (v 41) (l 1)), (42, add (v 42) (l 1))], l := [(1, setW (.lvar 1) (v 41) (atW 40 (v 41)))] })
def dLaid (b : Bool) : LT := .node (.lt (v 41) (nE b)) (.node (.lt (v 41) (.len (.lvar 40))) (.node (.lt (v 41) (.len (.lvar 1))) (.node (.lt (.bin .sub (nE b) (l 1)) (v 41)) .bad contLaid) .bad) (.leaf (.out {}))) (.leaf (.out {}))
def fLaid (b : Bool) : List (Cnd × Bool) := rng (v 41) 0 5000 ++ rng (v 42) 0 5000 ++ (if b then rng (v 30) 1 4097 else [])
def runLL (x : Nat) (b : Bool) : Bool := treeL Tryz.prog [] rk40 (kgs []) [] 30 (ntOf Tryz.prog 4) 5 (loopOf Tryz.prog 4 7) (TLaid b) (.exit x) (TLaidX b) (dLaid b) (fLaid b)
/-- .. as a known call -/
def kcLaid (b : Bool) : Kc := { f := 4, args := [.rsl 40, .agg chA], news := [.cells [.dsl (rel + 1) (v 30) 1, sI 42] 48, wordsB (.lvar 1), .cells [.dsl (rel + 3) (v 30) 1, sI 42] 66, wordsB (.lvar 1)], res := .tup [.ptr rel 0, .ptr (rel + 2) 0] }
def kcsLaid (b : Bool) : Kg := kgs [kcRCount (if b then sI 30 else nI 0), kcNew (nA b) (nE b) 0, kcRNew (nA b) (nE b) 0]
def thLaid : Sub := { n := [(rel, 1), (rel + 1, 2), (rel + 2, 3), (rel + 3, 4)] }
def fLd : Bool → List (Cnd × Bool)
  | true => rng (v 30) 1 4097
  | false => [(.eq (v 30) (l 64), true), (.eq (l 64) (v 30), true)]
def runLaid (x : Nat) (b : Bool) : Bool := treeC Tryz.prog [] rk40 (kcsLaid b) [LLaid x b] 30 4 [.rsl 40, .agg chA] ⟨[], [], ⟨44, 0, 0, 0⟩⟩ ((kcLaid b).leaf thLaid) (fLd b)
/-! the loop of the law -/
def T (c : SE) (L : SE) (ts : List AV) : Tm := { env := [(4, .ptr 0 0), (5, .ptr 1 0), (7, .ptr 2 0), (8, .ptr 4 0), (9, sI 41)], heap := [(0, .cells chA 25), (1, .cells ts 27), (2, .cells (memB 3 (v 30) c) 48), (3, wordsB L), (4, .cells (memB 5 (v 30) c) 66), (5, wordsB L)], b := ⟨50, 2, 0, 6⟩ }
def T0 : Tm := T (v 42) (.lvar 1) taskA
def TX : Tm := { env := [], heap := [], b := ⟨0, 0, 0, 6⟩ }
def LS (x : Nat) : Ln := { key := 5, nx := 6, t := T0, th := { v := [(41, l 0)] }, x := .exit x, post := TX }
/-! places -/
def base : SE := mul (l 4) (v 20)
def slabs : SE := add base (l 4)
def links : SE := add slabs (mul (l 4) (v 21))
def headE : SE := mul (l 4) (v 1)
def turnE : SE := add headE (l 1)
def linkE : SE := add (add links (mul (v 5) (v 22))) (v 6)
def keyE : SE := .ubin .add (v 25) (.ubin .mul (.cv .u64 (v 5)) (l 11400714819323198485))
def wHead : SE := atW 1 headE
def wTurn : SE := atW 1 turnE
def wLink : SE := atW 1 linkE
/-! known calls -/
def kcCheck (f : Nat) : Kc := { f := f, args := [.agg chA], res := sI 26 }
def kcHeadOf (f : Nat) : List Kc := [{ f := f, args := [.sym .u64 wHead], conds := [(.eq (v 61) (l 1), true)], res := .tup [sI 63, sI 64, .bool true] }, { f := f, args := [.sym .u64 wHead], conds := [(.eq (v 61) (l 1), false)], res := .tup [nI (-1), nI (-1), .bool false] }, { f := f, args := [nU 0], res := .tup [nI (-1), nI (-1), .bool true] }]
def kcShow2 (f i : Nat) (x : AV) : List Kc := [{ f := f, args := [x, .sym .u64 keyE, sI 6], conds := [(.eq (v i) (l 1), true)], res := .tup [sI (i + 1), .bool true] }, { f := f, args := [x, .sym .u64 keyE, sI 6], conds := [(.eq (v i) (l 1), false)], res := .tup [nI 0, .bool false] }]
def kcHead2 (f o i : Nat) : List Kc := [{ f := f, args := [sI 5, sI o], conds := [(.eq (v i) (l 0), true)], res := .tup [sU (i + 1), nI 0] }, { f := f, args := [sI 5, sI o], conds := [(.eq (v i) (l 0), false)], res := .tup [nU 0, nI 2] }]
def kcHide2 (f : Nat) : List Kc := [{ f := f, args := [sI 12, .sym .u64 keyE, sI 6], conds := [(.eq (v 69) (l 0), true)], res := .tup [sU 70, nI 0] }, { f := f, args := [sI 12, .sym .u64 keyE, sI 6], conds := [(.eq (v 69) (l 0), false)], res := .tup [nU 0, nI 2] }]
/-- the words behind a step -/
def lSwap (o : Nat) : SE := setW (setW (.lvar 1) headE (v o)) turnE (.ubin .add (v 8) (l 1))
def lTie : SE := setW (.lvar 1) linkE (v 70)
def lists : List SE := [.lvar 1, lSwap 68, lSwap 78, lTie]
def kcClone (L : SE) : Kc := { f := 29, args := [.dsl 3 (v 30) 1], pre := [(3, wordsB L)], post := [(3, wordsB L)], news := [wordsB L], res := .dsl rel (v 30) 1 }
def kcRW (c L : SE) : Kc := { f := 10, args := [.ptr 4 0], pre := [(4, .cells (memB 5 (v 30) c) 66), (5, wordsB L)], post := [(4, .cells (memB 5 (v 30) c) 66), (5, wordsB L)], news := [wordsB L], res := .dsl rel (v 30) 1 }
def kcEqW (a b : Nat) (L : SE) : Kc := { f := 8, args := [.dsl a (v 30) 1, .dsl b (v 30) 1], pre := [(a, wordsB L), (b, wordsB L)], post := [(a, wordsB L), (b, wordsB L)], res := .bool true }
def kgEq (Ls : List SE) : Kg := fun args => match args with
  | [.dsl a _ _, .dsl b _ _] => match Nat.blt a 600000 && (Nat.blt b 600000 && Nat.blt a b) with
    | true => Ls.map (kcEqW a b)
    | false => []
  | _ => []
def c1 : SE := add (v 42) (l 1)
def kcPure : List Kc := [kcCheck 18, kcCheck 45] ++ kcHeadOf 94 ++ kcHeadOf 75 ++ kcShow2 69 65 (.sym .u64 wLink) ++ kcShow2 51 65 (.sym .u64 wLink) ++ kcShow2 69 75 (nU 0) ++ kcHead2 60 12 67 ++ kcHead2 54 12 67 ++ kcHead2 60 6 77 ++ kcHead2 54 6 77 ++ kcHide2 71 ++ kcHide2 53
def kcsS : Kg := fun args => kgs (kcPure ++ [kcClone (.lvar 1), kcClone (lSwap 68), kcClone (lSwap 78), kcClone lTie, kcRW (v 42) (.lvar 1), kcRW c1 (.lvar 1), kcRW c1 (lSwap 68), kcRW c1 (lSwap 78), kcRW c1 lTie]) args ++ kgEq lists args
/-! questions -/
def next (u : List (Nat × SE)) (c : SE) (L : SE) : LT := .leaf (.cont { v := u ++ [(41, add (v 41) (l 1)), (42, c)], l := [(1, L)] })
def go (u : List (Nat × SE)) : LT := next u c1 (.lvar 1)
def brk (c : SE) : LT := next [(3, l 3)] c (.lvar 1)
def none_ : LT := .leaf (.out {})
def q (a : Cnd) (y n : LT) : LT := .node a y n
def inW (e : SE) (many : Int) (y : LT) : LT := q (.lt (.bin .sub (v 30) (l many)) e) .bad (q (.lt e (v 30)) (q (.lt e (.len (.lvar 1))) y .bad) .bad)
def cpuQ (y n : LT) : LT := q (.lt (v 1) (l 0)) n (q (.lt (v 1) (v 20)) (q (.lt (v 1) (l 8)) y .bad) n)
def linkQ (y n : LT) : LT := q (.lt (v 5) (l 0)) n (q (.lt (v 5) (v 21)) (q (.lt (v 5) (l 32)) (q (.lt (v 6) (l 0)) n (q (.lt (v 6) (v 22)) (q (.lt (v 6) (l 16)) (inW linkE 1 y) .bad) n)) .bad) n)
/-- all of 33 < 0, 34 < 0, 33 < slabs, 34 < objects -/
def headQ (f : Bool → Bool → LT) (n : LT) : LT := q (.lt (v 63) (l 0)) (q (.lt (v 64) (l 0)) (fits true true) (fits true false)) (q (.lt (v 64) (l 0)) (fits false true) (fits false false))
where fits (a b : Bool) : LT := q (.lt (v 63) (v 21)) (q (.lt (v 64) (v 22)) (f a b) n) (q (.lt (v 64) (v 22)) n n)
def d0 : LT := cpuQ (inW turnE 1 (go [(8, wTurn), (2, add (v 2) (l 1))])) (brk (v 42))
def dLook : LT := cpuQ (inW headE 1 (q (.eq (v 61) (l 1)) (headQ (fun a b => go [(7, wHead), (5, v 63), (6, v 64), (2, if a then l 30 else if b then l 20 else l 2)]) (brk c1)) (brk c1))) (brk (v 42))
def dMine : LT := cpuQ (inW headE 1 (q (.eq (v 61) (l 1)) (q (.eq (v 63) (v 5)) (headQ (fun _ _ => go [(7, wHead), (12, v 64), (2, l 12)]) (brk c1)) (headQ (fun _ _ => go [(7, wHead), (2, l 50)]) (brk c1))) (q (.eq (l (-1)) (v 5)) (brk c1) (brk c1)))) (q (.eq (l (-1)) (v 5)) (brk (v 42)) (brk (v 42)))
def dNext : LT := linkQ (q (.eq (v 65) (l 1)) (q (.lt (v 66) (v 22)) (go [(12, v 66), (2, l 3)]) (go [(2, l 0)])) (go [(2, l 0)])) (q (.eq (v 75) (l 1)) (q (.lt (v 76) (v 22)) (brk (v 42)) (brk (v 42))) (brk (v 42)))
def dSwap (i : Nat) (again : Int) : LT := q (.eq (v i) (l 0)) (cpuQ (inW headE 2 (q (.lt turnE (v 30)) (q (.lt turnE (.len (.lvar 1))) (q (.eq wHead (v 7)) (q (.eq wTurn (v 8)) (next [(3, l 1)] c1 (lSwap (i + 1))) (go [(2, l again)])) (go [(2, l again)])) .bad) .bad)) (brk (v 42))) (brk (v 42))
def dTie : LT := q (.eq (v 69) (l 0)) (linkQ (next [(2, l 13)] c1 lTie) (brk (v 42))) (brk (v 42))
def dNo : LT := q (.lt (v 2) (l 0)) none_ (q (.lt (l 13) (v 2)) none_ (q (.lt (l 3) (v 2)) (q (.lt (v 2) (l 10)) none_ .bad) .bad))
def dPc : LT := q (.eq (v 2) (l 0)) d0 (q (.eq (v 2) (l 1)) dLook (q (.eq (v 2) (l 2)) dNext (q (.eq (v 2) (l 3)) (dSwap 67 0) (q (.eq (v 2) (l 10)) d0 (q (.eq (v 2) (l 11)) dMine (q (.eq (v 2) (l 12)) dTie (q (.eq (v 2) (l 13)) (dSwap 77 10) dNo)))))))
def dEnd (y : LT) : LT := q (.lt (v 41) (l 12)) y none_
/-- .. of a task that runs; of another one -/
def dAll : LT := dEnd (q (.eq (v 3) (l 0)) (q (.eq (v 4) (l 0)) dPc dOdd) dOdd)
where dOdd : LT := q (.eq (v 2) (l 0)) none_ (q (.eq (v 2) (l 1)) none_ (q (.eq (v 2) (l 2)) none_ (q (.eq (v 2) (l 3)) none_ (q (.eq (v 2) (l 10)) none_ (q (.eq (v 2) (l 11)) none_ (q (.eq (v 2) (l 12)) none_ (q (.eq (v 2) (l 13)) none_ dNo)))))))
/-- what is known at a place: those ahead of it are none -/
def pcs : List Int := [0, 1, 2, 3, 10, 11, 12, 13]
def fNot : Nat → List (Cnd × Bool)
  | 0 => []
  | n + 1 => (.eq (v 2) (l (pcs.getD n 0)), false) :: fNot n
def fAt (n : Nat) : List (Cnd × Bool) := (.eq (v 2) (l (pcs.getD n 0)), true) :: fNot n
def fC (b : Bool) : List (Cnd × Bool) := [(.eq (v 26) (l 0), b)]
def fS : List (Cnd × Bool) := fC true ++ rng (v 20) 1 9 ++ rng (v 21) 1 33 ++ rng (v 22) 1 17 ++ rng (v 30) 1 4097 ++ rng (v 41) 0 100 ++ rng (v 42) 0 5000 ++ [(.lt c1 (v 42), false)]
def fRun : List (Cnd × Bool) := (.eq (v 4) (l 0), true) :: (.eq (v 3) (l 0), true) :: (.lt (v 41) (l 12), true) :: fS
def fOdd3 : List (Cnd × Bool) := (.eq (v 3) (l 0), false) :: (.lt (v 41) (l 12), true) :: fS
def fOdd4 : List (Cnd × Bool) := (.eq (v 4) (l 0), false) :: (.eq (v 3) (l 0), true) :: (.lt (v 41) (l 12), true) :: fS
def fSo : List (Cnd × Bool) := fC false ++ rng (v 30) 1 4097 ++ rng (v 41) 0 100 ++ rng (v 42) 0 5000 ++ [(.lt c1 (v 42), false)]
def runS (x : Nat) (d : LT) (f : List (Cnd × Bool)) : Bool := treeL Tryz.prog [] rk40 kcsS [] 30 (ntOf Tryz.prog 3) 6 (loopOf Tryz.prog 3 5) T0 (.exit x) TX d f
def kcWorks : Kc := { f := 11, args := [], res := .bool true }
def kcsA (b : Bool) : Kg := kgs [kcLaid b, kcWorks]
def runA (x : Nat) (b : Bool) : Bool := treeC Tryz.prog [] rk40 (kcsA b) [LS x] 30 3 [.rsl 40, .agg chA, .agg taskA] ⟨[], [], ⟨0, 0, 0, 0⟩⟩ (.is (.bool true) []) (fLd b)
end
end Go.Proofs.YtllbnoojkgbjiaaGreat.Fss
