import Derived.Test.YtcbljokbechppaaGreatDoorBk7
import Derived.Test.YtcbljokbechppaaGreatDoorBkTab
import Derived.Test.YtcbljokbechppaaGreatDoorBkKcSeeL
import Derived.Test.YtcbljokbechppaaGreatDoorBk11
/-
  wainscotlaw24.slabbed, and wainscotlaw24.FillAlone: the runs of their texts. No condition.
-/
namespace Go.Proofs.YtcbljokbechppaaGreatDoor.Fa
open Go Ex
noncomputable section
def v (i : Nat) : SE := .var i
def l (n : Int) : SE := .lit n
def add (a b : SE) : SE := .bin .add a b
def rng (e : SE) (a b : Int) : List (Cnd × Bool) := [(.lt e (l a), false), (.lt e (l b), true)]
def kE : SE := .bin .add (l 1) (v 0)
def wordsE : SE := add (l 24) (.bin .mul (l 4) kE)
def keyC : SE := .ubin .mul (.cv .u64 kE) (l 5)
def chA (key : SE) : List AV := [.int .i64 1, .int .i64 4, .sym .i64 kE, .int .i64 0, .int .i64 0, .sym .u64 key]
def memB (nm : Nat) (n : SE) (c : AV) : List AV := [.dsl nm n 1, c]
def wordsB (L : SE) : TB := .recs L [.int .u64] 22
def memA (M : Nat) (cnt : SE) (L : SE) : List (Nat × TB) := [(M, .cells (memB (M + 1) wordsE (.sym .i64 cnt)) 90), (M + 1, wordsB L)]
def kcNew (q : Nat) : Kc := { f := 23, args := [.sym .i64 wordsE], news := [.cells (memB (rel + 1) wordsE (.int .i64 0)) 90, wordsB (.lvar q)], res := .tup [.ptr rel 0, .int .i64 0] }
def keyS (key : SE) (s : Int) : SE := .ubin .add key (l (s * 11400714819323198485 % 18446744073709551616))
def kcFresh (own key : SE) (q : Nat) : Kc := { f := 30, args := [.sym .i64 own, .sym .u64 key], news := [wordsB (.lvar q)], res := .tup [.dsl rel (.len (.lvar q)) 1, .int .i64 0] }
def kcPack (i o : SE) (fz : Bool) (r : Nat) : Kc := { f := 20, args := [.agg [.sym .i64 i, .sym .i64 o, .bool fz, .bool true]], res := .tup [.sym .u64 (v r), .int .i64 0] }
/-! slabbed: numbers: 0 objects less one, 1 own, 3 key, 5 accesses, 6 i, 7 accesses in the loop; 30 the counts' word. Lists: 0 words, 1 links, 2 words in the loop -/
def linkE (s : Int) (i : SE) : SE := add (add (l 24) (.bin .mul (l s) kE)) i
def firstE (s : Int) : Int := 8 + 4 * s
def argS (M : Nat) (s : Int) (fz : Bool) : List AV := [.ptr M 0, .agg (chA (v 3)), .int .i64 s, .sym .i64 (v 1), .bool fz]
def kcsS (s : Int) (fz : Bool) : Kg := kgs [kcFresh (v 1) (keyS (v 3) s) 1, kcPack (.bin .sub kE (v 1)) kE fz 30]
def fS : List (Cnd × Bool) := (.lt (.len (.lvar 1)) (v 1), false) :: rng (v 0) 0 16 ++ rng (v 1) 1 17 ++ rng (v 5) 0 300 ++ rng (.len (.lvar 0)) 28 89
def TS (M : Nat) (s : Int) (i : Bool) : Tm := { env := (if i then [(15, .sym .i64 (v 6)), (11, .dsl 42 (.len (.lvar 1)) 1)] else []) ++ [(0, .ptr M 0), (2, .int .i64 s), (3, .sym .i64 (v 1)), (6, .ptr 40 0), (13, .sym .u64 (v 30))], heap := memA M (v 7) (.lvar 2) ++ [(40, .cells (chA (v 3)) 33)] ++ (if i then [(42, wordsB (.lvar 1))] else []), b := ⟨31, 3, 0, 50⟩ }
def LS (M : Nat) (s : Int) : Ln := { key := 6, nx := 43, t := TS M s true, th := { v := [(6, l 0), (7, v 5)], l := [(2, .lvar 0)] }, x := .exit 0, post := TS M s false }
def fS1 (s : Int) : List (Cnd × Bool) := rng (v 0) 0 16 ++ rng (v 1) 1 17 ++ rng (v 6) 0 17 ++ rng (v 7) 0 400 ++ [(.lt (v 6) kE, true), (.lt (.bin .sub wordsE (l 1)) (linkE s (v 6)), false), (.lt (linkE s (v 6)) wordsE, true), (.lt (linkE s (v 6)) (.len (.lvar 2)), true)]
def contS (s : Int) : LT := .leaf (.cont { v := [(6, .bin .add (v 6) (l 1)), (7, .bin .add (v 7) (l 1))], l := [(2, .lset (.lvar 2) (linkE s (v 6)) 0 (.at (.lvar 1) (v 6) 0))] })
def outS : LT := .leaf (.out {})
def fSc (s : Int) : List (Cnd × Bool) := (.lt (v 6) (v 1), true) :: (.lt (v 6) (.len (.lvar 1)), true) :: fS1 s
def fSo : List (Cnd × Bool) := [(.lt (v 6) (v 1), false)]
def runS1 (M : Nat) (s : Int) (d : LT) (f : List (Cnd × Bool)) : Bool := treeL Tryz.prog FillTab.gs [(40, .int .i64)] (kgs []) [] 30 (ntOf Tryz.prog 13) 43 (loopOf Tryz.prog 13 6) (TS M s true) (.exit 0) (TS M s false) d f
/-- as a known call: the memory's name; the slab; own, key; frozen; the words, the accesses as they come in; where they are then -/
def kcSlab (M : Nat) (s : Int) (own key : SE) (fz : Bool) (L cnt : SE) (r rcnt : Nat) : Kc := { f := 13, args := [.ptr M 0, .agg (chA key), .int .i64 s, .sym .i64 own, .bool fz], pre := memA M cnt L, post := memA M (v rcnt) (.lvar r), res := .bool true }
def endL (s : Int) : SE := .lset (.lset (.lvar 2) (l (firstE s)) 0 (l 1)) (l (firstE s + 1)) 0 (v 30)
def thS (s : Int) (r rcnt : Nat) : Sub := { v := [(rcnt, .bin .add (.bin .add (v 7) (l 1)) (l 1))], l := [(r, endL s)] }
def fS2 : List (Cnd × Bool) := fS ++ rng (v 7) 0 400 ++ rng (.len (.lvar 2)) 28 89
def runS (M : Nat) (s : Int) (fz : Bool) : Bool := treeC Tryz.prog FillTab.gs [(40, .int .i64)] (kcsS s fz) [LS M s] 30 13 (argS M s fz) ⟨[], memA M (v 5) (.lvar 0), ⟨8, 1, 0, 40⟩⟩ ((kcSlab M s (v 1) (v 3) fz (.lvar 0) (v 5) 20 20).leaf (thS s 20 20)) fS2
/-! the whole text: m slabs on the shelf, one kept or not. Numbers: 0 objects less one, 4 key, 21 .. 23 how many objects less one, 24 of the kept one; 40 + s accesses behind slabbed(s); 30 objects as they came in. Lists: 0 zeros, 10 + s words behind slabbed(s), 40 own -/
def ownE (s : Nat) : SE := .bin .add (l 1) (v (21 + s))
def wAt (q : Nat) (i : Int) : SE := .at (.lvar q) (l i) 0
/-- the words when the slab s stands on the shelf -/
def shelved (s : Nat) : SE := .lset (.lset (.lset (.lvar (10 + s)) (l (10 + 4 * s)) 0 (wAt (10 + s) 5)) (l 5) 0 (l (s + 1))) (l 6) 0 (.ubin .add (wAt (10 + s) 6) (l 1))
def plus : Nat → SE → SE
  | 0, e => e
  | n + 1, e => plus n (.bin .add e (l 1))
/-- .. before the slab s is laid, of m -/
def before (m s : Nat) : SE := if s + 1 = m then .lvar 0 else shelved (s + 1)
def cntB (m s : Nat) : SE := if s + 1 = m then l 0 else plus 4 (v (40 + (s + 1)))
def slabsK (M m : Nat) : Nat → List Kc
  | 0 => []
  | s + 1 => kcSlab M s (ownE s) keyC false (before m s) (cntB m s) (10 + s) (40 + s) :: slabsK M m s
def laid (m : Nat) : SE := if m = 0 then .lvar 0 else shelved 0
def cntL (m : Nat) : SE := if m = 0 then l 0 else plus 4 (v 40)
def memN (m : Nat) : Nat := 23 + 2 * m
def kcBringS (x : AV) (n : SE) (r : Nat) : Kc := { f := 10, args := [x, .sym .i64 n], res := .sym .i64 (v r) }
def kcBringL (x : AV) (r : Nat) : Kc := kcBringS x kE r
def bringsK : Nat → List Kc
  | 0 => []
  | s + 1 => kcBringL (.sym .i64 (.at (.lvar 40) (l s) 0)) (21 + s) :: bringsK s
/-! the steps: 50 Inuse, 51 the counts that are to be, 52 what the link shows, 53 the head's word -/
def lensF : List Nat → List (Cnd × Bool)
  | [] => []
  | q :: r => rng (.len (.lvar q)) 28 89 ++ lensF r
def cntsF : List Nat → List (Cnd × Bool)
  | [] => []
  | q :: r => rng (v q) 0 300 ++ cntsF r
/-- which list the words are, which slab is taken -/
def baseQ (m : Nat) (kept : Bool) : Nat := if kept then 13 else if m = 0 then 0 else 10
def slabT (kept : Bool) : Int := if kept then 3 else 0
def wX (m : Nat) (kept : Bool) (e : SE) : SE := .at (.lvar (baseQ m kept)) e 0
def wB (m : Nat) (kept : Bool) (i : Int) : SE := wX m kept (l i)
/-- the slab, as it was read off the shelf -/
def sE : SE := .bin .sub (.cv .i64 (l 1)) (l 1)
def slabAV (kept : Bool) : AV := if kept then .int .i64 3 else .sym .i64 sE
def firstA (kept : Bool) : SE := if kept then l 20 else add (l 8) (.bin .mul (l 4) sE)
def first1 (kept : Bool) : SE := if kept then l 21 else add (firstA false) (l 1)
def nextA (kept : Bool) : SE := if kept then l 22 else add (firstA false) (l 2)
def objE (m : Nat) (kept : Bool) : SE := .bin .sub (.cv .i64 (wX m kept (firstA kept))) (l 1)
def linkA (m : Nat) (kept : Bool) : SE := add (add (l 24) (.bin .mul (if kept then l 3 else sE) kE)) (objE m kept)
def keyT (kept : Bool) : SE := if kept then keyS keyC 3 else .ubin .add keyC (.ubin .mul (.cv .u64 sE) (l 11400714819323198485))
def kcPartOf (e : SE) (s n : Int) : Kc := { f := 91, args := [.sym .u64 e], res := .tup [.int .i64 s, .int .i64 n, .bool true] }
def kcCounts (K : SE) (fz : Bool) : Kc := { f := 65, args := [.sym .u64 K], res := .tup [.agg [.sym .i64 (v 50), .sym .i64 kE, .bool fz, .bool true], .bool true] }
def kcShow (x e n : SE) : Kc := { f := 102, args := [.sym .u64 x, .sym .u64 e, .sym .i64 n], res := .tup [.sym .i64 (v 52), .bool true] }
def kcHead (s : AV) : Kc := { f := 89, args := [s, .sym .i64 (v 52)], res := .tup [.sym .u64 (v 53), .int .i64 0] }
def kcsT (m : Nat) (kept : Bool) : List Kc := [kcPartOf (l 68) 3 1, kcPartOf (wB m kept 2) (-1) 0, kcPartOf (wB m kept 22) (-1) 0, kcPack kE kE true 51] ++ (if kept || m != 0 then [kcCounts (wX m kept (first1 kept)) kept, kcShow (wX m kept (linkA m kept)) (keyT kept) (objE m kept), kcHead (slabAV kept)] else [])
def fT (m : Nat) (kept : Bool) : List (Cnd × Bool) := lensF [0, 10, 11, 12, 13] ++ cntsF [40, 41, 42, 43] ++ [(.eq (wB m kept 0) (l 0), true), (.eq (wB m kept 2) (l 0), true), (.eq (wB m kept 4) (l 0), true)] ++ (if kept || m != 0 then [(.eq (wX m kept (firstA kept)) (l 1), true)] ++ rng (v 52) (-1) 16 ++ [(.lt (v 52) kE, true)] ++ rng (wB m kept 5) 0 5 ++ [(.lt (.bin .sub wordsE (l 1)) (linkA m kept), false), (.lt (linkA m kept) wordsE, true), (.lt (linkA m kept) (.len (.lvar (baseQ m kept))), true), (.eq (l 10) (nextA kept), kept == false), (.eq (nextA kept) (l 10), kept == false)] else [(.eq (wB m kept 5) (l 0), true)])
def fLen (m : Nat) (b : Bool) : List (Cnd × Bool) := if m = 3 then [(.lt (l 0) (.len (.lvar 40)), true), (.lt (l 1) (.len (.lvar 40)), true), (.lt (l 2) (.len (.lvar 40)), true), (.lt (l 3) (.len (.lvar 40)), b)] else [(.eq (.len (.lvar 40)) (l m), true)]
def kcWorks : Kc := { f := 9, args := [], res := .bool true }
/-- the words behind the steps -/
def setL (L : SE) (a x : SE) : SE := .lset L a 0 x
def up1 (e : SE) : SE := .ubin .add e (l 1)
def endA (m : Nat) (kept : Bool) : SE :=
  if kept then setL (setL (setL (setL (setL (setL (setL (.lvar 13) (l 2) (l 68)) (l 2) (wAt 13 22)) (l 3) (up1 (wAt 13 3))) (l 20) (l 0)) (l 21) (v 51)) (l 0) (v 53)) (l 1) (up1 (wAt 13 1))
  else if m = 0 then setL (setL (.lvar 0) (l 4) (l 1)) (l 4) (l 0)
  else setL (setL (setL (setL (setL (setL (setL (setL (shelved 0) (l 4) (l 1)) (firstA false) (l 0)) (first1 false) (v 51)) (l 5) (wAt 10 5)) (l 6) (.ubin .add (up1 (wAt 10 6)) (l 18446744073709551615))) (l 4) (l 0)) (l 0) (v 53)) (l 1) (up1 (wAt 10 1))
def kcClone (M : Nat) (L : SE) : Kc := { f := 44, args := [.dsl (M + 1) wordsE 1], pre := [(M + 1, wordsB L)], post := [(M + 1, wordsB L)], news := [wordsB (.lvar 9)], res := .dsl rel (.len (.lvar 9)) 1 }
/-- what is asked of what was seen: 100 .. -/
def fSee (m : Nat) (kept : Bool) : List (Cnd × Bool) := [(.eq (v 105) (l 0), true)] ++ (if kept || m != 0 then
  let s : Nat := if kept then 3 else 0
  [(.eq sE (l 0), true), (.eq (l 0) sE, true), (.eq (objE m kept) (l 0), true), (.eq (v 100) (l s), true), (.eq (v 101) (.bin .sub (ownE s) (l 1)), true), (.eq (v 103) (l 0), true), (.eq (v 104) (l (if kept then m else m - 1 : Nat)), true), (.eq (v (110 + 5 * s)) (l 0), true), (.eq (v (106 + 5 * s)) kE, true), (.eq (v (107 + 5 * s)) kE, true), (.eq (v (108 + 5 * s)) (l 0), false), (.eq (v (109 + 5 * s)) (l 0), false)] else [])
def kcsA (m : Nat) (kept : Bool) : Kg := fun args => kgs (kcsT m kept ++ [kcClone (memN m) (endA m kept)] ++ [kcBringS (.sym .i64 (v 30)) (l 16) 0, kcBringL (.sym .i64 (.len (.lvar 40))) 24, kcNew 0, kcWorks] ++ bringsK m ++ slabsK (memN m) m m ++ (if kept then [kcSlab (memN m) 3 (ownE 3) keyC true (laid m) (cntL m) 13 43] else [])) args ++ kgSl (fun nm => kcSeeL nm 9 (.agg (chA keyC)) 1 4 100) args
def fA (m : Nat) (b : Bool) : List (Cnd × Bool) := fLen m b ++ rng (v 0) 0 16 ++ rng (v 21) 0 16 ++ rng (v 22) 0 16 ++ rng (v 23) 0 16 ++ rng (v 24) 0 16
def argA (kept : Bool) : List AV := [.sym .i64 (v 30), .bool kept, .rsl 40]
def fX (m : Nat) (kept b : Bool) : List (Cnd × Bool) := fA m b ++ fT m kept ++ fSee m kept
def runA (m : Nat) (kept b : Bool) : Bool := treeC Tryz.prog FillTab.gs [(40, .int .i64)] (kcsA m kept) [] 30 4 (argA kept) ⟨[], [], ⟨0, 0, 0, 0⟩⟩ (.is (.bool true) []) (fX m kept b)
end
end Go.Proofs.YtcbljokbechppaaGreatDoor.Fa
