import Derived.Test.YtcbljokbechppaaBk7
/-
  wainscotlaw23.slabbed: the runs of its text. No condition.
-/
namespace Go.Proofs.Ytcbljokbechppaa.Back
open Go Ex
noncomputable section
def v (i : Nat) : SE := .var i
def l (n : Int) : SE := .lit n
/-! a memory, a chart -/
def wordsE (k : SE) : SE := .bin .add (l 16) (.bin .mul (l 2) k)
def keyE (key : SE) : SE := .ubin .add key (l 11400714819323198485)
def memB (nm : Nat) (n : SE) (c : AV) : List AV := [.dsl nm n 1, c]
def wordsB (q : Nat) : TB := .recs (.lvar q) [.int .u64] 26
/-- a number of objects: one more than a number below sixteen -/
def kE (i : Nat) : SE := .bin .add (l 1) (v i)
def chA (k mn cp key : Nat) : List AV := [.int .i64 1, .int .i64 2, .sym .i64 (kE k), .sym .i64 (v mn), .sym .i64 (v cp), .sym .u64 (v key)]
def ch0 : List AV := [.int .i64 0, .int .i64 0, .int .i64 0, .int .i64 0, .int .i64 0, .int .u64 0]
/-! calls that are known -/
def kcNew (n : SE) (q : Nat) : Kc := { f := 20, args := [.sym .i64 n], news := [.cells (memB (rel + 1) n (.int .i64 0)) 82, wordsB q], res := .tup [.ptr rel 0, .int .i64 0] }
def kcFresh (n : AV) (key : SE) (q : Nat) : Kc := { f := 22, args := [n, .sym .u64 key], news := [wordsB q], res := .tup [.dsl rel (.len (.lvar q)) 1, .int .i64 0] }
def kcPack (i o : SE) (fz : Bool) (r : Nat) : Kc := { f := 24, args := [.agg [.sym .i64 i, .sym .i64 o, .bool fz, .bool true]], res := .tup [.sym .u64 (v r), .int .i64 0] }
/-! slabbed: numbers: objects less one, own, key, Min, Cap, the counts' word, i, the accesses. z: own is zero -/
def kcsS (fz z : Bool) : Kg := kgs [kcNew (wordsE (kE 0)) 0, kcFresh (if z then .int .i64 1 else .sym .i64 (v 1)) (keyE (v 2)) 1, kcPack (.bin .sub (kE 0) (v 1)) (kE 0) fz 5]
def linkE (i : SE) : SE := .bin .add (.bin .add (l 16) (.bin .mul (l 1) (kE 0))) i
def howL (fz sh : Bool) : List AV := [.bool fz, .bool sh, .sym .i64 (v 3), .sym .i64 (v 4)]
def TS (fz sh i : Bool) : Tm := { env := (if i then [(17, .sym .i64 (v 6)), (13, .dsl 32 (.len (.lvar 1)) 1)] else []) ++ [(1, .sym .i64 (v 1)), (7, .ptr 0 0), (8, .nilp), (9, .ptr 1 0), (10, .ptr 2 0), (11, .ptr 30 0), (15, .sym .u64 (v 5))], heap := (if i then [(32, wordsB 1)] else []) ++ [(0, .cells (howL fz sh) 23), (1, .cells ch0 28), (2, .cells (chA 0 3 4 2) 28), (30, .cells (memB 31 (wordsE (kE 0)) (.sym .i64 (v 7))) 82), (31, wordsB 2)], b := ⟨8, 3, 0, 40⟩ }
def LS (fz sh : Bool) : Ln := { key := 8, nx := 3, t := TS fz sh true, th := { v := [(6, l 0), (7, l 0)], l := [(2, .lvar 0)], n := [(30, 24), (31, 25), (32, 27)] }, x := .exit 0, post := TS fz sh false }
def fK : List (Cnd × Bool) := [(.lt (v 0) (l 0), false), (.lt (v 0) (l 16), true), (.lt (v 3) (l 0), false), (.lt (v 3) (l 3), true), (.lt (v 4) (l 0), false), (.lt (v 4) (l 3), true)]
def fS1 : List (Cnd × Bool) := [(.lt (v 6) (l 0), false), (.lt (v 6) (l 17), true), (.lt (v 6) (kE 0), true), (.lt (v 7) (l 0), false), (.lt (v 7) (l 100), true), (.lt (.bin .sub (wordsE (kE 0)) (l 1)) (linkE (v 6)), false), (.lt (linkE (v 6)) (wordsE (kE 0)), true), (.lt (linkE (v 6)) (.len (.lvar 2)), true)] ++ fK
def DS : LT := .node (.lt (v 6) (v 1)) (.node (.lt (v 6) (.len (.lvar 1))) (.leaf (.cont { v := [(6, .bin .add (v 6) (l 1)), (7, .bin .add (v 7) (l 1))], l := [(2, .lset (.lvar 2) (linkE (v 6)) 0 (.at (.lvar 1) (v 6) 0))] })) .bad) (.leaf (.out {}))
theorem runS1 (rks : List (Nat × CK)) (fz sh : Bool) : treeL Try.prog [] rks (kgs []) [] 30 (ntOf Try.prog 7) 3 (loopOf Try.prog 7 8) (TS fz sh true) (.exit 0) (TS fz sh false) DS fS1 = true := by
  cases fz <;> cases sh <;> kernel_rfl
def fS (z : Bool) : List (Cnd × Bool) := [(.lt (v 1) (l 0), false), (.lt (v 1) (l 1), z), (.lt (v 1) (l 17), true), (.lt (.len (.lvar 2)) (l 18), false), (.lt (.len (.lvar 2)) (l 100), true), (.lt (v 7) (l 0), false), (.lt (v 7) (l 100), true)] ++ fK
/-- as a known call: numbers of objects less one, own, key, Min, Cap; the memory's list; the count of accesses; the key's number -/
def kcSlab (k : Nat) (own : SE) (key : SE) (fz sh : Bool) (mn cp : Nat) (q r kr : Nat) : Kc := { f := 7, args := [.sym .i64 (kE k), .sym .i64 own, .sym .u64 key, .agg [.bool fz, .bool sh, .sym .i64 (v mn), .sym .i64 (v cp)]], news := [.cells (memB (rel + 1) (wordsE (kE k)) (.sym .i64 (v r))) 82, wordsB q], res := .tup [.ptr rel 0, .agg (chA k mn cp kr)] }
def argS (fz sh : Bool) : List AV := [.sym .i64 (kE 0), .sym .i64 (v 1), .sym .u64 (v 2), .agg (howL fz sh)]
/-- the words, and how often they were looked at -/
def endL (sh z : Bool) : SE :=
  let a : SE := if z then .lvar 2 else .lset (.lvar 2) (l 12) 0 (l 1)
  let b : SE := .lset a (l 13) 0 (v 5)
  if sh then .lset (.lset b (l 5) 0 (l 2)) (l 6) 0 (l 1) else b
def plus : Nat → SE → SE
  | 0, e => e
  | n + 1, e => plus n (.bin .add e (l 1))
def endC (sh z : Bool) : SE := plus ((if z then 0 else 1) + 1 + (if sh then 2 else 0)) (v 7)
def thS (sh z : Bool) (k mn cp q r kr : Nat) : Sub := { v := [(k, v 0), (mn, v 3), (cp, v 4), (r, endC sh z), (kr, v 2)], l := [(q, endL sh z)], n := [(rel, 30), (rel + 1, 31)] }
def slabK : Kc := kcSlab 10 (v 11) (v 14) false false 12 13 0 15 14
theorem runS (rks : List (Nat × CK)) (fz sh z : Bool) : treeC Try.prog [] rks (kcsS fz z) [LS fz sh] 30 7 (argS fz sh) ⟨[], [], ⟨8, 3, 0, 0⟩⟩ ((kcSlab 10 (v 11) (v 14) fz sh 12 13 0 15 14).leaf (thS sh z 10 12 13 0 15 14)) (fS z) = true := by
  cases fz <;> cases sh <;> cases z <;> kernel_rfl
end
end Go.Proofs.Ytcbljokbechppaa.Back
