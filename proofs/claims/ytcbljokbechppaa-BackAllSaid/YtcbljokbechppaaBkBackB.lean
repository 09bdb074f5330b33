import Derived.Test.YtcbljokbechppaaBkBackA
import Derived.Test.YtcbljokbechppaaBkBackP
import Derived.Test.YtcbljokbechppaaBkBackW
import Derived.Test.YtcbljokbechppaaBk11
/-
  wainscotlaw23.BackAlone: the numbers, and what is known of calls. No condition.
-/
namespace Go.Proofs.Ytcbljokbechppaa.Back
open Go Ex Mem See Fast
open Go.RowKit
/-- what the numbers are: objects less one, own, Min, Cap, key; frozen; as they came in -/
structure Nb where
  K : Nat
  a : Nat
  mn : Nat
  cp : Nat
  key : Nat
  fz : Bool
  r0 : Int
  r1 : Int
  r2 : Int
  r3 : Int
  /-- what a read-only slice has -/
  ex : List Int := []
namespace Nb
def k (n : Nb) : Nat := n.K + 1
def z (n : Nb) : Bool := n.a == 0
def sh (n : Nb) : Bool := !n.z && !n.fz
def key1 (n : Nb) : Nat := See.keyOf n.key 1
def P0 (n : Nb) : Nat := packN (n.k - n.a) n.k n.fz true
def P1 (n : Nb) : Nat := packN (n.k - n.a - 1) n.k (n.fz || n.z) true
def cnt (n : Nb) : Nat := n.a + ((if n.z then 0 else 1) + 1 + (if n.sh then 2 else 0))
def G0 (n : Nb) : List Nat := slG n.k n.a n.key1 n.P0 n.sh
def H (n : Nb) : Nat := hideW (if n.z then -1 else 0) n.key1 n.K
/-- which way -/
def way (n : Nb) : Way :=
  if n.fz then .A n.z else if n.a = 0 then (if 0 < n.cp then .B else .C) else if n.a + 1 < n.k then .D else if 0 < n.mn then .E else .F
def base (n : Nb) : List Nat := n.G0.set (16 + n.k + n.K) n.H
def turn (n : Nb) (x : List Nat) : List Nat := (x.set 12 n.k).set 13 n.P1
def G1 (n : Nb) : List Nat := match n.way with
  | .B => (((n.turn n.base).set 14 0).set 2 66).set 3 1
  | .E => (n.turn (n.base.set 4 1)).set 4 0
  | .F => ((n.turn (n.base.set 4 1)).set 5 0).set 6 0
  | _ => n.turn n.base
def want (n : Nb) (j : Nat) : List Int := (n.K : Int) :: upL j 0
def parts (n : Nb) : List Int := match n.way with
  | .B => [1]
  | _ => []
def shelf (n : Nb) : List Int := match n.way with
  | .D => [1]
  | .E => [1]
  | _ => []
def lk (n : Nb) : Bool := match n.way with
  | .F => true
  | _ => false
def cn (n : Nb) : CountsP := ⟨n.k - n.a - 1, n.k, n.fz || n.z, true⟩
structure OkS (n : Nb) : Prop where
  K : n.K < 16
  a : n.a ≤ n.K
  mn : n.mn < 3
  cp : n.cp < 3
  key : n.key < 18446744073709551616
structure Ok (n : Nb) : Prop extends OkS n where
  w0 : (Lit.int .i64 n.r0).wf = true
  w1 : (Lit.int .i64 n.r1).wf = true
  w2 : (Lit.int .i64 n.r2).wf = true
  w3 : (Lit.int .i64 n.r3).wf = true
  e0 : n.r0 % 16 = n.K
  e1 : n.r1 % (n.k : Int) = n.a
  e2 : n.r2 % 3 = n.mn
  e3 : n.r3 % 3 = n.cp
  ek : IntKind.u64.wrap (IntKind.u64.wrap n.r1 * 3) = n.key
/-! the readings -/
def vX (n : Nb) (i : Nat) : Int :=
  ([(n.K : Int), n.a, n.mn, n.cp, n.key, n.cnt, n.P1, n.H] ++ List.replicate 12 0 ++ [(n.a : Int)] ++ List.replicate 9 0 ++ [n.r0, n.r1, n.r2, n.r3] ++ List.replicate 16 0 ++
    [-1, (at_ n.G1 1 : Int), if n.lk then 1 else 0, 0, 0, 0, 0, (n.cn.inuse : Int), (n.cn.objects : Int), if n.cn.frozen then 1 else 0, 1]).getD i 0
def lX (n : Nb) (q : Nat) : List (List Int) :=
  if q = 0 then one (natsI n.G0) else if q = 1 then one (natsI n.G1) else if q = 3 then one (n.want n.a) else if q = 11 then one n.parts else if q = 12 then one n.shelf else if q = 14 then one (n.want n.a) else []
def σX (n : Nb) : Nat → Int := sg n.vX n.lX
/-- slabbed's -/
def vS (n : Nb) (j i : Nat) : Int := ([(n.K : Int), n.a, n.key, n.mn, n.cp, n.P0, j, j] : List Int).getD i 0
def lS (n : Nb) (j q : Nat) : List (List Int) :=
  if q = 0 then one (natsI (List.replicate (16 + 2 * n.k) 0)) else if q = 1 then one (natsI (freshL (max n.a 1) n.key1)) else if q = 2 then one (natsI (lkI n.k n.a n.key1 j)) else if q = 40 then one n.ex else []
def σS (n : Nb) (j : Nat) : Nat → Int := sg (n.vS j) (n.lS j)
/-- those of the loop of what is wanted -/
def vW (n : Nb) (j i : Nat) : Int := if i = 20 then j else n.vX i
def lW (n : Nb) (j q : Nat) : List (List Int) := if q = 3 then one (n.want j) else n.lX q
def σW (n : Nb) (j : Nat) : Nat → Int := sg (n.vW j) (n.lW j)
def Ωn : Nat → Nat → Nat → Obj → Prop := fun _ _ _ _ => False
abbrev roN : Nat → Option (Option Addr × Nat × Nat) := fun _ => none
theorem OkS.k16 {n : Nb} (h : n.OkS) : 1 ≤ n.k ∧ n.k ≤ 16 ∧ n.a < n.k := by
  have := h.K
  have := h.a
  unfold Nb.k
  omega
section
variable {n : Nb} (h : n.Ok)
include h
omit h in
theorem Ok.G0len (_h : n.Ok) : n.G0.length = 16 + 2 * n.k := slG_len
omit h in
theorem cnt_le : n.cnt ≤ n.a + 4 := by
  unfold Nb.cnt
  cases n.z <;> cases n.sh <;> simp
/-! what expressions say -/
omit h in
theorem ev_v {i : Nat} (hi : i < 2048) : (v i).ev n.σX = n.vX i := by
  show sg n.vX n.lX i = _
  rw [sg_v hi]
omit h in
theorem x0 : (v 0).ev n.σX = (n.K : Int) := ev_v (by omega)
omit h in
theorem x1 : (v 1).ev n.σX = (n.a : Int) := ev_v (by omega)
omit h in
theorem x2 : (v 2).ev n.σX = (n.mn : Int) := ev_v (by omega)
omit h in
theorem x3 : (v 3).ev n.σX = (n.cp : Int) := ev_v (by omega)
omit h in
theorem x4 : (v 4).ev n.σX = (n.key : Int) := ev_v (by omega)
omit h in
theorem x5 : (v 5).ev n.σX = (n.cnt : Int) := ev_v (by omega)
omit h in
theorem x6 : (v 6).ev n.σX = (n.P1 : Int) := ev_v (by omega)
omit h in
theorem x7 : (v 7).ev n.σX = (n.H : Int) := ev_v (by omega)
omit h in
theorem x30 : (v 30).ev n.σX = n.r0 := ev_v (by omega)
omit h in
theorem x31 : (v 31).ev n.σX = n.r1 := ev_v (by omega)
omit h in
theorem x32 : (v 32).ev n.σX = n.r2 := ev_v (by omega)
omit h in
theorem x33 : (v 33).ev n.σX = n.r3 := ev_v (by omega)
omit h in
theorem xw (i : Nat) : (w (i : Int)).ev n.σX = (at_ n.G0 i : Int) := by
  show sg n.vX n.lX (lc 0 ((i : Int).toNat) 0) = _
  rw [sg_one (L := natsI n.G0) (by omega) rfl, Int.toNat_natCast, List.getD_eq_getElem?_getD]
  unfold at_ natsI
  rw [List.getElem?_map, List.getD_eq_getElem?_getD]
  cases n.G0[i]? <;> rfl
theorem xk : (kE 0).ev n.σX = (n.k : Int) := by
  have := h.K
  show IntKind.i64.wrap (1 + (v 0).ev n.σX) = _
  rw [x0, i64_small (by omega) (by omega)]
  unfold Nb.k
  omega
theorem xN : (wordsE (kE 0)).ev n.σX = ((16 + 2 * n.k : Nat) : Int) := by
  have := h.k16
  show IntKind.i64.wrap (16 + IntKind.i64.wrap (2 * (kE 0).ev n.σX)) = _
  rw [xk h, i64_small (x := 2 * _) (by omega) (by omega), i64_small (by omega) (by omega)]
  omega
theorem xobj : objE.ev n.σX = (n.K : Int) := by
  have := h.K
  have hk : n.k = n.K + 1 := rfl
  show IntKind.i64.wrap ((kE 0).ev n.σX - 1) = _
  rw [xk h, i64_small (by omega) (by omega)]
  omega
theorem xlink {e : SE} {i : Nat} (he : e.ev n.σX = (i : Int)) (hi : i < 100) : (linkE e).ev n.σX = ((16 + n.k + i : Nat) : Int) := by
  have := h.k16
  show IntKind.i64.wrap (IntKind.i64.wrap (16 + IntKind.i64.wrap (1 * (kE 0).ev n.σX)) + e.ev n.σX) = _
  rw [xk h, he, i64_small (x := 1 * _) (by omega) (by omega), i64_small (x := 16 + _) (by omega) (by omega), i64_small (by omega) (by omega)]
  omega
theorem xin : inE.ev n.σX = ((n.k - n.a : Nat) : Int) := by
  have := h.k16
  show IntKind.i64.wrap ((kE 0).ev n.σX - (v 1).ev n.σX) = _
  rw [xk h, x1, i64_small (by omega) (by omega)]
  omega
theorem xout : outE.ev n.σX = ((n.k - n.a - 1 : Nat) : Int) := by
  have := h.k16
  show IntKind.i64.wrap (inE.ev n.σX - 1) = _
  rw [xin h, i64_small (by omega) (by omega)]
  omega
theorem xkey : (keyE (v 4)).ev n.σX = (n.key1 : Int) := by
  have := h.key
  show IntKind.u64.wrap ((v 4).ev n.σX + 11400714819323198485) = _
  rw [x4, IntKind.wrap_u64]
  unfold Nb.key1 See.keyOf
  omega
/-! places of the words -/
theorem at12 : at_ n.G0 12 = if n.z then 0 else 1 := by
  have := h.k16
  unfold Nb.G0
  rw [slG_at _ (by omega), if_neg (by omega), if_neg (by omega), if_neg (by omega), lkI_low (by omega)]
  unfold Nb.z
  by_cases h0 : n.a = 0
  · rw [if_neg (fun h => h.1 h0), h0]; rfl
  · rw [if_pos ⟨h0, rfl⟩, beq_false_of_ne h0]; rfl
theorem at13 : at_ n.G0 13 = n.P0 := by
  have := h.k16
  unfold Nb.G0
  rw [slG_at _ (by omega), if_neg (by omega), if_neg (by omega), if_pos rfl]
theorem at5 : at_ n.G0 5 = if n.sh then 2 else 0 := by
  have := h.k16
  unfold Nb.G0
  rw [slG_at _ (by omega), if_neg (by omega), if_neg (c := 5 = 13) (by omega), if_neg (c := _ ∧ 5 = 12) (by omega), lkI_low (by omega)]
  cases n.sh <;> simp
theorem at6 : at_ n.G0 6 = if n.sh then 1 else 0 := by
  have := h.k16
  unfold Nb.G0
  rw [slG_at _ (by omega), if_neg (c := _ ∧ 6 = 5) (by omega), if_neg (c := 6 = 13) (by omega), if_neg (c := _ ∧ 6 = 12) (by omega), lkI_low (by omega)]
  cases n.sh <;> simp
theorem at_zero {i : Nat} (hi : i < 16) (h5 : i ≠ 5) (h6 : i ≠ 6) (h12 : i ≠ 12) (h13 : i ≠ 13) : at_ n.G0 i = 0 := by
  have := h.k16
  unfold Nb.G0
  rw [slG_at _ (by omega), if_neg (fun h => h6 h.2), if_neg (fun h => h5 h.2), if_neg h13, if_neg (fun h => h12 h.2), lkI_low (by omega)]
end
end Nb
end Go.Proofs.Ytcbljokbechppaa.Back
