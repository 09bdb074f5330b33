import Derived.Test.YtcbljokbechppaaGreatDoorBkFaK
import Derived.Test.YtcbljokbechppaaGreatDoorBkFaN
/-
  wainscotlaw24.FillAlone: its readings. No condition.
-/
namespace Go.Proofs.YtcbljokbechppaaGreatDoor.Fa
open Go Ex Mem See
open Go.RowKit
section
variable {vv : Nat → Int} {ll : Nat → List (List Int)} {k key : Nat} {ow : Nat → Nat}
theorem rd_w {q i : Nat} {c : Cw} {e : SE} (hq : q < 64) (h : ll q = one (natsI (gC k key ow c))) (he : e.ev (sg vv ll) = (i : Int)) (hi : i < 24 + 4 * k) : (SE.at (.lvar q) e 0).ev (sg vv ll) = (wordC k key ow c i : Int) := by
  show sg vv ll (lc q (e.ev (sg vv ll)).toNat 0) = _
  rw [he, Int.toNat_natCast, sg_one (L := natsI (gC k key ow c)) hq h, List.getD_eq_getElem?_getD]
  unfold natsI
  rw [List.getElem?_map, gC_get hi]
  rfl
theorem rd_lo {q i : Nat} {c : Cw} {e : SE} (hq : q < 64) (h : ll q = one (natsI (gC k key ow c))) (he : e.ev (sg vv ll) = (i : Int)) (hi : i < 24) : (SE.at (.lvar q) e 0).ev (sg vv ll) = (c.lo i : Int) := by
  rw [rd_w hq h he (by omega)]
  unfold wordC
  rw [if_pos hi]
theorem set_w {L e y : SE} {a z : Nat} {w w' : Wd} {nl : Nat → Nat} (h : LsRec (sg vv ll) L (one (natsI (gC k key ow ⟨w.lo, nl⟩)))) (he : e.ev (sg vv ll) = (a : Int)) (hy : y.ev (sg vv ll) = (z : Int)) (ha : a < 24) (hw : putN w.lo a z = w'.lo) : LsRec (sg vv ll) (.lset L e 0 y) (one (natsI (gC k key ow ⟨w'.lo, nl⟩))) := by
  have := h.set he hy (by rw [natsI_len, gC_len]; omega)
  have e1 : (natsI (gC k key ow ⟨w.lo, nl⟩)).set a (z : Int) = natsI ((gC k key ow ⟨w.lo, nl⟩).set a z) := by
    unfold natsI
    rw [List.map_set]
  rw [e1, set_lo z ha] at this
  rw [← hw]
  exact this
theorem len_w {q : Nat} {c : Cw} (hq : q < 64) (h : ll q = one (natsI (gC k key ow c))) : (SE.len (.lvar q)).ev (sg vv ll) = ((24 + 4 * k : Nat) : Int) := by
  show ((sg vv ll (ln q)).toNat : Int) = _
  rw [sg_oneN (L := natsI (gC k key ow c)) hq h, natsI_len, gC_len]
  rfl
end
/-- objects less one; how many each slab has (3: the kept one); slabs on the shelf; kept or not; objects as they came in; own -/
structure Na where
  K : Nat
  ow : Nat → Nat
  m : Nat
  kept : Bool
  r0 : Int
  ex : List Int
namespace Na
def k (x : Na) : Nat := x.K + 1
def key (x : Na) : Nat := x.k * 5
def pk (x : Na) (s : Nat) (fz : Bool) : Nat := packN (x.k - x.ow s) x.k fz true
/-- the words when the slabs from one on stand on the shelf -/
def wd (x : Na) (t : Nat) : Wd := ⟨0, 0, 0, 0, 0, if t < x.m then t + 1 else 0, x.m - t, fun s => if t ≤ s ∧ s < x.m then 1 else 0, fun s => if t ≤ s ∧ s < x.m then x.pk s false else 0, fun s => if t ≤ s ∧ s < x.m then (if s + 1 < x.m then s + 2 else 0) else 0⟩
def nl (x : Na) (t s : Nat) : Nat := if t ≤ s ∧ s < x.m then x.ow s else 0
def cS (x : Na) (t : Nat) : Cw := ⟨(x.wd t).lo, x.nl t⟩
/-- .. and one more was slabbed -/
def wl (x : Na) (t s : Nat) (fz : Bool) : Wd := { x.wd t with fi := putN (x.wd t).fi s 1, co := putN (x.wd t).co s (x.pk s fz) }
def cL (x : Na) (t s : Nat) (fz : Bool) : Cw := ⟨(x.wl t s fz).lo, putN (x.nl t) s (x.ow s)⟩
def g (x : Na) (c : Cw) : List Nat := gC x.k x.key x.ow c
/-- accesses -/
def cb (x : Na) (t : Nat) : Nat := ((List.range' t (x.m - t)).map fun s => x.ow s + 6).sum
theorem cb_succ {x : Na} {t : Nat} (h : t < x.m) : x.cb t = x.cb (t + 1) + x.ow t + 6 := by
  unfold cb
  rw [show x.m - t = (x.m - (t + 1)) + 1 by omega, List.range'_succ, List.map_cons, List.sum_cons]
  omega
theorem cb_end {x : Na} : x.cb x.m = 0 := by
  unfold cb
  rw [Nat.sub_self]
  rfl
/-- what a list is -/
def cQ (x : Na) (q : Nat) : Cw := if q = 13 ∧ x.kept = true then x.cL 0 3 true else if 10 ≤ q ∧ q < 10 + x.m then x.cL (q - 10 + 1) (q - 10) false else x.cS x.m
/-- the slab that is taken -/
def sl (x : Na) : Nat := if x.kept then 3 else 0
def T (x : Na) : Bool := x.kept || x.m != 0
/-- the words behind the steps -/
def wE (x : Na) : Wd :=
  if x.kept then { x.wl 0 3 true with H := headW 3 (lst (x.ow 3)), T := 1, PT := 1, fi := putN (putN (x.wd 0).fi 3 1) 3 0, co := putN (putN (x.wd 0).co 3 (x.pk 3 true)) 3 (packN x.k x.k true true) }
  else if x.m = 0 then x.wd 0
  else { x.wd 0 with H := headW 0 (lst (x.ow 0)), T := 1, SH := if 1 < x.m then 2 else 0, ST := x.m - 1, fi := putN (x.wd 0).fi 0 0, co := putN (x.wd 0).co 0 (packN x.k x.k true true) }
def nE (x : Na) : Nat → Nat := if x.kept then putN (x.nl 0) 3 (x.ow 3) else x.nl 0
def cE (x : Na) : Cw := ⟨x.wE.lo, x.nE⟩
/-! numbers -/
def seenS (x : Na) (i : Nat) : Int :=
  -- of a slab, at the end
  let s := i / 5
  if s = x.sl ∧ x.T = true then [(x.k : Int), x.k, 1, 1, 0].getD (i % 5) 0
  else if s < x.m then [((x.k - x.ow s : Nat) : Int), x.k, 0, 1, x.ow s].getD (i % 5) 0
  else 0
def vA (x : Na) (i : Nat) : Int :=
  if i = 0 then x.K else if i = 21 then x.ow 0 - 1 else if i = 22 then x.ow 1 - 1 else if i = 23 then x.ow 2 - 1 else if i = 24 then x.ow 3 - 1 else if i = 30 then x.r0
  else if i = 43 ∧ x.kept = true then ((x.cb 0 + x.ow 3 + 2 : Nat) : Int) else if 40 ≤ i ∧ i < 40 + x.m then ((x.cb (i - 40 + 1) + x.ow (i - 40) + 2 : Nat) : Int)
  else if i = 50 then ((x.k - x.ow x.sl : Nat) : Int) else if i = 51 then (packN x.k x.k true true : Nat) else if i = 52 then lst (x.ow x.sl) else if i = 53 then (headW x.sl (lst (x.ow x.sl)) : Nat)
  else if i = 100 then (if x.T then (x.sl : Int) else -1) else if i = 101 then (if x.T then ((x.ow x.sl - 1 : Nat) : Int) else 0) else if i = 102 then (if x.T then 1 else 0) else if i = 104 then ((x.m - (if x.kept then 0 else if x.m = 0 then 0 else 1) : Nat) : Int)
  else if 106 ≤ i ∧ i < 126 then x.seenS (i - 106) else 0
def lA (x : Na) (q : Nat) : List (List Int) := if q = 40 then one x.ex else if q = 9 then one (natsI (x.g x.cE)) else if q < 14 then one (natsI (x.g (x.cQ q))) else []
def σA (x : Na) : Nat → Int := sg x.vA x.lA
structure Ok (x : Na) : Prop where
  K : x.K < 16
  ow : ∀ s, 1 ≤ x.ow s ∧ x.ow s ≤ x.k
  m : x.m ≤ 3
  e0 : x.r0 % 16 = x.K
  w0 : (Lit.int .i64 x.r0).wf = true
  we : ∀ y ∈ x.ex, (Lit.int .i64 y).wf = true
  len : x.ex.length < 9223372036854775808
  hm : x.m = min x.ex.length 3
  e3 : (x.ow 3 : Int) = 1 + (x.ex.length : Int) % (x.k : Int)
  eo : ∀ s, s < x.m → (x.ow s : Int) = 1 + x.ex.getD s 0 % (x.k : Int)
section
variable {x : Na} (h : x.Ok)
theorem ev {i : Nat} (hi : i < 2048) : (v i).ev x.σA = x.vA i := by
  show sg x.vA x.lA i = _
  rw [sg_v hi]
theorem z0 : (v 0).ev x.σA = (x.K : Int) := ev (by omega)
theorem cnt_le : x.Ok → ∀ t, x.cb t ≤ 22 * (x.m - t) := fun h => by
  suffices ∀ d t, x.m - t = d → x.cb t ≤ 22 * d from fun t => this _ t rfl
  intro d
  induction d with
  | zero =>
    intro t ht
    unfold cb
    rw [ht]
    exact Nat.le_refl _
  | succ d ih =>
    intro t ht
    have := cb_succ (x := x) (t := t) (by omega)
    have := ih (t + 1) (by omega)
    have := (h.ow t).2
    have := h.K
    unfold k at *
    omega
theorem zero_c : x.cS x.m = zeroC := by
  unfold cS zeroC
  have e1 : (x.wd x.m).lo = fun _ => 0 := by
    funext i
    unfold Wd.lo wd
    rw [if_neg (show ¬ x.m < x.m by omega), Nat.sub_self]
    by_cases h8 : i < 8
    · rw [if_pos h8]
      match i, h8 with
      | 0, _ => rfl | 1, _ => rfl | 2, _ => rfl | 3, _ => rfl | 4, _ => rfl | 5, _ => rfl | 6, _ => rfl | 7, _ => rfl | i + 8, h => exact absurd h (by omega)
    · rw [if_neg h8]
      have hn : ∀ s, ¬ (x.m ≤ s ∧ s < x.m) := fun s => by omega
      simp only [if_neg (hn _)]
      split
      · rfl
      · split
        · rfl
        · split <;> rfl
  have e2 : x.nl x.m = fun _ => 0 := by
    funext s
    unfold nl
    rw [if_neg (by omega)]
  rw [e1, e2]
/-- one more on the shelf -/
theorem wd_step {s : Nat} (hs : s < x.m) : { x.wl (s + 1) s false with nx := putN (x.wd (s + 1)).nx s (if s + 1 < x.m then s + 2 else 0), SH := s + 1, ST := x.m - (s + 1) + 1 } = x.wd s := by
  unfold wl wd
  simp only [Wd.mk.injEq, true_and]
  refine ⟨by rw [if_pos hs], by omega, ?_, ?_, ?_⟩ <;> funext i <;> unfold putN <;> by_cases his : i = s
  · rw [if_pos his, if_pos (by omega)]
  · rw [if_neg his]
    simp only []
    by_cases h1 : s ≤ i ∧ i < x.m
    · rw [if_pos h1, if_pos (by omega)]
    · rw [if_neg h1, if_neg (by omega)]
  · rw [if_pos his, if_pos (by omega), his]
  · rw [if_neg his]
    simp only []
    by_cases h1 : s ≤ i ∧ i < x.m
    · rw [if_pos h1, if_pos (by omega)]
    · rw [if_neg h1, if_neg (by omega)]
  · rw [if_pos his, if_pos (show s ≤ i ∧ i < x.m by omega), his]
  · rw [if_neg his]
    simp only []
    by_cases h1 : s ≤ i ∧ i < x.m
    · rw [if_pos h1, if_pos (show s + 1 ≤ i ∧ i < x.m by omega)]
    · rw [if_neg h1, if_neg (show ¬ (s + 1 ≤ i ∧ i < x.m) by omega)]
theorem nl_step {s : Nat} (hs : s < x.m) : putN (x.nl (s + 1)) s (x.ow s) = x.nl s := by
  funext i
  unfold putN nl
  by_cases his : i = s
  · rw [if_pos his, if_pos (by omega), his]
  · rw [if_neg his]
    by_cases h1 : s ≤ i ∧ i < x.m
    · rw [if_pos h1, if_pos (by omega)]
    · rw [if_neg h1, if_neg (by omega)]
theorem lA_s {s : Nat} (hs : s < x.m) (hm : x.m ≤ 3) : x.lA (10 + s) = one (natsI (gC x.k x.key x.ow (x.cL (s + 1) s false))) := by
  unfold lA
  rw [if_neg (by omega), if_neg (by omega), if_pos (by omega)]
  unfold cQ g
  rw [if_neg (by omega), if_pos (by omega), show 10 + s - 10 = s by omega]
theorem lA_0 : x.lA 0 = one (natsI (gC x.k x.key x.ow (x.cS x.m))) := by
  unfold lA
  rw [if_neg (by omega), if_neg (by omega), if_pos (by omega)]
  unfold cQ g
  rw [if_neg (by omega), if_neg (by omega)]
theorem lA_13 (hk : x.kept = true) : x.lA 13 = one (natsI (gC x.k x.key x.ow (x.cL 0 3 true))) := by
  unfold lA
  rw [if_neg (by omega), if_neg (by omega), if_pos (by omega)]
  unfold cQ g
  rw [if_pos ⟨rfl, hk⟩]
/-- the shelf's words -/
theorem ls_shelved {s : Nat} (hs : s < x.m) (hm : x.m ≤ 3) : LsRec x.σA (shelved s) (one (natsI (gC x.k x.key x.ow (x.cS s)))) := by
  have hl := lA_s hs hm
  have r0 : LsRec x.σA (.lvar (10 + s)) (one (natsI (gC x.k x.key x.ow (x.cL (s + 1) s false)))) := LsRec.var' (by omega) hl
  have e5 : (wAt (10 + s) 5).ev x.σA = ((if s + 1 < x.m then s + 2 else 0 : Nat) : Int) := rd_lo (i := 5) (by omega) hl rfl (by omega)
  have e6 : (.ubin .add (wAt (10 + s) 6) (l 1) : SE).ev x.σA = ((x.m - (s + 1) + 1 : Nat) : Int) := by
    have e := rd_lo (vv := x.vA) (ll := x.lA) (i := 6) (e := l 6) (by omega) hl rfl (by omega)
    show IntKind.u64.wrap ((wAt (10 + s) 6).ev x.σA + 1) = _
    have e2 : (wAt (10 + s) 6).ev x.σA = ((x.m - (s + 1) : Nat) : Int) := e
    rw [e2, u64_small (by omega) (by omega)]
    omega
  have := set_w (set_w (set_w r0 (e := l (10 + 4 * s)) (a := 10 + 4 * s) (z := if s + 1 < x.m then s + 2 else 0) rfl e5 (by omega) Wd.put_nx) (e := l 5) (y := l (s + 1)) (a := 5) (z := s + 1) rfl rfl (by omega) Wd.put_SH) (e := l 6) (a := 6) rfl e6 (by omega) Wd.put_ST
  rw [nl_step hs] at this
  have e := wd_step hs
  unfold shelved cS
  rw [← e]
  exact this
end
end Na
end Go.Proofs.YtcbljokbechppaaGreatDoor.Fa
