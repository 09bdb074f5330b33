import Derived.Test.YtcbljokbechppaaGreatDoorBkFaQ
/-
  wainscotlaw24.FillAlone: the words behind its steps, and what is seen of them. No condition.
-/
namespace Go.Proofs.YtcbljokbechppaaGreatDoor.Fa
open Go Ex Mem See
open Go.RowKit
namespace Na
section
variable {x : Na} (h : x.Ok)
theorem wE_kept (hk : x.kept = true) : x.wE = { x.wl 0 3 true with H := headW 3 (lst (x.ow 3)), T := 1, PT := 1, fi := putN (putN (x.wd 0).fi 3 1) 3 0, co := putN (putN (x.wd 0).co 3 (x.pk 3 true)) 3 (packN x.k x.k true true) } := by
  unfold wE
  rw [if_pos hk]
theorem wE_none (hk : x.kept = false) (h0 : x.m = 0) : x.wE = x.wd 0 := by
  unfold wE
  rw [if_neg (by rw [hk]; exact Bool.false_ne_true), if_pos h0]
theorem wE_shelf (hk : x.kept = false) (h0 : x.m ≠ 0) : x.wE = { x.wd 0 with H := headW 0 (lst (x.ow 0)), T := 1, SH := if 1 < x.m then 2 else 0, ST := x.m - 1, fi := putN (x.wd 0).fi 0 0, co := putN (x.wd 0).co 0 (packN x.k x.k true true) } := by
  unfold wE
  rw [if_neg (by rw [hk]; exact Bool.false_ne_true), if_neg h0]
include h
theorem ls_end : LsRec x.σA (endA x.m x.kept) (one (natsI (x.g x.cE))) := by
  have hm := h.m
  have hsl := sl_lt (x := x)
  have h51 : (v 51).ev x.σA = ((packN x.k x.k true true : Nat) : Int) := n51 hm
  have h53 : (v 53).ev x.σA = ((headW x.sl (lst (x.ow x.sl)) : Nat) : Int) := n53 hm
  unfold endA g cE
  cases hk : x.kept with
  | true =>
    rw [if_pos rfl]
    have es : x.sl = 3 := by unfold sl; rw [hk]; rfl
    rw [es] at h53
    have hl := lA_13 hk
    have rd : ∀ {i : Nat}, i < 24 → (wAt 13 i).ev x.σA = ((x.wl 0 3 true).lo i : Int) := fun {i} hi => rd_lo (vv := x.vA) (ll := x.lA) (i := i) (e := l i) (by omega) hl rfl hi
    have r0 : LsRec x.σA (.lvar 13) (one (natsI (gC x.k x.key x.ow (x.cL 0 3 true)))) := LsRec.var' (by omega) hl
    have e22 : (wAt 13 22).ev x.σA = ((0 : Nat) : Int) := (rd (i := 22) (by omega)).trans (by
      show (((if 0 ≤ 3 ∧ 3 < x.m then (if 3 + 1 < x.m then 3 + 2 else 0) else 0) : Nat) : Int) = _
      rw [if_neg (by omega)])
    have e3 : (up1 (wAt 13 3)).ev x.σA = ((1 : Nat) : Int) := by
      show IntKind.u64.wrap ((wAt 13 3).ev x.σA + 1) = _
      rw [show (wAt 13 3).ev x.σA = 0 from rd (i := 3) (by omega)]
      rfl
    have e1 : (up1 (wAt 13 1)).ev x.σA = ((1 : Nat) : Int) := by
      show IntKind.u64.wrap ((wAt 13 1).ev x.σA + 1) = _
      rw [show (wAt 13 1).ev x.σA = 0 from rd (i := 1) (by omega)]
      rfl
    have := set_w (set_w (set_w (set_w (set_w (set_w (set_w r0 (e := l 2) (y := l 68) (a := 2) (z := 68) rfl rfl (by omega) Wd.put_P) (e := l 2) (a := 2) rfl e22 (by omega) Wd.put_P) (e := l 3) (a := 3) rfl e3 (by omega) Wd.put_PT)
      (e := l 20) (y := l 0) (a := 8 + 4 * 3) (z := 0) rfl rfl (by omega) Wd.put_fi) (e := l 21) (a := 9 + 4 * 3) rfl h51 (by omega) Wd.put_co) (e := l 0) (a := 0) rfl h53 (by omega) Wd.put_H) (e := l 1) (a := 1) rfl e1 (by omega) Wd.put_T
    have ew := wE_kept hk
    have en : x.nE = putN (x.nl 0) 3 (x.ow 3) := by unfold nE; rw [if_pos hk]
    rw [ew, en]
    exact this
  | false =>
    simp only [Bool.false_eq_true, if_false]
    have en : x.nE = x.nl 0 := by unfold nE; rw [if_neg (by rw [hk]; exact Bool.false_ne_true)]
    rw [en]
    by_cases h0 : x.m = 0
    · rw [wE_none hk h0, if_pos h0]
      have hl := lA_0 (x := x)
      rw [h0] at hl
      have r0 : LsRec x.σA (.lvar 0) (one (natsI (gC x.k x.key x.ow (x.cS 0)))) := LsRec.var' (by omega) hl
      exact set_w (set_w r0 (e := l 4) (y := l 1) (a := 4) (z := 1) rfl rfl (by omega) Wd.put_LK) (e := l 4) (y := l 0) (a := 4) (z := 0) rfl rfl (by omega) Wd.put_LK
    · rw [wE_shelf hk h0, if_neg h0]
      have es : x.sl = 0 := by unfold sl; rw [hk]; rfl
      rw [es] at h53
      have hl := lA_s (x := x) (s := 0) (by omega) hm
      have rd : ∀ {i : Nat}, i < 24 → (wAt 10 i).ev x.σA = ((x.wl 1 0 false).lo i : Int) := fun {i} hi => rd_lo (vv := x.vA) (ll := x.lA) (i := i) (e := l i) (by omega) hl rfl hi
      have r0 := ls_shelved (x := x) (s := 0) (by omega) hm
      have ef : (firstA false).ev x.σA = ((8 + 4 * 0 : Nat) : Int) := rfl
      have eg : (first1 false).ev x.σA = ((9 + 4 * 0 : Nat) : Int) := rfl
      have e5 : (wAt 10 5).ev x.σA = ((if 1 < x.m then 2 else 0 : Nat) : Int) := rd (i := 5) (by omega)
      have e6 : (.ubin .add (up1 (wAt 10 6)) (l 18446744073709551615) : SE).ev x.σA = ((x.m - 1 : Nat) : Int) := by
        show IntKind.u64.wrap (IntKind.u64.wrap ((wAt 10 6).ev x.σA + 1) + 18446744073709551615) = _
        rw [show (wAt 10 6).ev x.σA = ((x.m - 1 : Nat) : Int) from rd (i := 6) (by omega), IntKind.wrap_u64, IntKind.wrap_u64]
        omega
      have e1 : (up1 (wAt 10 1)).ev x.σA = ((1 : Nat) : Int) := by
        show IntKind.u64.wrap ((wAt 10 1).ev x.σA + 1) = _
        rw [show (wAt 10 1).ev x.σA = 0 from rd (i := 1) (by omega)]
        rfl
      have := set_w (set_w (set_w (set_w (set_w (set_w (set_w (set_w r0 (e := l 4) (y := l 1) (a := 4) (z := 1) rfl rfl (by omega) Wd.put_LK) (y := l 0) (z := 0) ef rfl (by omega) Wd.put_fi) eg h51 (by omega) Wd.put_co) (e := l 5) (a := 5) rfl e5 (by omega) Wd.put_SH) (e := l 6) (a := 6) rfl e6 (by omega) Wd.put_ST)
        (e := l 4) (y := l 0) (a := 4) (z := 0) rfl rfl (by omega) Wd.put_LK) (e := l 0) (a := 0) rfl h53 (by omega) Wd.put_H) (e := l 1) (a := 1) rfl e1 (by omega) Wd.put_T
      exact this
end
end Na
end Go.Proofs.YtcbljokbechppaaGreatDoor.Fa
