/-
  wainscotlaw06.BuddyBack answers true: the walk.
-/
import Derived.Test.YtljcndcmdphmgaaBudPlayed
import Derived.Test.YtljcndcmdphmgaaBudWorks
namespace Go.Proofs.Ytljcndcmdphmgaa
open Go.RowKit
theorem outPl_places : ∀ (bs : List Pg) (i : Nat), castL (outPl i bs) = ((places i bs).filter fun y => decide (y.2.1 = 2)).map (·.1)
  | [], i => rfl
  | q :: bs, i => by
    rw [outPl, castL_append, outPl_places bs, places]
    by_cases hq : q.1 = 2 <;> simp [hq, castL]
theorem tab_out {L bs bs' : List Pg} (h : Tab L bs) (h' : Tab L bs') : outPl 0 bs = outPl 0 bs' := by
  apply castL_inj
  rw [outPl_places, outPl_places, ← tab_from h, ← tab_from h']
theorem binv_not_whole {L : List Pg} {outl : List Int} (h : BInv L outl) (ho : 0 < outl.length) (n : Nat) : L ≠ freshL n := by
  rintro rfl
  obtain ⟨bs, hT, -, hp⟩ := h
  rw [tab_out hT (fresh_tab n), fresh_out] at hp
  have := hp.length_eq
  rw [show castL [] = [] from rfl, List.length_nil] at this
  omega
theorem binv_whole {L : List Pg} (h : BInv L []) : L = freshL L.length := by
  obtain ⟨bs, hT, hN, hp⟩ := h
  have : castL (outPl 0 bs) = [] := by simpa using hp.symm.eq_nil
  have h0 : outPl 0 bs = [] := by
    cases h : outPl 0 bs with
    | nil => rfl
    | cons a b => rw [h] at this; simp [castL] at this
  exact whole_fresh hT (outPl_kind bs 0 hT.2 h0) hN
theorem fresh_free {n : Nat} (h1 : 1 ≤ n) (h2 : n ≤ 1024) : pgFree (freshL n) = n := by
  rw [pgFree_tab (fresh_tab n) (by rw [fresh_len]; exact h1) (by rw [fresh_len]; exact h2), fresh_sum]
def sLen : Value → Nat
  | .slice _ n _ => n
  | _ => 0
namespace buddyBack
set_option maxRecDepth 100000 in
set_option maxHeartbeats 4000000 in
theorem walk {W w : World} {m : List (Nat × Obj)} (h : Own W m w) (pages turn : Int) (hp : (Lit.int .i64 pages).wf = true) (ht : (Lit.int .i64 turn).wf = true) (A : Option Addr) (len cap : Nat) (hlc : len ≤ cap) (hcap : cap ≤ maxLen) (hat : FlatAt W [some .i64, some .i64, some .i64] A len) :
    Calls Try.prog 5 #[.int .i64 pages, .slice A len cap, .int .i64 turn] w fun e w' => e = .returned (.bool true) ∧ Own W m w' := by
  have HAT := Lib.hid hat
  have HT := Lib.hid ht
  have hpb := emod_bd pages 300 (by omega)
  obtain ⟨N, hN⟩ : ∃ N : Nat, pages % 300 = N := ⟨(pages % 300).toNat, by omega⟩
  have hN3 : N < 300 := by omega
  have HN := Lib.hid hN
  have hpl := fun w (h : Own W m w) => played_spec h pages hp A len cap hlc hcap hat
  rw [hN, Int.toNat_natCast] at hpl
  have HPL := Lib.hid hpl
  clear hat ht hN hpb hpl
  go_enter Try.func5, Try.ntmps5
  go_wp2_with fail
  refine (law06.works_spec h).mono ?_
  rintro e w1 ⟨rfl, h1⟩
  go_wp2_with fail
  refine (HPL.out w1 h1).mono ?_
  rintro e w2 ⟨pb, L, bl, v, outl, bo, rfl, hI, hL, ho60, hB, hO, h2⟩
  obtain ⟨A1, c1, rfl, hc1, -⟩ := SlO.slice hO
  have HI := Lib.hid hI
  have HL := Lib.hid hL
  have HB := Lib.hid hB
  have HO := Lib.hid hO
  clear hI hL hB hO
  go_wp2_with fail
  refine (left_spec h2.swap HB.out (by rw [HL.out]; omega)).mono ?_
  rintro e w3 ⟨rfl, h3⟩
  go_wp2_with fail
  go_loopw [2, 8, 9] (fun t out n wr => ∃ (T : Int) (L : List Pg) (outl : List Int) (bl bo : List (Nat × Obj)), t = .int .i64 T ∧ Hid ((Lit.int .i64 T).wf = true) ∧ n = .int .i64 (pgFree L) ∧ Hid (BInv L outl) ∧ Hid (L.length = 1 + N) ∧ Hid (BdO pb L bl) ∧ Hid (IntsOwn true out outl bo) ∧ outl.length ≤ 60 ∧ Own W (bo ++ (bl ++ m)) wr) (fun _ out _ _ => sLen out)
  case atStart => exact ⟨turn, L, outl, bl, bo, rfl, HT, rfl, HI, HL, HB, HO, ho60, h3.swap⟩
  case round =>
    clear HI HL HB HO h2 h3 hc1
    obtain ⟨T, L, outl, bl, bo, rfl, HTw, rfl, HI, HL, HB, HO, ho60, hr⟩ := hrel
    obtain ⟨A1, c1, hout, hc1, -⟩ := SlO.slice HO.out
    subst hout
    by_cases hl0 : 0 < outl.length
    · obtain ⟨q, hn⟩ : ∃ q, outl.length = q + 1 := ⟨outl.length - 1, by omega⟩
      have HNn := Lib.hid hn
      have hnw := decide_eq_false (binv_not_whole HI.out hl0 L.length)
      have HNW := Lib.hid hnw
      rw [hn] at hl0 ho60 hc1
      have b3 := emod_bd T ((q : Int) + 1) (by omega)
      obtain ⟨k, hk⟩ : ∃ k : Nat, T % ((q : Int) + 1) = k := ⟨(T % ((q : Int) + 1)).toNat, by omega⟩
      rw [hk] at b3
      have HK := Lib.hid hk
      obtain ⟨x, hx⟩ : ∃ x, outl[k]? = some x := ⟨_, List.getElem?_eq_getElem (by omega)⟩
      obtain ⟨y, hy⟩ : ∃ y, outl[q]? = some y := ⟨_, List.getElem?_eq_getElem (by omega)⟩
      obtain ⟨g, cap', cur, hv, -, -⟩ := SlO.form HO.out (by rw [hn]; omega)
      simp only [Value.slice.injEq] at hv
      obtain ⟨rfl, -, rfl⟩ := hv
      have HX := Lib.hid hx
      have HY := Lib.hid hy
      rw [hn]
      have hperm := perm_out hx (y := y) (by rw [hn]; exact hy)
      rw [hn, Nat.add_sub_cancel] at hperm
      have HPM := Lib.hid hperm
      have hkq : (k : Int) < (q : Int) + 1 := by omega
      have htb := i64_of_wf HTw.out
      have HTB := Lib.hid htb
      clear hx hy hk hn hperm hnw htb
      go_wp2_with fail
      refine (bring_spec T ((q : Int) + 1) (by omega) (by omega) HTw.out _).mono ?_
      rintro e w' ⟨rfl, rfl⟩
      rw [HK.out]
      go_wp2_with fail
      refine (whole_is hr.swap HB.out (by rw [HL.out]; omega) (by rw [HL.out]; omega)).mono ?_
      rintro e w4 ⟨rfl, h4⟩
      rw [HNW.out]
      have cx := ints_cell HO.out h4.swap rfl HX.out
      go_wp2_with fail
      refine (free_inv h4 HB.out HI.out (by rw [HL.out]; omega) (by rw [HL.out]; omega) HX.out).mono ?_
      rintro e w5 ⟨L', bl', rfl, HL', HB', h5, HI', HGT⟩
      have HL2 : Hid (L'.length = 1 + N) := HL'.out.trans HL.out
      obtain ⟨F, hF⟩ : ∃ F, pgFree L = F := ⟨_, rfl⟩
      obtain ⟨F', hF'⟩ : ∃ F', pgFree L' = F' := ⟨_, rfl⟩
      have hgt := HGT.out
      rw [hF, hF'] at hgt
      have HF' := Lib.hid hF'
      rw [hF]
      clear hF hF'
      go_wp2_with fail
      refine (left_spec h5 HB'.out (by rw [HL2.out]; omega)).mono ?_
      rintro e w6 ⟨rfl, h6⟩
      rw [HF'.out]
      go_wp2_with fail
      refine (left_spec h6 HB'.out (by rw [HL2.out]; omega)).mono ?_
      rintro e w7 ⟨rfl, h7⟩
      rw [HF'.out]
      have cy := ints_cell HO.out h7.swap rfl HY.out
      have cx2 := ints_cell HO.out h7.swap rfl HX.out
      have fx := SlO.free HO.out h7.swap rfl k
      obtain ⟨bs3, o3, h8⟩ := ints_store HO.out h7.swap rfl (j := k) (by rw [HNn.out]; omega) y
      have o4 := SlO.shorter o3 (k := q) (by rw [List.length_set]) (by rw [List.length_set, HNn.out]; omega)
      have O4 := Lib.hid o4
      clear o3 o4
      go_wp2_with fail
      have hlt : ((outl.set k y).take q).length = q := by rw [List.length_take, List.length_set, HNn.out]; omega
      refine ⟨⟨_, L', (outl.set k y).take q, bl', bs3, rfl, wrap64_wf _, by rw [HF'.out], HI'.out _ HPM.out, HL2, HB', ?_, by omega, h8⟩, by simp [sLen]⟩
      show IntsOwn true _ _ _
      have := O4.out
      rw [Nat.mul_one, ints_take] at this
      unfold IntsOwn
      rw [hlt]
      exact this
    · have hnil : outl = [] := List.eq_nil_of_length_eq_zero (by omega)
      subst hnil
      have hw := binv_whole HI.out
      have hfr : pgFree L = 1 + (N : Int) := by
        rw [hw, HL.out, fresh_free (by omega) (by omega)]
        omega
      have HW := Lib.hid (decide_eq_true hw)
      rw [hfr]
      clear hw hfr
      go_wp2_with fail
      refine (whole_is hr.swap HB.out (by rw [HL.out]; omega) (by rw [HL.out]; omega)).mono ?_
      rintro e w4 ⟨rfl, h4⟩
      rw [HW.out]
      go_wp2_with fail
      refine (bring_spec pages 300 (by omega) (by omega) hp _).mono ?_
      rintro e w' ⟨rfl, rfl⟩
      rw [HN.out]
      go_wp2_with fail
      go_ret
      exact ⟨rfl, h4.dropL.dropL⟩
end buddyBack
end Go.Proofs.Ytljcndcmdphmgaa
