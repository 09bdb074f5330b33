/-
  wainscotlaw06.same answers true, when both tables are one. No condition.
-/
import Derived.Test.YtljcndcmdphmgaaBrfG
import Derived.Test.YtljcndcmdphmgaaEqInts
namespace Go.Proofs.Ytljcndcmdphmgaa.law06
open Go.RowKit
attribute [local go_sem ↓] Go.wp_at_zero Go.wp_at_succ
theorem rd_slice {W w : World} {m cl : List (Nat × Obj)} {rb : Nat} {L : List Pg} (hc : RdO rb L cl) (hL1 : 1 ≤ L.length) : ∃ v : Value, (∃ g c, v = .slice (some ⟨g, 0, none⟩) L.length c) ∧ ∀ (M : List (Nat × Obj)) (ws : World), Own W (cl ++ M) ws → ws.cell? ⟨rb, 0, none⟩ = some v ∧ PgS ws v L := by
  obtain ⟨v, bs, ho, rfl⟩ := hc
  obtain ⟨g, cap, cur, rfl, -, -⟩ := ho.form (by omega)
  exact ⟨_, ⟨g, cap, rfl⟩, fun M ws hw => ⟨rd_cell hw, rd_read ho hw⟩⟩
set_option maxRecDepth 100000 in
set_option maxHeartbeats 4000000 in
theorem same_yes {W w : World} {m bl cl : List (Nat × Obj)} {pb rb : Nat} {L bs0 : List Pg} (h : Own W (bl ++ (cl ++ m)) w) (hb : BdO pb L bl) (hc : RdO rb L cl) (hT : Tab L bs0) (hL1 : 1 ≤ L.length) (hL : L.length ≤ 1024) :
    Calls Try.prog 34 #[.pointer (some ⟨pb, 0, none⟩), .pointer (some ⟨rb, 0, none⟩)] w fun e w' => e = .returned (.bool true) ∧ Own W m w' := by
  obtain ⟨v, ⟨gr, cr, rfl⟩, hv⟩ := rd_slice (W := W) (w := w) (m := m) hc hL1
  obtain ⟨N, hN⟩ : ∃ N, L.length = N := ⟨_, rfl⟩
  have PV := Lib.hid hv
  have HB := Lib.hid hb
  have HC := Lib.hid hc
  have HT := Lib.hid hT
  have HN := Lib.hid hN
  rw [hN] at hL hL1 PV
  have hcell := (PV.out _ _ h.swap).1
  obtain ⟨F, hF⟩ : ∃ F, pgFree L = F := ⟨_, rfl⟩
  have HF := Lib.hid hF
  obtain ⟨wb, hwb⟩ : ∃ b, decide (L = freshL L.length) = b := ⟨_, rfl⟩
  have HWB := Lib.hid hwb
  clear hv hb hc hT hN hF hwb
  go_enter Try.func34, Try.ntmps34
  go_wp2_with fail
  refine (pages_spec h HB.out (by rw [HN.out]; omega) (by rw [HN.out]; omega)).mono ?_
  rintro e w1 ⟨v1, b1, rfl, o1, h1⟩
  obtain ⟨g1, c1, cur1, rfl, -, -⟩ := o1.form (by rw [HN.out]; omega)
  have O1 := Lib.hid o1
  rw [HN.out]
  clear o1
  have hcell := (PV.out _ _ h1.front3).1
  have hr1 := PgO.read O1.out h1
  rw [HN.out] at hr1
  go_wp2_with fail
  refine (ref05.same_spec hr1 (PV.out _ _ h1.front3).2 (by rw [HN.out]; omega) (by rw [HN.out]; omega)).mono ?_
  rintro e w2 ⟨rfl, k2⟩
  rw [decide_eq_true (rfl : L = L)]
  have h2 := h1.of_self k2
  clear hr1 hcell
  go_wp2_with fail
  refine (left_spec h2.swap HB.out (by rw [HN.out]; omega)).mono ?_
  rintro e w3 ⟨rfl, h3⟩
  rw [HF.out]
  go_wp2_with fail
  refine (rleft_ok (h3.perm ((List.Perm.append_left _ (perm_swap _ _ _)).trans (perm_swap _ _ _))) HC.out HT.out (by rw [HN.out]; omega) (by rw [HN.out]; omega)).mono ?_
  rintro e w4 ⟨rfl, h4⟩
  rw [HF.out]
  go_wp2_with fail
  refine (whole_is (h4.swap) HB.out (by rw [HN.out]; omega) (by rw [HN.out]; omega)).mono ?_
  rintro e w5 ⟨rfl, h5⟩
  rw [HWB.out]
  go_wp2_with fail
  refine (rwhole_is h5.swap HC.out (by rw [HN.out]; omega) (by rw [HN.out]; omega)).mono ?_
  rintro e w6 ⟨rfl, h6⟩
  rw [HWB.out]
  cases wb
  all_goals
    go_wp2_with fail
    go_loopw [6] (fun ov wr => ∃ o : Int, -1 ≤ o ∧ o ≤ 12 ∧ ov = .int .i64 o ∧ Own W (cl ++ (bl ++ (b1 ++ m))) wr) (fun ov _ => (12 - intOf ov).toNat)
    case atStart => exact ⟨-1, by omega, by omega, rfl, h6⟩
    case round =>
      clear h6 h5 h4 h3 h2 h1 k2
      obtain ⟨o, ho1, ho2, rfl, hr⟩ := hrel
      by_cases hlt : o ≤ 11
      · go_wp2_with fail
        refine (frees_any hr.swap HB.out HT.out (by rw [HN.out]; omega) (by rw [HN.out]; omega) o).mono ?_
        rintro e w7 ⟨v7, b7, rfl, o7, h7⟩
        obtain ⟨A7, c7, rfl, -, -⟩ := o7.slice
        have O7 := Lib.hid o7
        clear o7
        go_wp2_with fail
        refine (rfrees_spec (h7.front3) HC.out (by rw [HN.out]; omega) (by rw [HN.out]; omega) o).mono ?_
        rintro e w8 ⟨v8, b8, rfl, o8, h8⟩
        obtain ⟨A8, c8, rfl, -, -⟩ := o8.slice
        have O8 := Lib.hid o8
        have hle := rfreesTo_len L o L.length
        have HLE := Lib.hid hle
        clear o8 hle
        go_wp2_with fail
        refine (eqInts_spec (O7.out.src h8.front3) (O8.out.src h8) (by have := HLE.out; have := HN.out; omega) (by have := HLE.out; have := HN.out; omega)).mono ?_
        rintro e w9 ⟨rfl, nd, rfl⟩
        have h9 := h8.drewN nd
        rw [decide_eq_true (rfl : rfreesTo L o L.length = rfreesTo L o L.length)]
        obtain ⟨w9, hw9⟩ : ∃ w9, w8.drewN nd = w9 := ⟨_, rfl⟩
        rw [hw9] at h9 ⊢
        have h10 : Own W (cl ++ (bl ++ (b1 ++ m))) w9 := (h9.dropL.swap).dropL
        clear hw9
        go_wp2_with fail
        exact ⟨⟨o + 1, by omega, by omega, rfl, h10⟩, by simp [intOf]; omega⟩
      · have hr2 : Own W (b1 ++ (bl ++ (cl ++ m))) wr := hr.perm ((perm_swap _ _ _).trans ((List.Perm.append_left _ (perm_swap _ _ _)).trans (perm_swap _ _ _)))
        have hO1 : SlO true 24 3 (.slice (some ⟨g1, 0, none⟩) N c1) N (ints (flat3 L)) b1 := by
          have := O1.out
          unfold PgO at this
          rw [HN.out] at this
          exact this
        have HO1 := Lib.hid hO1
        clear hO1 hcell hr O1
        go_wp2_with fail
        go_loopw [7] (fun iv wr => ∃ (i : Nat) (xs : List Value) (bs : List (Nat × Obj)), iv = .int .i64 i ∧ i ≤ N ∧ Hid (SlO true 24 3 (.slice (some ⟨g1, 0, none⟩) N c1) N xs bs) ∧ Own W (bs ++ (bl ++ (cl ++ m))) wr) (fun iv _ => N - (intOf iv).toNat)
        case atStart => exact ⟨0, _, _, rfl, by omega, HO1, hr2⟩
        case round =>
          clear hr2 HO1
          obtain ⟨i, xs, bs, rfl, hi, HX, hr⟩ := hrel
          by_cases hil : i < N
          · have hili : (i : Int) < N := by omega
            have hi0 : (0 : Int) ≤ i := by omega
            have hxl := HX.out.len
            obtain ⟨u, hu⟩ : ∃ u, xs[i * 3]? = some u := ⟨_, List.getElem?_eq_getElem (by omega)⟩
            have cu := HX.out.cell hr rfl hu
            have fu := HX.out.free hr rfl (i * 3)
            obtain ⟨bs', s', h'⟩ := HX.out.store hr rfl (j := i * 3) (by omega) (.int .i64 9)
            have S' := Lib.hid s'
            clear s' hu hxl
            go_wp2_with fail
            exact ⟨⟨i + 1, _, bs', by go_num, by omega, S', h'⟩, by simp [intOf]; omega⟩
          · have hili : ¬ (i : Int) < N := by omega
            have hrx := hr.dropL
            have hcell := (PV.out _ _ hrx.swap).1
            go_wp2_with fail
            go_region_held3 (fun w' => w'.cell? ⟨rb, 0, none⟩ = some (.slice (some ⟨gr, 0, none⟩) N cr)) (first | assumption | go_keep)
              (first | (go_at_call 27; refine (pages_spec hrx.drew HB.out (by rw [HN.out]; omega) (by rw [HN.out]; omega)).mono ?_; rintro e w10 ⟨v10, b10, rfl, o10, k10⟩; have hcell := (PV.out _ _ k10.front3).1) |
                (go_at_call 63; refine (ref05.same_spec (PgO.read o10 k10) (PV.out _ _ k10.front3).2 (by rw [HN.out]; omega) (by rw [HN.out]; omega)).mono ?_; rintro e w11 ⟨rfl, k11⟩; have k12 := k10.of_self k11; have hcell := (PV.out _ _ k12.front3).1))
            all_goals
              go_wp2_with fail
              go_ret
              exact ⟨rfl, k12.dropL.dropL.dropL⟩
end Go.Proofs.Ytljcndcmdphmgaa.law06
