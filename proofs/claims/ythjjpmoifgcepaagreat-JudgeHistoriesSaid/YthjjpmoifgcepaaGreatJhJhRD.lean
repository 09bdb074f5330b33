import Derived.Test.YthjjpmoifgcepaaGreatJhJhRC
/-
  Contract: wainscotref30.taking. No condition.
-/
namespace Go.Proofs.YthjjpmoifgcepaaGreat.Jh
open Go.RowKit
attribute [local go_sem ↓] Go.wp_at_zero Go.wp_at_succ
set_option maxHeartbeats 8000000 in
set_option maxRecDepth 100000 in
theorem taking_spec {w : World} {s : Sn} {cs : Array Value} (hs : SnapV w (.agg cs) s) (hc : ∀ d ∈ s.ds, 0 ≤ d.fr) (h c sl ob : Int) : Calls Tryz.prog 17 #[.agg cs, .int .i64 h, O3 c sl ob] w fun e w' => e = .returned (spA 3 c sl ob (tak s.ds h).1 (tak s.ds h).2) ∧ Own w [] w' := by
  have HC := Lib.hid hc
  obtain ⟨v1, v2, v3, v4, v5, v6, v7, v8, v9, v10, v11, rfl, -, -, -, -, -, -, -, -, -, -, k11⟩ := snap_cells hs
  obtain ⟨A11, n11, rfl⟩ := k11.form
  have hO := (((((Own.self w).new (S12 s.now v1 v2 v3 v4 v5 v6 v7 v8 v9 v10 (.slice A11 s.ds.length n11))).new (obO c sl ob)).new (spO 0 0 0 0 0 0)).new (spO 3 c sl ob 0 (-1)))
  simp only [al_size] at hO
  have HG := Lib.hid k11
  have HDB : Hid ((s.ds.length : Int) < 9223372036854775807) := Lib.hid (by have : s.ds.length * 64 ≤ 140737488351232 := k11.bytes; omega)
  clear hs hc k11
  go_enter Tryz.func17, Tryz.ntmps17
  go_upto_region 2 with fail
  obtain ⟨B, hB⟩ : ∃ B, w.heap.size = B := ⟨_, rfl⟩
  rw [hB] at hO ⊢
  generalize (((w.alloc (S12 s.now v1 v2 v3 v4 v5 v6 v7 v8 v9 v10 (.slice A11 s.ds.length n11))).alloc (obO c sl ob)).alloc (spO 0 0 0 0 0 0)).alloc (spO 3 c sl ob 0 (-1)) = W1 at hO ⊢
  have HO := Lib.hid hO
  have HB := Lib.hid hB
  clear hO hB
  go_wp2_with fail
  go_loopw [8, 9] (fun k8 k9 wr => ∃ i : Nat, i ≤ s.ds.length ∧ k8 = .bool (leastT h s.ds i).isSome ∧ k9 = .int .i64 i ∧ Hid (∀ (j : Nat) y, j < i → s.ds[j]? = some y → isTake h y = false) ∧ Hid (Own w [(B + 1 + 1 + 1, spO 3 c sl ob ((leastT h s.ds i).getD 0) (-1)), (B + 1 + 1, spO 0 0 0 0 0 0), (B + 1, obO c sl ob), (B, S12 s.now v1 v2 v3 v4 v5 v6 v7 v8 v9 v10 (.slice A11 s.ds.length n11))] wr)) (fun _ k _ => s.ds.length - (intOf k).toNat)
  case atStart => exact ⟨0, Nat.zero_le _, rfl, rfl, fun j y hj => absurd hj (by omega), HO⟩
  case round =>
    clear HO
    obtain ⟨i, hi, rfl, rfl, HN, HO⟩ := hrel
    have f11 : wr.cell? ⟨B, 11, none⟩ = some (.slice A11 s.ds.length n11) := HO.out.cell mem3 11
    by_cases hlt : i < s.ds.length
    · obtain ⟨e, he⟩ : ∃ e, s.ds[i]? = some e := ⟨_, List.getElem?_eq_getElem hlt⟩
      obtain ⟨g, o, cc, heq, hg, hcl⟩ := (HG.out.own HO.out).at_ (by omega)
      cases heq
      obtain ⟨sv, hsv, x0, x1, x2, x3, x4, x5⟩ := hcl i e he
      obtain ⟨Ae, ce, rfl⟩ := hsv.form
      have HE := Lib.hid he
      have HWN := Lib.hid ((Own.self wr).new (ddObj e (.slice Ae e.hs.length ce)))
      have HS := Lib.hid (hsv.own HWN.out)
      have HO2 := Lib.hid (HO.out.new (ddObj e (.slice Ae e.hs.length ce)))
      have hi0 : (0 : Int) ≤ (i : Int) ∧ (i : Int) < (s.ds.length : Int) := by omega
      have HWR := Lib.hid (wrap_succ hlt HDB.out)
      have HLS := Lib.hid (leastT_succ (h := h) HE.out)
      obtain ⟨lo, HL⟩ : ∃ lo, Hid (leastT h s.ds i = lo) := ⟨_, rfl⟩
      rw [HL.out] at HLS HO2 ⊢
      clear hsv he hcl hg HO
      go_upto_region 7 with fail
      obtain ⟨D, hD⟩ : ∃ D, wr.heap.size = D := ⟨_, rfl⟩
      have hO2 := HO2.out
      have hWN := HWN.out
      rw [hD] at hO2 hWN ⊢
      obtain ⟨y0, y1, y2, y3, y4, y5⟩ := dd_at hWN
      clear x0 x1 x2 x3 x4 x5 HO2 HWN hWN hD f11
      generalize wr.alloc (ddObj e (.slice Ae e.hs.length ce)) = w3 at hO2 HS y0 y1 y2 y3 y4 y5 ⊢
      have HO2 := Lib.hid hO2
      clear hO2
      obtain ⟨qn, HQN⟩ : ∃ q, Hid (decide (h ∈ e.hs) = q) := ⟨_, rfl⟩
      cases qn with
      | false =>
        have HI : Hid (isTake h e = false) := Lib.hid (by unfold isTake; rw [HQN.out, Bool.false_and])
        have HL2 : Hid (leastT h s.ds (i + 1) = lo) := Lib.hid (by rw [HLS.out, if_neg (of_decide_eq_false HQN.out)])
        go_wp2_with (go_at_call 35; refine (rnames_spec HS.out h).mono ?_; rintro e w5 ⟨rfl, h5⟩; rw [HQN.out]; have HO5 := Lib.hid (HO2.out.of_self h5); clear h5)
        go_roundw
        case rel =>
          refine ⟨i + 1, by omega, by rw [HL2.out], by rw [HWR.out], fun j z hj hz => ?_, Lib.hid (by rw [HL2.out]; exact HO5.out.skip)⟩
          by_cases hji : j = i
          · subst hji
            rw [HE.out] at hz
            cases hz
            exact HI.out
          · exact HN.out j z (by omega) hz
        case measure => rw [HWR.out]; simp [intOf]; omega
      | true =>
        obtain ⟨qt, HQT⟩ : ∃ q, Hid (takes e.op = q) := ⟨_, rfl⟩
        obtain ⟨qe, HQE⟩ : ∃ q, Hid (decide (e.e = 0) = q) := ⟨_, rfl⟩
        have HI : Hid (isTake h e = (qe && qt)) := Lib.hid (by unfold isTake; rw [HQN.out, HQE.out, HQT.out, Bool.true_and])
        have HLS2 := HLS
        rw [if_pos (of_decide_eq_true HQN.out)] at HLS2
        clear HLS
        go_upto_region 8 with (go_at_call 35; refine (rnames_spec HS.out h).mono ?_; rintro e w5 ⟨rfl, h5⟩; rw [HQN.out]; have HO5 := Lib.hid (HO2.out.of_self h5); clear h5)
        clear y0 y1 y2 y3 y4 y5
        obtain ⟨y0, y1, y2, y3, y4, y5⟩ := dd_at HO5.out
        obtain ⟨⟨a0, a1, a2, a3, a4, a5⟩, z0, z1, z2, z3, z4, z5⟩ := sp_at HO5.out mem1
        have hne : D ≠ B + 1 + 1 + 1 := (HO5.out.ne List.mem_cons_self).symm
        have hne2 : B + 1 + 1 + 1 ≠ D := hne.symm
        cases qt with
        | true =>
          cases qe with
          | true =>
            have hee : (e.e == 0) = true := by rw [beq_iff_eq]; exact of_decide_eq_true HQE.out
            have HF : Hid (tak s.ds h = (e.fr, e.tp)) := Lib.hid (by unfold tak; rw [find_at HE.out HI.out HN.out])
            go_upto_region 9 with (go_at_call 36; refine (rtakes_spec _ _).mono ?_; rintro e w5 ⟨rfl, rfl⟩; rw [HQT.out])
            go_upto_region 11 with fail
            have h4 : Own w ([(D, ddObj e (.slice Ae e.hs.length ce))] ++ (B + 1 + 1 + 1, spO 3 c sl ob e.fr e.tp) :: [(B + 1 + 1, spO 0 0 0 0 0 0), (B + 1, obO c sl ob), (B, S12 s.now v1 v2 v3 v4 v5 v6 v7 v8 v9 v10 (.slice (some ⟨g, o, none⟩) s.ds.length n11))]) _ := (own_sp (m1 := [(D, ddObj e (.slice Ae e.hs.length ce))]) HO5.out e.fr e.tp)
            clear a0 a1 a2 a3 a4 a5 y0 y1 y2 y3 y4 y5 z0 z1 z2 z3 z4 z5
            generalize ((w5.setCell ⟨B + 1 + 1 + 1, 4, none⟩ (.int .i64 e.fr)).setCell ⟨B + 1 + 1 + 1, 5, none⟩ (.int .i64 e.tp)) = w6 at h4 ⊢
            obtain ⟨⟨a0, a1, a2, a3, a4, a5⟩, -⟩ := sp_at h4 mem1
            obtain ⟨⟨b0, b1, b2, b3, b4, b5⟩, u0, u1, u2, u3, u4, u5⟩ := sp_at h4 mem2
            have H4 := Lib.hid h4
            clear h4
            go_wp2_with fail
            have h6 := own_sp6 (m1 := [(D, ddObj e (.slice Ae e.hs.length ce)), (B + 1 + 1 + 1, spO 3 c sl ob e.fr e.tp)]) H4.out 3 c sl ob e.fr e.tp
            clear a0 a1 a2 a3 a4 a5 b0 b1 b2 b3 b4 b5 u0 u1 u2 u3 u4 u5
            generalize (((((w6.setCell ⟨B + 1 + 1, 0, none⟩ (.int .i64 3)).setCell ⟨B + 1 + 1, 1, none⟩ (.int .i64 c)).setCell ⟨B + 1 + 1, 2, none⟩ (.int .i64 sl)).setCell ⟨B + 1 + 1, 3, none⟩ (.int .i64 ob)).setCell ⟨B + 1 + 1, 4, none⟩ (.int .i64 e.fr)).setCell ⟨B + 1 + 1, 5, none⟩ (.int .i64 e.tp) = w7 at h6 ⊢
            obtain ⟨⟨a0, a1, a2, a3, a4, a5⟩, -⟩ := sp_at h6 mem2
            exact bodyPost_ret (v := spA 3 c sl ob e.fr e.tp) (by simp [results, Tryz.f17, go_sem, a0, a1, a2, a3, a4, a5]) rfl ⟨by rw [HF.out], h6.sub (List.nil_sublist _)⟩
          | false =>
            have hee : (e.e == 0) = false := by rw [beq_eq_false_iff_ne]; exact of_decide_eq_false HQE.out
            have HI2 : Hid (isTake h e = false) := Lib.hid (by rw [HI.out]; rfl)
            cases lo with
            | none =>
              have HL2 : Hid (leastT h s.ds (i + 1) = some e.fr) := Lib.hid (by rw [HLS2.out])
              have h7 : Own w ([(D, ddObj e (.slice Ae e.hs.length ce))] ++ (B + 1 + 1 + 1, spO 3 c sl ob e.fr (-1)) :: [(B + 1 + 1, spO 0 0 0 0 0 0), (B + 1, obO c sl ob), (B, S12 s.now v1 v2 v3 v4 v5 v6 v7 v8 v9 v10 (.slice (some ⟨g, o, none⟩) s.ds.length n11))]) _ := (own_sp1 (m1 := [(D, ddObj e (.slice Ae e.hs.length ce))]) HO5.out e.fr)
              have H7 := Lib.hid h7
              clear h7
              go_wp2_with (go_at_call 36; refine (rtakes_spec _ _).mono ?_; rintro e w5 ⟨rfl, rfl⟩; rw [HQT.out])
              go_roundw
              case rel =>
                refine ⟨i + 1, by omega, by rw [HL2.out]; rfl, by rw [HWR.out], fun j z hj hz => ?_, Lib.hid (by rw [HL2.out]; exact H7.out.skip)⟩
                by_cases hji : j = i
                · subst hji
                  rw [HE.out] at hz
                  cases hz
                  exact HI2.out
                · exact HN.out j z (by omega) hz
              case measure => rw [HWR.out]; simp [intOf]; omega
            | some x =>
              have HA4 : Hid (w5.cell? ⟨B + 1 + 1 + 1, 4, none⟩ = some (.int .i64 x)) := Lib.hid a4
              clear a4
              have a4 := HA4.out
              by_cases hfx : e.fr < x
              · have hfb : decide (e.fr < x) = true := decide_eq_true hfx
                have HL2 : Hid (leastT h s.ds (i + 1) = some e.fr) := Lib.hid (by rw [HLS2.out]; simp [hfx])
                clear hfx
                have h7 : Own w ([(D, ddObj e (.slice Ae e.hs.length ce))] ++ (B + 1 + 1 + 1, spO 3 c sl ob e.fr (-1)) :: [(B + 1 + 1, spO 0 0 0 0 0 0), (B + 1, obO c sl ob), (B, S12 s.now v1 v2 v3 v4 v5 v6 v7 v8 v9 v10 (.slice (some ⟨g, o, none⟩) s.ds.length n11))]) _ := (own_sp1 (m1 := [(D, ddObj e (.slice Ae e.hs.length ce))]) HO5.out e.fr)
                have H7 := Lib.hid h7
                clear h7
                go_wp2_with (go_at_call 36; refine (rtakes_spec _ _).mono ?_; rintro e w5 ⟨rfl, rfl⟩; rw [HQT.out])
                go_roundw
                case rel =>
                  refine ⟨i + 1, by omega, by rw [HL2.out]; rfl, by rw [HWR.out], fun j z hj hz => ?_, Lib.hid (by rw [HL2.out]; exact H7.out.skip)⟩
                  by_cases hji : j = i
                  · subst hji
                    rw [HE.out] at hz
                    cases hz
                    exact HI2.out
                  · exact HN.out j z (by omega) hz
                case measure => rw [HWR.out]; simp [intOf]; omega
              · have hfb : decide (e.fr < x) = false := decide_eq_false hfx
                have HL2 : Hid (leastT h s.ds (i + 1) = some x) := Lib.hid (by rw [HLS2.out]; simp [hfx])
                clear hfx
                go_wp2_with (go_at_call 36; refine (rtakes_spec _ _).mono ?_; rintro e w5 ⟨rfl, rfl⟩; rw [HQT.out])
                go_roundw
                case rel =>
                  refine ⟨i + 1, by omega, by rw [HL2.out]; rfl, by rw [HWR.out], fun j z hj hz => ?_, Lib.hid (by rw [HL2.out]; exact HO5.out.skip)⟩
                  by_cases hji : j = i
                  · subst hji
                    rw [HE.out] at hz
                    cases hz
                    exact HI2.out
                  · exact HN.out j z (by omega) hz
                case measure => rw [HWR.out]; simp [intOf]; omega
        | false =>
          have HI2 : Hid (isTake h e = false) := Lib.hid (by rw [HI.out, Bool.and_false])
          cases lo with
          | none =>
            have HL2 : Hid (leastT h s.ds (i + 1) = some e.fr) := Lib.hid (by rw [HLS2.out])
            have h7 : Own w ([(D, ddObj e (.slice Ae e.hs.length ce))] ++ (B + 1 + 1 + 1, spO 3 c sl ob e.fr (-1)) :: [(B + 1 + 1, spO 0 0 0 0 0 0), (B + 1, obO c sl ob), (B, S12 s.now v1 v2 v3 v4 v5 v6 v7 v8 v9 v10 (.slice (some ⟨g, o, none⟩) s.ds.length n11))]) _ := (own_sp1 (m1 := [(D, ddObj e (.slice Ae e.hs.length ce))]) HO5.out e.fr)
            have H7 := Lib.hid h7
            clear h7
            go_wp2_with (go_at_call 36; refine (rtakes_spec _ _).mono ?_; rintro e w5 ⟨rfl, rfl⟩; rw [HQT.out])
            go_roundw
            case rel =>
              refine ⟨i + 1, by omega, by rw [HL2.out]; rfl, by rw [HWR.out], fun j z hj hz => ?_, Lib.hid (by rw [HL2.out]; exact H7.out.skip)⟩
              by_cases hji : j = i
              · subst hji
                rw [HE.out] at hz
                cases hz
                exact HI2.out
              · exact HN.out j z (by omega) hz
            case measure => rw [HWR.out]; simp [intOf]; omega
          | some x =>
            have HA4 : Hid (w5.cell? ⟨B + 1 + 1 + 1, 4, none⟩ = some (.int .i64 x)) := Lib.hid a4
            clear a4
            have a4 := HA4.out
            by_cases hfx : e.fr < x
            · have hfb : decide (e.fr < x) = true := decide_eq_true hfx
              have HL2 : Hid (leastT h s.ds (i + 1) = some e.fr) := Lib.hid (by rw [HLS2.out]; simp [hfx])
              clear hfx
              have h7 : Own w ([(D, ddObj e (.slice Ae e.hs.length ce))] ++ (B + 1 + 1 + 1, spO 3 c sl ob e.fr (-1)) :: [(B + 1 + 1, spO 0 0 0 0 0 0), (B + 1, obO c sl ob), (B, S12 s.now v1 v2 v3 v4 v5 v6 v7 v8 v9 v10 (.slice (some ⟨g, o, none⟩) s.ds.length n11))]) _ := (own_sp1 (m1 := [(D, ddObj e (.slice Ae e.hs.length ce))]) HO5.out e.fr)
              have H7 := Lib.hid h7
              clear h7
              go_wp2_with (go_at_call 36; refine (rtakes_spec _ _).mono ?_; rintro e w5 ⟨rfl, rfl⟩; rw [HQT.out])
              go_roundw
              case rel =>
                refine ⟨i + 1, by omega, by rw [HL2.out]; rfl, by rw [HWR.out], fun j z hj hz => ?_, Lib.hid (by rw [HL2.out]; exact H7.out.skip)⟩
                by_cases hji : j = i
                · subst hji
                  rw [HE.out] at hz
                  cases hz
                  exact HI2.out
                · exact HN.out j z (by omega) hz
              case measure => rw [HWR.out]; simp [intOf]; omega
            · have hfb : decide (e.fr < x) = false := decide_eq_false hfx
              have HL2 : Hid (leastT h s.ds (i + 1) = some x) := Lib.hid (by rw [HLS2.out]; simp [hfx])
              clear hfx
              go_wp2_with (go_at_call 36; refine (rtakes_spec _ _).mono ?_; rintro e w5 ⟨rfl, rfl⟩; rw [HQT.out])
              go_roundw
              case rel =>
                refine ⟨i + 1, by omega, by rw [HL2.out]; rfl, by rw [HWR.out], fun j z hj hz => ?_, Lib.hid (by rw [HL2.out]; exact HO5.out.skip)⟩
                by_cases hji : j = i
                · subst hji
                  rw [HE.out] at hz
                  cases hz
                  exact HI2.out
                · exact HN.out j z (by omega) hz
              case measure => rw [HWR.out]; simp [intOf]; omega
    · obtain rfl : i = s.ds.length := by omega
      have HF : Hid (tak s.ds h = ((leastT h s.ds s.ds.length).getD 0, -1)) := Lib.hid (by unfold tak; rw [find_none_of HN.out, leastT_end])
      obtain ⟨F, hF⟩ : ∃ F, (leastT h s.ds s.ds.length).getD 0 = F := ⟨_, rfl⟩
      rw [hF] at HF HO
      have h4 := HO.out
      obtain ⟨⟨a0, a1, a2, a3, a4, a5⟩, -⟩ := sp_at h4 List.mem_cons_self
      obtain ⟨⟨v0, v1', v2', v3', v4', v5'⟩, u0, u1, u2, u3, u4, u5⟩ := sp_at h4 mem1
      have H4 := Lib.hid h4
      clear h4 hF
      go_wp2_with fail
      have h6 := own_sp6 (m1 := [(B + 1 + 1 + 1, spO 3 c sl ob F (-1))]) H4.out 3 c sl ob F (-1)
      clear a0 a1 a2 a3 a4 a5 v0 v1' v2' v3' v4' v5' u0 u1 u2 u3 u4 u5
      generalize (((((wr.setCell ⟨B + 1 + 1, 0, none⟩ (.int .i64 3)).setCell ⟨B + 1 + 1, 1, none⟩ (.int .i64 c)).setCell ⟨B + 1 + 1, 2, none⟩ (.int .i64 sl)).setCell ⟨B + 1 + 1, 3, none⟩ (.int .i64 ob)).setCell ⟨B + 1 + 1, 4, none⟩ (.int .i64 F)).setCell ⟨B + 1 + 1, 5, none⟩ (.int .i64 (-1)) = w7 at h6 ⊢
      obtain ⟨⟨a0, a1, a2, a3, a4, a5⟩, -⟩ := sp_at h6 mem1
      exact bodyPost_ret (v := spA 3 c sl ob F (-1)) (by simp [results, Tryz.f17, go_sem, a0, a1, a2, a3, a4, a5]) rfl ⟨by rw [HF.out], h6.sub (List.nil_sublist _)⟩
end Go.Proofs.YthjjpmoifgcepaaGreat.Jh
