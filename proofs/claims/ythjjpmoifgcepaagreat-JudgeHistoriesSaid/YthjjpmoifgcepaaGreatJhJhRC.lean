import Derived.Test.YthjjpmoifgcepaaGreatJhJhRB
/-
  Contract: wainscotref30.giving. No condition.
-/
namespace Go.Proofs.YthjjpmoifgcepaaGreat.Jh
open Go.RowKit
attribute [local go_sem ↓] Go.wp_at_zero Go.wp_at_succ
theorem find_none_of {α : Type} {f : α → Bool} {l : List α} (h : ∀ (j : Nat) y, j < l.length → l[j]? = some y → f y = false) : l.find? f = none := find_no fun j y hy => h j y (List.getElem?_eq_some_iff.1 hy).1 hy
set_option maxHeartbeats 4000000 in
set_option maxRecDepth 100000 in
theorem giving_spec {w : World} {s : Sn} {cs : Array Value} (hs : SnapV w (.agg cs) s) (h c sl ob : Int) : Calls Tryz.prog 16 #[.agg cs, .int .i64 h, O3 c sl ob] w fun e w' => e = .returned (spA 1 c sl ob (giv s.ds h).1 (giv s.ds h).2) ∧ Own w [] w' := by
  have hX : BoxS (w.alloc (.cells cs 28)) w.heap.size s := BoxS.new hs
  have hO := (((((Own.self w).new (.cells cs 28)).new (obO c sl ob)).new (spO 0 0 0 0 0 0)).new (spO 1 c sl ob 0 (-1)))
  have hX2 := hX.own ((((Own.self _).new (obO c sl ob)).new (spO 0 0 0 0 0 0)).new (spO 1 c sl ob 0 (-1)))
  simp only [al_size] at hO
  clear hs hX
  go_enter Tryz.func16, Tryz.ntmps16
  go_upto_region 2 with fail
  obtain ⟨B, hB⟩ : ∃ B, w.heap.size = B := ⟨_, rfl⟩
  rw [hB] at hO hX2 ⊢
  generalize (((w.alloc (.cells cs 28)).alloc (obO c sl ob)).alloc (spO 0 0 0 0 0 0)).alloc (spO 1 c sl ob 0 (-1)) = W1 at hO hX2 ⊢
  have HX := Lib.hid hX2
  have HO := Lib.hid hO
  clear hX2 hO hB
  obtain ⟨A1, n1, A2, n2, A3, n3, A4, n4, A5, n5, A6, n6, A7, n7, A8, n8, A9, n9, A10, n10, A11, n11, ⟨-, -, -, -, -, -, -, -, -, -, -, f11⟩, -, -, -, g11, -⟩ := box_all HX.out
  have HG := Lib.hid g11
  have HDB : Hid ((s.ds.length : Int) < 9223372036854775807) := Lib.hid (by have : s.ds.length * 64 ≤ 140737488351232 := g11.bytes; omega)
  have HF11 := Lib.hid f11
  clear g11
  go_wp2_with fail
  go_loopw [8] (fun k wr => ∃ i : Nat, i ≤ s.ds.length ∧ k = .int .i64 i ∧ Hid (∀ (j : Nat) y, j < i → s.ds[j]? = some y → isGive h y = false) ∧ Hid (Own W1 [] wr)) (fun k _ => s.ds.length - (intOf k).toNat)
  case atStart => exact ⟨0, Nat.zero_le _, rfl, fun j y hj => absurd hj (by omega), Lib.hid (Own.self _)⟩
  case round =>
    obtain ⟨i, hi, rfl, HN, HW⟩ := hrel
    clear f11
    have f11 := (HW.out.old (a := ⟨B, 11, none⟩) HX.out.1).trans HF11.out
    by_cases hlt : i < s.ds.length
    · obtain ⟨e, he⟩ : ∃ e, s.ds[i]? = some e := ⟨_, List.getElem?_eq_getElem hlt⟩
      obtain ⟨g, o, cc, heq, hg, hcl⟩ := (HG.out.own HW.out).at_ (by omega)
      cases heq
      obtain ⟨sv, hsv, x0, x1, x2, x3, x4, x5⟩ := hcl i e he
      obtain ⟨Ae, ce, rfl⟩ := hsv.form
      have HE := Lib.hid he
      have HWN := Lib.hid ((Own.self wr).new (ddObj e (.slice Ae e.hs.length ce)))
      have HS := Lib.hid (hsv.own HWN.out)
      have HW2 := Lib.hid (HW.out.alloc (ddObj e (.slice Ae e.hs.length ce)))
      have HO2 := Lib.hid ((HO.out.of_self HW.out).new (ddObj e (.slice Ae e.hs.length ce)))
      have hi0 : (0 : Int) ≤ (i : Int) ∧ (i : Int) < (s.ds.length : Int) := by omega
      have HWR := Lib.hid (wrap_succ hlt HDB.out)
      clear hsv he hcl hg
      go_upto_region 6 with fail
      obtain ⟨D, hD⟩ : ∃ D, wr.heap.size = D := ⟨_, rfl⟩
      have hO2 := HO2.out
      have hWN := HWN.out
      rw [hD] at hO2 hWN ⊢
      obtain ⟨y0, y1, y2, y3, y4, y5⟩ := dd_at hWN
      clear x0 x1 x2 x3 x4 x5 HO2 HWN hWN hD f11
      generalize wr.alloc (ddObj e (.slice Ae e.hs.length ce)) = w3 at hO2 HW2 HS y0 y1 y2 y3 y4 y5 ⊢
      have HO2 := Lib.hid hO2
      clear hO2
      obtain ⟨qg, HQG⟩ : ∃ q, Hid (gives e.op = q) := ⟨_, rfl⟩
      cases qg with
      | false =>
        have HI : Hid (isGive h e = false) := Lib.hid (by unfold isGive; rw [HQG.out, Bool.and_false])
        go_wp2_with (go_at_call 34; refine (rgives_spec _ _).mono ?_; rintro e w2 ⟨rfl, rfl⟩; rw [HQG.out])
        go_roundw
        case rel =>
          refine ⟨i + 1, by omega, by rw [HWR.out], fun j z hj hz => ?_, HW2⟩
          by_cases hji : j = i
          · subst hji
            rw [HE.out] at hz
            cases hz
            exact HI.out
          · exact HN.out j z (by omega) hz
        case measure => rw [HWR.out]; simp [intOf]; omega
      | true =>
        obtain ⟨qn, HQN⟩ : ∃ q, Hid (decide (h ∈ e.hs) = q) := ⟨_, rfl⟩
        have HI : Hid (isGive h e = qn) := Lib.hid (by unfold isGive; rw [HQG.out, HQN.out, Bool.and_true])
        cases qn with
        | false =>
          go_wp2_with (first
            | (go_at_call 34; refine (rgives_spec _ _).mono ?_; rintro e w2 ⟨rfl, rfl⟩; rw [HQG.out])
            | (go_at_call 35; refine (rnames_spec HS.out h).mono ?_; rintro e w5 ⟨rfl, h5⟩; rw [HQN.out]; have HW5 := Lib.hid (HW2.out.of_self h5); clear h5))
          go_roundw
          case rel =>
            refine ⟨i + 1, by omega, by rw [HWR.out], fun j z hj hz => ?_, HW5⟩
            by_cases hji : j = i
            · subst hji
              rw [HE.out] at hz
              cases hz
              exact HI.out
            · exact HN.out j z (by omega) hz
          case measure => rw [HWR.out]; simp [intOf]; omega
        | true =>
          have HF : Hid (giv s.ds h = (e.fr, e.tp)) := Lib.hid (by unfold giv; rw [find_at HE.out HI.out HN.out])
          go_upto_region 7 with (first
            | (go_at_call 34; refine (rgives_spec _ _).mono ?_; rintro e w2 ⟨rfl, rfl⟩; rw [HQG.out])
            | (go_at_call 35; refine (rnames_spec HS.out h).mono ?_; rintro e w5 ⟨rfl, h5⟩; rw [HQN.out]; have HO5 := Lib.hid (HO2.out.of_self h5); clear h5))
          clear y0 y1 y2 y3 y4 y5
          obtain ⟨y0, y1, y2, y3, y4, y5⟩ := dd_at HO5.out
          obtain ⟨⟨a0, a1, a2, a3, a4, a5⟩, z0, z1, z2, z3, z4, z5⟩ := sp_at HO5.out mem1
          have hne : D ≠ B + 1 + 1 + 1 := (HO5.out.ne List.mem_cons_self).symm
          have hne2 : B + 1 + 1 + 1 ≠ D := hne.symm
          go_upto_region 9 with fail
          have h4 : Own w ([(D, ddObj e (.slice Ae e.hs.length ce))] ++ (B + 1 + 1 + 1, spO 1 c sl ob e.fr e.tp) :: [(B + 1 + 1, spO 0 0 0 0 0 0), (B + 1, obO c sl ob), (B, .cells cs 28)]) _ := (own_sp (m1 := [(D, ddObj e (.slice Ae e.hs.length ce))]) HO5.out e.fr e.tp)
          clear a0 a1 a2 a3 a4 a5 y0 y1 y2 y3 y4 y5 z0 z1 z2 z3 z4 z5
          generalize ((w5.setCell ⟨B + 1 + 1 + 1, 4, none⟩ (.int .i64 e.fr)).setCell ⟨B + 1 + 1 + 1, 5, none⟩ (.int .i64 e.tp)) = w6 at h4 ⊢
          obtain ⟨⟨a0, a1, a2, a3, a4, a5⟩, -⟩ := sp_at h4 mem1
          obtain ⟨⟨v0, v1, v2, v3, v4, v5⟩, u0, u1, u2, u3, u4, u5⟩ := sp_at h4 mem2
          have H4 := Lib.hid h4
          clear h4
          go_wp2_with fail
          have h6 := own_sp6 (m1 := [(D, ddObj e (.slice Ae e.hs.length ce)), (B + 1 + 1 + 1, spO 1 c sl ob e.fr e.tp)]) H4.out 1 c sl ob e.fr e.tp
          clear a0 a1 a2 a3 a4 a5 v0 v1 v2 v3 v4 v5 u0 u1 u2 u3 u4 u5
          generalize (((((w6.setCell ⟨B + 1 + 1, 0, none⟩ (.int .i64 1)).setCell ⟨B + 1 + 1, 1, none⟩ (.int .i64 c)).setCell ⟨B + 1 + 1, 2, none⟩ (.int .i64 sl)).setCell ⟨B + 1 + 1, 3, none⟩ (.int .i64 ob)).setCell ⟨B + 1 + 1, 4, none⟩ (.int .i64 e.fr)).setCell ⟨B + 1 + 1, 5, none⟩ (.int .i64 e.tp) = w7 at h6 ⊢
          obtain ⟨⟨a0, a1, a2, a3, a4, a5⟩, -⟩ := sp_at h6 mem2
          exact bodyPost_ret (v := spA 1 c sl ob e.fr e.tp) (by simp [results, Tryz.f16, go_sem, a0, a1, a2, a3, a4, a5]) rfl ⟨by rw [HF.out], h6.sub (List.nil_sublist _)⟩
    · obtain rfl : i = s.ds.length := by omega
      have HF : Hid (giv s.ds h = (0, -1)) := Lib.hid (by unfold giv; rw [find_none_of HN.out])
      have h4 := HO.out.of_self HW.out
      obtain ⟨⟨a0, a1, a2, a3, a4, a5⟩, -⟩ := sp_at h4 List.mem_cons_self
      obtain ⟨⟨v0, v1, v2, v3, v4, v5⟩, u0, u1, u2, u3, u4, u5⟩ := sp_at h4 mem1
      have H4 := Lib.hid h4
      clear h4
      go_wp2_with fail
      have h6 := own_sp6 (m1 := [(B + 1 + 1 + 1, spO 1 c sl ob 0 (-1))]) H4.out 1 c sl ob 0 (-1)
      clear a0 a1 a2 a3 a4 a5 v0 v1 v2 v3 v4 v5 u0 u1 u2 u3 u4 u5
      generalize (((((wr.setCell ⟨B + 1 + 1, 0, none⟩ (.int .i64 1)).setCell ⟨B + 1 + 1, 1, none⟩ (.int .i64 c)).setCell ⟨B + 1 + 1, 2, none⟩ (.int .i64 sl)).setCell ⟨B + 1 + 1, 3, none⟩ (.int .i64 ob)).setCell ⟨B + 1 + 1, 4, none⟩ (.int .i64 0)).setCell ⟨B + 1 + 1, 5, none⟩ (.int .i64 (-1)) = w7 at h6 ⊢
      obtain ⟨⟨a0, a1, a2, a3, a4, a5⟩, -⟩ := sp_at h6 mem1
      exact bodyPost_ret (v := spA 1 c sl ob 0 (-1)) (by simp [results, Tryz.f16, go_sem, a0, a1, a2, a3, a4, a5]) rfl ⟨by rw [HF.out], h6.sub (List.nil_sublist _)⟩
end Go.Proofs.YthjjpmoifgcepaaGreat.Jh
