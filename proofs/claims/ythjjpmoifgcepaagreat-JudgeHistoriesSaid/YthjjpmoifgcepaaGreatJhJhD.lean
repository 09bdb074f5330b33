import Derived.Test.YthjjpmoifgcepaaGreatJhJhK
import Derived.Test.YthjjpmoifgcepaaGreatJh4
/-
  Contract: wainscotlaw30.copySnap: a snap that reads as the one that is handed in. No condition.
-/
namespace Go.Proofs.YthjjpmoifgcepaaGreat.Jh
open Go.RowKit
attribute [local go_sem ↓] Go.wp_at_zero Go.wp_at_succ

abbrev Z12 : Obj := (.cells (sn12 0 (.slice none 0 0) (.slice none 0 0) (.slice none 0 0) (.slice none 0 0) (.slice none 0 0) (.slice none 0 0) (.slice none 0 0) (.slice none 0 0) (.slice none 0 0) (.slice none 0 0) (.slice none 0 0)) 28)
theorem set_all12 (xx : Value) (x1 x2 x3 x4 x5 x6 x7 x8 x9 x10 x11 : Value) : ((((((((((((sn12 0 (.slice none 0 0) (.slice none 0 0) (.slice none 0 0) (.slice none 0 0) (.slice none 0 0) (.slice none 0 0) (.slice none 0 0) (.slice none 0 0) (.slice none 0 0) (.slice none 0 0) (.slice none 0 0)).setIfInBounds 0 xx).setIfInBounds 1 x1).setIfInBounds 2 x2).setIfInBounds 3 x3).setIfInBounds 4 x4).setIfInBounds 5 x5).setIfInBounds 6 x6).setIfInBounds 7 x7).setIfInBounds 8 x8).setIfInBounds 9 x9).setIfInBounds 10 x10).setIfInBounds 11 x11 = #[xx, x1, x2, x3, x4, x5, x6, x7, x8, x9, x10, x11] := by simp [sn12]
theorem own_all12 {W w : World} {m : List (Nat × Obj)} {b : Nat} (h : Own W ((b, Z12) :: m) w) (xx : Value) (x1 x2 x3 x4 x5 x6 x7 x8 x9 x10 x11 : Value) : Own W ((b, .cells #[xx, x1, x2, x3, x4, x5, x6, x7, x8, x9, x10, x11] 28) :: m) ((((((((((((w.setCell ⟨b, 0, none⟩ xx).setCell ⟨b, 1, none⟩ x1).setCell ⟨b, 2, none⟩ x2).setCell ⟨b, 3, none⟩ x3).setCell ⟨b, 4, none⟩ x4).setCell ⟨b, 5, none⟩ x5).setCell ⟨b, 6, none⟩ x6).setCell ⟨b, 7, none⟩ x7).setCell ⟨b, 8, none⟩ x8).setCell ⟨b, 9, none⟩ x9).setCell ⟨b, 10, none⟩ x10).setCell ⟨b, 11, none⟩ x11) := by
  have h1 := ((((((((((((h.set 0 xx).set 1 x1).set 2 x2).set 3 x3).set 4 x4).set 5 x5).set 6 x6).set 7 x7).set 8 x8).set 9 x9).set 10 x10).set 11 x11)
  rw [set_all12] at h1
  exact h1
theorem slo_cap {e size n n' : Nat} {A : Option Addr} {c : Nat} {xs : List Value} {bs : List (Nat × Obj)} (h : SlO true e size (.slice A n c) n' xs bs) : n ≤ c := by
  obtain ⟨A', c', he, h1, _⟩ := h.slice
  injection he with e1 e2 e3
  omega
theorem slice_info : (Tryz.prog.info? 22).map (fun i => (i.zero, i.size, i.bytes)) = some (some (.slice none 0 0), 1, 24) := by kernel_rfl
theorem cache_info : (Tryz.prog.info? 56).map (fun i => (i.zero, i.size, i.bytes)) = some (some (.agg #[.int .i64 0, .int .i64 0, .int .i64 0, .int .i64 0, .bool false, .int .i64 0, .slice none 0 0, .int .i64 0, .int .i64 0, .int .i64 0, .int .i64 0, .int .i64 0, .int .i64 0, .int .i64 0]), 14, 128) := by kernel_rfl
theorem did_info : (Tryz.prog.info? 45).map (fun i => (i.zero, i.size, i.bytes)) = some (some (.agg #[.int .i64 0, .int .i64 0, .int .i64 0, .int .i64 0, .int .i64 0, .slice none 0 0]), 6, 64) := by kernel_rfl
theorem handle_info : (Tryz.prog.info? 41).map (fun i => (i.zero, i.size, i.bytes)) = some (some (.agg #[.int .i64 0, .int .i64 0, .int .i64 0, .int .i64 0, .bool false]), 5, 40) := by kernel_rfl
theorem pa_one (b : List Int) (s : Value) (h : s.oneCell' = true) : ∀ u ∈ paCells b s, u.oneCell' = true := by intro u hu; simp [paCells] at hu; subst hu; exact h
theorem dd_one (b : Dd) (s : Value) (h : s.oneCell' = true) : ∀ u ∈ ddCells b s, u.oneCell' = true := by intro u hu; simp only [ddCells, List.mem_cons, List.not_mem_nil, or_false] at hu; rcases hu with rfl | rfl | rfl | rfl | rfl | rfl <;> first | rfl | exact h
theorem ca_one (b : Ca) (s : Value) (h : s.oneCell' = true) : ∀ u ∈ caCells b s, u.oneCell' = true := by intro u hu; simp only [caCells, List.mem_cons, List.not_mem_nil, or_false] at hu; rcases hu with rfl | rfl | rfl | rfl | rfl | rfl | rfl | rfl | rfl | rfl | rfl | rfl | rfl | rfl <;> first | rfl | exact h
set_option maxRecDepth 100000 in
set_option maxHeartbeats 16000000 in
theorem copySnap_walk {w : World} {n0 : Int} {A1 A2 A3 A4 A5 A6 A7 A8 A9 A10 A11 : Option Addr} {n1 n3 n4 n5 n6 n7 n8 c1 c2 c3 c4 c5 c6 c7 c8 c9 c10 c11 : Nat} {L1 L3 L4 L5 L6 L7 L8 : List Int} {L2 : List (List Int)} {Cs : List Ca} {Ls : List (List Int)} {Hs : List Hn} {Ds : List Dd}
    (h1 : IntsB w (.slice A1 n1 c1) L1) (h2 : PathsV w (.slice A2 L2.length c2) L2) (h3 : IntsB w (.slice A3 n3 c3) L3) (h4 : IntsB w (.slice A4 n4 c4) L4) (h5 : IntsB w (.slice A5 n5 c5) L5) (h6 : IntsB w (.slice A6 n6 c6) L6) (h7 : IntsB w (.slice A7 n7 c7) L7) (h8 : IntsB w (.slice A8 n8 c8) L8) (h9 : CasV w (.slice A9 Cs.length c9) Cs Ls) (h10 : HansV w (.slice A10 Hs.length c10) Hs) (h11 : DidsV w (.slice A11 Ds.length c11) Ds) :
    Calls Tryz.prog 6 #[.agg (sn12 n0 (.slice A1 n1 c1) (.slice A2 L2.length c2) (.slice A3 n3 c3) (.slice A4 n4 c4) (.slice A5 n5 c5) (.slice A6 n6 c6) (.slice A7 n7 c7) (.slice A8 n8 c8) (.slice A9 Cs.length c9) (.slice A10 Hs.length c10) (.slice A11 Ds.length c11))] w fun e w' => ∃ x1 x2 x3 x4 x5 x6 x7 x8 x9 x10 x11 M, e = .returned (.agg (sn12 n0 x1 x2 x3 x4 x5 x6 x7 x8 x9 x10 x11)) ∧ Kp M (fun ws => IntsB ws x1 L1 ∧ PathsV ws x2 L2 ∧ IntsB ws x3 L3 ∧ IntsB ws x4 L4 ∧ IntsB ws x5 L5 ∧ IntsB ws x6 L6 ∧ IntsB ws x7 L7 ∧ IntsB ws x8 L8 ∧ CasV ws x9 Cs Ls ∧ HansV ws x10 Hs ∧ DidsV ws x11 Ds) ∧ Own w M w' ∧ (∀ A n c, x10 = .slice A n c → n ≤ c) ∧ (∀ A n c, x11 = .slice A n c → n ≤ c) := by
  have hW := (Own.init w).new (.cells (sn12 n0 (.slice A1 n1 c1) (.slice A2 L2.length c2) (.slice A3 n3 c3) (.slice A4 n4 c4) (.slice A5 n5 c5) (.slice A6 n6 c6) (.slice A7 n7 c7) (.slice A8 n8 c8) (.slice A9 Cs.length c9) (.slice A10 Hs.length c10) (.slice A11 Ds.length c11)) 28)
  go_enter Tryz.func6, Tryz.ntmps6
  go_upto_region 2 with fail
  obtain ⟨B, hB⟩ : ∃ B, w.heap.size = B := ⟨_, rfl⟩
  rw [hB] at hW ⊢
  have k1 := h1.own hW
  have k2 := h2.own hW
  have k3 := h3.own hW
  have k4 := h4.own hW
  have k5 := h5.own hW
  have k6 := h6.own hW
  have k7 := h7.own hW
  have k8 := h8.own hW
  have k9 := h9.own hW
  have k10 := h10.own hW
  have k11 := h11.own hW
  obtain ⟨⟨d0, d1, d2, d3, d4, d5, d6, d7, d8, d9, d10, d11⟩, -⟩ := box12 hW
  have hlt := hW.lt List.mem_cons_self
  have hsz : (w.alloc (.cells (sn12 n0 (.slice A1 n1 c1) (.slice A2 L2.length c2) (.slice A3 n3 c3) (.slice A4 n4 c4) (.slice A5 n5 c5) (.slice A6 n6 c6) (.slice A7 n7 c7) (.slice A8 n8 c8) (.slice A9 Cs.length c9) (.slice A10 Hs.length c10) (.slice A11 Ds.length c11)) 28)).heap.size = B + 1 := by simp [hB]
  generalize w.alloc (.cells (sn12 n0 (.slice A1 n1 c1) (.slice A2 L2.length c2) (.slice A3 n3 c3) (.slice A4 n4 c4) (.slice A5 n5 c5) (.slice A6 n6 c6) (.slice A7 n7 c7) (.slice A8 n8 c8) (.slice A9 Cs.length c9) (.slice A10 Hs.length c10) (.slice A11 Ds.length c11)) 28) = W at hW k1 k2 k3 k4 k5 k6 k7 k8 k9 k10 k11 d0 d1 d2 d3 d4 d5 d6 d7 d8 d9 d10 d11 hlt hsz ⊢
  have HWW := Lib.hid (hW.skip)
  clear hW hB h1 h2 h3 h4 h5 h6 h7 h8 h9 h10 h11
  have H0 := ((Own.init W).new Z12).new (.cells (sn12 n0 (.slice A1 n1 c1) (.slice A2 L2.length c2) (.slice A3 n3 c3) (.slice A4 n4 c4) (.slice A5 n5 c5) (.slice A6 n6 c6) (.slice A7 n7 c7) (.slice A8 n8 c8) (.slice A9 Cs.length c9) (.slice A10 Hs.length c10) (.slice A11 Ds.length c11)) 28)
  rw [hsz, show (W.alloc Z12).heap.size = B + 1 + 1 by simp [hsz]] at H0
  generalize (W.alloc Z12).alloc (.cells (sn12 n0 (.slice A1 n1 c1) (.slice A2 L2.length c2) (.slice A3 n3 c3) (.slice A4 n4 c4) (.slice A5 n5 c5) (.slice A6 n6 c6) (.slice A7 n7 c7) (.slice A8 n8 c8) (.slice A9 Cs.length c9) (.slice A10 Hs.length c10) (.slice A11 Ds.length c11)) 28) = w0 at H0 ⊢
  have DL := Lib.hid hlt
  have D1 := Lib.hid d1
  have J1 := Lib.hid k1
  have D2 := Lib.hid d2
  have J2 := Lib.hid k2
  have D3 := Lib.hid d3
  have J3 := Lib.hid k3
  have D4 := Lib.hid d4
  have J4 := Lib.hid k4
  have D5 := Lib.hid d5
  have J5 := Lib.hid k5
  have D6 := Lib.hid d6
  have J6 := Lib.hid k6
  have D7 := Lib.hid d7
  have J7 := Lib.hid k7
  have D8 := Lib.hid d8
  have J8 := Lib.hid k8
  have D9 := Lib.hid d9
  have J9 := Lib.hid k9
  have D10 := Lib.hid d10
  have J10 := Lib.hid k10
  have D11 := Lib.hid d11
  have J11 := Lib.hid k11
  clear k1 k2 k3 k4 k5 k6 k7 k8 k9 k10 k11 d0 d1 d2 d3 d4 d5 d6 d7 d8 d9 d10 d11 hlt hsz
  have e1 := (H0.old (a := ⟨B, 1, none⟩) DL.out).trans D1.out
  go_upto_region 4 with (go_at_call 14; refine (copyC H0 J1.out).mono ?_; rintro e w1 ⟨X1, y1, bs1, rfl, K1, HH⟩; have f1 := own_mid2 HH.out; obtain ⟨p1, p2⟩ := box_at (n := 1) f1 rfl; obtain ⟨p3, p4⟩ := box_at (n := 2) f1 rfl)
  have H1 : Own W ((B + 1 + 1, (.cells (sn12 n0 (.slice X1 L1.length y1) (.slice none 0 0) (.slice A3 n3 c3) (.slice A4 n4 c4) (.slice A5 n5 c5) (.slice A6 n6 c6) (.slice A7 n7 c7) (.slice A8 n8 c8) (.slice A9 Cs.length c9) (.slice A10 Hs.length c10) (.slice A11 Ds.length c11)) 28)) :: (B + 1, Z12) :: (bs1 ++ [])) _ := (f1.set 1 (.slice X1 L1.length y1)).set 2 (.slice none 0 0)
  rw [List.append_nil] at H1
  clear f1 p1 p2 p3 p4 HH H0 e1
  generalize (w1.setCell ⟨B + 1 + 1, 1, none⟩ (.slice X1 L1.length y1)).setCell ⟨B + 1 + 1, 2, none⟩ (.slice none 0 0) = w2 at H1 ⊢
  obtain ⟨M0, hM0⟩ : ∃ M0, M0 = bs1 := ⟨_, rfl⟩
  subst hM0
  have KP : Hid (Kp M0 fun ws => IntsB ws (.slice X1 L1.length y1) L1) := K1
  have HH := Lib.hid H1
  clear H1 K1
  have HB2 : Hid (L2.length * 24 ≤ BB) := J2.out.bytes
  have HI2 : Hid ((L2.length : Int) < 9223372036854775807) := by
    have := bb_le HB2.out
    show (L2.length : Int) < _
    omega
  have e2 := (HH.out.old (a := ⟨B, 2, none⟩) DL.out).trans D2.out
  go_wp2_with fail
  go_loopw [4] (fun k wr => ∃ (i : Nat) (X2 : Option Addr) (x2 : Nat) (svs : List Value) (bs0 M : List (Nat × Obj)), i ≤ L2.length ∧ k = .int .i64 i ∧ Hid (SlO true 22 1 (.slice X2 i x2) i (List.zipWith paCells L2 svs).flatten bs0) ∧ Hid (svs.length = i) ∧ Hid (Kp M fun ws => IntsB ws (.slice X1 L1.length y1) L1) ∧ Hid (RowsK M svs L2) ∧ Hid (Own W (bs0 ++ ((B + 1 + 1, (.cells (sn12 n0 (.slice X1 L1.length y1) (.slice X2 i x2) (.slice A3 n3 c3) (.slice A4 n4 c4) (.slice A5 n5 c5) (.slice A6 n6 c6) (.slice A7 n7 c7) (.slice A8 n8 c8) (.slice A9 Cs.length c9) (.slice A10 Hs.length c10) (.slice A11 Ds.length c11)) 28)) :: (B + 1, Z12) :: M)) wr)) (fun k _ => L2.length - (intOf k).toNat)
  case atStart => exact ⟨0, none, 0, [], [], M0, Nat.zero_le _, rfl, (by rw [List.zipWith_nil_right]; exact SlO.nil _ _ _), rfl, KP, (fun j sv p hj => by simp at hj), HH.out⟩
  case round =>
    clear HH e2 KP
    obtain ⟨i, X2, x2, svs, bs0, M, hi, rfl, HS, HSL, KP, HR, HO⟩ := hrel
    have e2 := (HO.out.old (a := ⟨B, 2, none⟩) DL.out).trans D2.out
    by_cases hlt : i < L2.length
    · obtain ⟨p, hp⟩ : ∃ p, L2[i]? = some p := ⟨_, List.getElem?_eq_getElem hlt⟩
      obtain ⟨g, q, cc, he, hg, hc⟩ := J2.out.at_ (by omega)
      cases he
      obtain ⟨sv, hc1, hsv⟩ := hc i p hp
      obtain ⟨Av, cv, rfl⟩ := hsv.form
      have HV := Lib.hid hsv
      have HP := Lib.hid hp
      have hw := wrap_succ hlt HI2.out
      have e3 := (HO.out.old (a := ⟨g, q + i, none⟩) hg).trans hc1
      have f0 := own_mid2 HO.out
      obtain ⟨r1, r2⟩ := box_at (n := 2) f0 rfl
      have HC1 := Lib.hid hc1
      have HG := Lib.hid hg
      have hii : (0 : Int) ≤ (i : Int) ∧ (i : Int) < (L2.length : Int) := by omega
      clear hc hsv hp hc1 hg f0
      have HL24 : Hid ((i + 1) * 24 ≤ BB) := Nat.le_trans (Nat.mul_le_mul_right 24 hlt) HB2.out
      have H1C : Hid (∀ Xv yv, ∀ u ∈ (#[Value.slice Xv p.length yv] : Array Value).toList, u.oneCell' = true) := fun Xv yv u hu => by simp at hu; subst hu; rfl
      go_upto_region 7 with fail
      go_region_law (first
        | (go_simp; go_at_call 14; (refine (copyC HO.out.drew HV.out).mono ?_); rintro e w4 ⟨Xv, yv, bsv, rfl, KV, H4⟩; have f4 := own_in3 H4.out; have t1 := (f4.old (a := ⟨B, 2, none⟩) DL.out).trans D2.out; obtain ⟨s1, s2⟩ := box_at (n := 2) (own_mid2 f4) rfl; have s5 : ∀ o : Obj, (w4.alloc o).cell? ⟨B + 1 + 1, 2, none⟩ = some (.slice X2 i x2) := fun o => (box_at (n := 2) ((own_mid2 f4).alloc o) rfl).1)
        | ((refine step_app1 (by rfl) _ _ _ (by rfl) (by rfl) (by rfl) 22 Tryz.underlying23 slice_info (by rfl) (by omega) (by omega) HS.out (f4.alloc _) (src_row w4 22 #[.slice Xv p.length yv]) (H1C.out Xv yv) HL24.out ?_); intro XA xA w6 bs6 k1 k2; obtain ⟨s3, s4⟩ := box_at (n := 2) (own_mid2 k2) rfl))
      all_goals
        have K1 := Lib.hid k1
        have K2 := Lib.hid k2
        clear k1 k2 f4 s1 s2 s5 t1
        go_wp2_with fail
        refine ⟨⟨i + 1, XA, xA, svs ++ [.slice Xv p.length yv], bs6, bsv ++ M, by omega, by rw [hw], ?_, ?_, KP.out.left bsv, RowsK.snoc HR.out (by rw [HSL.out]; exact HP.out) KV.out, K2.out.setIn 2 _⟩, by rw [hw]; simp [intOf]; omega⟩
        · rw [zip_snoc (mk := paCells) (b := p) (by rw [HSL.out]; exact HP.out), List.flatten_append, List.flatten_cons, List.flatten_nil, List.append_nil]
          exact K1.out
        · show (svs ++ [_]).length = i + 1
          rw [List.length_append, HSL.out]; rfl
    · obtain rfl : i = L2.length := by omega
      have HK2 : Hid (Kp (bs0 ++ M) fun ws => PathsV ws (.slice X2 L2.length x2) L2) := fun ws hw => ⟨svs, HSL.out, rows_kp (k := 0) (bytes := 24) (mk := paCells) (fun _ _ => rfl) (fun _ _ => rfl) pa_one HSL.out rfl HS.out HR.out HB2.out ws hw⟩
      have KP2 : Hid (Kp (bs0 ++ M) fun ws => PathsV ws (.slice X2 L2.length x2) L2 ∧ IntsB ws (.slice X1 L1.length y1) L1) := fun ws hw => ⟨HK2.out ws hw, KP.out ws fun p hp => hw p (List.mem_append_right _ hp)⟩
      have HH2 : Hid (Own W ((B + 1 + 1, (.cells (sn12 n0 (.slice X1 L1.length y1) (.slice X2 L2.length x2) (.slice A3 n3 c3) (.slice A4 n4 c4) (.slice A5 n5 c5) (.slice A6 n6 c6) (.slice A7 n7 c7) (.slice A8 n8 c8) (.slice A9 Cs.length c9) (.slice A10 Hs.length c10) (.slice A11 Ds.length c11)) 28)) :: (B + 1, Z12) :: (bs0 ++ M)) wr) := own_mid2 HO.out
      obtain ⟨M2, hM2⟩ : ∃ M2, M2 = bs0 ++ M := ⟨_, rfl⟩
      rw [← hM2] at KP2 HH2
      clear hM2 HS HSL KP HR HO HK2 hlt hi
      obtain ⟨KP, HH⟩ := And.intro KP2 HH2
      clear KP2 HH2
      have hlti : ¬ ((L2.length : Int) < L2.length) := by omega
      go_upto_region 8 with fail
      clear e2 hlti
      have g3 := (HH.out.old (a := ⟨B, 3, none⟩) DL.out).trans D3.out
      have g4 := (HH.out.old (a := ⟨B, 4, none⟩) DL.out).trans D4.out
      go_region_held3 (fun w' => w'.cell? ⟨B, 3, none⟩ = some (.slice A3 n3 c3) ∧ w'.cell? ⟨B, 4, none⟩ = some (.slice A4 n4 c4)) (first | assumption | (refine ⟨?_, ?_⟩ <;> first | assumption | exact (keep_set (by assumption) (by omega)) | exact (keep_set (keep_set (by assumption) (by omega)) (by omega))) | go_keep)
        (first
          | (go_at_call 14; ((with_reducible refine (copyC HH.out.drew J3.out).mono ?_); rintro e w3 ⟨X3, y3, bs3, rfl, K3, H3⟩; have f3 := own_mid2 H3.out; have g3_3 := (f3.old (a := ⟨B, 3, none⟩) DL.out).trans D3.out; have g3_4 := (f3.old (a := ⟨B, 4, none⟩) DL.out).trans D4.out))
          | (go_at_call 14; ((with_reducible refine (copyC f3 J4.out).mono ?_); rintro e w4 ⟨X4, y4, bs4, rfl, K4, H4⟩; have f4 := own_mid2 H4.out; have g4_3 := (f4.old (a := ⟨B, 3, none⟩) DL.out).trans D3.out; have g4_4 := (f4.old (a := ⟨B, 4, none⟩) DL.out).trans D4.out; obtain ⟨p3, q3⟩ := box_at (n := 3) f4 rfl; obtain ⟨p4, q4⟩ := box_at (n := 4) f4 rfl)))
      go_upto_region 9 with fail
      have HN : Hid (Own W ((B + 1 + 1, (.cells (sn12 n0 (.slice X1 L1.length y1) (.slice X2 L2.length x2) (.slice X3 L3.length y3) (.slice X4 L4.length y4) (.slice A5 n5 c5) (.slice A6 n6 c6) (.slice A7 n7 c7) (.slice A8 n8 c8) (.slice A9 Cs.length c9) (.slice A10 Hs.length c10) (.slice A11 Ds.length c11)) 28)) :: (B + 1, Z12) :: (bs4 ++ (bs3 ++ (M2)))) ((w4.setCell ⟨B + 1 + 1, 3, none⟩ (.slice X3 L3.length y3)).setCell ⟨B + 1 + 1, 4, none⟩ (.slice X4 L4.length y4))) := ((f4.set 3 (.slice X3 L3.length y3)).set 4 (.slice X4 L4.length y4))
      have KN : Hid (Kp (bs4 ++ (bs3 ++ (M2))) fun ws => IntsB ws (.slice X4 L4.length y4) L4 ∧ IntsB ws (.slice X3 L3.length y3) L3 ∧ PathsV ws (.slice X2 L2.length x2) L2 ∧ IntsB ws (.slice X1 L1.length y1) L1) := fun ws hw => ⟨K4.out ws fun p hp => hw p (by simp [hp]), K3.out ws fun p hp => hw p (by simp [hp]), KP.out ws fun p hp => hw p (by simp [hp])⟩
      obtain ⟨M4, hM4⟩ : ∃ M4, M4 = bs4 ++ (bs3 ++ (M2)) := ⟨_, rfl⟩
      rw [← hM4] at HN KN
      clear hM4 HH KP H3 K3 f3 p3 q3 g3 H4 K4 f4 p4 q4 g4 g3_3 g3_4 g4_3 g4_4
      generalize ((w4.setCell ⟨B + 1 + 1, 3, none⟩ (.slice X3 L3.length y3)).setCell ⟨B + 1 + 1, 4, none⟩ (.slice X4 L4.length y4)) = v4 at HN ⊢
      obtain ⟨KP, HH⟩ := And.intro KN HN
      clear KN HN
      have g5 := (HH.out.old (a := ⟨B, 5, none⟩) DL.out).trans D5.out
      have g6 := (HH.out.old (a := ⟨B, 6, none⟩) DL.out).trans D6.out
      have g7 := (HH.out.old (a := ⟨B, 7, none⟩) DL.out).trans D7.out
      go_region_held3 (fun w' => w'.cell? ⟨B, 5, none⟩ = some (.slice A5 n5 c5) ∧ w'.cell? ⟨B, 6, none⟩ = some (.slice A6 n6 c6) ∧ w'.cell? ⟨B, 7, none⟩ = some (.slice A7 n7 c7)) (first | assumption | (refine ⟨?_, ?_, ?_⟩ <;> first | assumption | exact (keep_set (by assumption) (by omega)) | exact (keep_set (keep_set (by assumption) (by omega)) (by omega)) | exact (keep_set (keep_set (keep_set (by assumption) (by omega)) (by omega)) (by omega))) | go_keep)
        (first
          | (go_at_call 14; ((with_reducible refine (copyC HH.out.drew J5.out).mono ?_); rintro e w5 ⟨X5, y5, bs5, rfl, K5, H5⟩; have f5 := own_mid2 H5.out; have g5_5 := (f5.old (a := ⟨B, 5, none⟩) DL.out).trans D5.out; have g5_6 := (f5.old (a := ⟨B, 6, none⟩) DL.out).trans D6.out; have g5_7 := (f5.old (a := ⟨B, 7, none⟩) DL.out).trans D7.out))
          | (go_at_call 14; ((with_reducible refine (copyC f5 J6.out).mono ?_); rintro e w6 ⟨X6, y6, bs6, rfl, K6, H6⟩; have f6 := own_mid2 H6.out; have g6_5 := (f6.old (a := ⟨B, 5, none⟩) DL.out).trans D5.out; have g6_6 := (f6.old (a := ⟨B, 6, none⟩) DL.out).trans D6.out; have g6_7 := (f6.old (a := ⟨B, 7, none⟩) DL.out).trans D7.out))
          | (go_at_call 14; ((with_reducible refine (copyC f6 J7.out).mono ?_); rintro e w7 ⟨X7, y7, bs7, rfl, K7, H7⟩; have f7 := own_mid2 H7.out; have g7_5 := (f7.old (a := ⟨B, 5, none⟩) DL.out).trans D5.out; have g7_6 := (f7.old (a := ⟨B, 6, none⟩) DL.out).trans D6.out; have g7_7 := (f7.old (a := ⟨B, 7, none⟩) DL.out).trans D7.out; obtain ⟨p5, q5⟩ := box_at (n := 5) f7 rfl; obtain ⟨p6, q6⟩ := box_at (n := 6) f7 rfl; obtain ⟨p7, q7⟩ := box_at (n := 7) f7 rfl)))
      go_upto_region 10 with fail
      have HN : Hid (Own W ((B + 1 + 1, (.cells (sn12 n0 (.slice X1 L1.length y1) (.slice X2 L2.length x2) (.slice X3 L3.length y3) (.slice X4 L4.length y4) (.slice X5 L5.length y5) (.slice X6 L6.length y6) (.slice X7 L7.length y7) (.slice A8 n8 c8) (.slice A9 Cs.length c9) (.slice A10 Hs.length c10) (.slice A11 Ds.length c11)) 28)) :: (B + 1, Z12) :: (bs7 ++ (bs6 ++ (bs5 ++ (M4))))) (((w7.setCell ⟨B + 1 + 1, 5, none⟩ (.slice X5 L5.length y5)).setCell ⟨B + 1 + 1, 6, none⟩ (.slice X6 L6.length y6)).setCell ⟨B + 1 + 1, 7, none⟩ (.slice X7 L7.length y7))) := (((f7.set 5 (.slice X5 L5.length y5)).set 6 (.slice X6 L6.length y6)).set 7 (.slice X7 L7.length y7))
      have KN : Hid (Kp (bs7 ++ (bs6 ++ (bs5 ++ (M4)))) fun ws => IntsB ws (.slice X7 L7.length y7) L7 ∧ IntsB ws (.slice X6 L6.length y6) L6 ∧ IntsB ws (.slice X5 L5.length y5) L5 ∧ IntsB ws (.slice X4 L4.length y4) L4 ∧ IntsB ws (.slice X3 L3.length y3) L3 ∧ PathsV ws (.slice X2 L2.length x2) L2 ∧ IntsB ws (.slice X1 L1.length y1) L1) := fun ws hw => ⟨K7.out ws fun p hp => hw p (by simp [hp]), K6.out ws fun p hp => hw p (by simp [hp]), K5.out ws fun p hp => hw p (by simp [hp]), KP.out ws fun p hp => hw p (by simp [hp])⟩
      obtain ⟨M7, hM7⟩ : ∃ M7, M7 = bs7 ++ (bs6 ++ (bs5 ++ (M4))) := ⟨_, rfl⟩
      rw [← hM7] at HN KN
      clear hM7 HH KP H5 K5 f5 p5 q5 g5 H6 K6 f6 p6 q6 g6 H7 K7 f7 p7 q7 g7 g5_5 g5_6 g5_7 g6_5 g6_6 g6_7 g7_5 g7_6 g7_7
      generalize (((w7.setCell ⟨B + 1 + 1, 5, none⟩ (.slice X5 L5.length y5)).setCell ⟨B + 1 + 1, 6, none⟩ (.slice X6 L6.length y6)).setCell ⟨B + 1 + 1, 7, none⟩ (.slice X7 L7.length y7)) = v7 at HN ⊢
      obtain ⟨KP, HH⟩ := And.intro KN HN
      clear KN HN
      have g8 := (HH.out.old (a := ⟨B, 8, none⟩) DL.out).trans D8.out
      go_upto_region 12 with (go_at_call 14; refine (copyC HH.out J8.out).mono ?_; rintro e w8 ⟨X8, y8, bs8, rfl, K8, H8⟩; have f8 := own_mid2 H8.out; obtain ⟨p1, p2⟩ := box_at (n := 8) f8 rfl; obtain ⟨p3, p4⟩ := box_at (n := 9) f8 rfl)
      have HN : Hid (Own W ((B + 1 + 1, (.cells (sn12 n0 (.slice X1 L1.length y1) (.slice X2 L2.length x2) (.slice X3 L3.length y3) (.slice X4 L4.length y4) (.slice X5 L5.length y5) (.slice X6 L6.length y6) (.slice X7 L7.length y7) (.slice X8 L8.length y8) (.slice none 0 0) (.slice A10 Hs.length c10) (.slice A11 Ds.length c11)) 28)) :: (B + 1, Z12) :: (bs8 ++ M7)) ((w8.setCell ⟨B + 1 + 1, 8, none⟩ (.slice X8 L8.length y8)).setCell ⟨B + 1 + 1, 9, none⟩ (.slice none 0 0))) := (f8.set 8 (.slice X8 L8.length y8)).set 9 (.slice none 0 0)
      have KN : Hid (Kp (bs8 ++ M7) fun ws => IntsB ws (.slice X8 L8.length y8) L8 ∧ IntsB ws (.slice X7 L7.length y7) L7 ∧ IntsB ws (.slice X6 L6.length y6) L6 ∧ IntsB ws (.slice X5 L5.length y5) L5 ∧ IntsB ws (.slice X4 L4.length y4) L4 ∧ IntsB ws (.slice X3 L3.length y3) L3 ∧ PathsV ws (.slice X2 L2.length x2) L2 ∧ IntsB ws (.slice X1 L1.length y1) L1) := fun ws hw => ⟨K8.out ws fun p hp => hw p (by simp [hp]), KP.out ws fun p hp => hw p (by simp [hp])⟩
      obtain ⟨M8, hM8⟩ : ∃ M8, M8 = bs8 ++ M7 := ⟨_, rfl⟩
      rw [← hM8] at HN KN
      clear hM8 HH KP H8 K8 f8 p1 p2 p3 p4 g8
      generalize ((w8.setCell ⟨B + 1 + 1, 8, none⟩ (.slice X8 L8.length y8)).setCell ⟨B + 1 + 1, 9, none⟩ (.slice none 0 0)) = v8 at HN ⊢
      obtain ⟨KP, HH⟩ := And.intro KN HN
      clear KN HN
      have HB9 : Hid (Cs.length * 128 ≤ BB) := J9.out.bytes
      have HI9 : Hid ((Cs.length : Int) < 9223372036854775807) := by
        have := bb_le HB9.out
        show (Cs.length : Int) < _
        omega
      have e9 := (HH.out.old (a := ⟨B, 9, none⟩) DL.out).trans D9.out
      go_wp2_with fail
      go_loopw [5] (fun k wr => ∃ (i : Nat) (X9 : Option Addr) (x9 : Nat) (svs : List Value) (bs0 M : List (Nat × Obj)), i ≤ Cs.length ∧ k = .int .i64 i ∧ Hid (SlO true 56 14 (.slice X9 i x9) i (List.zipWith caCells Cs svs).flatten bs0) ∧ Hid (svs.length = i) ∧ Hid (Kp M fun ws => IntsB ws (.slice X8 L8.length y8) L8 ∧ IntsB ws (.slice X7 L7.length y7) L7 ∧ IntsB ws (.slice X6 L6.length y6) L6 ∧ IntsB ws (.slice X5 L5.length y5) L5 ∧ IntsB ws (.slice X4 L4.length y4) L4 ∧ IntsB ws (.slice X3 L3.length y3) L3 ∧ PathsV ws (.slice X2 L2.length x2) L2 ∧ IntsB ws (.slice X1 L1.length y1) L1) ∧ Hid (RowsK M svs Ls) ∧ Hid (Own W (bs0 ++ ((B + 1 + 1, (.cells (sn12 n0 (.slice X1 L1.length y1) (.slice X2 L2.length x2) (.slice X3 L3.length y3) (.slice X4 L4.length y4) (.slice X5 L5.length y5) (.slice X6 L6.length y6) (.slice X7 L7.length y7) (.slice X8 L8.length y8) (.slice X9 i x9) (.slice A10 Hs.length c10) (.slice A11 Ds.length c11)) 28)) :: (B + 1, Z12) :: M)) wr)) (fun k _ => Cs.length - (intOf k).toNat)
      case atStart => exact ⟨0, none, 0, [], [], M8, Nat.zero_le _, rfl, (by rw [List.zipWith_nil_right]; exact SlO.nil _ _ _), rfl, KP, (fun j sv p hj => by simp at hj), HH.out⟩
      case round =>
        clear HH e9 KP
        obtain ⟨i, X9, x9, svs, bs0, M, hi, rfl, HS, HSL, KP, HR, HO⟩ := hrel
        have e9 := (HO.out.old (a := ⟨B, 9, none⟩) DL.out).trans D9.out
        by_cases hlt : i < Cs.length
        · obtain ⟨a, ha⟩ : ∃ a, Cs[i]? = some a := ⟨_, List.getElem?_eq_getElem hlt⟩
          obtain ⟨g, q, cc, he, hg, hc⟩ := J9.out.at_ (by omega)
          cases he
          obtain ⟨p, hp⟩ : ∃ p, Ls[i]? = some p := ⟨_, List.getElem?_eq_getElem (by rw [J9.out.len]; exact hlt)⟩
          obtain ⟨sv, hsv, hc1⟩ := hc i a p ha hp
          obtain ⟨Av, cv, rfl⟩ := hsv.form
          have HV := Lib.hid hsv
          have HP := Lib.hid hp
          have HA := Lib.hid ha
          have hw := wrap_succ hlt HI9.out
          have q0 := (HO.out.old (a := ⟨g, q + i * 14 + 0, none⟩) hg).trans (hc1 0 _ rfl)
          have q1 := (HO.out.old (a := ⟨g, q + i * 14 + 1, none⟩) hg).trans (hc1 1 _ rfl)
          have q2 := (HO.out.old (a := ⟨g, q + i * 14 + 2, none⟩) hg).trans (hc1 2 _ rfl)
          have q3 := (HO.out.old (a := ⟨g, q + i * 14 + 3, none⟩) hg).trans (hc1 3 _ rfl)
          have q4 := (HO.out.old (a := ⟨g, q + i * 14 + 4, none⟩) hg).trans (hc1 4 _ rfl)
          have q5 := (HO.out.old (a := ⟨g, q + i * 14 + 5, none⟩) hg).trans (hc1 5 _ rfl)
          have q6 := (HO.out.old (a := ⟨g, q + i * 14 + 6, none⟩) hg).trans (hc1 6 _ rfl)
          have q7 := (HO.out.old (a := ⟨g, q + i * 14 + 7, none⟩) hg).trans (hc1 7 _ rfl)
          have q8 := (HO.out.old (a := ⟨g, q + i * 14 + 8, none⟩) hg).trans (hc1 8 _ rfl)
          have q9 := (HO.out.old (a := ⟨g, q + i * 14 + 9, none⟩) hg).trans (hc1 9 _ rfl)
          have q10 := (HO.out.old (a := ⟨g, q + i * 14 + 10, none⟩) hg).trans (hc1 10 _ rfl)
          have q11 := (HO.out.old (a := ⟨g, q + i * 14 + 11, none⟩) hg).trans (hc1 11 _ rfl)
          have q12 := (HO.out.old (a := ⟨g, q + i * 14 + 12, none⟩) hg).trans (hc1 12 _ rfl)
          have q13 := (HO.out.old (a := ⟨g, q + i * 14 + 13, none⟩) hg).trans (hc1 13 _ rfl)
          rw [Nat.add_zero] at q0
          have HG := Lib.hid hg
          have hii : (0 : Int) ≤ (i : Int) ∧ (i : Int) < (Cs.length : Int) := by omega
          clear hc hsv hp ha hg hc1
          have HLB : Hid ((i + 1) * 128 ≤ BB) := Nat.le_trans (Nat.mul_le_mul_right 128 hlt) HB9.out
          go_upto_region 16 with fail
          have h15 := HO.out.new (.cells (ca14 a (.slice Av p.length cv)) 56)
          obtain ⟨b6, hb6⟩ : ∃ b6, wr.heap.size = b6 := ⟨_, rfl⟩
          rw [hb6] at h15 ⊢
          generalize wr.alloc (.cells (ca14 a (.slice Av p.length cv)) 56) = w15 at h15 ⊢
          clear hb6 q0 q1 q2 q3 q4 q5 q6 q7 q8 q9 q10 q11 q12 q13
          obtain ⟨r6, -⟩ := box_at (n := 6) h15 rfl
          go_upto_region 17 with (go_at_call 14; refine (copyC h15 HV.out).mono ?_; rintro e w4 ⟨Xv, yv, bsv, rfl, KV, H4⟩; have f4 := own_mid H4.out; obtain ⟨s1, s2⟩ := box_at (n := 6) f4 rfl)
          have h17 : Own W ((b6, .cells (ca14 a (.slice Xv p.length yv)) 56) :: (bsv ++ (bs0 ++ ((B + 1 + 1, (.cells (sn12 n0 (.slice X1 L1.length y1) (.slice X2 L2.length x2) (.slice X3 L3.length y3) (.slice X4 L4.length y4) (.slice X5 L5.length y5) (.slice X6 L6.length y6) (.slice X7 L7.length y7) (.slice X8 L8.length y8) (.slice X9 i x9) (.slice A10 Hs.length c10) (.slice A11 Ds.length c11)) 28)) :: (B + 1, Z12) :: M)))) _ := f4.set 6 (.slice Xv p.length yv)
          generalize w4.setCell ⟨b6, 6, none⟩ (.slice Xv p.length yv) = w17 at h17 ⊢
          clear h15 f4 s1 s2 r6 H4
          obtain ⟨z0, z1, z2, z3, z4, z5, z6, z7, z8, z9, z10, z11, z12, z13⟩ := box14 h17
          have f17 := own_in3 h17.skip
          have H17 := Lib.hid f17
          obtain ⟨s1, -⟩ := box_at (n := 9) (own_mid2 f17) rfl
          clear h17 f17
          have H1C : Hid (∀ u ∈ (ca14 a (.slice Xv p.length yv)).toList, u.oneCell' = true) := ca_one a _ rfl
          go_wp2_with (at_builtin; refine wpList_app1 (by rfl) _ _ _ (by rfl) (by rfl) (by rfl) 56 Tryz.underlying24 cache_info (by rfl) (by omega) (by omega) HS.out (H17.out.alloc _) (src_row w17 56 (ca14 a (.slice Xv p.length yv))) H1C.out HLB.out ?_; intro XA xA w6 bs6 k1 k2; obtain ⟨s3, s4⟩ := box_at (n := 9) (own_mid2 k2) rfl; have K1 := Lib.hid k1; have K2 := Lib.hid k2; clear k1 k2)
          refine ⟨⟨i + 1, XA, xA, svs ++ [.slice Xv p.length yv], bs6, bsv ++ M, by omega, by rw [hw], ?_, ?_, KP.out.left bsv, RowsK.snoc HR.out (by rw [HSL.out]; exact HP.out) KV.out, K2.out.setIn 9 _⟩, by rw [hw]; simp [intOf]; omega⟩
          · rw [zip_snoc (mk := caCells) (b := a) (by rw [HSL.out]; exact HA.out), List.flatten_append, List.flatten_cons, List.flatten_nil, List.append_nil]
            exact K1.out
          · show (svs ++ [_]).length = i + 1
            rw [List.length_append, HSL.out]; rfl
        · obtain rfl : i = Cs.length := by omega
          have HK9 : Hid (Kp (bs0 ++ M) fun ws => CasV ws (.slice X9 Cs.length x9) Cs Ls) := fun ws hw => ⟨svs, HSL.out, rows_kp (k := 6) (bytes := 128) (mk := caCells) (fun _ _ => rfl) (fun _ _ => rfl) ca_one HSL.out J9.out.len HS.out HR.out HB9.out ws hw⟩
          have KP2 : Hid (Kp (bs0 ++ M) fun ws => CasV ws (.slice X9 Cs.length x9) Cs Ls ∧ IntsB ws (.slice X8 L8.length y8) L8 ∧ IntsB ws (.slice X7 L7.length y7) L7 ∧ IntsB ws (.slice X6 L6.length y6) L6 ∧ IntsB ws (.slice X5 L5.length y5) L5 ∧ IntsB ws (.slice X4 L4.length y4) L4 ∧ IntsB ws (.slice X3 L3.length y3) L3 ∧ PathsV ws (.slice X2 L2.length x2) L2 ∧ IntsB ws (.slice X1 L1.length y1) L1) := fun ws hw => ⟨HK9.out ws hw, KP.out ws fun p hp => hw p (List.mem_append_right _ hp)⟩
          have HH2 : Hid (Own W ((B + 1 + 1, (.cells (sn12 n0 (.slice X1 L1.length y1) (.slice X2 L2.length x2) (.slice X3 L3.length y3) (.slice X4 L4.length y4) (.slice X5 L5.length y5) (.slice X6 L6.length y6) (.slice X7 L7.length y7) (.slice X8 L8.length y8) (.slice X9 Cs.length x9) (.slice A10 Hs.length c10) (.slice A11 Ds.length c11)) 28)) :: (B + 1, Z12) :: (bs0 ++ M)) wr) := own_mid2 HO.out
          obtain ⟨M9, hM9⟩ : ∃ M9, M9 = bs0 ++ M := ⟨_, rfl⟩
          rw [← hM9] at KP2 HH2
          clear hM9 HS HSL KP HR HO HK9 hlt hi
          obtain ⟨KP, HH⟩ := And.intro KP2 HH2
          clear KP2 HH2
          have hlti : ¬ ((Cs.length : Int) < Cs.length) := by omega
          go_upto_region 18 with fail
          clear e9 hlti
          have e10 := (HH.out.old (a := ⟨B, 10, none⟩) DL.out).trans D10.out
          have hs0 : SlO true 41 5 (.slice (some ⟨wr.heap.size, 0, none⟩) 0 0) 0 [] [(wr.heap.size, .cells #[] 41)] := SlO.made true 41 5 wr.heap.size 0 #[] 0 (Nat.le_refl _) (by unfold maxLen; omega) rfl
          have hn0 := HH.out.new (.cells #[] 41)
          have e11 : ∀ ob : Obj, (wr.alloc ob).cell? ⟨B, 10, none⟩ = some (.slice A10 Hs.length c10) := fun ob => ((HH.out.alloc ob).old (a := ⟨B, 10, none⟩) DL.out).trans D10.out
          have hx0 : Src (wr.alloc (.cells #[] 41)) 5 (.slice A10 Hs.length c10) Hs.length (Hs.map hnCells).flatten := by
            have := (J10.out.1.own hn0).src
            rw [List.length_map] at this
            exact this
          have h10c : ∀ u ∈ (Hs.map hnCells).flatten, u.oneCell' = true := J10.out.1.flat_one
          have h10b : (0 + Hs.length) * 40 ≤ BB := by rw [Nat.zero_add]; exact J10.out.2
          have HS0 := Lib.hid hs0
          have HN0 := Lib.hid hn0
          have HX0 := Lib.hid hx0
          have H1C := Lib.hid h10c
          have H1B := Lib.hid h10b
          clear hs0 hn0 hx0 h10c h10b
          go_upto_region 20 with (at_builtin; refine wpList_app1 (by rfl) _ _ _ (by rfl) (by rfl) (by rfl) 41 Tryz.underlying25 handle_info (by rfl) (by omega) (by omega) HS0.out HN0.out HX0.out H1C.out H1B.out ?_; intro X10 x10 w10 bs10 k1 k2; simp only [Nat.zero_add, List.nil_append] at k1; have K1 := Lib.hid k1; have f10 := own_mid2 k2; obtain ⟨s1, s2⟩ := box_at (n := 10) f10 rfl; obtain ⟨s3, s4⟩ := box_at (n := 11) f10 rfl; clear k1 k2)
          have HN : Hid (Own W ((B + 1 + 1, (.cells (sn12 n0 (.slice X1 L1.length y1) (.slice X2 L2.length x2) (.slice X3 L3.length y3) (.slice X4 L4.length y4) (.slice X5 L5.length y5) (.slice X6 L6.length y6) (.slice X7 L7.length y7) (.slice X8 L8.length y8) (.slice X9 Cs.length x9) (.slice X10 Hs.length x10) (.slice none 0 0)) 28)) :: (B + 1, Z12) :: (bs10 ++ M9)) ((w10.setCell ⟨B + 1 + 1, 10, none⟩ (.slice X10 Hs.length x10)).setCell ⟨B + 1 + 1, 11, none⟩ (.slice none 0 0))) := (f10.set 10 (.slice X10 Hs.length x10)).set 11 (.slice none 0 0)
          have KN : Hid (Kp (bs10 ++ M9) fun ws => HansV ws (.slice X10 Hs.length x10) Hs ∧ CasV ws (.slice X9 Cs.length x9) Cs Ls ∧ IntsB ws (.slice X8 L8.length y8) L8 ∧ IntsB ws (.slice X7 L7.length y7) L7 ∧ IntsB ws (.slice X6 L6.length y6) L6 ∧ IntsB ws (.slice X5 L5.length y5) L5 ∧ IntsB ws (.slice X4 L4.length y4) L4 ∧ IntsB ws (.slice X3 L3.length y3) L3 ∧ PathsV ws (.slice X2 L2.length x2) L2 ∧ IntsB ws (.slice X1 L1.length y1) L1) := fun ws hw => ⟨⟨⟨by have := slo_kp K1.out ws fun p hp => hw p (by simp [hp]); rw [List.length_map]; exact this, J10.out.1.len, J10.out.1.one⟩, J10.out.2⟩, KP.out ws fun p hp => hw p (by simp [hp])⟩
          have HC10 := Lib.hid (slo_cap K1.out)
          obtain ⟨M10, hM10⟩ : ∃ M10, M10 = bs10 ++ M9 := ⟨_, rfl⟩
          rw [← hM10] at HN KN
          clear hM10 HH KP K1 f10 s1 s2 s3 s4 e10 e11 HS0 HN0 HX0 H1C H1B
          generalize ((w10.setCell ⟨B + 1 + 1, 10, none⟩ (.slice X10 Hs.length x10)).setCell ⟨B + 1 + 1, 11, none⟩ (.slice none 0 0)) = v10 at HN ⊢
          obtain ⟨KP, HH⟩ := And.intro KN HN
          clear KN HN
          have HB11 : Hid (Ds.length * 64 ≤ BB) := J11.out.bytes
          have HI11 : Hid ((Ds.length : Int) < 9223372036854775807) := by
            have := bb_le HB11.out
            show (Ds.length : Int) < _
            omega
          have e11 := (HH.out.old (a := ⟨B, 11, none⟩) DL.out).trans D11.out
          go_wp2_with fail
          go_loopw [7] (fun k wr => ∃ (i : Nat) (X11 : Option Addr) (x11 : Nat) (svs : List Value) (bs0 M : List (Nat × Obj)), i ≤ Ds.length ∧ k = .int .i64 i ∧ Hid (SlO true 45 6 (.slice X11 i x11) i (List.zipWith ddCells Ds svs).flatten bs0) ∧ Hid (svs.length = i) ∧ Hid (Kp M fun ws => HansV ws (.slice X10 Hs.length x10) Hs ∧ CasV ws (.slice X9 Cs.length x9) Cs Ls ∧ IntsB ws (.slice X8 L8.length y8) L8 ∧ IntsB ws (.slice X7 L7.length y7) L7 ∧ IntsB ws (.slice X6 L6.length y6) L6 ∧ IntsB ws (.slice X5 L5.length y5) L5 ∧ IntsB ws (.slice X4 L4.length y4) L4 ∧ IntsB ws (.slice X3 L3.length y3) L3 ∧ PathsV ws (.slice X2 L2.length x2) L2 ∧ IntsB ws (.slice X1 L1.length y1) L1) ∧ Hid (RowsK M svs (Ds.map Dd.hs)) ∧ Hid (Own W (bs0 ++ ((B + 1 + 1, (.cells (sn12 n0 (.slice X1 L1.length y1) (.slice X2 L2.length x2) (.slice X3 L3.length y3) (.slice X4 L4.length y4) (.slice X5 L5.length y5) (.slice X6 L6.length y6) (.slice X7 L7.length y7) (.slice X8 L8.length y8) (.slice X9 Cs.length x9) (.slice X10 Hs.length x10) (.slice X11 i x11)) 28)) :: (B + 1, Z12) :: M)) wr)) (fun k _ => Ds.length - (intOf k).toNat)
          case atStart => exact ⟨0, none, 0, [], [], M10, Nat.zero_le _, rfl, (by rw [List.zipWith_nil_right]; exact SlO.nil _ _ _), rfl, KP, (fun j sv p hj => by simp at hj), HH.out⟩
          case round =>
            clear HH e11 KP
            obtain ⟨i, X11, x11, svs, bs0, M, hi, rfl, HS, HSL, KP, HR, HO⟩ := hrel
            have e11 := (HO.out.old (a := ⟨B, 11, none⟩) DL.out).trans D11.out
            by_cases hlt : i < Ds.length
            · obtain ⟨a, ha⟩ : ∃ a, Ds[i]? = some a := ⟨_, List.getElem?_eq_getElem hlt⟩
              obtain ⟨g, q, cc, he, hg, hc⟩ := J11.out.at_ (by omega)
              cases he
              obtain ⟨p, hpp⟩ : ∃ p, p = a.hs := ⟨_, rfl⟩
              obtain ⟨sv, hsv, hc0, hc1, hc2, hc3, hc4, hc5⟩ := hc i a ha
              rw [← hpp] at hsv
              have hp : (Ds.map Dd.hs)[i]? = some p := by rw [List.getElem?_map, ha, hpp]; rfl
              obtain ⟨Av, cv, rfl⟩ := hsv.form
              have HV := Lib.hid hsv
              have HP := Lib.hid hp
              have HA := Lib.hid ha
              have hw := wrap_succ hlt HI11.out
              have q0 := (HO.out.old (a := ⟨g, q + i * 6, none⟩) hg).trans hc0
              have q1 := (HO.out.old (a := ⟨g, q + i * 6 + 1, none⟩) hg).trans hc1
              have q2 := (HO.out.old (a := ⟨g, q + i * 6 + 2, none⟩) hg).trans hc2
              have q3 := (HO.out.old (a := ⟨g, q + i * 6 + 3, none⟩) hg).trans hc3
              have q4 := (HO.out.old (a := ⟨g, q + i * 6 + 4, none⟩) hg).trans hc4
              have q5 := (HO.out.old (a := ⟨g, q + i * 6 + 5, none⟩) hg).trans hc5
              have HG := Lib.hid hg
              have hii : (0 : Int) ≤ (i : Int) ∧ (i : Int) < (Ds.length : Int) := by omega
              clear hc hsv hp ha hg hc0 hc1 hc2 hc3 hc4 hc5 hpp
              have HLB : Hid ((i + 1) * 64 ≤ BB) := Nat.le_trans (Nat.mul_le_mul_right 64 hlt) HB11.out
              go_upto_region 24 with fail
              have h15 := HO.out.new (.cells (dd6 a (.slice Av p.length cv)) 45)
              obtain ⟨b6, hb6⟩ : ∃ b6, wr.heap.size = b6 := ⟨_, rfl⟩
              rw [hb6] at h15 ⊢
              generalize wr.alloc (.cells (dd6 a (.slice Av p.length cv)) 45) = w15 at h15 ⊢
              clear hb6 q0 q1 q2 q3 q4 q5
              obtain ⟨r6, -⟩ := box_at (n := 5) h15 rfl
              go_upto_region 25 with (go_at_call 14; refine (copyC h15 HV.out).mono ?_; rintro e w4 ⟨Xv, yv, bsv, rfl, KV, H4⟩; have f4 := own_mid H4.out; obtain ⟨s1, s2⟩ := box_at (n := 5) f4 rfl)
              have h17 : Own W ((b6, .cells (dd6 a (.slice Xv p.length yv)) 45) :: (bsv ++ (bs0 ++ ((B + 1 + 1, (.cells (sn12 n0 (.slice X1 L1.length y1) (.slice X2 L2.length x2) (.slice X3 L3.length y3) (.slice X4 L4.length y4) (.slice X5 L5.length y5) (.slice X6 L6.length y6) (.slice X7 L7.length y7) (.slice X8 L8.length y8) (.slice X9 Cs.length x9) (.slice X10 Hs.length x10) (.slice X11 i x11)) 28)) :: (B + 1, Z12) :: M)))) _ := f4.set 5 (.slice Xv p.length yv)
              generalize w4.setCell ⟨b6, 5, none⟩ (.slice Xv p.length yv) = w17 at h17 ⊢
              clear h15 f4 s1 s2 r6 H4
              obtain ⟨z0, z1, z2, z3, z4, z5⟩ := boxD h17
              have f17 := own_in3 h17.skip
              have H17 := Lib.hid f17
              obtain ⟨s1, -⟩ := box_at (n := 11) (own_mid2 f17) rfl
              clear h17 f17
              have H1C : Hid (∀ u ∈ (dd6 a (.slice Xv p.length yv)).toList, u.oneCell' = true) := dd_one a _ rfl
              go_wp2_with (at_builtin; refine wpList_app1 (by rfl) _ _ _ (by rfl) (by rfl) (by rfl) 45 Tryz.underlying26 did_info (by rfl) (by omega) (by omega) HS.out (H17.out.alloc _) (src_row w17 45 (dd6 a (.slice Xv p.length yv))) H1C.out HLB.out ?_; intro XA xA w6 bs6 k1 k2; obtain ⟨s3, s4⟩ := box_at (n := 11) (own_mid2 k2) rfl; have K1 := Lib.hid k1; have K2 := Lib.hid k2; clear k1 k2)
              refine ⟨⟨i + 1, XA, xA, svs ++ [.slice Xv p.length yv], bs6, bsv ++ M, by omega, by rw [hw], ?_, ?_, KP.out.left bsv, RowsK.snoc HR.out (by rw [HSL.out]; exact HP.out) KV.out, K2.out.setIn 11 _⟩, by rw [hw]; simp [intOf]; omega⟩
              · rw [zip_snoc (mk := ddCells) (b := a) (by rw [HSL.out]; exact HA.out), List.flatten_append, List.flatten_cons, List.flatten_nil, List.append_nil]
                exact K1.out
              · show (svs ++ [_]).length = i + 1
                rw [List.length_append, HSL.out]; rfl
            · obtain rfl : i = Ds.length := by omega
              have HK11 : Hid (Kp (bs0 ++ M) fun ws => DidsV ws (.slice X11 Ds.length x11) Ds) := fun ws hw => ⟨svs, HSL.out, rows_kp (k := 5) (bytes := 64) (mk := ddCells) (fun _ _ => rfl) (fun _ _ => rfl) dd_one HSL.out (by rw [List.length_map]) HS.out HR.out HB11.out ws hw⟩
              have KP2 : Hid (Kp (bs0 ++ M) fun ws => DidsV ws (.slice X11 Ds.length x11) Ds ∧ HansV ws (.slice X10 Hs.length x10) Hs ∧ CasV ws (.slice X9 Cs.length x9) Cs Ls ∧ IntsB ws (.slice X8 L8.length y8) L8 ∧ IntsB ws (.slice X7 L7.length y7) L7 ∧ IntsB ws (.slice X6 L6.length y6) L6 ∧ IntsB ws (.slice X5 L5.length y5) L5 ∧ IntsB ws (.slice X4 L4.length y4) L4 ∧ IntsB ws (.slice X3 L3.length y3) L3 ∧ PathsV ws (.slice X2 L2.length x2) L2 ∧ IntsB ws (.slice X1 L1.length y1) L1) := fun ws hw => ⟨HK11.out ws hw, KP.out ws fun p hp => hw p (List.mem_append_right _ hp)⟩
              have HH2 : Hid (Own W ((B + 1 + 1, (.cells (sn12 n0 (.slice X1 L1.length y1) (.slice X2 L2.length x2) (.slice X3 L3.length y3) (.slice X4 L4.length y4) (.slice X5 L5.length y5) (.slice X6 L6.length y6) (.slice X7 L7.length y7) (.slice X8 L8.length y8) (.slice X9 Cs.length x9) (.slice X10 Hs.length x10) (.slice X11 Ds.length x11)) 28)) :: (B + 1, Z12) :: (bs0 ++ M)) wr) := own_mid2 HO.out
              have HC11 := Lib.hid (slo_cap HS.out)
              obtain ⟨M11, hM11⟩ : ∃ M11, M11 = bs0 ++ M := ⟨_, rfl⟩
              rw [← hM11] at KP2 HH2
              clear hM11 HS HSL KP HR HO HK11 hlt hi
              obtain ⟨KP, HH⟩ := And.intro KP2 HH2
              clear KP2 HH2
              have hlti : ¬ ((Ds.length : Int) < Ds.length) := by omega
              go_upto_region 26 with fail
              clear e11 hlti
              obtain ⟨⟨a0, a1, a2, a3, a4, a5, a6, a7, a8, a9, a10, a11⟩, -⟩ := box12 HH.out
              have h2 := HH.out.perm (List.Perm.swap _ _ _)
              obtain ⟨⟨b0, b1, b2, b3, b4, b5, b6, b7, b8, b9, b10, b11⟩, fz⟩ := box12 h2
              have fz0 := fz 0
              have fz1 := fz 1
              have fz2 := fz 2
              have fz3 := fz 3
              have fz4 := fz 4
              have fz5 := fz 5
              have fz6 := fz 6
              have fz7 := fz 7
              have fz8 := fz 8
              have fz9 := fz 9
              have fz10 := fz 10
              have fz11 := fz 11
              clear fz
              go_wp2_with fail
              have h3 := own_all12 h2 (.int .i64 n0) (.slice X1 L1.length y1) (.slice X2 L2.length x2) (.slice X3 L3.length y3) (.slice X4 L4.length y4) (.slice X5 L5.length y5) (.slice X6 L6.length y6) (.slice X7 L7.length y7) (.slice X8 L8.length y8) (.slice X9 Cs.length x9) (.slice X10 Hs.length x10) (.slice X11 Ds.length x11)
              obtain ⟨we, hwe⟩ : ∃ we, we = ((((((((((((wr.setCell ⟨B + 1, 0, none⟩ (.int .i64 n0)).setCell ⟨B + 1, 1, none⟩ (.slice X1 L1.length y1)).setCell ⟨B + 1, 2, none⟩ (.slice X2 L2.length x2)).setCell ⟨B + 1, 3, none⟩ (.slice X3 L3.length y3)).setCell ⟨B + 1, 4, none⟩ (.slice X4 L4.length y4)).setCell ⟨B + 1, 5, none⟩ (.slice X5 L5.length y5)).setCell ⟨B + 1, 6, none⟩ (.slice X6 L6.length y6)).setCell ⟨B + 1, 7, none⟩ (.slice X7 L7.length y7)).setCell ⟨B + 1, 8, none⟩ (.slice X8 L8.length y8)).setCell ⟨B + 1, 9, none⟩ (.slice X9 Cs.length x9)).setCell ⟨B + 1, 10, none⟩ (.slice X10 Hs.length x10)).setCell ⟨B + 1, 11, none⟩ (.slice X11 Ds.length x11)) := ⟨_, rfl⟩
              rw [← hwe] at h3 ⊢
              have HE : Own W ((B + 1, (.cells (sn12 n0 (.slice X1 L1.length y1) (.slice X2 L2.length x2) (.slice X3 L3.length y3) (.slice X4 L4.length y4) (.slice X5 L5.length y5) (.slice X6 L6.length y6) (.slice X7 L7.length y7) (.slice X8 L8.length y8) (.slice X9 Cs.length x9) (.slice X10 Hs.length x10) (.slice X11 Ds.length x11)) 28)) :: (B + 1 + 1, (.cells (sn12 n0 (.slice X1 L1.length y1) (.slice X2 L2.length x2) (.slice X3 L3.length y3) (.slice X4 L4.length y4) (.slice X5 L5.length y5) (.slice X6 L6.length y6) (.slice X7 L7.length y7) (.slice X8 L8.length y8) (.slice X9 Cs.length x9) (.slice X10 Hs.length x10) (.slice X11 Ds.length x11)) 28)) :: M11) we := h3
              clear h2 h3 hwe a0 a1 a2 a3 a4 a5 a6 a7 a8 a9 a10 a11 b0 b1 b2 b3 b4 b5 b6 b7 b8 b9 b10 b11 fz0 fz1 fz2 fz3 fz4 fz5 fz6 fz7 fz8 fz9 fz10 fz11
              obtain ⟨⟨t0, t1, t2, t3, t4, t5, t6, t7, t8, t9, t10, t11⟩, -⟩ := box12 HE
              have hkp : Kp M11 (fun ws => IntsB ws (.slice X1 L1.length y1) L1 ∧ PathsV ws (.slice X2 L2.length x2) L2 ∧ IntsB ws (.slice X3 L3.length y3) L3 ∧ IntsB ws (.slice X4 L4.length y4) L4 ∧ IntsB ws (.slice X5 L5.length y5) L5 ∧ IntsB ws (.slice X6 L6.length y6) L6 ∧ IntsB ws (.slice X7 L7.length y7) L7 ∧ IntsB ws (.slice X8 L8.length y8) L8 ∧ CasV ws (.slice X9 Cs.length x9) Cs Ls ∧ HansV ws (.slice X10 Hs.length x10) Hs ∧ DidsV ws (.slice X11 Ds.length x11) Ds) := fun ws hw => by
                obtain ⟨r11, r10, r9, r8, r7, r6, r5, r4, r3, r2, r1⟩ := KP.out ws hw
                exact ⟨r1, r2, r3, r4, r5, r6, r7, r8, r9, r10, r11⟩
              have hfin := HWW.out.join HE.skip.skip
              rw [List.append_nil] at hfin
              clear HE HH KP
              exact bodyPost_ret (v := .agg (sn12 n0 (.slice X1 L1.length y1) (.slice X2 L2.length x2) (.slice X3 L3.length y3) (.slice X4 L4.length y4) (.slice X5 L5.length y5) (.slice X6 L6.length y6) (.slice X7 L7.length y7) (.slice X8 L8.length y8) (.slice X9 Cs.length x9) (.slice X10 Hs.length x10) (.slice X11 Ds.length x11))) (by simp [results, Tryz.f6, go_sem, t0, t1, t2, t3, t4, t5, t6, t7, t8, t9, t10, t11]) rfl ⟨_, _, _, _, _, _, _, _, _, _, _, M11, rfl, hkp, hfin, (fun A n c h => by injection h with h1 h2 h3; subst h2 h3; exact HC10.out), (fun A n c h => by injection h with h1 h2 h3; subst h2 h3; exact HC11.out)⟩
end Go.Proofs.YthjjpmoifgcepaaGreat.Jh
