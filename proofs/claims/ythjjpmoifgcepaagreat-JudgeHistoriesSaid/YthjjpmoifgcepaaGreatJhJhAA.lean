import Derived.Test.YthjjpmoifgcepaaGreatJhJhV
import Derived.Test.YthjjpmoifgcepaaGreatJhJhZ
/-
  Contract: judge.shaped: whether a snap may be, alone. No condition.
-/
namespace Go.Proofs.YthjjpmoifgcepaaGreat.Jh
open Go.RowKit
attribute [local go_sem ↓] Go.wp_at_zero Go.wp_at_succ
theorem jwithin_i (w : World) (n a b : Int) : Calls Tryz.prog 20 #[.int .i64 n, .int .i64 a, .int .i64 b] w fun e w' => e = .returned (.bool (inB n a b)) ∧ Own w [] w' := jwithin_spec w n a b
theorem paths_b {w : World} {v : Value} {ps : List (List Int)} (hv : PathsV w v ps) {b : Bool} (hb : b = true ↔ PathsOk ps) : Calls Tryz.prog 25 #[v] w fun e w' => e = .returned (.bool b) ∧ Own w [] w' := by
  refine (paths_spec hv).mono ?_
  rintro e w' ⟨b', rfl, h1, h2⟩
  refine ⟨?_, h2⟩
  have : b' = b := by rw [Bool.eq_iff_iff, h1, hb]
  rw [this]
def lens (s : Sn) : List Nat := [s.used.length, s.most.length, s.owned.length, s.held.length, s.flies.length]
theorem lens_iff {s : Sn} : (∀ n ∈ lens s, n = s.paths.length) ↔ s.Lens := by
  simp [lens, Sn.Lens]
theorem calls_iff {s : Sn} : (!s.ds.any fun y => didBad s y) = true ↔ s.Calls := by
  simp only [Bool.not_eq_true', List.any_eq_false, Bool.not_eq_true, did_iff]
  rfl
theorem tags_iff {s : Sn} : (s.tags.any fun y => !inB y 0 s.nc) = false ↔ s.Tags := by
  simp only [List.any_eq_false, Bool.not_eq_true, Bool.not_eq_false', inB_iff]
  rfl
theorem hans_iff {s : Sn} : (s.hn.any fun y => !inB y.cache 0 (s.nc - 1)) = false ↔ s.Hans := by
  simp only [List.any_eq_false, Bool.not_eq_true, Bool.not_eq_false', inB_iff]
  rfl
set_option maxHeartbeats 4000000 in
set_option maxRecDepth 100000 in
theorem shaped_spec {w : World} {s : Sn} {cs : Array Value} (hs : SnapV w (.agg cs) s) : Calls Tryz.prog 9 #[.agg cs] w (YN w s.Ok) := by
  have hO := (Own.self w).alloc (.cells cs 28)
  have hX : BoxS (w.alloc (.cells cs 28)) w.heap.size s := BoxS.new hs
  clear hs
  go_enter Tryz.func9, Tryz.ntmps9
  go_upto_region 1 with fail
  obtain ⟨B, hB⟩ : ∃ B, w.heap.size = B := ⟨_, rfl⟩
  rw [hB] at hX ⊢
  generalize w.alloc (.cells cs 28) = W0 at hO hX ⊢
  have HX := Lib.hid hX
  have HO := Lib.hid hO
  obtain ⟨A1, c1, A2, c2, A3, c3, A4, c4, A5, c5, A6, c6, A7, c7, A8, c8, A9, c9, A10, c10, A11, c11, ⟨f0, f1, f2, f3, f4, f5, f6, f7, f8, f9, f10, f11⟩, g2, g8, g10, g11, gs⟩ := box_all hX
  have G2 := Lib.hid g2
  have G8 := Lib.hid g8
  have G10 := Lib.hid g10
  have GS := Lib.hid gs
  clear hX hO hB g2 g8 g10 g11 gs
  go_upto_region 3 with fail
  have HO1 := Lib.hid (HO.out.alloc (.cells #[.slice A3 s.used.length c3, .slice A4 s.most.length c4, .slice A5 s.owned.length c5, .slice A6 s.held.length c6, .slice A7 s.flies.length c7] 22))
  have hn1 := (Own.self W0).new (.cells #[.slice A3 s.used.length c3, .slice A4 s.most.length c4, .slice A5 s.owned.length c5, .slice A6 s.held.length c6, .slice A7 s.flies.length c7] 22)
  obtain ⟨D, hD⟩ : ∃ D, W0.heap.size = D := ⟨_, rfl⟩
  rw [hD] at hn1 ⊢
  generalize W0.alloc (.cells #[.slice A3 s.used.length c3, .slice A4 s.most.length c4, .slice A5 s.owned.length c5, .slice A6 s.held.length c6, .slice A7 s.flies.length c7] 22) = W1 at hn1 HO1 ⊢
  have HX1 := Lib.hid (HX.out.own hn1)
  have G2' := Lib.hid (G2.out.own hn1)
  have G8' := Lib.hid (G8.out.own hn1)
  have G10' := Lib.hid (G10.out.own hn1)
  have GS' := Lib.hid (GS.out.own hn1)
  have HC : Hid (∀ (j : Nat), j < 5 → ∃ A N c, W1.cell? ⟨D, j, none⟩ = some (.slice A N c) ∧ (lens s)[j]? = some N) := fun j hj => by
    have := fun i => hn1.cell (b := D) List.mem_cons_self i
    match j, hj with
    | 0, _ => exact ⟨_, _, _, this 0, rfl⟩
    | 1, _ => exact ⟨_, _, _, this 1, rfl⟩
    | 2, _ => exact ⟨_, _, _, this 2, rfl⟩
    | 3, _ => exact ⟨_, _, _, this 3, rfl⟩
    | 4, _ => exact ⟨_, _, _, this 4, rfl⟩
    | j + 5, h => omega
  have HLL : Hid ((lens s).length = 5) := Lib.hid rfl
  have HLI := Lib.hid (lens_iff (s := s))
  clear hn1 hD HX HO G2 G8 G10 GS f0 f1 f2 f3 f4 f5 f6 f7 f8 f9 f10 f11
  go_loop [23] (fun k => ∃ i : Nat, i ≤ 5 ∧ k = .int .i64 i ∧ Hid (∀ (j : Nat) N, j < i → (lens s)[j]? = some N → N = s.paths.length)) (fun k => 5 - (intOf k).toNat)
  case atStart => exact ⟨0, Nat.zero_le _, rfl, fun j N hj => absurd hj (by omega)⟩
  case round =>
    obtain ⟨i, hi, rfl, HN⟩ := hrel
    by_cases hlt : i < 5
    · obtain ⟨A, N, c, hc, hl⟩ := HC.out i hlt
      have HL := Lib.hid hl
      clear hl
      by_cases hN : N = s.paths.length
      · have HNN := Lib.hid hN
        have hb : ((N : Int) != (s.paths.length : Int)) = false := by simp [hN]
        clear hN
        go_wp2
        go_round
        case rel =>
          refine ⟨i + 1, by omega, by go_num, fun j M hj hM => ?_⟩
          by_cases hji : j = i
          · subst hji
            rw [HL.out] at hM
            cases hM
            exact HNN.out
          · exact HN.out j M (by omega) hM
        case measure => simp [intOf]; omega
      · have HNN := Lib.hid hN
        have hb : ((N : Int) != (s.paths.length : Int)) = true := by rw [bne_iff_ne]; omega
        clear hN
        go_wp2
        go_ret
        exact YN.no (by simp) (fun h => HNN.out (HLI.out.2 h.1 N (List.mem_of_getElem? HL.out))) HO1.out
    · obtain rfl : i = 5 := by omega
      have HLens : Hid s.Lens := Lib.hid (HLI.out.1 fun n hn => by
        obtain ⟨j, hj, rfl⟩ := List.getElem_of_mem hn
        exact HN.out j _ (by have := HLL.out; omega) (List.getElem?_eq_getElem hj))
      clear HN HC HLL HLI hlt hi
      obtain ⟨B1, d1, B2, d2, B3, d3, B4, d4, B5, d5, B6, d6, B7, d7, B8, d8, B9, d9, B10, d10, B11, d11, ⟨f0, f1, f2, f3, f4, f5, f6, f7, f8, f9, f10, f11⟩, g2, g8, g10, g11, gs⟩ := box_all HX1.out
      clear f0 f3 f4 f5 f6 f7 f9 f11 g11 G2' G8' G10' GS'
      have G2 := Lib.hid g2
      have G8 := Lib.hid g8
      have G10 := Lib.hid g10
      have GS := Lib.hid gs
      clear g2 g8 g10 gs
      obtain ⟨q1, HQ1⟩ : ∃ q, Hid (inB s.depths.length 1 8 = q) := ⟨_, rfl⟩
      obtain ⟨q2, HQ2⟩ : ∃ q, Hid (inB s.paths.length 1 16 = q) := ⟨_, rfl⟩
      obtain ⟨q3, HQ3⟩ : ∃ q, Hid (inB s.tags.length 1 1024 = q) := ⟨_, rfl⟩
      have HSZ : Hid (s.Size ↔ (q1 = true ∧ q2 = true ∧ q3 = true)) := Lib.hid (by
        rw [← HQ1.out, ← HQ2.out, ← HQ3.out, inB_iff, inB_iff, inB_iff]
        unfold Sn.Size
        omega)
      cases q1 with
      | false =>
        go_wp2_with (go_at_call 20; refine (jwithin_i _ _ _ _).mono ?_; rintro e w2 ⟨rfl, h2⟩; (first | rw [HQ1.out] | rw [HQ2.out] | rw [HQ3.out]); have f8 := (h2.old (a := ⟨B, 8, none⟩) HX1.out.1).trans f8; replace HO1 := Lib.hid (HO1.out.of_self h2); replace HX1 := Lib.hid (HX1.out.own h2); clear h2)
        go_ret
        exact YN.no (by simp) (fun h => by have h0 := HSZ.out.1 h.2.1; simp at h0) HO1.out
      | true =>
        cases q2 with
        | false =>
          go_wp2_with (go_at_call 20; refine (jwithin_i _ _ _ _).mono ?_; rintro e w2 ⟨rfl, h2⟩; (first | rw [HQ1.out] | rw [HQ2.out] | rw [HQ3.out]); have f8 := (h2.old (a := ⟨B, 8, none⟩) HX1.out.1).trans f8; replace HO1 := Lib.hid (HO1.out.of_self h2); replace HX1 := Lib.hid (HX1.out.own h2); clear h2)
          go_ret
          exact YN.no (by simp) (fun h => by have h0 := HSZ.out.1 h.2.1; simp at h0) HO1.out
        | true =>
          cases q3 with
          | false =>
            go_wp2_with (go_at_call 20; refine (jwithin_i _ _ _ _).mono ?_; rintro e w2 ⟨rfl, h2⟩; (first | rw [HQ1.out] | rw [HQ2.out] | rw [HQ3.out]); have f8 := (h2.old (a := ⟨B, 8, none⟩) HX1.out.1).trans f8; replace HO1 := Lib.hid (HO1.out.of_self h2); replace HX1 := Lib.hid (HX1.out.own h2); clear h2)
            go_ret
            exact YN.no (by simp) (fun h => by have h0 := HSZ.out.1 h.2.1; simp at h0) HO1.out
          | true =>
            have HSz : Hid s.Size := Lib.hid (HSZ.out.2 ⟨rfl, rfl, rfl⟩)
            go_upto_region 10 with (go_at_call 20; refine (jwithin_i _ _ _ _).mono ?_; rintro e w2 ⟨rfl, h2⟩; (first | rw [HQ1.out] | rw [HQ2.out] | rw [HQ3.out]); have f8 := (h2.old (a := ⟨B, 8, none⟩) HX1.out.1).trans f8; replace HO1 := Lib.hid (HO1.out.of_self h2); replace HX1 := Lib.hid (HX1.out.own h2); clear h2)
            clear f1 f2 f8 f10 G2 G8 G10 GS
            obtain ⟨B1, d1, B2, d2, B3, d3, B4, d4, B5, d5, B6, d6, B7, d7, B8, d8, B9, d9, B10, d10, B11, d11, ⟨f0, f1, f2, f3, f4, f5, f6, f7, f8, f9, f10, f11⟩, g2, g8, g10, g11, gs⟩ := box_all HX1.out
            have G2 := Lib.hid g2
            have G8 := Lib.hid g8
            have G10 := Lib.hid g10
            have GS := Lib.hid gs
            clear g2 g8 g10 g11 gs f0 f1 f2 f3 f4 f5 f6 f7 f9 f10 f11
            obtain ⟨qt, HT⟩ : ∃ q, Hid ((s.tags.any fun y => !inB y 0 s.nc) = q) := ⟨_, rfl⟩
            have HTI : Hid (qt = false ↔ s.Tags) := Lib.hid (by rw [← HT.out]; exact tags_iff)
            obtain ⟨qh, HH⟩ : ∃ q, Hid ((s.hn.any fun y => !inB y.cache 0 (s.nc - 1)) = q) := ⟨_, rfl⟩
            have HHI : Hid (qh = false ↔ s.Hans) := Lib.hid (by rw [← HH.out]; exact hans_iff)
            go_upto_region 11 with (go_at_call 21; refine (tag_any G8.out HX1.out).mono ?_; rintro e w2 ⟨rfl, h2⟩; rw [HT.out]; replace HO1 := Lib.hid (HO1.out.of_self h2); replace HX1 := Lib.hid (HX1.out.own h2); clear h2)
            clear f8 G2 G8 G10 GS
            obtain ⟨B1, d1, B2, d2, B3, d3, B4, d4, B5, d5, B6, d6, B7, d7, B8, d8, B9, d9, B10, d10, B11, d11, ⟨f0, f1, f2, f3, f4, f5, f6, f7, f8, f9, f10, f11⟩, g2, g8, g10, g11, gs⟩ := box_all HX1.out
            have G2 := Lib.hid g2
            have G8 := Lib.hid g8
            have G10 := Lib.hid g10
            have GS := Lib.hid gs
            clear g2 g8 g10 g11 gs f0 f1 f2 f3 f4 f5 f6 f7 f8 f9 f11
            go_upto_region 12 with (go_at_call 23; refine (han_any G10.out HX1.out).mono ?_; rintro e w2 ⟨rfl, h2⟩; rw [HH.out]; replace HO1 := Lib.hid (HO1.out.of_self h2); replace HX1 := Lib.hid (HX1.out.own h2); clear h2)
            clear f10 G2 G8 G10 GS
            obtain ⟨B1, d1, B2, d2, B3, d3, B4, d4, B5, d5, B6, d6, B7, d7, B8, d8, B9, d9, B10, d10, B11, d11, ⟨f0, f1, f2, f3, f4, f5, f6, f7, f8, f9, f10, f11⟩, g2, g8, g10, g11, gs⟩ := box_all HX1.out
            have G2 := Lib.hid g2
            have G8 := Lib.hid g8
            have G10 := Lib.hid g10
            have GS := Lib.hid gs
            clear g2 g8 g10 g11 gs f0 f1 f3 f4 f5 f6 f7 f8 f9 f10 f11
            cases qt with
            | true =>
              go_wp2_with fail
              go_ret
              exact YN.no (by simp) (fun h => by have := HTI.out.2 h.2.2.1; cases this) HO1.out
            | false =>
              cases qh with
              | true =>
                go_wp2_with fail
                go_ret
                exact YN.no (by simp) (fun h => by have := HHI.out.2 h.2.2.2.1; cases this) HO1.out
              | false =>
                by_cases hP : PathsOk s.paths
                · have HP := Lib.hid hP
                  have HPB : Hid (true = true ↔ PathsOk s.paths) := Lib.hid (by simp [hP])
                  clear hP
                  obtain ⟨qc, HC⟩ : ∃ q, Hid ((!s.ds.any fun y => didBad s y) = q) := ⟨_, rfl⟩
                  have HCI : Hid (qc = true ↔ s.Calls) := Lib.hid (by rw [← HC.out]; exact calls_iff)
                  go_wp2_with (first
                    | (go_at_call 25; refine (paths_b G2.out HPB.out).mono ?_; rintro e w2 ⟨rfl, h2⟩; replace HO1 := Lib.hid (HO1.out.of_self h2); replace HX1 := Lib.hid (HX1.out.own h2); clear h2 f2 G2 G8 G10 GS; obtain ⟨B1, d1, B2, d2, B3, d3, B4, d4, B5, d5, B6, d6, B7, d7, B8, d8, B9, d9, B10, d10, B11, d11, ⟨f0, f1, f2, f3, f4, f5, f6, f7, f8, f9, f10, f11⟩, g2, g8, g10, g11, gs⟩ := box_all HX1.out; have GS := Lib.hid gs; clear g2 g8 g10 g11 gs)
                    | (go_at_call 26; refine (calls_spec GS.out).mono ?_; rintro e w3 ⟨rfl, h3⟩; rw [HC.out]; have HO3 := Lib.hid (HO1.out.of_self h3); clear h3))
                  go_ret
                  refine ⟨qc, by simp, ?_, HO3.out⟩
                  rw [HCI.out]
                  exact ⟨fun h => ⟨HLens.out, HSz.out, HTI.out.1 (by first | trivial | rfl), HHI.out.1 (by first | trivial | rfl), HP.out, h⟩, fun h => h.2.2.2.2.2⟩
                · have HP := Lib.hid hP
                  have HPB : Hid (false = true ↔ PathsOk s.paths) := Lib.hid (by simp [hP])
                  clear hP
                  go_wp2_with (go_at_call 25; refine (paths_b G2.out HPB.out).mono ?_; rintro e w2 ⟨rfl, h2⟩; replace HO1 := Lib.hid (HO1.out.of_self h2); clear h2)
                  go_ret
                  exact YN.no (by simp) (fun h => HP.out h.2.2.2.2.1) HO1.out
theorem shaped_b {w : World} {s : Sn} {cs : Array Value} (hs : SnapV w (.agg cs) s) {b : Bool} (hb : b = true ↔ s.Ok) : Calls Tryz.prog 9 #[.agg cs] w fun e w' => e = .returned (.bool b) ∧ Own w [] w' := by
  refine (shaped_spec hs).mono ?_
  rintro e w' ⟨b', rfl, h1, h2⟩
  refine ⟨?_, h2⟩
  have : b' = b := by rw [Bool.eq_iff_iff, h1, hb]
  rw [this]
end Go.Proofs.YthjjpmoifgcepaaGreat.Jh
