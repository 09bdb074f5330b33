import Derived.Test.YthjjpmoifgcepaaGreatJhJhRB
import Derived.Test.YthjjpmoifgcepaaGreatJhJhAA
import Derived.Deep.RegionLaw
import Derived.Deep.RegionWith
import Derived.Deep.RegionHeld3
/-
  Contract: wainscotref30.shaped. No condition.
-/
namespace Go.Proofs.YthjjpmoifgcepaaGreat.Jh
open Go.RowKit
attribute [local go_sem ↓] Go.wp_at_zero Go.wp_at_succ
theorem rpath_b {w : World} {v : Value} {p : List Int} (hv : IntsB w v p) {g n : Int} {b : Bool} (hb : b = true ↔ PathRef p g n) : Calls Tryz.prog 32 #[v, .int .i64 g, .int .i64 n] w fun e w' => e = .returned (.bool b) ∧ Own w [] w' := by
  refine (rpath_spec hv g n).mono ?_
  rintro e w' ⟨b', rfl, h1, h2⟩
  refine ⟨?_, h2⟩
  have : b' = b := by rw [Bool.eq_iff_iff, h1, hb]
  rw [this]
theorem rdid_b {w : World} {s : Sn} {cs : Array Value} (hs : SnapV w (.agg cs) s) {d : Dd} {Av : Option Addr} {cv : Nat} (hd : IntsB w (.slice Av d.hs.length cv) d.hs) {b : Bool} (hb : b = true ↔ DidOk s.hn.length s.depths.length s.now d) : Calls Tryz.prog 33 #[.agg cs, ddAgg d (.slice Av d.hs.length cv)] w fun e w' => e = .returned (.bool b) ∧ Own w [] w' := by
  refine (rdid_spec hs hd).mono ?_
  rintro e w' ⟨b', rfl, h1, h2⟩
  refine ⟨?_, h2⟩
  have : b' = b := by rw [Bool.eq_iff_iff, h1, hb]
  rw [this]
theorem nc_bytes {w : World} {s : Sn} {cs : Array Value} (h : SnapV w (.agg cs) s) : s.nc * 128 ≤ 140737488351232 := by
  obtain ⟨v1, v2, v3, v4, v5, v6, v7, v8, v9, v10, v11, _, -, -, -, -, -, -, -, -, ⟨cs, L, hc, hn⟩, -, -⟩ := snap_cells h
  rw [← hn]
  exact hc.bytes
set_option maxHeartbeats 8000000 in
set_option maxRecDepth 100000 in
theorem rshaped_spec {w : World} {s : Sn} {cs : Array Value} (hs : SnapV w (.agg cs) s) : Calls Tryz.prog 15 #[.agg cs] w (YN w s.Ok) := by
  have hO := (Own.self w).alloc (.cells cs 28)
  have hX : BoxS (w.alloc (.cells cs 28)) w.heap.size s := BoxS.new hs
  clear hs
  go_enter Tryz.func15, Tryz.ntmps15
  go_upto_region 1 with fail
  obtain ⟨B, hB⟩ : ∃ B, w.heap.size = B := ⟨_, rfl⟩
  rw [hB] at hX ⊢
  generalize w.alloc (.cells cs 28) = W0 at hO hX ⊢
  have HX := Lib.hid hX
  have HO := Lib.hid hO
  obtain ⟨A1, c1, A2, c2, A3, c3, A4, c4, A5, c5, A6, c6, A7, c7, A8, c8, A9, c9, A10, c10, A11, c11, ⟨f0, f1, f2, f3, f4, f5, f6, f7, f8, f9, f10, f11⟩, g2, g8, g10, g11, gs⟩ := box_all hX
  have G2 := Lib.hid g2
  have G8 := Lib.hid g8
  have G10 := Lib.hid g10
  have G11 := Lib.hid g11
  have GS := Lib.hid gs
  clear hX hO hB g2 g8 g10 g11 gs
  obtain ⟨q1, HQ1⟩ : ∃ q, Hid (inB s.depths.length 1 8 = q) := ⟨_, rfl⟩
  obtain ⟨q2, HQ2⟩ : ∃ q, Hid (inB s.paths.length 1 16 = q) := ⟨_, rfl⟩
  obtain ⟨q3, HQ3⟩ : ∃ q, Hid (inB s.tags.length 1 1024 = q) := ⟨_, rfl⟩
  have HSZ : Hid (s.Size ↔ (q1 = true ∧ q2 = true ∧ q3 = true)) := Lib.hid (by
    rw [← HQ1.out, ← HQ2.out, ← HQ3.out, inB_iff, inB_iff, inB_iff]
    unfold Sn.Size
    omega)
  cases q1 with
  | false =>
    go_wp2_with (go_at_call 31; refine (rwithin_b _ rfl).mono ?_; rintro e W0 ⟨rfl, rfl⟩; (first | rw [HQ1.out] | rw [HQ2.out] | rw [HQ3.out]))
    go_ret
    exact YN.no (by simp) (fun h => by have h0 := HSZ.out.1 h.2.1; simp at h0) HO.out
  | true =>
    cases q2 with
    | false =>
      go_wp2_with (go_at_call 31; refine (rwithin_b _ rfl).mono ?_; rintro e W0 ⟨rfl, rfl⟩; (first | rw [HQ1.out] | rw [HQ2.out] | rw [HQ3.out]))
      go_ret
      exact YN.no (by simp) (fun h => by have h0 := HSZ.out.1 h.2.1; simp at h0) HO.out
    | true =>
      cases q3 with
      | false =>
        go_wp2_with (go_at_call 31; refine (rwithin_b _ rfl).mono ?_; rintro e W0 ⟨rfl, rfl⟩; (first | rw [HQ1.out] | rw [HQ2.out] | rw [HQ3.out]))
        go_ret
        exact YN.no (by simp) (fun h => by have h0 := HSZ.out.1 h.2.1; simp at h0) HO.out
      | true =>
        have HSz : Hid s.Size := Lib.hid (HSZ.out.2 ⟨rfl, rfl, rfl⟩)
        go_upto_region 4 with (go_at_call 31; refine (rwithin_b _ rfl).mono ?_; rintro e W0 ⟨rfl, rfl⟩; (first | rw [HQ1.out] | rw [HQ2.out] | rw [HQ3.out]))
        by_cases e0 : s.used.length = s.paths.length
        · have b0 : ((s.used.length : Int) != (s.paths.length : Int)) = false := by simp [e0]
          have E0 := Lib.hid e0
          clear e0
          by_cases e1 : s.most.length = s.paths.length
          · have b1 : ((s.most.length : Int) != (s.paths.length : Int)) = false := by simp [e1]
            have E1 := Lib.hid e1
            clear e1
            by_cases e2 : s.owned.length = s.paths.length
            · have b2 : ((s.owned.length : Int) != (s.paths.length : Int)) = false := by simp [e2]
              have E2 := Lib.hid e2
              clear e2
              by_cases e3 : s.held.length = s.paths.length
              · have b3 : ((s.held.length : Int) != (s.paths.length : Int)) = false := by simp [e3]
                have E3 := Lib.hid e3
                clear e3
                by_cases e4 : s.flies.length = s.paths.length
                · have b4 : ((s.flies.length : Int) != (s.paths.length : Int)) = false := by simp [e4]
                  have E4 := Lib.hid e4
                  clear e4
                  have HLens : Hid s.Lens := Lib.hid ⟨E0.out, E1.out, E2.out, E3.out, E4.out⟩
                  have F0 := Lib.hid f0
                  have F1 := Lib.hid f1
                  have F2 := Lib.hid f2
                  have F3 := Lib.hid f3
                  have F4 := Lib.hid f4
                  have F5 := Lib.hid f5
                  have F6 := Lib.hid f6
                  have F7 := Lib.hid f7
                  have F8 := Lib.hid f8
                  have F9 := Lib.hid f9
                  have F10 := Lib.hid f10
                  have F11 := Lib.hid f11
                  have HNP : Hid ((s.paths.length : Int) < 9223372036854775807) := Lib.hid (by have := HSz.out.2.1; omega)
                  go_upto_region 6 with fail
                  clear f0 f1 f2 f3 f4 f5 f6 f7 f8 f9 f10 f11 b0 b1 b2 b3 b4 E0 E1 E2 E3 E4 HSZ HQ1 HQ2 HQ3
                  go_wp2_with fail
                  go_loopw [4] (fun k wr => ∃ i : Nat, i ≤ s.paths.length ∧ k = .int .i64 i ∧ Hid (∀ (g : Nat) p, g < i → s.paths[g]? = some p → PathOk p ((g : Int) + 1)) ∧ Hid (Own W0 [] wr)) (fun k _ => s.paths.length - (intOf k).toNat)
                  case atStart => exact ⟨0, Nat.zero_le _, rfl, fun g p hg => absurd hg (by omega), Lib.hid (Own.self W0)⟩
                  case round =>
                    obtain ⟨i, hi, rfl, HN, HW⟩ := hrel
                    by_cases hlt : i < s.paths.length
                    · obtain ⟨p, hp⟩ : ∃ p, s.paths[i]? = some p := ⟨_, List.getElem?_eq_getElem hlt⟩
                      obtain ⟨g, o, c', he, _, hc⟩ := (G2.out.own HW.out).at_ (by omega)
                      cases he
                      obtain ⟨sv, cy, hsv⟩ := hc i _ hp
                      obtain ⟨Av, cv, rfl⟩ := hsv.form
                      have HP := Lib.hid hp
                      have HSV := Lib.hid hsv
                      have HWR := Lib.hid (wrap_succ hlt HNP.out)
                      have hi0 : (0 : Int) ≤ (i : Int) ∧ (i : Int) < (s.paths.length : Int) := by omega
                      have f2 := (HW.out.old (a := ⟨B, 2, none⟩) HX.out.1).trans F2.out
                      have PI : Hid (PathRef p ((i + 1 : Nat) : Int) s.paths.length ↔ PathOk p ((i : Int) + 1)) := Lib.hid (path_iff (p := p) (show ((i + 1 : Nat) : Int) ≤ (s.paths.length : Int) by omega))
                      clear hp hc hsv
                      by_cases hq : PathOk p ((i : Int) + 1)
                      · have HQ := Lib.hid hq
                        have HQB : Hid (true = true ↔ PathRef p ((i + 1 : Nat) : Int) s.paths.length) := Lib.hid ⟨fun _ => PI.out.2 hq, fun _ => rfl⟩
                        clear hq
                        go_wp2_with (go_at_call 32; (try rw [HWR.out]); refine (rpath_b HSV.out HQB.out).mono ?_; rintro e w5 ⟨rfl, h5⟩; have HW5 := Lib.hid (HW.out.of_self h5); clear h5)
                        go_roundw
                        case rel =>
                          refine ⟨i + 1, by omega, by first | rfl | rw [HWR.out], fun g' p' hg' hp' => ?_, HW5⟩
                          by_cases hgi : g' = i
                          · subst hgi
                            rw [HP.out] at hp'
                            cases hp'
                            exact HQ.out
                          · exact HN.out g' p' (by omega) hp'
                        case measure => (try rw [HWR.out]); simp [intOf]; omega
                      · have HQ := Lib.hid hq
                        have HQB : Hid (false = true ↔ PathRef p ((i + 1 : Nat) : Int) s.paths.length) := Lib.hid ⟨(fun h => nomatch h), fun h => absurd (PI.out.1 h) hq⟩
                        clear hq
                        go_wp2_with (go_at_call 32; (try rw [HWR.out]); refine (rpath_b HSV.out HQB.out).mono ?_; rintro e w5 ⟨rfl, h5⟩; have HW5 := Lib.hid (HW.out.of_self h5); clear h5)
                        go_ret
                        exact YN.no (by simp) (fun h => HQ.out (h.2.2.2.2.1 i p HP.out)) (HO.out.of_self HW5.out)
                    · obtain rfl : i = s.paths.length := by omega
                      have HP1 : Hid s.Paths := Lib.hid (fun g p hp => HN.out g p (List.getElem?_eq_some_iff.1 hp).1 hp)
                      clear HN hi hlt
                      go_wp2_with fail
                      go_loopw [5] (fun k wr => ∃ i : Nat, i ≤ s.tags.length ∧ k = .int .i64 i ∧ Hid (∀ (j : Nat) t, j < i → s.tags[j]? = some t → 0 ≤ t ∧ t ≤ (s.nc : Int)) ∧ Hid (Own W0 [] wr)) (fun k _ => s.tags.length - (intOf k).toNat)
                      case atStart => exact ⟨0, Nat.zero_le _, rfl, fun j t hj => absurd hj (by omega), HW⟩
                      case round =>
                        clear HW
                        obtain ⟨i, hi, rfl, HN, HW⟩ := hrel
                        have f8 := (HW.out.old (a := ⟨B, 8, none⟩) HX.out.1).trans F8.out
                        have f9 := (HW.out.old (a := ⟨B, 9, none⟩) HX.out.1).trans F9.out
                        by_cases hlt : i < s.tags.length
                        · obtain ⟨y, hy⟩ : ∃ y, s.tags[i]? = some y := ⟨_, List.getElem?_eq_getElem hlt⟩
                          obtain ⟨g, o, c', he, _, hc⟩ := (G8.out.own HW.out).at_ (by omega)
                          cases he
                          have cy := hc i _ hy
                          have HY := Lib.hid hy
                          have HWR := Lib.hid (wrap_succ hlt (bb_ints G8.out.2))
                          have hi0 : (0 : Int) ≤ (i : Int) ∧ (i : Int) < (s.tags.length : Int) := by omega
                          clear hy hc
                          obtain ⟨q, HQ⟩ : ∃ q, Hid (inB y 0 s.nc = q) := ⟨_, rfl⟩
                          cases q with
                          | false =>
                            go_wp2_with fail
                            go_quiet (first | (go_at_call 31; refine Calls.quiet_of_same (rwithin_b _ HQ.out)))
                            go_wp2_with fail
                            go_ret
                            exact YN.no (by simp) (fun h => by
                              have h1 := h.2.2.1 y (List.mem_of_getElem? HY.out)
                              have := inB_iff.2 h1
                              rw [HQ.out] at this
                              cases this) ((HO.out.of_self HW.out).drewN _)
                          | true =>
                            go_wp2_with fail
                            go_quiet (first | (go_at_call 31; refine Calls.quiet_of_same (rwithin_b _ HQ.out)))
                            go_wp2_with fail
                            go_roundw
                            case rel =>
                              refine ⟨i + 1, by omega, by rw [HWR.out], fun j x hj hx => ?_, Lib.hid (HW.out.drewN _)⟩
                              by_cases hji : j = i
                              · subst hji
                                rw [HY.out] at hx
                                cases hx
                                exact inB_iff.1 HQ.out
                              · exact HN.out j x (by omega) hx
                            case measure => rw [HWR.out]; simp [intOf]; omega
                        · obtain rfl : i = s.tags.length := by omega
                          have HT2 : Hid s.Tags := Lib.hid (fun t ht => by
                            obtain ⟨j, hj, rfl⟩ := List.getElem_of_mem ht
                            exact HN.out j _ hj (List.getElem?_eq_getElem hj))
                          clear HN hi hlt
                          go_wp2_with fail
                          go_loopw [6] (fun k wr => ∃ i : Nat, i ≤ s.hn.length ∧ k = .int .i64 i ∧ Hid (∀ (j : Nat) h, j < i → s.hn[j]? = some h → 0 ≤ h.cache ∧ h.cache ≤ (s.nc : Int) - 1) ∧ Hid (Own W0 [] wr)) (fun k _ => s.hn.length - (intOf k).toNat)
                          case atStart => exact ⟨0, Nat.zero_le _, rfl, fun j t hj => absurd hj (by omega), HW⟩
                          case round =>
                            clear HW f8 f9
                            obtain ⟨i, hi, rfl, HN, HW⟩ := hrel
                            have f10 := (HW.out.old (a := ⟨B, 10, none⟩) HX.out.1).trans F10.out
                            have f9 := (HW.out.old (a := ⟨B, 9, none⟩) HX.out.1).trans F9.out
                            by_cases hlt : i < s.hn.length
                            · obtain ⟨y, hy⟩ : ∃ y, s.hn[i]? = some y := ⟨_, List.getElem?_eq_getElem hlt⟩
                              obtain ⟨g, o, c', he, _, hc⟩ := (G10.out.own HW.out).at_ (by omega)
                              cases he
                              obtain ⟨cy, -, -, -, -⟩ := hc i _ hy
                              have HY := Lib.hid hy
                              have HWR : Hid (wrap64 ((i : Int) + 1) = ((i + 1 : Nat) : Int)) := Lib.hid (wrap_succ hlt (by have : s.hn.length * 40 ≤ 140737488351232 := G10.out.2; omega))
                              have hi0 : (0 : Int) ≤ (i : Int) ∧ (i : Int) < (s.hn.length : Int) := by omega
                              have HNC := Lib.hid (nc_bytes GS.out)
                              obtain ⟨M, hM⟩ : ∃ M, (s.nc : Int) - 1 = M := ⟨_, rfl⟩
                              have hwm : IntKind.i64.wrap M = M := by have := HNC.out; rw [← hM, IntWalk.i64_in] <;> omega
                              have HM := Lib.hid hM
                              clear hy hc
                              obtain ⟨q, HQ⟩ : ∃ q, Hid (inB y.cache 0 M = q) := ⟨_, rfl⟩
                              cases q with
                              | false =>
                                go_wp2_with fail
                                go_quiet (first | (go_at_call 31; refine Calls.quiet_of_same (rwithin_b _ HQ.out)))
                                go_wp2_with fail
                                go_ret
                                exact YN.no (by simp) (fun h => by
                                  have h1 := h.2.2.2.1 y (List.mem_of_getElem? HY.out)
                                  rw [HM.out] at h1
                                  have := inB_iff.2 h1
                                  rw [HQ.out] at this
                                  cases this) ((HO.out.of_self HW.out).drewN _)
                              | true =>
                                go_wp2_with fail
                                go_quiet (first | (go_at_call 31; refine Calls.quiet_of_same (rwithin_b _ HQ.out)))
                                go_wp2_with fail
                                go_roundw
                                case rel =>
                                  refine ⟨i + 1, by omega, by rw [HWR.out], fun j x hj hx => ?_, Lib.hid (HW.out.drewN _)⟩
                                  by_cases hji : j = i
                                  · subst hji
                                    rw [HY.out] at hx
                                    cases hx
                                    rw [HM.out]
                                    exact inB_iff.1 HQ.out
                                  · exact HN.out j x (by omega) hx
                                case measure => rw [HWR.out]; simp [intOf]; omega
                            · obtain rfl : i = s.hn.length := by omega
                              have HH3 : Hid s.Hans := Lib.hid (fun t ht => by
                                obtain ⟨j, hj, rfl⟩ := List.getElem_of_mem ht
                                exact HN.out j _ hj (List.getElem?_eq_getElem hj))
                              clear HN hi hlt
                              go_wp2_with fail
                              go_loopw [7] (fun k wr => ∃ i : Nat, i ≤ s.ds.length ∧ k = .int .i64 i ∧ Hid (∀ (j : Nat) d, j < i → s.ds[j]? = some d → DidOk s.hn.length s.depths.length s.now d) ∧ Hid (Own W0 [] wr)) (fun k _ => s.ds.length - (intOf k).toNat)
                              case atStart => exact ⟨0, Nat.zero_le _, rfl, fun j d hj => absurd hj (by omega), HW⟩
                              case round =>
                                clear HW
                                obtain ⟨i, hi, rfl, HN, HW⟩ := hrel
                                by_cases hlt : i < s.ds.length
                                · obtain ⟨e, he⟩ : ∃ e, s.ds[i]? = some e := ⟨_, List.getElem?_eq_getElem hlt⟩
                                  obtain ⟨g, o, cc, heq, hg, hcl⟩ := (G11.out.own HW.out).at_ (by omega)
                                  cases heq
                                  obtain ⟨sv, hsv, x0, x1, x2, x3, x4, x5⟩ := hcl i e he
                                  obtain ⟨Ae, ce, rfl⟩ := hsv.form
                                  have HE := Lib.hid he
                                  have HS := Lib.hid hsv
                                  have HX4 := Lib.hid (HX.out.own HW.out)
                                  have hi0 : (0 : Int) ≤ (i : Int) ∧ (i : Int) < (s.ds.length : Int) := by omega
                                  have HWR : Hid (wrap64 ((i : Int) + 1) = ((i + 1 : Nat) : Int)) := Lib.hid (wrap_succ hlt (by have : s.ds.length * 64 ≤ 140737488351232 := G11.out.bytes; omega))
                                  have GS4 := Lib.hid (GS.out.own HW.out)
                                  have e0 := (HW.out.old (a := ⟨B, 0, none⟩) HX.out.1).trans F0.out
                                  have e1 := (HW.out.old (a := ⟨B, 1, none⟩) HX.out.1).trans F1.out
                                  have e2 := (HW.out.old (a := ⟨B, 2, none⟩) HX.out.1).trans F2.out
                                  have e3 := (HW.out.old (a := ⟨B, 3, none⟩) HX.out.1).trans F3.out
                                  have e4 := (HW.out.old (a := ⟨B, 4, none⟩) HX.out.1).trans F4.out
                                  have e5 := (HW.out.old (a := ⟨B, 5, none⟩) HX.out.1).trans F5.out
                                  have e6 := (HW.out.old (a := ⟨B, 6, none⟩) HX.out.1).trans F6.out
                                  have e7 := (HW.out.old (a := ⟨B, 7, none⟩) HX.out.1).trans F7.out
                                  have e8 := (HW.out.old (a := ⟨B, 8, none⟩) HX.out.1).trans F8.out
                                  have e9 := (HW.out.old (a := ⟨B, 9, none⟩) HX.out.1).trans F9.out
                                  have e10 := (HW.out.old (a := ⟨B, 10, none⟩) HX.out.1).trans F10.out
                                  have e11 := (HW.out.old (a := ⟨B, 11, none⟩) HX.out.1).trans F11.out
                                  clear he hcl hsv hg
                                  by_cases hd : DidOk s.hn.length s.depths.length s.now e
                                  · have HD := Lib.hid hd
                                    have HDB : Hid (true = true ↔ DidOk s.hn.length s.depths.length s.now e) := Lib.hid ⟨fun _ => hd, fun _ => rfl⟩
                                    clear hd
                                    go_wp2_with fail
                                    go_region_law (first
                                      | (go_simp; go_at_call 33; refine (rdid_b (d := e) (Av := Ae) (cv := ce) (b := true) (GS4.out.own (Own.self wr).drew) (HS.out.own (Own.self wr).drew) (by simpa using HDB.out)).mono ?_; rintro _ w5 ⟨rfl, h5⟩))
                                    all_goals
                                      have HW5 := Lib.hid (HW.out.drew.of_self h5)
                                      clear e0 e1 e2 e3 e4 e5 e6 e7 e8 e9 e10 e11 h5 x0 x1 x2 x3 x4 x5
                                      change Exit.then _ _ _ (Act.put _ (some 126) _) _
                                      simp only [Act.put, List.setIfInBounds_toArray, List.set_cons_succ, List.set_cons_zero]
                                      go_wp2_with fail
                                      go_roundw
                                      case rel =>
                                        refine ⟨i + 1, by omega, by rw [HWR.out], fun j d hj hd => ?_, HW5⟩
                                        by_cases hji : j = i
                                        · subst hji
                                          rw [HE.out] at hd
                                          cases hd
                                          exact HD.out
                                        · exact HN.out j d (by omega) hd
                                      case measure => rw [HWR.out]; simp [intOf]; omega
                                  · have HD := Lib.hid hd
                                    have HDB : Hid (false = true ↔ DidOk s.hn.length s.depths.length s.now e) := Lib.hid ⟨(fun h => nomatch h), fun h => absurd h hd⟩
                                    clear hd
                                    go_wp2_with fail
                                    go_region_law (first
                                      | (go_simp; go_at_call 33; refine (rdid_b (d := e) (Av := Ae) (cv := ce) (b := false) (GS4.out.own (Own.self wr).drew) (HS.out.own (Own.self wr).drew) (by simpa using HDB.out)).mono ?_; rintro _ w5 ⟨rfl, h5⟩))
                                    all_goals
                                      have HW5 := Lib.hid (HW.out.drew.of_self h5)
                                      clear e0 e1 e2 e3 e4 e5 e6 e7 e8 e9 e10 e11 h5 x0 x1 x2 x3 x4 x5
                                      change Exit.then _ _ _ (Act.put _ (some 126) _) _
                                      simp only [Act.put, List.setIfInBounds_toArray, List.set_cons_succ, List.set_cons_zero]
                                      go_wp2_with fail
                                      go_ret
                                      exact YN.no (by simp) (fun h => HD.out (h.2.2.2.2.2 e (List.mem_of_getElem? HE.out))) (HO.out.of_self HW5.out)
                                · obtain rfl : i = s.ds.length := by omega
                                  have HD4 : Hid s.Calls := Lib.hid (fun d hd => by
                                    obtain ⟨j, hj, rfl⟩ := List.getElem_of_mem hd
                                    exact HN.out j _ hj (List.getElem?_eq_getElem hj))
                                  clear HN
                                  have f11 := (HW.out.old (a := ⟨B, 11, none⟩) HX.out.1).trans F11.out
                                  go_wp2_with fail
                                  go_ret
                                  exact YN.yes (by simp) ⟨HLens.out, HSz.out, HT2.out, HH3.out, HP1.out, HD4.out⟩ (HO.out.of_self HW.out)
                · have b4 : ((s.flies.length : Int) != (s.paths.length : Int)) = true := by rw [bne_iff_ne]; omega
                  have E4 := Lib.hid e4
                  clear e4
                  go_wp2_with fail
                  go_ret
                  exact YN.no (by simp) (fun h => E4.out h.1.2.2.2.2) HO.out
              · have b3 : ((s.held.length : Int) != (s.paths.length : Int)) = true := by rw [bne_iff_ne]; omega
                have E3 := Lib.hid e3
                clear e3
                go_wp2_with fail
                go_ret
                exact YN.no (by simp) (fun h => E3.out h.1.2.2.2.1) HO.out
            · have b2 : ((s.owned.length : Int) != (s.paths.length : Int)) = true := by rw [bne_iff_ne]; omega
              have E2 := Lib.hid e2
              clear e2
              go_wp2_with fail
              go_ret
              exact YN.no (by simp) (fun h => E2.out h.1.2.2.1) HO.out
          · have b1 : ((s.most.length : Int) != (s.paths.length : Int)) = true := by rw [bne_iff_ne]; omega
            have E1 := Lib.hid e1
            clear e1
            go_wp2_with fail
            go_ret
            exact YN.no (by simp) (fun h => E1.out h.1.2.1) HO.out
        · have b0 : ((s.used.length : Int) != (s.paths.length : Int)) = true := by rw [bne_iff_ne]; omega
          have E0 := Lib.hid e0
          clear e0
          go_wp2_with fail
          go_ret
          exact YN.no (by simp) (fun h => E0.out h.1.1) HO.out
end Go.Proofs.YthjjpmoifgcepaaGreat.Jh
