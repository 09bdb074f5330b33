import Derived.Test.YthjjpmoifgcepaaGreatJhJhRA
import Derived.Test.YthjjpmoifgcepaaGreatJhJhAB
/-
  Contracts: wainscotref30.did, giving. No condition.
-/
namespace Go.Proofs.YthjjpmoifgcepaaGreat.Jh
open Go.RowKit
attribute [local go_sem ↓] Go.wp_at_zero Go.wp_at_succ
set_option maxHeartbeats 4000000 in
set_option maxRecDepth 100000 in
theorem rdid_spec {w : World} {s : Sn} {cs : Array Value} (hs : SnapV w (.agg cs) s) {d : Dd} {Av : Option Addr} {cv : Nat} (hd : IntsB w (.slice Av d.hs.length cv) d.hs) : Calls Tryz.prog 33 #[.agg cs, ddAgg d (.slice Av d.hs.length cv)] w (YN w (DidOk s.hn.length s.depths.length s.now d)) := by
  have hX : BoxS (w.alloc (.cells cs 28)) w.heap.size s := BoxS.new hs
  have hO1 := (Own.self w).alloc (.cells cs 28)
  have hd1 := hd.own hO1
  have hO2 := (Own.self (w.alloc (.cells cs 28))).new (ddObj d (.slice Av d.hs.length cv))
  have hX2 := hX.own hO2
  have hd2 := hd1.own hO2
  have hO := (hO1.alloc (ddObj d (.slice Av d.hs.length cv)))
  have hsz : (w.alloc (.cells cs 28)).heap.size = w.heap.size + 1 := al_size _ _
  rw [hsz] at hO2
  obtain ⟨N, hN⟩ : ∃ N, d.hs.length = N := ⟨_, rfl⟩
  have hB := bb_ints hd.2
  rw [hN] at hB hd2 hO2 hO hX2 ⊢
  have HNL := Lib.hid hN
  clear hs hX hd hd1 hO1 hsz hN
  go_enter Tryz.func33, Tryz.ntmps33
  go_upto_region 1 with fail
  obtain ⟨B, hB0⟩ : ∃ B, w.heap.size = B := ⟨_, rfl⟩
  rw [hB0] at hO2 hX2 ⊢
  obtain ⟨c0, c1, c2, c3, c4, c5⟩ := dd_at hO2
  clear hB0 hO2
  generalize (w.alloc (.cells cs 28)).alloc (ddObj d (.slice Av N cv)) = W1 at hO hX2 hd2 c0 c1 c2 c3 c4 c5 ⊢
  have HX := Lib.hid hX2
  have HO := Lib.hid hO
  have HD := Lib.hid hd2
  have HB := Lib.hid hB
  obtain ⟨A1, n1, A2, n2, A3, n3, A4, n4, A5, n5, A6, n6, A7, n7, A8, n8, A9, n9, A10, n10, A11, n11, ⟨f0, f1, -, -, -, -, -, -, -, -, f10, -⟩, -, -, g10, -, -⟩ := box_all HX.out
  have HBH : Hid (s.hn.length * 40 ≤ 140737488351232) := Lib.hid g10.2
  have HBD : Hid (s.depths.length * 8 ≤ 140737488351232) := Lib.hid (box01 HX.out).2.2
  have HWH : Hid (IntKind.i64.wrap ((s.hn.length : Int) - 1) = (s.hn.length : Int) - 1) := Lib.hid (by have := HBH.out; rw [IntWalk.i64_in] <;> omega)
  have HWD : Hid (wrap64 ((s.depths.length : Int) - 1) = (s.depths.length : Int) - 1) := Lib.hid (by have := HBD.out; rw [IntWalk.wrap64_in _ (by omega)])
  obtain ⟨M, hM⟩ : ∃ M, (s.hn.length : Int) - 1 = M := ⟨_, rfl⟩
  obtain ⟨K, hK⟩ : ∃ K, (s.depths.length : Int) - 1 = K := ⟨_, rfl⟩
  have DEF : Hid (DidOk s.hn.length s.depths.length s.now d ↔ ((∀ h ∈ d.hs, 0 ≤ h ∧ h ≤ M) ∧ (0 ≤ d.cpu ∧ d.cpu ≤ K) ∧ (0 ≤ d.fr ∧ d.fr ≤ d.tp) ∧ d.tp ≤ s.now)) := Lib.hid (by rw [← hM, ← hK]; exact Iff.rfl)
  rw [hM] at HWH
  rw [hK] at HWD
  have hwh := HWH.out
  clear g10 hX2 hO hd2 hB c1 c4 HWH
  go_wp2_with fail
  go_loopw [5] (fun k wr => ∃ (i nq : Nat), i ≤ N ∧ k = .int .i64 i ∧ Hid (∀ j x, j < i → d.hs[j]? = some x → 0 ≤ x ∧ x ≤ M) ∧ wr = W1.drewN nq) (fun k _ => N - (intOf k).toNat)
  case atStart => exact ⟨0, 0, Nat.zero_le _, rfl, fun j x hj => absurd hj (by omega), rfl⟩
  case round =>
    obtain ⟨i, nq0, hi, rfl, HN, hwr⟩ := hrel
    have HWR := Lib.hid hwr
    have c0 : wr.cell? ⟨B + 1, 0, none⟩ = some (.int .i64 d.cpu) := by rw [hwr]; exact c0
    have c2 : wr.cell? ⟨B + 1, 2, none⟩ = some (.int .i64 d.fr) := by rw [hwr]; exact c2
    have c3 : wr.cell? ⟨B + 1, 3, none⟩ = some (.int .i64 d.tp) := by rw [hwr]; exact c3
    have c5 : wr.cell? ⟨B + 1, 5, none⟩ = some (.slice Av N cv) := by rw [hwr]; exact c5
    have f0 : wr.cell? ⟨B, 0, none⟩ = some (.int .i64 s.now) := by rw [hwr]; exact f0
    have f1 : wr.cell? ⟨B, 1, none⟩ = some (.slice A1 s.depths.length n1) := by rw [hwr]; exact f1
    have f10 : wr.cell? ⟨B, 10, none⟩ = some (.slice A10 s.hn.length n10) := by rw [hwr]; exact f10
    have HR : Hid (Own w [] wr) := Lib.hid (by rw [hwr]; exact HO.out.drewN _)
    have HD : Hid (IntsB wr (.slice Av N cv) d.hs) := Lib.hid (by rw [hwr]; exact HD.out.own ((Own.self W1).drewN _))
    clear hwr
    by_cases hlt : i < N
    · obtain ⟨y, hy⟩ : ∃ y, d.hs[i]? = some y := ⟨_, List.getElem?_eq_getElem (by rw [HNL.out]; exact hlt)⟩
      obtain ⟨g0, o, he, _, hc⟩ := at_n HD.out HNL.out (by omega)
      subst he
      have cy := hc i _ hy
      have HY := Lib.hid hy
      have HW := Lib.hid (wrap_succ hlt HB.out)
      have hi0 : (0 : Int) ≤ (i : Int) ∧ (i : Int) < (N : Int) := by omega
      clear hc hy
      obtain ⟨q, HQ⟩ : ∃ q, Hid (inB y 0 M = q) := ⟨_, rfl⟩
      cases q with
      | false =>
        go_wp2_with fail
        go_quiet (first | (go_at_call 31; refine Calls.quiet_of_same (rwithin_b _ HQ.out)))
        go_wp2_with fail
        go_ret
        exact YN.no (by simp) (fun h => by
          have h1 := (DEF.out.1 h).1 y (List.mem_of_getElem? HY.out)
          have := inB_iff.2 h1
          rw [HQ.out] at this
          cases this) (HR.out.drewN _)
      | true =>
        go_wp2_with fail
        go_quiet (first | (go_at_call 31; refine Calls.quiet_of_same (rwithin_b _ HQ.out)))
        go_wp2_with fail
        go_roundw
        case rel =>
          refine ⟨i + 1, nq0 + nq, by omega, by rw [HW.out], fun j x hj hx => ?_, by rw [HWR.out]; first | rfl | rw [World.drewN_drewN]⟩
          by_cases hji : j = i
          · subst hji
            rw [HY.out] at hx
            cases hx
            exact inB_iff.1 HQ.out
          · exact HN.out j x (by omega) hx
        case measure => rw [HW.out]; simp [intOf]; omega
    · obtain rfl : N = i := by omega
      have HP : Hid (∀ h ∈ d.hs, 0 ≤ h ∧ h ≤ M) := Lib.hid (fun h hh => by
        obtain ⟨j, hj, rfl⟩ := List.getElem_of_mem hh
        exact HN.out j _ (by rw [← HNL.out]; exact hj) (List.getElem?_eq_getElem hj))
      clear HN hi hlt
      obtain ⟨q1, HQ1⟩ : ∃ q, Hid (inB d.cpu 0 K = q) := ⟨_, rfl⟩
      cases q1 with
      | false =>
        go_wp2_with (go_at_call 31; (first | rw [HWD.out] | skip); refine (rwithin_b _ HQ1.out).mono ?_; rintro e w2 ⟨rfl, rfl⟩)
        go_ret
        exact YN.no (by simp) (fun h => by
          have h1 := (DEF.out.1 h).2.1
          have := inB_iff.2 h1
          rw [HQ1.out] at this
          cases this) HR.out
      | true =>
        by_cases h1 : 0 ≤ d.fr
        · have e1 : decide (0 ≤ d.fr) = true := decide_eq_true h1
          have H1 := Lib.hid h1
          clear h1
          by_cases h2 : d.fr ≤ d.tp
          · have e2 : decide (d.fr ≤ d.tp) = true := decide_eq_true h2
            have H2 := Lib.hid h2
            clear h2
            by_cases h3 : d.tp ≤ s.now
            · have e3 : decide (d.tp ≤ s.now) = true := decide_eq_true h3
              have H3 := Lib.hid h3
              clear h3
              go_wp2_with (go_at_call 31; (first | rw [HWD.out] | skip); refine (rwithin_b _ HQ1.out).mono ?_; rintro e w2 ⟨rfl, rfl⟩)
              go_ret
              exact YN.yes (by simp) (DEF.out.2 ⟨HP.out, inB_iff.1 HQ1.out, ⟨H1.out, H2.out⟩, H3.out⟩) HR.out
            · have e3 : decide (d.tp ≤ s.now) = false := decide_eq_false h3
              have H3 := Lib.hid h3
              clear h3
              go_wp2_with (go_at_call 31; (first | rw [HWD.out] | skip); refine (rwithin_b _ HQ1.out).mono ?_; rintro e w2 ⟨rfl, rfl⟩)
              go_ret
              exact YN.no (by simp) (fun h => absurd (DEF.out.1 h).2.2.2 (by have := H3.out; omega)) HR.out
          · have e2 : decide (d.fr ≤ d.tp) = false := decide_eq_false h2
            have H2 := Lib.hid h2
            clear h2
            go_wp2_with (go_at_call 31; (first | rw [HWD.out] | skip); refine (rwithin_b _ HQ1.out).mono ?_; rintro e w2 ⟨rfl, rfl⟩)
            go_ret
            exact YN.no (by simp) (fun h => absurd (DEF.out.1 h).2.2.1.2 (by have := H2.out; omega)) HR.out
        · have e1 : decide (0 ≤ d.fr) = false := decide_eq_false h1
          have H1 := Lib.hid h1
          clear h1
          go_wp2_with (go_at_call 31; (first | rw [HWD.out] | skip); refine (rwithin_b _ HQ1.out).mono ?_; rintro e w2 ⟨rfl, rfl⟩)
          go_ret
          exact YN.no (by simp) (fun h => absurd (DEF.out.1 h).2.2.1.1 (by have := H1.out; omega)) HR.out
end Go.Proofs.YthjjpmoifgcepaaGreat.Jh
