import Derived.Test.YthjjpmoifgcepaaGreatJhJhY
import Derived.Test.YthjjpmoifgcepaaGreatJhJhV
/-
  Contracts: wainscotref30.within, path, names, gives, takes. No condition.
-/
namespace Go.Proofs.YthjjpmoifgcepaaGreat.Jh
open Go.RowKit
attribute [local go_sem ↓] Go.wp_at_zero Go.wp_at_succ
theorem rwithin_b (w : World) {n a b : Int} {r : Bool} (h : inB n a b = r) : Calls Tryz.prog 31 #[.int .i64 n, .int .i64 a, .int .i64 b] w fun e w' => e = .returned (.bool r) ∧ w' = w := by
  have H := Lib.hid h
  clear h
  by_cases h1 : a ≤ n
  · have d1 : decide (a ≤ n) = true := decide_eq_true h1
    have H2 : Hid (r = decide (n ≤ b)) := Lib.hid (by rw [← H.out]; simp [inB, h1])
    clear h1
    go_enter Tryz.func31, Tryz.ntmps31
    go_wp2
    go_ret
    exact ⟨by rw [H2.out]; rfl, rfl⟩
  · have d1 : decide (a ≤ n) = false := decide_eq_false h1
    have H2 : Hid (r = false) := Lib.hid (by rw [← H.out]; simp [inB, h1])
    clear h1
    go_enter Tryz.func31, Tryz.ntmps31
    go_wp2
    go_ret
    exact ⟨by rw [H2.out]; rfl, rfl⟩
theorem rgives_spec (w : World) (op : Int) : Calls Tryz.prog 34 #[.int .i64 op] w fun e w' => e = .returned (.bool (gives op)) ∧ w' = w := by
  by_cases h1 : op = 1
  · have d1 : (op == 1) = true := by simp [h1]
    have HD : Hid (gives op = true) := Lib.hid (by unfold gives; rw [d1]; rfl)
    clear h1
    go_enter Tryz.func34, Tryz.ntmps34
    go_wp2
    go_ret
    exact ⟨by rw [HD.out]; rfl, rfl⟩
  · have d1 : (op == 1) = false := by simp [h1]
    by_cases h2 : op = 3
    · have d2 : (op == 3) = true := by simp [h2]
      have HD : Hid (gives op = true) := Lib.hid (by unfold gives; rw [d1, d2]; rfl)
      clear h1 h2
      go_enter Tryz.func34, Tryz.ntmps34
      go_wp2
      go_ret
      exact ⟨by rw [HD.out]; rfl, rfl⟩
    · have d2 : (op == 3) = false := by simp [h2]
      have HD : Hid (gives op = (op == 12)) := Lib.hid (by unfold gives; rw [d1, d2]; rfl)
      clear h1 h2
      go_enter Tryz.func34, Tryz.ntmps34
      go_wp2
      go_ret
      exact ⟨by rw [HD.out]; rfl, rfl⟩
theorem rtakes_spec (w : World) (op : Int) : Calls Tryz.prog 36 #[.int .i64 op] w fun e w' => e = .returned (.bool (takes op)) ∧ w' = w := by
  by_cases h1 : op = 2
  · have d1 : (op == 2) = true := by simp [h1]
    have HD : Hid (takes op = true) := Lib.hid (by unfold takes; rw [d1]; rfl)
    clear h1
    go_enter Tryz.func36, Tryz.ntmps36
    go_wp2
    go_ret
    exact ⟨by rw [HD.out]; rfl, rfl⟩
  · have d1 : (op == 2) = false := by simp [h1]
    by_cases h2 : op = 4
    · have d2 : (op == 4) = true := by simp [h2]
      have HD : Hid (takes op = true) := Lib.hid (by unfold takes; rw [d1, d2]; rfl)
      clear h1 h2
      go_enter Tryz.func36, Tryz.ntmps36
      go_wp2
      go_ret
      exact ⟨by rw [HD.out]; rfl, rfl⟩
    · have d2 : (op == 4) = false := by simp [h2]
      have HD : Hid (takes op = (op == 13)) := Lib.hid (by unfold takes; rw [d1, d2]; rfl)
      clear h1 h2
      go_enter Tryz.func36, Tryz.ntmps36
      go_wp2
      go_ret
      exact ⟨by rw [HD.out]; rfl, rfl⟩
set_option maxHeartbeats 2000000 in
theorem rnames_spec {w : World} {d : Dd} {Av : Option Addr} {cv : Nat} (hs : IntsB w (.slice Av d.hs.length cv) d.hs) (h : Int) : Calls Tryz.prog 35 #[ddAgg d (.slice Av d.hs.length cv), .int .i64 h] w fun e w' => e = .returned (.bool (decide (h ∈ d.hs))) ∧ Own w [] w' := by
  have hO := (Own.self w).new (ddObj d (.slice Av d.hs.length cv))
  have HS := Lib.hid (hs.own hO)
  have HB := Lib.hid (bb_ints hs.2)
  have HO := Lib.hid (hO.sub (List.nil_sublist _))
  obtain ⟨-, -, -, -, -, g5⟩ := dd_at hO
  clear hs hO
  go_enter Tryz.func35, Tryz.ntmps35
  go_upto_region 1 with fail
  obtain ⟨B, hB⟩ : ∃ B, w.heap.size = B := ⟨_, rfl⟩
  rw [hB] at g5 ⊢
  clear hB
  generalize w.alloc (ddObj d (.slice Av d.hs.length cv)) = w1 at g5 HS HO ⊢
  go_wp2_with fail
  go_loop [5] (fun k => ∃ i : Nat, i ≤ d.hs.length ∧ k = .int .i64 i ∧ Hid (∀ j, j < i → d.hs[j]? ≠ some h)) (fun k => d.hs.length - (intOf k).toNat)
  case atStart => exact ⟨0, Nat.zero_le _, rfl, fun j hj => absurd hj (by omega)⟩
  case round =>
    obtain ⟨i, hi, rfl, HN⟩ := hrel
    by_cases hlt : i < d.hs.length
    · obtain ⟨y, hy⟩ : ∃ y, d.hs[i]? = some y := ⟨_, List.getElem?_eq_getElem hlt⟩
      obtain ⟨g, o, c', he, _, hc⟩ := HS.out.at_ (by omega)
      cases he
      have cy := hc i _ hy
      have HY := Lib.hid hy
      have HW := Lib.hid (wrap_succ hlt HB.out)
      have hi0 : (0 : Int) ≤ (i : Int) ∧ (i : Int) < (d.hs.length : Int) := by omega
      clear hy hc
      by_cases hny : y = h
      · have hb : (y == h) = true := by simp [hny]
        have HNY := Lib.hid hny
        clear hny
        go_wp2
        go_ret
        exact ⟨by rw [decide_eq_true (List.mem_of_getElem? (HY.out.trans (by rw [HNY.out])))]; rfl, HO.out⟩
      · have hb : (y == h) = false := by simpa using hny
        have HNY := Lib.hid hny
        clear hny
        go_wp2
        go_round
        case rel =>
          refine ⟨i + 1, by omega, by rw [HW.out], fun j hj => ?_⟩
          by_cases hji : j < i
          · exact HN.out j hji
          · obtain rfl : j = i := by omega
            rw [HY.out]
            intro he
            exact HNY.out (by simpa using he)
        case measure => rw [HW.out]; simp [intOf]; omega
    · obtain rfl : i = d.hs.length := by omega
      go_wp2
      go_ret
      refine ⟨?_, HO.out⟩
      rw [decide_eq_false fun hm => by
        obtain ⟨j, hj, he⟩ := List.getElem_of_mem hm
        exact HN.out j hj (by rw [List.getElem?_eq_getElem hj, he])]
      rfl
theorem at_n {w : World} {A : Option Addr} {N c : Nat} {l : List Int} (h : IntsB w (.slice A N c) l) (hl : l.length = N) (h0 : 0 < N) : ∃ g o, A = some ⟨g, o, none⟩ ∧ g < w.heap.size ∧ ∀ (j : Nat) (x : Int), l[j]? = some x → w.cell? ⟨g, o + j, none⟩ = some (.int .i64 x) := by
  obtain ⟨g, o, c', h1, h2, h3⟩ := h.at_ (by omega)
  injection h1 with h4 h5 h6
  exact ⟨g, o, h4, h2, h3⟩
set_option maxHeartbeats 4000000 in
set_option maxRecDepth 100000 in
theorem rpath_spec {w : World} {v : Value} {p : List Int} (hv : IntsB w v p) (g n : Int) : Calls Tryz.prog 32 #[v, .int .i64 g, .int .i64 n] w (YN w (PathRef p g n)) := by
  have hB := bb_ints hv.2
  obtain ⟨A, c, rfl⟩ := hv.form
  obtain ⟨N, hN⟩ : ∃ N, p.length = N := ⟨_, rfl⟩
  rw [hN] at hB hv ⊢
  have HB := Lib.hid hB
  have HV := Lib.hid hv
  have HNL := Lib.hid hN
  clear hv hB hN
  go_enter Tryz.func32, Tryz.ntmps32
  go_wp2_with fail
  go_loopw [7] (fun k wr => ∃ i : Nat, i ≤ N ∧ k = .int .i64 i ∧ Hid (∀ j, j < i → (1 ≤ p.getD j 0 ∧ p.getD j 0 ≤ n) ∧ (0 < j → p.getD (j - 1) 0 < p.getD j 0)) ∧ Hid (Own w [] wr)) (fun k _ => N - (intOf k).toNat)
  case atStart => exact ⟨0, Nat.zero_le _, rfl, fun j hj => absurd hj (by omega), Lib.hid (Own.self w)⟩
  case round =>
    obtain ⟨i, hi, rfl, HN, HR⟩ := hrel
    by_cases hlt : i < N
    · obtain ⟨y, hy⟩ : ∃ y, p[i]? = some y := ⟨_, List.getElem?_eq_getElem (by rw [HNL.out]; exact hlt)⟩
      obtain ⟨g0, o, he, _, hc⟩ := at_n (HV.out.own HR.out) HNL.out (by omega)
      subst he
      have cy := hc i _ hy
      have HY := Lib.hid hy
      have HW := Lib.hid (wrap_succ hlt HB.out)
      have hi0 : (0 : Int) ≤ (i : Int) ∧ (i : Int) < (N : Int) := by omega
      obtain ⟨q, HQ⟩ : ∃ q, Hid (inB y 1 n = q) := ⟨_, rfl⟩
      cases q with
      | false =>
        clear hc hy
        go_wp2_with fail
        go_quiet (first | (go_at_call 31; refine Calls.quiet_of_same (rwithin_b _ HQ.out)))
        go_wp2_with fail
        go_ret
        exact YN.no (by simp) (fun h => by
          have h1 := (h.1 i (by rw [HNL.out]; exact hlt)).1
          rw [getD_of HY.out] at h1
          have := inB_iff.2 h1
          rw [HQ.out] at this
          cases this) (HR.out.drewN _)
      | true =>
        cases i with
        | zero =>
          clear hc hy
          rw [Nat.add_zero] at cy
          have hz : decide ((0 : Int) < ((0 : Nat) : Int)) = false := by decide
          go_wp2_with fail
          go_quiet (first | (go_at_call 31; refine Calls.quiet_of_same (rwithin_b _ HQ.out)))
          go_wp2_with fail
          go_roundw
          case rel =>
            refine ⟨1, by omega, rfl, fun j hj => ?_, Lib.hid (HR.out.drewN _)⟩
            obtain rfl : j = 0 := by omega
            rw [getD_of HY.out]
            exact ⟨inB_iff.1 HQ.out, fun h => absurd h (by omega)⟩
          case measure => simp [intOf]; omega
        | succ k =>
          obtain ⟨x, hx⟩ : ∃ x, p[k]? = some x := ⟨_, List.getElem?_eq_getElem (by rw [HNL.out]; omega)⟩
          have cx := hc k _ hx
          have HX := Lib.hid hx
          clear hc hy hx
          have hwk : IntKind.i64.wrap (k : Int) = (k : Int) := by have := HB.out; rw [IntWalk.i64_in] <;> omega
          have hz : decide ((0 : Int) < (k : Int) + 1) = true := decide_eq_true (by omega)
          have hk0 : (0 : Int) ≤ (k : Int) ∧ (k : Int) < (N : Int) := by omega
          have hk1 : (0 : Int) ≤ (k : Int) + 1 ∧ (k : Int) + 1 < (N : Int) := by omega
          by_cases hyx : y ≤ x
          · have hd : decide (y ≤ x) = true := decide_eq_true hyx
            have HYX := Lib.hid hyx
            clear hyx
            go_wp2_with fail
            go_quiet (first | (go_at_call 31; refine Calls.quiet_of_same (rwithin_b _ HQ.out)))
            go_wp2_with fail
            go_ret
            exact YN.no (by simp) (fun h => by
              have h1 := (h.1 (k + 1) (by rw [HNL.out]; exact hlt)).2 (by omega)
              rw [Nat.add_sub_cancel, getD_of HY.out, getD_of HX.out] at h1
              have := HYX.out
              omega) (HR.out.drewN _)
          · have hd : decide (y ≤ x) = false := decide_eq_false hyx
            have HYX := Lib.hid hyx
            clear hyx
            go_wp2_with fail
            go_quiet (first | (go_at_call 31; refine Calls.quiet_of_same (rwithin_b _ HQ.out)))
            go_wp2_with fail
            go_roundw
            case rel =>
              refine ⟨k + 1 + 1, by omega, by rw [show wrap64 ((k : Int) + 1 + 1) = ((k + 1 + 1 : Nat) : Int) from HW.out], fun j hj => ?_, Lib.hid (HR.out.drewN _)⟩
              by_cases hjk : j = k + 1
              · subst hjk
                rw [Nat.add_sub_cancel, getD_of HY.out, getD_of HX.out]
                exact ⟨inB_iff.1 HQ.out, fun _ => by have := HYX.out; omega⟩
              · exact HN.out j (by omega)
            case measure => rw [show wrap64 ((k : Int) + 1 + 1) = ((k + 1 + 1 : Nat) : Int) from HW.out]; simp [intOf]; omega
    · obtain rfl : N = i := by omega
      have HP : Hid (∀ j, j < N → (1 ≤ p.getD j 0 ∧ p.getD j 0 ≤ n) ∧ (0 < j → p.getD (j - 1) 0 < p.getD j 0)) := HN
      clear HN hi hlt
      cases N with
      | zero =>
        go_wp2_with fail
        go_ret
        exact YN.no (by simp) (fun h => absurd h.2.1 (by rw [HNL.out]; omega)) HR.out
      | succ k =>
        have hz : decide ((0 : Int) < (k : Int) + 1) = true := decide_eq_true (by omega)
        obtain ⟨y, hy⟩ : ∃ y, p[k]? = some y := ⟨_, List.getElem?_eq_getElem (by rw [HNL.out]; omega)⟩
        obtain ⟨g0, o, he, _, hc⟩ := at_n (HV.out.own HR.out) HNL.out (by omega)
        subst he
        have cy := hc k _ hy
        have HY := Lib.hid hy
        have hwk : IntKind.i64.wrap (k : Int) = (k : Int) := by have := HB.out; rw [IntWalk.i64_in] <;> omega
        have hk0 : (0 : Int) ≤ (k : Int) ∧ (k : Int) < (k : Int) + 1 := by omega
        clear hc hy
        by_cases hyg : y = g
        · have hb : (y == g) = true := by simp [hyg]
          have HYG := Lib.hid hyg
          clear hyg
          go_wp2_with fail
          go_ret
          exact YN.yes (by simp) ⟨fun j hj => HP.out j (by rw [← HNL.out]; exact hj), by rw [HNL.out]; omega, by rw [HNL.out, Nat.add_sub_cancel, getD_of HY.out]; exact HYG.out⟩ HR.out
        · have hb : (y == g) = false := by simp [hyg]
          have HYG := Lib.hid hyg
          clear hyg
          go_wp2_with fail
          go_ret
          exact YN.no (by simp) (fun h => HYG.out (by have := h.2.2; rwa [HNL.out, Nat.add_sub_cancel, getD_of HY.out] at this)) HR.out
end Go.Proofs.YthjjpmoifgcepaaGreat.Jh
