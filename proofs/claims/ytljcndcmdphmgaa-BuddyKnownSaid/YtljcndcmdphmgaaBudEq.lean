/-
  Contract: slices.Equal of pages.
-/
import Derived.Test.YtljcndcmdphmgaaFrameSet
namespace Go.Proofs.Ytljcndcmdphmgaa
open Go.RowKit
attribute [local go_sem ↓] Go.wp_at_zero Go.wp_at_succ
set_option maxHeartbeats 2000000 in
theorem equalP_spec {w : World} {v1 v2 : Value} {L1 L2 : List Pg} (h1 : PgS w v1 L1) (h2 : PgS w v2 L2) (hl : L1.length ≤ 60000) (hl2 : L2.length ≤ 60000) :
    Calls Try.prog 55 #[v1, v2] w fun e w' => e = .returned (.bool (decide (L1 = L2))) ∧ Own w [] w' := by
  obtain ⟨A1, c1, rfl, g1, g2, g3⟩ := h1
  obtain ⟨A2, c2, rfl, k1, k2, k3⟩ := h2
  by_cases hlen : L1.length = L2.length
  · obtain ⟨N, hN⟩ : ∃ N, L1.length = N := ⟨_, rfl⟩
    have hN2 : L2.length = N := by omega
    have HN := Lib.hid hN
    have HN2 := Lib.hid hN2
    rw [hN] at g1 g3 hl ⊢
    rw [hN2] at k1 k3 ⊢
    clear hN hN2 hlen hl2
    by_cases h0 : N = 0
    · subst h0
      have e1 := List.eq_nil_of_length_eq_zero HN.out
      have e2 := List.eq_nil_of_length_eq_zero HN2.out
      subst e1 e2
      go_enter Try.func55, Try.ntmps55
      go_wp2_with fail
      go_loop [13] (fun i => i = .int .i64 0) (fun _ => 0)
      case atStart => exact rfl
      case round =>
        subst hrel
        go_wp2_with fail
        go_ret
        exact ⟨rfl, Own.self w⟩
    · obtain ⟨b1, o1, rfl, m1⟩ := g3 (by omega)
      obtain ⟨b2, o2, rfl, m2⟩ := k3 (by omega)
      clear g3 k3
      unfold maxLen at g2 k2
      go_enter Try.func55, Try.ntmps55
      go_wp2_with fail
      go_loopw [13] (fun j wr => ∃ i : Nat, i ≤ N ∧ j = .int .i64 i ∧ Hid (L1.take i = L2.take i) ∧ Own w [] wr) (fun j _ => N - (intOf j).toNat)
      case atStart => exact ⟨0, by omega, rfl, rfl, Own.self w⟩
      case round =>
        obtain ⟨i, hi, rfl, HT, hr⟩ := hrel
        by_cases hlt : i < N
        · obtain ⟨⟨p0, p1, p2⟩, hp⟩ : ∃ p, L1[i]? = some p := ⟨_, List.getElem?_eq_getElem (by rw [HN.out]; exact hlt)⟩
          obtain ⟨⟨q0, q1, q2⟩, hq⟩ : ∃ p, L2[i]? = some p := ⟨_, List.getElem?_eq_getElem (by rw [HN2.out]; exact hlt)⟩
          obtain ⟨x0, x1, x2⟩ := (m1.own hr).2 i _ hp
          obtain ⟨y0, y1, y2⟩ := (m2.own hr).2 i _ hq
          simp only at x0 x1 x2 y0 y1 y2
          have HP := Lib.hid hp
          have HQ := Lib.hid hq
          clear hp hq
          by_cases e0 : p0 = q0
          · subst e0
            by_cases e1 : p1 = q1
            · subst e1
              by_cases e2 : p2 = q2
              · subst e2
                go_wp2_with fail
                go_region_held3 (fun w' => (w'.cell? ⟨b1, o1 + i * 3, none⟩ = some (.int .i64 p0) ∧ w'.cell? ⟨b1, o1 + i * 3 + 1, none⟩ = some (.int .i64 p1) ∧ w'.cell? ⟨b1, o1 + i * 3 + 2, none⟩ = some (.int .i64 p2)) ∧ (w'.cell? ⟨b2, o2 + i * 3, none⟩ = some (.int .i64 p0) ∧ w'.cell? ⟨b2, o2 + i * 3 + 1, none⟩ = some (.int .i64 p1) ∧ w'.cell? ⟨b2, o2 + i * 3 + 2, none⟩ = some (.int .i64 p2))) (first | assumption | go_keep) (fail)
                go_wp2_with fail
                have ht : L1.take (i + 1) = L2.take (i + 1) := by rw [List.take_add_one, List.take_add_one, HT.out, HP.out, HQ.out]
                exact ⟨⟨i + 1, by omega, by go_num, ht, hr.drew⟩, by simp [intOf]; omega⟩
              · have n2 : (p2 == q2) = false := beq_eq_false_iff_ne.2 e2
                go_wp2_with fail
                go_region_held3 (fun w' => (w'.cell? ⟨b1, o1 + i * 3, none⟩ = some (.int .i64 p0) ∧ w'.cell? ⟨b1, o1 + i * 3 + 1, none⟩ = some (.int .i64 p1) ∧ w'.cell? ⟨b1, o1 + i * 3 + 2, none⟩ = some (.int .i64 p2)) ∧ (w'.cell? ⟨b2, o2 + i * 3, none⟩ = some (.int .i64 p0) ∧ w'.cell? ⟨b2, o2 + i * 3 + 1, none⟩ = some (.int .i64 p1) ∧ w'.cell? ⟨b2, o2 + i * 3 + 2, none⟩ = some (.int .i64 q2))) (first | assumption | go_keep) (fail)
                go_wp2_with fail
                go_ret
                exact ⟨by rw [decide_eq_false (fun h => by have := HP.out; rw [h, HQ.out] at this; simp_all)]; rfl, hr.drew⟩
            · have n1 : (p1 == q1) = false := beq_eq_false_iff_ne.2 e1
              go_wp2_with fail
              go_region_held3 (fun w' => (w'.cell? ⟨b1, o1 + i * 3, none⟩ = some (.int .i64 p0) ∧ w'.cell? ⟨b1, o1 + i * 3 + 1, none⟩ = some (.int .i64 p1) ∧ w'.cell? ⟨b1, o1 + i * 3 + 2, none⟩ = some (.int .i64 p2)) ∧ (w'.cell? ⟨b2, o2 + i * 3, none⟩ = some (.int .i64 p0) ∧ w'.cell? ⟨b2, o2 + i * 3 + 1, none⟩ = some (.int .i64 q1) ∧ w'.cell? ⟨b2, o2 + i * 3 + 2, none⟩ = some (.int .i64 q2))) (first | assumption | go_keep) (fail)
              go_wp2_with fail
              go_ret
              exact ⟨by rw [decide_eq_false (fun h => by have := HP.out; rw [h, HQ.out] at this; simp_all)]; rfl, hr.drew⟩
          · have n0 : (p0 == q0) = false := beq_eq_false_iff_ne.2 e0
            go_wp2_with fail
            go_region_held3 (fun w' => (w'.cell? ⟨b1, o1 + i * 3, none⟩ = some (.int .i64 p0) ∧ w'.cell? ⟨b1, o1 + i * 3 + 1, none⟩ = some (.int .i64 p1) ∧ w'.cell? ⟨b1, o1 + i * 3 + 2, none⟩ = some (.int .i64 p2)) ∧ (w'.cell? ⟨b2, o2 + i * 3, none⟩ = some (.int .i64 q0) ∧ w'.cell? ⟨b2, o2 + i * 3 + 1, none⟩ = some (.int .i64 q1) ∧ w'.cell? ⟨b2, o2 + i * 3 + 2, none⟩ = some (.int .i64 q2))) (first | assumption | go_keep) (fail)
            go_wp2_with fail
            go_ret
            exact ⟨by rw [decide_eq_false (fun h => by have := HP.out; rw [h, HQ.out] at this; simp_all)]; rfl, hr.drew⟩
        · obtain rfl : i = N := by omega
          go_wp2_with fail
          go_ret
          have : L1 = L2 := by
            have := HT.out
            rwa [List.take_of_length_le (by rw [HN.out]; omega), List.take_of_length_le (by rw [HN2.out]; omega)] at this
          exact ⟨by rw [decide_eq_true this]; rfl, hr⟩
  · have hne : L1 ≠ L2 := fun h => hlen (by rw [h])
    have HNE := Lib.hid hne
    clear hne g3 k3
    obtain ⟨N, hN⟩ : ∃ N, L1.length = N := ⟨_, rfl⟩
    obtain ⟨M, hM⟩ : ∃ N, L2.length = N := ⟨_, rfl⟩
    rw [hN, hM] at hlen
    rw [hN, hM]
    clear hN hM
    go_enter Try.func55, Try.ntmps55
    go_wp2_with fail
    go_ret
    exact ⟨by rw [decide_eq_false HNE.out]; rfl, Own.self w⟩
end Go.Proofs.Ytljcndcmdphmgaa
