/-
  The reference's tables: begin, Free, of tables that may be; Left, Whole of its buddies. No condition.
-/
import Derived.Test.YtljcndcmdphmgaaBrfE
import Derived.Test.YtljcndcmdphmgaaBrfS
namespace Go.Proofs.Ytljcndcmdphmgaa
open Go.RowKit
attribute [local go_sem ↓] Go.wp_at_zero Go.wp_at_succ
section
variable {W w : World} {m bs bl : List (Nat × Obj)} {v : Value} {L : List Pg} {rb : Nat}
set_option maxHeartbeats 2000000 in
theorem rbegin_ok (hs : PgS w v L) {b1 b2 : List Pg} {x : Pg} (hT : Tab L (b1 ++ x :: b2)) {p : Nat} (h1 : (lay b1).length ≤ p) (h2 : p < (lay b1).length + pgSize x) (hL : L.length ≤ 60000) :
    Calls Try.prog 105 #[v, .int .i64 p] w fun e w' => e = .returned (.int .i64 (lay b1).length) ∧ w = w' := by
  obtain ⟨A, c, rfl, g1, g2, g3⟩ := hs
  unfold maxLen at g2
  have hlen := tab_len hT
  rw [lay_append, List.length_append, lay_cons_len] at hlen
  obtain ⟨g, o, rfl, hA⟩ := g3 (by omega)
  have hat := tab_at hT
  have hrow := ((row_append b1 _ 0).1 hT.2).2.1
  have hin : ∀ i, (lay b1).length < i → i < (lay b1).length + pgSize x → L[i]? = some pgIn := fun i i1 i2 => tab_in hT i1 i2
  have hk := head_kind hrow
  obtain ⟨a, ha⟩ : ∃ a, (lay b1).length = a := ⟨_, rfl⟩
  obtain ⟨N, hN⟩ : ∃ N, L.length = N := ⟨_, rfl⟩
  obtain ⟨S, hS⟩ : ∃ S, pgSize x = S := ⟨_, rfl⟩
  rw [ha, hN, hS] at hlen
  rw [ha] at hat h1 h2 hin ⊢
  rw [hS] at h2 hin
  rw [hN] at hL g1 ⊢
  obtain ⟨x0, x1, x2⟩ := x
  simp only at hk
  have hkb : (x0 == 1) = false := beq_eq_false_iff_ne.2 (by omega)
  obtain ⟨c0, c1, c2⟩ := hA.2 a _ hat
  simp only at c0 c1 c2
  have HIN := Lib.hid hin
  have HA := Lib.hid hA
  have hpN : p < N := by omega
  clear hT g3 hat hrow hin hk ha hN hS hlen hA
  go_enter Try.func105, Try.ntmps105
  go_wp2_with fail
  go_loopw [1] (fun pg wr => ∃ q : Nat, a ≤ q ∧ q ≤ p ∧ pg = .int .i64 q ∧ w = wr) (fun pg _ => (intOf pg).toNat)
  case atStart => exact ⟨p, h1, Nat.le_refl _, rfl, rfl⟩
  case round =>
    obtain ⟨q, hq1, hq2, rfl, rfl⟩ := hrel
    have hq0 : (0 : Int) ≤ q := by omega
    have hqN : (q : Int) < N := by omega
    by_cases hqa : q = a
    · subst hqa
      by_cases hz : q = 0
      · subst hz
        go_wp2_with fail
        go_ret
        exact ⟨rfl, rfl⟩
      · have hz0 : (0 : Int) < q := by omega
        go_wp2_with fail
        go_ret
        exact ⟨rfl, rfl⟩
    · obtain ⟨d0, d1, d2⟩ := HA.out.2 q _ (HIN.out q (by omega) (by omega))
      simp only [pgIn] at d0 d1 d2
      have hz0 : (0 : Int) < q := by omega
      go_wp2_with fail
      exact ⟨⟨q - 1, by omega, by omega, by congr 1; omega, trivial⟩, by simp [intOf]; omega⟩
set_option maxHeartbeats 2000000 in
theorem rF5_ok (h : Own W m w) (hs : PgS w v L) {b0 : List Pg} (hT : Tab L b0) (h1 : 1 ≤ L.length) (h2 : L.length ≤ 1024) :
    Calls Try.prog 89 #[v] w fun e w' => e = .returned (.int .i64 (pgFree L)) ∧ Own W m w' := by
  have hfr := pgFree_tab hT h1 h2
  rw [← kinds_sum b0, show (kinds b0).count true = kcnt b0 (kinds b0).length from by unfold kcnt; rw [List.take_length], kinds_len, ← tab_len hT] at hfr
  have HS := Lib.hid hs
  obtain ⟨A, c, rfl, g1, g2, g3⟩ := hs
  unfold maxLen at g2
  obtain ⟨g, o, rfl, hA⟩ := g3 (by omega)
  obtain ⟨N, hN⟩ : ∃ N, L.length = N := ⟨_, rfl⟩
  have HT := Lib.hid hT
  have HN := Lib.hid hN
  have HA := Lib.hid hA
  have HFR := Lib.hid hfr
  have hlen := tab_len hT
  rw [hN] at h1 h2 g1 hlen HS HFR ⊢
  have HLEN := Lib.hid hlen
  clear g3 hN hT hA hfr hlen
  go_enter Try.func89, Try.ntmps89
  go_wp2_with fail
  refine (rcheck_ok (Own.self w) HS.out HT.out (by rw [HN.out]; exact h1) (by rw [HN.out]; exact h2)).mono ?_
  rintro e w1 ⟨rfl, hw1⟩
  go_wp2_with fail
  go_loopw [3, 4] (fun n iv wr => ∃ i : Nat, i ≤ N ∧ iv = .int .i64 i ∧ n = .int .i64 (kcnt b0 i) ∧ Own w [] wr) (fun _ iv _ => N - (intOf iv).toNat)
  case atStart => exact ⟨0, by omega, rfl, rfl, hw1⟩
  case round =>
    clear hw1
    obtain ⟨i, hi, rfl, rfl, hr⟩ := hrel
    have hkl := kcnt_le b0 i
    obtain ⟨K, hK⟩ : ∃ K, kcnt b0 i = K := ⟨_, rfl⟩
    have HK := Lib.hid hK
    rw [hK] at hkl ⊢
    clear hK
    by_cases hlt : i < N
    · have hlti : (i : Int) < N := by omega
      obtain ⟨b1, x, b2, hb, q1, q2⟩ := row_find b0 0 i (by omega) (by rw [← HLEN.out]; omega)
      rw [Nat.zero_add] at q1 q2
      have hT2 : Tab L (b1 ++ x :: b2) := hb ▸ HT.out
      have hkx := kinds_at b1 b2 x q1 q2
      rw [← hb] at hkx
      have hsucc := kcnt_succ hkx
      have hat := tab_at hT2
      have hbeg := rbegin_ok (HS.out.own hr) hT2 q1 q2 (by rw [HN.out]; omega)
      have hll : (lay b1).length < N := by
        have := (List.getElem?_eq_some_iff.1 hat).1
        rw [HN.out] at this
        exact this
      obtain ⟨a, ha⟩ : ∃ a, (lay b1).length = a := ⟨_, rfl⟩
      rw [ha] at hat hbeg hll
      obtain ⟨d0, d1, d2⟩ := (HA.out.own hr).2 a _ hat
      have ha0 : (0 : Int) ≤ a := by omega
      have haN : (a : Int) < N := by omega
      rw [HK.out] at hsucc
      have HSU := Lib.hid hsucc
      have HBEG := Lib.hid hbeg
      clear hat hbeg hsucc hkx hT2 hb q1 q2 ha
      obtain ⟨x0, x1, x2⟩ := x
      simp only at d0 d1 d2
      by_cases hx : x0 = 0
      · subst hx
        go_wp2_with fail
        refine HBEG.out.mono ?_
        rintro e w2 ⟨rfl, rfl⟩
        go_wp2_with fail
        exact ⟨⟨i + 1, by omega, by go_num, by have := HSU.out; simp at this; rw [this]; go_num, hr⟩, by simp [intOf]; omega⟩
      · have hxb : (x0 == 0) = false := beq_eq_false_iff_ne.2 hx
        go_wp2_with fail
        refine HBEG.out.mono ?_
        rintro e w2 ⟨rfl, rfl⟩
        go_wp2_with fail
        exact ⟨⟨i + 1, by omega, by go_num, by have := HSU.out; simp [hx] at this; rw [this], hr⟩, by simp [intOf]; omega⟩
    · obtain rfl : i = N := by omega
      have hlti : ¬ (i : Int) < i := by omega
      go_wp2_with fail
      go_ret
      exact ⟨by rw [HFR.out, HK.out]; rfl, h.of_self hr⟩
set_option maxHeartbeats 400000 in
theorem rleft_ok (h : Own W (bl ++ m) w) (hb : RdO rb L bl) {b0 : List Pg} (hT : Tab L b0) (h1 : 1 ≤ L.length) (h2 : L.length ≤ 1024) :
    Calls Try.prog 64 #[.pointer (some ⟨rb, 0, none⟩)] w fun e w' => e = .returned (.int .i64 (pgFree L)) ∧ Own W (bl ++ m) w' := by
  obtain ⟨v, bs, ho, rfl⟩ := hb
  have hc := rd_cell h
  have hr := rd_read ho h
  obtain ⟨A, cap, rfl, -, -⟩ := ho.slice
  have HT := Lib.hid hT
  clear hT
  go_enter Try.func64, Try.ntmps64
  go_wp2_with fail
  refine (rF5_ok h hr HT.out h1 h2).mono ?_
  rintro e w' ⟨rfl, h1⟩
  go_wp2_with fail
  go_ret
  exact ⟨rfl, h1⟩
set_option maxHeartbeats 2000000 in
theorem rwhole_is (h : Own W (bl ++ m) w) (hb : RdO rb L bl) (h1 : 1 ≤ L.length) (h2 : L.length ≤ 1024) :
    Calls Try.prog 65 #[.pointer (some ⟨rb, 0, none⟩)] w fun e w' => e = .returned (.bool (decide (L = freshL L.length))) ∧ Own W (bl ++ m) w' := by
  obtain ⟨v, bs, ho, hbl⟩ := hb
  obtain ⟨g, cap, cur, rfl, -, -⟩ := ho.form (by omega)
  obtain ⟨N, hN⟩ : ∃ N, L.length = N := ⟨_, rfl⟩
  have HN := Lib.hid hN
  have PV : Hid (∀ M ws, Own W (bl ++ M) ws → ws.cell? ⟨rb, 0, none⟩ = some (.slice (some ⟨g, 0, none⟩) N cap) ∧ PgS ws (.slice (some ⟨g, 0, none⟩) N cap) L) := fun M ws hw => by
    rw [hbl] at hw
    rw [hN] at ho hw
    exact ⟨rd_cell hw, rd_read ho hw⟩
  have hcell := (PV.out _ _ h).1
  rw [hN] at h1 h2 ⊢
  clear ho hbl hN
  go_enter Try.func65, Try.ntmps65
  go_wp2_with fail
  go_region_held3 (fun w' => w'.cell? ⟨rb, 0, none⟩ = some (.slice (some ⟨g, 0, none⟩) N cap)) (first | assumption | go_keep)
    (first | (go_at_call 60; refine (rfresh_spec h.drew N h2).mono ?_; rintro e w1 ⟨v1, b1, rfl, o1, k1⟩; have hcell := (PV.out _ _ k1.swap).1) |
      (go_at_call 63; refine (ref05.same_spec (PV.out _ _ k1.swap).2 (PgO.read o1 k1) (by rw [HN.out]; omega) (by rw [fresh_len]; omega)).mono ?_; rintro e w2 ⟨rfl, k2⟩; have k3 := k1.of_self k2; have hcell := (PV.out _ _ k3.swap).1))
  all_goals
    go_wp2_with fail
    go_ret
    exact ⟨rfl, k3.dropL⟩
end
end Go.Proofs.Ytljcndcmdphmgaa
