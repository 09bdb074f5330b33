/-
  The reference's buddies: Alloc. No condition.
-/
import Derived.Test.YtljcndcmdphmgaaBrfB
namespace Go.Proofs.Ytljcndcmdphmgaa
open Go.RowKit
attribute [local go_sem ↓] Go.wp_at_zero Go.wp_at_succ
section
variable {W w : World} {m bl : List (Nat × Obj)} {rb : Nat} {L : List Pg}
def RAllocPost (W : World) (m bl : List (Nat × Obj)) (rb : Nat) (L : List Pg) (order c : Int) (e : Ending) (w' : World) : Prop :=
  ((order < 0 ∨ 10 < order ∨ c < 0 ∨ 8 < c) ∧ e = .returned (.tuple #[.int .i64 0, .int .i64 2]) ∧ Own W (bl ++ m) w') ∨
  ((0 ≤ order ∧ order ≤ 10 ∧ 0 ≤ c ∧ c ≤ 8) ∧ NoneIs L order.toNat ∧ e = .returned (.tuple #[.int .i64 0, .int .i64 7]) ∧ Own W (bl ++ m) w') ∨
  ((0 ≤ order ∧ order ≤ 10 ∧ 0 ≤ c ∧ c ≤ 8) ∧ ∃ a k bl', LeastIs L order.toNat a (order.toNat + k) ∧ e = .returned (.tuple #[.int .i64 a, .int .i64 0]) ∧ RdO rb (allocL L a order.toNat k c) bl' ∧ Own W (bl' ++ m) w')
set_option maxHeartbeats 1000000 in
theorem ralloc_bad (h : Own W (bl ++ m) w) (order c : Int) (hbad : order < 0 ∨ 10 < order ∨ c < 0 ∨ 8 < c) :
    Calls Try.prog 31 #[.pointer (some ⟨rb, 0, none⟩), .int .i64 order, .int .i64 c] w (RAllocPost W m bl rb L order c) := by
  have hcase : (order < 0) ∨ (0 ≤ order ∧ 10 < order) ∨ (0 ≤ order ∧ order ≤ 10 ∧ c < 0) ∨ (0 ≤ order ∧ order ≤ 10 ∧ 0 ≤ c ∧ 8 < c) := by omega
  have HBAD := Lib.hid hbad
  clear hbad
  rcases hcase with h1 | ⟨h1, h2⟩ | ⟨h1, h2, h3⟩ | ⟨h1, h2, h3, h4⟩
  all_goals
    go_enter Try.func31, Try.ntmps31
    go_wp2_with fail
    go_ret2
    exact .inl ⟨HBAD.out, rfl, h⟩
set_option maxRecDepth 100000 in
set_option maxHeartbeats 4000000 in
theorem ralloc_ok (h : Own W (bl ++ m) w) (hb : RdO rb L bl) {bs0 : List Pg} (hT : Tab L bs0) (hL1 : 1 ≤ L.length) (hL : L.length ≤ 1024) (order : Nat) (c : Int) (ho : order ≤ 10) (hc0 : 0 ≤ c) (hc8 : c ≤ 8) :
    Calls Try.prog 31 #[.pointer (some ⟨rb, 0, none⟩), .int .i64 order, .int .i64 c] w (RAllocPost W m bl rb L order c) := by
  have HT := Lib.hid hT
  have ho' : (order : Int) ≤ 10 := by omega
  have ho0 : (0 : Int) ≤ order := by omega
  obtain ⟨v, bs, hov, hbl⟩ := id hb
  obtain ⟨g, cap, cur, rfl, -, -⟩ := hov.form (by omega)
  obtain ⟨N, hN⟩ : ∃ N, L.length = N := ⟨_, rfl⟩
  have HN := Lib.hid hN
  rw [hN] at hL hL1 hbl
  have PV : Hid (∀ M ws, Own W (bl ++ M) ws → ws.cell? ⟨rb, 0, none⟩ = some (.slice (some ⟨g, 0, none⟩) N cap)) := fun M ws hw => by
    rw [hbl] at hw
    exact rd_cell hw
  have HB := Lib.hid hb
  clear hT hov hbl hb hN
  go_enter Try.func31, Try.ntmps31
  go_wp2_with fail
  go_loopw [8] (fun o wr => ∃ k : Nat, o = .int .i64 k ∧ k ≤ 11 ∧ order ≤ k ∧ Hid (∀ q, order ≤ q → q < k → NoOrd L q) ∧ Own W (bl ++ m) wr) (fun o _ => 11 - (intOf o).toNat)
  case atStart => exact ⟨order, rfl, by omega, Nat.le_refl _, fun q h1 h2 => by omega, h⟩
  case round =>
    obtain ⟨k, rfl, hk, hok, HQ, hr⟩ := hrel
    have hcell := PV.out _ _ hr
    by_cases hk10 : k ≤ 10
    · have hk10i : (k : Int) ≤ 10 := by omega
      go_wp2_with fail
      go_loopw [8, 9] (fun o pg wr => ∃ p : Nat, o = .int .i64 k ∧ pg = .int .i64 p ∧ p ≤ N ∧ Hid (∀ a, a < p → L[a]? ≠ some (fb k)) ∧ Own W (bl ++ m) wr) (fun _ pg _ => N - (intOf pg).toNat)
      case atStart => exact ⟨0, rfl, rfl, by omega, fun a ha => by omega, hr⟩
      case round =>
        clear hr hcell
        obtain ⟨p, rfl, rfl, hp, HP, hr⟩ := hrel
        have hcell := PV.out _ _ hr
        by_cases hlt : p < N
        · have hlti : (p : Int) < N := by omega
          by_cases hf : L[p]? = some (fb k)
          · have hfr : rfreeB L p k = true := decide_eq_true ⟨by omega, by rw [Int.toNat_natCast]; exact hf⟩
            obtain ⟨kk, rfl⟩ : ∃ kk, k = order + kk := ⟨k - order, by omega⟩
            obtain ⟨hal, hfit, -⟩ := tab_align HT.out hf (fb_kind _)
            rw [fb_size, HN.out] at hfit
            have HLe : Hid (LeastIs L order p (order + kk)) := ⟨by omega, hk10, hf, HQ.out, HP.out⟩
            have HF := Lib.hid hfit
            have HFR := Lib.hid hfr
            clear hal hfit hf hfr HQ HP
            go_wp2_with fail
            refine (rfree_spec hr HB.out (by rw [HN.out]; omega) (by rw [HN.out]; omega) p ((order + kk : Nat) : Int)).mono ?_
            rintro e w1 ⟨rfl, rfl⟩
            rw [HFR.out]
            go_wp2_with fail
            go_loopw [8] (fun o wr => ∃ j Lj bl', o = .int .i64 ((order + j : Nat) : Int) ∧ j ≤ kk ∧ Hid (bSplit p order j Lj = bSplit p order kk L) ∧ Hid (Lj.length = N) ∧ Hid (RdO rb Lj bl') ∧ Own W (bl' ++ m) wr) (fun o _ => (intOf o).toNat)
            case atStart => exact ⟨kk, L, bl, rfl, Nat.le_refl _, rfl, HN, HB, hr⟩
            case round =>
              clear hr hcell
              obtain ⟨j, Lj, bl', rfl, hj, HS, HLj, HBj, hr⟩ := hrel
              cases j with
              | zero =>
                have hfit2 : p + 2 ^ order ≤ N := by
                  have := HF.out
                  have := Nat.pow_le_pow_right (show 0 < 2 from by omega) (show order ≤ order + kk from by omega)
                  omega
                have HF2 := Lib.hid hfit2
                clear hfit2
                simp only [Nat.add_zero]
                go_wp2_with fail
                refine (rset_spec hr HBj.out p order ho (by rw [HLj.out]; exact HF2.out) (by rw [HLj.out]; exact hL) 2 c).mono ?_
                rintro e w2 ⟨bl2, rfl, hb2, h3⟩
                have HB2 := Lib.hid hb2
                clear hb2
                go_wp2_with fail
                go_ret2
                refine .inr (.inr ⟨⟨ho0, ho', hc0, hc8⟩, p, kk, bl2, HLe.out, rfl, ?_, h3⟩)
                have e : allocL L p order kk c = pgPut Lj p (2, ((order : Nat) : Int), c) := by
                  have := HS.out
                  simp only [bSplit] at this
                  unfold allocL
                  rw [this]
                rw [Int.toNat_natCast, e]
                exact HB2.out
              | succ j =>
                obtain ⟨s, hs⟩ : ∃ s, s = order + j := ⟨_, rfl⟩
                have hs1 : order + (j + 1) = s + 1 := by omega
                rw [hs1]
                have hs10 : s ≤ 10 := by omega
                have hso : (order : Int) < (s : Int) + 1 := by omega
                obtain ⟨M, hM, hMi, hM1, hM2⟩ := pow_nat hs10
                have hmin : min s 64 = s := by omega
                have hwM : IntKind.i64.wrap (M : Int) = (M : Int) := by rw [IntWalk.i64_in] <;> omega
                have hpp : p + M + 2 ^ s ≤ N := by
                  have h1 := HF.out
                  have h2 := Nat.pow_le_pow_right (show 0 < 2 from by omega) (show s + 1 ≤ order + kk by omega)
                  rw [Nat.pow_succ] at h2
                  omega
                have HPP := Lib.hid hpp
                have HM := Lib.hid hM
                have HSS := Lib.hid hs
                have hs0 : (0 : Int) ≤ s := by omega
                have hset := rset_spec hr HBj.out (p + M) s hs10 (by rw [HLj.out]; exact hpp) (by rw [HLj.out]; exact hL) 0 0
                have e1 : ((p + M : Nat) : Int) = (p : Int) + (M : Int) := by omega
                rw [e1] at hset
                have HSET := Lib.hid hset
                clear hpp hM hs hs1 hset e1
                go_wp2_with fail
                refine HSET.out.mono ?_
                rintro e w2 ⟨bl2, rfl, hb2, h3⟩
                have HB2 := Lib.hid hb2
                clear hb2
                go_wp2_with fail
                obtain rfl : s = order + j := HSS.out
                refine ⟨⟨j, _, bl2, rfl, by omega, ?_, ?_, HB2, h3⟩, by simp [intOf]; omega⟩
                · show bSplit p order j (pgPut Lj (p + M) (fb (order + j))) = bSplit p order kk L
                  rw [← HM.out]
                  exact HS.out
                · show (pgPut Lj (p + M) (0, ((order + j : Nat) : Int), 0)).length = N
                  refine (pgPut_len ?_).trans HLj.out
                  rw [HLj.out, show pgSize ((0 : Int), ((order + j : Nat) : Int), (0 : Int)) = 2 ^ (order + j) from by show 2 ^ (((order + j : Nat) : Int)).toNat = _; rw [Int.toNat_natCast]]
                  exact HPP.out
          · have hfr : rfreeB L p k = false := decide_eq_false fun h2 => hf (by have := h2.2; rw [Int.toNat_natCast] at this; exact this)
            have HFR := Lib.hid hfr
            have HNF := Lib.hid hf
            clear hf hfr
            go_wp2_with fail
            refine (rfree_spec hr HB.out (by rw [HN.out]; omega) (by rw [HN.out]; omega) p (k : Int)).mono ?_
            rintro e w1 ⟨rfl, rfl⟩
            rw [HFR.out]
            go_wp2_with fail
            refine ⟨⟨p + 1, rfl, by go_num, by omega, fun a ha => ?_, hr⟩, by simp [intOf]; omega⟩
            by_cases hap : a = p
            · subst hap; exact HNF.out
            · exact HP.out a (by omega)
        · have hlti : ¬ (p : Int) < N := by omega
          go_wp2_with fail
          refine ⟨⟨k + 1, by go_num, by omega, by omega, fun q h1 h2 => ?_, hr⟩, by simp [intOf]; omega⟩
          by_cases hqk : q = k
          · subst hqk
            intro a ha
            have := (List.getElem?_eq_some_iff.1 ha).1
            rw [HN.out] at this
            exact HP.out a (by omega) ha
          · exact HQ.out q h1 (by omega)
    · have hk10i : ¬ (k : Int) ≤ 10 := by omega
      go_wp2_with fail
      go_ret2
      exact .inr (.inl ⟨⟨ho0, ho', hc0, hc8⟩, by rw [Int.toNat_natCast]; exact fun q h1 h2 => HQ.out q h1 (by omega), rfl, hr⟩)
end
end Go.Proofs.Ytljcndcmdphmgaa
