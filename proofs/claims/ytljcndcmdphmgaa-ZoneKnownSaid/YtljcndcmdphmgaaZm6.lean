/-
  Texts of this claim, joined. No condition.
-/
import Derived.Test.YtljcndcmdphmgaaZm5
/-
  The reference's buddies: Alloc. No condition.
-/
namespace Go.Proofs.Ytljcndcmdphmgaa
open Go.RowKit
attribute [local go_sem ↓] Go.wp_at_zero Go.wp_at_succ
section
variable {W w : World} {m bl : List (Nat × Obj)} {rb : Nat} {L : List Pg}
def RAllocPost (W : World) (m bl : List (Nat × Obj)) (rb : Nat) (L : List Pg) (order c : Int) (e : Ending) (w' : World) : Prop :=
  ((order < 0 ∨ 10 < order ∨ c < 0 ∨ 8 < c) ∧ e = .returned (.tuple #[.int .i64 0, .int .i64 2]) ∧ Own W (bl ++ m) w') ∨
  ((0 ≤ order ∧ order ≤ 10 ∧ 0 ≤ c ∧ c ≤ 8) ∧ NoneIs L order.toNat ∧ e = .returned (.tuple #[.int .i64 0, .int .i64 7]) ∧ Own W (bl ++ m) w') ∨
  ((0 ≤ order ∧ order ≤ 10 ∧ 0 ≤ c ∧ c ≤ 8) ∧ ∃ a k bl', LeastIs L order.toNat a (order.toNat + k) ∧ e = .returned (.tuple #[.int .i64 a, .int .i64 0]) ∧ RdO rb (allocL L a order.toNat k c) bl' ∧ Own W (bl' ++ m) w')
set_option maxHeartbeats 1000000 in
theorem ralloc_bad (h : Own W (bl ++ m) w) (order c : Int) (hbad : order < 0 ∨ 10 < order ∨ c < 0 ∨ 8 < c) :
    Calls Try.prog 31 #[.pointer (some ⟨rb, 0, none⟩), .int .i64 order, .int .i64 c] w (RAllocPost W m bl rb L order c) := by
  have hcase : (order < 0) ∨ (0 ≤ order ∧ 10 < order) ∨ (0 ≤ order ∧ order ≤ 10 ∧ c < 0) ∨ (0 ≤ order ∧ order ≤ 10 ∧ 0 ≤ c ∧ 8 < c) := by omega
  have HBAD := Lib.hid hbad
  clear hbad
  rcases hcase with h1 | ⟨h1, h2⟩ | ⟨h1, h2, h3⟩ | ⟨h1, h2, h3, h4⟩
  all_goals
    go_enter Try.func31, Try.ntmps31
    go_wp2_with fail
    go_ret2
    exact .inl ⟨HBAD.out, rfl, h⟩
set_option maxRecDepth 100000 in
set_option maxHeartbeats 4000000 in
theorem ralloc_ok (h : Own W (bl ++ m) w) (hb : RdO rb L bl) {bs0 : List Pg} (hT : Tab L bs0) (hL1 : 1 ≤ L.length) (hL : L.length ≤ 1024) (order : Nat) (c : Int) (ho : order ≤ 10) (hc0 : 0 ≤ c) (hc8 : c ≤ 8) :
    Calls Try.prog 31 #[.pointer (some ⟨rb, 0, none⟩), .int .i64 order, .int .i64 c] w (RAllocPost W m bl rb L order c) := by
  have HT := Lib.hid hT
  have ho' : (order : Int) ≤ 10 := by omega
  have ho0 : (0 : Int) ≤ order := by omega
  obtain ⟨v, bs, hov, hbl⟩ := id hb
  obtain ⟨g, cap, cur, rfl, -, -⟩ := hov.form (by omega)
  obtain ⟨N, hN⟩ : ∃ N, L.length = N := ⟨_, rfl⟩
  have HN := Lib.hid hN
  rw [hN] at hL hL1 hbl
  have PV : Hid (∀ M ws, Own W (bl ++ M) ws → ws.cell? ⟨rb, 0, none⟩ = some (.slice (some ⟨g, 0, none⟩) N cap)) := fun M ws hw => by
    rw [hbl] at hw
    exact rd_cell hw
  have HB := Lib.hid hb
  clear hT hov hbl hb hN
  go_enter Try.func31, Try.ntmps31
  go_wp2_with fail
  go_loopw [8] (fun o wr => ∃ k : Nat, o = .int .i64 k ∧ k ≤ 11 ∧ order ≤ k ∧ Hid (∀ q, order ≤ q → q < k → NoOrd L q) ∧ Own W (bl ++ m) wr) (fun o _ => 11 - (intOf o).toNat)
  case atStart => exact ⟨order, rfl, by omega, Nat.le_refl _, fun q h1 h2 => by omega, h⟩
  case round =>
    obtain ⟨k, rfl, hk, hok, HQ, hr⟩ := hrel
    have hcell := PV.out _ _ hr
    by_cases hk10 : k ≤ 10
    · have hk10i : (k : Int) ≤ 10 := by omega
      go_wp2_with fail
      go_loopw [8, 9] (fun o pg wr => ∃ p : Nat, o = .int .i64 k ∧ pg = .int .i64 p ∧ p ≤ N ∧ Hid (∀ a, a < p → L[a]? ≠ some (fb k)) ∧ Own W (bl ++ m) wr) (fun _ pg _ => N - (intOf pg).toNat)
      case atStart => exact ⟨0, rfl, rfl, by omega, fun a ha => by omega, hr⟩
      case round =>
        clear hr hcell
        obtain ⟨p, rfl, rfl, hp, HP, hr⟩ := hrel
        have hcell := PV.out _ _ hr
        by_cases hlt : p < N
        · have hlti : (p : Int) < N := by omega
          by_cases hf : L[p]? = some (fb k)
          · have hfr : rfreeB L p k = true := decide_eq_true ⟨by omega, by rw [Int.toNat_natCast]; exact hf⟩
            obtain ⟨kk, rfl⟩ : ∃ kk, k = order + kk := ⟨k - order, by omega⟩
            obtain ⟨hal, hfit, -⟩ := tab_align HT.out hf (fb_kind _)
            rw [fb_size, HN.out] at hfit
            have HLe : Hid (LeastIs L order p (order + kk)) := ⟨by omega, hk10, hf, HQ.out, HP.out⟩
            have HF := Lib.hid hfit
            have HFR := Lib.hid hfr
            clear hal hfit hf hfr HQ HP
            go_wp2_with fail
            refine (rfree_spec hr HB.out (by rw [HN.out]; omega) (by rw [HN.out]; omega) p ((order + kk : Nat) : Int)).mono ?_
            rintro e w1 ⟨rfl, rfl⟩
            rw [HFR.out]
            go_wp2_with fail
            go_loopw [8] (fun o wr => ∃ j Lj bl', o = .int .i64 ((order + j : Nat) : Int) ∧ j ≤ kk ∧ Hid (bSplit p order j Lj = bSplit p order kk L) ∧ Hid (Lj.length = N) ∧ Hid (RdO rb Lj bl') ∧ Own W (bl' ++ m) wr) (fun o _ => (intOf o).toNat)
            case atStart => exact ⟨kk, L, bl, rfl, Nat.le_refl _, rfl, HN, HB, hr⟩
            case round =>
              clear hr hcell
              obtain ⟨j, Lj, bl', rfl, hj, HS, HLj, HBj, hr⟩ := hrel
              cases j with
              | zero =>
                have hfit2 : p + 2 ^ order ≤ N := by
                  have := HF.out
                  have := Nat.pow_le_pow_right (show 0 < 2 from by omega) (show order ≤ order + kk from by omega)
                  omega
                have HF2 := Lib.hid hfit2
                clear hfit2
                simp only [Nat.add_zero]
                go_wp2_with fail
                refine (rset_spec hr HBj.out p order ho (by rw [HLj.out]; exact HF2.out) (by rw [HLj.out]; exact hL) 2 c).mono ?_
                rintro e w2 ⟨bl2, rfl, hb2, h3⟩
                have HB2 := Lib.hid hb2
                clear hb2
                go_wp2_with fail
                go_ret2
                refine .inr (.inr ⟨⟨ho0, ho', hc0, hc8⟩, p, kk, bl2, HLe.out, rfl, ?_, h3⟩)
                have e : allocL L p order kk c = pgPut Lj p (2, ((order : Nat) : Int), c) := by
                  have := HS.out
                  simp only [bSplit] at this
                  unfold allocL
                  rw [this]
                rw [Int.toNat_natCast, e]
                exact HB2.out
              | succ j =>
                obtain ⟨s, hs⟩ : ∃ s, s = order + j := ⟨_, rfl⟩
                have hs1 : order + (j + 1) = s + 1 := by omega
                rw [hs1]
                have hs10 : s ≤ 10 := by omega
                have hso : (order : Int) < (s : Int) + 1 := by omega
                obtain ⟨M, hM, hMi, hM1, hM2⟩ := pow_nat hs10
                have hmin : min s 64 = s := by omega
                have hwM : IntKind.i64.wrap (M : Int) = (M : Int) := by rw [IntWalk.i64_in] <;> omega
                have hpp : p + M + 2 ^ s ≤ N := by
                  have h1 := HF.out
                  have h2 := Nat.pow_le_pow_right (show 0 < 2 from by omega) (show s + 1 ≤ order + kk by omega)
                  rw [Nat.pow_succ] at h2
                  omega
                have HPP := Lib.hid hpp
                have HM := Lib.hid hM
                have HSS := Lib.hid hs
                have hs0 : (0 : Int) ≤ s := by omega
                have hset := rset_spec hr HBj.out (p + M) s hs10 (by rw [HLj.out]; exact hpp) (by rw [HLj.out]; exact hL) 0 0
                have e1 : ((p + M : Nat) : Int) = (p : Int) + (M : Int) := by omega
                rw [e1] at hset
                have HSET := Lib.hid hset
                clear hpp hM hs hs1 hset e1
                go_wp2_with fail
                refine HSET.out.mono ?_
                rintro e w2 ⟨bl2, rfl, hb2, h3⟩
                have HB2 := Lib.hid hb2
                clear hb2
                go_wp2_with fail
                obtain rfl : s = order + j := HSS.out
                refine ⟨⟨j, _, bl2, rfl, by omega, ?_, ?_, HB2, h3⟩, by simp [intOf]; omega⟩
                · show bSplit p order j (pgPut Lj (p + M) (fb (order + j))) = bSplit p order kk L
                  rw [← HM.out]
                  exact HS.out
                · show (pgPut Lj (p + M) (0, ((order + j : Nat) : Int), 0)).length = N
                  refine (pgPut_len ?_).trans HLj.out
                  rw [HLj.out, show pgSize ((0 : Int), ((order + j : Nat) : Int), (0 : Int)) = 2 ^ (order + j) from by show 2 ^ (((order + j : Nat) : Int)).toNat = _; rw [Int.toNat_natCast]]
                  exact HPP.out
          · have hfr : rfreeB L p k = false := decide_eq_false fun h2 => hf (by have := h2.2; rw [Int.toNat_natCast] at this; exact this)
            have HFR := Lib.hid hfr
            have HNF := Lib.hid hf
            clear hf hfr
            go_wp2_with fail
            refine (rfree_spec hr HB.out (by rw [HN.out]; omega) (by rw [HN.out]; omega) p (k : Int)).mono ?_
            rintro e w1 ⟨rfl, rfl⟩
            rw [HFR.out]
            go_wp2_with fail
            refine ⟨⟨p + 1, rfl, by go_num, by omega, fun a ha => ?_, hr⟩, by simp [intOf]; omega⟩
            by_cases hap : a = p
            · subst hap; exact HNF.out
            · exact HP.out a (by omega)
        · have hlti : ¬ (p : Int) < N := by omega
          go_wp2_with fail
          refine ⟨⟨k + 1, by go_num, by omega, by omega, fun q h1 h2 => ?_, hr⟩, by simp [intOf]; omega⟩
          by_cases hqk : q = k
          · subst hqk
            intro a ha
            have := (List.getElem?_eq_some_iff.1 ha).1
            rw [HN.out] at this
            exact HP.out a (by omega) ha
          · exact HQ.out q h1 (by omega)
    · have hk10i : ¬ (k : Int) ≤ 10 := by omega
      go_wp2_with fail
      go_ret2
      exact .inr (.inl ⟨⟨ho0, ho', hc0, hc8⟩, by rw [Int.toNat_natCast]; exact fun q h1 h2 => HQ.out q h1 (by omega), rfl, hr⟩)
end
end Go.Proofs.Ytljcndcmdphmgaa

/-
  The reference's buddies: Free, Frees. No condition.
-/
namespace Go.Proofs.Ytljcndcmdphmgaa
open Go.RowKit
attribute [local go_sem ↓] Go.wp_at_zero Go.wp_at_succ
/-- the places of the reference's free blocks, below n -/
def rfreesTo (L : List Pg) (o : Int) (n : Nat) : List Int := ((List.range n).filter fun a => rfreeB L ((a : Nat) : Int) o).map fun a => ((a : Nat) : Int)
theorem rfreesTo_len (L : List Pg) (o : Int) (n : Nat) : (rfreesTo L o n).length ≤ n := by
  unfold rfreesTo
  rw [List.length_map]
  exact Nat.le_trans (List.length_filter_le _ _) (by simp)
theorem rfreesTo_succ (L : List Pg) (o : Int) (n : Nat) : rfreesTo L o (n + 1) = rfreesTo L o n ++ if rfreeB L (n : Int) o = true then [(n : Int)] else [] := by
  unfold rfreesTo
  rw [List.range_succ, List.filter_append, List.map_append]
  cases h : rfreeB L (n : Int) o <;> simp [h]
theorem rfreesTo_ok (L : List Pg) (o n : Nat) : rfreesTo L (o : Int) n = freesTo L o n := by
  unfold rfreesTo freesTo
  congr 1
  apply List.filter_congr
  intro a _
  unfold rfreeB
  rw [Int.toNat_natCast]
  exact decide_eq_decide.2 (by simp [fb])
theorem rfreesTo_bad {L bs : List Pg} (hT : Tab L bs) (o : Int) (ho : o < 0 ∨ 10 < o) (n : Nat) : rfreesTo L o n = [] := by
  unfold rfreesTo
  rw [List.map_eq_nil_iff, List.filter_eq_nil_iff]
  intro a _ hf
  have h := of_decide_eq_true hf
  rw [Int.toNat_natCast] at h
  have := pgHead_order (tab_align hT h.2 (by simp)).2.2
  simp only at this
  omega
section
variable {W w : World} {m bl : List (Nat × Obj)} {rb : Nat} {L : List Pg}
set_option maxRecDepth 100000 in
set_option maxHeartbeats 4000000 in
theorem rFree_bad (h : Own W (bl ++ m) w) (hb : RdO rb L bl) (hL1 : 1 ≤ L.length) (page : Int) (hbad : ∀ p : Pg, 0 ≤ page → L[page.toNat]? = some p → p.1 ≠ 2) :
    Calls Try.prog 33 #[.pointer (some ⟨rb, 0, none⟩), .int .i64 page] w fun e w' => e = .returned (.int .i64 60) ∧ Own W (bl ++ m) w' := by
  obtain ⟨v, bs, ho, rfl⟩ := hb
  obtain ⟨g, cap, cur, rfl, -, -⟩ := ho.form (by omega)
  have hc := rd_cell h
  obtain ⟨N, hN⟩ : ∃ N, L.length = N := ⟨_, rfl⟩
  rw [hN] at hc
  by_cases h1 : page < 0
  · clear hN hbad ho
    go_enter Try.func33, Try.ntmps33
    go_wp2_with fail
    go_ret
    exact ⟨rfl, h⟩
  · have h1' : 0 ≤ page := by omega
    by_cases h2 : (N : Int) ≤ page
    · clear hN hbad h1 ho
      go_enter Try.func33, Try.ntmps33
      go_wp2_with fail
      go_ret
      exact ⟨rfl, h⟩
    · obtain ⟨p, rfl⟩ : ∃ p : Nat, page = p := ⟨page.toNat, by omega⟩
      obtain ⟨⟨p0, p1, p2⟩, hp⟩ : ∃ x, L[p]? = some x := ⟨_, List.getElem?_eq_getElem (by omega)⟩
      have hk := hbad _ h1' (by rw [Int.toNat_natCast]; exact hp)
      simp only at hk
      have hkb : (p0 != 2) = true := bne_iff_ne.2 hk
      obtain ⟨a0, a1, a2, -, -, -⟩ := pg_cells ho (rd_own h) rfl rfl hp
      simp only at a0 a1 a2
      have hpN : (p : Int) < N := by omega
      clear hN hbad h1 h2 hp hk ho
      go_enter Try.func33, Try.ntmps33
      go_wp2_with fail
      go_ret
      exact ⟨rfl, h⟩
set_option maxRecDepth 100000 in
set_option maxHeartbeats 4000000 in
theorem rFree_ok (h : Own W (bl ++ m) w) (hb : RdO rb L bl) {bs0 : List Pg} (hT : Tab L bs0) (hL1 : 1 ≤ L.length) (hL : L.length ≤ 1024) (page o0 : Nat) (c0 : Int) (hp : L[page]? = some (2, (o0 : Int), c0)) :
    Calls Try.prog 33 #[.pointer (some ⟨rb, 0, none⟩), .int .i64 page] w fun e w' => ∃ bl', e = .returned (.int .i64 0) ∧ RdO rb (freeL L page o0) bl' ∧ Own W (bl' ++ m) w' := by
  have HT := Lib.hid hT
  obtain ⟨v, bs, ho, hbl⟩ := id hb
  obtain ⟨g, cap, cur, rfl, -, -⟩ := ho.form (by omega)
  obtain ⟨hal, hfit, hhd⟩ := tab_align HT.out hp (by simp)
  have hsz : pgSize ((2 : Int), (o0 : Int), c0) = 2 ^ o0 := by simp [pgSize]
  rw [hsz] at hal hfit
  have ho10 := pgHead_order hhd
  simp only at ho10
  have ho10 : o0 ≤ 10 := by omega
  obtain ⟨N, hN⟩ : ∃ N, L.length = N := ⟨_, rfl⟩
  have HN := Lib.hid hN
  have HB := Lib.hid hb
  have h' := h
  rw [hbl] at h'
  obtain ⟨a0, a1, a2, -, -, -⟩ := pg_cells ho (rd_own h') rfl rfl hp
  simp only at a0 a1 a2
  have hc := rd_cell h'
  rw [hN] at hc hfit hL hL1
  have HAL := Lib.hid hal
  have HF := Lib.hid hfit
  have hpN : (page : Int) < N := by have := Nat.two_pow_pos o0; omega
  have hd1 : decide ((page : Int) < 0) = false := decide_eq_false (by omega)
  have hd2 : decide (N ≤ page) = false := decide_eq_false (by omega)
  clear hN hal hfit hp hT hsz hhd hbl h' ho hb
  go_enter Try.func33, Try.ntmps33
  go_wp2_with fail
  go_loopw [1, 5, 6] (fun pg ov _ wr => ∃ a o : Nat, pg = .int .i64 a ∧ ov = .int .i64 o ∧ o ≤ 10 ∧ a ≤ N ∧ Hid (bJoin L (10 - o) a o = bJoin L (10 - o0) page o0) ∧ Hid (a % 2 ^ o = 0) ∧ Hid (a + 2 ^ o ≤ N) ∧ Own W (bl ++ m) wr) (fun _ ov _ _ => 10 - (intOf ov).toNat)
  case atStart => exact ⟨page, o0, rfl, rfl, ho10, by omega, rfl, HAL, HF, h⟩
  case round =>
    clear h hc a0 a1 a2
    obtain ⟨a, o, rfl, rfl, ho, haN, HJ, HA, HAF, hr⟩ := hrel
    have fin : Hid (∀ (a o : Nat) (wr : World), o ≤ 10 → (a, o) = bJoin L (10 - o0) page o0 → a + 2 ^ o ≤ N → Own W (bl ++ m) wr →
        Calls Try.prog 62 #[.pointer (some ⟨rb, 0, none⟩), .int .i64 a, .agg #[.int .i64 0, .int .i64 o, .int .i64 0]] wr fun e w' => ∃ bl', e = .returned (.tuple #[]) ∧ RdO rb (freeL L page o0) bl' ∧ Own W (bl' ++ m) w') := by
      intro a o wr ho he hf hr
      have := rset_spec hr HB.out a o ho (by rw [HN.out]; exact hf) (by rw [HN.out]; exact hL) 0 0
      unfold freeL
      rw [← he]
      exact this
    by_cases hlt : o < 10
    · have hlti : (o : Int) < 10 := by omega
      obtain ⟨M, hM, hMi, hM1, hM2⟩ := pow_nat ho
      have hmin : min o 64 = o := by omega
      have hw1 : IntKind.i64.wrap (M : Int) = (M : Int) := by rw [IntWalk.i64_in] <;> omega
      have hw2 : IntKind.i64.wrap (2 * (M : Int)) = 2 * (M : Int) := by rw [IntWalk.i64_in] <;> omega
      have ha0 : (0 : Int) ≤ a := by omega
      have ho0' : (0 : Int) ≤ o := by omega
      have hmodi : (a : Int) % (2 * (M : Int)) = ((a % (2 * M) : Nat) : Int) := by push_cast; rfl
      obtain ⟨k, hk⟩ : ∃ k, 10 - o = k + 1 := ⟨9 - o, by omega⟩
      have hj := HJ.out
      rw [hk] at hj
      rw [show bJoin L (k + 1) a o = if L[other a o]? = some (fb o) then bJoin L k (min a (other a o)) (o + 1) else (a, o) from rfl] at hj
      -- where the other one lies
      obtain ⟨q, hq⟩ : ∃ q, other a o = q := ⟨_, rfl⟩
      have HQ := Lib.hid hq
      have hoth : (((a : Int) % (2 * (M : Int)) != 0) = false ∧ q = a + M) ∨ (((a : Int) % (2 * (M : Int)) != 0) = true ∧ a = q + M) := by
        rw [hmodi]
        rcases other_cases a o HA.out with ⟨g1, g2, -⟩ | ⟨g1, g2, g3, -⟩
        · rw [hM] at g1 g2
          exact .inl ⟨by simp; omega, by omega⟩
        · rw [hM] at g1 g2 g3
          exact .inr ⟨by simp; omega, by omega⟩
      have hqx : rfreeB L (q : Int) (o : Int) = decide (L[q]? = some (fb o)) := by
        unfold rfreeB
        rw [Int.toNat_natCast]
        exact decide_eq_decide.2 (by simp [fb])
      have HQX := Lib.hid hqx
      have HMM := Lib.hid hM
      by_cases hf : L[other a o]? = some (fb o)
      · rw [if_pos hf, show k = 10 - (o + 1) from by omega] at hj
        obtain ⟨v1, v2, -⟩ := tab_align HT.out hf (fb_kind o)
        rw [fb_size, HN.out] at v2
        have hp2 : 2 ^ (o + 1) = 2 ^ o + 2 ^ o := by rw [Nat.pow_succ]; omega
        have hmm : (min a (other a o)) % 2 ^ (o + 1) = 0 ∧ min a (other a o) + 2 ^ (o + 1) ≤ N := by
          rcases other_cases a o HA.out with ⟨g1, g2, g3⟩ | ⟨g1, g2, g3, g4, g5⟩
          · rw [g3]
            rw [g2] at v2
            exact ⟨by rw [hp2, show 2 ^ o + 2 ^ o = 2 * 2 ^ o from by omega]; exact g1, by omega⟩
          · rw [g4]
            have := HAF.out
            exact ⟨by rw [hp2, show 2 ^ o + 2 ^ o = 2 * 2 ^ o from by omega]; exact g5, by omega⟩
        rw [hq] at hj hmm hf v2
        have HJ2 := Lib.hid hj
        have HM1 := Lib.hid hmm.1
        have HM2 := Lib.hid hmm.2
        have HFB := Lib.hid hf
        have hqN : q < N := by have := Nat.two_pow_pos o; omega
        have hmin2 : min (a : Int) (q : Int) = ((min a q : Nat) : Int) := by omega
        have HMIN := Lib.hid hmin2
        clear hj hf hmm v1 v2 hp2 hk hmin2 HJ hM hq hqx hmodi
        rcases hoth with ⟨hb0, hqe⟩ | ⟨hb0, hqe⟩
        · have hqi : (q : Int) = (a : Int) + M := by omega
          have HQI := Lib.hid hqi
          have hmnq : (min a q : Nat) = a := by omega
          have hnq : ¬ q < a := by omega
          have j2 := HJ2.out
          have m1 := HM1.out
          have m2 := HM2.out
          rw [hmnq] at j2 m1 m2
          have J2 := Lib.hid j2
          have M1 := Lib.hid m1
          have M2 := Lib.hid m2
          clear hqi hqe hmnq j2 m1 m2 HJ2 HM1 HM2
          go_wp2_with fail
          rw [← HQI.out]
          refine (rfree_spec hr HB.out (by rw [HN.out]; omega) (by rw [HN.out]; omega) (q : Int) (o : Int)).mono ?_
          rintro e w1 ⟨rfl, rfl⟩
          rw [HQX.out, decide_eq_true HFB.out]
          go_wp2_with fail
          exact ⟨⟨a, o + 1, rfl, by go_num, by omega, by omega, J2, M1, M2, hr⟩, by simp [intOf]; omega⟩
        · have hqi : (q : Int) = (a : Int) - M := by omega
          have HQI := Lib.hid hqi
          have hmnq : (min a q : Nat) = q := by omega
          have hnq : q < a := by omega
          have j2 := HJ2.out
          have m1 := HM1.out
          have m2 := HM2.out
          rw [hmnq] at j2 m1 m2
          have J2 := Lib.hid j2
          have M1 := Lib.hid m1
          have M2 := Lib.hid m2
          have haM : (M : Int) ≤ a := by omega
          clear hqi hqe hmnq j2 m1 m2 HJ2 HM1 HM2
          go_wp2_with fail
          rw [← HQI.out]
          refine (rfree_spec hr HB.out (by rw [HN.out]; omega) (by rw [HN.out]; omega) (q : Int) (o : Int)).mono ?_
          rintro e w1 ⟨rfl, rfl⟩
          rw [HQX.out, decide_eq_true HFB.out]
          go_wp2_with fail
          exact ⟨⟨q, o + 1, rfl, by go_num, by omega, by omega, J2, M1, M2, hr⟩, by simp [intOf]; omega⟩
      · rw [if_neg hf] at hj
        rw [hq] at hf
        have HJ2 := Lib.hid hj
        have HNF := Lib.hid hf
        clear hj hf hk HJ hM hq hqx hmodi
        rcases hoth with ⟨hb0, hqe⟩ | ⟨hb0, hqe⟩
        · have hqi : (q : Int) = (a : Int) + M := by omega
          have HQI := Lib.hid hqi
          clear hqi hqe
          go_wp2_with fail
          rw [← HQI.out]
          refine (rfree_spec hr HB.out (by rw [HN.out]; omega) (by rw [HN.out]; omega) (q : Int) (o : Int)).mono ?_
          rintro e w1 ⟨rfl, rfl⟩
          rw [HQX.out, decide_eq_false HNF.out]
          go_wp2_with fail
          refine (fin.out a o _ ho HJ2.out HAF.out hr).mono ?_
          rintro e w4 ⟨bl4, rfl, hb4, h4⟩
          go_wp2_with fail
          go_ret
          exact ⟨bl4, rfl, hb4, h4⟩
        · have hqi : (q : Int) = (a : Int) - M := by omega
          have HQI := Lib.hid hqi
          have haM : (M : Int) ≤ a := by omega
          clear hqi hqe
          go_wp2_with fail
          rw [← HQI.out]
          refine (rfree_spec hr HB.out (by rw [HN.out]; omega) (by rw [HN.out]; omega) (q : Int) (o : Int)).mono ?_
          rintro e w1 ⟨rfl, rfl⟩
          rw [HQX.out, decide_eq_false HNF.out]
          go_wp2_with fail
          refine (fin.out a o _ ho HJ2.out HAF.out hr).mono ?_
          rintro e w4 ⟨bl4, rfl, hb4, h4⟩
          go_wp2_with fail
          go_ret
          exact ⟨bl4, rfl, hb4, h4⟩
    · obtain rfl : o = 10 := by omega
      go_wp2_with fail
      refine (fin.out a 10 wr ho HJ.out HAF.out hr).mono ?_
      rintro e w4 ⟨bl4, rfl, hb4, h4⟩
      go_wp2_with fail
      go_ret
      exact ⟨bl4, rfl, hb4, h4⟩
set_option maxHeartbeats 2000000 in
theorem rfrees_spec (h : Own W (bl ++ m) w) (hb : RdO rb L bl) (hL1 : 1 ≤ L.length) (hL : L.length ≤ 1024) (o : Int) :
    Calls Try.prog 66 #[.pointer (some ⟨rb, 0, none⟩), .int .i64 o] w fun e w' => ∃ v bs, e = .returned v ∧ IntsOwn true v (rfreesTo L o L.length) bs ∧ Own W (bs ++ (bl ++ m)) w' := by
  obtain ⟨v, bs, ho, hbl⟩ := id hb
  obtain ⟨g, cap, cur, rfl, -, -⟩ := ho.form (by omega)
  obtain ⟨N, hN⟩ : ∃ N, L.length = N := ⟨_, rfl⟩
  have HN := Lib.hid hN
  rw [hN] at hL hL1 hbl ⊢
  have PV : Hid (∀ M ws, Own W (bl ++ M) ws → ws.cell? ⟨rb, 0, none⟩ = some (.slice (some ⟨g, 0, none⟩) N cap)) := fun M ws hw => by
    rw [hbl] at hw
    exact rd_cell hw
  have HB := Lib.hid hb
  clear ho hbl hb hN
  go_enter Try.func66, Try.ntmps66
  go_wp2_with fail
  go_loopw [5, 6] (fun out pg wr => ∃ (p : Nat) (bs : List (Nat × Obj)), pg = .int .i64 p ∧ p ≤ N ∧ Hid (IntsOwn true out (rfreesTo L o p) bs) ∧ Own W (bs ++ (bl ++ m)) wr) (fun _ pg _ => N - (intOf pg).toNat)
  case atStart => exact ⟨0, [], rfl, by omega, SlO.nil _ _ _, h⟩
  case round =>
    clear h
    obtain ⟨p, bs, rfl, hp, HO, hr⟩ := hrel
    have hcell := PV.out _ _ hr.swap
    obtain ⟨A1, c1, hv, -, -⟩ := HO.out.slice
    subst hv
    have hlen := rfreesTo_len L o p
    have hsucc := rfreesTo_succ L o p
    have HS := Lib.hid hsucc
    obtain ⟨z, hz⟩ : ∃ z, (rfreesTo L o p).length = z := ⟨_, rfl⟩
    have o9 : IntsOwn true (.slice A1 z c1) (rfreesTo L o p) bs := by have := HO.out; rwa [hz] at this
    have HO9 := Lib.hid o9
    have HZ := Lib.hid hz
    rw [hz] at hlen ⊢
    clear hsucc hz HO o9
    by_cases hlt : p < N
    · have hlti : (p : Int) < N := by omega
      cases hf : rfreeB L (p : Int) o with
      | true =>
        have HF := Lib.hid hf
        clear hf
        go_wp2_with fail
        refine (rfree_spec hr.swap HB.out (by rw [HN.out]; omega) (by rw [HN.out]; omega) p o).mono ?_
        rintro e w1 ⟨rfl, rfl⟩
        rw [HF.out]
        have h4 := hr.alloc (.cells #[.int .i64 p] 3)
        have hsrc := src_one wr (p : Int)
        have HSRC := Lib.hid hsrc
        clear hsrc
        go_wp2_with (at_builtin; refine wpList_app_ints rfl _ _ rfl rfl rfl HO9.out h4 HSRC.out (by rw [HZ.out]; simp; omega) ?_; intro v' w' bs' k1 k2 k3; have K1 := Lib.hid k1; clear k1 k3)
        refine ⟨⟨p + 1, bs', by go_num, by omega, ?_, k2⟩, by simp [intOf]; omega⟩
        show IntsOwn true v' (rfreesTo L o (p + 1)) bs'
        rw [HS.out, if_pos HF.out]
        exact K1.out
      | false =>
        have HF := Lib.hid hf
        clear hf
        go_wp2_with fail
        refine (rfree_spec hr.swap HB.out (by rw [HN.out]; omega) (by rw [HN.out]; omega) p o).mono ?_
        rintro e w1 ⟨rfl, rfl⟩
        rw [HF.out]
        go_wp2_with fail
        refine ⟨⟨p + 1, bs, by go_num, by omega, ?_, hr⟩, by simp [intOf]; omega⟩
        show IntsOwn true _ (rfreesTo L o (p + 1)) bs
        rw [HS.out, if_neg (by rw [HF.out]; simp), List.append_nil]
        exact HO9.out
    · obtain rfl : p = N := by omega
      have hlti : ¬ (p : Int) < p := by omega
      go_wp2_with fail
      go_ret
      exact ⟨_, rfl, bs, HO9.out, hr⟩
end
end Go.Proofs.Ytljcndcmdphmgaa

/-
  The reference's tables: Check, begin, Free, Same, of tables that may be; Left, Whole of its buddies. No condition.
-/
namespace Go.Proofs.Ytljcndcmdphmgaa
open Go.RowKit
attribute [local go_sem ↓] Go.wp_at_zero Go.wp_at_succ
theorem tab_in {L b1 b2 : List Pg} {p : Pg} (h : Tab L (b1 ++ p :: b2)) {i : Nat} (h1 : (lay b1).length < i) (h2 : i < (lay b1).length + pgSize p) : L[i]? = some pgIn := by
  have e : L = lay b1 ++ (lay [p] ++ lay b2) := by rw [h.1, ← lay_append, ← lay_append]; rfl
  obtain ⟨j, hj⟩ : ∃ j, i - (lay b1).length = j + 1 := ⟨i - (lay b1).length - 1, by omega⟩
  rw [e, List.getElem?_append_right (by omega), List.getElem?_append_left (by rw [lay_one_len]; omega), lay_one, hj, List.getElem?_cons_succ, List.getElem?_replicate, if_pos (by omega)]
/-- which pages are in free blocks -/
def kinds (bs : List Pg) : List Bool := bs.flatMap fun p => List.replicate (pgSize p) (decide (p.1 = 0))
theorem kinds_len : ∀ bs : List Pg, (kinds bs).length = (lay bs).length
  | [] => rfl
  | p :: bs => by
    have h1 := kinds_len bs
    have h2 := lay_cons_len p bs
    unfold kinds at h1 ⊢
    simp only [List.flatMap_cons, List.length_append, List.length_replicate]
    omega
theorem kinds_sum : ∀ bs : List Pg, (((kinds bs).count true : Nat) : Int) = freeSum bs
  | [] => rfl
  | p :: bs => by
    have h1 := kinds_sum bs
    unfold kinds at h1 ⊢
    simp only [List.flatMap_cons, List.count_append, List.count_replicate, freeSum]
    push_cast
    rw [h1]
    by_cases hp : p.1 = 0 <;> simp [hp]
theorem kinds_at (b1 b2 : List Pg) (p : Pg) {i : Nat} (h1 : (lay b1).length ≤ i) (h2 : i < (lay b1).length + pgSize p) : (kinds (b1 ++ p :: b2))[i]? = some (decide (p.1 = 0)) := by
  have e : kinds (b1 ++ p :: b2) = kinds b1 ++ (List.replicate (pgSize p) (decide (p.1 = 0)) ++ kinds b2) := by simp [kinds]
  have := kinds_len b1
  rw [e, List.getElem?_append_right (by omega), List.getElem?_append_left (by simp; omega), List.getElem?_replicate, if_pos (by omega)]
def kcnt (bs : List Pg) (i : Nat) : Nat := ((kinds bs).take i).count true
theorem kcnt_succ {bs : List Pg} {i : Nat} {b : Bool} (h : (kinds bs)[i]? = some b) : kcnt bs (i + 1) = kcnt bs i + if b = true then 1 else 0 := by
  obtain ⟨hi, he⟩ := List.getElem?_eq_some_iff.1 h
  unfold kcnt
  rw [List.take_succ_eq_append_getElem hi, List.count_append, he]
  cases b <;> simp
theorem kcnt_le (bs : List Pg) (i : Nat) : kcnt bs i ≤ i := by
  unfold kcnt
  exact Nat.le_trans List.count_le_length (by simp; omega)
section
variable {W w : World} {m bs bl : List (Nat × Obj)} {v : Value} {L : List Pg} {rb : Nat}
set_option maxHeartbeats 1000000 in
theorem rhead_yes (h : Own W m w) (p0 p1 p2 : Int) (hp : pgHead (p0, p1, p2) = true) :
    Calls Try.prog 111 #[.agg #[.int .i64 p0, .int .i64 p1, .int .i64 p2]] w fun e w' => e = .returned (.bool true) ∧ Own W m w' := by
  have hp := of_decide_eq_true hp
  simp only at hp
  obtain ⟨h1, h2, ⟨rfl, rfl⟩ | ⟨rfl, h3, h4⟩⟩ := hp
  all_goals
    go_enter Try.func111, Try.ntmps111
    go_wp2_with fail
    go_ret
    exact ⟨rfl, h.alloc _⟩
set_option maxRecDepth 100000 in
set_option maxHeartbeats 4000000 in
theorem rcheck_ok (h : Own W m w) (hs : PgS w v L) {b0 : List Pg} (hT : Tab L b0) (h1 : 1 ≤ L.length) (h2 : L.length ≤ 1024) :
    Calls Try.prog 104 #[v] w fun e w' => e = .returned (.int .i64 0) ∧ Own W m w' := by
  obtain ⟨A, c, rfl, g1, g2, g3⟩ := hs
  unfold maxLen at g2
  obtain ⟨g, o, rfl, hA⟩ := g3 (by omega)
  have hlen := tab_len hT
  obtain ⟨N, hN⟩ : ∃ N, L.length = N := ⟨_, rfl⟩
  have HT := Lib.hid hT
  have HN := Lib.hid hN
  have HA := Lib.hid hA
  rw [hN] at h1 h2 g1 hlen ⊢
  have HLEN := Lib.hid hlen
  clear g3 hN hT hA hlen
  go_enter Try.func104, Try.ntmps104
  go_wp2_with fail
  go_loopw [3] (fun at_ wr => ∃ b1 b2, b0 = b1 ++ b2 ∧ at_ = .int .i64 (lay b1).length ∧ (lay b1).length ≤ N ∧ Own w [] wr) (fun at_ _ => N - (intOf at_).toNat)
  case atStart => exact ⟨[], b0, rfl, rfl, by simp [lay], Own.self w⟩
  case round =>
    obtain ⟨b1, b2, rfl, rfl, hle, hrw⟩ := hrel
    obtain ⟨a, ha⟩ : ∃ a, (lay b1).length = a := ⟨_, rfl⟩
    have HAA := Lib.hid ha
    rw [ha] at hle ⊢
    clear ha
    cases b2 with
    | nil =>
      have : a = N := by rw [← HAA.out, HLEN.out, List.append_nil]
      subst this
      have hlt : ¬ (a : Int) < a := by omega
      go_wp2_with fail
      go_ret
      exact ⟨rfl, h.of_self hrw⟩
    | cons p b2 =>
      have hrow := (row_append b1 _ 0).1 HT.out.2
      rw [Nat.zero_add, HAA.out] at hrow
      obtain ⟨-, q1, q2, -⟩ := hrow
      have hll : (lay (b1 ++ p :: b2)).length = (lay b1).length + (pgSize p + (lay b2).length) := by rw [lay_append, List.length_append, lay_cons_len]
      have hfit : a + pgSize p ≤ N := by rw [HLEN.out, hll, HAA.out]; omega
      have hat := tab_at HT.out
      rw [HAA.out] at hat
      have hin : ∀ i, a < i → i < a + pgSize p → L[i]? = some pgIn := fun i i1 i2 => tab_in HT.out (by rw [HAA.out]; exact i1) (by rw [HAA.out]; exact i2)
      obtain ⟨p0, p1, p2⟩ := p
      have ho := pgHead_order q1
      simp only at ho
      obtain ⟨s, rfl⟩ : ∃ s : Nat, p1 = s := ⟨p1.toNat, by omega⟩
      have hs10 : s ≤ 10 := by omega
      obtain ⟨M, hM, hMi, hM1, hM2⟩ := pow_nat hs10
      have HM := Lib.hid hM
      have hsz : pgSize (p0, ((s : Nat) : Int), p2) = M := by simp [pgSize, hM]
      rw [hsz] at q2 hfit hin
      have hmin : min s 64 = s := by omega
      have hwM : IntKind.i64.wrap (M : Int) = (M : Int) := by rw [IntWalk.i64_in] <;> omega
      have hs0 : (0 : Int) ≤ s := by omega
      have hmod : ((a : Int) % (M : Int) != 0) = false := by
        have : (a : Int) % (M : Int) = ((a % M : Nat) : Int) := by push_cast; rfl
        rw [this, q2]; rfl
      have hrd := HA.out.own hrw
      obtain ⟨c0, c1, c2⟩ := hrd.2 a _ hat
      simp only at c0 c1 c2
      have hlt : a < N := by omega
      have hlti : (a : Int) < N := by omega
      have ha0 : (0 : Int) ≤ a := by omega
      have hfi : (a : Int) + M ≤ N := by omega
      have hbox := hrw.new (.cells #[.int .i64 p0, .int .i64 s, .int .i64 p2] 24)
      have HBOX := Lib.hid hbox
      have HQ1 := Lib.hid q1
      have HIN := Lib.hid hin
      clear hin q1 q2 hat hM hsz hll hbox hrd
      go_wp2_with fail
      refine (rhead_yes HBOX.out p0 s p2 HQ1.out).mono ?_
      rintro e w5 ⟨rfl, h5⟩
      have x1 := h5.cell List.mem_cons_self 1
      simp at x1
      clear HBOX c0 c1 c2 hrw
      go_wp2_with fail
      go_loopw [5] (fun iv wr2 => ∃ i : Nat, a + 1 ≤ i ∧ i ≤ a + M ∧ iv = .int .i64 i ∧ Own w [(wr.heap.size, .cells #[.int .i64 p0, .int .i64 s, .int .i64 p2] 24)] wr2) (fun iv _ => a + M - (intOf iv).toNat)
      case atStart => exact ⟨a + 1, by omega, by omega, by go_num, h5⟩
      case round =>
        clear h5 x1
        obtain ⟨i, hi1, hi2, rfl, h5⟩ := hrel
        have x1 := h5.cell List.mem_cons_self 1
        simp at x1
        have hwi : IntKind.i64.wrap ((a : Int) + M) = (a : Int) + M := by rw [IntWalk.i64_in] <;> omega
        by_cases hil : i < a + M
        · have hili : (i : Int) < (a : Int) + M := by omega
          obtain ⟨c0, c1, c2⟩ := (HA.out.own h5).2 i _ (HIN.out i (by omega) hil)
          simp only [pgIn] at c0 c1 c2
          have hi0 : (0 : Int) ≤ i := by omega
          have hiN : (i : Int) < N := by omega
          go_wp2_with fail
          exact ⟨⟨i + 1, by omega, by omega, by go_num, h5⟩, by simp [intOf]; omega⟩
        · have hili : ¬ (i : Int) < (a : Int) + M := by omega
          go_wp2_with fail
          have e : ((a + M : Nat) : Int) = ((lay (b1 ++ [(p0, ((s : Nat) : Int), p2)])).length : Int) := by
            rw [lay_append, List.length_append, HAA.out, lay_one_len]
            have : pgSize (p0, ((s : Nat) : Int), p2) = M := by have := HM.out; simp [pgSize, this]
            rw [this]
          refine ⟨⟨b1 ++ [(p0, ((s : Nat) : Int), p2)], b2, by simp, by rw [← e]; go_num, by omega, h5.skip⟩, by simp [intOf]; omega⟩
end
end Go.Proofs.Ytljcndcmdphmgaa

/-
  Contract: wainscotref05.Same: are two slices the same pages?
-/
namespace Go.Proofs.Ytljcndcmdphmgaa.ref05
open Go.RowKit
attribute [local go_sem ↓] Go.wp_at_zero Go.wp_at_succ
set_option maxHeartbeats 2000000 in
theorem same_spec {w : World} {v1 v2 : Value} {L1 L2 : List Pg} (h1 : PgS w v1 L1) (h2 : PgS w v2 L2) (hl : L1.length ≤ 60000) (_hl2 : L2.length ≤ 60000) :
    Calls Try.prog 63 #[v1, v2] w fun e w' => e = .returned (.bool (decide (L1 = L2))) ∧ Own w [] w' := by
  obtain ⟨A1, c1, rfl, g1, g2, g3⟩ := h1
  obtain ⟨A2, c2, rfl, k1, k2, k3⟩ := h2
  by_cases hlen : L1.length = L2.length
  · obtain ⟨N, hN⟩ : ∃ N, L1.length = N := ⟨_, rfl⟩
    have hN2 : L2.length = N := by omega
    have HN := Lib.hid hN
    have HN2 := Lib.hid hN2
    rw [hN] at g1 g3 hl ⊢
    rw [hN2] at k1 k3 ⊢
    clear hN hN2 hlen _hl2
    by_cases h0 : N = 0
    · subst h0
      have e1 := List.eq_nil_of_length_eq_zero HN.out
      have e2 := List.eq_nil_of_length_eq_zero HN2.out
      subst e1 e2
      go_enter Try.func63, Try.ntmps63
      go_wp2_with fail
      go_loop [5] (fun i => i = .int .i64 0) (fun _ => 0)
      case atStart => exact rfl
      case round =>
        subst hrel
        go_wp2_with fail
        go_ret
        exact ⟨rfl, Own.self w⟩
    · obtain ⟨b1, o1, rfl, m1⟩ := g3 (by omega)
      obtain ⟨b2, o2, rfl, m2⟩ := k3 (by omega)
      clear g3 k3
      unfold maxLen at g2 k2
      go_enter Try.func63, Try.ntmps63
      go_wp2_with fail
      go_loopw [5] (fun j wr => ∃ i : Nat, i ≤ N ∧ j = .int .i64 i ∧ Hid (L1.take i = L2.take i) ∧ Own w [] wr) (fun j _ => N - (intOf j).toNat)
      case atStart => exact ⟨0, by omega, rfl, rfl, Own.self w⟩
      case round =>
        obtain ⟨i, hi, rfl, HT, hr⟩ := hrel
        by_cases hlt : i < N
        · obtain ⟨⟨p0, p1, p2⟩, hp⟩ : ∃ p, L1[i]? = some p := ⟨_, List.getElem?_eq_getElem (by rw [HN.out]; exact hlt)⟩
          obtain ⟨⟨q0, q1, q2⟩, hq⟩ : ∃ p, L2[i]? = some p := ⟨_, List.getElem?_eq_getElem (by rw [HN2.out]; exact hlt)⟩
          obtain ⟨x0, x1, x2⟩ := (m1.own hr).2 i _ hp
          obtain ⟨y0, y1, y2⟩ := (m2.own hr).2 i _ hq
          simp only at x0 x1 x2 y0 y1 y2
          have HP := Lib.hid hp
          have HQ := Lib.hid hq
          clear hp hq
          by_cases e0 : p0 = q0
          · subst e0
            by_cases e1 : p1 = q1
            · subst e1
              by_cases e2 : p2 = q2
              · subst e2
                go_wp2_with fail
                go_region_held3 (fun w' => (w'.cell? ⟨b1, o1 + i * 3, none⟩ = some (.int .i64 p0) ∧ w'.cell? ⟨b1, o1 + i * 3 + 1, none⟩ = some (.int .i64 p1) ∧ w'.cell? ⟨b1, o1 + i * 3 + 2, none⟩ = some (.int .i64 p2)) ∧ (w'.cell? ⟨b2, o2 + i * 3, none⟩ = some (.int .i64 p0) ∧ w'.cell? ⟨b2, o2 + i * 3 + 1, none⟩ = some (.int .i64 p1) ∧ w'.cell? ⟨b2, o2 + i * 3 + 2, none⟩ = some (.int .i64 p2))) (first | assumption | go_keep) (fail)
                go_wp2_with fail
                have ht : L1.take (i + 1) = L2.take (i + 1) := by rw [List.take_add_one, List.take_add_one, HT.out, HP.out, HQ.out]
                exact ⟨⟨i + 1, by omega, by go_num, ht, hr.drew⟩, by simp [intOf]; omega⟩
              · have n2 : (p2 == q2) = false := beq_eq_false_iff_ne.2 e2
                go_wp2_with fail
                go_region_held3 (fun w' => (w'.cell? ⟨b1, o1 + i * 3, none⟩ = some (.int .i64 p0) ∧ w'.cell? ⟨b1, o1 + i * 3 + 1, none⟩ = some (.int .i64 p1) ∧ w'.cell? ⟨b1, o1 + i * 3 + 2, none⟩ = some (.int .i64 p2)) ∧ (w'.cell? ⟨b2, o2 + i * 3, none⟩ = some (.int .i64 p0) ∧ w'.cell? ⟨b2, o2 + i * 3 + 1, none⟩ = some (.int .i64 p1) ∧ w'.cell? ⟨b2, o2 + i * 3 + 2, none⟩ = some (.int .i64 q2))) (first | assumption | go_keep) (fail)
                go_wp2_with fail
                go_ret
                exact ⟨by rw [decide_eq_false (fun h => by have := HP.out; rw [h, HQ.out] at this; simp_all)]; rfl, hr.drew⟩
            · have n1 : (p1 == q1) = false := beq_eq_false_iff_ne.2 e1
              go_wp2_with fail
              go_region_held3 (fun w' => (w'.cell? ⟨b1, o1 + i * 3, none⟩ = some (.int .i64 p0) ∧ w'.cell? ⟨b1, o1 + i * 3 + 1, none⟩ = some (.int .i64 p1) ∧ w'.cell? ⟨b1, o1 + i * 3 + 2, none⟩ = some (.int .i64 p2)) ∧ (w'.cell? ⟨b2, o2 + i * 3, none⟩ = some (.int .i64 p0) ∧ w'.cell? ⟨b2, o2 + i * 3 + 1, none⟩ = some (.int .i64 q1) ∧ w'.cell? ⟨b2, o2 + i * 3 + 2, none⟩ = some (.int .i64 q2))) (first | assumption | go_keep) (fail)
              go_wp2_with fail
              go_ret
              exact ⟨by rw [decide_eq_false (fun h => by have := HP.out; rw [h, HQ.out] at this; simp_all)]; rfl, hr.drew⟩
          · have n0 : (p0 == q0) = false := beq_eq_false_iff_ne.2 e0
            go_wp2_with fail
            go_region_held3 (fun w' => (w'.cell? ⟨b1, o1 + i * 3, none⟩ = some (.int .i64 p0) ∧ w'.cell? ⟨b1, o1 + i * 3 + 1, none⟩ = some (.int .i64 p1) ∧ w'.cell? ⟨b1, o1 + i * 3 + 2, none⟩ = some (.int .i64 p2)) ∧ (w'.cell? ⟨b2, o2 + i * 3, none⟩ = some (.int .i64 q0) ∧ w'.cell? ⟨b2, o2 + i * 3 + 1, none⟩ = some (.int .i64 q1) ∧ w'.cell? ⟨b2, o2 + i * 3 + 2, none⟩ = some (.int .i64 q2))) (first | assumption | go_keep) (fail)
            go_wp2_with fail
            go_ret
            exact ⟨by rw [decide_eq_false (fun h => by have := HP.out; rw [h, HQ.out] at this; simp_all)]; rfl, hr.drew⟩
        · obtain rfl : i = N := by omega
          go_wp2_with fail
          go_ret
          have : L1 = L2 := by
            have := HT.out
            rwa [List.take_of_length_le (by rw [HN.out]; omega), List.take_of_length_le (by rw [HN2.out]; omega)] at this
          exact ⟨by rw [decide_eq_true this]; rfl, hr⟩
  · have hne : L1 ≠ L2 := fun h => hlen (by rw [h])
    have HNE := Lib.hid hne
    clear hne g3 k3
    obtain ⟨N, hN⟩ : ∃ N, L1.length = N := ⟨_, rfl⟩
    obtain ⟨M, hM⟩ : ∃ N, L2.length = N := ⟨_, rfl⟩
    rw [hN, hM] at hlen
    rw [hN, hM]
    clear hN hM
    go_enter Try.func63, Try.ntmps63
    go_wp2_with fail
    go_ret
    exact ⟨by rw [decide_eq_false HNE.out]; rfl, Own.self w⟩
end Go.Proofs.Ytljcndcmdphmgaa.ref05

/-
  The reference's tables: begin, Free, of tables that may be; Left, Whole of its buddies. No condition.
-/
namespace Go.Proofs.Ytljcndcmdphmgaa
open Go.RowKit
attribute [local go_sem ↓] Go.wp_at_zero Go.wp_at_succ
section
variable {W w : World} {m bs bl : List (Nat × Obj)} {v : Value} {L : List Pg} {rb : Nat}
set_option maxHeartbeats 2000000 in
theorem rbegin_ok (hs : PgS w v L) {b1 b2 : List Pg} {x : Pg} (hT : Tab L (b1 ++ x :: b2)) {p : Nat} (h1 : (lay b1).length ≤ p) (h2 : p < (lay b1).length + pgSize x) (hL : L.length ≤ 60000) :
    Calls Try.prog 105 #[v, .int .i64 p] w fun e w' => e = .returned (.int .i64 (lay b1).length) ∧ w = w' := by
  obtain ⟨A, c, rfl, g1, g2, g3⟩ := hs
  unfold maxLen at g2
  have hlen := tab_len hT
  rw [lay_append, List.length_append, lay_cons_len] at hlen
  obtain ⟨g, o, rfl, hA⟩ := g3 (by omega)
  have hat := tab_at hT
  have hrow := ((row_append b1 _ 0).1 hT.2).2.1
  have hin : ∀ i, (lay b1).length < i → i < (lay b1).length + pgSize x → L[i]? = some pgIn := fun i i1 i2 => tab_in hT i1 i2
  have hk := head_kind hrow
  obtain ⟨a, ha⟩ : ∃ a, (lay b1).length = a := ⟨_, rfl⟩
  obtain ⟨N, hN⟩ : ∃ N, L.length = N := ⟨_, rfl⟩
  obtain ⟨S, hS⟩ : ∃ S, pgSize x = S := ⟨_, rfl⟩
  rw [ha, hN, hS] at hlen
  rw [ha] at hat h1 h2 hin ⊢
  rw [hS] at h2 hin
  rw [hN] at hL g1 ⊢
  obtain ⟨x0, x1, x2⟩ := x
  simp only at hk
  have hkb : (x0 == 1) = false := beq_eq_false_iff_ne.2 (by omega)
  obtain ⟨c0, c1, c2⟩ := hA.2 a _ hat
  simp only at c0 c1 c2
  have HIN := Lib.hid hin
  have HA := Lib.hid hA
  have hpN : p < N := by omega
  clear hT g3 hat hrow hin hk ha hN hS hlen hA
  go_enter Try.func105, Try.ntmps105
  go_wp2_with fail
  go_loopw [1] (fun pg wr => ∃ q : Nat, a ≤ q ∧ q ≤ p ∧ pg = .int .i64 q ∧ w = wr) (fun pg _ => (intOf pg).toNat)
  case atStart => exact ⟨p, h1, Nat.le_refl _, rfl, rfl⟩
  case round =>
    obtain ⟨q, hq1, hq2, rfl, rfl⟩ := hrel
    have hq0 : (0 : Int) ≤ q := by omega
    have hqN : (q : Int) < N := by omega
    by_cases hqa : q = a
    · subst hqa
      by_cases hz : q = 0
      · subst hz
        go_wp2_with fail
        go_ret
        exact ⟨rfl, rfl⟩
      · have hz0 : (0 : Int) < q := by omega
        go_wp2_with fail
        go_ret
        exact ⟨rfl, rfl⟩
    · obtain ⟨d0, d1, d2⟩ := HA.out.2 q _ (HIN.out q (by omega) (by omega))
      simp only [pgIn] at d0 d1 d2
      have hz0 : (0 : Int) < q := by omega
      go_wp2_with fail
      exact ⟨⟨q - 1, by omega, by omega, by congr 1; omega, trivial⟩, by simp [intOf]; omega⟩
set_option maxHeartbeats 2000000 in
theorem rF5_ok (h : Own W m w) (hs : PgS w v L) {b0 : List Pg} (hT : Tab L b0) (h1 : 1 ≤ L.length) (h2 : L.length ≤ 1024) :
    Calls Try.prog 89 #[v] w fun e w' => e = .returned (.int .i64 (pgFree L)) ∧ Own W m w' := by
  have hfr := pgFree_tab hT h1 h2
  rw [← kinds_sum b0, show (kinds b0).count true = kcnt b0 (kinds b0).length from by unfold kcnt; rw [List.take_length], kinds_len, ← tab_len hT] at hfr
  have HS := Lib.hid hs
  obtain ⟨A, c, rfl, g1, g2, g3⟩ := hs
  unfold maxLen at g2
  obtain ⟨g, o, rfl, hA⟩ := g3 (by omega)
  obtain ⟨N, hN⟩ : ∃ N, L.length = N := ⟨_, rfl⟩
  have HT := Lib.hid hT
  have HN := Lib.hid hN
  have HA := Lib.hid hA
  have HFR := Lib.hid hfr
  have hlen := tab_len hT
  rw [hN] at h1 h2 g1 hlen HS HFR ⊢
  have HLEN := Lib.hid hlen
  clear g3 hN hT hA hfr hlen
  go_enter Try.func89, Try.ntmps89
  go_wp2_with fail
  refine (rcheck_ok (Own.self w) HS.out HT.out (by rw [HN.out]; exact h1) (by rw [HN.out]; exact h2)).mono ?_
  rintro e w1 ⟨rfl, hw1⟩
  go_wp2_with fail
  go_loopw [3, 4] (fun n iv wr => ∃ i : Nat, i ≤ N ∧ iv = .int .i64 i ∧ n = .int .i64 (kcnt b0 i) ∧ Own w [] wr) (fun _ iv _ => N - (intOf iv).toNat)
  case atStart => exact ⟨0, by omega, rfl, rfl, hw1⟩
  case round =>
    clear hw1
    obtain ⟨i, hi, rfl, rfl, hr⟩ := hrel
    have hkl := kcnt_le b0 i
    obtain ⟨K, hK⟩ : ∃ K, kcnt b0 i = K := ⟨_, rfl⟩
    have HK := Lib.hid hK
    rw [hK] at hkl ⊢
    clear hK
    by_cases hlt : i < N
    · have hlti : (i : Int) < N := by omega
      obtain ⟨b1, x, b2, hb, q1, q2⟩ := row_find b0 0 i (by omega) (by rw [← HLEN.out]; omega)
      rw [Nat.zero_add] at q1 q2
      have hT2 : Tab L (b1 ++ x :: b2) := hb ▸ HT.out
      have hkx := kinds_at b1 b2 x q1 q2
      rw [← hb] at hkx
      have hsucc := kcnt_succ hkx
      have hat := tab_at hT2
      have hbeg := rbegin_ok (HS.out.own hr) hT2 q1 q2 (by rw [HN.out]; omega)
      have hll : (lay b1).length < N := by
        have := (List.getElem?_eq_some_iff.1 hat).1
        rw [HN.out] at this
        exact this
      obtain ⟨a, ha⟩ : ∃ a, (lay b1).length = a := ⟨_, rfl⟩
      rw [ha] at hat hbeg hll
      obtain ⟨d0, d1, d2⟩ := (HA.out.own hr).2 a _ hat
      have ha0 : (0 : Int) ≤ a := by omega
      have haN : (a : Int) < N := by omega
      rw [HK.out] at hsucc
      have HSU := Lib.hid hsucc
      have HBEG := Lib.hid hbeg
      clear hat hbeg hsucc hkx hT2 hb q1 q2 ha
      obtain ⟨x0, x1, x2⟩ := x
      simp only at d0 d1 d2
      by_cases hx : x0 = 0
      · subst hx
        go_wp2_with fail
        refine HBEG.out.mono ?_
        rintro e w2 ⟨rfl, rfl⟩
        go_wp2_with fail
        exact ⟨⟨i + 1, by omega, by go_num, by have := HSU.out; simp at this; rw [this]; go_num, hr⟩, by simp [intOf]; omega⟩
      · have hxb : (x0 == 0) = false := beq_eq_false_iff_ne.2 hx
        go_wp2_with fail
        refine HBEG.out.mono ?_
        rintro e w2 ⟨rfl, rfl⟩
        go_wp2_with fail
        exact ⟨⟨i + 1, by omega, by go_num, by have := HSU.out; simp [hx] at this; rw [this], hr⟩, by simp [intOf]; omega⟩
    · obtain rfl : i = N := by omega
      have hlti : ¬ (i : Int) < i := by omega
      go_wp2_with fail
      go_ret
      exact ⟨by rw [HFR.out, HK.out]; rfl, h.of_self hr⟩
set_option maxHeartbeats 400000 in
theorem rleft_ok (h : Own W (bl ++ m) w) (hb : RdO rb L bl) {b0 : List Pg} (hT : Tab L b0) (h1 : 1 ≤ L.length) (h2 : L.length ≤ 1024) :
    Calls Try.prog 64 #[.pointer (some ⟨rb, 0, none⟩)] w fun e w' => e = .returned (.int .i64 (pgFree L)) ∧ Own W (bl ++ m) w' := by
  obtain ⟨v, bs, ho, rfl⟩ := hb
  have hc := rd_cell h
  have hr := rd_read ho h
  obtain ⟨A, cap, rfl, -, -⟩ := ho.slice
  have HT := Lib.hid hT
  clear hT
  go_enter Try.func64, Try.ntmps64
  go_wp2_with fail
  refine (rF5_ok h hr HT.out h1 h2).mono ?_
  rintro e w' ⟨rfl, h1⟩
  go_wp2_with fail
  go_ret
  exact ⟨rfl, h1⟩
set_option maxHeartbeats 2000000 in
theorem rwhole_is (h : Own W (bl ++ m) w) (hb : RdO rb L bl) (h1 : 1 ≤ L.length) (h2 : L.length ≤ 1024) :
    Calls Try.prog 65 #[.pointer (some ⟨rb, 0, none⟩)] w fun e w' => e = .returned (.bool (decide (L = freshL L.length))) ∧ Own W (bl ++ m) w' := by
  obtain ⟨v, bs, ho, hbl⟩ := hb
  obtain ⟨g, cap, cur, rfl, -, -⟩ := ho.form (by omega)
  obtain ⟨N, hN⟩ : ∃ N, L.length = N := ⟨_, rfl⟩
  have HN := Lib.hid hN
  have PV : Hid (∀ M ws, Own W (bl ++ M) ws → ws.cell? ⟨rb, 0, none⟩ = some (.slice (some ⟨g, 0, none⟩) N cap) ∧ PgS ws (.slice (some ⟨g, 0, none⟩) N cap) L) := fun M ws hw => by
    rw [hbl] at hw
    rw [hN] at ho hw
    exact ⟨rd_cell hw, rd_read ho hw⟩
  have hcell := (PV.out _ _ h).1
  rw [hN] at h1 h2 ⊢
  clear ho hbl hN
  go_enter Try.func65, Try.ntmps65
  go_wp2_with fail
  go_region_held3 (fun w' => w'.cell? ⟨rb, 0, none⟩ = some (.slice (some ⟨g, 0, none⟩) N cap)) (first | assumption | go_keep)
    (first | (go_at_call 60; refine (rfresh_spec h.drew N h2).mono ?_; rintro e w1 ⟨v1, b1, rfl, o1, k1⟩; have hcell := (PV.out _ _ k1.swap).1) |
      (go_at_call 63; refine (ref05.same_spec (PV.out _ _ k1.swap).2 (PgO.read o1 k1) (by rw [HN.out]; omega) (by rw [fresh_len]; omega)).mono ?_; rintro e w2 ⟨rfl, k2⟩; have k3 := k1.of_self k2; have hcell := (PV.out _ _ k3.swap).1))
  all_goals
    go_wp2_with fail
    go_ret
    exact ⟨rfl, k3.dropL⟩
end
end Go.Proofs.Ytljcndcmdphmgaa

/-
  What Alloc finds, as a function; the contracts at tables that are written out.
-/
namespace Go.Proofs.Ytljcndcmdphmgaa
open Go.RowKit
def ordFirst (L : List Pg) (o : Nat) : Option Nat := (List.range L.length).find? fun a => decide (L[a]? = some (fb o))
def leastOf (L : List Pg) : Nat → Nat → Option (Nat × Nat)
  | 0, _ => none
  | k + 1, o => match ordFirst L o with
    | some a => some (a, o)
    | none => leastOf L k (o + 1)
theorem ordFirst_none {L : List Pg} {o : Nat} (h : NoOrd L o) : ordFirst L o = none := by
  unfold ordFirst
  rw [List.find?_eq_none]
  intro a _
  simpa using h a
theorem ordFirst_some {L : List Pg} {o a : Nat} (h : L[a]? = some (fb o)) (hb : ∀ b, b < a → L[b]? ≠ some (fb o)) : ordFirst L o = some a := by
  unfold ordFirst
  have hlt := (List.getElem?_eq_some_iff.1 h).1
  rw [List.find?_eq_some_iff_getElem]
  refine ⟨by simpa using h, a, by simpa using hlt, by simp, fun j hj => ?_⟩
  simpa using hb j hj
theorem leastOf_some {L : List Pg} {order a o : Nat} (h : LeastIs L order a o) : ∀ (d q : Nat), q + d = o → order ≤ q → leastOf L (11 - q) q = some (a, o)
  | 0, q, hq, h1 => by
    obtain rfl : q = o := by omega
    obtain ⟨k, hk⟩ : ∃ k, 11 - q = k + 1 := ⟨10 - q, by have := h.2.1; omega⟩
    rw [hk]
    unfold leastOf
    rw [ordFirst_some h.2.2.1 h.2.2.2.2]
  | d + 1, q, hq, h1 => by
    obtain ⟨k, hk⟩ : ∃ k, 11 - q = k + 1 := ⟨10 - q, by have := h.2.1; omega⟩
    rw [hk]
    unfold leastOf
    rw [ordFirst_none (h.2.2.2.1 q h1 (by omega))]
    have := leastOf_some h d (q + 1) (by omega) (by omega)
    rwa [show 11 - (q + 1) = k from by omega] at this
theorem leastOf_is {L : List Pg} {order a o : Nat} (h : LeastIs L order a o) : leastOf L (11 - order) order = some (a, o) := by
  have := h.1
  exact leastOf_some h (o - order) order (by omega) (Nat.le_refl _)
theorem leastOf_no {L : List Pg} : ∀ (d q order : Nat), 11 - q = d → order ≤ q → NoneIs L order → leastOf L (11 - q) q = none
  | 0, q, order, hq, _, h => by rw [hq]; rfl
  | d + 1, q, order, hq, h1, h => by
    rw [hq]
    unfold leastOf
    rw [ordFirst_none (h q h1 (by omega))]
    have := leastOf_no d (q + 1) order (by omega) (by omega) h
    rwa [show 11 - (q + 1) = d from by omega] at this
section
variable {W w : World} {m bl : List (Nat × Obj)} {pb : Nat} {L : List Pg}
/-- Alloc, where it finds a block -/
theorem alloc_at (h : Own W (bl ++ m) w) (hb : BdO pb L bl) (hck : pgCheck L = 0) (order : Nat) (c : Int) (ho : order ≤ 10) (hc0 : 0 ≤ c) (hc8 : c ≤ 8) {a k : Nat} {L' : List Pg} (e : leastOf L (11 - order) order = some (a, order + k)) (e' : allocL L a order k c = L') :
    Calls Try.prog 28 #[.pointer (some ⟨pb, 0, none⟩), .int .i64 order, .int .i64 c] w fun e w' => ∃ bl', e = .returned (.tuple #[.int .i64 a, .int .i64 0]) ∧ BdO pb L' bl' ∧ Own W (bl' ++ m) w' := by
  obtain ⟨bs, hT⟩ := pgCheck_tab hck
  obtain ⟨h1, h2, -⟩ := pgCheck_zero hck
  refine (alloc_ok h hb hT h1 h2 order c ho hc0 hc8).mono ?_
  rintro x w' (⟨hbad, -⟩ | ⟨-, hno, -⟩ | ⟨-, a', k', bl', hl, hx, hb', hO⟩)
  · omega
  · rw [Int.toNat_natCast] at hno
    rw [leastOf_no _ order order rfl (Nat.le_refl _) hno] at e
    cases e
  · rw [Int.toNat_natCast] at hl hb'
    rw [leastOf_is hl] at e
    simp only [Option.some.injEq, Prod.mk.injEq] at e
    obtain ⟨rfl, hk⟩ := e
    obtain rfl : k' = k := by omega
    subst e'
    exact ⟨bl', hx, hb', hO⟩
theorem free_at (h : Own W (bl ++ m) w) (hb : BdO pb L bl) (hck : pgCheck L = 0) (page o0 : Nat) {c0 : Int} {L' : List Pg} (hp : L[page]? = some (2, (o0 : Int), c0)) (e' : freeL L page o0 = L') :
    Calls Try.prog 25 #[.pointer (some ⟨pb, 0, none⟩), .int .i64 page] w fun e w' => ∃ bl', e = .returned (.int .i64 0) ∧ BdO pb L' bl' ∧ Own W (bl' ++ m) w' := by
  obtain ⟨bs, hT⟩ := pgCheck_tab hck
  obtain ⟨h1, h2, -⟩ := pgCheck_zero hck
  subst e'
  exact Free_ok h hb hT h1 h2 page o0 c0 hp
theorem frees_at (h : Own W (bl ++ m) w) (hb : BdO pb L bl) (hck : pgCheck L = 0) (o : Nat) (ho : o ≤ 10) {l : List Int} (e : freesTo L o L.length = l) :
    Calls Try.prog 26 #[.pointer (some ⟨pb, 0, none⟩), .int .i64 o] w fun e w' => ∃ v bs, e = .returned v ∧ IntsOwn true v l bs ∧ Own W (bs ++ (bl ++ m)) w' := by
  obtain ⟨bs, hT⟩ := pgCheck_tab hck
  obtain ⟨h1, h2, -⟩ := pgCheck_zero hck
  subst e
  exact frees_ok h hb hT h1 h2 o ho
end
-- the tables of the example
def t7 : List Pg := [(0, 2, 0), (1, 0, 0), (1, 0, 0), (1, 0, 0), (0, 1, 0), (1, 0, 0), (0, 0, 0)]
def t7a : List Pg := [(0, 2, 0), (1, 0, 0), (1, 0, 0), (1, 0, 0), (0, 1, 0), (1, 0, 0), (2, 0, 1)]
def t7b : List Pg := [(0, 2, 0), (1, 0, 0), (1, 0, 0), (1, 0, 0), (2, 0, 1), (0, 0, 0), (2, 0, 1)]
def t7c : List Pg := [(0, 2, 0), (1, 0, 0), (1, 0, 0), (1, 0, 0), (2, 0, 1), (2, 0, 1), (2, 0, 1)]
def t7d : List Pg := [(0, 2, 0), (1, 0, 0), (1, 0, 0), (1, 0, 0), (0, 0, 0), (2, 0, 1), (2, 0, 1)]
def t8 : List Pg := [(0, 3, 0), (1, 0, 0), (1, 0, 0), (1, 0, 0), (1, 0, 0), (1, 0, 0), (1, 0, 0), (1, 0, 0)]
def t8a : List Pg := [(2, 1, 0), (1, 0, 0), (0, 1, 0), (1, 0, 0), (0, 2, 0), (1, 0, 0), (1, 0, 0), (1, 0, 0)]
theorem fresh7 : freshL 7 = t7 := by decide +kernel
theorem fresh8 : freshL 8 = t8 := by decide +kernel
theorem c7 : pgCheck t7 = 0 ∧ pgCheck t7a = 0 ∧ pgCheck t7b = 0 ∧ pgCheck t7c = 0 ∧ pgCheck t7d = 0 ∧ pgCheck t8 = 0 ∧ pgCheck t8a = 0 := by decide +kernel
end Go.Proofs.Ytljcndcmdphmgaa
