/-
  The reference's buddies: Free, Frees. No condition.
-/
import Derived.Test.YtljcndcmdphmgaaBrfC
namespace Go.Proofs.Ytljcndcmdphmgaa
open Go.RowKit
attribute [local go_sem ↓] Go.wp_at_zero Go.wp_at_succ
/-- the places of the reference's free blocks, below n -/
def rfreesTo (L : List Pg) (o : Int) (n : Nat) : List Int := ((List.range n).filter fun a => rfreeB L ((a : Nat) : Int) o).map fun a => ((a : Nat) : Int)
theorem rfreesTo_len (L : List Pg) (o : Int) (n : Nat) : (rfreesTo L o n).length ≤ n := by
  unfold rfreesTo
  rw [List.length_map]
  exact Nat.le_trans (List.length_filter_le _ _) (by simp)
theorem rfreesTo_succ (L : List Pg) (o : Int) (n : Nat) : rfreesTo L o (n + 1) = rfreesTo L o n ++ if rfreeB L (n : Int) o = true then [(n : Int)] else [] := by
  unfold rfreesTo
  rw [List.range_succ, List.filter_append, List.map_append]
  cases h : rfreeB L (n : Int) o <;> simp [h]
theorem rfreesTo_ok (L : List Pg) (o n : Nat) : rfreesTo L (o : Int) n = freesTo L o n := by
  unfold rfreesTo freesTo
  congr 1
  apply List.filter_congr
  intro a _
  unfold rfreeB
  rw [Int.toNat_natCast]
  exact decide_eq_decide.2 (by simp [fb])
theorem rfreesTo_bad {L bs : List Pg} (hT : Tab L bs) (o : Int) (ho : o < 0 ∨ 10 < o) (n : Nat) : rfreesTo L o n = [] := by
  unfold rfreesTo
  rw [List.map_eq_nil_iff, List.filter_eq_nil_iff]
  intro a _ hf
  have h := of_decide_eq_true hf
  rw [Int.toNat_natCast] at h
  have := pgHead_order (tab_align hT h.2 (by simp)).2.2
  simp only at this
  omega
section
variable {W w : World} {m bl : List (Nat × Obj)} {rb : Nat} {L : List Pg}
set_option maxRecDepth 100000 in
set_option maxHeartbeats 4000000 in
theorem rFree_bad (h : Own W (bl ++ m) w) (hb : RdO rb L bl) (hL1 : 1 ≤ L.length) (page : Int) (hbad : ∀ p : Pg, 0 ≤ page → L[page.toNat]? = some p → p.1 ≠ 2) :
    Calls Try.prog 33 #[.pointer (some ⟨rb, 0, none⟩), .int .i64 page] w fun e w' => e = .returned (.int .i64 60) ∧ Own W (bl ++ m) w' := by
  obtain ⟨v, bs, ho, rfl⟩ := hb
  obtain ⟨g, cap, cur, rfl, -, -⟩ := ho.form (by omega)
  have hc := rd_cell h
  obtain ⟨N, hN⟩ : ∃ N, L.length = N := ⟨_, rfl⟩
  rw [hN] at hc
  by_cases h1 : page < 0
  · clear hN hbad ho
    go_enter Try.func33, Try.ntmps33
    go_wp2_with fail
    go_ret
    exact ⟨rfl, h⟩
  · have h1' : 0 ≤ page := by omega
    by_cases h2 : (N : Int) ≤ page
    · clear hN hbad h1 ho
      go_enter Try.func33, Try.ntmps33
      go_wp2_with fail
      go_ret
      exact ⟨rfl, h⟩
    · obtain ⟨p, rfl⟩ : ∃ p : Nat, page = p := ⟨page.toNat, by omega⟩
      obtain ⟨⟨p0, p1, p2⟩, hp⟩ : ∃ x, L[p]? = some x := ⟨_, List.getElem?_eq_getElem (by omega)⟩
      have hk := hbad _ h1' (by rw [Int.toNat_natCast]; exact hp)
      simp only at hk
      have hkb : (p0 != 2) = true := bne_iff_ne.2 hk
      obtain ⟨a0, a1, a2, -, -, -⟩ := pg_cells ho (rd_own h) rfl rfl hp
      simp only at a0 a1 a2
      have hpN : (p : Int) < N := by omega
      clear hN hbad h1 h2 hp hk ho
      go_enter Try.func33, Try.ntmps33
      go_wp2_with fail
      go_ret
      exact ⟨rfl, h⟩
set_option maxRecDepth 100000 in
set_option maxHeartbeats 4000000 in
theorem rFree_ok (h : Own W (bl ++ m) w) (hb : RdO rb L bl) {bs0 : List Pg} (hT : Tab L bs0) (hL1 : 1 ≤ L.length) (hL : L.length ≤ 1024) (page o0 : Nat) (c0 : Int) (hp : L[page]? = some (2, (o0 : Int), c0)) :
    Calls Try.prog 33 #[.pointer (some ⟨rb, 0, none⟩), .int .i64 page] w fun e w' => ∃ bl', e = .returned (.int .i64 0) ∧ RdO rb (freeL L page o0) bl' ∧ Own W (bl' ++ m) w' := by
  have HT := Lib.hid hT
  obtain ⟨v, bs, ho, hbl⟩ := id hb
  obtain ⟨g, cap, cur, rfl, -, -⟩ := ho.form (by omega)
  obtain ⟨hal, hfit, hhd⟩ := tab_align HT.out hp (by simp)
  have hsz : pgSize ((2 : Int), (o0 : Int), c0) = 2 ^ o0 := by simp [pgSize]
  rw [hsz] at hal hfit
  have ho10 := pgHead_order hhd
  simp only at ho10
  have ho10 : o0 ≤ 10 := by omega
  obtain ⟨N, hN⟩ : ∃ N, L.length = N := ⟨_, rfl⟩
  have HN := Lib.hid hN
  have HB := Lib.hid hb
  have h' := h
  rw [hbl] at h'
  obtain ⟨a0, a1, a2, -, -, -⟩ := pg_cells ho (rd_own h') rfl rfl hp
  simp only at a0 a1 a2
  have hc := rd_cell h'
  rw [hN] at hc hfit hL hL1
  have HAL := Lib.hid hal
  have HF := Lib.hid hfit
  have hpN : (page : Int) < N := by have := Nat.two_pow_pos o0; omega
  have hd1 : decide ((page : Int) < 0) = false := decide_eq_false (by omega)
  have hd2 : decide (N ≤ page) = false := decide_eq_false (by omega)
  clear hN hal hfit hp hT hsz hhd hbl h' ho hb
  go_enter Try.func33, Try.ntmps33
  go_wp2_with fail
  go_loopw [1, 5, 6] (fun pg ov _ wr => ∃ a o : Nat, pg = .int .i64 a ∧ ov = .int .i64 o ∧ o ≤ 10 ∧ a ≤ N ∧ Hid (bJoin L (10 - o) a o = bJoin L (10 - o0) page o0) ∧ Hid (a % 2 ^ o = 0) ∧ Hid (a + 2 ^ o ≤ N) ∧ Own W (bl ++ m) wr) (fun _ ov _ _ => 10 - (intOf ov).toNat)
  case atStart => exact ⟨page, o0, rfl, rfl, ho10, by omega, rfl, HAL, HF, h⟩
  case round =>
    clear h hc a0 a1 a2
    obtain ⟨a, o, rfl, rfl, ho, haN, HJ, HA, HAF, hr⟩ := hrel
    have fin : Hid (∀ (a o : Nat) (wr : World), o ≤ 10 → (a, o) = bJoin L (10 - o0) page o0 → a + 2 ^ o ≤ N → Own W (bl ++ m) wr →
        Calls Try.prog 62 #[.pointer (some ⟨rb, 0, none⟩), .int .i64 a, .agg #[.int .i64 0, .int .i64 o, .int .i64 0]] wr fun e w' => ∃ bl', e = .returned (.tuple #[]) ∧ RdO rb (freeL L page o0) bl' ∧ Own W (bl' ++ m) w') := by
      intro a o wr ho he hf hr
      have := rset_spec hr HB.out a o ho (by rw [HN.out]; exact hf) (by rw [HN.out]; exact hL) 0 0
      unfold freeL
      rw [← he]
      exact this
    by_cases hlt : o < 10
    · have hlti : (o : Int) < 10 := by omega
      obtain ⟨M, hM, hMi, hM1, hM2⟩ := pow_nat ho
      have hmin : min o 64 = o := by omega
      have hw1 : IntKind.i64.wrap (M : Int) = (M : Int) := by rw [IntWalk.i64_in] <;> omega
      have hw2 : IntKind.i64.wrap (2 * (M : Int)) = 2 * (M : Int) := by rw [IntWalk.i64_in] <;> omega
      have ha0 : (0 : Int) ≤ a := by omega
      have ho0' : (0 : Int) ≤ o := by omega
      have hmodi : (a : Int) % (2 * (M : Int)) = ((a % (2 * M) : Nat) : Int) := by push_cast; rfl
      obtain ⟨k, hk⟩ : ∃ k, 10 - o = k + 1 := ⟨9 - o, by omega⟩
      have hj := HJ.out
      rw [hk] at hj
      rw [show bJoin L (k + 1) a o = if L[other a o]? = some (fb o) then bJoin L k (min a (other a o)) (o + 1) else (a, o) from rfl] at hj
      -- where the other one lies
      obtain ⟨q, hq⟩ : ∃ q, other a o = q := ⟨_, rfl⟩
      have HQ := Lib.hid hq
      have hoth : (((a : Int) % (2 * (M : Int)) != 0) = false ∧ q = a + M) ∨ (((a : Int) % (2 * (M : Int)) != 0) = true ∧ a = q + M) := by
        rw [hmodi]
        rcases other_cases a o HA.out with ⟨g1, g2, -⟩ | ⟨g1, g2, g3, -⟩
        · rw [hM] at g1 g2
          exact .inl ⟨by simp; omega, by omega⟩
        · rw [hM] at g1 g2 g3
          exact .inr ⟨by simp; omega, by omega⟩
      have hqx : rfreeB L (q : Int) (o : Int) = decide (L[q]? = some (fb o)) := by
        unfold rfreeB
        rw [Int.toNat_natCast]
        exact decide_eq_decide.2 (by simp [fb])
      have HQX := Lib.hid hqx
      have HMM := Lib.hid hM
      by_cases hf : L[other a o]? = some (fb o)
      · rw [if_pos hf, show k = 10 - (o + 1) from by omega] at hj
        obtain ⟨v1, v2, -⟩ := tab_align HT.out hf (fb_kind o)
        rw [fb_size, HN.out] at v2
        have hp2 : 2 ^ (o + 1) = 2 ^ o + 2 ^ o := by rw [Nat.pow_succ]; omega
        have hmm : (min a (other a o)) % 2 ^ (o + 1) = 0 ∧ min a (other a o) + 2 ^ (o + 1) ≤ N := by
          rcases other_cases a o HA.out with ⟨g1, g2, g3⟩ | ⟨g1, g2, g3, g4, g5⟩
          · rw [g3]
            rw [g2] at v2
            exact ⟨by rw [hp2, show 2 ^ o + 2 ^ o = 2 * 2 ^ o from by omega]; exact g1, by omega⟩
          · rw [g4]
            have := HAF.out
            exact ⟨by rw [hp2, show 2 ^ o + 2 ^ o = 2 * 2 ^ o from by omega]; exact g5, by omega⟩
        rw [hq] at hj hmm hf v2
        have HJ2 := Lib.hid hj
        have HM1 := Lib.hid hmm.1
        have HM2 := Lib.hid hmm.2
        have HFB := Lib.hid hf
        have hqN : q < N := by have := Nat.two_pow_pos o; omega
        have hmin2 : min (a : Int) (q : Int) = ((min a q : Nat) : Int) := by omega
        have HMIN := Lib.hid hmin2
        clear hj hf hmm v1 v2 hp2 hk hmin2 HJ hM hq hqx hmodi
        rcases hoth with ⟨hb0, hqe⟩ | ⟨hb0, hqe⟩
        · have hqi : (q : Int) = (a : Int) + M := by omega
          have HQI := Lib.hid hqi
          have hmnq : (min a q : Nat) = a := by omega
          have hnq : ¬ q < a := by omega
          have j2 := HJ2.out
          have m1 := HM1.out
          have m2 := HM2.out
          rw [hmnq] at j2 m1 m2
          have J2 := Lib.hid j2
          have M1 := Lib.hid m1
          have M2 := Lib.hid m2
          clear hqi hqe hmnq j2 m1 m2 HJ2 HM1 HM2
          go_wp2_with fail
          rw [← HQI.out]
          refine (rfree_spec hr HB.out (by rw [HN.out]; omega) (by rw [HN.out]; omega) (q : Int) (o : Int)).mono ?_
          rintro e w1 ⟨rfl, rfl⟩
          rw [HQX.out, decide_eq_true HFB.out]
          go_wp2_with fail
          exact ⟨⟨a, o + 1, rfl, by go_num, by omega, by omega, J2, M1, M2, hr⟩, by simp [intOf]; omega⟩
        · have hqi : (q : Int) = (a : Int) - M := by omega
          have HQI := Lib.hid hqi
          have hmnq : (min a q : Nat) = q := by omega
          have hnq : q < a := by omega
          have j2 := HJ2.out
          have m1 := HM1.out
          have m2 := HM2.out
          rw [hmnq] at j2 m1 m2
          have J2 := Lib.hid j2
          have M1 := Lib.hid m1
          have M2 := Lib.hid m2
          have haM : (M : Int) ≤ a := by omega
          clear hqi hqe hmnq j2 m1 m2 HJ2 HM1 HM2
          go_wp2_with fail
          rw [← HQI.out]
          refine (rfree_spec hr HB.out (by rw [HN.out]; omega) (by rw [HN.out]; omega) (q : Int) (o : Int)).mono ?_
          rintro e w1 ⟨rfl, rfl⟩
          rw [HQX.out, decide_eq_true HFB.out]
          go_wp2_with fail
          exact ⟨⟨q, o + 1, rfl, by go_num, by omega, by omega, J2, M1, M2, hr⟩, by simp [intOf]; omega⟩
      · rw [if_neg hf] at hj
        rw [hq] at hf
        have HJ2 := Lib.hid hj
        have HNF := Lib.hid hf
        clear hj hf hk HJ hM hq hqx hmodi
        rcases hoth with ⟨hb0, hqe⟩ | ⟨hb0, hqe⟩
        · have hqi : (q : Int) = (a : Int) + M := by omega
          have HQI := Lib.hid hqi
          clear hqi hqe
          go_wp2_with fail
          rw [← HQI.out]
          refine (rfree_spec hr HB.out (by rw [HN.out]; omega) (by rw [HN.out]; omega) (q : Int) (o : Int)).mono ?_
          rintro e w1 ⟨rfl, rfl⟩
          rw [HQX.out, decide_eq_false HNF.out]
          go_wp2_with fail
          refine (fin.out a o _ ho HJ2.out HAF.out hr).mono ?_
          rintro e w4 ⟨bl4, rfl, hb4, h4⟩
          go_wp2_with fail
          go_ret
          exact ⟨bl4, rfl, hb4, h4⟩
        · have hqi : (q : Int) = (a : Int) - M := by omega
          have HQI := Lib.hid hqi
          have haM : (M : Int) ≤ a := by omega
          clear hqi hqe
          go_wp2_with fail
          rw [← HQI.out]
          refine (rfree_spec hr HB.out (by rw [HN.out]; omega) (by rw [HN.out]; omega) (q : Int) (o : Int)).mono ?_
          rintro e w1 ⟨rfl, rfl⟩
          rw [HQX.out, decide_eq_false HNF.out]
          go_wp2_with fail
          refine (fin.out a o _ ho HJ2.out HAF.out hr).mono ?_
          rintro e w4 ⟨bl4, rfl, hb4, h4⟩
          go_wp2_with fail
          go_ret
          exact ⟨bl4, rfl, hb4, h4⟩
    · obtain rfl : o = 10 := by omega
      go_wp2_with fail
      refine (fin.out a 10 wr ho HJ.out HAF.out hr).mono ?_
      rintro e w4 ⟨bl4, rfl, hb4, h4⟩
      go_wp2_with fail
      go_ret
      exact ⟨bl4, rfl, hb4, h4⟩
set_option maxHeartbeats 2000000 in
theorem rfrees_spec (h : Own W (bl ++ m) w) (hb : RdO rb L bl) (hL1 : 1 ≤ L.length) (hL : L.length ≤ 1024) (o : Int) :
    Calls Try.prog 66 #[.pointer (some ⟨rb, 0, none⟩), .int .i64 o] w fun e w' => ∃ v bs, e = .returned v ∧ IntsOwn true v (rfreesTo L o L.length) bs ∧ Own W (bs ++ (bl ++ m)) w' := by
  obtain ⟨v, bs, ho, hbl⟩ := id hb
  obtain ⟨g, cap, cur, rfl, -, -⟩ := ho.form (by omega)
  obtain ⟨N, hN⟩ : ∃ N, L.length = N := ⟨_, rfl⟩
  have HN := Lib.hid hN
  rw [hN] at hL hL1 hbl ⊢
  have PV : Hid (∀ M ws, Own W (bl ++ M) ws → ws.cell? ⟨rb, 0, none⟩ = some (.slice (some ⟨g, 0, none⟩) N cap)) := fun M ws hw => by
    rw [hbl] at hw
    exact rd_cell hw
  have HB := Lib.hid hb
  clear ho hbl hb hN
  go_enter Try.func66, Try.ntmps66
  go_wp2_with fail
  go_loopw [5, 6] (fun out pg wr => ∃ (p : Nat) (bs : List (Nat × Obj)), pg = .int .i64 p ∧ p ≤ N ∧ Hid (IntsOwn true out (rfreesTo L o p) bs) ∧ Own W (bs ++ (bl ++ m)) wr) (fun _ pg _ => N - (intOf pg).toNat)
  case atStart => exact ⟨0, [], rfl, by omega, SlO.nil _ _ _, h⟩
  case round =>
    clear h
    obtain ⟨p, bs, rfl, hp, HO, hr⟩ := hrel
    have hcell := PV.out _ _ hr.swap
    obtain ⟨A1, c1, hv, -, -⟩ := HO.out.slice
    subst hv
    have hlen := rfreesTo_len L o p
    have hsucc := rfreesTo_succ L o p
    have HS := Lib.hid hsucc
    obtain ⟨z, hz⟩ : ∃ z, (rfreesTo L o p).length = z := ⟨_, rfl⟩
    have o9 : IntsOwn true (.slice A1 z c1) (rfreesTo L o p) bs := by have := HO.out; rwa [hz] at this
    have HO9 := Lib.hid o9
    have HZ := Lib.hid hz
    rw [hz] at hlen ⊢
    clear hsucc hz HO o9
    by_cases hlt : p < N
    · have hlti : (p : Int) < N := by omega
      cases hf : rfreeB L (p : Int) o with
      | true =>
        have HF := Lib.hid hf
        clear hf
        go_wp2_with fail
        refine (rfree_spec hr.swap HB.out (by rw [HN.out]; omega) (by rw [HN.out]; omega) p o).mono ?_
        rintro e w1 ⟨rfl, rfl⟩
        rw [HF.out]
        have h4 := hr.alloc (.cells #[.int .i64 p] 3)
        have hsrc := src_one wr (p : Int)
        have HSRC := Lib.hid hsrc
        clear hsrc
        go_wp2_with (at_builtin; refine wpList_app_ints rfl _ _ rfl rfl rfl HO9.out h4 HSRC.out (by rw [HZ.out]; simp; omega) ?_; intro v' w' bs' k1 k2 k3; have K1 := Lib.hid k1; clear k1 k3)
        refine ⟨⟨p + 1, bs', by go_num, by omega, ?_, k2⟩, by simp [intOf]; omega⟩
        show IntsOwn true v' (rfreesTo L o (p + 1)) bs'
        rw [HS.out, if_pos HF.out]
        exact K1.out
      | false =>
        have HF := Lib.hid hf
        clear hf
        go_wp2_with fail
        refine (rfree_spec hr.swap HB.out (by rw [HN.out]; omega) (by rw [HN.out]; omega) p o).mono ?_
        rintro e w1 ⟨rfl, rfl⟩
        rw [HF.out]
        go_wp2_with fail
        refine ⟨⟨p + 1, bs, by go_num, by omega, ?_, hr⟩, by simp [intOf]; omega⟩
        show IntsOwn true _ (rfreesTo L o (p + 1)) bs
        rw [HS.out, if_neg (by rw [HF.out]; simp), List.append_nil]
        exact HO9.out
    · obtain rfl : p = N := by omega
      have hlti : ¬ (p : Int) < p := by omega
      go_wp2_with fail
      go_ret
      exact ⟨_, rfl, bs, HO9.out, hr⟩
end
end Go.Proofs.Ytljcndcmdphmgaa
