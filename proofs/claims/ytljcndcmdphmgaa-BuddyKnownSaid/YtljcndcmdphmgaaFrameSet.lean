/-
  Contract: frame.Set, of any table, head and page below 2^62.
-/
import Derived.Test.YtljcndcmdphmgaaFrameOwn
import Derived.Test.YtljcndcmdphmgaaBring
namespace Go.Proofs.Ytljcndcmdphmgaa
open Go.RowKit
attribute [local go_sem ↓] Go.wp_at_zero Go.wp_at_succ
theorem pgHd_get {L : List Pg} {page : Int} (hc : pgCheck L = 0) (h0 : 0 ≤ page) (h1 : page < L.length) : ∃ (q : Nat) (y : Pg), pgHd L page = q ∧ L[q]? = some y ∧ (q : Int) ≤ page ∧ page < q + pgSize y ∧ pgHead y = true ∧ q + pgSize y ≤ L.length := by
  obtain ⟨bs, hT⟩ := pgCheck_tab hc
  have hlen := tab_len hT
  obtain ⟨p, rfl⟩ : ∃ p : Nat, page = p := ⟨page.toNat, by omega⟩
  obtain ⟨b1, y, b2, rfl, h3, h4⟩ := row_find bs 0 p (by omega) (by omega)
  rw [Nat.zero_add] at h3 h4
  obtain ⟨e1, e2⟩ := pgHd_at hT (page := (p : Int)) (by omega) (by omega)
  have hrow := (row_append b1 (y :: b2) 0).1 hT.2
  have hll : (lay (b1 ++ y :: b2)).length = (lay b1).length + (lay (y :: b2)).length := by rw [lay_append, List.length_append]
  have := lay_cons_len y b2
  exact ⟨_, y, e1, e2, by omega, by omega, hrow.2.1, by omega⟩
section
variable {W w : World} {m : List (Nat × Obj)} {v : Value} {L : List Pg}
/-- what Set answers -/
def SetPost (W : World) (m : List (Nat × Obj)) (L : List Pg) (page : Int) (x : Pg) (e : Ending) (w' : World) : Prop :=
  (pgSetE L page x ≠ 0 ∧ e = .returned (.tuple #[.slice none 0 0, .int .i64 (pgSetE L page x)]) ∧ Own W m w') ∨
  (pgSetE L page x = 0 ∧ ∃ v' bs, e = .returned (.tuple #[v', .int .i64 0]) ∧ PgO true v' (pgPut L page.toNat x) bs ∧ Own W (bs ++ m) w')
set_option maxRecDepth 100000 in
set_option maxHeartbeats 4000000 in
theorem Set_no (h : Own W m w) (hs : PgS w v L) (page : Int) (k o c : Int) (hp : page < 4611686018427387904) (hE : pgSetE L page (k, o, c) ≠ 0) :
    Calls Try.prog 15 #[v, .int .i64 page, .agg #[.int .i64 k, .int .i64 o, .int .i64 c]] w (SetPost W m L page (k, o, c)) := by
  have hs' := hs
  obtain ⟨A, cc, rfl, g1, g2, g3⟩ := hs'
  unfold maxLen at g2
  have HE := Lib.hid hE
  have hb0 := (Own.self w).new (.cells #[.int .i64 k, .int .i64 o, .int .i64 c] 24)
  have hs0 := hs.own ((Own.self w).alloc (.cells #[.int .i64 k, .int .i64 o, .int .i64 c] 24))
  obtain ⟨w0, hw0⟩ : ∃ w0, w.alloc (.cells #[.int .i64 k, .int .i64 o, .int .i64 c] 24) = w0 := ⟨_, rfl⟩
  rw [hw0] at hb0 hs0
  clear hE g3
  obtain ⟨N, hN⟩ : ∃ N, L.length = N := ⟨_, rfl⟩
  have HN := Lib.hid hN
  rw [hN] at hs hs0 g1 ⊢
  have HS := Lib.hid hs
  clear hN hs
  cases hck : decide (pgCheck L = 0) with
  | false =>
    have hc : pgCheck L = 50 := (pgCheck_cases L).resolve_left (of_decide_eq_false hck)
    have he : pgSetE L page (k, o, c) = 50 := by unfold pgSetE; rw [if_pos (by rw [hc]; decide)]
    have HC := Lib.hid hc
    have HE2 := Lib.hid he
    clear hc he hck
    go_enter Try.func15, Try.ntmps15
    go_wp2_with (go_at_call 16; refine (check_spec (Own.self w0) hs0).mono ?_; rintro e w1 ⟨rfl, h1⟩; rw [HC.out])
    go_ret2
    exact .inl ⟨HE.out, by rw [HE2.out]; rfl, h.of_self ((hb0.sub (List.nil_sublist _)).of_self h1)⟩
  | true =>
    have HC := Lib.hid (of_decide_eq_true hck)
    clear hck
    cases hh : pgHead (k, o, c) with
    | false =>
      have he : pgSetE L page (k, o, c) = 2 := by unfold pgSetE; rw [if_neg (by rw [HC.out]; simp), if_pos hh]
      have HE2 := Lib.hid he
      have HH := Lib.hid hh
      clear he hh
      go_enter Try.func15, Try.ntmps15
      go_wp2_with (first | (go_at_call 16; refine (check_spec (Own.self w0) hs0).mono ?_; rintro e w1 ⟨rfl, h1⟩; rw [HC.out]; have hb1 := hb0.of_self h1; have e0 := hb1.cell List.mem_cons_self 0; have e1 := hb1.cell List.mem_cons_self 1; have e2 := hb1.cell List.mem_cons_self 2; simp at e0 e1 e2) | (go_at_call 48; refine (headed_spec hb1 k o c).mono ?_; rintro e w2 ⟨rfl, h2⟩; rw [HH.out]))
      go_ret2
      exact .inl ⟨HE.out, by rw [HE2.out]; rfl, h.of_self (h2.sub (List.nil_sublist _))⟩
    | true =>
      have hord := pgHead_order hh
      simp only at hord
      obtain ⟨s, rfl⟩ : ∃ s : Nat, o = (s : Int) := ⟨o.toNat, by omega⟩
      have hpw : (2 : Nat) ^ s ≤ 2 ^ 10 := Nat.pow_le_pow_right (by omega) (by omega)
      have hmin : min s 64 = s := by omega
      have hand0 := and_mask_i64 page s (by omega)
      obtain ⟨M, hM⟩ : ∃ M : Nat, 2 ^ s = M := ⟨_, rfl⟩
      have hMi : (2 : Int) ^ s = (M : Int) := by rw [← hM]; simp
      have hM1 : 1 ≤ M := by rw [← hM]; exact Nat.one_le_two_pow
      have hM2 : M ≤ 1024 := by omega
      have hsn : (0 : Int) ≤ s := by omega
      have hszx : pgSize (k, ((s : Nat) : Int), c) = M := by simp [pgSize, hM]
      have HSZ := Lib.hid hszx
      rw [hMi] at hand0
      have HH := Lib.hid hh
      clear hM hszx hpw hh hord
      have hmb := emod_bd page M (by omega)
      by_cases hr : page < 0 ∨ page % M ≠ 0 ∨ (N : Int) < page + M
      · have he : pgSetE L page (k, ((s : Nat) : Int), c) = 9 := by unfold pgSetE; rw [if_neg (by rw [HC.out]; simp), if_neg (by rw [HH.out]; simp), if_pos (by rw [HSZ.out, HN.out]; exact hr)]
        have HE2 := Lib.hid he
        clear he
        obtain ⟨R, hR⟩ : ∃ R, page % M = R := ⟨_, rfl⟩
        rw [hR] at hr hand0 hmb
        clear hR
        by_cases hp0 : page < 0
        · clear hr
          go_enter Try.func15, Try.ntmps15
          go_wp2_with (first | (go_at_call 16; refine (check_spec (Own.self w0) hs0).mono ?_; rintro e w1 ⟨rfl, h1⟩; rw [HC.out]; have hb1 := hb0.of_self h1; have e0 := hb1.cell List.mem_cons_self 0; have e1 := hb1.cell List.mem_cons_self 1; have e2 := hb1.cell List.mem_cons_self 2; simp at e0 e1 e2) | (go_at_call 48; refine (headed_spec hb1 k s c).mono ?_; rintro e w2 ⟨rfl, h2⟩; rw [HH.out]; have e3 := h2.cell List.mem_cons_self 0; have e4 := h2.cell List.mem_cons_self 1; have e5 := h2.cell List.mem_cons_self 2; simp at e3 e4 e5))
          go_ret2
          exact .inl ⟨HE.out, by rw [HE2.out]; rfl, h.of_self (h2.sub (List.nil_sublist _))⟩
        · have hp1 : 0 ≤ page := by omega
          by_cases hR0 : R = 0
          · have hgt : (N : Int) < page + M := by omega
            clear hr
            go_enter Try.func15, Try.ntmps15
            go_wp2_with (first | (go_at_call 16; refine (check_spec (Own.self w0) hs0).mono ?_; rintro e w1 ⟨rfl, h1⟩; rw [HC.out]; have hb1 := hb0.of_self h1; have e0 := hb1.cell List.mem_cons_self 0; have e1 := hb1.cell List.mem_cons_self 1; have e2 := hb1.cell List.mem_cons_self 2; simp at e0 e1 e2) | (go_at_call 48; refine (headed_spec hb1 k s c).mono ?_; rintro e w2 ⟨rfl, h2⟩; rw [HH.out]; have e3 := h2.cell List.mem_cons_self 0; have e4 := h2.cell List.mem_cons_self 1; have e5 := h2.cell List.mem_cons_self 2; simp at e3 e4 e5))
            go_ret2
            exact .inl ⟨HE.out, by rw [HE2.out]; rfl, h.of_self (h2.sub (List.nil_sublist _))⟩
          · clear hr
            go_enter Try.func15, Try.ntmps15
            go_wp2_with (first | (go_at_call 16; refine (check_spec (Own.self w0) hs0).mono ?_; rintro e w1 ⟨rfl, h1⟩; rw [HC.out]; have hb1 := hb0.of_self h1; have e0 := hb1.cell List.mem_cons_self 0; have e1 := hb1.cell List.mem_cons_self 1; have e2 := hb1.cell List.mem_cons_self 2; simp at e0 e1 e2) | (go_at_call 48; refine (headed_spec hb1 k s c).mono ?_; rintro e w2 ⟨rfl, h2⟩; rw [HH.out]; have e3 := h2.cell List.mem_cons_self 0; have e4 := h2.cell List.mem_cons_self 1; have e5 := h2.cell List.mem_cons_self 2; simp at e3 e4 e5))
            go_ret2
            exact .inl ⟨HE.out, by rw [HE2.out]; rfl, h.of_self (h2.sub (List.nil_sublist _))⟩
      · have hr1 : 0 ≤ page := by omega
        have hr2 : page % M = 0 := by omega
        have hr3 : page + M ≤ N := by omega
        obtain ⟨q, y, hq, hy, hq1, hq2, hy2, hq3⟩ := pgHd_get HC.out hr1 (by rw [HN.out]; omega)
        obtain ⟨y0, y1, y2⟩ := y
        have hyo := pgHead_order hy2
        simp only at hyo
        rw [HN.out] at hq3
        have hqN : (q : Int) < N := by have := pgSize_pos (y0, y1, y2); omega
        have ho : (s : Int) < y1 := by
          rcases Int.lt_or_le (s : Int) y1 with h1 | h1
          · exact h1
          · refine absurd ?_ HE.out
            unfold pgSetE
            rw [if_neg (by rw [HC.out]; simp), if_neg (by rw [HH.out]; simp), if_neg (by rw [HSZ.out, HN.out]; exact hr), if_neg]
            rw [hq, Int.toNat_natCast, List.getD_eq_getElem?_getD, hy]
            simp only [Option.getD_some]
            omega
        have he : pgSetE L page (k, ((s : Nat) : Int), c) = 50 := by
          unfold pgSetE
          rw [if_neg (by rw [HC.out]; simp), if_neg (by rw [HH.out]; simp), if_neg (by rw [HSZ.out, HN.out]; exact hr), if_pos]
          rw [hq, Int.toNat_natCast, List.getD_eq_getElem?_getD, hy]
          exact ho
        have HE2 := Lib.hid he
        have HQ := Lib.hid hq
        have HY := Lib.hid hy
        obtain ⟨A', c', hv, _, _, hA0⟩ := HS.out
        obtain ⟨g, oo, rfl, hA⟩ := hA0 (by rw [HN.out]; omega)
        obtain ⟨rfl, -, rfl⟩ : A = some ⟨g, oo, none⟩ ∧ True ∧ cc = c' := by cases hv; exact ⟨rfl, trivial, rfl⟩
        clear hA0 hv he hq hy hr hyo hq2 hq3 hy2
        have hand : bits .and .i64 page ((M : Int) - 1) = 0 := by rw [hand0, hr2]
        clear hand0 hr2 hmb
        go_enter Try.func15, Try.ntmps15
        go_wp2_with (first | (go_at_call 16; refine (check_spec (Own.self w0) hs0).mono ?_; rintro e w1 ⟨rfl, h1⟩; rw [HC.out]; have hb1 := hb0.of_self h1; have e0 := hb1.cell List.mem_cons_self 0; have e1 := hb1.cell List.mem_cons_self 1; have e2 := hb1.cell List.mem_cons_self 2; simp at e0 e1 e2) | (go_at_call 48; refine (headed_spec hb1 k s c).mono ?_; rintro e w2 ⟨rfl, h2⟩; rw [HH.out]; have e3 := h2.cell List.mem_cons_self 0; have e4 := h2.cell List.mem_cons_self 1; have e5 := h2.cell List.mem_cons_self 2; simp at e3 e4 e5; have e6 := ((hA.own h2).2 q _ HY.out).2.1; simp only at e6))
        go_region_held3 (fun w' => w'.cell? ⟨w.heap.size, 1, none⟩ = some (.int .i64 s) ∧ w'.cell? ⟨g, oo + q * 3 + 1, none⟩ = some (.int .i64 y1)) (first | (refine ⟨?_, ?_⟩ <;> assumption) | go_keep)
          (first | (go_at_call 49; refine (head_spec h2.drew (HS.out.own h2.drew) HC.out page).mono ?_; rintro e w3 ⟨rfl, h3⟩; rw [HQ.out]; have e7 := h3.cell List.mem_cons_self 1; simp at e7; have e8 := ((hA.own h3).2 q _ HY.out).2.1; simp only at e8))
        go_wp2_with fail
        go_ret2
        exact .inl ⟨HE.out, by rw [HE2.out]; rfl, h.of_self (h3.sub (List.nil_sublist _))⟩
set_option maxRecDepth 100000 in
set_option maxHeartbeats 4000000 in
theorem Set_ok (h : Own W m w) (hs : PgS w v L) (page : Int) (k o c : Int) (hE : pgSetE L page (k, o, c) = 0) :
    Calls Try.prog 15 #[v, .int .i64 page, .agg #[.int .i64 k, .int .i64 o, .int .i64 c]] w (SetPost W m L page (k, o, c)) := by
  have hs' := hs
  obtain ⟨A, cc, rfl, g1, g2, g3⟩ := hs'
  unfold maxLen at g2
  have HE := Lib.hid hE
  have hb0 := (Own.self w).new (.cells #[.int .i64 k, .int .i64 o, .int .i64 c] 24)
  have hs0 := hs.own ((Own.self w).alloc (.cells #[.int .i64 k, .int .i64 o, .int .i64 c] 24))
  obtain ⟨w0, hw0⟩ : ∃ w0, w.alloc (.cells #[.int .i64 k, .int .i64 o, .int .i64 c] 24) = w0 := ⟨_, rfl⟩
  rw [hw0] at hb0 hs0
  obtain ⟨p, -, -, -, rfl, hpL, hck, hh, hpm, -, -, -, -⟩ := pgSet_ok hE
  have hord := pgHead_order hh
  simp only at hord
  obtain ⟨s, rfl⟩ : ∃ s : Nat, o = (s : Int) := ⟨o.toNat, by omega⟩
  have hpw : (2 : Nat) ^ s ≤ 2 ^ 10 := Nat.pow_le_pow_right (by omega) (by omega)
  have hmin : min s 64 = s := by omega
  have hand0 := and_mask_i64 p s (by omega)
  obtain ⟨M, hM⟩ : ∃ M : Nat, 2 ^ s = M := ⟨_, rfl⟩
  have hMi : (2 : Int) ^ s = (M : Int) := by rw [← hM]; simp
  have hM1 : 1 ≤ M := by rw [← hM]; exact Nat.one_le_two_pow
  have hM2 : M ≤ 1024 := by omega
  have hsn : (0 : Int) ≤ s := by omega
  have hszx : pgSize (k, ((s : Nat) : Int), c) = M := by simp [pgSize, hM]
  have HSZ := Lib.hid hszx
  rw [hMi] at hand0
  have HH := Lib.hid hh
  rw [hszx] at hpL hpm
  have hand : bits .and .i64 (p : Int) ((M : Int) - 1) = 0 := by rw [hand0, ← Int.natCast_emod, hpm]; rfl
  have HC := Lib.hid hck
  have hcz := pgCheck_zero hck
  have hN4 : L.length ≤ 1024 := hcz.2.1
  obtain ⟨q, y, hq, hy, hq1, hq2, hy2, hq3⟩ := pgHd_get (page := (p : Int)) hck (by omega) (by omega)
  obtain ⟨y0, y1, y2⟩ := y
  have hyo := pgHead_order hy2
  simp only at hyo
  have hqN : (q : Int) < L.length := by have := pgSize_pos (y0, y1, y2); omega
  have ho : y1 ≤ (s : Int) := by
    rcases Int.lt_or_le (s : Int) y1 with h1 | h1
    · have := HE.out
      unfold pgSetE at this
      rw [if_neg (by rw [HC.out]; simp), if_neg (by rw [HH.out]; simp), if_neg (by rw [HSZ.out, ← Int.natCast_emod, hpm]; omega), if_pos] at this
      · omega
      · rw [hq, Int.toNat_natCast, List.getD_eq_getElem?_getD, hy]
        exact h1
    · exact h1
  have HQ := Lib.hid hq
  have HY := Lib.hid hy
  obtain ⟨g, oo, rfl, hA⟩ := g3 (by omega)
  have hlp : 0 < L.length := by omega
  have hput := pgPutK_put (L := L) (p := p) (x := (k, ((s : Nat) : Int), c)) (by rw [hszx]; exact hpL)
  rw [hszx] at hput
  have HP := Lib.hid hput
  have hlen := pgPutK_len L p (k, ((s : Nat) : Int), c)
  have HLen := Lib.hid hlen
  clear hM hszx hpw hh hord hand0 hck hcz hq hy hq2 hq3 hy2 hyo hE g3 hput hlen hpm
  obtain ⟨N, hN⟩ : ∃ N, L.length = N := ⟨_, rfl⟩
  have HN := Lib.hid hN
  rw [hN] at hs hs0 g1 hpL hqN hN4 hlp ⊢
  have HS := Lib.hid hs
  clear hN hs
  go_enter Try.func15, Try.ntmps15
  go_wp2_with (first | (go_at_call 16; refine (check_spec (Own.self w0) hs0).mono ?_; rintro e w1 ⟨rfl, h1⟩; rw [HC.out]; have hb1 := hb0.of_self h1; have e0 := hb1.cell List.mem_cons_self 0; have e1 := hb1.cell List.mem_cons_self 1; have e2 := hb1.cell List.mem_cons_self 2; simp at e0 e1 e2) | (go_at_call 48; refine (headed_spec hb1 k s c).mono ?_; rintro e w2 ⟨rfl, h2⟩; rw [HH.out]; have e3 := h2.cell List.mem_cons_self 0; have e4 := h2.cell List.mem_cons_self 1; have e5 := h2.cell List.mem_cons_self 2; simp at e3 e4 e5; have e6 := ((hA.own h2).2 q _ HY.out).2.1; simp only at e6))
  go_region_held3 (fun w' => w'.cell? ⟨w.heap.size, 1, none⟩ = some (.int .i64 s) ∧ w'.cell? ⟨g, oo + q * 3 + 1, none⟩ = some (.int .i64 y1)) (first | (refine ⟨?_, ?_⟩ <;> assumption) | go_keep)
    (first | (go_at_call 49; refine (head_spec h2.drew (HS.out.own h2.drew) HC.out p).mono ?_; rintro e w3 ⟨rfl, h3⟩; rw [HQ.out]; have e7 := h3.cell List.mem_cons_self 1; simp at e7; have e8 := ((hA.own h3).2 q _ HY.out).2.1; simp only at e8))
  have e9 := h3.cell List.mem_cons_self 0
  have e10 := h3.cell List.mem_cons_self 2
  simp at e9 e10
  go_wp2_with fail
  refine (cloneP_spec h3 (HS.out.own h3) (by rw [HN.out]; omega) (by rw [HN.out]; omega)).mono ?_
  rintro e w4 ⟨v4, bs4, rfl, o4, h4⟩
  obtain ⟨g4, cap4, cur4, hv4, -, -⟩ := o4.form (by rw [HN.out]; omega)
  rw [HN.out] at hv4
  obtain ⟨z, hz⟩ : ∃ z, L[p]? = some z := ⟨_, List.getElem?_eq_getElem (by rw [HN.out]; omega)⟩
  obtain ⟨a0, a1, a2, b0, b1, b2⟩ := pg_cells o4 h4 hv4 HN.out.symm hz
  obtain ⟨bs5, o5, h5⟩ := pg_store o4 h4 hv4 HN.out.symm (j := p) (by rw [HN.out]; omega) (k, ((s : Nat) : Int), c)
  subst hv4
  have O5 := Lib.hid o5
  have f0 := h4.dropL.cell List.mem_cons_self 0
  have f1 := h4.dropL.cell List.mem_cons_self 1
  have f2 := h4.dropL.cell List.mem_cons_self 2
  simp at f0 f1 f2
  simp only at h5
  clear o4 o5 e9 e10 hz
  go_wp2_with fail
  go_loopw [58] (fun j wr => ∃ i : Nat, i ≤ M - 1 ∧ j = .int .i64 i ∧ ∃ bs, Hid (PgO true (.slice (some ⟨g4, 0, none⟩) N cap4) (pgPutK L p (k, ((s : Nat) : Int), c) i) bs) ∧ Own w (bs ++ [(w.heap.size, .cells #[.int .i64 k, .int .i64 s, .int .i64 c] 24)]) wr) (fun j _ => M - (intOf j).toNat)
  case atStart => exact ⟨0, by omega, rfl, bs5, O5, h5⟩
  case round =>
    obtain ⟨i, hi, rfl, bs, O6, h6⟩ := hrel
    by_cases hlt : i < M - 1
    · have hlt' : (i : Int) < M - 1 := by omega
      obtain ⟨z, hz⟩ : ∃ z, (pgPutK L p (k, ((s : Nat) : Int), c) i)[p + 1 + i]? = some z := ⟨_, List.getElem?_eq_getElem (by rw [HLen.out, HN.out]; omega)⟩
      obtain ⟨a0, a1, a2, b0, b1, b2⟩ := pg_cells O6.out h6 rfl (by rw [HLen.out, HN.out]) hz
      obtain ⟨bs7, o7, h7⟩ := pg_store O6.out h6 rfl (by rw [HLen.out, HN.out]) (j := p + 1 + i) (by rw [HLen.out, HN.out]; omega) pgIn
      have O7 := Lib.hid o7
      simp only [pgIn] at h7
      have w1 : IntKind.i64.wrap ((p : Int) + 1) = (p : Int) + 1 := by rw [IntWalk.i64_in] <;> omega
      clear hz o7
      go_wp2_with fail
      exact ⟨⟨i + 1, by omega, by go_num, bs7, O7, h7⟩, by simp [intOf]; omega⟩
    · have hge : ¬ (i : Int) < M - 1 := by omega
      go_wp2_with fail
      go_ret2
      obtain rfl : i = M - 1 := by omega
      have o8 := O6.out
      rw [HP.out] at o8
      refine .inr ⟨HE.out, _, bs, rfl, ?_, h.join h6.dropR⟩
      rw [Int.toNat_natCast]
      have e : (pgPut L p (k, ((s : Nat) : Int), c)).length = N := by rw [pgPut_len (by rw [HSZ.out, HN.out]; exact hpL), HN.out]
      have o9 := o8
      unfold PgO at o9 ⊢
      exact o9
end
end Go.Proofs.Ytljcndcmdphmgaa
