/-
  Texts of this claim, joined. No condition.
-/
import Derived.Test.YtljcndcmdphmgaaZm4
import Derived.Test.YtljcndcmdphmgaaZm1
import Derived.Test.YtljcndcmdphmgaaZm3
/-
  Contracts: buddy.New, Left, Pages.
-/
namespace Go.Proofs.Ytljcndcmdphmgaa
open Go.RowKit
attribute [local go_sem ↓] Go.wp_at_zero Go.wp_at_succ
theorem flat3_zero : ∀ n, flat3 (List.replicate n (0, 0, 0)) = List.replicate (n * 3) 0
  | 0 => rfl
  | n + 1 => by
    rw [List.replicate_succ, flat3, flat3_zero n, Nat.succ_mul]
    simp only [List.replicate_succ]
theorem zero_own {W w : World} {m : List (Nat × Obj)} (h : Own W m w) (n : Nat) (hn : n ≤ 60000) :
    PgO false (.slice (some ⟨w.heap.size, 0, none⟩) n n) (List.replicate n (0, 0, 0)) [(w.heap.size, .cells (Array.replicate (n * 3) (.int .i64 0)) 24)] ∧
      Own W ([(w.heap.size, .cells (Array.replicate (n * 3) (.int .i64 0)) 24)] ++ m) (w.alloc (.cells (Array.replicate (n * 3) (.int .i64 0)) 24)) := by
  refine ⟨?_, h.new _⟩
  have := SlO.made false 24 3 w.heap.size n (Array.replicate (n * 3) (Value.int .i64 0)) n (Nat.le_refl _) (by unfold maxLen; omega) (by simp)
  unfold PgO
  rw [List.length_replicate, flat3_zero]
  have e : (Array.replicate (n * 3) (Value.int .i64 0)).toList.take (n * 3) = ints (List.replicate (n * 3) 0) := by
    rw [List.take_of_length_le (by simp)]
    simp [ints]
  rw [e] at this
  exact this
section
variable {W w : World} {m bl : List (Nat × Obj)} {pb : Nat} {L : List Pg}
set_option maxHeartbeats 1000000 in
theorem bnew_ok (h : Own W m w) (n : Nat) (h1 : 1 ≤ n) (h2 : n ≤ 1024) :
    Calls Try.prog 29 #[.int .i64 n] w fun e w' => ∃ pb bl, e = .returned (.tuple #[.pointer (some ⟨pb, 0, none⟩), .int .i64 0]) ∧ BdO pb (freshL n) bl ∧ Own W (bl ++ m) w' := by
  obtain ⟨i, hi, hz, hs, hb⟩ := info_get page_info
  have hmk := fun W => run_make_rowN (P := Try.prog) 22 24 i _ Try.underlying22 hi hz .i64 .i64 n n (Nat.le_refl _) (by rw [hb]; omega) (by omega) W
  rw [hs, madeCells_const _ (.int .i64 0) _ (by simp [Value.cells]) (by intro j hj; obtain rfl | rfl | rfl : j = 0 ∨ j = 1 ∨ j = 2 := (by simp [Value.cells] at hj; omega) <;> rfl)] at hmk
  obtain ⟨o1, h3⟩ := zero_own h n (by omega)
  have h4 := h3.new (.cells #[.slice (some ⟨w.heap.size, 0, none⟩) n n] 61)
  have hbd : BdO (w.heap.size + 1) (List.replicate n (0, 0, 0)) ((w.heap.size + 1, .cells #[.slice (some ⟨w.heap.size, 0, none⟩) n n] 61) :: [(w.heap.size, .cells (Array.replicate (n * 3) (.int .i64 0)) 24)]) := ⟨_, _, o1, rfl⟩
  have hl : (List.replicate n ((0 : Int), (0 : Int), (0 : Int))).length = n := List.length_replicate
  have h5 : Own W (((w.heap.size + 1, .cells #[.slice (some ⟨w.heap.size, 0, none⟩) n n] 61) :: [(w.heap.size, .cells (Array.replicate (n * 3) (.int .i64 0)) 24)]) ++ m) ((w.alloc (.cells (Array.replicate (n * 3) (.int .i64 0)) 24)).alloc (.cells #[.slice (some ⟨w.heap.size, 0, none⟩) n n] 61)) := by simpa using h4
  have hw := whole_spec h5 hbd (by rw [hl]; exact h1) (by rw [hl]; exact h2)
  rw [hl] at hw
  have HW := Lib.hid hw
  clear hi hz hs hb o1 h3 h4 hbd hl h5 hw
  go_enter Try.func29, Try.ntmps29
  go_wp2_with fail
  refine HW.out.mono ?_
  rintro e w2 ⟨bl, rfl, hb2, h6⟩
  go_wp2_with fail
  go_ret2
  exact ⟨_, bl, rfl, hb2, h6⟩
set_option maxHeartbeats 400000 in
theorem bnew_bad (n : Int) (hn : n < 1 ∨ 1024 < n) (w : World) :
    Calls Try.prog 29 #[.int .i64 n] w fun e w' => e = .returned (.tuple #[.pointer none, .int .i64 2]) ∧ w = w' := by
  go_enter Try.func29, Try.ntmps29
  go_wp2_with fail
  all_goals (try omega)
  all_goals go_ret2
  all_goals exact ⟨rfl, rfl⟩
set_option maxHeartbeats 400000 in
theorem left_spec (h : Own W (bl ++ m) w) (hb : BdO pb L bl) (hL1 : 1 ≤ L.length) :
    Calls Try.prog 22 #[.pointer (some ⟨pb, 0, none⟩)] w fun e w' => e = .returned (.int .i64 (pgFree L)) ∧ Own W (bl ++ m) w' := by
  obtain ⟨v, bs, ho, rfl⟩ := id hb
  have hc := bd_cell h
  have hr := bd_read ho h
  obtain ⟨A, cap, rfl, -, -⟩ := ho.slice
  have HB := Lib.hid hb
  go_enter Try.func22, Try.ntmps22
  go_wp2_with (first | (go_at_call 53; refine (none_spec h HB.out hL1).mono ?_; rintro e w' ⟨rfl, rfl⟩) | (go_at_call 19; refine (free_spec h hr).mono ?_; rintro e w' ⟨rfl, h1⟩))
  go_ret
  exact ⟨rfl, h1⟩
set_option maxHeartbeats 400000 in
theorem pages_spec (h : Own W (bl ++ m) w) (hb : BdO pb L bl) (hL1 : 1 ≤ L.length) (hL : L.length ≤ 1024) :
    Calls Try.prog 27 #[.pointer (some ⟨pb, 0, none⟩)] w fun e w' => ∃ v' bs', e = .returned v' ∧ PgO true v' L bs' ∧ Own W (bs' ++ (bl ++ m)) w' := by
  obtain ⟨v, bs, ho, rfl⟩ := id hb
  have hc := bd_cell h
  have hr := bd_read ho h
  obtain ⟨A, cap, rfl, -, -⟩ := ho.slice
  have HB := Lib.hid hb
  go_enter Try.func27, Try.ntmps27
  go_wp2_with (first | (go_at_call 53; refine (none_spec h HB.out hL1).mono ?_; rintro e w' ⟨rfl, rfl⟩) | (go_at_call 50; refine (cloneP_spec h hr (by omega) (by omega)).mono ?_; rintro e w' ⟨v', bs', rfl, o1, h1⟩))
  go_ret
  exact ⟨_, bs', rfl, o1, h1⟩
end
end Go.Proofs.Ytljcndcmdphmgaa

/-
  wainscotref00.Bring brings a number to be from 0 to below another one, which is above 0 and at most 2^62.
-/
namespace Go.Proofs.Ytljcndcmdphmgaa
open Go.RowKit

theorem tmod_emod (i n : Int) (hn : 1 ≤ n) : -n < i.tmod n ∧ i.tmod n < n ∧ (i.tmod n < 0 → i.tmod n + n = i % n) ∧ (0 ≤ i.tmod n → i.tmod n = i % n) := by
  have h1 := Int.emod_nonneg i (show n ≠ 0 from by omega)
  have h2 := Int.emod_lt_of_pos i (show 0 < n from by omega)
  have h3 := Int.tmod_eq_emod (a := i) (b := n)
  have h4 : n ∣ i ↔ i % n = 0 := Int.dvd_iff_emod_eq_zero
  have h5 : (n.natAbs : Int) = n := by omega
  have h6 : 0 ≤ i → 0 ≤ i.tmod n := fun h => Int.tmod_nonneg n h
  by_cases h0 : 0 ≤ i ∨ n ∣ i
  · rw [if_pos h0] at h3
    omega
  · rw [if_neg h0, h5] at h3
    have : ¬ n ∣ i := fun h => h0 (.inr h)
    have h7 : i % n ≠ 0 := fun h => this (h4.2 h)
    omega
theorem i64_of_wf {n : Int} (h : (Lit.int .i64 n).wf = true) : -9223372036854775808 ≤ n ∧ n ≤ 9223372036854775807 := by
  simpa [Lit.wf, IntKind.min, IntKind.max, IntKind.signed, IntKind.bits] using h
theorem emod_bd (i n : Int) (hn : 1 ≤ n) : 0 ≤ i % n ∧ i % n < n := ⟨Int.emod_nonneg _ (by omega), Int.emod_lt_of_pos _ (by omega)⟩

set_option maxHeartbeats 400000 in
theorem bring_spec (i n : Int) (h1 : 1 ≤ n) (h2 : n ≤ 4611686018427387904) (hi : (Lit.int .i64 i).wf = true) (w : World) :
    Calls Try.prog 23 #[.int .i64 i, .int .i64 n] w fun e w' => e = .returned (.int .i64 (i % n)) ∧ w = w' := by
  obtain ⟨t1, t2, t3, t4⟩ := tmod_emod i n h1
  have hi := i64_of_wf hi
  have T3 := Lib.hid t3
  have T4 := Lib.hid t4
  clear t3 t4
  by_cases h0 : 0 ≤ i
  · have hp : i.tmod n = i % n := T4.out (Int.tmod_nonneg n h0)
    have hq := emod_bd i n h1
    have H := Lib.hid hp
    clear hp
    go_enter Try.func23, Try.ntmps23
    go_wp2
    all_goals first | (exfalso; omega) | skip
    all_goals go_ret
    all_goals exact ⟨rfl, rfl⟩
  · go_enter Try.func23, Try.ntmps23
    go_wp2
    all_goals go_ret
    · rename_i hlt
      exact ⟨by simpa using T3.out (by assumption), rfl⟩
    · exact ⟨by simpa using T4.out (by assumption), rfl⟩
theorem bring_id (i n : Int) (h0 : 0 ≤ i) (h1 : i < n) (h2 : n ≤ 4611686018427387904) (w : World) :
    Calls Try.prog 23 #[.int .i64 i, .int .i64 n] w fun e w' => e = .returned (.int .i64 i) ∧ w = w' := by
  have c := bring_spec i n (by omega) h2 (by simp [Lit.wf, IntKind.min, IntKind.max, IntKind.signed, IntKind.bits]; omega) w
  rwa [Int.emod_eq_of_lt h0 h1] at c
end Go.Proofs.Ytljcndcmdphmgaa

/-
  Contract: frame.Set, of any table, head and page below 2^62.
-/
namespace Go.Proofs.Ytljcndcmdphmgaa
open Go.RowKit
attribute [local go_sem ↓] Go.wp_at_zero Go.wp_at_succ
theorem pgHd_get {L : List Pg} {page : Int} (hc : pgCheck L = 0) (h0 : 0 ≤ page) (h1 : page < L.length) : ∃ (q : Nat) (y : Pg), pgHd L page = q ∧ L[q]? = some y ∧ (q : Int) ≤ page ∧ page < q + pgSize y ∧ pgHead y = true ∧ q + pgSize y ≤ L.length := by
  obtain ⟨bs, hT⟩ := pgCheck_tab hc
  have hlen := tab_len hT
  obtain ⟨p, rfl⟩ : ∃ p : Nat, page = p := ⟨page.toNat, by omega⟩
  obtain ⟨b1, y, b2, rfl, h3, h4⟩ := row_find bs 0 p (by omega) (by omega)
  rw [Nat.zero_add] at h3 h4
  obtain ⟨e1, e2⟩ := pgHd_at hT (page := (p : Int)) (by omega) (by omega)
  have hrow := (row_append b1 (y :: b2) 0).1 hT.2
  have hll : (lay (b1 ++ y :: b2)).length = (lay b1).length + (lay (y :: b2)).length := by rw [lay_append, List.length_append]
  have := lay_cons_len y b2
  exact ⟨_, y, e1, e2, by omega, by omega, hrow.2.1, by omega⟩
section
variable {W w : World} {m : List (Nat × Obj)} {v : Value} {L : List Pg}
/-- what Set answers -/
def SetPost (W : World) (m : List (Nat × Obj)) (L : List Pg) (page : Int) (x : Pg) (e : Ending) (w' : World) : Prop :=
  (pgSetE L page x ≠ 0 ∧ e = .returned (.tuple #[.slice none 0 0, .int .i64 (pgSetE L page x)]) ∧ Own W m w') ∨
  (pgSetE L page x = 0 ∧ ∃ v' bs, e = .returned (.tuple #[v', .int .i64 0]) ∧ PgO true v' (pgPut L page.toNat x) bs ∧ Own W (bs ++ m) w')
set_option maxRecDepth 100000 in
set_option maxHeartbeats 4000000 in
theorem Set_no (h : Own W m w) (hs : PgS w v L) (page : Int) (k o c : Int) (hp : page < 4611686018427387904) (hE : pgSetE L page (k, o, c) ≠ 0) :
    Calls Try.prog 15 #[v, .int .i64 page, .agg #[.int .i64 k, .int .i64 o, .int .i64 c]] w (SetPost W m L page (k, o, c)) := by
  have hs' := hs
  obtain ⟨A, cc, rfl, g1, g2, g3⟩ := hs'
  unfold maxLen at g2
  have HE := Lib.hid hE
  have hb0 := (Own.self w).new (.cells #[.int .i64 k, .int .i64 o, .int .i64 c] 24)
  have hs0 := hs.own ((Own.self w).alloc (.cells #[.int .i64 k, .int .i64 o, .int .i64 c] 24))
  obtain ⟨w0, hw0⟩ : ∃ w0, w.alloc (.cells #[.int .i64 k, .int .i64 o, .int .i64 c] 24) = w0 := ⟨_, rfl⟩
  rw [hw0] at hb0 hs0
  clear hE g3
  obtain ⟨N, hN⟩ : ∃ N, L.length = N := ⟨_, rfl⟩
  have HN := Lib.hid hN
  rw [hN] at hs hs0 g1 ⊢
  have HS := Lib.hid hs
  clear hN hs
  cases hck : decide (pgCheck L = 0) with
  | false =>
    have hc : pgCheck L = 50 := (pgCheck_cases L).resolve_left (of_decide_eq_false hck)
    have he : pgSetE L page (k, o, c) = 50 := by unfold pgSetE; rw [if_pos (by rw [hc]; decide)]
    have HC := Lib.hid hc
    have HE2 := Lib.hid he
    clear hc he hck
    go_enter Try.func15, Try.ntmps15
    go_wp2_with (go_at_call 16; refine (check_spec (Own.self w0) hs0).mono ?_; rintro e w1 ⟨rfl, h1⟩; rw [HC.out])
    go_ret2
    exact .inl ⟨HE.out, by rw [HE2.out]; rfl, h.of_self ((hb0.sub (List.nil_sublist _)).of_self h1)⟩
  | true =>
    have HC := Lib.hid (of_decide_eq_true hck)
    clear hck
    cases hh : pgHead (k, o, c) with
    | false =>
      have he : pgSetE L page (k, o, c) = 2 := by unfold pgSetE; rw [if_neg (by rw [HC.out]; simp), if_pos hh]
      have HE2 := Lib.hid he
      have HH := Lib.hid hh
      clear he hh
      go_enter Try.func15, Try.ntmps15
      go_wp2_with (first | (go_at_call 16; refine (check_spec (Own.self w0) hs0).mono ?_; rintro e w1 ⟨rfl, h1⟩; rw [HC.out]; have hb1 := hb0.of_self h1; have e0 := hb1.cell List.mem_cons_self 0; have e1 := hb1.cell List.mem_cons_self 1; have e2 := hb1.cell List.mem_cons_self 2; simp at e0 e1 e2) | (go_at_call 48; refine (headed_spec hb1 k o c).mono ?_; rintro e w2 ⟨rfl, h2⟩; rw [HH.out]))
      go_ret2
      exact .inl ⟨HE.out, by rw [HE2.out]; rfl, h.of_self (h2.sub (List.nil_sublist _))⟩
    | true =>
      have hord := pgHead_order hh
      simp only at hord
      obtain ⟨s, rfl⟩ : ∃ s : Nat, o = (s : Int) := ⟨o.toNat, by omega⟩
      have hpw : (2 : Nat) ^ s ≤ 2 ^ 10 := Nat.pow_le_pow_right (by omega) (by omega)
      have hmin : min s 64 = s := by omega
      have hand0 := and_mask_i64 page s (by omega)
      obtain ⟨M, hM⟩ : ∃ M : Nat, 2 ^ s = M := ⟨_, rfl⟩
      have hMi : (2 : Int) ^ s = (M : Int) := by rw [← hM]; simp
      have hM1 : 1 ≤ M := by rw [← hM]; exact Nat.one_le_two_pow
      have hM2 : M ≤ 1024 := by omega
      have hsn : (0 : Int) ≤ s := by omega
      have hszx : pgSize (k, ((s : Nat) : Int), c) = M := by simp [pgSize, hM]
      have HSZ := Lib.hid hszx
      rw [hMi] at hand0
      have HH := Lib.hid hh
      clear hM hszx hpw hh hord
      have hmb := emod_bd page M (by omega)
      by_cases hr : page < 0 ∨ page % M ≠ 0 ∨ (N : Int) < page + M
      · have he : pgSetE L page (k, ((s : Nat) : Int), c) = 9 := by unfold pgSetE; rw [if_neg (by rw [HC.out]; simp), if_neg (by rw [HH.out]; simp), if_pos (by rw [HSZ.out, HN.out]; exact hr)]
        have HE2 := Lib.hid he
        clear he
        obtain ⟨R, hR⟩ : ∃ R, page % M = R := ⟨_, rfl⟩
        rw [hR] at hr hand0 hmb
        clear hR
        by_cases hp0 : page < 0
        · clear hr
          go_enter Try.func15, Try.ntmps15
          go_wp2_with (first | (go_at_call 16; refine (check_spec (Own.self w0) hs0).mono ?_; rintro e w1 ⟨rfl, h1⟩; rw [HC.out]; have hb1 := hb0.of_self h1; have e0 := hb1.cell List.mem_cons_self 0; have e1 := hb1.cell List.mem_cons_self 1; have e2 := hb1.cell List.mem_cons_self 2; simp at e0 e1 e2) | (go_at_call 48; refine (headed_spec hb1 k s c).mono ?_; rintro e w2 ⟨rfl, h2⟩; rw [HH.out]; have e3 := h2.cell List.mem_cons_self 0; have e4 := h2.cell List.mem_cons_self 1; have e5 := h2.cell List.mem_cons_self 2; simp at e3 e4 e5))
          go_ret2
          exact .inl ⟨HE.out, by rw [HE2.out]; rfl, h.of_self (h2.sub (List.nil_sublist _))⟩
        · have hp1 : 0 ≤ page := by omega
          by_cases hR0 : R = 0
          · have hgt : (N : Int) < page + M := by omega
            clear hr
            go_enter Try.func15, Try.ntmps15
            go_wp2_with (first | (go_at_call 16; refine (check_spec (Own.self w0) hs0).mono ?_; rintro e w1 ⟨rfl, h1⟩; rw [HC.out]; have hb1 := hb0.of_self h1; have e0 := hb1.cell List.mem_cons_self 0; have e1 := hb1.cell List.mem_cons_self 1; have e2 := hb1.cell List.mem_cons_self 2; simp at e0 e1 e2) | (go_at_call 48; refine (headed_spec hb1 k s c).mono ?_; rintro e w2 ⟨rfl, h2⟩; rw [HH.out]; have e3 := h2.cell List.mem_cons_self 0; have e4 := h2.cell List.mem_cons_self 1; have e5 := h2.cell List.mem_cons_self 2; simp at e3 e4 e5))
            go_ret2
            exact .inl ⟨HE.out, by rw [HE2.out]; rfl, h.of_self (h2.sub (List.nil_sublist _))⟩
          · clear hr
            go_enter Try.func15, Try.ntmps15
            go_wp2_with (first | (go_at_call 16; refine (check_spec (Own.self w0) hs0).mono ?_; rintro e w1 ⟨rfl, h1⟩; rw [HC.out]; have hb1 := hb0.of_self h1; have e0 := hb1.cell List.mem_cons_self 0; have e1 := hb1.cell List.mem_cons_self 1; have e2 := hb1.cell List.mem_cons_self 2; simp at e0 e1 e2) | (go_at_call 48; refine (headed_spec hb1 k s c).mono ?_; rintro e w2 ⟨rfl, h2⟩; rw [HH.out]; have e3 := h2.cell List.mem_cons_self 0; have e4 := h2.cell List.mem_cons_self 1; have e5 := h2.cell List.mem_cons_self 2; simp at e3 e4 e5))
            go_ret2
            exact .inl ⟨HE.out, by rw [HE2.out]; rfl, h.of_self (h2.sub (List.nil_sublist _))⟩
      · have hr1 : 0 ≤ page := by omega
        have hr2 : page % M = 0 := by omega
        have hr3 : page + M ≤ N := by omega
        obtain ⟨q, y, hq, hy, hq1, hq2, hy2, hq3⟩ := pgHd_get HC.out hr1 (by rw [HN.out]; omega)
        obtain ⟨y0, y1, y2⟩ := y
        have hyo := pgHead_order hy2
        simp only at hyo
        rw [HN.out] at hq3
        have hqN : (q : Int) < N := by have := pgSize_pos (y0, y1, y2); omega
        have ho : (s : Int) < y1 := by
          rcases Int.lt_or_le (s : Int) y1 with h1 | h1
          · exact h1
          · refine absurd ?_ HE.out
            unfold pgSetE
            rw [if_neg (by rw [HC.out]; simp), if_neg (by rw [HH.out]; simp), if_neg (by rw [HSZ.out, HN.out]; exact hr), if_neg]
            rw [hq, Int.toNat_natCast, List.getD_eq_getElem?_getD, hy]
            simp only [Option.getD_some]
            omega
        have he : pgSetE L page (k, ((s : Nat) : Int), c) = 50 := by
          unfold pgSetE
          rw [if_neg (by rw [HC.out]; simp), if_neg (by rw [HH.out]; simp), if_neg (by rw [HSZ.out, HN.out]; exact hr), if_pos]
          rw [hq, Int.toNat_natCast, List.getD_eq_getElem?_getD, hy]
          exact ho
        have HE2 := Lib.hid he
        have HQ := Lib.hid hq
        have HY := Lib.hid hy
        obtain ⟨A', c', hv, _, _, hA0⟩ := HS.out
        obtain ⟨g, oo, rfl, hA⟩ := hA0 (by rw [HN.out]; omega)
        obtain ⟨rfl, -, rfl⟩ : A = some ⟨g, oo, none⟩ ∧ True ∧ cc = c' := by cases hv; exact ⟨rfl, trivial, rfl⟩
        clear hA0 hv he hq hy hr hyo hq2 hq3 hy2
        have hand : bits .and .i64 page ((M : Int) - 1) = 0 := by rw [hand0, hr2]
        clear hand0 hr2 hmb
        go_enter Try.func15, Try.ntmps15
        go_wp2_with (first | (go_at_call 16; refine (check_spec (Own.self w0) hs0).mono ?_; rintro e w1 ⟨rfl, h1⟩; rw [HC.out]; have hb1 := hb0.of_self h1; have e0 := hb1.cell List.mem_cons_self 0; have e1 := hb1.cell List.mem_cons_self 1; have e2 := hb1.cell List.mem_cons_self 2; simp at e0 e1 e2) | (go_at_call 48; refine (headed_spec hb1 k s c).mono ?_; rintro e w2 ⟨rfl, h2⟩; rw [HH.out]; have e3 := h2.cell List.mem_cons_self 0; have e4 := h2.cell List.mem_cons_self 1; have e5 := h2.cell List.mem_cons_self 2; simp at e3 e4 e5; have e6 := ((hA.own h2).2 q _ HY.out).2.1; simp only at e6))
        go_region_held3 (fun w' => w'.cell? ⟨w.heap.size, 1, none⟩ = some (.int .i64 s) ∧ w'.cell? ⟨g, oo + q * 3 + 1, none⟩ = some (.int .i64 y1)) (first | (refine ⟨?_, ?_⟩ <;> assumption) | go_keep)
          (first | (go_at_call 49; refine (head_spec h2.drew (HS.out.own h2.drew) HC.out page).mono ?_; rintro e w3 ⟨rfl, h3⟩; rw [HQ.out]; have e7 := h3.cell List.mem_cons_self 1; simp at e7; have e8 := ((hA.own h3).2 q _ HY.out).2.1; simp only at e8))
        go_wp2_with fail
        go_ret2
        exact .inl ⟨HE.out, by rw [HE2.out]; rfl, h.of_self (h3.sub (List.nil_sublist _))⟩
set_option maxRecDepth 100000 in
set_option maxHeartbeats 4000000 in
theorem Set_ok (h : Own W m w) (hs : PgS w v L) (page : Int) (k o c : Int) (hE : pgSetE L page (k, o, c) = 0) :
    Calls Try.prog 15 #[v, .int .i64 page, .agg #[.int .i64 k, .int .i64 o, .int .i64 c]] w (SetPost W m L page (k, o, c)) := by
  have hs' := hs
  obtain ⟨A, cc, rfl, g1, g2, g3⟩ := hs'
  unfold maxLen at g2
  have HE := Lib.hid hE
  have hb0 := (Own.self w).new (.cells #[.int .i64 k, .int .i64 o, .int .i64 c] 24)
  have hs0 := hs.own ((Own.self w).alloc (.cells #[.int .i64 k, .int .i64 o, .int .i64 c] 24))
  obtain ⟨w0, hw0⟩ : ∃ w0, w.alloc (.cells #[.int .i64 k, .int .i64 o, .int .i64 c] 24) = w0 := ⟨_, rfl⟩
  rw [hw0] at hb0 hs0
  obtain ⟨p, -, -, -, rfl, hpL, hck, hh, hpm, -, -, -, -⟩ := pgSet_ok hE
  have hord := pgHead_order hh
  simp only at hord
  obtain ⟨s, rfl⟩ : ∃ s : Nat, o = (s : Int) := ⟨o.toNat, by omega⟩
  have hpw : (2 : Nat) ^ s ≤ 2 ^ 10 := Nat.pow_le_pow_right (by omega) (by omega)
  have hmin : min s 64 = s := by omega
  have hand0 := and_mask_i64 p s (by omega)
  obtain ⟨M, hM⟩ : ∃ M : Nat, 2 ^ s = M := ⟨_, rfl⟩
  have hMi : (2 : Int) ^ s = (M : Int) := by rw [← hM]; simp
  have hM1 : 1 ≤ M := by rw [← hM]; exact Nat.one_le_two_pow
  have hM2 : M ≤ 1024 := by omega
  have hsn : (0 : Int) ≤ s := by omega
  have hszx : pgSize (k, ((s : Nat) : Int), c) = M := by simp [pgSize, hM]
  have HSZ := Lib.hid hszx
  rw [hMi] at hand0
  have HH := Lib.hid hh
  rw [hszx] at hpL hpm
  have hand : bits .and .i64 (p : Int) ((M : Int) - 1) = 0 := by rw [hand0, ← Int.natCast_emod, hpm]; rfl
  have HC := Lib.hid hck
  have hcz := pgCheck_zero hck
  have hN4 : L.length ≤ 1024 := hcz.2.1
  obtain ⟨q, y, hq, hy, hq1, hq2, hy2, hq3⟩ := pgHd_get (page := (p : Int)) hck (by omega) (by omega)
  obtain ⟨y0, y1, y2⟩ := y
  have hyo := pgHead_order hy2
  simp only at hyo
  have hqN : (q : Int) < L.length := by have := pgSize_pos (y0, y1, y2); omega
  have ho : y1 ≤ (s : Int) := by
    rcases Int.lt_or_le (s : Int) y1 with h1 | h1
    · have := HE.out
      unfold pgSetE at this
      rw [if_neg (by rw [HC.out]; simp), if_neg (by rw [HH.out]; simp), if_neg (by rw [HSZ.out, ← Int.natCast_emod, hpm]; omega), if_pos] at this
      · omega
      · rw [hq, Int.toNat_natCast, List.getD_eq_getElem?_getD, hy]
        exact h1
    · exact h1
  have HQ := Lib.hid hq
  have HY := Lib.hid hy
  obtain ⟨g, oo, rfl, hA⟩ := g3 (by omega)
  have hlp : 0 < L.length := by omega
  have hput := pgPutK_put (L := L) (p := p) (x := (k, ((s : Nat) : Int), c)) (by rw [hszx]; exact hpL)
  rw [hszx] at hput
  have HP := Lib.hid hput
  have hlen := pgPutK_len L p (k, ((s : Nat) : Int), c)
  have HLen := Lib.hid hlen
  clear hM hszx hpw hh hord hand0 hck hcz hq hy hq2 hq3 hy2 hyo hE g3 hput hlen hpm
  obtain ⟨N, hN⟩ : ∃ N, L.length = N := ⟨_, rfl⟩
  have HN := Lib.hid hN
  rw [hN] at hs hs0 g1 hpL hqN hN4 hlp ⊢
  have HS := Lib.hid hs
  clear hN hs
  go_enter Try.func15, Try.ntmps15
  go_wp2_with (first | (go_at_call 16; refine (check_spec (Own.self w0) hs0).mono ?_; rintro e w1 ⟨rfl, h1⟩; rw [HC.out]; have hb1 := hb0.of_self h1; have e0 := hb1.cell List.mem_cons_self 0; have e1 := hb1.cell List.mem_cons_self 1; have e2 := hb1.cell List.mem_cons_self 2; simp at e0 e1 e2) | (go_at_call 48; refine (headed_spec hb1 k s c).mono ?_; rintro e w2 ⟨rfl, h2⟩; rw [HH.out]; have e3 := h2.cell List.mem_cons_self 0; have e4 := h2.cell List.mem_cons_self 1; have e5 := h2.cell List.mem_cons_self 2; simp at e3 e4 e5; have e6 := ((hA.own h2).2 q _ HY.out).2.1; simp only at e6))
  go_region_held3 (fun w' => w'.cell? ⟨w.heap.size, 1, none⟩ = some (.int .i64 s) ∧ w'.cell? ⟨g, oo + q * 3 + 1, none⟩ = some (.int .i64 y1)) (first | (refine ⟨?_, ?_⟩ <;> assumption) | go_keep)
    (first | (go_at_call 49; refine (head_spec h2.drew (HS.out.own h2.drew) HC.out p).mono ?_; rintro e w3 ⟨rfl, h3⟩; rw [HQ.out]; have e7 := h3.cell List.mem_cons_self 1; simp at e7; have e8 := ((hA.own h3).2 q _ HY.out).2.1; simp only at e8))
  have e9 := h3.cell List.mem_cons_self 0
  have e10 := h3.cell List.mem_cons_self 2
  simp at e9 e10
  go_wp2_with fail
  refine (cloneP_spec h3 (HS.out.own h3) (by rw [HN.out]; omega) (by rw [HN.out]; omega)).mono ?_
  rintro e w4 ⟨v4, bs4, rfl, o4, h4⟩
  obtain ⟨g4, cap4, cur4, hv4, -, -⟩ := o4.form (by rw [HN.out]; omega)
  rw [HN.out] at hv4
  obtain ⟨z, hz⟩ : ∃ z, L[p]? = some z := ⟨_, List.getElem?_eq_getElem (by rw [HN.out]; omega)⟩
  obtain ⟨a0, a1, a2, b0, b1, b2⟩ := pg_cells o4 h4 hv4 HN.out.symm hz
  obtain ⟨bs5, o5, h5⟩ := pg_store o4 h4 hv4 HN.out.symm (j := p) (by rw [HN.out]; omega) (k, ((s : Nat) : Int), c)
  subst hv4
  have O5 := Lib.hid o5
  have f0 := h4.dropL.cell List.mem_cons_self 0
  have f1 := h4.dropL.cell List.mem_cons_self 1
  have f2 := h4.dropL.cell List.mem_cons_self 2
  simp at f0 f1 f2
  simp only at h5
  clear o4 o5 e9 e10 hz
  go_wp2_with fail
  go_loopw [58] (fun j wr => ∃ i : Nat, i ≤ M - 1 ∧ j = .int .i64 i ∧ ∃ bs, Hid (PgO true (.slice (some ⟨g4, 0, none⟩) N cap4) (pgPutK L p (k, ((s : Nat) : Int), c) i) bs) ∧ Own w (bs ++ [(w.heap.size, .cells #[.int .i64 k, .int .i64 s, .int .i64 c] 24)]) wr) (fun j _ => M - (intOf j).toNat)
  case atStart => exact ⟨0, by omega, rfl, bs5, O5, h5⟩
  case round =>
    obtain ⟨i, hi, rfl, bs, O6, h6⟩ := hrel
    by_cases hlt : i < M - 1
    · have hlt' : (i : Int) < M - 1 := by omega
      obtain ⟨z, hz⟩ : ∃ z, (pgPutK L p (k, ((s : Nat) : Int), c) i)[p + 1 + i]? = some z := ⟨_, List.getElem?_eq_getElem (by rw [HLen.out, HN.out]; omega)⟩
      obtain ⟨a0, a1, a2, b0, b1, b2⟩ := pg_cells O6.out h6 rfl (by rw [HLen.out, HN.out]) hz
      obtain ⟨bs7, o7, h7⟩ := pg_store O6.out h6 rfl (by rw [HLen.out, HN.out]) (j := p + 1 + i) (by rw [HLen.out, HN.out]; omega) pgIn
      have O7 := Lib.hid o7
      simp only [pgIn] at h7
      have w1 : IntKind.i64.wrap ((p : Int) + 1) = (p : Int) + 1 := by rw [IntWalk.i64_in] <;> omega
      clear hz o7
      go_wp2_with fail
      exact ⟨⟨i + 1, by omega, by go_num, bs7, O7, h7⟩, by simp [intOf]; omega⟩
    · have hge : ¬ (i : Int) < M - 1 := by omega
      go_wp2_with fail
      go_ret2
      obtain rfl : i = M - 1 := by omega
      have o8 := O6.out
      rw [HP.out] at o8
      refine .inr ⟨HE.out, _, bs, rfl, ?_, h.join h6.dropR⟩
      rw [Int.toNat_natCast]
      have e : (pgPut L p (k, ((s : Nat) : Int), c)).length = N := by rw [pgPut_len (by rw [HSZ.out, HN.out]; exact hpL), HN.out]
      have o9 := o8
      unfold PgO at o9 ⊢
      exact o9
end
end Go.Proofs.Ytljcndcmdphmgaa

/-
  Contract: slices.Equal of pages.
-/
namespace Go.Proofs.Ytljcndcmdphmgaa
open Go.RowKit
attribute [local go_sem ↓] Go.wp_at_zero Go.wp_at_succ
set_option maxHeartbeats 2000000 in
theorem equalP_spec {w : World} {v1 v2 : Value} {L1 L2 : List Pg} (h1 : PgS w v1 L1) (h2 : PgS w v2 L2) (hl : L1.length ≤ 60000) (_hl2 : L2.length ≤ 60000) :
    Calls Try.prog 55 #[v1, v2] w fun e w' => e = .returned (.bool (decide (L1 = L2))) ∧ Own w [] w' := by
  obtain ⟨A1, c1, rfl, g1, g2, g3⟩ := h1
  obtain ⟨A2, c2, rfl, k1, k2, k3⟩ := h2
  by_cases hlen : L1.length = L2.length
  · obtain ⟨N, hN⟩ : ∃ N, L1.length = N := ⟨_, rfl⟩
    have hN2 : L2.length = N := by omega
    have HN := Lib.hid hN
    have HN2 := Lib.hid hN2
    rw [hN] at g1 g3 hl ⊢
    rw [hN2] at k1 k3 ⊢
    clear hN hN2 hlen _hl2
    by_cases h0 : N = 0
    · subst h0
      have e1 := List.eq_nil_of_length_eq_zero HN.out
      have e2 := List.eq_nil_of_length_eq_zero HN2.out
      subst e1 e2
      go_enter Try.func55, Try.ntmps55
      go_wp2_with fail
      go_loop [13] (fun i => i = .int .i64 0) (fun _ => 0)
      case atStart => exact rfl
      case round =>
        subst hrel
        go_wp2_with fail
        go_ret
        exact ⟨rfl, Own.self w⟩
    · obtain ⟨b1, o1, rfl, m1⟩ := g3 (by omega)
      obtain ⟨b2, o2, rfl, m2⟩ := k3 (by omega)
      clear g3 k3
      unfold maxLen at g2 k2
      go_enter Try.func55, Try.ntmps55
      go_wp2_with fail
      go_loopw [13] (fun j wr => ∃ i : Nat, i ≤ N ∧ j = .int .i64 i ∧ Hid (L1.take i = L2.take i) ∧ Own w [] wr) (fun j _ => N - (intOf j).toNat)
      case atStart => exact ⟨0, by omega, rfl, rfl, Own.self w⟩
      case round =>
        obtain ⟨i, hi, rfl, HT, hr⟩ := hrel
        by_cases hlt : i < N
        · obtain ⟨⟨p0, p1, p2⟩, hp⟩ : ∃ p, L1[i]? = some p := ⟨_, List.getElem?_eq_getElem (by rw [HN.out]; exact hlt)⟩
          obtain ⟨⟨q0, q1, q2⟩, hq⟩ : ∃ p, L2[i]? = some p := ⟨_, List.getElem?_eq_getElem (by rw [HN2.out]; exact hlt)⟩
          obtain ⟨x0, x1, x2⟩ := (m1.own hr).2 i _ hp
          obtain ⟨y0, y1, y2⟩ := (m2.own hr).2 i _ hq
          simp only at x0 x1 x2 y0 y1 y2
          have HP := Lib.hid hp
          have HQ := Lib.hid hq
          clear hp hq
          by_cases e0 : p0 = q0
          · subst e0
            by_cases e1 : p1 = q1
            · subst e1
              by_cases e2 : p2 = q2
              · subst e2
                go_wp2_with fail
                go_region_held3 (fun w' => (w'.cell? ⟨b1, o1 + i * 3, none⟩ = some (.int .i64 p0) ∧ w'.cell? ⟨b1, o1 + i * 3 + 1, none⟩ = some (.int .i64 p1) ∧ w'.cell? ⟨b1, o1 + i * 3 + 2, none⟩ = some (.int .i64 p2)) ∧ (w'.cell? ⟨b2, o2 + i * 3, none⟩ = some (.int .i64 p0) ∧ w'.cell? ⟨b2, o2 + i * 3 + 1, none⟩ = some (.int .i64 p1) ∧ w'.cell? ⟨b2, o2 + i * 3 + 2, none⟩ = some (.int .i64 p2))) (first | assumption | go_keep) (fail)
                go_wp2_with fail
                have ht : L1.take (i + 1) = L2.take (i + 1) := by rw [List.take_add_one, List.take_add_one, HT.out, HP.out, HQ.out]
                exact ⟨⟨i + 1, by omega, by go_num, ht, hr.drew⟩, by simp [intOf]; omega⟩
              · have n2 : (p2 == q2) = false := beq_eq_false_iff_ne.2 e2
                go_wp2_with fail
                go_region_held3 (fun w' => (w'.cell? ⟨b1, o1 + i * 3, none⟩ = some (.int .i64 p0) ∧ w'.cell? ⟨b1, o1 + i * 3 + 1, none⟩ = some (.int .i64 p1) ∧ w'.cell? ⟨b1, o1 + i * 3 + 2, none⟩ = some (.int .i64 p2)) ∧ (w'.cell? ⟨b2, o2 + i * 3, none⟩ = some (.int .i64 p0) ∧ w'.cell? ⟨b2, o2 + i * 3 + 1, none⟩ = some (.int .i64 p1) ∧ w'.cell? ⟨b2, o2 + i * 3 + 2, none⟩ = some (.int .i64 q2))) (first | assumption | go_keep) (fail)
                go_wp2_with fail
                go_ret
                exact ⟨by rw [decide_eq_false (fun h => by have := HP.out; rw [h, HQ.out] at this; simp_all)]; rfl, hr.drew⟩
            · have n1 : (p1 == q1) = false := beq_eq_false_iff_ne.2 e1
              go_wp2_with fail
              go_region_held3 (fun w' => (w'.cell? ⟨b1, o1 + i * 3, none⟩ = some (.int .i64 p0) ∧ w'.cell? ⟨b1, o1 + i * 3 + 1, none⟩ = some (.int .i64 p1) ∧ w'.cell? ⟨b1, o1 + i * 3 + 2, none⟩ = some (.int .i64 p2)) ∧ (w'.cell? ⟨b2, o2 + i * 3, none⟩ = some (.int .i64 p0) ∧ w'.cell? ⟨b2, o2 + i * 3 + 1, none⟩ = some (.int .i64 q1) ∧ w'.cell? ⟨b2, o2 + i * 3 + 2, none⟩ = some (.int .i64 q2))) (first | assumption | go_keep) (fail)
              go_wp2_with fail
              go_ret
              exact ⟨by rw [decide_eq_false (fun h => by have := HP.out; rw [h, HQ.out] at this; simp_all)]; rfl, hr.drew⟩
          · have n0 : (p0 == q0) = false := beq_eq_false_iff_ne.2 e0
            go_wp2_with fail
            go_region_held3 (fun w' => (w'.cell? ⟨b1, o1 + i * 3, none⟩ = some (.int .i64 p0) ∧ w'.cell? ⟨b1, o1 + i * 3 + 1, none⟩ = some (.int .i64 p1) ∧ w'.cell? ⟨b1, o1 + i * 3 + 2, none⟩ = some (.int .i64 p2)) ∧ (w'.cell? ⟨b2, o2 + i * 3, none⟩ = some (.int .i64 q0) ∧ w'.cell? ⟨b2, o2 + i * 3 + 1, none⟩ = some (.int .i64 q1) ∧ w'.cell? ⟨b2, o2 + i * 3 + 2, none⟩ = some (.int .i64 q2))) (first | assumption | go_keep) (fail)
            go_wp2_with fail
            go_ret
            exact ⟨by rw [decide_eq_false (fun h => by have := HP.out; rw [h, HQ.out] at this; simp_all)]; rfl, hr.drew⟩
        · obtain rfl : i = N := by omega
          go_wp2_with fail
          go_ret
          have : L1 = L2 := by
            have := HT.out
            rwa [List.take_of_length_le (by rw [HN.out]; omega), List.take_of_length_le (by rw [HN2.out]; omega)] at this
          exact ⟨by rw [decide_eq_true this]; rfl, hr⟩
  · have hne : L1 ≠ L2 := fun h => hlen (by rw [h])
    have HNE := Lib.hid hne
    clear hne g3 k3
    obtain ⟨N, hN⟩ : ∃ N, L1.length = N := ⟨_, rfl⟩
    obtain ⟨M, hM⟩ : ∃ N, L2.length = N := ⟨_, rfl⟩
    rw [hN, hM] at hlen
    rw [hN, hM]
    clear hN hM
    go_enter Try.func55, Try.ntmps55
    go_wp2_with fail
    go_ret
    exact ⟨by rw [decide_eq_false HNE.out]; rfl, Own.self w⟩
end Go.Proofs.Ytljcndcmdphmgaa

/-
  Contracts: Frees, Whole.
-/
namespace Go.Proofs.Ytljcndcmdphmgaa
open Go.RowKit
attribute [local go_sem ↓] Go.wp_at_zero Go.wp_at_succ
/-- the places of the free blocks of an order, below n -/
def freesTo (L : List Pg) (o n : Nat) : List Int := ((List.range n).filter fun a => decide (L[a]? = some (fb o))).map fun a => ((a : Nat) : Int)
def freesL (L : List Pg) (o : Int) : List Int := if 0 ≤ o ∧ o ≤ 10 then freesTo L o.toNat L.length else []
theorem freesTo_len (L : List Pg) (o n : Nat) : (freesTo L o n).length ≤ n := by
  unfold freesTo
  rw [List.length_map]
  exact Nat.le_trans (List.length_filter_le _ _) (by simp)
theorem freesTo_succ (L : List Pg) (o n : Nat) : freesTo L o (n + 1) = freesTo L o n ++ if L[n]? = some (fb o) then [(n : Int)] else [] := by
  unfold freesTo
  rw [List.range_succ, List.filter_append, List.map_append]
  by_cases h : L[n]? = some (fb o) <;> simp [h]
theorem freesTo_gap (L : List Pg) (o n : Nat) : ∀ k, (∀ a, n ≤ a → a < n + k → L[a]? ≠ some (fb o)) → freesTo L o (n + k) = freesTo L o n
  | 0, _ => rfl
  | k + 1, h => by
    rw [← Nat.add_assoc, freesTo_succ, if_neg (h _ (by omega) (by omega)), List.append_nil]
    exact freesTo_gap L o n k fun a h1 h2 => h a h1 (by omega)
theorem freesTo_past (L : List Pg) (o n : Nat) (h : L.length ≤ n) : freesTo L o n = freesTo L o L.length := by
  obtain ⟨k, rfl⟩ : ∃ k, n = L.length + k := ⟨n - L.length, by omega⟩
  exact freesTo_gap L o _ k fun a h1 _ he => by rw [List.getElem?_eq_none h1] at he; cases he
theorem freesTo_step {L bs : List Pg} (hT : Tab L bs) (o n : Nat) (hn : n % 2 ^ o = 0) : freesTo L o (n + 2 ^ o) = freesTo L o n ++ if L[n]? = some (fb o) then [(n : Int)] else [] := by
  have hp := Nat.two_pow_pos o
  obtain ⟨k, hk⟩ : ∃ k, 2 ^ o = 1 + k := ⟨2 ^ o - 1, by omega⟩
  have : n + 2 ^ o = (n + 1) + k := by omega
  rw [this, freesTo_gap L o (n + 1) k, freesTo_succ]
  intro a h1 h2 he
  have h3 := (tab_align hT he (fb_kind o)).1
  rw [fb_size] at h3
  have := dvd_lt_eq hn h3 (by omega) (by omega)
  omega
section
variable {W w : World} {m bl : List (Nat × Obj)} {pb : Nat} {L : List Pg}
set_option maxHeartbeats 1000000 in
theorem frees_bad (h : Own W (bl ++ m) w) (hb : BdO pb L bl) (hL1 : 1 ≤ L.length) (o : Int) (ho : o < 0 ∨ 10 < o) :
    Calls Try.prog 26 #[.pointer (some ⟨pb, 0, none⟩), .int .i64 o] w fun e w' => e = .returned (.slice none 0 0) ∧ Own W (bl ++ m) w' := by
  by_cases h1 : o < 0
  · clear ho
    go_enter Try.func26, Try.ntmps26
    go_wp2_with (go_at_call 53; refine (none_spec h hb hL1).mono ?_; rintro e w' ⟨rfl, rfl⟩)
    go_ret
    exact ⟨rfl, h⟩
  · have h2 : 10 < o := by omega
    have h3 : 0 ≤ o := by omega
    clear ho h1
    go_enter Try.func26, Try.ntmps26
    go_wp2_with (go_at_call 53; refine (none_spec h hb hL1).mono ?_; rintro e w' ⟨rfl, rfl⟩)
    go_ret
    exact ⟨rfl, h⟩
set_option maxRecDepth 100000 in
set_option maxHeartbeats 4000000 in
theorem frees_ok (h : Own W (bl ++ m) w) (hb : BdO pb L bl) {bs0 : List Pg} (hT : Tab L bs0) (hL1 : 1 ≤ L.length) (hL : L.length ≤ 1024) (o : Nat) (ho : o ≤ 10) :
    Calls Try.prog 26 #[.pointer (some ⟨pb, 0, none⟩), .int .i64 o] w fun e w' => ∃ v bs, e = .returned v ∧ IntsOwn true v (freesTo L o L.length) bs ∧ Own W (bs ++ (bl ++ m)) w' := by
  have HT := Lib.hid hT
  obtain ⟨N, hN⟩ : ∃ N, L.length = N := ⟨_, rfl⟩
  have HN := Lib.hid hN
  obtain ⟨v, bsv, hov, hbl⟩ := id hb
  obtain ⟨A, cap, rfl, -, -⟩ := hov.slice
  rw [hN] at hL hL1 hbl
  have PV : Hid (∀ M ws, Own W (bl ++ M) ws → ws.cell? ⟨pb, 0, none⟩ = some (.slice A N cap)) := fun M ws hw => by rw [hbl] at hw; exact bd_cell hw
  obtain ⟨M, hM, hMi, hM1, hM2⟩ := pow_nat ho
  have HM := Lib.hid hM
  have hmin : min o 64 = o := by omega
  have hoi : (o : Int) ≤ 10 := by omega
  have ho0 : (0 : Int) ≤ o := by omega
  have hb0 := Lib.hid hb
  have HL := Lib.hid hL1
  clear hT hN hov hbl hM
  go_enter Try.func26, Try.ntmps26
  go_wp2_with (go_at_call 53; refine (none_spec h hb (by rw [HN.out]; exact HL.out)).mono ?_; rintro e w' ⟨rfl, rfl⟩)
  go_loopw [4, 5] (fun out at_ wr => ∃ (a : Nat) (bs : List (Nat × Obj)), at_ = .int .i64 a ∧ a ≤ 2048 ∧ Hid (a % 2 ^ o = 0) ∧ Hid (IntsOwn true out (freesTo L o a) bs) ∧ Own W (bs ++ (bl ++ m)) wr) (fun _ at_ _ => 2048 - (intOf at_).toNat)
  case atStart => exact ⟨0, [], rfl, by omega, Nat.zero_mod _, SlO.nil _ _ _, h⟩
  case round =>
    obtain ⟨a, bs, rfl, ha, HA, HO, hr⟩ := hrel
    have hcell := PV.out _ _ hr.dropL
    by_cases hlt : a < N
    · have hlti : (a : Int) < N := by omega
      obtain ⟨p, hp⟩ : ∃ p, L[a]? = some p := ⟨_, List.getElem?_eq_getElem (by rw [HN.out]; omega)⟩
      have HP := Lib.hid hp
      have hstep := freesTo_step HT.out o a HA.out
      rw [HM.out] at hstep
      have ha2 : (a + M) % 2 ^ o = 0 := by rw [← HM.out, Nat.add_mod_right]; exact HA.out
      have HA2 := Lib.hid ha2
      obtain ⟨A1, c1, hout, hc1, hc2⟩ := SlO.slice HO.out
      have hlen := freesTo_len L o a
      clear hp ha2
      subst hout
      by_cases hf : p = fb o
      · subst hf
        rw [if_pos HP.out] at hstep
        have HS := Lib.hid hstep
        have hlen2 := Lib.hid hlen
        clear hstep hlen
        go_wp2_with fail
        refine (free_yes hr.swap hb0.out a o (fb o) HP.out).mono ?_
        rintro e w2 ⟨rfl, h2⟩
        rw [decide_eq_true (show fb o = (0, (o : Int), 0) from rfl)]
        have h3 := h2.swap
        have h4 := h3.alloc (.cells #[.int .i64 a] 3)
        have hsrc := src_one w2 (a : Int)
        go_wp2_with (at_builtin; refine wpList_app_ints rfl _ _ rfl rfl rfl HO.out h4 hsrc (by have := hlen2.out; simp; omega) ?_; intro v' w' bs' k1 k2 k3; have K1 := Lib.hid k1; clear k1 k3)
        refine ⟨⟨a + M, bs', by go_num, by omega, HA2, ?_, k2⟩, by simp [intOf]; omega⟩
        show IntsOwn true v' (freesTo L o (a + M)) bs'
        rw [HS.out]
        exact K1.out
      · rw [if_neg (by rw [HP.out]; simpa using hf), List.append_nil] at hstep
        have HS := Lib.hid hstep
        have HF := Lib.hid hf
        clear hstep hf hlen
        go_wp2_with fail
        refine (free_yes hr.swap hb0.out a o p HP.out).mono ?_
        rintro e w2 ⟨rfl, h2⟩
        rw [decide_eq_false (show ¬ p = (0, (o : Int), 0) from HF.out)]
        go_wp2_with fail
        refine ⟨⟨a + M, bs, by go_num, by omega, HA2, ?_, h2.swap⟩, by simp [intOf]; omega⟩
        show IntsOwn true _ (freesTo L o (a + M)) bs
        rw [HS.out]
        exact HO.out
    · have hlti : ¬ (a : Int) < N := by omega
      obtain ⟨A1, c1, hout, hc1, hc2⟩ := SlO.slice HO.out
      subst hout
      have hp := freesTo_past L o a (by rw [HN.out]; omega)
      have HPst := Lib.hid hp
      clear hp
      go_wp2_with fail
      go_ret
      refine ⟨_, rfl, bs, ?_, hr⟩
      show IntsOwn true (.slice A1 (freesTo L o a).length c1) (freesTo L o L.length) bs
      rw [show freesTo L o L.length = freesTo L o a from HPst.out.symm]
      exact HO.out
set_option maxHeartbeats 2000000 in
theorem whole_is (h : Own W (bl ++ m) w) (hb : BdO pb L bl) (hL1 : 1 ≤ L.length) (hL : L.length ≤ 1024) :
    Calls Try.prog 24 #[.pointer (some ⟨pb, 0, none⟩)] w fun e w' => e = .returned (.bool (decide (L = freshL L.length))) ∧ Own W (bl ++ m) w' := by
  obtain ⟨v, bs, ho, hbl⟩ := id hb
  obtain ⟨A, cap, rfl, -, -⟩ := ho.slice
  obtain ⟨N, hN⟩ : ∃ N, L.length = N := ⟨_, rfl⟩
  have HN := Lib.hid hN
  rw [hN] at hL hL1 hbl ⊢
  have PV : Hid (∀ M ws, Own W (bl ++ M) ws → ws.cell? ⟨pb, 0, none⟩ = some (.slice A N cap) ∧ PgS ws (.slice A N cap) L) := fun M ws hw => by
    rw [hbl] at hw
    rw [hN] at ho
    exact ⟨bd_cell hw, bd_read ho hw⟩
  have hcell := (PV.out _ _ h).1
  obtain ⟨i, hi, hz, hs, hby⟩ := info_get page_info
  have hmk := fun W => run_make_rowN (P := Try.prog) 22 24 i _ Try.underlying22 hi hz .i64 .i64 N N (Nat.le_refl _) (by rw [hby]; omega) (by omega) W
  rw [hs, madeCells_const _ (.int .i64 0) _ (by simp [Value.cells]) (by intro j hj; obtain rfl | rfl | rfl : j = 0 ∨ j = 1 ∨ j = 2 := (by simp [Value.cells] at hj; omega) <;> rfl)] at hmk
  obtain ⟨o1, h3⟩ := zero_own h N (by omega)
  have h4 := h3.new (.cells #[.slice (some ⟨w.heap.size, 0, none⟩) N N] 61)
  have hbd : BdO (w.heap.size + 1) (List.replicate N (0, 0, 0)) ((w.heap.size + 1, .cells #[.slice (some ⟨w.heap.size, 0, none⟩) N N] 61) :: [(w.heap.size, .cells (Array.replicate (N * 3) (.int .i64 0)) 24)]) := ⟨_, _, o1, rfl⟩
  have hl : (List.replicate N ((0 : Int), (0 : Int), (0 : Int))).length = N := List.length_replicate
  have h5 : Own W (((w.heap.size + 1, .cells #[.slice (some ⟨w.heap.size, 0, none⟩) N N] 61) :: [(w.heap.size, .cells (Array.replicate (N * 3) (.int .i64 0)) 24)]) ++ (bl ++ m)) ((w.alloc (.cells (Array.replicate (N * 3) (.int .i64 0)) 24)).alloc (.cells #[.slice (some ⟨w.heap.size, 0, none⟩) N N] 61)) := by simpa using h4
  have hw := whole_spec h5 hbd (by rw [hl]; exact hL1) (by rw [hl]; exact hL)
  rw [hl] at hw
  have HW := Lib.hid hw
  have HB := Lib.hid hb
  clear hi hz hs hby o1 h3 h4 hbd hl h5 hw ho hN
  go_enter Try.func24, Try.ntmps24
  go_wp2_with (go_at_call 53; refine (none_spec h HB.out (by rw [HN.out]; exact hL1)).mono ?_; rintro e w' ⟨rfl, rfl⟩)
  refine HW.out.mono ?_
  rintro e w2 ⟨bl2, rfl, hb2, h6⟩
  obtain ⟨v2, bs2, ho2, rfl⟩ := hb2
  have hr2 := bd_read ho2 h6
  obtain ⟨A2, cap2, rfl, -, -⟩ := ho2.slice
  have hc2 := bd_cell h6
  obtain ⟨hc1, hr1⟩ := PV.out _ _ h6.dropL
  rw [fresh_len] at hc2 hr2
  clear hcell
  go_wp2_with fail
  go_region_held3 (fun w' => w'.cell? ⟨pb, 0, none⟩ = some (.slice A N cap) ∧ w'.cell? ⟨w.heap.size + 1, 0, none⟩ = some (.slice A2 N cap2)) (first | (refine ⟨?_, ?_⟩ <;> assumption) | go_keep)
    (first | (go_at_call 55; refine (equalP_spec (hr1.own (Own.self _).drew) (hr2.own (Own.self _).drew) (by rw [HN.out]; omega) (by rw [fresh_len]; omega)).mono ?_; rintro e w3 ⟨rfl, h7⟩; have hc1 := (PV.out _ _ (h6.drew.of_self h7).dropL).1; have hc2 := bd_cell (h6.drew.of_self h7); rw [fresh_len] at hc2))
  all_goals
    go_wp2_with fail
    go_ret
    exact ⟨rfl, (h6.drew.of_self h7).dropL⟩
end
end Go.Proofs.Ytljcndcmdphmgaa

/-
  The reference's buddies: blocks; contracts: free, set. No condition.
-/
namespace Go.Proofs.Ytljcndcmdphmgaa
open Go.RowKit
attribute [local go_sem ↓] Go.wp_at_zero Go.wp_at_succ
/-- a reference's buddy: its blocks -/
def RdO (rb : Nat) (L : List Pg) (bl : List (Nat × Obj)) : Prop := ∃ v bs, PgO false v L bs ∧ bl = (rb, .cells #[v] 57) :: bs
def rfreeB (L : List Pg) (page o : Int) : Bool := decide (0 ≤ page ∧ L[page.toNat]? = some (0, o, 0))
section
variable {W w : World} {m bl : List (Nat × Obj)} {rb : Nat} {L : List Pg}
theorem rd_cell {v : Value} {bs : List (Nat × Obj)} (h : Own W (((rb, .cells #[v] 57) :: bs) ++ m) w) : w.cell? ⟨rb, 0, none⟩ = some v := by
  have h1 : Own W ((rb, .cells #[v] 57) :: (bs ++ m)) w := h
  simpa using h1.cell List.mem_cons_self 0
theorem rd_frozen {v : Value} {bs : List (Nat × Obj)} (h : Own W (((rb, .cells #[v] 57) :: bs) ++ m) w) : w.frozen? ⟨rb, 0, none⟩ = false := by
  have h1 : Own W ((rb, .cells #[v] 57) :: (bs ++ m)) w := h
  exact h1.frozen List.mem_cons_self 0
theorem rd_own {v : Value} {bs : List (Nat × Obj)} (h : Own W (((rb, .cells #[v] 57) :: bs) ++ m) w) : Own W (bs ++ ((rb, .cells #[v] 57) :: m)) w :=
  h.perm List.perm_middle.symm
theorem own_rd {v : Value} {bs : List (Nat × Obj)} (h : Own W (bs ++ ((rb, .cells #[v] 57) :: m)) w) : Own W (((rb, .cells #[v] 57) :: bs) ++ m) w :=
  h.perm List.perm_middle
theorem rd_read {v : Value} {bs : List (Nat × Obj)} (hs : PgO false v L bs) (h : Own W (((rb, .cells #[v] 57) :: bs) ++ m) w) : PgS w v L := PgO.read hs (rd_own h)
set_option maxHeartbeats 2000000 in
theorem rfree_spec (h : Own W (bl ++ m) w) (hb : RdO rb L bl) (hL1 : 1 ≤ L.length) (hL : L.length ≤ 60000) (page o : Int) :
    Calls Try.prog 61 #[.pointer (some ⟨rb, 0, none⟩), .int .i64 page, .int .i64 o] w fun e w' => e = .returned (.bool (rfreeB L page o)) ∧ w = w' := by
  obtain ⟨v, bs, hs, rfl⟩ := hb
  obtain ⟨g, cap, cur, rfl, -, -⟩ := hs.form (by omega)
  have hc := rd_cell h
  obtain ⟨N, hN⟩ : ∃ N, L.length = N := ⟨_, rfl⟩
  have HN := Lib.hid hN
  rw [hN] at hc hL1 hL
  by_cases h0 : 0 ≤ page
  · by_cases h1 : page < N
    · obtain ⟨p, rfl⟩ : ∃ p : Nat, page = p := ⟨page.toNat, by omega⟩
      obtain ⟨⟨p0, p1, p2⟩, hp⟩ : ∃ x, L[p]? = some x := ⟨_, List.getElem?_eq_getElem (by omega)⟩
      obtain ⟨a0, a1, a2, -, -, -⟩ := pg_cells hs (rd_own h) rfl rfl hp
      simp only at a0 a1 a2
      have hr : rfreeB L p o = decide (((p0 : Int), (p1 : Int), (p2 : Int)) = (0, o, 0)) := by
        unfold rfreeB
        rw [Int.toNat_natCast, hp]
        simp
      rw [hr]
      have hp0 : (0 : Int) ≤ (p : Int) := h0
      clear hN h hp hr h0
      by_cases e0 : p0 = 0
      · subst e0
        by_cases e1 : p1 = o
        · subst e1
          by_cases e2 : p2 = 0
          · subst e2
            go_enter Try.func61, Try.ntmps61
            go_wp2_with fail
            go_ret
            exact ⟨by simp, rfl⟩
          · have n2 : (p2 == 0) = false := beq_eq_false_iff_ne.2 e2
            go_enter Try.func61, Try.ntmps61
            go_wp2_with fail
            go_ret
            exact ⟨by simp [e2], rfl⟩
        · have n1 : (p1 == o) = false := beq_eq_false_iff_ne.2 e1
          go_enter Try.func61, Try.ntmps61
          go_wp2_with fail
          go_ret
          exact ⟨by simp [e1], rfl⟩
      · have n0 : (p0 == 0) = false := beq_eq_false_iff_ne.2 e0
        go_enter Try.func61, Try.ntmps61
        go_wp2_with fail
        go_ret
        exact ⟨by simp [e0], rfl⟩
    · have hr : rfreeB L page o = false := by
        unfold rfreeB
        apply decide_eq_false
        rintro ⟨-, h2⟩
        have := (List.getElem?_eq_some_iff.1 h2).1
        omega
      rw [hr]
      clear hN hr
      go_enter Try.func61, Try.ntmps61
      go_wp2_with fail
      go_ret
      exact ⟨rfl, rfl⟩
  · have hr : rfreeB L page o = false := by
      unfold rfreeB
      exact decide_eq_false fun h2 => h0 h2.1
    rw [hr]
    clear hN hr
    go_enter Try.func61, Try.ntmps61
    go_wp2_with fail
    go_ret
    exact ⟨rfl, rfl⟩
set_option maxRecDepth 100000 in
set_option maxHeartbeats 4000000 in
theorem rset_spec (h : Own W (bl ++ m) w) (hb : RdO rb L bl) (a s : Nat) (hs : s ≤ 10) (ha : a + 2 ^ s ≤ L.length) (hL : L.length ≤ 1024) (k c : Int) :
    Calls Try.prog 62 #[.pointer (some ⟨rb, 0, none⟩), .int .i64 a, .agg #[.int .i64 k, .int .i64 s, .int .i64 c]] w
      fun e w' => ∃ bl', e = .returned (.tuple #[]) ∧ RdO rb (pgPut L a (k, (s : Int), c)) bl' ∧ Own W (bl' ++ m) w' := by
  obtain ⟨v, bs, ho, rfl⟩ := hb
  obtain ⟨M, hM, hMi, hM1, hM2⟩ := pow_nat hs
  have hmin : min s 64 = s := by omega
  rw [hM] at ha
  have hszx : pgSize (k, ((s : Nat) : Int), c) = M := by simp [pgSize, hM]
  have hput := pgPutK_put (L := L) (p := a) (x := (k, ((s : Nat) : Int), c)) (by rw [hszx]; exact ha)
  rw [hszx] at hput
  have HP := Lib.hid hput
  have HLen := Lib.hid (pgPutK_len L a (k, ((s : Nat) : Int), c))
  have hplen : (pgPut L a (k, ((s : Nat) : Int), c)).length = L.length := pgPut_len (by rw [hszx]; exact ha)
  have HPL := Lib.hid hplen
  obtain ⟨g, cap, cur, rfl, -, -⟩ := ho.form (by omega)
  have h1 := (rd_own h).new1 (.cells #[.int .i64 k, .int .i64 s, .int .i64 c] 24)
  obtain ⟨w1, hw1⟩ : ∃ w1, w.alloc (.cells #[.int .i64 k, .int .i64 s, .int .i64 c] 24) = w1 := ⟨_, rfl⟩
  rw [hw1] at h1
  obtain ⟨z, hz⟩ : ∃ z, L[a]? = some z := ⟨_, List.getElem?_eq_getElem (by omega)⟩
  obtain ⟨N, hN⟩ : ∃ N, L.length = N := ⟨_, rfl⟩
  have HN := Lib.hid hN
  rw [hN] at ha hL ho h1
  have h1 : Own W (bs ++ ((w.heap.size, .cells #[.int .i64 k, .int .i64 s, .int .i64 c] 24) :: (rb, .cells #[.slice (some ⟨g, 0, none⟩) N cap] 57) :: m)) w1 := h1
  have FX : Hid (∀ bs w', Own W (bs ++ ((w.heap.size, .cells #[.int .i64 k, .int .i64 s, .int .i64 c] 24) :: (rb, .cells #[.slice (some ⟨g, 0, none⟩) N cap] 57) :: m)) w' →
      ((w'.cell? ⟨w.heap.size, 0, none⟩ = some (.int .i64 k) ∧ w'.cell? ⟨w.heap.size, 1, none⟩ = some (.int .i64 s) ∧ w'.cell? ⟨w.heap.size, 2, none⟩ = some (.int .i64 c)) ∧
        w'.cell? ⟨rb, 0, none⟩ = some (.slice (some ⟨g, 0, none⟩) N cap))) := fun bs w' hw => by
    refine ⟨⟨?_, ?_, ?_⟩, ?_⟩
    · simpa using hw.dropL.cell List.mem_cons_self 0
    · simpa using hw.dropL.cell List.mem_cons_self 1
    · simpa using hw.dropL.cell List.mem_cons_self 2
    · simpa using hw.dropL.skip.cell List.mem_cons_self 0
  obtain ⟨⟨p0, p1, p2⟩, p5⟩ := FX.out _ _ h1
  obtain ⟨t0, t1, t2, tf0, tf1, tf2⟩ := pg_cells ho h1 rfl HN.out.symm hz
  obtain ⟨bs3, o3, h3⟩ := pg_store ho h1 rfl HN.out.symm (j := a) (by rw [HN.out]; omega) (k, ((s : Nat) : Int), c)
  simp only at h3
  have h3 := h3.drew
  have O3 := Lib.hid o3
  have HM := Lib.hid hM
  clear hput hplen hN h hszx hM ho o3 hz
  go_enter Try.func62, Try.ntmps62
  have ha0 : (0 : Int) ≤ (a : Int) := by omega
  have ha1 : (a : Int) < N := by omega
  go_wp2_with fail
  go_region_held3 (fun w' => ((w'.cell? ⟨w.heap.size, 0, none⟩ = some (.int .i64 k) ∧ w'.cell? ⟨w.heap.size, 1, none⟩ = some (.int .i64 s) ∧ w'.cell? ⟨w.heap.size, 2, none⟩ = some (.int .i64 c)) ∧
        w'.cell? ⟨rb, 0, none⟩ = some (.slice (some ⟨g, 0, none⟩) N cap))) (first | assumption | exact FX.out _ _ h3 | go_keep) (fail)
  obtain ⟨w3, hw3⟩ : ∃ w3, (((w1.setCell ⟨g, a * 3, none⟩ (.int .i64 k)).setCell ⟨g, a * 3 + 1, none⟩ (.int .i64 s)).setCell ⟨g, a * 3 + 2, none⟩ (.int .i64 c)).drew = w3 := ⟨_, rfl⟩
  rw [hw3] at h3 ⊢
  obtain ⟨⟨p0, p1, p2⟩, p5⟩ := FX.out _ _ h3
  have hwM : IntKind.i64.wrap (M : Int) = (M : Int) := by rw [IntWalk.i64_in] <;> omega
  clear hw3 hw1 t0 t1 t2 tf0 tf1 tf2 h1
  go_wp2_with fail
  go_loopw [6] (fun j wr => ∃ i : Nat, i ≤ M - 1 ∧ j = .int .i64 ((i + 1 : Nat) : Int) ∧ ∃ bs, Hid (PgO false (.slice (some ⟨g, 0, none⟩) N cap) (pgPutK L a (k, ((s : Nat) : Int), c) i) bs) ∧ Own W (bs ++ ((w.heap.size, .cells #[.int .i64 k, .int .i64 s, .int .i64 c] 24) :: (rb, .cells #[.slice (some ⟨g, 0, none⟩) N cap] 57) :: m)) wr) (fun j _ => M - (intOf j).toNat)
  case atStart => exact ⟨0, by omega, rfl, bs3, O3, h3⟩
  case round =>
    obtain ⟨i, hi, rfl, bs, O6, h6⟩ := hrel
    obtain ⟨⟨p0, p1, p2⟩, p5⟩ := FX.out _ _ h6
    by_cases hlt : i < M - 1
    · have hlt' : (i : Int) + 1 < M := by omega
      obtain ⟨z, hz⟩ : ∃ z, (pgPutK L a (k, ((s : Nat) : Int), c) i)[a + 1 + i]? = some z := ⟨_, List.getElem?_eq_getElem (by rw [HLen.out, HN.out]; omega)⟩
      obtain ⟨a0, a1, a2, b0, b1, b2⟩ := pg_cells O6.out h6 rfl (by rw [HLen.out, HN.out]) hz
      obtain ⟨bs7, o7, h7⟩ := pg_store O6.out h6 rfl (by rw [HLen.out, HN.out]) (j := a + 1 + i) (by rw [HLen.out, HN.out]; omega) pgIn
      have O7 := Lib.hid o7
      simp only [pgIn] at h7
      rw [show a + 1 + i = a + (i + 1) from by omega] at a0 a1 a2 b0 b1 b2 h7
      have w2 : IntKind.i64.wrap ((a : Int) + ((i + 1 : Nat) : Int)) = (a : Int) + ((i + 1 : Nat) : Int) := by rw [IntWalk.i64_in] <;> omega
      have w3 : (0 : Int) ≤ (a : Int) + ((i + 1 : Nat) : Int) := by omega
      have w4 : ((a : Int) + ((i + 1 : Nat) : Int)).toNat = a + (i + 1) := by omega
      have w5 : (a : Int) + ((i + 1 : Nat) : Int) < N := by omega
      clear hz o7
      go_wp2_with fail
      exact ⟨⟨i + 1, by omega, by go_num, bs7, O7, h7⟩, by simp [intOf]; omega⟩
    · have hge : ¬ (i : Int) + 1 < M := by omega
      go_wp2_with fail
      go_end0
      obtain rfl : i = M - 1 := by omega
      have o8 := O6.out
      rw [HP.out] at o8
      exact ⟨rfl, _, ⟨_, bs, by rw [HPL.out, HN.out] at *; exact o8, rfl⟩, own_rd h6.drop1⟩
end
end Go.Proofs.Ytljcndcmdphmgaa

/-
  The reference's buddies: fresh, New. No condition.
-/
namespace Go.Proofs.Ytljcndcmdphmgaa
open Go.RowKit
theorem gBlocks_step {n i : Nat} (h : i < n) : gBlocks n n i = fb (gOrd i n 10) :: gBlocks n n (i + 2 ^ gOrd i n 10) := by
  obtain ⟨f, hf⟩ : ∃ f, n = f + 1 := ⟨n - 1, by omega⟩
  have hp := Nat.two_pow_pos (gOrd i n 10)
  have e : gBlocks n (f + 1) i = fb (gOrd i n 10) :: gBlocks n f (i + 2 ^ gOrd i n 10) := by
    conv => lhs; unfold gBlocks
    rw [if_pos h]
  have e2 : gBlocks n n i = gBlocks n (f + 1) i := by rw [← hf]
  rw [e2, e, gBlocks_fuel n f n _ (by omega) (by omega)]
theorem gBlocks_end (n f : Nat) : gBlocks n f n = [] := by
  cases f with
  | zero => rfl
  | succ f => unfold gBlocks; rw [if_neg (by omega)]
theorem gOrd_is {i n o : Nat} (hi : i < n) (ho : o ≤ gOrd i n 10) (hn : o = 10 ∨ ¬ fits i n (o + 1)) : o = gOrd i n 10 := by
  have hle := gOrd_le i n 10
  rcases hn with rfl | hn
  · omega
  · by_cases h : o < gOrd i n 10
    · exact absurd (fits_down (gOrd_fits hi 10) (show o + 1 ≤ gOrd i n 10 by omega)) hn
    · omega
/-- what the reference has laid, when n pages are asked -/
def FrAt (n : Nat) (X : List Pg) : Prop := X.length ≤ n ∧ X ++ lay (gBlocks n n X.length) = freshL n
theorem frAt_nil (n : Nat) : FrAt n [] := ⟨Nat.zero_le _, by simp [freshL, freshB]⟩
theorem frAt_step {n : Nat} {X : List Pg} (h : FrAt n X) (hi : X.length < n) : FrAt n (X ++ fb (gOrd X.length n 10) :: List.replicate (2 ^ gOrd X.length n 10 - 1) pgIn) := by
  have hf := (gOrd_fits hi 10).2
  have hp := Nat.two_pow_pos (gOrd X.length n 10)
  obtain ⟨h1, h2⟩ := h
  rw [gBlocks_step hi] at h2
  have hl : (X ++ fb (gOrd X.length n 10) :: List.replicate (2 ^ gOrd X.length n 10 - 1) pgIn).length = X.length + 2 ^ gOrd X.length n 10 := by simp; omega
  refine ⟨by omega, ?_⟩
  rw [hl, ← h2]
  simp [lay, fb_size]
theorem frAt_end {n : Nat} {X : List Pg} (h : FrAt n X) (hi : ¬ X.length < n) : X = freshL n := by
  obtain ⟨h1, h2⟩ := h
  rw [show X.length = n from by omega, gBlocks_end] at h2
  simpa [lay] using h2
def rLen : Value → Nat
  | .slice _ n _ => n
  | _ => 0
theorem flat3_one (p : Pg) : flat3 [p] = [p.1, p.2.1, p.2.2] := rfl
section
variable {W w : World} {m : List (Nat × Obj)}
theorem pg_app {ops : Array Oper} {rest : List Oper} {o : Oper} {a : Act} {Q : Exit → Act → World → Prop} {bs : List (Nat × Obj)} {X : List Pg} (hgd : o.guard = none) (s x : Operand)
    (ho : o.op = .call { callee := .builtin .append, args := #[s, x], argTypes := #[22, 22] }) {v xv : Value} (hes : a.eval s = v) (hex : a.eval x = xv)
    (hs : PgO true v X bs) (hO : Own W (bs ++ m) w) (p : Pg) (hx : Src w 3 xv 1 (ints [p.1, p.2.1, p.2.2])) (hlen : X.length ≤ 50000)
    (h : ∀ v' w' bs', PgO true v' (X ++ [p]) bs' → Own W (bs' ++ m) w' → wpList Try.prog ops Q rest (a.put o.dst v') w') :
    wpList Try.prog ops Q (o :: rest) a w := by
  refine wpList_app_dos hgd s x 22 ho hes hex _ page_info Try.underlying22 rfl (by omega) (by omega) hs hO hx (by omega) fun v' w' bs' h1 h2 => h v' w' bs' ?_ h2
  unfold PgO
  rw [List.length_append, flat3_append]
  exact h1
theorem pg_src (w : World) (p : Pg) : Src (w.alloc (.cells #[.int .i64 p.1, .int .i64 p.2.1, .int .i64 p.2.2] 24)) 3 (.slice (some ⟨w.heap.size, 0, none⟩) 1 1) 1 (ints [p.1, p.2.1, p.2.2]) := src_lit w 24 3 1 [p.1, p.2.1, p.2.2] rfl
set_option maxRecDepth 100000 in
set_option maxHeartbeats 4000000 in
theorem rfresh_spec (h : Own W m w) (n : Nat) (hn : n ≤ 1024) :
    Calls Try.prog 60 #[.int .i64 n] w fun e w' => ∃ v bs, e = .returned v ∧ PgO true v (freshL n) bs ∧ Own W (bs ++ m) w' := by
  go_enter Try.func60, Try.ntmps60
  go_wp2_with fail
  go_loopw [3] (fun out wr => ∃ (X : List Pg) (bs : List (Nat × Obj)), Hid (FrAt n X) ∧ Hid (PgO true out X bs) ∧ Own W (bs ++ m) wr) (fun out _ => n - rLen out)
  case atStart => exact ⟨[], [], frAt_nil n, SlO.nil _ _ _, h⟩
  case round =>
    obtain ⟨X, bs, HF, HO, hr⟩ := hrel
    obtain ⟨A, c, hout, hc, hcm⟩ := HO.out.slice
    subst hout
    obtain ⟨i, hi⟩ : ∃ i, X.length = i := ⟨_, rfl⟩
    have HI := Lib.hid hi
    have o9 : PgO true (.slice A i c) X bs := by have := HO.out; rwa [hi] at this
    have HO9 := Lib.hid o9
    rw [hi] at hc ⊢
    clear hi HO o9
    by_cases hlt : i < n
    · have hlti : (i : Int) < n := by omega
      go_wp2_with fail
      go_loopw [5] (fun o wr' => ∃ k : Nat, o = .int .i64 k ∧ k ≤ 10 ∧ Hid (k ≤ gOrd i n 10) ∧ wr' = wr) (fun o _ => 10 - (intOf o).toNat)
      case atStart => exact ⟨0, rfl, by omega, Nat.zero_le _, rfl⟩
      case round =>
        obtain ⟨k, rfl, hk, HK, rfl⟩ := hrel
        obtain ⟨M, hM, hMi, hM1, hM2⟩ := pow_nat hk
        have HM := Lib.hid hM
        have hmin : min k 64 = k := by omega
        have hw : IntKind.i64.wrap (2 * (M : Int)) = 2 * (M : Int) := by rw [IntWalk.i64_in] <;> omega
        have hk0 : (0 : Int) ≤ k := by omega
        have hfit : fits i n (k + 1) ↔ i % (2 * M) = 0 ∧ i + 2 * M ≤ n := by
          unfold fits
          rw [Nat.pow_succ, hM, Nat.mul_comm]
        have FIN : Hid ((k = 10 ∨ ¬ fits i n (k + 1)) → k = gOrd i n 10) := fun hx => gOrd_is hlt HK.out hx
        have rest : k = gOrd i n 10 → Hid (k = gOrd i n 10) := id
        have hmodi : (i : Int) % (2 * (M : Int)) = ((i % (2 * M) : Nat) : Int) := by push_cast; rfl
        have hi0 : (0 : Int) ≤ i := by omega
        by_cases hgo : k < 10 ∧ fits i n (k + 1)
        · obtain ⟨h10, hf⟩ := hgo
          have hf' := hfit.1 hf
          have hk1 : Hid (k + 1 ≤ gOrd i n 10) := gOrd_max i n 10 (k + 1) (by omega) hf
          have b1 : ((i : Int) % (2 * (M : Int)) == 0) = true := by rw [hmodi, hf'.1]; rfl
          have b2 : (i : Int) + 2 * (M : Int) ≤ n := by omega
          have b3 : (k : Int) < 10 := by omega
          clear hM hfit FIN rest hmodi hf hf'
          go_wp2_with fail
          exact ⟨⟨k + 1, by go_num, by omega, hk1, trivial⟩, by simp [intOf]; omega⟩
        · have hcase : (10 ≤ k) ∨ (k < 10 ∧ i % (2 * M) ≠ 0) ∨ (k < 10 ∧ i % (2 * M) = 0 ∧ n < i + 2 * M) := by
            rw [hfit] at hgo
            omega
          have HG : Hid (k = gOrd i n 10) := FIN.out (by
            by_cases h10 : k < 10
            · exact .inr fun hf => hgo ⟨h10, hf⟩
            · exact .inl (by omega))
          have hw1 : IntKind.i64.wrap (M : Int) = (M : Int) := by rw [IntWalk.i64_in] <;> omega
          have hstep := frAt_step HF.out (by rw [HI.out]; exact hlt)
          rw [HI.out, ← HG.out, hM] at hstep
          have HST := Lib.hid hstep
          have hsrc1 := fun wr : World => pg_src wr (fb k)
          have hsrc2 := fun wr : World => pg_src wr pgIn
          have HS1 := Lib.hid hsrc1
          have HS2 := Lib.hid hsrc2
          have HMOD := Lib.hid hmodi
          clear hM hfit FIN rest hgo hstep hsrc1 hsrc2 hmodi
          have hb : ((10 : Int) ≤ k) ∨ ((k : Int) < 10 ∧ ((i : Int) % (2 * (M : Int)) == 0) = false) ∨ ((k : Int) < 10 ∧ ((i : Int) % (2 * (M : Int)) == 0) = true ∧ (n : Int) < (i : Int) + 2 * (M : Int)) := by
            rw [HMOD.out]
            rcases hcase with h10 | ⟨h10, hz⟩ | ⟨h10, hz, hz2⟩
            · exact .inl (by omega)
            · exact .inr (.inl ⟨by omega, beq_eq_false_iff_ne.2 (by omega)⟩)
            · exact .inr (.inr ⟨by omega, beq_iff_eq.2 (by omega), by omega⟩)
          clear hcase
          rcases hb with b3 | ⟨b3, b1⟩ | ⟨b3, b1, b2⟩
          all_goals
            go_wp2_with (at_builtin; refine pg_app rfl _ _ rfl rfl rfl HO9.out (hr.alloc _) (fb k) (HS1.out _) (by rw [HI.out]; omega) ?_; intro v' w' bs' k1 k2; have K1 := Lib.hid k1; clear k1)
            go_loopw [3, 6] (fun out z wr => ∃ (j : Nat) (bs : List (Nat × Obj)), 1 ≤ j ∧ j ≤ M ∧ z = .int .i64 j ∧ Hid (PgO true out (X ++ fb k :: List.replicate (j - 1) pgIn) bs) ∧ Own W (bs ++ m) wr) (fun _ z _ => M - (intOf z).toNat)
            case atStart => exact ⟨1, bs', by omega, by omega, rfl, K1, k2⟩
            case round =>
              clear K1 k2 hr b3
              obtain ⟨j, bs2, hj1, hj2, rfl, HO2, hr2⟩ := hrel
              obtain ⟨A2, c2, hv, -, -⟩ := HO2.out.slice
              subst hv
              have hlen : (X ++ fb k :: List.replicate (j - 1) pgIn).length = i + j := by
                have := HI.out
                simp
                omega
              have HL := Lib.hid hlen
              by_cases hlj : j < M
              · have hlji : (j : Int) < M := by omega
                clear hlen
                go_wp2_with (at_builtin; refine pg_app rfl _ _ rfl rfl rfl HO2.out (hr2.alloc _) pgIn (HS2.out _) (by rw [HL.out]; omega) ?_; intro v' w' bs' k1 k2; have K1 := Lib.hid k1; clear k1)
                refine ⟨⟨j + 1, bs', by omega, by omega, by go_num, ?_, k2⟩, by simp [intOf]; omega⟩
                show PgO true v' (X ++ fb k :: List.replicate (j + 1 - 1) pgIn) bs'
                have e : X ++ fb k :: List.replicate (j + 1 - 1) pgIn = X ++ fb k :: List.replicate (j - 1) pgIn ++ [pgIn] := by
                  rw [show j + 1 - 1 = (j - 1) + 1 from by omega, List.replicate_succ']
                  simp
                rw [e]
                exact K1.out
              · have hjM : j = M := by omega
                subst hjM
                have hlji : ¬ (j : Int) < j := by omega
                clear hlen
                go_wp2_with fail
                refine ⟨⟨X ++ fb k :: List.replicate (j - 1) pgIn, bs2, HST.out, HO2, hr2⟩, ?_⟩
                simp only [rLen]
                rw [HL.out]
                omega
    · have hlti : ¬ (i : Int) < n := by omega
      go_wp2_with fail
      go_ret
      have e := frAt_end HF.out (by rw [HI.out]; exact hlt)
      have o9 := HO9.out
      rw [e] at o9
      exact ⟨_, rfl, bs, o9, hr⟩
set_option maxHeartbeats 400000 in
theorem rnew_ok (h : Own W m w) (n : Nat) (h1 : 1 ≤ n) (h2 : n ≤ 1024) :
    Calls Try.prog 30 #[.int .i64 n] w fun e w' => ∃ rb bl, e = .returned (.tuple #[.pointer (some ⟨rb, 0, none⟩), .int .i64 0]) ∧ RdO rb (freshL n) bl ∧ Own W (bl ++ m) w' := by
  go_enter Try.func30, Try.ntmps30
  go_wp2_with fail
  refine (rfresh_spec h n h2).mono ?_
  rintro e w1 ⟨v, bs, rfl, o1, h1⟩
  obtain ⟨A, c, rfl, -, -⟩ := o1.slice
  have h3 := h1.new (.cells #[.slice A (freshL n).length c] 57)
  go_wp2_with fail
  go_ret2
  exact ⟨_, _, rfl, ⟨_, bs, o1.weak, rfl⟩, h3⟩
set_option maxHeartbeats 400000 in
theorem rnew_bad (n : Int) (hn : n < 1 ∨ 1024 < n) (w : World) :
    Calls Try.prog 30 #[.int .i64 n] w fun e w' => e = .returned (.tuple #[.pointer none, .int .i64 2]) ∧ w = w' := by
  go_enter Try.func30, Try.ntmps30
  go_wp2_with fail
  all_goals (try omega)
  all_goals go_ret2
  all_goals exact ⟨rfl, rfl⟩
end
end Go.Proofs.Ytljcndcmdphmgaa
