/-
  Contracts: Frees, Whole.
-/
import Derived.Test.YtljcndcmdphmgaaBudNew
import Derived.Test.YtljcndcmdphmgaaBudEq
import Derived.Test.YtljcndcmdphmgaaSlicesInt
namespace Go.Proofs.Ytljcndcmdphmgaa
open Go.RowKit
attribute [local go_sem ↓] Go.wp_at_zero Go.wp_at_succ
/-- the places of the free blocks of an order, below n -/
def freesTo (L : List Pg) (o n : Nat) : List Int := ((List.range n).filter fun a => decide (L[a]? = some (fb o))).map fun a => ((a : Nat) : Int)
def freesL (L : List Pg) (o : Int) : List Int := if 0 ≤ o ∧ o ≤ 10 then freesTo L o.toNat L.length else []
theorem freesTo_len (L : List Pg) (o n : Nat) : (freesTo L o n).length ≤ n := by
  unfold freesTo
  rw [List.length_map]
  exact Nat.le_trans (List.length_filter_le _ _) (by simp)
theorem freesTo_succ (L : List Pg) (o n : Nat) : freesTo L o (n + 1) = freesTo L o n ++ if L[n]? = some (fb o) then [(n : Int)] else [] := by
  unfold freesTo
  rw [List.range_succ, List.filter_append, List.map_append]
  by_cases h : L[n]? = some (fb o) <;> simp [h]
theorem freesTo_gap (L : List Pg) (o n : Nat) : ∀ k, (∀ a, n ≤ a → a < n + k → L[a]? ≠ some (fb o)) → freesTo L o (n + k) = freesTo L o n
  | 0, _ => rfl
  | k + 1, h => by
    rw [← Nat.add_assoc, freesTo_succ, if_neg (h _ (by omega) (by omega)), List.append_nil]
    exact freesTo_gap L o n k fun a h1 h2 => h a h1 (by omega)
theorem freesTo_past (L : List Pg) (o n : Nat) (h : L.length ≤ n) : freesTo L o n = freesTo L o L.length := by
  obtain ⟨k, rfl⟩ : ∃ k, n = L.length + k := ⟨n - L.length, by omega⟩
  exact freesTo_gap L o _ k fun a h1 _ he => by rw [List.getElem?_eq_none h1] at he; cases he
theorem freesTo_step {L bs : List Pg} (hT : Tab L bs) (o n : Nat) (hn : n % 2 ^ o = 0) : freesTo L o (n + 2 ^ o) = freesTo L o n ++ if L[n]? = some (fb o) then [(n : Int)] else [] := by
  have hp := Nat.two_pow_pos o
  obtain ⟨k, hk⟩ : ∃ k, 2 ^ o = 1 + k := ⟨2 ^ o - 1, by omega⟩
  have : n + 2 ^ o = (n + 1) + k := by omega
  rw [this, freesTo_gap L o (n + 1) k, freesTo_succ]
  intro a h1 h2 he
  have h3 := (tab_align hT he (fb_kind o)).1
  rw [fb_size] at h3
  have := dvd_lt_eq hn h3 (by omega) (by omega)
  omega
section
variable {W w : World} {m bl : List (Nat × Obj)} {pb : Nat} {L : List Pg}
set_option maxHeartbeats 1000000 in
theorem frees_bad (h : Own W (bl ++ m) w) (hb : BdO pb L bl) (hL1 : 1 ≤ L.length) (o : Int) (ho : o < 0 ∨ 10 < o) :
    Calls Try.prog 26 #[.pointer (some ⟨pb, 0, none⟩), .int .i64 o] w fun e w' => e = .returned (.slice none 0 0) ∧ Own W (bl ++ m) w' := by
  by_cases h1 : o < 0
  · clear ho
    go_enter Try.func26, Try.ntmps26
    go_wp2_with (go_at_call 53; refine (none_spec h hb hL1).mono ?_; rintro e w' ⟨rfl, rfl⟩)
    go_ret
    exact ⟨rfl, h⟩
  · have h2 : 10 < o := by omega
    have h3 : 0 ≤ o := by omega
    clear ho h1
    go_enter Try.func26, Try.ntmps26
    go_wp2_with (go_at_call 53; refine (none_spec h hb hL1).mono ?_; rintro e w' ⟨rfl, rfl⟩)
    go_ret
    exact ⟨rfl, h⟩
set_option maxRecDepth 100000 in
set_option maxHeartbeats 4000000 in
theorem frees_ok (h : Own W (bl ++ m) w) (hb : BdO pb L bl) {bs0 : List Pg} (hT : Tab L bs0) (hL1 : 1 ≤ L.length) (hL : L.length ≤ 1024) (o : Nat) (ho : o ≤ 10) :
    Calls Try.prog 26 #[.pointer (some ⟨pb, 0, none⟩), .int .i64 o] w fun e w' => ∃ v bs, e = .returned v ∧ IntsOwn true v (freesTo L o L.length) bs ∧ Own W (bs ++ (bl ++ m)) w' := by
  have HT := Lib.hid hT
  obtain ⟨N, hN⟩ : ∃ N, L.length = N := ⟨_, rfl⟩
  have HN := Lib.hid hN
  obtain ⟨v, bsv, hov, hbl⟩ := id hb
  obtain ⟨A, cap, rfl, -, -⟩ := hov.slice
  rw [hN] at hL hL1 hbl
  have PV : Hid (∀ M ws, Own W (bl ++ M) ws → ws.cell? ⟨pb, 0, none⟩ = some (.slice A N cap)) := fun M ws hw => by rw [hbl] at hw; exact bd_cell hw
  obtain ⟨M, hM, hMi, hM1, hM2⟩ := pow_nat ho
  have HM := Lib.hid hM
  have hmin : min o 64 = o := by omega
  have hoi : (o : Int) ≤ 10 := by omega
  have ho0 : (0 : Int) ≤ o := by omega
  have hb0 := Lib.hid hb
  have HL := Lib.hid hL1
  clear hT hN hov hbl hM
  go_enter Try.func26, Try.ntmps26
  go_wp2_with (go_at_call 53; refine (none_spec h hb (by rw [HN.out]; exact HL.out)).mono ?_; rintro e w' ⟨rfl, rfl⟩)
  go_loopw [4, 5] (fun out at_ wr => ∃ (a : Nat) (bs : List (Nat × Obj)), at_ = .int .i64 a ∧ a ≤ 2048 ∧ Hid (a % 2 ^ o = 0) ∧ Hid (IntsOwn true out (freesTo L o a) bs) ∧ Own W (bs ++ (bl ++ m)) wr) (fun _ at_ _ => 2048 - (intOf at_).toNat)
  case atStart => exact ⟨0, [], rfl, by omega, Nat.zero_mod _, SlO.nil _ _ _, h⟩
  case round =>
    obtain ⟨a, bs, rfl, ha, HA, HO, hr⟩ := hrel
    have hcell := PV.out _ _ hr.dropL
    by_cases hlt : a < N
    · have hlti : (a : Int) < N := by omega
      obtain ⟨p, hp⟩ : ∃ p, L[a]? = some p := ⟨_, List.getElem?_eq_getElem (by rw [HN.out]; omega)⟩
      have HP := Lib.hid hp
      have hstep := freesTo_step HT.out o a HA.out
      rw [HM.out] at hstep
      have ha2 : (a + M) % 2 ^ o = 0 := by rw [← HM.out, Nat.add_mod_right]; exact HA.out
      have HA2 := Lib.hid ha2
      obtain ⟨A1, c1, hout, hc1, hc2⟩ := SlO.slice HO.out
      have hlen := freesTo_len L o a
      clear hp ha2
      subst hout
      by_cases hf : p = fb o
      · subst hf
        rw [if_pos HP.out] at hstep
        have HS := Lib.hid hstep
        have hlen2 := Lib.hid hlen
        clear hstep hlen
        go_wp2_with fail
        refine (free_yes hr.swap hb0.out a o (fb o) HP.out).mono ?_
        rintro e w2 ⟨rfl, h2⟩
        rw [decide_eq_true (show fb o = (0, (o : Int), 0) from rfl)]
        have h3 := h2.swap
        have h4 := h3.alloc (.cells #[.int .i64 a] 3)
        have hsrc := src_one w2 (a : Int)
        go_wp2_with (at_builtin; refine wpList_app_ints rfl _ _ rfl rfl rfl HO.out h4 hsrc (by have := hlen2.out; simp; omega) ?_; intro v' w' bs' k1 k2 k3; have K1 := Lib.hid k1; clear k1 k3)
        refine ⟨⟨a + M, bs', by go_num, by omega, HA2, ?_, k2⟩, by simp [intOf]; omega⟩
        show IntsOwn true v' (freesTo L o (a + M)) bs'
        rw [HS.out]
        exact K1.out
      · rw [if_neg (by rw [HP.out]; simpa using hf), List.append_nil] at hstep
        have HS := Lib.hid hstep
        have HF := Lib.hid hf
        clear hstep hf hlen
        go_wp2_with fail
        refine (free_yes hr.swap hb0.out a o p HP.out).mono ?_
        rintro e w2 ⟨rfl, h2⟩
        rw [decide_eq_false (show ¬ p = (0, (o : Int), 0) from HF.out)]
        go_wp2_with fail
        refine ⟨⟨a + M, bs, by go_num, by omega, HA2, ?_, h2.swap⟩, by simp [intOf]; omega⟩
        show IntsOwn true _ (freesTo L o (a + M)) bs
        rw [HS.out]
        exact HO.out
    · have hlti : ¬ (a : Int) < N := by omega
      obtain ⟨A1, c1, hout, hc1, hc2⟩ := SlO.slice HO.out
      subst hout
      have hp := freesTo_past L o a (by rw [HN.out]; omega)
      have HPst := Lib.hid hp
      clear hp
      go_wp2_with fail
      go_ret
      refine ⟨_, rfl, bs, ?_, hr⟩
      show IntsOwn true (.slice A1 (freesTo L o a).length c1) (freesTo L o L.length) bs
      rw [show freesTo L o L.length = freesTo L o a from HPst.out.symm]
      exact HO.out
set_option maxHeartbeats 2000000 in
theorem whole_is (h : Own W (bl ++ m) w) (hb : BdO pb L bl) (hL1 : 1 ≤ L.length) (hL : L.length ≤ 1024) :
    Calls Try.prog 24 #[.pointer (some ⟨pb, 0, none⟩)] w fun e w' => e = .returned (.bool (decide (L = freshL L.length))) ∧ Own W (bl ++ m) w' := by
  obtain ⟨v, bs, ho, hbl⟩ := id hb
  obtain ⟨A, cap, rfl, -, -⟩ := ho.slice
  obtain ⟨N, hN⟩ : ∃ N, L.length = N := ⟨_, rfl⟩
  have HN := Lib.hid hN
  rw [hN] at hL hL1 hbl ⊢
  have PV : Hid (∀ M ws, Own W (bl ++ M) ws → ws.cell? ⟨pb, 0, none⟩ = some (.slice A N cap) ∧ PgS ws (.slice A N cap) L) := fun M ws hw => by
    rw [hbl] at hw
    rw [hN] at ho
    exact ⟨bd_cell hw, bd_read ho hw⟩
  have hcell := (PV.out _ _ h).1
  obtain ⟨i, hi, hz, hs, hby⟩ := info_get page_info
  have hmk := fun W => run_make_rowN (P := Try.prog) 22 24 i _ Try.underlying22 hi hz .i64 .i64 N N (Nat.le_refl _) (by rw [hby]; omega) (by omega) W
  rw [hs, madeCells_const _ (.int .i64 0) _ (by simp [Value.cells]) (by intro j hj; obtain rfl | rfl | rfl : j = 0 ∨ j = 1 ∨ j = 2 := (by simp [Value.cells] at hj; omega) <;> rfl)] at hmk
  obtain ⟨o1, h3⟩ := zero_own h N (by omega)
  have h4 := h3.new (.cells #[.slice (some ⟨w.heap.size, 0, none⟩) N N] 61)
  have hbd : BdO (w.heap.size + 1) (List.replicate N (0, 0, 0)) ((w.heap.size + 1, .cells #[.slice (some ⟨w.heap.size, 0, none⟩) N N] 61) :: [(w.heap.size, .cells (Array.replicate (N * 3) (.int .i64 0)) 24)]) := ⟨_, _, o1, rfl⟩
  have hl : (List.replicate N ((0 : Int), (0 : Int), (0 : Int))).length = N := List.length_replicate
  have h5 : Own W (((w.heap.size + 1, .cells #[.slice (some ⟨w.heap.size, 0, none⟩) N N] 61) :: [(w.heap.size, .cells (Array.replicate (N * 3) (.int .i64 0)) 24)]) ++ (bl ++ m)) ((w.alloc (.cells (Array.replicate (N * 3) (.int .i64 0)) 24)).alloc (.cells #[.slice (some ⟨w.heap.size, 0, none⟩) N N] 61)) := by simpa using h4
  have hw := whole_spec h5 hbd (by rw [hl]; exact hL1) (by rw [hl]; exact hL)
  rw [hl] at hw
  have HW := Lib.hid hw
  have HB := Lib.hid hb
  clear hi hz hs hby o1 h3 h4 hbd hl h5 hw ho hN
  go_enter Try.func24, Try.ntmps24
  go_wp2_with (go_at_call 53; refine (none_spec h HB.out (by rw [HN.out]; exact hL1)).mono ?_; rintro e w' ⟨rfl, rfl⟩)
  refine HW.out.mono ?_
  rintro e w2 ⟨bl2, rfl, hb2, h6⟩
  obtain ⟨v2, bs2, ho2, rfl⟩ := hb2
  have hr2 := bd_read ho2 h6
  obtain ⟨A2, cap2, rfl, -, -⟩ := ho2.slice
  have hc2 := bd_cell h6
  obtain ⟨hc1, hr1⟩ := PV.out _ _ h6.dropL
  rw [fresh_len] at hc2 hr2
  clear hcell
  go_wp2_with fail
  go_region_held3 (fun w' => w'.cell? ⟨pb, 0, none⟩ = some (.slice A N cap) ∧ w'.cell? ⟨w.heap.size + 1, 0, none⟩ = some (.slice A2 N cap2)) (first | (refine ⟨?_, ?_⟩ <;> assumption) | go_keep)
    (first | (go_at_call 55; refine (equalP_spec (hr1.own (Own.self _).drew) (hr2.own (Own.self _).drew) (by rw [HN.out]; omega) (by rw [fresh_len]; omega)).mono ?_; rintro e w3 ⟨rfl, h7⟩; have hc1 := (PV.out _ _ (h6.drew.of_self h7).dropL).1; have hc2 := bd_cell (h6.drew.of_self h7); rw [fresh_len] at hc2))
  all_goals
    go_wp2_with fail
    go_ret
    exact ⟨rfl, (h6.drew.of_self h7).dropL⟩
end
end Go.Proofs.Ytljcndcmdphmgaa
