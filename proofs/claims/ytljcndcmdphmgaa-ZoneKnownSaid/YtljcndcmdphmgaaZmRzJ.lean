import Derived.Test.YtljcndcmdphmgaaZmRzI
/-
  wainscotlaw08.outs: a list of numbers. No condition.
-/
namespace Go.Proofs.Ytljcndcmdphmgaa
open Go.RowKit
attribute [local go_sem ↓] Go.wp_at_zero Go.wp_at_succ
section
variable {W w : World} {m zs : List (Nat × Obj)} {qb : Nat} {L : List Pg} {X : List (List Int)}
/-- the cells by which the reference's pages are found -/
theorem q_table (hq : QO qb L X zs) : ∃ rb g cap, L.length ≤ cap ∧ cap ≤ maxLen ∧ ∀ ws (M : List (Nat × Obj)), Own W (zs ++ M) ws → ws.cell? ⟨qb, 0, none⟩ = some (.pointer (some ⟨rb, 0, none⟩)) ∧ ws.cell? ⟨rb, 0, none⟩ = some (.slice (some ⟨g, 0, none⟩) L.length cap) := by
  obtain ⟨rb, nb, nl, bl, Ln, hi⟩ := hq
  obtain ⟨v, bs, hpg, hbl⟩ := hi.bud
  obtain ⟨g, cap, cur, rfl, -, hcap, hcm, -⟩ := hpg.form (by have := hi.l1; omega)
  refine ⟨rb, g, cap, hcap, hcm, fun ws M hw => ?_⟩
  have h1 := hi.own hw
  have h2 := h1.perm (q_bud _ _ _ _)
  rw [hbl] at h2
  exact ⟨(qcells h1 List.mem_cons_self).1, rd_cell h2⟩
theorem q_len (hq : QO qb L X zs) : 1 ≤ L.length ∧ L.length ≤ 1024 := by
  obtain ⟨rb, nb, nl, bl, Ln, hi⟩ := hq
  exact ⟨hi.l1, hi.l2⟩
set_option maxHeartbeats 4000000 in
theorem outs8_spec (h : Own W (zs ++ m) w) (hq : QO qb L X zs) :
    Calls Try.prog 71 #[.pointer (some ⟨qb, 0, none⟩)] w fun e w' => ∃ v bs l, e = .returned v ∧ Hid (IntsOwn true v l bs) ∧ l.length ≤ 1024 ∧ Own W (bs ++ (zs ++ m)) w' := by
  have HQ := Lib.hid hq
  obtain ⟨rb, g, cap, hcap, hcm, hg⟩ := q_table (W := W) hq
  have GETS := Lib.hid hg
  obtain ⟨hl1, hl2⟩ := q_len hq
  obtain ⟨N, hN⟩ : ∃ N, L.length = N := ⟨_, rfl⟩
  rw [hN] at hcap GETS hl1 hl2
  clear hg hq hN
  go_enter Try.func71, Try.ntmps71
  go_wp2_with fail
  go_loopw [3, 4] (fun ov iv wr => ∃ (i : Nat) (l : List Int) (bs : List (Nat × Obj)), iv = .int .i64 i ∧ i ≤ N ∧ l.length ≤ i ∧ Hid (IntsOwn true ov l bs) ∧ Own W (bs ++ (zs ++ m)) wr) (fun _ iv _ => N - (intOf iv).toNat)
  case atStart => exact ⟨0, [], [], rfl, by omega, by simp, SlO.nil _ _ _, h⟩
  case round =>
    clear h
    obtain ⟨i, l, bs, rfl, hi, hll, HO, hr⟩ := hrel
    obtain ⟨c0, cv⟩ := GETS.out _ _ hr.swap
    obtain ⟨A1, k1, hout, hk1, hk2⟩ := SlO.slice HO.out
    subst hout
    by_cases hlt : i < N
    · have hlti : (i : Int) < N := by omega
      go_wp2_with fail
      refine (qtag_spec hr.swap HQ.out (i : Int)).mono ?_
      rintro e w2 ⟨t, rfl, -, h2⟩
      cases t with
      | none =>
        have h3 := h2.alloc (.cells #[.int .i64 0, .int .i64 0, .int .i64 0] 119)
        simp only [tagV]
        clear c0 cv
        go_wp2_with fail
        exact ⟨⟨i + 1, l, bs, by go_num, by omega, by omega, HO, h3.swap⟩, by simp [intOf]; omega⟩
      | some v =>
        obtain ⟨a, o, c⟩ := v
        have h3 := h2.alloc (.cells #[.int .i64 a, .int .i64 o, .int .i64 c] 119)
        simp only [tagV]
        clear c0 cv
        by_cases ha : a = (i : Int)
        · subst ha
          have hs := src_one (w2.alloc (.cells #[.int .i64 (i : Int), .int .i64 o, .int .i64 c] 119)) (i : Int)
          simp only [World.size_alloc] at hs
          have h4 := h3.swap.alloc (.cells #[.int .i64 (i : Int)] 3)
          go_wp2_with (at_builtin; refine wpList_app_ints rfl _ _ rfl rfl rfl HO.out h4 hs (by simp; omega) ?_; intro v' w' bs' k1 k2 k3; have K1 := Lib.hid k1; clear k1 k3)
          exact ⟨⟨i + 1, l ++ [(i : Int)], bs', by go_num, by omega, by simp; omega, K1, k2⟩, by simp [intOf]; omega⟩
        · have hab : (a == (i : Int)) = false := beq_eq_false_iff_ne.2 ha
          go_wp2_with fail
          exact ⟨⟨i + 1, l, bs, by go_num, by omega, by omega, HO, h3.swap⟩, by simp [intOf]; omega⟩
    · obtain rfl : i = N := by omega
      have hlti : ¬ (i : Int) < i := by omega
      go_wp2_with fail
      go_ret
      exact ⟨_, rfl, bs, l, HO, by omega, hr⟩
end
end Go.Proofs.Ytljcndcmdphmgaa
