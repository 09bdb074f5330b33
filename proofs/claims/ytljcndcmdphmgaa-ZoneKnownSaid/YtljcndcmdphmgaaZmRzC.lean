import Derived.Test.YtljcndcmdphmgaaZmRzB
/-
  The reference's zones: Tag. No condition.
-/
namespace Go.Proofs.Ytljcndcmdphmgaa
open Go.RowKit
attribute [local go_sem ↓] Go.wp_at_zero Go.wp_at_succ
section
variable {W w : World} {m zs : List (Nat × Obj)} {qb : Nat} {L : List Pg} {X : List (List Int)}
set_option maxHeartbeats 1000000 in
theorem qtag_out (h : Own W (zs ++ m) w) (hq : QO qb L X zs) (page : Int) (hp : page < 0 ∨ (L.length : Int) ≤ page) :
    Calls Try.prog 76 #[.pointer (some ⟨qb, 0, none⟩), .int .i64 page] w fun e w' => e = .returned (tagV none) ∧ Own W (zs ++ m) w' := by
  have h0 := h.new1 (.cells #[.int .i64 0, .int .i64 0, .int .i64 0] 119)
  obtain ⟨rb, nb, nl, bl, Ln, hi⟩ := hq
  have ho := hi.own h0
  obtain ⟨c0, c1⟩ := qcells ho List.mem_cons_self
  obtain ⟨v, bs, hpg, hbl⟩ := hi.bud
  have hob := ho.perm (q_bud _ _ _ _)
  rw [hbl] at hob
  have cv := rd_cell hob
  obtain ⟨g, cap, cur, rfl, -, hcap, -⟩ := hpg.form (by have := hi.l1; omega)
  obtain ⟨N, hN⟩ : ∃ N, L.length = N := ⟨_, rfl⟩
  rw [hN] at cv hp
  have q0 := h0.dropL.cell List.mem_cons_self 0
  have q1 := h0.dropL.cell List.mem_cons_self 1
  have q2 := h0.dropL.cell List.mem_cons_self 2
  have f0 := h0.dropL.frozen List.mem_cons_self 0
  have f1 := h0.dropL.frozen List.mem_cons_self 1
  have f2 := h0.dropL.frozen List.mem_cons_self 2
  simp at q0 q1 q2
  have hcase : page < 0 ∨ (0 ≤ page ∧ (N : Int) ≤ page) := by omega
  clear hi ho hob hpg hbl hN hp
  rcases hcase with hp | ⟨hp0, hp⟩
  all_goals
    go_enter Try.func76, Try.ntmps76
    go_wp2_with fail
    have h6 := ((h0.setIn 0 (.int .i64 0)).setIn 1 (.int .i64 0)).setIn 2 (.int .i64 0)
    have e0 := h6.dropL.cell List.mem_cons_self 0
    have e1 := h6.dropL.cell List.mem_cons_self 1
    have e2 := h6.dropL.cell List.mem_cons_self 2
    simp at e0 e1 e2
    exact bodyPost_ret (v := .tuple #[.agg #[.int .i64 0, .int .i64 0, .int .i64 0], .bool false]) (by simp [results, Try.f76, go_sem]) rfl ⟨rfl, h0.drop1⟩
set_option maxRecDepth 100000 in
set_option maxHeartbeats 4000000 in
theorem qtag_in (h : Own W (zs ++ m) w) (hq : QO qb L X zs) (p a : Nat) (x : Pg) (hp : p < L.length) (hx : BlkOf L p a x) :
    Calls Try.prog 76 #[.pointer (some ⟨qb, 0, none⟩), .int .i64 p] w fun e w' => e = .returned (tagV (if x.1 = 2 ∧ xHas X a = false then some ((a : Int), x.2.1, x.2.2) else none)) ∧ Own W (zs ++ m) w' := by
  have HQ := Lib.hid hq
  have h0 := h.new1 (.cells #[.int .i64 0, .int .i64 0, .int .i64 0] 119)
  obtain ⟨rb, nb, nl, bl, Ln, hi⟩ := hq
  have ho := hi.own h0
  obtain ⟨c0, c1⟩ := qcells ho List.mem_cons_self
  obtain ⟨v, bs, hpg, hbl⟩ := hi.bud
  have hob := ho.perm (q_bud _ _ _ _)
  rw [hbl] at hob
  have cv := rd_cell hob
  obtain ⟨g, cap, cur, rfl, -, hcap, -⟩ := hpg.form (by have := hi.l1; omega)
  obtain ⟨bT, hT⟩ := hi.tab
  have hin : Own W (bs ++ ((rb, .cells #[.slice (some ⟨g, 0, none⟩) L.length cap] 57) :: (qBlk qb rb nb :: (nrBlocks 134 nb nl 6 Ln ++ (w.heap.size, .cells #[.int .i64 0, .int .i64 0, .int .i64 0] 119) :: m)))) (w.alloc (.cells #[.int .i64 0, .int .i64 0, .int .i64 0] 119)) := hob.perm List.perm_middle.symm
  have hhead := qhead_ok hin hpg hT hi.l1 hi.l2 hp hx
  have haL : a < L.length := (List.getElem?_eq_some_iff.1 hx.1).1
  have HX := Lib.hid hx.1
  have hqo : qOut L X (a : Int) = (decide (x.1 = 2) && !xHas X a) := by
    unfold qOut
    rw [Int.toNat_natCast, hx.1]
    simp
  obtain ⟨x0, x1, x2⟩ := x
  simp only at hqo ⊢
  obtain ⟨b, hb⟩ : ∃ b, xHas X (a : Int) = b := ⟨_, rfl⟩
  rw [hb] at hqo ⊢
  obtain ⟨N, hN⟩ : ∃ N, L.length = N := ⟨_, rfl⟩
  obtain ⟨R, hR⟩ : ∃ R, (if x0 = 2 ∧ b = false then some ((a : Int), x1, x2) else none) = R := ⟨_, rfl⟩
  have HR := Lib.hid hR
  rw [hR]
  rw [hN] at hbl
  have PRM : Hid (∀ ws, Own W (bs ++ ((rb, .cells #[.slice (some ⟨g, 0, none⟩) N cap] 57) :: (qBlk qb rb nb :: (nrBlocks 134 nb nl 6 Ln ++ (w.heap.size, .cells #[.int .i64 0, .int .i64 0, .int .i64 0] 119) :: m)))) ws → Own W (zs ++ (w.heap.size, .cells #[.int .i64 0, .int .i64 0, .int .i64 0] 119) :: m) ws) := fun ws hw => by
    rw [hi.eq, hbl]
    exact (hw.perm List.perm_middle).perm (q_bud (qBlk qb rb nb) ((rb, .cells #[.slice (some ⟨g, 0, none⟩) N cap] 57) :: bs) (nrBlocks 134 nb nl 6 Ln) ((w.heap.size, .cells #[.int .i64 0, .int .i64 0, .int .i64 0] 119) :: m)).symm
  have GETS : Hid (∀ ws M, Own W (zs ++ M) ws → ws.cell? ⟨qb, 0, none⟩ = some (.pointer (some ⟨rb, 0, none⟩)) ∧ ws.cell? ⟨rb, 0, none⟩ = some (.slice (some ⟨g, 0, none⟩) N cap) ∧ ws.cell? ⟨g, a * 3, none⟩ = some (.int .i64 x0) ∧ ws.cell? ⟨g, a * 3 + 1, none⟩ = some (.int .i64 x1) ∧ ws.cell? ⟨g, a * 3 + 2, none⟩ = some (.int .i64 x2)) := fun ws M hw => by
    have h1 := hi.own hw
    have h2 := h1.perm (q_bud _ _ _ _)
    rw [hbl] at h2
    obtain ⟨d0, d1, d2, -, -, -⟩ := pg_cells hpg (h2.perm List.perm_middle.symm) rfl rfl hx.1
    simp only at d0 d1 d2
    exact ⟨(qcells h1 List.mem_cons_self).1, rd_cell h2, d0, d1, d2⟩
  have HH := Lib.hid hhead
  have HQO := Lib.hid hqo
  have hl2 := hi.l2
  rw [hN] at cv hp haL hl2 HH
  have hp0 : (0 : Int) ≤ p := by omega
  have hpN : (p : Int) < N := by omega
  have haN : (a : Int) < N := by omega
  have ha0 : (0 : Int) ≤ a := by omega
  clear hi ho hob hin hpg hbl hhead hT hx hqo hb hN h0 h hR
  go_enter Try.func76, Try.ntmps76
  go_wp2_with fail
  refine HH.out.mono ?_
  rintro e w1 ⟨rfl, h1⟩
  have h2 := PRM.out _ h1
  clear h1 c0 c1 cv
  go_wp2_with fail
  refine (qout_spec h2 HQ.out (a : Int)).mono ?_
  rintro e w2 ⟨rfl, h3⟩
  rw [HQO.out]
  have q0 := h3.dropL.cell List.mem_cons_self 0
  have q1 := h3.dropL.cell List.mem_cons_self 1
  have q2 := h3.dropL.cell List.mem_cons_self 2
  have f0 := h3.dropL.frozen List.mem_cons_self 0
  have f1 := h3.dropL.frozen List.mem_cons_self 1
  have f2 := h3.dropL.frozen List.mem_cons_self 2
  simp at q0 q1 q2
  obtain ⟨c0, c1, d0, d1, d2⟩ := GETS.out _ _ h3
  by_cases hyes : x0 = 2 ∧ b = false
  · have hR : R = some ((a : Int), x1, x2) := by rw [← HR.out, if_pos hyes]
    obtain ⟨rfl, rfl⟩ := hyes
    have h4 := (((h3.setIn 0 (.int .i64 a)).setIn 1 (.int .i64 x1)).setIn 2 (.int .i64 x2)).drew
    have H4 := Lib.hid h4
    obtain ⟨k0, k1, -, k3, k4⟩ := GETS.out _ _ h4
    clear h4
    go_wp2_with fail
    go_region_held3 (fun w' => w'.cell? ⟨qb, 0, none⟩ = some (.pointer (some ⟨rb, 0, none⟩)) ∧ w'.cell? ⟨rb, 0, none⟩ = some (.slice (some ⟨g, 0, none⟩) N cap) ∧ w'.cell? ⟨g, a * 3 + 1, none⟩ = some (.int .i64 x1) ∧ w'.cell? ⟨g, a * 3 + 2, none⟩ = some (.int .i64 x2)) (first | (refine ⟨?_, ?_, ?_, ?_⟩ <;> assumption) | go_keep) (fail)
    have h8 := H4.out
    go_wp2_with fail
    have e0 := h8.dropL.cell List.mem_cons_self 0
    have e1 := h8.dropL.cell List.mem_cons_self 1
    have e2 := h8.dropL.cell List.mem_cons_self 2
    simp at e0 e1 e2
    exact bodyPost_ret (v := .tuple #[.agg #[.int .i64 a, .int .i64 x1, .int .i64 x2], .bool true]) (by simp [results, Try.f76, go_sem, e0, e1, e2]) rfl ⟨by rw [hR]; rfl, h8.drop1⟩
  · have hno : (decide (x0 = 2) && !b) = false := by
      cases b
      · simp at hyes
        simp [hyes]
      · simp
    have hR : R = none := by rw [← HR.out, if_neg hyes]
    rw [hno]
    go_wp2_with fail
    have h8 := ((h3.setIn 0 (.int .i64 0)).setIn 1 (.int .i64 0)).setIn 2 (.int .i64 0)
    have e0 := h8.dropL.cell List.mem_cons_self 0
    have e1 := h8.dropL.cell List.mem_cons_self 1
    have e2 := h8.dropL.cell List.mem_cons_self 2
    simp at e0 e1 e2
    exact bodyPost_ret (v := .tuple #[.agg #[.int .i64 0, .int .i64 0, .int .i64 0], .bool false]) (by simp [results, Try.f76, go_sem, e0, e1, e2]) rfl ⟨by rw [hR]; rfl, h8.drop1⟩
theorem qtag_spec (h : Own W (zs ++ m) w) (hq : QO qb L X zs) (page : Int) :
    Calls Try.prog 76 #[.pointer (some ⟨qb, 0, none⟩), .int .i64 page] w fun e w' => ∃ t, e = .returned (tagV t) ∧ Hid (ZTagIs L X (fun _ => none) page t) ∧ Own W (zs ++ m) w' := by
  by_cases hp : page < 0 ∨ (L.length : Int) ≤ page
  · exact (qtag_out h hq page hp).mono fun e w' ⟨h1, h2⟩ => ⟨none, h1, .inl ⟨hp, rfl⟩, h2⟩
  · obtain ⟨p, rfl⟩ : ∃ p : Nat, page = p := ⟨page.toNat, by omega⟩
    have hp' : p < L.length := by omega
    have htab : ∃ bs, Tab L bs := by
      obtain ⟨rb, nb, nl, bl, Ln, hi⟩ := hq
      exact hi.tab
    obtain ⟨bs, hT⟩ := htab
    obtain ⟨a, x, hx⟩ := blkOf hT hp'
    refine (qtag_in h hq p a x hp' hx).mono fun e w' ⟨h1, h2⟩ => ⟨_, h1, .inr ⟨p, a, x, rfl, hp', hx, ?_⟩, h2⟩
    by_cases hc : x.1 = 2 ∧ xHas X a = false
    · right
      rw [if_pos hc]
      exact ⟨hc.1, hc.2, rfl⟩
    · left
      rw [if_neg hc]
      refine ⟨?_, rfl⟩
      by_cases h2 : x.1 = 2
      · right
        cases hb : xHas X a with
        | true => rfl
        | false => exact absurd ⟨h2, hb⟩ hc
      · exact .inl h2
end
end Go.Proofs.Ytljcndcmdphmgaa
