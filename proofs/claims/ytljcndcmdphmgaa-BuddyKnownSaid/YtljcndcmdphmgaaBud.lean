/-
  Contracts: buddy's block.size, block.other, none, free, lay.
-/
import Derived.Test.YtljcndcmdphmgaaBudXor
import Derived.Test.YtljcndcmdphmgaaFrameOwn
namespace Go.Proofs.Ytljcndcmdphmgaa
open Go.RowKit
attribute [local go_sem ↓] Go.wp_at_zero Go.wp_at_succ
/-- buddies: a block with a slice of pages, which is owned -/
def BdO (pb : Nat) (L : List Pg) (bl : List (Nat × Obj)) : Prop := ∃ v bs, PgO false v L bs ∧ bl = (pb, .cells #[v] 61) :: bs
section
variable {W w : World} {m bl : List (Nat × Obj)} {pb : Nat} {L : List Pg}
theorem pow_nat {s : Nat} (h : s ≤ 10) : ∃ M : Nat, 2 ^ s = M ∧ (2 : Int) ^ s = (M : Int) ∧ 1 ≤ M ∧ M ≤ 1024 := by
  have hpw : (2 : Nat) ^ s ≤ 2 ^ 10 := Nat.pow_le_pow_right (by omega) h
  exact ⟨2 ^ s, rfl, by simp, Nat.one_le_two_pow, by omega⟩
set_option maxHeartbeats 400000 in
theorem size_spec (h : Own W m w) (a : Int) (s : Nat) (hs : s ≤ 10) :
    Calls Try.prog 88 #[.agg #[.int .i64 a, .int .i64 s]] w fun e w' => e = .returned (.int .i64 ((2 ^ s : Nat) : Int)) ∧ Own W m w' := by
  have hmin : min s 64 = s := by omega
  obtain ⟨M, hM, hMi, hM1, hM2⟩ := pow_nat hs
  rw [hM]
  have hw1 : IntKind.i64.wrap (M : Int) = (M : Int) := by rw [IntWalk.i64_in] <;> omega
  have hs0 : (0 : Int) ≤ s := by omega
  have h0 := h.alloc (.cells #[.int .i64 a, .int .i64 s] 102)
  clear hM
  go_enter Try.func88, Try.ntmps88
  go_wp2_with fail
  go_ret
  exact ⟨rfl, h0⟩
set_option maxHeartbeats 1000000 in
theorem other_spec (h : Own W m w) (a s : Nat) (hs : s ≤ 10) (ha : a ≤ 4096) (hal : a % 2 ^ s = 0) :
    Calls Try.prog 57 #[.agg #[.int .i64 a, .int .i64 s]] w fun e w' => e = .returned (.agg #[.int .i64 (other a s), .int .i64 s]) ∧ Own W m w' := by
  obtain ⟨M, hM, hMi, hM1, hM2⟩ := pow_nat hs
  have hx := xor_i64 a M (by omega) (by omega)
  rw [← hM, xor_other hal, hM] at hx
  have HM := Lib.hid hM
  have hb := h.new (.cells #[.int .i64 a, .int .i64 s] 102)
  have hc := hb.new (.cells #[.int .i64 0, .int .i64 0] 102)
  obtain ⟨w1, hw1⟩ : ∃ w1, (w.alloc (.cells #[.int .i64 a, .int .i64 s] 102)).alloc (.cells #[.int .i64 0, .int .i64 0] 102) = w1 := ⟨_, rfl⟩
  rw [hw1, World.size_alloc] at hc
  have q0 := hc.skip.cell List.mem_cons_self 0
  have q1 := hc.skip.cell List.mem_cons_self 1
  have r0 := hc.cell List.mem_cons_self 0
  have r1 := hc.cell List.mem_cons_self 1
  have f0 := hc.frozen List.mem_cons_self 0
  have f1 := hc.frozen List.mem_cons_self 1
  simp at q0 q1 r0 r1
  clear hM hal
  go_enter Try.func57, Try.ntmps57
  go_wp2_with fail
  go_region_held3 (fun w' => (w'.cell? ⟨w.heap.size, 0, none⟩ = some (.int .i64 a) ∧ w'.cell? ⟨w.heap.size, 1, none⟩ = some (.int .i64 s))) (first | assumption | go_keep)
    (first | (go_at_call 88; refine (size_spec hc.drew a s hs).mono ?_; rintro e w2 ⟨rfl, h2⟩; rw [HM.out]; have q0 := h2.skip.cell List.mem_cons_self 0; have q1 := h2.skip.cell List.mem_cons_self 1; have r0 := h2.cell List.mem_cons_self 0; have r1 := h2.cell List.mem_cons_self 1; have f0 := h2.frozen List.mem_cons_self 0; have f1 := h2.frozen List.mem_cons_self 1; simp at q0 q1 r0 r1))
  all_goals
    go_wp2_with fail
    have h3 := (h2.set 0 (.int .i64 (other a s))).set 1 (.int .i64 s)
    have c0 := h3.cell List.mem_cons_self 0
    have c1 := h3.cell List.mem_cons_self 1
    simp at c0 c1
    exact bodyPost_ret (v := .agg #[.int .i64 (other a s), .int .i64 s]) (by simp [results, Try.f57, go_sem, c0, c1]) rfl ⟨rfl, h3.skip.skip⟩
theorem bd_cell {v : Value} {bs : List (Nat × Obj)} (h : Own W (((pb, .cells #[v] 61) :: bs) ++ m) w) : w.cell? ⟨pb, 0, none⟩ = some v := by
  have h1 : Own W ((pb, .cells #[v] 61) :: (bs ++ m)) w := h
  simpa using h1.cell List.mem_cons_self 0
theorem bd_frozen {v : Value} {bs : List (Nat × Obj)} (h : Own W (((pb, .cells #[v] 61) :: bs) ++ m) w) : w.frozen? ⟨pb, 0, none⟩ = false := by
  have h1 : Own W ((pb, .cells #[v] 61) :: (bs ++ m)) w := h
  exact h1.frozen List.mem_cons_self 0
theorem bd_own {v : Value} {bs : List (Nat × Obj)} (h : Own W (((pb, .cells #[v] 61) :: bs) ++ m) w) : Own W (bs ++ ((pb, .cells #[v] 61) :: m)) w :=
  h.perm List.perm_middle.symm
theorem own_bd {v : Value} {bs : List (Nat × Obj)} (h : Own W (bs ++ ((pb, .cells #[v] 61) :: m)) w) : Own W (((pb, .cells #[v] 61) :: bs) ++ m) w :=
  h.perm List.perm_middle
theorem bd_read {v : Value} {bs : List (Nat × Obj)} (hs : PgO false v L bs) (h : Own W (((pb, .cells #[v] 61) :: bs) ++ m) w) : PgS w v L := PgO.read hs (bd_own h)
set_option maxHeartbeats 400000 in
theorem none_spec (h : Own W (bl ++ m) w) (hb : BdO pb L bl) (hL : 1 ≤ L.length) :
    Calls Try.prog 53 #[.pointer (some ⟨pb, 0, none⟩)] w fun e w' => e = .returned (.bool false) ∧ w = w' := by
  obtain ⟨v, bs, hs, rfl⟩ := hb
  have hc := bd_cell h
  obtain ⟨A, cap, rfl, -, -⟩ := hs.slice
  obtain ⟨N, hN⟩ : ∃ N, L.length = N := ⟨_, rfl⟩
  rw [hN] at hc hL
  have hn0 : ((N : Int) == 0) = false := by rw [beq_eq_false_iff_ne]; omega
  clear hN
  go_enter Try.func53, Try.ntmps53
  go_wp2_with fail
  go_ret
  exact ⟨rfl, rfl⟩
theorem none_nil (w : World) :
    Calls Try.prog 53 #[.pointer none] w fun e w' => e = .returned (.bool true) ∧ w = w' := by
  go_enter Try.func53, Try.ntmps53
  go_wp2_with fail
  go_ret
  exact ⟨rfl, rfl⟩
set_option maxHeartbeats 2000000 in
theorem free_no (h : Own W (bl ++ m) w) (hb : BdO pb L bl) (a : Nat) (o : Int) (ha : L.length ≤ a) :
    Calls Try.prog 56 #[.pointer (some ⟨pb, 0, none⟩), .agg #[.int .i64 a, .int .i64 o]] w fun e w' => e = .returned (.bool false) ∧ Own W (bl ++ m) w' := by
  obtain ⟨v, bs, hs, rfl⟩ := hb
  obtain ⟨A, cap, rfl, -, -⟩ := hs.slice
  have h1 := h.new (.cells #[.int .i64 a, .int .i64 o] 102)
  obtain ⟨w1, hw1⟩ : ∃ w1, w.alloc (.cells #[.int .i64 a, .int .i64 o] 102) = w1 := ⟨_, rfl⟩
  rw [hw1] at h1
  have hc := bd_cell h1.skip
  have q0 := h1.cell List.mem_cons_self 0
  have q1 := h1.cell List.mem_cons_self 1
  simp at q0 q1
  obtain ⟨N, hN⟩ : ∃ N, L.length = N := ⟨_, rfl⟩
  rw [hN] at hc ha
  have hna : decide (a < N) = false := decide_eq_false (by omega)
  clear hN h
  go_enter Try.func56, Try.ntmps56
  go_wp2_with fail
  go_quiet (fail)
  all_goals
    go_wp2_with fail
    go_ret
    exact ⟨rfl, h1.skip.drewN _⟩
set_option maxHeartbeats 4000000 in
/-- is it that free block? -/
theorem free_yes (h : Own W (bl ++ m) w) (hb : BdO pb L bl) (a : Nat) (o : Int) (p : Pg) (hp : L[a]? = some p) :
    Calls Try.prog 56 #[.pointer (some ⟨pb, 0, none⟩), .agg #[.int .i64 a, .int .i64 o]] w fun e w' => e = .returned (.bool (decide (p = (0, o, 0)))) ∧ Own W (bl ++ m) w' := by
  obtain ⟨v, bs, hs, rfl⟩ := hb
  have ha := (List.getElem?_eq_some_iff.1 hp).1
  obtain ⟨g, cap, cur, rfl, hbs, -⟩ := hs.form (by omega)
  have h1 := h.new (.cells #[.int .i64 a, .int .i64 o] 102)
  obtain ⟨w1, hw1⟩ : ∃ w1, w.alloc (.cells #[.int .i64 a, .int .i64 o] 102) = w1 := ⟨_, rfl⟩
  rw [hw1] at h1
  have hc := bd_cell h1.skip
  have q0 := h1.cell List.mem_cons_self 0
  have q1 := h1.cell List.mem_cons_self 1
  simp at q0 q1
  obtain ⟨p0, p1, p2⟩ := p
  obtain ⟨a0, a1, a2, -, -, -⟩ := pg_cells hs (bd_own h1.skip) rfl rfl hp
  simp only at a0 a1 a2
  obtain ⟨N, hN⟩ : ∃ N, L.length = N := ⟨_, rfl⟩
  rw [hN] at hc ha
  have hna : decide (a < N) = true := decide_eq_true (by omega)
  clear hN h hp
  by_cases e0 : p0 = 0
  · subst e0
    by_cases e1 : p1 = o
    · subst e1
      by_cases e2 : p2 = 0
      · subst e2
        go_enter Try.func56, Try.ntmps56
        go_wp2_with fail
        go_region_held3 (fun w' => ((w'.cell? ⟨w.heap.size, 0, none⟩ = some (.int .i64 a) ∧ w'.cell? ⟨w.heap.size, 1, none⟩ = some (.int .i64 p1)) ∧ w'.cell? ⟨pb, 0, none⟩ = some (.slice (some ⟨g, 0, none⟩) N cap)) ∧ (w'.cell? ⟨g, a * 3, none⟩ = some (.int .i64 0) ∧ w'.cell? ⟨g, a * 3 + 1, none⟩ = some (.int .i64 p1) ∧ w'.cell? ⟨g, a * 3 + 2, none⟩ = some (.int .i64 0))) (first | assumption | go_keep) (fail)
        all_goals
          go_wp2_with fail
          go_ret
          exact ⟨by simp, h1.skip.drew⟩
      · have n2 : (p2 == 0) = false := beq_eq_false_iff_ne.2 e2
        go_enter Try.func56, Try.ntmps56
        go_wp2_with fail
        go_region_held3 (fun w' => ((w'.cell? ⟨w.heap.size, 0, none⟩ = some (.int .i64 a) ∧ w'.cell? ⟨w.heap.size, 1, none⟩ = some (.int .i64 p1)) ∧ w'.cell? ⟨pb, 0, none⟩ = some (.slice (some ⟨g, 0, none⟩) N cap)) ∧ (w'.cell? ⟨g, a * 3, none⟩ = some (.int .i64 0) ∧ w'.cell? ⟨g, a * 3 + 1, none⟩ = some (.int .i64 p1) ∧ w'.cell? ⟨g, a * 3 + 2, none⟩ = some (.int .i64 p2))) (first | assumption | go_keep) (fail)
        all_goals
          go_wp2_with fail
          go_ret
          exact ⟨by simp [e2], h1.skip.drew⟩
    · have n1 : (p1 == o) = false := beq_eq_false_iff_ne.2 e1
      go_enter Try.func56, Try.ntmps56
      go_wp2_with fail
      go_region_held3 (fun w' => ((w'.cell? ⟨w.heap.size, 0, none⟩ = some (.int .i64 a) ∧ w'.cell? ⟨w.heap.size, 1, none⟩ = some (.int .i64 o)) ∧ w'.cell? ⟨pb, 0, none⟩ = some (.slice (some ⟨g, 0, none⟩) N cap)) ∧ (w'.cell? ⟨g, a * 3, none⟩ = some (.int .i64 0) ∧ w'.cell? ⟨g, a * 3 + 1, none⟩ = some (.int .i64 p1) ∧ w'.cell? ⟨g, a * 3 + 2, none⟩ = some (.int .i64 p2))) (first | assumption | go_keep) (fail)
      all_goals
        go_wp2_with fail
        go_ret
        exact ⟨by simp [e1], h1.skip.drew⟩
  · have n0 : (p0 == 0) = false := beq_eq_false_iff_ne.2 e0
    go_enter Try.func56, Try.ntmps56
    go_wp2_with fail
    go_region_held3 (fun w' => ((w'.cell? ⟨w.heap.size, 0, none⟩ = some (.int .i64 a) ∧ w'.cell? ⟨w.heap.size, 1, none⟩ = some (.int .i64 o)) ∧ w'.cell? ⟨pb, 0, none⟩ = some (.slice (some ⟨g, 0, none⟩) N cap)) ∧ (w'.cell? ⟨g, a * 3, none⟩ = some (.int .i64 p0) ∧ w'.cell? ⟨g, a * 3 + 1, none⟩ = some (.int .i64 p1) ∧ w'.cell? ⟨g, a * 3 + 2, none⟩ = some (.int .i64 p2))) (first | assumption | go_keep) (fail)
    all_goals
      go_wp2_with fail
      go_ret
      exact ⟨by simp [e0], h1.skip.drew⟩
end
end Go.Proofs.Ytljcndcmdphmgaa
