/-
  Contracts: buddy.New, Left, Pages.
-/
import Derived.Test.YtljcndcmdphmgaaBudWhole
namespace Go.Proofs.Ytljcndcmdphmgaa
open Go.RowKit
attribute [local go_sem ↓] Go.wp_at_zero Go.wp_at_succ
theorem flat3_zero : ∀ n, flat3 (List.replicate n (0, 0, 0)) = List.replicate (n * 3) 0
  | 0 => rfl
  | n + 1 => by
    rw [List.replicate_succ, flat3, flat3_zero n, Nat.succ_mul]
    simp only [List.replicate_succ]
theorem zero_own {W w : World} {m : List (Nat × Obj)} (h : Own W m w) (n : Nat) (hn : n ≤ 60000) :
    PgO false (.slice (some ⟨w.heap.size, 0, none⟩) n n) (List.replicate n (0, 0, 0)) [(w.heap.size, .cells (Array.replicate (n * 3) (.int .i64 0)) 24)] ∧
      Own W ([(w.heap.size, .cells (Array.replicate (n * 3) (.int .i64 0)) 24)] ++ m) (w.alloc (.cells (Array.replicate (n * 3) (.int .i64 0)) 24)) := by
  refine ⟨?_, h.new _⟩
  have := SlO.made false 24 3 w.heap.size n (Array.replicate (n * 3) (Value.int .i64 0)) n (Nat.le_refl _) (by unfold maxLen; omega) (by simp)
  unfold PgO
  rw [List.length_replicate, flat3_zero]
  have e : (Array.replicate (n * 3) (Value.int .i64 0)).toList.take (n * 3) = ints (List.replicate (n * 3) 0) := by
    rw [List.take_of_length_le (by simp)]
    simp [ints]
  rw [e] at this
  exact this
section
variable {W w : World} {m bl : List (Nat × Obj)} {pb : Nat} {L : List Pg}
set_option maxHeartbeats 1000000 in
theorem bnew_ok (h : Own W m w) (n : Nat) (h1 : 1 ≤ n) (h2 : n ≤ 1024) :
    Calls Try.prog 29 #[.int .i64 n] w fun e w' => ∃ pb bl, e = .returned (.tuple #[.pointer (some ⟨pb, 0, none⟩), .int .i64 0]) ∧ BdO pb (freshL n) bl ∧ Own W (bl ++ m) w' := by
  obtain ⟨i, hi, hz, hs, hb⟩ := info_get page_info
  have hmk := fun W => run_make_rowN (P := Try.prog) 22 24 i _ Try.underlying22 hi hz .i64 .i64 n n (Nat.le_refl _) (by rw [hb]; omega) (by omega) W
  rw [hs, madeCells_const _ (.int .i64 0) _ (by simp [Value.cells]) (by intro j hj; obtain rfl | rfl | rfl : j = 0 ∨ j = 1 ∨ j = 2 := (by simp [Value.cells] at hj; omega) <;> rfl)] at hmk
  obtain ⟨o1, h3⟩ := zero_own h n (by omega)
  have h4 := h3.new (.cells #[.slice (some ⟨w.heap.size, 0, none⟩) n n] 61)
  have hbd : BdO (w.heap.size + 1) (List.replicate n (0, 0, 0)) ((w.heap.size + 1, .cells #[.slice (some ⟨w.heap.size, 0, none⟩) n n] 61) :: [(w.heap.size, .cells (Array.replicate (n * 3) (.int .i64 0)) 24)]) := ⟨_, _, o1, rfl⟩
  have hl : (List.replicate n ((0 : Int), (0 : Int), (0 : Int))).length = n := List.length_replicate
  have h5 : Own W (((w.heap.size + 1, .cells #[.slice (some ⟨w.heap.size, 0, none⟩) n n] 61) :: [(w.heap.size, .cells (Array.replicate (n * 3) (.int .i64 0)) 24)]) ++ m) ((w.alloc (.cells (Array.replicate (n * 3) (.int .i64 0)) 24)).alloc (.cells #[.slice (some ⟨w.heap.size, 0, none⟩) n n] 61)) := by simpa using h4
  have hw := whole_spec h5 hbd (by rw [hl]; exact h1) (by rw [hl]; exact h2)
  rw [hl] at hw
  have HW := Lib.hid hw
  clear hi hz hs hb o1 h3 h4 hbd hl h5 hw
  go_enter Try.func29, Try.ntmps29
  go_wp2_with fail
  refine HW.out.mono ?_
  rintro e w2 ⟨bl, rfl, hb2, h6⟩
  go_wp2_with fail
  go_ret2
  exact ⟨_, bl, rfl, hb2, h6⟩
set_option maxHeartbeats 400000 in
theorem bnew_bad (n : Int) (hn : n < 1 ∨ 1024 < n) (w : World) :
    Calls Try.prog 29 #[.int .i64 n] w fun e w' => e = .returned (.tuple #[.pointer none, .int .i64 2]) ∧ w = w' := by
  go_enter Try.func29, Try.ntmps29
  go_wp2_with fail
  all_goals (try omega)
  all_goals go_ret2
  all_goals exact ⟨rfl, rfl⟩
set_option maxHeartbeats 400000 in
theorem left_spec (h : Own W (bl ++ m) w) (hb : BdO pb L bl) (hL1 : 1 ≤ L.length) :
    Calls Try.prog 22 #[.pointer (some ⟨pb, 0, none⟩)] w fun e w' => e = .returned (.int .i64 (pgFree L)) ∧ Own W (bl ++ m) w' := by
  obtain ⟨v, bs, ho, rfl⟩ := id hb
  have hc := bd_cell h
  have hr := bd_read ho h
  obtain ⟨A, cap, rfl, -, -⟩ := ho.slice
  have HB := Lib.hid hb
  go_enter Try.func22, Try.ntmps22
  go_wp2_with (first | (go_at_call 53; refine (none_spec h HB.out hL1).mono ?_; rintro e w' ⟨rfl, rfl⟩) | (go_at_call 19; refine (free_spec h hr).mono ?_; rintro e w' ⟨rfl, h1⟩))
  go_ret
  exact ⟨rfl, h1⟩
set_option maxHeartbeats 400000 in
theorem pages_spec (h : Own W (bl ++ m) w) (hb : BdO pb L bl) (hL1 : 1 ≤ L.length) (hL : L.length ≤ 1024) :
    Calls Try.prog 27 #[.pointer (some ⟨pb, 0, none⟩)] w fun e w' => ∃ v' bs', e = .returned v' ∧ PgO true v' L bs' ∧ Own W (bs' ++ (bl ++ m)) w' := by
  obtain ⟨v, bs, ho, rfl⟩ := id hb
  have hc := bd_cell h
  have hr := bd_read ho h
  obtain ⟨A, cap, rfl, -, -⟩ := ho.slice
  have HB := Lib.hid hb
  go_enter Try.func27, Try.ntmps27
  go_wp2_with (first | (go_at_call 53; refine (none_spec h HB.out hL1).mono ?_; rintro e w' ⟨rfl, rfl⟩) | (go_at_call 50; refine (cloneP_spec h hr (by omega) (by omega)).mono ?_; rintro e w' ⟨v', bs', rfl, o1, h1⟩))
  go_ret
  exact ⟨_, bs', rfl, o1, h1⟩
end
end Go.Proofs.Ytljcndcmdphmgaa
