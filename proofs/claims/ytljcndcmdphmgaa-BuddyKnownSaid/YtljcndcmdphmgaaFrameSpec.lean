/-
  Contracts: frame.Check, frame.Head, frame.Free, of any table; slices.Clone of pages.
-/
import Derived.Test.YtljcndcmdphmgaaFramePlain2
namespace Go.Proofs.Ytljcndcmdphmgaa
open Go.RowKit
/-- a slice reads as pages -/
def PgS (w : World) (v : Value) (L : List Pg) : Prop := ∃ A c, v = .slice A L.length c ∧ L.length ≤ c ∧ c ≤ maxLen ∧ (0 < L.length → ∃ g o, A = some ⟨g, o, none⟩ ∧ PgAt w g o L)
section
variable {W w : World} {m bs : List (Nat × Obj)} {v : Value} {L : List Pg}
theorem PgS.own (h : PgS W v L) (hO : Own W m w) : PgS w v L := by
  obtain ⟨A, c, rfl, h1, h2, h3⟩ := h
  exact ⟨A, c, rfl, h1, h2, fun hp => by obtain ⟨g, o, rfl, hA⟩ := h3 hp; exact ⟨g, o, rfl, hA.own hO⟩⟩
theorem PgS.below (h : PgS w v L) {w' : World} (hb : Below w.heap.size w w') : PgS w' v L := h.own (m := []) ⟨hb, by simp, by simp⟩
theorem own_of_below (h : Own W m w) {w' : World} (hb : Below w.heap.size w w') : Own W m w' := h.then_below hb
theorem pgCheck_short {L : List Pg} (h : L.length = 0 ∨ 1024 < L.length) : pgCheck L = 50 := by
  unfold pgCheck
  rw [if_neg]
  omega
set_option maxHeartbeats 1000000 in
theorem check_spec (h : Own W m w) (hs : PgS w v L) :
    Calls Try.prog 16 #[v] w fun e w' => e = .returned (.int .i64 (pgCheck L)) ∧ Own W m w' := by
  obtain ⟨A, c, rfl, h1, h2, h3⟩ := hs
  unfold maxLen at h2
  by_cases hz : L.length = 0 ∨ 1024 < L.length
  · have HC := Lib.hid (pgCheck_short hz)
    have h0 := h.alloc (.cells #[.int .i64 50] 26)
    obtain ⟨N, hN⟩ : ∃ N, L.length = N := ⟨_, rfl⟩
    rw [hN] at hz h1 ⊢
    clear h3 hN
    rcases hz with rfl | hz
    · go_enter Try.func16, Try.ntmps16
      go_wp2_with fail
      exact bodyPost_ret (v := .int .i64 50) (by simp [results, Try.f16, go_sem]) rfl ⟨by rw [HC.out], h0⟩
    · have hn0 : ((N : Int) == 0) = false := by rw [beq_eq_false_iff_ne]; omega
      have hn2 : decide (1024 < (N : Int)) = true := decide_eq_true (by omega)
      go_enter Try.func16, Try.ntmps16
      go_wp2_with fail
      exact bodyPost_ret (v := .int .i64 50) (by simp [results, Try.f16, go_sem]) rfl ⟨by rw [HC.out], h0⟩
  · obtain ⟨g, o, rfl, hA⟩ := h3 (by omega)
    exact (callsIn_wide.1 (check_loop g o c L.length L rfl (by omega) (by omega) h1 (by omega) w hA)).mono fun _ _ ⟨he, hb⟩ => ⟨he, h.then_below hb⟩
theorem head_spec (h : Own W m w) (hs : PgS w v L) (hc : pgCheck L = 0) (page : Int) :
    Calls Try.prog 49 #[v, .int .i64 page] w fun e w' => e = .returned (.int .i64 (pgHd L page)) ∧ Own W m w' := by
  obtain ⟨A, c, rfl, h1, h2, h3⟩ := hs
  unfold maxLen at h2
  obtain ⟨z1, z2, z3⟩ := pgCheck_zero hc
  obtain ⟨g, o, rfl, hA⟩ := h3 (by omega)
  exact (callsIn_wide.1 (head_in g o c L.length L rfl (by omega) h1 (by omega) page z3 w hA)).mono fun _ _ ⟨he, hb⟩ => ⟨he, h.then_below hb⟩
set_option maxHeartbeats 1000000 in
theorem free_spec (h : Own W m w) (hs : PgS w v L) :
    Calls Try.prog 19 #[v] w fun e w' => e = .returned (.int .i64 (pgFree L)) ∧ Own W m w' := by
  by_cases hc : pgCheck L = 0
  · obtain ⟨A, c, rfl, h1, h2, h3⟩ := hs
    unfold maxLen at h2
    obtain ⟨z1, z2, z3⟩ := pgCheck_zero hc
    obtain ⟨g, o, rfl, hA⟩ := h3 (by omega)
    exact (callsIn_wide.1 (free_in g o c L.length L rfl (by omega) (by omega) h1 (by omega) z3 hc w hA)).mono fun _ _ ⟨he, hb⟩ => ⟨he, h.then_below hb⟩
  · have h0 := h.alloc (.cells #[.int .i64 0] 3)
    have hs0 := hs.below ((Below.refl _ w).alloc (Nat.le_refl _) (.cells #[.int .i64 0] 3))
    have hf : pgFree L = 0 := by unfold pgFree; rw [if_neg hc]
    have hc : pgCheck L = 50 := (pgCheck_cases L).resolve_left hc
    have HC := Lib.hid hc
    have HF := Lib.hid hf
    have hb := h.new (.cells #[.int .i64 0] 3)
    clear hc hf
    go_enter Try.func19, Try.ntmps19
    go_wp2_with (go_at_call 16; refine (check_spec hb hs0).mono ?_; rintro e w' ⟨rfl, h1⟩; rw [HC.out]; have q0 := h1.cell List.mem_cons_self 0; have f0 := h1.frozen List.mem_cons_self 0; simp at q0)
    have q1 := (h1.set 0 (.int .i64 0)).cell List.mem_cons_self 0
    simp at q1
    exact bodyPost_ret (v := .int .i64 0) (by simp [results, Try.f19, go_sem, q1]) rfl ⟨by rw [HF.out], (h1.set 0 _).skip⟩
/-- what Head answers -/
def pgHeadE (L : List Pg) (page : Int) : Int × Int := if pgCheck L ≠ 0 then (0, 50) else if page < 0 ∨ (L.length : Int) ≤ page then (0, 9) else (pgHd L page, 0)
set_option maxHeartbeats 1000000 in
theorem Head_spec (h : Own W m w) (hs : PgS w v L) (page : Int) :
    Calls Try.prog 18 #[v, .int .i64 page] w fun e w' => e = .returned (.tuple #[.int .i64 (pgHeadE L page).1, .int .i64 (pgHeadE L page).2]) ∧ Own W m w' := by
  have hs' := hs
  obtain ⟨A, c, rfl, h1, h2, h3⟩ := hs'
  unfold maxLen at h2
  obtain ⟨N, hN⟩ : ∃ N, L.length = N := ⟨_, rfl⟩
  have HN := Lib.hid hN
  rw [hN] at hs h1 ⊢
  clear h3 hN
  by_cases hc : pgCheck L = 0
  · have HC := Lib.hid hc
    clear hc
    by_cases hp : page < 0 ∨ (N : Int) ≤ page
    · have hr : pgHeadE L page = (0, 9) := by unfold pgHeadE; rw [if_neg (by rw [HC.out]; simp), if_pos (by rw [HN.out]; exact hp)]
      rw [hr]
      clear hr
      rcases hp with hp | hp
      all_goals
        have hp0 : page < 0 ∨ 0 ≤ page := by omega
        rcases hp0 with hp0 | hp0
        all_goals
          go_enter Try.func18, Try.ntmps18
          go_wp2_with (go_at_call 16; refine (check_spec h hs).mono ?_; rintro e w' ⟨rfl, h1⟩; rw [HC.out])
          go_ret2
          exact ⟨rfl, h1⟩
    · have hr : pgHeadE L page = (pgHd L page, 0) := by unfold pgHeadE; rw [if_neg (by rw [HC.out]; simp), if_neg (by rw [HN.out]; exact hp)]
      rw [hr]
      have hp1 : 0 ≤ page := by omega
      have hp2 : page < N := by omega
      clear hr hp
      go_enter Try.func18, Try.ntmps18
      go_wp2_with (first | (go_at_call 16; refine (check_spec (Own.self w) hs).mono ?_; rintro e w1 ⟨rfl, h0⟩; rw [HC.out]; have hs1 := hs.own h0; have h1 := h.of_self h0) | (go_at_call 49; refine (head_spec h1 hs1 HC.out page).mono ?_; rintro e w' ⟨rfl, h2⟩))
      go_ret2
      exact ⟨rfl, h2⟩
  · have hr : pgHeadE L page = (0, 50) := by unfold pgHeadE; rw [if_pos hc]
    rw [hr]
    have hc : pgCheck L = 50 := (pgCheck_cases L).resolve_left hc
    have HC := Lib.hid hc
    clear hc hr
    go_enter Try.func18, Try.ntmps18
    go_wp2_with (go_at_call 16; refine (check_spec h hs).mono ?_; rintro e w' ⟨rfl, h1⟩; rw [HC.out])
    go_ret2
    exact ⟨rfl, h1⟩
end
end Go.Proofs.Ytljcndcmdphmgaa
