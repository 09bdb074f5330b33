/-
  wainscotlaw05.works answers true.
-/
import Derived.Test.YtljcndcmdphmgaaFrameSame
namespace Go.Proofs.Ytljcndcmdphmgaa
open Go.RowKit
theorem Set_any {W w : World} {m : List (Nat × Obj)} {v : Value} {L : List Pg} (h : Own W m w) (hs : PgS w v L) (page : Int) (k o c : Int) (hp : page < 4611686018427387904) :
    Calls Try.prog 15 #[v, .int .i64 page, .agg #[.int .i64 k, .int .i64 o, .int .i64 c]] w (SetPost W m L page (k, o, c)) := by
  by_cases hE : pgSetE L page (k, o, c) = 0
  · exact Set_ok h hs page k o c hE
  · exact Set_no h hs page k o c hp hE
theorem pgS_lit {W w : World} {m : List (Nat × Obj)} (h : Own W m w) (L : List Pg) (hl : L.length ≤ 60000) :
    PgS (w.alloc (.cells (ints (flat3 L)).toArray 24)) (.slice (some ⟨w.heap.size, 0, none⟩) L.length L.length) L := by
  refine ⟨_, _, rfl, Nat.le_refl _, by unfold maxLen; omega, fun _ => ⟨_, _, rfl, ?_, fun j p hj => ?_⟩⟩
  · simp
  · obtain ⟨f0, f1, f2⟩ := flat3_get hj
    have g0 := ints_get f0
    have g1 := ints_get f1
    have g2 := ints_get f2
    simp [g0, g1, g2]
namespace law05
/-- the four pages of the example, each in its box -/
def four (b : Nat) : List (Nat × Obj) := [(b + 1 + 1 + 1, .cells #[.int .i64 2, .int .i64 1, .int .i64 1] 24), (b + 1 + 1, .cells #[.int .i64 0, .int .i64 1, .int .i64 0] 24), (b + 1, .cells #[.int .i64 1, .int .i64 0, .int .i64 0] 24), (b, .cells #[.int .i64 0, .int .i64 0, .int .i64 0] 24)]
theorem four_cells {W w : World} {b : Nat} (h : Own W (four b) w) :
    (w.cell? ⟨b, 0, none⟩ = some (.int .i64 0) ∧ w.cell? ⟨b, 1, none⟩ = some (.int .i64 0) ∧ w.cell? ⟨b, 2, none⟩ = some (.int .i64 0)) ∧
    (w.cell? ⟨b + 1, 0, none⟩ = some (.int .i64 1) ∧ w.cell? ⟨b + 1, 1, none⟩ = some (.int .i64 0) ∧ w.cell? ⟨b + 1, 2, none⟩ = some (.int .i64 0)) ∧
    (w.cell? ⟨b + 1 + 1, 0, none⟩ = some (.int .i64 0) ∧ w.cell? ⟨b + 1 + 1, 1, none⟩ = some (.int .i64 1) ∧ w.cell? ⟨b + 1 + 1, 2, none⟩ = some (.int .i64 0)) ∧
    (w.cell? ⟨b + 1 + 1 + 1, 0, none⟩ = some (.int .i64 2) ∧ w.cell? ⟨b + 1 + 1 + 1, 1, none⟩ = some (.int .i64 1) ∧ w.cell? ⟨b + 1 + 1 + 1, 2, none⟩ = some (.int .i64 1)) := by
  unfold four at h
  refine ⟨⟨?_, ?_, ?_⟩, ⟨?_, ?_, ?_⟩, ⟨?_, ?_, ?_⟩, ⟨?_, ?_, ?_⟩⟩
  all_goals first
    | (rw [h.cell (b := b) (cs := #[.int .i64 0, .int .i64 0, .int .i64 0]) (t := 24) (by simp)]; rfl)
    | (rw [h.cell (b := b + 1) (cs := #[.int .i64 1, .int .i64 0, .int .i64 0]) (t := 24) (by simp)]; rfl)
    | (rw [h.cell (b := b + 1 + 1) (cs := #[.int .i64 0, .int .i64 1, .int .i64 0]) (t := 24) (by simp)]; rfl)
    | (rw [h.cell (b := b + 1 + 1 + 1) (cs := #[.int .i64 2, .int .i64 1, .int .i64 1]) (t := 24) (by simp)]; rfl)
theorem four_lt {W w : World} {m : List (Nat × Obj)} {b : Nat} (h : Own W (m ++ four b) w) : b < w.heap.size ∧ b + 1 < w.heap.size ∧ b + 1 + 1 < w.heap.size ∧ b + 1 + 1 + 1 < w.heap.size := by
  have := h.dropL.lt (b := b + 1 + 1 + 1) (o := .cells #[.int .i64 2, .int .i64 1, .int .i64 1] 24) (by simp [four])
  omega
theorem four_own (w : World) : Own w (four w.heap.size) ((((w.alloc (.cells #[.int .i64 0, .int .i64 0, .int .i64 0] 24)).alloc (.cells #[.int .i64 1, .int .i64 0, .int .i64 0] 24)).alloc (.cells #[.int .i64 0, .int .i64 1, .int .i64 0] 24)).alloc (.cells #[.int .i64 2, .int .i64 1, .int .i64 1] 24)) := by
  have h1 := (Own.self w).new (.cells #[.int .i64 0, .int .i64 0, .int .i64 0] 24)
  have h2 := h1.new (.cells #[.int .i64 1, .int .i64 0, .int .i64 0] 24)
  have h3 := h2.new (.cells #[.int .i64 0, .int .i64 1, .int .i64 0] 24)
  have h4 := h3.new (.cells #[.int .i64 2, .int .i64 1, .int .i64 1] 24)
  simpa [four] using h4
set_option maxRecDepth 100000 in
set_option maxHeartbeats 4000000 in
theorem works_spec {W w : World} {m : List (Nat × Obj)} (h : Own W m w) :
    Calls Try.prog 14 #[] w fun e w' => e = .returned (.bool true) ∧ Own W m w' := by
  have h4 := four_own w
  go_enter Try.func14, Try.ntmps14
  go_wp2_with fail
  obtain ⟨w4, hw4⟩ : ∃ w4, (((w.alloc (.cells #[.int .i64 0, .int .i64 0, .int .i64 0] 24)).alloc (.cells #[.int .i64 1, .int .i64 0, .int .i64 0] 24)).alloc (.cells #[.int .i64 0, .int .i64 1, .int .i64 0] 24)).alloc (.cells #[.int .i64 2, .int .i64 1, .int .i64 1] 24) = w4 := ⟨_, rfl⟩
  have hz : w.heap.size + 1 + 1 + 1 + 1 = w4.heap.size := by rw [← hw4]; simp
  rw [hw4] at h4 ⊢
  rw [hz]
  clear hz hw4
  obtain ⟨b, hb⟩ : ∃ b, w.heap.size = b := ⟨_, rfl⟩
  rw [hb] at h4 ⊢
  clear hb
  refine (check_spec (h4.alloc _) (pgS_lit h4 [(0, 1, 0), (1, 0, 0), (0, 0, 0)] (by decide))).mono ?_
  rintro e w5 ⟨rfl, h5⟩
  rw [show pgCheck [(0, 1, 0), (1, 0, 0), (0, 0, 0)] = 0 from by decide]
  obtain ⟨⟨_, _, _⟩, ⟨_, _, _⟩, ⟨_, _, _⟩, ⟨_, _, _⟩⟩ := four_cells h5
  go_wp2_with fail
  refine (check_spec (h5.alloc _) (pgS_lit h5 [(0, 0, 0), (0, 1, 0), (1, 0, 0)] (by decide))).mono ?_
  rintro e w6 ⟨rfl, h6⟩
  rw [show pgCheck [(0, 0, 0), (0, 1, 0), (1, 0, 0)] = 50 from by decide]
  obtain ⟨⟨_, _, _⟩, ⟨_, _, _⟩, ⟨_, _, _⟩, ⟨_, _, _⟩⟩ := four_cells h6
  go_wp2_with fail
  refine (check_spec (h6.alloc _) (pgS_lit h6 [(0, 0, 0), (1, 0, 0)] (by decide))).mono ?_
  rintro e w7 ⟨rfl, h7⟩
  rw [show pgCheck [(0, 0, 0), (1, 0, 0)] = 50 from by decide]
  go_wp2_with fail
  refine (check_spec h7 (L := []) ⟨none, 0, rfl, by simp, by unfold maxLen; omega, fun h => by simp at h⟩).mono ?_
  rintro e w8 ⟨rfl, h8⟩
  rw [show pgCheck [] = 50 from by decide]
  obtain ⟨⟨_, _, _⟩, ⟨_, _, _⟩, ⟨_, _, _⟩, ⟨_, _, _⟩⟩ := four_cells h8
  go_wp2_with fail
  refine (Head_spec (h8.alloc _) (pgS_lit h8 [(2, 1, 1), (1, 0, 0), (0, 0, 0)] (by decide)) 1).mono ?_
  rintro e w9 ⟨rfl, h9⟩
  rw [show pgHeadE [(2, 1, 1), (1, 0, 0), (0, 0, 0)] 1 = (0, 0) from by decide]
  obtain ⟨⟨_, _, _⟩, ⟨_, _, _⟩, ⟨_, _, _⟩, ⟨_, _, _⟩⟩ := four_cells h9
  obtain ⟨_, _, _, _⟩ := four_lt (m := []) h9
  go_wp2_with fail
  refine (Set_any (h9.alloc _) (pgS_lit h9 [(0, 0, 0), (0, 0, 0), (0, 0, 0)] (by decide)) 0 2 1 1 (by omega)).mono ?_
  rintro e w10 (⟨hE, -⟩ | ⟨-, v10, bs10, rfl, o10, h10⟩)
  · exact absurd hE (by decide)
  rw [show pgPut [(0, 0, 0), (0, 0, 0), (0, 0, 0)] (Int.toNat 0) (2, 1, 1) = [(2, 1, 1), (1, 0, 0), (0, 0, 0)] from by decide] at o10
  obtain ⟨⟨_, _, _⟩, ⟨_, _, _⟩, ⟨_, _, _⟩, ⟨_, _, _⟩⟩ := four_cells h10.dropL
  obtain ⟨g10, cap10, cur10, rfl, rfl, -⟩ := o10.form (by decide)
  have O10 := Lib.hid o10
  clear o10
  obtain ⟨_, _, _, _⟩ := four_lt h10
  go_wp2_with fail
  refine (Set_any (h10.alloc _) (pgS_lit h10 [(0, 1, 0), (1, 0, 0), (0, 0, 0)] (by decide)) 0 0 0 0 (by omega)).mono ?_
  rintro e w11 (⟨-, rfl, h11⟩ | ⟨hE, -⟩)
  case inr => exact absurd hE (by decide)
  rw [show pgSetE [(0, 1, 0), (1, 0, 0), (0, 0, 0)] 0 (0, 0, 0) = 50 from by decide]
  obtain ⟨⟨_, _, _⟩, ⟨_, _, _⟩, ⟨_, _, _⟩, ⟨_, _, _⟩⟩ := four_cells h11.dropL
  go_wp2_with fail
  refine (free_spec (h11.alloc _) (pgS_lit h11 [(2, 1, 1), (1, 0, 0), (0, 0, 0)] (by decide))).mono ?_
  rintro e w12 ⟨rfl, h12⟩
  rw [show pgFree [(2, 1, 1), (1, 0, 0), (0, 0, 0)] = 1 from by decide]
  obtain ⟨⟨_, _, _⟩, ⟨_, _, _⟩, ⟨_, _, _⟩, ⟨_, _, _⟩⟩ := four_cells h12.dropL
  go_wp2_with fail
  refine (same_spec ((O10.out.read h12).own ((Own.self _).alloc _)) (pgS_lit h12 [(2, 1, 1), (1, 0, 0), (0, 0, 0)] (by decide)) (by decide) (by decide)).mono ?_
  rintro e w13 ⟨rfl, h13⟩
  rw [decide_eq_true rfl]
  go_wp2_with fail
  go_ret
  exact ⟨rfl, h.of_self (((h12.alloc _).of_self h13).sub (List.nil_sublist _))⟩
end law05
end Go.Proofs.Ytljcndcmdphmgaa
