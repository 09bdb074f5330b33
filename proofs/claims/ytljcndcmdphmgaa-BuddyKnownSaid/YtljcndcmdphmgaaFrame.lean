/-
  Contracts: frame.headed, the test of a page that is inside, and whether a slice of pages has one that is not.
-/
import Derived.Test.YtljcndcmdphmgaaFramePlain
import Derived.Test.YtljcndcmdphmgaaSlice
namespace Go.Proofs.Ytljcndcmdphmgaa
open Go.RowKit
attribute [local go_sem ↓] Go.wp_at_zero Go.wp_at_succ
/-- a page as a value -/
def pgVal (p : Pg) : Value := .agg #[.int .i64 p.1, .int .i64 p.2.1, .int .i64 p.2.2]
section
variable {W : World} {m : List (Nat × Obj)} {w : World}
set_option maxHeartbeats 1000000 in
theorem headed_spec (h : Own W m w) (k o c : Int) :
    Calls Try.prog 48 #[.agg #[.int .i64 k, .int .i64 o, .int .i64 c]] w fun e w' => e = .returned (.bool (pgHead (k, o, c))) ∧ Own W m w' := by
  have h0 := h.alloc (.cells #[.int .i64 k, .int .i64 o, .int .i64 c] 24)
  go_enter Try.func48, Try.ntmps48
  go_wp2_with fail
  all_goals go_ret
  all_goals refine ⟨?_, h0⟩
  all_goals simp only [beq_iff_eq, beq_eq_false_iff_ne, ne_eq] at *
  all_goals
    first
      | exact (congrArg (fun b => Ending.returned (Value.bool b)) (show pgHead (k, o, c) = false from decide_eq_false (by simp only; omega))).symm
      | exact (congrArg (fun b => Ending.returned (Value.bool b)) (show pgHead (k, o, c) = (c == 0) from Bool.eq_iff_iff.2 (by simp [pgHead]; omega))).symm
      | exact (congrArg (fun b => Ending.returned (Value.bool b)) (show pgHead (k, o, c) = decide (c ≤ 8) from Bool.eq_iff_iff.2 (by simp [pgHead]; omega))).symm
      | exact (congrArg (fun b => Ending.returned (Value.bool b)) (show pgHead (k, o, c) = (decide (0 ≤ c) && decide (c ≤ 8)) from Bool.eq_iff_iff.2 (by simp [pgHead]; omega))).symm
      | trace_state
set_option maxHeartbeats 1000000 in
theorem inside_spec (h : Own W m w) (k o c : Int) :
    Calls Try.prog 87 #[.agg #[.int .i64 k, .int .i64 o, .int .i64 c]] w fun e w' => e = .returned (.bool (!decide (((k, o, c) : Pg) = pgIn))) ∧ Own W m w' := by
  have h0 := h.alloc (.cells #[.int .i64 k, .int .i64 o, .int .i64 c] 24)
  go_enter Try.func87, Try.ntmps87
  go_wp2_with fail
  all_goals go_ret
  all_goals refine ⟨?_, h.alloc _⟩
  all_goals simp_all [pgIn]
end
/-- pages as numbers, one behind another -/
def flat3 : List Pg → List Int
  | [] => []
  | p :: l => p.1 :: p.2.1 :: p.2.2 :: flat3 l
theorem flat3_len : ∀ l, (flat3 l).length = l.length * 3
  | [] => rfl
  | p :: l => by simp [flat3, flat3_len l]; omega
theorem flat3_get : ∀ {l : List Pg} {j : Nat} {p : Pg}, l[j]? = some p → (flat3 l)[j * 3]? = some p.1 ∧ (flat3 l)[j * 3 + 1]? = some p.2.1 ∧ (flat3 l)[j * 3 + 2]? = some p.2.2
  | [], j, p, h => by simp at h
  | q :: l, 0, p, h => by
    simp at h
    subst h
    simp [flat3]
  | q :: l, j + 1, p, h => by
    have := flat3_get (l := l) (j := j) (p := p) (by simpa using h)
    rw [show (j + 1) * 3 = j * 3 + 1 + 1 + 1 from by omega]
    simpa [flat3] using this
/-- from a place on memory reads as pages -/
def PgAt (w : World) (g o : Nat) (l : List Pg) : Prop := g < w.heap.size ∧ ∀ (j : Nat) (p : Pg), l[j]? = some p →
  w.cell? ⟨g, o + j * 3, none⟩ = some (.int .i64 p.1) ∧ w.cell? ⟨g, o + j * 3 + 1, none⟩ = some (.int .i64 p.2.1) ∧ w.cell? ⟨g, o + j * 3 + 2, none⟩ = some (.int .i64 p.2.2)
theorem PgAt.own {W w : World} {g o : Nat} {l : List Pg} {m : List (Nat × Obj)} (h : PgAt W g o l) (hO : Own W m w) : PgAt w g o l := by
  refine ⟨Nat.lt_of_lt_of_le h.1 hO.size_le, fun j p hp => ?_⟩
  obtain ⟨h1, h2, h3⟩ := h.2 j p hp
  exact ⟨(hO.old (by exact h.1)).trans h1, (hO.old (by exact h.1)).trans h2, (hO.old (by exact h.1)).trans h3⟩
def pgIdx (l : List Pg) : Int := match l.findIdx? (fun p => decide (p ≠ pgIn)) with | some i => i | none => -1
theorem pgIdx_yes {l : List Pg} {k : Nat} {p : Pg} (hk : l[k]? = some p) (hp : p ≠ pgIn) (h : ∀ j, j < k → l[j]? = some pgIn) : pgIdx l = k := by
  have : l.findIdx? (fun p => decide (p ≠ pgIn)) = some k := by
    rw [List.findIdx?_eq_some_iff_getElem]
    obtain ⟨hlt, he⟩ := List.getElem?_eq_some_iff.1 hk
    refine ⟨hlt, by simp [he, hp], fun j hj => ?_⟩
    have := h j hj
    rw [List.getElem?_eq_getElem (by omega)] at this
    simp [Option.some.inj this]
  unfold pgIdx
  rw [this]
theorem pgIdx_no {l : List Pg} (h : ∀ j, j < l.length → l[j]? = some pgIn) : pgIdx l = -1 := by
  have : l.findIdx? (fun p => decide (p ≠ pgIn)) = none := by
    rw [List.findIdx?_eq_none_iff]
    intro x hx
    obtain ⟨j, hj, rfl⟩ := List.getElem_of_mem hx
    have := h j hj
    rw [List.getElem?_eq_getElem hj] at this
    simp [Option.some.inj this]
  unfold pgIdx
  rw [this]
theorem pgIdx_all (l : List Pg) : decide (0 ≤ pgIdx l) = !l.all (· == pgIn) := by
  unfold pgIdx
  cases h : l.findIdx? (fun p => decide (p ≠ pgIn)) with
  | none =>
    rw [List.findIdx?_eq_none_iff] at h
    have : l.all (· == pgIn) = true := by
      rw [List.all_eq_true]
      intro x hx
      have := h x hx
      simpa using this
    rw [this]; rfl
  | some k =>
    rw [List.findIdx?_eq_some_iff_getElem] at h
    obtain ⟨hlt, he, _⟩ := h
    have : l.all (· == pgIn) = false := by
      rw [List.all_eq_false]
      exact ⟨_, List.getElem_mem hlt, by simpa using he⟩
    rw [this]; simp
set_option maxHeartbeats 1000000 in
theorem indexFunc_spec {w : World} {g o : Nat} {c : Nat} {l : List Pg} (hs : PgAt w g o l) (hl : l.length ≤ 60000) :
    Calls Try.prog 103 #[.slice (some ⟨g, o, none⟩) l.length c, .func (.func 87) #[] #[]] w fun e w' => e = .returned (.int .i64 (pgIdx l)) ∧ Own w [] w' := by
  go_enter Try.func103, Try.ntmps103
  go_wp2_with fail
  go_loopw [8] (fun k wr => ∃ i : Nat, i ≤ l.length ∧ k = .int .i64 i ∧ (∀ j, j < i → l[j]? = some pgIn) ∧ Own w [] wr) (fun k _ => l.length - (intOf k).toNat)
  case atStart => exact ⟨0, Nat.zero_le _, rfl, fun j hj => absurd hj (by omega), Own.self w⟩
  case round =>
    obtain ⟨i, hi, rfl, hno, hr⟩ := hrel
    have HN := Lib.hid hno
    clear hno
    by_cases hlt : i < l.length
    · obtain ⟨p, hp⟩ : ∃ p, l[i]? = some p := ⟨_, List.getElem?_eq_getElem hlt⟩
      obtain ⟨q0, q1, q2⟩ := (hs.own hr).2 i p hp
      have HP := Lib.hid hp
      obtain ⟨p0, p1, p2⟩ := p
      simp only at q0 q1 q2
      clear hp
      by_cases hin : ((p0, p1, p2) : Pg) = pgIn
      · go_wp2_with (go_at_call 87; refine (inside_spec hr p0 p1 p2).mono ?_; rintro e w' ⟨rfl, h1⟩; rw [decide_eq_true hin])
        go_roundw
        case rel =>
          refine ⟨i + 1, by omega, by go_num, fun j hj => ?_, h1⟩
          by_cases hji : j < i
          · exact HN.out j hji
          · obtain rfl : j = i := by omega
            rw [HP.out, hin]
        case measure => simp [intOf]; omega
      · go_wp2_with (go_at_call 87; refine (inside_spec hr p0 p1 p2).mono ?_; rintro e w' ⟨rfl, h1⟩; rw [decide_eq_false hin])
        go_ret
        exact ⟨by rw [pgIdx_yes HP.out hin HN.out]; rfl, h1⟩
    · obtain rfl : i = l.length := by omega
      go_wp2_with fail
      go_ret
      exact ⟨by rw [pgIdx_no HN.out]; rfl, hr⟩
theorem containsFunc_spec {w : World} {g o : Nat} {c : Nat} {l : List Pg} (hs : PgAt w g o l) (hl : l.length ≤ 60000) :
    Calls Try.prog 86 #[.slice (some ⟨g, o, none⟩) l.length c, .func (.func 87) #[] #[]] w fun e w' => e = .returned (.bool (!l.all (· == pgIn))) ∧ Own w [] w' := by
  have HM := Lib.hid (pgIdx_all l)
  go_enter Try.func86, Try.ntmps86
  go_wp2_with (go_at_call 103; refine (indexFunc_spec hs hl).mono ?_; rintro e w' ⟨rfl, h1⟩)
  go_ret
  exact ⟨by rw [← HM.out]; rfl, h1⟩
theorem containsFunc_at {w : World} {g o : Nat} {c n : Nat} {l : List Pg} (hs : PgAt w g o l) (hn : n = l.length) (hl : n ≤ 60000) :
    Calls Try.prog 86 #[.slice (some ⟨g, o, none⟩) n c, .func (.func 87) #[] #[]] w fun e w' => e = .returned (.bool (!l.all (· == pgIn))) ∧ Own w [] w' := by
  subst hn
  exact containsFunc_spec hs hl
theorem PgAt.part {w : World} {g o : Nat} {L : List Pg} (h : PgAt w g o L) (i n : Nat) : PgAt w g (o + i * 3) ((L.drop i).take n) := by
  refine ⟨h.1, fun j p hp => ?_⟩
  have hp' : L[i + j]? = some p := by
    rw [List.getElem?_take] at hp
    split at hp
    · rw [List.getElem?_drop] at hp; exact hp
    · cases hp
  obtain ⟨h1, h2, h3⟩ := h.2 (i + j) p hp'
  rw [show o + i * 3 + j * 3 = o + (i + j) * 3 from by omega]
  exact ⟨h1, h2, h3⟩
theorem PgAt.empty {w : World} {g o o' : Nat} {L : List Pg} (h : PgAt w g o L) : PgAt w g o' [] := ⟨h.1, fun j p hp => by simp at hp⟩
end Go.Proofs.Ytljcndcmdphmgaa
