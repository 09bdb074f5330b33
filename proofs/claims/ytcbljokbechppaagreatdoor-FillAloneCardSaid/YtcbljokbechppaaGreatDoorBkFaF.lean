import Derived.Test.YtcbljokbechppaaGreatDoorBkFaX
/-
  wainscotlaw24.FillAlone: the facts of its runs hold. No condition.
-/
namespace Go.Proofs.YtcbljokbechppaaGreatDoor.Fa
open Go Ex Mem See
open Go.RowKit
namespace Na
section
variable {x : Na} (h : x.Ok)
theorem len40 : (SE.len (.lvar 40)).ev x.σA = (x.ex.length : Int) := by
  show ((x.σA (ln 40)).toNat : Int) = _
  unfold σA
  rw [sg_oneN (L := x.ex) (by omega) (by unfold lA; rw [if_pos rfl])]
  rfl
theorem lenQ {q : Nat} (hq : q < 14) (h9 : q ≠ 9) : (SE.len (.lvar q)).ev x.σA = ((24 + 4 * x.k : Nat) : Int) := len_w (c := x.cQ q) (by omega) (by unfold lA; rw [if_neg (by omega), if_neg h9, if_pos hq]; rfl)
include h
theorem cnt_in {q : Nat} (h1 : 40 ≤ q) (h2 : q < 44) : 0 ≤ x.σA q ∧ x.σA q < 300 := by
  have hm := h.m
  have hk := k16 h
  have e : x.σA q = x.vA q := ev (x := x) (i := q) (by omega)
  have hc0 := cnt_le h 0
  have ho3 := h.ow 3
  rw [e]
  unfold vA
  rw [if_neg (by omega), if_neg (by omega), if_neg (by omega), if_neg (by omega), if_neg (by omega), if_neg (by omega)]
  by_cases c1 : q = 43 ∧ x.kept = true
  · rw [if_pos c1]
    omega
  · rw [if_neg c1]
    by_cases c2 : 40 ≤ q ∧ q < 40 + x.m
    · rw [if_pos c2]
      have hc := cnt_le h (q - 40 + 1)
      have ho := h.ow (q - 40)
      omega
    · rw [if_neg c2, if_neg (by omega), if_neg (by omega), if_neg (by omega), if_neg (by omega), if_neg (by omega), if_neg (by omega), if_neg (by omega), if_neg (by omega), if_neg (by omega)]
      omega
theorem facts_A : ∀ q ∈ fA x.m (decide (3 < x.ex.length)), q.1.ev x.σA = q.2 := by
  have hm := h.hm
  have hK := h.K
  have hk := k16 h
  have o : ∀ s, s < 4 → ∀ q ∈ rng (v (21 + s)) 0 16, q.1.ev x.σA = q.2 := fun s hs q hq => by
    have ho := h.ow s
    have e : (v (21 + s)).ev x.σA = (x.ow s : Int) - 1 := by
      rw [ev (by omega)]
      match s, hs with
      | 0, _ => rfl
      | 1, _ => rfl
      | 2, _ => rfl
      | 3, _ => rfl
      | s + 4, hs => exact absurd hs (by omega)
    exact rng_ok e (by omega) (by omega) q hq
  intro q hq
  simp only [fA, List.append_assoc, List.mem_append] at hq
  rcases hq with hq | hq | hq | hq | hq | hq
  · unfold fLen at hq
    by_cases h3 : x.m = 3
    · rw [if_pos h3] at hq
      simp only [List.mem_cons, List.not_mem_nil, or_false] at hq
      rcases hq with rfl | rfl | rfl | rfl
      · exact lt_t (x := 0) rfl len40 (by omega)
      · exact lt_t (x := 1) rfl len40 (by omega)
      · exact lt_t (x := 2) rfl len40 (by omega)
      · show decide ((3 : Int) < (SE.len (.lvar 40)).ev x.σA) = _
        rw [len40]
        by_cases h4 : 3 < x.ex.length
        · rw [decide_eq_true h4, decide_eq_true (by omega)]
        · rw [decide_eq_false h4, decide_eq_false (by omega)]
    · rw [if_neg h3] at hq
      rw [List.mem_singleton] at hq
      subst hq
      exact eq_t len40 (y := (x.m : Int)) rfl (by omega)
  · exact rng_ok z0 (by omega) (by omega) q hq
  · exact o 0 (by omega) q hq
  · exact o 1 (by omega) q hq
  · exact o 2 (by omega) q hq
  · exact o 3 (by omega) q hq
theorem facts_T : ∀ q ∈ fT x.m x.kept, q.1.ev x.σA = q.2 := by
  have hm := h.m
  have hk := k16 h
  have hlow := wB_low (x := x) hm
  have hsl := sl_lt (x := x)
  have hbl : baseQ x.m x.kept < 14 ∧ baseQ x.m x.kept ≠ 9 := by unfold baseQ; split; omega; split <;> omega
  have ln_ : ∀ q, q < 14 → q ≠ 9 → ∀ f ∈ rng (.len (.lvar q)) 28 89, f.1.ev x.σA = f.2 := fun q h1 h2 => rng_ok (lenQ h1 h2) (by omega) (by omega)
  have cn_ : ∀ q, 40 ≤ q → q < 44 → ∀ f ∈ rng (v q) 0 300, f.1.ev x.σA = f.2 := fun q h1 h2 => rng_ok (x := x.σA q) rfl (cnt_in h h1 h2).1 (cnt_in h h1 h2).2
  have w0 : ∀ {i : Nat}, i < 24 → x.wB.lo i = 0 → (Fa.wB x.m x.kept i).ev x.σA = 0 := fun {i} hi he => (wX_lo h (e := l i) (i := i) rfl hi).trans (by rw [he]; rfl)
  have w5 : (Fa.wB x.m x.kept 5).ev x.σA = (x.wB.SH : Int) := wX_lo h (e := l 5) (i := 5) rfl (by omega)
  have hSH : x.wB.SH < 5 ∧ (x.T = false → x.wB.SH = 0) := by
    unfold wB T
    cases x.kept with
    | true =>
      show (if 0 < x.m then 0 + 1 else 0) < 5 ∧ _
      exact ⟨by split <;> omega, fun h => by cases h⟩
    | false =>
      by_cases h0 : x.m = 0
      · simp only [Bool.false_eq_true, if_false, if_pos h0]
        show (if 0 < x.m then 0 + 1 else 0) < 5 ∧ (_ → (if 0 < x.m then 0 + 1 else 0) = 0)
        rw [if_neg (by omega)]
        exact ⟨by omega, fun _ => rfl⟩
      · simp only [Bool.false_eq_true, if_false, if_neg h0]
        show (if 1 < x.m then 1 + 1 else 0) < 5 ∧ _
        exact ⟨by split <;> omega, fun h => by simp [h0] at h⟩
  intro q hq
  simp only [fT, lensF, cntsF, List.append_nil, List.append_assoc, List.mem_append, List.mem_cons, List.not_mem_nil, or_false, or_assoc] at hq
  rcases hq with hq | hq | hq | hq | hq | hq | hq | hq | hq | rfl | rfl | rfl | hq
  · exact ln_ 0 (by omega) (by omega) q hq
  · exact ln_ 10 (by omega) (by omega) q hq
  · exact ln_ 11 (by omega) (by omega) q hq
  · exact ln_ 12 (by omega) (by omega) q hq
  · exact ln_ 13 (by omega) (by omega) q hq
  · exact cn_ 40 (by omega) (by omega) q hq
  · exact cn_ 41 (by omega) (by omega) q hq
  · exact cn_ 42 (by omega) (by omega) q hq
  · exact cn_ 43 (by omega) (by omega) q hq
  · exact eq_t (w0 (i := 0) (by omega) hlow.1) (y := 0) rfl rfl
  · exact eq_t (w0 (i := 2) (by omega) hlow.2.2.1) (y := 0) rfl rfl
  · exact eq_t (w0 (i := 4) (by omega) hlow.2.2.2.2.1) (y := 0) rfl rfl
  · by_cases hT : x.T = true
    · rw [if_pos (show (x.kept || x.m != 0) = true from hT)] at hq
      have hl := lst_in (x.ow x.sl)
      have hlk : lst (x.ow x.sl) < (x.k : Int) := by
        have := h.ow x.sl
        unfold lst
        split <;> omega
      have hle := link_ev h hT
      have hix := link_idx (k := x.k) (s := x.sl) (o := 0) hsl (by omega)
      simp only [List.mem_append, List.mem_cons, List.not_mem_nil, or_false, or_assoc] at hq
      rcases hq with rfl | hq | rfl | hq | rfl | rfl | rfl | rfl | rfl
      · exact eq_t (first_one h hT) (y := 1) rfl rfl
      · exact rng_ok (x := lst (x.ow x.sl)) (show (v 52).ev x.σA = _ from n52 hm) hl.1 hl.2 q hq
      · exact lt_t (x := lst (x.ow x.sl)) (show (v 52).ev x.σA = _ from n52 hm) (yk h) hlk
      · exact rng_ok w5 (by omega) (by omega) q hq
      · refine lt_f (x := ((24 + 4 * x.k : Nat) : Int) - 1) ?_ hle (by omega)
        show IntKind.i64.wrap (wordsE.ev x.σA - 1) = _
        rw [yN h, i64_small (by omega) (by omega)]
      · exact lt_t hle (yN h) (by omega)
      · exact lt_t hle (lenQ hbl.1 hbl.2) (by omega)
      · show ((10 : Int) == (nextA x.kept).ev x.σA) = (x.kept == false)
        rw [nextA_ev]
        unfold sl
        cases x.kept <;> rfl
      · show ((nextA x.kept).ev x.σA == (10 : Int)) = (x.kept == false)
        rw [nextA_ev]
        unfold sl
        cases x.kept <;> rfl
    · rw [if_neg (show ¬ (x.kept || x.m != 0) = true from hT)] at hq
      rw [List.mem_singleton] at hq
      subst hq
      refine eq_t w5 (y := 0) rfl ?_
      rw [hSH.2 (by simpa using hT)]
      rfl
end
end Na
end Go.Proofs.YtcbljokbechppaaGreatDoor.Fa
