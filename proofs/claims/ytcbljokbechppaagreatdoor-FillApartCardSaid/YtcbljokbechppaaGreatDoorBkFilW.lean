import Derived.Test.YtcbljokbechppaaGreatDoorBkFilQ
import Derived.Test.YtcbljokbechppaaGreatDoorBkBackP
/-
  The words of such a core, and what changes of them: plain. No condition.
-/
namespace Go.Proofs.YtcbljokbechppaaGreatDoor.Fil
open See
section
variable {n k : Nat} {m m' : Mf} {i j s : Nat}
theorem gF_len : (gF n k m).length = 76 + 4 * n := by simp [gF]
theorem gF_get (h : i < 76 + 4 * n) : (gF n k m)[i]? = some (wordF n k m i) := by
  unfold gF
  rw [List.getElem?_map, List.getElem?_range h]
  rfl
theorem gF_at (h : i < 76 + 4 * n) : at_ (gF n k m) i = wordF n k m i := by
  unfold at_
  rw [List.getD_eq_getElem?_getD, gF_get h]
  rfl
/-! what they are -/
theorem w_head (h : j < n) : wordF n k m (4 * j) = m.head j := by
  unfold wordF
  rw [if_pos (by omega), if_pos (by omega), show 4 * j / 4 = j by omega]
theorem w_turn (h : j < n) : wordF n k m (4 * j + 1) = m.turn j := by
  unfold wordF
  rw [if_pos (by omega), if_neg (by omega), if_pos (by omega), show (4 * j + 1) / 4 = j by omega]
theorem w_part (h : j < n) : wordF n k m (4 * j + 2) = 0 := by
  unfold wordF
  rw [if_pos (by omega), if_neg (by omega), if_neg (by omega)]
theorem w_part1 (h : j < n) : wordF n k m (4 * j + 3) = 0 := by
  unfold wordF
  rw [if_pos (by omega), if_neg (by omega), if_neg (by omega)]
theorem w_lock : wordF n k m (4 * n) = m.lk := by
  unfold wordF
  rw [if_neg (by omega), if_pos (by omega), if_pos rfl]
theorem w_shelf : wordF n k m (4 * n + 1) = if m.tk < k then m.tk + 1 else 0 := by
  unfold wordF
  rw [if_neg (by omega), if_pos (by omega), if_neg (by omega), if_pos rfl]
theorem w_held : wordF n k m (4 * n + 2) = m.hd := by
  unfold wordF
  rw [if_neg (by omega), if_pos (by omega), if_neg (by omega), if_neg (by omega), if_pos rfl]
theorem w_first (h : s < 8) : wordF n k m (4 * n + 4 + 4 * s) = if m.cut ≤ s ∧ s < k then 1 else 0 := by
  unfold wordF
  rw [if_neg (by omega), if_neg (by omega), if_pos (by omega)]
  simp only [show (4 * n + 4 + 4 * s - (4 * n + 4)) / 4 = s by omega]
  rw [if_pos (by omega)]
theorem w_counts (h : s < 8) : wordF n k m (4 * n + 4 + 4 * s + 1) = if s < k then (if s < m.cut then packN 5 5 true true else kwF s) else 0 := by
  unfold wordF
  rw [if_neg (by omega), if_neg (by omega), if_pos (by omega)]
  simp only [show (4 * n + 4 + 4 * s + 1 - (4 * n + 4)) / 4 = s by omega]
  rw [if_neg (by omega), if_pos (by omega)]
  rfl
theorem w_next (h : s < 8) : wordF n k m (4 * n + 4 + 4 * s + 2) = nextF k s := by
  unfold wordF
  rw [if_neg (by omega), if_neg (by omega), if_pos (by omega)]
  simp only [show (4 * n + 4 + 4 * s + 2 - (4 * n + 4)) / 4 = s by omega]
  rw [if_neg (by omega), if_neg (by omega), if_pos (by omega)]
  rfl
theorem w_link {o : Nat} (ho : o < 5) : wordF n k m (4 * n + 36 + 5 * s + o) = linkF k s o := by
  unfold wordF
  rw [if_neg (by omega), if_neg (by omega), if_neg (by omega)]
  rw [show (4 * n + 36 + 5 * s + o - (4 * n + 36)) / 5 = s by omega, show (4 * n + 36 + 5 * s + o - (4 * n + 36)) % 5 = o by omega]
/-! what is set -/
theorem gF_set {a x : Nat} (h : ∀ i, i < 76 + 4 * n → wordF n k m' i = if i = a then x else wordF n k m i) : (gF n k m).set a x = gF n k m' := by
  apply List.ext_getElem?
  intro i
  rw [List.getElem?_set]
  by_cases hi : i < 76 + 4 * n
  · rw [gF_get (m := m') hi, h i hi]
    by_cases ha : a = i
    · subst ha
      rw [if_pos rfl, if_pos rfl, if_pos (by rw [gF_len]; exact hi)]
    · rw [if_neg ha, if_neg (fun h => ha h.symm), gF_get hi]
  · rw [List.getElem?_eq_none (l := gF n k m') (by rw [gF_len]; omega)]
    by_cases ha : a = i
    · subst ha
      rw [if_pos rfl, if_neg (by rw [gF_len]; exact hi)]
    · rw [if_neg ha, List.getElem?_eq_none (by rw [gF_len]; omega)]
theorem gF_set2 {a x b y : Nat} (hab : a ≠ b) (h : ∀ i, i < 76 + 4 * n → wordF n k m' i = if i = b then y else if i = a then x else wordF n k m i) : ((gF n k m).set a x).set b y = gF n k m' := by
  apply List.ext_getElem?
  intro i
  rw [List.getElem?_set, List.getElem?_set, List.length_set]
  by_cases hi : i < 76 + 4 * n
  · rw [gF_get (m := m') hi, h i hi]
    by_cases hb : b = i
    · subst hb
      rw [if_pos rfl, if_pos rfl, if_pos (by rw [gF_len]; exact hi)]
    · rw [if_neg hb, if_neg (show ¬ i = b from fun h => hb h.symm)]
      by_cases ha : a = i
      · subst ha
        rw [if_pos rfl, if_pos rfl, if_pos (by rw [gF_len]; exact hi)]
      · rw [if_neg ha, if_neg (show ¬ i = a from fun h => ha h.symm), gF_get hi]
  · rw [List.getElem?_eq_none (l := gF n k m') (by rw [gF_len]; omega)]
    by_cases hb : b = i
    · subst hb
      rw [if_pos rfl, if_neg (by rw [gF_len]; exact hi)]
    · rw [if_neg hb]
      by_cases ha : a = i
      · subst ha
        rw [if_pos rfl, if_neg (by rw [gF_len]; exact hi)]
      · rw [if_neg ha, List.getElem?_eq_none (by rw [gF_len]; omega)]
theorem set_lk (x : Nat) : (gF n k m).set (4 * n) x = gF n k { m with lk := x } := by
  refine gF_set fun i hi => ?_
  unfold wordF
  by_cases h1 : i < 4 * n
  · rw [if_pos h1, if_pos h1, if_neg (show ¬ i = 4 * n by omega)]
  · rw [if_neg h1, if_neg h1]
    by_cases h2 : i < 4 * n + 4
    · rw [if_pos h2, if_pos h2]
      by_cases h3 : i = 4 * n
      · rw [if_pos h3, if_pos h3]
      · rw [if_neg h3, if_neg h3, if_neg h3]
    · rw [if_neg h2, if_neg h2, if_neg (show ¬ i = 4 * n by omega)]
theorem set_tk {s : Nat} : (gF n k m).set (4 * n + 1) (nextF k s) = gF n k { m with tk := s + 1 } := by
  refine gF_set fun i hi => ?_
  unfold wordF
  by_cases h1 : i < 4 * n
  · rw [if_pos h1, if_pos h1, if_neg (show ¬ i = 4 * n + 1 by omega)]
  · rw [if_neg h1, if_neg h1]
    by_cases h2 : i < 4 * n + 4
    · rw [if_pos h2, if_pos h2]
      by_cases h3 : i = 4 * n
      · rw [if_pos h3, if_pos h3, if_neg (show ¬ i = 4 * n + 1 by omega)]
      · rw [if_neg h3, if_neg h3]
        by_cases h4 : i = 4 * n + 1
        · rw [if_pos h4, if_pos h4]
          rfl
        · rw [if_neg h4, if_neg h4, if_neg h4]
    · rw [if_neg h2, if_neg h2, if_neg (show ¬ i = 4 * n + 1 by omega)]
theorem set_hd (x : Nat) : (gF n k m).set (4 * n + 2) x = gF n k { m with hd := x } := by
  refine gF_set fun i hi => ?_
  unfold wordF
  by_cases h1 : i < 4 * n
  · rw [if_pos h1, if_pos h1, if_neg (show ¬ i = 4 * n + 2 by omega)]
  · rw [if_neg h1, if_neg h1]
    by_cases h2 : i < 4 * n + 4
    · rw [if_pos h2, if_pos h2]
      by_cases h3 : i = 4 * n
      · rw [if_pos h3, if_pos h3, if_neg (show ¬ i = 4 * n + 2 by omega)]
      · rw [if_neg h3, if_neg h3]
        by_cases h4 : i = 4 * n + 1
        · rw [if_pos h4, if_pos h4, if_neg (show ¬ i = 4 * n + 2 by omega)]
        · rw [if_neg h4, if_neg h4]
          by_cases h5 : i = 4 * n + 2
          · rw [if_pos h5, if_pos h5]
          · rw [if_neg h5, if_neg h5, if_neg h5]
    · rw [if_neg h2, if_neg h2, if_neg (show ¬ i = 4 * n + 2 by omega)]
theorem set_cut {s : Nat} (hs : s < 8) (hsk : s < k) (hc : m.cut = s) : ((gF n k m).set (4 * n + 4 + 4 * s) 0).set (4 * n + 4 + 4 * s + 1) (packN 5 5 true true) = gF n k { m with cut := s + 1 } := by
  refine gF_set2 (by omega) fun i hi => ?_
  by_cases hb : i = 4 * n + 4 + 4 * s + 1
  · rw [if_pos hb, hb, w_counts hs, if_pos hsk, if_pos (by show s < s + 1; omega)]
  · rw [if_neg hb]
    by_cases ha : i = 4 * n + 4 + 4 * s
    · rw [if_pos ha, ha, w_first hs, if_neg (by show ¬ (s + 1 ≤ s ∧ s < k); omega)]
    · rw [if_neg ha]
      unfold wordF
      by_cases h1 : i < 4 * n
      · rw [if_pos h1, if_pos h1]
      · rw [if_neg h1, if_neg h1]
        by_cases h2 : i < 4 * n + 4
        · rw [if_pos h2, if_pos h2]
        · rw [if_neg h2, if_neg h2]
          by_cases h3 : i < 4 * n + 36
          · rw [if_pos h3, if_pos h3]
            simp only
            by_cases h4 : (i - (4 * n + 4)) % 4 = 0
            · rw [if_pos h4, if_pos h4]
              have : (i - (4 * n + 4)) / 4 ≠ s := by omega
              by_cases h5 : s + 1 ≤ (i - (4 * n + 4)) / 4 ∧ (i - (4 * n + 4)) / 4 < k
              · rw [if_pos h5, if_pos (by omega)]
              · rw [if_neg h5, if_neg (by omega)]
            · rw [if_neg h4, if_neg h4]
              by_cases h6 : (i - (4 * n + 4)) % 4 = 1
              · rw [if_pos h6, if_pos h6]
                have : (i - (4 * n + 4)) / 4 ≠ s := by omega
                by_cases h7 : (i - (4 * n + 4)) / 4 < k
                · rw [if_pos h7, if_pos h7]
                  by_cases h8 : (i - (4 * n + 4)) / 4 < s + 1
                  · rw [if_pos h8, if_pos (by omega)]
                  · rw [if_neg h8, if_neg (by omega)]
                · rw [if_neg h7, if_neg h7]
              · rw [if_neg h6, if_neg h6]
          · rw [if_neg h3, if_neg h3]
theorem set_head {x : Nat} (hj : j < n) : ((gF n k m).set (4 * j) x).set (4 * j + 1) 1 = gF n k { m with head := putN m.head j x, turn := putN m.turn j 1 } := by
  refine gF_set2 (by omega) fun i hi => ?_
  by_cases hb : i = 4 * j + 1
  · rw [if_pos hb, hb, w_turn hj]
    simp [putN]
  · rw [if_neg hb]
    by_cases ha : i = 4 * j
    · rw [if_pos ha, ha, w_head hj]
      simp [putN]
    · rw [if_neg ha]
      unfold wordF
      by_cases h1 : i < 4 * n
      · rw [if_pos h1, if_pos h1]
        by_cases h2 : i % 4 = 0
        · rw [if_pos h2, if_pos h2]
          show putN m.head j x (i / 4) = _
          unfold putN
          rw [if_neg (by omega)]
        · rw [if_neg h2, if_neg h2]
          by_cases h3 : i % 4 = 1
          · rw [if_pos h3, if_pos h3]
            show putN m.turn j 1 (i / 4) = _
            unfold putN
            rw [if_neg (by omega)]
          · rw [if_neg h3, if_neg h3]
      · rw [if_neg h1, if_neg h1]
/-! bounds -/
theorem own_le (s : Nat) : 1 ≤ own s ∧ own s ≤ 5 := by unfold own; omega
theorem link_lt {o : Nat} (hk : k ≤ 6) : linkF k s o < 18446744073709551616 := by
  unfold linkF
  split
  · rename_i h
    have := own_le s
    refine hide_lt ?_
    split <;> omega
  · omega
theorem InvF.hd_le {ps : List Ph} (h : InvF n k m ps) : m.hd ≤ k := by
  have htk := h.tk
  rcases h.lk with h0 | h1
  · have := (h.free h0).2
    omega
  · obtain ⟨j, p, hj, hp⟩ := h.held h1
    have h2 := (h.hold j p hj hp).2
    have h3 := h.ok j p hj
    cases p <;> simp only [Ph.holds, Ph.hold, Ph.ok] at hp h2 h3 <;> first | (cases hp; done) | omega
theorem headW_lt {a b : Int} (h1 : 0 ≤ a ∧ a < 32) (h2 : -1 ≤ b ∧ b < 16) : headW a b < 18446744073709551616 := by
  unfold headW
  omega
theorem lastI_in (s : Nat) : -1 ≤ lastI s ∧ lastI s < 16 := by unfold lastI; split <;> omega
theorem w64_gF {ps : List Ph} (h : InvF n k m ps) (hk : k ≤ 6) : W64 (gF n k m) := by
  intro x hx
  unfold gF at hx
  obtain ⟨i, hi, rfl⟩ := List.mem_map.1 hx
  have hi := List.mem_range.1 hi
  have htk := h.tk
  have hhd := h.hd_le
  unfold wordF
  split
  · rename_i h1
    have hjl : i / 4 < ps.length := by rw [h.len]; omega
    have hh := h.head (i / 4) _ (List.getElem?_eq_getElem hjl)
    have ho := h.ok (i / 4) _ (List.getElem?_eq_getElem hjl)
    rw [hh.1, hh.2]
    generalize ps[i / 4] = p at ho
    split
    · cases p <;> simp only [Ph.headN] <;> first | omega | skip
      simp only [Ph.ok] at ho
      exact headW_lt (by omega) (lastI_in _)
    · split
      · cases p <;> simp only [Ph.turnN] <;> omega
      · omega
  · split
    · have := h.lk
      split
      · omega
      · split
        · split <;> omega
        · split <;> omega
    · split
      · simp only
        split
        · split <;> omega
        · split
          · split
            · split
              · exact Back.packN_lt (by omega) (by omega)
              · exact Back.packN_lt (by omega) (by omega)
            · omega
          · split
            · split <;> omega
            · omega
      · exact link_lt hk
end
end Go.Proofs.YtcbljokbechppaaGreatDoor.Fil
