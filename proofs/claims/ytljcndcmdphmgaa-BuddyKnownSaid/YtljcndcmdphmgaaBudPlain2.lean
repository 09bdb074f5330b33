/-
  Buddies, in plain Lean: joins, no two free buddies, new pages.
-/
import Derived.Test.YtljcndcmdphmgaaBudPlain
namespace Go.Proofs.Ytljcndcmdphmgaa
open Go.RowKit

/-- the place of a block's buddy -/
def other (a o : Nat) : Nat := if a % (2 * 2 ^ o) = 0 then a + 2 ^ o else a - 2 ^ o
/-- the block that Free makes: of at most so many joins -/
def bJoin (L : List Pg) : Nat → Nat → Nat → Nat × Nat
  | 0, a, o => (a, o)
  | k + 1, a, o => if L[other a o]? = some (fb o) then bJoin L k (min a (other a o)) (o + 1) else (a, o)
theorem other_cases (a o : Nat) (h : a % 2 ^ o = 0) : (a % (2 * 2 ^ o) = 0 ∧ other a o = a + 2 ^ o ∧ min a (other a o) = a) ∨
    (a % (2 * 2 ^ o) ≠ 0 ∧ 2 ^ o ≤ a ∧ other a o = a - 2 ^ o ∧ min a (other a o) = a - 2 ^ o ∧ (a - 2 ^ o) % (2 * 2 ^ o) = 0) := by
  unfold other
  by_cases h0 : a % (2 * 2 ^ o) = 0
  · left
    rw [if_pos h0]
    exact ⟨h0, rfl, by omega⟩
  · right
    rw [if_neg h0]
    obtain ⟨q, rfl⟩ := Nat.dvd_of_mod_eq_zero h
    have hp := Nat.two_pow_pos o
    have hq : q % 2 = 1 := by
      rcases Nat.mod_two_eq_zero_or_one q with h1 | h1
      · exfalso
        apply h0
        obtain ⟨r, rfl⟩ := Nat.dvd_of_mod_eq_zero h1
        rw [show 2 ^ o * (2 * r) = 2 * 2 ^ o * r from by rw [Nat.mul_left_comm, Nat.mul_assoc]]
        exact Nat.mul_mod_right _ _
      · exact h1
    obtain ⟨r, hr⟩ : ∃ r, q = 2 * r + 1 := ⟨q / 2, by omega⟩
    subst hr
    have e : 2 ^ o * (2 * r + 1) - 2 ^ o = 2 * 2 ^ o * r := by
      rw [Nat.mul_succ, Nat.add_sub_cancel, Nat.mul_left_comm, Nat.mul_assoc]
    have hle : 2 ^ o ≤ 2 ^ o * (2 * r + 1) := Nat.le_mul_of_pos_right _ (by omega)
    exact ⟨h0, hle, rfl, by omega, by rw [e]; exact Nat.mul_mod_right _ _⟩
theorem put_tab {L b1 c1 c2 : List Pg} {x : Pg} (h : Tab L (b1 ++ (c1 ++ c2))) (hc : (lay c1).length = pgSize x) (hx : pgHead x = true) (ha : (lay b1).length % pgSize x = 0) :
    Tab (pgPut L (lay b1).length x) (b1 ++ x :: c2) := by
  have e : L = lay b1 ++ (lay c1 ++ lay c2) := by rw [h.1, lay_append, lay_append]
  have ed : L.drop ((lay b1).length + pgSize x) = lay c2 := by rw [e, ← List.append_assoc, List.drop_left' (by rw [List.length_append]; omega)]
  have et : L.take (lay b1).length = lay b1 := by rw [e, List.take_left' rfl]
  have hrow := (row_append b1 _ 0).1 h.2
  rw [Nat.zero_add] at hrow
  constructor
  · rw [pgPut_eq, ed, et, show b1 ++ x :: c2 = b1 ++ ([x] ++ c2) from rfl, lay_append, lay_append]
  · rw [row_append, Nat.zero_add]
    refine ⟨hrow.1, hx, ha, ?_⟩
    have := ((row_append c1 c2 _).1 hrow.2).2
    rwa [hc] at this
theorem lay_nil {bs : List Pg} (h : (lay bs).length = 0) : bs = [] := by
  cases bs with
  | nil => rfl
  | cons p bs =>
    have := lay_cons_len p bs
    have := pgSize_pos p
    omega
theorem fb_kind (o : Nat) : (fb o).1 ≠ 1 := by simp [fb]
/-- JOINS -/
theorem join_tab {L : List Pg} {page o0 : Nat} : ∀ (k a o : Nat) (b1 c1 c2 : List Pg), o + k = 10 → Tab L (b1 ++ (c1 ++ c2)) → (lay b1).length = a → (lay c1).length = 2 ^ o → a % 2 ^ o = 0 →
    freeSum c1 + 2 ^ o0 = 2 ^ o → outPl a c1 = [page] →
    ∃ b1' c1' c2', Tab L (b1' ++ (c1' ++ c2')) ∧ (lay b1').length = (bJoin L k a o).1 ∧ (lay c1').length = 2 ^ (bJoin L k a o).2 ∧ (bJoin L k a o).1 % 2 ^ (bJoin L k a o).2 = 0 ∧ (bJoin L k a o).2 ≤ 10 ∧
      freeSum c1' + 2 ^ o0 = 2 ^ (bJoin L k a o).2 ∧ outPl (bJoin L k a o).1 c1' = [page] ∧ ((bJoin L k a o).2 < 10 → L[other (bJoin L k a o).1 (bJoin L k a o).2]? ≠ some (fb (bJoin L k a o).2))
  | 0, a, o, b1, c1, c2, hk, hT, h1, h2, h3, h4, h5 => ⟨b1, c1, c2, hT, h1, h2, h3, by simp [bJoin]; omega, h4, h5, fun h => by simp [bJoin] at h; omega⟩
  | k + 1, a, o, b1, c1, c2, hk, hT, h1, h2, h3, h4, h5 => by
    unfold bJoin
    by_cases hf : L[other a o]? = some (fb o)
    · rw [if_pos hf]
      have hp2 : 2 ^ (o + 1) = 2 ^ o + 2 ^ o := by rw [Nat.pow_succ]; omega
      have hp3 : (2 : Int) ^ (o + 1) = 2 ^ o + 2 ^ o := by rw [Int.pow_succ]; omega
      have hfs : freeSum [fb o] = 2 ^ o := by simp [freeSum, fb_size]; simp [fb]
      have e : L = lay b1 ++ (lay c1 ++ lay c2) := by rw [hT.1, lay_append, lay_append]
      rcases other_cases a o h3 with ⟨g1, g2, g3⟩ | ⟨g1, g2, g3, g4, g5⟩
      · rw [g3]
        rw [g2, e, List.getElem?_append_right (by omega), List.getElem?_append_right (by omega)] at hf
        cases c2 with
        | nil => simp [lay] at hf
        | cons y c2 =>
          have hy : y = fb o := by
            rw [show a + 2 ^ o - (lay b1).length - (lay c1).length = 0 from by omega] at hf
            simpa [lay] using hf
          subst hy
          refine join_tab k a (o + 1) b1 (c1 ++ [fb o]) c2 (by omega) (by simpa using hT) h1 ?_ ?_ ?_ ?_
          · rw [lay_append, List.length_append, lay_one_len, fb_size, h2, hp2]
          · rw [hp2, show 2 ^ o + 2 ^ o = 2 * 2 ^ o from by omega]; exact g1
          · rw [freeSum_append, hfs]; omega
          · rw [outPl_append, h5]; simp [outPl, fb]
      · rw [g4]
        rw [g3] at hf
        have hT1 : Tab (lay b1) b1 := ⟨rfl, ((row_append b1 _ 0).1 hT.2).1⟩
        have hp := Nat.two_pow_pos o
        rw [e, List.getElem?_append_left (by omega)] at hf
        obtain ⟨d1, d2, rfl, hd⟩ := tab_block hT1 hf (fb_kind o)
        have hl : (lay (d1 ++ fb o :: d2)).length = (lay d1).length + (2 ^ o + (lay d2).length) := by rw [lay_append, List.length_append, lay_cons_len, fb_size]
        obtain rfl := lay_nil (bs := d2) (by omega)
        refine join_tab k (a - 2 ^ o) (o + 1) d1 (fb o :: c1) c2 (by omega) (by simpa using hT) hd ?_ ?_ ?_ ?_
        · rw [lay_cons_len, fb_size, h2, hp2]
        · rw [hp2, show 2 ^ o + 2 ^ o = 2 * 2 ^ o from by omega]; exact g5
        · rw [show fb o :: c1 = [fb o] ++ c1 from rfl, freeSum_append, hfs]; omega
        · rw [show fb o :: c1 = [fb o] ++ c1 from rfl, outPl_append, lay_one_len, fb_size, show a - 2 ^ o + 2 ^ o = a from by omega, h5]
          simp [outPl, fb]
    · rw [if_neg hf]
      exact ⟨b1, c1, c2, hT, h1, h2, h3, by simp only; omega, h4, h5, fun _ => hf⟩
/-- no two free buddies -/
def NoBud (L : List Pg) : Prop := ∀ a o : Nat, o < 10 → a % (2 * 2 ^ o) = 0 → L[a]? = some (fb o) → L[a + 2 ^ o]? = some (fb o) → False
theorem fb_inj {o o' : Nat} (h : fb o = fb o') : o = o' := by
  have : (o : Int) = o' := by simpa [fb] using h
  omega
theorem fb_ne_in (o : Nat) : fb o ≠ pgIn := by simp [fb, pgIn]
theorem nobud_free {L : List Pg} {a o : Nat} (h : NoBud L) (hl : a + 2 ^ o ≤ L.length) (ha : a % 2 ^ o = 0) (hf : o < 10 → L[other a o]? ≠ some (fb o)) : NoBud (pgPut L a (fb o)) := by
  intro p q hq hp h1 h2
  have hpos := Nat.two_pow_pos q
  rw [pgPut_get (by rw [fb_size]; exact hl)] at h1 h2
  rw [fb_size] at h1 h2
  by_cases e1 : p = a
  · subst e1
    rw [if_pos rfl] at h1
    have := fb_inj (Option.some.inj h1)
    subst this
    rw [if_neg (by omega), if_neg (by omega)] at h2
    exact hf hq (by unfold other; rw [if_pos hp]; exact h2)
  · rw [if_neg e1] at h1
    split at h1
    · exact absurd (Option.some.inj h1).symm (fb_ne_in q)
    · by_cases e2 : p + 2 ^ q = a
      · rw [if_pos e2] at h2
        have := fb_inj (Option.some.inj h2)
        subst this
        refine hf hq ?_
        have : ¬ a % (2 * 2 ^ o) = 0 := by
          rw [← e2]
          intro h0
          have h3 := Nat.dvd_of_mod_eq_zero h0
          have h4 : 2 * 2 ^ o ∣ 2 ^ o := (Nat.dvd_add_right (Nat.dvd_of_mod_eq_zero hp)).1 h3
          have := Nat.le_of_dvd hpos h4
          omega
        unfold other
        rw [if_neg this, show a - 2 ^ o = p from by omega]
        exact h1
      · rw [if_neg e2] at h2
        split at h2
        · exact absurd (Option.some.inj h2).symm (fb_ne_in q)
        · exact h p q hq hp h1 h2
theorem rests_get (order : Nat) : ∀ (k i o : Nat), (lay (rests order k))[i]? = some (fb o) → ∃ j, j < k ∧ i + 2 ^ order = 2 ^ (order + j) ∧ o = order + j
  | 0, i, o, h => by simp [rests, lay] at h
  | k + 1, i, o, h => by
    have hl := rests_len order k
    rw [rests, lay_append] at h
    by_cases hi : i < (lay (rests order k)).length
    · rw [List.getElem?_append_left hi] at h
      obtain ⟨j, h1, h2, h3⟩ := rests_get order k i o h
      exact ⟨j, by omega, h2, h3⟩
    · rw [List.getElem?_append_right (by omega), lay_one] at h
      refine ⟨k, by omega, ?_⟩
      by_cases h0 : i - (lay (rests order k)).length = 0
      · rw [h0] at h
        simp at h
        exact ⟨by omega, (fb_inj h).symm⟩
      · obtain ⟨j, hj⟩ : ∃ j, i - (lay (rests order k)).length = j + 1 := ⟨i - (lay (rests order k)).length - 1, by omega⟩
        rw [hj, List.getElem?_cons_succ, List.getElem?_replicate] at h
        split at h
        · exact absurd (Option.some.inj h).symm (fb_ne_in o)
        · cases h
theorem nobud_alloc {L b1 b2 : List Pg} {order k : Nat} {c : Int} (hN : NoBud L) (h : Tab L (b1 ++ fb (order + k) :: b2)) (hk : order + k ≤ 10) (hc : 0 ≤ c ∧ c ≤ 8) :
    NoBud (pgPut (bSplit (lay b1).length order k L) (lay b1).length (2, (order : Int), c)) := by
  obtain ⟨hT, hal, hle⟩ := alloc_tab h hk hc
  have hx : pgSize ((2 : Int), (order : Int), c) = 2 ^ order := by simp [pgSize]
  have hl := rests_len order k
  have ht := (split_eq (lay b1).length order _ hx k L hle).1
  generalize pgPut (bSplit (lay b1).length order k L) (lay b1).length (2, (order : Int), c) = L' at hT ht ⊢
  generalize hA : (lay b1).length = A at *
  have hpo := Nat.two_pow_pos order
  have htl : (L.take A).length = A := by rw [List.length_take]; omega
  -- what a free block of the new table is
  have key : ∀ (p q : Nat), L'[p]? = some (fb q) → ((p < A ∨ A + 2 ^ (order + k) ≤ p) ∧ L[p]? = some (fb q)) ∨ ∃ j, j < k ∧ p = A + 2 ^ (order + j) ∧ q = order + j := by
    intro p q hp
    rw [ht] at hp
    by_cases h1 : p < A
    · rw [List.getElem?_append_left (by omega), List.getElem?_take, if_pos h1] at hp
      exact .inl ⟨.inl h1, hp⟩
    · rw [List.getElem?_append_right (by omega), htl] at hp
      by_cases h2 : p - A < 2 ^ order
      · rw [List.getElem?_append_left (by rw [lay_one_len, hx]; exact h2), lay_one] at hp
        by_cases h0 : p - A = 0
        · rw [h0] at hp
          simp [fb] at hp
        · obtain ⟨j, hj⟩ : ∃ j, p - A = j + 1 := ⟨p - A - 1, by omega⟩
          rw [hj, List.getElem?_cons_succ, List.getElem?_replicate] at hp
          split at hp
          · exact absurd (Option.some.inj hp).symm (fb_ne_in q)
          · cases hp
      · rw [List.getElem?_append_right (by rw [lay_one_len, hx]; omega), lay_one_len, hx] at hp
        by_cases h3 : p - A - 2 ^ order < (lay (rests order k)).length
        · rw [List.getElem?_append_left h3] at hp
          obtain ⟨j, j1, j2, j3⟩ := rests_get order k _ _ hp
          exact .inr ⟨j, j1, by omega, j3⟩
        · rw [List.getElem?_append_right (by omega), List.getElem?_drop] at hp
          rw [show A + 2 ^ (order + k) + (p - A - 2 ^ order - (lay (rests order k)).length) = p from by omega] at hp
          exact .inl ⟨.inr (by omega), hp⟩
  have hdv : ∀ j, j < k → A % (2 * 2 ^ (order + j)) = 0 := fun j hj => by
    refine mod_of_dvd ?_ hal
    rw [show 2 * 2 ^ (order + j) = 2 ^ (order + j + 1) from by rw [Nat.pow_succ]; omega]
    exact Nat.pow_dvd_pow 2 (by omega)
  intro p q hq hp h1 h2
  rcases key _ _ h1 with ⟨r1, g1⟩ | ⟨j, j1, j2, j3⟩
  · rcases key _ _ h2 with ⟨r2, g2⟩ | ⟨j, j1, j2, j3⟩
    · exact hN p q hq hp g1 g2
    · subst j3
      have : p = A := by omega
      have hpk : 2 ^ (order + k) > 0 := Nat.two_pow_pos _
      omega
  · subst j3
    rw [j2] at hp
    have h3 := Nat.dvd_of_mod_eq_zero hp
    have h4 := (Nat.dvd_add_right (Nat.dvd_of_mod_eq_zero (hdv j j1))).1 h3
    have := Nat.le_of_dvd (Nat.two_pow_pos _) h4
    have := Nat.two_pow_pos (order + j)
    omega
end Go.Proofs.Ytljcndcmdphmgaa
