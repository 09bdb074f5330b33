/-
  Tables of pages, in plain Lean: blocks found by a page, a row of blocks replaced by one block, and what Head, Set and Free answer.
-/
import Derived.Test.YtljcndcmdphmgaaFrameFree
namespace Go.Proofs.Ytljcndcmdphmgaa
open Go.RowKit

theorem lay_append : ∀ (a b : List Pg), lay (a ++ b) = lay a ++ lay b
  | [], b => rfl
  | p :: a, b => by simp [lay, lay_append a b]
theorem row_append : ∀ (a b : List Pg) (i : Nat), Row i (a ++ b) ↔ Row i a ∧ Row (i + (lay a).length) b
  | [], b, i => by simp [Row, lay]
  | p :: a, b, i => by
    have := lay_cons_len p a
    simp only [List.cons_append, Row, row_append a b]
    rw [show i + pgSize p + (lay a).length = i + (lay (p :: a)).length from by omega]
    constructor
    · rintro ⟨h1, h2, h3, h4⟩; exact ⟨⟨h1, h2, h3⟩, h4⟩
    · rintro ⟨⟨h1, h2, h3⟩, h4⟩; exact ⟨h1, h2, h3, h4⟩
theorem places_append : ∀ (a b : List Pg) (i : Nat), places i (a ++ b) = places i a ++ places (i + (lay a).length) b
  | [], b, i => by simp [places, lay]
  | p :: a, b, i => by
    have := lay_cons_len p a
    simp only [List.cons_append, places, places_append a b]
    rw [show i + pgSize p + (lay a).length = i + (lay (p :: a)).length from by omega]
theorem places_bound : ∀ (bs : List Pg) (i : Nat), ∀ y ∈ places i bs, (i : Int) ≤ y.1 ∧ y.1 + pgSize y.2 ≤ i + (lay bs).length ∧ y.2 ∈ bs
  | [], i, y, h => by simp [places] at h
  | p :: bs, i, y, h => by
    have hl := lay_cons_len p bs
    rw [places, List.mem_cons] at h
    rcases h with rfl | h
    · exact ⟨by simp, by simp only; omega, by simp⟩
    · have := places_bound bs (i + pgSize p) y h
      refine ⟨by omega, by omega, List.mem_cons_of_mem _ this.2.2⟩
/-- the block of a page -/
theorem row_find : ∀ (bs : List Pg) (i p : Nat), i ≤ p → p < i + (lay bs).length → ∃ b1 x b2, bs = b1 ++ x :: b2 ∧ i + (lay b1).length ≤ p ∧ p < i + (lay b1).length + pgSize x
  | [], i, p, h1, h2 => by simp [lay] at h2; omega
  | x :: bs, i, p, h1, h2 => by
    have hl := lay_cons_len x bs
    by_cases h : p < i + pgSize x
    · exact ⟨[], x, bs, rfl, by simpa [lay] using h1, by simpa [lay] using h⟩
    · obtain ⟨b1, y, b2, rfl, h3, h4⟩ := row_find bs (i + pgSize x) p (by omega) (by omega)
      have := lay_cons_len x b1
      exact ⟨x :: b1, y, b2, rfl, by omega, by omega⟩
theorem pow_dvd_of_le {a b : Nat} (h : a ≤ b) : 2 ^ a ∣ 2 ^ b := Nat.pow_dvd_pow 2 h
theorem pgSize_dvd {p q : Pg} (h : pgSize p ≤ pgSize q) : pgSize p ∣ pgSize q := by
  unfold pgSize at *
  exact pow_dvd_of_le ((Nat.pow_le_pow_iff_right (by omega)).1 h)
theorem dvd_lt_eq {n a b : Nat} (ha : a % n = 0) (hb : b % n = 0) (h1 : a ≤ b) (h2 : b < a + n) : b = a := by
  obtain ⟨k, rfl⟩ := Nat.dvd_of_mod_eq_zero ha
  obtain ⟨l, rfl⟩ := Nat.dvd_of_mod_eq_zero hb
  rcases Nat.lt_or_ge k l with h | h
  · have : n * (k + 1) ≤ n * l := Nat.mul_le_mul_left _ h
    rw [Nat.mul_succ] at this
    omega
  · have : n * l ≤ n * k := Nat.mul_le_mul_left _ h
    omega
theorem mod_of_dvd {n m a : Nat} (h : n ∣ m) (ha : a % m = 0) : a % n = 0 := Nat.mod_eq_zero_of_dvd (Nat.dvd_trans h (Nat.dvd_of_mod_eq_zero ha))
theorem row_cut (x : Pg) (a : Nat) (ha : a % pgSize x = 0) : ∀ (c : List Pg) (i : Nat), a ≤ i → i < a + pgSize x → Row i c → (i = a → ∀ y ∈ c.head?, pgSize y ≤ pgSize x) → a + pgSize x ≤ i + (lay c).length →
    ∃ c1 c2, c = c1 ++ c2 ∧ i + (lay c1).length = a + pgSize x
  | [], i, h1, h2, _, _, h => by simp [lay] at h; omega
  | y :: c, i, h1, h2, hr, h0, h => by
    have hl := lay_cons_len y c
    obtain ⟨hy1, hy2, hy3⟩ := hr
    have hpos := pgSize_pos y
    have hs : pgSize y ≤ pgSize x := by
      rcases Nat.lt_or_ge (pgSize x) (pgSize y) with hgt | hle
      · have hd := pgSize_dvd (Nat.le_of_lt hgt)
        have := dvd_lt_eq ha (mod_of_dvd hd hy2) h1 h2
        exact h0 this y rfl
      · exact hle
    have hd := pgSize_dvd hs
    have hi : i + pgSize y ≤ a + pgSize x := by
      have h3 : (a + pgSize x) % pgSize y = 0 := Nat.mod_eq_zero_of_dvd (Nat.dvd_add (Nat.dvd_trans hd (Nat.dvd_of_mod_eq_zero ha)) hd)
      rcases Nat.lt_or_ge (a + pgSize x) (i + pgSize y) with hgt | hle
      · have := dvd_lt_eq hy2 h3 (by omega) hgt
        omega
      · exact hle
    rcases Nat.lt_or_ge (i + pgSize y) (a + pgSize x) with hlt | hge
    · obtain ⟨c1, c2, rfl, h5⟩ := row_cut x a ha c (i + pgSize y) (by omega) hlt hy3 (fun e => by omega) (by omega)
      have := lay_cons_len y c1
      exact ⟨y :: c1, c2, rfl, by omega⟩
    · exact ⟨[y], c, rfl, by have := lay_cons_len y []; simp [lay] at this ⊢; omega⟩
/-- the head of a page's block -/
theorem pgHd_at {L b1 b2 : List Pg} {x : Pg} (h : Tab L (b1 ++ x :: b2)) {page : Int} (h1 : ((lay b1).length : Int) ≤ page) (h2 : page < (lay b1).length + pgSize x) : pgHd L page = (lay b1).length ∧ L[(lay b1).length]? = some x := by
  constructor
  · unfold pgHd
    rw [tab_from h, places_append]
    simp only [Nat.zero_add, places]
    have hn : pgHdIn page (places 0 b1) = none := by
      unfold pgHdIn
      rw [List.find?_eq_none]
      intro y hy
      have := places_bound b1 0 y hy
      simp
      omega
    have := pgHdIn_hit (x := (((lay b1).length : Int), x)) (places ((lay b1).length + pgSize x) b2) hn h2
    rw [List.append_assoc, List.singleton_append] at this
    rw [this]
  · obtain ⟨rfl, _⟩ := h
    rw [lay_append]
    simp [lay]
theorem tab_len {L bs : List Pg} (h : Tab L bs) : L.length = (lay bs).length := by rw [h.1]
theorem pgCheck_tab {L : List Pg} (h : pgCheck L = 0) : ∃ bs, Tab L bs := (tab_iff L).2 (pgCheck_zero h).2.2
theorem pgCheck_of_tab {L bs : List Pg} (h : Tab L bs) (h1 : 1 ≤ L.length) (h2 : L.length ≤ 1024) : pgCheck L = 0 := pgCheck_yes h1 h2 ((tab_iff L).1 ⟨bs, h⟩)
theorem pgCheck_cases (L : List Pg) : pgCheck L = 0 ∨ pgCheck L = 50 := by unfold pgCheck; split <;> simp
/-- a table with a block laid at a place -/
def pgPut (L : List Pg) (p : Nat) (x : Pg) : List Pg := L.take p ++ (x :: List.replicate (pgSize x - 1) pgIn ++ L.drop (p + pgSize x))
theorem pgPut_len {L : List Pg} {p : Nat} {x : Pg} (h : p + pgSize x ≤ L.length) : (pgPut L p x).length = L.length := by
  have := pgSize_pos x
  simp [pgPut]
  omega
/-- what Set tells -/
def pgSetE (L : List Pg) (page : Int) (x : Pg) : Int :=
  if pgCheck L ≠ 0 then 50 else if pgHead x = false then 2 else if page < 0 ∨ page % pgSize x ≠ 0 ∨ (L.length : Int) < page + pgSize x then 9
  else if x.2.1 < (L.getD (pgHd L page).toNat pgIn).2.1 then 50 else 0
theorem pgSize_mono {x y : Pg} (h : x.2.1 ≤ y.2.1) : pgSize x ≤ pgSize y := Nat.pow_le_pow_right (by omega) (by omega)
/-- where Set tells no error a row of blocks is replaced by one -/
theorem pgSet_ok {L : List Pg} {page : Int} {x : Pg} (h : pgSetE L page x = 0) : ∃ (p : Nat) (b1 c1 c2 : List Pg), page = p ∧ p + pgSize x ≤ L.length ∧ pgCheck L = 0 ∧ pgHead x = true ∧ p % pgSize x = 0 ∧
    Tab L (b1 ++ (c1 ++ c2)) ∧ (lay b1).length = p ∧ (lay c1).length = pgSize x ∧ Tab (pgPut L p x) (b1 ++ (x :: c2)) := by
  unfold pgSetE at h
  split at h
  · cases h
  · rename_i hck
    have hck : pgCheck L = 0 := Decidable.not_not.1 hck
    split at h
    · cases h
    · rename_i hh
      have hh : pgHead x = true := by simpa using hh
      split at h
      · cases h
      · rename_i hr
        split at h
        · cases h
        · rename_i ho
          obtain ⟨p, rfl⟩ : ∃ p : Nat, page = p := ⟨page.toNat, by omega⟩
          have hr1 : p % pgSize x = 0 := by
            have : ((p % pgSize x : Nat) : Int) = 0 := by
              rw [Int.natCast_emod]
              exact Decidable.not_not.1 fun h0 => hr (.inr (.inl h0))
            omega
          have hr2 : p + pgSize x ≤ L.length := by omega
          have hpos := pgSize_pos x
          obtain ⟨bs, hT⟩ := pgCheck_tab hck
          have hlen := tab_len hT
          obtain ⟨b1, y, b2, rfl, h3, h4⟩ := row_find bs 0 p (by omega) (by omega)
          rw [Nat.zero_add] at h3 h4
          obtain ⟨e1, e2⟩ := pgHd_at hT (page := (p : Int)) (by omega) (by omega)
          have hyx : pgSize y ≤ pgSize x := by
            apply pgSize_mono
            rw [e1] at ho
            rw [Int.toNat_natCast, List.getD_eq_getElem?_getD, e2] at ho
            simp at ho
            omega
          have hrow := (row_append b1 (y :: b2) 0).1 hT.2
          rw [Nat.zero_add] at hrow
          have hbp : (lay b1).length = p := by
            have := hrow.2.2.1
            exact (dvd_lt_eq this (mod_of_dvd (pgSize_dvd hyx) hr1) h3 h4).symm
          have hll : (lay (b1 ++ y :: b2)).length = (lay b1).length + (lay (y :: b2)).length := by rw [lay_append, List.length_append]
          obtain ⟨c1, c2, hc, h5⟩ := row_cut x p hr1 (y :: b2) p (Nat.le_refl _) (by omega) (by rw [← hbp]; exact hrow.2) (fun _ z hz => by simp at hz; subst hz; exact hyx) (by omega)
          rw [hc] at hT hrow
          have hc1 : (lay c1).length = pgSize x := by omega
          refine ⟨p, b1, c1, c2, rfl, hr2, hck, hh, hr1, hT, hbp, hc1, ?_, ?_⟩
          · have e : L = lay b1 ++ (lay c1 ++ lay c2) := by rw [hT.1, lay_append, lay_append]
            have ed : L.drop (p + pgSize x) = lay c2 := by rw [e, ← List.append_assoc, List.drop_left' (by rw [List.length_append]; omega)]
            have et : L.take p = lay b1 := by rw [e, List.take_left' hbp]
            rw [pgPut, ed, et, lay_append]
            simp [lay]
          · rw [row_append]
            refine ⟨hrow.1, hh, by rw [Nat.zero_add, hbp]; exact hr1, ?_⟩
            have := ((row_append c1 c2 _).1 hrow.2).2
            rw [hc1] at this
            rw [Nat.zero_add]
            exact this
theorem pgPut_get {L : List Pg} {p : Nat} {x : Pg} (h : p + pgSize x ≤ L.length) (i : Nat) : (pgPut L p x)[i]? = if i = p then some x else if p < i ∧ i < p + pgSize x then some pgIn else L[i]? := by
  have hpos := pgSize_pos x
  unfold pgPut
  have ht : (L.take p).length = p := by rw [List.length_take]; omega
  by_cases h1 : i < p
  · rw [List.getElem?_append_left (by omega), List.getElem?_take, if_pos h1, if_neg (by omega), if_neg (by omega)]
  · rw [List.getElem?_append_right (by omega), ht]
    by_cases h2 : i = p
    · subst h2; simp
    · rw [if_neg h2]
      obtain ⟨j, hj⟩ : ∃ j, i - p = j + 1 := ⟨i - p - 1, by omega⟩
      rw [hj, List.cons_append, List.getElem?_cons_succ]
      by_cases h3 : i < p + pgSize x
      · rw [if_pos ⟨by omega, h3⟩, List.getElem?_append_left (by simp; omega), List.getElem?_replicate, if_pos (by omega)]
      · rw [if_neg (by omega), List.getElem?_append_right (by simp; omega), List.getElem?_drop]
        congr 1
        simp
        omega
theorem pgPut_again {L : List Pg} {p : Nat} {x : Pg} (h : p + pgSize x ≤ L.length) : pgPut (pgPut L p x) p x = pgPut L p x := by
  apply List.ext_getElem?
  intro i
  rw [pgPut_get (by rw [pgPut_len h]; exact h), pgPut_get h]
  split
  · rfl
  · split <;> rfl
/-- .. set again it is the same -/
theorem pgSet_again {L : List Pg} {page : Int} {x : Pg} (h : pgSetE L page x = 0) : pgSetE (pgPut L page.toNat x) page x = 0 ∧ pgCheck (pgPut L page.toNat x) = 0 ∧ (pgPut L page.toNat x).length = L.length ∧
    pgPut (pgPut L page.toNat x) page.toNat x = pgPut L page.toNat x ∧ (∀ q : Int, page ≤ q → q < page + pgSize x → pgHd (pgPut L page.toNat x) q = page) ∧ page = page.toNat ∧ page.toNat + pgSize x ≤ L.length ∧ pgHead x = true ∧ pgCheck L = 0 := by
  obtain ⟨p, b1, c1, c2, rfl, hl, hck, hh, hm, hT, hb, hc, hT'⟩ := pgSet_ok h
  rw [Int.toNat_natCast]
  have hlen := pgPut_len hl
  have hpos := pgSize_pos x
  have hcz := pgCheck_zero hck
  have hck' := pgCheck_of_tab hT' (by omega) (by omega)
  have hhd : ∀ q : Int, (p : Int) ≤ q → q < p + pgSize x → pgHd (pgPut L p x) q = p ∧ (pgPut L p x)[p]? = some x := by
    intro q h1 h2
    have := pgHd_at hT' (page := q) (by omega) (by omega)
    rw [hb] at this
    exact this
  refine ⟨?_, hck', hlen, pgPut_again hl, fun q h1 h2 => (hhd q h1 h2).1, rfl, hl, hh, hck⟩
  unfold pgSetE
  rw [if_neg (by rw [hck']; simp), if_neg (by rw [hh]; simp), if_neg, if_neg]
  · obtain ⟨e1, e2⟩ := hhd p (by omega) (by omega)
    rw [e1, Int.toNat_natCast, List.getD_eq_getElem?_getD, e2]
    simp
  · rw [hlen]
    have : ((p : Int) % (pgSize x : Int)) = 0 := by rw [← Int.natCast_emod, hm]; rfl
    omega
end Go.Proofs.Ytljcndcmdphmgaa
