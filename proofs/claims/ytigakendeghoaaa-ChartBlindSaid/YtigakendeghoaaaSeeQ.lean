/-
  What words say hangs on the named ones alone. Plain. No condition.
-/
import Derived.Test.YtigakendeghoaaaSeeP
import Derived.Test.YtigakendeghoaaaApartPlain
namespace Go.Proofs.Ytigakendeghoaaa.See
open Apart (pl cpuPl slabPl)
variable {c : Ch} {g g' : List Nat}
theorem links_get (hO : g.length = c.words) {s : Nat} (hs : s < c.S) {i : Nat} (hi : i < c.O) : (links c g s)[i]? = some (at_ g (4 * c.C + 4 + 4 * c.S + s * c.O + i)) := by
  have hm : s * c.O + c.O ≤ c.S * c.O := by
    have := Nat.mul_le_mul_right c.O (show s + 1 ≤ c.S by omega)
    rw [Nat.succ_mul] at this
    exact this
  unfold Ch.words at hO
  unfold links at_
  rw [List.getElem?_take, if_pos hi, List.getElem?_drop, List.getElem?_eq_getElem (by omega), List.getD_eq_getElem?_getD, List.getElem?_eq_getElem (by omega)]
  rfl
theorem links_len (hO : g.length = c.words) {s : Nat} (hs : s < c.S) : (links c g s).length = c.O := by
  have hm : s * c.O + c.O ≤ c.S * c.O := by
    have := Nat.mul_le_mul_right c.O (show s + 1 ≤ c.S by omega)
    rw [Nat.succ_mul] at this
    exact this
  unfold Ch.words at hO
  unfold links
  rw [List.length_take, List.length_drop]
  omega
theorem chain_congr {of : Nat → Option Int} {nx nx' : Int → Nat} {S : Nat} (h0 : ∀ w s, of w = some s → -1 ≤ s) (h : ∀ s : Int, 0 ≤ s → s < S → nx s = nx' s) : ∀ (n : Nat) (out : List Int) (w : Nat), chain of nx S n out w = chain of nx' S n out w
  | 0, _, _ => rfl
  | n + 1, out, w => by
    unfold chain
    cases hw : of w with
    | none => rfl
    | some s =>
      have := h0 w s hw
      simp only
      by_cases h1 : (S : Int) ≤ s ∨ s ∈ out
      · rw [if_pos h1, if_pos h1]
      · rw [if_neg h1, if_neg h1]
        by_cases h2 : s = -1
        · rw [if_pos h2, if_pos h2]
        · rw [if_neg h2, if_neg h2, h s (by omega) (by omega)]
          exact chain_congr h0 h n _ _
theorem partOf_ge {w : Nat} {s : Int} (h : (partOf w).map (·.1) = some s) : -1 ≤ s := by
  unfold partOf at h
  split at h
  · simp at h; omega
  · split at h
    · simp at h; omega
    · cases h
theorem shelfOf_ge {w : Nat} {s : Int} (h : shelfOf w = some s) : -1 ≤ s := by
  unfold shelfOf at h
  split at h
  · simp at h; omega
  · cases h
theorem headOf_ge {w : Nat} {s o : Int} (h : headOf w = some (s, o)) : (s = -1 ∧ o = -1) ∨ (0 ≤ s ∧ s < 32 ∧ -1 ≤ o ∧ o < 16) := by
  unfold headOf at h
  split at h
  · simp at h; omega
  · split at h
    · simp at h; omega
    · cases h
theorem upto_congr {α : Type} {f f' : Nat → Option α} : ∀ {n : Nat}, (∀ i, i < n → f i = f' i) → upto f n = upto f' n
  | 0, _ => rfl
  | n + 1, h => by
    unfold upto
    rw [upto_congr (n := n) fun i hi => h i (by omega), h n (by omega)]
theorem see_congr (hg : g.length = c.words) (hg' : g'.length = c.words) (h : ∀ x ∈ pl c.C c.S c.O, at_ g x = at_ g' x) : seeP c g = seeP c g' := by
  have hcpu : ∀ i, i < c.C → ∀ x ∈ cpuPl i, at_ g x = at_ g' x := fun i hi x hx => h x (by
    unfold pl
    exact List.mem_append_right _ (List.mem_append_left _ (List.mem_flatMap.2 ⟨i, List.mem_range.2 hi, hx⟩)))
  have hslab : ∀ s, s < c.S → ∀ x ∈ slabPl c.C c.S c.O s, at_ g x = at_ g' x := fun s hs x hx => h x (by
    unfold pl
    exact List.mem_append_right _ (List.mem_append_right _ (List.mem_flatMap.2 ⟨s, List.mem_range.2 hs, hx⟩)))
  have hnext : ∀ s : Int, 0 ≤ s → s < c.S → nextAt c g s = nextAt c g' s := fun s h0 h1 => hslab s.toNat (by omega) _ (by simp [slabPl])
  have hlinks : ∀ s, s < c.S → links c g s = links c g' s := fun s hs => by
    apply List.ext_getElem?
    intro i
    by_cases hi : i < c.O
    · rw [links_get hg hs hi, links_get hg' hs hi, hslab s hs _ (by
        unfold slabPl
        exact List.mem_append_right _ (List.mem_map.2 ⟨i, List.mem_range.2 hi, rfl⟩))]
    · rw [List.getElem?_eq_none (by rw [links_len hg hs]; omega), List.getElem?_eq_none (by rw [links_len hg' hs]; omega)]
  have hlist : ∀ s i : Int, listP c g s i = listP c g' s i := fun s i => by
    unfold listP
    by_cases hc : 0 ≤ s ∧ s < c.S ∧ -1 ≤ i ∧ i < c.O
    · rw [if_pos hc, if_pos hc, hlinks s.toNat (by omega)]
    · rw [if_neg hc, if_neg hc]
  have hparts : ∀ w : Nat, partsP c g w = partsP c g' w := fun w => chain_congr (fun w s hw => partOf_ge hw) hnext _ _ _
  have e1 : upto (slotP c g) c.C = upto (slotP c g') c.C := upto_congr fun i hi => by
    unfold slotP
    have k := hcpu i hi
    rw [k (4 * i) (by simp [cpuPl]), k (4 * i + 1) (by simp [cpuPl]), k (4 * i + 2) (by simp [cpuPl])]
    simp only [hlist, hparts]
  have e2 : shelfP c g = shelfP c g' := by
    unfold shelfP
    rw [h (4 * c.C + 1) (by simp [pl])]
    exact chain_congr (fun w s hw => shelfOf_ge hw) hnext _ _ _
  have e3 : upto (slabP c g) c.S = upto (slabP c g') c.S := upto_congr fun s hs => by
    unfold slabP
    have k := hslab s hs
    rw [k (4 * c.C + 4 + 4 * s) (by simp [slabPl]), k (4 * c.C + 4 + 4 * s + 1) (by simp [slabPl])]
    simp only [hlist]
  unfold seeP
  rw [e1, e2, e3, h (4 * c.C) (by simp [pl])]
end Go.Proofs.Ytigakendeghoaaa.See
