import Derived.Test.YtcbljokbechppaaGreatDoorBkBackP
/-
  The words of FillAlone's core: plain. No condition.
-/
namespace Go.Proofs.YtcbljokbechppaaGreatDoor.Fa
open See
def putN (f : Nat → Nat) (j x : Nat) : Nat → Nat := fun i => if i = j then x else f i
theorem put_at {f : Nat → Nat} {j x : Nat} : putN f j x j = x := by simp [putN]
theorem put_ne {f : Nat → Nat} {j x i : Nat} (h : i ≠ j) : putN f j x i = f i := by simp [putN, h]
/-- the words ahead of the links; how many links of each slab are laid -/
structure Cw where
  lo : Nat → Nat
  nl : Nat → Nat
section
/-! objects; the key; how many objects each slab has in its list -/
variable (k key : Nat) (ow : Nat → Nat)
def freshW (s o : Nat) : Nat := hideW (if o + 1 < ow s then (o : Int) + 1 else -1) (See.keyOf key s) o
def wordC (c : Cw) (i : Nat) : Nat := if i < 24 then c.lo i else if (i - 24) % k < c.nl ((i - 24) / k) then freshW key ow ((i - 24) / k) ((i - 24) % k) else 0
def gC (c : Cw) : List Nat := (List.range (24 + 4 * k)).map (wordC k key ow c)
end
section
variable {k key : Nat} {ow : Nat → Nat} {c c' : Cw} {i s o : Nat}
theorem gC_len : (gC k key ow c).length = 24 + 4 * k := by simp [gC]
theorem gC_get (h : i < 24 + 4 * k) : (gC k key ow c)[i]? = some (wordC k key ow c i) := by
  unfold gC
  rw [List.getElem?_map, List.getElem?_range h]
  rfl
theorem gC_at (h : i < 24 + 4 * k) : at_ (gC k key ow c) i = wordC k key ow c i := by
  unfold at_
  rw [List.getD_eq_getElem?_getD, gC_get h]
  rfl
theorem lo_at (h : i < 24) : at_ (gC k key ow c) i = c.lo i := by
  rw [gC_at (by omega)]
  unfold wordC
  rw [if_pos h]
theorem link_idx (hs : s < 4) (ho : o < k) : 24 + s * k + o < 24 + 4 * k := by
  have : s * k + k ≤ 4 * k := by
    have := Nat.mul_le_mul_right k (show s + 1 ≤ 4 by omega)
    rwa [Nat.add_mul, Nat.one_mul] at this
  omega
theorem link_div (ho : o < k) : (24 + s * k + o - 24) / k = s ∧ (24 + s * k + o - 24) % k = o := by
  have e : 24 + s * k + o - 24 = o + s * k := by omega
  rw [e]
  constructor
  · rw [Nat.add_mul_div_right _ _ (by omega), Nat.div_eq_of_lt ho, Nat.zero_add]
  · rw [Nat.add_mul_mod_self_right, Nat.mod_eq_of_lt ho]
theorem link_at (hs : s < 4) (ho : o < k) : at_ (gC k key ow c) (24 + s * k + o) = if o < c.nl s then freshW key ow s o else 0 := by
  rw [gC_at (link_idx hs ho)]
  unfold wordC
  rw [if_neg (by omega), (link_div ho).1, (link_div ho).2]
theorem gC_set {a x : Nat} (h : ∀ i, i < 24 + 4 * k → wordC k key ow c' i = if i = a then x else wordC k key ow c i) : (gC k key ow c).set a x = gC k key ow c' := by
  apply List.ext_getElem?
  intro i
  rw [List.getElem?_set]
  by_cases hi : i < 24 + 4 * k
  · rw [gC_get (c := c') hi, h i hi]
    by_cases ha : a = i
    · subst ha
      rw [if_pos rfl, if_pos rfl, if_pos (by rw [gC_len]; exact hi)]
    · rw [if_neg ha, if_neg (show ¬ i = a from fun h => ha h.symm), gC_get hi]
  · rw [List.getElem?_eq_none (l := gC k key ow c') (by rw [gC_len]; omega)]
    by_cases ha : a = i
    · subst ha
      rw [if_pos rfl, if_neg (by rw [gC_len]; exact hi)]
    · rw [if_neg ha, List.getElem?_eq_none (by rw [gC_len]; omega)]
theorem set_lo {a : Nat} (x : Nat) (ha : a < 24) : (gC k key ow c).set a x = gC k key ow { c with lo := putN c.lo a x } := by
  refine gC_set fun i _ => ?_
  unfold wordC
  by_cases h1 : i < 24
  · rw [if_pos h1, if_pos h1]
    rfl
  · rw [if_neg h1, if_neg h1, if_neg (show ¬ i = a by omega)]
theorem set_link (hs : s < 4) (ho : o < k) (hn : c.nl s = o) : (gC k key ow c).set (24 + s * k + o) (freshW key ow s o) = gC k key ow { c with nl := putN c.nl s (o + 1) } := by
  refine gC_set fun i hi => ?_
  unfold wordC
  by_cases h1 : i < 24
  · rw [if_pos h1, if_pos h1, if_neg (by omega)]
  · rw [if_neg h1, if_neg h1]
    by_cases hio : i = 24 + s * k + o
    · rw [if_pos hio, hio, (link_div ho).1, (link_div ho).2]
      simp only [putN, if_pos]
      rw [if_pos (by omega)]
    · rw [if_neg hio]
      have hk : 0 < k := by omega
      have hdm := Nat.div_add_mod (i - 24) k
      have hml := Nat.mod_lt (i - 24) hk
      by_cases hd : (i - 24) / k = s
      · have hne : (i - 24) % k ≠ o := fun he => by
          rw [hd, he, Nat.mul_comm] at hdm
          omega
        simp only [putN, hd, if_pos]
        by_cases h2 : (i - 24) % k < o + 1
        · rw [if_pos h2, if_pos (by omega)]
        · rw [if_neg h2, if_neg (by omega)]
      · simp only [putN, if_neg hd]
def zeroC : Cw := ⟨fun _ => 0, fun _ => 0⟩
theorem gC_zero : gC k key ow zeroC = List.replicate (24 + 4 * k) 0 := by
  apply List.ext_getElem?
  intro i
  rw [List.getElem?_replicate]
  by_cases hi : i < 24 + 4 * k
  · rw [gC_get hi, if_pos hi]
    unfold wordC zeroC
    simp
  · rw [if_neg hi, List.getElem?_eq_none (by rw [gC_len]; omega)]
/-- words are words -/
theorem w64_gC (hlo : ∀ i, i < 24 → c.lo i < 18446744073709551616) (how : ∀ s, ow s ≤ 16) : W64 (gC k key ow c) := by
  intro x hx
  unfold gC at hx
  obtain ⟨i, hi, rfl⟩ := List.mem_map.1 hx
  have hi := List.mem_range.1 hi
  unfold wordC
  split
  · rename_i h
    exact hlo i h
  · split
    · unfold freshW
      have := how ((i - 24) / k)
      refine hide_lt ?_
      split <;> omega
    · omega
/-! what the words say -/
abbrev cA (k key : Nat) : Ch := ⟨1, 4, k, key⟩
theorem lk_all (hs : s < 4) (ho : ow s ≤ k) (hk : k ≤ 16) (hn : c.nl s = ow s) : ∀ i, Back.LkB (gC k key ow c) (24 + s * k) (See.keyOf key s) (Back.upL (ow s) i) := by
  intro i
  refine Back.fresh_lkB (n := ow s) (by omega) (fun o ho' => ?_) (ow s - i) i rfl
  rw [link_at hs (by omega), if_pos (by omega)]
  unfold freshW
  by_cases h1 : o + 1 = ow s
  · rw [if_neg (by omega), if_pos h1]
  · rw [if_pos (by omega), if_neg h1]
/-- the list from an object on -/
theorem list_is (hs : s < 4) (h0 : 0 < k) (ho : ow s ≤ k) (hk : k ≤ 16) (hn : c.nl s = ow s) (i : Nat) : listP (cA k key) (gC k key ow c) s (if i < ow s then (i : Int) else -1) = some (Back.upL (ow s) i) := by
  have hb : ∀ x ∈ Back.upL (ow s) i, 0 ≤ x ∧ x < (k : Int) := fun x hx => by
    have := Back.mem_upL.1 hx
    omega
  unfold listP
  rw [if_pos (by refine ⟨by omega, by show (s : Int) < ((4 : Nat) : Int); omega, by split <;> omega, by show _ < ((k : Nat) : Int); split <;> omega⟩)]
  have e : 4 * (cA k key).C + 4 + 4 * (cA k key).S + s * (cA k key).O = 24 + s * k := by show 4 * 1 + 4 + 4 * 4 + s * k = _; omega
  show See.walk (fun w o => showOf w (See.keyOf key s) o.toNat) (See.links (cA k key) (gC k key ow c) s) _ [] _ = _
  unfold See.links
  rw [e]
  have hle : 24 + s * k + k ≤ (gC k key ow c).length := by
    rw [gC_len]
    have := Nat.mul_le_mul_right k (show s + 1 ≤ 4 by omega)
    rw [Nat.add_mul, Nat.one_mul] at this
    omega
  have h := Back.walk_listB (g := gC k key ow c) (b := 24 + s * k) (O := k) (key := See.keyOf key s) hb (lk_all hs ho hk hn i) hle (k + 1) [] (by simpa using Back.upL_nodup (ow s) i) (by rw [Back.upL_len]; omega)
  rw [List.nil_append, Back.fst_upL] at h
  exact h
theorem list_nil (hs : s < 4) (h0 : 0 < k) : listP (cA k key) (gC k key ow c) s (-1) = some [] := by
  unfold listP
  rw [if_pos (by refine ⟨by omega, by show (s : Int) < ((4 : Nat) : Int); omega, by omega, by show (-1 : Int) < ((k : Nat) : Int); omega⟩)]
  simp [See.walk]
/-- a slab, as its two words say -/
theorem slab_is {n : CountsP} {L : List Int} (hs : s < 4) (h0 : 0 < k) (ho : ow s ≤ k) (hk : k ≤ 16) (hc : countsOf (c.lo (9 + 4 * s)) = some n) (hf : (c.lo (8 + 4 * s) = 0 ∧ L = []) ∨ (c.lo (8 + 4 * s) = 1 ∧ L = Back.upL (ow s) 0 ∧ 0 < ow s ∧ c.nl s = ow s)) : slabP (cA k key) (gC k key ow c) s = some ⟨n, L⟩ := by
  unfold slabP
  rw [show 4 * (cA k key).C + 4 + 4 * s + 1 = 9 + 4 * s by show 4 * 1 + 4 + 4 * s + 1 = _; omega, show 4 * (cA k key).C + 4 + 4 * s = 8 + 4 * s by show 4 * 1 + 4 + 4 * s = _; omega, lo_at (by omega), lo_at (by omega), hc]
  simp only
  rcases hf with ⟨h1, rfl⟩ | ⟨h1, rfl, h2, h3⟩
  · rw [h1, if_neg (by omega), show ((0 : Nat) : Int) - 1 = -1 from rfl, list_nil hs h0]
  · rw [h1, if_neg (show ¬ (cA k key).O < 1 by show ¬ k < 1; omega), show ((1 : Nat) : Int) - 1 = ((0 : Nat) : Int) from rfl]
    have := list_is (key := key) hs h0 ho hk h3 0
    rw [if_pos h2] at this
    rw [this]
end
end Go.Proofs.YtcbljokbechppaaGreatDoor.Fa
