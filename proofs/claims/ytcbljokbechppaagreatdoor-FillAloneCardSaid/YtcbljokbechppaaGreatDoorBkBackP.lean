import Derived.Test.YtcbljokbechppaaGreatDoorBkPlainW
/-
  One processor, two slabs, of which the second one has a list: what such words say. Plain. No condition.
-/
namespace Go.Proofs.YtcbljokbechppaaGreatDoor.Back
open See Fast
/-- each object's word shows the next one; its words begin at a place -/
def LkB (g : List Nat) (b key : Nat) : List Int → Prop
  | [] => True
  | x :: L => showOf (at_ g (b + x.toNat)) key x.toNat = some (fst L) ∧ LkB g b key L
theorem LkB.far {g g' : List Nat} {b key : Nat} {L : List Int} (h : LkB g b key L) (hd : ∀ x ∈ L, at_ g' (b + x.toNat) = at_ g (b + x.toNat)) : LkB g' b key L := by
  induction L with
  | nil => trivial
  | cons x L ih =>
    refine ⟨?_, ih h.2 fun y hy => hd y (List.mem_cons_of_mem _ hy)⟩
    rw [hd x List.mem_cons_self]
    exact h.1
abbrev c2 (k key : Nat) : Ch := ⟨1, 2, k, key⟩
structure Slabbed (k key : Nat) (g : List Nat) (L : List Int) (n : CountsP) (P S : List Int) (lk : Bool) : Prop where
  len : g.length = 16 + 2 * k
  w64 : W64 g
  h0 : at_ g 0 = 0
  parts : partsP (c2 k key) g (at_ g 2) = some P
  shelf : shelfP (c2 k key) g = some S
  lock : decide (at_ g 4 ≠ 0) = lk
  f0 : at_ g 8 = 0
  k0 : at_ g 9 = 0
  f1 : ((at_ g 12 : Nat) : Int) = fst L + 1
  k1 : countsOf (at_ g 13) = some n
  nd : L.Nodup
  bd : ∀ x ∈ L, 0 ≤ x ∧ x < (k : Int)
  lk1 : LkB g (16 + k) (See.keyOf key 1) L
section
variable {k key : Nat} {g : List Nat} {L P S : List Int} {n : CountsP} {lk : Bool}
theorem walk_listB {b O : Nat} (hb : ∀ x ∈ L, 0 ≤ x ∧ x < (O : Int)) (hlk : LkB g b key L) (hg : b + O ≤ g.length) : ∀ (n : Nat) (out : List Int), (out ++ L).Nodup → L.length < n →
    See.walk (fun w o => showOf w key o.toNat) ((g.drop b).take O) n out (fst L) = some (out ++ L) := by
  have hl : ((g.drop b).take O).length = O := by simp; omega
  induction L with
  | nil =>
    intro n out _ hn
    cases n with
    | zero => simp at hn
    | succ n => simp [See.walk, fst]
  | cons x L ih =>
    intro n out hnd hn
    have hx := hb x List.mem_cons_self
    cases n with
    | zero => simp at hn
    | succ n =>
      have h1 : x ≠ -1 := by omega
      have h2 : x ∉ out := fun hm => by
        rw [List.nodup_append] at hnd
        exact hnd.2.2 x hm x List.mem_cons_self rfl
      have h3 : ((g.drop b).take O).getD x.toNat 0 = at_ g (b + x.toNat) := by
        unfold at_
        rw [List.getD_eq_getElem?_getD, List.getElem?_take, if_pos (by omega)]
        simp [List.getD_eq_getElem?_getD]
      have h4 := fst_in fun y hy => hb y (List.mem_cons_of_mem _ hy)
      rw [show fst (x :: L) = x from rfl]
      unfold See.walk
      rw [if_neg h1, if_neg h2, h3, hlk.1]
      simp only
      rw [if_neg (by rw [hl]; unfold fst; unfold fst at h4; omega)]
      have h5 := ih (fun y hy => hb y (List.mem_cons_of_mem _ hy)) hlk.2 n (out ++ [x]) (by simpa using hnd) (by simp at hn; omega)
      rw [List.append_assoc] at h5
      exact h5
theorem Slabbed.see (h : Slabbed k key g L n P S lk) (h1 : 1 ≤ k) : seeP (c2 k key) g = some ⟨[⟨-1, [], at_ g 1, P⟩], S, lk, [⟨⟨0, 0, false, false⟩, []⟩, ⟨n, L⟩]⟩ := by
  have hlen := h.len
  have hf := fst_in h.bd
  have hcard : L.length < (c2 k key).O + 1 := by
    have := few h.nd h.bd
    show L.length < k + 1
    omega
  have hl1 : listP (c2 k key) g (1 : Nat) (fst L) = some L := by
    unfold listP
    rw [if_pos (by refine ⟨by omega, by show ((1 : Nat) : Int) < ((2 : Nat) : Int); omega, hf.1, hf.2⟩)]
    have hb : 4 * (c2 k key).C + 4 + 4 * (c2 k key).S + 1 * (c2 k key).O = 16 + k := by show 4 * 1 + 4 + 4 * 2 + 1 * k = 16 + k; omega
    show See.walk _ (See.links (c2 k key) g 1) _ [] _ = _
    unfold See.links
    rw [hb]
    have := walk_listB (O := k) h.bd h.lk1 (by omega) ((c2 k key).O + 1) [] (by simpa using h.nd) hcard
    rw [List.nil_append] at this
    exact this
  have hl0 : listP (c2 k key) g (0 : Nat) (-1) = some [] := by
    unfold listP
    rw [if_pos (by refine ⟨by omega, by show ((0 : Nat) : Int) < ((2 : Nat) : Int); omega, by omega, by show (-1 : Int) < ((k : Nat) : Int); omega⟩)]
    simp [See.walk]
  have hslot : slotP (c2 k key) g 0 = some ⟨-1, [], at_ g 1, P⟩ := by
    unfold slotP
    rw [show 4 * 0 = 0 from rfl, h.h0, show headOf 0 = some (-1, -1) from rfl]
    simp only [if_true]
    rw [show 0 + 2 = 2 from rfl, h.parts]
  have hs0 : slabP (c2 k key) g 0 = some ⟨⟨0, 0, false, false⟩, []⟩ := by
    unfold slabP
    rw [show 4 * (c2 k key).C + 4 + 4 * 0 + 1 = 9 from rfl, show 4 * (c2 k key).C + 4 + 4 * 0 = 8 from rfl, h.k0, show countsOf 0 = some ⟨0, 0, false, false⟩ from rfl, h.f0]
    simp only
    rw [if_neg (by omega), show ((0 : Nat) : Int) - 1 = -1 from rfl, hl0]
  have hs1 : slabP (c2 k key) g 1 = some ⟨n, L⟩ := by
    unfold slabP
    rw [show 4 * (c2 k key).C + 4 + 4 * 1 + 1 = 13 from rfl, show 4 * (c2 k key).C + 4 + 4 * 1 = 12 from rfl, h.k1]
    simp only
    rw [h.f1, if_neg (show ¬ (c2 k key).O < at_ g 12 from by have := h.f1; show ¬ k < _; omega), show fst L + 1 - 1 = fst L from by omega, hl1]
  unfold seeP
  rw [show (c2 k key).C = 0 + 1 from rfl, show (c2 k key).S = 0 + 1 + 1 from rfl]
  unfold upto upto upto
  rw [hslot, hs0, hs1]
  simp only
  rw [h.shelf]
  simp only [List.nil_append, List.cons_append]
  rw [show 4 * (0 + 1) = 4 from rfl, h.lock]
/-- what the second slab's links show when they are as Fresh laid them -/
theorem fresh_lkB {b n : Nat} (hn : n ≤ 16) (hg : ∀ i, i < n → at_ g (b + i) = if i + 1 = n then hideW (-1) key i else hideW ((i : Int) + 1) key i) :
    ∀ d i, n - i = d → LkB g b key (upL n i) := by
  intro d
  induction d with
  | zero =>
    intro i hi
    rw [upL_nil (by omega)]
    trivial
  | succ d ih =>
    intro i hi
    rw [upL_cons (by omega)]
    refine ⟨?_, ih (i + 1) (by omega)⟩
    rw [show ((i : Int)).toNat = i from by omega, hg i (by omega), fst_upL]
    by_cases h1 : i + 1 = n
    · rw [if_pos h1, if_neg (by omega)]
      exact show_hide (by omega) (by omega)
    · rw [if_neg h1, if_pos (by omega)]
      exact show_hide (by omega) (by omega)
end
/-! the words that slabbed lays -/
/-- the links, the first i of them -/
def lkI (k a key1 i : Nat) : List Nat := List.replicate (16 + k) 0 ++ (List.range k).map fun j => if j < i then (freshL (max a 1) key1).getD j 0 else 0
/-- z: no list; sh: it is on the shelf; P: its counts -/
def slG (k a key1 P : Nat) (sh : Bool) : List Nat :=
  let g0 := lkI k a key1 a
  let g1 := if a = 0 then g0 else g0.set 12 1
  let g2 := g1.set 13 P
  if sh then (g2.set 5 2).set 6 1 else g2
section
variable {k a key1 P : Nat} {sh : Bool}
theorem lkI_len (i : Nat) : (lkI k a key1 i).length = 16 + 2 * k := by
  simp [lkI]
  omega
theorem lkI_zero : lkI k a key1 0 = List.replicate (16 + 2 * k) 0 := by
  unfold lkI
  rw [show (List.range k).map (fun j => if j < 0 then (freshL (max a 1) key1).getD j 0 else 0) = List.replicate k 0 from by
    apply List.ext_getElem?
    intro j
    simp [List.getElem?_replicate]
    by_cases h : j < k <;> simp [h]]
  rw [List.replicate_append_replicate]
  congr 1
  omega
theorem lkI_low {i j : Nat} (h : j < 16 + k) : at_ (lkI k a key1 i) j = 0 := by
  unfold lkI at_
  rw [List.getD_eq_getElem?_getD, List.getElem?_append_left (by simpa using h), List.getElem?_replicate, if_pos h]
  rfl
theorem lkI_high {i j : Nat} (h : j < k) : at_ (lkI k a key1 i) (16 + k + j) = if j < i then (freshL (max a 1) key1).getD j 0 else 0 := by
  unfold lkI at_
  rw [List.getD_eq_getElem?_getD, List.getElem?_append_right (by simp), List.length_replicate, Nat.add_sub_cancel_left, List.getElem?_map, List.getElem?_range h]
  rfl
theorem lkI_set {i : Nat} (h : i < k) : (lkI k a key1 i).set (16 + k + i) ((freshL (max a 1) key1).getD i 0) = lkI k a key1 (i + 1) := by
  unfold lkI
  rw [List.set_append_right _ _ (by simp), List.length_replicate, Nat.add_sub_cancel_left]
  congr 1
  apply List.ext_getElem?
  intro j
  rw [List.getElem?_set]
  by_cases hij : i = j
  · subst hij
    simp [h]
  · rw [if_neg hij, List.getElem?_map, List.getElem?_map]
    by_cases hj : j < k
    · rw [List.getElem?_range hj]
      simp only [Option.map_some, Option.some.injEq]
      by_cases h1 : j < i
      · rw [if_pos h1, if_pos (by omega)]
      · rw [if_neg h1, if_neg (by omega)]
    · rw [List.getElem?_eq_none (by simpa using hj)]
      rfl
theorem slG_len : (slG k a key1 P sh).length = 16 + 2 * k := by
  unfold slG
  cases sh <;> simp only [Bool.false_eq_true, if_false, if_true, List.length_set] <;> split <;> simp [lkI_len]
/-- a place, of the words that slabbed lays -/
theorem slG_at (i : Nat) (hk : 1 ≤ k) : at_ (slG k a key1 P sh) i = if sh = true ∧ i = 6 then 1 else if sh = true ∧ i = 5 then 2 else if i = 13 then P else if a ≠ 0 ∧ i = 12 then 1 else at_ (lkI k a key1 a) i := by
  have h1 : ∀ i, at_ (if a = 0 then lkI k a key1 a else (lkI k a key1 a).set 12 1) i = if a ≠ 0 ∧ i = 12 then 1 else at_ (lkI k a key1 a) i := by
    intro i
    by_cases h0 : a = 0
    · rw [if_pos h0, if_neg (fun h => h.1 h0)]
    · rw [if_neg h0]
      by_cases h2 : i = 12
      · subst h2
        rw [if_pos ⟨h0, rfl⟩, at_set_self (by rw [lkI_len]; omega)]
      · rw [if_neg (fun h => h2 h.2), at_set_ne (fun h => h2 h.symm)]
  have hlen : (if a = 0 then lkI k a key1 a else (lkI k a key1 a).set 12 1).length = 16 + 2 * k := by split <;> simp [lkI_len]
  have h2 : ∀ i, at_ ((if a = 0 then lkI k a key1 a else (lkI k a key1 a).set 12 1).set 13 P) i = if i = 13 then P else if a ≠ 0 ∧ i = 12 then 1 else at_ (lkI k a key1 a) i := by
    intro i
    by_cases h3 : i = 13
    · subst h3
      rw [if_pos rfl, at_set_self (by omega)]
    · rw [if_neg h3, at_set_ne (fun h => h3 h.symm), h1]
  unfold slG
  cases sh with
  | false => simp only [Bool.false_eq_true, if_false, false_and]; exact h2 i
  | true =>
    simp only [if_true, true_and]
    by_cases h6 : i = 6
    · subst h6
      rw [if_pos rfl, at_set_self (by rw [List.length_set, List.length_set]; omega)]
    · rw [if_neg h6, at_set_ne (fun h => h6 h.symm)]
      by_cases h5 : i = 5
      · subst h5
        rw [if_pos rfl, at_set_self (by rw [List.length_set]; omega)]
      · rw [if_neg h5, at_set_ne (fun h => h5 h.symm)]
        exact h2 i
theorem w64_lkI (ha : a ≤ k) (hk : k ≤ 16) : W64 (lkI k a key1 a) := by
  intro x hx
  unfold lkI at hx
  rcases List.mem_append.1 hx with hx | hx
  · rw [List.eq_of_mem_replicate hx]; omega
  · obtain ⟨j, hj, rfl⟩ := List.mem_map.1 hx
    by_cases hjn : j < a
    · rw [if_pos hjn]
      unfold freshL
      rw [List.getD_eq_getElem?_getD, List.getElem?_map]
      cases hr : (List.range (max a 1))[j]? with
      | none => show 0 < _; omega
      | some y =>
        have hy : y < max a 1 := List.mem_range.1 (List.mem_of_getElem? hr)
        simp only [Option.map_some, Option.getD_some]
        split
        · exact hide_lt (by omega)
        · exact hide_lt (by omega)
    · rw [if_neg hjn]; omega
theorem w64_slG (ha : a ≤ k) (hk : k ≤ 16) (hP : P < 18446744073709551616) : W64 (slG k a key1 P sh) := by
  have h1 : W64 (lkI k a key1 a) := w64_lkI ha hk
  have h2 : W64 (if a = 0 then lkI k a key1 a else (lkI k a key1 a).set 12 1) := by
    split
    · exact h1
    · exact w64_set h1 (by omega)
  unfold slG
  cases sh with
  | false => exact w64_set h2 hP
  | true => exact w64_set (w64_set (w64_set h2 hP) (by omega)) (by omega)
/-- the links of the list that slabbed lays -/
theorem slG_lk (ha : a ≤ k) (h1 : 1 ≤ k) (hk : k ≤ 16) {g : List Nat} (hg : ∀ i, i < a → at_ g (16 + k + i) = at_ (slG k a key1 P sh) (16 + k + i)) : LkB g (16 + k) key1 (upL a 0) := by
  refine fresh_lkB (n := a) (by omega) (fun i hi => ?_) a 0 (by omega)
  rw [hg i hi, slG_at _ h1, if_neg (by omega), if_neg (by omega), if_neg (by omega), if_neg (by omega), lkI_high (by omega), if_pos hi]
  unfold freshL
  rw [List.getD_eq_getElem?_getD, List.getElem?_map, List.getElem?_range (by omega)]
  simp only [Option.map_some, Option.getD_some]
  rw [show max a 1 = a from by omega]
end
end Go.Proofs.YtcbljokbechppaaGreatDoor.Back
