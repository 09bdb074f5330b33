import Derived.Test.YtcbljokbechppaaGreatDoorBkFilW
/-
  What the words of such a core say, when all are done: plain. No condition.
-/
namespace Go.Proofs.YtcbljokbechppaaGreatDoor.Fil
open See
section
variable {n k : Nat} {m : Mf} {ps : List Ph} {s : Nat}
abbrev cF (n : Nat) : Ch := ⟨n, 8, 5, 9⟩
theorem upto_is {α : Type} {f : Nat → Option α} {F : Nat → α} : ∀ (n : Nat), (∀ i, i < n → f i = some (F i)) → upto f n = some ((List.range n).map F)
  | 0, _ => rfl
  | n + 1, h => by
    unfold upto
    rw [upto_is n fun i hi => h i (by omega), h n (by omega), List.range_succ, List.map_append]
    rfl
theorem headOf_W {a b : Int} (h1 : 0 ≤ a ∧ a < 32) (h2 : -1 ≤ b ∧ b < 16) : headOf (headW a b) = some (a, b) := by
  unfold headOf headW
  obtain ⟨x, rfl⟩ : ∃ x : Nat, a = x := ⟨a.toNat, by omega⟩
  obtain ⟨y, hy⟩ : ∃ y : Nat, b + 1 = y := ⟨(b + 1).toNat, by omega⟩
  rw [hy]
  have e : (64 * ((x : Int) + 1) + (y : Int)).toNat = 64 * (x + 1) + y := by omega
  rw [e, if_neg (by omega), if_pos (by omega)]
  congr 2 <;> omega
theorem lk_all (hs : s < 8) (hsk : s < k) : ∀ i, Back.LkB (gF n k m) (4 * n + 36 + 5 * s) (See.keyOf 9 s) (Back.upL (own s) i) := by
  intro i
  have := own_le s
  refine Back.fresh_lkB (n := own s) (by omega) (fun o ho => ?_) (own s - i) i rfl
  rw [gF_at (by omega), w_link (by omega)]
  unfold linkF
  rw [if_pos ⟨hsk, ho⟩]
  by_cases h1 : o + 1 = own s
  · rw [if_neg (by omega), if_pos h1]
  · rw [if_pos (by omega), if_neg h1]
/-- the list from an object on -/
theorem list_is (hs : s < 8) (hsk : s < k) (i : Nat) : listP (cF n) (gF n k m) s (if i < own s then (i : Int) else -1) = some (Back.upL (own s) i) := by
  have ho := own_le s
  have hb : ∀ x ∈ Back.upL (own s) i, 0 ≤ x ∧ x < ((5 : Nat) : Int) := fun x hx => by
    have := Back.mem_upL.1 hx
    omega
  unfold listP
  rw [if_pos (by refine ⟨by omega, by show (s : Int) < ((8 : Nat) : Int); omega, by split <;> omega, by show _ < ((5 : Nat) : Int); split <;> omega⟩)]
  have e : 4 * (cF n).C + 4 + 4 * (cF n).S + s * (cF n).O = 4 * n + 36 + 5 * s := by show 4 * n + 4 + 4 * 8 + s * 5 = _; omega
  show See.walk (fun w o => showOf w (See.keyOf 9 s) o.toNat) (See.links (cF n) (gF n k m) s) _ [] _ = _
  unfold See.links
  rw [e]
  have h := Back.walk_listB (g := gF n k m) (b := 4 * n + 36 + 5 * s) (O := 5) (key := See.keyOf 9 s) hb (lk_all (n := n) (m := m) hs hsk i) (by rw [gF_len]; omega) (5 + 1) [] (by simpa using Back.upL_nodup (own s) i) (by rw [Back.upL_len]; omega)
  rw [List.nil_append, Back.fst_upL] at h
  exact h
theorem list_nil (hs : s < 8) : listP (cF n) (gF n k m) s (-1) = some [] := by
  unfold listP
  rw [if_pos (by refine ⟨by omega, by show (s : Int) < ((8 : Nat) : Int); omega, by omega, by show (-1 : Int) < ((5 : Nat) : Int); omega⟩)]
  simp [See.walk]
/-- a processor's -/
def slotF (p : Ph) : SlotP := match p with
  | .fin s => ⟨s, Back.upL (own s) 1, 1, []⟩
  | _ => ⟨-1, [], 0, []⟩
theorem lastI_eq (s : Nat) : lastI s = if 1 < own s then ((1 : Nat) : Int) else -1 := rfl
theorem slot_is (h : InvF n k m ps) (hk : k ≤ 6) {j : Nat} {p : Ph} (hj : ps[j]? = some p) (hi : p.idle = true) : slotP (cF n) (gF n k m) j = some (slotF p) := by
  have hjn : j < n := by rw [← h.len]; exact (List.getElem?_eq_some_iff.1 hj).1
  have hh := h.head j p hj
  have ho := h.ok j p hj
  have htk := h.tk
  unfold slotP
  rw [gF_at (by omega), w_head hjn, hh.1, gF_at (show 4 * j + 2 < 76 + 4 * n by omega), w_part hjn, gF_at (show 4 * j + 1 < 76 + 4 * n by omega), w_turn hjn, hh.2]
  have hp0 : partsP (cF n) (gF n k m) 0 = some [] := by
    show chain _ _ 8 9 [] 0 = _
    unfold chain
    simp [partOf]
  rw [hp0]
  cases p with
  | fin s =>
    have ho : s < m.tk := ho
    rw [show (Ph.fin s).headN = headW s (lastI s) from rfl, headOf_W (by omega) (lastI_in s)]
    simp only
    rw [if_neg (by omega), lastI_eq, list_is (by omega) (by omega)]
    rfl
  | page => rfl
  | _ => cases hi
/-- a slab's numbers -/
def slabF (k tk s : Nat) : SlabP := if s < k then (if s < tk then ⟨⟨5, 5, true, true⟩, []⟩ else ⟨⟨5 - own s, 5, false, true⟩, Back.upL (own s) 0⟩) else ⟨⟨0, 0, false, false⟩, []⟩
theorem slab_is (hc : m.cut = m.tk) (hs : s < 8) : slabP (cF n) (gF n k m) s = some (slabF k m.tk s) := by
  have ho := own_le s
  have e0 : 4 * (cF n).C + 4 + 4 * s = 4 * n + 4 + 4 * s := rfl
  unfold slabP
  rw [e0, gF_at (by omega), w_counts hs, gF_at (by omega), w_first hs, hc]
  unfold slabF
  by_cases h1 : s < k
  · rw [if_pos h1, if_pos h1]
    by_cases h2 : s < m.tk
    · rw [if_pos h2, if_pos h2, if_neg (by omega), Back.countsOf_pack (by omega) (by omega) (by omega)]
      simp only
      rw [if_neg (by omega), show ((0 : Nat) : Int) - 1 = -1 from rfl, list_nil hs]
    · rw [if_neg h2, if_neg h2, if_pos (by omega)]
      unfold kwF
      rw [Back.countsOf_pack (by omega) (by omega) (by omega)]
      simp only
      rw [if_neg (show ¬ (cF n).O < 1 by show ¬ 5 < 1; omega), show ((1 : Nat) : Int) - 1 = ((0 : Nat) : Int) from rfl]
      have := list_is (n := n) (m := m) hs h1 0
      rw [if_pos (by omega)] at this
      rw [this]
  · rw [if_neg h1, if_neg h1, if_neg (by omega)]
    simp only [show countsOf 0 = some ⟨0, 0, false, false⟩ from rfl]
    rw [if_neg (by omega), show ((0 : Nat) : Int) - 1 = -1 from rfl, list_nil hs]
theorem chain_is (hk : k ≤ 6) : ∀ (d t f : Nat) (out : List Int), k - t = d → t ≤ k → d < f → (∀ x ∈ out, x < (t : Int) ∧ 0 ≤ x) → chain shelfOf (nextAt (cF n) (gF n k m)) 8 f out (if t < k then t + 1 else 0) = some (out ++ Back.upL k t)
  | 0, t, f, out, hd, ht, hf, hout => by
    rw [if_neg (by omega), Back.upL_nil (by omega), List.append_nil]
    cases f with
    | zero => omega
    | succ f =>
      unfold chain
      rw [show shelfOf 0 = some (-1) from rfl]
      simp only
      rw [if_neg (by rintro (h | h); omega; have := hout _ h; omega)]
      simp
  | d + 1, t, f, out, hd, ht, hf, hout => by
    rw [if_pos (by omega)]
    cases f with
    | zero => omega
    | succ f =>
      unfold chain
      have e : shelfOf (t + 1) = some (t : Int) := by
        unfold shelfOf
        rw [if_pos (by omega)]
        congr 1
        omega
      rw [e]
      simp only
      rw [if_neg (by rintro (h | h); omega; have := hout _ h; omega), if_neg (by omega)]
      have en : nextAt (cF n) (gF n k m) (t : Int) = if t + 1 < k then t + 1 + 1 else 0 := by
        unfold nextAt
        show at_ (gF n k m) (4 * n + 4 + 4 * ((t : Int)).toNat + 2) = _
        rw [Int.toNat_natCast, gF_at (by omega), w_next (by omega)]
        rfl
      rw [en, chain_is hk d (t + 1) f (out ++ [(t : Int)]) (by omega) (by omega) (by omega) (fun x hx => by
        rcases List.mem_append.1 hx with hx | hx
        · have := hout x hx; omega
        · rw [List.mem_singleton] at hx; omega)]
      rw [List.append_assoc, Back.upL_cons (show t < k by omega)]
      rfl
def coreF (n k tk : Nat) (ps : List Ph) : CoreP := ⟨(List.range n).map fun j => slotF (ps.getD j .page), Back.upL k tk, false, (List.range 8).map (slabF k tk)⟩
/-- WHAT IS SEEN -/
theorem see_is (h : InvF n k m ps) (hk : k ≤ 6) (hidle : ∀ (j : Nat) (p : Ph), ps[j]? = some p → p.idle = true) (hlk : m.lk = 0) : seeP (cF n) (gF n k m) = some (coreF n k m.tk ps) := by
  have hf := h.free hlk
  have htk := h.tk
  have h1 : upto (slotP (cF n) (gF n k m)) n = some ((List.range n).map fun j => slotF (ps.getD j .page)) := upto_is n fun j hj => by
    have hjl : j < ps.length := by rw [h.len]; exact hj
    have hat := List.getElem?_eq_getElem hjl
    rw [slot_is h hk hat (hidle j _ hat), List.getD_eq_getElem?_getD, hat]
    rfl
  have h2 : upto (slabP (cF n) (gF n k m)) 8 = some ((List.range 8).map (slabF k m.tk)) := upto_is 8 fun s hs => slab_is hf.1 hs
  have h3 : shelfP (cF n) (gF n k m) = some (Back.upL k m.tk) := by
    unfold shelfP
    show chain shelfOf (nextAt (cF n) (gF n k m)) 8 9 [] (at_ (gF n k m) (4 * n + 1)) = _
    rw [gF_at (by omega), w_shelf, chain_is hk (k - m.tk) m.tk 9 [] rfl htk (by omega) (fun x hx => by cases hx)]
    rfl
  unfold seeP
  show (match upto (slotP (cF n) (gF n k m)) n with | none => none | some a => _) = _
  rw [h1]
  simp only
  rw [h3]
  simp only
  show (match upto (slabP (cF n) (gF n k m)) 8 with | none => none | some b => _) = _
  rw [h2]
  simp only
  show some (CoreP.mk _ _ (decide (at_ (gF n k m) (4 * n) ≠ 0)) _) = _
  rw [gF_at (by omega), w_lock, hlk]
  rfl
end
end Go.Proofs.YtcbljokbechppaaGreatDoor.Fil
