import Derived.Test.YtcbljokbechppaaGreatDoorBkFaP
/-
  The words of FillAlone's core, word by word, and what is seen of them: plain. No condition.
-/
namespace Go.Proofs.YtcbljokbechppaaGreatDoor.Fa
open See
theorem upto_is {α : Type} {f : Nat → Option α} {F : Nat → α} : ∀ (n : Nat), (∀ i, i < n → f i = some (F i)) → upto f n = some ((List.range n).map F)
  | 0, _ => rfl
  | n + 1, h => by
    unfold upto
    rw [upto_is n fun i hi => h i (by omega), h n (by omega), List.range_succ, List.map_append]
    rfl
theorem headOf_W {a b : Int} (h1 : 0 ≤ a ∧ a < 32) (h2 : -1 ≤ b ∧ b < 16) : headOf (headW a b) = some (a, b) := by
  unfold headOf headW
  obtain ⟨x, rfl⟩ : ∃ x : Nat, a = x := ⟨a.toNat, by omega⟩
  obtain ⟨y, hy⟩ : ∃ y : Nat, b + 1 = y := ⟨(b + 1).toNat, by omega⟩
  rw [hy]
  have e : (64 * ((x : Int) + 1) + (y : Int)).toNat = 64 * (x + 1) + y := by omega
  rw [e, if_neg (by omega), if_pos (by omega)]
  congr 2 <;> omega
/-- the words ahead of the links: the processor's four, the lock, the shelf's two; of each slab its first, its counts, its next -/
structure Wd where
  H : Nat
  T : Nat
  P : Nat
  PT : Nat
  LK : Nat
  SH : Nat
  ST : Nat
  fi : Nat → Nat
  co : Nat → Nat
  nx : Nat → Nat
namespace Wd
def lo (w : Wd) (i : Nat) : Nat :=
  if i < 8 then [w.H, w.T, w.P, w.PT, w.LK, w.SH, w.ST, 0].getD i 0 else if (i - 8) % 4 = 0 then w.fi ((i - 8) / 4) else if (i - 8) % 4 = 1 then w.co ((i - 8) / 4) else if (i - 8) % 4 = 2 then w.nx ((i - 8) / 4) else 0
section
variable {w : Wd} {x s : Nat}
theorem lo_fi : w.lo (8 + 4 * s) = w.fi s := by
  unfold lo
  rw [if_neg (by omega), if_pos (by omega), show (8 + 4 * s - 8) / 4 = s by omega]
theorem lo_co : w.lo (9 + 4 * s) = w.co s := by
  unfold lo
  rw [if_neg (by omega), if_neg (by omega), if_pos (by omega), show (9 + 4 * s - 8) / 4 = s by omega]
theorem lo_nx : w.lo (10 + 4 * s) = w.nx s := by
  unfold lo
  rw [if_neg (by omega), if_neg (by omega), if_neg (by omega), if_pos (by omega), show (10 + 4 * s - 8) / 4 = s by omega]
theorem put_small {a : Nat} {w' : Wd} (hf : w'.fi = w.fi) (hc : w'.co = w.co) (hn : w'.nx = w.nx) (ha : a < 8) (h : ∀ i, i < 8 → w'.lo i = if i = a then x else w.lo i) : putN w.lo a x = w'.lo := by
  funext i
  by_cases hi : i < 8
  · rw [h i hi]
    rfl
  · rw [put_ne (by omega)]
    unfold lo
    rw [if_neg hi, if_neg hi, hf, hc, hn]
theorem put_H : putN w.lo 0 x = { w with H := x }.lo := put_small rfl rfl rfl (by omega) fun i hi => match i, hi with
  | 0, _ => rfl | 1, _ => rfl | 2, _ => rfl | 3, _ => rfl | 4, _ => rfl | 5, _ => rfl | 6, _ => rfl | 7, _ => rfl | i + 8, h => absurd h (by omega)
theorem put_T : putN w.lo 1 x = { w with T := x }.lo := put_small rfl rfl rfl (by omega) fun i hi => match i, hi with
  | 0, _ => rfl | 1, _ => rfl | 2, _ => rfl | 3, _ => rfl | 4, _ => rfl | 5, _ => rfl | 6, _ => rfl | 7, _ => rfl | i + 8, h => absurd h (by omega)
theorem put_P : putN w.lo 2 x = { w with P := x }.lo := put_small rfl rfl rfl (by omega) fun i hi => match i, hi with
  | 0, _ => rfl | 1, _ => rfl | 2, _ => rfl | 3, _ => rfl | 4, _ => rfl | 5, _ => rfl | 6, _ => rfl | 7, _ => rfl | i + 8, h => absurd h (by omega)
theorem put_PT : putN w.lo 3 x = { w with PT := x }.lo := put_small rfl rfl rfl (by omega) fun i hi => match i, hi with
  | 0, _ => rfl | 1, _ => rfl | 2, _ => rfl | 3, _ => rfl | 4, _ => rfl | 5, _ => rfl | 6, _ => rfl | 7, _ => rfl | i + 8, h => absurd h (by omega)
theorem put_LK : putN w.lo 4 x = { w with LK := x }.lo := put_small rfl rfl rfl (by omega) fun i hi => match i, hi with
  | 0, _ => rfl | 1, _ => rfl | 2, _ => rfl | 3, _ => rfl | 4, _ => rfl | 5, _ => rfl | 6, _ => rfl | 7, _ => rfl | i + 8, h => absurd h (by omega)
theorem put_SH : putN w.lo 5 x = { w with SH := x }.lo := put_small rfl rfl rfl (by omega) fun i hi => match i, hi with
  | 0, _ => rfl | 1, _ => rfl | 2, _ => rfl | 3, _ => rfl | 4, _ => rfl | 5, _ => rfl | 6, _ => rfl | 7, _ => rfl | i + 8, h => absurd h (by omega)
theorem put_ST : putN w.lo 6 x = { w with ST := x }.lo := put_small rfl rfl rfl (by omega) fun i hi => match i, hi with
  | 0, _ => rfl | 1, _ => rfl | 2, _ => rfl | 3, _ => rfl | 4, _ => rfl | 5, _ => rfl | 6, _ => rfl | 7, _ => rfl | i + 8, h => absurd h (by omega)
theorem put_fi : putN w.lo (8 + 4 * s) x = { w with fi := putN w.fi s x }.lo := by
  funext i
  unfold putN lo
  by_cases h8 : i < 8
  · rw [if_neg (by omega), if_pos h8, if_pos h8]
  · rw [if_neg h8, if_neg h8]
    by_cases h0 : (i - 8) % 4 = 0
    · rw [if_pos h0, if_pos h0]
      by_cases hs : (i - 8) / 4 = s
      · rw [if_pos (by omega)]
        simp only [hs, if_pos]
      · rw [if_neg (by omega)]
        simp only [if_neg hs]
    · rw [if_neg (by omega), if_neg h0, if_neg h0]
theorem put_co : putN w.lo (9 + 4 * s) x = { w with co := putN w.co s x }.lo := by
  funext i
  unfold putN lo
  by_cases h8 : i < 8
  · rw [if_neg (by omega), if_pos h8, if_pos h8]
  · rw [if_neg h8, if_neg h8]
    by_cases h0 : (i - 8) % 4 = 1
    · have h1 : ¬ (i - 8) % 4 = 0 := by omega
      rw [if_neg h1, if_neg h1, if_pos h0, if_pos h0]
      by_cases hs : (i - 8) / 4 = s
      · rw [if_pos (by omega)]
        simp only [hs, if_pos]
      · rw [if_neg (by omega)]
        simp only [if_neg hs]
    · rw [if_neg (by omega), if_neg h0, if_neg h0]
theorem put_nx : putN w.lo (10 + 4 * s) x = { w with nx := putN w.nx s x }.lo := by
  funext i
  unfold putN lo
  by_cases h8 : i < 8
  · rw [if_neg (by omega), if_pos h8, if_pos h8]
  · rw [if_neg h8, if_neg h8]
    by_cases h0 : (i - 8) % 4 = 2
    · have h1 : ¬ (i - 8) % 4 = 0 := by omega
      have h2 : ¬ (i - 8) % 4 = 1 := by omega
      rw [if_neg h1, if_neg h1, if_neg h2, if_neg h2, if_pos h0, if_pos h0]
      by_cases hs : (i - 8) / 4 = s
      · rw [if_pos (by omega)]
        simp only [hs, if_pos]
      · rw [if_neg (by omega)]
        simp only [if_neg hs]
    · rw [if_neg (by omega), if_neg h0, if_neg h0]
end
end Wd
section
variable {k key : Nat} {ow nl : Nat → Nat} {w : Wd} {m : Nat}
theorem chain_is (hm : m ≤ 4) (hn : ∀ s, s < m → w.nx s = if s + 1 < m then s + 2 else 0) : ∀ (d t f : Nat) (out : List Int), m - t = d → t ≤ m → d < f → (∀ x ∈ out, x < (t : Int) ∧ 0 ≤ x) → chain shelfOf (nextAt (cA k key) (gC k key ow ⟨w.lo, nl⟩)) 4 f out (if t < m then t + 1 else 0) = some (out ++ Back.upL m t)
  | 0, t, f, out, hd, ht, hf, hout => by
    rw [if_neg (by omega), Back.upL_nil (by omega), List.append_nil]
    cases f with
    | zero => omega
    | succ f =>
      unfold chain
      rw [show shelfOf 0 = some (-1) from rfl]
      simp only
      rw [if_neg (by rintro (h | h); omega; have := hout _ h; omega)]
      simp
  | d + 1, t, f, out, hd, ht, hf, hout => by
    rw [if_pos (by omega)]
    cases f with
    | zero => omega
    | succ f =>
      unfold chain
      have e : shelfOf (t + 1) = some (t : Int) := by
        unfold shelfOf
        rw [if_pos (by omega)]
        congr 1
        omega
      rw [e]
      simp only
      rw [if_neg (by rintro (h | h); omega; have := hout _ h; omega), if_neg (by omega)]
      have en : nextAt (cA k key) (gC k key ow ⟨w.lo, nl⟩) (t : Int) = if t + 1 < m then t + 1 + 1 else 0 := by
        unfold nextAt
        show at_ (gC k key ow ⟨w.lo, nl⟩) (4 * 1 + 4 + 4 * ((t : Int)).toNat + 2) = _
        rw [Int.toNat_natCast, show 4 * 1 + 4 + 4 * t + 2 = 10 + 4 * t by omega, lo_at (by omega)]
        show w.lo (10 + 4 * t) = _
        rw [Wd.lo_nx, hn t (by omega)]
      rw [en, chain_is hm hn d (t + 1) f (out ++ [(t : Int)]) (by omega) (by omega) (by omega) (fun x hx => by
        rcases List.mem_append.1 hx with hx | hx
        · have := hout x hx; omega
        · rw [List.mem_singleton] at hx; omega)]
      rw [List.append_assoc, Back.upL_cons (show t < m by omega)]
      rfl
/-- the object behind the first of a list -/
def lst (n : Nat) : Int := if 1 < n then ((1 : Nat) : Int) else -1
theorem lst_in (n : Nat) : -1 ≤ lst n ∧ lst n < 16 := by unfold lst; split <;> omega
/-- WHAT IS SEEN -/
theorem see_is {sl : SlotP} {sb : Nat → SlabP} {t : Nat} (hk : 1 ≤ k) (hk16 : k ≤ 16) (hm : m ≤ 4) (ht : t ≤ m) (hP : w.P = 0) (hL : w.LK = 0) (hsh : w.SH = if t < m then t + 1 else 0) (hn : ∀ s, s < m → w.nx s = if s + 1 < m then s + 2 else 0)
    (hsl : (w.H = 0 ∧ sl = ⟨-1, [], w.T, []⟩) ∨ ∃ s, s < 4 ∧ ow s ≤ k ∧ w.H = headW s (lst (ow s)) ∧ nl s = ow s ∧ sl = ⟨s, Back.upL (ow s) 1, w.T, []⟩) (hsb : ∀ s, s < 4 → slabP (cA k key) (gC k key ow ⟨w.lo, nl⟩) s = some (sb s)) :
    seeP (cA k key) (gC k key ow ⟨w.lo, nl⟩) = some ⟨[sl], Back.upL m t, false, (List.range 4).map sb⟩ := by
  have hp0 : partsP (cA k key) (gC k key ow ⟨w.lo, nl⟩) 0 = some [] := by
    show chain _ _ 4 5 [] 0 = _
    unfold chain
    simp [partOf]
  have h1 : upto (slotP (cA k key) (gC k key ow ⟨w.lo, nl⟩)) 1 = some ((List.range 1).map fun _ => sl) := upto_is 1 fun j hj => by
    obtain rfl : j = 0 := by omega
    unfold slotP
    rw [show 4 * 0 = 0 from rfl, lo_at (by omega), lo_at (show 0 + 2 < 24 by omega), lo_at (show 0 + 1 < 24 by omega)]
    rw [show (⟨w.lo, nl⟩ : Cw).lo 0 = w.H from rfl, show (⟨w.lo, nl⟩ : Cw).lo (0 + 2) = w.P from rfl, show (⟨w.lo, nl⟩ : Cw).lo (0 + 1) = w.T from rfl, hP, hp0]
    rcases hsl with ⟨hH, rfl⟩ | ⟨s, hs, hos, hH, hns, rfl⟩
    · rw [hH]
      rfl
    · have hl := lst_in (ow s)
      rw [hH, headOf_W (by omega) hl]
      simp only
      rw [if_neg (by omega), show lst (ow s) = if 1 < ow s then ((1 : Nat) : Int) else -1 from rfl, list_is (key := key) (c := ⟨w.lo, nl⟩) hs (by omega) hos hk16 hns]
  have h2 : upto (slabP (cA k key) (gC k key ow ⟨w.lo, nl⟩)) 4 = some ((List.range 4).map sb) := upto_is 4 hsb
  have h3 : shelfP (cA k key) (gC k key ow ⟨w.lo, nl⟩) = some (Back.upL m t) := by
    unfold shelfP
    show chain shelfOf (nextAt (cA k key) (gC k key ow ⟨w.lo, nl⟩)) 4 5 [] (at_ (gC k key ow ⟨w.lo, nl⟩) 5) = _
    rw [lo_at (by omega)]
    show chain _ _ 4 5 [] w.SH = _
    rw [hsh, chain_is hm hn (m - t) t 5 [] rfl ht (by omega) (fun x hx => by cases hx)]
    rfl
  unfold seeP
  show (match upto (slotP (cA k key) (gC k key ow ⟨w.lo, nl⟩)) 1 with | none => none | some a => _) = _
  rw [h1]
  simp only
  rw [h3]
  simp only
  show (match upto (slabP (cA k key) (gC k key ow ⟨w.lo, nl⟩)) 4 with | none => none | some b => _) = _
  rw [h2]
  simp only
  show some (CoreP.mk _ _ (decide (at_ (gC k key ow ⟨w.lo, nl⟩) 4 ≠ 0)) _) = _
  rw [lo_at (by omega)]
  show some (CoreP.mk _ _ (decide (w.LK ≠ 0)) _) = _
  rw [hL]
  rfl
end
end Go.Proofs.YtcbljokbechppaaGreatDoor.Fa
