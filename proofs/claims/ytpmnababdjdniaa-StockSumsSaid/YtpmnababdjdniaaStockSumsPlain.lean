/-
  What stocks hold together, behind a Take, a Put, a Drain: plain.
-/
import Derived.Test.YtpmnababdjdniaaStock
namespace Go.Proofs.Ytpmnababdjdniaa.stockSums

theorem held_cons (q : Int × Int) (l : List (Int × Int)) (g : Int) : stHeld (q :: l) g = (if q.1 = g then q.2 else 0) + stHeld l g := by simp [stHeld]
theorem held_set (p : Int × Int) (g : Int) : ∀ (l : List (Int × Int)) (i : Nat) (q : Int × Int), l[i]? = some q →
    stHeld (l.set i p) g = stHeld l g - (if q.1 = g then q.2 else 0) + (if p.1 = g then p.2 else 0)
  | [], i, q, h => by simp at h
  | r :: l, 0, q, h => by
    simp at h; subst h
    simp only [List.set_cons_zero, held_cons]; omega
  | r :: l, i + 1, q, h => by
    have := held_set p g l i q (by simpa using h)
    simp only [List.set_cons_succ, held_cons]; omega
theorem whole_part (g n g' : Int) : (if (stWhole g n).1 = g' then (stWhole g n).2 else 0) = if g = g' then n else 0 := by
  unfold stWhole
  split
  · rename_i h; simp [h]
  · rfl
theorem take_held {l : List (Int × Int)} {cpu g n : Int} (h : (stTake l cpu g n).1 = true) (g' : Int) : stHeld (stTake l cpu g n).2 g' = stHeld l g' - if g = g' then n else 0 := by
  unfold stTake at h ⊢
  split at h
  · rename_i p hs
    obtain ⟨i, rfl, hi, hp⟩ := stAt_in hs
    split at h
    · rename_i hc
      rw [if_pos hc]
      simp only [Int.toNat_natCast]
      rw [held_set _ _ _ _ _ hp, whole_part, hc.2.2]
      split <;> omega
    · cases h
  · cases h
theorem take_no {l : List (Int × Int)} {cpu g n : Int} (h : (stTake l cpu g n).1 = false) : (stTake l cpu g n).2 = l := by
  unfold stTake at h ⊢
  split at h
  · rename_i p hs
    split at h
    · cases h
    · rename_i hc; rw [if_neg hc]
  · rfl
theorem put_no {l : List (Int × Int)} {cpu g n : Int} (h : (stPut l cpu g n).1.2.2 ≠ 0) : (stPut l cpu g n).2 = l := by
  grind [stPut]
theorem put_held {l : List (Int × Int)} (ok : StOk l) {cpu g n : Int} (h : (stPut l cpu g n).1.2.2 = 0) (g' : Int) :
    stHeld (stPut l cpu g n).2 g' = (stHeld l g' + if g = g' then n else 0) - if (stPut l cpu g n).1.1 = g' then (stPut l cpu g n).1.2.1 else 0 := by
  cases hs : stAt l cpu with
  | none => simp [stPut, hs] at h
  | some p =>
    obtain ⟨i, rfl, hi, hp⟩ := stAt_in hs
    have hok := ok.2.2 p (List.mem_of_getElem? hp)
    by_cases h1 : g < 1 ∨ 16 < g
    · simp [stPut, hs, h1] at h
    by_cases h2 : n < 0 ∨ 9007199254740991 < n
    · simp [stPut, hs, h1, h2] at h
    by_cases h3 : p ≠ (0, 0) ∧ p.1 ≠ g
    · by_cases h4 : 1024 < n
      · simp only [stPut, hs, if_neg h1, if_neg h2, if_pos h3, if_pos h4] at h; omega
      · simp only [stPut, hs, if_neg h1, if_neg h2, if_pos h3, if_neg h4, Int.toNat_natCast, held_set _ _ _ _ _ hp, whole_part]
        omega
    · have hg : p = (0, 0) ∨ p.1 = g := by
        by_cases hz : p = (0, 0)
        · exact .inl hz
        · right; by_cases hq : p.1 = g
          · exact hq
          · exact absurd ⟨hz, hq⟩ h3
      by_cases h4 : 1024 < p.2 + n
      · simp only [stPut, hs, if_neg h1, if_neg h2, if_neg h3, if_pos h4, Int.toNat_natCast, held_set _ _ _ _ _ hp]
        rcases hg with rfl | hg
        · simp; (repeat' split) <;> omega
        · rw [hg]; (repeat' split) <;> omega
      · simp only [stPut, hs, if_neg h1, if_neg h2, if_neg h3, if_neg h4, Int.toNat_natCast, held_set _ _ _ _ _ hp, whole_part]
        rcases hg with rfl | hg
        · simp
        · rw [hg]; (repeat' split) <;> omega
theorem drain_held {l : List (Int × Int)} {cpu : Int} (g' : Int) : stHeld (stDrain l cpu).2 g' = stHeld l g' - if (stDrain l cpu).1.1 = g' then (stDrain l cpu).1.2 else 0 := by
  unfold stDrain
  split
  · simp
  · rename_i p hs
    obtain ⟨i, rfl, hi, hp⟩ := stAt_in hs
    simp only [Int.toNat_natCast, held_set _ _ _ _ _ hp]
    simp
/-- a stock's group is none, or one of the sixteen -/
theorem put_was {l : List (Int × Int)} (ok : StOk l) {cpu g n : Int} : 0 ≤ (stPut l cpu g n).1.1 ∧ (stPut l cpu g n).1.1 ≤ 16 ∧ 0 ≤ (stPut l cpu g n).1.2.1 ∧ (stPut l cpu g n).1.2.1 ≤ 9007199254742015 := by
  cases hs : stAt l cpu with
  | none => simp [stPut, hs]
  | some p =>
    obtain ⟨i, rfl, hi, hp⟩ := stAt_in hs
    have hok := ok.2.2 p (List.mem_of_getElem? hp)
    have hb := ok.at_ hp
    have h01 : 0 ≤ p.1 ∧ p.1 ≤ 16 := by
      rcases hok with rfl | h
      · simp
      · omega
    simp only [stPut, hs]
    (repeat' split) <;> simp <;> omega
theorem drain_was {l : List (Int × Int)} (ok : StOk l) {cpu : Int} : 0 ≤ (stDrain l cpu).1.1 ∧ (stDrain l cpu).1.1 ≤ 16 ∧ 0 ≤ (stDrain l cpu).1.2 ∧ (stDrain l cpu).1.2 ≤ 1024 := by
  cases hs : stAt l cpu with
  | none => simp [stDrain, hs]
  | some p =>
    obtain ⟨i, rfl, hi, hp⟩ := stAt_in hs
    have hok := ok.2.2 p (List.mem_of_getElem? hp)
    have hb := ok.at_ hp
    have h01 : 0 ≤ p.1 ∧ p.1 ≤ 16 := by
      rcases hok with rfl | h
      · simp
      · omega
    simp only [stDrain, hs]
    omega
/-- the sum of a row from 1 on -/
def sumTo (f : Nat → Int) : Nat → Int
  | 0 => 0
  | k + 1 => sumTo f k + f (k + 1)
theorem sumTo_add (f g : Nat → Int) : ∀ k, sumTo (fun i => f i + g i) k = sumTo f k + sumTo g k
  | 0 => rfl
  | k + 1 => by simp only [sumTo, sumTo_add f g k]; omega
theorem sumTo_one (p : Int × Int) (k : Nat) : 0 ≤ p.1 → sumTo (fun g => if p.1 = (g : Int) then p.2 else 0) k = if 1 ≤ p.1 ∧ p.1 ≤ k then p.2 else 0 := by
  intro h0
  induction k with
  | zero => simp [sumTo]; omega
  | succ k ih =>
    simp only [sumTo, ih]
    (repeat' split) <;> omega
theorem sumTo_zero (k : Nat) : sumTo (fun _ => 0) k = 0 := by induction k with | zero => rfl | succ k ih => simp [sumTo, ih]
theorem sum_all : ∀ l : List (Int × Int), (∀ p ∈ l, p = (0, 0) ∨ 1 ≤ p.1 ∧ p.1 ≤ 16 ∧ 1 ≤ p.2 ∧ p.2 ≤ 1024) → sumTo (fun g => stHeld l g) 16 = (l.map (·.2)).sum
  | [], _ => by simp [stHeld, sumTo_zero]
  | p :: l, h => by
    have h1 := sum_all l (fun q hq => h q (List.mem_cons_of_mem _ hq))
    have h2 := h p List.mem_cons_self
    have e : (fun g : Nat => stHeld (p :: l) (g : Int)) = fun g : Nat => (if p.1 = (g : Int) then p.2 else 0) + stHeld l (g : Int) := by funext g; exact held_cons _ _ _
    rw [e, sumTo_add, sumTo_one _ _ (by
      rcases h2 with rfl | h2
      · simp
      · omega), h1]
    simp only [List.map_cons, List.sum_cons]
    rcases h2 with rfl | h2
    · simp
    · rw [if_pos (by omega)]
theorem held_zero {l : List (Int × Int)} (h : ∀ p ∈ l, p = (0, 0) ∨ 1 ≤ p.1 ∧ p.1 ≤ 16 ∧ 1 ≤ p.2 ∧ p.2 ≤ 1024) : stHeld l 0 = 0 := by
  induction l with
  | nil => rfl
  | cons p l ih =>
    rw [held_cons, ih (fun q hq => h q (List.mem_cons_of_mem _ hq))]
    rcases h p List.mem_cons_self with rfl | h2
    · simp
    · rw [if_neg (by omega)]; rfl
theorem sumTo_bd {f : Nat → Int} (h : ∀ k, 0 ≤ f k ∧ f k ≤ 8192) : ∀ k, 0 ≤ sumTo f k ∧ sumTo f k ≤ 8192 * k
  | 0 => by simp [sumTo]
  | k + 1 => by
    have h1 := sumTo_bd h k
    have h2 := h (k + 1)
    simp only [sumTo]; omega

theorem take_len (l : List (Int × Int)) (cpu g n : Int) : (stTake l cpu g n).2.length = l.length := by
  unfold stTake; (repeat' split) <;> simp
theorem put_len (l : List (Int × Int)) (cpu g n : Int) : (stPut l cpu g n).2.length = l.length := by
  unfold stPut; (repeat' split) <;> simp
theorem drain_len (l : List (Int × Int)) (cpu : Int) : (stDrain l cpu).2.length = l.length := by
  unfold stDrain; (repeat' split) <;> simp
theorem held_bd {l : List (Int × Int)} (ok : StOk l) (g : Int) : 0 ≤ stHeld l g ∧ stHeld l g ≤ 8192 := by
  have := stHeld_bd g l ok.all
  have := ok.2.1
  omega

theorem sum_take (l : List (Int × Int)) {k : Nat} {p : Int × Int} (h : l[k]? = some p) : ((l.take (k + 1)).map (·.2)).sum = ((l.take k).map (·.2)).sum + p.2 := by
  induction l generalizing k with
  | nil => simp at h
  | cons q l ih =>
    cases k with
    | zero => simp at h; subst h; simp
    | succ k => have := ih (by simpa using h); simp at this ⊢; omega
theorem sum_bd {l : List (Int × Int)} (h : ∀ p ∈ l, 0 ≤ p.2 ∧ p.2 ≤ 1024) : 0 ≤ (l.map (·.2)).sum ∧ (l.map (·.2)).sum ≤ 1024 * l.length := by
  induction l with
  | nil => simp
  | cons q l ih =>
    have h1 := ih (fun p hp => h p (List.mem_cons_of_mem _ hp))
    have h2 := h q List.mem_cons_self
    simp at h1 ⊢; omega
end Go.Proofs.Ytpmnababdjdniaa.stockSums
