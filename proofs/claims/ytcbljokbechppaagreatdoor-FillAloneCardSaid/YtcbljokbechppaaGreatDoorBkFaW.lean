import Derived.Test.YtcbljokbechppaaGreatDoorBkFaV
/-
  wainscotlaw24.FillAlone: what is seen at its end. No condition.
-/
namespace Go.Proofs.YtcbljokbechppaaGreatDoor.Fa
open Go Ex Mem See
open Go.RowKit
namespace Na
section
variable {x : Na} (h : x.Ok)
/-- the first slab that is left on the shelf -/
def tE (x : Na) : Nat := if x.kept then 0 else if x.m = 0 then 0 else 1
def slE (x : Na) : SlotP := if x.T then ⟨x.sl, Back.upL (x.ow x.sl) 1, 1, []⟩ else ⟨-1, [], 0, []⟩
def sbE (x : Na) (s : Nat) : SlabP := if s = x.sl ∧ x.T = true then ⟨⟨x.k, x.k, true, true⟩, []⟩ else if s < x.m then ⟨⟨(x.k - x.ow s : Nat), x.k, false, true⟩, Back.upL (x.ow s) 0⟩ else ⟨⟨0, 0, false, false⟩, []⟩
def coreE (x : Na) : CoreP := ⟨[x.slE], Back.upL x.m x.tE, false, (List.range 4).map x.sbE⟩
theorem wE_slab (hm : x.m ≤ 3) {s : Nat} : x.wE.fi s = (if s = x.sl ∧ x.T = true then 0 else if s < x.m then 1 else 0) ∧ x.wE.co s = if s = x.sl ∧ x.T = true then packN x.k x.k true true else if s < x.m then x.pk s false else 0 := by
  have hfi : ∀ s, (x.wd 0).fi s = if s < x.m then 1 else 0 := fun s => by
    show (if 0 ≤ s ∧ s < x.m then 1 else 0) = _
    by_cases hs : s < x.m
    · rw [if_pos hs, if_pos (by omega)]
    · rw [if_neg hs, if_neg (by omega)]
  have hco : ∀ s, (x.wd 0).co s = if s < x.m then x.pk s false else 0 := fun s => by
    show (if 0 ≤ s ∧ s < x.m then x.pk s false else 0) = _
    by_cases hs : s < x.m
    · rw [if_pos hs, if_pos (by omega)]
    · rw [if_neg hs, if_neg (by omega)]
  cases hk : x.kept with
  | true =>
    have es : x.sl = 3 := by unfold sl; rw [hk]; rfl
    have eT : x.T = true := by unfold T; rw [hk]; rfl
    rw [wE_kept hk, es, eT, ← hfi, ← hco]
    simp only [and_true]
    unfold putN
    by_cases hs : s = 3
    · rw [if_pos hs, if_pos hs, if_pos hs, if_pos hs]
      exact ⟨rfl, rfl⟩
    · rw [if_neg hs, if_neg hs, if_neg hs, if_neg hs, if_neg hs, if_neg hs]
      exact ⟨rfl, rfl⟩
  | false =>
    by_cases h0 : x.m = 0
    · have eT : x.T = false := by unfold T; rw [hk, h0]; rfl
      rw [wE_none hk h0, eT, hfi, hco, if_neg (show ¬ (s = x.sl ∧ false = true) by simp), if_neg (show ¬ (s = x.sl ∧ false = true) by simp)]
      exact ⟨rfl, rfl⟩
    · have es : x.sl = 0 := by unfold sl; rw [hk]; rfl
      have eT : x.T = true := by unfold T; rw [hk]; simp [h0]
      rw [wE_shelf hk h0, es, eT, ← hfi, ← hco]
      simp only [and_true]
      unfold putN
      by_cases hs : s = 0
      · rw [if_pos hs, if_pos hs]
        exact ⟨rfl, rfl⟩
      · rw [if_neg hs, if_neg hs]
        exact ⟨rfl, rfl⟩
theorem nE_at (hm : x.m ≤ 3) {s : Nat} (hs : s < x.m) : x.nE s = x.ow s := by
  have e : x.nl 0 s = x.ow s := by
    unfold nl
    rw [if_pos (by omega)]
  unfold nE
  split
  · rw [put_ne (by omega), e]
  · exact e
theorem nE_sl (hT : x.T = true) : x.nE x.sl = x.ow x.sl := (wB_sl hT).2.2
include h
theorem see_end : seeP (cA x.k x.key) (x.g x.cE) = some x.coreE := by
  have hk := k16 h
  have hm := h.m
  have ho := h.ow
  refine see_is (m := x.m) (t := x.tE) hk.1 hk.2 (by omega) (by unfold tE; split; omega; split <;> omega) ?_ ?_ ?_ ?_ ?_ fun s hs => ?_
  · unfold wE; split; rfl; split <;> rfl
  · unfold wE; split; rfl; split <;> rfl
  · unfold tE
    cases hkp : x.kept with
    | true =>
      rw [wE_kept hkp]
      rfl
    | false =>
      simp only [Bool.false_eq_true, if_false]
      by_cases h0 : x.m = 0
      · rw [wE_none hkp h0, if_pos h0]
        rfl
      · rw [wE_shelf hkp h0, if_neg h0]
  · intro s hs
    have e : (x.wd 0).nx s = if s + 1 < x.m then s + 2 else 0 := by
      show (if 0 ≤ s ∧ s < x.m then _ else 0) = _
      rw [if_pos (by omega)]
    cases hkp : x.kept with
    | true => rw [wE_kept hkp]; exact e
    | false =>
      by_cases h0 : x.m = 0
      · rw [wE_none hkp h0]; exact e
      · rw [wE_shelf hkp h0]; exact e
  · by_cases hT : x.T = true
    · refine .inr ⟨x.sl, sl_lt, (ho _).2, ?_, nE_sl hT, ?_⟩
      · rcases T_cases hT with hkp | ⟨hkp, h0⟩
        · rw [wE_kept hkp]; unfold sl; rw [hkp]; rfl
        · rw [wE_shelf hkp h0]; unfold sl; rw [hkp]; rfl
      · unfold slE
        rw [if_pos hT]
        rcases T_cases hT with hkp | ⟨hkp, h0⟩
        · rw [wE_kept hkp]
        · rw [wE_shelf hkp h0]
    · have hkp : x.kept = false := by
        cases hkp : x.kept with
        | false => rfl
        | true => exact absurd (by unfold T; rw [hkp]; rfl) hT
      have h0 : x.m = 0 := by
        by_cases h0 : x.m = 0
        · exact h0
        · exact absurd (by unfold T; rw [hkp]; simp [h0]) hT
      refine .inl ⟨by rw [wE_none hkp h0]; rfl, ?_⟩
      unfold slE
      rw [if_neg hT, wE_none hkp h0]
      rfl
  · obtain ⟨h1, h2⟩ := wE_slab (x := x) hm (s := s)
    have hos := ho s
    have hgo : slabP (cA x.k x.key) (gC x.k x.key x.ow x.cE) s = some ⟨(x.sbE s).counts, (x.sbE s).first⟩ := ?_
    · exact hgo
    refine slab_is (key := x.key) (c := x.cE) (ow := x.ow) (n := (x.sbE s).counts) (L := (x.sbE s).first) hs (by omega) hos.2 hk.2 ?_ ?_
    · show countsOf (x.wE.lo (9 + 4 * s)) = _
      rw [Wd.lo_co, h2]
      unfold sbE
      by_cases hT : s = x.sl ∧ x.T = true
      · rw [if_pos hT, if_pos hT, Back.countsOf_pack (by omega) (by omega) (by omega)]
      · rw [if_neg hT, if_neg hT]
        by_cases hsm : s < x.m
        · rw [if_pos hsm, if_pos hsm]
          unfold pk
          rw [Back.countsOf_pack (by omega) (by omega) (by omega)]
        · rw [if_neg hsm, if_neg hsm]
          rfl
    · show (x.wE.lo (8 + 4 * s) = 0 ∧ _) ∨ (x.wE.lo (8 + 4 * s) = 1 ∧ _ ∧ _ ∧ x.nE s = x.ow s)
      rw [Wd.lo_fi, h1]
      unfold sbE
      by_cases hT : s = x.sl ∧ x.T = true
      · rw [if_pos hT, if_pos hT]
        exact .inl ⟨rfl, rfl⟩
      · rw [if_neg hT, if_neg hT]
        by_cases hsm : s < x.m
        · rw [if_pos hsm, if_pos hsm]
          exact .inr ⟨rfl, rfl, by omega, nE_at hm hsm⟩
        · rw [if_neg hsm, if_neg hsm]
          exact .inl ⟨rfl, rfl⟩
end
end Na
end Go.Proofs.YtcbljokbechppaaGreatDoor.Fa
