import Derived.Test.YtljcndcmdphmgaaZmRzE
import Derived.Test.YtljcndcmdphmgaaZm10
/-
  The zone and the reference's, in plain Lean: tables that are alike but in the caches of what is out. No condition.
-/
namespace Go.Proofs.Ytljcndcmdphmgaa
open Go.RowKit
/-- a page, but for the cache of what is out -/
def sk (p : Pg) : Pg := if p.1 = 2 then (2, p.2.1, 0) else p
def Alike (L M : List Pg) : Prop := L.map sk = M.map sk
theorem Alike.symm {L M : List Pg} (h : Alike L M) : Alike M L := Eq.symm h
theorem Alike.len {L M : List Pg} (h : Alike L M) : L.length = M.length := by
  have := congrArg List.length h
  simpa using this
theorem Alike.at_ {L M : List Pg} (h : Alike L M) {i : Nat} {p : Pg} (hp : L[i]? = some p) : ∃ q, M[i]? = some q ∧ sk q = sk p := by
  have h1 : (L.map sk)[i]? = some (sk p) := by rw [List.getElem?_map, hp]; rfl
  rw [show L.map sk = M.map sk from h, List.getElem?_map] at h1
  obtain ⟨q, h2, h3⟩ := Option.map_eq_some_iff.1 h1
  exact ⟨q, h2, h3⟩
theorem sk_kind {p q : Pg} (h : sk p = sk q) : p.1 = q.1 ∧ p.2.1 = q.2.1 := by
  unfold sk at h
  by_cases hp : p.1 = 2 <;> by_cases hq : q.1 = 2
  · rw [if_pos hp, if_pos hq] at h
    simp only [Prod.mk.injEq, true_and, and_true] at h
    exact ⟨by omega, h⟩
  · rw [if_pos hp, if_neg hq] at h
    have := congrArg Prod.fst h
    simp only at this
    exact absurd this.symm hq
  · rw [if_neg hp, if_pos hq] at h
    have := congrArg Prod.fst h
    simp only at this
    exact absurd this hp
  · rw [if_neg hp, if_neg hq] at h
    rw [h]
    exact ⟨rfl, rfl⟩
theorem sk_free {p q : Pg} (h : sk p = sk q) (hp : p.1 ≠ 2) : p = q := by
  have h2 := (sk_kind h).1
  unfold sk at h
  rw [if_neg hp, if_neg (by rw [← h2]; exact hp)] at h
  exact h
theorem Alike.fb {L M : List Pg} (h : Alike L M) (a o : Nat) : L[a]? = some (fb o) ↔ M[a]? = some (fb o) := by
  constructor
  · intro hp
    obtain ⟨q, h1, h2⟩ := h.at_ hp
    rw [h1, ← sk_free h2.symm (by simp [Go.Proofs.Ytljcndcmdphmgaa.fb])]
  · intro hp
    obtain ⟨q, h1, h2⟩ := h.symm.at_ hp
    rw [h1, ← sk_free h2.symm (by simp [Go.Proofs.Ytljcndcmdphmgaa.fb])]
theorem Alike.least {L M : List Pg} (h : Alike L M) {q a o : Nat} (hl : LeastIs L q a o) : LeastIs M q a o :=
  ⟨hl.1, hl.2.1, (h.fb _ _).1 hl.2.2.1, fun r h1 h2 b hb => hl.2.2.2.1 r h1 h2 b ((h.fb _ _).2 hb), fun b hb hx => hl.2.2.2.2 b hb ((h.fb _ _).2 hx)⟩
theorem Alike.noneIs {L M : List Pg} (h : Alike L M) {q : Nat} (hl : NoneIs L q) : NoneIs M q := fun r h1 h2 b hb => hl r h1 h2 b ((h.fb _ _).2 hb)
theorem Alike.put {L M : List Pg} (h : Alike L M) (p : Nat) (x : Pg) : Alike (pgPut L p x) (pgPut M p x) := by
  unfold Alike at h ⊢
  unfold pgPut
  simp only [List.map_append, List.map_cons, List.map_take, List.map_drop, h]
theorem Alike.split {L M : List Pg} (a order : Nat) : ∀ (k : Nat) {L M : List Pg}, Alike L M → Alike (bSplit a order k L) (bSplit a order k M)
  | 0, _, _, h => h
  | k + 1, _, _, h => Alike.split (L := L) (M := M) a order k (h.put _ _)
theorem Alike.alloc {L M : List Pg} (h : Alike L M) (a order k : Nat) (c : Int) : Alike (allocL L a order k c) (allocL M a order k c) := (Alike.split (L := L) (M := M) a order k h).put _ _
theorem Alike.join {L M : List Pg} (h : Alike L M) : ∀ (k a o : Nat), bJoin L k a o = bJoin M k a o
  | 0, _, _ => rfl
  | k + 1, a, o => by
    unfold bJoin
    by_cases hc : L[other a o]? = some (Go.Proofs.Ytljcndcmdphmgaa.fb o)
    · rw [if_pos hc, if_pos ((h.fb _ _).1 hc)]
      exact Alike.join h k _ _
    · rw [if_neg hc, if_neg (fun hm => hc ((h.fb _ _).2 hm))]
theorem Alike.free {L M : List Pg} (h : Alike L M) (p o : Nat) : Alike (freeL L p o) (freeL M p o) := by
  unfold freeL
  rw [h.join]
  exact h.put _ _
theorem Alike.freeT {L M : List Pg} (h : Alike L M) (p : Int) : Alike (freeT L p) (freeT M p) := by
  unfold Go.Proofs.Ytljcndcmdphmgaa.freeT
  cases hl : L[p.toNat]? with
  | none =>
    have : M[p.toNat]? = none := by
      rw [List.getElem?_eq_none_iff] at hl ⊢
      rw [← h.len]
      exact hl
    rw [this]
    exact h
  | some x =>
    obtain ⟨⟨k2, o2, c2⟩, hy, hs⟩ := h.at_ hl
    obtain ⟨k, o, c⟩ := x
    rw [hy]
    obtain ⟨h1, h2⟩ := sk_kind hs
    simp only at h1 h2 ⊢
    subst h1
    subst h2
    by_cases hc : 0 ≤ p ∧ k2 = 2
    · rw [if_pos hc, if_pos hc]
      exact h.free _ _
    · rw [if_neg hc, if_neg hc]
      exact h
theorem Alike.frees : ∀ (l : List Int) {L M : List Pg}, Alike L M → Alike (l.foldl Go.Proofs.Ytljcndcmdphmgaa.freeT L) (l.foldl Go.Proofs.Ytljcndcmdphmgaa.freeT M)
  | [], _, _, h => h
  | p :: l, _, _, h => Alike.frees l (h.freeT p)
theorem Alike.setC {L M : List Pg} (h : Alike L M) {p : Nat} {o c0 : Int} (hp : M[p]? = some (2, o, c0)) (c : Int) : Alike L (setC M (p : Int) c) := by
  rw [setC_at hp]
  unfold Alike at h ⊢
  rw [List.map_set, h]
  have h1 : (M.map sk)[p]? = some (sk (2, o, c)) := by rw [List.getElem?_map, hp]; rfl
  obtain ⟨hi, h2⟩ := List.getElem?_eq_some_iff.1 h1
  rw [← h2, List.set_getElem_self]
theorem nobud_alike {L M : List Pg} (h : Alike L M) (hN : NoBud L) : NoBud M := fun a o h1 h2 h3 h4 => hN a o h1 h2 ((h.fb _ _).2 h3) ((h.fb _ _).2 h4)
/-- a cache is set: what is out stays so -/
theorem outPl_swap {o c c' : Int} : ∀ (b1 b2 : List Pg) (i : Nat), outPl i (b1 ++ (2, o, c) :: b2) = outPl i (b1 ++ (2, o, c') :: b2)
  | [], b2, i => by simp [outPl, pgSize]
  | y :: b1, b2, i => by
    simp only [List.cons_append, outPl]
    rw [outPl_swap b1 b2]
theorem setC_tab2 {L bs : List Pg} (hT : Tab L bs) {p : Nat} {o c0 c : Int} (hp : L[p]? = some (2, o, c0)) (h0 : 0 ≤ c) (h8 : c ≤ 8) : ∃ bs', Tab (setC L (p : Int) c) bs' ∧ outPl 0 bs' = outPl 0 bs ∧ freeSum bs' = freeSum bs := by
  rw [setC_at hp]
  obtain ⟨b1, b2, rfl, rfl⟩ := tab_block hT hp (by simp)
  have hr := ((row_append b1 _ 0).1 hT.2).2.1
  have ho := pgHead_order hr
  simp only at ho
  refine ⟨b1 ++ (2, o, c) :: b2, ⟨?_, row_swap (x := (2, o, c0)) (y := (2, o, c)) rfl (by unfold pgHead; exact decide_eq_true ⟨ho.1, ho.2, .inr ⟨rfl, h0, h8⟩⟩) b1 0 hT.2⟩, outPl_swap _ _ _, ?_⟩
  · conv => lhs; rw [hT.1]
    rw [lay_append, lay_append, List.set_append_right _ _ (Nat.le_refl _), Nat.sub_self]
    rfl
  · rw [freeSum_append, freeSum_append, freeSum, freeSum]
    simp
theorem setC_get {L : List Pg} {p q : Nat} (c : Int) (hne : q ≠ p) : (setC L (p : Int) c)[q]? = L[q]? := by
  unfold setC
  split
  · rw [Int.toNat_natCast, List.getElem?_set_ne (Ne.symm hne)]
  · rfl
theorem cinv_setC {L : List Pg} {all : List (Int × Int)} {N : Nat} (h : CInv L all N) {p : Nat} {o c0 c : Int} (hp : L[p]? = some (2, o, c0)) (h0 : 0 ≤ c) (h8 : c ≤ 8) : CInv (setC L (p : Int) c) all N := by
  obtain ⟨bs, hT, hN, hperm⟩ := h.b
  obtain ⟨bs', hT', ho, hf⟩ := setC_tab2 hT hp h0 h8
  have hal : Alike L (setC L (p : Int) c) := Alike.setC rfl hp c
  have hlen : (setC L (p : Int) c).length = N := by rw [setC_len]; exact h.len
  refine ⟨⟨bs', hT', ?_, by rw [ho]; exact hperm⟩, fun x hx => ?_, hlen, h.n1, h.n2, ?_⟩
  · exact nobud_alike hal hN
  · obtain ⟨g1, g2, d, hd⟩ := h.at_ x hx
    refine ⟨g1, g2, ?_⟩
    by_cases he : x.1.toNat = p
    · rw [he] at hd ⊢
      rw [hp] at hd
      simp only [Option.some.injEq, Prod.mk.injEq, true_and] at hd
      refine ⟨c, ?_⟩
      rw [setC_at hp, List.getElem?_set_self (List.getElem?_eq_some_iff.1 hp).1, hd.1]
    · exact ⟨d, by rw [setC_get c he]; exact hd⟩
  · have f1 := pgFree_tab hT (by rw [h.len]; exact h.n1) (by rw [h.len]; exact h.n2)
    have f2 := pgFree_tab hT' (by rw [hlen]; exact h.n1) (by rw [hlen]; exact h.n2)
    rw [f2, hf, ← f1]
    exact h.sum
end Go.Proofs.Ytljcndcmdphmgaa
