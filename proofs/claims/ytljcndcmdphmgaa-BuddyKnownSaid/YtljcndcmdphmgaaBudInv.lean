/-
  The invariant of buddies that are played: plain Lean.
-/
import Derived.Test.YtljcndcmdphmgaaBudAt
namespace Go.Proofs.Ytljcndcmdphmgaa
open Go.RowKit
def castL (l : List Nat) : List Int := l.map fun n => ((n : Nat) : Int)
/-- a table that may be, without two free buddies; what is out is what is listed -/
def BInv (L : List Pg) (out : List Int) : Prop := ∃ bs, Tab L bs ∧ NoBud L ∧ out.Perm (castL (outPl 0 bs))
theorem castL_append (a b : List Nat) : castL (a ++ b) = castL a ++ castL b := by simp [castL]
theorem castL_inj : ∀ {a b : List Nat}, castL a = castL b → a = b
  | [], [], _ => rfl
  | [], y :: b, h => by simp [castL] at h
  | x :: a, [], h => by simp [castL] at h
  | x :: a, y :: b, h => by
    simp only [castL, List.map_cons, List.cons.injEq] at h
    have h1 : x = y := by have := h.1; omega
    rw [h1, castL_inj (a := a) (b := b) h.2]
theorem outPl_fb (i o : Nat) (bs : List Pg) : outPl i (fb o :: bs) = outPl (i + 2 ^ o) bs := by
  rw [outPl, fb_size]
  simp [fb]
theorem binv_fresh (n : Nat) : BInv (freshL n) [] := ⟨_, fresh_tab n, fresh_nobud n, by rw [fresh_out]; exact List.Perm.refl _⟩
theorem bInv_tab {L : List Pg} {out : List Int} (h : BInv L out) : ∃ bs, Tab L bs := by
  obtain ⟨bs, h, -⟩ := h
  exact ⟨bs, h⟩
theorem binv_alloc {L : List Pg} {out : List Int} (h : BInv L out) {order a k : Nat} {c : Int} (hl : LeastIs L order a (order + k)) (hc : 0 ≤ c ∧ c ≤ 8) :
    BInv (allocL L a order k c) (out ++ [(a : Int)]) ∧ (allocL L a order k c).length = L.length ∧
      ∀ bs, Tab L bs → ∃ bs', Tab (allocL L a order k c) bs' ∧ freeSum bs' + 2 ^ order = freeSum bs := by
  obtain ⟨bs, hT, hN, hp⟩ := h
  obtain ⟨b1, b2, rfl, hb⟩ := tab_block hT hl.2.2.1 (fb_kind _)
  have hk := hl.2.1
  obtain ⟨hT', hal, hle⟩ := alloc_tab hT hk hc
  have hN' := nobud_alloc hN hT hk hc
  rw [hb] at hT' hN' hal hle
  have hsz : pgSize ((2 : Int), (order : Int), c) = 2 ^ order := by simp [pgSize]
  have hrl := rests_len order k
  have hlen : (allocL L a order k c).length = L.length := by
    have h1 := tab_len hT'
    have h2 := tab_len hT
    rw [lay_append, List.length_append, lay_cons_len, lay_append, List.length_append, hsz] at h1
    rw [lay_append, List.length_append, lay_cons_len, fb_size] at h2
    unfold allocL
    omega
  refine ⟨⟨_, hT', hN', ?_⟩, hlen, fun bs hbs => ⟨_, hT', ?_⟩⟩
  · rw [outPl_append] at hp ⊢
    rw [Nat.zero_add, hb] at hp ⊢
    have e1 : outPl a (fb (order + k) :: b2) = outPl (a + 2 ^ (order + k)) b2 := by
      rw [outPl, fb_size]
      simp [fb]
    have e2 : outPl a ((2, (order : Int), c) :: (rests order k ++ b2)) = [a] ++ outPl (a + 2 ^ (order + k)) b2 := by
      rw [outPl, hsz, outPl_append, rests_out, List.nil_append, show a + 2 ^ order + (lay (rests order k)).length = a + 2 ^ (order + k) from by omega]
      simp
    rw [e1, castL_append] at hp
    rw [e2, castL_append, castL_append]
    refine (hp.append_right [(a : Int)]).trans ?_
    rw [List.append_assoc]
    exact List.Perm.append_left _ List.perm_append_comm
  · have h1 : freeSum bs = freeSum (b1 ++ fb (order + k) :: b2) := by
      have := tab_from hbs
      rw [tab_from hT] at this
      have e1 := freeSum_places bs 0
      rw [← this, freeSum_places] at e1
      exact e1.symm
    have hrf := rests_free order k
    rw [h1, freeSum_append, freeSum_append, freeSum, freeSum, freeSum_append, fb_size, hsz]
    simp only [fb]
    simp
    omega
theorem outPl_mem : ∀ (bs : List Pg) (i x : Nat), x ∈ outPl i bs → ∃ b1 q b2, bs = b1 ++ q :: b2 ∧ q.1 = 2 ∧ x = i + (lay b1).length
  | [], i, x, h => by simp [outPl] at h
  | p :: bs, i, x, h => by
    rw [outPl, List.mem_append] at h
    rcases h with h | h
    · split at h
      · rename_i hp
        exact ⟨[], p, bs, rfl, hp, by simp at h; simp [lay, h]⟩
      · simp at h
    · obtain ⟨b1, q, b2, rfl, hq, hx⟩ := outPl_mem bs _ x h
      exact ⟨p :: b1, q, b2, rfl, hq, by rw [lay_cons_len]; omega⟩
theorem binv_out {L : List Pg} {out : List Int} (h : BInv L out) {x : Int} (hx : x ∈ out) : ∃ (p o : Nat) (c : Int), x = p ∧ L[p]? = some (2, (o : Int), c) := by
  obtain ⟨bs, hT, hN, hp⟩ := h
  have := hp.mem_iff.1 hx
  obtain ⟨p, hpm, rfl⟩ := List.mem_map.1 this
  obtain ⟨b1, q, b2, rfl, hq, hpe⟩ := outPl_mem bs 0 p hpm
  have hr := (row_append b1 _ 0).1 hT.2
  have ho := pgHead_order hr.2.1
  have hat := tab_at hT
  rw [Nat.zero_add] at hpe
  refine ⟨p, q.2.1.toNat, q.2.2, rfl, ?_⟩
  rw [hpe, hat]
  obtain ⟨q0, q1, q2⟩ := q
  simp only at hq ho ⊢
  rw [hq, Int.toNat_of_nonneg ho.1]
theorem binv_free {L : List Pg} {out out' : List Int} (h : BInv L out) {p o : Nat} {c : Int} (hp : L[p]? = some (2, (o : Int), c)) (hperm : out.Perm ((p : Int) :: out')) :
    BInv (freeL L p o) out' ∧ (freeL L p o).length = L.length ∧ ∀ bs, Tab L bs → ∃ bs', Tab (freeL L p o) bs' ∧ freeSum bs' = freeSum bs + 2 ^ o := by
  obtain ⟨bs, hT, hN, hpm⟩ := h
  obtain ⟨b1, b2, rfl, hb⟩ := tab_block hT hp (by simp)
  have hr := (row_append b1 _ 0).1 hT.2
  rw [Nat.zero_add, hb] at hr
  have hsz : pgSize ((2 : Int), (o : Int), c) = 2 ^ o := by simp [pgSize]
  have ho := pgHead_order hr.2.1
  simp only at ho
  have hal := hr.2.2.1
  rw [hsz] at hal
  obtain ⟨b1', c1', c2', hT1, e1, e2, e3, e4, e5, e6, e7⟩ := join_tab (page := p) (o0 := o) (10 - o) p o b1 [(2, (o : Int), c)] b2 (by omega) (by simpa using hT) hb (by rw [lay_one_len, hsz]) hal (by simp [freeSum]) (by simp [outPl])
  have hll := tab_len hT1
  rw [lay_append, lay_append, List.length_append, List.length_append, e1, e2] at hll
  have hT2 := put_tab (x := fb (bJoin L (10 - o) p o).2) hT1 (by rw [e2, fb_size]) (fb_head e4) (by rw [e1, fb_size]; exact e3)
  rw [e1] at hT2
  have hN2 := nobud_free hN (by omega) e3 e7
  refine ⟨⟨_, hT2, hN2, ?_⟩, pgPut_len (by rw [fb_size]; omega), fun bs hbs => ⟨_, hT2, ?_⟩⟩
  · have ho1 : outPl 0 (b1 ++ (2, (o : Int), c) :: b2) = outPl 0 (b1' ++ (c1' ++ c2')) := by
      have hh := tab_from hT
      rw [tab_from hT1] at hh
      have key : ∀ (bs : List Pg) (i : Nat), castL (outPl i bs) = ((places i bs).filter fun y => decide (y.2.1 = 2)).map (·.1) := by
        intro bs
        induction bs with
        | nil => intro i; rfl
        | cons q bs ih =>
          intro i
          rw [outPl, castL_append, ih, places]
          by_cases hq : q.1 = 2 <;> simp [hq, castL]
      have h1 := key (b1 ++ (2, (o : Int), c) :: b2) 0
      have h2 := key (b1' ++ (c1' ++ c2')) 0
      rw [← hh, ← h2] at h1
      exact castL_inj h1
    rw [ho1, outPl_append, outPl_append, Nat.zero_add, e1, e6, e2] at hpm
    have h3 := hperm.symm.trans hpm
    rw [castL_append, castL_append] at h3
    rw [outPl_append, Nat.zero_add, e1, outPl_fb, castL_append]
    have h4 : ((p : Int) :: out').Perm ((p : Int) :: (castL (outPl 0 b1') ++ castL (outPl ((bJoin L (10 - o) p o).1 + 2 ^ (bJoin L (10 - o) p o).2) c2'))) := by
      refine h3.trans ?_
      simp only [castL, List.map_cons, List.map_nil, List.singleton_append]
      exact List.perm_middle
    exact List.Perm.cons_inv h4
  · have h1 : freeSum bs = freeSum (b1' ++ (c1' ++ c2')) := by
      have := tab_from hbs
      rw [tab_from hT1] at this
      have e1 := freeSum_places bs 0
      rw [← this, freeSum_places] at e1
      exact e1.symm
    rw [h1, freeSum_append, freeSum_append, freeSum_append, freeSum, fb_size]
    simp only [fb]
    simp
    omega
end Go.Proofs.Ytljcndcmdphmgaa
