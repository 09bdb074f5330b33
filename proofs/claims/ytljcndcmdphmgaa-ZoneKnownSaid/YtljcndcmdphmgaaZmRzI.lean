import Derived.Test.YtljcndcmdphmgaaZmRzH
/-
  The zone and the reference's, in plain Lean: Free of both. No condition.
-/
namespace Go.Proofs.Ytljcndcmdphmgaa
open Go.RowKit
section
variable {L M L' M' : List Pg} {X X' Y' : List (List Int)} {f f' : Int → Option Int} {out out' : List (Int × Int)} {N : Nat}
theorem ztagIs_one {bs : List Pg} {k : Int} {t t' : Option (Int × Int × Int)} (hT : Tab L bs) (ht : ZTagIs L X f k t) (ht' : ZTagIs L X f k t') : t = t' := by
  rcases ht with ⟨hp, rfl⟩ | ⟨p, a, x, rfl, h1, h2, h3⟩ <;> rcases ht' with ⟨hp', rfl⟩ | ⟨p', a', x', hk, g1, g2, g3⟩
  · rfl
  · omega
  · omega
  · obtain rfl : p = p' := by omega
    obtain ⟨rfl, rfl⟩ := blkOf_one hT h2 g2
    rcases h3 with ⟨h3, rfl⟩ | ⟨h3, h4, rfl⟩ <;> rcases g3 with ⟨g3, rfl⟩ | ⟨g3, g4, rfl⟩
    · rfl
    · rcases h3 with h3 | h3
      · exact absurd g3 h3
      · rw [h3] at g4; cases g4
    · rcases g3 with g3 | g3
      · exact absurd h3 g3
      · rw [g3] at h4; cases h4
    · rfl
theorem ztag_head {page o c : Int} (h0 : 0 ≤ page) (hp : L[page.toNat]? = some (2, o, c)) (hx : xHas X page = false) : ZTagIs L X f page (some (page, o, (f page).getD c)) := by
  obtain ⟨p, rfl⟩ : ∃ p : Nat, page = p := ⟨page.toNat, by omega⟩
  rw [Int.toNat_natCast] at hp
  exact .inr ⟨p, p, (2, o, c), rfl, (List.getElem?_eq_some_iff.1 hp).1, ⟨hp, by simp, Nat.le_refl _, by have := pgSize_pos ((2 : Int), o, c); omega⟩, .inr ⟨rfl, hx, rfl⟩⟩
theorem zj_out {page : Int} (h : ZJ L M X f out N) (hq : qOut M X page = true) : ∃ o c c', M[page.toNat]? = some (2, o, c) ∧ L[page.toNat]? = some (2, o, c') ∧ 0 ≤ page ∧ xHas X page = false ∧ ZTagIs L X f page (some (page, o, (f page).getD c')) := by
  obtain ⟨h0, hx, o, c, hp⟩ := qOut_yes hq
  obtain ⟨⟨k', o', c'⟩, h1, h2⟩ := h.alike.symm.at_ hp
  obtain ⟨h3, h4⟩ := sk_kind h2
  simp only at h3 h4
  subst h3
  subst h4
  exact ⟨o', c, c', hp, h1, h0, hx, ztag_head h0 h1 hx⟩
theorem zj_out_of {page o c : Int} (h : ZJ L M X f out N) (ht : ZTagIs L X f page (some (page, o, c))) : qOut M X page = true ∧ ∃ c', M[page.toNat]? = some (2, o, c') := by
  obtain ⟨h0, -, hx, c', hp, -⟩ := ztag_some ht
  obtain ⟨⟨k', o', c''⟩, h1, h2⟩ := h.alike.at_ hp
  obtain ⟨h3, h4⟩ := sk_kind h2
  simp only at h3 h4
  subst h3
  subst h4
  refine ⟨?_, c'', h1⟩
  unfold qOut
  rw [h1, hx]
  simp [h0]
theorem fdel_ne {p q : Int} (h : q ≠ p) : fDel f p q = f q := by simp [fDel, h]
theorem zj_shrink {page o : Int} (h : ZJ L M X f out N) (hp : out.Perm ((page, o) :: out')) (ha : ZInv L' X' f' out' N) (hb : ZInv M' X' (fun _ => none) out' N) (hal : Alike L' M')
    (k1 : ∀ x ∈ out', L'[x.1.toNat]? = L[x.1.toNat]?) (k2 : ∀ x ∈ out', x.1 ≠ page → M'[x.1.toNat]? = M[x.1.toNat]?) (hf : ∀ q, q ≠ page → f' q = f q) : ZJ L' M' X' f' out' N := by
  refine ⟨ha, hb, hal, fun x hx c cr hc hcr => ?_⟩
  have hnd := (hp.map (·.1)).nodup_iff.1 (zout_nodup h.a)
  simp only [List.map_cons, List.nodup_cons] at hnd
  have hne : x.1 ≠ page := fun he => hnd.1 (he ▸ List.mem_map_of_mem (f := (·.1)) hx)
  rw [k1 x hx] at hc
  rw [k2 x hx hne] at hcr
  rw [hf _ hne]
  exact h.same x (hp.mem_iff.2 (List.mem_cons_of_mem _ hx)) c cr hc hcr
theorem zj_free {cpu page e e2 : Int} (h : ZJ L M X f out N) (hz : ZFreeIs L X f cpu page e L' X' f') (hq : QFreeIs M X cpu page e2 M' Y') :
    e = e2 ∧ Y' = X' ∧ X'.length = X.length ∧ ∃ out', ZJ L' M' X' f' out' N := by
  obtain ⟨bs, hT⟩ := bInv_tab h.a.c.b
  have hz2 := hz
  rcases hz with ⟨h9, rfl, rfl, rfl, rfl⟩ | ⟨h9, ⟨t, ht, hne⟩, rfl, rfl, rfl, rfl⟩ | ⟨h9, o, c, ht, ho, hB, rfl, rfl⟩ | ⟨h9, o, c, ht, ho, rfl, hL', hX', hf'⟩
  · rcases hq with ⟨-, rfl, rfl, rfl⟩ | ⟨g9, -⟩ | ⟨g9, -⟩ | ⟨g9, -⟩
    · exact ⟨rfl, rfl, rfl, out, h⟩
    · omega
    · omega
    · omega
  · have hno : qOut M X' page ≠ true := fun hq => by
      obtain ⟨o, c, c', -, -, -, -, ht'⟩ := zj_out h hq
      exact hne page o _ (ztagIs_one hT ht ht') rfl
    rcases hq with ⟨g9, -⟩ | ⟨-, -, rfl, rfl, rfl⟩ | ⟨-, g, -⟩ | ⟨-, g, -⟩
    · omega
    · exact ⟨rfl, rfl, rfl, out, h⟩
    · exact absurd g hno
    · exact absurd g hno
  · obtain ⟨hyes, c2, hM⟩ := zj_out_of h ht
    obtain ⟨h0, -, hx, -⟩ := ztag_some ht
    rcases hq with ⟨g9, -⟩ | ⟨-, g, -⟩ | ⟨-, -, o', c', hM', ho', hB', rfl⟩ | ⟨-, -, o', c', hM', ho', -⟩
    · omega
    · rw [hyes] at g; cases g
    · rw [hM] at hM'
      cases hM'
      obtain ⟨out', hp⟩ : ∃ out', out.Perm ((page, o) :: out') := ⟨_, List.perm_cons_erase (zinv_told h.a ht).1⟩
      have hzr : ZFreeIs M Y' (fun _ => none) cpu page e2 M' Y' (fun _ => none) := .inr (.inr (.inl ⟨h9, o, _, ztag_head h0 hM hx, ho, hB', rfl, rfl⟩))
      obtain ⟨rfl, -, ga⟩ := zinv_free h.a hp h9 hz2
      obtain ⟨rfl, -, gb⟩ := zinv_free h.b hp h9 hzr
      refine ⟨rfl, rfl, rfl, out', zj_shrink h hp ga gb ?_ (zfree_keep h.a hp h9 hz2) (fun x hx _ => zfree_keep h.b hp h9 hzr x hx) (fun _ _ => rfl)⟩
      rw [bfreeIs_T hB, bfreeIs_T hB']
      exact h.alike.freeT page
    · rw [hM] at hM'
      cases hM'
      omega
  · obtain ⟨hyes, c2, hM⟩ := zj_out_of h ht
    obtain ⟨h0, -, hx, -⟩ := ztag_some ht
    rcases hq with ⟨g9, -⟩ | ⟨-, g, -⟩ | ⟨-, -, o', c', hM', ho', -⟩ | ⟨-, -, o', c', hM', ho', rfl, hM2, rfl⟩
    · omega
    · rw [hyes] at g; cases g
    · rw [hM] at hM'
      cases hM'
      omega
    · rw [hM] at hM'
      cases hM'
      obtain ⟨p, rfl⟩ : ∃ p : Nat, page = p := ⟨page.toNat, by omega⟩
      rw [Int.toNat_natCast] at hM
      obtain ⟨out', hp⟩ : ∃ out', out.Perm (((p : Int), o) :: out') := ⟨_, List.perm_cons_erase (zinv_told h.a ht).1⟩
      have hM1 : (setC M (p : Int) 0)[p]? = some (2, o, 0) := by rw [setC_at hM, List.getElem?_set_self (List.getElem?_eq_some_iff.1 hM).1]
      have hb1 := zinv_setC h.b hM (c := 0) (by omega) (by omega)
      have hzr : ZFreeIs (setC M (p : Int) 0) X (fun _ => none) cpu p 0 M' (nPut X 6 cpu (p : Int)).2 (fDel (fun _ => none) p) := .inr (.inr (.inr ⟨h9, o, _, ztag_head h0 (by rw [Int.toNat_natCast]; exact hM1) hx, ho, rfl, hM2, rfl, rfl⟩))
      obtain ⟨-, hl, ga⟩ := zinv_free h.a hp h9 hz2
      obtain ⟨-, -, gb⟩ := zinv_free hb1 hp h9 hzr
      have k2 := zfree_keep hb1 hp h9 hzr
      subst hX'
      refine ⟨rfl, rfl, hl, out', zj_shrink h hp ga gb.none ?_ (zfree_keep h.a hp h9 hz2) (fun x hx hne => ?_) (fun q hq => by rw [hf', fdel_ne hq])⟩
      · rw [hL', hM2]
        exact (h.alike.setC hM 0).frees _
      · rw [k2 x hx]
        obtain ⟨x0, -⟩ := h.a.c.at_ x (List.mem_append_left _ (hp.mem_iff.2 (List.mem_cons_of_mem _ hx)))
        exact setC_get 0 (by omega)
end
end Go.Proofs.Ytljcndcmdphmgaa
