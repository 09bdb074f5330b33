import Derived.Test.YtljcndcmdphmgaaZmRzG
/-
  The zone and the reference's, in plain Lean: Alloc, Free and Whole of both. No condition.
-/
namespace Go.Proofs.Ytljcndcmdphmgaa
open Go.RowKit
section
variable {L M L' M' : List Pg} {X X' Y' : List (List Int)} {f f' : Int → Option Int} {out out' : List (Int × Int)} {N : Nat}
theorem fput_ne {p q c : Int} (h : q ≠ p) : fPut f p c q = f q := by simp [fPut, h]
theorem allocIs_new {all : List (Int × Int)} {order c p e : Int} (hc : CInv L all N) (hA : AllocIs L order c p e L') (he : e = 0) : L'[p.toNat]? = some (2, order, c) := by
  rcases hA with ⟨-, -, h, -⟩ | ⟨-, -, -, h, -⟩ | ⟨hok, a, k, hl, rfl, -, rfl⟩
  · omega
  · omega
  · obtain ⟨oo, rfl⟩ : ∃ oo : Nat, order = oo := ⟨order.toNat, by have := hok.1; omega⟩
    rw [Int.toNat_natCast] at hl ⊢
    rw [Int.toNat_natCast]
    exact (c_alloc hc hl (c := c) ⟨hok.2.2.1, hok.2.2.2⟩).2.2.1
theorem zj_grow {p order cache : Int} (h : ZJ L M X f out N) (ha : ZInv L' X' f' (out ++ [(p, order)]) N) (hb : ZInv M' X' (fun _ => none) (out ++ [(p, order)]) N) (hal : Alike L' M')
    (k1 : ∀ x ∈ out, L'[x.1.toNat]? = L[x.1.toNat]?) (k2 : ∀ x ∈ out, x.1 ≠ p → M'[x.1.toNat]? = M[x.1.toNat]?) (hf : ∀ q, q ≠ p → f' q = f q)
    (h1 : ∃ c, L'[p.toNat]? = some (2, order, c) ∧ (f' p).getD c = cache) (h2 : M'[p.toNat]? = some (2, order, cache)) : ZJ L' M' X' f' (out ++ [(p, order)]) N := by
  refine ⟨ha, hb, hal, fun x hx c cr hc hcr => ?_⟩
  have hnd := zout_nodup ha
  rw [List.map_append, List.nodup_append] at hnd
  rcases List.mem_append.1 hx with hx | hx
  · have hne : x.1 ≠ p := hnd.2.2 x.1 (List.mem_map_of_mem (f := (·.1)) hx) p (by simp)
    rw [k1 x hx] at hc
    rw [k2 x hx hne] at hcr
    rw [hf _ hne]
    exact h.same x hx c cr hc hcr
  · rw [List.mem_singleton] at hx
    subst hx
    simp only at hc hcr ⊢
    obtain ⟨c', g1, g2⟩ := h1
    rw [g1] at hc
    rw [h2] at hcr
    cases hc
    cases hcr
    exact g2
theorem zj_stay (h : ZJ L M X f out N) (ha : ZInv L' X' f out N) (hb : ZInv M' X' (fun _ => none) out N) (hal : Alike L' M')
    (k1 : ∀ x ∈ out, L'[x.1.toNat]? = L[x.1.toNat]?) (k2 : ∀ x ∈ out, M'[x.1.toNat]? = M[x.1.toNat]?) : ZJ L' M' X' f out N :=
  ⟨ha, hb, hal, fun x hx c cr hc hcr => by
    rw [k1 x hx] at hc
    rw [k2 x hx] at hcr
    exact h.same x hx c cr hc hcr⟩
theorem zj_alloc {cpu order cache p e q e2 : Int} (h : ZJ L M X f out N) (hz : ZAllocIs L X f cpu order cache p e L' X' f') (hq : QAllocIs M X cpu order cache q e2 M' Y') :
    p = q ∧ e = e2 ∧ Y' = X' ∧ X'.length = X.length ∧ ∃ out', ZJ L' M' X' f' out' N := by
  have k1 := zalloc_keep h.a hz
  have hz2 := hz
  rcases hz with ⟨h9, rfl, rfl, rfl, rfl, rfl⟩ | ⟨h9, hno, rfl, rfl, rfl, rfl, rfl⟩ | ⟨h9, hok, rfl, ht, rfl, rfl, hf⟩ | ⟨h9, hok, hnt, hway, hf⟩
  · rcases hq with ⟨-, rfl, rfl, rfl, rfl⟩ | ⟨g9, -⟩ | ⟨g9, -⟩ | ⟨g9, -⟩
    · exact ⟨rfl, rfl, rfl, rfl, out, h⟩
    · omega
    · omega
    · omega
  · rcases hq with ⟨g9, -⟩ | ⟨-, -, rfl, rfl, rfl, rfl⟩ | ⟨-, gok, -⟩ | ⟨-, gok, -⟩
    · omega
    · exact ⟨rfl, rfl, rfl, rfl, out, h⟩
    · exact absurd gok hno
    · exact absurd gok hno
  · rcases hq with ⟨g9, -⟩ | ⟨-, gno, -⟩ | ⟨-, -, -, gt, rfl, rfl⟩ | ⟨-, -, gnt, -⟩
    · omega
    · exact absurd hok gno
    · rw [ht] at gt
      simp only [Prod.mk.injEq, and_true] at gt
      obtain ⟨rfl, rfl⟩ := gt
      have hzr : ZAllocIs M X (fun _ => none) cpu 0 cache p 0 M X' (fPut (fun _ => none) p cache) := .inr (.inr (.inl ⟨h9, hok, rfl, ht, rfl, rfl, rfl⟩))
      obtain ⟨hl, ⟨-, ga, -, gc⟩ | ⟨h7, -⟩⟩ := zinv_alloc h.a h9 hok hz2
      · obtain ⟨-, ⟨-, gb, -, cb, gcb, -⟩ | ⟨h7, -⟩⟩ := zinv_alloc h.b h9 hok hzr
        · obtain ⟨p0, -, -⟩ := gb.c.at_ (p, 0) (by simp)
          simp only at p0
          obtain ⟨pp, rfl⟩ : ∃ pp : Nat, p = pp := ⟨p.toNat, by omega⟩
          rw [Int.toNat_natCast] at gcb
          refine ⟨rfl, rfl, rfl, hl, _, zj_grow (cache := cache) h ga (zinv_setC gb.none gcb hok.2.2.1 hok.2.2.2) (h.alike.setC gcb cache) k1 (fun x hx hne => ?_) (fun q hq => by rw [hf, fput_ne hq]) gc ?_⟩
          · obtain ⟨x0, -⟩ := h.a.c.at_ x (List.mem_append_left _ hx)
            exact setC_get cache (by omega)
          · rw [setC_at gcb, Int.toNat_natCast, List.getElem?_set_self (List.getElem?_eq_some_iff.1 gcb).1]
        · omega
      · omega
    · rw [gnt rfl] at ht
      cases ht
  · rcases hq with ⟨g9, -⟩ | ⟨-, gno, -⟩ | ⟨-, -, ho, gt, -⟩ | ⟨-, -, -, gway⟩
    · omega
    · exact absurd hok gno
    · rw [hnt ho] at gt
      cases gt
    · have key : p = q ∧ e = e2 ∧ Y' = X' ∧ Alike L' M' ∧ (e = 0 → M'[p.toNat]? = some (2, order, cache)) := by
        rcases hway with ⟨e1, hA, hns, rfl, rfl⟩ | ⟨p1, L1, hA1, hs, hA, rfl⟩
        · rcases gway with ⟨e1', hB, -, rfl, rfl⟩ | ⟨p1', M1, hB1, gs, -⟩
          · obtain ⟨rfl, rfl, h3⟩ := alike_alloc h.alike hA hB
            exact ⟨rfl, rfl, rfl, h3, fun he => allocIs_new h.b.c hB he⟩
          · obtain ⟨-, rfl, -⟩ := alike_alloc h.alike hA hB1
            exact absurd ⟨rfl, gs⟩ hns
        · rcases gway with ⟨e1', hB, gns, rfl, rfl⟩ | ⟨p1', M1, hB1, gs, hB, rfl⟩
          · obtain ⟨-, h7, -⟩ := alike_alloc h.alike hA1 hB
            exact absurd ⟨h7.symm, hs⟩ gns
          · obtain ⟨rfl, rfl, h3⟩ := alike_alloc (h.alike.frees X.flatten) hA hB
            obtain ⟨q1, -, -⟩ := c_frees X.flatten h.b.c (rest := out) (by unfold nearL; exact List.perm_append_comm)
            exact ⟨rfl, rfl, rfl, h3, fun he => allocIs_new q1 hB he⟩
      obtain ⟨rfl, rfl, rfl, hal, hnew⟩ := key
      have hzr : ZAllocIs M X (fun _ => none) cpu order cache p e M' Y' (if e = 0 ∧ order = 0 then fPut (fun _ => none) p cache else fun _ => none) := .inr (.inr (.inr ⟨h9, hok, hnt, gway, rfl⟩))
      have k2 := zalloc_keep h.b hzr
      obtain ⟨hl, hca⟩ := zinv_alloc h.a h9 hok hz2
      obtain ⟨-, hcb⟩ := zinv_alloc h.b h9 hok hzr
      rcases hca with ⟨rfl, ga, -, gc⟩ | ⟨rfl, -, ga, -⟩
      · rcases hcb with ⟨-, gb, -⟩ | ⟨h7, -⟩
        · refine ⟨rfl, rfl, rfl, hl, _, zj_grow (cache := cache) h ga gb.none hal k1 (fun x hx _ => k2 x hx) (fun q hq => ?_) gc (hnew rfl)⟩
          rw [hf]
          split
          · exact fput_ne hq
          · rfl
        · omega
      · rcases hcb with ⟨h0, -⟩ | ⟨-, -, gb, -⟩
        · omega
        · rw [if_neg (by omega)] at hf
          subst hf
          exact ⟨rfl, rfl, rfl, hl, _, zj_stay h ga gb.none hal k1 k2⟩
theorem zj_whole (h : ZJ L M X f out N) : decide (L = freshL L.length) = decide (M = freshL M.length) := by
  have hz : ∀ {K : List Pg} {g : Int → Option Int}, ZInv K X g out N → (K = freshL K.length ↔ out ++ nearL X = []) := by
    intro K g hk
    constructor
    · intro he
      have hb := hk.c.b
      obtain ⟨bs, hT, -, hp⟩ := hb
      have hT2 := hT
      rw [he] at hT2
      have ho : outPl 0 bs = [] := by
        have hpl : ∀ (bs : List Pg) (i : Nat), castL (outPl i bs) = ((places i bs).filter fun y => decide (y.2.1 = 2)).map (·.1) := by
          intro bs
          induction bs with
          | nil => intro i; rfl
          | cons q bs ih =>
            intro i
            rw [outPl, castL_append, ih, places]
            by_cases hq : q.1 = 2 <;> simp [hq, castL]
        apply castL_inj
        rw [hpl, ← tab_from hT2, tab_from (fresh_tab _), ← hpl, fresh_out]
      rw [ho] at hp
      have := hp.length_eq
      simp only [castL, List.map_nil, List.length_nil, List.length_map] at this
      exact List.eq_nil_of_length_eq_zero this
    · intro he
      have hb := hk.c.b
      rw [he] at hb
      obtain ⟨bs, hT, hN, hp⟩ := hb
      have : castL (outPl 0 bs) = [] := by simpa using hp.symm.eq_nil
      have h0 : outPl 0 bs = [] := by
        cases h : outPl 0 bs with
        | nil => rfl
        | cons a b => rw [h] at this; simp [castL] at this
      exact whole_fresh hT (outPl_kind bs 0 hT.2 h0) hN
  by_cases he : out ++ nearL X = []
  · rw [decide_eq_true ((hz h.a).2 he), decide_eq_true ((hz h.b).2 he)]
  · rw [decide_eq_false (fun hh => he ((hz h.a).1 hh)), decide_eq_false (fun hh => he ((hz h.b).1 hh))]
end
end Go.Proofs.Ytljcndcmdphmgaa
