import Derived.Test.YtljcndcmdphmgaaZmRzF
import Derived.Test.YtljcndcmdphmgaaZm11
/-
  The zone and the reference's, in plain Lean: the joint invariant; what both answer. No condition.
-/
namespace Go.Proofs.Ytljcndcmdphmgaa
open Go.RowKit
section
variable {L L' : List Pg} {X X' : List (List Int)} {f f' : Int → Option Int} {out out' : List (Int × Int)} {N : Nat}
theorem zalloc_keep {cpu order cache p e : Int} (h : ZInv L X f out N) (hz : ZAllocIs L X f cpu order cache p e L' X' f') : ∀ x ∈ out, L'[x.1.toNat]? = L[x.1.toNat]? := by
  have key : ∀ {L1 L2 : List Pg} {all : List (Int × Int)} {e1 : Int}, CInv L1 all N → AllocIs L1 order cache p e1 L2 → ∀ x ∈ all, L2[x.1.toNat]? = L1[x.1.toNat]? := by
    intro L1 L2 all e1 hc hA x hx
    rcases hA with ⟨-, -, -, rfl⟩ | ⟨-, -, -, -, rfl⟩ | ⟨hok, a, k, hl, -, -, rfl⟩
    · rfl
    · rfl
    · obtain ⟨oo, rfl⟩ : ∃ oo : Nat, order = oo := ⟨order.toNat, by have := hok.1; omega⟩
      rw [Int.toNat_natCast] at hl ⊢
      exact (c_alloc hc hl (c := cache) ⟨hok.2.2.1, hok.2.2.2⟩).2.2.2 x hx
  intro x hx
  rcases hz with ⟨-, -, -, rfl, -⟩ | ⟨-, -, -, -, rfl, -⟩ | ⟨-, -, -, -, -, rfl, -⟩ | ⟨-, -, -, ⟨e1, hA, -, -, -⟩ | ⟨p1, L1, -, -, hA, -⟩, -⟩
  · rfl
  · rfl
  · rfl
  · exact key h.c hA x (List.mem_append_left _ hx)
  · obtain ⟨q1, -, q3⟩ := c_frees X.flatten h.c (rest := out) (by unfold nearL; exact List.perm_append_comm)
    rw [key q1 hA x hx]
    exact q3 x hx
theorem put_perm {cpu p o : Int} {xs : List Int} (hp : out.Perm ((p, o) :: out')) (ho : o = 0) (hxi : X[cpu.toNat]? = some xs) (K : Nat) :
    (out ++ nearL X).Perm (((xs ++ [p]).take K).map (fun p => (p, (0 : Int))) ++ (out' ++ nearL (X.set cpu.toNat ((xs ++ [p]).drop K)))) := by
  subst ho
  obtain ⟨A, B, e1, e2⟩ := flatten_set hxi ((xs ++ [p]).drop K)
  refine (hp.append_right _).trans ?_
  have e3 : xs ++ [p] = (xs ++ [p]).take K ++ (xs ++ [p]).drop K := (List.take_append_drop _ _).symm
  unfold nearL
  rw [e1, e2]
  have p1 : ((p, (0 : Int)) :: out' ++ (A ++ (xs ++ B)).map fun p => (p, (0 : Int))).Perm (((xs ++ [p]).map fun p => (p, (0 : Int))) ++ (out' ++ (A ++ B).map fun p => (p, (0 : Int)))) := by
    simp only [List.map_append, List.map_cons, List.map_nil, List.cons_append, List.append_assoc, List.nil_append]
    refine ((List.perm_middle (l₁ := xs.map fun p => (p, (0 : Int)))).trans (List.Perm.cons _ ?_)).symm
    refine (perm_swap _ _ _).trans (List.Perm.append_left _ ?_)
    exact perm_swap _ _ _
  have p2 : (((xs ++ [p]).map fun p => (p, (0 : Int))) ++ (out' ++ (A ++ B).map fun p => (p, (0 : Int)))).Perm (((xs ++ [p]).take K).map (fun p => (p, (0 : Int))) ++ (out' ++ (A ++ ((xs ++ [p]).drop K ++ B)).map fun p => (p, (0 : Int)))) := by
    conv => lhs; rw [e3]
    simp only [List.map_append, List.append_assoc]
    refine List.Perm.append_left _ ?_
    refine (perm_swap _ _ _).trans (List.Perm.append_left _ ?_)
    exact perm_swap _ _ _
  exact p1.trans p2
theorem cpu_in {cpu : Int} (hask : askE X.length cpu = 0) : 0 ≤ cpu ∧ cpu < X.length := by
  rcases askE_cases X.length cpu with h1 | ⟨-, h1, h2⟩
  · omega
  · exact ⟨h1, h2⟩
theorem zfree_keep {cpu p o e : Int} (h : ZInv L X f out N) (hp : out.Perm ((p, o) :: out')) (hask : askE X.length cpu = 0) (hz : ZFreeIs L X f cpu p e L' X' f') :
    ∀ x ∈ out', L'[x.1.toNat]? = L[x.1.toNat]? := by
  have hx : (p, o) ∈ out := hp.mem_iff.2 List.mem_cons_self
  have hap := zinv_apart h hx
  simp only at hap
  obtain ⟨h0, ho, c, hc⟩ := h.c.at_ (p, o) (List.mem_append_left _ hx)
  simp only at h0 ho hc
  have hpl : p < 1024 := by
    have := (List.getElem?_eq_some_iff.1 hc).1
    have := h.c.len
    have := h.c.n2
    omega
  have hall : (out ++ nearL X).Perm ((p, o) :: (out' ++ nearL X)) := (hp.append_right _)
  rcases hz with ⟨-, -, rfl, -⟩ | ⟨-, -, -, rfl, -⟩ | ⟨-, o', c', -, -, hB, -, -⟩ | ⟨-, o', c', ht', ho', -, rfl, -, -⟩
  · exact fun x _ => rfl
  · exact fun x _ => rfl
  · rw [bfreeIs_T hB]
    exact fun x hx => (c_free h.c hall).2.2 x (List.mem_append_left _ hx)
  · obtain ⟨-, -, -, c2, h2, -⟩ := ztag_some ht'
    rw [hc] at h2
    simp only [Option.some.injEq, Prod.mk.injEq, true_and] at h2
    obtain ⟨rfl, -⟩ := h2
    obtain ⟨hc0, hc1⟩ := cpu_in hask
    obtain ⟨xs, hxa, hput⟩ := nPut_ok (X := X) (cpu := cpu) (page := p) h0 hpl hap hc0 hc1
    rw [hput]
    simp only
    obtain ⟨-, hxi⟩ := xAt_some hxa
    have hperm := put_perm hp (by omega) hxi (nrK 6 (xs.length + 1))
    exact fun x hx => (c_frees _ h.c hperm).2.2 x (List.mem_append_left _ hx)
theorem zdrain_keep {cpu e : Int} (h : ZInv L X f out N) (hz : ZDrainIs L X cpu e L' X') : ∀ x ∈ out, L'[x.1.toNat]? = L[x.1.toNat]? := by
  rcases hz with ⟨-, -, rfl, -⟩ | ⟨hask, -, rfl, -⟩
  · exact fun x _ => rfl
  · obtain ⟨hc0, hc1⟩ := cpu_in hask
    obtain ⟨xs, hx⟩ : ∃ xs, xAt X cpu = some xs := by
      unfold xAt
      rw [if_pos hc0]
      exact ⟨_, List.getElem?_eq_getElem (by omega)⟩
    obtain ⟨-, hxi⟩ := xAt_some hx
    have e0 : nDrain X cpu = (xs, X.set cpu.toNat []) := by unfold nDrain; rw [hx]
    rw [e0]
    obtain ⟨A, B, e1, e2⟩ := flatten_set hxi []
    have hperm : (out ++ nearL X).Perm (xs.map (fun p => (p, (0 : Int))) ++ (out ++ nearL (X.set cpu.toNat []))) := by
      unfold nearL
      rw [e1, e2]
      simp only [List.map_append, List.append_assoc, List.nil_append]
      refine (List.Perm.append_left _ (perm_swap _ _ _)).trans ?_
      exact perm_swap _ _ _
    exact fun x hx => (c_frees _ h.c hperm).2.2 x (List.mem_append_left _ hx)
theorem ZInv.none (h : ZInv L X f out N) : ZInv L X (fun _ => none) out N := ⟨h.c, fun p c hh => (by cases hh), h.six⟩
theorem zinv_setC (h : ZInv L X f out N) {p : Nat} {o c0 c : Int} (hp : L[p]? = some (2, o, c0)) (h0 : 0 ≤ c) (h8 : c ≤ 8) : ZInv (setC L (p : Int) c) X f out N := ⟨cinv_setC h.c hp h0 h8, h.f, h.six⟩
theorem zout_nodup (h : ZInv L X f out N) : (out.map (·.1)).Nodup := by
  have := binv_nodup h.c.b
  rw [List.map_append, List.nodup_append] at this
  exact this.1
end
/-- the zone and the reference's -/
structure ZJ (L M : List Pg) (X : List (List Int)) (f : Int → Option Int) (out : List (Int × Int)) (N : Nat) : Prop where
  a : ZInv L X f out N
  b : ZInv M X (fun _ => none) out N
  alike : Alike L M
  same : ∀ x ∈ out, ∀ c cr, L[x.1.toNat]? = some (2, x.2, c) → M[x.1.toNat]? = some (2, x.2, cr) → (f x.1).getD c = cr
section
variable {L M L' M' : List Pg} {X X' Y' : List (List Int)} {f f' : Int → Option Int} {out : List (Int × Int)} {N : Nat}
theorem alike_alloc {order c p e q e2 : Int} (h : Alike L M) (hA : AllocIs L order c p e L') (hB : AllocIs M order c q e2 M') : p = q ∧ e = e2 ∧ Alike L' M' := by
  rcases hA with ⟨h1, rfl, rfl, rfl⟩ | ⟨h1, h2, rfl, rfl, rfl⟩ | ⟨h1, a, k, h2, rfl, rfl, rfl⟩ <;> rcases hB with ⟨g1, rfl, rfl, rfl⟩ | ⟨g1, g2, rfl, rfl, rfl⟩ | ⟨g1, a', k', g2, rfl, rfl, rfl⟩ <;>
    first | exact ⟨rfl, rfl, h⟩ | exact absurd h1 g1 | exact absurd g1 h1 | exact (least_none (h.symm.least g2) h2).elim | exact (least_none h2 (h.symm.noneIs g2)).elim | skip
  obtain ⟨rfl, hk⟩ := least_one h2 (h.symm.least g2)
  obtain rfl : k = k' := by omega
  exact ⟨rfl, rfl, h.alloc _ _ _ _⟩
theorem zj_near (h : ZJ L M X f out N) : ∀ xs ∈ X, ∀ p ∈ xs, ∃ c, M[p.toNat]? = some (2, 0, c) := fun xs hx p hp => by
  obtain ⟨-, -, c, hc⟩ := h.b.c.at_ (p, 0) (List.mem_append_right _ (by unfold nearL; exact List.mem_map.2 ⟨p, List.mem_flatten.2 ⟨xs, hx, hp⟩, rfl⟩))
  exact ⟨c, hc⟩
theorem zj_tag (h : ZJ L M X f out N) {k : Int} {t t' : Option (Int × Int × Int)} (ht : ZTagIs L X f k t) (ht' : ZTagIs M X (fun _ => none) k t') : t = t' := by
  cases t with
  | none =>
    cases t' with
    | none => rfl
    | some v =>
      exfalso
      obtain ⟨a, o, c⟩ := v
      obtain ⟨h1, h2, h3⟩ := zinv_told h.b ht'
      obtain ⟨_, -, h4⟩ := zinv_tag h.a h1 h2 h3 ht
      cases h4
  | some v =>
    obtain ⟨a, o, c⟩ := v
    obtain ⟨h1, h2, h3⟩ := zinv_told h.a ht
    obtain ⟨c1, g1, g2⟩ := zinv_tag h.a h1 h2 h3 ht
    obtain ⟨c2, k1, k2⟩ := zinv_tag h.b h1 h2 h3 ht'
    rw [g2, k2]
    have := h.same _ h1 c1 c2 g1 k1
    simp only at this
    simp [this]
theorem zj_left (h : ZJ L M X f out N) : zLeftOf L X = zLeftOf M X := by
  have h1 := zleft_sum h.a
  have h2 := zleft_sum h.b
  omega
theorem zj_drain {cpu e e2 : Int} (h : ZJ L M X f out N) (hz : ZDrainIs L X cpu e L' X') (hq : ZDrainIs M X cpu e2 M' Y') : e = e2 ∧ Y' = X' ∧ X'.length = X.length ∧ ZJ L' M' X' f out N := by
  have k1 := zdrain_keep h.a hz
  have k2 := zdrain_keep h.b hq
  have hz2 := hz
  have hq2 := hq
  rcases hz with ⟨h9, rfl, rfl, rfl⟩ | ⟨h9, rfl, rfl, rfl⟩
  · rcases hq with ⟨-, rfl, rfl, rfl⟩ | ⟨g9, -⟩
    · exact ⟨rfl, rfl, rfl, h⟩
    · omega
  · rcases hq with ⟨g9, -⟩ | ⟨-, rfl, rfl, rfl⟩
    · omega
    · refine ⟨rfl, rfl, nDrain_len X cpu, (zinv_drain h.a h9 hz2).2.2, (zinv_drain h.b h9 hq2).2.2, h.alike.frees _, fun x hx c cr hc hcr => ?_⟩
      rw [k1 x hx] at hc
      rw [k2 x hx] at hcr
      exact h.same x hx c cr hc hcr
end
end Go.Proofs.Ytljcndcmdphmgaa
