/-
  The runner: regions, code, calls: what it finds is what the model does, whatever the tape holds. No condition.
-/
import Derived.Test.YtigakendeghoaaaExO
namespace Go.Proofs.Ytigakendeghoaaa.Ex
open Go
noncomputable section
variable [Nums]
section
variable {P : Program} {call : FuncId → List AV → AH → Option (AV × AH)} {nt : Nat} {ops : Array Oper} {ρ : Ren} {w : World}
theorem Stp.up {ρ' : Ren} {g g' : Nat → Option AO} {nx nx' n2 : Nat} {w' : World} (h : Stp ρ g nx w ρ' g' nx' w') (hn : nx' ≤ n2) : Stp ρ g nx w ρ' g' n2 w' :=
  ⟨h.hr.up hn, h.ext, Nat.le_trans h.gr hn, h.os, h.tape, h.output, h.size, h.block, h.live, h.dom⟩
omit [Nums] in
theorem skip_get {h : AH} {k : Nat} : (h.skip k).get = h.get := by cases h; rfl
omit [Nums] in
theorem skip_next {h : AH} {k : Nat} : (h.skip k).next = h.next + k := by cases h; rfl
omit [Nums] in
theorem cnt {p p' : Nat → Bool} {i : Nat} (hp : p i = true) (h : ∀ j, p' j = (p j && decide (j ≠ i))) : ∀ l : List Nat, l.Nodup → i ∈ l → l.countP p' + 1 = l.countP p
  | [], _, hi => by cases hi
  | x :: l, hn, hi => by
    rw [List.nodup_cons] at hn
    by_cases hx : x = i
    · subst hx
      have : ∀ j ∈ l, p' j = p j := fun j hj => by
        rw [h]
        have : j ≠ x := fun he => hn.1 (he ▸ hj)
        simp [this]
      have hc : l.countP p' = l.countP p := by
        clear hi hn
        induction l with
        | nil => rfl
        | cons y l ih =>
          rw [List.countP_cons, List.countP_cons, ih (fun j hj => this j (List.mem_cons_of_mem _ hj)), this y List.mem_cons_self]
      rw [List.countP_cons, List.countP_cons, hc, hp, h]
      simp
    · have hi' : i ∈ l := by
        rcases List.mem_cons.1 hi with h1 | h1
        · exact absurd h1.symm hx
        · exact h1
      have ih := cnt hp h l hn.2 hi'
      rw [List.countP_cons, List.countP_cons, h]
      simp [hx]
      omega
omit [Nums] in
theorem ready_iff {listed : Array Bool} (hs : listed.size = ops.size) {i : Nat} : i ∈ Region.ready .any ops listed ↔ ∃ o, Rdy ops (fun j => listed.getD j false) i o := by
  unfold Region.ready
  rw [List.mem_filter, List.mem_range]
  constructor
  · rintro ⟨h1, h2⟩
    rw [Bool.and_eq_true] at h2
    obtain ⟨o, ho⟩ : ∃ o, ops[i]? = some o := ⟨_, Array.getElem?_eq_getElem h1⟩
    refine ⟨o, ho, ?_, fun e he hb => ?_⟩
    · have := h2.1
      simp only [Array.getD_eq_getD_getElem?, Array.getElem?_eq_getElem (show i < listed.size by omega)] at this ⊢
      simpa using this
    · have := h2.2
      rw [ho] at this
      simp only [Option.map_some, Option.getD_some, Array.all_eq_true_iff_forall_mem] at this
      have := this e (by simpa using he)
      simpa [hb] using this
  · rintro ⟨o, hr⟩
    have h1 : i < ops.size := (Array.getElem?_eq_some_iff.1 hr.op).1
    refine ⟨h1, ?_⟩
    rw [Bool.and_eq_true]
    refine ⟨?_, ?_⟩
    · have := hr.no
      simp only [Array.getD_eq_getD_getElem?, Array.getElem?_eq_getElem (show i < listed.size by omega)] at this ⊢
      simpa using this
    · rw [hr.op]
      simp only [Option.map_some, Option.getD_some, Array.all_eq_true_iff_forall_mem]
      intro e he
      cases hb : Region.binds .any e with
      | false => rfl
      | true => simpa using hr.pre e (by simpa using he) hb
section
variable {env0 : T AV} {h : AH} {rs : List Rk} {al : List (Nat × AO)} {ρ0 : Ren} {w0 : World}
omit [Nums] in
/-- none may come next: all are done -/
theorem ready_nil (hk : chk ops = true) {listed : Array Bool} (hs : listed.size = ops.size) (hn : Region.ready .any ops listed = []) : ∀ i, i < ops.size → listed.getD i false = true := by
  intro i
  induction i using Nat.strongRecOn with
  | _ i ih =>
    intro hi
    cases hL : listed.getD i false with
    | true => rfl
    | false =>
      obtain ⟨o, ho⟩ : ∃ o, ops[i]? = some o := ⟨_, Array.getElem?_eq_getElem hi⟩
      have : i ∈ Region.ready .any ops listed := (ready_iff hs).2 ⟨o, ho, hL, fun e he hb => by
        have := chk_lt hk ho e he hb
        exact ih e.on this (by omega)⟩
      rw [hn] at this
      cases this
theorem any_wp (hR : Reg P call nt ops env0 h rs al) (hc : CallS P call) {Q : Exit → Act → World → Prop}
    (hQ : ∀ L lam ρ w a, AI nt ops env0 h rs ρ0 w0 L lam ρ w a → (∀ i, i < ops.size → L i = true) → Q .normal a w) : ∀ (fuel : Nat) (listed : Array Bool) (lam : Nat) (ρ : Ren) (w : World) (a : Act), listed.size = ops.size →
    (List.range ops.size).countP (fun j => !listed.getD j false) ≤ fuel → AI nt ops env0 h rs ρ0 w0 (fun j => listed.getD j false) lam ρ w a → wpAny P .any ops Q fuel listed a w
  | 0, listed, lam, ρ, w, a, hs, hf, hI => by
    have hall : ∀ i, i < ops.size → listed.getD i false = true := by
      intro i hi
      have h0 : (List.range ops.size).countP (fun j => !listed.getD j false) = 0 := by omega
      rw [List.countP_eq_zero] at h0
      have := h0 i (List.mem_range.2 hi)
      simpa using this
    refine ⟨?_, hQ _ _ _ _ _ hI hall⟩
    rw [List.eq_nil_iff_forall_not_mem]
    intro i hi
    obtain ⟨o, hr⟩ := (ready_iff hs).1 hi
    have := hall i (Array.getElem?_eq_some_iff.1 hr.op).1
    have h2 : listed.getD i false = false := hr.no
    rw [this] at h2
    cases h2
  | fuel + 1, listed, lam, ρ, w, a, hs, hf, hI => by
    refine ⟨fun hn => hQ _ _ _ _ _ hI (ready_nil hR.chk hs hn), fun i hi => ?_⟩
    obtain ⟨o, hr⟩ := (ready_iff hs).1 hi
    have hio : i < ops.size := (Array.getElem?_eq_some_iff.1 hr.op).1
    have hL : ∀ j, (listed.setIfInBounds i true).getD j false = true ↔ listed.getD j false = true ∨ j = i := by
      intro j
      simp only [Array.getD_eq_getD_getElem?, Array.getElem?_setIfInBounds]
      by_cases hij : i = j
      · subst hij
        simp [show i < listed.size by omega]
      · simp [hij, Ne.symm hij]
    refine hR.step hc hI hr (L' := fun j => (listed.setIfInBounds i true).getD j false) hL fun lam' ρ' w' a' hI' => ?_
    refine any_wp hR hc hQ fuel _ lam' ρ' w' a' (by simpa using hs) ?_ hI'
    have := cnt (p := fun j => !listed.getD j false) (p' := fun j => !(listed.setIfInBounds i true).getD j false) (i := i) (by simpa using hr.no) (fun j => by
      have := hL j
      cases h1 : (listed.setIfInBounds i true).getD j false <;> cases h2 : listed.getD j false <;> by_cases h3 : j = i <;> simp_all) (List.range ops.size) List.nodup_range (List.mem_range.2 hio)
    omega
end
/-- A REGION THAT DRAWS ITS ORDER -/
theorem regDr_wp (hc : CallS P call) {env env' : T AV} {h h' : AH} {a : Act} (hreg : regDr P call nt ops env h = some (env', h')) (hE : ER ρ env nt a) (hH : HR ρ h.get h.next w) {Q : Exit → Act → World → Prop}
    (hQ : ∀ ρ' w' a', Stp ρ h.get h.next w ρ' h'.get h'.next w' → ER ρ' env' nt a' → Q .normal a' w') : wpAny P .any ops Q ops.size (Array.replicate ops.size false) a w := by
  unfold regDr at hreg
  split at hreg <;> first | (cases hreg; done) | skip
  rename_i hk
  split at hreg <;> first | (cases hreg; done) | skip
  split at hreg <;> first | (cases hreg; done) | skip
  rename_i rs envF hF cons al hd
  split at hreg <;> first | (cases hreg; done) | skip
  rename_i hrd
  simp only [Option.some.injEq, Prod.mk.injEq] at hreg
  obtain ⟨rfl, rfl⟩ := hreg
  have hInv0 : InvR ops (bf ops) env (h.skip ops.size) ([] : List Rk).reverse env (h.skip ops.size) 0 [] := by
    refine ⟨fun t v hv => .inr ⟨by simp [below], hv⟩, rfl, fun a => by simp [ConsP], fun a ao => by simp⟩
  obtain ⟨tail, e1, e2, hInv, hfact⟩ := regD_facts (env0 := env) (h0 := h.skip ops.size) ops.toList env (h.skip ops.size) 0 [] [] hd (by simp) hInv0
  simp only [List.reverse_nil, List.nil_append, List.length_nil, Nat.zero_add] at e1 hfact
  subst e1
  have hlen : rs.length = ops.size := by simpa using e2
  have hreads := reads_facts (nt := nt) (b := bf ops) (base := h.next) (env0 := env) (h0 := h.skip ops.size) (all := rs) (al := al) ops.toList [] rs env hrd (by simp) (fun t v hv => .inr ⟨by simp [below], hv⟩)
  simp only [List.nil_append, List.length_nil, Nat.zero_add] at hreads
  have hR : Reg P call nt ops env h rs al := by
    refine ⟨hk, hlen, fun i r o hr ho => hfact i r o hr (by simpa using ho), fun i v o hr ho hkd => ?_, hInv.al⟩
    obtain ⟨en, vs, h1, h2, h3⟩ := hreads i v o hr (by simpa using ho) hkd
    exact ⟨en, vs, fun t u hu => (h1 t u hu).ext fun k hk => by rw [List.getElem?_take, if_pos hk], h2, h3⟩
  have hg0 : ∀ m o, gF h.next rs (fun j => (Array.replicate ops.size false).getD j false) (consAt ops rs 0) (mainAt ops h rs 0) m = some o → h.get m = some o := by
    intro m o hm
    rcases gF_cases hm with ⟨q, u, _, _, h2, _⟩ | ⟨h1, _⟩
    · simp only [Array.getD_eq_getD_getElem?, Array.getElem?_replicate] at h2
      split at h2 <;> simp at h2
    · have : (mainAt ops h rs 0).get = h.get := by unfold mainAt; rw [List.take_zero]; exact skip_get
      rw [← this]
      exact h1
  have hm0 : mainAt ops h rs 0 = h.skip ops.size := by unfold mainAt; rw [List.take_zero]; rfl
  refine any_wp (ρ0 := ρ) (w0 := w) hR hc (fun L lam ρ' w' a' hI hall => ?_) ops.size _ 0 ρ w a (by simp) ?_ ?_
  · have hlam : rs.take lam = rs ∨ ∀ q u g, rs[q]? = some (.loud u g) → q < lam := .inr fun q u g hq => (hI.loud q u g hq).1 (hall q (by rw [← hlen]; exact (List.getElem?_eq_some_iff.1 hq).1))
    have hlast : ∀ q u g, rs[q]? = some (.loud u g) → q < lam := fun q u g hq => (hI.loud q u g hq).1 (hall q (by rw [← hlen]; exact (List.getElem?_eq_some_iff.1 hq).1))
    have hmain : mainAt ops h rs lam = hF := by
      rw [hInv.heap]
      unfold mainAt
      have : rs = rs.take lam ++ rs.drop lam := (List.take_append_drop _ _).symm
      conv => rhs; rw [this]
      rw [heapOf_append, heapOf_none (q := rs.drop lam)]
      intro r hmem
      obtain ⟨k, hk⟩ := List.mem_iff_getElem?.1 hmem
      rw [List.getElem?_drop] at hk
      cases r with
      | loud u g =>
        have := hlast _ u g hk
        omega
      | _ => rfl
    have hcons : ∀ q, cons.testBit q = consAt ops rs lam q := fun q => by
      have h2 : cons.testBit q = true ↔ consAt ops rs lam q = true := by
        rw [hInv.cons, consAt_iff]
        constructor
        · rintro ⟨l, u, g, h3, h4⟩
          exact ⟨l, u, g, hlast l u g h3, h3, h4⟩
        · rintro ⟨l, u, g, _, h4, h5⟩
          exact ⟨l, u, g, h4, h5⟩
      cases h3 : cons.testBit q <;> cases h4 : consAt ops rs lam q <;> simp_all
    refine hQ ρ' w' a' ?_ ⟨hI.dz, hI.size, fun t v hv => hI.val t v ?_⟩
    · have := hI.st
      rw [hmain] at this
      rw [overlay_next]
      refine Stp.sub this fun m o hm => ?_
      rcases overlay_spec hm with ⟨q, h1, h2, rfl⟩ | h1
      · obtain ⟨u, hu⟩ := (hInv.al q o).1 h2
        refine gF_alloc hu (hall q (by rw [← hlen]; exact (List.getElem?_eq_some_iff.1 hu).1)) ?_
        rw [hcons] at h1
        simpa using h1
      · refine gF_main h1 fun q ao v he hq _ => ?_
        subst he
        exact hI.mask q (by rw [← hlen]; exact (List.getElem?_eq_some_iff.1 hq).1) (by rw [hmain, h1]; rfl)
    · have := hInv.env t v hv
      rcases this with ⟨q, r, h1, h2, h3, h4, h5⟩ | ⟨h1, h2⟩
      · refine .inl ⟨q, r, hall q (by rw [← hlen]; exact (List.getElem?_eq_some_iff.1 h3).1), h2, h3, h4, fun j hj hj' => h5 j ?_ hj'⟩
        have := hI.lt j hj
        simp [below, hlen, this]
      · refine .inr ⟨fun j hj hj' => h1 j ?_ hj', h2⟩
        have := hI.lt j hj
        simp [below, hlen, this]
  · have := List.countP_le_length (p := fun j => !(Array.replicate ops.size false).getD j false) (l := List.range ops.size)
    simpa using this
  · have hLf : ∀ j, (Array.replicate ops.size false).getD j false = false := by
      intro j
      simp only [Array.getD_eq_getD_getElem?, Array.getElem?_replicate]
      split <;> rfl
    refine ⟨fun i o _ hi => ?_, fun i hi => ?_, .inl rfl, fun q u g _ => ?_, ?_, ?_, fun i hi _ => ?_, fun i hi hs => ?_, hE.dz, hE.size, fun t v hv => ?_⟩
    · rw [hLf] at hi; cases hi
    · rw [hLf] at hi; cases hi
    · rw [hLf]; simp
    · rw [hm0, skip_next]
      have := (Stp.refl hH).up (n2 := h.next + ops.size) (by omega)
      exact Stp.sub this (by rw [hm0] at hg0; exact hg0)
    · rw [hm0, skip_next]; omega
    · exact hH.fresh _ (by omega)
    · rw [hm0, skip_get] at hs
      obtain ⟨o, ho⟩ := Option.isSome_iff_exists.1 hs
      obtain ⟨b, s, hb, _⟩ := hH.obj _ _ ho
      rw [hH.fresh _ (by omega)] at hb
      cases hb
    · rcases hv with ⟨q, r, h1, _⟩ | ⟨_, h2⟩
      · dsimp only at h1
        rw [hLf] at h1; cases h1
      · exact hE.val t v h2
end
end
end Go.Proofs.Ytigakendeghoaaa.Ex
