/-
  Texts of this claim, joined. No condition.
-/
import Derived.Test.YtfgomgodfcdijaaGreatDoorKn9
import Derived.Below
/-
  The runner: regions, code, calls: what it finds is what the model does, whatever the tape holds. No condition.
-/
namespace Go.Proofs.YtfgomgodfcdijaaGreatDoor.Ex
open Go
noncomputable section
variable [Nums]
section
variable {ds : List Deferred} {P : Program} {call : FuncId → List AV → AH → Option (AV × AH)} {nt : Nat} {ops : Array Oper} {ρ : Ren} {w : World}
theorem Stp.up {ρ' : Ren} {g g' : Nat → Option AO} {nx nx' n2 : Nat} {w' : World} (h : Stp ρ g nx w ρ' g' nx' w') (hn : nx' ≤ n2) : Stp ρ g nx w ρ' g' n2 w' :=
  ⟨h.hr.up hn, h.ext, Nat.le_trans h.gr hn, h.os, h.tape, h.output, h.size, h.block, h.live, h.dom⟩
omit [Nums] in
theorem skip_get {h : AH} {k : Nat} : (h.skip k).get = h.get := by cases h; rfl
omit [Nums] in
theorem skip_next {h : AH} {k : Nat} : (h.skip k).next = h.next + k := by cases h; rfl
omit [Nums] in
theorem cnt {p p' : Nat → Bool} {i : Nat} (hp : p i = true) (h : ∀ j, p' j = (p j && decide (j ≠ i))) : ∀ l : List Nat, l.Nodup → i ∈ l → l.countP p' + 1 = l.countP p
  | [], _, hi => by cases hi
  | x :: l, hn, hi => by
    rw [List.nodup_cons] at hn
    by_cases hx : x = i
    · subst hx
      have : ∀ j ∈ l, p' j = p j := fun j hj => by
        rw [h]
        have : j ≠ x := fun he => hn.1 (he ▸ hj)
        simp [this]
      have hc : l.countP p' = l.countP p := by
        clear hi hn
        induction l with
        | nil => rfl
        | cons y l ih =>
          rw [List.countP_cons, List.countP_cons, ih (fun j hj => this j (List.mem_cons_of_mem _ hj)), this y List.mem_cons_self]
      rw [List.countP_cons, List.countP_cons, hc, hp, h]
      simp
    · have hi' : i ∈ l := by
        rcases List.mem_cons.1 hi with h1 | h1
        · exact absurd h1.symm hx
        · exact h1
      have ih := cnt hp h l hn.2 hi'
      rw [List.countP_cons, List.countP_cons, h]
      simp [hx]
      omega
omit [Nums] in
theorem ready_iff {listed : Array Bool} (hs : listed.size = ops.size) {i : Nat} : i ∈ Region.ready .any ops listed ↔ ∃ o, Rdy ops (fun j => listed.getD j false) i o := by
  unfold Region.ready
  rw [List.mem_filter, List.mem_range]
  constructor
  · rintro ⟨h1, h2⟩
    rw [Bool.and_eq_true] at h2
    obtain ⟨o, ho⟩ : ∃ o, ops[i]? = some o := ⟨_, Array.getElem?_eq_getElem h1⟩
    refine ⟨o, ho, ?_, fun e he hb => ?_⟩
    · have := h2.1
      simp only [Array.getD_eq_getD_getElem?, Array.getElem?_eq_getElem (show i < listed.size by omega)] at this ⊢
      simpa using this
    · have := h2.2
      rw [ho] at this
      simp only [Option.map_some, Option.getD_some, Array.all_eq_true_iff_forall_mem] at this
      have := this e (by simpa using he)
      simpa [hb] using this
  · rintro ⟨o, hr⟩
    have h1 : i < ops.size := (Array.getElem?_eq_some_iff.1 hr.op).1
    refine ⟨h1, ?_⟩
    rw [Bool.and_eq_true]
    refine ⟨?_, ?_⟩
    · have := hr.no
      simp only [Array.getD_eq_getD_getElem?, Array.getElem?_eq_getElem (show i < listed.size by omega)] at this ⊢
      simpa using this
    · rw [hr.op]
      simp only [Option.map_some, Option.getD_some, Array.all_eq_true_iff_forall_mem]
      intro e he
      cases hb : Region.binds .any e with
      | false => rfl
      | true => simpa using hr.pre e (by simpa using he) hb
section
variable {env0 : T AV} {h : AH} {rs : List Rk} {al : List (Nat × AO)} {ρ0 : Ren} {w0 : World}
omit [Nums] in
/-- none may come next: all are done -/
theorem ready_nil (hk : chk ops = true) {listed : Array Bool} (hs : listed.size = ops.size) (hn : Region.ready .any ops listed = []) : ∀ i, i < ops.size → listed.getD i false = true := by
  intro i
  induction i using Nat.strongRecOn with
  | _ i ih =>
    intro hi
    cases hL : listed.getD i false with
    | true => rfl
    | false =>
      obtain ⟨o, ho⟩ : ∃ o, ops[i]? = some o := ⟨_, Array.getElem?_eq_getElem hi⟩
      have : i ∈ Region.ready .any ops listed := (ready_iff hs).2 ⟨o, ho, hL, fun e he hb => by
        have := chk_lt hk ho e he hb
        exact ih e.on this (by omega)⟩
      rw [hn] at this
      cases this
theorem any_wp (hR : Reg P call nt ops env0 h rs al) (hc : CallS P call) {Q : Exit → Act → World → Prop}
    (hQ : ∀ L lam ρ w a, AI ds nt ops env0 h rs ρ0 w0 L lam ρ w a → (∀ i, i < ops.size → L i = true) → Q .normal a w) : ∀ (fuel : Nat) (listed : Array Bool) (lam : Nat) (ρ : Ren) (w : World) (a : Act), listed.size = ops.size →
    (List.range ops.size).countP (fun j => !listed.getD j false) ≤ fuel → AI ds nt ops env0 h rs ρ0 w0 (fun j => listed.getD j false) lam ρ w a → wpAny P .any ops Q fuel listed a w
  | 0, listed, lam, ρ, w, a, hs, hf, hI => by
    have hall : ∀ i, i < ops.size → listed.getD i false = true := by
      intro i hi
      have h0 : (List.range ops.size).countP (fun j => !listed.getD j false) = 0 := by omega
      rw [List.countP_eq_zero] at h0
      have := h0 i (List.mem_range.2 hi)
      simpa using this
    refine ⟨?_, hQ _ _ _ _ _ hI hall⟩
    rw [List.eq_nil_iff_forall_not_mem]
    intro i hi
    obtain ⟨o, hr⟩ := (ready_iff hs).1 hi
    have := hall i (Array.getElem?_eq_some_iff.1 hr.op).1
    have h2 : listed.getD i false = false := hr.no
    rw [this] at h2
    cases h2
  | fuel + 1, listed, lam, ρ, w, a, hs, hf, hI => by
    refine ⟨fun hn => hQ _ _ _ _ _ hI (ready_nil hR.chk hs hn), fun i hi => ?_⟩
    obtain ⟨o, hr⟩ := (ready_iff hs).1 hi
    have hio : i < ops.size := (Array.getElem?_eq_some_iff.1 hr.op).1
    have hL : ∀ j, (listed.setIfInBounds i true).getD j false = true ↔ listed.getD j false = true ∨ j = i := by
      intro j
      simp only [Array.getD_eq_getD_getElem?, Array.getElem?_setIfInBounds]
      by_cases hij : i = j
      · subst hij
        simp [show i < listed.size by omega]
      · simp [hij, Ne.symm hij]
    refine hR.step hc hI hr (L' := fun j => (listed.setIfInBounds i true).getD j false) hL fun lam' ρ' w' a' hI' => ?_
    refine any_wp hR hc hQ fuel _ lam' ρ' w' a' (by simpa using hs) ?_ hI'
    have := cnt (p := fun j => !listed.getD j false) (p' := fun j => !(listed.setIfInBounds i true).getD j false) (i := i) (by simpa using hr.no) (fun j => by
      have := hL j
      cases h1 : (listed.setIfInBounds i true).getD j false <;> cases h2 : listed.getD j false <;> by_cases h3 : j = i <;> simp_all) (List.range ops.size) List.nodup_range (List.mem_range.2 hio)
    omega
end
/-- A REGION THAT DRAWS ITS ORDER -/
theorem regDr_wp (hc : CallS P call) {env env' : T AV} {h h' : AH} {a : Act} (hreg : regDr P call nt ops env h = some (env', h')) (hE : ERd ds ρ env nt a) (hH : HR ρ h.get h.next w) {Q : Exit → Act → World → Prop}
    (hQ : ∀ ρ' w' a', Stp ρ h.get h.next w ρ' h'.get h'.next w' → ERd ds ρ' env' nt a' → Q .normal a' w') : wpAny P .any ops Q ops.size (Array.replicate ops.size false) a w := by
  unfold regDr at hreg
  split at hreg <;> first | (cases hreg; done) | skip
  rename_i hk
  split at hreg <;> first | (cases hreg; done) | skip
  split at hreg <;> first | (cases hreg; done) | skip
  rename_i rs envF hF cons al hd
  split at hreg <;> first | (cases hreg; done) | skip
  rename_i hrd
  simp only [Option.some.injEq, Prod.mk.injEq] at hreg
  obtain ⟨rfl, rfl⟩ := hreg
  have hInv0 : InvR ops (bf ops) env (h.skip ops.size) ([] : List Rk).reverse env (h.skip ops.size) 0 [] := by
    refine ⟨fun t v hv => .inr ⟨by simp [below], hv⟩, rfl, fun a => by simp [ConsP], fun a ao => by simp⟩
  obtain ⟨tail, e1, e2, hInv, hfact⟩ := regD_facts (env0 := env) (h0 := h.skip ops.size) ops.toList env (h.skip ops.size) 0 [] [] hd (by simp) hInv0
  simp only [List.reverse_nil, List.nil_append, List.length_nil, Nat.zero_add] at e1 hfact
  subst e1
  have hlen : rs.length = ops.size := by simpa using e2
  have hreads := reads_facts (nt := nt) (b := bf ops) (base := h.next) (env0 := env) (h0 := h.skip ops.size) (all := rs) (al := al) ops.toList [] rs env hrd (by simp) (fun t v hv => .inr ⟨by simp [below], hv⟩)
  simp only [List.nil_append, List.length_nil, Nat.zero_add] at hreads
  have hR : Reg P call nt ops env h rs al := by
    refine ⟨hk, hlen, fun i r o hr ho => hfact i r o hr (by simpa using ho), fun i v o hr ho hkd => ?_, hInv.al⟩
    obtain ⟨en, vs, h1, h2, h3⟩ := hreads i v o hr (by simpa using ho) hkd
    exact ⟨en, vs, fun t u hu => (h1 t u hu).ext fun k hk => by rw [List.getElem?_take, if_pos hk], h2, h3⟩
  have hg0 : ∀ m o, gF h.next rs (fun j => (Array.replicate ops.size false).getD j false) (consAt ops rs 0) (mainAt ops h rs 0) m = some o → h.get m = some o := by
    intro m o hm
    rcases gF_cases hm with ⟨q, u, _, _, h2, _⟩ | ⟨h1, _⟩
    · simp only [Array.getD_eq_getD_getElem?, Array.getElem?_replicate] at h2
      split at h2 <;> simp at h2
    · have : (mainAt ops h rs 0).get = h.get := by unfold mainAt; rw [List.take_zero]; exact skip_get
      rw [← this]
      exact h1
  have hm0 : mainAt ops h rs 0 = h.skip ops.size := by unfold mainAt; rw [List.take_zero]; rfl
  refine any_wp (ds := ds) (ρ0 := ρ) (w0 := w) hR hc (fun L lam ρ' w' a' hI hall => ?_) ops.size _ 0 ρ w a (by simp) ?_ ?_
  · have hlam : rs.take lam = rs ∨ ∀ q u g, rs[q]? = some (.loud u g) → q < lam := .inr fun q u g hq => (hI.loud q u g hq).1 (hall q (by rw [← hlen]; exact (List.getElem?_eq_some_iff.1 hq).1))
    have hlast : ∀ q u g, rs[q]? = some (.loud u g) → q < lam := fun q u g hq => (hI.loud q u g hq).1 (hall q (by rw [← hlen]; exact (List.getElem?_eq_some_iff.1 hq).1))
    have hmain : mainAt ops h rs lam = hF := by
      rw [hInv.heap]
      unfold mainAt
      have : rs = rs.take lam ++ rs.drop lam := (List.take_append_drop _ _).symm
      conv => rhs; rw [this]
      rw [heapOf_append, heapOf_none (q := rs.drop lam)]
      intro r hmem
      obtain ⟨k, hk⟩ := List.mem_iff_getElem?.1 hmem
      rw [List.getElem?_drop] at hk
      cases r with
      | loud u g =>
        have := hlast _ u g hk
        omega
      | _ => rfl
    have hcons : ∀ q, cons.testBit q = consAt ops rs lam q := fun q => by
      have h2 : cons.testBit q = true ↔ consAt ops rs lam q = true := by
        rw [hInv.cons, consAt_iff]
        constructor
        · rintro ⟨l, u, g, h3, h4⟩
          exact ⟨l, u, g, hlast l u g h3, h3, h4⟩
        · rintro ⟨l, u, g, _, h4, h5⟩
          exact ⟨l, u, g, h4, h5⟩
      cases h3 : cons.testBit q <;> cases h4 : consAt ops rs lam q <;> simp_all
    refine hQ ρ' w' a' ?_ ⟨hI.dz, hI.size, fun t v hv => hI.val t v ?_⟩
    · have := hI.st
      rw [hmain] at this
      rw [overlay_next]
      refine Stp.sub this fun m o hm => ?_
      rcases overlay_spec hm with ⟨q, h1, h2, rfl⟩ | h1
      · obtain ⟨u, hu⟩ := (hInv.al q o).1 h2
        refine gF_alloc hu (hall q (by rw [← hlen]; exact (List.getElem?_eq_some_iff.1 hu).1)) ?_
        rw [hcons] at h1
        simpa using h1
      · refine gF_main h1 fun q ao v he hq _ => ?_
        subst he
        exact hI.mask q (by rw [← hlen]; exact (List.getElem?_eq_some_iff.1 hq).1) (by rw [hmain, h1]; rfl)
    · have := hInv.env t v hv
      rcases this with ⟨q, r, h1, h2, h3, h4, h5⟩ | ⟨h1, h2⟩
      · refine .inl ⟨q, r, hall q (by rw [← hlen]; exact (List.getElem?_eq_some_iff.1 h3).1), h2, h3, h4, fun j hj hj' => h5 j ?_ hj'⟩
        have := hI.lt j hj
        simp [below, hlen, this]
      · refine .inr ⟨fun j hj hj' => h1 j ?_ hj', h2⟩
        have := hI.lt j hj
        simp [below, hlen, this]
  · have := List.countP_le_length (p := fun j => !(Array.replicate ops.size false).getD j false) (l := List.range ops.size)
    simpa using this
  · have hLf : ∀ j, (Array.replicate ops.size false).getD j false = false := by
      intro j
      simp only [Array.getD_eq_getD_getElem?, Array.getElem?_replicate]
      split <;> rfl
    refine ⟨fun i o _ hi => ?_, fun i hi => ?_, .inl rfl, fun q u g _ => ?_, ?_, ?_, fun i hi _ => ?_, fun i hi hs => ?_, hE.dz, hE.size, fun t v hv => ?_⟩
    · rw [hLf] at hi; cases hi
    · rw [hLf] at hi; cases hi
    · rw [hLf]; simp
    · rw [hm0, skip_next]
      have := (Stp.refl hH).up (n2 := h.next + ops.size) (by omega)
      exact Stp.sub this (by rw [hm0] at hg0; exact hg0)
    · rw [hm0, skip_next]; omega
    · exact hH.fresh _ (by omega)
    · rw [hm0, skip_get] at hs
      obtain ⟨o, ho⟩ := Option.isSome_iff_exists.1 hs
      obtain ⟨b, s, hb, _⟩ := hH.obj _ _ ho
      rw [hH.fresh _ (by omega)] at hb
      cases hb
    · rcases hv with ⟨q, r, h1, _⟩ | ⟨_, h2⟩
      · dsimp only at h1
        rw [hLf] at h1; cases h1
      · exact hE.val t v h2
end
end
end Go.Proofs.YtfgomgodfcdijaaGreatDoor.Ex

/-
  The runner: code and calls: what it finds is what the model does, whatever the tape holds. No condition.
-/
namespace Go.Proofs.YtfgomgodfcdijaaGreatDoor.Ex
open Go
noncomputable section
variable [Nums]
section
variable {ds : List Deferred} {P : Program} {call : FuncId → List AV → AH → Option (AV × AH)} {nt : Nat} {ρ : Ren} {w : World}
theorem ERd.put {ρ' : Ren} {env env' : T AV} {a : Act} {dst : Option Tmp} {v : AV} {x : Value} (hE : ERd ds ρ env nt a) (hm : ∀ n p, ρ n = some p → ρ' n = some p) (hp : putA nt env dst v = some env') (hx : VR ρ' v x) : ERd ds ρ' env' nt (a.put dst x) := by
  obtain ⟨hd, hv⟩ := putA_spec hp
  refine ⟨by rw [put_defers]; exact hE.dz, by rw [put_size]; exact hE.size, fun t u hu => ?_⟩
  rcases hv t u hu with ⟨rfl, rfl⟩ | ⟨h1, h2⟩
  · refine ⟨x, ?_, hx⟩
    have := hd t rfl
    simp [Act.put, hE.size, this]
  · obtain ⟨y, hy, hr⟩ := hE.val t u h2
    refine ⟨y, ?_, hr.mono hm⟩
    cases dst with
    | none => exact hy
    | some d =>
      have : d ≠ t := fun he => h1 (by rw [he])
      simp [Act.put, this, hy]
theorem ERd.mono {ρ' : Ren} {env : T AV} {a : Act} (hE : ERd ds ρ env nt a) (hm : ∀ n p, ρ n = some p → ρ' n = some p) : ERd ds ρ' env nt a :=
  ⟨hE.dz, hE.size, fun t v hv => by
    obtain ⟨x, hx, hr⟩ := hE.val t v hv
    exact ⟨x, hx, hr.mono hm⟩⟩
theorem undR : VR ρ und undef := by unfold und VR; exact ⟨#[], rfl, VRs.nil⟩
/-- A REGION IN THE ORDER OF THE TEXT -/
theorem regL_wp (hc : CallS P call) {ops : Array Oper} {Q : Exit → Act → World → Prop} : ∀ (l : List Oper) (env : T AV) (h : AH) (env' : T AV) (h' : AH) (ρ : Ren) (w : World) (a : Act), regL P call nt ops l env h = some (env', h') →
    ERd ds ρ env nt a → HR ρ h.get h.next w → (∀ ρ' w' a', Stp ρ h.get h.next w ρ' h'.get h'.next w' → ERd ds ρ' env' nt a' → Q .normal a' w') → wpList P ops Q l a w
  | [], env, h, env', h', ρ, w, a, hr, hE, hH, hQ => by
    simp only [regL, Option.some.injEq, Prod.mk.injEq] at hr
    obtain ⟨rfl, rfl⟩ := hr
    exact hQ ρ w a (Stp.refl hH) hE
  | o :: l, env, h, env', h', ρ, w, a, hr, hE, hH, hQ => by
    unfold regL at hr
    split at hr <;> first | (cases hr; done) | skip
    · rename_i hg
      have hw := guard_rel (ρ := ρ) (a := a) (fun t v _ hv => hE.val t v hv) hg
      split at hr <;> first | (cases hr; done) | skip
      rename_i env1 hp
      unfold wpList
      rw [hw]
      simp only [Bool.false_eq_true, if_false]
      exact regL_wp hc l env1 h env' h' ρ w _ hr (ERd.put hE (fun _ _ h => h) hp undR) hH hQ
    · rename_i hg
      have hw := guard_rel (ρ := ρ) (a := a) (fun t v _ hv => hE.val t v hv) hg
      split at hr <;> first | (cases hr; done) | skip
      rename_i vs hvs
      split at hr <;> first | (cases hr; done) | skip
      rename_i v h1 hop
      split at hr <;> first | (cases hr; done) | skip
      rename_i env1 hp
      unfold wpList
      rw [hw]
      simp only [if_true]
      left
      refine op_wp hc hop hH (evs_rel (fun t v _ hv => hE.val t v hv) hvs) fun ρ' x w' hst hx => ?_
      exact regL_wp hc l env1 h1 env' h' ρ' w' _ hr (ERd.put hE (Stp.mono hH hst) hp hx) hst.hr fun ρ2 w2 a2 h2 h3 => hQ ρ2 w2 a2 (hst.trans h2) h3
def exitOf : AX → Exit
  | .normal => .normal
  | .exit id => .exit id
  | .ret => .ret
def PostXd (ds : List Deferred) (nt : Nat) (ρ : Ren) (h : AH) (w : World) (x : AX) (env' : T AV) (h' : AH) (e : Exit) (a' : Act) (w' : World) : Prop :=
  e = exitOf x ∧ ∃ ρ', Stp ρ h.get h.next w ρ' h'.get h'.next w' ∧ ERd ds ρ' env' nt a'
abbrev PostX (nt : Nat) (ρ : Ren) (h : AH) (w : World) (x : AX) (env' : T AV) (h' : AH) (e : Exit) (a' : Act) (w' : World) : Prop := PostXd [] nt ρ h w x env' h' e a' w'
omit [Nums] in
theorem rounds_mono {c : Code} {Q Q' : Exit → Act → World → Prop} (hq : ∀ e a w, Q e a w → Q' e a w) : ∀ (n : Nat) (a : Act) (w : World), Code.rounds P c Q n a w → Code.rounds P c Q' n a w
  | 0, _, _, h => h
  | n + 1, a, w, h => by
    rw [rounds_succ] at h ⊢
    refine wp_mono h fun e a1 w1 h1 => ?_
    cases e with
    | normal => exact rounds_mono hq n a1 w1 h1
    | _ => exact hq _ _ _ h1
theorem iter_wp {c : Code} {body : T AV → AH → Option (AX × T AV × AH)} (hb : ∀ env h x env' h', body env h = some (x, env', h') → ∀ (ρ : Ren) w a, ERd ds ρ env nt a → HR ρ h.get h.next w → c.wp P (PostXd ds nt ρ h w x env' h') a w) :
    ∀ (n : Nat) env h x env' h', iter body n env h = some (x, env', h') → ∀ (ρ : Ren) w a, ERd ds ρ env nt a → HR ρ h.get h.next w → Code.rounds P c (PostXd ds nt ρ h w x env' h') n a w
  | 0, _, _, _, _, _, h, _, _, _, _, _ => by simp [iter] at h
  | n + 1, env, h, x, env', h', hi, ρ, w, a, hE, hH => by
    rw [rounds_succ]
    unfold iter at hi
    split at hi
    · rename_i env1 h1 hbody
      refine wp_mono (hb _ _ _ _ _ hbody ρ w a hE hH) ?_
      rintro e a1 w1 ⟨rfl, ρ1, hst, hE1⟩
      refine rounds_mono (fun e a' w' hq => ?_) _ _ _ (iter_wp hb n _ _ _ _ _ hi ρ1 w1 a1 hE1 hst.hr)
      obtain ⟨h1, ρ2, h2, h3⟩ := hq
      exact ⟨h1, ρ2, hst.trans h2, h3⟩
    · rename_i hno
      refine wp_mono (hb _ _ _ _ _ hi ρ w a hE hH) ?_
      rintro e a1 w1 ⟨rfl, hq⟩
      cases x with
      | normal => exact absurd hi (hno _ _)
      | exit id => exact ⟨rfl, hq⟩
      | ret => exact ⟨rfl, hq⟩
omit [Nums] in
theorem then_of {x : AX} {K : Act → World → Prop} {Q : Exit → Act → World → Prop} {a : Act} {w : World} (hn : x = .normal → K a w) (ho : x ≠ .normal → Q (exitOf x) a w) : Exit.then K Q (exitOf x) a w := by
  cases x with
  | normal => exact hn rfl
  | exit id => exact ho (by intro h; cases h)
  | ret => exact ho (by intro h; cases h)
theorem exec_wp (hm : P.follows .mixedOrders = true) (hc : CallS P call) : ∀ (c : Code) env h x env' h', exec P call nt c env h = some (x, env', h') → ∀ (ρ : Ren) w a, ERd ds ρ env nt a → HR ρ h.get h.next w → c.wp P (PostXd ds nt ρ h w x env' h') a w
  | .skip, env, h, x, env', h', he, ρ, w, a, hE, hH => by
    simp only [exec, Option.some.injEq, Prod.mk.injEq] at he
    obtain ⟨rfl, rfl, rfl⟩ := he
    exact wp_skip ⟨rfl, ρ, Stp.refl hH, hE⟩
  | .label l, env, h, x, env', h', he, ρ, w, a, hE, hH => by
    simp only [exec, Option.some.injEq, Prod.mk.injEq] at he
    obtain ⟨rfl, rfl, rfl⟩ := he
    exact wp_label ⟨rfl, ρ, Stp.refl hH, hE⟩
  | .region id ops false, env, h, x, env', h', he, ρ, w, a, hE, hH => by
    unfold exec at he
    split at he <;> first | (cases he; done) | skip
    rename_i env1 h1 hr
    simp only [Option.some.injEq, Prod.mk.injEq] at he
    obtain ⟨rfl, rfl, rfl⟩ := he
    exact wp_region_list (regL_wp hc _ _ _ _ _ ρ w a hr hE hH fun ρ' w' a' hst hE' => ⟨rfl, ρ', hst, hE'⟩)
  | .region id ops true, env, h, x, env', h', he, ρ, w, a, hE, hH => by
    unfold exec at he
    split at he <;> first | (cases he; done) | skip
    rename_i env1 h1 hr
    simp only [Option.some.injEq, Prod.mk.injEq] at he
    obtain ⟨rfl, rfl, rfl⟩ := he
    exact wp_region_any hm (regDr_wp hc hr hE (hH.drew _) fun ρ' w' a' hst hE' => ⟨rfl, ρ', hst.drew, hE'⟩)
  | .seq c d, env, h, x, env', h', he, ρ, w, a, hE, hH => by
    unfold exec at he
    split at he
    · rename_i env1 h1 hx
      refine wp_seq (wp_mono (exec_wp hm hc c _ _ _ _ _ hx ρ w a hE hH) ?_)
      rintro e a1 w1 ⟨rfl, ρ1, hst, hE1⟩
      refine wp_mono (exec_wp hm hc d _ _ _ _ _ he ρ1 w1 a1 hE1 hst.hr) ?_
      rintro e a2 w2 ⟨rfl, ρ2, hst2, hE2⟩
      exact ⟨rfl, ρ2, hst.trans hst2, hE2⟩
    · rename_i hno
      refine wp_seq (wp_mono (exec_wp hm hc c _ _ _ _ _ he ρ w a hE hH) ?_)
      rintro e a1 w1 ⟨rfl, hq⟩
      exact then_of (fun hx => by subst hx; exact absurd he (hno _ _)) (fun _ => ⟨rfl, hq⟩)
  | .cond c d e, env, h, x, env', h', he, ρ, w, a, hE, hH => by
    unfold exec at he
    have hev : ∀ b, ev env c = some (.bool b) → a.eval c = .bool b := by
      intro b hb
      have := evs_rel (ρ := ρ) (a := a) (l := [c]) (vs := [.bool b]) (fun t v _ hv => hE.val t v hv) (by simp [evs, hb])
      obtain ⟨y, hy, hr⟩ := this.one
      simp at hy
      unfold VR at hr
      rw [hy, hr]
    have hevs : ∀ q p, ev env c = some (.bsym q p) → a.eval c = .bool (q.ev Nums.σ == p) := by
      intro q p hb
      have := evs_rel (ρ := ρ) (a := a) (l := [c]) (vs := [.bsym q p]) (fun t v _ hv => hE.val t v hv) (by simp [evs, hb])
      obtain ⟨y, hy, hr⟩ := this.one
      simp at hy
      unfold VR at hr
      rw [hy, hr]
    split at he
    · rename_i hb
      exact wp_cond_true (hev _ hb) (exec_wp hm hc d _ _ _ _ _ he ρ w a hE hH)
    · rename_i hb
      exact wp_cond_false (hev _ hb) (exec_wp hm hc e _ _ _ _ _ he ρ w a hE hH)
    · rename_i q p hb
      split at he <;> first | (cases he; done) | skip
      rename_i r hr
      have hb := hevs _ _ hb
      rw [askC_ok hr] at hb
      split at he
      · rename_i hrp
        rw [hrp] at hb
        exact wp_cond_true hb (exec_wp hm hc d _ _ _ _ _ he ρ w a hE hH)
      · rename_i hrp
        rw [hrp] at hb
        exact wp_cond_false hb (exec_wp hm hc e _ _ _ _ _ he ρ w a hE hH)
    · cases he
  | .block id c, env, h, x, env', h', he, ρ, w, a, hE, hH => by
    unfold exec at he
    split at he
    · rename_i j env1 h1 hx
      refine wp_block (wp_mono (exec_wp hm hc c _ _ _ _ _ hx ρ w a hE hH) ?_)
      rintro e a1 w1 ⟨rfl, ρ1, hst, hE1⟩
      split at he
      · rename_i hj
        have hj := Nat.eq_of_beq_eq_true hj
        simp only [Option.some.injEq, Prod.mk.injEq] at he
        obtain ⟨rfl, rfl, rfl⟩ := he
        show (if j = id then _ else _)
        rw [if_pos hj]
        exact ⟨rfl, ρ1, hst, hE1⟩
      · rename_i hj
        simp only [Option.some.injEq, Prod.mk.injEq] at he
        obtain ⟨rfl, rfl, rfl⟩ := he
        show (if j = id then _ else _)
        rw [if_neg (fun hji => by subst hji; simp at hj)]
        exact ⟨rfl, ρ1, hst, hE1⟩
    · rename_i hno
      refine wp_block (wp_mono (exec_wp hm hc c _ _ _ _ _ he ρ w a hE hH) ?_)
      rintro e a1 w1 ⟨rfl, hq⟩
      cases x with
      | normal => exact ⟨rfl, hq⟩
      | exit j => exact absurd he (hno _ _ _)
      | ret => exact ⟨rfl, hq⟩
  | .loop c, env, h, x, env', h', he, ρ, w, a, hE, hH => by
    unfold exec at he
    exact wp_loop_rounds 100000 (iter_wp (exec_wp hm hc c) 100000 _ _ _ _ _ he ρ w a hE hH)
  | .scope c, env, h, x, env', h', he, ρ, w, a, hE, hH => by
    unfold exec at he
    refine wp_scope_straight (wp_mono (exec_wp hm hc c _ _ _ _ _ he ρ w a hE hH) ?_)
    rintro e a1 w1 ⟨rfl, hq⟩
    cases x <;> exact ⟨rfl, hq⟩
  | .exit id, env, h, x, env', h', he, ρ, w, a, hE, hH => by
    simp only [exec, Option.some.injEq, Prod.mk.injEq] at he
    obtain ⟨rfl, rfl, rfl⟩ := he
    exact wp_exit ⟨rfl, ρ, Stp.refl hH, hE⟩
  | .ret, env, h, x, env', h', he, ρ, w, a, hE, hH => by
    simp only [exec, Option.some.injEq, Prod.mk.injEq] at he
    obtain ⟨rfl, rfl, rfl⟩ := he
    exact wp_ret ⟨rfl, ρ, Stp.refl hH, hE⟩
  | .goto _, _, _, _, _, _, he, _, _, _, _, _ => by simp [exec] at he
  | .rangeFunc _ _ _ _, _, _, _, _, _, he, _, _, _, _, _ => by simp [exec] at he
  | .refuse _, _, _, _, _, _, he, _, _, _, _, _ => by simp [exec] at he
/-! results -/
theorem ress_sound {h : AH} {env : T AV} {a : Act} {nx : Nat} {F : ResultVar → Sem Value} (hFt : ∀ t, F (.tmp t) = pure (a.tmps.getD t undef)) (hFc : ∀ c t, F (.cell c t) = (asAddr (a.tmps.getD c undef) >>= fun x => loadVar t x))
    (hH : HR ρ h.get nx w) (hE : ERd ds ρ env nt a) : ∀ {l : List ResultVar} {vs : List AV}, ress P h env l = some vs →
    ∃ xs : List Value, VRs ρ vs xs ∧ (l.mapM F : Sem (List Value)).run P w = .ok xs w
  | [], vs, hr => by
    simp only [ress, Option.some.injEq] at hr
    subst hr
    exact ⟨[], VRs.nil, rfl⟩
  | .tmp t :: l, vs, hr => by
    unfold ress at hr
    split at hr <;> first | (cases hr; done) | skip
    rename_i v hv
    split at hr <;> first | (cases hr; done) | skip
    rename_i us hus
    simp only [Option.some.injEq] at hr
    subst hr
    obtain ⟨x, hx, hxr⟩ := hE.val t v hv
    obtain ⟨xs, h1, h2⟩ := ress_sound hFt hFc hH hE hus
    refine ⟨x :: xs, VRs.cons hxr h1, ?_⟩
    have : a.tmps.getD t undef = x := by simp [hx]
    simp only [List.mapM_cons, Sem.run_bind, Sem.run_pure, Result.andThen_ok, hFt, this, h2]
  | .cell c t :: l, vs, hr => by
    unfold ress at hr
    split at hr <;> first | (cases hr; done) | skip
    rename_i p hp
    split at hr <;> first | (cases hr; done) | skip
    rename_i v hv
    split at hr <;> first | (cases hr; done) | skip
    rename_i us hus
    simp only [Option.some.injEq] at hr
    subst hr
    obtain ⟨y, hy, hyr⟩ := hE.val c p hp
    obtain ⟨xs, h1, h2⟩ := ress_sound hFt hFc hH hE hus
    have hyv : a.tmps.getD c undef = y := by simp [hy]
    have hop : VRs ρ [p] (((Op.load t (.tmp c)).operands.toList).map a.eval) := by
      have : a.eval (.tmp c) = y := by simp [Act.eval, hy]
      simp only [Op.operands, List.map_cons, List.map_nil, this]
      exact VRs.cons hyr VRs.nil
    obtain ⟨x, hx, hrun⟩ := read_sound (o := { (default : Oper) with op := .load t (.tmp c) }) hH hv hop
    obtain ⟨ad, rfl⟩ : ∃ ad, y = .pointer (some ad) := by
      simp only [aread] at hv
      split at hv <;> first | (cases hv; done) | skip
      all_goals (rename_i hh; simp only [List.cons.injEq, and_true] at hh; subst hh)
      · obtain ⟨b, s, _, rfl⟩ := hyr.ptr_inv
        exact ⟨_, rfl⟩
      · unfold VR at hyr
        obtain ⟨_, _, _, rfl⟩ := hyr
        exact ⟨_, rfl⟩
      · unfold VR at hyr
        obtain ⟨_, _, _, _, rfl, _⟩ := hyr
        exact ⟨_, rfl⟩
      · unfold VR at hyr
        exact ⟨_, hyr⟩
    have hload : (loadVar t ad).run P w = .ok x w := by
      have he : a.eval (.tmp c) = .pointer (some ad) := by simp [Act.eval, hy]
      simp only [execOp, he, Instr.loadAt, Instr.sureAddr, Sem.run_bind, Sem.run_pure, Result.andThen_ok] at hrun
      cases hl : (loadVar t ad).run P w with
      | ok x' w' =>
        rw [hl] at hrun
        simp only [Result.andThen_ok, Result.ok.injEq, Next.value.injEq] at hrun
        rw [hrun.1, hrun.2]
      | halt e w' =>
        rw [hl] at hrun
        simp at hrun
    refine ⟨x :: xs, VRs.cons hx h1, ?_⟩
    have hs : (F (.cell c t)).run P w = .ok x w := by
      rw [hFc, hyv, Sem.run_bind]
      exact hload
    simp only [List.mapM_cons, Sem.run_bind, Sem.run_pure, Result.andThen_ok, hs, h2]
theorem results_sound {h : AH} {env : T AV} {a : Act} {nx : Nat} {fn : Func} {vs : List AV} (hH : HR ρ h.get nx w) (hE : ERd ds ρ env nt a) (hr : ress P h env fn.results.toList = some vs) :
    ∃ x, VR ρ (resOf vs) x ∧ (results fn a.tmps).run P w = .ok x w := by
  unfold results
  generalize hF : (fun x : ResultVar => (_ : Sem Value)) = F
  obtain ⟨xs, h1, h2⟩ := ress_sound (F := F) (fun t => by rw [← hF]) (fun c t => by rw [← hF]) hH hE hr
  have hl := h1.len
  have harr : fn.results = fn.results.toList.toArray := by simp
  rw [harr, List.mapM_toArray]
  simp only [Sem.run_bind, Sem.run_map]
  refine ⟨if hh : xs.toArray.size = 1 then xs.toArray[0] else .tuple xs.toArray, ?_, ?_⟩
  · cases vs with
    | nil =>
      simp only [List.length_nil] at hl
      rw [dif_neg (by simp; omega)]
      unfold resOf VR
      exact ⟨_, rfl, by simpa using h1⟩
    | cons v vs =>
      cases vs with
      | nil =>
        obtain ⟨y, rfl, hy⟩ := h1.one
        exact hy
      | cons v' vs =>
        simp only [List.length_cons] at hl
        rw [dif_neg (by simp; omega)]
        unfold resOf VR
        exact ⟨_, rfl, by simpa using h1⟩
  · rw [h2]
    rfl
omit [Nums] in
theorem envOf_get : ∀ {l : List AV} {k : Nat} {t0 : T AV} {t : Nat} {v : AV}, (envOf k l t0).get t = some v → (k ≤ t ∧ l[t - k]? = some v) ∨ t0.get t = some v
  | [], k, t0, t, v, h => .inr h
  | x :: l, k, t0, t, v, h => by
    unfold envOf at h
    rcases envOf_get h with ⟨h1, h2⟩ | h1
    · have h1 : k + 1 ≤ t := h1
      have h2 : l[t - (k + 1)]? = some v := h2
      refine .inl ⟨by omega, ?_⟩
      rw [show t - k = (t - (k + 1)) + 1 from by omega, List.getElem?_cons_succ]
      exact h2
    · rcases T.get_put h1 with ⟨h2, h3⟩ | ⟨_, h3⟩
      · subst h2
        exact .inl ⟨Nat.le_refl _, by rw [Nat.sub_self]; simpa using h3⟩
      · exact .inr h3
/-- memory known before is known behind what left it alone -/
theorem Stp.left {g : Nat → Option AO} {nx : Nat} {w' : World} (h : HR ρ g nx w) (hb : RowKit.Below w.heap.size w w') : Stp ρ g nx w ρ g nx w' := by
  have hT := h.tables (w' := w') (g' := g) (ρ' := ρ) (fun c hc _ => hb.block c hc) (fun m c s1 hm hq => .inr ⟨m, s1, hm, hq⟩)
  refine ⟨⟨h.fresh, fun n o hn => ?_, h.inj, hT.1, hT.2.1, hT.2.2.1, hT.2.2.2⟩, fun _ _ => rfl, Nat.le_refl _, hb.os, hb.tape, hb.output, hb.size, fun b hlt _ => hb.block b hlt, fun n b s hn hp => .inr ⟨n, s, hn, hp⟩, fun _ _ h => h⟩
  obtain ⟨b, s, hp, hO⟩ := h.obj n o hn
  refine ⟨b, s, hp, ?_⟩
  have hlt : b < w.heap.size := by
    rcases Nat.lt_or_ge b w.heap.size with h1 | h1
    · exact h1
    · rw [Array.getElem?_eq_none h1] at hO
      exact hO.notNone.elim
  rw [hb.block b hlt]
  exact hO
mutual
/-- what a value without memory is -/
def valOf (σ : Nat → Int) : AV → Value
  | .bool b => .bool b
  | .int k n => .int k n
  | .sym k e => .int k (e.ev σ)
  | .bsym c p => .bool (c.ev σ == p)
  | .str s => .string s
  | .nilp => .pointer none
  | .nilsl => .slice none 0 0
  | .nilmap => .map none
  | .nilfn => .nilFunc
  | .nilif => .nilIface
  | .agg l => .agg (valsOf σ l).toArray
  | .tup l => .tuple (valsOf σ l).toArray
  | _ => undef
def valsOf (σ : Nat → Int) : List AV → List Value
  | [] => []
  | v :: l => valOf σ v :: valsOf σ l
end
mutual
theorem VR.shut : ∀ {v : AV} {x : Value}, VR ρ v x → v.shut = true → x = valOf Nums.σ v
  | .bool _, _, h, _ => by unfold VR at h; exact h
  | .int _ _, _, h, _ => by unfold VR at h; exact h
  | .sym _ _, _, h, _ => by unfold VR at h; exact h
  | .bsym _ _, _, h, _ => by unfold VR at h; exact h
  | .eptr .., _, _, h => by cases h
  | .dsl .., _, _, h => by cases h
  | .rsl _, _, _, h => by cases h
  | .ssl .., _, _, h => by cases h
  | .rptr _ _, _, _, h => by cases h
  | .str _, _, h, _ => by unfold VR at h; exact h
  | .nilp, _, h, _ => by unfold VR at h; exact h
  | .ptr _ _, _, _, h => by cases h
  | .gptr _ _, _, _, h => by cases h
  | .nilsl, _, h, _ => by unfold VR at h; exact h
  | .sl .., _, _, h => by cases h
  | .esl _, _, _, h => by cases h
  | .zsl, _, _, h => by cases h
  | .osl _, _, _, h => by cases h
  | .nilmap, _, h, _ => by unfold VR at h; exact h
  | .map _, _, _, h => by cases h
  | .fn _ _ _, _, _, h => by cases h
  | .nilfn, _, h, _ => by unfold VR at h; exact h
  | .nilif, _, h, _ => by unfold VR at h; exact h
  | .ifc _ _, _, _, h => by cases h
  | .agg l, _, h, hs => by
    unfold VR at h
    obtain ⟨a, rfl, h⟩ := h
    have := VRs.shut h hs
    unfold valOf
    rw [← this]
  | .tup l, _, h, hs => by
    unfold VR at h
    obtain ⟨a, rfl, h⟩ := h
    have := VRs.shut h hs
    unfold valOf
    rw [← this]
theorem VRs.shut : ∀ {l : List AV} {m : List Value}, VRs ρ l m → AV.shuts l = true → m = valsOf Nums.σ l
  | [], _, h, _ => by unfold VRs at h; exact h
  | v :: l, _, h, hs => by
    obtain ⟨y, ys, rfl, h1, h2⟩ := h.uncons
    unfold AV.shuts at hs
    split at hs
    · rename_i hv
      unfold valsOf
      rw [VR.shut h1 hv, VRs.shut h2 hs]
    · cases hs
end
mutual
theorem VR.ofShut : ∀ {v : AV}, v.shut = true → VR ρ v (valOf Nums.σ v)
  | .bool _, _ => by unfold VR valOf; rfl
  | .int _ _, _ => by unfold VR valOf; rfl
  | .sym _ _, _ => by unfold VR valOf; rfl
  | .bsym _ _, _ => by unfold VR valOf; rfl
  | .eptr .., h => by cases h
  | .dsl .., h => by cases h
  | .rsl _, h => by cases h
  | .ssl .., h => by cases h
  | .rptr _ _, h => by cases h
  | .str _, _ => by unfold VR valOf; rfl
  | .nilp, _ => by unfold VR valOf; rfl
  | .ptr _ _, h => by cases h
  | .gptr _ _, h => by cases h
  | .nilsl, _ => by unfold VR valOf; rfl
  | .sl .., h => by cases h
  | .esl _, h => by cases h
  | .zsl, h => by cases h
  | .osl _, h => by cases h
  | .nilmap, _ => by unfold VR valOf; rfl
  | .map _, h => by cases h
  | .fn _ _ _, h => by cases h
  | .nilfn, _ => by unfold VR valOf; rfl
  | .nilif, _ => by unfold VR valOf; rfl
  | .ifc _ _, h => by cases h
  | .agg l, h => by unfold VR valOf; exact ⟨_, rfl, VRs.ofShut h⟩
  | .tup l, h => by unfold VR valOf; exact ⟨_, rfl, VRs.ofShut h⟩
theorem VRs.ofShut : ∀ {l : List AV}, AV.shuts l = true → VRs ρ l (valsOf Nums.σ l)
  | [], _ => by unfold valsOf; exact VRs.nil
  | v :: l, hs => by
    unfold AV.shuts at hs
    split at hs
    · rename_i hv
      unfold valsOf
      exact VRs.cons (VR.ofShut hv) (VRs.ofShut hs)
    · cases hs
end
/-- calls that are known -/
def OvOk (P : Program) (gs : List (Nat × List Int)) (σ : Nat → Int) (ov : Ov) : Prop := ∀ f xs v, (f, xs, v) ∈ ov →
  AV.shuts xs = true ∧ v.shut = true ∧ FnOk P f ∧ ∀ w, Tabs gs w → Calls P f (valsOf σ xs).toArray w fun e w' => e = .returned (valOf σ v) ∧ RowKit.Below w.heap.size w w'
omit [Nums] in
theorem ovAt_mem {f : FuncId} {args : List AV} {v : AV} : ∀ {ov : Ov}, ovAt f args ov = some v → (f, args, v) ∈ ov
  | [], h => by cases h
  | (g, xs, u) :: l, h => by
    unfold ovAt at h
    split at h
    · rename_i hg
      have hg := Nat.eq_of_beq_eq_true hg
      split at h
      · rename_i ha
        have ha := AV.beqs_eq ha
        simp only [Option.some.injEq] at h
        subst hg ha h
        exact List.mem_cons_self
      · exact List.mem_cons_of_mem _ (ovAt_mem h)
    · exact List.mem_cons_of_mem _ (ovAt_mem h)
theorem condsOk_mem : ∀ {l : List (Cnd × Bool)}, condsOk l = true → ∀ c ∈ l, c.1.ev Nums.σ = c.2
  | [], _, c, hc => by cases hc
  | (.lt a b, r) :: l, h, c, hc => by
    unfold condsOk at h
    split at h <;> first | (cases h; done) | skip
    rename_i q hq
    split at h <;> first | (cases h; done) | skip
    rename_i hqr
    rcases List.mem_cons.1 hc with rfl | hc
    · show decide _ = r
      rw [askLt_ok hq]
      simpa using hqr
    · exact condsOk_mem h c hc
  | (.eq a b, r) :: l, h, c, hc => by
    unfold condsOk at h
    split at h <;> first | (cases h; done) | skip
    rename_i q hq
    split at h <;> first | (cases h; done) | skip
    rename_i hqr
    rcases List.mem_cons.1 hc with rfl | hc
    · show (_ == _) = r
      rw [askEq_ok hq]
      simpa using hqr
    · exact condsOk_mem h c hc
/-- .. whatever must be known of numbers, and whatever becomes of blocks of which nothing is known -/
def KnOk (P : Program) (kn : List Kn) : Prop := ∀ k ∈ kn, (∀ c ∈ k.conds, c.1.ev Nums.σ = c.2) → FnOk P k.f ∧ ∀ (ρ : Ren) (h h' : AH) (w : World) (args' : Array Value), effDo h k.effs = some h' → HR ρ h.get h.next w → VRs ρ k.args args'.toList →
  Calls P k.f args' w fun e w' => ∃ x, e = .returned x ∧ VR ρ k.res x ∧ Stp ρ h.get h.next w ρ h'.get h'.next w'
theorem knAt_mem {f : FuncId} {args : List AV} {h h' : AH} {v : AV} : ∀ {kn : List Kn}, knAt f args h kn = some (v, h') → ∃ k ∈ kn, k.f = f ∧ args = k.args ∧ (∀ c ∈ k.conds, c.1.ev Nums.σ = c.2) ∧ effDo h k.effs = some h' ∧ k.res = v
  | [], hk => by cases hk
  | k :: l, hk => by
    have hrest : knAt f args h l = some (v, h') → ∃ k' ∈ k :: l, k'.f = f ∧ args = k'.args ∧ (∀ c ∈ k'.conds, c.1.ev Nums.σ = c.2) ∧ effDo h k'.effs = some h' ∧ k'.res = v := fun hl => by
      obtain ⟨k', h1, h2⟩ := knAt_mem hl
      exact ⟨k', List.mem_cons_of_mem _ h1, h2⟩
    unfold knAt at hk
    split at hk
    · exact hrest hk
    · rename_i hf
      split at hk
      · exact hrest hk
      · rename_i ha
        split at hk
        · exact hrest hk
        · rename_i hc
          split at hk
          · rename_i h1 he
            simp only [Option.some.injEq, Prod.mk.injEq] at hk
            obtain ⟨rfl, rfl⟩ := hk
            exact ⟨k, List.mem_cons_self, Nat.eq_of_beq_eq_true hf, AV.beqs_eq ha, condsOk_mem hc, he, rfl⟩
          · exact hrest hk
theorem kn_nil : KnOk P [] := fun k hk => by cases hk
theorem callN_sound (hm : P.follows .mixedOrders = true) {ov : Ov} (hov : OvOk P Fc.globs Nums.σ ov) {kn : List Kn} (hkn : KnOk P kn) : ∀ n, CallS P (callN P ov kn n)
  | 0 => fun f args h v h' he => by simp [callN] at he
  | n + 1 => fun f args h v h' he => by
    unfold callN at he
    split at he
    · rename_i u hf
      obtain ⟨ha, hu, h1, h2⟩ := hov _ _ _ (ovAt_mem hf)
      simp only [Option.some.injEq, Prod.mk.injEq] at he
      obtain ⟨rfl, rfl⟩ := he
      refine ⟨h1, fun ρ w args' hH hargs => ?_⟩
      have hargs := VRs.shut hargs ha
      have hargs : args' = (valsOf Nums.σ args).toArray := by rw [← hargs]
      subst hargs
      refine (h2 w hH.gl).mono ?_
      rintro e w' ⟨rfl, hb⟩
      exact ⟨ρ, _, rfl, VR.ofShut hu, Stp.left hH hb⟩
    split at he
    · rename_i r hk
      simp only [Option.some.injEq] at he
      subst he
      obtain ⟨k, hmem, rfl, rfl, hcs, heff, rfl⟩ := knAt_mem hk
      obtain ⟨h1, h2⟩ := hkn k hmem hcs
      exact ⟨h1, fun ρ w args' hH hargs => (h2 ρ _ _ w args' heff hH hargs).mono fun e w' ⟨x, hx, hv, hst⟩ => ⟨ρ, x, hx, hv, hst⟩⟩
    split at he <;> first | (cases he; done) | skip
    rename_i fn hf
    split at he <;> first | (cases he; done) | skip
    rename_i hname
    split at he <;> first | (cases he; done) | skip
    rename_i c hb
    split at he <;> first | (cases he; done) | skip
    rename_i hle
    rw [Bool.and_eq_true] at hle
    have hle := Nat.le_of_ble_eq_true hle.1
    refine ⟨⟨fn, c, hf, hname, hb⟩, fun ρ w args' hH hargs => ?_⟩
    have hal : args.length = args'.size := by simpa using hargs.len
    have hE : ER ρ (envOf 0 args .e) fn.ntmps { tmps := args' ++ Array.replicate (fn.ntmps - args'.size) undef, defers := [] } := by
      refine ⟨rfl, by simp; omega, fun t v hv => ?_⟩
      rcases envOf_get hv with ⟨_, h1⟩ | h1
      · rw [Nat.sub_zero] at h1
        obtain ⟨x, hx, hr⟩ := hargs.get h1
        refine ⟨x, ?_, hr⟩
        have hlt := (List.getElem?_eq_some_iff.1 hx).1
        rw [Array.getElem?_append_left (by simpa using hlt)]
        simpa using hx
      · rw [T.get_e] at h1; cases h1
    split at he <;> first | (cases he; done) | skip
    rename_i x env' h1 hno hx
    split at he <;> first | (cases he; done) | skip
    rename_i vs hvs
    simp only [Option.some.injEq, Prod.mk.injEq] at he
    obtain ⟨rfl, rfl⟩ := he
    refine calls_of_wp hf hb (wp_mono (exec_wp hm (callN_sound hm hov hkn n) c _ _ _ _ _ hx ρ w _ hE hH) ?_)
    rintro e a1 w1 ⟨rfl, ρ1, hst, hE1⟩
    obtain ⟨y, hy, hrun⟩ := results_sound (fn := fn) hst.hr hE1 hvs
    cases x with
    | exit id => exact absurd rfl (hno id)
    | normal => exact ⟨hE1.dz, y, hrun, ρ1, y, rfl, hy, hst⟩
    | ret => exact ⟨hE1.dz, y, hrun, ρ1, y, rfl, hy, hst⟩
omit [Nums] in
theorem AH.get_e {n k : Nat} : (AH.mk .e k).get n = none := T.getP_e _
theorem ros_nil {w : World} (h : Fc.rks = []) : Ros w := fun i k A len c hk => by rw [h] at hk; cases hk
/-- A CALL, BY THE RUNNER -/
theorem runs_calls (hm : P.follows .mixedOrders = true) {ov : Ov} (hov : OvOk P Fc.globs Nums.σ ov) {n : Nat} {f : FuncId} {args : List AV} {v : AV} (h : runs P ov n f args v = true) (ha : AV.shuts args = true) (hv : v.shut = true) (w : World) (hg : Tabs Fc.globs w) (hro : Ros w) :
    Calls P f (valsOf Nums.σ args).toArray w fun e w' => e = .returned (valOf Nums.σ v) ∧ RowKit.Below w.heap.size w w' := by
  unfold runs at h
  split at h <;> first | (cases h; done) | skip
  rename_i u h' hc
  have h := AV.beq_eq h
  subst h
  have hH : HR (fun _ => none) (AH.mk .e 0).get (AH.mk .e 0).next w := ⟨fun _ _ => rfl, (fun n o hn => by rw [AH.get_e] at hn; cases hn), (fun n m b s s' hn => by rw [AH.get_e] at hn; cases hn), hg, (fun b l _ n s hn => by rw [AH.get_e] at hn; cases hn), hro, (fun b _ n s hn => by rw [AH.get_e] at hn; cases hn)⟩
  refine ((callN_sound hm hov kn_nil n _ _ _ _ _ hc).2 (fun _ => none) w _ hH (VRs.ofShut ha)).mono ?_
  rintro e w' ⟨ρ', x, rfl, hx, hst⟩
  exact ⟨by rw [VR.shut hx hv], hst.os, hst.tape, hst.output, hst.size, fun b hb => hst.block b hb fun n s hn => by rw [AH.get_e] at hn; cases hn⟩
omit [Nums] in
theorem heap2_get {s n : Nat} {o : AO} (h : (heap2 s).get n = some o) : (n = 0 ∧ o = .opq (2 * s)) ∨ (n = 1 ∧ o = .opq (2 * s + 1)) := by
  unfold heap2 AH.get at h
  rcases T.get_put h with ⟨rfl, h⟩ | ⟨h1, h⟩
  · exact .inr ⟨rfl, by cases h; rfl⟩
  · rcases T.get_put h with ⟨rfl, h⟩ | ⟨h2, h⟩
    · exact .inl ⟨rfl, by cases h; rfl⟩
    · rw [T.get_e] at h; cases h
/-- what two blocks of which nothing is known are behind a call, and all others -/
structure Two (w w' : World) (b0 b1 : Nat) (o0 o1 : Obj) : Prop where
  os : w'.os = w.os
  tape : w'.tape = w.tape
  output : w'.output = w.output
  size : w.heap.size ≤ w'.heap.size
  block : ∀ b, b < w.heap.size → b ≠ b0 → b ≠ b1 → w'.heap[b]? = w.heap[b]?
  at0 : w'.heap[b0]? = some o0
  at1 : w'.heap[b1]? = some o1
def ren2 (b0 b1 : Nat) : Ren := fun n => match n with
  | 0 => some (b0, 0)
  | 1 => some (b1, 0)
  | _ => none
omit [Nums] in
theorem isOpq_get {h : AH} {n i : Nat} (hq : isOpq h n i = true) : h.get n = some (.opq i) := by
  unfold isOpq at hq
  split at hq
  · rename_i j hj
    rw [hj, Nat.eq_of_beq_eq_true hq]
  · cases hq
/-- A CALL AMID TWO BLOCKS OF WHICH NOTHING IS KNOWN, BY THE RUNNER -/
theorem runs2_calls (hm : P.follows .mixedOrders = true) {ov : Ov} (hov : OvOk P Fc.globs Nums.σ ov) {kn : List Kn} (hkn : KnOk P kn) {n : Nat} {f : FuncId} {xs : List AV} {s0 s : Nat} {v : AV} (h : runs2 P ov kn n f (.ptr 0 0 :: xs) s0 v s = true) (ha : AV.shuts xs = true) (hv : v.shut = true)
    (w : World) (hg : Tabs Fc.globs w) (hro : Fc.rks = []) {b0 b1 : Nat} (hb : b0 ≠ b1) (h0 : w.heap[b0]? = some (Nums.ω (2 * s0) b0 b1)) (h1 : w.heap[b1]? = some (Nums.ω (2 * s0 + 1) b0 b1)) (hgn : ∀ b l, findG b Fc.globs = some l → b ≠ b0 ∧ b ≠ b1) :
    Calls P f (.pointer (some ⟨b0, 0, none⟩) :: valsOf Nums.σ xs).toArray w fun e w' => e = .returned (valOf Nums.σ v) ∧ Two w w' b0 b1 (Nums.ω (2 * s) b0 b1) (Nums.ω (2 * s + 1) b0 b1) := by
  unfold runs2 at h
  split at h <;> first | (cases h; done) | skip
  rename_i u h' hc
  rw [Bool.and_eq_true, Bool.and_eq_true] at h
  obtain ⟨hu, q0, q1⟩ := h
  have hu := AV.beq_eq hu
  subst hu
  have q0 := isOpq_get q0
  have q1 := isOpq_get q1
  have hH : HR (ren2 b0 b1) (heap2 s0).get (heap2 s0).next w := by
    refine ⟨fun n hn => ?_, fun n o ho => ?_, fun n m b s s' hn hm hp hq => ?_, hg, fun b l hf n s hn hp => ?_, (fun i k A len c hk => by rw [hro] at hk; cases hk), fun b ⟨i, k, a, len, c, hk, _⟩ => by rw [hro] at hk; cases hk⟩
    · have : 2 ≤ n := hn
      match n, this with
      | n + 2, _ => rfl
    · rcases heap2_get ho with ⟨rfl, rfl⟩ | ⟨rfl, rfl⟩
      · exact ⟨b0, 0, rfl, b0, 0, b1, 0, rfl, rfl, h0⟩
      · exact ⟨b1, 0, rfl, b0, 0, b1, 0, rfl, rfl, h1⟩
    · obtain ⟨o1, ho1⟩ := Option.isSome_iff_exists.1 hn
      obtain ⟨o2, ho2⟩ := Option.isSome_iff_exists.1 hm
      rcases heap2_get ho1 with ⟨rfl, _⟩ | ⟨rfl, _⟩ <;> rcases heap2_get ho2 with ⟨rfl, _⟩ | ⟨rfl, _⟩
      · rfl
      · simp only [ren2, Option.some.injEq, Prod.mk.injEq] at hp hq
        exact absurd (hp.1.trans hq.1.symm) hb
      · simp only [ren2, Option.some.injEq, Prod.mk.injEq] at hp hq
        exact absurd (hq.1.trans hp.1.symm) hb
      · rfl
    · obtain ⟨o1, ho1⟩ := Option.isSome_iff_exists.1 hn
      have := hgn b l hf
      rcases heap2_get ho1 with ⟨rfl, _⟩ | ⟨rfl, _⟩
      · simp only [ren2, Option.some.injEq, Prod.mk.injEq] at hp
        exact this.1 hp.1.symm
      · simp only [ren2, Option.some.injEq, Prod.mk.injEq] at hp
        exact this.2 hp.1.symm
  refine ((callN_sound hm hov hkn n _ _ _ _ _ hc).2 (ren2 b0 b1) w (.pointer (some ⟨b0, 0, none⟩) :: valsOf Nums.σ xs).toArray hH (VRs.cons (by unfold VR; exact ⟨b0, 0, rfl, rfl⟩) (VRs.ofShut ha))).mono ?_
  rintro e w' ⟨ρ', x, rfl, hx, hst⟩
  have e0 : ρ' 0 = some (b0, 0) := (hst.ext 0 (show 0 < 2 by omega)).trans rfl
  have e1 : ρ' 1 = some (b1, 0) := (hst.ext 1 (show 1 < 2 by omega)).trans rfl
  obtain ⟨c0, t0, p0, r0⟩ := hst.hr.obj 0 _ q0
  obtain ⟨c1, t1, p1, r1⟩ := hst.hr.obj 1 _ q1
  rw [e0] at p0
  rw [e1] at p1
  cases p0
  cases p1
  obtain ⟨_, _, _, _, k0, k1, r0⟩ := r0
  rw [e0] at k0
  rw [e1] at k1
  cases k0
  cases k1
  obtain ⟨_, _, _, _, k0, k1, r1⟩ := r1
  rw [e0] at k0
  rw [e1] at k1
  cases k0
  cases k1
  refine ⟨by rw [VR.shut hx hv], hst.os, hst.tape, hst.output, hst.size, fun b hb' n0 n1 => hst.block b hb' fun n s hn hp => ?_, r0, r1⟩
  obtain ⟨o1, ho1⟩ := Option.isSome_iff_exists.1 hn
  rcases heap2_get ho1 with ⟨rfl, _⟩ | ⟨rfl, _⟩
  · simp only [ren2, Option.some.injEq, Prod.mk.injEq] at hp
    exact n0 hp.1.symm
  · simp only [ren2, Option.some.injEq, Prod.mk.injEq] at hp
    exact n1 hp.1.symm
end
end
end Go.Proofs.YtfgomgodfcdijaaGreatDoor.Ex
