/-
  Texts of this claim, joined. No condition.
-/
import Derived.Test.YtmfemophafncnaaFt5
import Derived.Deep.Slices
import Derived.Maps.AppendAt
import Derived.Laws.AppendOwnNone
import Derived.Lib.SliceRun
import Derived.Deep.DeepCutAuto
import Derived.Deep.CutBlock
import Derived.Test.YtmfemophafncnaaRows
import Derived.Laws.BitsAllLaws
/-
  The runner: a function's text, run question by question, as a known call of another one. No condition.
-/
namespace Go.Proofs.Ytmfemophafncnaa.Ex
open Go
mutual
theorem AV.sub_e : ∀ v : AV, v.sub {} = v
  | .sym k e => by unfold AV.sub; rw [show e.sub {} = e from SE.sub_n [] e]
  | .bsym c p => by unfold AV.sub; rw [show c.sub {} = c from Cnd.sub_n [] c]
  | .ptr n off => by unfold AV.sub; rfl
  | .eptr n e s j => by unfold AV.sub; rw [show e.sub {} = e from SE.sub_n [] e]; rfl
  | .dsl n e s => by unfold AV.sub; rw [show e.sub {} = e from SE.sub_n [] e]; rfl
  | .ssl n e l s => by unfold AV.sub; rw [show e.sub {} = e from SE.sub_n [] e]; rfl
  | .rptr i e => by unfold AV.sub; rw [show e.sub {} = e from SE.sub_n [] e]
  | .sl n off len sz r => by unfold AV.sub; rfl
  | .map n => by unfold AV.sub; rfl
  | .fn f a b => by unfold AV.sub; rw [AV.subs_e a, AV.subs_e b]
  | .ifc t v => by unfold AV.sub; rw [AV.sub_e v]
  | .agg l => by unfold AV.sub; rw [AV.subs_e l]
  | .tup l => by unfold AV.sub; rw [AV.subs_e l]
  | .bool _ => by unfold AV.sub; rfl
  | .int _ _ => by unfold AV.sub; rfl
  | .str _ => by unfold AV.sub; rfl
  | .nilp => by unfold AV.sub; rfl
  | .gptr _ _ => by unfold AV.sub; rfl
  | .nilsl => by unfold AV.sub; rfl
  | .esl _ => by unfold AV.sub; rfl
  | .zsl => by unfold AV.sub; rfl
  | .osl e => by unfold AV.sub; rw [show e.sub {} = e from SE.sub_n [] e]
  | .rsl i => by unfold AV.sub; rfl
  | .nilmap => by unfold AV.sub; rfl
  | .nilfn => by unfold AV.sub; rfl
  | .nilif => by unfold AV.sub; rfl
theorem AV.subs_e : ∀ l : List AV, AV.subs {} l = l
  | [] => by unfold AV.subs; rfl
  | v :: l => by unfold AV.subs; rw [AV.sub_e v, AV.subs_e l]
end
theorem TB.sub_e (t : TB) : t.sub {} = t := by
  cases t with
  | cells l e => show TB.cells (AV.subs {} l) e = _; rw [AV.subs_e]
  | recs l ks e => show TB.recs (l.sub {}) ks e = _; rw [show l.sub {} = l from SE.sub_n [] l]
  | opb i n m => rfl
def subH (θ : Sub) (pre : List (Nat × TB)) : List (Nat × TB) := pre.map fun p => (p.1, p.2.sub θ)
theorem notIn_subH {θ : Sub} (hn : θ.n = []) {n : Nat} : ∀ {pre : List (Nat × TB)}, notIn {} n (subH θ pre) = true → notIn θ n pre = true
  | [], _ => rfl
  | (m, t) :: l, h => by
    have e1 : θ.nAt m = m := by unfold Sub.nAt; rw [hn]; rfl
    unfold subH at h
    rw [List.map_cons] at h
    unfold notIn at h ⊢
    rw [e1]
    have e2 : ({} : Sub).nAt m = m := rfl
    dsimp only at h
    rw [e2] at h
    split at h
    · cases h
    · exact notIn_subH hn h
theorem fitH_subH [Fc] {θ : Sub} (hn : θ.n = []) {h : AH} : ∀ {pre : List (Nat × TB)}, fitH {} h (subH θ pre) = true → fitH θ h pre = true
  | [], _ => rfl
  | (m, t) :: l, hf => by
    have e1 : θ.nAt m = m := by unfold Sub.nAt; rw [hn]; rfl
    unfold subH at hf
    rw [List.map_cons] at hf
    unfold fitH at hf ⊢
    rw [e1]
    have e2 : ({} : Sub).nAt m = m := rfl
    dsimp only at hf
    rw [e2] at hf
    split at hf
    · rename_i a ha
      rw [TB.sub_e] at hf
      rw [Bool.and_eq_true, Bool.and_eq_true] at hf ⊢
      exact ⟨hf.1, notIn_subH hn hf.2.1, fitH_subH hn hf.2.2⟩
    · cases hf
/-- new blocks, where they came to be -/
def newsAt (θ : Sub) : Nat → List TB → List (Nat × TB)
  | _, [] => []
  | i, t :: l => (θ.nAt (Nat.add rel i), t.sub θ) :: newsAt θ (Nat.add i 1) l
def leafPost (k : Kc) (θ : Sub) : List (Nat × TB) := subH θ k.post ++ newsAt θ 0 k.news
/-- an end of a text that is a known call -/
def Kc.leaf (k : Kc) (θ : Sub) : CT := .is (k.res.sub θ) (leafPost k θ)
theorem newsAt_mem {θ : Sub} : ∀ {l : List TB} {i j : Nat} {t : TB}, l[j]? = some t → (θ.nAt (rel + (i + j)), t.sub θ) ∈ newsAt θ i l
  | [], _, _, _, h => by simp at h
  | x :: l, i, 0, t, h => by
    simp only [List.getElem?_cons_zero, Option.some.injEq] at h
    subst h
    exact List.mem_cons_self
  | x :: l, i, j + 1, t, h => by
    have := newsAt_mem (θ := θ) (i := i + 1) (j := j) (t := t) (l := l) (by simpa using h)
    rw [show i + 1 + j = i + (j + 1) from by omega] at this
    exact List.mem_cons_of_mem _ this
def noOpb : TB → Bool
  | .opb _ _ _ => false
  | _ => true
def keptN (θ : Sub) : List (Nat × TB) → Bool
  | [] => true
  | (n, _) :: l => Nat.beq (θ.nAt n) n && keptN θ l
/-- the new names are other ones, and new -/
def newN (θ : Sub) (kn : Nat) : Nat → Nat → Bool
  | _, 0 => true
  | i, n + 1 => Nat.ble kn (θ.nAt (rel + i)) && ((List.range i).all (fun j => !(Nat.beq (θ.nAt (rel + j)) (θ.nAt (rel + i)))) && newN θ kn (i + 1) n)
def okR (pre : List (Nat × TB)) (m : Nat) (n : Nat) : Bool := hasN n pre || (Nat.ble rel n && Nat.blt n (rel + m))
/-- an end is as it must be -/
def leafOk (k : Kc) (pre : List (Nat × TB)) (kn : Nat) (θ : Sub) (B : Bd) : Bool :=
  (keptN θ pre && newN θ kn 0 k.news.length) && ((AV.bd B k.res && (bdH B k.post && k.news.all (TB.bd B))) && Nat.ble (rel + k.news.length) B.kn)
def kcForm (k : Kc) (pre : List (Nat × TB)) (B0 : Bd) (A : List AV) : Bool :=
  ((AV.bds B0 A && bdH B0 pre) && Nat.ble B0.kn rel) && ((AV.nm (okR pre k.news.length) k.res && nmH (okR pre k.news.length) k.post) && k.news.all fun t => TB.nm (okR pre k.news.length) t && noOpb t)
theorem keptN_mem {θ : Sub} : ∀ {l : List (Nat × TB)}, keptN θ l = true → ∀ p ∈ l, θ.nAt p.1 = p.1
  | [], _, p, hp => by cases hp
  | (n, t) :: l, h, p, hp => by
    unfold keptN at h
    rw [Bool.and_eq_true] at h
    rcases List.mem_cons.1 hp with rfl | hp
    · exact Nat.eq_of_beq_eq_true h.1
    · exact keptN_mem h.2 p hp
theorem newN_ok {θ : Sub} {kn : Nat} : ∀ {n i : Nat}, newN θ kn i n = true → ∀ j, i ≤ j → j < i + n → kn ≤ θ.nAt (rel + j) ∧ ∀ a, a < j → θ.nAt (rel + a) ≠ θ.nAt (rel + j)
  | 0, i, _, j, h1, h2 => by omega
  | n + 1, i, h, j, h1, h2 => by
    unfold newN at h
    rw [Bool.and_eq_true, Bool.and_eq_true] at h
    rcases Nat.lt_or_ge i j with hlt | hge
    · exact newN_ok h.2.2 j (by omega) (by omega)
    · have : j = i := by omega
      subst this
      refine ⟨Nat.le_of_ble_eq_true h.1, fun a ha he => ?_⟩
      have := List.all_eq_true.1 h.2.1 a (List.mem_range.2 ha)
      rw [he] at this
      simp at this
theorem TR.names {N : Nums} {ρ ρ' : Ren} {p : Nat → Bool} (hp : ∀ n, p n = true → ρ' n = ρ n) {t : TB} {s : Nat} {x : Option Obj} (hn : TB.nm p t = true) (h : @TR N ρ t s x) : @TR N ρ' t s x := by
  cases t with
  | cells l e =>
    obtain ⟨cur, h1, h2, h3, h4⟩ := h
    exact ⟨cur, h1, h2, h3, fun i v hv => by
      obtain ⟨h5, y, h6, h7⟩ := h4 i v hv
      exact ⟨h5, y, h6, VR.names hp (nms_get hn hv) h7⟩⟩
  | recs l ks e => exact h
  | opb i n m =>
    unfold TB.nm at hn
    rw [Bool.and_eq_true] at hn
    obtain ⟨b0, z0, b1, z1, o, h0, h1, h2, h3⟩ := h
    exact ⟨b0, z0, b1, z1, o, by rw [hp _ hn.1]; exact h0, by rw [hp _ hn.2]; exact h1, h2, h3⟩
theorem TR.size {N : Nums} {ρ : Ren} {t : TB} {s : Nat} {o : Obj} (h : @TR N ρ t s (some o)) (hn : noOpb t = true) : s = objSize o := by
  cases t with
  | cells l e => obtain ⟨cur, h1, h2, _⟩ := h; cases h1; exact h2.symm
  | recs l ks e => obtain ⟨cur, h1, h2, _⟩ := h; cases h1; exact h2.symm
  | opb i n m => cases hn
section
variable {P : Program} {gs : List (Nat × List Int)} {rks : List (Nat × CK)} {ro : Nat → Option (Option Addr × Nat × Nat)} {σ1 σ2 : Nat → Int} {Ω1 Ω2 : Nat → Nat → Nat → Obj → Prop}
set_option maxHeartbeats 1000000 in
/-- A FUNCTION'S TEXT, AS A KNOWN CALL: read by numbers of its own -/
theorem kc_tree (hm : P.follows .mixedOrders = true) {k : Kc} {A : List AV} {pre : List (Nat × TB)} {B0 : Bd} {θ0 : Sub} {kcs : Kg} {lns : List Ln} {n : Nat} {d : CT} {fs1 : List (Cnd × Bool)}
    (hf : FnOk P k.f) (hpre : k.pre = subH θ0 pre) (hargs : k.args = AV.subs θ0 A) (hθ : θ0.n = []) (hpost : k.post.map (·.1) = pre.map (·.1)) (hform : kcForm k pre B0 A = true)
    (hk : KcAll gs rks ro P σ1 Ω1 kcs) (hl : LnAll gs rks ro P k.f σ1 Ω1 lns) (ok1 : ∀ f ∈ fs1, f.1.ev σ1 = f.2) (h : treeC P gs rks kcs lns n k.f A ⟨[], pre, B0⟩ d fs1 = true)
    (ag0 : AgreeD θ0 B0 ro σ2 Ω2 σ1 Ω1) (hr : RunC σ1 (fun v post => ∃ θ B, v = k.res.sub θ ∧ post = leafPost k θ ∧ leafOk k pre B0.kn θ B = true ∧ AgreeD θ B ro σ1 Ω1 σ2 Ω2) d)
    (fs : List (Cnd × Bool)) (ok : ∀ f ∈ fs, f.1.ev σ2 = f.2) : @KcOk (nums gs rks ro σ2 Ω2 fs ok) P k := by
  letI N2 : Nums := nums gs rks ro σ2 Ω2 fs ok
  unfold kcForm at hform
  simp only [Bool.and_eq_true] at hform
  obtain ⟨⟨⟨hbA, hbH⟩, hkn⟩, ⟨hnr, hnp⟩, hnn⟩ := hform
  have hkn := Nat.le_of_ble_eq_true hkn
  have hpreN : ∀ p ∈ pre, p.1 < B0.kn := fun p hp => (bdH_mem hbH p hp).1
  have hn0 : ∀ i, θ0.nAt i = i := fun i => by unfold Sub.nAt; rw [hθ]; rfl
  have postN : ∀ p ∈ k.post, ∃ t, (p.1, t) ∈ pre := fun p hp => by
    have : p.1 ∈ pre.map (·.1) := by rw [← hpost]; exact List.mem_map.2 ⟨p, hp, rfl⟩
    obtain ⟨q, hq, he⟩ := List.mem_map.1 this
    exact ⟨q.2, by rw [← he]; exact hq⟩
  have preN : ∀ p ∈ pre, ∃ t, (p.1, t) ∈ k.post := fun p hp => by
    have : p.1 ∈ k.post.map (·.1) := by rw [hpost]; exact List.mem_map.2 ⟨p, hp, rfl⟩
    obtain ⟨q, hq, he⟩ := List.mem_map.1 this
    exact ⟨q.2, by rw [← he]; exact hq⟩
  refine kc_ownH hf (fun p hp => ?_) (fun p hp => ?_) fun _ ρ W w m args' bs hh hH hfit hF ha hO => ?_
  · obtain ⟨t, ht⟩ := postN p hp
    exact ⟨t.sub θ0, by rw [hpre]; exact List.mem_map.2 ⟨_, ht, rfl⟩⟩
  · rw [hpre] at hp
    obtain ⟨q, hq, rfl⟩ := List.mem_map.1 hp
    exact Nat.lt_of_lt_of_le (hpreN q hq) hkn
  -- the state, read anew
  have ag := AgreeD.agree gs rks ro ag0 ok ok1
  have hfits : @Tm.fits N2.toFc ⟨[], pre, B0⟩ θ0 .e hh = true := by
    unfold Tm.fits Tm.ok
    simp only [Bool.and_eq_true]
    refine ⟨⟨rfl, hbH, Nat.ble_eq_true_of_le (Nat.le_trans hkn (by unfold rel; omega))⟩, rfl, ?_⟩
    rw [hpre] at hfit
    exact @fitH_subH N2.toFc _ hθ _ _ hfit
  obtain ⟨-, hH1, hdom⟩ := Tm.re (nt := 0) (a := { tmps := #[], defers := [] }) hfits ag (@ER.mk N2 ρ .e 0 _ rfl rfl fun t v hv => by rw [T.get_e] at hv; cases hv) hH
  have hA1 : @VRs (nums gs rks ro σ1 Ω1 fs1 ok1) (reN ⟨[], pre, B0⟩ θ0 ρ) A args'.toList := by
    rw [hargs] at ha
    exact VRs.sub ag (fun n hn => by simp [reN, hn]) hbA ha
  refine (treeC_calls hm hk hl d fs1 ok1 h hr hH1 hA1).mono ?_
  rintro e w' ⟨fs', ok', v, post, ρ', x, h', ⟨θ, B, rfl, rfl, hlo, agx⟩, rfl, hv, hst, hp⟩
  have ag' := AgreeD.agree gs rks ro agx ok' ok
  unfold leafOk at hlo
  simp only [Bool.and_eq_true] at hlo
  obtain ⟨⟨hkept, hnew⟩, ⟨hbr, hbp, hbn⟩, hBk⟩ := hlo
  have hkept := keptN_mem hkept
  have hnew := newN_ok hnew
  have hBk := Nat.le_of_ble_eq_true hBk
  have shr := @Stp.hr (nums gs rks ro σ1 Ω1 fs' ok') _ _ _ _ _ _ _ _ hst
  have sext := @Stp.ext (nums gs rks ro σ1 Ω1 fs' ok') _ _ _ _ _ _ _ _ hst
  have sblock := @Stp.block (nums gs rks ro σ1 Ω1 fs' ok') _ _ _ _ _ _ _ _ hst
  have slive := @Stp.live (nums gs rks ro σ1 Ω1 fs' ok') _ _ _ _ _ _ _ _ hst
  have sinj := @HR.inj (nums gs rks ro σ1 Ω1 fs' ok') _ _ _ _ shr
  have hnext : (⟨[], pre, B0⟩ : Tm).h.next = B0.kn := rfl
  rw [hnext] at sext
  -- a block that the text found
  have hold : ∀ q, (∃ t, (q, t) ∈ pre) → (h'.get q).isSome = true ∧ ρ' q = ρ q := by
    rintro q ⟨t, ht⟩
    obtain ⟨t', ht'⟩ := preN _ ht
    have := (hp (q, t'.sub θ) (List.mem_append_left _ (List.mem_map.2 ⟨_, ht', rfl⟩))).1
    refine ⟨this, ?_⟩
    have hlt := hpreN _ ht
    rw [sext q hlt]
    show reN ⟨[], pre, B0⟩ θ0 ρ q = _
    unfold reN
    rw [if_pos hlt, hn0]
  have hpostT : ∀ p ∈ k.post, ∃ b s o, ρ p.1 = some (b, s) ∧ w'.heap[b]? = some o ∧ @TR (nums gs rks ro σ1 Ω1 fs' ok') ρ' (p.2.sub θ) s (some o) := by
    intro p hpm
    obtain ⟨_, b, s, h2, h3⟩ := hp (p.1, p.2.sub θ) (List.mem_append_left _ (List.mem_map.2 ⟨_, hpm, rfl⟩))
    rw [(hold p.1 (postN p hpm)).2] at h2
    cases hx : w'.heap[b]? with
    | none =>
      rw [hx] at h3
      exact (@OR.notNone (nums gs rks ro σ1 Ω1 fs' ok') _ _ _ (@TR.or (nums gs rks ro σ1 Ω1 fs' ok') _ _ _ _ h3)).elim
    | some o =>
      rw [hx] at h3
      exact ⟨b, s, o, h2, hx, h3⟩
  -- new blocks
  let dsOf : Nat → Nat × Obj := fun i => (((ρ' (θ.nAt (rel + i))).getD (0, 0)).1, (w'.heap[((ρ' (θ.nAt (rel + i))).getD (0, 0)).1]?).getD (.map #[] 0))
  have hd : ∀ i t, k.news[i]? = some t → ∃ s, ρ' (θ.nAt (rel + i)) = some ((dsOf i).1, s) ∧ w'.heap[(dsOf i).1]? = some (dsOf i).2 ∧ @TR (nums gs rks ro σ1 Ω1 fs' ok') ρ' (t.sub θ) s (some (dsOf i).2) ∧ w.heap.size ≤ (dsOf i).1 := by
    intro i t hi
    have hmem := newsAt_mem (θ := θ) (i := 0) hi
    rw [Nat.zero_add] at hmem
    have hil := (List.getElem?_eq_some_iff.1 hi).1
    obtain ⟨h1, b, s, h2, h3⟩ := hp _ (List.mem_append_right _ hmem)
    dsimp only at h1 h2 h3
    have hb : (dsOf i).1 = b := by simp only [dsOf, h2, Option.getD_some]
    cases hx : w'.heap[b]? with
    | none =>
      rw [hx] at h3
      exact (@OR.notNone (nums gs rks ro σ1 Ω1 fs' ok') _ _ _ (@TR.or (nums gs rks ro σ1 Ω1 fs' ok') _ _ _ _ h3)).elim
    | some o =>
      have ho : (dsOf i).2 = o := by simp only [dsOf, h2, Option.getD_some, hx]
      rw [hx] at h3
      rw [hb, ho]
      refine ⟨s, h2, hx, h3, ?_⟩
      rcases slive _ b s h1 h2 with hge | ⟨q, s', hq, hqs⟩
      · exact hge
      · exfalso
        obtain ⟨hqk, _⟩ := hdom q hq
        obtain ⟨t', ht'⟩ := heapT_some (l := pre) hq
        obtain ⟨o1, o2⟩ := hold q ⟨t', ht'⟩
        have hqs' : ρ' q = some (b, s') := by rw [sext q hqk]; exact hqs
        have := sinj _ _ b s s' h1 o1 h2 hqs'
        have h9 : B0.kn ≤ θ.nAt (rel + i) := (hnew i (Nat.zero_le _) (by omega)).1
        have hqk : q < B0.kn := hqk
        omega
  have hdi : ∀ i j, i < j → j < k.news.length → (dsOf i).1 ≠ (dsOf j).1 := by
    intro i j hij hj he
    obtain ⟨s, h1, _⟩ := hd i _ (List.getElem?_eq_getElem (Nat.lt_trans hij hj))
    obtain ⟨s', h2, _⟩ := hd j _ (List.getElem?_eq_getElem hj)
    have m1 := newsAt_mem (θ := θ) (i := 0) (List.getElem?_eq_getElem (Nat.lt_trans hij hj))
    have m2 := newsAt_mem (θ := θ) (i := 0) (List.getElem?_eq_getElem hj)
    rw [Nat.zero_add] at m1 m2
    rw [he] at h1
    exact (hnew j (Nat.zero_le _) (by omega)).2 i hij (sinj _ _ _ s s' (hp _ (List.mem_append_right _ m1)).1 (hp _ (List.mem_append_right _ m2)).1 h1 h2)
  have hdl : ∀ (i : Nat) d, ((List.range k.news.length).map dsOf)[i]? = some d → i < k.news.length ∧ d = dsOf i := by
    intro i d hi
    have hlt := (List.getElem?_eq_some_iff.1 hi).1
    rw [List.length_map, List.length_range] at hlt
    rw [List.getElem?_map, List.getElem?_range hlt] at hi
    exact ⟨hlt, (Option.some.inj hi).symm⟩
  have hback : ∀ q ∈ bs, ∃ o, w'.heap[q.1]? = some o := by
    intro q hq
    obtain ⟨p, hp1, s, hp2⟩ := FitB.back hF q hq
    rw [hpre] at hp1
    obtain ⟨p0, hp0, rfl⟩ := List.mem_map.1 hp1
    obtain ⟨t', ht'⟩ := preN _ hp0
    obtain ⟨b, s', o, h1, h2, _⟩ := hpostT _ ht'
    rw [show ρ p0.1 = some (q.1, s) from hp2] at h1
    cases h1
    exact ⟨o, h2⟩
  have hbl : ∀ q ∈ bs ++ m, q.1 < w.heap.size := fun q hq => heap_lt (hO.at_ q hq).2
  have hmk : ∀ b, b < w.heap.size → (∀ o, (b, o) ∉ bs) → w'.heap[b]? = w.heap[b]? := by
    intro b hb hno
    refine sblock b hb fun q s hq hqs => ?_
    obtain ⟨hqk, _⟩ := hdom q hq
    obtain ⟨t', ht'⟩ := heapT_some (l := pre) hq
    obtain ⟨b', o', s', h1, h2, _⟩ := FitB.mem hF (q, t'.sub θ0) (by rw [hpre]; exact List.mem_map.2 ⟨_, ht', rfl⟩)
    have hq1 : reN ⟨[], pre, B0⟩ θ0 ρ q = ρ q := by
      unfold reN
      rw [if_pos hqk, hn0]
    rw [hq1, show ρ q = some (b', s') from h2] at hqs
    cases hqs
    exact hno _ h1
  refine ⟨x, (List.range k.news.length).map dsOf, bs.map fun q => (q.1, (w'.heap[q.1]?).getD q.2), rfl, ⟨⟨?_, ?_, ?_, ?_, fun b hb => ?_⟩, fun p hpm => ?_, ?_⟩, ?_, by simp, fun ρ'' hk1 hk2 => ?_⟩
  · exact (@Stp.os (nums gs rks ro σ1 Ω1 fs' ok') _ _ _ _ _ _ _ _ hst).trans hO.below.os
  · exact (@Stp.tape (nums gs rks ro σ1 Ω1 fs' ok') _ _ _ _ _ _ _ _ hst).trans hO.below.tape
  · exact (@Stp.output (nums gs rks ro σ1 Ω1 fs' ok') _ _ _ _ _ _ _ _ hst).trans hO.below.output
  · exact Nat.le_trans hO.below.size (@Stp.size (nums gs rks ro σ1 Ω1 fs' ok') _ _ _ _ _ _ _ _ hst)
  · rw [hmk b (Nat.lt_of_lt_of_le hb hO.below.size) fun o ho => ?_]
    · exact hO.below.block b hb
    · have := hO.ge (List.mem_append_left _ ho)
      omega
  · rcases List.mem_append.1 hpm with hpm | hpm
    · obtain ⟨i, hi, rfl⟩ := List.mem_map.1 hpm
      have hi := List.mem_range.1 hi
      obtain ⟨s, _, h2, _, h4⟩ := hd i _ (List.getElem?_eq_getElem hi)
      exact ⟨Nat.le_trans hO.below.size h4, h2⟩
    · rcases List.mem_append.1 hpm with hpm | hpm
      · obtain ⟨q, hq, rfl⟩ := List.mem_map.1 hpm
        obtain ⟨o, ho⟩ := hback q hq
        refine ⟨(hO.at_ q (List.mem_append_left _ hq)).1, ?_⟩
        dsimp only
        rw [ho]
        rfl
      · have := hO.at_ p (List.mem_append_right _ hpm)
        refine ⟨this.1, ?_⟩
        rw [hmk p.1 (hbl p (List.mem_append_right _ hpm)) fun o ho => ?_]
        · exact this.2
        · have hnd := hO.nd
          rw [List.map_append, List.nodup_append] at hnd
          exact hnd.2.2 _ (List.mem_map.2 ⟨_, ho, rfl⟩) _ (List.mem_map.2 ⟨_, hpm, rfl⟩) rfl
  · have e1 : (bs.map fun q => (q.1, (w'.heap[q.1]?).getD q.2)).map (·.1) = bs.map (·.1) := by simp [List.map_map, Function.comp_def]
    have hnd := hO.nd
    rw [List.map_append] at hnd
    rw [List.map_append, List.map_append, e1, List.nodup_append]
    refine ⟨?_, hnd, fun a ha b hb he => ?_⟩
    · rw [List.map_map]
      refine List.pairwise_map.2 (List.Pairwise.imp_of_mem ?_ List.pairwise_lt_range)
      intro i j _ hj hij
      exact hdi i j hij (List.mem_range.1 hj)
    · obtain ⟨d0, hd0, rfl⟩ := List.mem_map.1 ha
      obtain ⟨i, hi, rfl⟩ := List.mem_map.1 hd0
      obtain ⟨s, _, _, _, h4⟩ := hd i _ (List.getElem?_eq_getElem (List.mem_range.1 hi))
      rw [← List.map_append] at hb
      obtain ⟨q, hq, rfl⟩ := List.mem_map.1 hb
      have := hbl q hq
      rw [← he] at this
      omega
  · simp [List.map_map, Function.comp_def]
  · -- what is read by the other numbers
    let ρm : Ren := fun q => if q < B.kn then ρ' (θ.nAt q) else none
    have hm1 : ∀ q, q < B.kn → ρm q = ρ' (θ.nAt q) := fun q hq => by simp [ρm, hq]
    have hpN : ∀ q, okR pre k.news.length q = true → ρ'' q = ρm q := by
      intro q hq
      unfold okR at hq
      rw [Bool.or_eq_true] at hq
      rcases hq with hq | hq
      · obtain ⟨t', ht'⟩ := hasN_mem hq
        have hlt := hpreN _ ht'
        obtain ⟨b, o, s, _, h2, _⟩ := FitB.mem hF (q, t'.sub θ0) (by rw [hpre]; exact List.mem_map.2 ⟨_, ht', rfl⟩)
        rw [hm1 q (by dsimp only at hlt; omega), hkept _ ht', (hold q ⟨t', ht'⟩).2, h2]
        exact hk1 q _ (by dsimp only at hlt; omega) h2
      · rw [Bool.and_eq_true] at hq
        have h1 := Nat.le_of_ble_eq_true hq.1
        have h2 : q < rel + k.news.length := by simpa using hq.2
        obtain ⟨i, rfl⟩ : ∃ i, q = rel + i := ⟨q - rel, by omega⟩
        have hi : i < k.news.length := by omega
        obtain ⟨s, h3, h4, h5, _⟩ := hd i _ (List.getElem?_eq_getElem hi)
        have h6 := hk2 i (dsOf i) (by rw [List.getElem?_map, List.getElem?_range hi]; rfl)
        rw [hm1 _ (by omega), h3, h6]
        have h7 := List.all_eq_true.1 hnn _ (List.getElem_mem hi)
        rw [Bool.and_eq_true] at h7
        have h8 : noOpb (k.news[i].sub θ) = true := by
          have := h7.2
          cases hc : k.news[i] <;> rw [hc] at this <;> first | rfl | cases this
        rw [TR.size h5 h8]
    refine ⟨VR.names hpN hnr (VR.sub ag' hm1 hbr hv), fun i t d hi hdi' => ?_, fun p hpm => ?_⟩
    · obtain ⟨hil, rfl⟩ := hdl i d hdi'
      obtain ⟨s, h3, h4, h5, _⟩ := hd i t hi
      have hmem := List.mem_of_getElem? hi
      have h7 := List.all_eq_true.1 hnn _ hmem
      rw [Bool.and_eq_true] at h7
      have h9 := TR.names hpN h7.1 (TR.sub ag' hm1 (List.all_eq_true.1 hbn _ hmem) h5)
      rw [TR.size h9 h7.2] at h9
      exact h9
    · obtain ⟨b, s, o, h1, h2, h3⟩ := hpostT p hpm
      obtain ⟨t', ht'⟩ := postN p hpm
      obtain ⟨b', o', s', h4, h5, _⟩ := FitB.mem hF (p.1, t'.sub θ0) (by rw [hpre]; exact List.mem_map.2 ⟨_, ht', rfl⟩)
      rw [show ρ p.1 = some (b', s') from h5] at h1
      obtain ⟨rfl, rfl⟩ : b' = b ∧ s' = s := by simpa using h1
      refine ⟨b', o, s', List.mem_map.2 ⟨_, h4, by simp [h2]⟩, h5, ?_⟩
      exact TR.names hpN (nmH_mem hnp p hpm) (TR.sub ag' hm1 (bdH_mem hbp p hpm).2 h3)
end
end Go.Proofs.Ytmfemophafncnaa.Ex

/-
  The runner: known loops whose states have forms of their own. No condition.
-/
namespace Go.Proofs.Ytmfemophafncnaa.Ex
open Go
noncomputable section
/-- a round of a loop, from one form to another, question by question. Names below 'nx' stay. -/
def treeL2 (P : Program) (gs : List (Nat × List Int)) (rks : List (Nat × CK)) (kx : AH → Kg) (lns : List Ln) (n nt nx : Nat) (c : Code) (t t' : Tm) (x : AX) (post : Tm) : LT → List (Cnd × Bool) → Bool
  | .leaf (.cont θ), fs => @Option.rec _ (fun _ => Bool) false (fun r => match r with
      | (x', env, h) => axEq x' .normal && (@Tm.fits ⟨fs, gs, rks⟩ t' θ env h && keeps nx θ t'.heap)) (@execL ⟨fs, gs, rks⟩ P (@callK ⟨fs, gs, rks⟩ P kx n) nt lns c (envT t.env) t.h)
  | .leaf (.out θ), fs => @Option.rec _ (fun _ => Bool) false (fun r => match r with
      | (x', env, h) => axEq x' x && (@Tm.fits ⟨fs, gs, rks⟩ post θ env h && keeps nx θ post.heap)) (@execL ⟨fs, gs, rks⟩ P (@callK ⟨fs, gs, rks⟩ P kx n) nt lns c (envT t.env) t.h)
  | .bad, _ => true
  | .node q a b, fs => match treeL2 P gs rks kx lns n nt nx c t t' x post a ((q, true) :: fs) with
    | true => treeL2 P gs rks kx lns n nt nx c t t' x post b ((q, false) :: fs)
    | false => false
end
/-- what a round comes to -/
def Round2 (N : Nums) (x : AX) (t t' post : Tm) (nx nt : Nat) (ρ : Ren) (w : World) (o : LO) (e : Exit) (a' : Act) (w' : World) : Prop :=
  ∃ env' h' ρ', @Stp N ρ t.h.get t.h.next w ρ' h'.get h'.next w' ∧ @ER N ρ' env' nt a' ∧ match o with
    | .cont θ => e = .normal ∧ @Tm.fits N.toFc t' θ env' h' = true ∧ keeps nx θ t'.heap = true
    | .out θ => e = exitOf x ∧ @Tm.fits N.toFc post θ env' h' = true ∧ keeps nx θ post.heap = true
section
variable {P : Program} (gs : List (Nat × List Int)) (rks : List (Nat × CK)) (ro : Nat → Option (Option Addr × Nat × Nat))
theorem treeL2_wp (hm : P.follows .mixedOrders = true) {f : FuncId} {σ : Nat → Int} {Ω : Nat → Nat → Nat → Obj → Prop} {kx : AH → Kg} {lns : List Ln} (hk : KxAll gs rks ro P σ Ω kx) (hl : LnAll gs rks ro P f σ Ω lns) {n nx : Nat} {c : Code} (hc : ∀ d ∈ loopsOf c, d ∈ loopsOf (bodyOf P f)) {t t' post : Tm} {x : AX} {K : LO → Prop} {ρ : Ren} {w : World} {a : Act} :
    ∀ (d : LT) (fs : List (Cnd × Bool)) (ok : ∀ f ∈ fs, f.1.ev σ = f.2), treeL2 P gs rks kx lns n (ntOf P f) nx c t t' x post d fs = true → RunL σ K d →
    @ER (nums gs rks ro σ Ω fs ok) ρ (envT t.env) (ntOf P f) a → @HR (nums gs rks ro σ Ω fs ok) ρ t.h.get t.h.next w →
    c.wp P (fun e a' w' => ∃ fs' ok' o, K o ∧ Round2 (nums gs rks ro σ Ω fs' ok') x t t' post nx (ntOf P f) ρ w o e a' w') a w
  | .leaf o, fs, ok, h, hK, hE, hH => by
    unfold treeL2 at h
    letI N : Nums := nums gs rks ro σ Ω fs ok
    cases o with
    | cont θ =>
      dsimp only at h
      generalize hx : @execL N.toFc P (@callK N.toFc P kx n) (ntOf P f) lns c (envT t.env) t.h = r at h
      cases r with
      | none => cases h
      | some r =>
        obtain ⟨x', env', h'⟩ := r
        dsimp only at h
        rw [Bool.and_eq_true, Bool.and_eq_true] at h
        obtain ⟨h1, h2, h3⟩ := h
        have h1 : x' = .normal := by cases x' <;> simp [axEq] at h1; rfl
        subst h1
        refine wp_mono (execL_wp hm (callK_sound hm (hk fs ok) n) (hl fs ok) c _ _ _ _ _ hc hx ρ w a hE hH) ?_
        rintro e a1 w1 ⟨rfl, ρ1, hst, hE1⟩
        exact ⟨fs, ok, .cont θ, hK, env', h', ρ1, hst, hE1, rfl, h2, h3⟩
    | out θ =>
      dsimp only at h
      generalize hx : @execL N.toFc P (@callK N.toFc P kx n) (ntOf P f) lns c (envT t.env) t.h = r at h
      cases r with
      | none => cases h
      | some r =>
        obtain ⟨x', env', h'⟩ := r
        dsimp only at h
        rw [Bool.and_eq_true, Bool.and_eq_true] at h
        obtain ⟨h1, h2, h3⟩ := h
        have h1 : x' = x := by
          cases x' <;> cases x <;> simp [axEq] at h1 <;> first | rfl | rw [h1]
        subst h1
        refine wp_mono (execL_wp hm (callK_sound hm (hk fs ok) n) (hl fs ok) c _ _ _ _ _ hc hx ρ w a hE hH) ?_
        rintro e a1 w1 ⟨rfl, ρ1, hst, hE1⟩
        exact ⟨fs, ok, .out θ, hK, env', h', ρ1, hst, hE1, rfl, h2, h3⟩
  | .bad, _, _, _, hK, _, _ => hK.elim
  | .node q d e, fs, ok, h, hK, hE, hH => by
    unfold treeL2 at h
    split at h <;> first | (cases h; done) | skip
    rename_i h1
    cases hq : q.ev σ with
    | true => exact treeL2_wp hm hk hl hc d ((q, true) :: fs) (cons_ok ok hq) h1 (hK.1 hq) (ER.fac hE) (HR.fac hH)
    | false => exact treeL2_wp hm hk hl hc e ((q, false) :: fs) (cons_ok ok hq) h (hK.2 hq) (ER.fac hE) (HR.fac hH)
set_option maxHeartbeats 1000000 in
/-- A KNOWN LOOP, each state with a form of its own -/
theorem ln_okT (hm : P.follows .mixedOrders = true) {f : FuncId} {ι : Type} {kx : ι → AH → Kg} {lns : ι → List Ln} {n : Nat} {l : Ln} {Fm Fm' : ι → Tm} {dt : ι → LT} {fs0 : ι → List (Cnd × Bool)} {σ0 : Nat → Int} {Ω0 : Nat → Nat → Nat → Obj → Prop}
    (Inv : ι → Prop) (h0 : ∀ s, Inv s → treeL2 P gs rks (kx s) (lns s) n (ntOf P f) l.nx (loopOf P f l.key) (Fm s) (Fm' s) l.x l.post (dt s) (fs0 s) = true) (hone : countL l.key (loopsOf (bodyOf P f)) = 1) (hth : keeps l.nx l.th l.t.heap = true) (hx : axEq l.x .normal = false) (hnx0 : ∀ s, Inv s → Nat.ble l.nx (Fm s).b.kn = true)
    (μ : ι → Nat) (σ : ι → Nat → Int) (Ω : ι → Nat → Nat → Nat → Obj → Prop)
    (hfs : ∀ s, Inv s → ∀ q ∈ fs0 s, q.1.ev (σ s) = q.2) (hk : ∀ s, Inv s → KxAll gs rks ro P (σ s) (Ω s) (kx s)) (hl : ∀ s, Inv s → LnAll gs rks ro P f (σ s) (Ω s) (lns s))
    (s0 : ι) (hs0 : Inv s0) (hT0 : Fm s0 = l.t) (hag : AgreeD l.th l.t.b ro σ0 Ω0 (σ s0) (Ω s0))
    (hstep : ∀ s, Inv s → RunL (σ s) (fun o => match o with
      | .cont θ => ∃ s', Inv s' ∧ Fm s' = Fm' s ∧ μ s' < μ s ∧ AgreeD θ (Fm s').b ro (σ s) (Ω s) (σ s') (Ω s')
      | .out θ => AgreeD θ l.post.b ro (σ s) (Ω s) σ0 Ω0) (dt s))
    (fs : List (Cnd × Bool)) (ok : ∀ q ∈ fs, q.1.ev σ0 = q.2) (c : Code) (hcm : c ∈ loopsOf (bodyOf P f)) (hck : loopId c = some l.key) : @LnOk (nums gs rks ro σ0 Ω0 fs ok) P (ntOf P f) c l := by
  intro env h x env' h' hat ρ w a hE hH
  unfold Ln.at at hat
  split at hat <;> first | (cases hat; done) | skip
  rename_i hfit
  split at hat <;> first | (cases hat; done) | skip
  rename_i hpost
  simp only [Option.some.injEq, Prod.mk.injEq] at hat
  obtain ⟨rfl, rfl, rfl⟩ := hat
  rw [Bool.and_eq_true, Bool.and_eq_true, Bool.and_eq_true, Bool.and_eq_true, Bool.and_eq_true] at hpost
  obtain ⟨⟨hpok, hnxh⟩, ⟨hnk, hpn⟩, hnE, hnH⟩ := hpost
  have hnxh := Nat.le_of_ble_eq_true hnxh
  have hnk := Nat.le_of_ble_eq_true hnk
  have hpn := postNames_mem hpn
  have hcc : c = loopOf P f l.key := by
    unfold loopOf
    rw [pickL_one hone c hcm hck]
  subst hcc
  have hsub : ∀ d ∈ loopsOf (loopOf P f l.key), d ∈ loopsOf (bodyOf P f) := fun d hd => loops_sub hcm hd
  rw [← hT0] at hfit hag hth
  have hps : ∀ q, (l.post.h.get q).isSome = true → ∃ o, (q, o) ∈ l.post.heap := fun q hq => heapT_some hq
  -- what is to be shown when it ends
  have fin : ∀ (s : ι) (hs : Inv s) (θ : Sub), AgreeD θ l.post.b ro (σ s) (Ω s) σ0 Ω0 → ∀ (fs' : List (Cnd × Bool)) (ok' : ∀ q ∈ fs', q.1.ev (σ s) = q.2) (env1 : T AV) (h1 : AH) (ρs ρ1 : Ren) (w1 w2 : World) (a2 : Act),
      @Stp (nums gs rks ro (σ s) (Ω s) fs' ok') ρs (Fm s).h.get (Fm s).h.next w1 ρ1 h1.get h1.next w2 → @ER (nums gs rks ro (σ s) (Ω s) fs' ok') ρ1 env1 (ntOf P f) a2 → @Tm.fits (nums gs rks ro (σ s) (Ω s) fs' ok').toFc l.post θ env1 h1 = true → keeps l.nx θ l.post.heap = true →
      Frm ρ h.get w ρs (Fm s).h.get w1 → (∀ q, q < l.nx → ((Fm s).h.get q).isSome = true → ρs q = ρ q) → @PostX (nums gs rks ro σ0 Ω0 fs ok) (ntOf P f) ρ h w l.x (envT l.post.env) l.post.h (exitOf l.x) a2 w2 := by
    intro s hs θ hagθ fs' ok' env1 h1 ρs ρ1 w1 w2 a2 hst hE1 hfit1 hkp hfr hst0
    have hnx := Nat.le_of_ble_eq_true (hnx0 s hs)
    have htn : (Fm s).h.next = (Fm s).b.kn := rfl
    obtain ⟨hE2, hH2, hd2⟩ := Tm.re hfit1 (hagθ.agree gs rks ro ok' ok) hE1 (@Stp.hr (nums gs rks ro (σ s) (Ω s) fs' ok') _ _ _ _ _ _ _ _ hst)
    have hfr2 := (hfr.step hst).re hd2
    let r := reN l.post θ ρ1
    let ρ' : Ren := fun q => if q < h.next then ρ q else r q
    have hkp := keeps_mem hkp
    -- names of the form are the same
    have hsame : ∀ q, okN l.post.heap h.next q = true → ρ' q = r q := by
      intro q hq
      by_cases hlt : q < h.next
      · have : ∃ o, (q, o) ∈ l.post.heap := by
          unfold okN at hq
          split at hq
          · rename_i hle
            have := Nat.le_of_ble_eq_true hle
            omega
          · exact hasN_mem hq
        obtain ⟨o, ho⟩ := this
        have hqx : q < l.nx := by
          rcases hpn _ ho with ⟨h1, _⟩ | ⟨_, h2⟩
          · exact h1
          · have : h.next ≤ q := h2
            omega
        have hθ : θ.nAt q = q := hkp _ ho hqx
        have hbd : q < l.post.b.kn := by omega
        have hsome : (h1.get q).isSome = true := by
          have hfit2 := hfit1
          unfold Tm.fits at hfit2
          rw [Bool.and_eq_true, Bool.and_eq_true] at hfit2
          obtain ⟨u, hu, _⟩ := (@fitH_mem (nums gs rks ro (σ s) (Ω s) fs' ok').toFc _ _ _ hfit2.2.2).1 _ ho
          rw [hθ] at hu
          rw [hu]; rfl
        have hts : ((Fm s).h.get q).isSome = true := @Stp.dom (nums gs rks ro (σ s) (Ω s) fs' ok') _ _ _ _ _ _ _ _ hst q (by omega) hsome
        have hext := @Stp.ext (nums gs rks ro (σ s) (Ω s) fs' ok') _ _ _ _ _ _ _ _ hst q (by omega)
        show (if q < h.next then ρ q else r q) = r q
        rw [if_pos hlt]
        show ρ q = reN l.post θ ρ1 q
        simp only [reN, if_pos hbd, hθ, hext]
        exact (hst0 q hqx hts).symm
      · show (if q < h.next then ρ q else r q) = r q
        rw [if_neg hlt]
    have hheap : ∀ q, (l.post.h.get q).isSome = true → ρ' q = r q := fun q hq => by
      obtain ⟨o, ho⟩ := hps q hq
      refine hsame q ?_
      unfold okN
      split
      · rfl
      · have : ∀ {L : List (Nat × TB)}, (q, o) ∈ L → hasN q L = true := by
          intro L
          induction L with
          | nil => intro hm; cases hm
          | cons p L ih =>
            intro hm
            obtain ⟨m, o'⟩ := p
            unfold hasN
            split
            · rfl
            · rename_i hb
              rcases List.mem_cons.1 hm with he | hm
              · cases he
                rw [Nat.beq_refl] at hb
                cases hb
              · exact ih hm
        exact this ho
    letI N0 : Nums := nums gs rks ro σ0 Ω0 fs ok
    have hnE := nmE_mem hnE
    have hnH := nmH_mem hnH
    have hHr : HR ρ' l.post.h.get l.post.h.next w2 := by
      refine ⟨fun q hq => ?_, fun q o ho => ?_, fun q m b z z' hq hm hp hp' => ?_, hH2.gl, fun b L hL q z hq hp => ?_, hH2.rl, fun b hb q z hq hp => ?_⟩
      · have hq2 : l.post.b.kn ≤ q := hq
        show (if q < h.next then ρ q else r q) = none
        rw [if_neg (by omega)]
        exact hH2.fresh q hq
      · obtain ⟨b, z, hp, hO⟩ := hH2.obj q o ho
        refine ⟨b, z, by rw [hheap q (by rw [ho]; rfl)]; exact hp, ?_⟩
        obtain ⟨tb, hm, rfl⟩ := heapT_get ho
        have hnm := hnH _ hm
        cases tb with
        | cells L e =>
          obtain ⟨cur, c1, c2, c3, c4⟩ := hO
          refine ⟨cur, c1, c2, c3, fun i v hv => ?_⟩
          obtain ⟨c5, y, c6, c7⟩ := c4 i v hv
          refine ⟨c5, y, c6, ?_⟩
          rcases setN_get hv with ⟨_, _, h5⟩ | ⟨_, h5⟩
          · rw [Nat.sub_zero] at h5
            exact VR.names hsame (nms_get hnm h5) c7
          · rw [T.get_e] at h5; cases h5
        | recs L ks e => exact hO
        | opb i n' m' =>
          simp only [TB.nm, Bool.and_eq_true] at hnm
          obtain ⟨b0, z0, b1, z1, oo, e0, e1, e2⟩ := hO
          exact ⟨b0, z0, b1, z1, oo, by rw [hsame _ hnm.1]; exact e0, by rw [hsame _ hnm.2]; exact e1, e2⟩
      · rw [hheap q hq] at hp
        rw [hheap m hm] at hp'
        exact hH2.inj q m b z z' hq hm hp hp'
      · rw [hheap q hq] at hp
        exact hH2.gn b L hL q z hq hp
      · rw [hheap q hq] at hp
        exact hH2.rn b hb q z hq hp
    refine ⟨rfl, ρ', ⟨hHr, fun q hq => by show (if q < h.next then ρ q else r q) = ρ q; rw [if_pos hq], hnk, hfr2.os, hfr2.tape, hfr2.output, hfr2.size, hfr2.block, fun q b z hq hp => ?_, fun q hq hs2 => ?_⟩, ⟨hE2.dz, hE2.size, fun i v hv => ?_⟩⟩
    · rw [hheap q hq] at hp
      exact hfr2.live q b z hq hp
    · obtain ⟨o, ho⟩ := hps q hs2
      rcases hpn _ ho with ⟨_, h2⟩ | ⟨_, h2⟩
      · exact h2
      · have : h.next ≤ q := h2
        omega
    · obtain ⟨y, hy, hyr⟩ := hE2.val i v hv
      exact ⟨y, hy, VR.names hsame (hnE _ (envT_get hv)) hyr⟩
  -- rounds
  have main : ∀ (m : Nat) (s : ι) (hs : Inv s), μ s < m → ∀ (ρs : Ren) (w1 : World) (a1 : Act), @ER (nums gs rks ro (σ s) (Ω s) (fs0 s) (hfs s hs)) ρs (envT (Fm s).env) (ntOf P f) a1 → @HR (nums gs rks ro (σ s) (Ω s) (fs0 s) (hfs s hs)) ρs (Fm s).h.get (Fm s).h.next w1 →
      Frm ρ h.get w ρs (Fm s).h.get w1 → (∀ q, q < l.nx → ((Fm s).h.get q).isSome = true → ρs q = ρ q) → Code.rounds P (loopOf P f l.key) (@PostX (nums gs rks ro σ0 Ω0 fs ok) (ntOf P f) ρ h w l.x (envT l.post.env) l.post.h) m a1 w1 := by
    intro m
    induction m with
    | zero => intro s hs hlt; omega
    | succ m ih =>
      intro s hs hlt ρs w1 a1 hE1 hH1 hfr hst0
      rw [rounds_succ]
      refine wp_mono (treeL2_wp gs rks ro hm (hk s hs) (hl s hs) hsub (dt s) (fs0 s) (hfs s hs) (h0 s hs) (hstep s hs) hE1 hH1) ?_
      rintro e a2 w2 ⟨fs', ok', o, hKo, env1, h1, ρ1, hst, hE2, hrest⟩
      cases o with
      | cont θ =>
        obtain ⟨rfl, hfit1, hkp⟩ := hrest
        obtain ⟨s', hs', hTs, hμ, hagθ⟩ := hKo
        rw [← hTs] at hfit1 hkp
        have hnx := Nat.le_of_ble_eq_true (hnx0 s hs)
        have hnx' := Nat.le_of_ble_eq_true (hnx0 s' hs')
        have htn : (Fm s).h.next = (Fm s).b.kn := rfl
        obtain ⟨hE3, hH3, hd3⟩ := Tm.re hfit1 (hagθ.agree gs rks ro ok' (hfs s' hs')) hE2 (@Stp.hr (nums gs rks ro (σ s) (Ω s) fs' ok') _ _ _ _ _ _ _ _ hst)
        refine ih s' hs' (by omega) _ w2 a2 hE3 hH3 ((hfr.step hst).re hd3) fun q hq hqs => ?_
        obtain ⟨o, ho⟩ := heapT_some hqs
        have hθ : θ.nAt q = q := keeps_mem hkp _ ho hq
        have hbd := (hd3 q hqs).1
        simp only [reN, if_pos hbd, hθ]
        rw [@Stp.ext (nums gs rks ro (σ s) (Ω s) fs' ok') _ _ _ _ _ _ _ _ hst q (by omega)]
        have hsome : (h1.get q).isSome = true := by
          have hfit2 := hfit1
          unfold Tm.fits at hfit2
          rw [Bool.and_eq_true, Bool.and_eq_true] at hfit2
          obtain ⟨u, hu, _⟩ := (@fitH_mem (nums gs rks ro (σ s) (Ω s) fs' ok').toFc _ _ _ hfit2.2.2).1 _ ho
          rw [hθ] at hu
          rw [hu]; rfl
        exact hst0 q hq (@Stp.dom (nums gs rks ro (σ s) (Ω s) fs' ok') _ _ _ _ _ _ _ _ hst q (by omega) hsome)
      | out θ =>
        obtain ⟨rfl, hfit1, hkp⟩ := hrest
        have := fin s hs θ hKo fs' ok' env1 h1 ρs ρ1 w1 w2 a2 hst hE2 hfit1 hkp hfr hst0
        cases hlx : l.x with
        | normal => rw [hlx] at hx; cases hx
        | exit id => rw [hlx] at this; exact this
        | ret => rw [hlx] at this; exact this
  obtain ⟨hE0, hH0, hd0⟩ := Tm.re hfit (hag.agree gs rks ro ok (hfs s0 hs0)) hE hH
  refine wp_loop_rounds (μ s0 + 1) (main (μ s0 + 1) s0 hs0 (by omega) _ w a hE0 hH0 ((Frm.refl ρ h.get w).re hd0) fun q hq hqs => ?_)
  obtain ⟨o, ho⟩ := heapT_some hqs
  have hθ : l.th.nAt q = q := keeps_mem hth _ ho hq
  simp only [reN, if_pos (hd0 q hqs).1, hθ]
end
end Go.Proofs.Ytmfemophafncnaa.Ex

/-
  wainscotlaw25.FlushTrims: the forms of its steps. No condition.
-/
namespace Go.Proofs.Ytmfemophafncnaa.Ft
open Go Ex
noncomputable section
/-- the world's How, Own, Mine -/
def rks : List (Nat × CK) := [(40, .int .i64), (41, .int .i64), (42, .int .i64)]
def v (i : Nat) : SE := .var i
def l (n : Int) : SE := .lit n
def add (a b : SE) : SE := .bin .add a b
def rng (e : SE) (a b : Int) : List (Cnd × Bool) := [(.lt e (l a), false), (.lt e (l b), true)]
/-- objects; words -/
def kE : SE := add (l 1) (v 0)
def wordsE (n : Int) : SE := add (l (4 * n + 36)) (.bin .mul (l 8) kE)
def chL (n : Int) : List AV := [.int .i64 n, .int .i64 8, .sym .i64 kE, .sym .i64 (v 1), .int .i64 4, .int .u64 11]
def memB (nm : Nat) (n : Int) (c : AV) : List AV := [.dsl nm (wordsE n) 1, c]
def wordsB (L : SE) : TB := .recs L [.int .u64] 26
/-! a step: numbers: 0 objects less one, 1 Min, 2 the round, 3 how many slabs were given back, 4 accesses, 5 the slab, 6 its counts' word, 7 the word that was read, 8 To, 9 First's word, 10 Back; 300 .. the counts. Lists: 0 the words -/
def tkL (pc en want : Int) (slab F K N tp back : SE) : List AV := [.int .i64 4, .int .i64 0, .int .i64 pc, .int .i64 en, .int .i64 want, .sym .i64 slab, .int .i64 0, .int .u64 0, .int .u64 0, .sym .u64 F, .sym .u64 K, .sym .u64 N, .int .i64 0, .int .i64 0, .sym .i64 tp, .sym .i64 back, .int .i64 0]
def tk (pc en want : Int) : List AV := tkL pc en want (v 5) (v 9) (v 6) (v 7) (v 8) (v 10)
/-- the state: where the task is -/
def TS (n : Int) (tn : Nat) (rest : List (Nat × TB)) (pc en want : Int) (i : Bool) : Tm := { env := (if i then [(9, .sym .i64 (v 2))] else []) ++ [(3, .ptr 1 0), (4, .ptr 3 0), (5, .ptr 11 0), (6, .int .i64 0), (7, .ptr tn 0), (8, .sym .i64 (v 3))], heap := [(1, .cells (memB 2 n (.sym .i64 (v 4))) 78), (2, wordsB (.lvar 0)), (3, .cells (chL n) 28), (tn, .cells (tk pc en want) 41)] ++ rest, b := ⟨250, 12, 0, 100⟩ }
def lockE (n : Int) : SE := l (4 * n)
def shelfE (n : Int) : SE := l (4 * n + 1)
def heldE (n : Int) : SE := l (4 * n + 2)
def firstE (n : Int) (s : SE) : SE := add (l (4 * n + 4)) (.bin .mul (l 4) s)
def first1 (n : Int) (s : SE) : SE := add (firstE n s) (l 1)
def nextE (n : Int) (s : SE) : SE := add (firstE n s) (l 2)
def at0 (e : SE) : SE := .at (.lvar 0) e 0
def set0 (L e x : SE) : SE := .lset L e 0 x
def slabOf (w : SE) : SE := .bin .sub (.cv .i64 w) (l 1)
def kcCounts : Kc := { f := 57, args := [.sym .u64 (v 6)], res := .tup [.agg [.sym .i64 (v 300), .sym .i64 (v 301), .bsym (.eq (v 302) (l 0)) false, .bool true], .bool true] }
def kcCountsAt (n : Int) : Kc := { f := 57, args := [.sym .u64 (at0 (first1 n (v 5)))], res := .tup [.agg [.sym .i64 (v 300), .sym .i64 (v 301), .bsym (.eq (v 302) (l 0)) false, .bool true], .bool true] }
/-- what is always known -/
def fB (n : Int) : List (Cnd × Bool) := rng (v 0) 0 16 ++ rng (v 1) 0 3 ++ rng (v 2) 0 800 ++ rng (v 3) 0 900 ++ rng (v 4) 0 5000 ++ rng (.len (.lvar 0)) (4 * n + 44) (4 * n + 165)
def fS : List (Cnd × Bool) := rng (v 5) 0 8
def up (θ : List (Nat × SE)) (acc : Int) (L : SE) : Sub := { v := (2, add (v 2) (l 1)) :: (4, if acc = 0 then v 4 else add (v 4) (l acc)) :: θ, l := [(0, L)] }
def step (n : Int) (tn : Nat) (rest : List (Nat × TB)) (kcs : List Kc) (pc en want pc' en' want' : Int) (θ : Sub) (f : List (Cnd × Bool)) : Bool :=
  treeL2 Try.prog [] rks (fun _ => kgs kcs) [] 40 (ntOf Try.prog 3) (tn + 1) (loopOf Try.prog 3 8) (TS n tn rest pc en want true) (TS n tn rest pc' en' want' true) (.exit 0) (TS n tn rest 99 1 0 false) (.leaf (.cont θ)) (fB n ++ f)
def L0 : SE := .lvar 0
/-- 95: the lock is taken -/
def s95 (n : Int) (tn : Nat) (rest : List (Nat × TB)) : Bool := step n tn rest [] 95 0 0 96 0 0 (up [] 1 (set0 L0 (lockE n) (l 1))) [(.eq (at0 (lockE n)) (l 0), true)]
/-- 96: the shelf's word is read; is there one -/
def s96 (n : Int) (tn : Nat) (rest : List (Nat × TB)) (e : Bool) : Bool := step n tn rest [] 96 0 0 (if e then 99 else 97) 0 0 (up ([(7, at0 (shelfE n)), (8, l (-1))] ++ (if e then [] else [(5, slabOf (at0 (shelfE n)))])) 1 L0) [(.lt (l 8) (at0 (shelfE n)), false), (.eq (at0 (shelfE n)) (l 0), e)]
/-- 97: its counts; is nothing out -/
def s97 (n : Int) (tn : Nat) (rest : List (Nat × TB)) (e : Bool) : Bool := step n tn rest [kcCountsAt n] 97 0 0 (if e then 100 else 98) 0 0 (up [(6, at0 (first1 n (v 5)))] 1 L0) (fS ++ [(.eq (v 300) (l 0), e)])
/-- 98: the next one -/
def s98 (n : Int) (tn : Nat) (rest : List (Nat × TB)) (e : Bool) : Bool := step n tn rest [] 98 0 0 (if e then 99 else 97) 0 0 (up ([(7, at0 (nextE n (v 5))), (8, v 5)] ++ (if e then [] else [(5, slabOf (at0 (nextE n (v 5))))])) 1 L0) (fS ++ [(.lt (l 8) (at0 (nextE n (v 5))), false), (.eq (at0 (nextE n (v 5))) (l 0), e)])
/-- 99: the lock is let go -/
def s99 (n : Int) (tn : Nat) (rest : List (Nat × TB)) : Bool := step n tn rest [] 99 0 0 99 1 0 (up [] 1 (set0 L0 (lockE n) (l 0))) []
def s100 (n : Int) (tn : Nat) (rest : List (Nat × TB)) : Bool := step n tn rest [] 100 0 0 101 0 0 (up [(9, at0 (firstE n (v 5)))] 1 L0) fS
def s101 (n : Int) (tn : Nat) (rest : List (Nat × TB)) : Bool := step n tn rest [] 101 0 0 102 0 0 (up [(7, at0 (nextE n (v 5)))] 1 L0) (fS ++ [(.lt (l 8) (at0 (nextE n (v 5))), false)])
/-- 102: it is cut out: behind the shelf's word, or behind another slab's -/
def s102 (n : Int) (tn : Nat) (rest : List (Nat × TB)) (e : Bool) : Bool := step n tn rest [] 102 0 0 103 0 0 (up [] 1 (set0 L0 (if e then shelfE n else nextE n (v 8)) (v 7))) (fS ++ (.eq (v 8) (l (-1)), e) :: (if e then [] else rng (v 8) 0 8))
def s103 (n : Int) (tn : Nat) (rest : List (Nat × TB)) : Bool := step n tn rest [] 103 0 0 76 0 0 (up [(10, l 95)] 1 (set0 L0 (heldE n) (.ubin .add (at0 (heldE n)) (l 18446744073709551615)))) fS
/-- 76: it is wiped -/
def s76 (n : Int) (tn : Nat) (rest : List (Nat × TB)) : Bool := step n tn rest [] 76 0 0 77 0 0 (up [] 1 (set0 (set0 L0 (firstE n (v 5)) (l 0)) (first1 n (v 5)) (l 0))) (fS ++ [(.eq (at0 (firstE n (v 5))) (v 9), true), (.eq (at0 (first1 n (v 5))) (v 6), true)])
def s77 (n : Int) (tn : Nat) (rest : List (Nat × TB)) : Bool := step n tn rest [] 77 0 0 78 0 2 (up [] 1 (set0 L0 (lockE n) (l 0))) fS
/-- it was given back -/
def s78 (n : Int) (tn : Nat) (rest : List (Nat × TB)) : Bool := step n tn rest [] 78 0 2 95 0 0 (up [(3, add (v 3) (l 1))] 0 L0) (fS ++ [(.eq (v 10) (l 95), true)])
/-- the end -/
def sEnd (n : Int) (tn : Nat) (rest : List (Nat × TB)) : Bool := treeL2 Try.prog [] rks (fun _ => kgs []) [] 40 (ntOf Try.prog 3) (tn + 1) (loopOf Try.prog 3 8) (TS n tn rest 99 1 0 true) (TS n tn rest 99 1 0 true) (.exit 0) (TS n tn rest 99 1 0 false) (.leaf (.out {})) (fB n)
end
end Go.Proofs.Ytmfemophafncnaa.Ft

/-
  wainscotlaw25.chained, slabbed: the runs of their texts. No condition.
-/
namespace Go.Proofs.Ytmfemophafncnaa.Ft
open Go Ex
noncomputable section
def memA (M : Nat) (n : Int) (cnt L : SE) : List (Nat × TB) := [(M, .cells (memB (M + 1) n (.sym .i64 cnt)) 78), (M + 1, wordsB L)]
def keyE (s : SE) : SE := .ubin .add (l 11) (.ubin .mul (.cv .u64 s) (l 11400714819323198485))
def linkE (n : Int) (s i : SE) : SE := add (add (l (4 * n + 36)) (.bin .mul s kE)) i
/-! chained: numbers: 0 objects less one, 1 Min, 5 the slab, 6 from, 7 to, 8 accesses; in the loop: 9 the object, 11 accesses, 30 the link. Lists: 0 words, 1 words in the loop -/
def kcHide (nx s i : SE) : Kc := { f := 61, args := [.sym .i64 nx, .sym .u64 (keyE s), .sym .i64 i], res := .tup [.sym .u64 (v 30), .int .i64 0] }
def argC (M : Nat) (n : Int) (s fr tp : SE) : List AV := [.ptr M 0, .agg (chL n), .sym .i64 s, .sym .i64 fr, .sym .i64 tp]
def fN : List (Cnd × Bool) := rng (v 0) 0 16 ++ rng (v 1) 0 3
def fC (n : Int) : List (Cnd × Bool) := fN ++ rng (v 5) 0 8 ++ rng (v 6) 0 17 ++ rng (v 7) 0 17 ++ rng (v 8) 0 300 ++ rng (.len (.lvar 0)) (4 * n + 44) (4 * n + 165)
def TC (M : Nat) (n : Int) (i : Bool) : Tm := { env := (if i then [(11, .sym .i64 (v 9))] else []) ++ [(0, .ptr M 0), (2, .sym .i64 (v 5)), (3, .sym .i64 (v 6)), (4, .sym .i64 (v 7)), (6, .ptr 40 0)], heap := memA M n (v 11) (.lvar 1) ++ [(40, .cells (chL n) 28)], b := ⟨20, 3, 0, 50⟩ }
def LC (M : Nat) (n : Int) : Ln := { key := 2, nx := 41, t := TC M n true, th := { v := [(9, v 6), (11, v 8)], l := [(1, .lvar 0)] }, x := .exit 0, post := TC M n false }
def fC1 (n : Int) : List (Cnd × Bool) := fN ++ rng (v 5) 0 8 ++ rng (v 7) 0 17 ++ rng (v 9) 0 17 ++ rng (v 11) 0 400 ++ rng (.len (.lvar 1)) (4 * n + 44) (4 * n + 165)
/-- a round: is it the last one -/
def fCc (n : Int) (e : Bool) : List (Cnd × Bool) := fC1 n ++ [(.lt (v 9) (v 7), true), (.eq (add (v 9) (l 1)) (v 7), e), (.lt (v 9) kE, true), (.lt (.bin .sub (wordsE n) (l 1)) (linkE n (v 5) (v 9)), false), (.lt (linkE n (v 5) (v 9)) (wordsE n), true), (.lt (linkE n (v 5) (v 9)) (.len (.lvar 1)), true)]
def nxE (e : Bool) : SE := if e then l (-1) else add (v 9) (l 1)
def runC1 (M : Nat) (n : Int) (e : Bool) : Bool := treeL Try.prog [] rks (kgs [kcHide (nxE e) (v 5) (v 9)]) [] 30 (ntOf Try.prog 39) 41 (loopOf Try.prog 39 2) (TC M n true) (.exit 0) (TC M n false) (.leaf (.cont { v := [(9, add (v 9) (l 1)), (11, add (v 11) (l 1))], l := [(1, set0 (.lvar 1) (linkE n (v 5) (v 9)) (v 30))] })) (fCc n e)
def runC2 (M : Nat) (n : Int) : Bool := treeL Try.prog [] rks (kgs []) [] 30 (ntOf Try.prog 39) 41 (loopOf Try.prog 39 2) (TC M n true) (.exit 0) (TC M n false) (.leaf (.out {})) (fC1 n ++ [(.lt (v 9) (v 7), false)])
/-- as a known call: the slab, from, to, the words and accesses as they come in; where they are then; which number is the result -/
def kcCh (M : Nat) (n : Int) (s fr tp L cnt : SE) (q rcnt r : Nat) : Kc := { f := 39, args := argC M n s fr tp, pre := memA M n cnt L, post := memA M n (v rcnt) (.lvar q), res := .sym .i64 (v r) }
def thC (q rcnt r : Nat) (x : SE) : Sub := { v := [(rcnt, v 11), (r, x)], l := [(q, .lvar 1)] }
def fC2 (n : Int) : List (Cnd × Bool) := fC n ++ rng (v 11) 0 400
def runC (M : Nat) (n : Int) : Bool := treeC Try.prog [] rks (kgs []) [LC M n] 30 39 (argC M n (v 5) (v 6) (v 7)) ⟨[], memA M n (v 8) (.lvar 0), ⟨9, 1, 0, 40⟩⟩
  (.node (.lt (v 6) (v 7)) ((kcCh M n (v 5) (v 6) (v 7) (.lvar 0) (v 8) 20 20 21).leaf (thC 20 20 21 (v 6))) ((kcCh M n (v 5) (v 6) (v 7) (.lvar 0) (v 8) 20 20 21).leaf (thC 20 20 21 (l (-1))))) (fC2 n)
/-! slabbed: numbers: 0, 1, 5 the slab, 6 own, 7 mine, 8 accesses; 31 the counts' word, 32 the first one, 33 the first one of the others, 34, 35 accesses. Lists: 0 words, 1, 2 behind each chain -/
def kcPack (i o : SE) (fz : Bool) : Kc := { f := 41, args := [.agg [.sym .i64 i, .sym .i64 o, .bool fz, .bool true]], res := .tup [.sym .u64 (v 31), .int .i64 0] }
def argS (M : Nat) (n : Int) (s own mine : SE) (fz : Bool) : List AV := [.ptr M 0, .agg (chL n), .sym .i64 s, .sym .i64 own, .sym .i64 mine, .bool fz]
def midL (n : Int) (s : SE) : SE := set0 (set0 (.lvar 1) (firstE n s) (.cv .u64 (add (v 32) (l 1)))) (first1 n s) (v 31)
def midC : SE := add (add (v 34) (l 1)) (l 1)
def fSl (n : Int) : List (Cnd × Bool) := fN ++ rng (v 5) 0 8 ++ rng (v 6) 0 17 ++ rng (v 7) 0 17 ++ rng (v 8) 0 300 ++ rng (v 32) (-1) 17 ++ rng (v 34) 0 400 ++ rng (v 35) 0 500 ++ rng (.len (.lvar 0)) (4 * n + 44) (4 * n + 165) ++ rng (.len (.lvar 1)) (4 * n + 44) (4 * n + 165) ++ rng (.len (.lvar 2)) (4 * n + 44) (4 * n + 165)
def kcsSl (M : Nat) (n : Int) (fz : Bool) : List Kc := [kcPack (.bin .sub kE (v 6)) kE fz, kcCh M n (v 5) (l 0) (v 6) (.lvar 0) (v 8) 1 34 32, kcCh M n (v 5) (v 6) (v 7) (midL n (v 5)) midC 2 35 33]
/-- as a known call -/
def kcSlab (M : Nat) (n : Int) (s own mine : SE) (fz : Bool) (L cnt : SE) (q rcnt r : Nat) : Kc := { f := 15, args := argS M n s own mine fz, pre := memA M n cnt L, post := memA M n (v rcnt) (.lvar q), res := .sym .i64 (v r) }
def runSl (M : Nat) (n : Int) (fz : Bool) : Bool := treeC Try.prog [] rks (kgs (kcsSl M n fz)) [] 30 15 (argS M n (v 5) (v 6) (v 7) fz) ⟨[], memA M n (v 8) (.lvar 0), ⟨9, 1, 0, 40⟩⟩ ((kcSlab M n (v 5) (v 6) (v 7) fz (.lvar 0) (v 8) 20 20 21).leaf { v := [(20, v 35), (21, v 33)], l := [(20, .lvar 2)] }) (fSl n)
end
end Go.Proofs.Ytmfemophafncnaa.Ft

/-
  wainscotlaw25's World.core: the runs of its text. No condition.
-/
namespace Go.Proofs.Ytmfemophafncnaa.Ft
open Go Ex
noncomputable section
/-! numbers: 0 objects less one, 1 Min, 2 the slab, 3 heads, 4 accesses, 10 own, 11 mine less own, 12 how, 13 the first one of the others, 14 the head's word, 15, 16 what the part's word says, 17 the part's word that is to be, 18 accesses behind slabbed; 30, 31, 32 the world's numbers. Lists: 0 the words, 1 zeros, 6 words behind slabbed; 40, 41, 42 How, Own, Mine -/
def worldL : List AV := [.sym .i64 (v 30), .sym .i64 (v 31), .sym .i64 (v 32), .rsl 40, .rsl 41, .rsl 42]
def zeroCh : List AV := [.int .i64 0, .int .i64 0, .int .i64 0, .int .i64 0, .int .i64 0, .int .u64 0]
def M0 : Nat := 37
def TW (n : Int) (i : Bool) : Tm := { env := (if i then [(1, .ptr 0 0), (7, .sym .i64 (v 3)), (8, .sym .i64 (v 2))] else []) ++ [(3, .ptr 1 0), (4, .ptr 14 0), (5, .ptr M0 0)], heap := memA M0 n (v 4) (.lvar 0) ++ [(14, .cells (chL n) 28), (1, .cells zeroCh 28)] ++ (if i then [(0, .cells worldL 24)] else []), b := ⟨33, 43, 0, 60⟩ }
/-- what is told within a round: of the next one, in numbers from 60 on -/
def shV : List (Nat × SE) := [(10, v 60), (11, v 61), (12, v 62), (13, v 63), (14, v 64), (15, v 65), (16, v 66), (17, v 67), (18, v 68)]
def shL : List (Nat × SE) := [(6, .lvar 60)]
def LW (n : Int) : Ln := { key := 7, nx := 39, t := TW n true, th := { v := [(2, l 0), (3, l 0), (4, l 0)] ++ shV, l := [(0, .lvar 1)] ++ shL }, x := .exit 0, post := TW n false }
def atR (q : Nat) : SE := .at (.lvar q) (v 2) 0
def kcBr (x m : SE) (r : Nat) : Kc := { f := 10, args := [.sym .i64 x, .sym .i64 m], res := .sym .i64 (v r) }
def bringsW : List Kc := [kcBr (atR 41) (add kE (l 1)) 10, kcBr (atR 42) (add (.bin .sub kE (v 10)) (l 1)) 11, kcBr (atR 40) (l 6) 12]
def mineE : SE := add (v 10) (v 11)
def kcHd : Kc := { f := 20, args := [.sym .i64 (v 2), .sym .i64 (v 13)], res := .tup [.sym .u64 (v 14), .int .i64 0] }
def cpuE (n : Int) : SE := .bin .rem (v 2) (l n)
def partE (n : Int) : SE := add (.bin .mul (l 4) (cpuE n)) (l 2)
def headE : SE := .bin .mul (l 4) (v 3)
def at6 (e : SE) : SE := .at (.lvar 6) e 0
def kcPOf (n : Int) : Kc := { f := 23, args := [.sym .u64 (at6 (partE n))], res := .tup [.sym .i64 (v 15), .sym .i64 (v 16), .bool true] }
def kcPt : Kc := { f := 24, args := [.sym .i64 (v 2), .sym .i64 (add (v 16) (l 1))], res := .tup [.sym .u64 (v 17), .int .i64 0] }
/-- how a slab is laid -/
inductive Way where
  | none (two : Bool)
  | shelf (all : Bool)
  | head
  | part
  | full (k : Nat)
def slabK (n : Int) (own mine : SE) (fz : Bool) : Kc := kcSlab M0 n (v 2) own mine fz (.lvar 0) (v 4) 6 18 13
def Way.kcs (n : Int) : Way → List Kc
  | .none _ => []
  | .shelf all => [if all then slabK n kE kE false else slabK n (v 10) (v 10) false]
  | .head => [slabK n (v 10) mineE true, kcHd]
  | .part => [slabK n (v 10) (v 10) true, kcPOf n, kcPt]
  | .full _ => [slabK n (l 0) (l 0) false]
/-- what is known -/
def Way.fs (n : Int) : Way → List (Cnd × Bool)
  | .none two => if two then [(.eq (v 12) (l 2), true), (.eq (v 3) (l n), true)] else [(.eq (v 12) (l 0), true)]
  | .shelf all => if all then [(.eq (v 12) (l 5), true)] else [(.eq (v 12) (l 1), true), (.eq (v 10) (l 0), false)]
  | .head => (.eq (v 12) (l 2), true) :: rng (v 3) 0 n
  | .part => [(.eq (v 12) (l 3), true), (.eq (v 10) (l 0), false)]
  | .full k => if k = 4 then [(.eq (v 12) (l 4), true)] else [(.eq (v 12) (l k), true), (.eq (v 10) (l 0), true)]
def plus : Nat → SE → SE
  | 0, e => e
  | n + 1, e => plus n (add e (l 1))
def shelved (n : Int) : SE := set0 (set0 (set0 (.lvar 6) (nextE n (v 2)) (at6 (shelfE n))) (shelfE n) (.cv .u64 (add (v 2) (l 1)))) (heldE n) (.ubin .add (at6 (heldE n)) (l 1))
def Way.th (n : Int) : Way → Sub
  | .none _ => { v := [(2, add (v 2) (l 1))] ++ shV, l := shL }
  | .shelf _ => { v := [(2, add (v 2) (l 1)), (4, plus 4 (v 18))] ++ shV, l := [(0, shelved n)] ++ shL }
  | .head => { v := [(2, add (v 2) (l 1)), (3, add (v 3) (l 1)), (4, plus 1 (v 18))] ++ shV, l := [(0, set0 (.lvar 6) headE (v 14))] ++ shL }
  | .part => { v := [(2, add (v 2) (l 1)), (4, plus 3 (v 18))] ++ shV, l := [(0, set0 (set0 (.lvar 6) (nextE n (v 2)) (at6 (partE n))) (partE n) (v 17))] ++ shL }
  | .full _ => { v := [(2, add (v 2) (l 1)), (4, v 18)] ++ shV, l := [(0, .lvar 6)] ++ shL }
def fW (n : Int) : List (Cnd × Bool) := rng (v 0) 0 16 ++ rng (v 1) 0 3 ++ rng (v 2) 0 8 ++ rng (v 3) 0 (n + 1) ++ rng (v 4) 0 4000 ++ rng (v 10) 0 17 ++ rng (v 11) 0 17 ++ rng (v 12) 0 6 ++ rng (v 15) (-1) 8 ++ rng (v 16) 0 20 ++ rng (v 18) 0 4500 ++ rng (.len (.lvar 0)) (4 * n + 44) (4 * n + 165) ++ rng (.len (.lvar 6)) (4 * n + 44) (4 * n + 165) ++ [(.lt (v 2) (.len (.lvar 40)), true), (.lt (v 2) (.len (.lvar 41)), true), (.lt (v 2) (.len (.lvar 42)), true)]
def runW (n : Int) (w : Way) : Bool := treeL Try.prog [] rks (kgs (bringsW ++ w.kcs n)) [] 40 (ntOf Try.prog 4) 39 (loopOf Try.prog 4 7) (TW n true) (.exit 0) (TW n false) (.leaf (.cont (w.th n))) (fW n ++ w.fs n)
/-- it ends: which list is through, or all slabs are laid -/
def fEnd (k : Nat) : List (Cnd × Bool) := match k with
  | 0 => [(.eq (v 2) (l 8), true)]
  | 1 => rng (v 2) 0 8 ++ [(.lt (v 2) (.len (.lvar 40)), false)]
  | 2 => rng (v 2) 0 8 ++ [(.lt (v 2) (.len (.lvar 40)), true), (.lt (v 2) (.len (.lvar 41)), false)]
  | _ => rng (v 2) 0 8 ++ [(.lt (v 2) (.len (.lvar 40)), true), (.lt (v 2) (.len (.lvar 41)), true), (.lt (v 2) (.len (.lvar 42)), false)]
def runWe (n : Int) (k : Nat) : Bool := treeL Try.prog [] rks (kgs []) [] 40 (ntOf Try.prog 4) 39 (loopOf Try.prog 4 7) (TW n true) (.exit 0) (TW n false) (.leaf (.out {})) (fEnd k)
/-! the whole text -/
def kcNew (n : Int) : Kc := { f := 13, args := [.sym .i64 (wordsE n)], news := [.cells (memB (rel + 1) n (.int .i64 0)) 78, wordsB (.lvar 1)], res := .tup [.ptr rel 0, .int .i64 0] }
def kcsW (n : Int) : List Kc := [{ f := 10, args := [.sym .i64 (v 30), .int .i64 4], res := .int .i64 (n - 1) }, kcBr (v 31) (l 16) 0, kcBr (v 32) (l 3) 1, kcNew n]
/-- as a known call -/
def kcCore (n : Int) (q rcnt : Nat) : Kc := { f := 4, args := [.agg worldL], news := [.cells (memB (rel + 1) n (.sym .i64 (v rcnt))) 78, wordsB (.lvar q)], res := .tup [.ptr rel 0, .agg (chL n)] }
def fCo : List (Cnd × Bool) := rng (v 0) 0 16 ++ rng (v 1) 0 3
def runCo (n : Int) : Bool := treeC Try.prog [] rks (kgs (kcsW n)) [LW n] 40 4 [.agg worldL] ⟨[], [], ⟨33, 43, 0, 0⟩⟩ ((kcCore n 44 34).leaf { v := [(34, v 4)], l := [(44, .lvar 0)], n := [(rel, M0), (rel + 1, M0 + 1)] }) fCo
end
end Go.Proofs.Ytmfemophafncnaa.Ft

/-
  wainscotlaw25.FlushTrims: the runs of its text. No condition.
-/
namespace Go.Proofs.Ytmfemophafncnaa.Ft
open Go Ex
noncomputable section
/-! what is seen: of slots and slabs' lists the lengths alone are known; the shelf's numbers -/
def slotX : Nat → Nat → List AV
  | 0, _ => []
  | n + 1, b => .sym .i64 (.var b) :: .osl (.var (b + 1)) :: .sym .u64 (.var (b + 2)) :: .osl (.var (b + 3)) :: slotX n (b + 4)
def slabX : Nat → Nat → List AV
  | 0, _ => []
  | n + 1, b => .sym .i64 (.var b) :: .sym .i64 (.var (b + 1)) :: .bsym (.eq (.var (b + 2)) (.lit 0)) false :: .bsym (.eq (.var (b + 3)) (.lit 0)) false :: .osl (.var (b + 4)) :: slabX n (b + 5)
def shAV (e : Bool) (nm q : Nat) : AV := if e then .zsl else .dsl nm (.len (.lvar q)) 1
def shTB (e : Bool) (q : Nat) : List TB := if e then [] else [.recs (.lvar q) [.int .i64] 3]
def one1 (e : Bool) : Nat := if e then 0 else 1
def coreX (n : Nat) (e : Bool) (nm b q : Nat) : List AV := [.sl nm 0 n 4 .any, shAV e (nm + 1) q, .bsym (.eq (.var (b + 4 * n + 1)) (.lit 0)) false, .sl (nm + 1 + one1 e) 0 8 5 .any]
def kcSeeX (nW qW : Nat) (n : Nat) (e : Bool) (b q : Nat) : Kc := { f := 5, args := [.dsl nW (.len (.lvar qW)) 1, .agg (chL n)], pre := [(nW, wordsB (.lvar qW))], news := [.cells (slotX n b) 68] ++ shTB e q ++ [.cells (slabX 8 (b + 4 * n + 2)) 50], res := .tup [.agg (coreX n e rel b q), .int .i64 0] }
def kgX (n : Nat) (e1 e2 : Bool) : Kg := fun args => match args with
  | .dsl nm (.len (.lvar 10)) 1 :: _ => match Nat.blt nm 600000 with
    | true => [kcSeeX nm 10 n e1 100 11]
    | false => []
  | .dsl nm (.len (.lvar 12)) 1 :: _ => match Nat.blt nm 600000 with
    | true => [kcSeeX nm 12 n e2 200 13]
    | false => []
  | _ => []
def kcCl (M : Nat) (n : Int) (L : SE) (q : Nat) : Kc := { f := 31, args := [.dsl (M + 1) (wordsE n) 1], pre := [(M + 1, wordsB L)], post := [(M + 1, wordsB L)], news := [wordsB (.lvar q)], res := .dsl rel (.len (.lvar q)) 1 }
def kcWorks : Kc := { f := 12, args := [], res := .bool true }
/-! names: the memory, its words; the chart; the task; what was seen before: the box, its slots, its shelf, its slabs -/
def nM : Nat := 1
def kcsA (n : Nat) : List Kc := [kcCore n 9 34, kcCl nM n (.lvar 9) 10, kcCl nM n (.lvar 0) 12, kcWorks]
def argL : List AV := [.agg worldL]
def fL (n : Nat) : List (Cnd × Bool) := rng (v 0) 0 16 ++ rng (v 1) 0 3 ++ rng (.len (.lvar 9)) (4 * n + 44) (4 * n + 165) ++ rng (.len (.lvar 10)) (4 * n + 44) (4 * n + 165) ++ rng (v 34) 0 4500 ++ rng (v 4) 0 5000 ++ rng (.len (.lvar 0)) (4 * n + 44) (4 * n + 165) ++ rng (.len (.lvar 12)) (4 * n + 44) (4 * n + 165) ++ rng (v 3) 0 900 ++ rng (.len (.lvar 11)) 0 9 ++ rng (.len (.lvar 13)) 0 9
/-- what the law asks of what was seen behind the steps -/
def fAft (n : Nat) (e2 : Bool) : List (Cnd × Bool) := [(.eq (v (200 + 4 * n + 1)) (l 0), true), (.eq (at0 (heldE n)) (.cv .u64 (if e2 then l 0 else .len (.lvar 13))), true), (.eq (at0 (heldE n)) (if e2 then l 0 else .len (.lvar 13)), true)]
/-- what was seen before: the box, its shelf, its slabs -/
def restB (n : Nat) (e1 : Bool) : List (Nat × TB) := [(11, .cells (coreX n e1 15 100 11) 34), (15, .cells (slotX n 100) 68)] ++ (if e1 then [] else [(16, .recs (.lvar 11) [.int .i64] 3)]) ++ [(16 + one1 e1, .cells (slabX 8 (100 + 4 * n + 2)) 50)]
def tn (e1 : Bool) : Nat := 17 + one1 e1
def LS (n : Nat) (e1 : Bool) : Ln := { key := 8, nx := tn e1 + 1, t := TS n (tn e1) (restB n e1) 95 0 0 true, th := { v := [(2, l 0), (3, l 0), (4, v 34), (5, l 0), (6, l 0), (7, l 0), (8, l 0), (9, l 0), (10, l 0)], l := [(0, .lvar 9)] }, x := .exit 0, post := TS n (tn e1) (restB n e1) 99 1 0 false }
/-! the shelf is looked through: number 36 is the place; list 14 what is wanted. we: nothing is wanted so far -/
def TQ (n : Nat) (e1 e2 we i : Bool) : Tm := { env := (if i then [(17, .sym .i64 (v 36))] else []) ++ [(5, .ptr 11 0), (8, .sym .i64 (v 3)), (12, .ptr 107 0), (16, if we then .nilsl else .dsl 130 (.len (.lvar 14)) 1)], heap := restB n e1 ++ [(107, .cells (coreX n e2 111 200 13) 34), (111, .cells (slotX n 200) 68)] ++ (if e2 then [] else [(112, .recs (.lvar 13) [.int .i64] 3)]) ++ [(112 + one1 e2, .cells (slabX 8 (200 + 4 * n + 2)) 50)] ++ (if we then [] else [(130, .recs (.lvar 14) [.int .i64] 3)]), b := ⟨290, 15, 0, 140⟩ }
def LQ (n : Nat) (e1 e2 : Bool) : Ln := { key := 20, nx := 118, t := TQ n e1 e2 true true, th := { v := [(36, l 0)], l := [(14, .rnil)] }, x := .exit 2, post := TQ n e1 e2 e2 false }
def kcSl (sl : Int) : Kc := { f := 10, args := [.sym .i64 (.at (.lvar 11) (v 36) 0), .int .i64 8], res := .int .i64 sl }
def fQ : List (Cnd × Bool) := rng (v 36) 0 9 ++ rng (.len (.lvar 11)) 0 9 ++ rng (.len (.lvar 14)) 0 9
def snocE (we : Bool) : SE := .lsnoc (if we then .rnil else .lvar 14) (.rcons (.at (.lvar 11) (v 36) 0) .rnil)
def thQ (we kept : Bool) : Sub := if kept then { v := [(36, add (v 36) (l 1))], l := [(14, snocE we)], n := [(130, 157)] } else { v := [(36, add (v 36) (l 1))] }
def runQ (n : Nat) (e2 we kept : Bool) (sl : Nat) : Bool := treeL2 Try.prog [] rks (fun _ => kgs [kcSl sl]) [] 40 (ntOf Try.prog 3) 118 (loopOf Try.prog 3 20) (TQ n false e2 we true) (TQ n false e2 (we && !kept) true) (.exit 2) (TQ n false e2 e2 false) (.leaf (.cont (thQ we kept))) (fQ ++ [(.eq (l 1) (.len (snocE true)), true), (.lt (v 36) (.len (.lvar 11)), true), (.lt (l 0) (v (100 + 4 * n + 2 + 5 * sl)), kept)])
def runQe (n : Nat) (e1 e2 : Bool) : Bool := treeL2 Try.prog [] rks (fun _ => kgs []) [] 40 (ntOf Try.prog 3) 118 (loopOf Try.prog 3 20) (TQ n e1 e2 e2 true) (TQ n e1 e2 e2 true) (.exit 2) (TQ n e1 e2 e2 false) (.leaf (.out {})) (fQ ++ [(.lt (v 36) (.len (.lvar 11)), false)])
/-! the end -/
def kcEq (e2 : Bool) : Kc := if e2 then { f := 11, args := [.zsl, .nilsl], res := .bool true } else { f := 11, args := [.dsl 112 (.len (.lvar 13)) 1, .dsl 130 (.len (.lvar 14)) 1], pre := [(112, .recs (.lvar 13) [.int .i64] 3), (130, .recs (.lvar 14) [.int .i64] 3)], post := [(112, .recs (.lvar 13) [.int .i64] 3), (130, .recs (.lvar 14) [.int .i64] 3)], res := .bool true }
def fEndL (e1 e2 : Bool) : List (Cnd × Bool) := [(.eq (v 3) (if e1 then l 0 else .bin .sub (.len (.lvar 11)) (if e2 then l 0 else .len (.lvar 14))), true)] ++ rng (.len (.lvar 14)) 0 9
def kgL (n : Nat) (e1 e2 : Bool) : Kg := fun args => kgs (kcEq e2 :: kcsA n) args ++ kgX n e1 e2 args
def fAll (n : Nat) (e1 e2 : Bool) : List (Cnd × Bool) := fL n ++ fAft n e2 ++ fEndL e1 e2
def runL (n : Nat) (e1 e2 : Bool) : Bool := treeC Try.prog [] rks (kgL n e1 e2) [LS n e1, LQ n e1 e2] 40 3 argL ⟨[], [], ⟨50, 43, 0, 0⟩⟩ (.is (.bool true) []) (fAll n e1 e2)
end
end Go.Proofs.Ytmfemophafncnaa.Ft

/-
  Arguments opened to cells: flat types (numbers, bools, structs and arrays of such), and slices of them. No condition.
-/
namespace Go.Proofs.Ytmfemophafncnaa
open Go.ChangeShapes Go.WideShapes Go.ChangeAt Go.RowKit

/-- a cell of a kind: 'none': a bool -/
def CellIs : Option IntKind → Value → Prop
  | none, v => ∃ b, v = .bool b
  | some k, v => ∃ n, v = .int k n ∧ (Lit.int k n).wf = true

/-- the kinds of a struct's cells, from an offset on -/
def flatFields (P : Program) (K : TypeId → Option (List (Option IntKind))) : Nat → List Field → Option (List (Option IntKind))
  | _, [] => some []
  | off, f :: fs =>
    match K f.type with
    | some l => if f.offset = off ∧ l.length = P.cellsOf f.type then (flatFields P K (off + l.length) fs).map (l ++ ·) else none
    | none => none
/-- the kinds of a flat type's cells -/
def flatKinds (P : Program) : Nat → TypeId → Option (List (Option IntKind))
  | 0, _ => none
  | n + 1, t =>
    match P.underlying t with
    | some .bool => some [none]
    | some (.int k) => some [some k]
    | some (.struct fs) => flatFields P (flatKinds P n) 0 fs.toList
    | some (.array m e) =>
      match flatKinds P n e with
      | some l => if l.length = P.cellsOf e then some (List.replicate m l).flatten else none
      | none => none
    | _ => none

section
variable {H : Type} {enc : TypeId × Value → H} {P : Program} {w : World} {base : Nat} {spare : Nat → Bool} {held : Bool}

theorem flat_rep {l : List (Option IntKind)} {cs : List Value} : ∀ (m off : Nat) (_h : ∀ i, i < m → ∀ (j : Nat) (k : Option IntKind), l[j]? = some k → ∃ v, cs[off + i * l.length + j]? = some v ∧ CellIs k v) (i : Nat) (k : Option IntKind),
    (List.replicate m l).flatten[i]? = some k → ∃ v, cs[off + i]? = some v ∧ CellIs k v
  | 0, _, _, i, k, hk => by simp at hk
  | m + 1, off, h, i, k, hk => by
    rw [List.replicate_succ, List.flatten_cons] at hk
    by_cases hi : i < l.length
    · rw [List.getElem?_append_left hi] at hk
      have := h 0 (by omega) i k hk
      simpa using this
    · rw [List.getElem?_append_right (by omega)] at hk
      have h' : ∀ i, i < m → ∀ (j : Nat) (k : Option IntKind), l[j]? = some k → ∃ v, cs[(off + l.length) + i * l.length + j]? = some v ∧ CellIs k v := fun i' hi' j k' hk' => by
        have := h (i' + 1) (by omega) j k' hk'
        rwa [show off + (i' + 1) * l.length + j = off + l.length + i' * l.length + j from by rw [Nat.succ_mul]; omega] at this
      have := flat_rep m (off + l.length) h' (i - l.length) k hk
      rwa [show off + l.length + (i - l.length) = off + i from by omega] at this

theorem flat_fields {cs : List Value} {K : TypeId → Option (List (Option IntKind))} : ∀ (fs : List Field) (off : Nat) (ks : List (Option IntKind)), flatFields P K off fs = some ks →
    (∀ f ∈ fs, ∀ l, K f.type = some l → l.length = P.cellsOf f.type → ∀ (j : Nat) (k : Option IntKind), l[j]? = some k → ∃ v, cs[f.offset + j]? = some v ∧ CellIs k v) →
    ∀ (i : Nat) (k : Option IntKind), ks[i]? = some k → ∃ v, cs[off + i]? = some v ∧ CellIs k v
  | [], off, ks, hks, _, i, k, hk => by
    simp only [flatFields, Option.some.injEq] at hks
    subst hks
    simp at hk
  | f :: fs, off, ks, hks, hf, i, k, hk => by
    simp only [flatFields] at hks
    split at hks
    · rename_i l hl
      split at hks
      · rename_i hc
        obtain ⟨r, hr, rfl⟩ := Option.map_eq_some_iff.1 hks
        by_cases hi : i < l.length
        · rw [List.getElem?_append_left hi] at hk
          have := hf f List.mem_cons_self l hl hc.2 i k hk
          rwa [hc.1] at this
        · rw [List.getElem?_append_right (by omega)] at hk
          have := flat_fields fs (off + l.length) r hr (fun g hg => hf g (List.mem_cons_of_mem _ hg)) (i - l.length) k hk
          rwa [show off + l.length + (i - l.length) = off + i from by omega] at this
      · cases hks
    · cases hks

theorem take_drop_get {cs : List Value} {a n j : Nat} {v : Value} (h : ((cs.drop a).take n)[j]? = some v) : cs[a + j]? = some v := by
  rw [List.getElem?_take] at h
  split at h
  · rwa [List.getElem?_drop] at h
  · cases h

/-- what is read of a flat type: each cell is of its kind -/
theorem trod_flat : ∀ (fuel n : Nat) (t : TypeId) (cs : List Value) (x : DataW H × List MemPlace) (ks : List (Option IntKind)), DataW.trod enc P w base spare held fuel t cs = some x → flatKinds P n t = some ks →
    ∀ (i : Nat) (k : Option IntKind), ks[i]? = some k → ∃ v, cs[i]? = some v ∧ CellIs k v
  | 0, _, _, _, _, _, h, _ => by simp [DataW.trod] at h
  | fuel + 1, 0, _, _, _, _, _, hk => by simp [flatKinds] at hk
  | fuel + 1, n + 1, t, cs, x, ks, h, hks => by
    intro i k hk
    unfold flatKinds at hks
    split at hks
    · rename_i hu
      simp only [Option.some.injEq] at hks
      subst hks
      unfold DataW.trod at h
      rw [hu] at h
      match cs, h with
      | [.bool b], _ =>
        match i, hk with
        | 0, hk => simp at hk; subst hk; exact ⟨_, rfl, b, rfl⟩
        | i + 1, hk => simp at hk
    · rename_i q hu
      simp only [Option.some.injEq] at hks
      subst hks
      unfold DataW.trod at h
      rw [hu] at h
      match cs, h with
      | [.int k' z], h =>
        simp only at h
        split at h
        · rename_i hc
          match i, hk with
          | 0, hk => simp at hk; subst hk; exact ⟨_, rfl, z, by rw [hc.1], hc.2⟩
          | i + 1, hk => simp at hk
        · cases h
    · rename_i fs hu
      obtain ⟨xs, m, hm, _, hcl, _, hf⟩ := DataW.trod_struct hu h
      obtain rfl : fuel = m := by omega
      have := flat_fields (cs := cs) fs.toList 0 ks hks (fun f hfm l hl hlc j k' hk' => by
        obtain ⟨i', hi', hfi⟩ := List.getElem_of_mem hfm
        have hfi' : fs[i']? = some f := by rw [← Array.getElem?_toList, List.getElem?_eq_getElem hi', hfi]
        have ht := hf i' f hfi'
        have hlt : i' < xs.length := by have : i' < fs.size := by simpa using hi'
                                        omega
        rw [List.getElem?_eq_getElem hlt] at ht
        obtain ⟨v, hv, hc⟩ := trod_flat fuel n f.type _ _ l ht hl j k' hk'
        exact ⟨v, take_drop_get hv, hc⟩) i k hk
      simpa using this
    · rename_i m e hu
      split at hks
      · rename_i l hl
        split at hks
        · rename_i hlc
          simp only [Option.some.injEq] at hks
          subst hks
          unfold DataW.trod at h
          rw [hu] at h
          have h2 : ∃ xs, (List.range m).mapM (fun i => DataW.trod enc P w base spare held fuel e ((cs.drop (i * P.cellsOf e)).take (P.cellsOf e))) = some xs := by
            split at h <;> simp_all
            obtain ⟨_, xs, hx, _⟩ := h
            exact ⟨xs, hx⟩
          obtain ⟨xs, hx⟩ := h2
          have := flat_rep (l := l) (cs := cs) m 0 (fun i' hi' j k' hk' => by
            have hg := mapM_some_get hx i' i' (by simp [hi'])
            have hlen := mapM_some_length hx
            have hlt : i' < xs.length := by simpa [hlen] using hi'
            rw [List.getElem?_eq_getElem hlt] at hg
            obtain ⟨v, hv, hc⟩ := trod_flat fuel n e _ _ l hg hl j k' hk'
            refine ⟨v, ?_, hc⟩
            rw [hlc]
            simpa using take_drop_get hv) i k hk
          simpa using this
        · cases hks
      · cases hks
    · cases hks

/-- an argument of a struct's or an array's type is an aggregate of so many cells -/
theorem arg_agg {r : Reach} {b0 : Nat} {t : TypeId} {v : Value} (hu : (match P.underlying t with | some (.struct _) | some (.array _ _) => true | _ => false) = true) (hv : Value.okWide P w r b0 t v) :
    ∃ cs : Array Value, v = .agg cs ∧ cs.size = P.cellsOf t := by
  unfold Value.okWide at hv
  split at hv
  · obtain ⟨cs, h1, h2, _⟩ := hv; exact ⟨cs, h1, h2⟩
  · obtain ⟨cs, h1, h2, _⟩ := hv; exact ⟨cs, h1, h2⟩
  · rename_i h1 h2
    split at hu
    · rename_i q hq; exact absurd hq (h1 q)
    · rename_i q r hq; exact absurd hq (h2 q r)
    · cases hu
/-- ... each of its cells is of its kind -/
theorem open_flat {r : Reach} {b0 : Nat} {t : TypeId} {v : Value} {d : DataW H} {p : List MemPlace} (n : Nat) {ks : List (Option IntKind)} (hu : (match P.underlying t with | some (.struct _) | some (.array _ _) => true | _ => false) = true)
    (hks : flatKinds P n t = some ks) (hv : Value.okWide P w r b0 t v) (h : DataW.Trod enc P w base spare held t v d p) :
    ∃ cs : Array Value, v = .agg cs ∧ cs.size = P.cellsOf t ∧ ∀ (i : Nat) (k : Option IntKind), ks[i]? = some k → ∃ u, cs[i]? = some u ∧ CellIs k u := by
  obtain ⟨cs, rfl, hs⟩ := arg_agg hu hv
  obtain ⟨fuel, hf⟩ := h
  refine ⟨cs, rfl, hs, fun i k hk => ?_⟩
  obtain ⟨u, h1, h2⟩ := trod_flat fuel n t _ _ ks hf hks i k hk
  exact ⟨u, by simpa [Value.cells] using h1, h2⟩
/-- a slice of a flat type: each cell of each element is of its kind -/
theorem open_slice_flat {t e : TypeId} {v : Value} {d : DataW H} {p : List MemPlace} (n : Nat) {ks : List (Option IntKind)} (ht : P.underlying t = some (.slice e)) (hks : flatKinds P n e = some ks) (hone : v.cells.toList = [v])
    (h : DataW.Trod enc P w base spare held t v d p) (_hlt : ∀ x ∈ p, x.block < w.heap.size) (hpos : 0 < P.cellsOf e) :
    v = .slice none 0 0 ∨ ∃ (a : Addr) (len cap : Nat), v = .slice (some a) len cap ∧ len ≤ cap ∧ cap ≤ maxLen ∧ (0 < len → a.block < w.heap.size) ∧
      ∀ i, i < len → ∀ (j : Nat) (k : Option IntKind), ks[j]? = some k → ∃ u, w.cell? (a.add (i * P.cellsOf e + j)) = some u ∧ CellIs k u := by
  obtain ⟨fuel, hf⟩ := h
  rw [hone] at hf
  rcases Deep.open_slice ht hf with ⟨h0, _⟩ | ⟨a, len, cap, m, n', D, Pl, hcs, hb, hl, hm, hmm, hx, hi⟩
  · left; simpa using h0
  · right
    refine ⟨a, len, cap, by simpa using hcs, hl, hm, ?_, ?_⟩
    · intro hpos'
      have hml : len ≤ m := by rw [hmm]; split <;> omega
      obtain ⟨cs', hc, _⟩ := hi 0 (by omega)
      obtain ⟨_, hcl, hat⟩ := World.cells?_some hc
      have h0 := hat 0 (by omega)
      have h1 : cs'[0]? = some (cs'[0]'(by omega)) := List.getElem?_eq_getElem (by omega)
      rw [h1] at h0
      have := block_lt_of_cell h0
      simpa [Addr.add] using this
    · intro i hil j k hk
      have hml : len ≤ m := by rw [hmm]; split <;> omega
      obtain ⟨cs', hc, ht'⟩ := hi i (by omega)
      obtain ⟨u, hu, hcell⟩ := trod_flat n' n e cs' _ ks ht' hks j k hk
      obtain ⟨_, hcl, hat⟩ := World.cells?_some hc
      have hj : j < P.cellsOf e := by
        have := (List.getElem?_eq_some_iff.1 hu).1
        omega
      have := hat j hj
      rw [← Go.Deep.add_add, this, hu]
      exact ⟨u, rfl, hcell⟩

/-- a slice's elements, cell by cell, are of their kinds -/
def FlatAt (W : World) (ks : List (Option IntKind)) (A : Option Addr) (len : Nat) : Prop :=
  0 < len → ∃ B o, A = some ⟨B, o, none⟩ ∧ B < W.heap.size ∧ ∀ i, i < len → ∀ (j : Nat) (k : Option IntKind), ks[j]? = some k → ∃ u, W.cell? ⟨B, o + i * ks.length + j, none⟩ = some u ∧ CellIs k u
theorem open_slice_at {t e : TypeId} {v : Value} {d : DataW H} {p : List MemPlace} (n : Nat) {ks : List (Option IntKind)} (ht : P.underlying t = some (.slice e)) (hks : flatKinds P n e = some ks) (hlen : P.cellsOf e = ks.length) (hpos : 0 < ks.length) (hone : v.cells.toList = [v])
    (h : DataW.Trod enc P w base spare held t v d p) (hlt : ∀ x ∈ p, x.block < w.heap.size) :
    ∃ (A : Option Addr) (len cap : Nat), v = .slice A len cap ∧ len ≤ cap ∧ cap ≤ maxLen ∧ FlatAt w ks A len := by
  rcases open_slice_flat n ht hks hone h hlt (by omega) with rfl | ⟨a, len, cap, rfl, hl, hm, hb, hc⟩
  · exact ⟨none, 0, 0, rfl, Nat.le_refl _, by unfold maxLen; omega, fun h => absurd h (by omega)⟩
  · refine ⟨some a, len, cap, rfl, hl, hm, fun hp => ?_⟩
    obtain ⟨u, hu, _⟩ := hc 0 hp 0 (ks[0]'(by omega)) (List.getElem?_eq_getElem (by omega))
    have hs : a.spot = none := by
      have h0 : a.add (0 * P.cellsOf e + 0) = a := by simp [Addr.add]
      rw [h0] at hu
      unfold World.cell? at hu
      split at hu
      · split at hu
        · cases hu
        · simpa using ‹¬ a.spot.isSome = true›
      · cases hu
    obtain ⟨B, o, s⟩ := a
    simp only at hs
    subst hs
    refine ⟨B, o, rfl, hb hp, fun i hi j k hk => ?_⟩
    obtain ⟨u, hu, hk'⟩ := hc i hi j k hk
    refine ⟨u, ?_, hk'⟩
    rw [← hlen]
    have e1 : (⟨B, o, none⟩ : Addr).add (i * P.cellsOf e + j) = ⟨B, o + (i * P.cellsOf e + j), none⟩ := by
      unfold Addr.add
      split
      · rename_i h0; rw [h0]; rfl
      · rfl
    rw [e1] at hu
    rw [show o + i * P.cellsOf e + j = o + (i * P.cellsOf e + j) from by omega]
    exact hu
/-- an argument of a slice's type is one cell -/
theorem arg_slice {r : Reach} {b0 : Nat} {t e : TypeId} {v : Value} (ht : P.underlying t = some (.slice e)) (hv : Value.okWide P w r b0 t v) : v.cells.toList = [v] := by
  unfold Value.okWide at hv
  rw [ht] at hv
  simp only at hv
  unfold Cell.okWide at hv
  rw [ht] at hv
  cases v <;> first | rfl | (simp [Cell.ok, ht] at hv)
/-- a block of numbers is a slice of structs of numbers -/
theorem flatAt_of {W : World} {g : Nat} {T : TypeId} {l : List Int} {n len : Nat} (hg : W.heap[g]? = some (.cells (l.map fun x => Value.int .i64 x).toArray T (0, 0))) (hl : len * n ≤ l.length) (hwf : ∀ x ∈ l, (Lit.int .i64 x).wf = true) :
    FlatAt W (List.replicate n (some .i64)) (some ⟨g, 0, none⟩) len := by
  intro _
  refine ⟨g, 0, rfl, heap_lt hg, fun i hi j k hk => ?_⟩
  have hj : j < n := by have := (List.getElem?_eq_some_iff.1 hk).1; simpa using this
  have hk' : k = some .i64 := by
    rw [List.getElem?_replicate, if_pos hj] at hk
    exact (Option.some.inj hk).symm
  subst hk'
  rw [List.length_replicate]
  have hlt : 0 + i * n + j < l.length := by
    have : (i + 1) * n ≤ len * n := Nat.mul_le_mul_right _ hi
    rw [Nat.succ_mul] at this
    omega
  refine ⟨.int .i64 l[0 + i * n + j], ?_, _, rfl, hwf _ (List.getElem_mem hlt)⟩
  simp [World.cell?, hg, List.getElem?_eq_getElem (show i * n + j < l.length by omega)]
end
end Go.Proofs.Ytmfemophafncnaa

/-
  The runner: arguments that are slices of numbers, or of bools. No condition.
-/
namespace Go.Proofs.Ytmfemophafncnaa.Ex
open Go Go.ChangeShapes Go.WideShapes Go.ChangeAt Go.RowKit
def ckOf : Option IntKind → CK
  | none => .bool
  | some k => .int k
def ckWf : Option IntKind → Int → Prop
  | none, _ => True
  | some k, n => (Lit.int k n).wf = true
/-- the numbers of a slice -/
theorem flat_list {W : World} {k : Option IntKind} {A : Option Addr} {len : Nat} (h : FlatAt W [k] A len) :
    ∃ L : List Int, L.length = len ∧ (∀ a, A = some a → 0 < len → a.block < W.heap.size ∧ ∀ e, e < len → W.cell? (a.add e) = some ((ckOf k).val (L[e]?.getD 0))) ∧ (A = none → len = 0) ∧ ∀ x ∈ L, ckWf k x := by
  by_cases h0 : len = 0
  · subst h0
    exact ⟨[], rfl, fun _ _ h => by omega, fun _ => rfl, by simp⟩
  obtain ⟨B, o, rfl, hB, hc⟩ := h (by omega)
  have hv : ∀ e, e < len → ∃ x : Int, W.cell? ⟨B, o + e, none⟩ = some ((ckOf k).val x) ∧ ckWf k x := by
    intro e he
    obtain ⟨u, hu, hk⟩ := hc e he 0 k rfl
    simp only [List.length_cons, List.length_nil, Nat.zero_add, Nat.mul_one, Nat.add_zero] at hu
    cases k with
    | none =>
      obtain ⟨b, rfl⟩ := hk
      refine ⟨if b then 1 else 0, ?_, trivial⟩
      rw [hu]
      cases b <;> rfl
    | some k =>
      obtain ⟨n, rfl, hw⟩ := hk
      exact ⟨n, hu, hw⟩
  have hL : ∀ n, n ≤ len → ∃ L : List Int, L.length = n ∧ (∀ e, e < n → W.cell? ⟨B, o + e, none⟩ = some ((ckOf k).val (L[e]?.getD 0))) ∧ ∀ x ∈ L, ckWf k x := by
    intro n
    induction n with
    | zero => intro _; exact ⟨[], rfl, fun e he => by omega, by simp⟩
    | succ n ih =>
      intro hn
      obtain ⟨L, h1, h2, h3⟩ := ih (by omega)
      obtain ⟨x, hx, hw⟩ := hv n (by omega)
      refine ⟨L ++ [x], by simp [h1], fun e he => ?_, fun y hy => ?_⟩
      · by_cases hen : e = n
        · subst hen
          rw [hx, List.getElem?_append_right (by omega), h1]
          simp
        · rw [h2 e (by omega), List.getElem?_append_left (by omega)]
      · rcases List.mem_append.1 hy with hy | hy
        · exact h3 y hy
        · rw [List.mem_singleton] at hy
          subst hy
          exact hw
  obtain ⟨L, h1, h2, h3⟩ := hL len (Nat.le_refl _)
  refine ⟨L, h1, fun a ha _ => ?_, (fun hn => by cases hn), h3⟩
  cases ha
  refine ⟨hB, fun e he => ?_⟩
  rw [← h2 e he]
  congr 1
  unfold Addr.add
  split
  · rename_i h0; subst h0; rfl
  · rfl
end Go.Proofs.Ytmfemophafncnaa.Ex

/-
  Rows of numbers in memory: a function on indexes, or a list. No condition.
-/
namespace Go.Proofs.Ytmfemophafncnaa
open Go.RowKit

/-- n cells, each the number that a function gives -/
def rowOf (n : Nat) (f : Nat → Int) : Array Value := ((List.range n).map fun i => Value.int .i64 (f i)).toArray
theorem rowOf_size (n : Nat) (f : Nat → Int) : (rowOf n f).size = n := by simp [rowOf]
theorem rowOf_get {n i : Nat} (f : Nat → Int) (h : i < n) : (rowOf n f)[i]? = some (.int .i64 (f i)) := by simp [rowOf, h]
theorem rowOf_congr {n : Nat} {f g : Nat → Int} (h : ∀ i, i < n → f i = g i) : rowOf n f = rowOf n g := by
  unfold rowOf
  congr 1
  exact List.map_congr_left fun i hi => by rw [h i (by simpa using hi)]
theorem rowOf_set {n i : Nat} (f : Nat → Int) (v : Int) (h : i < n) : (rowOf n f).setIfInBounds i (.int .i64 v) = rowOf n (fun j => if j = i then v else f j) := by
  apply Array.ext_getElem?
  intro j
  rw [Array.getElem?_setIfInBounds]
  by_cases hj : j < n
  · rw [rowOf_size, rowOf_get (fun j => if j = i then v else f j) hj]
    by_cases hij : i = j
    · subst hij; simp [h]
    · rw [if_neg hij, rowOf_get f hj, if_neg (by omega)]
  · rw [if_neg (by omega), Array.getElem?_eq_none (by rw [rowOf_size]; omega), Array.getElem?_eq_none (by rw [rowOf_size]; omega)]
theorem rowOf_rep (n : Nat) : Array.replicate n (Value.int .i64 0) = rowOf n (fun _ => 0) := by
  apply Array.ext_getElem?
  intro j
  by_cases hj : j < n
  · rw [rowOf_get _ hj]; simp [hj]
  · rw [Array.getElem?_eq_none (by simp; omega), Array.getElem?_eq_none (by rw [rowOf_size]; omega)]

/-- the cells of a list of numbers -/
def intCells (l : List Int) : Array Value := (l.map fun n => Value.int .i64 n).toArray
theorem intCells_size (l : List Int) : (intCells l).size = l.length := by simp [intCells]
theorem intCells_get (l : List Int) (i : Nat) : (intCells l)[i]? = (l[i]?).map fun n => Value.int .i64 n := by simp [intCells]
theorem intCells_set (l : List Int) (i : Nat) (v : Int) : (intCells l).setIfInBounds i (.int .i64 v) = intCells (l.set i v) := by
  apply Array.ext_getElem?
  intro j
  rw [Array.getElem?_setIfInBounds, intCells_get, intCells_get, intCells_size, List.getElem?_set]
  by_cases hij : i = j
  · subst hij
    by_cases h : i < l.length
    · simp [h]
    · simp [h]
  · simp [hij]

section
variable {W w : World} {X m : List (Nat × Obj)} {hb n i : Nat} {f : Nat → Int} {T : TypeId}
theorem row_at (h : Own W (X ++ (hb, .cells (rowOf n f) T) :: m) w) (hi : i < n) : w.cell? ⟨hb, i, none⟩ = some (.int .i64 (f i)) := by
  rw [h.cell (List.mem_append_right _ List.mem_cons_self), rowOf_get f hi]
theorem row_free (h : Own W (X ++ (hb, .cells (rowOf n f) T) :: m) w) : w.frozen? ⟨hb, i, none⟩ = false :=
  h.frozen (List.mem_append_right _ List.mem_cons_self) i
theorem row_lt (h : Own W (X ++ (hb, .cells (rowOf n f) T) :: m) w) : hb < w.heap.size := h.lt (List.mem_append_right _ List.mem_cons_self)
theorem row_set (h : Own W (X ++ (hb, .cells (rowOf n f) T) :: m) w) (hi : i < n) (v : Int) (g : Nat → Int) (hg : ∀ j, j < n → (if j = i then v else f j) = g j) :
    Own W (X ++ (hb, .cells (rowOf n g) T) :: m) (w.setCell ⟨hb, i, none⟩ (.int .i64 v)) := by
  have := h.setIn i (.int .i64 v)
  rw [rowOf_set f v hi, rowOf_congr hg] at this
  exact this
end
end Go.Proofs.Ytmfemophafncnaa

/-
  Slices that the call owns: what they hold, and append onto them. No condition but sizes.
-/
namespace Go.Proofs.Ytmfemophafncnaa
open Go.RowKit

/-- a slice value of n elements, whose cells are 'xs', and the blocks that it owns: none, or one ('ex': the block has just the slice's room) -/
def SlO (ex : Bool) (e size : Nat) (v : Value) (n : Nat) (xs : List Value) (bs : List (Nat × Obj)) : Prop :=
  xs.length = n * size ∧ ((v = .slice none 0 0 ∧ n = 0 ∧ bs = []) ∨
    ∃ g cap cur, v = .slice (some ⟨g, 0, none⟩) n cap ∧ bs = [(g, .cells cur e)] ∧ n ≤ cap ∧ cap ≤ maxLen ∧ (cap * size ≤ cur.size ∧ (ex = true → cur.size = cap * size)) ∧ cur.toList.take (n * size) = xs)
/-- .. one that may be appended to: its block has no more room than it knows of -/
abbrev SlOwn := SlO true
/-- a slice value of n elements that reads as the cells 'xs' -/
def Src (w : World) (size : Nat) (v : Value) (n : Nat) (xs : List Value) : Prop :=
  xs.length = n * size ∧ ((v = .slice none 0 0 ∧ n = 0) ∨ ∃ a c, v = .slice (some a) n c ∧ ∀ j u, xs[j]? = some u → w.cell? (a.add j) = some u)

theorem add_lit0 (g j : Nat) : (⟨g, 0, none⟩ : Addr).add j = ⟨g, j, none⟩ := by
  unfold Addr.add
  split <;> simp_all
theorem add_lit (g o j : Nat) : (⟨g, o, none⟩ : Addr).add j = ⟨g, o + j, none⟩ := by
  unfold Addr.add
  split <;> simp_all

section
variable {ex : Bool} {W w : World} {m : List (Nat × Obj)} {e size n : Nat} {v : Value} {xs : List Value} {bs : List (Nat × Obj)} {P : Program}

theorem SlO.nil (ex : Bool) (e size : Nat) : SlO ex e size (.slice none 0 0) 0 [] [] := ⟨by simp, .inl ⟨rfl, rfl, rfl⟩⟩
theorem SlO.made (ex : Bool) (e size g cap : Nat) (cur : Array Value) (n : Nat) (hn : n ≤ cap) (hc : cap ≤ maxLen) (hs : cur.size = cap * size) :
    SlO ex e size (.slice (some ⟨g, 0, none⟩) n cap) n (cur.toList.take (n * size)) [(g, .cells cur e)] :=
  ⟨by rw [List.length_take, Array.length_toList, hs, Nat.min_eq_left (Nat.mul_le_mul_right _ hn)], .inr ⟨g, cap, cur, rfl, rfl, hn, hc, ⟨by omega, fun _ => hs⟩, rfl⟩⟩
theorem SlO.form (h : SlO ex e size v n xs bs) (hn : 0 < n) : ∃ g cap cur, v = .slice (some ⟨g, 0, none⟩) n cap ∧ bs = [(g, .cells cur e)] ∧ n ≤ cap ∧ cap ≤ maxLen ∧ (cap * size ≤ cur.size ∧ (ex = true → cur.size = cap * size)) ∧ cur.toList.take (n * size) = xs := by
  rcases h.2 with ⟨_, h0, _⟩ | h
  · omega
  · exact h
theorem SlO.len (h : SlO ex e size v n xs bs) : xs.length = n * size := h.1
theorem SlO.slice (h : SlO ex e size v n xs bs) : ∃ A cap, v = .slice A n cap ∧ n ≤ cap ∧ cap ≤ maxLen := by
  rcases h.2 with ⟨rfl, rfl, _⟩ | ⟨g, cap, cur, rfl, _, h1, h2, _⟩
  · exact ⟨none, 0, rfl, Nat.le_refl _, by unfold maxLen; omega⟩
  · exact ⟨_, cap, rfl, h1, h2⟩
/-- the cell at an index -/
theorem SlO.cell (h : SlO ex e size v n xs bs) (hO : Own W (bs ++ m) w) {g cap : Nat} (hv : v = .slice (some ⟨g, 0, none⟩) n cap) {j : Nat} {u : Value} (hj : xs[j]? = some u) : w.cell? ⟨g, j, none⟩ = some u := by
  rcases h.2 with ⟨rfl, _, _⟩ | ⟨g', cap', cur, rfl, rfl, h1, h2, h3, h4⟩
  · cases hv
  · simp only [Value.slice.injEq, Option.some.injEq, Addr.mk.injEq, and_true, true_and] at hv
    obtain ⟨rfl, rfl⟩ := hv
    rw [hO.cell List.mem_cons_self]
    rw [← h4] at hj
    rw [List.getElem?_take] at hj
    split at hj
    · simpa using hj
    · cases hj
theorem SlO.src (h : SlO ex e size v n xs bs) (hO : Own W (bs ++ m) w) : Src w size v n xs := by
  refine ⟨h.1, ?_⟩
  rcases h.2 with ⟨rfl, rfl, _⟩ | ⟨g, cap, cur, rfl, h0, _⟩
  · exact .inl ⟨rfl, rfl⟩
  · refine .inr ⟨_, _, rfl, fun j u hj => ?_⟩
    rw [add_lit0]
    exact h.cell hO rfl hj
theorem SlO.free (h : SlO ex e size v n xs bs) (hO : Own W (bs ++ m) w) {g cap : Nat} (hv : v = .slice (some ⟨g, 0, none⟩) n cap) (j : Nat) : w.frozen? ⟨g, j, none⟩ = false := by
  rcases h.2 with ⟨rfl, _, _⟩ | ⟨g', cap', cur, rfl, rfl, _⟩
  · cases hv
  · simp only [Value.slice.injEq, Option.some.injEq, Addr.mk.injEq, and_true, true_and] at hv
    obtain ⟨rfl, rfl⟩ := hv
    exact hO.frozen List.mem_cons_self j
theorem SlO.lt (h : SlO ex e size v n xs bs) (hO : Own W (bs ++ m) w) {g cap : Nat} (hv : v = .slice (some ⟨g, 0, none⟩) n cap) : g < w.heap.size := by
  rcases h.2 with ⟨rfl, _, _⟩ | ⟨g', cap', cur, rfl, rfl, _⟩
  · cases hv
  · simp only [Value.slice.injEq, Option.some.injEq, Addr.mk.injEq, and_true, true_and] at hv
    obtain ⟨rfl, rfl⟩ := hv
    exact hO.lt List.mem_cons_self
/-- a cell is stored -/
theorem SlO.store (h : SlO ex e size v n xs bs) (hO : Own W (bs ++ m) w) {g cap : Nat} (hv : v = .slice (some ⟨g, 0, none⟩) n cap) {j : Nat} (_hj : j < n * size) (u : Value) :
    ∃ bs', SlO ex e size v n (xs.set j u) bs' ∧ Own W (bs' ++ m) (w.setCell ⟨g, j, none⟩ u) := by
  rcases h.2 with ⟨rfl, _, _⟩ | ⟨g', cap', cur, rfl, rfl, h1, h2, h3, h4⟩
  · cases hv
  · simp only [Value.slice.injEq, Option.some.injEq, Addr.mk.injEq, and_true, true_and] at hv
    obtain ⟨rfl, rfl⟩ := hv
    refine ⟨[(g', .cells (cur.setIfInBounds j u) e)], ⟨by rw [List.length_set]; exact h.1, .inr ⟨g', cap', _, rfl, rfl, h1, h2, by rw [Array.size_setIfInBounds]; exact h3, ?_⟩⟩, hO.set j u⟩
    rw [Array.toList_setIfInBounds, List.take_set, h4]
/-- shorter: the same block -/
theorem SlO.shorter (h : SlO ex e size v n xs bs) {g cap k : Nat} (hv : v = .slice (some ⟨g, 0, none⟩) n cap) (hk : k ≤ n) : SlO ex e size (.slice (some ⟨g, 0, none⟩) k cap) k (xs.take (k * size)) bs := by
  rcases h.2 with ⟨rfl, _, _⟩ | ⟨g', cap', cur, rfl, rfl, h1, h2, h3, h4⟩
  · cases hv
  · simp only [Value.slice.injEq, Option.some.injEq, Addr.mk.injEq, and_true, true_and] at hv
    obtain ⟨rfl, rfl⟩ := hv
    have hle : k * size ≤ n * size := Nat.mul_le_mul_right _ hk
    refine ⟨by rw [List.length_take, h.1]; omega, .inr ⟨g', cap', cur, rfl, rfl, by omega, h2, h3, ?_⟩⟩
    rw [← h4, List.take_take, Nat.min_eq_left hle]
/-- what may be appended to may be read and written -/
theorem SlO.weak (h : SlO ex e size v n xs bs) : SlO false e size v n xs bs := by
  refine ⟨h.1, ?_⟩
  rcases h.2 with h0 | ⟨g, cap, cur, hv, hb, h1, h2, h3, h4⟩
  · exact .inl h0
  · exact .inr ⟨g, cap, cur, hv, hb, h1, h2, ⟨h3.1, fun h => by cases h⟩, h4⟩
/-- shorter, and with less room ('s[:k:k]') -/
theorem SlO.cut (h : SlO ex e size v n xs bs) {g cap k : Nat} (hv : v = .slice (some ⟨g, 0, none⟩) n cap) (hk : k ≤ n) : SlO false e size (.slice (some ⟨g, 0, none⟩) k k) k (xs.take (k * size)) bs := by
  rcases h.2 with ⟨rfl, _, _⟩ | ⟨g', cap', cur, rfl, rfl, h1, h2, h3, h4⟩
  · cases hv
  · simp only [Value.slice.injEq, Option.some.injEq, Addr.mk.injEq, and_true, true_and] at hv
    obtain ⟨rfl, rfl⟩ := hv
    have hle : k * size ≤ n * size := Nat.mul_le_mul_right _ hk
    have hle2 : n * size ≤ cap' * size := Nat.mul_le_mul_right _ h1
    refine ⟨by rw [List.length_take, h.1]; omega, .inr ⟨g', k, cur, rfl, rfl, Nat.le_refl _, by omega, ⟨by omega, fun h => by cases h⟩, ?_⟩⟩
    rw [← h4, List.take_take, Nat.min_eq_left hle]
theorem Src.setCell (h : Src w size v n xs) {a : Addr} {u : Value} (ha : ∀ b c, v = .slice (some b) n c → b.block ≠ a.block) : Src (w.setCell a u) size v n xs := by
  refine ⟨h.1, ?_⟩
  rcases h.2 with h0 | ⟨b, c, hv, hc⟩
  · exact .inl h0
  · refine .inr ⟨b, c, hv, fun j x hj => ?_⟩
    rw [World.cell?_of_block (w := w) (Below.heap_setCell w a u _ (by rw [ChangeShapes.block_add]; exact ha b c hv))]
    exact hc j x hj
theorem Src.below (h : Src w size v n xs) {w' : World} (hb : Below w.heap.size w w') : Src w' size v n xs := by
  refine ⟨h.1, ?_⟩
  rcases h.2 with h0 | ⟨b, c, hv, hc⟩
  · exact .inl h0
  · refine .inr ⟨b, c, hv, fun j x hj => ?_⟩
    have := hc j x hj
    rw [hb.cell (World.block_lt_of_cell? w _ this)]
    exact this
theorem Src.ofOwn (h : Src W size v n xs) (hO : Own W m w) : Src w size v n xs := h.below hO.below

/-- APPEND onto a slice that the call owns: what it is then, and what is owned. -/
theorem run_app (t ty e : TypeId) (i : TypeInfo) (z : Value) (size bytes : Nat) (ht : P.underlying t = some (.slice e)) (hi : P.info? e = some i) (hz : i.zero = some z)
    (hsize : i.size = size) (hby : i.bytes = bytes) (hzs : z.cells.size = size) (hsz : 0 < size)
    (hs : SlOwn e size v n xs bs) (hO : Own W (bs ++ m) w) {x : Value} {k : Nat} {news : List Value} (hx : Src w size x k news) (h1 : ∀ u ∈ news, u.oneCell' = true)
    (h63 : n + k ≤ maxLen) (hbytes : (n + k) * bytes ≤ 140737488355328) :
    ∃ v' w' bs', (Builtin.append_ #[t, t] ty #[v, x]).run P w = .ok v' w' ∧ SlOwn e size v' (n + k) (xs ++ news) bs' ∧ Own W (bs' ++ m) w' ∧ (v' = .slice none 0 0 ↔ v = .slice none 0 0 ∧ k = 0) := by
  have hown : w.ownsRow W.heap.size e size v n xs := by
    refine ⟨hs.1, ?_⟩
    rcases hs.2 with ⟨h0, h1, _⟩ | ⟨g, cap, cur, hv, hb, ha, hc, hd, he⟩
    · exact .inl ⟨h0, h1⟩
    · subst hb
      exact .inr ⟨g, cap, cur, hv, hO.ge List.mem_cons_self, hO.get List.mem_cons_self, ha, hc, hd.2 rfl, he⟩
  rcases hx.2 with ⟨rfl, rfl⟩ | ⟨ad, c, rfl, hc⟩
  · have hn : news = [] := List.eq_nil_of_length_eq_zero (by simpa using hx.1)
    subst hn
    refine ⟨v, w, bs, ?_, by simpa using hs, hO, by simp⟩
    obtain ⟨A, cap, rfl, hle, _⟩ := SlO.slice hs
    cases A with
    | none => simp [Builtin.append_, run_underlying ht, sizeOf, typeInfo, hi, Builtin.lenOf, Builtin.firstCells, hle]
    | some a => simp [Builtin.append_, run_underlying ht, sizeOf, typeInfo, hi, Builtin.lenOf, Builtin.firstCells, hle, storeCells]
  · obtain ⟨v', w', hr, h2, h3, h4, h5⟩ := run_append_own_at (P := P) w W.heap.size t ty e i z size bytes ht hi hz hsize hby hzs hsz v n xs hown ad k c news hx.1 hc h1 h63 hbytes hO.size_le
    have hbel : Below W.heap.size W w' := hO.below.grown h3 hO.size_le (fun q hq => (hown.lt q hq).1)
    rcases h2.2 with ⟨hv', hn'⟩ | ⟨g, cap, cur, hv', hge, hg, ha, hb, hcs, htk⟩
    · subst hv'
      have hv0 := (h4.1 rfl).1
      subst hv0
      have hbs : bs = [] := by
        rcases hs.2 with ⟨_, _, h⟩ | ⟨g, cap, cur, hv, _⟩
        · exact h
        · cases hv
      subst hbs
      refine ⟨_, w', [], hr, ⟨h2.1, .inl ⟨rfl, hn', rfl⟩⟩, ⟨hbel, fun p hp => ⟨(hO.at_ p hp).1, ?_⟩, hO.nd⟩, h4⟩
      rw [h3.block p.1 (heap_lt (hO.at_ p hp).2) (by simp [Value.ownBlock])]
      exact (hO.at_ p hp).2
    · subst hv'
      refine ⟨_, w', [(g, .cells cur e)], hr, ⟨h2.1, .inr ⟨g, cap, cur, rfl, rfl, ha, hb, ⟨by omega, fun _ => hcs⟩, htk⟩⟩, ⟨hbel, fun p hp => ?_, ?_⟩, h4⟩
      · rcases List.mem_cons.1 hp with rfl | hp
        · exact ⟨hge, hg⟩
        · have hp' := hO.at_ p (List.mem_append_right _ hp)
          refine ⟨hp'.1, (h3.block p.1 (heap_lt hp'.2) (fun he => ?_)).trans hp'.2⟩
          rcases hs.2 with ⟨rfl, _, _⟩ | ⟨g0, cap0, cur0, rfl, rfl, _⟩
          · simp [Value.ownBlock] at he
          · simp only [Value.ownBlock, Option.some.injEq] at he
            exact Own.ne hO (b' := p.1) (o' := p.2) hp he
      · simp only [List.singleton_append, List.map_cons, List.nodup_cons]
        refine ⟨fun hin => ?_, (hO.dropL).nd⟩
        obtain ⟨p, hp, he⟩ := List.mem_map.1 hin
        have hp' := hO.at_ p (List.mem_append_right _ hp)
        rcases h5 with h5 | h5
        · rcases hs.2 with ⟨rfl, _, _⟩ | ⟨g0, cap0, cur0, rfl, rfl, _⟩
          · simp [Value.ownBlock] at h5
          · simp only [Value.ownBlock, Option.some.injEq] at h5
            exact Own.ne hO (b' := p.1) (o' := p.2) hp (by omega)
        · simp only [Value.ownBlock, Option.some.injEq] at h5
          have := heap_lt hp'.2
          omega
/-- .. at an operation of the walk: 'at_builtin; refine wpList_app rfl _ _ _ rfl rfl rfl ..' -/
theorem wpList_app {ops : Array Oper} {rest : List Oper} {o : Oper} {a : Act} {Q : Exit → Act → World → Prop} (hgd : o.guard = none) (s x : Operand) (t : TypeId)
    (ho : o.op = .call { callee := .builtin .append, args := #[s, x], argTypes := #[t, t] }) {v xv : Value} (hes : a.eval s = v) (hex : a.eval x = xv)
    (e : TypeId) (i : TypeInfo) (z : Value) (size bytes : Nat) (ht : P.underlying t = some (.slice e)) (hi : P.info? e = some i) (hz : i.zero = some z)
    (hsize : i.size = size) (hby : i.bytes = bytes) (hzs : z.cells.size = size) (hsz : 0 < size)
    (hs : SlOwn e size v n xs bs) (hO : Own W (bs ++ m) w) {k : Nat} {news : List Value} (hx : Src w size xv k news) (h1 : ∀ u ∈ news, u.oneCell' = true)
    (h63 : n + k ≤ maxLen) (hbytes : (n + k) * bytes ≤ 140737488355328)
    (h : ∀ v' w' bs', SlOwn e size v' (n + k) (xs ++ news) bs' → Own W (bs' ++ m) w' → (v' = .slice none 0 0 ↔ v = .slice none 0 0 ∧ k = 0) → wpList P ops Q rest (a.put o.dst v') w') :
    wpList P ops Q (o :: rest) a w := by
  obtain ⟨v', w', bs', hr, h2, h3, h4⟩ := run_app (P := P) t o.type e i z size bytes ht hi hz hsize hby hzs hsz hs hO hx h1 h63 hbytes
  refine wpList_plain hgd fun K hK => ?_
  unfold Oper.wp execOp
  simp only [ho, resolve, invoke, builtin, Sem.run_bind, Sem.run_pure, Result.andThen_ok, List.map_toArray, List.map_cons, List.map_nil, hes, hex, hr]
  exact hK _ _ (h v' w' bs' h2 h3 h4)
end
end Go.Proofs.Ytmfemophafncnaa

/-
  The runner: known calls over a memory of two blocks; that make one; that give a list. No condition.
-/
namespace Go.Proofs.Ytmfemophafncnaa.Ex
open Go
section
variable [Nums] {P : Program}
theorem opb_inv {ρ : Ren} {i n m s b0 b1 s0 s1 : Nat} {o : Obj} (h : TR ρ (.opb i n m) s (some o)) (h0 : ρ n = some (b0, s0)) (h1 : ρ m = some (b1, s1)) : Nums.Ω i b0 b1 o := by
  obtain ⟨c0, z0, c1, z1, o', k0, k1, k2, k3⟩ := h
  rw [h0] at k0
  rw [h1] at k1
  cases k0
  cases k1
  cases k2
  exact k3
theorem opb_mk {ρ : Ren} {i n m s b0 b1 s0 s1 : Nat} {o : Obj} (h0 : ρ n = some (b0, s0)) (h1 : ρ m = some (b1, s1)) (h : Nums.Ω i b0 b1 o) : TR ρ (.opb i n m) s (some o) := ⟨b0, s0, b1, s1, o, h0, h1, rfl, h⟩
/-- a call over the memory, whose result has no blocks -/
theorem kc_mem {k : Kc} {i j n0 n1 : Nat} {xs : List AV} (hn0 : n0 < rel) (hn1 : n1 < rel) (hpre : k.pre = [(n0, .opb i n0 n1), (n1, .opb (i + 1) n0 n1)]) (hpost : k.post = [(n0, .opb j n0 n1), (n1, .opb (j + 1) n0 n1)]) (hnews : k.news = [])
    (hargs : k.args = .ptr n0 0 :: xs) (hxs : AV.shuts xs = true) (hres : k.res.shut = true) (hf : FnOk P k.f)
    (hc : (∀ c ∈ k.conds, c.1.ev Nums.σ = c.2) → ∀ (W w : World) (m : List (Nat × Obj)) (b0 b1 : Nat) (o0 o1 : Obj), Nums.Ω i b0 b1 o0 → Nums.Ω (i + 1) b0 b1 o1 → Own W ((b0, o0) :: (b1, o1) :: m) w →
      Calls P k.f (.pointer (some ⟨b0, 0, none⟩) :: valsOf Nums.σ xs).toArray w fun e w' => e = .returned (valOf Nums.σ k.res) ∧ ∃ o0' o1', Nums.Ω j b0 b1 o0' ∧ Nums.Ω (j + 1) b0 b1 o1' ∧ Own W ((b0, o0') :: (b1, o1') :: m) w') : KcOk P k := by
  refine kc_own hf (by rw [hpost, hpre]; intro p hp; simp only [List.mem_cons, List.not_mem_nil, or_false] at hp; exact hp.elim (fun h => h ▸ ⟨_, List.mem_cons_self⟩) (fun h => h ▸ ⟨_, List.mem_cons_of_mem _ List.mem_cons_self⟩))
    (by rw [hpre]; intro p hp; simp only [List.mem_cons, List.not_mem_nil, or_false] at hp; rcases hp with rfl | rfl <;> assumption) fun hcs ρ W w m args' bs hF ha hO => ?_
  rw [hpre] at hF
  obtain ⟨b0, o0, s0, r, rfl, p0, t0, b1, o1, s1, r1, rfl, p1, t1, rfl⟩ := hF
  have w0 := opb_inv t0 p0 p1
  have w1 := opb_inv t1 p0 p1
  rw [hargs] at ha
  obtain ⟨y, ys, hy, hp, hys⟩ := ha.uncons
  obtain ⟨c0, z0, q0, rfl⟩ := hp.ptr_inv
  rw [p0] at q0
  cases q0
  have hys := VRs.shut hys hxs
  have hargs2 : args' = (.pointer (some ⟨b0, 0, none⟩) :: valsOf Nums.σ xs).toArray := by
    apply Array.ext'
    rw [hy, hys]
  subst hargs2
  refine (hc hcs W w m b0 b1 o0 o1 w0 w1 hO).mono ?_
  rintro e w' ⟨rfl, o0', o1', v0, v1, h'⟩
  refine ⟨_, [], [(b0, o0'), (b1, o1')], rfl, h', rfl, by rw [hnews]; rfl, fun ρ' hk _ => ⟨VR.ofShut hres, fun i t d hi => by rw [hnews] at hi; simp at hi, fun p hp => ?_⟩⟩
  rw [hpost] at hp
  simp only [List.mem_cons, List.not_mem_nil, or_false] at hp
  have q0 := hk _ _ hn0 p0
  have q1 := hk _ _ hn1 p1
  rcases hp with rfl | rfl
  · exact ⟨b0, o0', s0, by simp, p0, opb_mk q0 q1 v0⟩
  · exact ⟨b1, o1', s1, by simp, p1, opb_mk q0 q1 v1⟩
/-- a call that makes a memory: the first one of its results -/
theorem kc_make {k : Kc} {i : Nat} {ys : List AV} (hpre : k.pre = []) (hpost : k.post = []) (hnews : k.news = [.opb i rel (rel + 1), .opb (i + 1) rel (rel + 1)]) (hxs : AV.shuts k.args = true) (hres : k.res = .tup (.ptr rel 0 :: ys)) (hys : AV.shuts ys = true) (hf : FnOk P k.f)
    (hc : (∀ c ∈ k.conds, c.1.ev Nums.σ = c.2) → ∀ (W w : World) (m : List (Nat × Obj)), Own W m w →
      Calls P k.f (valsOf Nums.σ k.args).toArray w fun e w' => ∃ b0 b1 o0 o1, e = .returned (.tuple (.pointer (some ⟨b0, 0, none⟩) :: valsOf Nums.σ ys).toArray) ∧ Nums.Ω i b0 b1 o0 ∧ Nums.Ω (i + 1) b0 b1 o1 ∧ Own W ((b0, o0) :: (b1, o1) :: m) w') : KcOk P k := by
  refine kc_own hf (by rw [hpost]; intro p hp; cases hp) (by rw [hpre]; intro p hp; cases hp) fun hcs ρ W w m args' bs hF ha hO => ?_
  have hbs : bs = [] := by rw [hpre] at hF; exact hF
  subst hbs
  have ha := VRs.shut ha hxs
  have ha : args' = (valsOf Nums.σ k.args).toArray := by rw [← ha]
  subst ha
  refine (hc hcs W w m hO).mono ?_
  rintro e w' ⟨b0, b1, o0, o1, rfl, v0, v1, h'⟩
  refine ⟨_, [(b0, o0), (b1, o1)], [], rfl, h', rfl, by rw [hnews]; rfl, fun ρ' _ hd => ?_⟩
  have d0 : ρ' rel = some (b0, objSize o0) := hd 0 _ rfl
  have d1 : ρ' (rel + 1) = some (b1, objSize o1) := hd 1 _ rfl
  refine ⟨?_, fun j t d hj hd2 => ?_, fun p hp => by rw [hpost] at hp; cases hp⟩
  · rw [hres]
    unfold VR
    refine ⟨_, rfl, VRs.cons ?_ (VRs.ofShut hys)⟩
    unfold VR
    exact ⟨b0, _, d0, rfl⟩
  · rw [hnews] at hj
    match j with
    | 0 =>
      simp only [List.getElem?_cons_zero, Option.some.injEq] at hj hd2
      subst hj; subst hd2
      exact opb_mk d0 d1 v0
    | 1 =>
      simp only [List.getElem?_cons_succ, List.getElem?_cons_zero, Option.some.injEq] at hj hd2
      subst hj; subst hd2
      exact opb_mk d0 d1 v1
    | j + 2 => simp at hj
end
end Go.Proofs.Ytmfemophafncnaa.Ex

/-
  What a core's words say, in plain Lean. No condition.
-/
namespace Go.Proofs.Ytmfemophafncnaa.See
/-- a list of free objects: what shows the next one, the slab's links; what is out already -/
def walk (sh : Nat → Int → Option Int) (l : List Nat) : Nat → List Int → Int → Option (List Int)
  | 0, _, _ => none
  | n + 1, out, i => if i = -1 then some out else if i ∈ out then none else match sh (l.getD i.toNat 0) i with
    | none => none
    | some x => if (l.length : Int) ≤ x then none else walk sh l n (out ++ [i]) x
/-- slabs, one behind the other -/
def chain (of : Nat → Option Int) (nx : Int → Nat) (S : Nat) : Nat → List Int → Nat → Option (List Int)
  | 0, _, _ => none
  | n + 1, out, w => match of w with
    | none => none
    | some s => if (S : Int) ≤ s ∨ s ∈ out then none else if s = -1 then some out else chain of nx S n (out ++ [s]) (nx s)
/-- unlike numbers from 0 to below S: there are S at most; when there are S, all are there -/
theorem few : ∀ {S : Nat} {l : List Int}, l.Nodup → (∀ x ∈ l, 0 ≤ x ∧ x < S) → l.length ≤ S
  | 0, l, _, hb => by
    cases l with
    | nil => simp
    | cons x l =>
      have := hb x List.mem_cons_self
      omega
  | S + 1, l, hn, hb => by
    have h1 := few (S := S) (l := l.erase (S : Int)) (hn.erase _) fun x hx => by
      have h2 := (hn.mem_erase_iff).1 hx
      have := hb x h2.2
      omega
    by_cases hm : (S : Int) ∈ l
    · rw [List.length_erase_of_mem hm] at h1
      omega
    · rw [List.erase_of_not_mem hm] at h1
      omega
theorem few_lt {S : Nat} {l : List Int} (hn : l.Nodup) (hb : ∀ x ∈ l, 0 ≤ x ∧ x < S) {i : Int} (h0 : 0 ≤ i) (h1 : i < S) (hi : i ∉ l) : l.length < S := by
  have := few (S := S) (l := l ++ [i]) (List.nodup_append.2 ⟨hn, by simp, fun a ha b hb' he => by
    simp at hb'
    subst hb'
    subst he
    exact hi ha⟩) (fun x hx => by
    rcases List.mem_append.1 hx with hx | hx
    · exact hb x hx
    · simp at hx
      subst hx
      exact ⟨h0, h1⟩)
  simp at this
  omega
/-- words are numbers below 2^64 -/
def W64 (g : List Nat) : Prop := ∀ x ∈ g, x < 18446744073709551616
/-- a head: a slab, an object -/
def headOf (w : Nat) : Option (Int × Int) := if w = 0 then some (-1, -1) else if 64 ≤ w ∧ w < 2112 ∧ w % 64 ≤ 16 then some (((w / 64 : Nat) : Int) - 1, ((w % 64 : Nat) : Int) - 1) else none
/-- a part: a slab, how many -/
def partOf (w : Nat) : Option (Int × Int) := if w = 0 then some (-1, 0) else if 64 ≤ w ∧ w < 4096 ∧ 1 ≤ w % 64 ∧ w % 64 ≤ 32 then some (((w % 64 : Nat) : Int) - 1, ((w / 64 : Nat) : Int)) else none
def shelfOf (w : Nat) : Option Int := if w ≤ 32 then some ((w : Int) - 1) else none
/-- a slab's numbers -/
structure CountsP where
  inuse : Nat
  objects : Nat
  frozen : Bool
  live : Bool
  deriving DecidableEq
def countsOf (w : Nat) : Option CountsP := if w = 0 then some ⟨0, 0, false, false⟩ else
  if 131072 ≤ w ∧ w < 262144 ∧ 1 ≤ w / 256 % 256 ∧ w / 256 % 256 ≤ 16 ∧ w % 256 ≤ w / 256 % 256 then some ⟨w % 256, w / 256 % 256, decide (w / 65536 % 2 = 1), true⟩ else none
/-- the key at an object -/
def turned (key n : Nat) : Nat := (((key <<< (5 * n % 64)) % 18446744073709551616 ||| key >>> (64 - 5 * n % 64)) + n * 2654435769) % 18446744073709551616
def showOf (w key n : Nat) : Option Int := if w ^^^ turned key n ≤ 16 then some (((w ^^^ turned key n : Nat) : Int) - 1) else none
def keyOf (key s : Nat) : Nat := (key + s * 11400714819323198485) % 18446744073709551616
/-- a chart's numbers -/
structure Ch where
  C : Nat
  S : Nat
  O : Nat
  key : Nat
def Ch.words (c : Ch) : Nat := 4 * c.C + 4 + 4 * c.S + c.S * c.O
def Ch.ok (c : Ch) : Prop := 1 ≤ c.C ∧ c.C ≤ 8 ∧ 1 ≤ c.S ∧ c.S ≤ 32 ∧ 1 ≤ c.O ∧ c.O ≤ 16
def at_ (g : List Nat) (i : Nat) : Nat := g.getD i 0
def nextAt (c : Ch) (g : List Nat) (s : Int) : Nat := at_ g (4 * c.C + 4 + 4 * s.toNat + 2)
def links (c : Ch) (g : List Nat) (s : Nat) : List Nat := (g.drop (4 * c.C + 4 + 4 * c.S + s * c.O)).take c.O
/-- the free objects of a slab, from one on -/
def listP (c : Ch) (g : List Nat) (s i : Int) : Option (List Int) :=
  if 0 ≤ s ∧ s < c.S ∧ -1 ≤ i ∧ i < c.O then walk (fun w o => showOf w (keyOf c.key s.toNat) o.toNat) (links c g s.toNat) (c.O + 1) [] i else none
structure SlotP where
  slab : Int
  list : List Int
  turn : Nat
  parts : List Int
structure SlabP where
  counts : CountsP
  first : List Int
def partsP (c : Ch) (g : List Nat) (w : Nat) : Option (List Int) := chain (fun w => (partOf w).map (·.1)) (nextAt c g) c.S (c.S + 1) [] w
def shelfP (c : Ch) (g : List Nat) : Option (List Int) := chain shelfOf (nextAt c g) c.S (c.S + 1) [] (at_ g (4 * c.C + 1))
def slotP (c : Ch) (g : List Nat) (i : Nat) : Option SlotP :=
  match headOf (at_ g (4 * i)) with
  | none => none
  | some (s, o) => match (if s = -1 then some [] else listP c g s o) with
    | none => none
    | some l => match partsP c g (at_ g (4 * i + 2)) with
      | none => none
      | some p => some ⟨s, l, at_ g (4 * i + 1), p⟩
def slabP (c : Ch) (g : List Nat) (s : Nat) : Option SlabP :=
  match countsOf (at_ g (4 * c.C + 4 + 4 * s + 1)) with
  | none => none
  | some n => if c.O < at_ g (4 * c.C + 4 + 4 * s) then none else match listP c g s ((at_ g (4 * c.C + 4 + 4 * s) : Int) - 1) with
    | none => none
    | some l => some ⟨n, l⟩
/-- the first ones, as many as are asked for, if all may be -/
def upto {α : Type} (f : Nat → Option α) : Nat → Option (List α)
  | 0 => some []
  | n + 1 => match upto f n with
    | none => none
    | some l => match f n with
      | none => none
      | some x => some (l ++ [x])
theorem upto_none {α : Type} {f : Nat → Option α} {k : Nat} (h : f k = none) : ∀ {n : Nat}, k < n → upto f n = none
  | 0, hk => by omega
  | n + 1, hk => by
    unfold upto
    by_cases he : k = n
    · subst he
      rw [h]
      cases upto f k <;> rfl
    · rw [upto_none h (show k < n by omega)]
theorem upto_len {α : Type} {f : Nat → Option α} : ∀ {n : Nat} {l : List α}, upto f n = some l → l.length = n
  | 0, l, h => by
    simp only [upto, Option.some.injEq] at h
    subst h
    rfl
  | n + 1, l, h => by
    unfold upto at h
    split at h <;> first | (cases h; done) | skip
    rename_i l' hl
    split at h <;> first | (cases h; done) | skip
    simp only [Option.some.injEq] at h
    subst h
    simp [upto_len hl]
theorem upto_get {α : Type} {f : Nat → Option α} : ∀ {n : Nat} {l : List α}, upto f n = some l → ∀ i, i < n → f i = l[i]?
  | 0, l, h, i, hi => by omega
  | n + 1, l, h, i, hi => by
    unfold upto at h
    split at h <;> first | (cases h; done) | skip
    rename_i l' hl
    split at h <;> first | (cases h; done) | skip
    rename_i x hx
    simp only [Option.some.injEq] at h
    subst h
    have hlen := upto_len hl
    by_cases he : i = n
    · subst he
      rw [hx, List.getElem?_append_right (by omega), hlen, Nat.sub_self]
      rfl
    · rw [List.getElem?_append_left (by omega)]
      exact upto_get hl i (by omega)
structure CoreP where
  slots : List SlotP
  shelf : List Int
  locked : Bool
  slabs : List SlabP
/-- what words say -/
def seeP (c : Ch) (g : List Nat) : Option CoreP :=
  match upto (slotP c g) c.C with
  | none => none
  | some a => match shelfP c g with
    | none => none
    | some l => match upto (slabP c g) c.S with
      | none => none
      | some b => some ⟨a, l, decide (at_ g (4 * c.C) ≠ 0), b⟩
end Go.Proofs.Ytmfemophafncnaa.See

/-
  Contracts: a head, a part, a slab's numbers (package count). No condition.
-/
namespace Go.Proofs.Ytmfemophafncnaa.See
open Go.RowKit
attribute [local go_sem ↓] Go.wp_at_zero Go.wp_at_succ
theorem and63 (w : Nat) (h : w < 18446744073709551616) : bits .and .u64 (w : Int) 63 = ((w % 64 : Nat) : Int) := by
  have := u64_and_nat w 63 h (by omega)
  rw [show (63 : Int) = ((63 : Nat) : Int) from rfl, this, show (63 : Nat) = 2 ^ 6 - 1 from rfl, Nat.and_two_pow_sub_one_eq_mod]
theorem and255 (w : Nat) (h : w < 18446744073709551616) : bits .and .u64 (w : Int) 255 = ((w % 256 : Nat) : Int) := by
  have := u64_and_nat w 255 h (by omega)
  rw [show (255 : Int) = ((255 : Nat) : Int) from rfl, this, show (255 : Nat) = 2 ^ 8 - 1 from rfl, Nat.and_two_pow_sub_one_eq_mod]
def headOk (s o : Int) : Prop := 0 ≤ s ∧ s < 32 ∧ -1 ≤ o ∧ o < 16
instance (s o : Int) : Decidable (headOk s o) := inferInstanceAs (Decidable (0 ≤ s ∧ s < 32 ∧ -1 ≤ o ∧ o < 16))
/-- the word of a head -/
def headW (s o : Int) : Nat := (64 * (s + 1) + (o + 1)).toNat
theorem or64 (a b : Nat) (ha : a < 1000) (hb : b < 64) : bits .or .u64 ((64 * a : Nat) : Int) (b : Int) = ((64 * a + b : Nat) : Int) := by
  have := u64_or_nat (64 * a) b (by omega) (by omega)
  rw [this]
  have h := Nat.two_pow_add_eq_or_of_lt (i := 6) (b := b) hb a
  rw [← h]
def smay (s : Int) : Bool := decide (0 ≤ s ∧ s < 32)
theorem smay_yes {s : Int} (h : 0 ≤ s ∧ s < 32) : smay s = true := decide_eq_true h
theorem smay_no {s : Int} (h : ¬ (0 ≤ s ∧ s < 32)) : smay s = false := decide_eq_false h
theorem slabMay_spec (s : Int) (w : World) : Calls Try.prog 48 #[.int .i64 s] w fun e w' => e = .returned (.bool (smay s)) ∧ w = w' := by
  by_cases h0 : 0 ≤ s
  · by_cases h1 : s < 32
    · rw [smay_yes ⟨h0, h1⟩]
      go_enter Try.func48, Try.ntmps48
      go_wp2_with fail
      go_ret
      exact ⟨rfl, rfl⟩
    · rw [smay_no (by omega)]
      go_enter Try.func48, Try.ntmps48
      go_wp2_with fail
      go_ret
      exact ⟨rfl, rfl⟩
  · rw [smay_no (by omega)]
    go_enter Try.func48, Try.ntmps48
    go_wp2_with fail
    go_ret
    exact ⟨rfl, rfl⟩
/-- a head's word is made -/
theorem head_ok (s o : Int) (h : headOk s o) (w : World) : Calls Try.prog 20 #[.int .i64 s, .int .i64 o] w fun e w' => e = .returned (.tuple #[.int .u64 (headW s o), .int .i64 0]) ∧ w = w' := by
  obtain ⟨h0, h1, h2, h3⟩ := h
  have hb : (s == -1) = false := beq_eq_false_iff_ne.2 (by omega)
  have hw : bits .or .u64 ((s + 1) * 64) (o + 1) = headW s o := by
    have := or64 (s + 1).toNat (o + 1).toNat (by omega) (by omega)
    rw [show ((64 * (s + 1).toNat : Nat) : Int) = (s + 1) * 64 by omega, show ((o + 1).toNat : Int) = o + 1 by omega] at this
    rw [this]
    unfold headW
    omega
  have HW := Lib.hid hw
  clear hw
  go_enter Try.func20, Try.ntmps20
  go_wp2_with (go_at_call 48; refine (slabMay_spec s _).mono ?_; rintro e w' ⟨rfl, rfl⟩; rw [smay_yes ⟨h0, h1⟩])
  go_ret2
  exact ⟨by rw [← HW.out]; rfl, rfl⟩
theorem head_none (w : World) : Calls Try.prog 20 #[.int .i64 (-1), .int .i64 (-1)] w fun e w' => e = .returned (.tuple #[.int .u64 0, .int .i64 0]) ∧ w = w' := by
  go_enter Try.func20, Try.ntmps20
  go_wp2_with fail
  go_ret2
  exact ⟨rfl, rfl⟩
theorem head_bad (s o : Int) (h : ¬ headOk s o) (hn : ¬ (s = -1 ∧ o = -1)) (w : World) : Calls Try.prog 20 #[.int .i64 s, .int .i64 o] w fun e w' => e = .returned (.tuple #[.int .u64 0, .int .i64 2]) ∧ w = w' := by
  unfold headOk at h
  by_cases hs : s = -1
  · subst hs
    have hb : (o == -1) = false := beq_eq_false_iff_ne.2 (by omega)
    go_enter Try.func20, Try.ntmps20
    go_wp2_with (go_at_call 48; refine (slabMay_spec (-1) _).mono ?_; rintro e w' ⟨rfl, rfl⟩)
    go_ret2
    exact ⟨rfl, rfl⟩
  · have hb : (s == -1) = false := beq_eq_false_iff_ne.2 hs
    by_cases hm : 0 ≤ s ∧ s < 32
    · rcases (show o < -1 ∨ (¬ o < -1 ∧ 16 ≤ o) by omega) with ho | ⟨ho, ho2⟩
      all_goals
        go_enter Try.func20, Try.ntmps20
        go_wp2_with (go_at_call 48; refine (slabMay_spec s _).mono ?_; rintro e w' ⟨rfl, rfl⟩; rw [smay_yes hm])
        go_ret2
        exact ⟨rfl, rfl⟩
    · go_enter Try.func20, Try.ntmps20
      go_wp2_with (go_at_call 48; refine (slabMay_spec s _).mono ?_; rintro e w' ⟨rfl, rfl⟩; rw [smay_no hm])
      go_ret2
      exact ⟨rfl, rfl⟩
/-- is that a head? -/
def hIs (s o : Int) : Bool := decide (headOk s o ∨ (s = -1 ∧ o = -1))
theorem hc_spec (s o : Int) (w : World) : Calls Try.prog 67 #[.int .i64 s, .int .i64 o] w fun e w' => e = .returned (.bool (hIs s o)) ∧ w = w' := by
  by_cases h : headOk s o
  · rw [show hIs s o = true from decide_eq_true (.inl h)]
    have HH := Lib.hid h
    go_enter Try.func67, Try.ntmps67
    go_wp2_with (go_at_call 20; refine (head_ok s o HH.out _).mono ?_; rintro e w' ⟨rfl, rfl⟩)
    go_ret
    exact ⟨rfl, rfl⟩
  · by_cases hn : s = -1 ∧ o = -1
    · obtain ⟨rfl, rfl⟩ := hn
      rw [show hIs (-1) (-1) = true from decide_eq_true (.inr ⟨rfl, rfl⟩)]
      go_enter Try.func67, Try.ntmps67
      go_wp2_with (go_at_call 20; refine (head_none _).mono ?_; rintro e w' ⟨rfl, rfl⟩)
      go_ret
      exact ⟨rfl, rfl⟩
    · rw [show hIs s o = false from decide_eq_false (by intro hh; exact hh.elim h hn)]
      have HH := Lib.hid h
      have HN := Lib.hid hn
      clear h hn
      go_enter Try.func67, Try.ntmps67
      go_wp2_with (go_at_call 20; refine (head_bad s o HH.out HN.out _).mono ?_; rintro e w' ⟨rfl, rfl⟩)
      go_ret
      exact ⟨rfl, rfl⟩
/-- what told answers -/
def toldV (w : Nat) (hi lo : Int) (p : Int → Int → Bool) : Value :=
  if w ≤ 4095 ∧ p (((w / 64 : Nat) : Int) - hi) (((w % 64 : Nat) : Int) - lo) = true then .tuple #[.int .i64 (((w / 64 : Nat) : Int) - hi), .int .i64 (((w % 64 : Nat) : Int) - lo), .bool true] else .tuple #[.int .i64 0, .int .i64 0, .bool false]
set_option maxRecDepth 100000 in
theorem told_h (x : Nat) (hx : x < 18446744073709551616) (hi lo : Int) (h0 : 0 ≤ hi) (h1 : hi ≤ 1) (l0 : 0 ≤ lo) (l1 : lo ≤ 1) (w : World) :
    Calls Try.prog 51 #[.int .u64 x, .int .i64 hi, .int .i64 lo, .func (.func 67) #[] #[]] w fun e w' => e = .returned (toldV x hi lo hIs) ∧ w = w' := by
  have ha := and63 x hx
  have hd : (x : Int) / 64 = ((x / 64 : Nat) : Int) := by omega
  obtain ⟨q, hq⟩ : ∃ q : Nat, x / 64 = q := ⟨_, rfl⟩
  obtain ⟨r, hr⟩ : ∃ r : Nat, x % 64 = r := ⟨_, rfl⟩
  have hqb : x ≤ 4095 → q ≤ 63 := by omega
  have hrb : r < 64 := by omega
  unfold toldV
  rw [hq, hr]
  rw [hr] at ha
  rw [hq] at hd
  clear hq hr
  by_cases hbig : x ≤ 4095
  · have hbi : (x : Int) ≤ 4095 := by omega
    have hqb := hqb hbig
    clear hx
    cases hc : hIs ((q : Int) - hi) ((r : Int) - lo)
    · rw [if_neg (by simp)]
      go_enter Try.func51, Try.ntmps51
      go_wp2_with fail
      refine (hc_spec _ _ _).mono ?_
      rintro e w' ⟨rfl, rfl⟩
      rw [hc]
      go_wp2_with fail
      go_ret3
      exact ⟨rfl, rfl⟩
    · rw [if_pos ⟨hbig, rfl⟩]
      go_enter Try.func51, Try.ntmps51
      go_wp2_with fail
      refine (hc_spec _ _ _).mono ?_
      rintro e w' ⟨rfl, rfl⟩
      rw [hc]
      go_wp2_with fail
      go_ret3
      exact ⟨rfl, rfl⟩
  · have hbi : ¬ (x : Int) ≤ 4095 := by omega
    rw [if_neg (by intro h; exact hbig h.1)]
    clear hx hqb
    go_enter Try.func51, Try.ntmps51
    go_wp2_with fail
    go_ret3
    exact ⟨rfl, rfl⟩
/-- what HeadOf answers -/
def headV (w : Nat) : Value := match headOf w with
  | some (s, o) => .tuple #[.int .i64 s, .int .i64 o, .bool true]
  | none => .tuple #[.int .i64 (-1), .int .i64 (-1), .bool false]
theorem headOf_told (w : Nat) : headOf w = if w ≤ 4095 ∧ hIs (((w / 64 : Nat) : Int) - 1) (((w % 64 : Nat) : Int) - 1) = true then some (((w / 64 : Nat) : Int) - 1, ((w % 64 : Nat) : Int) - 1) else none := by
  unfold headOf hIs headOk
  by_cases h0 : w = 0
  · subst h0
    rw [if_pos rfl, if_pos ⟨by omega, by decide⟩]
    rfl
  · rw [if_neg h0]
    by_cases h1 : 64 ≤ w ∧ w < 2112 ∧ w % 64 ≤ 16
    · rw [if_pos h1, if_pos ⟨by omega, decide_eq_true (.inl (by omega))⟩]
    · rw [if_neg h1, if_neg]
      rintro ⟨h2, h3⟩
      have h3 := of_decide_eq_true h3
      omega
theorem headOf_spec (x : Nat) (hx : x < 18446744073709551616) (w : World) : Calls Try.prog 54 #[.int .u64 x] w fun e w' => e = .returned (headV x) ∧ w = w' := by
  have ht := fun w => told_h x hx 1 1 (by omega) (by omega) (by omega) (by omega) w
  have HT := Lib.hid ht
  unfold headV
  have he := headOf_told x
  clear hx ht
  by_cases hc : x ≤ 4095 ∧ hIs (((x / 64 : Nat) : Int) - 1) (((x % 64 : Nat) : Int) - 1) = true
  · rw [if_pos hc] at he
    rw [he]
    have hv : toldV x 1 1 hIs = .tuple #[.int .i64 (((x / 64 : Nat) : Int) - 1), .int .i64 (((x % 64 : Nat) : Int) - 1), .bool true] := by
      unfold toldV
      rw [if_pos hc]
    have HV := Lib.hid hv
    clear hv he hc
    go_enter Try.func54, Try.ntmps54
    go_wp2_with fail
    refine (HT.out _).mono ?_
    rintro e w' ⟨rfl, rfl⟩
    rw [HV.out]
    go_wp2_with fail
    go_ret3
    exact ⟨rfl, rfl⟩
  · rw [if_neg hc] at he
    rw [he]
    have hv : toldV x 1 1 hIs = .tuple #[.int .i64 0, .int .i64 0, .bool false] := by
      unfold toldV
      rw [if_neg hc]
    have HV := Lib.hid hv
    clear hv he hc
    go_enter Try.func54, Try.ntmps54
    go_wp2_with fail
    refine (HT.out _).mono ?_
    rintro e w' ⟨rfl, rfl⟩
    rw [HV.out]
    go_wp2_with fail
    go_ret3
    exact ⟨rfl, rfl⟩
def partOk (s n : Int) : Prop := 0 ≤ s ∧ s < 32 ∧ 1 ≤ n ∧ n ≤ 63
instance (s n : Int) : Decidable (partOk s n) := inferInstanceAs (Decidable (0 ≤ s ∧ s < 32 ∧ 1 ≤ n ∧ n ≤ 63))
/-- the word of a part -/
def partW (s n : Int) : Nat := (64 * n + (s + 1)).toNat
theorem part_ok (s n : Int) (h : partOk s n) (w : World) : Calls Try.prog 24 #[.int .i64 s, .int .i64 n] w fun e w' => e = .returned (.tuple #[.int .u64 (partW s n), .int .i64 0]) ∧ w = w' := by
  obtain ⟨h0, h1, h2, h3⟩ := h
  have hb : (s == -1) = false := beq_eq_false_iff_ne.2 (by omega)
  have hw : bits .or .u64 (n * 64) (s + 1) = partW s n := by
    have := or64 n.toNat (s + 1).toNat (by omega) (by omega)
    rw [show ((64 * n.toNat : Nat) : Int) = n * 64 by omega, show ((s + 1).toNat : Int) = s + 1 by omega] at this
    rw [this]
    unfold partW
    omega
  have HW := Lib.hid hw
  clear hw
  go_enter Try.func24, Try.ntmps24
  go_wp2_with (go_at_call 48; refine (slabMay_spec s _).mono ?_; rintro e w' ⟨rfl, rfl⟩; rw [smay_yes ⟨h0, h1⟩])
  go_ret2
  exact ⟨by rw [← HW.out]; rfl, rfl⟩
theorem part_none (w : World) : Calls Try.prog 24 #[.int .i64 (-1), .int .i64 0] w fun e w' => e = .returned (.tuple #[.int .u64 0, .int .i64 0]) ∧ w = w' := by
  go_enter Try.func24, Try.ntmps24
  go_wp2_with fail
  go_ret2
  exact ⟨rfl, rfl⟩
theorem part_bad (s n : Int) (h : ¬ partOk s n) (hn : ¬ (s = -1 ∧ n = 0)) (w : World) : Calls Try.prog 24 #[.int .i64 s, .int .i64 n] w fun e w' => e = .returned (.tuple #[.int .u64 0, .int .i64 2]) ∧ w = w' := by
  unfold partOk at h
  by_cases hs : s = -1
  · subst hs
    have hb : (n == 0) = false := beq_eq_false_iff_ne.2 (by omega)
    go_enter Try.func24, Try.ntmps24
    go_wp2_with (go_at_call 48; refine (slabMay_spec (-1) _).mono ?_; rintro e w' ⟨rfl, rfl⟩)
    go_ret2
    exact ⟨rfl, rfl⟩
  · have hb : (s == -1) = false := beq_eq_false_iff_ne.2 hs
    by_cases hm : 0 ≤ s ∧ s < 32
    · rcases (show n < 1 ∨ (¬ n < 1 ∧ 63 < n) by omega) with ho | ⟨ho, ho2⟩
      all_goals
        go_enter Try.func24, Try.ntmps24
        go_wp2_with (go_at_call 48; refine (slabMay_spec s _).mono ?_; rintro e w' ⟨rfl, rfl⟩; rw [smay_yes hm])
        go_ret2
        exact ⟨rfl, rfl⟩
    · go_enter Try.func24, Try.ntmps24
      go_wp2_with (go_at_call 48; refine (slabMay_spec s _).mono ?_; rintro e w' ⟨rfl, rfl⟩; rw [smay_no hm])
      go_ret2
      exact ⟨rfl, rfl⟩
/-- is that a part? (how many, which slab) -/
def pIs (n s : Int) : Bool := decide (partOk s n ∨ (s = -1 ∧ n = 0))
theorem pc_spec (n s : Int) (w : World) : Calls Try.prog 52 #[.int .i64 n, .int .i64 s] w fun e w' => e = .returned (.bool (pIs n s)) ∧ w = w' := by
  by_cases h : partOk s n
  · rw [show pIs n s = true from decide_eq_true (.inl h)]
    have HH := Lib.hid h
    clear h
    go_enter Try.func52, Try.ntmps52
    go_wp2_with (go_at_call 24; refine (part_ok s n HH.out _).mono ?_; rintro e w' ⟨rfl, rfl⟩)
    go_ret
    exact ⟨rfl, rfl⟩
  · by_cases hn : s = -1 ∧ n = 0
    · obtain ⟨rfl, rfl⟩ := hn
      rw [show pIs 0 (-1) = true from decide_eq_true (.inr ⟨rfl, rfl⟩)]
      go_enter Try.func52, Try.ntmps52
      go_wp2_with (go_at_call 24; refine (part_none _).mono ?_; rintro e w' ⟨rfl, rfl⟩)
      go_ret
      exact ⟨rfl, rfl⟩
    · rw [show pIs n s = false from decide_eq_false (by intro hh; exact hh.elim h hn)]
      have HH := Lib.hid h
      have HN := Lib.hid hn
      clear h hn
      go_enter Try.func52, Try.ntmps52
      go_wp2_with (go_at_call 24; refine (part_bad s n HH.out HN.out _).mono ?_; rintro e w' ⟨rfl, rfl⟩)
      go_ret
      exact ⟨rfl, rfl⟩
set_option maxRecDepth 100000 in
theorem told_p (x : Nat) (hx : x < 18446744073709551616) (hi lo : Int) (h0 : 0 ≤ hi) (h1 : hi ≤ 1) (l0 : 0 ≤ lo) (l1 : lo ≤ 1) (w : World) :
    Calls Try.prog 51 #[.int .u64 x, .int .i64 hi, .int .i64 lo, .func (.func 52) #[] #[]] w fun e w' => e = .returned (toldV x hi lo pIs) ∧ w = w' := by
  have ha := and63 x hx
  have hd : (x : Int) / 64 = ((x / 64 : Nat) : Int) := by omega
  obtain ⟨q, hq⟩ : ∃ q : Nat, x / 64 = q := ⟨_, rfl⟩
  obtain ⟨r, hr⟩ : ∃ r : Nat, x % 64 = r := ⟨_, rfl⟩
  have hqb : x ≤ 4095 → q ≤ 63 := by omega
  have hrb : r < 64 := by omega
  unfold toldV
  rw [hq, hr]
  rw [hr] at ha
  rw [hq] at hd
  clear hq hr
  by_cases hbig : x ≤ 4095
  · have hbi : (x : Int) ≤ 4095 := by omega
    have hqb := hqb hbig
    clear hx
    cases hc : pIs ((q : Int) - hi) ((r : Int) - lo)
    · rw [if_neg (by simp)]
      go_enter Try.func51, Try.ntmps51
      go_wp2_with fail
      refine (pc_spec _ _ _).mono ?_
      rintro e w' ⟨rfl, rfl⟩
      rw [hc]
      go_wp2_with fail
      go_ret3
      exact ⟨rfl, rfl⟩
    · rw [if_pos ⟨hbig, rfl⟩]
      go_enter Try.func51, Try.ntmps51
      go_wp2_with fail
      refine (pc_spec _ _ _).mono ?_
      rintro e w' ⟨rfl, rfl⟩
      rw [hc]
      go_wp2_with fail
      go_ret3
      exact ⟨rfl, rfl⟩
  · have hbi : ¬ (x : Int) ≤ 4095 := by omega
    rw [if_neg (by intro h; exact hbig h.1)]
    clear hx hqb
    go_enter Try.func51, Try.ntmps51
    go_wp2_with fail
    go_ret3
    exact ⟨rfl, rfl⟩
/-- what PartOf answers -/
def partV (w : Nat) : Value := match partOf w with
  | some (s, n) => .tuple #[.int .i64 s, .int .i64 n, .bool true]
  | none => .tuple #[.int .i64 (-1), .int .i64 0, .bool false]
theorem partOf_told (w : Nat) : partOf w = if w ≤ 4095 ∧ pIs (((w / 64 : Nat) : Int) - 0) (((w % 64 : Nat) : Int) - 1) = true then some (((w % 64 : Nat) : Int) - 1, ((w / 64 : Nat) : Int) - 0) else none := by
  unfold partOf pIs partOk
  by_cases h0 : w = 0
  · subst h0
    rw [if_pos rfl, if_pos ⟨by omega, by decide⟩]
    rfl
  · rw [if_neg h0]
    by_cases h1 : 64 ≤ w ∧ w < 4096 ∧ 1 ≤ w % 64 ∧ w % 64 ≤ 32
    · rw [if_pos h1, if_pos ⟨by omega, decide_eq_true (.inl (by omega))⟩, Int.sub_zero]
    · rw [if_neg h1, if_neg]
      rintro ⟨h2, h3⟩
      have h3 := of_decide_eq_true h3
      omega
theorem partOf_spec (x : Nat) (hx : x < 18446744073709551616) (w : World) : Calls Try.prog 23 #[.int .u64 x] w fun e w' => e = .returned (partV x) ∧ w = w' := by
  have ht := fun w => told_p x hx 0 1 (by omega) (by omega) (by omega) (by omega) w
  have HT := Lib.hid ht
  unfold partV
  have he := partOf_told x
  clear hx ht
  by_cases hc : x ≤ 4095 ∧ pIs (((x / 64 : Nat) : Int) - 0) (((x % 64 : Nat) : Int) - 1) = true
  · rw [if_pos hc] at he
    rw [he]
    have hv : toldV x 0 1 pIs = .tuple #[.int .i64 (((x / 64 : Nat) : Int) - 0), .int .i64 (((x % 64 : Nat) : Int) - 1), .bool true] := by
      unfold toldV
      rw [if_pos hc]
    have HV := Lib.hid hv
    clear hv he hc
    go_enter Try.func23, Try.ntmps23
    go_wp2_with fail
    refine (HT.out _).mono ?_
    rintro e w' ⟨rfl, rfl⟩
    rw [HV.out]
    go_wp2_with fail
    go_ret3
    exact ⟨by simp, rfl⟩
  · rw [if_neg hc] at he
    rw [he]
    have hv : toldV x 0 1 pIs = .tuple #[.int .i64 0, .int .i64 0, .bool false] := by
      unfold toldV
      rw [if_neg hc]
    have HV := Lib.hid hv
    clear hv he hc
    go_enter Try.func23, Try.ntmps23
    go_wp2_with fail
    refine (HT.out _).mono ?_
    rintro e w' ⟨rfl, rfl⟩
    rw [HV.out]
    go_wp2_with fail
    go_ret3
    exact ⟨rfl, rfl⟩
end Go.Proofs.Ytmfemophafncnaa.See
