/-
  Texts of this claim, joined. No condition.
-/
import Derived.Test.YtllbnoojkgbjiaaGreatFq6
import Derived.Maps.AppendAt
import Derived.Laws.AppendOwnNone
import Derived.Lib.SliceRun
import Derived.Deep.DeepCutAuto
import Derived.Deep.CutBlock
import Derived.Deep.Slices
import Derived.SizedLaws
import Derived.Laws.StructEq
/-
  The runner: a function's text, question by question; lists of what is known. No condition.
-/
namespace Go.Proofs.YtllbnoojkgbjiaaGreat.Ex
open Go
section
variable {P : Program} {gs : List (Nat × List Int)} {rks : List (Nat × CK)} {ro : Nat → Option (Option Addr × Nat × Nat)} {σ : Nat → Int} {Ω : Nat → Nat → Nat → Obj → Prop}
/-- known calls whatever the arguments are -/
abbrev kgs (l : List Kc) : Kg := fun _ => l
theorem kcAll_nil : KcAll gs rks ro P σ Ω (kgs []) := fun _ _ _ _ h => by cases h
theorem kcAll_cons {k : Kc} {l : List Kc} (h : ∀ fs (ok : ∀ f ∈ fs, f.1.ev σ = f.2), @KcOk (nums gs rks ro σ Ω fs ok) P k) (hl : KcAll gs rks ro P σ Ω (kgs l)) : KcAll gs rks ro P σ Ω (kgs (k :: l)) := fun fs ok args x hx => by
  rcases List.mem_cons.1 hx with rfl | hx
  · exact h fs ok
  · exact hl fs ok args x hx
/-- .. and by their arguments -/
theorem kcAll_more {k1 k2 : Kg} (h : KcAll gs rks ro P σ Ω k1) (hl : KcAll gs rks ro P σ Ω k2) : KcAll gs rks ro P σ Ω (fun args => k1 args ++ k2 args) := fun fs ok args x hx => by
  rcases List.mem_append.1 hx with hx | hx
  · exact h fs ok args x hx
  · exact hl fs ok args x hx
/-- one whose first argument is a slice -/
abbrev kgSl (K : Nat → Kc) : Kg := fun args => match args with
  | .dsl n _ _ :: _ => match Nat.blt n 600000 with
    | true => [K n]
    | false => []
  | _ => []
theorem kcAll_sl {K : Nat → Kc} (h : ∀ n, n < rel → ∀ fs (ok : ∀ f ∈ fs, f.1.ev σ = f.2), @KcOk (nums gs rks ro σ Ω fs ok) P (K n)) : KcAll gs rks ro P σ Ω (kgSl K) := fun fs ok args x hx => by
  unfold kgSl at hx
  split at hx
  · split at hx
    · rename_i hlt
      rw [List.mem_singleton] at hx
      subst hx
      exact h _ (show _ < 600000 by simpa using hlt) fs ok
    · cases hx
  · cases hx
theorem lnAll_nil {f : FuncId} : LnAll gs rks ro P f σ Ω [] := fun fs ok c hc l hl => by cases hl
theorem lnAll_cons {f : FuncId} {l : Ln} {lns : List Ln} (h : ∀ fs (ok : ∀ q ∈ fs, q.1.ev σ = q.2) (c : Code), c ∈ loopsOf (bodyOf P f) → loopId c = some l.key → @LnOk (nums gs rks ro σ Ω fs ok) P (ntOf P f) c l) (hl : LnAll gs rks ro P f σ Ω lns) : LnAll gs rks ro P f σ Ω (l :: lns) := fun fs ok c hc l' hl' => by
  rcases List.mem_cons.1 hl' with rfl | hl'
  · exact h fs ok c hc
  · exact hl fs ok c hc l' hl'
/-- one that looks at no memory -/
theorem kc_pure [Nums] {k : Kc} (ha : AV.shuts k.args = true) (hv : k.res.shut = true) (hpre : k.pre = []) (hpost : k.post = []) (hnews : k.news = []) (hf : FnOk P k.f)
    (hc : (∀ c ∈ k.conds, c.1.ev Nums.σ = c.2) → ∀ (W w : World) (m : List (Nat × Obj)), Own W m w → Calls P k.f (valsOf Nums.σ k.args).toArray w fun e w' => e = .returned (valOf Nums.σ k.res) ∧ Own W m w') : KcOk P k := by
  refine kc_own hf (by rw [hpost]; intro p hp; cases hp) (by rw [hpre]; intro p hp; cases hp) fun hcs ρ W w m args' bs hF hargs hO => ?_
  have hbs : bs = [] := by rw [hpre] at hF; exact hF
  subst hbs
  have hargs := VRs.shut hargs ha
  have hargs : args' = (valsOf Nums.σ k.args).toArray := by rw [← hargs]
  subst hargs
  refine (hc hcs W w m hO).mono ?_
  rintro e w' ⟨rfl, h'⟩
  refine ⟨_, [], [], rfl, h', rfl, by rw [hnews]; rfl, fun ρ' _ _ => ⟨VR.ofShut hv, fun i t d hi => by rw [hnews] at hi; simp at hi, fun p hp => by rw [hpost] at hp; cases hp⟩⟩
/-- A FUNCTION'S TEXT, question by question -/
theorem treeC_calls (hm : P.follows .mixedOrders = true) {f : FuncId} {kcs : Kg} {lns : List Ln} (hk : KcAll gs rks ro P σ Ω kcs) (hl : LnAll gs rks ro P f σ Ω lns) {n : Nat} {args : List AV} {t : Tm} {K : AV → List (Nat × TB) → Prop} {ρ : Ren} {w : World} {args' : Array Value} :
    ∀ (d : CT) (fs : List (Cnd × Bool)) (ok : ∀ f ∈ fs, f.1.ev σ = f.2), treeC P gs rks kcs lns n f args t d fs = true → RunC σ K d →
    @HR (nums gs rks ro σ Ω fs ok) ρ t.h.get t.h.next w → @VRs (nums gs rks ro σ Ω fs ok) ρ args args'.toList →
    Calls P f args' w fun e w' => ∃ fs' ok' v post ρ' x, ∃ h' : AH, K v post ∧ e = .returned x ∧ @VR (nums gs rks ro σ Ω fs' ok') ρ' v x ∧ @Stp (nums gs rks ro σ Ω fs' ok') ρ t.h.get t.h.next w ρ' h'.get h'.next w' ∧ ∀ p ∈ post, (h'.get p.1).isSome = true ∧ ∃ b s, ρ' p.1 = some (b, s) ∧ @TR (nums gs rks ro σ Ω fs' ok') ρ' p.2 s w'.heap[b]?
  | .is v post, fs, ok, h, hK, hH, hargs => by
    unfold treeC at h
    letI N : Nums := nums gs rks ro σ Ω fs ok
    split at h <;> first | (cases h; done) | skip
    rename_i fn hf
    split at h <;> first | (cases h; done) | skip
    split at h <;> first | (cases h; done) | skip
    rename_i c hb
    split at h <;> first | (cases h; done) | skip
    rename_i hle
    rw [Bool.and_eq_true] at hle
    have hle := Nat.le_of_ble_eq_true hle.1
    have hnt : ntOf P f = fn.ntmps := by unfold ntOf; rw [hf]
    have hbody : bodyOf P f = c := by unfold bodyOf; rw [hf]; dsimp only; rw [hb]
    have hal : args.length = args'.size := by simpa using VRs.len hargs
    have hE : ER ρ (envOf 0 args .e) fn.ntmps { tmps := args' ++ Array.replicate (fn.ntmps - args'.size) undef, defers := [] } := by
      refine ⟨rfl, by simp; omega, fun t v hv => ?_⟩
      rcases envOf_get hv with ⟨_, h1⟩ | h1
      · rw [Nat.sub_zero] at h1
        obtain ⟨x, hx, hr⟩ := VRs.get hargs h1
        refine ⟨x, ?_, hr⟩
        have hlt := (List.getElem?_eq_some_iff.1 hx).1
        rw [Array.getElem?_append_left (by simpa using hlt)]
        simpa using hx
      · rw [T.get_e] at h1; cases h1
    split at h <;> first | (cases h; done) | skip
    rename_i x env' h1 hno hx
    split at h <;> first | (cases h; done) | skip
    rename_i vs hvs
    rw [Bool.and_eq_true] at h
    refine calls_of_wp hf hb (wp_mono (execL_wp (L := loopsOf c) hm (callK_sound hm (hk fs ok) n) (fun d hd l hl' hkey => by
      have := hl fs ok d (by rw [hbody]; exact hd) l hl' hkey
      rw [hnt] at this
      exact this) c _ _ _ _ _ (fun _ h => h) hx ρ w _ hE hH) ?_)
    rintro e a1 w1 ⟨rfl, ρ1, hst, hE1⟩
    obtain ⟨y, hy, hrun⟩ := results_sound (fn := fn) hst.hr hE1 hvs
    have hpost : ∀ p ∈ post, (h1.get p.1).isSome = true ∧ ∃ b s, ρ1 p.1 = some (b, s) ∧ TR ρ1 p.2 s w1.heap[b]? := fun p hp => by
      obtain ⟨a, ha, haf⟩ := (fitH_mem h.2).1 p hp
      have hid : ({} : Sub).nAt p.1 = p.1 := rfl
      rw [hid] at ha
      obtain ⟨b, s, hbs, hO⟩ := hst.hr.obj _ _ ha
      exact ⟨by rw [ha]; rfl, b, s, hbs, TR.sub0.1 (TB.fits_ok haf hO)⟩
    cases x with
    | exit id => exact absurd rfl (hno id)
    | normal => exact ⟨hE1.dz, y, hrun, fs, ok, v, post, ρ1, y, h1, hK, rfl, AV.fits_ok h.1 hy, hst, hpost⟩
    | ret => exact ⟨hE1.dz, y, hrun, fs, ok, v, post, ρ1, y, h1, hK, rfl, AV.fits_ok h.1 hy, hst, hpost⟩
  | .bad, _, _, _, hK, _, _ => hK.elim
  | .node q d e, fs, ok, h, hK, hH, hargs => by
    unfold treeC at h
    split at h <;> first | (cases h; done) | skip
    rename_i h1
    cases hq : q.ev σ with
    | true => exact treeC_calls hm hk hl d ((q, true) :: fs) (cons_ok ok hq) h1 (hK.1 hq) (HR.fac hH) (VRs.fac hargs)
    | false => exact treeC_calls hm hk hl e ((q, false) :: fs) (cons_ok ok hq) h (hK.2 hq) (HR.fac hH) (VRs.fac hargs)
/-- a law: it begins without blocks, and answers true -/
theorem law_calls (hm : P.follows .mixedOrders = true) {f : FuncId} {kcs : Kg} {lns : List Ln} (hk : KcAll gs rks ro P σ Ω kcs) (hl : LnAll gs rks ro P f σ Ω lns) {n : Nat} {args : List AV} {d : CT} {fs : List (Cnd × Bool)} (ok : ∀ f ∈ fs, f.1.ev σ = f.2)
    (h : treeC P gs rks kcs lns n f args ⟨[], [], ⟨0, 0, 0, 0⟩⟩ d fs = true) (hr : RunC σ (fun v _ => v = .bool true) d) (w : World) (hg : Tabs gs w) (hro : @Ros (nums gs rks ro σ Ω fs ok) w) {args' : Array Value} (hargs : @VRs (nums gs rks ro σ Ω fs ok) (fun _ => none) args args'.toList) :
    Calls P f args' w fun e w' => e = .returned (.bool true) ∧ Own w [] w' := by
  have hne : ∀ n, ((⟨[], [], ⟨0, 0, 0, 0⟩⟩ : Tm).h.get n) = none := fun n => by
    show (T.e : T AO).get n = none
    exact T.get_e n
  have hH : @HR (nums gs rks ro σ Ω fs ok) (fun _ => none) (⟨[], [], ⟨0, 0, 0, 0⟩⟩ : Tm).h.get (⟨[], [], ⟨0, 0, 0, 0⟩⟩ : Tm).h.next w :=
    @HR.mk (nums gs rks ro σ Ω fs ok) _ _ _ _ (fun _ _ => rfl) (fun n o hn => by rw [hne] at hn; cases hn) (fun n m b s s' hn => by rw [hne] at hn; cases hn) hg (fun b l _ n s hn => by rw [hne] at hn; cases hn) hro (fun b _ n s hn => by rw [hne] at hn; cases hn)
  refine (treeC_calls hm hk hl d fs ok h hr hH hargs).mono ?_
  rintro e w' ⟨fs', ok', v, post, ρ', x, h', rfl, rfl, hv, hst, _⟩
  unfold VR at hv
  subst hv
  refine ⟨rfl, ⟨⟨@Stp.os (nums gs rks ro σ Ω fs' ok') _ _ _ _ _ _ _ _ hst, @Stp.tape (nums gs rks ro σ Ω fs' ok') _ _ _ _ _ _ _ _ hst, @Stp.output (nums gs rks ro σ Ω fs' ok') _ _ _ _ _ _ _ _ hst, @Stp.size (nums gs rks ro σ Ω fs' ok') _ _ _ _ _ _ _ _ hst, fun b hb => @Stp.block (nums gs rks ro σ Ω fs' ok') _ _ _ _ _ _ _ _ hst b hb fun n s hn => by rw [hne] at hn; cases hn⟩, by simp, by simp⟩⟩
end
/-! a reading of numbers out of numbers and lists -/
/-- numbers 'v', lists 'l' -/
def sg (v : Nat → Int) (l : Nat → List (List Int)) (n : Nat) : Int :=
  if n < 2048 then v n else if n < 4096 then ((l (n - 2048)).length : Int) else (((l ((n - 4096) % 64))[(n - 4096) / 64 / 64]?).getD [])[(n - 4096) / 64 % 64]?.getD 0
theorem sg_v {v : Nat → Int} {l : Nat → List (List Int)} {i : Nat} (h : i < 2048) : sg v l i = v i := by simp [sg, h]
theorem sg_ln {v : Nat → Int} {l : Nat → List (List Int)} {i : Nat} (h : i < 64) : sg v l (ln i) = ((l i).length : Int) := by
  unfold sg ln
  rw [if_neg (by omega), if_pos (by omega), Nat.add_sub_cancel_left]
theorem sg_lc {v : Nat → Int} {l : Nat → List (List Int)} {i e j : Nat} (hi : i < 64) (hj : j < 64) : sg v l (lc i e j) = (((l i)[e]?).getD [])[j]?.getD 0 := by
  unfold sg lc
  rw [if_neg (by omega), if_neg (by omega), Nat.add_sub_cancel_left]
  have h1 : ((e * 64 + j) * 64 + i) % 64 = i := by omega
  have h2 : ((e * 64 + j) * 64 + i) / 64 = e * 64 + j := by omega
  have h3 : (e * 64 + j) / 64 = e := by omega
  have h4 : (e * 64 + j) % 64 = j := by omega
  rw [h1, h2, h3, h4]
end Go.Proofs.YtllbnoojkgbjiaaGreat.Ex

/-
  The runner: a function's text, run question by question, as a known call of another one. No condition.
-/
namespace Go.Proofs.YtllbnoojkgbjiaaGreat.Ex
open Go
mutual
theorem AV.sub_e : ∀ v : AV, v.sub {} = v
  | .sym k e => by unfold AV.sub; rw [show e.sub {} = e from SE.sub_n [] e]
  | .bsym c p => by unfold AV.sub; rw [show c.sub {} = c from Cnd.sub_n [] c]
  | .ptr n off => by unfold AV.sub; rfl
  | .eptr n e s j => by unfold AV.sub; rw [show e.sub {} = e from SE.sub_n [] e]; rfl
  | .dsl n e s => by unfold AV.sub; rw [show e.sub {} = e from SE.sub_n [] e]; rfl
  | .ssl n e l s => by unfold AV.sub; rw [show e.sub {} = e from SE.sub_n [] e]; rfl
  | .rptr i e => by unfold AV.sub; rw [show e.sub {} = e from SE.sub_n [] e]
  | .sl n off len sz r => by unfold AV.sub; rfl
  | .map n => by unfold AV.sub; rfl
  | .fn f a b => by unfold AV.sub; rw [AV.subs_e a, AV.subs_e b]
  | .ifc t v => by unfold AV.sub; rw [AV.sub_e v]
  | .agg l => by unfold AV.sub; rw [AV.subs_e l]
  | .tup l => by unfold AV.sub; rw [AV.subs_e l]
  | .bool _ => by unfold AV.sub; rfl
  | .int _ _ => by unfold AV.sub; rfl
  | .str _ => by unfold AV.sub; rfl
  | .nilp => by unfold AV.sub; rfl
  | .gptr _ _ => by unfold AV.sub; rfl
  | .nilsl => by unfold AV.sub; rfl
  | .esl _ => by unfold AV.sub; rfl
  | .zsl => by unfold AV.sub; rfl
  | .osl e => by unfold AV.sub; rw [show e.sub {} = e from SE.sub_n [] e]
  | .rsl i => by unfold AV.sub; rfl
  | .nilmap => by unfold AV.sub; rfl
  | .nilfn => by unfold AV.sub; rfl
  | .nilif => by unfold AV.sub; rfl
theorem AV.subs_e : ∀ l : List AV, AV.subs {} l = l
  | [] => by unfold AV.subs; rfl
  | v :: l => by unfold AV.subs; rw [AV.sub_e v, AV.subs_e l]
end
theorem TB.sub_e (t : TB) : t.sub {} = t := by
  cases t with
  | cells l e => show TB.cells (AV.subs {} l) e = _; rw [AV.subs_e]
  | recs l ks e => show TB.recs (l.sub {}) ks e = _; rw [show l.sub {} = l from SE.sub_n [] l]
  | opb i n m => rfl
def subH (θ : Sub) (pre : List (Nat × TB)) : List (Nat × TB) := pre.map fun p => (p.1, p.2.sub θ)
theorem notIn_subH {θ : Sub} (hn : θ.n = []) {n : Nat} : ∀ {pre : List (Nat × TB)}, notIn {} n (subH θ pre) = true → notIn θ n pre = true
  | [], _ => rfl
  | (m, t) :: l, h => by
    have e1 : θ.nAt m = m := by unfold Sub.nAt; rw [hn]; rfl
    unfold subH at h
    rw [List.map_cons] at h
    unfold notIn at h ⊢
    rw [e1]
    have e2 : ({} : Sub).nAt m = m := rfl
    dsimp only at h
    rw [e2] at h
    split at h
    · cases h
    · exact notIn_subH hn h
theorem fitH_subH [Fc] {θ : Sub} (hn : θ.n = []) {h : AH} : ∀ {pre : List (Nat × TB)}, fitH {} h (subH θ pre) = true → fitH θ h pre = true
  | [], _ => rfl
  | (m, t) :: l, hf => by
    have e1 : θ.nAt m = m := by unfold Sub.nAt; rw [hn]; rfl
    unfold subH at hf
    rw [List.map_cons] at hf
    unfold fitH at hf ⊢
    rw [e1]
    have e2 : ({} : Sub).nAt m = m := rfl
    dsimp only at hf
    rw [e2] at hf
    split at hf
    · rename_i a ha
      rw [TB.sub_e] at hf
      rw [Bool.and_eq_true, Bool.and_eq_true] at hf ⊢
      exact ⟨hf.1, notIn_subH hn hf.2.1, fitH_subH hn hf.2.2⟩
    · cases hf
/-- new blocks, where they came to be -/
def newsAt (θ : Sub) : Nat → List TB → List (Nat × TB)
  | _, [] => []
  | i, t :: l => (θ.nAt (Nat.add rel i), t.sub θ) :: newsAt θ (Nat.add i 1) l
def leafPost (k : Kc) (θ : Sub) : List (Nat × TB) := subH θ k.post ++ newsAt θ 0 k.news
/-- an end of a text that is a known call -/
def Kc.leaf (k : Kc) (θ : Sub) : CT := .is (k.res.sub θ) (leafPost k θ)
theorem newsAt_mem {θ : Sub} : ∀ {l : List TB} {i j : Nat} {t : TB}, l[j]? = some t → (θ.nAt (rel + (i + j)), t.sub θ) ∈ newsAt θ i l
  | [], _, _, _, h => by simp at h
  | x :: l, i, 0, t, h => by
    simp only [List.getElem?_cons_zero, Option.some.injEq] at h
    subst h
    exact List.mem_cons_self
  | x :: l, i, j + 1, t, h => by
    have := newsAt_mem (θ := θ) (i := i + 1) (j := j) (t := t) (l := l) (by simpa using h)
    rw [show i + 1 + j = i + (j + 1) from by omega] at this
    exact List.mem_cons_of_mem _ this
def noOpb : TB → Bool
  | .opb _ _ _ => false
  | _ => true
def keptN (θ : Sub) : List (Nat × TB) → Bool
  | [] => true
  | (n, _) :: l => Nat.beq (θ.nAt n) n && keptN θ l
/-- the new names are other ones, and new -/
def newN (θ : Sub) (kn : Nat) : Nat → Nat → Bool
  | _, 0 => true
  | i, n + 1 => Nat.ble kn (θ.nAt (rel + i)) && ((List.range i).all (fun j => !(Nat.beq (θ.nAt (rel + j)) (θ.nAt (rel + i)))) && newN θ kn (i + 1) n)
def okR (pre : List (Nat × TB)) (m : Nat) (n : Nat) : Bool := hasN n pre || (Nat.ble rel n && Nat.blt n (rel + m))
/-- an end is as it must be -/
def leafOk (k : Kc) (pre : List (Nat × TB)) (kn : Nat) (θ : Sub) (B : Bd) : Bool :=
  (keptN θ pre && newN θ kn 0 k.news.length) && ((AV.bd B k.res && (bdH B k.post && k.news.all (TB.bd B))) && Nat.ble (rel + k.news.length) B.kn)
def kcForm (k : Kc) (pre : List (Nat × TB)) (B0 : Bd) (A : List AV) : Bool :=
  ((AV.bds B0 A && bdH B0 pre) && Nat.ble B0.kn rel) && ((AV.nm (okR pre k.news.length) k.res && nmH (okR pre k.news.length) k.post) && k.news.all fun t => TB.nm (okR pre k.news.length) t && noOpb t)
theorem keptN_mem {θ : Sub} : ∀ {l : List (Nat × TB)}, keptN θ l = true → ∀ p ∈ l, θ.nAt p.1 = p.1
  | [], _, p, hp => by cases hp
  | (n, t) :: l, h, p, hp => by
    unfold keptN at h
    rw [Bool.and_eq_true] at h
    rcases List.mem_cons.1 hp with rfl | hp
    · exact Nat.eq_of_beq_eq_true h.1
    · exact keptN_mem h.2 p hp
theorem newN_ok {θ : Sub} {kn : Nat} : ∀ {n i : Nat}, newN θ kn i n = true → ∀ j, i ≤ j → j < i + n → kn ≤ θ.nAt (rel + j) ∧ ∀ a, a < j → θ.nAt (rel + a) ≠ θ.nAt (rel + j)
  | 0, i, _, j, h1, h2 => by omega
  | n + 1, i, h, j, h1, h2 => by
    unfold newN at h
    rw [Bool.and_eq_true, Bool.and_eq_true] at h
    rcases Nat.lt_or_ge i j with hlt | hge
    · exact newN_ok h.2.2 j (by omega) (by omega)
    · have : j = i := by omega
      subst this
      refine ⟨Nat.le_of_ble_eq_true h.1, fun a ha he => ?_⟩
      have := List.all_eq_true.1 h.2.1 a (List.mem_range.2 ha)
      rw [he] at this
      simp at this
theorem TR.names {N : Nums} {ρ ρ' : Ren} {p : Nat → Bool} (hp : ∀ n, p n = true → ρ' n = ρ n) {t : TB} {s : Nat} {x : Option Obj} (hn : TB.nm p t = true) (h : @TR N ρ t s x) : @TR N ρ' t s x := by
  cases t with
  | cells l e =>
    obtain ⟨cur, h1, h2, h3, h4⟩ := h
    exact ⟨cur, h1, h2, h3, fun i v hv => by
      obtain ⟨h5, y, h6, h7⟩ := h4 i v hv
      exact ⟨h5, y, h6, VR.names hp (nms_get hn hv) h7⟩⟩
  | recs l ks e => exact h
  | opb i n m =>
    unfold TB.nm at hn
    rw [Bool.and_eq_true] at hn
    obtain ⟨b0, z0, b1, z1, o, h0, h1, h2, h3⟩ := h
    exact ⟨b0, z0, b1, z1, o, by rw [hp _ hn.1]; exact h0, by rw [hp _ hn.2]; exact h1, h2, h3⟩
theorem TR.size {N : Nums} {ρ : Ren} {t : TB} {s : Nat} {o : Obj} (h : @TR N ρ t s (some o)) (hn : noOpb t = true) : s = objSize o := by
  cases t with
  | cells l e => obtain ⟨cur, h1, h2, _⟩ := h; cases h1; exact h2.symm
  | recs l ks e => obtain ⟨cur, h1, h2, _⟩ := h; cases h1; exact h2.symm
  | opb i n m => cases hn
section
variable {P : Program} {gs : List (Nat × List Int)} {rks : List (Nat × CK)} {ro : Nat → Option (Option Addr × Nat × Nat)} {σ1 σ2 : Nat → Int} {Ω1 Ω2 : Nat → Nat → Nat → Obj → Prop}
set_option maxHeartbeats 1000000 in
/-- A FUNCTION'S TEXT, AS A KNOWN CALL: read by numbers of its own -/
theorem kc_tree (hm : P.follows .mixedOrders = true) {k : Kc} {A : List AV} {pre : List (Nat × TB)} {B0 : Bd} {θ0 : Sub} {kcs : Kg} {lns : List Ln} {n : Nat} {d : CT} {fs1 : List (Cnd × Bool)}
    (hf : FnOk P k.f) (hpre : k.pre = subH θ0 pre) (hargs : k.args = AV.subs θ0 A) (hθ : θ0.n = []) (hpost : k.post.map (·.1) = pre.map (·.1)) (hform : kcForm k pre B0 A = true)
    (hk : KcAll gs rks ro P σ1 Ω1 kcs) (hl : LnAll gs rks ro P k.f σ1 Ω1 lns) (ok1 : ∀ f ∈ fs1, f.1.ev σ1 = f.2) (h : treeC P gs rks kcs lns n k.f A ⟨[], pre, B0⟩ d fs1 = true)
    (ag0 : AgreeD θ0 B0 ro σ2 Ω2 σ1 Ω1) (hr : RunC σ1 (fun v post => ∃ θ B, v = k.res.sub θ ∧ post = leafPost k θ ∧ leafOk k pre B0.kn θ B = true ∧ AgreeD θ B ro σ1 Ω1 σ2 Ω2) d)
    (fs : List (Cnd × Bool)) (ok : ∀ f ∈ fs, f.1.ev σ2 = f.2) : @KcOk (nums gs rks ro σ2 Ω2 fs ok) P k := by
  letI N2 : Nums := nums gs rks ro σ2 Ω2 fs ok
  unfold kcForm at hform
  simp only [Bool.and_eq_true] at hform
  obtain ⟨⟨⟨hbA, hbH⟩, hkn⟩, ⟨hnr, hnp⟩, hnn⟩ := hform
  have hkn := Nat.le_of_ble_eq_true hkn
  have hpreN : ∀ p ∈ pre, p.1 < B0.kn := fun p hp => (bdH_mem hbH p hp).1
  have hn0 : ∀ i, θ0.nAt i = i := fun i => by unfold Sub.nAt; rw [hθ]; rfl
  have postN : ∀ p ∈ k.post, ∃ t, (p.1, t) ∈ pre := fun p hp => by
    have : p.1 ∈ pre.map (·.1) := by rw [← hpost]; exact List.mem_map.2 ⟨p, hp, rfl⟩
    obtain ⟨q, hq, he⟩ := List.mem_map.1 this
    exact ⟨q.2, by rw [← he]; exact hq⟩
  have preN : ∀ p ∈ pre, ∃ t, (p.1, t) ∈ k.post := fun p hp => by
    have : p.1 ∈ k.post.map (·.1) := by rw [hpost]; exact List.mem_map.2 ⟨p, hp, rfl⟩
    obtain ⟨q, hq, he⟩ := List.mem_map.1 this
    exact ⟨q.2, by rw [← he]; exact hq⟩
  refine kc_ownH hf (fun p hp => ?_) (fun p hp => ?_) fun _ ρ W w m args' bs hh hH hfit hF ha hO => ?_
  · obtain ⟨t, ht⟩ := postN p hp
    exact ⟨t.sub θ0, by rw [hpre]; exact List.mem_map.2 ⟨_, ht, rfl⟩⟩
  · rw [hpre] at hp
    obtain ⟨q, hq, rfl⟩ := List.mem_map.1 hp
    exact Nat.lt_of_lt_of_le (hpreN q hq) hkn
  -- the state, read anew
  have ag := AgreeD.agree gs rks ro ag0 ok ok1
  have hfits : @Tm.fits N2.toFc ⟨[], pre, B0⟩ θ0 .e hh = true := by
    unfold Tm.fits Tm.ok
    simp only [Bool.and_eq_true]
    refine ⟨⟨rfl, hbH, Nat.ble_eq_true_of_le (Nat.le_trans hkn (by unfold rel; omega))⟩, rfl, ?_⟩
    rw [hpre] at hfit
    exact @fitH_subH N2.toFc _ hθ _ _ hfit
  obtain ⟨-, hH1, hdom⟩ := Tm.re (nt := 0) (a := { tmps := #[], defers := [] }) hfits ag (@ER.mk N2 ρ .e 0 _ rfl rfl fun t v hv => by rw [T.get_e] at hv; cases hv) hH
  have hA1 : @VRs (nums gs rks ro σ1 Ω1 fs1 ok1) (reN ⟨[], pre, B0⟩ θ0 ρ) A args'.toList := by
    rw [hargs] at ha
    exact VRs.sub ag (fun n hn => by simp [reN, hn]) hbA ha
  refine (treeC_calls hm hk hl d fs1 ok1 h hr hH1 hA1).mono ?_
  rintro e w' ⟨fs', ok', v, post, ρ', x, h', ⟨θ, B, rfl, rfl, hlo, agx⟩, rfl, hv, hst, hp⟩
  have ag' := AgreeD.agree gs rks ro agx ok' ok
  unfold leafOk at hlo
  simp only [Bool.and_eq_true] at hlo
  obtain ⟨⟨hkept, hnew⟩, ⟨hbr, hbp, hbn⟩, hBk⟩ := hlo
  have hkept := keptN_mem hkept
  have hnew := newN_ok hnew
  have hBk := Nat.le_of_ble_eq_true hBk
  have shr := @Stp.hr (nums gs rks ro σ1 Ω1 fs' ok') _ _ _ _ _ _ _ _ hst
  have sext := @Stp.ext (nums gs rks ro σ1 Ω1 fs' ok') _ _ _ _ _ _ _ _ hst
  have sblock := @Stp.block (nums gs rks ro σ1 Ω1 fs' ok') _ _ _ _ _ _ _ _ hst
  have slive := @Stp.live (nums gs rks ro σ1 Ω1 fs' ok') _ _ _ _ _ _ _ _ hst
  have sinj := @HR.inj (nums gs rks ro σ1 Ω1 fs' ok') _ _ _ _ shr
  have hnext : (⟨[], pre, B0⟩ : Tm).h.next = B0.kn := rfl
  rw [hnext] at sext
  -- a block that the text found
  have hold : ∀ q, (∃ t, (q, t) ∈ pre) → (h'.get q).isSome = true ∧ ρ' q = ρ q := by
    rintro q ⟨t, ht⟩
    obtain ⟨t', ht'⟩ := preN _ ht
    have := (hp (q, t'.sub θ) (List.mem_append_left _ (List.mem_map.2 ⟨_, ht', rfl⟩))).1
    refine ⟨this, ?_⟩
    have hlt := hpreN _ ht
    rw [sext q hlt]
    show reN ⟨[], pre, B0⟩ θ0 ρ q = _
    unfold reN
    rw [if_pos hlt, hn0]
  have hpostT : ∀ p ∈ k.post, ∃ b s o, ρ p.1 = some (b, s) ∧ w'.heap[b]? = some o ∧ @TR (nums gs rks ro σ1 Ω1 fs' ok') ρ' (p.2.sub θ) s (some o) := by
    intro p hpm
    obtain ⟨_, b, s, h2, h3⟩ := hp (p.1, p.2.sub θ) (List.mem_append_left _ (List.mem_map.2 ⟨_, hpm, rfl⟩))
    rw [(hold p.1 (postN p hpm)).2] at h2
    cases hx : w'.heap[b]? with
    | none =>
      rw [hx] at h3
      exact (@OR.notNone (nums gs rks ro σ1 Ω1 fs' ok') _ _ _ (@TR.or (nums gs rks ro σ1 Ω1 fs' ok') _ _ _ _ h3)).elim
    | some o =>
      rw [hx] at h3
      exact ⟨b, s, o, h2, hx, h3⟩
  -- new blocks
  let dsOf : Nat → Nat × Obj := fun i => (((ρ' (θ.nAt (rel + i))).getD (0, 0)).1, (w'.heap[((ρ' (θ.nAt (rel + i))).getD (0, 0)).1]?).getD (.map #[] 0))
  have hd : ∀ i t, k.news[i]? = some t → ∃ s, ρ' (θ.nAt (rel + i)) = some ((dsOf i).1, s) ∧ w'.heap[(dsOf i).1]? = some (dsOf i).2 ∧ @TR (nums gs rks ro σ1 Ω1 fs' ok') ρ' (t.sub θ) s (some (dsOf i).2) ∧ w.heap.size ≤ (dsOf i).1 := by
    intro i t hi
    have hmem := newsAt_mem (θ := θ) (i := 0) hi
    rw [Nat.zero_add] at hmem
    have hil := (List.getElem?_eq_some_iff.1 hi).1
    obtain ⟨h1, b, s, h2, h3⟩ := hp _ (List.mem_append_right _ hmem)
    dsimp only at h1 h2 h3
    have hb : (dsOf i).1 = b := by simp only [dsOf, h2, Option.getD_some]
    cases hx : w'.heap[b]? with
    | none =>
      rw [hx] at h3
      exact (@OR.notNone (nums gs rks ro σ1 Ω1 fs' ok') _ _ _ (@TR.or (nums gs rks ro σ1 Ω1 fs' ok') _ _ _ _ h3)).elim
    | some o =>
      have ho : (dsOf i).2 = o := by simp only [dsOf, h2, Option.getD_some, hx]
      rw [hx] at h3
      rw [hb, ho]
      refine ⟨s, h2, hx, h3, ?_⟩
      rcases slive _ b s h1 h2 with hge | ⟨q, s', hq, hqs⟩
      · exact hge
      · exfalso
        obtain ⟨hqk, _⟩ := hdom q hq
        obtain ⟨t', ht'⟩ := heapT_some (l := pre) hq
        obtain ⟨o1, o2⟩ := hold q ⟨t', ht'⟩
        have hqs' : ρ' q = some (b, s') := by rw [sext q hqk]; exact hqs
        have := sinj _ _ b s s' h1 o1 h2 hqs'
        have h9 : B0.kn ≤ θ.nAt (rel + i) := (hnew i (Nat.zero_le _) (by omega)).1
        have hqk : q < B0.kn := hqk
        omega
  have hdi : ∀ i j, i < j → j < k.news.length → (dsOf i).1 ≠ (dsOf j).1 := by
    intro i j hij hj he
    obtain ⟨s, h1, _⟩ := hd i _ (List.getElem?_eq_getElem (Nat.lt_trans hij hj))
    obtain ⟨s', h2, _⟩ := hd j _ (List.getElem?_eq_getElem hj)
    have m1 := newsAt_mem (θ := θ) (i := 0) (List.getElem?_eq_getElem (Nat.lt_trans hij hj))
    have m2 := newsAt_mem (θ := θ) (i := 0) (List.getElem?_eq_getElem hj)
    rw [Nat.zero_add] at m1 m2
    rw [he] at h1
    exact (hnew j (Nat.zero_le _) (by omega)).2 i hij (sinj _ _ _ s s' (hp _ (List.mem_append_right _ m1)).1 (hp _ (List.mem_append_right _ m2)).1 h1 h2)
  have hdl : ∀ (i : Nat) d, ((List.range k.news.length).map dsOf)[i]? = some d → i < k.news.length ∧ d = dsOf i := by
    intro i d hi
    have hlt := (List.getElem?_eq_some_iff.1 hi).1
    rw [List.length_map, List.length_range] at hlt
    rw [List.getElem?_map, List.getElem?_range hlt] at hi
    exact ⟨hlt, (Option.some.inj hi).symm⟩
  have hback : ∀ q ∈ bs, ∃ o, w'.heap[q.1]? = some o := by
    intro q hq
    obtain ⟨p, hp1, s, hp2⟩ := FitB.back hF q hq
    rw [hpre] at hp1
    obtain ⟨p0, hp0, rfl⟩ := List.mem_map.1 hp1
    obtain ⟨t', ht'⟩ := preN _ hp0
    obtain ⟨b, s', o, h1, h2, _⟩ := hpostT _ ht'
    rw [show ρ p0.1 = some (q.1, s) from hp2] at h1
    cases h1
    exact ⟨o, h2⟩
  have hbl : ∀ q ∈ bs ++ m, q.1 < w.heap.size := fun q hq => heap_lt (hO.at_ q hq).2
  have hmk : ∀ b, b < w.heap.size → (∀ o, (b, o) ∉ bs) → w'.heap[b]? = w.heap[b]? := by
    intro b hb hno
    refine sblock b hb fun q s hq hqs => ?_
    obtain ⟨hqk, _⟩ := hdom q hq
    obtain ⟨t', ht'⟩ := heapT_some (l := pre) hq
    obtain ⟨b', o', s', h1, h2, _⟩ := FitB.mem hF (q, t'.sub θ0) (by rw [hpre]; exact List.mem_map.2 ⟨_, ht', rfl⟩)
    have hq1 : reN ⟨[], pre, B0⟩ θ0 ρ q = ρ q := by
      unfold reN
      rw [if_pos hqk, hn0]
    rw [hq1, show ρ q = some (b', s') from h2] at hqs
    cases hqs
    exact hno _ h1
  refine ⟨x, (List.range k.news.length).map dsOf, bs.map fun q => (q.1, (w'.heap[q.1]?).getD q.2), rfl, ⟨⟨?_, ?_, ?_, ?_, fun b hb => ?_⟩, fun p hpm => ?_, ?_⟩, ?_, by simp, fun ρ'' hk1 hk2 => ?_⟩
  · exact (@Stp.os (nums gs rks ro σ1 Ω1 fs' ok') _ _ _ _ _ _ _ _ hst).trans hO.below.os
  · exact (@Stp.tape (nums gs rks ro σ1 Ω1 fs' ok') _ _ _ _ _ _ _ _ hst).trans hO.below.tape
  · exact (@Stp.output (nums gs rks ro σ1 Ω1 fs' ok') _ _ _ _ _ _ _ _ hst).trans hO.below.output
  · exact Nat.le_trans hO.below.size (@Stp.size (nums gs rks ro σ1 Ω1 fs' ok') _ _ _ _ _ _ _ _ hst)
  · rw [hmk b (Nat.lt_of_lt_of_le hb hO.below.size) fun o ho => ?_]
    · exact hO.below.block b hb
    · have := hO.ge (List.mem_append_left _ ho)
      omega
  · rcases List.mem_append.1 hpm with hpm | hpm
    · obtain ⟨i, hi, rfl⟩ := List.mem_map.1 hpm
      have hi := List.mem_range.1 hi
      obtain ⟨s, _, h2, _, h4⟩ := hd i _ (List.getElem?_eq_getElem hi)
      exact ⟨Nat.le_trans hO.below.size h4, h2⟩
    · rcases List.mem_append.1 hpm with hpm | hpm
      · obtain ⟨q, hq, rfl⟩ := List.mem_map.1 hpm
        obtain ⟨o, ho⟩ := hback q hq
        refine ⟨(hO.at_ q (List.mem_append_left _ hq)).1, ?_⟩
        dsimp only
        rw [ho]
        rfl
      · have := hO.at_ p (List.mem_append_right _ hpm)
        refine ⟨this.1, ?_⟩
        rw [hmk p.1 (hbl p (List.mem_append_right _ hpm)) fun o ho => ?_]
        · exact this.2
        · have hnd := hO.nd
          rw [List.map_append, List.nodup_append] at hnd
          exact hnd.2.2 _ (List.mem_map.2 ⟨_, ho, rfl⟩) _ (List.mem_map.2 ⟨_, hpm, rfl⟩) rfl
  · have e1 : (bs.map fun q => (q.1, (w'.heap[q.1]?).getD q.2)).map (·.1) = bs.map (·.1) := by simp [List.map_map, Function.comp_def]
    have hnd := hO.nd
    rw [List.map_append] at hnd
    rw [List.map_append, List.map_append, e1, List.nodup_append]
    refine ⟨?_, hnd, fun a ha b hb he => ?_⟩
    · rw [List.map_map]
      refine List.pairwise_map.2 (List.Pairwise.imp_of_mem ?_ List.pairwise_lt_range)
      intro i j _ hj hij
      exact hdi i j hij (List.mem_range.1 hj)
    · obtain ⟨d0, hd0, rfl⟩ := List.mem_map.1 ha
      obtain ⟨i, hi, rfl⟩ := List.mem_map.1 hd0
      obtain ⟨s, _, _, _, h4⟩ := hd i _ (List.getElem?_eq_getElem (List.mem_range.1 hi))
      rw [← List.map_append] at hb
      obtain ⟨q, hq, rfl⟩ := List.mem_map.1 hb
      have := hbl q hq
      rw [← he] at this
      omega
  · simp [List.map_map, Function.comp_def]
  · -- what is read by the other numbers
    let ρm : Ren := fun q => if q < B.kn then ρ' (θ.nAt q) else none
    have hm1 : ∀ q, q < B.kn → ρm q = ρ' (θ.nAt q) := fun q hq => by simp [ρm, hq]
    have hpN : ∀ q, okR pre k.news.length q = true → ρ'' q = ρm q := by
      intro q hq
      unfold okR at hq
      rw [Bool.or_eq_true] at hq
      rcases hq with hq | hq
      · obtain ⟨t', ht'⟩ := hasN_mem hq
        have hlt := hpreN _ ht'
        obtain ⟨b, o, s, _, h2, _⟩ := FitB.mem hF (q, t'.sub θ0) (by rw [hpre]; exact List.mem_map.2 ⟨_, ht', rfl⟩)
        rw [hm1 q (by dsimp only at hlt; omega), hkept _ ht', (hold q ⟨t', ht'⟩).2, h2]
        exact hk1 q _ (by dsimp only at hlt; omega) h2
      · rw [Bool.and_eq_true] at hq
        have h1 := Nat.le_of_ble_eq_true hq.1
        have h2 : q < rel + k.news.length := by simpa using hq.2
        obtain ⟨i, rfl⟩ : ∃ i, q = rel + i := ⟨q - rel, by omega⟩
        have hi : i < k.news.length := by omega
        obtain ⟨s, h3, h4, h5, _⟩ := hd i _ (List.getElem?_eq_getElem hi)
        have h6 := hk2 i (dsOf i) (by rw [List.getElem?_map, List.getElem?_range hi]; rfl)
        rw [hm1 _ (by omega), h3, h6]
        have h7 := List.all_eq_true.1 hnn _ (List.getElem_mem hi)
        rw [Bool.and_eq_true] at h7
        have h8 : noOpb (k.news[i].sub θ) = true := by
          have := h7.2
          cases hc : k.news[i] <;> rw [hc] at this <;> first | rfl | cases this
        rw [TR.size h5 h8]
    refine ⟨VR.names hpN hnr (VR.sub ag' hm1 hbr hv), fun i t d hi hdi' => ?_, fun p hpm => ?_⟩
    · obtain ⟨hil, rfl⟩ := hdl i d hdi'
      obtain ⟨s, h3, h4, h5, _⟩ := hd i t hi
      have hmem := List.mem_of_getElem? hi
      have h7 := List.all_eq_true.1 hnn _ hmem
      rw [Bool.and_eq_true] at h7
      have h9 := TR.names hpN h7.1 (TR.sub ag' hm1 (List.all_eq_true.1 hbn _ hmem) h5)
      rw [TR.size h9 h7.2] at h9
      exact h9
    · obtain ⟨b, s, o, h1, h2, h3⟩ := hpostT p hpm
      obtain ⟨t', ht'⟩ := postN p hpm
      obtain ⟨b', o', s', h4, h5, _⟩ := FitB.mem hF (p.1, t'.sub θ0) (by rw [hpre]; exact List.mem_map.2 ⟨_, ht', rfl⟩)
      rw [show ρ p.1 = some (b', s') from h5] at h1
      obtain ⟨rfl, rfl⟩ : b' = b ∧ s' = s := by simpa using h1
      refine ⟨b', o, s', List.mem_map.2 ⟨_, h4, by simp [h2]⟩, h5, ?_⟩
      exact TR.names hpN (nmH_mem hnp p hpm) (TR.sub ag' hm1 (bdH_mem hbp p hpm).2 h3)
end
end Go.Proofs.YtllbnoojkgbjiaaGreat.Ex

/-
  Rows of numbers in memory: a function on indexes, or a list. No condition.
-/
namespace Go.Proofs.YtllbnoojkgbjiaaGreat
open Go.RowKit

/-- n cells, each the number that a function gives -/
def rowOf (n : Nat) (f : Nat → Int) : Array Value := ((List.range n).map fun i => Value.int .i64 (f i)).toArray
theorem rowOf_size (n : Nat) (f : Nat → Int) : (rowOf n f).size = n := by simp [rowOf]
theorem rowOf_get {n i : Nat} (f : Nat → Int) (h : i < n) : (rowOf n f)[i]? = some (.int .i64 (f i)) := by simp [rowOf, h]
theorem rowOf_congr {n : Nat} {f g : Nat → Int} (h : ∀ i, i < n → f i = g i) : rowOf n f = rowOf n g := by
  unfold rowOf
  congr 1
  exact List.map_congr_left fun i hi => by rw [h i (by simpa using hi)]
theorem rowOf_set {n i : Nat} (f : Nat → Int) (v : Int) (h : i < n) : (rowOf n f).setIfInBounds i (.int .i64 v) = rowOf n (fun j => if j = i then v else f j) := by
  apply Array.ext_getElem?
  intro j
  rw [Array.getElem?_setIfInBounds]
  by_cases hj : j < n
  · rw [rowOf_size, rowOf_get (fun j => if j = i then v else f j) hj]
    by_cases hij : i = j
    · subst hij; simp [h]
    · rw [if_neg hij, rowOf_get f hj, if_neg (by omega)]
  · rw [if_neg (by omega), Array.getElem?_eq_none (by rw [rowOf_size]; omega), Array.getElem?_eq_none (by rw [rowOf_size]; omega)]
theorem rowOf_rep (n : Nat) : Array.replicate n (Value.int .i64 0) = rowOf n (fun _ => 0) := by
  apply Array.ext_getElem?
  intro j
  by_cases hj : j < n
  · rw [rowOf_get _ hj]; simp [hj]
  · rw [Array.getElem?_eq_none (by simp; omega), Array.getElem?_eq_none (by rw [rowOf_size]; omega)]

/-- the cells of a list of numbers -/
def intCells (l : List Int) : Array Value := (l.map fun n => Value.int .i64 n).toArray
theorem intCells_size (l : List Int) : (intCells l).size = l.length := by simp [intCells]
theorem intCells_get (l : List Int) (i : Nat) : (intCells l)[i]? = (l[i]?).map fun n => Value.int .i64 n := by simp [intCells]
theorem intCells_set (l : List Int) (i : Nat) (v : Int) : (intCells l).setIfInBounds i (.int .i64 v) = intCells (l.set i v) := by
  apply Array.ext_getElem?
  intro j
  rw [Array.getElem?_setIfInBounds, intCells_get, intCells_get, intCells_size, List.getElem?_set]
  by_cases hij : i = j
  · subst hij
    by_cases h : i < l.length
    · simp [h]
    · simp [h]
  · simp [hij]

section
variable {W w : World} {X m : List (Nat × Obj)} {hb n i : Nat} {f : Nat → Int} {T : TypeId}
theorem row_at (h : Own W (X ++ (hb, .cells (rowOf n f) T) :: m) w) (hi : i < n) : w.cell? ⟨hb, i, none⟩ = some (.int .i64 (f i)) := by
  rw [h.cell (List.mem_append_right _ List.mem_cons_self), rowOf_get f hi]
theorem row_free (h : Own W (X ++ (hb, .cells (rowOf n f) T) :: m) w) : w.frozen? ⟨hb, i, none⟩ = false :=
  h.frozen (List.mem_append_right _ List.mem_cons_self) i
theorem row_lt (h : Own W (X ++ (hb, .cells (rowOf n f) T) :: m) w) : hb < w.heap.size := h.lt (List.mem_append_right _ List.mem_cons_self)
theorem row_set (h : Own W (X ++ (hb, .cells (rowOf n f) T) :: m) w) (hi : i < n) (v : Int) (g : Nat → Int) (hg : ∀ j, j < n → (if j = i then v else f j) = g j) :
    Own W (X ++ (hb, .cells (rowOf n g) T) :: m) (w.setCell ⟨hb, i, none⟩ (.int .i64 v)) := by
  have := h.setIn i (.int .i64 v)
  rw [rowOf_set f v hi, rowOf_congr hg] at this
  exact this
end
end Go.Proofs.YtllbnoojkgbjiaaGreat

/-
  Slices that the call owns: what they hold, and append onto them. No condition but sizes.
-/
namespace Go.Proofs.YtllbnoojkgbjiaaGreat
open Go.RowKit

/-- a slice value of n elements, whose cells are 'xs', and the blocks that it owns: none, or one ('ex': the block has just the slice's room) -/
def SlO (ex : Bool) (e size : Nat) (v : Value) (n : Nat) (xs : List Value) (bs : List (Nat × Obj)) : Prop :=
  xs.length = n * size ∧ ((v = .slice none 0 0 ∧ n = 0 ∧ bs = []) ∨
    ∃ g cap cur, v = .slice (some ⟨g, 0, none⟩) n cap ∧ bs = [(g, .cells cur e)] ∧ n ≤ cap ∧ cap ≤ maxLen ∧ (cap * size ≤ cur.size ∧ (ex = true → cur.size = cap * size)) ∧ cur.toList.take (n * size) = xs)
/-- .. one that may be appended to: its block has no more room than it knows of -/
abbrev SlOwn := SlO true
/-- a slice value of n elements that reads as the cells 'xs' -/
def Src (w : World) (size : Nat) (v : Value) (n : Nat) (xs : List Value) : Prop :=
  xs.length = n * size ∧ ((v = .slice none 0 0 ∧ n = 0) ∨ ∃ a c, v = .slice (some a) n c ∧ ∀ j u, xs[j]? = some u → w.cell? (a.add j) = some u)

theorem add_lit0 (g j : Nat) : (⟨g, 0, none⟩ : Addr).add j = ⟨g, j, none⟩ := by
  unfold Addr.add
  split <;> simp_all
theorem add_lit (g o j : Nat) : (⟨g, o, none⟩ : Addr).add j = ⟨g, o + j, none⟩ := by
  unfold Addr.add
  split <;> simp_all

section
variable {ex : Bool} {W w : World} {m : List (Nat × Obj)} {e size n : Nat} {v : Value} {xs : List Value} {bs : List (Nat × Obj)} {P : Program}

theorem SlO.nil (ex : Bool) (e size : Nat) : SlO ex e size (.slice none 0 0) 0 [] [] := ⟨by simp, .inl ⟨rfl, rfl, rfl⟩⟩
theorem SlO.made (ex : Bool) (e size g cap : Nat) (cur : Array Value) (n : Nat) (hn : n ≤ cap) (hc : cap ≤ maxLen) (hs : cur.size = cap * size) :
    SlO ex e size (.slice (some ⟨g, 0, none⟩) n cap) n (cur.toList.take (n * size)) [(g, .cells cur e)] :=
  ⟨by rw [List.length_take, Array.length_toList, hs, Nat.min_eq_left (Nat.mul_le_mul_right _ hn)], .inr ⟨g, cap, cur, rfl, rfl, hn, hc, ⟨by omega, fun _ => hs⟩, rfl⟩⟩
theorem SlO.form (h : SlO ex e size v n xs bs) (hn : 0 < n) : ∃ g cap cur, v = .slice (some ⟨g, 0, none⟩) n cap ∧ bs = [(g, .cells cur e)] ∧ n ≤ cap ∧ cap ≤ maxLen ∧ (cap * size ≤ cur.size ∧ (ex = true → cur.size = cap * size)) ∧ cur.toList.take (n * size) = xs := by
  rcases h.2 with ⟨_, h0, _⟩ | h
  · omega
  · exact h
theorem SlO.len (h : SlO ex e size v n xs bs) : xs.length = n * size := h.1
theorem SlO.slice (h : SlO ex e size v n xs bs) : ∃ A cap, v = .slice A n cap ∧ n ≤ cap ∧ cap ≤ maxLen := by
  rcases h.2 with ⟨rfl, rfl, _⟩ | ⟨g, cap, cur, rfl, _, h1, h2, _⟩
  · exact ⟨none, 0, rfl, Nat.le_refl _, by unfold maxLen; omega⟩
  · exact ⟨_, cap, rfl, h1, h2⟩
/-- the cell at an index -/
theorem SlO.cell (h : SlO ex e size v n xs bs) (hO : Own W (bs ++ m) w) {g cap : Nat} (hv : v = .slice (some ⟨g, 0, none⟩) n cap) {j : Nat} {u : Value} (hj : xs[j]? = some u) : w.cell? ⟨g, j, none⟩ = some u := by
  rcases h.2 with ⟨rfl, _, _⟩ | ⟨g', cap', cur, rfl, rfl, h1, h2, h3, h4⟩
  · cases hv
  · simp only [Value.slice.injEq, Option.some.injEq, Addr.mk.injEq, and_true, true_and] at hv
    obtain ⟨rfl, rfl⟩ := hv
    rw [hO.cell List.mem_cons_self]
    rw [← h4] at hj
    rw [List.getElem?_take] at hj
    split at hj
    · simpa using hj
    · cases hj
theorem SlO.src (h : SlO ex e size v n xs bs) (hO : Own W (bs ++ m) w) : Src w size v n xs := by
  refine ⟨h.1, ?_⟩
  rcases h.2 with ⟨rfl, rfl, _⟩ | ⟨g, cap, cur, rfl, h0, _⟩
  · exact .inl ⟨rfl, rfl⟩
  · refine .inr ⟨_, _, rfl, fun j u hj => ?_⟩
    rw [add_lit0]
    exact h.cell hO rfl hj
theorem SlO.free (h : SlO ex e size v n xs bs) (hO : Own W (bs ++ m) w) {g cap : Nat} (hv : v = .slice (some ⟨g, 0, none⟩) n cap) (j : Nat) : w.frozen? ⟨g, j, none⟩ = false := by
  rcases h.2 with ⟨rfl, _, _⟩ | ⟨g', cap', cur, rfl, rfl, _⟩
  · cases hv
  · simp only [Value.slice.injEq, Option.some.injEq, Addr.mk.injEq, and_true, true_and] at hv
    obtain ⟨rfl, rfl⟩ := hv
    exact hO.frozen List.mem_cons_self j
theorem SlO.lt (h : SlO ex e size v n xs bs) (hO : Own W (bs ++ m) w) {g cap : Nat} (hv : v = .slice (some ⟨g, 0, none⟩) n cap) : g < w.heap.size := by
  rcases h.2 with ⟨rfl, _, _⟩ | ⟨g', cap', cur, rfl, rfl, _⟩
  · cases hv
  · simp only [Value.slice.injEq, Option.some.injEq, Addr.mk.injEq, and_true, true_and] at hv
    obtain ⟨rfl, rfl⟩ := hv
    exact hO.lt List.mem_cons_self
/-- a cell is stored -/
theorem SlO.store (h : SlO ex e size v n xs bs) (hO : Own W (bs ++ m) w) {g cap : Nat} (hv : v = .slice (some ⟨g, 0, none⟩) n cap) {j : Nat} (_hj : j < n * size) (u : Value) :
    ∃ bs', SlO ex e size v n (xs.set j u) bs' ∧ Own W (bs' ++ m) (w.setCell ⟨g, j, none⟩ u) := by
  rcases h.2 with ⟨rfl, _, _⟩ | ⟨g', cap', cur, rfl, rfl, h1, h2, h3, h4⟩
  · cases hv
  · simp only [Value.slice.injEq, Option.some.injEq, Addr.mk.injEq, and_true, true_and] at hv
    obtain ⟨rfl, rfl⟩ := hv
    refine ⟨[(g', .cells (cur.setIfInBounds j u) e)], ⟨by rw [List.length_set]; exact h.1, .inr ⟨g', cap', _, rfl, rfl, h1, h2, by rw [Array.size_setIfInBounds]; exact h3, ?_⟩⟩, hO.set j u⟩
    rw [Array.toList_setIfInBounds, List.take_set, h4]
/-- shorter: the same block -/
theorem SlO.shorter (h : SlO ex e size v n xs bs) {g cap k : Nat} (hv : v = .slice (some ⟨g, 0, none⟩) n cap) (hk : k ≤ n) : SlO ex e size (.slice (some ⟨g, 0, none⟩) k cap) k (xs.take (k * size)) bs := by
  rcases h.2 with ⟨rfl, _, _⟩ | ⟨g', cap', cur, rfl, rfl, h1, h2, h3, h4⟩
  · cases hv
  · simp only [Value.slice.injEq, Option.some.injEq, Addr.mk.injEq, and_true, true_and] at hv
    obtain ⟨rfl, rfl⟩ := hv
    have hle : k * size ≤ n * size := Nat.mul_le_mul_right _ hk
    refine ⟨by rw [List.length_take, h.1]; omega, .inr ⟨g', cap', cur, rfl, rfl, by omega, h2, h3, ?_⟩⟩
    rw [← h4, List.take_take, Nat.min_eq_left hle]
/-- what may be appended to may be read and written -/
theorem SlO.weak (h : SlO ex e size v n xs bs) : SlO false e size v n xs bs := by
  refine ⟨h.1, ?_⟩
  rcases h.2 with h0 | ⟨g, cap, cur, hv, hb, h1, h2, h3, h4⟩
  · exact .inl h0
  · exact .inr ⟨g, cap, cur, hv, hb, h1, h2, ⟨h3.1, fun h => by cases h⟩, h4⟩
/-- shorter, and with less room ('s[:k:k]') -/
theorem SlO.cut (h : SlO ex e size v n xs bs) {g cap k : Nat} (hv : v = .slice (some ⟨g, 0, none⟩) n cap) (hk : k ≤ n) : SlO false e size (.slice (some ⟨g, 0, none⟩) k k) k (xs.take (k * size)) bs := by
  rcases h.2 with ⟨rfl, _, _⟩ | ⟨g', cap', cur, rfl, rfl, h1, h2, h3, h4⟩
  · cases hv
  · simp only [Value.slice.injEq, Option.some.injEq, Addr.mk.injEq, and_true, true_and] at hv
    obtain ⟨rfl, rfl⟩ := hv
    have hle : k * size ≤ n * size := Nat.mul_le_mul_right _ hk
    have hle2 : n * size ≤ cap' * size := Nat.mul_le_mul_right _ h1
    refine ⟨by rw [List.length_take, h.1]; omega, .inr ⟨g', k, cur, rfl, rfl, Nat.le_refl _, by omega, ⟨by omega, fun h => by cases h⟩, ?_⟩⟩
    rw [← h4, List.take_take, Nat.min_eq_left hle]
theorem Src.setCell (h : Src w size v n xs) {a : Addr} {u : Value} (ha : ∀ b c, v = .slice (some b) n c → b.block ≠ a.block) : Src (w.setCell a u) size v n xs := by
  refine ⟨h.1, ?_⟩
  rcases h.2 with h0 | ⟨b, c, hv, hc⟩
  · exact .inl h0
  · refine .inr ⟨b, c, hv, fun j x hj => ?_⟩
    rw [World.cell?_of_block (w := w) (Below.heap_setCell w a u _ (by rw [ChangeShapes.block_add]; exact ha b c hv))]
    exact hc j x hj
theorem Src.below (h : Src w size v n xs) {w' : World} (hb : Below w.heap.size w w') : Src w' size v n xs := by
  refine ⟨h.1, ?_⟩
  rcases h.2 with h0 | ⟨b, c, hv, hc⟩
  · exact .inl h0
  · refine .inr ⟨b, c, hv, fun j x hj => ?_⟩
    have := hc j x hj
    rw [hb.cell (World.block_lt_of_cell? w _ this)]
    exact this
theorem Src.ofOwn (h : Src W size v n xs) (hO : Own W m w) : Src w size v n xs := h.below hO.below

/-- APPEND onto a slice that the call owns: what it is then, and what is owned. -/
theorem run_app (t ty e : TypeId) (i : TypeInfo) (z : Value) (size bytes : Nat) (ht : P.underlying t = some (.slice e)) (hi : P.info? e = some i) (hz : i.zero = some z)
    (hsize : i.size = size) (hby : i.bytes = bytes) (hzs : z.cells.size = size) (hsz : 0 < size)
    (hs : SlOwn e size v n xs bs) (hO : Own W (bs ++ m) w) {x : Value} {k : Nat} {news : List Value} (hx : Src w size x k news) (h1 : ∀ u ∈ news, u.oneCell' = true)
    (h63 : n + k ≤ maxLen) (hbytes : (n + k) * bytes ≤ 140737488355328) :
    ∃ v' w' bs', (Builtin.append_ #[t, t] ty #[v, x]).run P w = .ok v' w' ∧ SlOwn e size v' (n + k) (xs ++ news) bs' ∧ Own W (bs' ++ m) w' ∧ (v' = .slice none 0 0 ↔ v = .slice none 0 0 ∧ k = 0) := by
  have hown : w.ownsRow W.heap.size e size v n xs := by
    refine ⟨hs.1, ?_⟩
    rcases hs.2 with ⟨h0, h1, _⟩ | ⟨g, cap, cur, hv, hb, ha, hc, hd, he⟩
    · exact .inl ⟨h0, h1⟩
    · subst hb
      exact .inr ⟨g, cap, cur, hv, hO.ge List.mem_cons_self, hO.get List.mem_cons_self, ha, hc, hd.2 rfl, he⟩
  rcases hx.2 with ⟨rfl, rfl⟩ | ⟨ad, c, rfl, hc⟩
  · have hn : news = [] := List.eq_nil_of_length_eq_zero (by simpa using hx.1)
    subst hn
    refine ⟨v, w, bs, ?_, by simpa using hs, hO, by simp⟩
    obtain ⟨A, cap, rfl, hle, _⟩ := SlO.slice hs
    cases A with
    | none => simp [Builtin.append_, run_underlying ht, sizeOf, typeInfo, hi, Builtin.lenOf, Builtin.firstCells, hle]
    | some a => simp [Builtin.append_, run_underlying ht, sizeOf, typeInfo, hi, Builtin.lenOf, Builtin.firstCells, hle, storeCells]
  · obtain ⟨v', w', hr, h2, h3, h4, h5⟩ := run_append_own_at (P := P) w W.heap.size t ty e i z size bytes ht hi hz hsize hby hzs hsz v n xs hown ad k c news hx.1 hc h1 h63 hbytes hO.size_le
    have hbel : Below W.heap.size W w' := hO.below.grown h3 hO.size_le (fun q hq => (hown.lt q hq).1)
    rcases h2.2 with ⟨hv', hn'⟩ | ⟨g, cap, cur, hv', hge, hg, ha, hb, hcs, htk⟩
    · subst hv'
      have hv0 := (h4.1 rfl).1
      subst hv0
      have hbs : bs = [] := by
        rcases hs.2 with ⟨_, _, h⟩ | ⟨g, cap, cur, hv, _⟩
        · exact h
        · cases hv
      subst hbs
      refine ⟨_, w', [], hr, ⟨h2.1, .inl ⟨rfl, hn', rfl⟩⟩, ⟨hbel, fun p hp => ⟨(hO.at_ p hp).1, ?_⟩, hO.nd⟩, h4⟩
      rw [h3.block p.1 (heap_lt (hO.at_ p hp).2) (by simp [Value.ownBlock])]
      exact (hO.at_ p hp).2
    · subst hv'
      refine ⟨_, w', [(g, .cells cur e)], hr, ⟨h2.1, .inr ⟨g, cap, cur, rfl, rfl, ha, hb, ⟨by omega, fun _ => hcs⟩, htk⟩⟩, ⟨hbel, fun p hp => ?_, ?_⟩, h4⟩
      · rcases List.mem_cons.1 hp with rfl | hp
        · exact ⟨hge, hg⟩
        · have hp' := hO.at_ p (List.mem_append_right _ hp)
          refine ⟨hp'.1, (h3.block p.1 (heap_lt hp'.2) (fun he => ?_)).trans hp'.2⟩
          rcases hs.2 with ⟨rfl, _, _⟩ | ⟨g0, cap0, cur0, rfl, rfl, _⟩
          · simp [Value.ownBlock] at he
          · simp only [Value.ownBlock, Option.some.injEq] at he
            exact Own.ne hO (b' := p.1) (o' := p.2) hp he
      · simp only [List.singleton_append, List.map_cons, List.nodup_cons]
        refine ⟨fun hin => ?_, (hO.dropL).nd⟩
        obtain ⟨p, hp, he⟩ := List.mem_map.1 hin
        have hp' := hO.at_ p (List.mem_append_right _ hp)
        rcases h5 with h5 | h5
        · rcases hs.2 with ⟨rfl, _, _⟩ | ⟨g0, cap0, cur0, rfl, rfl, _⟩
          · simp [Value.ownBlock] at h5
          · simp only [Value.ownBlock, Option.some.injEq] at h5
            exact Own.ne hO (b' := p.1) (o' := p.2) hp (by omega)
        · simp only [Value.ownBlock, Option.some.injEq] at h5
          have := heap_lt hp'.2
          omega
/-- .. at an operation of the walk: 'at_builtin; refine wpList_app rfl _ _ _ rfl rfl rfl ..' -/
theorem wpList_app {ops : Array Oper} {rest : List Oper} {o : Oper} {a : Act} {Q : Exit → Act → World → Prop} (hgd : o.guard = none) (s x : Operand) (t : TypeId)
    (ho : o.op = .call { callee := .builtin .append, args := #[s, x], argTypes := #[t, t] }) {v xv : Value} (hes : a.eval s = v) (hex : a.eval x = xv)
    (e : TypeId) (i : TypeInfo) (z : Value) (size bytes : Nat) (ht : P.underlying t = some (.slice e)) (hi : P.info? e = some i) (hz : i.zero = some z)
    (hsize : i.size = size) (hby : i.bytes = bytes) (hzs : z.cells.size = size) (hsz : 0 < size)
    (hs : SlOwn e size v n xs bs) (hO : Own W (bs ++ m) w) {k : Nat} {news : List Value} (hx : Src w size xv k news) (h1 : ∀ u ∈ news, u.oneCell' = true)
    (h63 : n + k ≤ maxLen) (hbytes : (n + k) * bytes ≤ 140737488355328)
    (h : ∀ v' w' bs', SlOwn e size v' (n + k) (xs ++ news) bs' → Own W (bs' ++ m) w' → (v' = .slice none 0 0 ↔ v = .slice none 0 0 ∧ k = 0) → wpList P ops Q rest (a.put o.dst v') w') :
    wpList P ops Q (o :: rest) a w := by
  obtain ⟨v', w', bs', hr, h2, h3, h4⟩ := run_app (P := P) t o.type e i z size bytes ht hi hz hsize hby hzs hsz hs hO hx h1 h63 hbytes
  refine wpList_plain hgd fun K hK => ?_
  unfold Oper.wp execOp
  simp only [ho, resolve, invoke, builtin, Sem.run_bind, Sem.run_pure, Result.andThen_ok, List.map_toArray, List.map_cons, List.map_nil, hes, hex, hr]
  exact hK _ _ (h v' w' bs' h2 h3 h4)
end
end Go.Proofs.YtllbnoojkgbjiaaGreat

/-
  Arguments opened to cells: flat types (numbers, bools, structs and arrays of such), and slices of them. No condition.
-/
namespace Go.Proofs.YtllbnoojkgbjiaaGreat
open Go.ChangeShapes Go.WideShapes Go.ChangeAt Go.RowKit

/-- a cell of a kind: 'none': a bool -/
def CellIs : Option IntKind → Value → Prop
  | none, v => ∃ b, v = .bool b
  | some k, v => ∃ n, v = .int k n ∧ (Lit.int k n).wf = true

/-- the kinds of a struct's cells, from an offset on -/
def flatFields (P : Program) (K : TypeId → Option (List (Option IntKind))) : Nat → List Field → Option (List (Option IntKind))
  | _, [] => some []
  | off, f :: fs =>
    match K f.type with
    | some l => if f.offset = off ∧ l.length = P.cellsOf f.type then (flatFields P K (off + l.length) fs).map (l ++ ·) else none
    | none => none
/-- the kinds of a flat type's cells -/
def flatKinds (P : Program) : Nat → TypeId → Option (List (Option IntKind))
  | 0, _ => none
  | n + 1, t =>
    match P.underlying t with
    | some .bool => some [none]
    | some (.int k) => some [some k]
    | some (.struct fs) => flatFields P (flatKinds P n) 0 fs.toList
    | some (.array m e) =>
      match flatKinds P n e with
      | some l => if l.length = P.cellsOf e then some (List.replicate m l).flatten else none
      | none => none
    | _ => none

section
variable {H : Type} {enc : TypeId × Value → H} {P : Program} {w : World} {base : Nat} {spare : Nat → Bool} {held : Bool}

theorem flat_rep {l : List (Option IntKind)} {cs : List Value} : ∀ (m off : Nat) (_h : ∀ i, i < m → ∀ (j : Nat) (k : Option IntKind), l[j]? = some k → ∃ v, cs[off + i * l.length + j]? = some v ∧ CellIs k v) (i : Nat) (k : Option IntKind),
    (List.replicate m l).flatten[i]? = some k → ∃ v, cs[off + i]? = some v ∧ CellIs k v
  | 0, _, _, i, k, hk => by simp at hk
  | m + 1, off, h, i, k, hk => by
    rw [List.replicate_succ, List.flatten_cons] at hk
    by_cases hi : i < l.length
    · rw [List.getElem?_append_left hi] at hk
      have := h 0 (by omega) i k hk
      simpa using this
    · rw [List.getElem?_append_right (by omega)] at hk
      have h' : ∀ i, i < m → ∀ (j : Nat) (k : Option IntKind), l[j]? = some k → ∃ v, cs[(off + l.length) + i * l.length + j]? = some v ∧ CellIs k v := fun i' hi' j k' hk' => by
        have := h (i' + 1) (by omega) j k' hk'
        rwa [show off + (i' + 1) * l.length + j = off + l.length + i' * l.length + j from by rw [Nat.succ_mul]; omega] at this
      have := flat_rep m (off + l.length) h' (i - l.length) k hk
      rwa [show off + l.length + (i - l.length) = off + i from by omega] at this

theorem flat_fields {cs : List Value} {K : TypeId → Option (List (Option IntKind))} : ∀ (fs : List Field) (off : Nat) (ks : List (Option IntKind)), flatFields P K off fs = some ks →
    (∀ f ∈ fs, ∀ l, K f.type = some l → l.length = P.cellsOf f.type → ∀ (j : Nat) (k : Option IntKind), l[j]? = some k → ∃ v, cs[f.offset + j]? = some v ∧ CellIs k v) →
    ∀ (i : Nat) (k : Option IntKind), ks[i]? = some k → ∃ v, cs[off + i]? = some v ∧ CellIs k v
  | [], off, ks, hks, _, i, k, hk => by
    simp only [flatFields, Option.some.injEq] at hks
    subst hks
    simp at hk
  | f :: fs, off, ks, hks, hf, i, k, hk => by
    simp only [flatFields] at hks
    split at hks
    · rename_i l hl
      split at hks
      · rename_i hc
        obtain ⟨r, hr, rfl⟩ := Option.map_eq_some_iff.1 hks
        by_cases hi : i < l.length
        · rw [List.getElem?_append_left hi] at hk
          have := hf f List.mem_cons_self l hl hc.2 i k hk
          rwa [hc.1] at this
        · rw [List.getElem?_append_right (by omega)] at hk
          have := flat_fields fs (off + l.length) r hr (fun g hg => hf g (List.mem_cons_of_mem _ hg)) (i - l.length) k hk
          rwa [show off + l.length + (i - l.length) = off + i from by omega] at this
      · cases hks
    · cases hks

theorem take_drop_get {cs : List Value} {a n j : Nat} {v : Value} (h : ((cs.drop a).take n)[j]? = some v) : cs[a + j]? = some v := by
  rw [List.getElem?_take] at h
  split at h
  · rwa [List.getElem?_drop] at h
  · cases h

/-- what is read of a flat type: each cell is of its kind -/
theorem trod_flat : ∀ (fuel n : Nat) (t : TypeId) (cs : List Value) (x : DataW H × List MemPlace) (ks : List (Option IntKind)), DataW.trod enc P w base spare held fuel t cs = some x → flatKinds P n t = some ks →
    ∀ (i : Nat) (k : Option IntKind), ks[i]? = some k → ∃ v, cs[i]? = some v ∧ CellIs k v
  | 0, _, _, _, _, _, h, _ => by simp [DataW.trod] at h
  | fuel + 1, 0, _, _, _, _, _, hk => by simp [flatKinds] at hk
  | fuel + 1, n + 1, t, cs, x, ks, h, hks => by
    intro i k hk
    unfold flatKinds at hks
    split at hks
    · rename_i hu
      simp only [Option.some.injEq] at hks
      subst hks
      unfold DataW.trod at h
      rw [hu] at h
      match cs, h with
      | [.bool b], _ =>
        match i, hk with
        | 0, hk => simp at hk; subst hk; exact ⟨_, rfl, b, rfl⟩
        | i + 1, hk => simp at hk
    · rename_i q hu
      simp only [Option.some.injEq] at hks
      subst hks
      unfold DataW.trod at h
      rw [hu] at h
      match cs, h with
      | [.int k' z], h =>
        simp only at h
        split at h
        · rename_i hc
          match i, hk with
          | 0, hk => simp at hk; subst hk; exact ⟨_, rfl, z, by rw [hc.1], hc.2⟩
          | i + 1, hk => simp at hk
        · cases h
    · rename_i fs hu
      obtain ⟨xs, m, hm, _, hcl, _, hf⟩ := DataW.trod_struct hu h
      obtain rfl : fuel = m := by omega
      have := flat_fields (cs := cs) fs.toList 0 ks hks (fun f hfm l hl hlc j k' hk' => by
        obtain ⟨i', hi', hfi⟩ := List.getElem_of_mem hfm
        have hfi' : fs[i']? = some f := by rw [← Array.getElem?_toList, List.getElem?_eq_getElem hi', hfi]
        have ht := hf i' f hfi'
        have hlt : i' < xs.length := by have : i' < fs.size := by simpa using hi'
                                        omega
        rw [List.getElem?_eq_getElem hlt] at ht
        obtain ⟨v, hv, hc⟩ := trod_flat fuel n f.type _ _ l ht hl j k' hk'
        exact ⟨v, take_drop_get hv, hc⟩) i k hk
      simpa using this
    · rename_i m e hu
      split at hks
      · rename_i l hl
        split at hks
        · rename_i hlc
          simp only [Option.some.injEq] at hks
          subst hks
          unfold DataW.trod at h
          rw [hu] at h
          have h2 : ∃ xs, (List.range m).mapM (fun i => DataW.trod enc P w base spare held fuel e ((cs.drop (i * P.cellsOf e)).take (P.cellsOf e))) = some xs := by
            split at h <;> simp_all
            obtain ⟨_, xs, hx, _⟩ := h
            exact ⟨xs, hx⟩
          obtain ⟨xs, hx⟩ := h2
          have := flat_rep (l := l) (cs := cs) m 0 (fun i' hi' j k' hk' => by
            have hg := mapM_some_get hx i' i' (by simp [hi'])
            have hlen := mapM_some_length hx
            have hlt : i' < xs.length := by simpa [hlen] using hi'
            rw [List.getElem?_eq_getElem hlt] at hg
            obtain ⟨v, hv, hc⟩ := trod_flat fuel n e _ _ l hg hl j k' hk'
            refine ⟨v, ?_, hc⟩
            rw [hlc]
            simpa using take_drop_get hv) i k hk
          simpa using this
        · cases hks
      · cases hks
    · cases hks

/-- an argument of a struct's or an array's type is an aggregate of so many cells -/
theorem arg_agg {r : Reach} {b0 : Nat} {t : TypeId} {v : Value} (hu : (match P.underlying t with | some (.struct _) | some (.array _ _) => true | _ => false) = true) (hv : Value.okWide P w r b0 t v) :
    ∃ cs : Array Value, v = .agg cs ∧ cs.size = P.cellsOf t := by
  unfold Value.okWide at hv
  split at hv
  · obtain ⟨cs, h1, h2, _⟩ := hv; exact ⟨cs, h1, h2⟩
  · obtain ⟨cs, h1, h2, _⟩ := hv; exact ⟨cs, h1, h2⟩
  · rename_i h1 h2
    split at hu
    · rename_i q hq; exact absurd hq (h1 q)
    · rename_i q r hq; exact absurd hq (h2 q r)
    · cases hu
/-- ... each of its cells is of its kind -/
theorem open_flat {r : Reach} {b0 : Nat} {t : TypeId} {v : Value} {d : DataW H} {p : List MemPlace} (n : Nat) {ks : List (Option IntKind)} (hu : (match P.underlying t with | some (.struct _) | some (.array _ _) => true | _ => false) = true)
    (hks : flatKinds P n t = some ks) (hv : Value.okWide P w r b0 t v) (h : DataW.Trod enc P w base spare held t v d p) :
    ∃ cs : Array Value, v = .agg cs ∧ cs.size = P.cellsOf t ∧ ∀ (i : Nat) (k : Option IntKind), ks[i]? = some k → ∃ u, cs[i]? = some u ∧ CellIs k u := by
  obtain ⟨cs, rfl, hs⟩ := arg_agg hu hv
  obtain ⟨fuel, hf⟩ := h
  refine ⟨cs, rfl, hs, fun i k hk => ?_⟩
  obtain ⟨u, h1, h2⟩ := trod_flat fuel n t _ _ ks hf hks i k hk
  exact ⟨u, by simpa [Value.cells] using h1, h2⟩
/-- a slice of a flat type: each cell of each element is of its kind -/
theorem open_slice_flat {t e : TypeId} {v : Value} {d : DataW H} {p : List MemPlace} (n : Nat) {ks : List (Option IntKind)} (ht : P.underlying t = some (.slice e)) (hks : flatKinds P n e = some ks) (hone : v.cells.toList = [v])
    (h : DataW.Trod enc P w base spare held t v d p) (_hlt : ∀ x ∈ p, x.block < w.heap.size) (hpos : 0 < P.cellsOf e) :
    v = .slice none 0 0 ∨ ∃ (a : Addr) (len cap : Nat), v = .slice (some a) len cap ∧ len ≤ cap ∧ cap ≤ maxLen ∧ (0 < len → a.block < w.heap.size) ∧
      ∀ i, i < len → ∀ (j : Nat) (k : Option IntKind), ks[j]? = some k → ∃ u, w.cell? (a.add (i * P.cellsOf e + j)) = some u ∧ CellIs k u := by
  obtain ⟨fuel, hf⟩ := h
  rw [hone] at hf
  rcases Deep.open_slice ht hf with ⟨h0, _⟩ | ⟨a, len, cap, m, n', D, Pl, hcs, hb, hl, hm, hmm, hx, hi⟩
  · left; simpa using h0
  · right
    refine ⟨a, len, cap, by simpa using hcs, hl, hm, ?_, ?_⟩
    · intro hpos'
      have hml : len ≤ m := by rw [hmm]; split <;> omega
      obtain ⟨cs', hc, _⟩ := hi 0 (by omega)
      obtain ⟨_, hcl, hat⟩ := World.cells?_some hc
      have h0 := hat 0 (by omega)
      have h1 : cs'[0]? = some (cs'[0]'(by omega)) := List.getElem?_eq_getElem (by omega)
      rw [h1] at h0
      have := block_lt_of_cell h0
      simpa [Addr.add] using this
    · intro i hil j k hk
      have hml : len ≤ m := by rw [hmm]; split <;> omega
      obtain ⟨cs', hc, ht'⟩ := hi i (by omega)
      obtain ⟨u, hu, hcell⟩ := trod_flat n' n e cs' _ ks ht' hks j k hk
      obtain ⟨_, hcl, hat⟩ := World.cells?_some hc
      have hj : j < P.cellsOf e := by
        have := (List.getElem?_eq_some_iff.1 hu).1
        omega
      have := hat j hj
      rw [← Go.Deep.add_add, this, hu]
      exact ⟨u, rfl, hcell⟩

/-- a slice's elements, cell by cell, are of their kinds -/
def FlatAt (W : World) (ks : List (Option IntKind)) (A : Option Addr) (len : Nat) : Prop :=
  0 < len → ∃ B o, A = some ⟨B, o, none⟩ ∧ B < W.heap.size ∧ ∀ i, i < len → ∀ (j : Nat) (k : Option IntKind), ks[j]? = some k → ∃ u, W.cell? ⟨B, o + i * ks.length + j, none⟩ = some u ∧ CellIs k u
theorem open_slice_at {t e : TypeId} {v : Value} {d : DataW H} {p : List MemPlace} (n : Nat) {ks : List (Option IntKind)} (ht : P.underlying t = some (.slice e)) (hks : flatKinds P n e = some ks) (hlen : P.cellsOf e = ks.length) (hpos : 0 < ks.length) (hone : v.cells.toList = [v])
    (h : DataW.Trod enc P w base spare held t v d p) (hlt : ∀ x ∈ p, x.block < w.heap.size) :
    ∃ (A : Option Addr) (len cap : Nat), v = .slice A len cap ∧ len ≤ cap ∧ cap ≤ maxLen ∧ FlatAt w ks A len := by
  rcases open_slice_flat n ht hks hone h hlt (by omega) with rfl | ⟨a, len, cap, rfl, hl, hm, hb, hc⟩
  · exact ⟨none, 0, 0, rfl, Nat.le_refl _, by unfold maxLen; omega, fun h => absurd h (by omega)⟩
  · refine ⟨some a, len, cap, rfl, hl, hm, fun hp => ?_⟩
    obtain ⟨u, hu, _⟩ := hc 0 hp 0 (ks[0]'(by omega)) (List.getElem?_eq_getElem (by omega))
    have hs : a.spot = none := by
      have h0 : a.add (0 * P.cellsOf e + 0) = a := by simp [Addr.add]
      rw [h0] at hu
      unfold World.cell? at hu
      split at hu
      · split at hu
        · cases hu
        · simpa using ‹¬ a.spot.isSome = true›
      · cases hu
    obtain ⟨B, o, s⟩ := a
    simp only at hs
    subst hs
    refine ⟨B, o, rfl, hb hp, fun i hi j k hk => ?_⟩
    obtain ⟨u, hu, hk'⟩ := hc i hi j k hk
    refine ⟨u, ?_, hk'⟩
    rw [← hlen]
    have e1 : (⟨B, o, none⟩ : Addr).add (i * P.cellsOf e + j) = ⟨B, o + (i * P.cellsOf e + j), none⟩ := by
      unfold Addr.add
      split
      · rename_i h0; rw [h0]; rfl
      · rfl
    rw [e1] at hu
    rw [show o + i * P.cellsOf e + j = o + (i * P.cellsOf e + j) from by omega]
    exact hu
/-- an argument of a slice's type is one cell -/
theorem arg_slice {r : Reach} {b0 : Nat} {t e : TypeId} {v : Value} (ht : P.underlying t = some (.slice e)) (hv : Value.okWide P w r b0 t v) : v.cells.toList = [v] := by
  unfold Value.okWide at hv
  rw [ht] at hv
  simp only at hv
  unfold Cell.okWide at hv
  rw [ht] at hv
  cases v <;> first | rfl | (simp [Cell.ok, ht] at hv)
/-- a block of numbers is a slice of structs of numbers -/
theorem flatAt_of {W : World} {g : Nat} {T : TypeId} {l : List Int} {n len : Nat} (hg : W.heap[g]? = some (.cells (l.map fun x => Value.int .i64 x).toArray T (0, 0))) (hl : len * n ≤ l.length) (hwf : ∀ x ∈ l, (Lit.int .i64 x).wf = true) :
    FlatAt W (List.replicate n (some .i64)) (some ⟨g, 0, none⟩) len := by
  intro _
  refine ⟨g, 0, rfl, heap_lt hg, fun i hi j k hk => ?_⟩
  have hj : j < n := by have := (List.getElem?_eq_some_iff.1 hk).1; simpa using this
  have hk' : k = some .i64 := by
    rw [List.getElem?_replicate, if_pos hj] at hk
    exact (Option.some.inj hk).symm
  subst hk'
  rw [List.length_replicate]
  have hlt : 0 + i * n + j < l.length := by
    have : (i + 1) * n ≤ len * n := Nat.mul_le_mul_right _ hi
    rw [Nat.succ_mul] at this
    omega
  refine ⟨.int .i64 l[0 + i * n + j], ?_, _, rfl, hwf _ (List.getElem_mem hlt)⟩
  simp [World.cell?, hg, List.getElem?_eq_getElem (show i * n + j < l.length by omega)]
end
end Go.Proofs.YtllbnoojkgbjiaaGreat

/-
  Slices of words (uint64): what they read as, append, wainscotref00.EqWords; a slice that came in, with its reach. No condition but sizes.
-/
namespace Go.Proofs.YtllbnoojkgbjiaaGreat
open Go.RowKit

theorem word_info : (Tryz.prog.info? 23).map (fun i => (i.zero, i.size, i.bytes)) = some (some (.int .u64 0), 1, 8) := by kernel_rfl
/-- words as values -/
def words (l : List Nat) : List Value := l.map fun (n : Nat) => .int .u64 (n : Int)
theorem words_len (l : List Nat) : (words l).length = l.length := by simp [words]
theorem words_get {l : List Nat} {i n : Nat} (h : l[i]? = some n) : (words l)[i]? = some (.int .u64 (n : Int)) := by simp [words, h]
theorem words_one (l : List Nat) : ∀ u ∈ words l, u.oneCell' = true := by
  intro u hu
  obtain ⟨n, _, rfl⟩ := List.mem_map.1 hu
  rfl
theorem words_append (a b : List Nat) : words a ++ words b = words (a ++ b) := by simp [words]
/-- a slice of words that the call owns -/
abbrev WordsOwn (ex : Bool) (v : Value) (l : List Nat) (bs : List (Nat × Obj)) : Prop := SlO ex 23 1 v l.length (words l) bs
/-- a slice that reads as words -/
abbrev WordsSrc (w : World) (v : Value) (l : List Nat) : Prop := Src w 1 v l.length (words l)
section
variable {W w : World} {m bs : List (Nat × Obj)} {v x : Value} {l l' : List Nat}
/-- append, of words -/
theorem wpList_app_words {ops : Array Oper} {rest : List Oper} {o : Oper} {a : Act} {Q : Exit → Act → World → Prop} (hgd : o.guard = none) (s x : Operand)
    (ho : o.op = .call { callee := .builtin .append, args := #[s, x], argTypes := #[22, 22] }) {v xv : Value} (hes : a.eval s = v) (hex : a.eval x = xv)
    (hs : WordsOwn true v l bs) (hO : Own W (bs ++ m) w) (hx : WordsSrc w xv l') (hlen : (l.length + l'.length) * 8 ≤ 140737488351232)
    (h : ∀ v' w' bs', WordsOwn true v' (l ++ l') bs' → Own W (bs' ++ m) w' → (v' = .slice none 0 0 ↔ v = .slice none 0 0 ∧ l' = []) → wpList Tryz.prog ops Q rest (a.put o.dst v') w') :
    wpList Tryz.prog ops Q (o :: rest) a w := by
  obtain ⟨i, hi, hz, hsz, hb⟩ := info_get word_info
  refine wpList_app hgd s x _ ho hes hex 23 i _ 1 8 Tryz.underlying22 hi hz hsz hb rfl (by omega) hs hO hx (words_one l') (by unfold maxLen; omega) (by omega) fun v' w' bs' h1 h2 h3 => ?_
  rw [words_append, ← List.length_append] at h1
  exact h v' w' bs' h1 h2 (by rw [h3, List.length_eq_zero_iff])
theorem WordsSrc.slice (h : WordsSrc w v l) : ∃ A c, v = .slice A l.length c := by
  rcases h.2 with ⟨rfl, hn⟩ | ⟨a, c, rfl, -⟩
  · exact ⟨none, 0, by rw [hn]⟩
  · exact ⟨_, _, rfl⟩
set_option maxHeartbeats 1000000 in
/-- two slices that read as the same words -/
theorem eqWords_same {v1 v2 : Value} (h1 : WordsSrc w v1 l) (h2 : WordsSrc w v2 l) (hl : l.length * 8 ≤ 140737488351232) :
    Calls Tryz.prog 8 #[v1, v2] w fun e w' => e = .returned (.bool true) ∧ ∃ n, w' = w.drewN n := by
  obtain ⟨A1, c1, rfl⟩ := h1.slice
  obtain ⟨A2, c2, rfl⟩ := h2.slice
  obtain ⟨n, hn⟩ : ∃ n, l.length = n := ⟨_, rfl⟩
  have H1 := Lib.hid h1
  have H2 := Lib.hid h2
  have HN := Lib.hid hn
  rw [hn] at hl
  rw [hn]
  have hb : ((n : Int) != (n : Int)) = false := by simp
  clear h1 h2 hn
  go_enter Tryz.func8, Tryz.ntmps8
  go_wp2_with fail
  go_loopw [5] (fun k wr => ∃ i : Nat, i ≤ n ∧ k = .int .i64 i ∧ ∃ n, wr = w.drewN n) (fun k _ => n - (intOf k).toNat)
  case atStart => exact ⟨0, Nat.zero_le _, rfl, 0, rfl⟩
  case round =>
    obtain ⟨i, hi, rfl, nq0, rfl⟩ := hrel
    by_cases hlt : i < n
    · rcases H1.out.2 with ⟨_, h0⟩ | ⟨a1, k1, he1, hc1⟩
      · have := HN.out; omega
      rcases H2.out.2 with ⟨_, h0⟩ | ⟨a2, k2, he2, hc2⟩
      · have := HN.out; omega
      cases he1
      cases he2
      obtain ⟨x, hx⟩ : ∃ x, l[i]? = some x := ⟨_, List.getElem?_eq_getElem (by have := HN.out; omega)⟩
      have cx := hc1 i _ (words_get hx)
      have cy := hc2 i _ (words_get hx)
      have i0 : (0 : Int) ≤ (i : Int) := by omega
      have i1 : (i : Int) < (n : Int) := by omega
      have hxb : ((x : Int) != (x : Int)) = false := by simp
      clear hx hc1 hc2
      go_wp2_with fail
      go_quiet (fail)
      go_wp2_with fail
      go_roundw
      case rel => exact ⟨i + 1, by omega, by go_num, nq0 + nq, by first | rfl | rw [World.drewN_drewN]⟩
      case measure => simp [intOf]; omega
    · obtain rfl : i = n := by omega
      go_wp2_with fail
      go_ret
      exact ⟨rfl, _, rfl⟩
end
section
open Go.ChangeShapes Go.WideShapes Go.ChangeAt
variable {H : Type} {enc : TypeId × Value → H} {P : Program} {w : World} {base : Nat} {held : Bool}
/-- a slice of words that came in: what it reads as, and its reach -/
theorem open_words {t e : TypeId} {v : Value} {d : DataW H} {p : List MemPlace} {ts : List TypeId} {ds : List (DataW H)} (hsz : (DataW.weightsEach P ts ds).all (· ≤ reachBytes) = true) {j : Nat} (hj : ts[j]? = some t) (hd : ds[j]? = some d)
    (ht : P.underlying t = some (.slice e)) (he : P.underlying e = some (.int .u64)) (hc1 : P.cellsOf e = 1) (hb8 : P.bytesOf e = 8) (hone : v.cells.toList = [v])
    (h : DataW.Trod enc P w base (fun _ => true) held t v d p) (hlt : ∀ x ∈ p, x.block < w.heap.size) :
    ∃ g : List Nat, Src w 1 v g.length (words g) ∧ (∀ x ∈ g, x < 18446744073709551616) ∧ g.length * 8 ≤ 140737488351232 ∧ ∃ A c, v = .slice A g.length c ∧ g.length ≤ c ∧ c ≤ maxLen := by
  have hks : flatKinds P 4 e = some [some .u64] := by simp [flatKinds, he]
  obtain ⟨fuel, hf⟩ := h
  have hf0 := hf
  rw [hone] at hf
  rcases Deep.open_slice ht hf with ⟨h0, _⟩ | ⟨a, len, cap, m, n', D, Pl, hcs, hb, hl, hm, hmm, hx, hi⟩
  · simp only [List.cons.injEq, and_true] at h0
    subst h0
    exact ⟨[], ⟨rfl, .inl ⟨rfl, rfl⟩⟩, by simp, by simp, none, 0, rfl, Nat.le_refl _, by unfold maxLen; omega⟩
  · simp only [List.cons.injEq, and_true] at hcs
    subst hcs
    simp only [if_true] at hmm
    subst hmm
    obtain ⟨cap, rfl⟩ : ∃ cap, cap = m := ⟨m, rfl⟩
    simp only [Prod.mk.injEq] at hx
    have hd' := hd
    rw [hx.1] at hd'
    have hr := sized_slice hsz hj hd' ht
    rw [hb8] at hr
    simp only [List.length_map, List.length_range, reachBytes] at hr
    have hcap : len * 8 ≤ 140737488351232 := by omega
    have hall : ∀ i, i < len → ∃ x : Nat, w.cell? (a.add i) = some (.int .u64 (x : Int)) ∧ x < 18446744073709551616 := by
      intro i hil
      obtain ⟨cs', hc, ht'⟩ := hi i (by omega)
      obtain ⟨u, hu, n, rfl, hwf⟩ := trod_flat n' 4 e cs' _ _ ht' hks 0 _ rfl
      obtain ⟨_, hcl, hat⟩ := World.cells?_some hc
      have := hat 0 (by omega)
      rw [Go.Deep.add_add, hc1, Nat.mul_one, Nat.add_zero, hu] at this
      have h2 : 0 ≤ n ∧ n < 18446744073709551616 := by
        simp [Lit.wf, IntKind.min, IntKind.max, IntKind.signed, IntKind.bits] at hwf
        omega
      refine ⟨n.toNat, ?_, by omega⟩
      rw [this, show ((n.toNat : Nat) : Int) = n from by omega]
    let g : List Nat := (List.range len).map fun i => if h : i < len then (hall i h).choose else 0
    have hgl : g.length = len := by simp [g]
    have hgi : ∀ i x, g[i]? = some x → ∃ h : i < len, x = (hall i h).choose := by
      intro i x hix
      have hil : i < len := by
        have := (List.getElem?_eq_some_iff.1 hix).1
        omega
      simp only [g, List.getElem?_map, List.getElem?_range hil, Option.map_some, Option.some.injEq, dif_pos hil] at hix
      exact ⟨hil, hix.symm⟩
    refine ⟨g, ⟨by rw [words_len, Nat.mul_one], .inr ⟨a, cap, by rw [hgl], fun j u hu => ?_⟩⟩, fun x hx => ?_, by rw [hgl]; exact hcap, some a, cap, by rw [hgl], by rw [hgl]; exact hl, hm⟩
    · have hjl : j < g.length := by
        have := (List.getElem?_eq_some_iff.1 hu).1
        rw [words_len] at this
        exact this
      have hg1 : g[j]? = some (g[j]'hjl) := List.getElem?_eq_getElem hjl
      rw [words_get hg1] at hu
      simp only [Option.some.injEq] at hu
      subst hu
      obtain ⟨hil, hx⟩ := hgi j _ hg1
      rw [hx]
      exact (hall j hil).choose_spec.1
    · obtain ⟨i, hi', rfl⟩ := List.getElem_of_mem hx
      obtain ⟨hil, hx⟩ := hgi i _ (List.getElem?_eq_getElem hi')
      rw [hx]
      exact (hall i hil).choose_spec.2
end
end Go.Proofs.YtllbnoojkgbjiaaGreat

/-
  Contracts: package mem. No condition. (Printed by mkmem.py.)
-/
namespace Go.Proofs.YtllbnoojkgbjiaaGreat.Mem
open Go.RowKit
attribute [local go_sem ↓] Go.wp_at_zero Go.wp_at_succ
/-- words, as a block's cells -/
def wRow (g : List Nat) : Array Value := (words g).toArray
theorem wRow_get {g : List Nat} {i x : Nat} (h : g[i]? = some x) : (wRow g)[i]? = some (.int .u64 (x : Int)) := by simp [wRow, words, h]
theorem wRow_set (g : List Nat) (i x : Nat) : (wRow g).setIfInBounds i (.int .u64 (x : Int)) = wRow (g.set i x) := by
  unfold wRow words
  rw [List.map_set]
  simp
/-- a memory's own block -/
def mB (b0 b1 N k : Nat) : Nat × Obj := (b0, .cells #[.slice (some ⟨b1, 0, none⟩) N N, .int .i64 (k : Int)] 48)
/-- its words' block -/
def wB (b1 : Nat) (g : List Nat) : Nat × Obj := (b1, .cells (wRow g) 23)
/-- a word in a box -/
def uB (b : Nat) (x : Int) : Nat × Obj := (b, .cells #[.int .u64 x] 23)
section
variable {W w : World} {m : List (Nat × Obj)} {b0 b1 N k b : Nat} {g : List Nat}
theorem box_m (h : Own W (mB b0 b1 N k :: m) w) : w.cell? ⟨b0, 0, none⟩ = some (.slice (some ⟨b1, 0, none⟩) N N) ∧ w.cell? ⟨b0, 1, none⟩ = some (.int .i64 (k : Int)) ∧ w.frozen? ⟨b0, 1, none⟩ = false :=
  ⟨h.cell List.mem_cons_self 0, h.cell List.mem_cons_self 1, h.frozen List.mem_cons_self 1⟩
theorem set_m (h : Own W (mB b0 b1 N k :: m) w) (k' : Nat) : Own W (mB b0 b1 N k' :: m) (w.setCell ⟨b0, 1, none⟩ (.int .i64 (k' : Int))) := h.set 1 (.int .i64 (k' : Int))
theorem cell_w (h : Own W (wB b1 g :: m) w) {i x : Nat} (hx : g[i]? = some x) : w.cell? ⟨b1, i, none⟩ = some (.int .u64 (x : Int)) ∧ w.frozen? ⟨b1, i, none⟩ = false := by
  have h1 := h.cell List.mem_cons_self i
  rw [wRow_get hx] at h1
  exact ⟨h1, h.frozen List.mem_cons_self i⟩
theorem set_w (h : Own W (wB b1 g :: m) w) (i x : Nat) : Own W (wB b1 (g.set i x) :: m) (w.setCell ⟨b1, i, none⟩ (.int .u64 (x : Int))) := by
  have h1 := h.set i (.int .u64 (x : Int))
  rw [wRow_set] at h1
  exact h1
theorem box_u {x : Int} (h : Own W (uB b x :: m) w) : w.cell? ⟨b, 0, none⟩ = some (.int .u64 x) ∧ w.frozen? ⟨b, 0, none⟩ = false := ⟨h.cell List.mem_cons_self 0, h.frozen List.mem_cons_self 0⟩
theorem set_u {x : Int} (h : Own W (uB b x :: m) w) (y : Int) : Own W (uB b y :: m) (w.setCell ⟨b, 0, none⟩ (.int .u64 y)) := h.set 0 (.int .u64 y)
theorem sw {α : Type} (x y : α) (l : List α) : (x :: y :: l).Perm (y :: x :: l) := List.Perm.swap _ _ _
theorem len_spec (h : Own W (mB b0 b1 N k :: m) w) : Calls Tryz.prog 17 #[.pointer (some ⟨b0, 0, none⟩)] w fun e w' => e = .returned (.int .i64 (N : Int)) ∧ Own W (mB b0 b1 N k :: m) w' := by
  obtain ⟨y0, y1, f1⟩ := box_m h
  go_enter Tryz.func17, Tryz.ntmps17
  go_wp2_with fail
  go_ret
  exact ⟨rfl, h⟩
set_option maxRecDepth 100000 in
theorem access_bad (fv : Value) (q : Nat) (hq : q = 1 ∨ q = 2) (h : Own W (mB b0 b1 N k :: m) w) (i : Int) (hi : i < 0 ∨ (N : Int) - q < i) (hN2 : N ≤ 4096) (hk : k ≤ 1000000000) : Calls Tryz.prog 35 #[.pointer (some ⟨b0, 0, none⟩), .int .i64 i, .int .i64 q, fv] w fun e w' => e = .returned (.int .i64 9) ∧ Own W (mB b0 b1 N k :: m) w' := by
  obtain ⟨y0, y1, f1⟩ := box_m h
  have he := fun w => Lib.run_eql_slice_nil (P := Tryz.prog) w 22 23 (some ⟨b1, 0, none⟩) N N 0 0 Tryz.underlying22
  have hi' : i < 0 ∨ (¬ i < 0 ∧ (N : Int) - q < i) := by omega
  clear hi
  rcases hi' with hi | ⟨h0, hi⟩
  · have hd : decide (i < 0) = true := decide_eq_true hi
    rcases hq with rfl | rfl
    all_goals
      go_enter Tryz.func35, Tryz.ntmps35
      go_wp2_with fail
      go_ret
      exact ⟨rfl, h⟩
  · have hd : decide (i < 0) = false := decide_eq_false h0
    rcases hq with rfl | rfl
    · have h2 : (N : Int) - 1 < i := hi
      go_enter Tryz.func35, Tryz.ntmps35
      go_wp2_with fail
      go_ret
      exact ⟨rfl, h⟩
    · have h2 : (N : Int) - 2 < i := hi
      go_enter Tryz.func35, Tryz.ntmps35
      go_wp2_with fail
      go_ret
      exact ⟨rfl, h⟩
theorem up1 {α : Type} (x y : α) (l : List α) : (x :: y :: l).Perm (y :: x :: l) := List.Perm.swap _ _ _
theorem up2 {α : Type} (x1 x2 y : α) (l : List α) : (x1 :: x2 :: y :: l).Perm (y :: x1 :: x2 :: l) := ((up1 x2 y l).cons x1).trans (up1 _ _ _)
theorem up3 {α : Type} (x1 x2 x3 y : α) (l : List α) : (x1 :: x2 :: x3 :: y :: l).Perm (y :: x1 :: x2 :: x3 :: l) := ((up2 x2 x3 y l).cons x1).trans (up1 _ _ _)
theorem up4 {α : Type} (x1 x2 x3 x4 y : α) (l : List α) : (x1 :: x2 :: x3 :: x4 :: y :: l).Perm (y :: x1 :: x2 :: x3 :: x4 :: l) := ((up3 x2 x3 x4 y l).cons x1).trans (up1 _ _ _)
theorem up5 {α : Type} (x1 x2 x3 x4 x5 y : α) (l : List α) : (x1 :: x2 :: x3 :: x4 :: x5 :: y :: l).Perm (y :: x1 :: x2 :: x3 :: x4 :: x5 :: l) := ((up4 x2 x3 x4 x5 y l).cons x1).trans (up1 _ _ _)
theorem up6 {α : Type} (x1 x2 x3 x4 x5 x6 y : α) (l : List α) : (x1 :: x2 :: x3 :: x4 :: x5 :: x6 :: y :: l).Perm (y :: x1 :: x2 :: x3 :: x4 :: x5 :: x6 :: l) := ((up5 x2 x3 x4 x5 x6 y l).cons x1).trans (up1 _ _ _)
theorem eql_pair (w : World) (x y a b : Int) : (binOp .eql 141 (.agg #[.int .u64 x, .int .u64 y]) (.agg #[.int .u64 a, .int .u64 b])).run Tryz.prog w = .ok (.bool (decide (x = a ∧ y = b))) w := by
  have e1 : (Tryz.prog.fieldsOf 141).toList.map (fun f => (f.name == "_", f.type, f.offset)) = [(false, 23, 0), (false, 23, 1)] := by kernel_rfl
  rw [run_eql_struct, run_equalIn_struct w 9999 141 _ _ (by kernel_rfl) (by kernel_rfl)]
  obtain ⟨f1, f2, hf, e1, e2⟩ : ∃ f1 f2, (Tryz.prog.fieldsOf 141).toList = [f1, f2] ∧ (f1.name == "_", f1.type, f1.offset) = (false, 23, 0) ∧ (f2.name == "_", f2.type, f2.offset) = (false, 23, 1) := by
    match hl : (Tryz.prog.fieldsOf 141).toList, e1 with
    | [f1, f2], e1 => simp only [List.map_cons, List.map_nil, List.cons.injEq, and_true] at e1; exact ⟨f1, f2, rfl, e1.1, e1.2⟩
    | [], e1 => simp at e1
    | [_], e1 => simp at e1
    | _ :: _ :: _ :: _, e1 => simp at e1
  simp only [Prod.mk.injEq] at e1 e2
  obtain ⟨n1, t1, o1⟩ := e1
  obtain ⟨n2, t2, o2⟩ := e2
  have n1 : f1.name ≠ "_" := by simpa using n1
  have n2 : f2.name ≠ "_" := by simpa using n2
  rw [hf]
  have ha : Tryz.prog.underlying 23 = some (.int .u64) := Tryz.underlying23
  simp [Op.eqFields, n1, n2, t1, t2, o1, o2, part, run_equalIn_int, ha, isAgg]
  by_cases h1 : x = a <;> by_cases h2 : y = b <;> simp [h1, h2]
/-- a bool in a box -/
def bB (b : Nat) (x : Bool) : Nat × Obj := (b, .cells #[.bool x] 4)
theorem box_b {x : Bool} (h : Own W (bB b x :: m) w) : w.cell? ⟨b, 0, none⟩ = some (.bool x) ∧ w.frozen? ⟨b, 0, none⟩ = false := ⟨h.cell List.mem_cons_self 0, h.frozen List.mem_cons_self 0⟩
theorem set_b {x : Bool} (h : Own W (bB b x :: m) w) (y : Bool) : Own W (bB b y :: m) (w.setCell ⟨b, 0, none⟩ (.bool y)) := h.set 0 (.bool y)
/-! Load -/
set_option maxRecDepth 100000 in
theorem load1_spec (v : Int) (h : Own W (uB b v :: mB b0 b1 N k :: wB b1 g :: m) w) {i x : Nat} (hx : g[i]? = some x) (q : Nat) : Calls Tryz.prog 105 #[.slice (some ⟨b1, i, none⟩) 1 q, .pointer (some ⟨b, 0, none⟩)] w fun e w' => e = .returned (.tuple #[]) ∧ Own W (uB b x :: mB b0 b1 N k :: wB b1 g :: m) w' := by
  obtain ⟨y0, f0⟩ := box_u h
  obtain ⟨z0, -⟩ := cell_w h.skip.skip hx
  have h2 := set_u h (x : Int)
  clear hx
  go_enter Tryz.func105, Tryz.ntmps105
  go_wp2_with fail
  go_end0
  exact ⟨rfl, h2⟩
set_option maxRecDepth 100000 in
theorem access_load (v : Int) (h : Own W (uB b v :: mB b0 b1 N k :: wB b1 g :: m) w) {i x : Nat} (hx : g[i]? = some x) (hN : g.length = N) (hN2 : N ≤ 4096) (hk : k ≤ 1000000000) : Calls Tryz.prog 35 #[.pointer (some ⟨b0, 0, none⟩), .int .i64 i, .int .i64 1, .func (.func 105) #[] #[.pointer (some ⟨b, 0, none⟩)]] w fun e w' => e = .returned (.int .i64 0) ∧ Own W (uB b x :: mB b0 b1 N (k + 1) :: wB b1 g :: m) w' := by
  obtain ⟨y0, y1, f1⟩ := box_m h.skip
  have hlt : i + (1 - 1) < N := by rw [← hN]; exact (List.getElem?_eq_some_iff.1 hx).1
  have h2 := (set_m (h.perm (up1 _ _ _)) (k + 1)).perm (up1 _ _ _).symm
  have hi1 : (i : Int) ≤ (N : Int) - 1 := by omega
  have he := fun w => Lib.run_eql_slice_nil (P := Tryz.prog) w 22 23 (some ⟨b1, 0, none⟩) N N 0 0 Tryz.underlying22
  have HX := Lib.hid hx
  have H2 := Lib.hid h2
  clear hx h2 h hN
  go_enter Tryz.func35, Tryz.ntmps35
  go_wp2_with fail
  refine (load1_spec _ H2.out HX.out _).mono ?_
  rintro e w3 ⟨rfl, h3⟩
  go_wp2_with fail
  go_ret
  exact ⟨rfl, h3⟩
/-! Store -/
set_option maxRecDepth 100000 in
theorem store1_spec (v : Nat) (h : Own W (uB b (v : Int) :: mB b0 b1 N k :: wB b1 g :: m) w) {i x : Nat} (hx : g[i]? = some x) (q : Nat) : Calls Tryz.prog 36 #[.slice (some ⟨b1, i, none⟩) 1 q, .pointer (some ⟨b, 0, none⟩)] w fun e w' => e = .returned (.tuple #[]) ∧ Own W (uB b (v : Int) :: mB b0 b1 N k :: wB b1 (g.set i v) :: m) w' := by
  obtain ⟨y0, f0⟩ := box_u h
  obtain ⟨z0, z1⟩ := cell_w h.skip.skip hx
  have h2 := (set_w (h.perm (up2 _ _ _ _)) i v).perm (up2 _ _ _ _).symm
  clear hx
  go_enter Tryz.func36, Tryz.ntmps36
  go_wp2_with fail
  go_end0
  exact ⟨rfl, h2⟩
set_option maxRecDepth 100000 in
theorem access_store (v : Nat) (h : Own W (uB b (v : Int) :: mB b0 b1 N k :: wB b1 g :: m) w) {i x : Nat} (hx : g[i]? = some x) (hN : g.length = N) (hN2 : N ≤ 4096) (hk : k ≤ 1000000000) : Calls Tryz.prog 35 #[.pointer (some ⟨b0, 0, none⟩), .int .i64 i, .int .i64 1, .func (.func 36) #[] #[.pointer (some ⟨b, 0, none⟩)]] w fun e w' => e = .returned (.int .i64 0) ∧ Own W (uB b (v : Int) :: mB b0 b1 N (k + 1) :: wB b1 (g.set i v) :: m) w' := by
  obtain ⟨y0, y1, f1⟩ := box_m h.skip
  have hlt : i + (1 - 1) < N := by rw [← hN]; exact (List.getElem?_eq_some_iff.1 hx).1
  have h2 := (set_m (h.perm (up1 _ _ _)) (k + 1)).perm (up1 _ _ _).symm
  have hi1 : (i : Int) ≤ (N : Int) - 1 := by omega
  have he := fun w => Lib.run_eql_slice_nil (P := Tryz.prog) w 22 23 (some ⟨b1, 0, none⟩) N N 0 0 Tryz.underlying22
  have HX := Lib.hid hx
  have H2 := Lib.hid h2
  clear hx h2 h hN
  go_enter Tryz.func35, Tryz.ntmps35
  go_wp2_with fail
  refine (store1_spec _ H2.out HX.out _).mono ?_
  rintro e w3 ⟨rfl, h3⟩
  go_wp2_with fail
  go_ret
  exact ⟨rfl, h3⟩
/-! Cas2 -/
set_option maxRecDepth 100000 in
theorem cas21_spec (z : Bool) (ol se tw ot c0 c1 c2 c3 c4 : Nat) (h : Own W (bB c4 z :: uB c3 (ot : Int) :: uB c2 (tw : Int) :: uB c1 (se : Int) :: uB c0 (ol : Int) :: mB b0 b1 N k :: wB b1 g :: m) w) {i x y : Nat} (hx : g[i]? = some x) (hy : g[i + 1]? = some y) {t : Bool} {g' : List Nat} (ht : Hid (t = decide (x = ol ∧ y = se) ∧ g' = if x = ol ∧ y = se then (g.set i tw).set (i + 1) ot else g)) (q : Nat) : Calls Tryz.prog 112 #[.slice (some ⟨b1, i, none⟩) 2 q, .pointer (some ⟨c0, 0, none⟩), .pointer (some ⟨c1, 0, none⟩), .pointer (some ⟨c4, 0, none⟩), .pointer (some ⟨c2, 0, none⟩), .pointer (some ⟨c3, 0, none⟩)] w fun e w' => e = .returned (.tuple #[]) ∧ Own W (bB c4 t :: uB c3 (ot : Int) :: uB c2 (tw : Int) :: uB c1 (se : Int) :: uB c0 (ol : Int) :: mB b0 b1 N k :: wB b1 g' :: m) w' := by
  obtain ⟨y4, f4⟩ := box_b h
  obtain ⟨y3, f3⟩ := box_u h.skip
  obtain ⟨y2, f2⟩ := box_u h.skip.skip
  obtain ⟨y1, f1⟩ := box_u h.skip.skip.skip
  obtain ⟨y0, f0⟩ := box_u h.skip.skip.skip.skip
  obtain ⟨z0, z1⟩ := cell_w h.skip.skip.skip.skip.skip.skip hx
  obtain ⟨z2, z3⟩ := cell_w h.skip.skip.skip.skip.skip.skip hy
  have hg : (Tryz.prog.eqGuardType Tryz.prog.depth 141) = false := by kernel_rfl
  have hnd := h.nd
  simp only [bB, uB, mB, wB, List.map_cons, List.nodup_cons, List.mem_cons, not_or] at hnd
  obtain ⟨⟨-, -, p1, p0, -, pb, -⟩, ⟨-, -, -, -, r1, -⟩, ⟨-, -, -, r2, -⟩, -⟩ := hnd
  have n1 : b1 ≠ c4 := fun e => pb e.symm
  have n2 : c0 ≠ c4 := fun e => p0 e.symm
  have n3 : c1 ≠ c4 := fun e => p1 e.symm
  have n4 : c3 ≠ b1 := r1
  have n5 : c2 ≠ b1 := r2
  have n6 : b1 ≠ c3 := fun e => r1 e.symm
  have n7 : b1 ≠ c2 := fun e => r2 e.symm
  have HX := Lib.hid hx
  have HY := Lib.hid hy
  clear hx hy
  obtain ⟨ht, hgg⟩ := ht
  by_cases hc : x = ol ∧ y = se
  · rw [if_pos hc] at hgg
    rw [decide_eq_true hc] at ht
    subst ht hgg
    have heq : ∀ w, (binOp .eql 141 (.agg #[.int .u64 (x : Int), .int .u64 (y : Int)]) (.agg #[.int .u64 (ol : Int), .int .u64 (se : Int)])).run Tryz.prog w = .ok (.bool true) w := fun w => by rw [eql_pair, decide_eq_true ⟨by omega, by omega⟩]
    have h1 := (set_b h true).drew
    have H := Lib.hid h1
    clear hc h h1
    go_enter Tryz.func112, Tryz.ntmps112
    go_wp2_with fail
    go_region_held3 (fun w' => w'.cell? ⟨b1, i, none⟩ = some (.int .u64 (x : Int)) ∧ w'.cell? ⟨b1, i + 1, none⟩ = some (.int .u64 (y : Int)) ∧ w'.cell? ⟨c0, 0, none⟩ = some (.int .u64 (ol : Int)) ∧ w'.cell? ⟨c1, 0, none⟩ = some (.int .u64 (se : Int))) (first | (refine ⟨?_, ?_, ?_, ?_⟩ <;> assumption) | go_keep) (fail)
    have H1 := H.out
    obtain ⟨w1, hw1⟩ : ∃ w1, (w.setCell ⟨c4, 0, none⟩ (.bool true)).drew = w1 := ⟨_, rfl⟩
    rw [hw1] at H1 ⊢
    clear y0 y1 y2 y3 y4 f0 f1 f2 f3 f4 z0 z1 z2 z3 heq hw1 H
    obtain ⟨y4, f4⟩ := box_b H1
    go_wp2_with fail
    obtain ⟨y3, f3⟩ := box_u H1.skip
    obtain ⟨y2, f2⟩ := box_u H1.skip.skip
    obtain ⟨z0, z1⟩ := cell_w H1.skip.skip.skip.skip.skip.skip HX.out
    obtain ⟨z2, z3⟩ := cell_w H1.skip.skip.skip.skip.skip.skip HY.out
    have h5 := ((set_w (set_w (H1.perm (up6 _ _ _ _ _ _ _ _)) i tw) (i + 1) ot).perm (up6 _ _ _ _ _ _ _ _).symm).drew
    have H5 := Lib.hid h5
    clear h5 y4 f4 H1
    go_region_held3 (fun w' => w'.cell? ⟨c2, 0, none⟩ = some (.int .u64 (tw : Int)) ∧ w'.cell? ⟨c3, 0, none⟩ = some (.int .u64 (ot : Int))) (first | (refine ⟨?_, ?_⟩ <;> assumption) | go_keep) (fail)
    go_wp2_with fail
    go_end0
    exact ⟨rfl, H5.out⟩
  · rw [if_neg hc] at hgg
    rw [decide_eq_false hc] at ht
    subst ht hgg
    have heq : ∀ w, (binOp .eql 141 (.agg #[.int .u64 (x : Int), .int .u64 (y : Int)]) (.agg #[.int .u64 (ol : Int), .int .u64 (se : Int)])).run Tryz.prog w = .ok (.bool false) w := fun w => by rw [eql_pair, decide_eq_false (by omega)]
    have h1 := (set_b h false).drew
    have H := Lib.hid h1
    clear hc h h1
    go_enter Tryz.func112, Tryz.ntmps112
    go_wp2_with fail
    go_region_held3 (fun w' => w'.cell? ⟨b1, i, none⟩ = some (.int .u64 (x : Int)) ∧ w'.cell? ⟨b1, i + 1, none⟩ = some (.int .u64 (y : Int)) ∧ w'.cell? ⟨c0, 0, none⟩ = some (.int .u64 (ol : Int)) ∧ w'.cell? ⟨c1, 0, none⟩ = some (.int .u64 (se : Int))) (first | (refine ⟨?_, ?_, ?_, ?_⟩ <;> assumption) | go_keep) (fail)
    have H1 := H.out
    obtain ⟨w1, hw1⟩ : ∃ w1, (w.setCell ⟨c4, 0, none⟩ (.bool false)).drew = w1 := ⟨_, rfl⟩
    rw [hw1] at H1 ⊢
    clear y0 y1 y2 y3 y4 f0 f1 f2 f3 f4 z0 z1 z2 z3 heq hw1 H
    obtain ⟨y4, f4⟩ := box_b H1
    go_wp2_with fail
    go_end0
    exact ⟨rfl, H1⟩
set_option maxRecDepth 100000 in
theorem access_cas2 (z : Bool) (ol se tw ot c0 c1 c2 c3 c4 : Nat) (h : Own W (bB c4 z :: uB c3 (ot : Int) :: uB c2 (tw : Int) :: uB c1 (se : Int) :: uB c0 (ol : Int) :: mB b0 b1 N k :: wB b1 g :: m) w) {i x y : Nat} (hx : g[i]? = some x) (hy : g[i + 1]? = some y) {t : Bool} {g' : List Nat} (ht : Hid (t = decide (x = ol ∧ y = se) ∧ g' = if x = ol ∧ y = se then (g.set i tw).set (i + 1) ot else g)) (hN : g.length = N) (hN2 : N ≤ 4096) (hk : k ≤ 1000000000) : Calls Tryz.prog 35 #[.pointer (some ⟨b0, 0, none⟩), .int .i64 i, .int .i64 2, .func (.func 112) #[] #[.pointer (some ⟨c0, 0, none⟩), .pointer (some ⟨c1, 0, none⟩), .pointer (some ⟨c4, 0, none⟩), .pointer (some ⟨c2, 0, none⟩), .pointer (some ⟨c3, 0, none⟩)]] w fun e w' => e = .returned (.int .i64 0) ∧ Own W (bB c4 t :: uB c3 (ot : Int) :: uB c2 (tw : Int) :: uB c1 (se : Int) :: uB c0 (ol : Int) :: mB b0 b1 N (k + 1) :: wB b1 g' :: m) w' := by
  obtain ⟨y0, y1, f1⟩ := box_m h.skip.skip.skip.skip.skip
  have hlt : i + (2 - 1) < N := by rw [← hN]; exact (List.getElem?_eq_some_iff.1 hy).1
  have h2 := (set_m (h.perm (up5 _ _ _ _ _ _ _)) (k + 1)).perm (up5 _ _ _ _ _ _ _).symm
  have hi1 : (i : Int) ≤ (N : Int) - 2 := by omega
  have he := fun w => Lib.run_eql_slice_nil (P := Tryz.prog) w 22 23 (some ⟨b1, 0, none⟩) N N 0 0 Tryz.underlying22
  have HX := Lib.hid hx
  have HY := Lib.hid hy
  have H2 := Lib.hid h2
  clear hx h2 h hN hy
  go_enter Tryz.func35, Tryz.ntmps35
  go_wp2_with fail
  refine (cas21_spec _ _ _ _ _ _ _ _ _ _ H2.out HX.out HY.out ht _).mono ?_
  rintro e w3 ⟨rfl, h3⟩
  go_wp2_with fail
  go_ret
  exact ⟨rfl, h3⟩
set_option maxRecDepth 100000 in
theorem load_in  (h : Own W (mB b0 b1 N k :: wB b1 g :: m) w) {i x : Nat} (hx : g[i]? = some x) (hN : g.length = N) (hN2 : N ≤ 4096) (hk : k ≤ 1000000000) : Calls Tryz.prog 93 #[.pointer (some ⟨b0, 0, none⟩), .int .i64 (i : Int)] w fun e w' => e = .returned (.tuple #[.int .u64 (x : Int), .int .i64 0]) ∧ Own W (mB b0 b1 N (k + 1) :: wB b1 g :: m) w' := by
  have h1 := (h.new (.cells #[.int .u64 0] 23))
  obtain ⟨b, hb⟩ : ∃ b, w.heap.size = b := ⟨_, rfl⟩
  try simp only [World.size_alloc] at h1
  rw [hb] at h1
  have h1 : Own W (uB b 0 :: mB b0 b1 N k :: wB b1 g :: m) _ := h1
  have hac := access_load 0 h1 hx hN hN2 hk
  have HAC := Lib.hid hac
  clear hac h h1 hx hN
  go_enter Tryz.func93, Tryz.ntmps93
  go_wp2_with fail
  refine (HAC.out).mono ?_
  rintro e w3 ⟨rfl, h3⟩
  obtain ⟨y0, f0⟩ := box_u h3
  have h4 := set_u h3 (x : Int)
  obtain ⟨z0, -⟩ := box_u h4
  go_wp2_with fail
  exact bodyPost_ret (v := (.tuple #[.int .u64 (x : Int), .int .i64 0])) (by simp [results, Tryz.f93, go_sem, z0]) rfl ⟨rfl, h4.skip⟩
set_option maxRecDepth 100000 in
theorem load_bad  (h : Own W (mB b0 b1 N k :: wB b1 g :: m) w)  (i : Int) (hi : i < 0 ∨ (N : Int) - 1 < i) (hN2 : N ≤ 4096) (hk : k ≤ 1000000000) : Calls Tryz.prog 93 #[.pointer (some ⟨b0, 0, none⟩), .int .i64 i] w fun e w' => e = .returned (.tuple #[.int .u64 0, .int .i64 9]) ∧ Own W (mB b0 b1 N k :: wB b1 g :: m) w' := by
  have h1 := (h.new (.cells #[.int .u64 0] 23))
  obtain ⟨b, hb⟩ : ∃ b, w.heap.size = b := ⟨_, rfl⟩
  try simp only [World.size_alloc] at h1
  rw [hb] at h1
  have h1 : Own W (uB b 0 :: mB b0 b1 N k :: wB b1 g :: m) _ := h1
  have hac := fun fv => access_bad fv 1 (by omega) (h1.perm (up1 _ _ _)) i hi hN2 hk
  have HAC := Lib.hid hac
  clear hac h h1 hi
  go_enter Tryz.func93, Tryz.ntmps93
  go_wp2_with fail
  refine (HAC.out _).mono ?_
  rintro e w3 ⟨rfl, h3⟩
  have h3 := h3.perm (up1 _ _ _).symm
  obtain ⟨y0, f0⟩ := box_u h3
  have h4 := set_u h3 0
  obtain ⟨z0, -⟩ := box_u h4
  go_wp2_with fail
  exact bodyPost_ret (v := (.tuple #[.int .u64 0, .int .i64 9])) (by simp [results, Tryz.f93, go_sem, z0]) rfl ⟨rfl, h4.skip⟩
set_option maxRecDepth 100000 in
theorem store_in (v : Nat) (h : Own W (mB b0 b1 N k :: wB b1 g :: m) w) {i x : Nat} (hx : g[i]? = some x) (hN : g.length = N) (hN2 : N ≤ 4096) (hk : k ≤ 1000000000) : Calls Tryz.prog 15 #[.pointer (some ⟨b0, 0, none⟩), .int .i64 (i : Int), .int .u64 (v : Int)] w fun e w' => e = .returned (.int .i64 0) ∧ Own W (mB b0 b1 N (k + 1) :: wB b1 (g.set i v) :: m) w' := by
  have h1 := (h.new (.cells #[.int .u64 (v : Int)] 23))
  obtain ⟨b, hb⟩ : ∃ b, w.heap.size = b := ⟨_, rfl⟩
  try simp only [World.size_alloc] at h1
  rw [hb] at h1
  have h1 : Own W (uB b (v : Int) :: mB b0 b1 N k :: wB b1 g :: m) _ := h1
  have hac := access_store v h1 hx hN hN2 hk
  have HAC := Lib.hid hac
  clear hac h h1 hx hN
  go_enter Tryz.func15, Tryz.ntmps15
  go_wp2_with fail
  refine (HAC.out).mono ?_
  rintro e w3 ⟨rfl, h3⟩
  go_wp2_with fail
  go_ret
  exact ⟨rfl, h3.skip⟩
set_option maxRecDepth 100000 in
theorem store_bad (v : Nat) (h : Own W (mB b0 b1 N k :: wB b1 g :: m) w)  (i : Int) (hi : i < 0 ∨ (N : Int) - 1 < i) (hN2 : N ≤ 4096) (hk : k ≤ 1000000000) : Calls Tryz.prog 15 #[.pointer (some ⟨b0, 0, none⟩), .int .i64 i, .int .u64 (v : Int)] w fun e w' => e = .returned (.int .i64 9) ∧ Own W (mB b0 b1 N k :: wB b1 g :: m) w' := by
  have h1 := (h.new (.cells #[.int .u64 (v : Int)] 23))
  obtain ⟨b, hb⟩ : ∃ b, w.heap.size = b := ⟨_, rfl⟩
  try simp only [World.size_alloc] at h1
  rw [hb] at h1
  have h1 : Own W (uB b (v : Int) :: mB b0 b1 N k :: wB b1 g :: m) _ := h1
  have hac := fun fv => access_bad fv 1 (by omega) (h1.perm (up1 _ _ _)) i hi hN2 hk
  have HAC := Lib.hid hac
  clear hac h h1 hi
  go_enter Tryz.func15, Tryz.ntmps15
  go_wp2_with fail
  refine (HAC.out _).mono ?_
  rintro e w3 ⟨rfl, h3⟩
  have h3 := h3.perm (up1 _ _ _).symm
  go_wp2_with fail
  go_ret
  exact ⟨rfl, h3.skip⟩
set_option maxRecDepth 100000 in
theorem cas2_in (ol se tw ot : Nat) (h : Own W (mB b0 b1 N k :: wB b1 g :: m) w) {i x y : Nat} (hx : g[i]? = some x) (hy : g[i + 1]? = some y) {t : Bool} {g' : List Nat} (ht : Hid (t = decide (x = ol ∧ y = se) ∧ g' = if x = ol ∧ y = se then (g.set i tw).set (i + 1) ot else g)) (hN : g.length = N) (hN2 : N ≤ 4096) (hk : k ≤ 1000000000) : Calls Tryz.prog 108 #[.pointer (some ⟨b0, 0, none⟩), .int .i64 (i : Int), .int .u64 (ol : Int), .int .u64 (se : Int), .int .u64 (tw : Int), .int .u64 (ot : Int)] w fun e w' => e = .returned (.tuple #[.bool t, .int .i64 0]) ∧ Own W (mB b0 b1 N (k + 1) :: wB b1 g' :: m) w' := by
  have h1 := (((((h.new (.cells #[.int .u64 (ol : Int)] 23)).new (.cells #[.int .u64 (se : Int)] 23)).new (.cells #[.int .u64 (tw : Int)] 23)).new (.cells #[.int .u64 (ot : Int)] 23)).new (.cells #[.bool false] 4))
  obtain ⟨b, hb⟩ : ∃ b, w.heap.size = b := ⟨_, rfl⟩
  try simp only [World.size_alloc] at h1
  rw [hb] at h1
  have h1 : Own W (bB (b + 4) false :: uB (b + 3) (ot : Int) :: uB (b + 2) (tw : Int) :: uB (b + 1) (se : Int) :: uB b (ol : Int) :: mB b0 b1 N k :: wB b1 g :: m) _ := h1
  have hac := access_cas2 false ol se tw ot _ _ _ _ _ h1 hx hy ht hN hN2 hk
  have HAC := Lib.hid hac
  clear hac h h1 hx hy hN
  go_enter Tryz.func108, Tryz.ntmps108
  go_wp2_with fail
  refine (HAC.out).mono ?_
  rintro e w3 ⟨rfl, h3⟩
  obtain ⟨y0, f0⟩ := box_b h3
  have h4 := set_b h3 t
  obtain ⟨z0, -⟩ := box_b h4
  go_wp2_with fail
  exact bodyPost_ret (v := (.tuple #[.bool t, .int .i64 0])) (by simp [results, Tryz.f108, go_sem, z0]) rfl ⟨rfl, h4.skip.skip.skip.skip.skip⟩
set_option maxRecDepth 100000 in
theorem cas2_bad (ol se tw ot : Nat) (h : Own W (mB b0 b1 N k :: wB b1 g :: m) w)  (i : Int) (hi : i < 0 ∨ (N : Int) - 2 < i) (hN2 : N ≤ 4096) (hk : k ≤ 1000000000) : Calls Tryz.prog 108 #[.pointer (some ⟨b0, 0, none⟩), .int .i64 i, .int .u64 (ol : Int), .int .u64 (se : Int), .int .u64 (tw : Int), .int .u64 (ot : Int)] w fun e w' => e = .returned (.tuple #[.bool false, .int .i64 9]) ∧ Own W (mB b0 b1 N k :: wB b1 g :: m) w' := by
  have h1 := (((((h.new (.cells #[.int .u64 (ol : Int)] 23)).new (.cells #[.int .u64 (se : Int)] 23)).new (.cells #[.int .u64 (tw : Int)] 23)).new (.cells #[.int .u64 (ot : Int)] 23)).new (.cells #[.bool false] 4))
  obtain ⟨b, hb⟩ : ∃ b, w.heap.size = b := ⟨_, rfl⟩
  try simp only [World.size_alloc] at h1
  rw [hb] at h1
  have h1 : Own W (bB (b + 4) false :: uB (b + 3) (ot : Int) :: uB (b + 2) (tw : Int) :: uB (b + 1) (se : Int) :: uB b (ol : Int) :: mB b0 b1 N k :: wB b1 g :: m) _ := h1
  have hac := fun fv => access_bad fv 2 (by omega) (h1.perm (up5 _ _ _ _ _ _ _)) i hi hN2 hk
  have HAC := Lib.hid hac
  clear hac h h1 hi
  go_enter Tryz.func108, Tryz.ntmps108
  go_wp2_with fail
  refine (HAC.out _).mono ?_
  rintro e w3 ⟨rfl, h3⟩
  have h3 := h3.perm (up5 _ _ _ _ _ _ _).symm
  obtain ⟨y0, f0⟩ := box_b h3
  have h4 := set_b h3 false
  obtain ⟨z0, -⟩ := box_b h4
  go_wp2_with fail
  exact bodyPost_ret (v := (.tuple #[.bool false, .int .i64 9])) (by simp [results, Tryz.f108, go_sem, z0]) rfl ⟨rfl, h4.skip.skip.skip.skip.skip⟩
end
end Go.Proofs.YtllbnoojkgbjiaaGreat.Mem
