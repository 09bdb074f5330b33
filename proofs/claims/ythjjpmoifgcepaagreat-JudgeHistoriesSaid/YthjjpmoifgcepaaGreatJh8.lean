/-
  Texts of this claim, joined. No condition.
-/
import Derived.Test.YthjjpmoifgcepaaGreatJh7
import Derived.Test.YthjjpmoifgcepaaGreatJh1
import Derived.RangeFuncNested
import Derived.RangeFuncBound
import Derived.RangeFuncCalls
import Derived.RangeFuncLeaves
import Derived.RangeFuncWrites
import Derived.Shelf.Abstract
import Derived.Shelf.RegionOpen
import Derived.WalkKit
import Derived.OwnWalkIn
import Derived.TacticsInMore
import Derived.LoopNIn
import Derived.LoopIn
import Derived.RangeFuncFrom
import Derived.RangeFuncBox
/-
  The runner: a function's text, question by question; lists of what is known. No condition.
-/
namespace Go.Proofs.YthjjpmoifgcepaaGreat.Ex
open Go
section
variable {P : Program} {gs : List (Nat × List Int)} {rks : List (Nat × CK)} {ro : Nat → Option (Option Addr × Nat × Nat)} {σ : Nat → Int} {Ω : Nat → Nat → Nat → Obj → Prop}
/-- known calls whatever the arguments are -/
abbrev kgs (l : List Kc) : Kg := fun _ => l
theorem kcAll_nil : KcAll gs rks ro P σ Ω (kgs []) := fun _ _ _ _ h => by cases h
theorem kcAll_cons {k : Kc} {l : List Kc} (h : ∀ fs (ok : ∀ f ∈ fs, f.1.ev σ = f.2), @KcOk (nums gs rks ro σ Ω fs ok) P k) (hl : KcAll gs rks ro P σ Ω (kgs l)) : KcAll gs rks ro P σ Ω (kgs (k :: l)) := fun fs ok args x hx => by
  rcases List.mem_cons.1 hx with rfl | hx
  · exact h fs ok
  · exact hl fs ok args x hx
/-- .. and by their arguments -/
theorem kcAll_more {k1 k2 : Kg} (h : KcAll gs rks ro P σ Ω k1) (hl : KcAll gs rks ro P σ Ω k2) : KcAll gs rks ro P σ Ω (fun args => k1 args ++ k2 args) := fun fs ok args x hx => by
  rcases List.mem_append.1 hx with hx | hx
  · exact h fs ok args x hx
  · exact hl fs ok args x hx
/-- one whose first argument is a slice -/
abbrev kgSl (K : Nat → Kc) : Kg := fun args => match args with
  | .dsl n _ _ :: _ => match Nat.blt n 600000 with
    | true => [K n]
    | false => []
  | _ => []
theorem kcAll_sl {K : Nat → Kc} (h : ∀ n, n < rel → ∀ fs (ok : ∀ f ∈ fs, f.1.ev σ = f.2), @KcOk (nums gs rks ro σ Ω fs ok) P (K n)) : KcAll gs rks ro P σ Ω (kgSl K) := fun fs ok args x hx => by
  unfold kgSl at hx
  split at hx
  · split at hx
    · rename_i hlt
      rw [List.mem_singleton] at hx
      subst hx
      exact h _ (show _ < 600000 by simpa using hlt) fs ok
    · cases hx
  · cases hx
theorem lnAll_nil {f : FuncId} : LnAll gs rks ro P f σ Ω [] := fun fs ok c hc l hl => by cases hl
theorem lnAll_cons {f : FuncId} {l : Ln} {lns : List Ln} (h : ∀ fs (ok : ∀ q ∈ fs, q.1.ev σ = q.2) (c : Code), c ∈ loopsOf (bodyOf P f) → loopId c = some l.key → @LnOk (nums gs rks ro σ Ω fs ok) P (ntOf P f) c l) (hl : LnAll gs rks ro P f σ Ω lns) : LnAll gs rks ro P f σ Ω (l :: lns) := fun fs ok c hc l' hl' => by
  rcases List.mem_cons.1 hl' with rfl | hl'
  · exact h fs ok c hc
  · exact hl fs ok c hc l' hl'
/-- one that looks at no memory -/
theorem kc_pure [Nums] {k : Kc} (ha : AV.shuts k.args = true) (hv : k.res.shut = true) (hpre : k.pre = []) (hpost : k.post = []) (hnews : k.news = []) (hf : FnOk P k.f)
    (hc : (∀ c ∈ k.conds, c.1.ev Nums.σ = c.2) → ∀ (W w : World) (m : List (Nat × Obj)), Own W m w → Calls P k.f (valsOf Nums.σ k.args).toArray w fun e w' => e = .returned (valOf Nums.σ k.res) ∧ Own W m w') : KcOk P k := by
  refine kc_own hf (by rw [hpost]; intro p hp; cases hp) (by rw [hpre]; intro p hp; cases hp) fun hcs ρ W w m args' bs hF hargs hO => ?_
  have hbs : bs = [] := by rw [hpre] at hF; exact hF
  subst hbs
  have hargs := VRs.shut hargs ha
  have hargs : args' = (valsOf Nums.σ k.args).toArray := by rw [← hargs]
  subst hargs
  refine (hc hcs W w m hO).mono ?_
  rintro e w' ⟨rfl, h'⟩
  refine ⟨_, [], [], rfl, h', rfl, by rw [hnews]; rfl, fun ρ' _ _ => ⟨VR.ofShut hv, fun i t d hi => by rw [hnews] at hi; simp at hi, fun p hp => by rw [hpost] at hp; cases hp⟩⟩
/-- A FUNCTION'S TEXT, question by question -/
theorem treeC_calls (hm : P.follows .mixedOrders = true) {f : FuncId} {kcs : Kg} {lns : List Ln} (hk : KcAll gs rks ro P σ Ω kcs) (hl : LnAll gs rks ro P f σ Ω lns) {n : Nat} {args : List AV} {t : Tm} {K : AV → List (Nat × TB) → Prop} {ρ : Ren} {w : World} {args' : Array Value} :
    ∀ (d : CT) (fs : List (Cnd × Bool)) (ok : ∀ f ∈ fs, f.1.ev σ = f.2), treeC P gs rks kcs lns n f args t d fs = true → RunC σ K d →
    @HR (nums gs rks ro σ Ω fs ok) ρ t.h.get t.h.next w → @VRs (nums gs rks ro σ Ω fs ok) ρ args args'.toList →
    Calls P f args' w fun e w' => ∃ fs' ok' v post ρ' x, ∃ h' : AH, K v post ∧ e = .returned x ∧ @VR (nums gs rks ro σ Ω fs' ok') ρ' v x ∧ @Stp (nums gs rks ro σ Ω fs' ok') ρ t.h.get t.h.next w ρ' h'.get h'.next w' ∧ ∀ p ∈ post, (h'.get p.1).isSome = true ∧ ∃ b s, ρ' p.1 = some (b, s) ∧ @TR (nums gs rks ro σ Ω fs' ok') ρ' p.2 s w'.heap[b]?
  | .is v post, fs, ok, h, hK, hH, hargs => by
    unfold treeC at h
    letI N : Nums := nums gs rks ro σ Ω fs ok
    split at h <;> first | (cases h; done) | skip
    rename_i fn hf
    split at h <;> first | (cases h; done) | skip
    split at h <;> first | (cases h; done) | skip
    rename_i c hb
    split at h <;> first | (cases h; done) | skip
    rename_i hle
    rw [Bool.and_eq_true] at hle
    have hle := Nat.le_of_ble_eq_true hle.1
    have hnt : ntOf P f = fn.ntmps := by unfold ntOf; rw [hf]
    have hbody : bodyOf P f = c := by unfold bodyOf; rw [hf]; dsimp only; rw [hb]
    have hal : args.length = args'.size := by simpa using VRs.len hargs
    have hE : ER ρ (envOf 0 args .e) fn.ntmps { tmps := args' ++ Array.replicate (fn.ntmps - args'.size) undef, defers := [] } := by
      refine ⟨rfl, by simp; omega, fun t v hv => ?_⟩
      rcases envOf_get hv with ⟨_, h1⟩ | h1
      · rw [Nat.sub_zero] at h1
        obtain ⟨x, hx, hr⟩ := VRs.get hargs h1
        refine ⟨x, ?_, hr⟩
        have hlt := (List.getElem?_eq_some_iff.1 hx).1
        rw [Array.getElem?_append_left (by simpa using hlt)]
        simpa using hx
      · rw [T.get_e] at h1; cases h1
    split at h <;> first | (cases h; done) | skip
    rename_i x env' h1 hno hx
    split at h <;> first | (cases h; done) | skip
    rename_i vs hvs
    rw [Bool.and_eq_true] at h
    refine calls_of_wp hf hb (wp_mono (execL_wp (L := loopsOf c) hm (callK_sound hm (fun _ => hk fs ok) n) (fun d hd l hl' hkey => by
      have := hl fs ok d (by rw [hbody]; exact hd) l hl' hkey
      rw [hnt] at this
      exact this) c _ _ _ _ _ (fun _ h => h) hx ρ w _ hE hH) ?_)
    rintro e a1 w1 ⟨rfl, ρ1, hst, hE1⟩
    obtain ⟨y, hy, hrun⟩ := results_sound (fn := fn) hst.hr hE1 hvs
    have hpost : ∀ p ∈ post, (h1.get p.1).isSome = true ∧ ∃ b s, ρ1 p.1 = some (b, s) ∧ TR ρ1 p.2 s w1.heap[b]? := fun p hp => by
      obtain ⟨a, ha, haf⟩ := (fitH_mem h.2).1 p hp
      have hid : ({} : Sub).nAt p.1 = p.1 := rfl
      rw [hid] at ha
      obtain ⟨b, s, hbs, hO⟩ := hst.hr.obj _ _ ha
      exact ⟨by rw [ha]; rfl, b, s, hbs, TR.sub0.1 (TB.fits_ok haf hO)⟩
    cases x with
    | exit id => exact absurd rfl (hno id)
    | normal => exact ⟨hE1.dz, y, hrun, fs, ok, v, post, ρ1, y, h1, hK, rfl, AV.fits_ok h.1 hy, hst, hpost⟩
    | ret => exact ⟨hE1.dz, y, hrun, fs, ok, v, post, ρ1, y, h1, hK, rfl, AV.fits_ok h.1 hy, hst, hpost⟩
  | .bad, _, _, _, hK, _, _ => hK.elim
  | .node q d e, fs, ok, h, hK, hH, hargs => by
    unfold treeC at h
    split at h <;> first | (cases h; done) | skip
    rename_i h1
    cases hq : q.ev σ with
    | true => exact treeC_calls hm hk hl d ((q, true) :: fs) (cons_ok ok hq) h1 (hK.1 hq) (HR.fac hH) (VRs.fac hargs)
    | false => exact treeC_calls hm hk hl e ((q, false) :: fs) (cons_ok ok hq) h (hK.2 hq) (HR.fac hH) (VRs.fac hargs)
/-- a law: it begins without blocks, and answers true -/
theorem law_calls (hm : P.follows .mixedOrders = true) {f : FuncId} {kcs : Kg} {lns : List Ln} (hk : KcAll gs rks ro P σ Ω kcs) (hl : LnAll gs rks ro P f σ Ω lns) {n : Nat} {args : List AV} {d : CT} {fs : List (Cnd × Bool)} (ok : ∀ f ∈ fs, f.1.ev σ = f.2)
    (h : treeC P gs rks kcs lns n f args ⟨[], [], ⟨0, 0, 0, 0⟩⟩ d fs = true) (hr : RunC σ (fun v _ => v = .bool true) d) (w : World) (hg : Tabs gs w) (hro : @Ros (nums gs rks ro σ Ω fs ok) w) {args' : Array Value} (hargs : @VRs (nums gs rks ro σ Ω fs ok) (fun _ => none) args args'.toList) :
    Calls P f args' w fun e w' => e = .returned (.bool true) ∧ Own w [] w' := by
  have hne : ∀ n, ((⟨[], [], ⟨0, 0, 0, 0⟩⟩ : Tm).h.get n) = none := fun n => by
    show (T.e : T AO).get n = none
    exact T.get_e n
  have hH : @HR (nums gs rks ro σ Ω fs ok) (fun _ => none) (⟨[], [], ⟨0, 0, 0, 0⟩⟩ : Tm).h.get (⟨[], [], ⟨0, 0, 0, 0⟩⟩ : Tm).h.next w :=
    @HR.mk (nums gs rks ro σ Ω fs ok) _ _ _ _ (fun _ _ => rfl) (fun n o hn => by rw [hne] at hn; cases hn) (fun n m b s s' hn => by rw [hne] at hn; cases hn) hg (fun b l _ n s hn => by rw [hne] at hn; cases hn) hro (fun b _ n s hn => by rw [hne] at hn; cases hn)
  refine (treeC_calls hm hk hl d fs ok h hr hH hargs).mono ?_
  rintro e w' ⟨fs', ok', v, post, ρ', x, h', rfl, rfl, hv, hst, _⟩
  unfold VR at hv
  subst hv
  refine ⟨rfl, ⟨⟨@Stp.os (nums gs rks ro σ Ω fs' ok') _ _ _ _ _ _ _ _ hst, @Stp.tape (nums gs rks ro σ Ω fs' ok') _ _ _ _ _ _ _ _ hst, @Stp.output (nums gs rks ro σ Ω fs' ok') _ _ _ _ _ _ _ _ hst, @Stp.size (nums gs rks ro σ Ω fs' ok') _ _ _ _ _ _ _ _ hst, fun b hb => @Stp.block (nums gs rks ro σ Ω fs' ok') _ _ _ _ _ _ _ _ hst b hb fun n s hn => by rw [hne] at hn; cases hn⟩, by simp, by simp⟩⟩
/-- known calls by memory -/
def KxAll (gs : List (Nat × List Int)) (rks : List (Nat × CK)) (ro : Nat → Option (Option Addr × Nat × Nat)) (P : Program) (σ : Nat → Int) (Ω : Nat → Nat → Nat → Obj → Prop) (kx : AH → Kg) : Prop := ∀ fs (ok : ∀ f ∈ fs, f.1.ev σ = f.2), ∀ h args, ∀ k ∈ kx h args, @KcOk (nums gs rks ro σ Ω fs ok) P k
theorem treeK_calls (hm : P.follows .mixedOrders = true) {f : FuncId} {kx : AH → Kg} {lns : List Ln} (hk : KxAll gs rks ro P σ Ω kx) (hl : LnAll gs rks ro P f σ Ω lns) {n : Nat} {args : List AV} {t : Tm} {K : AV → List (Nat × TB) → Prop} {ρ : Ren} {w : World} {args' : Array Value} :
    ∀ (d : CT) (fs : List (Cnd × Bool)) (ok : ∀ f ∈ fs, f.1.ev σ = f.2), treeK P gs rks kx lns n f args t d fs = true → RunC σ K d →
    @HR (nums gs rks ro σ Ω fs ok) ρ t.h.get t.h.next w → @VRs (nums gs rks ro σ Ω fs ok) ρ args args'.toList →
    Calls P f args' w fun e w' => ∃ fs' ok' v post ρ' x, ∃ h' : AH, K v post ∧ e = .returned x ∧ @VR (nums gs rks ro σ Ω fs' ok') ρ' v x ∧ @Stp (nums gs rks ro σ Ω fs' ok') ρ t.h.get t.h.next w ρ' h'.get h'.next w' ∧ ∀ p ∈ post, (h'.get p.1).isSome = true ∧ ∃ b s, ρ' p.1 = some (b, s) ∧ @TR (nums gs rks ro σ Ω fs' ok') ρ' p.2 s w'.heap[b]?
  | .is v post, fs, ok, h, hK, hH, hargs => by
    unfold treeK at h
    letI N : Nums := nums gs rks ro σ Ω fs ok
    split at h <;> first | (cases h; done) | skip
    rename_i fn hf
    split at h <;> first | (cases h; done) | skip
    split at h <;> first | (cases h; done) | skip
    rename_i c hb
    split at h <;> first | (cases h; done) | skip
    rename_i hle
    rw [Bool.and_eq_true] at hle
    have hle := Nat.le_of_ble_eq_true hle.1
    have hnt : ntOf P f = fn.ntmps := by unfold ntOf; rw [hf]
    have hbody : bodyOf P f = c := by unfold bodyOf; rw [hf]; dsimp only; rw [hb]
    have hal : args.length = args'.size := by simpa using VRs.len hargs
    have hE : ER ρ (envOf 0 args .e) fn.ntmps { tmps := args' ++ Array.replicate (fn.ntmps - args'.size) undef, defers := [] } := by
      refine ⟨rfl, by simp; omega, fun t v hv => ?_⟩
      rcases envOf_get hv with ⟨_, h1⟩ | h1
      · rw [Nat.sub_zero] at h1
        obtain ⟨x, hx, hr⟩ := VRs.get hargs h1
        refine ⟨x, ?_, hr⟩
        have hlt := (List.getElem?_eq_some_iff.1 hx).1
        rw [Array.getElem?_append_left (by simpa using hlt)]
        simpa using hx
      · rw [T.get_e] at h1; cases h1
    split at h <;> first | (cases h; done) | skip
    rename_i x env' h1 hno hx
    split at h <;> first | (cases h; done) | skip
    rename_i vs hvs
    rw [Bool.and_eq_true] at h
    refine calls_of_wp hf hb (wp_mono (execL_wp (L := loopsOf c) hm (callK_sound hm (hk fs ok) n) (fun d hd l hl' hkey => by
      have := hl fs ok d (by rw [hbody]; exact hd) l hl' hkey
      rw [hnt] at this
      exact this) c _ _ _ _ _ (fun _ h => h) hx ρ w _ hE hH) ?_)
    rintro e a1 w1 ⟨rfl, ρ1, hst, hE1⟩
    obtain ⟨y, hy, hrun⟩ := results_sound (fn := fn) hst.hr hE1 hvs
    have hpost : ∀ p ∈ post, (h1.get p.1).isSome = true ∧ ∃ b s, ρ1 p.1 = some (b, s) ∧ TR ρ1 p.2 s w1.heap[b]? := fun p hp => by
      obtain ⟨a, ha, haf⟩ := (fitH_mem h.2).1 p hp
      have hid : ({} : Sub).nAt p.1 = p.1 := rfl
      rw [hid] at ha
      obtain ⟨b, s, hbs, hO⟩ := hst.hr.obj _ _ ha
      exact ⟨by rw [ha]; rfl, b, s, hbs, TR.sub0.1 (TB.fits_ok haf hO)⟩
    cases x with
    | exit id => exact absurd rfl (hno id)
    | normal => exact ⟨hE1.dz, y, hrun, fs, ok, v, post, ρ1, y, h1, hK, rfl, AV.fits_ok h.1 hy, hst, hpost⟩
    | ret => exact ⟨hE1.dz, y, hrun, fs, ok, v, post, ρ1, y, h1, hK, rfl, AV.fits_ok h.1 hy, hst, hpost⟩
  | .bad, _, _, _, hK, _, _ => hK.elim
  | .node q d e, fs, ok, h, hK, hH, hargs => by
    unfold treeK at h
    split at h <;> first | (cases h; done) | skip
    rename_i h1
    cases hq : q.ev σ with
    | true => exact treeK_calls hm hk hl d ((q, true) :: fs) (cons_ok ok hq) h1 (hK.1 hq) (HR.fac hH) (VRs.fac hargs)
    | false => exact treeK_calls hm hk hl e ((q, false) :: fs) (cons_ok ok hq) h (hK.2 hq) (HR.fac hH) (VRs.fac hargs)
/-- a law: it begins without blocks, and answers true -/
theorem lawK_calls (hm : P.follows .mixedOrders = true) {f : FuncId} {kx : AH → Kg} {lns : List Ln} (hk : KxAll gs rks ro P σ Ω kx) (hl : LnAll gs rks ro P f σ Ω lns) {n : Nat} {args : List AV} {d : CT} {fs : List (Cnd × Bool)} (ok : ∀ f ∈ fs, f.1.ev σ = f.2)
    (h : treeK P gs rks kx lns n f args ⟨[], [], ⟨0, 0, 0, 0⟩⟩ d fs = true) (hr : RunC σ (fun v _ => v = .bool true) d) (w : World) (hg : Tabs gs w) (hro : @Ros (nums gs rks ro σ Ω fs ok) w) {args' : Array Value} (hargs : @VRs (nums gs rks ro σ Ω fs ok) (fun _ => none) args args'.toList) :
    Calls P f args' w fun e w' => e = .returned (.bool true) ∧ Own w [] w' := by
  have hne : ∀ n, ((⟨[], [], ⟨0, 0, 0, 0⟩⟩ : Tm).h.get n) = none := fun n => by
    show (T.e : T AO).get n = none
    exact T.get_e n
  have hH : @HR (nums gs rks ro σ Ω fs ok) (fun _ => none) (⟨[], [], ⟨0, 0, 0, 0⟩⟩ : Tm).h.get (⟨[], [], ⟨0, 0, 0, 0⟩⟩ : Tm).h.next w :=
    @HR.mk (nums gs rks ro σ Ω fs ok) _ _ _ _ (fun _ _ => rfl) (fun n o hn => by rw [hne] at hn; cases hn) (fun n m b s s' hn => by rw [hne] at hn; cases hn) hg (fun b l _ n s hn => by rw [hne] at hn; cases hn) hro (fun b _ n s hn => by rw [hne] at hn; cases hn)
  refine (treeK_calls hm hk hl d fs ok h hr hH hargs).mono ?_
  rintro e w' ⟨fs', ok', v, post, ρ', x, h', rfl, rfl, hv, hst, _⟩
  unfold VR at hv
  subst hv
  refine ⟨rfl, ⟨⟨@Stp.os (nums gs rks ro σ Ω fs' ok') _ _ _ _ _ _ _ _ hst, @Stp.tape (nums gs rks ro σ Ω fs' ok') _ _ _ _ _ _ _ _ hst, @Stp.output (nums gs rks ro σ Ω fs' ok') _ _ _ _ _ _ _ _ hst, @Stp.size (nums gs rks ro σ Ω fs' ok') _ _ _ _ _ _ _ _ hst, fun b hb => @Stp.block (nums gs rks ro σ Ω fs' ok') _ _ _ _ _ _ _ _ hst b hb fun n s hn => by rw [hne] at hn; cases hn⟩, by simp, by simp⟩⟩
end
/-! a reading of numbers out of numbers and lists -/
/-- numbers 'v', lists 'l' -/
def sg (v : Nat → Int) (l : Nat → List (List Int)) (n : Nat) : Int :=
  if n < 2048 then v n else if n < 4096 then ((l (n - 2048)).length : Int) else (((l ((n - 4096) % 64))[(n - 4096) / 64 / 64]?).getD [])[(n - 4096) / 64 % 64]?.getD 0
theorem sg_v {v : Nat → Int} {l : Nat → List (List Int)} {i : Nat} (h : i < 2048) : sg v l i = v i := by simp [sg, h]
theorem sg_ln {v : Nat → Int} {l : Nat → List (List Int)} {i : Nat} (h : i < 64) : sg v l (ln i) = ((l i).length : Int) := by
  unfold sg ln
  rw [if_neg (by omega), if_pos (by omega), Nat.add_sub_cancel_left]
theorem sg_lc {v : Nat → Int} {l : Nat → List (List Int)} {i e j : Nat} (hi : i < 64) (hj : j < 64) : sg v l (lc i e j) = (((l i)[e]?).getD [])[j]?.getD 0 := by
  unfold sg lc
  rw [if_neg (by omega), if_neg (by omega), Nat.add_sub_cancel_left]
  have h1 : ((e * 64 + j) * 64 + i) % 64 = i := by omega
  have h2 : ((e * 64 + j) * 64 + i) / 64 = e * 64 + j := by omega
  have h3 : (e * 64 + j) / 64 = e := by omega
  have h4 : (e * 64 + j) % 64 = j := by omega
  rw [h1, h2, h3, h4]
end Go.Proofs.YthjjpmoifgcepaaGreat.Ex

/-
  The runner: a function's text, run question by question, as a known call of another one. No condition.
-/
namespace Go.Proofs.YthjjpmoifgcepaaGreat.Ex
open Go
mutual
theorem AV.sub_e : ∀ v : AV, v.sub {} = v
  | .sym k e => by unfold AV.sub; rw [show e.sub {} = e from SE.sub_n [] e]
  | .bsym c p => by unfold AV.sub; rw [show c.sub {} = c from Cnd.sub_n [] c]
  | .ptr n off => by unfold AV.sub; rfl
  | .eptr n e s j => by unfold AV.sub; rw [show e.sub {} = e from SE.sub_n [] e]; rfl
  | .dsl n e s => by unfold AV.sub; rw [show e.sub {} = e from SE.sub_n [] e]; rfl
  | .ssl n e l s => by unfold AV.sub; rw [show e.sub {} = e from SE.sub_n [] e]; rfl
  | .rptr i e => by unfold AV.sub; rw [show e.sub {} = e from SE.sub_n [] e]
  | .sl n off len sz r => by unfold AV.sub; rfl
  | .map n => by unfold AV.sub; rfl
  | .fn f a b => by unfold AV.sub; rw [AV.subs_e a, AV.subs_e b]
  | .ifc t v => by unfold AV.sub; rw [AV.sub_e v]
  | .agg l => by unfold AV.sub; rw [AV.subs_e l]
  | .tup l => by unfold AV.sub; rw [AV.subs_e l]
  | .bool _ => by unfold AV.sub; rfl
  | .int _ _ => by unfold AV.sub; rfl
  | .str _ => by unfold AV.sub; rfl
  | .nilp => by unfold AV.sub; rfl
  | .gptr _ _ => by unfold AV.sub; rfl
  | .nilsl => by unfold AV.sub; rfl
  | .esl _ => by unfold AV.sub; rfl
  | .zsl => by unfold AV.sub; rfl
  | .osl e => by unfold AV.sub; rw [show e.sub {} = e from SE.sub_n [] e]
  | .rsl i => by unfold AV.sub; rfl
  | .nilmap => by unfold AV.sub; rfl
  | .nilfn => by unfold AV.sub; rfl
  | .nilif => by unfold AV.sub; rfl
theorem AV.subs_e : ∀ l : List AV, AV.subs {} l = l
  | [] => by unfold AV.subs; rfl
  | v :: l => by unfold AV.subs; rw [AV.sub_e v, AV.subs_e l]
end
theorem TB.sub_e (t : TB) : t.sub {} = t := by
  cases t with
  | cells l e => show TB.cells (AV.subs {} l) e = _; rw [AV.subs_e]
  | recs l ks e => show TB.recs (l.sub {}) ks e = _; rw [show l.sub {} = l from SE.sub_n [] l]
  | opb i n m => rfl
def subH (θ : Sub) (pre : List (Nat × TB)) : List (Nat × TB) := pre.map fun p => (p.1, p.2.sub θ)
theorem notIn_subH {θ : Sub} (hn : θ.n = []) {n : Nat} : ∀ {pre : List (Nat × TB)}, notIn {} n (subH θ pre) = true → notIn θ n pre = true
  | [], _ => rfl
  | (m, t) :: l, h => by
    have e1 : θ.nAt m = m := by unfold Sub.nAt; rw [hn]; rfl
    unfold subH at h
    rw [List.map_cons] at h
    unfold notIn at h ⊢
    rw [e1]
    have e2 : ({} : Sub).nAt m = m := rfl
    dsimp only at h
    rw [e2] at h
    split at h
    · cases h
    · exact notIn_subH hn h
theorem fitH_subH [Fc] {θ : Sub} (hn : θ.n = []) {h : AH} : ∀ {pre : List (Nat × TB)}, fitH {} h (subH θ pre) = true → fitH θ h pre = true
  | [], _ => rfl
  | (m, t) :: l, hf => by
    have e1 : θ.nAt m = m := by unfold Sub.nAt; rw [hn]; rfl
    unfold subH at hf
    rw [List.map_cons] at hf
    unfold fitH at hf ⊢
    rw [e1]
    have e2 : ({} : Sub).nAt m = m := rfl
    dsimp only at hf
    rw [e2] at hf
    split at hf
    · rename_i a ha
      rw [TB.sub_e] at hf
      rw [Bool.and_eq_true, Bool.and_eq_true] at hf ⊢
      exact ⟨hf.1, notIn_subH hn hf.2.1, fitH_subH hn hf.2.2⟩
    · cases hf
/-- new blocks, where they came to be -/
def newsAt (θ : Sub) : Nat → List TB → List (Nat × TB)
  | _, [] => []
  | i, t :: l => (θ.nAt (Nat.add rel i), t.sub θ) :: newsAt θ (Nat.add i 1) l
def leafPost (k : Kc) (θ : Sub) : List (Nat × TB) := subH θ k.post ++ newsAt θ 0 k.news
/-- an end of a text that is a known call -/
def Kc.leaf (k : Kc) (θ : Sub) : CT := .is (k.res.sub θ) (leafPost k θ)
theorem newsAt_mem {θ : Sub} : ∀ {l : List TB} {i j : Nat} {t : TB}, l[j]? = some t → (θ.nAt (rel + (i + j)), t.sub θ) ∈ newsAt θ i l
  | [], _, _, _, h => by simp at h
  | x :: l, i, 0, t, h => by
    simp only [List.getElem?_cons_zero, Option.some.injEq] at h
    subst h
    exact List.mem_cons_self
  | x :: l, i, j + 1, t, h => by
    have := newsAt_mem (θ := θ) (i := i + 1) (j := j) (t := t) (l := l) (by simpa using h)
    rw [show i + 1 + j = i + (j + 1) from by omega] at this
    exact List.mem_cons_of_mem _ this
def noOpb : TB → Bool
  | .opb _ _ _ => false
  | _ => true
def keptN (θ : Sub) : List (Nat × TB) → Bool
  | [] => true
  | (n, _) :: l => Nat.beq (θ.nAt n) n && keptN θ l
/-- the new names are other ones, and new -/
def newN (θ : Sub) (kn : Nat) : Nat → Nat → Bool
  | _, 0 => true
  | i, n + 1 => Nat.ble kn (θ.nAt (rel + i)) && ((List.range i).all (fun j => !(Nat.beq (θ.nAt (rel + j)) (θ.nAt (rel + i)))) && newN θ kn (i + 1) n)
def okR (pre : List (Nat × TB)) (m : Nat) (n : Nat) : Bool := hasN n pre || (Nat.ble rel n && Nat.blt n (rel + m))
/-- an end is as it must be -/
def leafOk (k : Kc) (pre : List (Nat × TB)) (kn : Nat) (θ : Sub) (B : Bd) : Bool :=
  (keptN θ pre && newN θ kn 0 k.news.length) && ((AV.bd B k.res && (bdH B k.post && k.news.all (TB.bd B))) && Nat.ble (rel + k.news.length) B.kn)
def kcForm (k : Kc) (pre : List (Nat × TB)) (B0 : Bd) (A : List AV) : Bool :=
  ((AV.bds B0 A && bdH B0 pre) && Nat.ble B0.kn rel) && ((AV.nm (okR pre k.news.length) k.res && nmH (okR pre k.news.length) k.post) && k.news.all fun t => TB.nm (okR pre k.news.length) t && noOpb t)
theorem keptN_mem {θ : Sub} : ∀ {l : List (Nat × TB)}, keptN θ l = true → ∀ p ∈ l, θ.nAt p.1 = p.1
  | [], _, p, hp => by cases hp
  | (n, t) :: l, h, p, hp => by
    unfold keptN at h
    rw [Bool.and_eq_true] at h
    rcases List.mem_cons.1 hp with rfl | hp
    · exact Nat.eq_of_beq_eq_true h.1
    · exact keptN_mem h.2 p hp
theorem newN_ok {θ : Sub} {kn : Nat} : ∀ {n i : Nat}, newN θ kn i n = true → ∀ j, i ≤ j → j < i + n → kn ≤ θ.nAt (rel + j) ∧ ∀ a, a < j → θ.nAt (rel + a) ≠ θ.nAt (rel + j)
  | 0, i, _, j, h1, h2 => by omega
  | n + 1, i, h, j, h1, h2 => by
    unfold newN at h
    rw [Bool.and_eq_true, Bool.and_eq_true] at h
    rcases Nat.lt_or_ge i j with hlt | hge
    · exact newN_ok h.2.2 j (by omega) (by omega)
    · have : j = i := by omega
      subst this
      refine ⟨Nat.le_of_ble_eq_true h.1, fun a ha he => ?_⟩
      have := List.all_eq_true.1 h.2.1 a (List.mem_range.2 ha)
      rw [he] at this
      simp at this
theorem TR.names {N : Nums} {ρ ρ' : Ren} {p : Nat → Bool} (hp : ∀ n, p n = true → ρ' n = ρ n) {t : TB} {s : Nat} {x : Option Obj} (hn : TB.nm p t = true) (h : @TR N ρ t s x) : @TR N ρ' t s x := by
  cases t with
  | cells l e =>
    obtain ⟨cur, h1, h2, h3, h4⟩ := h
    exact ⟨cur, h1, h2, h3, fun i v hv => by
      obtain ⟨h5, y, h6, h7⟩ := h4 i v hv
      exact ⟨h5, y, h6, VR.names hp (nms_get hn hv) h7⟩⟩
  | recs l ks e => exact h
  | opb i n m =>
    unfold TB.nm at hn
    rw [Bool.and_eq_true] at hn
    obtain ⟨b0, z0, b1, z1, o, h0, h1, h2, h3⟩ := h
    exact ⟨b0, z0, b1, z1, o, by rw [hp _ hn.1]; exact h0, by rw [hp _ hn.2]; exact h1, h2, h3⟩
theorem TR.size {N : Nums} {ρ : Ren} {t : TB} {s : Nat} {o : Obj} (h : @TR N ρ t s (some o)) (hn : noOpb t = true) : s = objSize o := by
  cases t with
  | cells l e => obtain ⟨cur, h1, h2, _⟩ := h; cases h1; exact h2.symm
  | recs l ks e => obtain ⟨cur, h1, h2, _⟩ := h; cases h1; exact h2.symm
  | opb i n m => cases hn
section
variable {P : Program} {gs : List (Nat × List Int)} {rks : List (Nat × CK)} {ro : Nat → Option (Option Addr × Nat × Nat)} {σ1 σ2 : Nat → Int} {Ω1 Ω2 : Nat → Nat → Nat → Obj → Prop}
set_option maxHeartbeats 1000000 in
/-- A FUNCTION'S TEXT, AS A KNOWN CALL: read by numbers of its own -/
theorem kc_tree (hm : P.follows .mixedOrders = true) {k : Kc} {A : List AV} {pre : List (Nat × TB)} {B0 : Bd} {θ0 : Sub} {kcs : Kg} {lns : List Ln} {n : Nat} {d : CT} {fs1 : List (Cnd × Bool)}
    (hf : FnOk P k.f) (hpre : k.pre = subH θ0 pre) (hargs : k.args = AV.subs θ0 A) (hθ : θ0.n = []) (hpost : k.post.map (·.1) = pre.map (·.1)) (hform : kcForm k pre B0 A = true)
    (hk : KcAll gs rks ro P σ1 Ω1 kcs) (hl : LnAll gs rks ro P k.f σ1 Ω1 lns) (ok1 : ∀ f ∈ fs1, f.1.ev σ1 = f.2) (h : treeC P gs rks kcs lns n k.f A ⟨[], pre, B0⟩ d fs1 = true)
    (ag0 : AgreeD θ0 B0 ro σ2 Ω2 σ1 Ω1) (hr : RunC σ1 (fun v post => ∃ θ B, v = k.res.sub θ ∧ post = leafPost k θ ∧ leafOk k pre B0.kn θ B = true ∧ AgreeD θ B ro σ1 Ω1 σ2 Ω2) d)
    (fs : List (Cnd × Bool)) (ok : ∀ f ∈ fs, f.1.ev σ2 = f.2) : @KcOk (nums gs rks ro σ2 Ω2 fs ok) P k := by
  letI N2 : Nums := nums gs rks ro σ2 Ω2 fs ok
  unfold kcForm at hform
  simp only [Bool.and_eq_true] at hform
  obtain ⟨⟨⟨hbA, hbH⟩, hkn⟩, ⟨hnr, hnp⟩, hnn⟩ := hform
  have hkn := Nat.le_of_ble_eq_true hkn
  have hpreN : ∀ p ∈ pre, p.1 < B0.kn := fun p hp => (bdH_mem hbH p hp).1
  have hn0 : ∀ i, θ0.nAt i = i := fun i => by unfold Sub.nAt; rw [hθ]; rfl
  have postN : ∀ p ∈ k.post, ∃ t, (p.1, t) ∈ pre := fun p hp => by
    have : p.1 ∈ pre.map (·.1) := by rw [← hpost]; exact List.mem_map.2 ⟨p, hp, rfl⟩
    obtain ⟨q, hq, he⟩ := List.mem_map.1 this
    exact ⟨q.2, by rw [← he]; exact hq⟩
  have preN : ∀ p ∈ pre, ∃ t, (p.1, t) ∈ k.post := fun p hp => by
    have : p.1 ∈ k.post.map (·.1) := by rw [hpost]; exact List.mem_map.2 ⟨p, hp, rfl⟩
    obtain ⟨q, hq, he⟩ := List.mem_map.1 this
    exact ⟨q.2, by rw [← he]; exact hq⟩
  refine kc_ownH hf (fun p hp => ?_) (fun p hp => ?_) fun _ ρ W w m args' bs hh hH hfit hF ha hO => ?_
  · obtain ⟨t, ht⟩ := postN p hp
    exact ⟨t.sub θ0, by rw [hpre]; exact List.mem_map.2 ⟨_, ht, rfl⟩⟩
  · rw [hpre] at hp
    obtain ⟨q, hq, rfl⟩ := List.mem_map.1 hp
    exact Nat.lt_of_lt_of_le (hpreN q hq) hkn
  -- the state, read anew
  have ag := AgreeD.agree gs rks ro ag0 ok ok1
  have hfits : @Tm.fits N2.toFc ⟨[], pre, B0⟩ θ0 .e hh = true := by
    unfold Tm.fits Tm.ok
    simp only [Bool.and_eq_true]
    refine ⟨⟨rfl, hbH, Nat.ble_eq_true_of_le (Nat.le_trans hkn (by unfold rel; omega))⟩, rfl, ?_⟩
    rw [hpre] at hfit
    exact @fitH_subH N2.toFc _ hθ _ _ hfit
  obtain ⟨-, hH1, hdom⟩ := Tm.re (nt := 0) (a := { tmps := #[], defers := [] }) hfits ag (@ER.mk N2 ρ .e 0 _ rfl rfl fun t v hv => by rw [T.get_e] at hv; cases hv) hH
  have hA1 : @VRs (nums gs rks ro σ1 Ω1 fs1 ok1) (reN ⟨[], pre, B0⟩ θ0 ρ) A args'.toList := by
    rw [hargs] at ha
    exact VRs.sub ag (fun n hn => by simp [reN, hn]) hbA ha
  refine (treeC_calls hm hk hl d fs1 ok1 h hr hH1 hA1).mono ?_
  rintro e w' ⟨fs', ok', v, post, ρ', x, h', ⟨θ, B, rfl, rfl, hlo, agx⟩, rfl, hv, hst, hp⟩
  have ag' := AgreeD.agree gs rks ro agx ok' ok
  unfold leafOk at hlo
  simp only [Bool.and_eq_true] at hlo
  obtain ⟨⟨hkept, hnew⟩, ⟨hbr, hbp, hbn⟩, hBk⟩ := hlo
  have hkept := keptN_mem hkept
  have hnew := newN_ok hnew
  have hBk := Nat.le_of_ble_eq_true hBk
  have shr := @Stp.hr (nums gs rks ro σ1 Ω1 fs' ok') _ _ _ _ _ _ _ _ hst
  have sext := @Stp.ext (nums gs rks ro σ1 Ω1 fs' ok') _ _ _ _ _ _ _ _ hst
  have sblock := @Stp.block (nums gs rks ro σ1 Ω1 fs' ok') _ _ _ _ _ _ _ _ hst
  have slive := @Stp.live (nums gs rks ro σ1 Ω1 fs' ok') _ _ _ _ _ _ _ _ hst
  have sinj := @HR.inj (nums gs rks ro σ1 Ω1 fs' ok') _ _ _ _ shr
  have hnext : (⟨[], pre, B0⟩ : Tm).h.next = B0.kn := rfl
  rw [hnext] at sext
  -- a block that the text found
  have hold : ∀ q, (∃ t, (q, t) ∈ pre) → (h'.get q).isSome = true ∧ ρ' q = ρ q := by
    rintro q ⟨t, ht⟩
    obtain ⟨t', ht'⟩ := preN _ ht
    have := (hp (q, t'.sub θ) (List.mem_append_left _ (List.mem_map.2 ⟨_, ht', rfl⟩))).1
    refine ⟨this, ?_⟩
    have hlt := hpreN _ ht
    rw [sext q hlt]
    show reN ⟨[], pre, B0⟩ θ0 ρ q = _
    unfold reN
    rw [if_pos hlt, hn0]
  have hpostT : ∀ p ∈ k.post, ∃ b s o, ρ p.1 = some (b, s) ∧ w'.heap[b]? = some o ∧ @TR (nums gs rks ro σ1 Ω1 fs' ok') ρ' (p.2.sub θ) s (some o) := by
    intro p hpm
    obtain ⟨_, b, s, h2, h3⟩ := hp (p.1, p.2.sub θ) (List.mem_append_left _ (List.mem_map.2 ⟨_, hpm, rfl⟩))
    rw [(hold p.1 (postN p hpm)).2] at h2
    cases hx : w'.heap[b]? with
    | none =>
      rw [hx] at h3
      exact (@OR.notNone (nums gs rks ro σ1 Ω1 fs' ok') _ _ _ (@TR.or (nums gs rks ro σ1 Ω1 fs' ok') _ _ _ _ h3)).elim
    | some o =>
      rw [hx] at h3
      exact ⟨b, s, o, h2, hx, h3⟩
  -- new blocks
  let dsOf : Nat → Nat × Obj := fun i => (((ρ' (θ.nAt (rel + i))).getD (0, 0)).1, (w'.heap[((ρ' (θ.nAt (rel + i))).getD (0, 0)).1]?).getD (.map #[] 0))
  have hd : ∀ i t, k.news[i]? = some t → ∃ s, ρ' (θ.nAt (rel + i)) = some ((dsOf i).1, s) ∧ w'.heap[(dsOf i).1]? = some (dsOf i).2 ∧ @TR (nums gs rks ro σ1 Ω1 fs' ok') ρ' (t.sub θ) s (some (dsOf i).2) ∧ w.heap.size ≤ (dsOf i).1 := by
    intro i t hi
    have hmem := newsAt_mem (θ := θ) (i := 0) hi
    rw [Nat.zero_add] at hmem
    have hil := (List.getElem?_eq_some_iff.1 hi).1
    obtain ⟨h1, b, s, h2, h3⟩ := hp _ (List.mem_append_right _ hmem)
    dsimp only at h1 h2 h3
    have hb : (dsOf i).1 = b := by simp only [dsOf, h2, Option.getD_some]
    cases hx : w'.heap[b]? with
    | none =>
      rw [hx] at h3
      exact (@OR.notNone (nums gs rks ro σ1 Ω1 fs' ok') _ _ _ (@TR.or (nums gs rks ro σ1 Ω1 fs' ok') _ _ _ _ h3)).elim
    | some o =>
      have ho : (dsOf i).2 = o := by simp only [dsOf, h2, Option.getD_some, hx]
      rw [hx] at h3
      rw [hb, ho]
      refine ⟨s, h2, hx, h3, ?_⟩
      rcases slive _ b s h1 h2 with hge | ⟨q, s', hq, hqs⟩
      · exact hge
      · exfalso
        obtain ⟨hqk, _⟩ := hdom q hq
        obtain ⟨t', ht'⟩ := heapT_some (l := pre) hq
        obtain ⟨o1, o2⟩ := hold q ⟨t', ht'⟩
        have hqs' : ρ' q = some (b, s') := by rw [sext q hqk]; exact hqs
        have := sinj _ _ b s s' h1 o1 h2 hqs'
        have h9 : B0.kn ≤ θ.nAt (rel + i) := (hnew i (Nat.zero_le _) (by omega)).1
        have hqk : q < B0.kn := hqk
        omega
  have hdi : ∀ i j, i < j → j < k.news.length → (dsOf i).1 ≠ (dsOf j).1 := by
    intro i j hij hj he
    obtain ⟨s, h1, _⟩ := hd i _ (List.getElem?_eq_getElem (Nat.lt_trans hij hj))
    obtain ⟨s', h2, _⟩ := hd j _ (List.getElem?_eq_getElem hj)
    have m1 := newsAt_mem (θ := θ) (i := 0) (List.getElem?_eq_getElem (Nat.lt_trans hij hj))
    have m2 := newsAt_mem (θ := θ) (i := 0) (List.getElem?_eq_getElem hj)
    rw [Nat.zero_add] at m1 m2
    rw [he] at h1
    exact (hnew j (Nat.zero_le _) (by omega)).2 i hij (sinj _ _ _ s s' (hp _ (List.mem_append_right _ m1)).1 (hp _ (List.mem_append_right _ m2)).1 h1 h2)
  have hdl : ∀ (i : Nat) d, ((List.range k.news.length).map dsOf)[i]? = some d → i < k.news.length ∧ d = dsOf i := by
    intro i d hi
    have hlt := (List.getElem?_eq_some_iff.1 hi).1
    rw [List.length_map, List.length_range] at hlt
    rw [List.getElem?_map, List.getElem?_range hlt] at hi
    exact ⟨hlt, (Option.some.inj hi).symm⟩
  have hback : ∀ q ∈ bs, ∃ o, w'.heap[q.1]? = some o := by
    intro q hq
    obtain ⟨p, hp1, s, hp2⟩ := FitB.back hF q hq
    rw [hpre] at hp1
    obtain ⟨p0, hp0, rfl⟩ := List.mem_map.1 hp1
    obtain ⟨t', ht'⟩ := preN _ hp0
    obtain ⟨b, s', o, h1, h2, _⟩ := hpostT _ ht'
    rw [show ρ p0.1 = some (q.1, s) from hp2] at h1
    cases h1
    exact ⟨o, h2⟩
  have hbl : ∀ q ∈ bs ++ m, q.1 < w.heap.size := fun q hq => heap_lt (hO.at_ q hq).2
  have hmk : ∀ b, b < w.heap.size → (∀ o, (b, o) ∉ bs) → w'.heap[b]? = w.heap[b]? := by
    intro b hb hno
    refine sblock b hb fun q s hq hqs => ?_
    obtain ⟨hqk, _⟩ := hdom q hq
    obtain ⟨t', ht'⟩ := heapT_some (l := pre) hq
    obtain ⟨b', o', s', h1, h2, _⟩ := FitB.mem hF (q, t'.sub θ0) (by rw [hpre]; exact List.mem_map.2 ⟨_, ht', rfl⟩)
    have hq1 : reN ⟨[], pre, B0⟩ θ0 ρ q = ρ q := by
      unfold reN
      rw [if_pos hqk, hn0]
    rw [hq1, show ρ q = some (b', s') from h2] at hqs
    cases hqs
    exact hno _ h1
  refine ⟨x, (List.range k.news.length).map dsOf, bs.map fun q => (q.1, (w'.heap[q.1]?).getD q.2), rfl, ⟨⟨?_, ?_, ?_, ?_, fun b hb => ?_⟩, fun p hpm => ?_, ?_⟩, ?_, by simp, fun ρ'' hk1 hk2 => ?_⟩
  · exact (@Stp.os (nums gs rks ro σ1 Ω1 fs' ok') _ _ _ _ _ _ _ _ hst).trans hO.below.os
  · exact (@Stp.tape (nums gs rks ro σ1 Ω1 fs' ok') _ _ _ _ _ _ _ _ hst).trans hO.below.tape
  · exact (@Stp.output (nums gs rks ro σ1 Ω1 fs' ok') _ _ _ _ _ _ _ _ hst).trans hO.below.output
  · exact Nat.le_trans hO.below.size (@Stp.size (nums gs rks ro σ1 Ω1 fs' ok') _ _ _ _ _ _ _ _ hst)
  · rw [hmk b (Nat.lt_of_lt_of_le hb hO.below.size) fun o ho => ?_]
    · exact hO.below.block b hb
    · have := hO.ge (List.mem_append_left _ ho)
      omega
  · rcases List.mem_append.1 hpm with hpm | hpm
    · obtain ⟨i, hi, rfl⟩ := List.mem_map.1 hpm
      have hi := List.mem_range.1 hi
      obtain ⟨s, _, h2, _, h4⟩ := hd i _ (List.getElem?_eq_getElem hi)
      exact ⟨Nat.le_trans hO.below.size h4, h2⟩
    · rcases List.mem_append.1 hpm with hpm | hpm
      · obtain ⟨q, hq, rfl⟩ := List.mem_map.1 hpm
        obtain ⟨o, ho⟩ := hback q hq
        refine ⟨(hO.at_ q (List.mem_append_left _ hq)).1, ?_⟩
        dsimp only
        rw [ho]
        rfl
      · have := hO.at_ p (List.mem_append_right _ hpm)
        refine ⟨this.1, ?_⟩
        rw [hmk p.1 (hbl p (List.mem_append_right _ hpm)) fun o ho => ?_]
        · exact this.2
        · have hnd := hO.nd
          rw [List.map_append, List.nodup_append] at hnd
          exact hnd.2.2 _ (List.mem_map.2 ⟨_, ho, rfl⟩) _ (List.mem_map.2 ⟨_, hpm, rfl⟩) rfl
  · have e1 : (bs.map fun q => (q.1, (w'.heap[q.1]?).getD q.2)).map (·.1) = bs.map (·.1) := by simp [List.map_map, Function.comp_def]
    have hnd := hO.nd
    rw [List.map_append] at hnd
    rw [List.map_append, List.map_append, e1, List.nodup_append]
    refine ⟨?_, hnd, fun a ha b hb he => ?_⟩
    · rw [List.map_map]
      refine List.pairwise_map.2 (List.Pairwise.imp_of_mem ?_ List.pairwise_lt_range)
      intro i j _ hj hij
      exact hdi i j hij (List.mem_range.1 hj)
    · obtain ⟨d0, hd0, rfl⟩ := List.mem_map.1 ha
      obtain ⟨i, hi, rfl⟩ := List.mem_map.1 hd0
      obtain ⟨s, _, _, _, h4⟩ := hd i _ (List.getElem?_eq_getElem (List.mem_range.1 hi))
      rw [← List.map_append] at hb
      obtain ⟨q, hq, rfl⟩ := List.mem_map.1 hb
      have := hbl q hq
      rw [← he] at this
      omega
  · simp [List.map_map, Function.comp_def]
  · -- what is read by the other numbers
    let ρm : Ren := fun q => if q < B.kn then ρ' (θ.nAt q) else none
    have hm1 : ∀ q, q < B.kn → ρm q = ρ' (θ.nAt q) := fun q hq => by simp [ρm, hq]
    have hpN : ∀ q, okR pre k.news.length q = true → ρ'' q = ρm q := by
      intro q hq
      unfold okR at hq
      rw [Bool.or_eq_true] at hq
      rcases hq with hq | hq
      · obtain ⟨t', ht'⟩ := hasN_mem hq
        have hlt := hpreN _ ht'
        obtain ⟨b, o, s, _, h2, _⟩ := FitB.mem hF (q, t'.sub θ0) (by rw [hpre]; exact List.mem_map.2 ⟨_, ht', rfl⟩)
        rw [hm1 q (by dsimp only at hlt; omega), hkept _ ht', (hold q ⟨t', ht'⟩).2, h2]
        exact hk1 q _ (by dsimp only at hlt; omega) h2
      · rw [Bool.and_eq_true] at hq
        have h1 := Nat.le_of_ble_eq_true hq.1
        have h2 : q < rel + k.news.length := by simpa using hq.2
        obtain ⟨i, rfl⟩ : ∃ i, q = rel + i := ⟨q - rel, by omega⟩
        have hi : i < k.news.length := by omega
        obtain ⟨s, h3, h4, h5, _⟩ := hd i _ (List.getElem?_eq_getElem hi)
        have h6 := hk2 i (dsOf i) (by rw [List.getElem?_map, List.getElem?_range hi]; rfl)
        rw [hm1 _ (by omega), h3, h6]
        have h7 := List.all_eq_true.1 hnn _ (List.getElem_mem hi)
        rw [Bool.and_eq_true] at h7
        have h8 : noOpb (k.news[i].sub θ) = true := by
          have := h7.2
          cases hc : k.news[i] <;> rw [hc] at this <;> first | rfl | cases this
        rw [TR.size h5 h8]
    refine ⟨VR.names hpN hnr (VR.sub ag' hm1 hbr hv), fun i t d hi hdi' => ?_, fun p hpm => ?_⟩
    · obtain ⟨hil, rfl⟩ := hdl i d hdi'
      obtain ⟨s, h3, h4, h5, _⟩ := hd i t hi
      have hmem := List.mem_of_getElem? hi
      have h7 := List.all_eq_true.1 hnn _ hmem
      rw [Bool.and_eq_true] at h7
      have h9 := TR.names hpN h7.1 (TR.sub ag' hm1 (List.all_eq_true.1 hbn _ hmem) h5)
      rw [TR.size h9 h7.2] at h9
      exact h9
    · obtain ⟨b, s, o, h1, h2, h3⟩ := hpostT p hpm
      obtain ⟨t', ht'⟩ := postN p hpm
      obtain ⟨b', o', s', h4, h5, _⟩ := FitB.mem hF (p.1, t'.sub θ0) (by rw [hpre]; exact List.mem_map.2 ⟨_, ht', rfl⟩)
      rw [show ρ p.1 = some (b', s') from h5] at h1
      obtain ⟨rfl, rfl⟩ : b' = b ∧ s' = s := by simpa using h1
      refine ⟨b', o, s', List.mem_map.2 ⟨_, h4, by simp [h2]⟩, h5, ?_⟩
      exact TR.names hpN (nmH_mem hnp p hpm) (TR.sub ag' hm1 (bdH_mem hbp p hpm).2 h3)
end
end Go.Proofs.YthjjpmoifgcepaaGreat.Ex

/-
  Tables of pages, in plain Lean: the blocks that frame.blocks hands on, and when a table may be.
-/
namespace Go.Proofs.YthjjpmoifgcepaaGreat
open Go.RowKit

/-- a page: kind, order, cache -/
abbrev Pg := Int × Int × Int
def pgIn : Pg := (1, 0, 0)
def pgSize (p : Pg) : Nat := 2 ^ p.2.1.toNat
def pgHead (p : Pg) : Bool := decide (0 ≤ p.2.1 ∧ p.2.1 ≤ 10 ∧ (p.1 = 0 ∧ p.2.2 = 0 ∨ p.1 = 2 ∧ 0 ≤ p.2.2 ∧ p.2.2 ≤ 8))
theorem pgSize_pos (p : Pg) : 1 ≤ pgSize p := Nat.one_le_two_pow
/-- may a block begin here? -/
def pgOk (L : List Pg) (i : Nat) (p : Pg) : Bool := pgHead p && decide (i % pgSize p = 0) && decide (i + pgSize p ≤ L.length) && ((L.drop (i + 1)).take (pgSize p - 1)).all (· == pgIn)

def pgYields (L : List Pg) : Nat → Nat → List (Int × Pg)
  | 0, _ => []
  | f + 1, i => match L[i]? with
    | none => []
    | some p => if pgOk L i p then ((i : Int), p) :: pgYields L f (i + pgSize p) else [(-1, p)]
theorem pgYields_past (L : List Pg) : ∀ (f i : Nat), L.length ≤ i → pgYields L f i = []
  | 0, _, _ => rfl
  | f + 1, i, h => by
    unfold pgYields
    rw [List.getElem?_eq_none h]
theorem pgYields_fuel (L : List Pg) : ∀ (f g i : Nat), L.length ≤ i + f → L.length ≤ i + g → pgYields L f i = pgYields L g i
  | 0, g, i, h, _ => by rw [pgYields_past L g i (by omega)]; rfl
  | f + 1, 0, i, _, h => by rw [pgYields_past L (f + 1) i (by omega)]; rfl
  | f + 1, g + 1, i, h1, h2 => by
    unfold pgYields
    cases L[i]? with
    | none => rfl
    | some p =>
      have := pgSize_pos p
      simp only
      rw [pgYields_fuel L f g (i + pgSize p) (by omega) (by omega)]
/-- what the blocks are from a place on -/
def pgFrom (L : List Pg) (i : Nat) : List (Int × Pg) := pgYields L (L.length - i) i
theorem pgFrom_end {L : List Pg} {i : Nat} (h : L.length ≤ i) : pgFrom L i = [] := pgYields_past L _ i h
theorem pgFrom_ok {L : List Pg} {i : Nat} {p : Pg} (h : L[i]? = some p) (ho : pgOk L i p = true) : pgFrom L i = ((i : Int), p) :: pgFrom L (i + pgSize p) := by
  have hi := (List.getElem?_eq_some_iff.1 h).1
  have := pgSize_pos p
  unfold pgFrom
  obtain ⟨k, hk⟩ : ∃ k, L.length - i = k + 1 := ⟨L.length - i - 1, by omega⟩
  rw [hk]
  show (match L[i]? with | none => [] | some p => if pgOk L i p then ((i : Int), p) :: pgYields L k (i + pgSize p) else [(-1, p)]) = _
  rw [h]
  simp only [ho, if_true]
  rw [pgYields_fuel L k (L.length - (i + pgSize p)) _ (by omega) (by omega)]
theorem pgFrom_no {L : List Pg} {i : Nat} {p : Pg} (h : L[i]? = some p) (ho : pgOk L i p = false) : pgFrom L i = [(-1, p)] := by
  have hi := (List.getElem?_eq_some_iff.1 h).1
  unfold pgFrom
  obtain ⟨k, hk⟩ : ∃ k, L.length - i = k + 1 := ⟨L.length - i - 1, by omega⟩
  rw [hk]
  show (match L[i]? with | none => [] | some p => if pgOk L i p then ((i : Int), p) :: pgYields L k (i + pgSize p) else [(-1, p)]) = _
  rw [h]
  simp [ho]

/-- a row of blocks from a place on: each may be a head, and lies at a multiple of its size -/
def Row : Nat → List Pg → Prop
  | _, [] => True
  | i, p :: bs => pgHead p = true ∧ i % pgSize p = 0 ∧ Row (i + pgSize p) bs
/-- .. laid as pages -/
def lay : List Pg → List Pg
  | [] => []
  | p :: bs => p :: List.replicate (pgSize p - 1) pgIn ++ lay bs
/-- .. with their places -/
def places : Nat → List Pg → List (Int × Pg)
  | _, [] => []
  | i, p :: bs => ((i : Int), p) :: places (i + pgSize p) bs
theorem lay_cons_len (p : Pg) (bs : List Pg) : (lay (p :: bs)).length = pgSize p + (lay bs).length := by
  have := pgSize_pos p
  simp [lay]
  omega
/-- a table of blocks hands on its blocks -/
theorem row_from : ∀ (bs : List Pg) (A : List Pg), Row A.length bs → pgFrom (A ++ lay bs) A.length = places A.length bs
  | [], A, _ => by rw [pgFrom_end (by simp [lay])]; rfl
  | p :: bs, A, h => by
    have h1 := pgSize_pos p
    have hl := lay_cons_len p bs
    have hp : (A ++ lay (p :: bs))[A.length]? = some p := by simp [lay]
    have hok : pgOk (A ++ lay (p :: bs)) A.length p = true := by
      have hd : (A ++ lay (p :: bs)).drop (A.length + 1) = List.replicate (pgSize p - 1) pgIn ++ lay bs := by
        rw [List.drop_append]
        simp [lay]
      unfold pgOk
      rw [hd, List.take_append_of_le_length (by simp), List.take_of_length_le (by simp), h.1, decide_eq_true h.2.1, decide_eq_true (by rw [List.length_append]; omega)]
      simp
    rw [pgFrom_ok hp hok]
    have e : A ++ lay (p :: bs) = (A ++ p :: List.replicate (pgSize p - 1) pgIn) ++ lay bs := by simp [lay]
    have el : (A ++ p :: List.replicate (pgSize p - 1) pgIn).length = A.length + pgSize p := by simp; omega
    have := row_from bs (A ++ p :: List.replicate (pgSize p - 1) pgIn) (by rw [el]; exact h.2.2)
    rw [el] at this
    rw [e, this]
    rfl
/-- .. and where no place is told that is none, the table is one of blocks -/
theorem from_row (L : List Pg) : ∀ (n i : Nat), L.length ≤ i + n → i ≤ L.length → (∀ x ∈ pgFrom L i, 0 ≤ x.1) → ∃ bs, L.drop i = lay bs ∧ Row i bs
  | 0, i, h, h2, _ => ⟨[], by simp [lay]; omega, trivial⟩
  | n + 1, i, h, h2, hx => by
    by_cases hi : i < L.length
    · obtain ⟨p, hp⟩ : ∃ p, L[i]? = some p := ⟨_, List.getElem?_eq_getElem hi⟩
      have h1 := pgSize_pos p
      cases ho : pgOk L i p with
      | false =>
        rw [pgFrom_no hp ho] at hx
        have := hx _ List.mem_cons_self
        simp at this
      | true =>
        rw [pgFrom_ok hp ho] at hx
        have ho' := ho
        unfold pgOk at ho'
        simp only [Bool.and_eq_true, decide_eq_true_eq, List.all_eq_true, beq_iff_eq] at ho'
        obtain ⟨⟨⟨a1, a2⟩, a3⟩, a4⟩ := ho'
        obtain ⟨bs, hb, hr⟩ := from_row L n (i + pgSize p) (by omega) a3 (fun x hx' => hx x (List.mem_cons_of_mem _ hx'))
        refine ⟨p :: bs, ?_, a1, a2, hr⟩
        have e1 : L.drop i = p :: L.drop (i + 1) := by
          rw [List.drop_eq_getElem_cons hi]
          rw [List.getElem?_eq_getElem hi] at hp
          rw [Option.some.inj hp]
        have e2 : (L.drop (i + 1)).take (pgSize p - 1) = List.replicate (pgSize p - 1) pgIn := by
          rw [List.eq_replicate_iff]
          refine ⟨by rw [List.length_take, List.length_drop]; omega, a4⟩
        have e3 : L.drop (i + 1) = List.replicate (pgSize p - 1) pgIn ++ lay bs := by
          rw [← e2, ← hb, ← List.take_append_drop (pgSize p - 1) (L.drop (i + 1)), List.drop_drop]
          rw [show i + 1 + (pgSize p - 1) = i + pgSize p from by omega]
          rw [List.take_append_of_le_length (by rw [List.length_take, List.length_drop]; omega), List.take_take, Nat.min_self]
        rw [e1, e3]
        rfl
    · exact ⟨[], by simp [lay]; omega, trivial⟩
/-- a table that may be -/
def Tab (L : List Pg) (bs : List Pg) : Prop := L = lay bs ∧ Row 0 bs
theorem tab_iff (L : List Pg) : (∃ bs, Tab L bs) ↔ ∀ x ∈ pgFrom L 0, 0 ≤ x.1 := by
  constructor
  · rintro ⟨bs, rfl, hr⟩
    have := row_from bs [] hr
    simp only [List.nil_append, List.length_nil] at this
    rw [this]
    have hpl : ∀ (bs : List Pg) (i : Nat), ∀ x ∈ places i bs, 0 ≤ x.1 := by
      intro bs
      induction bs with
      | nil => intro i x hx; simp [places] at hx
      | cons p bs ih =>
        intro i x hx
        rw [places, List.mem_cons] at hx
        rcases hx with rfl | hx
        · simp
        · exact ih _ x hx
    exact hpl bs 0
  · intro h
    obtain ⟨bs, hb, hr⟩ := from_row L L.length 0 (by omega) (by omega) h
    exact ⟨bs, by rw [← hb]; rfl, hr⟩
theorem tab_from {L bs : List Pg} (h : Tab L bs) : pgFrom L 0 = places 0 bs := by
  obtain ⟨rfl, hr⟩ := h
  have := row_from bs [] hr
  simpa using this
end Go.Proofs.YthjjpmoifgcepaaGreat

/-
  Contracts: frame.headed, the test of a page that is inside, and whether a slice of pages has one that is not.
-/
namespace Go.Proofs.YthjjpmoifgcepaaGreat
open Go.RowKit
attribute [local go_sem ↓] Go.wp_at_zero Go.wp_at_succ
/-- a page as a value -/
def pgVal (p : Pg) : Value := .agg #[.int .i64 p.1, .int .i64 p.2.1, .int .i64 p.2.2]
section
variable {W : World} {m : List (Nat × Obj)} {w : World}
set_option maxHeartbeats 1000000 in
theorem headed_spec (h : Own W m w) (k o c : Int) :
    Calls Tryz.prog 148 #[.agg #[.int .i64 k, .int .i64 o, .int .i64 c]] w fun e w' => e = .returned (.bool (pgHead (k, o, c))) ∧ Own W m w' := by
  have h0 := h.alloc (.cells #[.int .i64 k, .int .i64 o, .int .i64 c] 193)
  go_enter Tryz.func148, Tryz.ntmps148
  go_wp2_with fail
  all_goals go_ret
  all_goals refine ⟨?_, h0⟩
  all_goals simp only [beq_iff_eq, beq_eq_false_iff_ne, ne_eq] at *
  all_goals
    first
      | exact (congrArg (fun b => Ending.returned (Value.bool b)) (show pgHead (k, o, c) = false from decide_eq_false (by simp only; omega))).symm
      | exact (congrArg (fun b => Ending.returned (Value.bool b)) (show pgHead (k, o, c) = (c == 0) from Bool.eq_iff_iff.2 (by simp [pgHead]; omega))).symm
      | exact (congrArg (fun b => Ending.returned (Value.bool b)) (show pgHead (k, o, c) = decide (c ≤ 8) from Bool.eq_iff_iff.2 (by simp [pgHead]; omega))).symm
      | exact (congrArg (fun b => Ending.returned (Value.bool b)) (show pgHead (k, o, c) = (decide (0 ≤ c) && decide (c ≤ 8)) from Bool.eq_iff_iff.2 (by simp [pgHead]; omega))).symm
      | trace_state
set_option maxHeartbeats 1000000 in
theorem inside_spec (h : Own W m w) (k o c : Int) :
    Calls Tryz.prog 150 #[.agg #[.int .i64 k, .int .i64 o, .int .i64 c]] w fun e w' => e = .returned (.bool (!decide (((k, o, c) : Pg) = pgIn))) ∧ Own W m w' := by
  have h0 := h.alloc (.cells #[.int .i64 k, .int .i64 o, .int .i64 c] 193)
  go_enter Tryz.func150, Tryz.ntmps150
  go_wp2_with fail
  all_goals go_ret
  all_goals refine ⟨?_, h.alloc _⟩
  all_goals simp_all [pgIn]
end
/-- pages as numbers, one behind another -/
def flat3 : List Pg → List Int
  | [] => []
  | p :: l => p.1 :: p.2.1 :: p.2.2 :: flat3 l
theorem flat3_len : ∀ l, (flat3 l).length = l.length * 3
  | [] => rfl
  | p :: l => by simp [flat3, flat3_len l]; omega
theorem flat3_get : ∀ {l : List Pg} {j : Nat} {p : Pg}, l[j]? = some p → (flat3 l)[j * 3]? = some p.1 ∧ (flat3 l)[j * 3 + 1]? = some p.2.1 ∧ (flat3 l)[j * 3 + 2]? = some p.2.2
  | [], j, p, h => by simp at h
  | q :: l, 0, p, h => by
    simp at h
    subst h
    simp [flat3]
  | q :: l, j + 1, p, h => by
    have := flat3_get (l := l) (j := j) (p := p) (by simpa using h)
    rw [show (j + 1) * 3 = j * 3 + 1 + 1 + 1 from by omega]
    simpa [flat3] using this
/-- from a place on memory reads as pages -/
def PgAt (w : World) (g o : Nat) (l : List Pg) : Prop := g < w.heap.size ∧ ∀ (j : Nat) (p : Pg), l[j]? = some p →
  w.cell? ⟨g, o + j * 3, none⟩ = some (.int .i64 p.1) ∧ w.cell? ⟨g, o + j * 3 + 1, none⟩ = some (.int .i64 p.2.1) ∧ w.cell? ⟨g, o + j * 3 + 2, none⟩ = some (.int .i64 p.2.2)
theorem PgAt.own {W w : World} {g o : Nat} {l : List Pg} {m : List (Nat × Obj)} (h : PgAt W g o l) (hO : Own W m w) : PgAt w g o l := by
  refine ⟨Nat.lt_of_lt_of_le h.1 hO.size_le, fun j p hp => ?_⟩
  obtain ⟨h1, h2, h3⟩ := h.2 j p hp
  exact ⟨(hO.old (by exact h.1)).trans h1, (hO.old (by exact h.1)).trans h2, (hO.old (by exact h.1)).trans h3⟩
def pgIdx (l : List Pg) : Int := match l.findIdx? (fun p => decide (p ≠ pgIn)) with | some i => i | none => -1
theorem pgIdx_yes {l : List Pg} {k : Nat} {p : Pg} (hk : l[k]? = some p) (hp : p ≠ pgIn) (h : ∀ j, j < k → l[j]? = some pgIn) : pgIdx l = k := by
  have : l.findIdx? (fun p => decide (p ≠ pgIn)) = some k := by
    rw [List.findIdx?_eq_some_iff_getElem]
    obtain ⟨hlt, he⟩ := List.getElem?_eq_some_iff.1 hk
    refine ⟨hlt, by simp [he, hp], fun j hj => ?_⟩
    have := h j hj
    rw [List.getElem?_eq_getElem (by omega)] at this
    simp [Option.some.inj this]
  unfold pgIdx
  rw [this]
theorem pgIdx_no {l : List Pg} (h : ∀ j, j < l.length → l[j]? = some pgIn) : pgIdx l = -1 := by
  have : l.findIdx? (fun p => decide (p ≠ pgIn)) = none := by
    rw [List.findIdx?_eq_none_iff]
    intro x hx
    obtain ⟨j, hj, rfl⟩ := List.getElem_of_mem hx
    have := h j hj
    rw [List.getElem?_eq_getElem hj] at this
    simp [Option.some.inj this]
  unfold pgIdx
  rw [this]
theorem pgIdx_all (l : List Pg) : decide (0 ≤ pgIdx l) = !l.all (· == pgIn) := by
  unfold pgIdx
  cases h : l.findIdx? (fun p => decide (p ≠ pgIn)) with
  | none =>
    rw [List.findIdx?_eq_none_iff] at h
    have : l.all (· == pgIn) = true := by
      rw [List.all_eq_true]
      intro x hx
      have := h x hx
      simpa using this
    rw [this]; rfl
  | some k =>
    rw [List.findIdx?_eq_some_iff_getElem] at h
    obtain ⟨hlt, he, _⟩ := h
    have : l.all (· == pgIn) = false := by
      rw [List.all_eq_false]
      exact ⟨_, List.getElem_mem hlt, by simpa using he⟩
    rw [this]; simp
set_option maxHeartbeats 1000000 in
theorem indexFunc_spec {w : World} {g o : Nat} {c : Nat} {l : List Pg} (hs : PgAt w g o l) (hl : l.length ≤ 60000) :
    Calls Tryz.prog 152 #[.slice (some ⟨g, o, none⟩) l.length c, .func (.func 150) #[] #[]] w fun e w' => e = .returned (.int .i64 (pgIdx l)) ∧ Own w [] w' := by
  go_enter Tryz.func152, Tryz.ntmps152
  go_wp2_with fail
  go_loopw [8] (fun k wr => ∃ i : Nat, i ≤ l.length ∧ k = .int .i64 i ∧ (∀ j, j < i → l[j]? = some pgIn) ∧ Own w [] wr) (fun k _ => l.length - (intOf k).toNat)
  case atStart => exact ⟨0, Nat.zero_le _, rfl, fun j hj => absurd hj (by omega), Own.self w⟩
  case round =>
    obtain ⟨i, hi, rfl, hno, hr⟩ := hrel
    have HN := Lib.hid hno
    clear hno
    by_cases hlt : i < l.length
    · obtain ⟨p, hp⟩ : ∃ p, l[i]? = some p := ⟨_, List.getElem?_eq_getElem hlt⟩
      obtain ⟨q0, q1, q2⟩ := (hs.own hr).2 i p hp
      have HP := Lib.hid hp
      obtain ⟨p0, p1, p2⟩ := p
      simp only at q0 q1 q2
      clear hp
      by_cases hin : ((p0, p1, p2) : Pg) = pgIn
      · go_wp2_with (go_at_call 150; refine (inside_spec hr p0 p1 p2).mono ?_; rintro e w' ⟨rfl, h1⟩; rw [decide_eq_true hin])
        go_roundw
        case rel =>
          refine ⟨i + 1, by omega, by go_num, fun j hj => ?_, h1⟩
          by_cases hji : j < i
          · exact HN.out j hji
          · obtain rfl : j = i := by omega
            rw [HP.out, hin]
        case measure => simp [intOf]; omega
      · go_wp2_with (go_at_call 150; refine (inside_spec hr p0 p1 p2).mono ?_; rintro e w' ⟨rfl, h1⟩; rw [decide_eq_false hin])
        go_ret
        exact ⟨by rw [pgIdx_yes HP.out hin HN.out]; rfl, h1⟩
    · obtain rfl : i = l.length := by omega
      go_wp2_with fail
      go_ret
      exact ⟨by rw [pgIdx_no HN.out]; rfl, hr⟩
theorem containsFunc_spec {w : World} {g o : Nat} {c : Nat} {l : List Pg} (hs : PgAt w g o l) (hl : l.length ≤ 60000) :
    Calls Tryz.prog 149 #[.slice (some ⟨g, o, none⟩) l.length c, .func (.func 150) #[] #[]] w fun e w' => e = .returned (.bool (!l.all (· == pgIn))) ∧ Own w [] w' := by
  have HM := Lib.hid (pgIdx_all l)
  go_enter Tryz.func149, Tryz.ntmps149
  go_wp2_with (go_at_call 152; refine (indexFunc_spec hs hl).mono ?_; rintro e w' ⟨rfl, h1⟩)
  go_ret
  exact ⟨by rw [← HM.out]; rfl, h1⟩
theorem containsFunc_at {w : World} {g o : Nat} {c n : Nat} {l : List Pg} (hs : PgAt w g o l) (hn : n = l.length) (hl : n ≤ 60000) :
    Calls Tryz.prog 149 #[.slice (some ⟨g, o, none⟩) n c, .func (.func 150) #[] #[]] w fun e w' => e = .returned (.bool (!l.all (· == pgIn))) ∧ Own w [] w' := by
  subst hn
  exact containsFunc_spec hs hl
theorem PgAt.part {w : World} {g o : Nat} {L : List Pg} (h : PgAt w g o L) (i n : Nat) : PgAt w g (o + i * 3) ((L.drop i).take n) := by
  refine ⟨h.1, fun j p hp => ?_⟩
  have hp' : L[i + j]? = some p := by
    rw [List.getElem?_take] at hp
    split at hp
    · rw [List.getElem?_drop] at hp; exact hp
    · cases hp
  obtain ⟨h1, h2, h3⟩ := h.2 (i + j) p hp'
  rw [show o + i * 3 + j * 3 = o + (i + j) * 3 from by omega]
  exact ⟨h1, h2, h3⟩
theorem PgAt.empty {w : World} {g o o' : Nat} {L : List Pg} (h : PgAt w g o L) : PgAt w g o' [] := ⟨h.1, fun j p hp => by simp at hp⟩
end Go.Proofs.YthjjpmoifgcepaaGreat

/-
  x & (2^s - 1) is x mod 2^s; a shift of one.
-/
namespace Go.Proofs.YthjjpmoifgcepaaGreat
open Go.RowKit
theorem and_mask_i64 (x : Int) (s : Nat) (hs : s ≤ 40) : bits .and .i64 x ((2 : Int) ^ s - 1) = x % 2 ^ s := by
  have hp : (2 : Nat) ^ s ≤ 2 ^ 40 := Nat.pow_le_pow_right (by omega) hs
  have hp1 : 1 ≤ (2 : Nat) ^ s := Nat.one_le_two_pow
  have e1 : ((2 : Int) ^ s - 1) = ((2 ^ s - 1 : Nat) : Int) := by
    rw [Int.natCast_sub hp1]; simp
  have h2 : (BitVec.ofInt 64 ((2 ^ s - 1 : Nat) : Int)).toNat = 2 ^ s - 1 := by
    rw [BitVec.ofInt_natCast, BitVec.toNat_ofNat]; exact Nat.mod_eq_of_lt (by omega)
  have h1 : (BitVec.ofInt 64 x).toNat = (x % 18446744073709551616).toNat := by
    rw [BitVec.toNat_ofInt]; rfl
  rw [e1]
  show IntKind.i64.wrap ((BitVec.ofInt 64 x &&& BitVec.ofInt 64 ((2 ^ s - 1 : Nat) : Int)).toNat : Int) = _
  rw [BitVec.toNat_and, h2, h1, Nat.and_two_pow_sub_one_eq_mod]
  have hlt : (x % 18446744073709551616).toNat % 2 ^ s < 2 ^ s := Nat.mod_lt _ (by omega)
  have hw : IntKind.i64.wrap (((x % 18446744073709551616).toNat % 2 ^ s : Nat) : Int) = (((x % 18446744073709551616).toNat % 2 ^ s : Nat) : Int) := by rw [IntWalk.i64_in] <;> omega
  rw [hw]
  have hpos : 0 ≤ x % 18446744073709551616 := by omega
  rw [Int.natCast_emod, Int.toNat_of_nonneg hpos]
  have hd : ((2 ^ s : Nat) : Int) ∣ 18446744073709551616 := by
    have : (2 : Nat) ^ s ∣ 2 ^ 64 := Nat.pow_dvd_pow 2 (by omega)
    have h := Int.natCast_dvd_natCast.2 this
    exact h
  rw [Int.emod_emod_of_dvd _ hd]
  simp
theorem and_15_i64 (x : Int) : bits .and .i64 x 15 = x % 16 := and_mask_i64 x 4 (by omega)
end Go.Proofs.YthjjpmoifgcepaaGreat

/-
  frame.blocks$1: the iterator's contract, at the wide fence.
-/
namespace Go.Proofs.YthjjpmoifgcepaaGreat
open Go.RowKit Go.Shelf
attribute [local go_sem] Oper.semAt_some
theorem grown_of {w w' : World} (h : Own w [] w') : w.grownBy w' none := by
  have hb := h.below
  exact ⟨hb.os, hb.tape, hb.output, hb.size, fun k hk _ => hb.block k hk⟩
/-- two blocks lie as they lay -/
def Kept2 (a b : Nat) (W W' : World) : Prop := W.heap.size ≤ W'.heap.size ∧ W'.heap[a]? = W.heap[a]? ∧ W'.heap[b]? = W.heap[b]?
theorem Kept2.refl (a b : Nat) (W : World) : Kept2 a b W W := ⟨Nat.le_refl _, rfl, rfl⟩
theorem Kept2.trans {a b : Nat} {A B C : World} (h : Kept2 a b A B) (k : Kept2 a b B C) : Kept2 a b A C := ⟨Nat.le_trans h.1 k.1, k.2.1.trans h.2.1, k.2.2.trans h.2.2⟩
theorem Kept2.below {a b : Nat} {W W' : World} (h : Below W.heap.size W W') (ha : a < W.heap.size) (hb : b < W.heap.size) : Kept2 a b W W' := ⟨h.size, h.block a ha, h.block b hb⟩
theorem Kept2.pg {a b o : Nat} {W W' : World} {L : List Pg} (h : Kept2 a b W W') (hA : PgAt W b o L) : PgAt W' b o L := by
  refine ⟨Nat.lt_of_lt_of_le hA.1 h.1, fun j p hp => ?_⟩
  obtain ⟨h1, h2, h3⟩ := hA.2 j p hp
  exact ⟨(World.cell?_of_block (a := ⟨b, _, none⟩) h.2.2).trans h1, (World.cell?_of_block (a := ⟨b, _, none⟩) h.2.2).trans h2, (World.cell?_of_block (a := ⟨b, _, none⟩) h.2.2).trans h3⟩
theorem Kept2.cell {a b i : Nat} {W W' : World} {v : Value} (h : Kept2 a b W W') (hc : W.cell? ⟨a, i, none⟩ = some v) : W'.cell? ⟨a, i, none⟩ = some v :=
  (World.cell?_of_block (a := ⟨a, i, none⟩) h.2.1).trans hc
theorem cell_lt {W : World} {a : Addr} {v : Value} (h : W.cell? a = some v) : a.block < W.heap.size := by
  by_cases hl : a.block < W.heap.size
  · exact hl
  · have : W.heap[a.block]? = none := Array.getElem?_eq_none (by omega)
    simp [World.cell?, this] at h
/-- what the iterator hands on: a place, and the page there -/
abbrev pgEnc (x : Int × Pg) : Array Value := #[.int .i64 x.1, .agg #[.int .i64 x.2.1, .int .i64 x.2.2.1, .int .i64 x.2.2.2]]
set_option maxRecDepth 100000 in
set_option maxHeartbeats 2000000 in
theorem blocks1_in (n : Nat) (hn : 3 ≤ n) (l Bn : Nat) (g o c : Nat) (L : List Pg) (hL : L.length ≤ 60000) (hLc : L.length ≤ c) (hcm : c ≤ 9223372036854775807) (J Jx : List (Int × Pg) → World → Prop)
    (W : World) (hJ : AbidesFrom W.heap.size J) (_hJx : AbidesFrom W.heap.size Jx)
    (hY : ∀ pre x W1, J pre W1 → pre.length < L.length + 1 → x ∈ pgFrom L 0 → YieldAt Fence.wide (n - 1) Tryz.prog l (pgEnc x) W1 fun e W' =>
      (e = .returned (.bool true) ∧ J (pre ++ [x]) W' ∧ Kept2 Bn g W1 W') ∨ (e = .returned (.bool false) ∧ Jx (pre ++ [x]) W'))
    (hc : W.cell? ⟨Bn, 0, none⟩ = some (.slice (some ⟨g, o, none⟩) L.length c)) (hA : PgAt W g o L) (h0 : J [] W) :
    CallsIn Fence.wide n Tryz.prog 147 #[.func (.yield l) #[] #[], .pointer (some ⟨Bn, 0, none⟩)] W fun e W' => (∃ v, e = .returned v) ∧
      ((∃ ys, ys = pgFrom L 0 ∧ J ys W') ∨ (∃ pre, pre <+: pgFrom L 0 ∧ Jx pre W')) := by
  refine callsIn_of_wp Tryz.func147 rfl trivial ?_ rfl
  simp only [Tryz.ntmps147, List.size_toArray, List.length_cons, List.length_nil, Nat.reduceAdd, Nat.reduceSub, Array.replicate_succ, Array.replicate_zero, List.push_toArray, List.append_toArray, List.nil_append, List.cons_append]
  gi_wp2
  gi_loopw [3] (fun p wr => ∃ (i : Nat) (pre : List (Int × Pg)), i ≤ L.length ∧ p = .int .i64 i ∧ pgFrom L 0 = pre ++ pgFrom L i ∧ pre.length ≤ i ∧ J pre wr ∧ PgAt wr g o L ∧ wr.cell? ⟨Bn, 0, none⟩ = some (.slice (some ⟨g, o, none⟩) L.length c)) (fun p wr => L.length - (intOf p).toNat)
  case atStart => exact ⟨0, [], by omega, rfl, rfl, by simp, h0, hA, hc⟩
  case round =>
    obtain ⟨i, pre, hi, rfl, hx, hlen, hJs, hA, hc⟩ := hrel
    by_cases hlt : i < L.length
    · obtain ⟨p, hp⟩ : ∃ p, L[i]? = some p := ⟨_, List.getElem?_eq_getElem hlt⟩
      obtain ⟨q0, q1, q2⟩ := hA.2 i p hp
      obtain ⟨p0, p1, p2⟩ := p
      have hgl := hA.1
      have hBn := cell_lt hc
      simp only at q0 q1 q2 hBn
      obtain ⟨s, hs⟩ : ∃ s : Nat, bits .and .i64 p1 15 = s := ⟨(p1 % 16).toNat, by rw [and_15_i64]; omega⟩
      have hs15 : s < 16 := by have := and_15_i64 p1; omega
      have hpw : (2 : Nat) ^ s ≤ 2 ^ 15 := Nat.pow_le_pow_right (by omega) (by omega)
      have hmin : min s 64 = s := by omega
      obtain ⟨N, hN⟩ : ∃ N : Nat, 2 ^ s = N := ⟨_, rfl⟩
      have hNi : (2 : Int) ^ s = (N : Int) := by rw [← hN]; simp
      have hN1 : 1 ≤ N := by rw [← hN]; exact Nat.one_le_two_pow
      have hN2 : N ≤ 32768 := by omega
      have hs0 : (0 : Int) ≤ s := by omega
      have hand : bits .and .i64 (i : Int) ((N : Int) - 1) = ((i % N : Nat) : Int) := by
        have := and_mask_i64 i s (by omega)
        rw [hNi] at this
        rw [this]; simp
      have hf48 : Fence.wide.fn 148 := trivial
      have hfc : Fence.wide.fn 149 := trivial
      have hn1 : 1 ≤ n := by omega
      have hnew := (Own.self wr).new (.cells #[.int .i64 p0, .int .i64 p1, .int .i64 p2] 193)
      cases ho : pgOk L i (p0, p1, p2) with
      | true =>
        have ho' := ho
        unfold pgOk at ho'
        simp only [Bool.and_eq_true, decide_eq_true_eq, List.all_eq_true, beq_iff_eq] at ho'
        obtain ⟨⟨⟨a1, a2⟩, a3⟩, a4⟩ := ho'
        have hp1 : 0 ≤ p1 ∧ p1 ≤ 10 := by have := of_decide_eq_true a1; simp only at this; omega
        have hsz : pgSize (p0, p1, p2) = N := by
          have : p1.toNat = s := by have := and_15_i64 p1; omega
          simp only [pgSize, this, hN]
        rw [hsz] at a2 a3 a4
        have hand0 : bits .and .i64 (i : Int) ((N : Int) - 1) = 0 := by rw [hand, a2]; rfl
        have i1 : (i : Int) + 1 ≤ (i : Int) + N := by omega
        have i2 : (i : Int) + N ≤ c := by omega
        have i3 : (N : Int) ≤ (L.length : Int) - i := by omega
        have hw1 : IntKind.i64.wrap ((i : Int) + 1) = (i : Int) + 1 := by rw [IntWalk.i64_in] <;> omega
        have hw2 : IntKind.i64.wrap ((i : Int) + N) = (i : Int) + N := by rw [IntWalk.i64_in] <;> omega
        have HO := Lib.hid ho
        have A4 := Lib.hid a4
        clear hand ho a4 hN hpw
        gi_wp2_with (gi_at_call 148; refine (callsIn_wide.2 (headed_spec hnew p0 p1 p2)).mono ?_; rintro e w1 ⟨rfl, h1⟩; rw [a1]; have kk : Kept2 Bn g wr w1 := Kept2.below h1.below hBn hgl; have hc1 := kk.cell hc; have e0 := h1.cell List.mem_cons_self 0; have e1 := h1.cell List.mem_cons_self 1; have e2 := h1.cell List.mem_cons_self 2; simp at e0 e1 e2)
        all_goals refine (callsIn_wide.2 (containsFunc_at (l := (L.drop (i + 1)).take (N - 1)) (by first | exact (kk.pg hA).part (i + 1) (N - 1) | (rw [List.eq_nil_of_length_eq_zero (show ((L.drop (i + 1)).take (N - 1)).length = 0 from by rw [List.length_take, List.length_drop]; omega)]; exact (kk.pg hA).empty)) (by rw [List.length_take, List.length_drop]; omega) (by omega))).mono ?_
        all_goals
          rintro e w2 ⟨rfl, h2⟩
          have hall : ((L.drop (i + 1)).take (N - 1)).all (· == pgIn) = true := by rw [List.all_eq_true]; intro x hx; simpa using A4.out x hx
          rw [hall]
          have hJ2 : J pre w2 := hJ pre wr w2 none hJs (grown_of ((h1.of_self h2).sub (List.nil_sublist _))) (fun r e => by cases e)
          have f0 := (h1.of_self h2).cell List.mem_cons_self 0
          have f1 := (h1.of_self h2).cell List.mem_cons_self 1
          have f2 := (h1.of_self h2).cell List.mem_cons_self 2
          simp at f0 f1 f2
          have hpre : pgFrom L 0 = (pre ++ [((i : Int), (p0, p1, p2))]) ++ pgFrom L (i + N) := by rw [hx, pgFrom_ok hp HO.out, hsz]; simp
          have HPRE := Lib.hid hpre
          obtain ⟨fn, tmps, assign, body, hy, hR⟩ := hY pre ((i : Int), (p0, p1, p2)) w2 hJ2 (by omega) (by rw [HPRE.out]; simp)
          dsimp only [pgEnc] at hy
          have kk2 : Kept2 Bn g w1 w2 := Kept2.below h2.below (cell_lt hc1) (kk.pg hA).1
          have hc2 := kk2.cell hc1
          have hA2 := kk2.pg (kk.pg hA)
          clear hpre hx hc1 e0 e1 e2
          gi_wp2
          refine hR.mono ?_
          rintro e W3 (⟨rfl, hJ3, hk3⟩ | ⟨rfl, hJx3⟩)
          · have hc3 := hk3.cell hc2
            gi_wp2
            go_roundw
            case rel => exact ⟨i + N, _, by omega, by go_num, HPRE.out, by simp; omega, hJ3, hk3.pg hA2, hc3⟩
            case measure => simp [intOf]; omega
          · gi_wp2
            refine bodyPost_ret (results_none rfl _ _ _) rfl ?_
            exact ⟨⟨_, rfl⟩, .inr ⟨_, ⟨_, HPRE.out.symm⟩, hJx3⟩⟩
      | false =>
        have hfin : pgFrom L 0 = pre ++ [((-1 : Int), (p0, p1, p2))] := by rw [hx, pgFrom_no hp ho]
        have HFIN := Lib.hid hfin
        have HAND := Lib.hid hand
        have HO := Lib.hid ho
        clear hfin hx hand ho hpw
        cases a1 : pgHead (p0, p1, p2) with
        | false =>
          gi_wp2_with (gi_at_call 148; refine (callsIn_wide.2 (headed_spec hnew p0 p1 p2)).mono ?_; rintro e w1 ⟨rfl, h1⟩; rw [a1]; have kk : Kept2 Bn g wr w1 := Kept2.below h1.below hBn hgl; have hc1 := kk.cell hc; have e0 := h1.cell List.mem_cons_self 0; have e1 := h1.cell List.mem_cons_self 1; have e2 := h1.cell List.mem_cons_self 2; simp at e0 e1 e2; obtain ⟨fn, tmps, assign, body, hy, hR⟩ := hY pre ((-1 : Int), (p0, p1, p2)) w1 (hJ pre wr w1 none hJs (grown_of (h1.sub (List.nil_sublist _))) (fun r e => by cases e)) (by omega) (by rw [HFIN.out]; simp); dsimp only [pgEnc] at hy)
          refine hR.mono ?_
          rintro e W3 (⟨rfl, hJ3, hk3⟩ | ⟨rfl, hJx3⟩)
          · gi_wp2
            refine bodyPost_ret (results_none rfl _ _ _) rfl ?_
            exact ⟨⟨_, rfl⟩, .inl ⟨_, HFIN.out.symm, hJ3⟩⟩
          · gi_wp2
            refine bodyPost_ret (results_none rfl _ _ _) rfl ?_
            exact ⟨⟨_, rfl⟩, .inr ⟨_, ⟨[], by rw [HFIN.out, List.append_nil]⟩, hJx3⟩⟩
        | true =>
          have hp1 : 0 ≤ p1 ∧ p1 ≤ 10 := by have := of_decide_eq_true a1; simp only at this; omega
          have hsz : pgSize (p0, p1, p2) = N := by
            have : p1.toNat = s := by have := and_15_i64 p1; omega
            simp only [pgSize, this, hN]
          by_cases a2 : i % N = 0
          · have hand0 : bits .and .i64 (i : Int) ((N : Int) - 1) = 0 := by rw [HAND.out, a2]; rfl
            by_cases a3 : i + N ≤ L.length
            · have i1 : (i : Int) + 1 ≤ (i : Int) + N := by omega
              have i2 : (i : Int) + N ≤ c := by omega
              have i3 : (N : Int) ≤ (L.length : Int) - i := by omega
              have hw1 : IntKind.i64.wrap ((i : Int) + 1) = (i : Int) + 1 := by rw [IntWalk.i64_in] <;> omega
              have hw2 : IntKind.i64.wrap ((i : Int) + N) = (i : Int) + N := by rw [IntWalk.i64_in] <;> omega
              have hall : ((L.drop (i + 1)).take (N - 1)).all (· == pgIn) = false := by
                have := HO.out
                unfold pgOk at this
                rw [a1, hsz, decide_eq_true a2, decide_eq_true a3] at this
                simpa using this
              have HALL := Lib.hid hall
              clear hall hN a2
              gi_wp2_with (gi_at_call 148; refine (callsIn_wide.2 (headed_spec hnew p0 p1 p2)).mono ?_; rintro e w1 ⟨rfl, h1⟩; rw [a1]; have kk : Kept2 Bn g wr w1 := Kept2.below h1.below hBn hgl; have hc1 := kk.cell hc; have e0 := h1.cell List.mem_cons_self 0; have e1 := h1.cell List.mem_cons_self 1; have e2 := h1.cell List.mem_cons_self 2; simp at e0 e1 e2)
              all_goals refine (callsIn_wide.2 (containsFunc_at (l := (L.drop (i + 1)).take (N - 1)) (by first | exact (kk.pg hA).part (i + 1) (N - 1) | (rw [List.eq_nil_of_length_eq_zero (show ((L.drop (i + 1)).take (N - 1)).length = 0 from by rw [List.length_take, List.length_drop]; omega)]; exact (kk.pg hA).empty)) (by rw [List.length_take, List.length_drop]; omega) (by omega))).mono ?_
              all_goals
                rintro e w2 ⟨rfl, h2⟩
                rw [HALL.out]
                have hJ2 : J pre w2 := hJ pre wr w2 none hJs (grown_of ((h1.of_self h2).sub (List.nil_sublist _))) (fun r e => by cases e)
                have f0 := (h1.of_self h2).cell List.mem_cons_self 0
                have f1 := (h1.of_self h2).cell List.mem_cons_self 1
                have f2 := (h1.of_self h2).cell List.mem_cons_self 2
                simp at f0 f1 f2
                obtain ⟨fn, tmps, assign, body, hy, hR⟩ := hY pre ((-1 : Int), (p0, p1, p2)) w2 hJ2 (by omega) (by rw [HFIN.out]; simp)
                dsimp only [pgEnc] at hy
                clear hc1 e0 e1 e2
                gi_wp2
                refine hR.mono ?_
                rintro e W3 (⟨rfl, hJ3, hk3⟩ | ⟨rfl, hJx3⟩)
                · gi_wp2
                  refine bodyPost_ret (results_none rfl _ _ _) rfl ?_
                  exact ⟨⟨_, rfl⟩, .inl ⟨_, HFIN.out.symm, hJ3⟩⟩
                · gi_wp2
                  refine bodyPost_ret (results_none rfl _ _ _) rfl ?_
                  exact ⟨⟨_, rfl⟩, .inr ⟨_, ⟨[], by rw [HFIN.out, List.append_nil]⟩, hJx3⟩⟩
            · have i3 : ¬ ((N : Int) ≤ (L.length : Int) - i) := by omega
              gi_wp2_with (gi_at_call 148; refine (callsIn_wide.2 (headed_spec hnew p0 p1 p2)).mono ?_; rintro e w1 ⟨rfl, h1⟩; rw [a1]; have kk : Kept2 Bn g wr w1 := Kept2.below h1.below hBn hgl; have hc1 := kk.cell hc; have e0 := h1.cell List.mem_cons_self 0; have e1 := h1.cell List.mem_cons_self 1; have e2 := h1.cell List.mem_cons_self 2; simp at e0 e1 e2; obtain ⟨fn, tmps, assign, body, hy, hR⟩ := hY pre ((-1 : Int), (p0, p1, p2)) w1 (hJ pre wr w1 none hJs (grown_of (h1.sub (List.nil_sublist _))) (fun r e => by cases e)) (by omega) (by rw [HFIN.out]; simp); dsimp only [pgEnc] at hy)
              refine hR.mono ?_
              rintro e W3 (⟨rfl, hJ3, hk3⟩ | ⟨rfl, hJx3⟩)
              · gi_wp2
                refine bodyPost_ret (results_none rfl _ _ _) rfl ?_
                exact ⟨⟨_, rfl⟩, .inl ⟨_, HFIN.out.symm, hJ3⟩⟩
              · gi_wp2
                refine bodyPost_ret (results_none rfl _ _ _) rfl ?_
                exact ⟨⟨_, rfl⟩, .inr ⟨_, ⟨[], by rw [HFIN.out, List.append_nil]⟩, hJx3⟩⟩
          · have hand0 : ¬ (bits .and .i64 (i : Int) ((N : Int) - 1) = 0) := by rw [HAND.out]; omega
            gi_wp2_with (gi_at_call 148; refine (callsIn_wide.2 (headed_spec hnew p0 p1 p2)).mono ?_; rintro e w1 ⟨rfl, h1⟩; rw [a1]; have kk : Kept2 Bn g wr w1 := Kept2.below h1.below hBn hgl; have hc1 := kk.cell hc; have e0 := h1.cell List.mem_cons_self 0; have e1 := h1.cell List.mem_cons_self 1; have e2 := h1.cell List.mem_cons_self 2; simp at e0 e1 e2; obtain ⟨fn, tmps, assign, body, hy, hR⟩ := hY pre ((-1 : Int), (p0, p1, p2)) w1 (hJ pre wr w1 none hJs (grown_of (h1.sub (List.nil_sublist _))) (fun r e => by cases e)) (by omega) (by rw [HFIN.out]; simp); dsimp only [pgEnc] at hy)
            refine hR.mono ?_
            rintro e W3 (⟨rfl, hJ3, hk3⟩ | ⟨rfl, hJx3⟩)
            · gi_wp2
              refine bodyPost_ret (results_none rfl _ _ _) rfl ?_
              exact ⟨⟨_, rfl⟩, .inl ⟨_, HFIN.out.symm, hJ3⟩⟩
            · gi_wp2
              refine bodyPost_ret (results_none rfl _ _ _) rfl ?_
              exact ⟨⟨_, rfl⟩, .inr ⟨_, ⟨[], by rw [HFIN.out, List.append_nil]⟩, hJx3⟩⟩
    · have hil : i = L.length := by omega
      subst hil
      rw [pgFrom_end (Nat.le_refl _), List.append_nil] at hx
      gi_wp2
      go_end0
      exact ⟨⟨_, rfl⟩, .inl ⟨pre, hx.symm, hJs⟩⟩
end Go.Proofs.YthjjpmoifgcepaaGreat

/-
  Contract: frame.Check, of any table.
-/
namespace Go.Proofs.YthjjpmoifgcepaaGreat
open Go.RowKit Go.Shelf
attribute [local go_sem] Oper.semAt_some
/-- what the iterator may hand on -/
abbrev PgX (L : List Pg) := { x : Int × Pg // x ∈ pgFrom L 0 }
theorem kept2_b {a b : Nat} {w : World} (ha : a < w.heap.size) (hb : b < w.heap.size) (W : World) (l : Nat) (o o' : Obj) (hl : w.heap.size ≤ l) (h : W.heap[l]? = some o) (_ : o.isCells = false) (_ : o.isWalk = false) : Kept2 a b W (W.putObj l o') := by
  have h1 := (Array.getElem?_eq_some_iff.1 h).1
  exact ⟨(grownBy_putObj' W l o').size, World.putObj_heap_other (by omega), World.putObj_heap_other (by omega)⟩
theorem blocks_in (n : Nat) (A : Option Addr) (k c : Nat) (w : World) :
    CallsIn Fence.wide n Tryz.prog 142 #[.slice A k c] w fun e w' => e = .returned (.func (.func 147) #[] #[.pointer (some ⟨w.heap.size, 0, none⟩)]) ∧ w' = w.alloc (.cells #[.slice A k c] 179) := by
  refine callsIn_of_wp Tryz.func142 rfl trivial ?_ rfl
  simp only [Tryz.ntmps142, List.size_toArray, List.length_cons, List.length_nil, Nat.reduceAdd, Nat.reduceSub, Array.replicate_succ, Array.replicate_zero, List.push_toArray, List.append_toArray, List.nil_append, List.cons_append]
  gi_wp2
  go_ret
  exact ⟨rfl, rfl⟩
theorem blocks_stops (n : Nat) (hn : 3 ≤ n) (Bn g o c : Nat) (L : List Pg) (hL : L.length ≤ 60000) (hLc : L.length ≤ c) (hcm : c ≤ 9223372036854775807) (w : World)
    (hc : w.cell? ⟨Bn, 0, none⟩ = some (.slice (some ⟨g, o, none⟩) L.length c)) (hA : PgAt w g o L) :
    SeqStopsK Fence.wide n Tryz.prog 147 #[.pointer (some ⟨Bn, 0, none⟩)] (fun x : PgX L => pgEnc x.1) (Kept2 Bn g) (fun ys => ys.map (·.1) = pgFrom L 0) (fun pre => pre.map (·.1) <+: pgFrom L 0) (L.length + 1) w := by
  intro l J Jx W hW aJ aJx hY h0
  have kk : Kept2 Bn g w W := Kept2.below hW (cell_lt hc) hA.1
  refine (blocks1_in n hn l Bn g o c L hL hLc hcm (fun pre W => ∃ ys : List (PgX L), ys.map (·.1) = pre ∧ J ys W) (fun pre W => ∃ ys : List (PgX L), ys.map (·.1) = pre ∧ Jx ys W) W ?_ ?_ ?_ (kk.cell hc) (kk.pg hA) ⟨[], rfl, h0⟩).mono ?_
  · rintro s A B row ⟨ys, hy, hj⟩ hg hr
    exact ⟨ys, hy, aJ ys A B row hj hg hr⟩
  · rintro s A B row ⟨ys, hy, hj⟩ hg hr
    exact ⟨ys, hy, aJx ys A B row hj hg hr⟩
  · rintro pre x W1 ⟨ys, rfl, hj⟩ hlen hx
    refine YieldAt.mono (hY ys ⟨x, hx⟩ W1 hj (by simpa using hlen)) ?_
    rintro e W' (⟨rfl, hj', hk⟩ | ⟨rfl, hj'⟩)
    · exact .inl ⟨rfl, ⟨_, by simp, hj'⟩, hk⟩
    · exact .inr ⟨rfl, ⟨_, by simp, hj'⟩⟩
  · rintro e W' ⟨hv, (⟨_, rfl, ys, hy, hj⟩ | ⟨_, hp, ys, rfl, hj⟩)⟩
    · exact ⟨hv, .inl ⟨ys, hy, hj⟩⟩
    · exact ⟨hv, .inr ⟨ys, hp, hj⟩⟩
theorem blocks_stopsN (n : Nat) (hn : 3 ≤ n) (Bn g o c N : Nat) (L : List Pg) (hN : L.length = N) (hL : N ≤ 60000) (hLc : N ≤ c) (hcm : c ≤ 9223372036854775807) (w : World)
    (hc : w.cell? ⟨Bn, 0, none⟩ = some (.slice (some ⟨g, o, none⟩) N c)) (hA : PgAt w g o L) :
    SeqStopsK Fence.wide n Tryz.prog 147 #[.pointer (some ⟨Bn, 0, none⟩)] (fun x : PgX L => pgEnc x.1) (Kept2 Bn g) (fun ys => ys.map (·.1) = pgFrom L 0) (fun pre => pre.map (·.1) <+: pgFrom L 0) (N + 1) w := by
  subst hN
  exact blocks_stops n hn Bn g o c L hL hLc hcm w hc hA
def AllNN {L : List Pg} (pre : List (PgX L)) : Prop := ∀ y ∈ pre, 0 ≤ y.1.1
def SomeNeg {L : List Pg} (pre : List (PgX L)) : Prop := ∃ y ∈ pre, y.1.1 < 0
def tabOk (L : List Pg) : Bool := (pgFrom L 0).all fun x => decide (0 ≤ x.1)
/-- what Check answers -/
def pgCheck (L : List Pg) : Int := if 1 ≤ L.length ∧ L.length ≤ 1024 ∧ tabOk L = true then 0 else 50
theorem pgCheck_yes {L : List Pg} (h1 : 1 ≤ L.length) (h2 : L.length ≤ 1024) (h : ∀ x ∈ pgFrom L 0, 0 ≤ x.1) : pgCheck L = 0 := by
  unfold pgCheck
  rw [if_pos ⟨h1, h2, by unfold tabOk; rw [List.all_eq_true]; intro x hx; exact decide_eq_true (h x hx)⟩]
theorem pgCheck_no {L : List Pg} {x : Int × Pg} (h : x ∈ pgFrom L 0) (hx : x.1 < 0) : pgCheck L = 50 := by
  unfold pgCheck
  rw [if_neg]
  rintro ⟨_, _, h3⟩
  unfold tabOk at h3
  rw [List.all_eq_true] at h3
  have := of_decide_eq_true (h3 x h)
  omega
set_option maxRecDepth 100000 in
set_option maxHeartbeats 2000000 in
theorem check_loop (g o c N : Nat) (L : List Pg) (hN : Hid (L.length = N)) (hL1 : 1 ≤ N) (hL : N ≤ 1024) (hLc : N ≤ c) (hcm : c ≤ 9223372036854775807) (w : World) (hA : PgAt w g o L) :
    CallsIn Fence.wide 10 Tryz.prog 129 #[.slice (some ⟨g, o, none⟩) N c] w fun e W' => e = .returned (.int .i64 (pgCheck L)) ∧ Below w.heap.size w W' := by
  have hn0 : ((N : Int) == 0) = false := by rw [beq_eq_false_iff_ne]; omega
  have hn2 : decide (1024 < (N : Int)) = false := decide_eq_false (by omega)
  refine callsIn_of_wp_marks Tryz.func129 rfl trivial ?_ rfl
  simp only [Tryz.ntmps129, List.size_toArray, List.length_cons, List.length_nil, Nat.reduceAdd, Nat.reduceSub, Array.replicate_succ, Array.replicate_zero, List.push_toArray, List.append_toArray, List.nil_append, List.cons_append]
  have hw : Fence.wide.fn 142 := trivial
  have hn1 : 1 ≤ 10 := by omega
  gi_wp2_with (gi_at_call 142; refine (blocks_in 9 _ _ _ _).mono ?_; rintro e w' ⟨rfl, rfl⟩)
  have b0 := (Boxed.new w 43 (.int .i64 0)).alloc (.cells #[.slice (some ⟨g, o, none⟩) N c] 179)
  have b1 := Boxed.new (w.alloc (.cells #[.int .i64 0] 43)) 179 (.slice (some ⟨g, o, none⟩) N c)
  simp only [World.size_alloc] at b1
  have hB0 : Below w.heap.size w ((w.alloc (.cells #[.int .i64 0] 43)).alloc (.cells #[.slice (some ⟨g, o, none⟩) N c] 179)) := ((Below.refl _ w).alloc (Nat.le_refl _) _).alloc (by simp) _
  have hgl := hA.1
  have hk0 : Kept2 g g w _ := Kept2.below hB0 hgl hgl
  have hA0 := hk0.pg hA
  have hsz : ((w.alloc (.cells #[.int .i64 0] 43)).alloc (.cells #[.slice (some ⟨g, o, none⟩) N c] 179)).heap.size = w.heap.size + 2 := by simp
  obtain ⟨W0, hW0⟩ : ∃ W0, (w.alloc (.cells #[.int .i64 0] 43)).alloc (.cells #[.slice (some ⟨g, o, none⟩) N c] 179) = W0 := ⟨_, rfl⟩
  rw [hW0] at b0 b1 hB0 hsz hk0 hA0 ⊢
  clear hW0
  refine wpIn_rangeFunc_ownF rfl hn1 (gf := 147) (lb := #[.pointer (some ⟨w.heap.size + 1, 0, none⟩)]) rfl trivial (enters_of Tryz.func147 (by kernel_rfl) rfl)
    (blocks_stopsN 9 (by omega) (w.heap.size + 1) g o c N L hN.out (by omega) hLc hcm W0 b1.cell hA0) (fun h k => h.trans k) (kept2_b (by omega) (by omega)) (Below.refl _ _) (fun _ => rfl)
    (fun pre W => (AllNN pre ∧ Boxed W w.heap.size 43 (.int .i64 0)) ∧ Below w.heap.size w W)
    (fun c pre W => (c = .ret ∧ SomeNeg pre ∧ Boxed W w.heap.size 43 (.int .i64 50)) ∧ Below w.heap.size w W)
    (OwnFrom.and (OwnFrom.and (ownFrom_pure _ _) (Own.from (boxed_own _ _ _) _)) (ownFrom_below (Nat.le_refl _) (by omega)))
    (fun c => OwnFrom.and (OwnFrom.and (ownFrom_pure _ _) (OwnFrom.and (ownFrom_pure _ _) (Own.from (boxed_own _ _ _) _))) (ownFrom_below (Nat.le_refl _) (by omega)))
    ⟨⟨fun y hy => by simp at hy, b0⟩, hB0⟩
    (fun x => { tmps := #[.slice (some ⟨g, o, none⟩) N c, undef, .pointer (some ⟨w.heap.size, 0, none⟩), .int .i64 x.1.1, .slice (some ⟨g, o, none⟩) N c, .int .i64 N, .bool false, .bool false, .slice (some ⟨g, o, none⟩) N c, .int .i64 N, .bool false, .bool false, .slice (some ⟨g, o, none⟩) N c, .func (.func 147) #[] #[.pointer (some ⟨w.heap.size + 1, 0, none⟩)], .int .i64 x.1.1, .agg #[.int .i64 x.1.2.1, .int .i64 x.1.2.2.1, .int .i64 x.1.2.2.2], undef, undef], defers := [] }) ?assign ?body ?done ?stop
  case assign =>
    intro l x W K hK
    gi_wp2
    exact hK
  case body =>
    rintro l pre x W ⟨⟨hp, hb⟩, hB⟩ _
    have hc := hb.cell
    have hf := hb.frozen
    by_cases hx : x.1.1 < 0
    · gi_wp2
      exact ⟨KeepsOthers.setCell _ _ _, ⟨rfl, ⟨x, by simp, hx⟩, hb.set _⟩, hB.setCell (p := ⟨w.heap.size, 0, none⟩) (by simp) _⟩
    · gi_wp2
      exact ⟨KeepsOthers.refl _, Kept2.refl _ _ _, ⟨fun y hy => (List.mem_append.1 hy).elim (hp y) (fun h => by simp at h; subst h; omega), hb⟩, hB⟩
  case done =>
    rintro D ys W hD hys ⟨⟨hne, hb⟩, hB⟩ hK
    have hc := hb.cell
    have hf := hb.frozen
    gi_wp2
    have hb' := hb.set (.int .i64 0)
    have hK' := (KeepsOthers.setCell W ⟨w.heap.size, 0, none⟩ (.int .i64 0)).same D _ hK rfl
    refine ⟨by simp, .inl ⟨_, _, rfl, run_takeDeferred hK', ?_⟩⟩
    have hc5 := cell_kept hb'.cell (grownBy_putObj' _ D (.deferred none)) (fun r e => by cases e; exact ⟨_, hK', rfl⟩)
    have hall : ∀ x ∈ pgFrom L 0, 0 ≤ x.1 := fun x hx => by
      rw [← hys] at hx
      obtain ⟨y, hy, rfl⟩ := List.mem_map.1 hx
      exact hne y hy
    refine ⟨.int .i64 0, ?_, by rw [pgCheck_yes (by rw [hN.out]; exact hL1) (by rw [hN.out]; exact hL) hall], (hB.setCell (p := ⟨w.heap.size, 0, none⟩) (by simp) _).trans (belowK_b (w := w) (Nat.le_refl _) _ D _ _ (by omega) hK' rfl rfl)⟩
    simp [results, Tryz.f129, go_sem, hc5]
  case stop =>
    rintro D c pre W hD hpre ⟨⟨rfl, ⟨y, hy, hy0⟩, hb⟩, hB⟩ hK
    have hc := hb.cell
    have hf := hb.frozen
    gi_wp2
    refine ⟨by simp, .inl ⟨_, _, rfl, run_takeDeferred hK, ?_⟩⟩
    have hc5 := cell_kept hc (grownBy_putObj' _ D (.deferred none)) (fun r e => by cases e; exact ⟨_, hK, rfl⟩)
    refine ⟨.int .i64 50, ?_, by rw [pgCheck_no (hpre.subset (List.mem_map_of_mem hy)) hy0], hB.trans (belowK_b (w := w) (Nat.le_refl _) W D _ _ (by omega) hK rfl rfl)⟩
    simp [results, Tryz.f129, go_sem, hc5]
end Go.Proofs.YthjjpmoifgcepaaGreat
