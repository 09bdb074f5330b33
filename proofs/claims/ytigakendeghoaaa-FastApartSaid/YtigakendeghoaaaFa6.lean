/-
  Texts of this claim, joined. No condition.
-/
import Derived.Test.YtigakendeghoaaaFa5
import Derived.Deep.Slices
import Derived.Maps.AppendAt
import Derived.Laws.AppendOwnNone
import Derived.Lib.SliceRun
import Derived.Deep.DeepCutAuto
import Derived.Deep.CutBlock
import Derived.Test.YtigakendeghoaaaRows
import Derived.Laws.BitsAllLaws
import Derived.WalkMore
/-
  The runner: a function's text, question by question; lists of what is known. No condition.
-/
namespace Go.Proofs.Ytigakendeghoaaa.Ex
open Go
section
variable {P : Program} {gs : List (Nat × List Int)} {rks : List (Nat × CK)} {ro : Nat → Option (Option Addr × Nat × Nat)} {σ : Nat → Int} {Ω : Nat → Nat → Nat → Obj → Prop}
/-- known calls whatever the arguments are -/
abbrev kgs (l : List Kc) : Kg := fun _ => l
theorem kcAll_nil : KcAll gs rks ro P σ Ω (kgs []) := fun _ _ _ _ h => by cases h
theorem kcAll_cons {k : Kc} {l : List Kc} (h : ∀ fs (ok : ∀ f ∈ fs, f.1.ev σ = f.2), @KcOk (nums gs rks ro σ Ω fs ok) P k) (hl : KcAll gs rks ro P σ Ω (kgs l)) : KcAll gs rks ro P σ Ω (kgs (k :: l)) := fun fs ok args x hx => by
  rcases List.mem_cons.1 hx with rfl | hx
  · exact h fs ok
  · exact hl fs ok args x hx
/-- .. and by their arguments -/
theorem kcAll_more {k1 k2 : Kg} (h : KcAll gs rks ro P σ Ω k1) (hl : KcAll gs rks ro P σ Ω k2) : KcAll gs rks ro P σ Ω (fun args => k1 args ++ k2 args) := fun fs ok args x hx => by
  rcases List.mem_append.1 hx with hx | hx
  · exact h fs ok args x hx
  · exact hl fs ok args x hx
/-- one whose first argument is a slice -/
abbrev kgSl (K : Nat → Kc) : Kg := fun args => match args with
  | .dsl n _ _ :: _ => match Nat.blt n 600000 with
    | true => [K n]
    | false => []
  | _ => []
theorem kcAll_sl {K : Nat → Kc} (h : ∀ n, n < rel → ∀ fs (ok : ∀ f ∈ fs, f.1.ev σ = f.2), @KcOk (nums gs rks ro σ Ω fs ok) P (K n)) : KcAll gs rks ro P σ Ω (kgSl K) := fun fs ok args x hx => by
  unfold kgSl at hx
  split at hx
  · split at hx
    · rename_i hlt
      rw [List.mem_singleton] at hx
      subst hx
      exact h _ (show _ < 600000 by simpa using hlt) fs ok
    · cases hx
  · cases hx
theorem lnAll_nil {f : FuncId} : LnAll gs rks ro P f σ Ω [] := fun fs ok c hc l hl => by cases hl
theorem lnAll_cons {f : FuncId} {l : Ln} {lns : List Ln} (h : ∀ fs (ok : ∀ q ∈ fs, q.1.ev σ = q.2) (c : Code), c ∈ loopsOf (bodyOf P f) → loopId c = some l.key → @LnOk (nums gs rks ro σ Ω fs ok) P (ntOf P f) c l) (hl : LnAll gs rks ro P f σ Ω lns) : LnAll gs rks ro P f σ Ω (l :: lns) := fun fs ok c hc l' hl' => by
  rcases List.mem_cons.1 hl' with rfl | hl'
  · exact h fs ok c hc
  · exact hl fs ok c hc l' hl'
/-- one that looks at no memory -/
theorem kc_pure [Nums] {k : Kc} (ha : AV.shuts k.args = true) (hv : k.res.shut = true) (hpre : k.pre = []) (hpost : k.post = []) (hnews : k.news = []) (hf : FnOk P k.f)
    (hc : (∀ c ∈ k.conds, c.1.ev Nums.σ = c.2) → ∀ (W w : World) (m : List (Nat × Obj)), Own W m w → Calls P k.f (valsOf Nums.σ k.args).toArray w fun e w' => e = .returned (valOf Nums.σ k.res) ∧ Own W m w') : KcOk P k := by
  refine kc_own hf (by rw [hpost]; intro p hp; cases hp) (by rw [hpre]; intro p hp; cases hp) fun hcs ρ W w m args' bs hF hargs hO => ?_
  have hbs : bs = [] := by rw [hpre] at hF; exact hF
  subst hbs
  have hargs := VRs.shut hargs ha
  have hargs : args' = (valsOf Nums.σ k.args).toArray := by rw [← hargs]
  subst hargs
  refine (hc hcs W w m hO).mono ?_
  rintro e w' ⟨rfl, h'⟩
  refine ⟨_, [], [], rfl, h', rfl, by rw [hnews]; rfl, fun ρ' _ _ => ⟨VR.ofShut hv, fun i t d hi => by rw [hnews] at hi; simp at hi, fun p hp => by rw [hpost] at hp; cases hp⟩⟩
/-- A FUNCTION'S TEXT, question by question -/
theorem treeC_calls (hm : P.follows .mixedOrders = true) {f : FuncId} {kcs : Kg} {lns : List Ln} (hk : KcAll gs rks ro P σ Ω kcs) (hl : LnAll gs rks ro P f σ Ω lns) {n : Nat} {args : List AV} {t : Tm} {K : AV → List (Nat × TB) → Prop} {ρ : Ren} {w : World} {args' : Array Value} :
    ∀ (d : CT) (fs : List (Cnd × Bool)) (ok : ∀ f ∈ fs, f.1.ev σ = f.2), treeC P gs rks kcs lns n f args t d fs = true → RunC σ K d →
    @HR (nums gs rks ro σ Ω fs ok) ρ t.h.get t.h.next w → @VRs (nums gs rks ro σ Ω fs ok) ρ args args'.toList →
    Calls P f args' w fun e w' => ∃ fs' ok' v post ρ' x, ∃ h' : AH, K v post ∧ e = .returned x ∧ @VR (nums gs rks ro σ Ω fs' ok') ρ' v x ∧ @Stp (nums gs rks ro σ Ω fs' ok') ρ t.h.get t.h.next w ρ' h'.get h'.next w' ∧ ∀ p ∈ post, (h'.get p.1).isSome = true ∧ ∃ b s, ρ' p.1 = some (b, s) ∧ @TR (nums gs rks ro σ Ω fs' ok') ρ' p.2 s w'.heap[b]?
  | .is v post, fs, ok, h, hK, hH, hargs => by
    unfold treeC at h
    letI N : Nums := nums gs rks ro σ Ω fs ok
    split at h <;> first | (cases h; done) | skip
    rename_i fn hf
    split at h <;> first | (cases h; done) | skip
    split at h <;> first | (cases h; done) | skip
    rename_i c hb
    split at h <;> first | (cases h; done) | skip
    rename_i hle
    rw [Bool.and_eq_true] at hle
    have hle := Nat.le_of_ble_eq_true hle.1
    have hnt : ntOf P f = fn.ntmps := by unfold ntOf; rw [hf]
    have hbody : bodyOf P f = c := by unfold bodyOf; rw [hf]; dsimp only; rw [hb]
    have hal : args.length = args'.size := by simpa using VRs.len hargs
    have hE : ER ρ (envOf 0 args .e) fn.ntmps { tmps := args' ++ Array.replicate (fn.ntmps - args'.size) undef, defers := [] } := by
      refine ⟨rfl, by simp; omega, fun t v hv => ?_⟩
      rcases envOf_get hv with ⟨_, h1⟩ | h1
      · rw [Nat.sub_zero] at h1
        obtain ⟨x, hx, hr⟩ := VRs.get hargs h1
        refine ⟨x, ?_, hr⟩
        have hlt := (List.getElem?_eq_some_iff.1 hx).1
        rw [Array.getElem?_append_left (by simpa using hlt)]
        simpa using hx
      · rw [T.get_e] at h1; cases h1
    split at h <;> first | (cases h; done) | skip
    rename_i x env' h1 hno hx
    split at h <;> first | (cases h; done) | skip
    rename_i vs hvs
    rw [Bool.and_eq_true] at h
    refine calls_of_wp hf hb (wp_mono (execL_wp (L := loopsOf c) hm (callK_sound hm (hk fs ok) n) (fun d hd l hl' hkey => by
      have := hl fs ok d (by rw [hbody]; exact hd) l hl' hkey
      rw [hnt] at this
      exact this) c _ _ _ _ _ (fun _ h => h) hx ρ w _ hE hH) ?_)
    rintro e a1 w1 ⟨rfl, ρ1, hst, hE1⟩
    obtain ⟨y, hy, hrun⟩ := results_sound (fn := fn) hst.hr hE1 hvs
    have hpost : ∀ p ∈ post, (h1.get p.1).isSome = true ∧ ∃ b s, ρ1 p.1 = some (b, s) ∧ TR ρ1 p.2 s w1.heap[b]? := fun p hp => by
      obtain ⟨a, ha, haf⟩ := (fitH_mem h.2).1 p hp
      have hid : ({} : Sub).nAt p.1 = p.1 := rfl
      rw [hid] at ha
      obtain ⟨b, s, hbs, hO⟩ := hst.hr.obj _ _ ha
      exact ⟨by rw [ha]; rfl, b, s, hbs, TR.sub0.1 (TB.fits_ok haf hO)⟩
    cases x with
    | exit id => exact absurd rfl (hno id)
    | normal => exact ⟨hE1.dz, y, hrun, fs, ok, v, post, ρ1, y, h1, hK, rfl, AV.fits_ok h.1 hy, hst, hpost⟩
    | ret => exact ⟨hE1.dz, y, hrun, fs, ok, v, post, ρ1, y, h1, hK, rfl, AV.fits_ok h.1 hy, hst, hpost⟩
  | .bad, _, _, _, hK, _, _ => hK.elim
  | .node q d e, fs, ok, h, hK, hH, hargs => by
    unfold treeC at h
    split at h <;> first | (cases h; done) | skip
    rename_i h1
    cases hq : q.ev σ with
    | true => exact treeC_calls hm hk hl d ((q, true) :: fs) (cons_ok ok hq) h1 (hK.1 hq) (HR.fac hH) (VRs.fac hargs)
    | false => exact treeC_calls hm hk hl e ((q, false) :: fs) (cons_ok ok hq) h (hK.2 hq) (HR.fac hH) (VRs.fac hargs)
/-- a law: it begins without blocks, and answers true -/
theorem law_calls (hm : P.follows .mixedOrders = true) {f : FuncId} {kcs : Kg} {lns : List Ln} (hk : KcAll gs rks ro P σ Ω kcs) (hl : LnAll gs rks ro P f σ Ω lns) {n : Nat} {args : List AV} {d : CT} {fs : List (Cnd × Bool)} (ok : ∀ f ∈ fs, f.1.ev σ = f.2)
    (h : treeC P gs rks kcs lns n f args ⟨[], [], ⟨0, 0, 0, 0⟩⟩ d fs = true) (hr : RunC σ (fun v _ => v = .bool true) d) (w : World) (hg : Tabs gs w) (hro : @Ros (nums gs rks ro σ Ω fs ok) w) {args' : Array Value} (hargs : @VRs (nums gs rks ro σ Ω fs ok) (fun _ => none) args args'.toList) :
    Calls P f args' w fun e w' => e = .returned (.bool true) ∧ Own w [] w' := by
  have hne : ∀ n, ((⟨[], [], ⟨0, 0, 0, 0⟩⟩ : Tm).h.get n) = none := fun n => by
    show (T.e : T AO).get n = none
    exact T.get_e n
  have hH : @HR (nums gs rks ro σ Ω fs ok) (fun _ => none) (⟨[], [], ⟨0, 0, 0, 0⟩⟩ : Tm).h.get (⟨[], [], ⟨0, 0, 0, 0⟩⟩ : Tm).h.next w :=
    @HR.mk (nums gs rks ro σ Ω fs ok) _ _ _ _ (fun _ _ => rfl) (fun n o hn => by rw [hne] at hn; cases hn) (fun n m b s s' hn => by rw [hne] at hn; cases hn) hg (fun b l _ n s hn => by rw [hne] at hn; cases hn) hro (fun b _ n s hn => by rw [hne] at hn; cases hn)
  refine (treeC_calls hm hk hl d fs ok h hr hH hargs).mono ?_
  rintro e w' ⟨fs', ok', v, post, ρ', x, h', rfl, rfl, hv, hst, _⟩
  unfold VR at hv
  subst hv
  refine ⟨rfl, ⟨⟨@Stp.os (nums gs rks ro σ Ω fs' ok') _ _ _ _ _ _ _ _ hst, @Stp.tape (nums gs rks ro σ Ω fs' ok') _ _ _ _ _ _ _ _ hst, @Stp.output (nums gs rks ro σ Ω fs' ok') _ _ _ _ _ _ _ _ hst, @Stp.size (nums gs rks ro σ Ω fs' ok') _ _ _ _ _ _ _ _ hst, fun b hb => @Stp.block (nums gs rks ro σ Ω fs' ok') _ _ _ _ _ _ _ _ hst b hb fun n s hn => by rw [hne] at hn; cases hn⟩, by simp, by simp⟩⟩
end
/-! a reading of numbers out of numbers and lists -/
/-- numbers 'v', lists 'l' -/
def sg (v : Nat → Int) (l : Nat → List (List Int)) (n : Nat) : Int :=
  if n < 2048 then v n else if n < 4096 then ((l (n - 2048)).length : Int) else (((l ((n - 4096) % 64))[(n - 4096) / 64 / 64]?).getD [])[(n - 4096) / 64 % 64]?.getD 0
theorem sg_v {v : Nat → Int} {l : Nat → List (List Int)} {i : Nat} (h : i < 2048) : sg v l i = v i := by simp [sg, h]
theorem sg_ln {v : Nat → Int} {l : Nat → List (List Int)} {i : Nat} (h : i < 64) : sg v l (ln i) = ((l i).length : Int) := by
  unfold sg ln
  rw [if_neg (by omega), if_pos (by omega), Nat.add_sub_cancel_left]
theorem sg_lc {v : Nat → Int} {l : Nat → List (List Int)} {i e j : Nat} (hi : i < 64) (hj : j < 64) : sg v l (lc i e j) = (((l i)[e]?).getD [])[j]?.getD 0 := by
  unfold sg lc
  rw [if_neg (by omega), if_neg (by omega), Nat.add_sub_cancel_left]
  have h1 : ((e * 64 + j) * 64 + i) % 64 = i := by omega
  have h2 : ((e * 64 + j) * 64 + i) / 64 = e * 64 + j := by omega
  have h3 : (e * 64 + j) / 64 = e := by omega
  have h4 : (e * 64 + j) % 64 = j := by omega
  rw [h1, h2, h3, h4]
end Go.Proofs.Ytigakendeghoaaa.Ex

/-
  Arguments opened to cells: flat types (numbers, bools, structs and arrays of such), and slices of them. No condition.
-/
namespace Go.Proofs.Ytigakendeghoaaa
open Go.ChangeShapes Go.WideShapes Go.ChangeAt Go.RowKit

/-- a cell of a kind: 'none': a bool -/
def CellIs : Option IntKind → Value → Prop
  | none, v => ∃ b, v = .bool b
  | some k, v => ∃ n, v = .int k n ∧ (Lit.int k n).wf = true

/-- the kinds of a struct's cells, from an offset on -/
def flatFields (P : Program) (K : TypeId → Option (List (Option IntKind))) : Nat → List Field → Option (List (Option IntKind))
  | _, [] => some []
  | off, f :: fs =>
    match K f.type with
    | some l => if f.offset = off ∧ l.length = P.cellsOf f.type then (flatFields P K (off + l.length) fs).map (l ++ ·) else none
    | none => none
/-- the kinds of a flat type's cells -/
def flatKinds (P : Program) : Nat → TypeId → Option (List (Option IntKind))
  | 0, _ => none
  | n + 1, t =>
    match P.underlying t with
    | some .bool => some [none]
    | some (.int k) => some [some k]
    | some (.struct fs) => flatFields P (flatKinds P n) 0 fs.toList
    | some (.array m e) =>
      match flatKinds P n e with
      | some l => if l.length = P.cellsOf e then some (List.replicate m l).flatten else none
      | none => none
    | _ => none

section
variable {H : Type} {enc : TypeId × Value → H} {P : Program} {w : World} {base : Nat} {spare : Nat → Bool} {held : Bool}

theorem flat_rep {l : List (Option IntKind)} {cs : List Value} : ∀ (m off : Nat) (_h : ∀ i, i < m → ∀ (j : Nat) (k : Option IntKind), l[j]? = some k → ∃ v, cs[off + i * l.length + j]? = some v ∧ CellIs k v) (i : Nat) (k : Option IntKind),
    (List.replicate m l).flatten[i]? = some k → ∃ v, cs[off + i]? = some v ∧ CellIs k v
  | 0, _, _, i, k, hk => by simp at hk
  | m + 1, off, h, i, k, hk => by
    rw [List.replicate_succ, List.flatten_cons] at hk
    by_cases hi : i < l.length
    · rw [List.getElem?_append_left hi] at hk
      have := h 0 (by omega) i k hk
      simpa using this
    · rw [List.getElem?_append_right (by omega)] at hk
      have h' : ∀ i, i < m → ∀ (j : Nat) (k : Option IntKind), l[j]? = some k → ∃ v, cs[(off + l.length) + i * l.length + j]? = some v ∧ CellIs k v := fun i' hi' j k' hk' => by
        have := h (i' + 1) (by omega) j k' hk'
        rwa [show off + (i' + 1) * l.length + j = off + l.length + i' * l.length + j from by rw [Nat.succ_mul]; omega] at this
      have := flat_rep m (off + l.length) h' (i - l.length) k hk
      rwa [show off + l.length + (i - l.length) = off + i from by omega] at this

theorem flat_fields {cs : List Value} {K : TypeId → Option (List (Option IntKind))} : ∀ (fs : List Field) (off : Nat) (ks : List (Option IntKind)), flatFields P K off fs = some ks →
    (∀ f ∈ fs, ∀ l, K f.type = some l → l.length = P.cellsOf f.type → ∀ (j : Nat) (k : Option IntKind), l[j]? = some k → ∃ v, cs[f.offset + j]? = some v ∧ CellIs k v) →
    ∀ (i : Nat) (k : Option IntKind), ks[i]? = some k → ∃ v, cs[off + i]? = some v ∧ CellIs k v
  | [], off, ks, hks, _, i, k, hk => by
    simp only [flatFields, Option.some.injEq] at hks
    subst hks
    simp at hk
  | f :: fs, off, ks, hks, hf, i, k, hk => by
    simp only [flatFields] at hks
    split at hks
    · rename_i l hl
      split at hks
      · rename_i hc
        obtain ⟨r, hr, rfl⟩ := Option.map_eq_some_iff.1 hks
        by_cases hi : i < l.length
        · rw [List.getElem?_append_left hi] at hk
          have := hf f List.mem_cons_self l hl hc.2 i k hk
          rwa [hc.1] at this
        · rw [List.getElem?_append_right (by omega)] at hk
          have := flat_fields fs (off + l.length) r hr (fun g hg => hf g (List.mem_cons_of_mem _ hg)) (i - l.length) k hk
          rwa [show off + l.length + (i - l.length) = off + i from by omega] at this
      · cases hks
    · cases hks

theorem take_drop_get {cs : List Value} {a n j : Nat} {v : Value} (h : ((cs.drop a).take n)[j]? = some v) : cs[a + j]? = some v := by
  rw [List.getElem?_take] at h
  split at h
  · rwa [List.getElem?_drop] at h
  · cases h

/-- what is read of a flat type: each cell is of its kind -/
theorem trod_flat : ∀ (fuel n : Nat) (t : TypeId) (cs : List Value) (x : DataW H × List MemPlace) (ks : List (Option IntKind)), DataW.trod enc P w base spare held fuel t cs = some x → flatKinds P n t = some ks →
    ∀ (i : Nat) (k : Option IntKind), ks[i]? = some k → ∃ v, cs[i]? = some v ∧ CellIs k v
  | 0, _, _, _, _, _, h, _ => by simp [DataW.trod] at h
  | fuel + 1, 0, _, _, _, _, _, hk => by simp [flatKinds] at hk
  | fuel + 1, n + 1, t, cs, x, ks, h, hks => by
    intro i k hk
    unfold flatKinds at hks
    split at hks
    · rename_i hu
      simp only [Option.some.injEq] at hks
      subst hks
      unfold DataW.trod at h
      rw [hu] at h
      match cs, h with
      | [.bool b], _ =>
        match i, hk with
        | 0, hk => simp at hk; subst hk; exact ⟨_, rfl, b, rfl⟩
        | i + 1, hk => simp at hk
    · rename_i q hu
      simp only [Option.some.injEq] at hks
      subst hks
      unfold DataW.trod at h
      rw [hu] at h
      match cs, h with
      | [.int k' z], h =>
        simp only at h
        split at h
        · rename_i hc
          match i, hk with
          | 0, hk => simp at hk; subst hk; exact ⟨_, rfl, z, by rw [hc.1], hc.2⟩
          | i + 1, hk => simp at hk
        · cases h
    · rename_i fs hu
      obtain ⟨xs, m, hm, _, hcl, _, hf⟩ := DataW.trod_struct hu h
      obtain rfl : fuel = m := by omega
      have := flat_fields (cs := cs) fs.toList 0 ks hks (fun f hfm l hl hlc j k' hk' => by
        obtain ⟨i', hi', hfi⟩ := List.getElem_of_mem hfm
        have hfi' : fs[i']? = some f := by rw [← Array.getElem?_toList, List.getElem?_eq_getElem hi', hfi]
        have ht := hf i' f hfi'
        have hlt : i' < xs.length := by have : i' < fs.size := by simpa using hi'
                                        omega
        rw [List.getElem?_eq_getElem hlt] at ht
        obtain ⟨v, hv, hc⟩ := trod_flat fuel n f.type _ _ l ht hl j k' hk'
        exact ⟨v, take_drop_get hv, hc⟩) i k hk
      simpa using this
    · rename_i m e hu
      split at hks
      · rename_i l hl
        split at hks
        · rename_i hlc
          simp only [Option.some.injEq] at hks
          subst hks
          unfold DataW.trod at h
          rw [hu] at h
          have h2 : ∃ xs, (List.range m).mapM (fun i => DataW.trod enc P w base spare held fuel e ((cs.drop (i * P.cellsOf e)).take (P.cellsOf e))) = some xs := by
            split at h <;> simp_all
            obtain ⟨_, xs, hx, _⟩ := h
            exact ⟨xs, hx⟩
          obtain ⟨xs, hx⟩ := h2
          have := flat_rep (l := l) (cs := cs) m 0 (fun i' hi' j k' hk' => by
            have hg := mapM_some_get hx i' i' (by simp [hi'])
            have hlen := mapM_some_length hx
            have hlt : i' < xs.length := by simpa [hlen] using hi'
            rw [List.getElem?_eq_getElem hlt] at hg
            obtain ⟨v, hv, hc⟩ := trod_flat fuel n e _ _ l hg hl j k' hk'
            refine ⟨v, ?_, hc⟩
            rw [hlc]
            simpa using take_drop_get hv) i k hk
          simpa using this
        · cases hks
      · cases hks
    · cases hks

/-- an argument of a struct's or an array's type is an aggregate of so many cells -/
theorem arg_agg {r : Reach} {b0 : Nat} {t : TypeId} {v : Value} (hu : (match P.underlying t with | some (.struct _) | some (.array _ _) => true | _ => false) = true) (hv : Value.okWide P w r b0 t v) :
    ∃ cs : Array Value, v = .agg cs ∧ cs.size = P.cellsOf t := by
  unfold Value.okWide at hv
  split at hv
  · obtain ⟨cs, h1, h2, _⟩ := hv; exact ⟨cs, h1, h2⟩
  · obtain ⟨cs, h1, h2, _⟩ := hv; exact ⟨cs, h1, h2⟩
  · rename_i h1 h2
    split at hu
    · rename_i q hq; exact absurd hq (h1 q)
    · rename_i q r hq; exact absurd hq (h2 q r)
    · cases hu
/-- ... each of its cells is of its kind -/
theorem open_flat {r : Reach} {b0 : Nat} {t : TypeId} {v : Value} {d : DataW H} {p : List MemPlace} (n : Nat) {ks : List (Option IntKind)} (hu : (match P.underlying t with | some (.struct _) | some (.array _ _) => true | _ => false) = true)
    (hks : flatKinds P n t = some ks) (hv : Value.okWide P w r b0 t v) (h : DataW.Trod enc P w base spare held t v d p) :
    ∃ cs : Array Value, v = .agg cs ∧ cs.size = P.cellsOf t ∧ ∀ (i : Nat) (k : Option IntKind), ks[i]? = some k → ∃ u, cs[i]? = some u ∧ CellIs k u := by
  obtain ⟨cs, rfl, hs⟩ := arg_agg hu hv
  obtain ⟨fuel, hf⟩ := h
  refine ⟨cs, rfl, hs, fun i k hk => ?_⟩
  obtain ⟨u, h1, h2⟩ := trod_flat fuel n t _ _ ks hf hks i k hk
  exact ⟨u, by simpa [Value.cells] using h1, h2⟩
/-- a slice of a flat type: each cell of each element is of its kind -/
theorem open_slice_flat {t e : TypeId} {v : Value} {d : DataW H} {p : List MemPlace} (n : Nat) {ks : List (Option IntKind)} (ht : P.underlying t = some (.slice e)) (hks : flatKinds P n e = some ks) (hone : v.cells.toList = [v])
    (h : DataW.Trod enc P w base spare held t v d p) (_hlt : ∀ x ∈ p, x.block < w.heap.size) (hpos : 0 < P.cellsOf e) :
    v = .slice none 0 0 ∨ ∃ (a : Addr) (len cap : Nat), v = .slice (some a) len cap ∧ len ≤ cap ∧ cap ≤ maxLen ∧ (0 < len → a.block < w.heap.size) ∧
      ∀ i, i < len → ∀ (j : Nat) (k : Option IntKind), ks[j]? = some k → ∃ u, w.cell? (a.add (i * P.cellsOf e + j)) = some u ∧ CellIs k u := by
  obtain ⟨fuel, hf⟩ := h
  rw [hone] at hf
  rcases Deep.open_slice ht hf with ⟨h0, _⟩ | ⟨a, len, cap, m, n', D, Pl, hcs, hb, hl, hm, hmm, hx, hi⟩
  · left; simpa using h0
  · right
    refine ⟨a, len, cap, by simpa using hcs, hl, hm, ?_, ?_⟩
    · intro hpos'
      have hml : len ≤ m := by rw [hmm]; split <;> omega
      obtain ⟨cs', hc, _⟩ := hi 0 (by omega)
      obtain ⟨_, hcl, hat⟩ := World.cells?_some hc
      have h0 := hat 0 (by omega)
      have h1 : cs'[0]? = some (cs'[0]'(by omega)) := List.getElem?_eq_getElem (by omega)
      rw [h1] at h0
      have := block_lt_of_cell h0
      simpa [Addr.add] using this
    · intro i hil j k hk
      have hml : len ≤ m := by rw [hmm]; split <;> omega
      obtain ⟨cs', hc, ht'⟩ := hi i (by omega)
      obtain ⟨u, hu, hcell⟩ := trod_flat n' n e cs' _ ks ht' hks j k hk
      obtain ⟨_, hcl, hat⟩ := World.cells?_some hc
      have hj : j < P.cellsOf e := by
        have := (List.getElem?_eq_some_iff.1 hu).1
        omega
      have := hat j hj
      rw [← Go.Deep.add_add, this, hu]
      exact ⟨u, rfl, hcell⟩

/-- a slice's elements, cell by cell, are of their kinds -/
def FlatAt (W : World) (ks : List (Option IntKind)) (A : Option Addr) (len : Nat) : Prop :=
  0 < len → ∃ B o, A = some ⟨B, o, none⟩ ∧ B < W.heap.size ∧ ∀ i, i < len → ∀ (j : Nat) (k : Option IntKind), ks[j]? = some k → ∃ u, W.cell? ⟨B, o + i * ks.length + j, none⟩ = some u ∧ CellIs k u
theorem open_slice_at {t e : TypeId} {v : Value} {d : DataW H} {p : List MemPlace} (n : Nat) {ks : List (Option IntKind)} (ht : P.underlying t = some (.slice e)) (hks : flatKinds P n e = some ks) (hlen : P.cellsOf e = ks.length) (hpos : 0 < ks.length) (hone : v.cells.toList = [v])
    (h : DataW.Trod enc P w base spare held t v d p) (hlt : ∀ x ∈ p, x.block < w.heap.size) :
    ∃ (A : Option Addr) (len cap : Nat), v = .slice A len cap ∧ len ≤ cap ∧ cap ≤ maxLen ∧ FlatAt w ks A len := by
  rcases open_slice_flat n ht hks hone h hlt (by omega) with rfl | ⟨a, len, cap, rfl, hl, hm, hb, hc⟩
  · exact ⟨none, 0, 0, rfl, Nat.le_refl _, by unfold maxLen; omega, fun h => absurd h (by omega)⟩
  · refine ⟨some a, len, cap, rfl, hl, hm, fun hp => ?_⟩
    obtain ⟨u, hu, _⟩ := hc 0 hp 0 (ks[0]'(by omega)) (List.getElem?_eq_getElem (by omega))
    have hs : a.spot = none := by
      have h0 : a.add (0 * P.cellsOf e + 0) = a := by simp [Addr.add]
      rw [h0] at hu
      unfold World.cell? at hu
      split at hu
      · split at hu
        · cases hu
        · simpa using ‹¬ a.spot.isSome = true›
      · cases hu
    obtain ⟨B, o, s⟩ := a
    simp only at hs
    subst hs
    refine ⟨B, o, rfl, hb hp, fun i hi j k hk => ?_⟩
    obtain ⟨u, hu, hk'⟩ := hc i hi j k hk
    refine ⟨u, ?_, hk'⟩
    rw [← hlen]
    have e1 : (⟨B, o, none⟩ : Addr).add (i * P.cellsOf e + j) = ⟨B, o + (i * P.cellsOf e + j), none⟩ := by
      unfold Addr.add
      split
      · rename_i h0; rw [h0]; rfl
      · rfl
    rw [e1] at hu
    rw [show o + i * P.cellsOf e + j = o + (i * P.cellsOf e + j) from by omega]
    exact hu
/-- an argument of a slice's type is one cell -/
theorem arg_slice {r : Reach} {b0 : Nat} {t e : TypeId} {v : Value} (ht : P.underlying t = some (.slice e)) (hv : Value.okWide P w r b0 t v) : v.cells.toList = [v] := by
  unfold Value.okWide at hv
  rw [ht] at hv
  simp only at hv
  unfold Cell.okWide at hv
  rw [ht] at hv
  cases v <;> first | rfl | (simp [Cell.ok, ht] at hv)
/-- a block of numbers is a slice of structs of numbers -/
theorem flatAt_of {W : World} {g : Nat} {T : TypeId} {l : List Int} {n len : Nat} (hg : W.heap[g]? = some (.cells (l.map fun x => Value.int .i64 x).toArray T (0, 0))) (hl : len * n ≤ l.length) (hwf : ∀ x ∈ l, (Lit.int .i64 x).wf = true) :
    FlatAt W (List.replicate n (some .i64)) (some ⟨g, 0, none⟩) len := by
  intro _
  refine ⟨g, 0, rfl, heap_lt hg, fun i hi j k hk => ?_⟩
  have hj : j < n := by have := (List.getElem?_eq_some_iff.1 hk).1; simpa using this
  have hk' : k = some .i64 := by
    rw [List.getElem?_replicate, if_pos hj] at hk
    exact (Option.some.inj hk).symm
  subst hk'
  rw [List.length_replicate]
  have hlt : 0 + i * n + j < l.length := by
    have : (i + 1) * n ≤ len * n := Nat.mul_le_mul_right _ hi
    rw [Nat.succ_mul] at this
    omega
  refine ⟨.int .i64 l[0 + i * n + j], ?_, _, rfl, hwf _ (List.getElem_mem hlt)⟩
  simp [World.cell?, hg, List.getElem?_eq_getElem (show i * n + j < l.length by omega)]
end
end Go.Proofs.Ytigakendeghoaaa

/-
  The runner: arguments that are slices of numbers, or of bools. No condition.
-/
namespace Go.Proofs.Ytigakendeghoaaa.Ex
open Go Go.ChangeShapes Go.WideShapes Go.ChangeAt Go.RowKit
def ckOf : Option IntKind → CK
  | none => .bool
  | some k => .int k
def ckWf : Option IntKind → Int → Prop
  | none, _ => True
  | some k, n => (Lit.int k n).wf = true
/-- the numbers of a slice -/
theorem flat_list {W : World} {k : Option IntKind} {A : Option Addr} {len : Nat} (h : FlatAt W [k] A len) :
    ∃ L : List Int, L.length = len ∧ (∀ a, A = some a → 0 < len → a.block < W.heap.size ∧ ∀ e, e < len → W.cell? (a.add e) = some ((ckOf k).val (L[e]?.getD 0))) ∧ (A = none → len = 0) ∧ ∀ x ∈ L, ckWf k x := by
  by_cases h0 : len = 0
  · subst h0
    exact ⟨[], rfl, fun _ _ h => by omega, fun _ => rfl, by simp⟩
  obtain ⟨B, o, rfl, hB, hc⟩ := h (by omega)
  have hv : ∀ e, e < len → ∃ x : Int, W.cell? ⟨B, o + e, none⟩ = some ((ckOf k).val x) ∧ ckWf k x := by
    intro e he
    obtain ⟨u, hu, hk⟩ := hc e he 0 k rfl
    simp only [List.length_cons, List.length_nil, Nat.zero_add, Nat.mul_one, Nat.add_zero] at hu
    cases k with
    | none =>
      obtain ⟨b, rfl⟩ := hk
      refine ⟨if b then 1 else 0, ?_, trivial⟩
      rw [hu]
      cases b <;> rfl
    | some k =>
      obtain ⟨n, rfl, hw⟩ := hk
      exact ⟨n, hu, hw⟩
  have hL : ∀ n, n ≤ len → ∃ L : List Int, L.length = n ∧ (∀ e, e < n → W.cell? ⟨B, o + e, none⟩ = some ((ckOf k).val (L[e]?.getD 0))) ∧ ∀ x ∈ L, ckWf k x := by
    intro n
    induction n with
    | zero => intro _; exact ⟨[], rfl, fun e he => by omega, by simp⟩
    | succ n ih =>
      intro hn
      obtain ⟨L, h1, h2, h3⟩ := ih (by omega)
      obtain ⟨x, hx, hw⟩ := hv n (by omega)
      refine ⟨L ++ [x], by simp [h1], fun e he => ?_, fun y hy => ?_⟩
      · by_cases hen : e = n
        · subst hen
          rw [hx, List.getElem?_append_right (by omega), h1]
          simp
        · rw [h2 e (by omega), List.getElem?_append_left (by omega)]
      · rcases List.mem_append.1 hy with hy | hy
        · exact h3 y hy
        · rw [List.mem_singleton] at hy
          subst hy
          exact hw
  obtain ⟨L, h1, h2, h3⟩ := hL len (Nat.le_refl _)
  refine ⟨L, h1, fun a ha _ => ?_, (fun hn => by cases hn), h3⟩
  cases ha
  refine ⟨hB, fun e he => ?_⟩
  rw [← h2 e he]
  congr 1
  unfold Addr.add
  split
  · rename_i h0; subst h0; rfl
  · rfl
end Go.Proofs.Ytigakendeghoaaa.Ex

/-
  Rows of numbers in memory: a function on indexes, or a list. No condition.
-/
namespace Go.Proofs.Ytigakendeghoaaa
open Go.RowKit

/-- n cells, each the number that a function gives -/
def rowOf (n : Nat) (f : Nat → Int) : Array Value := ((List.range n).map fun i => Value.int .i64 (f i)).toArray
theorem rowOf_size (n : Nat) (f : Nat → Int) : (rowOf n f).size = n := by simp [rowOf]
theorem rowOf_get {n i : Nat} (f : Nat → Int) (h : i < n) : (rowOf n f)[i]? = some (.int .i64 (f i)) := by simp [rowOf, h]
theorem rowOf_congr {n : Nat} {f g : Nat → Int} (h : ∀ i, i < n → f i = g i) : rowOf n f = rowOf n g := by
  unfold rowOf
  congr 1
  exact List.map_congr_left fun i hi => by rw [h i (by simpa using hi)]
theorem rowOf_set {n i : Nat} (f : Nat → Int) (v : Int) (h : i < n) : (rowOf n f).setIfInBounds i (.int .i64 v) = rowOf n (fun j => if j = i then v else f j) := by
  apply Array.ext_getElem?
  intro j
  rw [Array.getElem?_setIfInBounds]
  by_cases hj : j < n
  · rw [rowOf_size, rowOf_get (fun j => if j = i then v else f j) hj]
    by_cases hij : i = j
    · subst hij; simp [h]
    · rw [if_neg hij, rowOf_get f hj, if_neg (by omega)]
  · rw [if_neg (by omega), Array.getElem?_eq_none (by rw [rowOf_size]; omega), Array.getElem?_eq_none (by rw [rowOf_size]; omega)]
theorem rowOf_rep (n : Nat) : Array.replicate n (Value.int .i64 0) = rowOf n (fun _ => 0) := by
  apply Array.ext_getElem?
  intro j
  by_cases hj : j < n
  · rw [rowOf_get _ hj]; simp [hj]
  · rw [Array.getElem?_eq_none (by simp; omega), Array.getElem?_eq_none (by rw [rowOf_size]; omega)]

/-- the cells of a list of numbers -/
def intCells (l : List Int) : Array Value := (l.map fun n => Value.int .i64 n).toArray
theorem intCells_size (l : List Int) : (intCells l).size = l.length := by simp [intCells]
theorem intCells_get (l : List Int) (i : Nat) : (intCells l)[i]? = (l[i]?).map fun n => Value.int .i64 n := by simp [intCells]
theorem intCells_set (l : List Int) (i : Nat) (v : Int) : (intCells l).setIfInBounds i (.int .i64 v) = intCells (l.set i v) := by
  apply Array.ext_getElem?
  intro j
  rw [Array.getElem?_setIfInBounds, intCells_get, intCells_get, intCells_size, List.getElem?_set]
  by_cases hij : i = j
  · subst hij
    by_cases h : i < l.length
    · simp [h]
    · simp [h]
  · simp [hij]

section
variable {W w : World} {X m : List (Nat × Obj)} {hb n i : Nat} {f : Nat → Int} {T : TypeId}
theorem row_at (h : Own W (X ++ (hb, .cells (rowOf n f) T) :: m) w) (hi : i < n) : w.cell? ⟨hb, i, none⟩ = some (.int .i64 (f i)) := by
  rw [h.cell (List.mem_append_right _ List.mem_cons_self), rowOf_get f hi]
theorem row_free (h : Own W (X ++ (hb, .cells (rowOf n f) T) :: m) w) : w.frozen? ⟨hb, i, none⟩ = false :=
  h.frozen (List.mem_append_right _ List.mem_cons_self) i
theorem row_lt (h : Own W (X ++ (hb, .cells (rowOf n f) T) :: m) w) : hb < w.heap.size := h.lt (List.mem_append_right _ List.mem_cons_self)
theorem row_set (h : Own W (X ++ (hb, .cells (rowOf n f) T) :: m) w) (hi : i < n) (v : Int) (g : Nat → Int) (hg : ∀ j, j < n → (if j = i then v else f j) = g j) :
    Own W (X ++ (hb, .cells (rowOf n g) T) :: m) (w.setCell ⟨hb, i, none⟩ (.int .i64 v)) := by
  have := h.setIn i (.int .i64 v)
  rw [rowOf_set f v hi, rowOf_congr hg] at this
  exact this
end
end Go.Proofs.Ytigakendeghoaaa

/-
  Slices that the call owns: what they hold, and append onto them. No condition but sizes.
-/
namespace Go.Proofs.Ytigakendeghoaaa
open Go.RowKit

/-- a slice value of n elements, whose cells are 'xs', and the blocks that it owns: none, or one ('ex': the block has just the slice's room) -/
def SlO (ex : Bool) (e size : Nat) (v : Value) (n : Nat) (xs : List Value) (bs : List (Nat × Obj)) : Prop :=
  xs.length = n * size ∧ ((v = .slice none 0 0 ∧ n = 0 ∧ bs = []) ∨
    ∃ g cap cur, v = .slice (some ⟨g, 0, none⟩) n cap ∧ bs = [(g, .cells cur e)] ∧ n ≤ cap ∧ cap ≤ maxLen ∧ (cap * size ≤ cur.size ∧ (ex = true → cur.size = cap * size)) ∧ cur.toList.take (n * size) = xs)
/-- .. one that may be appended to: its block has no more room than it knows of -/
abbrev SlOwn := SlO true
/-- a slice value of n elements that reads as the cells 'xs' -/
def Src (w : World) (size : Nat) (v : Value) (n : Nat) (xs : List Value) : Prop :=
  xs.length = n * size ∧ ((v = .slice none 0 0 ∧ n = 0) ∨ ∃ a c, v = .slice (some a) n c ∧ ∀ j u, xs[j]? = some u → w.cell? (a.add j) = some u)

theorem add_lit0 (g j : Nat) : (⟨g, 0, none⟩ : Addr).add j = ⟨g, j, none⟩ := by
  unfold Addr.add
  split <;> simp_all
theorem add_lit (g o j : Nat) : (⟨g, o, none⟩ : Addr).add j = ⟨g, o + j, none⟩ := by
  unfold Addr.add
  split <;> simp_all

section
variable {ex : Bool} {W w : World} {m : List (Nat × Obj)} {e size n : Nat} {v : Value} {xs : List Value} {bs : List (Nat × Obj)} {P : Program}

theorem SlO.nil (ex : Bool) (e size : Nat) : SlO ex e size (.slice none 0 0) 0 [] [] := ⟨by simp, .inl ⟨rfl, rfl, rfl⟩⟩
theorem SlO.made (ex : Bool) (e size g cap : Nat) (cur : Array Value) (n : Nat) (hn : n ≤ cap) (hc : cap ≤ maxLen) (hs : cur.size = cap * size) :
    SlO ex e size (.slice (some ⟨g, 0, none⟩) n cap) n (cur.toList.take (n * size)) [(g, .cells cur e)] :=
  ⟨by rw [List.length_take, Array.length_toList, hs, Nat.min_eq_left (Nat.mul_le_mul_right _ hn)], .inr ⟨g, cap, cur, rfl, rfl, hn, hc, ⟨by omega, fun _ => hs⟩, rfl⟩⟩
theorem SlO.form (h : SlO ex e size v n xs bs) (hn : 0 < n) : ∃ g cap cur, v = .slice (some ⟨g, 0, none⟩) n cap ∧ bs = [(g, .cells cur e)] ∧ n ≤ cap ∧ cap ≤ maxLen ∧ (cap * size ≤ cur.size ∧ (ex = true → cur.size = cap * size)) ∧ cur.toList.take (n * size) = xs := by
  rcases h.2 with ⟨_, h0, _⟩ | h
  · omega
  · exact h
theorem SlO.len (h : SlO ex e size v n xs bs) : xs.length = n * size := h.1
theorem SlO.slice (h : SlO ex e size v n xs bs) : ∃ A cap, v = .slice A n cap ∧ n ≤ cap ∧ cap ≤ maxLen := by
  rcases h.2 with ⟨rfl, rfl, _⟩ | ⟨g, cap, cur, rfl, _, h1, h2, _⟩
  · exact ⟨none, 0, rfl, Nat.le_refl _, by unfold maxLen; omega⟩
  · exact ⟨_, cap, rfl, h1, h2⟩
/-- the cell at an index -/
theorem SlO.cell (h : SlO ex e size v n xs bs) (hO : Own W (bs ++ m) w) {g cap : Nat} (hv : v = .slice (some ⟨g, 0, none⟩) n cap) {j : Nat} {u : Value} (hj : xs[j]? = some u) : w.cell? ⟨g, j, none⟩ = some u := by
  rcases h.2 with ⟨rfl, _, _⟩ | ⟨g', cap', cur, rfl, rfl, h1, h2, h3, h4⟩
  · cases hv
  · simp only [Value.slice.injEq, Option.some.injEq, Addr.mk.injEq, and_true, true_and] at hv
    obtain ⟨rfl, rfl⟩ := hv
    rw [hO.cell List.mem_cons_self]
    rw [← h4] at hj
    rw [List.getElem?_take] at hj
    split at hj
    · simpa using hj
    · cases hj
theorem SlO.src (h : SlO ex e size v n xs bs) (hO : Own W (bs ++ m) w) : Src w size v n xs := by
  refine ⟨h.1, ?_⟩
  rcases h.2 with ⟨rfl, rfl, _⟩ | ⟨g, cap, cur, rfl, h0, _⟩
  · exact .inl ⟨rfl, rfl⟩
  · refine .inr ⟨_, _, rfl, fun j u hj => ?_⟩
    rw [add_lit0]
    exact h.cell hO rfl hj
theorem SlO.free (h : SlO ex e size v n xs bs) (hO : Own W (bs ++ m) w) {g cap : Nat} (hv : v = .slice (some ⟨g, 0, none⟩) n cap) (j : Nat) : w.frozen? ⟨g, j, none⟩ = false := by
  rcases h.2 with ⟨rfl, _, _⟩ | ⟨g', cap', cur, rfl, rfl, _⟩
  · cases hv
  · simp only [Value.slice.injEq, Option.some.injEq, Addr.mk.injEq, and_true, true_and] at hv
    obtain ⟨rfl, rfl⟩ := hv
    exact hO.frozen List.mem_cons_self j
theorem SlO.lt (h : SlO ex e size v n xs bs) (hO : Own W (bs ++ m) w) {g cap : Nat} (hv : v = .slice (some ⟨g, 0, none⟩) n cap) : g < w.heap.size := by
  rcases h.2 with ⟨rfl, _, _⟩ | ⟨g', cap', cur, rfl, rfl, _⟩
  · cases hv
  · simp only [Value.slice.injEq, Option.some.injEq, Addr.mk.injEq, and_true, true_and] at hv
    obtain ⟨rfl, rfl⟩ := hv
    exact hO.lt List.mem_cons_self
/-- a cell is stored -/
theorem SlO.store (h : SlO ex e size v n xs bs) (hO : Own W (bs ++ m) w) {g cap : Nat} (hv : v = .slice (some ⟨g, 0, none⟩) n cap) {j : Nat} (_hj : j < n * size) (u : Value) :
    ∃ bs', SlO ex e size v n (xs.set j u) bs' ∧ Own W (bs' ++ m) (w.setCell ⟨g, j, none⟩ u) := by
  rcases h.2 with ⟨rfl, _, _⟩ | ⟨g', cap', cur, rfl, rfl, h1, h2, h3, h4⟩
  · cases hv
  · simp only [Value.slice.injEq, Option.some.injEq, Addr.mk.injEq, and_true, true_and] at hv
    obtain ⟨rfl, rfl⟩ := hv
    refine ⟨[(g', .cells (cur.setIfInBounds j u) e)], ⟨by rw [List.length_set]; exact h.1, .inr ⟨g', cap', _, rfl, rfl, h1, h2, by rw [Array.size_setIfInBounds]; exact h3, ?_⟩⟩, hO.set j u⟩
    rw [Array.toList_setIfInBounds, List.take_set, h4]
/-- shorter: the same block -/
theorem SlO.shorter (h : SlO ex e size v n xs bs) {g cap k : Nat} (hv : v = .slice (some ⟨g, 0, none⟩) n cap) (hk : k ≤ n) : SlO ex e size (.slice (some ⟨g, 0, none⟩) k cap) k (xs.take (k * size)) bs := by
  rcases h.2 with ⟨rfl, _, _⟩ | ⟨g', cap', cur, rfl, rfl, h1, h2, h3, h4⟩
  · cases hv
  · simp only [Value.slice.injEq, Option.some.injEq, Addr.mk.injEq, and_true, true_and] at hv
    obtain ⟨rfl, rfl⟩ := hv
    have hle : k * size ≤ n * size := Nat.mul_le_mul_right _ hk
    refine ⟨by rw [List.length_take, h.1]; omega, .inr ⟨g', cap', cur, rfl, rfl, by omega, h2, h3, ?_⟩⟩
    rw [← h4, List.take_take, Nat.min_eq_left hle]
/-- what may be appended to may be read and written -/
theorem SlO.weak (h : SlO ex e size v n xs bs) : SlO false e size v n xs bs := by
  refine ⟨h.1, ?_⟩
  rcases h.2 with h0 | ⟨g, cap, cur, hv, hb, h1, h2, h3, h4⟩
  · exact .inl h0
  · exact .inr ⟨g, cap, cur, hv, hb, h1, h2, ⟨h3.1, fun h => by cases h⟩, h4⟩
/-- shorter, and with less room ('s[:k:k]') -/
theorem SlO.cut (h : SlO ex e size v n xs bs) {g cap k : Nat} (hv : v = .slice (some ⟨g, 0, none⟩) n cap) (hk : k ≤ n) : SlO false e size (.slice (some ⟨g, 0, none⟩) k k) k (xs.take (k * size)) bs := by
  rcases h.2 with ⟨rfl, _, _⟩ | ⟨g', cap', cur, rfl, rfl, h1, h2, h3, h4⟩
  · cases hv
  · simp only [Value.slice.injEq, Option.some.injEq, Addr.mk.injEq, and_true, true_and] at hv
    obtain ⟨rfl, rfl⟩ := hv
    have hle : k * size ≤ n * size := Nat.mul_le_mul_right _ hk
    have hle2 : n * size ≤ cap' * size := Nat.mul_le_mul_right _ h1
    refine ⟨by rw [List.length_take, h.1]; omega, .inr ⟨g', k, cur, rfl, rfl, Nat.le_refl _, by omega, ⟨by omega, fun h => by cases h⟩, ?_⟩⟩
    rw [← h4, List.take_take, Nat.min_eq_left hle]
theorem Src.setCell (h : Src w size v n xs) {a : Addr} {u : Value} (ha : ∀ b c, v = .slice (some b) n c → b.block ≠ a.block) : Src (w.setCell a u) size v n xs := by
  refine ⟨h.1, ?_⟩
  rcases h.2 with h0 | ⟨b, c, hv, hc⟩
  · exact .inl h0
  · refine .inr ⟨b, c, hv, fun j x hj => ?_⟩
    rw [World.cell?_of_block (w := w) (Below.heap_setCell w a u _ (by rw [ChangeShapes.block_add]; exact ha b c hv))]
    exact hc j x hj
theorem Src.below (h : Src w size v n xs) {w' : World} (hb : Below w.heap.size w w') : Src w' size v n xs := by
  refine ⟨h.1, ?_⟩
  rcases h.2 with h0 | ⟨b, c, hv, hc⟩
  · exact .inl h0
  · refine .inr ⟨b, c, hv, fun j x hj => ?_⟩
    have := hc j x hj
    rw [hb.cell (World.block_lt_of_cell? w _ this)]
    exact this
theorem Src.ofOwn (h : Src W size v n xs) (hO : Own W m w) : Src w size v n xs := h.below hO.below

/-- APPEND onto a slice that the call owns: what it is then, and what is owned. -/
theorem run_app (t ty e : TypeId) (i : TypeInfo) (z : Value) (size bytes : Nat) (ht : P.underlying t = some (.slice e)) (hi : P.info? e = some i) (hz : i.zero = some z)
    (hsize : i.size = size) (hby : i.bytes = bytes) (hzs : z.cells.size = size) (hsz : 0 < size)
    (hs : SlOwn e size v n xs bs) (hO : Own W (bs ++ m) w) {x : Value} {k : Nat} {news : List Value} (hx : Src w size x k news) (h1 : ∀ u ∈ news, u.oneCell' = true)
    (h63 : n + k ≤ maxLen) (hbytes : (n + k) * bytes ≤ 140737488355328) :
    ∃ v' w' bs', (Builtin.append_ #[t, t] ty #[v, x]).run P w = .ok v' w' ∧ SlOwn e size v' (n + k) (xs ++ news) bs' ∧ Own W (bs' ++ m) w' ∧ (v' = .slice none 0 0 ↔ v = .slice none 0 0 ∧ k = 0) := by
  have hown : w.ownsRow W.heap.size e size v n xs := by
    refine ⟨hs.1, ?_⟩
    rcases hs.2 with ⟨h0, h1, _⟩ | ⟨g, cap, cur, hv, hb, ha, hc, hd, he⟩
    · exact .inl ⟨h0, h1⟩
    · subst hb
      exact .inr ⟨g, cap, cur, hv, hO.ge List.mem_cons_self, hO.get List.mem_cons_self, ha, hc, hd.2 rfl, he⟩
  rcases hx.2 with ⟨rfl, rfl⟩ | ⟨ad, c, rfl, hc⟩
  · have hn : news = [] := List.eq_nil_of_length_eq_zero (by simpa using hx.1)
    subst hn
    refine ⟨v, w, bs, ?_, by simpa using hs, hO, by simp⟩
    obtain ⟨A, cap, rfl, hle, _⟩ := SlO.slice hs
    cases A with
    | none => simp [Builtin.append_, run_underlying ht, sizeOf, typeInfo, hi, Builtin.lenOf, Builtin.firstCells, hle]
    | some a => simp [Builtin.append_, run_underlying ht, sizeOf, typeInfo, hi, Builtin.lenOf, Builtin.firstCells, hle, storeCells]
  · obtain ⟨v', w', hr, h2, h3, h4, h5⟩ := run_append_own_at (P := P) w W.heap.size t ty e i z size bytes ht hi hz hsize hby hzs hsz v n xs hown ad k c news hx.1 hc h1 h63 hbytes hO.size_le
    have hbel : Below W.heap.size W w' := hO.below.grown h3 hO.size_le (fun q hq => (hown.lt q hq).1)
    rcases h2.2 with ⟨hv', hn'⟩ | ⟨g, cap, cur, hv', hge, hg, ha, hb, hcs, htk⟩
    · subst hv'
      have hv0 := (h4.1 rfl).1
      subst hv0
      have hbs : bs = [] := by
        rcases hs.2 with ⟨_, _, h⟩ | ⟨g, cap, cur, hv, _⟩
        · exact h
        · cases hv
      subst hbs
      refine ⟨_, w', [], hr, ⟨h2.1, .inl ⟨rfl, hn', rfl⟩⟩, ⟨hbel, fun p hp => ⟨(hO.at_ p hp).1, ?_⟩, hO.nd⟩, h4⟩
      rw [h3.block p.1 (heap_lt (hO.at_ p hp).2) (by simp [Value.ownBlock])]
      exact (hO.at_ p hp).2
    · subst hv'
      refine ⟨_, w', [(g, .cells cur e)], hr, ⟨h2.1, .inr ⟨g, cap, cur, rfl, rfl, ha, hb, ⟨by omega, fun _ => hcs⟩, htk⟩⟩, ⟨hbel, fun p hp => ?_, ?_⟩, h4⟩
      · rcases List.mem_cons.1 hp with rfl | hp
        · exact ⟨hge, hg⟩
        · have hp' := hO.at_ p (List.mem_append_right _ hp)
          refine ⟨hp'.1, (h3.block p.1 (heap_lt hp'.2) (fun he => ?_)).trans hp'.2⟩
          rcases hs.2 with ⟨rfl, _, _⟩ | ⟨g0, cap0, cur0, rfl, rfl, _⟩
          · simp [Value.ownBlock] at he
          · simp only [Value.ownBlock, Option.some.injEq] at he
            exact Own.ne hO (b' := p.1) (o' := p.2) hp he
      · simp only [List.singleton_append, List.map_cons, List.nodup_cons]
        refine ⟨fun hin => ?_, (hO.dropL).nd⟩
        obtain ⟨p, hp, he⟩ := List.mem_map.1 hin
        have hp' := hO.at_ p (List.mem_append_right _ hp)
        rcases h5 with h5 | h5
        · rcases hs.2 with ⟨rfl, _, _⟩ | ⟨g0, cap0, cur0, rfl, rfl, _⟩
          · simp [Value.ownBlock] at h5
          · simp only [Value.ownBlock, Option.some.injEq] at h5
            exact Own.ne hO (b' := p.1) (o' := p.2) hp (by omega)
        · simp only [Value.ownBlock, Option.some.injEq] at h5
          have := heap_lt hp'.2
          omega
/-- .. at an operation of the walk: 'at_builtin; refine wpList_app rfl _ _ _ rfl rfl rfl ..' -/
theorem wpList_app {ops : Array Oper} {rest : List Oper} {o : Oper} {a : Act} {Q : Exit → Act → World → Prop} (hgd : o.guard = none) (s x : Operand) (t : TypeId)
    (ho : o.op = .call { callee := .builtin .append, args := #[s, x], argTypes := #[t, t] }) {v xv : Value} (hes : a.eval s = v) (hex : a.eval x = xv)
    (e : TypeId) (i : TypeInfo) (z : Value) (size bytes : Nat) (ht : P.underlying t = some (.slice e)) (hi : P.info? e = some i) (hz : i.zero = some z)
    (hsize : i.size = size) (hby : i.bytes = bytes) (hzs : z.cells.size = size) (hsz : 0 < size)
    (hs : SlOwn e size v n xs bs) (hO : Own W (bs ++ m) w) {k : Nat} {news : List Value} (hx : Src w size xv k news) (h1 : ∀ u ∈ news, u.oneCell' = true)
    (h63 : n + k ≤ maxLen) (hbytes : (n + k) * bytes ≤ 140737488355328)
    (h : ∀ v' w' bs', SlOwn e size v' (n + k) (xs ++ news) bs' → Own W (bs' ++ m) w' → (v' = .slice none 0 0 ↔ v = .slice none 0 0 ∧ k = 0) → wpList P ops Q rest (a.put o.dst v') w') :
    wpList P ops Q (o :: rest) a w := by
  obtain ⟨v', w', bs', hr, h2, h3, h4⟩ := run_app (P := P) t o.type e i z size bytes ht hi hz hsize hby hzs hsz hs hO hx h1 h63 hbytes
  refine wpList_plain hgd fun K hK => ?_
  unfold Oper.wp execOp
  simp only [ho, resolve, invoke, builtin, Sem.run_bind, Sem.run_pure, Result.andThen_ok, List.map_toArray, List.map_cons, List.map_nil, hes, hex, hr]
  exact hK _ _ (h v' w' bs' h2 h3 h4)
end
end Go.Proofs.Ytigakendeghoaaa

/-
  The runner: known calls over a memory of two blocks; that make one; that give a list. No condition.
-/
namespace Go.Proofs.Ytigakendeghoaaa.Ex
open Go
section
variable [Nums] {P : Program}
theorem opb_inv {ρ : Ren} {i n m s b0 b1 s0 s1 : Nat} {o : Obj} (h : TR ρ (.opb i n m) s (some o)) (h0 : ρ n = some (b0, s0)) (h1 : ρ m = some (b1, s1)) : Nums.Ω i b0 b1 o := by
  obtain ⟨c0, z0, c1, z1, o', k0, k1, k2, k3⟩ := h
  rw [h0] at k0
  rw [h1] at k1
  cases k0
  cases k1
  cases k2
  exact k3
theorem opb_mk {ρ : Ren} {i n m s b0 b1 s0 s1 : Nat} {o : Obj} (h0 : ρ n = some (b0, s0)) (h1 : ρ m = some (b1, s1)) (h : Nums.Ω i b0 b1 o) : TR ρ (.opb i n m) s (some o) := ⟨b0, s0, b1, s1, o, h0, h1, rfl, h⟩
/-- a call over the memory, whose result has no blocks -/
theorem kc_mem {k : Kc} {i j n0 n1 : Nat} {xs : List AV} (hn0 : n0 < rel) (hn1 : n1 < rel) (hpre : k.pre = [(n0, .opb i n0 n1), (n1, .opb (i + 1) n0 n1)]) (hpost : k.post = [(n0, .opb j n0 n1), (n1, .opb (j + 1) n0 n1)]) (hnews : k.news = [])
    (hargs : k.args = .ptr n0 0 :: xs) (hxs : AV.shuts xs = true) (hres : k.res.shut = true) (hf : FnOk P k.f)
    (hc : (∀ c ∈ k.conds, c.1.ev Nums.σ = c.2) → ∀ (W w : World) (m : List (Nat × Obj)) (b0 b1 : Nat) (o0 o1 : Obj), Nums.Ω i b0 b1 o0 → Nums.Ω (i + 1) b0 b1 o1 → Own W ((b0, o0) :: (b1, o1) :: m) w →
      Calls P k.f (.pointer (some ⟨b0, 0, none⟩) :: valsOf Nums.σ xs).toArray w fun e w' => e = .returned (valOf Nums.σ k.res) ∧ ∃ o0' o1', Nums.Ω j b0 b1 o0' ∧ Nums.Ω (j + 1) b0 b1 o1' ∧ Own W ((b0, o0') :: (b1, o1') :: m) w') : KcOk P k := by
  refine kc_own hf (by rw [hpost, hpre]; intro p hp; simp only [List.mem_cons, List.not_mem_nil, or_false] at hp; exact hp.elim (fun h => h ▸ ⟨_, List.mem_cons_self⟩) (fun h => h ▸ ⟨_, List.mem_cons_of_mem _ List.mem_cons_self⟩))
    (by rw [hpre]; intro p hp; simp only [List.mem_cons, List.not_mem_nil, or_false] at hp; rcases hp with rfl | rfl <;> assumption) fun hcs ρ W w m args' bs hF ha hO => ?_
  rw [hpre] at hF
  obtain ⟨b0, o0, s0, r, rfl, p0, t0, b1, o1, s1, r1, rfl, p1, t1, rfl⟩ := hF
  have w0 := opb_inv t0 p0 p1
  have w1 := opb_inv t1 p0 p1
  rw [hargs] at ha
  obtain ⟨y, ys, hy, hp, hys⟩ := ha.uncons
  obtain ⟨c0, z0, q0, rfl⟩ := hp.ptr_inv
  rw [p0] at q0
  cases q0
  have hys := VRs.shut hys hxs
  have hargs2 : args' = (.pointer (some ⟨b0, 0, none⟩) :: valsOf Nums.σ xs).toArray := by
    apply Array.ext'
    rw [hy, hys]
  subst hargs2
  refine (hc hcs W w m b0 b1 o0 o1 w0 w1 hO).mono ?_
  rintro e w' ⟨rfl, o0', o1', v0, v1, h'⟩
  refine ⟨_, [], [(b0, o0'), (b1, o1')], rfl, h', rfl, by rw [hnews]; rfl, fun ρ' hk _ => ⟨VR.ofShut hres, fun i t d hi => by rw [hnews] at hi; simp at hi, fun p hp => ?_⟩⟩
  rw [hpost] at hp
  simp only [List.mem_cons, List.not_mem_nil, or_false] at hp
  have q0 := hk _ _ hn0 p0
  have q1 := hk _ _ hn1 p1
  rcases hp with rfl | rfl
  · exact ⟨b0, o0', s0, by simp, p0, opb_mk q0 q1 v0⟩
  · exact ⟨b1, o1', s1, by simp, p1, opb_mk q0 q1 v1⟩
/-- a call that makes a memory: the first one of its results -/
theorem kc_make {k : Kc} {i : Nat} {ys : List AV} (hpre : k.pre = []) (hpost : k.post = []) (hnews : k.news = [.opb i rel (rel + 1), .opb (i + 1) rel (rel + 1)]) (hxs : AV.shuts k.args = true) (hres : k.res = .tup (.ptr rel 0 :: ys)) (hys : AV.shuts ys = true) (hf : FnOk P k.f)
    (hc : (∀ c ∈ k.conds, c.1.ev Nums.σ = c.2) → ∀ (W w : World) (m : List (Nat × Obj)), Own W m w →
      Calls P k.f (valsOf Nums.σ k.args).toArray w fun e w' => ∃ b0 b1 o0 o1, e = .returned (.tuple (.pointer (some ⟨b0, 0, none⟩) :: valsOf Nums.σ ys).toArray) ∧ Nums.Ω i b0 b1 o0 ∧ Nums.Ω (i + 1) b0 b1 o1 ∧ Own W ((b0, o0) :: (b1, o1) :: m) w') : KcOk P k := by
  refine kc_own hf (by rw [hpost]; intro p hp; cases hp) (by rw [hpre]; intro p hp; cases hp) fun hcs ρ W w m args' bs hF ha hO => ?_
  have hbs : bs = [] := by rw [hpre] at hF; exact hF
  subst hbs
  have ha := VRs.shut ha hxs
  have ha : args' = (valsOf Nums.σ k.args).toArray := by rw [← ha]
  subst ha
  refine (hc hcs W w m hO).mono ?_
  rintro e w' ⟨b0, b1, o0, o1, rfl, v0, v1, h'⟩
  refine ⟨_, [(b0, o0), (b1, o1)], [], rfl, h', rfl, by rw [hnews]; rfl, fun ρ' _ hd => ?_⟩
  have d0 : ρ' rel = some (b0, objSize o0) := hd 0 _ rfl
  have d1 : ρ' (rel + 1) = some (b1, objSize o1) := hd 1 _ rfl
  refine ⟨?_, fun j t d hj hd2 => ?_, fun p hp => by rw [hpost] at hp; cases hp⟩
  · rw [hres]
    unfold VR
    refine ⟨_, rfl, VRs.cons ?_ (VRs.ofShut hys)⟩
    unfold VR
    exact ⟨b0, _, d0, rfl⟩
  · rw [hnews] at hj
    match j with
    | 0 =>
      simp only [List.getElem?_cons_zero, Option.some.injEq] at hj hd2
      subst hj; subst hd2
      exact opb_mk d0 d1 v0
    | 1 =>
      simp only [List.getElem?_cons_succ, List.getElem?_cons_zero, Option.some.injEq] at hj hd2
      subst hj; subst hd2
      exact opb_mk d0 d1 v1
    | j + 2 => simp at hj
end
end Go.Proofs.Ytigakendeghoaaa.Ex

/-
  What a core's words say, in plain Lean. No condition.
-/
namespace Go.Proofs.Ytigakendeghoaaa.See
/-- a list of free objects: what shows the next one, the slab's links; what is out already -/
def walk (sh : Nat → Int → Option Int) (l : List Nat) : Nat → List Int → Int → Option (List Int)
  | 0, _, _ => none
  | n + 1, out, i => if i = -1 then some out else if i ∈ out then none else match sh (l.getD i.toNat 0) i with
    | none => none
    | some x => if (l.length : Int) ≤ x then none else walk sh l n (out ++ [i]) x
/-- slabs, one behind the other -/
def chain (of : Nat → Option Int) (nx : Int → Nat) (S : Nat) : Nat → List Int → Nat → Option (List Int)
  | 0, _, _ => none
  | n + 1, out, w => match of w with
    | none => none
    | some s => if (S : Int) ≤ s ∨ s ∈ out then none else if s = -1 then some out else chain of nx S n (out ++ [s]) (nx s)
/-- unlike numbers from 0 to below S: there are S at most; when there are S, all are there -/
theorem few : ∀ {S : Nat} {l : List Int}, l.Nodup → (∀ x ∈ l, 0 ≤ x ∧ x < S) → l.length ≤ S
  | 0, l, _, hb => by
    cases l with
    | nil => simp
    | cons x l =>
      have := hb x List.mem_cons_self
      omega
  | S + 1, l, hn, hb => by
    have h1 := few (S := S) (l := l.erase (S : Int)) (hn.erase _) fun x hx => by
      have h2 := (hn.mem_erase_iff).1 hx
      have := hb x h2.2
      omega
    by_cases hm : (S : Int) ∈ l
    · rw [List.length_erase_of_mem hm] at h1
      omega
    · rw [List.erase_of_not_mem hm] at h1
      omega
theorem few_lt {S : Nat} {l : List Int} (hn : l.Nodup) (hb : ∀ x ∈ l, 0 ≤ x ∧ x < S) {i : Int} (h0 : 0 ≤ i) (h1 : i < S) (hi : i ∉ l) : l.length < S := by
  have := few (S := S) (l := l ++ [i]) (List.nodup_append.2 ⟨hn, by simp, fun a ha b hb' he => by
    simp at hb'
    subst hb'
    subst he
    exact hi ha⟩) (fun x hx => by
    rcases List.mem_append.1 hx with hx | hx
    · exact hb x hx
    · simp at hx
      subst hx
      exact ⟨h0, h1⟩)
  simp at this
  omega
/-- words are numbers below 2^64 -/
def W64 (g : List Nat) : Prop := ∀ x ∈ g, x < 18446744073709551616
/-- a head: a slab, an object -/
def headOf (w : Nat) : Option (Int × Int) := if w = 0 then some (-1, -1) else if 64 ≤ w ∧ w < 2112 ∧ w % 64 ≤ 16 then some (((w / 64 : Nat) : Int) - 1, ((w % 64 : Nat) : Int) - 1) else none
/-- a part: a slab, how many -/
def partOf (w : Nat) : Option (Int × Int) := if w = 0 then some (-1, 0) else if 64 ≤ w ∧ w < 4096 ∧ 1 ≤ w % 64 ∧ w % 64 ≤ 32 then some (((w % 64 : Nat) : Int) - 1, ((w / 64 : Nat) : Int)) else none
def shelfOf (w : Nat) : Option Int := if w ≤ 32 then some ((w : Int) - 1) else none
/-- a slab's numbers -/
structure CountsP where
  inuse : Nat
  objects : Nat
  frozen : Bool
  live : Bool
  deriving DecidableEq
def countsOf (w : Nat) : Option CountsP := if w = 0 then some ⟨0, 0, false, false⟩ else
  if 131072 ≤ w ∧ w < 262144 ∧ 1 ≤ w / 256 % 256 ∧ w / 256 % 256 ≤ 16 ∧ w % 256 ≤ w / 256 % 256 then some ⟨w % 256, w / 256 % 256, decide (w / 65536 % 2 = 1), true⟩ else none
/-- the key at an object -/
def turned (key n : Nat) : Nat := (((key <<< (5 * n % 64)) % 18446744073709551616 ||| key >>> (64 - 5 * n % 64)) + n * 2654435769) % 18446744073709551616
def showOf (w key n : Nat) : Option Int := if w ^^^ turned key n ≤ 16 then some (((w ^^^ turned key n : Nat) : Int) - 1) else none
def keyOf (key s : Nat) : Nat := (key + s * 11400714819323198485) % 18446744073709551616
/-- a chart's numbers -/
structure Ch where
  C : Nat
  S : Nat
  O : Nat
  key : Nat
def Ch.words (c : Ch) : Nat := 4 * c.C + 4 + 4 * c.S + c.S * c.O
def Ch.ok (c : Ch) : Prop := 1 ≤ c.C ∧ c.C ≤ 8 ∧ 1 ≤ c.S ∧ c.S ≤ 32 ∧ 1 ≤ c.O ∧ c.O ≤ 16
def at_ (g : List Nat) (i : Nat) : Nat := g.getD i 0
def nextAt (c : Ch) (g : List Nat) (s : Int) : Nat := at_ g (4 * c.C + 4 + 4 * s.toNat + 2)
def links (c : Ch) (g : List Nat) (s : Nat) : List Nat := (g.drop (4 * c.C + 4 + 4 * c.S + s * c.O)).take c.O
/-- the free objects of a slab, from one on -/
def listP (c : Ch) (g : List Nat) (s i : Int) : Option (List Int) :=
  if 0 ≤ s ∧ s < c.S ∧ -1 ≤ i ∧ i < c.O then walk (fun w o => showOf w (keyOf c.key s.toNat) o.toNat) (links c g s.toNat) (c.O + 1) [] i else none
structure SlotP where
  slab : Int
  list : List Int
  turn : Nat
  parts : List Int
structure SlabP where
  counts : CountsP
  first : List Int
def partsP (c : Ch) (g : List Nat) (w : Nat) : Option (List Int) := chain (fun w => (partOf w).map (·.1)) (nextAt c g) c.S (c.S + 1) [] w
def shelfP (c : Ch) (g : List Nat) : Option (List Int) := chain shelfOf (nextAt c g) c.S (c.S + 1) [] (at_ g (4 * c.C + 1))
def slotP (c : Ch) (g : List Nat) (i : Nat) : Option SlotP :=
  match headOf (at_ g (4 * i)) with
  | none => none
  | some (s, o) => match (if s = -1 then some [] else listP c g s o) with
    | none => none
    | some l => match partsP c g (at_ g (4 * i + 2)) with
      | none => none
      | some p => some ⟨s, l, at_ g (4 * i + 1), p⟩
def slabP (c : Ch) (g : List Nat) (s : Nat) : Option SlabP :=
  match countsOf (at_ g (4 * c.C + 4 + 4 * s + 1)) with
  | none => none
  | some n => if c.O < at_ g (4 * c.C + 4 + 4 * s) then none else match listP c g s ((at_ g (4 * c.C + 4 + 4 * s) : Int) - 1) with
    | none => none
    | some l => some ⟨n, l⟩
/-- the first ones, as many as are asked for, if all may be -/
def upto {α : Type} (f : Nat → Option α) : Nat → Option (List α)
  | 0 => some []
  | n + 1 => match upto f n with
    | none => none
    | some l => match f n with
      | none => none
      | some x => some (l ++ [x])
theorem upto_none {α : Type} {f : Nat → Option α} {k : Nat} (h : f k = none) : ∀ {n : Nat}, k < n → upto f n = none
  | 0, hk => by omega
  | n + 1, hk => by
    unfold upto
    by_cases he : k = n
    · subst he
      rw [h]
      cases upto f k <;> rfl
    · rw [upto_none h (show k < n by omega)]
theorem upto_len {α : Type} {f : Nat → Option α} : ∀ {n : Nat} {l : List α}, upto f n = some l → l.length = n
  | 0, l, h => by
    simp only [upto, Option.some.injEq] at h
    subst h
    rfl
  | n + 1, l, h => by
    unfold upto at h
    split at h <;> first | (cases h; done) | skip
    rename_i l' hl
    split at h <;> first | (cases h; done) | skip
    simp only [Option.some.injEq] at h
    subst h
    simp [upto_len hl]
theorem upto_get {α : Type} {f : Nat → Option α} : ∀ {n : Nat} {l : List α}, upto f n = some l → ∀ i, i < n → f i = l[i]?
  | 0, l, h, i, hi => by omega
  | n + 1, l, h, i, hi => by
    unfold upto at h
    split at h <;> first | (cases h; done) | skip
    rename_i l' hl
    split at h <;> first | (cases h; done) | skip
    rename_i x hx
    simp only [Option.some.injEq] at h
    subst h
    have hlen := upto_len hl
    by_cases he : i = n
    · subst he
      rw [hx, List.getElem?_append_right (by omega), hlen, Nat.sub_self]
      rfl
    · rw [List.getElem?_append_left (by omega)]
      exact upto_get hl i (by omega)
structure CoreP where
  slots : List SlotP
  shelf : List Int
  locked : Bool
  slabs : List SlabP
/-- what words say -/
def seeP (c : Ch) (g : List Nat) : Option CoreP :=
  match upto (slotP c g) c.C with
  | none => none
  | some a => match shelfP c g with
    | none => none
    | some l => match upto (slabP c g) c.S with
      | none => none
      | some b => some ⟨a, l, decide (at_ g (4 * c.C) ≠ 0), b⟩
end Go.Proofs.Ytigakendeghoaaa.See

/-
  Contracts: a head, a part, a slab's numbers (package count). No condition.
-/
namespace Go.Proofs.Ytigakendeghoaaa.See
open Go.RowKit
attribute [local go_sem ↓] Go.wp_at_zero Go.wp_at_succ
theorem and63 (w : Nat) (h : w < 18446744073709551616) : bits .and .u64 (w : Int) 63 = ((w % 64 : Nat) : Int) := by
  have := u64_and_nat w 63 h (by omega)
  rw [show (63 : Int) = ((63 : Nat) : Int) from rfl, this, show (63 : Nat) = 2 ^ 6 - 1 from rfl, Nat.and_two_pow_sub_one_eq_mod]
theorem and255 (w : Nat) (h : w < 18446744073709551616) : bits .and .u64 (w : Int) 255 = ((w % 256 : Nat) : Int) := by
  have := u64_and_nat w 255 h (by omega)
  rw [show (255 : Int) = ((255 : Nat) : Int) from rfl, this, show (255 : Nat) = 2 ^ 8 - 1 from rfl, Nat.and_two_pow_sub_one_eq_mod]
def headOk (s o : Int) : Prop := 0 ≤ s ∧ s < 32 ∧ -1 ≤ o ∧ o < 16
instance (s o : Int) : Decidable (headOk s o) := inferInstanceAs (Decidable (0 ≤ s ∧ s < 32 ∧ -1 ≤ o ∧ o < 16))
/-- the word of a head -/
def headW (s o : Int) : Nat := (64 * (s + 1) + (o + 1)).toNat
theorem or64 (a b : Nat) (ha : a < 1000) (hb : b < 64) : bits .or .u64 ((64 * a : Nat) : Int) (b : Int) = ((64 * a + b : Nat) : Int) := by
  have := u64_or_nat (64 * a) b (by omega) (by omega)
  rw [this]
  have h := Nat.two_pow_add_eq_or_of_lt (i := 6) (b := b) hb a
  rw [← h]
def smay (s : Int) : Bool := decide (0 ≤ s ∧ s < 32)
theorem smay_yes {s : Int} (h : 0 ≤ s ∧ s < 32) : smay s = true := decide_eq_true h
theorem smay_no {s : Int} (h : ¬ (0 ≤ s ∧ s < 32)) : smay s = false := decide_eq_false h
theorem slabMay_spec (s : Int) (w : World) : Calls Try.prog 90 #[.int .i64 s] w fun e w' => e = .returned (.bool (smay s)) ∧ w = w' := by
  by_cases h0 : 0 ≤ s
  · by_cases h1 : s < 32
    · rw [smay_yes ⟨h0, h1⟩]
      go_enter Try.func90, Try.ntmps90
      go_wp2_with fail
      go_ret
      exact ⟨rfl, rfl⟩
    · rw [smay_no (by omega)]
      go_enter Try.func90, Try.ntmps90
      go_wp2_with fail
      go_ret
      exact ⟨rfl, rfl⟩
  · rw [smay_no (by omega)]
    go_enter Try.func90, Try.ntmps90
    go_wp2_with fail
    go_ret
    exact ⟨rfl, rfl⟩
/-- a head's word is made -/
theorem head_ok (s o : Int) (h : headOk s o) (w : World) : Calls Try.prog 73 #[.int .i64 s, .int .i64 o] w fun e w' => e = .returned (.tuple #[.int .u64 (headW s o), .int .i64 0]) ∧ w = w' := by
  obtain ⟨h0, h1, h2, h3⟩ := h
  have hb : (s == -1) = false := beq_eq_false_iff_ne.2 (by omega)
  have hw : bits .or .u64 ((s + 1) * 64) (o + 1) = headW s o := by
    have := or64 (s + 1).toNat (o + 1).toNat (by omega) (by omega)
    rw [show ((64 * (s + 1).toNat : Nat) : Int) = (s + 1) * 64 by omega, show ((o + 1).toNat : Int) = o + 1 by omega] at this
    rw [this]
    unfold headW
    omega
  have HW := Lib.hid hw
  clear hw
  go_enter Try.func73, Try.ntmps73
  go_wp2_with (go_at_call 90; refine (slabMay_spec s _).mono ?_; rintro e w' ⟨rfl, rfl⟩; rw [smay_yes ⟨h0, h1⟩])
  go_ret2
  exact ⟨by rw [← HW.out]; rfl, rfl⟩
theorem head_none (w : World) : Calls Try.prog 73 #[.int .i64 (-1), .int .i64 (-1)] w fun e w' => e = .returned (.tuple #[.int .u64 0, .int .i64 0]) ∧ w = w' := by
  go_enter Try.func73, Try.ntmps73
  go_wp2_with fail
  go_ret2
  exact ⟨rfl, rfl⟩
theorem head_bad (s o : Int) (h : ¬ headOk s o) (hn : ¬ (s = -1 ∧ o = -1)) (w : World) : Calls Try.prog 73 #[.int .i64 s, .int .i64 o] w fun e w' => e = .returned (.tuple #[.int .u64 0, .int .i64 2]) ∧ w = w' := by
  unfold headOk at h
  by_cases hs : s = -1
  · subst hs
    have hb : (o == -1) = false := beq_eq_false_iff_ne.2 (by omega)
    go_enter Try.func73, Try.ntmps73
    go_wp2_with (go_at_call 90; refine (slabMay_spec (-1) _).mono ?_; rintro e w' ⟨rfl, rfl⟩)
    go_ret2
    exact ⟨rfl, rfl⟩
  · have hb : (s == -1) = false := beq_eq_false_iff_ne.2 hs
    by_cases hm : 0 ≤ s ∧ s < 32
    · rcases (show o < -1 ∨ (¬ o < -1 ∧ 16 ≤ o) by omega) with ho | ⟨ho, ho2⟩
      all_goals
        go_enter Try.func73, Try.ntmps73
        go_wp2_with (go_at_call 90; refine (slabMay_spec s _).mono ?_; rintro e w' ⟨rfl, rfl⟩; rw [smay_yes hm])
        go_ret2
        exact ⟨rfl, rfl⟩
    · go_enter Try.func73, Try.ntmps73
      go_wp2_with (go_at_call 90; refine (slabMay_spec s _).mono ?_; rintro e w' ⟨rfl, rfl⟩; rw [smay_no hm])
      go_ret2
      exact ⟨rfl, rfl⟩
/-- is that a head? -/
def hIs (s o : Int) : Bool := decide (headOk s o ∨ (s = -1 ∧ o = -1))
theorem hc_spec (s o : Int) (w : World) : Calls Try.prog 102 #[.int .i64 s, .int .i64 o] w fun e w' => e = .returned (.bool (hIs s o)) ∧ w = w' := by
  by_cases h : headOk s o
  · rw [show hIs s o = true from decide_eq_true (.inl h)]
    have HH := Lib.hid h
    go_enter Try.func102, Try.ntmps102
    go_wp2_with (go_at_call 73; refine (head_ok s o HH.out _).mono ?_; rintro e w' ⟨rfl, rfl⟩)
    go_ret
    exact ⟨rfl, rfl⟩
  · by_cases hn : s = -1 ∧ o = -1
    · obtain ⟨rfl, rfl⟩ := hn
      rw [show hIs (-1) (-1) = true from decide_eq_true (.inr ⟨rfl, rfl⟩)]
      go_enter Try.func102, Try.ntmps102
      go_wp2_with (go_at_call 73; refine (head_none _).mono ?_; rintro e w' ⟨rfl, rfl⟩)
      go_ret
      exact ⟨rfl, rfl⟩
    · rw [show hIs s o = false from decide_eq_false (by intro hh; exact hh.elim h hn)]
      have HH := Lib.hid h
      have HN := Lib.hid hn
      clear h hn
      go_enter Try.func102, Try.ntmps102
      go_wp2_with (go_at_call 73; refine (head_bad s o HH.out HN.out _).mono ?_; rintro e w' ⟨rfl, rfl⟩)
      go_ret
      exact ⟨rfl, rfl⟩
/-- what told answers -/
def toldV (w : Nat) (hi lo : Int) (p : Int → Int → Bool) : Value :=
  if w ≤ 4095 ∧ p (((w / 64 : Nat) : Int) - hi) (((w % 64 : Nat) : Int) - lo) = true then .tuple #[.int .i64 (((w / 64 : Nat) : Int) - hi), .int .i64 (((w % 64 : Nat) : Int) - lo), .bool true] else .tuple #[.int .i64 0, .int .i64 0, .bool false]
set_option maxRecDepth 100000 in
theorem told_h (x : Nat) (hx : x < 18446744073709551616) (hi lo : Int) (h0 : 0 ≤ hi) (h1 : hi ≤ 1) (l0 : 0 ≤ lo) (l1 : lo ≤ 1) (w : World) :
    Calls Try.prog 101 #[.int .u64 x, .int .i64 hi, .int .i64 lo, .func (.func 102) #[] #[]] w fun e w' => e = .returned (toldV x hi lo hIs) ∧ w = w' := by
  have ha := and63 x hx
  have hd : (x : Int) / 64 = ((x / 64 : Nat) : Int) := by omega
  obtain ⟨q, hq⟩ : ∃ q : Nat, x / 64 = q := ⟨_, rfl⟩
  obtain ⟨r, hr⟩ : ∃ r : Nat, x % 64 = r := ⟨_, rfl⟩
  have hqb : x ≤ 4095 → q ≤ 63 := by omega
  have hrb : r < 64 := by omega
  unfold toldV
  rw [hq, hr]
  rw [hr] at ha
  rw [hq] at hd
  clear hq hr
  by_cases hbig : x ≤ 4095
  · have hbi : (x : Int) ≤ 4095 := by omega
    have hqb := hqb hbig
    clear hx
    cases hc : hIs ((q : Int) - hi) ((r : Int) - lo)
    · rw [if_neg (by simp)]
      go_enter Try.func101, Try.ntmps101
      go_wp2_with fail
      refine (hc_spec _ _ _).mono ?_
      rintro e w' ⟨rfl, rfl⟩
      rw [hc]
      go_wp2_with fail
      go_ret3
      exact ⟨rfl, rfl⟩
    · rw [if_pos ⟨hbig, rfl⟩]
      go_enter Try.func101, Try.ntmps101
      go_wp2_with fail
      refine (hc_spec _ _ _).mono ?_
      rintro e w' ⟨rfl, rfl⟩
      rw [hc]
      go_wp2_with fail
      go_ret3
      exact ⟨rfl, rfl⟩
  · have hbi : ¬ (x : Int) ≤ 4095 := by omega
    rw [if_neg (by intro h; exact hbig h.1)]
    clear hx hqb
    go_enter Try.func101, Try.ntmps101
    go_wp2_with fail
    go_ret3
    exact ⟨rfl, rfl⟩
/-- what HeadOf answers -/
def headV (w : Nat) : Value := match headOf w with
  | some (s, o) => .tuple #[.int .i64 s, .int .i64 o, .bool true]
  | none => .tuple #[.int .i64 (-1), .int .i64 (-1), .bool false]
theorem headOf_told (w : Nat) : headOf w = if w ≤ 4095 ∧ hIs (((w / 64 : Nat) : Int) - 1) (((w % 64 : Nat) : Int) - 1) = true then some (((w / 64 : Nat) : Int) - 1, ((w % 64 : Nat) : Int) - 1) else none := by
  unfold headOf hIs headOk
  by_cases h0 : w = 0
  · subst h0
    rw [if_pos rfl, if_pos ⟨by omega, by decide⟩]
    rfl
  · rw [if_neg h0]
    by_cases h1 : 64 ≤ w ∧ w < 2112 ∧ w % 64 ≤ 16
    · rw [if_pos h1, if_pos ⟨by omega, decide_eq_true (.inl (by omega))⟩]
    · rw [if_neg h1, if_neg]
      rintro ⟨h2, h3⟩
      have h3 := of_decide_eq_true h3
      omega
theorem headOf_spec (x : Nat) (hx : x < 18446744073709551616) (w : World) : Calls Try.prog 80 #[.int .u64 x] w fun e w' => e = .returned (headV x) ∧ w = w' := by
  have ht := fun w => told_h x hx 1 1 (by omega) (by omega) (by omega) (by omega) w
  have HT := Lib.hid ht
  unfold headV
  have he := headOf_told x
  clear hx ht
  by_cases hc : x ≤ 4095 ∧ hIs (((x / 64 : Nat) : Int) - 1) (((x % 64 : Nat) : Int) - 1) = true
  · rw [if_pos hc] at he
    rw [he]
    have hv : toldV x 1 1 hIs = .tuple #[.int .i64 (((x / 64 : Nat) : Int) - 1), .int .i64 (((x % 64 : Nat) : Int) - 1), .bool true] := by
      unfold toldV
      rw [if_pos hc]
    have HV := Lib.hid hv
    clear hv he hc
    go_enter Try.func80, Try.ntmps80
    go_wp2_with fail
    refine (HT.out _).mono ?_
    rintro e w' ⟨rfl, rfl⟩
    rw [HV.out]
    go_wp2_with fail
    go_ret3
    exact ⟨rfl, rfl⟩
  · rw [if_neg hc] at he
    rw [he]
    have hv : toldV x 1 1 hIs = .tuple #[.int .i64 0, .int .i64 0, .bool false] := by
      unfold toldV
      rw [if_neg hc]
    have HV := Lib.hid hv
    clear hv he hc
    go_enter Try.func80, Try.ntmps80
    go_wp2_with fail
    refine (HT.out _).mono ?_
    rintro e w' ⟨rfl, rfl⟩
    rw [HV.out]
    go_wp2_with fail
    go_ret3
    exact ⟨rfl, rfl⟩
def partOk (s n : Int) : Prop := 0 ≤ s ∧ s < 32 ∧ 1 ≤ n ∧ n ≤ 63
instance (s n : Int) : Decidable (partOk s n) := inferInstanceAs (Decidable (0 ≤ s ∧ s < 32 ∧ 1 ≤ n ∧ n ≤ 63))
/-- the word of a part -/
def partW (s n : Int) : Nat := (64 * n + (s + 1)).toNat
theorem part_ok (s n : Int) (h : partOk s n) (w : World) : Calls Try.prog 120 #[.int .i64 s, .int .i64 n] w fun e w' => e = .returned (.tuple #[.int .u64 (partW s n), .int .i64 0]) ∧ w = w' := by
  obtain ⟨h0, h1, h2, h3⟩ := h
  have hb : (s == -1) = false := beq_eq_false_iff_ne.2 (by omega)
  have hw : bits .or .u64 (n * 64) (s + 1) = partW s n := by
    have := or64 n.toNat (s + 1).toNat (by omega) (by omega)
    rw [show ((64 * n.toNat : Nat) : Int) = n * 64 by omega, show ((s + 1).toNat : Int) = s + 1 by omega] at this
    rw [this]
    unfold partW
    omega
  have HW := Lib.hid hw
  clear hw
  go_enter Try.func120, Try.ntmps120
  go_wp2_with (go_at_call 90; refine (slabMay_spec s _).mono ?_; rintro e w' ⟨rfl, rfl⟩; rw [smay_yes ⟨h0, h1⟩])
  go_ret2
  exact ⟨by rw [← HW.out]; rfl, rfl⟩
theorem part_none (w : World) : Calls Try.prog 120 #[.int .i64 (-1), .int .i64 0] w fun e w' => e = .returned (.tuple #[.int .u64 0, .int .i64 0]) ∧ w = w' := by
  go_enter Try.func120, Try.ntmps120
  go_wp2_with fail
  go_ret2
  exact ⟨rfl, rfl⟩
theorem part_bad (s n : Int) (h : ¬ partOk s n) (hn : ¬ (s = -1 ∧ n = 0)) (w : World) : Calls Try.prog 120 #[.int .i64 s, .int .i64 n] w fun e w' => e = .returned (.tuple #[.int .u64 0, .int .i64 2]) ∧ w = w' := by
  unfold partOk at h
  by_cases hs : s = -1
  · subst hs
    have hb : (n == 0) = false := beq_eq_false_iff_ne.2 (by omega)
    go_enter Try.func120, Try.ntmps120
    go_wp2_with (go_at_call 90; refine (slabMay_spec (-1) _).mono ?_; rintro e w' ⟨rfl, rfl⟩)
    go_ret2
    exact ⟨rfl, rfl⟩
  · have hb : (s == -1) = false := beq_eq_false_iff_ne.2 hs
    by_cases hm : 0 ≤ s ∧ s < 32
    · rcases (show n < 1 ∨ (¬ n < 1 ∧ 63 < n) by omega) with ho | ⟨ho, ho2⟩
      all_goals
        go_enter Try.func120, Try.ntmps120
        go_wp2_with (go_at_call 90; refine (slabMay_spec s _).mono ?_; rintro e w' ⟨rfl, rfl⟩; rw [smay_yes hm])
        go_ret2
        exact ⟨rfl, rfl⟩
    · go_enter Try.func120, Try.ntmps120
      go_wp2_with (go_at_call 90; refine (slabMay_spec s _).mono ?_; rintro e w' ⟨rfl, rfl⟩; rw [smay_no hm])
      go_ret2
      exact ⟨rfl, rfl⟩
/-- is that a part? (how many, which slab) -/
def pIs (n s : Int) : Bool := decide (partOk s n ∨ (s = -1 ∧ n = 0))
theorem pc_spec (n s : Int) (w : World) : Calls Try.prog 119 #[.int .i64 n, .int .i64 s] w fun e w' => e = .returned (.bool (pIs n s)) ∧ w = w' := by
  by_cases h : partOk s n
  · rw [show pIs n s = true from decide_eq_true (.inl h)]
    have HH := Lib.hid h
    clear h
    go_enter Try.func119, Try.ntmps119
    go_wp2_with (go_at_call 120; refine (part_ok s n HH.out _).mono ?_; rintro e w' ⟨rfl, rfl⟩)
    go_ret
    exact ⟨rfl, rfl⟩
  · by_cases hn : s = -1 ∧ n = 0
    · obtain ⟨rfl, rfl⟩ := hn
      rw [show pIs 0 (-1) = true from decide_eq_true (.inr ⟨rfl, rfl⟩)]
      go_enter Try.func119, Try.ntmps119
      go_wp2_with (go_at_call 120; refine (part_none _).mono ?_; rintro e w' ⟨rfl, rfl⟩)
      go_ret
      exact ⟨rfl, rfl⟩
    · rw [show pIs n s = false from decide_eq_false (by intro hh; exact hh.elim h hn)]
      have HH := Lib.hid h
      have HN := Lib.hid hn
      clear h hn
      go_enter Try.func119, Try.ntmps119
      go_wp2_with (go_at_call 120; refine (part_bad s n HH.out HN.out _).mono ?_; rintro e w' ⟨rfl, rfl⟩)
      go_ret
      exact ⟨rfl, rfl⟩
set_option maxRecDepth 100000 in
theorem told_p (x : Nat) (hx : x < 18446744073709551616) (hi lo : Int) (h0 : 0 ≤ hi) (h1 : hi ≤ 1) (l0 : 0 ≤ lo) (l1 : lo ≤ 1) (w : World) :
    Calls Try.prog 101 #[.int .u64 x, .int .i64 hi, .int .i64 lo, .func (.func 119) #[] #[]] w fun e w' => e = .returned (toldV x hi lo pIs) ∧ w = w' := by
  have ha := and63 x hx
  have hd : (x : Int) / 64 = ((x / 64 : Nat) : Int) := by omega
  obtain ⟨q, hq⟩ : ∃ q : Nat, x / 64 = q := ⟨_, rfl⟩
  obtain ⟨r, hr⟩ : ∃ r : Nat, x % 64 = r := ⟨_, rfl⟩
  have hqb : x ≤ 4095 → q ≤ 63 := by omega
  have hrb : r < 64 := by omega
  unfold toldV
  rw [hq, hr]
  rw [hr] at ha
  rw [hq] at hd
  clear hq hr
  by_cases hbig : x ≤ 4095
  · have hbi : (x : Int) ≤ 4095 := by omega
    have hqb := hqb hbig
    clear hx
    cases hc : pIs ((q : Int) - hi) ((r : Int) - lo)
    · rw [if_neg (by simp)]
      go_enter Try.func101, Try.ntmps101
      go_wp2_with fail
      refine (pc_spec _ _ _).mono ?_
      rintro e w' ⟨rfl, rfl⟩
      rw [hc]
      go_wp2_with fail
      go_ret3
      exact ⟨rfl, rfl⟩
    · rw [if_pos ⟨hbig, rfl⟩]
      go_enter Try.func101, Try.ntmps101
      go_wp2_with fail
      refine (pc_spec _ _ _).mono ?_
      rintro e w' ⟨rfl, rfl⟩
      rw [hc]
      go_wp2_with fail
      go_ret3
      exact ⟨rfl, rfl⟩
  · have hbi : ¬ (x : Int) ≤ 4095 := by omega
    rw [if_neg (by intro h; exact hbig h.1)]
    clear hx hqb
    go_enter Try.func101, Try.ntmps101
    go_wp2_with fail
    go_ret3
    exact ⟨rfl, rfl⟩
/-- what PartOf answers -/
def partV (w : Nat) : Value := match partOf w with
  | some (s, n) => .tuple #[.int .i64 s, .int .i64 n, .bool true]
  | none => .tuple #[.int .i64 (-1), .int .i64 0, .bool false]
theorem partOf_told (w : Nat) : partOf w = if w ≤ 4095 ∧ pIs (((w / 64 : Nat) : Int) - 0) (((w % 64 : Nat) : Int) - 1) = true then some (((w % 64 : Nat) : Int) - 1, ((w / 64 : Nat) : Int) - 0) else none := by
  unfold partOf pIs partOk
  by_cases h0 : w = 0
  · subst h0
    rw [if_pos rfl, if_pos ⟨by omega, by decide⟩]
    rfl
  · rw [if_neg h0]
    by_cases h1 : 64 ≤ w ∧ w < 4096 ∧ 1 ≤ w % 64 ∧ w % 64 ≤ 32
    · rw [if_pos h1, if_pos ⟨by omega, decide_eq_true (.inl (by omega))⟩, Int.sub_zero]
    · rw [if_neg h1, if_neg]
      rintro ⟨h2, h3⟩
      have h3 := of_decide_eq_true h3
      omega
theorem partOf_spec (x : Nat) (hx : x < 18446744073709551616) (w : World) : Calls Try.prog 104 #[.int .u64 x] w fun e w' => e = .returned (partV x) ∧ w = w' := by
  have ht := fun w => told_p x hx 0 1 (by omega) (by omega) (by omega) (by omega) w
  have HT := Lib.hid ht
  unfold partV
  have he := partOf_told x
  clear hx ht
  by_cases hc : x ≤ 4095 ∧ pIs (((x / 64 : Nat) : Int) - 0) (((x % 64 : Nat) : Int) - 1) = true
  · rw [if_pos hc] at he
    rw [he]
    have hv : toldV x 0 1 pIs = .tuple #[.int .i64 (((x / 64 : Nat) : Int) - 0), .int .i64 (((x % 64 : Nat) : Int) - 1), .bool true] := by
      unfold toldV
      rw [if_pos hc]
    have HV := Lib.hid hv
    clear hv he hc
    go_enter Try.func104, Try.ntmps104
    go_wp2_with fail
    refine (HT.out _).mono ?_
    rintro e w' ⟨rfl, rfl⟩
    rw [HV.out]
    go_wp2_with fail
    go_ret3
    exact ⟨by simp, rfl⟩
  · rw [if_neg hc] at he
    rw [he]
    have hv : toldV x 0 1 pIs = .tuple #[.int .i64 0, .int .i64 0, .bool false] := by
      unfold toldV
      rw [if_neg hc]
    have HV := Lib.hid hv
    clear hv he hc
    go_enter Try.func104, Try.ntmps104
    go_wp2_with fail
    refine (HT.out _).mono ?_
    rintro e w' ⟨rfl, rfl⟩
    rw [HV.out]
    go_wp2_with fail
    go_ret3
    exact ⟨rfl, rfl⟩
end Go.Proofs.Ytigakendeghoaaa.See

/-
  Contracts: what a link shows (package link). No condition.
-/
namespace Go.Proofs.Ytigakendeghoaaa.See
open Go.RowKit
attribute [local go_sem ↓] Go.wp_at_zero Go.wp_at_succ
def rotl (x s : Nat) : Nat := (x <<< s) % 18446744073709551616 ||| x >>> (64 - s)
theorem shr_lt (x s : Nat) (hx : x < 18446744073709551616) : x >>> s < 18446744073709551616 := by
  rw [Nat.shiftRight_eq_div_pow]
  exact Nat.lt_of_le_of_lt (Nat.div_le_self _ _) hx
theorem rotl_lt (x s : Nat) (hx : x < 18446744073709551616) : rotl x s < 18446744073709551616 := by
  have h : rotl x s < 2 ^ 64 := Nat.or_lt_two_pow (Nat.mod_lt _ (by omega)) (shr_lt x _ hx)
  exact h
theorem rot_bits (x s : Nat) (hx : x < 18446744073709551616) : bits .or .u64 (IntKind.u64.wrap ((x : Int) * 2 ^ s)) ((x : Int) / 2 ^ (64 - s)) = ((rotl x s : Nat) : Int) := by
  unfold rotl
  rw [← u64_or_nat _ _ (Nat.mod_lt _ (by omega)) (shr_lt x _ hx), IntKind.wrap_u64, Nat.shiftLeft_eq, Nat.shiftRight_eq_div_pow]
  congr 1
  all_goals push_cast; rfl
theorem rot_spec (x k : Nat) (hx : x < 18446744073709551616) (hk : k ≤ 75) (w : World) : Calls Try.prog 109 #[.int .u64 x, .int .i64 k] w fun e w' => e = .returned (.int .u64 (rotl x (k % 64) : Nat)) ∧ w = w' := by
  have ha := and63 k (by omega)
  obtain ⟨s, hs⟩ : ∃ s, k % 64 = s := ⟨_, rfl⟩
  have hs64 : s < 64 := by omega
  rw [hs] at ha ⊢
  have hb := Lib.hid (rot_bits x s hx)
  clear hs hx
  go_enter Try.func109, Try.ntmps109
  go_wp2_with fail
  go_ret
  exact ⟨by rw [← hb.out]; rfl, rfl⟩
theorem turned_eq (key n : Nat) : turned key n = (rotl key (5 * n % 64) + n * 2654435769) % 18446744073709551616 := rfl
theorem turned_lt (key n : Nat) : turned key n < 18446744073709551616 := by
  rw [turned_eq]
  exact Nat.mod_lt _ (by omega)
set_option maxRecDepth 100000 in
theorem turned_spec (key n : Nat) (hx : key < 18446744073709551616) (hn : n < 16) (w : World) : Calls Try.prog 89 #[.int .u64 key, .int .i64 n] w fun e w' => e = .returned (.int .u64 (turned key n : Nat)) ∧ w = w' := by
  have hr := fun w => rot_spec key (5 * n) hx (by omega) w
  rw [show ((5 * n : Nat) : Int) = 5 * (n : Int) by omega] at hr
  have HR := Lib.hid hr
  have hv : IntKind.u64.wrap ((rotl key (5 * n % 64) : Int) + (n : Int) * 2654435769) = ((turned key n : Nat) : Int) := by
    rw [turned_eq, IntKind.wrap_u64]
    omega
  have HV := Lib.hid hv
  clear hr hx hv
  go_enter Try.func89, Try.ntmps89
  go_wp2_with (go_at_call 109; refine (HR.out _).mono ?_; rintro e w' ⟨rfl, rfl⟩)
  go_ret
  exact ⟨by rw [← HV.out]; rfl, rfl⟩
def oIs (i : Int) : Bool := decide (0 ≤ i ∧ i < 16)
theorem oIs_yes {i : Int} (h : 0 ≤ i ∧ i < 16) : oIs i = true := decide_eq_true h
theorem oIs_no {i : Int} (h : ¬ (0 ≤ i ∧ i < 16)) : oIs i = false := decide_eq_false h
theorem object_spec (i : Int) (w : World) : Calls Try.prog 125 #[.int .i64 i] w fun e w' => e = .returned (.bool (oIs i)) ∧ w = w' := by
  by_cases h0 : 0 ≤ i
  · by_cases h1 : i < 16
    · rw [oIs_yes ⟨h0, h1⟩]
      go_enter Try.func125, Try.ntmps125
      go_wp2_with fail
      go_ret
      exact ⟨rfl, rfl⟩
    · rw [oIs_no (by omega)]
      go_enter Try.func125, Try.ntmps125
      go_wp2_with fail
      go_ret
      exact ⟨rfl, rfl⟩
  · rw [oIs_no (by omega)]
    go_enter Try.func125, Try.ntmps125
    go_wp2_with fail
    go_ret
    exact ⟨rfl, rfl⟩
/-- what Show answers -/
def showV (x key : Nat) (n : Nat) : Value := match showOf x key n with
  | some i => .tuple #[.int .i64 i, .bool true]
  | none => .tuple #[.int .i64 0, .bool false]
theorem showOf_ge {x key n : Nat} {i : Int} (h : showOf x key n = some i) : -1 ≤ i ∧ i < 16 := by
  unfold showOf at h
  split at h
  · simp at h; omega
  · cases h
set_option maxRecDepth 100000 in
theorem show_ok (x key n : Nat) (hx : x < 18446744073709551616) (hk : key < 18446744073709551616) (hn : n < 16) (w : World) : Calls Try.prog 114 #[.int .u64 x, .int .u64 key, .int .i64 n] w fun e w' => e = .returned (showV x key n) ∧ w = w' := by
  have ht := fun w => turned_spec key n hk hn w
  have hb := u64_xor_nat x (turned key n) hx (turned_lt key n)
  unfold showV showOf
  obtain ⟨T, hT⟩ : ∃ T, turned key n = T := ⟨_, rfl⟩
  obtain ⟨X, hX⟩ : ∃ X, x ^^^ T = X := ⟨_, rfl⟩
  rw [hT] at ht hb ⊢
  rw [hX] at hb ⊢
  have ho := fun w => object_spec (n : Int) w
  rw [oIs_yes (by omega)] at ho
  have HT := Lib.hid ht
  have HO := Lib.hid ho
  clear ht ho hT hX hx hk
  by_cases hc : X ≤ 16
  · have hci : decide ((16 : Int) < X) = false := decide_eq_false (by omega)
    rw [if_pos hc]
    go_enter Try.func114, Try.ntmps114
    go_wp2_with (first | (go_at_call 125; refine (HO.out _).mono ?_; rintro e w' ⟨rfl, rfl⟩) | (go_at_call 89; refine (HT.out _).mono ?_; rintro e w' ⟨rfl, rfl⟩))
    go_ret2
    exact ⟨rfl, rfl⟩
  · have hci : decide ((16 : Int) < X) = true := decide_eq_true (by omega)
    rw [if_neg hc]
    go_enter Try.func114, Try.ntmps114
    go_wp2_with (first | (go_at_call 125; refine (HO.out _).mono ?_; rintro e w' ⟨rfl, rfl⟩) | (go_at_call 89; refine (HT.out _).mono ?_; rintro e w' ⟨rfl, rfl⟩))
    go_ret2
    exact ⟨rfl, rfl⟩
theorem show_bad (x key : Int) (n : Int) (hn : ¬ (0 ≤ n ∧ n < 16)) (w : World) : Calls Try.prog 114 #[.int .u64 x, .int .u64 key, .int .i64 n] w fun e w' => e = .returned (.tuple #[.int .i64 0, .bool false]) ∧ w = w' := by
  have ho := fun w => object_spec n w
  rw [oIs_no hn] at ho
  have HO := Lib.hid ho
  clear ho hn
  go_enter Try.func114, Try.ntmps114
  go_wp2_with (go_at_call 125; refine (HO.out _).mono ?_; rintro e w' ⟨rfl, rfl⟩)
  go_ret2
  exact ⟨rfl, rfl⟩
/-- a link that is made -/
def hideW (i : Int) (key n : Nat) : Nat := (i + 1).toNat ^^^ turned key n
theorem hide_lt {i : Int} {key n : Nat} (hi : i < 16) : hideW i key n < 18446744073709551616 := by
  have h : hideW i key n < 2 ^ 64 := Nat.xor_lt_two_pow (by omega) (turned_lt key n)
  exact h
/-- .. shows what was hidden -/
theorem show_hide {i : Int} {key n : Nat} (h0 : -1 ≤ i) (hi : i < 16) : showOf (hideW i key n) key n = some i := by
  unfold showOf hideW
  rw [Nat.xor_assoc, Nat.xor_self, Nat.xor_zero, if_pos (by omega)]
  congr 1
  omega
end Go.Proofs.Ytigakendeghoaaa.See

/-
  Slices of numbers: append, one number, numbers that the code writes down.
-/
namespace Go.Proofs.Ytigakendeghoaaa
open Go.RowKit

theorem int_info : (Try.prog.info? 3).map (fun i => (i.zero, i.size, i.bytes)) = some (some (.int .i64 0), 1, 8) := by kernel_rfl
/-- numbers as values -/
def ints (l : List Int) : List Value := l.map fun n => .int .i64 n
theorem ints_len (l : List Int) : (ints l).length = l.length := by simp [ints]
theorem ints_get {l : List Int} {i : Nat} {n : Int} (h : l[i]? = some n) : (ints l)[i]? = some (.int .i64 n) := by simp [ints, h]
theorem ints_one (l : List Int) : ∀ u ∈ ints l, u.oneCell' = true := by
  intro u hu
  obtain ⟨n, _, rfl⟩ := List.mem_map.1 hu
  rfl
theorem ints_append (a b : List Int) : ints a ++ ints b = ints (a ++ b) := by simp [ints]
theorem ints_take (l : List Int) (k : Nat) : (ints l).take k = ints (l.take k) := by simp [ints]
theorem ints_drop (l : List Int) (k : Nat) : (ints l).drop k = ints (l.drop k) := by simp [ints]
theorem ints_set (l : List Int) (k : Nat) (n : Int) : (ints l).set k (.int .i64 n) = ints (l.set k n) := by simp [ints]
/-- a slice of numbers that the call owns -/
abbrev IntsOwn (ex : Bool) (v : Value) (l : List Int) (bs : List (Nat × Obj)) : Prop := SlO ex 3 1 v l.length (ints l) bs
/-- a slice that reads as numbers -/
abbrev IntsSrc (w : World) (v : Value) (l : List Int) : Prop := Src w 1 v l.length (ints l)

section
variable {W w : World} {m bs : List (Nat × Obj)} {v x : Value} {l l' : List Int}

/-- append, of numbers: 'at_builtin; refine wpList_app_ints rfl _ _ rfl rfl rfl hs hO hx hlen ?_; intro v' w' bs' h1 h2 h3' -/
theorem wpList_app_ints {ops : Array Oper} {rest : List Oper} {o : Oper} {a : Act} {Q : Exit → Act → World → Prop} (hgd : o.guard = none) (s x : Operand)
    (ho : o.op = .call { callee := .builtin .append, args := #[s, x], argTypes := #[30, 30] }) {v xv : Value} (hes : a.eval s = v) (hex : a.eval x = xv)
    (hs : IntsOwn true v l bs) (hO : Own W (bs ++ m) w) (hx : IntsSrc w xv l') (hlen : l.length + l'.length ≤ 60000)
    (h : ∀ v' w' bs', IntsOwn true v' (l ++ l') bs' → Own W (bs' ++ m) w' → (v' = .slice none 0 0 ↔ v = .slice none 0 0 ∧ l' = []) → wpList Try.prog ops Q rest (a.put o.dst v') w') :
    wpList Try.prog ops Q (o :: rest) a w := by
  obtain ⟨i, hi, hz, hsz, hb⟩ := info_get int_info
  refine wpList_app hgd s x _ ho hes hex 3 i _ 1 8 Try.underlying30 hi hz hsz hb rfl (by omega) hs hO hx (ints_one l') (by unfold maxLen; omega) (by omega) fun v' w' bs' h1 h2 h3 => ?_
  rw [ints_append, ← List.length_append] at h1
  exact h v' w' bs' h1 h2 (by rw [h3, List.length_eq_zero_iff])

/-- one number, in a block of its own -/
theorem src_one (w : World) (p : Int) : IntsSrc (w.alloc (.cells #[.int .i64 p] 3)) (.slice (some ⟨w.heap.size, 0, none⟩) 1 1) [p] := by
  refine ⟨rfl, .inr ⟨_, _, rfl, fun j u hj => ?_⟩⟩
  rw [add_lit0]
  match j, hj with
  | 0, hj => simp [ints] at hj; subst hj; simp
  | j + 1, hj => simp [ints] at hj

end
/-- structs that the code writes down, in a block of their own -/
theorem src_lit (w : World) (e : TypeId) (size n : Nat) (l : List Int) (hl : l.length = n * size) :
    Src (w.alloc (.cells (ints l).toArray e)) size (.slice (some ⟨w.heap.size, 0, none⟩) n n) n (ints l) := by
  refine ⟨by simpa [ints] using hl, .inr ⟨_, _, rfl, fun j u hj => ?_⟩⟩
  rw [add_lit0]
  simp [hj]

end Go.Proofs.Ytigakendeghoaaa

/-
  Contract: the objects of a list (link.List). No condition.
-/
namespace Go.Proofs.Ytigakendeghoaaa.See
open Go.RowKit
attribute [local go_sem ↓] Go.wp_at_zero Go.wp_at_succ
/-- words that are read, whatever else there is -/
def Rd (W : World) (m : List (Nat × Obj)) (B o : Nat) (g : List Nat) : Prop := ∀ ws, Own W m ws → ∀ (j : Nat) (x : Nat), g[j]? = some x → ws.cell? ⟨B, o + j, none⟩ = some (.int .u64 (x : Int))
theorem Rd.more {W : World} {m m' : List (Nat × Obj)} {B o : Nat} {g : List Nat} (h : Rd W m B o g) : Rd W (m' ++ m) B o g := fun ws hw j x hj => h ws hw.dropL j x hj
/-- which objects are out -/
def hadRow (out : List Int) : Array Value := ((List.range 16).map fun (i : Nat) => Value.bool (decide ((i : Int) ∈ out))).toArray
theorem hadRow_get (out : List Int) {i : Nat} (h : i < 16) : (hadRow out)[i]? = some (.bool (decide ((i : Int) ∈ out))) := by simp [hadRow, h]
theorem hadRow_set (out : List Int) {i : Nat} (h : i < 16) : (hadRow out).setIfInBounds i (.bool true) = hadRow (out ++ [(i : Int)]) := by
  apply Array.ext_getElem?
  intro j
  rw [Array.getElem?_setIfInBounds]
  by_cases hj : j < 16
  · rw [hadRow_get _ hj]
    by_cases hx : i = j
    · subst hx; simp [hadRow, h]
    · rw [if_neg hx, hadRow_get _ hj]
      have : ¬ (j : Int) = (i : Int) := fun e => hx (by omega)
      simp [this]
  · rw [if_neg (by omega), Array.getElem?_eq_none (by simp [hadRow]; omega), Array.getElem?_eq_none (by simp [hadRow]; omega)]
def slLen : Value → Nat
  | .slice _ n _ => n
  | _ => 0
def shW (key : Nat) (w : Nat) (o : Int) : Option Int := showOf w key o.toNat
section
variable {W w : World} {m : List (Nat × Obj)} {B o c : Nat} {g : List Nat}
/-- what List answers -/
def ListPost (W : World) (m : List (Nat × Obj)) (r : Option (List Int)) (e : Ending) (w' : World) : Prop := match r with
  | some l => ∃ v bs, e = .returned (.tuple #[v, .int .i64 0]) ∧ Hid (IntsOwn true v l bs) ∧ Own W (bs ++ m) w'
  | none => e = .returned (.tuple #[.slice none 0 0, .int .i64 150]) ∧ Own W m w'
set_option maxRecDepth 100000 in
set_option maxHeartbeats 2000000 in
theorem list_spec (h : Own W m w) (hr : Rd W m B o g) {n : Nat} (hn : g.length = n) (hg : n ≤ 16) (hw : W64 g) (hnc : n ≤ c) (hcm : c ≤ maxLen) (key : Nat) (hk : key < 18446744073709551616) (first : Int) (h0 : -1 ≤ first) (h1 : first < n) :
    Calls Try.prog 103 #[.slice (some ⟨B, o, none⟩) n c, .int .u64 key, .int .i64 first] w (ListPost W m (walk (shW key) g (n + 1) [] first)) := by
  obtain ⟨R, hR⟩ : ∃ R, walk (shW key) g (n + 1) [] first = R := ⟨_, rfl⟩
  have HR := Lib.hid hR
  have HRD := Lib.hid hr
  have HN := Lib.hid hn
  have HW := Lib.hid hw
  have HK := Lib.hid hk
  have HC := Lib.hid hcm
  rw [hR]
  have hgi : (n : Int) ≤ 16 := by omega
  have hb1 : decide ((16 : Int) < (n : Int)) = false := decide_eq_false (by omega)
  have hb2 : decide (first < -1) = false := decide_eq_false (by omega)
  have hb3 : decide ((n : Int) ≤ first) = false := decide_eq_false (by omega)
  clear hr hn hw hk hcm hR
  go_enter Try.func103, Try.ntmps103
  go_wp2_with fail
  go_step3
  go_wp2_with fail
  go_step3
  go_wp2_with fail
  have h1 : Own W ([(w.heap.size, .cells (hadRow []) 143)] ++ m) (w.alloc (.cells #[.bool false, .bool false, .bool false, .bool false, .bool false, .bool false, .bool false, .bool false, .bool false, .bool false, .bool false, .bool false, .bool false, .bool false, .bool false, .bool false] 143)) := h.new (.cells (hadRow []) 143)
  obtain ⟨d, hd⟩ : ∃ d, w.heap.size = d := ⟨_, rfl⟩
  obtain ⟨wa, hwa⟩ : ∃ wa, w.alloc (.cells #[.bool false, .bool false, .bool false, .bool false, .bool false, .bool false, .bool false, .bool false, .bool false, .bool false, .bool false, .bool false, .bool false, .bool false, .bool false, .bool false] 143) = wa := ⟨_, rfl⟩
  rw [hwa, hd] at h1
  rw [hwa, hd]
  have H1 := Lib.hid h1
  clear h1 hd hwa hb1 hb2 hb3
  go_loopw [2, 9] (fun iv ov wr => ∃ (i : Int) (out : List Int) (bs : List (Nat × Obj)), iv = .int .i64 i ∧ -1 ≤ i ∧ i < n ∧ Hid (out.Nodup ∧ ∀ x ∈ out, 0 ≤ x ∧ x < n) ∧ Hid (walk (shW key) g (n + 1 - out.length) out i = R) ∧ Hid (IntsOwn true ov out bs) ∧ Own W ([(d, .cells (hadRow out) 143)] ++ (bs ++ m)) wr) (fun _ ov _ => 17 - slLen ov)
  case atStart => exact ⟨first, [], [], rfl, h0, h1, ⟨List.nodup_nil, fun x hx => (by simp at hx)⟩, HR, SlO.nil _ _ _, H1.out⟩
  case round =>
    clear H1 HR h0 h1 h
    obtain ⟨i, out, bs, rfl, i0, i1, HND, HWK, HO, hr⟩ := hrel
    obtain ⟨A8, c8, hv, -, -⟩ := HO.out.slice
    subst hv
    have hfew := few HND.out.1 HND.out.2
    obtain ⟨z, hz⟩ : ∃ z, out.length = z := ⟨_, rfl⟩
    have HZ := Lib.hid hz
    rw [hz] at hfew ⊢
    by_cases him : i = -1
    · subst him
      have hk := HWK.out
      rw [hz, show n + 1 - z = (n - z) + 1 by omega] at hk
      simp only [walk, if_true] at hk
      have HK2 := Lib.hid hk
      clear hz hk
      go_wp2_with fail
      rw [Exit.noGoto_ret]
      go_ret2
      rw [← HK2.out]
      exact ⟨_, bs, rfl, by have := HO.out; rw [HZ.out] at this; exact this, hr.dropL⟩
    · have hib : (i == -1) = false := beq_eq_false_iff_ne.2 him
      obtain ⟨j, rfl⟩ : ∃ j : Nat, i = j := ⟨i.toNat, by omega⟩
      have hj16 : j < 16 := by omega
      have cj := hr.cell List.mem_cons_self j
      have fj := hr.frozen List.mem_cons_self j
      rw [hadRow_get _ hj16] at cj
      have hji0 : (0 : Int) ≤ (j : Int) := by omega
      have hji1 : (j : Int) < 16 := by omega
      by_cases hin : (j : Int) ∈ out
      · rw [decide_eq_true hin] at cj
        have hk := HWK.out
        rw [hz, show n + 1 - z = (n - z) + 1 by omega] at hk
        simp only [walk, him, hin, if_false, if_true] at hk
        have HK2 := Lib.hid hk
        clear hz hk
        go_wp2_with fail
        rw [Exit.noGoto_ret]
        go_ret2
        rw [← HK2.out]
        exact ⟨rfl, hr.dropL.dropL⟩
      · rw [decide_eq_false hin] at cj
        obtain ⟨x, hx⟩ : ∃ x, g[j]? = some x := ⟨_, List.getElem?_eq_getElem (by have := HN.out; omega)⟩
        have hxw := HW.out x (List.mem_of_getElem? hx)
        have hgd : g.getD j 0 = x := by rw [List.getD_eq_getElem?_getD, hx]; rfl
        have hlt := few_lt HND.out.1 HND.out.2 hji0 i1 hin
        rw [hz] at hlt
        have hsh := fun w => show_ok x key j hxw HK.out hj16 w
        have hk := HWK.out
        rw [hz, show n + 1 - z = (n - z) + 1 by omega] at hk
        simp only [walk, him, hin, if_false, Int.toNat_natCast, hgd, shW, HN.out] at hk
        have hr2 : Own W ((d, .cells (hadRow out) 143) :: (bs ++ m)) wr := hr
        have h2 := hr2.set j (.bool true)
        rw [hadRow_set _ hj16] at h2
        have h3 : Own W (bs ++ ((d, .cells (hadRow (out ++ [(j : Int)])) 143) :: m)) _ := h2.perm List.perm_middle.symm
        have h4 := h3.alloc (.cells #[.int .i64 (j : Int)] 3)
        have hsrc := src_one (wr.setCell ⟨d, j, none⟩ (.bool true)) (j : Int)
        rw [World.size_setCell] at hsrc
        have hnd : (out ++ [(j : Int)]).Nodup ∧ ∀ x ∈ out ++ [(j : Int)], 0 ≤ x ∧ x < n := by
          refine ⟨List.nodup_append.2 ⟨HND.out.1, by simp, fun a ha b hb he => ?_⟩, fun x hx => ?_⟩
          · simp at hb
            subst hb
            subst he
            exact hin ha
          · rcases List.mem_append.1 hx with hx | hx
            · exact HND.out.2 x hx
            · simp at hx
              subst hx
              exact ⟨hji0, i1⟩
        have HND2 := Lib.hid hnd
        have HSRC := Lib.hid hsrc
        have HX := Lib.hid hx
        have HO2 : Hid (IntsOwn true (.slice A8 z c8) out bs) := by have := HO.out; rw [hz] at this; exact this
        have H4 := Lib.hid h4
        have hlen : out.length + [(j : Int)].length ≤ 60000 := by simp; omega
        have HLEN := Lib.hid hlen
        unfold showV at hsh
        clear hsrc hx hnd h2 hr2 h3 h4 HO hgd hxw hlen hz
        cases hso : showOf x key j with
        | none =>
          rw [hso] at hsh hk
          simp only at hsh hk
          have HS := Lib.hid hsh
          have HK2 := Lib.hid hk
          clear hsh hk hso
          go_wp2_with (first | (at_builtin; refine wpList_app_ints rfl _ _ rfl rfl rfl HO2.out H4.out HSRC.out HLEN.out ?_; intro v' w' bs' k1 k2 k3; have K1 := Lib.hid k1; have cx := HRD.out _ k2.dropL.skip j x HX.out; clear k1 k3) | (go_at_call 114; refine (HS.out _).mono ?_; rintro e w5 ⟨rfl, rfl⟩))
          rw [Exit.noGoto_ret]
          go_ret2
          rw [← HK2.out]
          exact ⟨rfl, k2.dropL.skip⟩
        | some y =>
          rw [hso] at hsh hk
          simp only at hsh hk
          obtain ⟨y0, y1⟩ := showOf_ge hso
          have HS := Lib.hid hsh
          clear hsh hso
          by_cases hny : (n : Int) ≤ y
          · rw [if_pos hny] at hk
            have HK2 := Lib.hid hk
            clear hk
            go_wp2_with (first | (at_builtin; refine wpList_app_ints rfl _ _ rfl rfl rfl HO2.out H4.out HSRC.out HLEN.out ?_; intro v' w' bs' k1 k2 k3; have K1 := Lib.hid k1; have cx := HRD.out _ k2.dropL.skip j x HX.out; clear k1 k3) | (go_at_call 114; refine (HS.out _).mono ?_; rintro e w5 ⟨rfl, rfl⟩))
            rw [Exit.noGoto_ret]
            go_ret2
            rw [← HK2.out]
            exact ⟨rfl, k2.dropL.skip⟩
          · rw [if_neg hny] at hk
            have HK2 : Hid (walk (shW key) g (n + 1 - (out ++ [(j : Int)]).length) (out ++ [(j : Int)]) y = R) := by
              show _ = _
              rw [List.length_append, HZ.out, List.length_singleton, show n + 1 - (z + 1) = n - z by omega]
              exact hk
            clear hk
            have hnyi : y < n := by omega
            go_wp2_with (first | (at_builtin; refine wpList_app_ints rfl _ _ rfl rfl rfl HO2.out H4.out HSRC.out HLEN.out ?_; intro v' w' bs' k1 k2 k3; have K1 := Lib.hid k1; have cx := HRD.out _ k2.dropL.skip j x HX.out; clear k1 k3) | (go_at_call 114; refine (HS.out _).mono ?_; rintro e w5 ⟨rfl, rfl⟩))
            obtain ⟨A9, c9, hv9, -, -⟩ := K1.out.slice
            rw [List.length_append, HZ.out, List.length_singleton] at hv9
            refine ⟨⟨y, _, bs', rfl, y0, hnyi, HND2, HK2, K1, ?_⟩, ?_⟩
            · exact k2.perm List.perm_middle
            · rw [hv9]
              simp [slLen]
              omega
end
end Go.Proofs.Ytigakendeghoaaa.See

/-
  Where a core's words lie: no two at one place, all within the words. Plain.
-/
namespace Go.Proofs.Ytigakendeghoaaa.Apart
/-- a processor's places -/
def cpuPl (i : Nat) : List Nat := [4 * i, 4 * i + 1, 4 * i + 2, 4 * i + 3]
/-- a slab's places -/
def slabPl (C S O s : Nat) : List Nat := [4 * C + 4 + 4 * s, 4 * C + 4 + 4 * s + 1, 4 * C + 4 + 4 * s + 2] ++ (List.range O).map fun i => 4 * C + 4 + 4 * S + s * O + i
def pl (C S O : Nat) : List Nat := [4 * C, 4 * C + 1, 4 * C + 2] ++ ((List.range C).flatMap cpuPl ++ (List.range S).flatMap (slabPl C S O))
theorem mem_cpu {C x : Nat} (h : x ∈ (List.range C).flatMap cpuPl) : x < 4 * C := by
  rw [List.mem_flatMap] at h
  obtain ⟨i, hi, hx⟩ := h
  rw [List.mem_range] at hi
  simp [cpuPl] at hx
  omega
theorem mem_slab {C S O s x : Nat} (hs : s < S) (h : x ∈ slabPl C S O s) : (4 * C + 4 + 4 * s ≤ x ∧ x < 4 * C + 4 + 4 * s + 3) ∨ (4 * C + 4 + 4 * S + s * O ≤ x ∧ x < 4 * C + 4 + 4 * S + (s + 1) * O) := by
  simp only [slabPl, List.mem_append, List.mem_cons, List.not_mem_nil, or_false, List.mem_map, List.mem_range] at h
  rw [Nat.add_mul, Nat.one_mul]
  rcases h with h | ⟨i, hi, rfl⟩
  · left; omega
  · right; omega
theorem mem_pl {C S O x : Nat} (h : x ∈ pl C S O) : x < 4 * C + 4 + 4 * S + S * O := by
  simp only [pl, List.mem_append, List.mem_cons, List.not_mem_nil, or_false] at h
  rcases h with h | h | h
  · omega
  · have := mem_cpu h; omega
  · rw [List.mem_flatMap] at h
    obtain ⟨s, hs, hx⟩ := h
    rw [List.mem_range] at hs
    have hm : (s + 1) * O ≤ S * O := Nat.mul_le_mul_right O hs
    rcases mem_slab hs hx with h | h <;> omega
theorem range_pairs (n : Nat) : (List.range n).Pairwise (fun a b => a < b) := List.pairwise_lt_range
theorem nodup_cpu (C : Nat) : ((List.range C).flatMap cpuPl).Pairwise (· ≠ ·) := by
  rw [List.pairwise_flatMap]
  refine ⟨fun i _ => by simp [cpuPl], (range_pairs C).imp ?_⟩
  intro a b hab x hx y hy
  simp [cpuPl] at hx hy
  omega
theorem nodup_slab (C S O : Nat) : ((List.range S).flatMap (slabPl C S O)).Pairwise (· ≠ ·) := by
  rw [List.pairwise_flatMap]
  refine ⟨fun s hs => ?_, ?_⟩
  · rw [List.mem_range] at hs
    unfold slabPl
    rw [List.pairwise_append]
    refine ⟨by simp, ?_, ?_⟩
    · rw [List.pairwise_map]
      exact (range_pairs O).imp fun h => by omega
    · intro x hx y hy
      simp only [List.mem_cons, List.not_mem_nil, or_false] at hx
      rw [List.mem_map] at hy
      obtain ⟨i, _, rfl⟩ := hy
      omega
  · rw [List.pairwise_iff_forall_sublist]
    intro a b hab x hx y hy
    have hlt : a < b := by
      have := (range_pairs S).sublist hab
      simpa using this
    have hb : b < S := by
      have := hab.subset (List.mem_cons_of_mem _ List.mem_cons_self)
      simpa using this
    have hm : (a + 1) * O ≤ b * O := Nat.mul_le_mul_right O hlt
    rcases mem_slab (by omega) hx with h1 | h1 <;> rcases mem_slab hb hy with h2 | h2 <;> omega
theorem nodup_pl (C S O : Nat) : (pl C S O).Pairwise (· ≠ ·) := by
  unfold pl
  rw [List.pairwise_append, List.pairwise_append]
  refine ⟨by simp, ⟨nodup_cpu C, nodup_slab C S O, ?_⟩, ?_⟩
  · intro x hx y hy
    have := mem_cpu hx
    rw [List.mem_flatMap] at hy
    obtain ⟨s, hs, hy⟩ := hy
    rw [List.mem_range] at hs
    rcases mem_slab hs hy with h | h <;> omega
  · intro x hx y hy
    simp only [List.mem_cons, List.not_mem_nil, or_false] at hx
    rw [List.mem_append] at hy
    rcases hy with hy | hy
    · have := mem_cpu hy; omega
    · rw [List.mem_flatMap] at hy
      obtain ⟨s, hs, hy⟩ := hy
      rw [List.mem_range] at hs
      rcases mem_slab hs hy with h | h <;> omega
end Go.Proofs.Ytigakendeghoaaa.Apart
