/-
  Texts of this claim, joined. No condition.
-/
import Derived.Test.YtmnpccpfejgkmaaGreatJk5
import Derived.Maps.AppendAt
import Derived.Laws.AppendOwnNone
import Derived.Lib.SliceRun
import Derived.Deep.DeepCutAuto
import Derived.Deep.CutBlock
/-
  The runner: known calls out of contracts over owned blocks; a function's text, question by question. No condition.
-/
namespace Go.Proofs.YtmnpccpfejgkmaaGreat.Ex
open Go
/-! names alone -/
theorem lookS_nil (i : Nat) : lookS i [] = none := rfl
theorem SE.sub_n (ns : List (Nat × Nat)) : ∀ e : SE, e.sub { n := ns } = e := by
  intro e
  induction e with
  | var i => rfl
  | lvar i => rfl
  | lit n => rfl
  | bin o a b ha hb => simp only [SE.sub, ha, hb]
  | ubin o a b ha hb => simp only [SE.sub, ha, hb]
  | cv k a ha => simp only [SE.sub, ha]
  | lset l e k v hl he hv => simp only [SE.sub, hl, he, hv]
  | lsnoc l r hl hr => simp only [SE.sub, hl, hr]
  | rnil => rfl
  | rep n hn => simp only [SE.sub, hn]
  | rcons v r hv hr => simp only [SE.sub, hv, hr]
  | «at» l e j hl he => simp only [SE.sub, hl, he]
  | len l hl => simp only [SE.sub, hl]
theorem Cnd.sub_n (ns : List (Nat × Nat)) (c : Cnd) : c.sub { n := ns } = c := by cases c <;> simp only [Cnd.sub, SE.sub_n]
section
variable [Nums] {ρ ρ' : Ren} {ns : List (Nat × Nat)}
mutual
theorem VR.ren (hρ : ∀ n, ρ' n = ρ (lookN n ns)) : ∀ {v : AV} {x : Value}, VR ρ (v.sub { n := ns }) x ↔ VR ρ' v x
  | .sym k e, x => by unfold AV.sub VR; rw [SE.sub_n]
  | .bsym c p, x => by unfold AV.sub VR; rw [Cnd.sub_n]
  | .ptr n off, x => by unfold AV.sub VR; rw [hρ]; rfl
  | .eptr n e s j, x => by unfold AV.sub VR; rw [hρ, SE.sub_n]; rfl
  | .dsl n e s, x => by unfold AV.sub VR; rw [hρ, SE.sub_n]; rfl
  | .ssl n e l s, x => by unfold AV.sub VR; rw [hρ, SE.sub_n]; rfl
  | .rptr i e, x => by unfold AV.sub VR; rw [SE.sub_n]
  | .sl n off len sz r, x => by unfold AV.sub VR; rw [hρ]; rfl
  | .map n, x => by unfold AV.sub VR; rw [hρ]; rfl
  | .fn f a b, x => by
    unfold AV.sub VR
    constructor
    · rintro ⟨p, q, h1, h2, h3⟩
      exact ⟨p, q, h1, (VRs.ren hρ).1 h2, (VRs.ren hρ).1 h3⟩
    · rintro ⟨p, q, h1, h2, h3⟩
      exact ⟨p, q, h1, (VRs.ren hρ).2 h2, (VRs.ren hρ).2 h3⟩
  | .ifc t v, x => by
    unfold AV.sub VR
    constructor
    · rintro ⟨y, h1, h2⟩
      exact ⟨y, h1, (VR.ren hρ).1 h2⟩
    · rintro ⟨y, h1, h2⟩
      exact ⟨y, h1, (VR.ren hρ).2 h2⟩
  | .agg l, x => by
    unfold AV.sub VR
    constructor
    · rintro ⟨y, h1, h2⟩
      exact ⟨y, h1, (VRs.ren hρ).1 h2⟩
    · rintro ⟨y, h1, h2⟩
      exact ⟨y, h1, (VRs.ren hρ).2 h2⟩
  | .tup l, x => by
    unfold AV.sub VR
    constructor
    · rintro ⟨y, h1, h2⟩
      exact ⟨y, h1, (VRs.ren hρ).1 h2⟩
    · rintro ⟨y, h1, h2⟩
      exact ⟨y, h1, (VRs.ren hρ).2 h2⟩
  | .bool _, x => by unfold AV.sub VR; exact Iff.rfl
  | .int _ _, x => by unfold AV.sub VR; exact Iff.rfl
  | .str _, x => by unfold AV.sub VR; exact Iff.rfl
  | .nilp, x => by unfold AV.sub VR; exact Iff.rfl
  | .gptr _ _, x => by unfold AV.sub VR; exact Iff.rfl
  | .nilsl, x => by unfold AV.sub VR; exact Iff.rfl
  | .esl _, x => by unfold AV.sub VR; exact Iff.rfl
  | .zsl, x => by unfold AV.sub VR; exact Iff.rfl
  | .osl e, x => by unfold AV.sub VR; rw [SE.sub_n]
  | .rsl i, x => by unfold AV.sub VR; exact Iff.rfl
  | .nilmap, x => by unfold AV.sub VR; exact Iff.rfl
  | .nilfn, x => by unfold AV.sub VR; exact Iff.rfl
  | .nilif, x => by unfold AV.sub VR; exact Iff.rfl
theorem VRs.ren (hρ : ∀ n, ρ' n = ρ (lookN n ns)) : ∀ {l : List AV} {m : List Value}, VRs ρ (AV.subs { n := ns } l) m ↔ VRs ρ' l m
  | [], m => by unfold AV.subs VRs; exact Iff.rfl
  | v :: l, m => by
    unfold AV.subs VRs
    constructor
    · rintro ⟨y, ys, h1, h2, h3⟩
      exact ⟨y, ys, h1, (VR.ren hρ).1 h2, (VRs.ren hρ).1 h3⟩
    · rintro ⟨y, ys, h1, h2, h3⟩
      exact ⟨y, ys, h1, (VR.ren hρ).2 h2, (VRs.ren hρ).2 h3⟩
end
theorem TR.ren (hρ : ∀ n, ρ' n = ρ (lookN n ns)) {t : TB} {s : Nat} {x : Option Obj} : TR ρ (t.sub { n := ns }) s x ↔ TR ρ' t s x := by
  cases t with
  | cells l e =>
    constructor
    · rintro ⟨cur, h1, h2, h3, h4⟩
      rw [AV.subs_len] at h3
      refine ⟨cur, h1, h2, h3, fun i v hv => ?_⟩
      obtain ⟨h5, y, h6, h7⟩ := h4 i _ (AV.subs_get _ hv)
      rw [AV.sub_one] at h5
      exact ⟨h5, y, h6, (VR.ren hρ).1 h7⟩
    · rintro ⟨cur, h1, h2, h3, h4⟩
      refine ⟨cur, h1, h2, by rw [AV.subs_len]; exact h3, fun i v hv => ?_⟩
      have hi : i < l.length := by
        have := (List.getElem?_eq_some_iff.1 hv).1
        rwa [AV.subs_len] at this
      have h8 := AV.subs_get { n := ns } (List.getElem?_eq_getElem hi)
      rw [hv] at h8
      cases h8
      obtain ⟨h5, y, h6, h7⟩ := h4 i _ (List.getElem?_eq_getElem hi)
      exact ⟨by rw [AV.sub_one]; exact h5, y, h6, (VR.ren hρ).2 h7⟩
  | recs l ks e =>
    show TR ρ (.recs (l.sub { n := ns }) ks e) s x ↔ _
    rw [SE.sub_n]
    exact Iff.rfl
  | opb i n m =>
    show OR ρ (.opb (lookN i []) (lookN n ns) (lookN m ns)) s x ↔ OR ρ' (.opb i n m) s x
    simp only [OR, hρ]
    exact Iff.rfl
end
theorem TR.sub0 [Nums] {ρ : Ren} {t : TB} {s : Nat} {x : Option Obj} : TR ρ (t.sub {}) s x ↔ TR ρ t s x := TR.ren (ns := []) (fun _ => rfl)
def objSize : Obj → Nat
  | .cells c _ _ => c.size
  | _ => 0
/-- blocks that are as they are to be -/
def FitB [Nums] (ρ : Ren) : List (Nat × TB) → List (Nat × Obj) → Prop
  | [], bs => bs = []
  | (n, t) :: l, bs => ∃ b o s r, bs = (b, o) :: r ∧ ρ n = some (b, s) ∧ TR ρ t s (some o) ∧ FitB ρ l r
theorem newAll_get {θ : Sub} : ∀ {l : List TB} {h : AH} {n : Nat} {o : AO}, (newAll θ l h).get n = some o → (∃ i t, l[i]? = some t ∧ n = h.next + i ∧ o = (t.sub θ).ao) ∨ (n < h.next + l.length → n < h.next) ∧ h.get n = some o
  | [], h, n, o, hg => .inr ⟨(by simp), hg⟩
  | t :: l, h, n, o, hg => by
    unfold newAll at hg
    have hn : ((h.put h.next (some (t.sub θ).ao)).skip 1).next = h.next + 1 := by cases h; rfl
    rcases newAll_get hg with ⟨i, t', h1, h2, h3⟩ | ⟨h1, h2⟩
    · rw [hn] at h2
      exact .inl ⟨i + 1, t', by simpa using h1, by omega, h3⟩
    · have h2 : (h.put h.next (some (t.sub θ).ao)).get n = some o := by cases h; exact h2
      rw [hn] at h1
      rcases put_spec h2 with ⟨h3, h4⟩ | ⟨h3, h4⟩
      · cases h4
        exact .inl ⟨0, t, rfl, h3, rfl⟩
      · refine .inr ⟨fun hl => ?_, h4⟩
        simp only [List.length_cons] at hl
        have := h1 (by omega)
        omega
theorem newAll_next {θ : Sub} : ∀ {l : List TB} {h : AH}, (newAll θ l h).next = h.next + l.length
  | [], h => rfl
  | t :: l, h => by
    unfold newAll
    rw [newAll_next]
    have hn : ((h.put h.next (some (t.sub θ).ao)).skip 1).next = h.next + 1 := by cases h; rfl
    rw [hn, List.length_cons]
    omega
theorem putAll_get {θ : Sub} : ∀ {l : List (Nat × TB)} {h : AH} {n : Nat} {o : AO}, (putAll θ l h).get n = some o → (∃ t, (n, t) ∈ l ∧ o = (t.sub θ).ao) ∨ h.get n = some o
  | [], h, n, o, hg => .inr hg
  | (m, t) :: l, h, n, o, hg => by
    unfold putAll at hg
    rcases put_spec hg with ⟨rfl, h2⟩ | ⟨_, h2⟩
    · cases h2
      exact .inl ⟨t, List.mem_cons_self, rfl⟩
    · rcases putAll_get h2 with ⟨t', h3, h4⟩ | h3
      · exact .inl ⟨t', List.mem_cons_of_mem _ h3, h4⟩
      · exact .inr h3
theorem putAll_next {θ : Sub} : ∀ {l : List (Nat × TB)} {h : AH}, (putAll θ l h).next = h.next
  | [], h => rfl
  | (m, t) :: l, h => by
    unfold putAll
    rw [put_next, putAll_next]
theorem dropAll_get : ∀ {l : List (Nat × TB)} {h : AH} {n : Nat} {o : AO}, (dropAll l h).get n = some o → h.get n = some o ∧ ∀ t, (n, t) ∉ l
  | [], h, n, o, hg => ⟨hg, fun t hm => by cases hm⟩
  | (m, t) :: l, h, n, o, hg => by
    unfold dropAll at hg
    rcases put_spec hg with ⟨_, h2⟩ | ⟨h1, h2⟩
    · cases h2
    · obtain ⟨h3, h4⟩ := dropAll_get h2
      refine ⟨h3, fun t' hm => ?_⟩
      rcases List.mem_cons.1 hm with he | hm
      · cases he
        exact h1 rfl
      · exact h4 t' hm
theorem dropAll_next : ∀ {l : List (Nat × TB)} {h : AH}, (dropAll l h).next = h.next
  | [], h => rfl
  | (m, t) :: l, h => by
    unfold dropAll
    rw [put_next, dropAll_next]
theorem lookN_rel {nx : Nat} : ∀ {l : List TB} {i n : Nat}, lookN n (relSub nx i l) = n ∨ ∃ j, j < l.length ∧ n = rel + (i + j) ∧ lookN n (relSub nx i l) = nx + (i + j)
  | [], i, n => .inl rfl
  | t :: l, i, n => by
    unfold relSub lookN
    split
    · rename_i hb
      have hb := Nat.eq_of_beq_eq_true hb
      exact .inr ⟨0, by simp, hb.symm, rfl⟩
    · rcases lookN_rel (nx := nx) (l := l) (i := Nat.add i 1) (n := n) with h1 | ⟨j, h1, h2, h3⟩
      · exact .inl h1
      · refine .inr ⟨j + 1, by simp; omega, ?_, ?_⟩
        · rw [h2]
          show rel + (i + 1 + j) = rel + (i + (j + 1))
          omega
        · rw [h3]
          show nx + (i + 1 + j) = nx + (i + (j + 1))
          omega
theorem lookN_small {nx : Nat} {l : List TB} {n : Nat} (h : n < rel) : lookN n (relSub nx 0 l) = n := by
  rcases lookN_rel (nx := nx) (l := l) (i := 0) (n := n) with h1 | ⟨j, _, h2, _⟩
  · exact h1
  · omega
theorem lookN_big {nx : Nat} : ∀ {l : List TB} {i j : Nat}, j < l.length → lookN (rel + (i + j)) (relSub nx i l) = nx + (i + j)
  | [], i, j, h => by simp at h
  | t :: l, i, j, h => by
    unfold relSub lookN
    split
    · rename_i hb
      have hb : rel + i = rel + (i + j) := Nat.eq_of_beq_eq_true hb
      have : j = 0 := by omega
      subst this
      rfl
    · rename_i hb
      have hb : rel + i ≠ rel + (i + j) := Nat.ne_of_beq_eq_false hb
      cases j with
      | zero => exact absurd rfl hb
      | succ j =>
        have := lookN_big (nx := nx) (l := l) (i := i + 1) (j := j) (by simpa using h)
        have e1 : rel + (i + 1 + j) = rel + (i + (j + 1)) := by omega
        have e2 : nx + (i + 1 + j) = nx + (i + (j + 1)) := by omega
        rw [e1, e2] at this
        exact this
theorem FitB.mem [Nums] {ρ : Ren} : ∀ {l : List (Nat × TB)} {bs : List (Nat × Obj)}, FitB ρ l bs → ∀ p ∈ l, ∃ b o s, (b, o) ∈ bs ∧ ρ p.1 = some (b, s) ∧ TR ρ p.2 s (some o)
  | [], bs, h, p, hp => by cases hp
  | (n, t) :: l, bs, h, p, hp => by
    obtain ⟨b, o, s, r, rfl, h1, h2, h3⟩ := h
    rcases List.mem_cons.1 hp with rfl | hp
    · exact ⟨b, o, s, List.mem_cons_self, h1, h2⟩
    · obtain ⟨b', o', s', h4, h5, h6⟩ := FitB.mem h3 p hp
      exact ⟨b', o', s', List.mem_cons_of_mem _ h4, h5, h6⟩
theorem FitB.back [Nums] {ρ : Ren} : ∀ {l : List (Nat × TB)} {bs : List (Nat × Obj)}, FitB ρ l bs → ∀ q ∈ bs, ∃ p ∈ l, ∃ s, ρ p.1 = some (q.1, s)
  | [], bs, h, q, hq => by
    have : bs = [] := h
    subst this
    cases hq
  | (n, t) :: l, bs, h, q, hq => by
    obtain ⟨b, o, s, r, rfl, h1, h2, h3⟩ := h
    rcases List.mem_cons.1 hq with rfl | hq
    · exact ⟨_, List.mem_cons_self, s, h1⟩
    · obtain ⟨p, h4, h5⟩ := FitB.back h3 q hq
      exact ⟨p, List.mem_cons_of_mem _ h4, h5⟩
section
variable [Nums] {P : Program}
/-- .. with all that is known of memory -/
theorem kc_ownH {k : Kc} (hf : FnOk P k.f) (hpost : ∀ p ∈ k.post, ∃ t, (p.1, t) ∈ k.pre) (hpn : ∀ p ∈ k.pre, p.1 < rel)
    (hc : (∀ c ∈ k.conds, c.1.ev Nums.σ = c.2) → ∀ (ρ : Ren) (W w : World) (m : List (Nat × Obj)) (args' : Array Value) (bs : List (Nat × Obj)), ∀ h : AH, HR ρ h.get h.next w → fitH {} h k.pre = true → FitB ρ k.pre bs → VRs ρ k.args args'.toList → Own W (bs ++ m) w →
      Calls P k.f args' w fun e w' => ∃ x ds bs', e = .returned x ∧ Own W (ds ++ (bs' ++ m)) w' ∧ bs'.map (·.1) = bs.map (·.1) ∧ ds.length = k.news.length ∧
        ∀ ρ' : Ren, (∀ n p, n < rel → ρ n = some p → ρ' n = some p) → (∀ (i : Nat) d, ds[i]? = some d → ρ' (rel + i) = some (d.1, objSize d.2)) →
          VR ρ' k.res x ∧ (∀ (i : Nat) t d, k.news[i]? = some t → ds[i]? = some d → TR ρ' t (objSize d.2) (some d.2)) ∧ ∀ p ∈ k.post, ∃ b o s, (b, o) ∈ bs' ∧ ρ p.1 = some (b, s) ∧ TR ρ' p.2 s (some o)) : KcOk P k := by
  intro hcs
  refine ⟨hf, fun ρ h h' w args' v hat hH hargs => ?_⟩
  unfold Kc.at at hat
  split at hat <;> first | (cases hat; done) | skip
  rename_i hfit
  split at hat <;> first | (cases hat; done) | skip
  rename_i hsm
  have hsm : h.next + k.news.length < 600000 := by simpa using hsm
  simp only [Option.some.injEq, Prod.mk.injEq] at hat
  obtain ⟨rfl, rfl⟩ := hat
  obtain ⟨hfm, hinj⟩ := fitH_mem hfit
  have hid : ∀ n : Nat, ({} : Sub).nAt n = n := fun n => rfl
  -- the blocks
  have mk : ∀ (l : List (Nat × TB)), (∀ p ∈ l, p ∈ k.pre) → l.Nodup → ∃ bs, FitB ρ l bs ∧ (∀ q ∈ bs, w.heap[q.1]? = some q.2) ∧ (bs.map (·.1)).Nodup := by
    intro l
    induction l with
    | nil => intro _ _; exact ⟨[], rfl, (by simp), by simp⟩
    | cons p l ih =>
      intro hl hnd
      obtain ⟨n, t⟩ := p
      obtain ⟨bs, h1, h2, h3⟩ := ih (fun q hq => hl q (List.mem_cons_of_mem _ hq)) (List.nodup_cons.1 hnd).2
      obtain ⟨a, ha, haf⟩ := hfm (n, t) (hl _ List.mem_cons_self)
      rw [hid] at ha
      obtain ⟨b, s, hp, hO⟩ := hH.obj n a ha
      have hT := TR.sub0.1 (TB.fits_ok haf hO)
      cases hx : w.heap[b]? with
      | none =>
        rw [hx] at hO
        exact hO.notNone.elim
      | some o =>
        rw [hx] at hT
        refine ⟨(b, o) :: bs, ⟨b, o, s, bs, rfl, hp, hT, h1⟩, fun q hq => ?_, ?_⟩
        · rcases List.mem_cons.1 hq with rfl | hq
          · exact hx
          · exact h2 q hq
        · rw [List.map_cons, List.nodup_cons]
          refine ⟨fun hm => ?_, h3⟩
          obtain ⟨q, hq, hqb⟩ := List.mem_map.1 hm
          obtain ⟨p', hp', s', hps⟩ := FitB.back h1 q hq
          obtain ⟨a', ha', _⟩ := hfm p' (hl _ (List.mem_cons_of_mem _ hp'))
          rw [hid] at ha'
          rw [hqb] at hps
          have hnn := hH.inj n p'.1 b s s' (by rw [ha]; rfl) (by rw [ha']; rfl) hp hps
          have := hinj (n, t) (hl _ List.mem_cons_self) p' (hl _ (List.mem_cons_of_mem _ hp')) hnn
          rw [this] at hnd
          exact (List.nodup_cons.1 hnd).1 hp'
  have hnd : k.pre.Nodup := by
    have : ∀ {l : List (Nat × TB)}, fitH {} h l = true → l.Nodup := by
      intro l
      induction l with
      | nil => intro _; exact List.nodup_nil
      | cons p l ih =>
        intro hl
        obtain ⟨n, t⟩ := p
        unfold fitH at hl
        split at hl <;> first | (cases hl; done) | skip
        rw [Bool.and_eq_true, Bool.and_eq_true] at hl
        refine List.nodup_cons.2 ⟨fun hm => ?_, ih hl.2.2⟩
        exact notIn_mem hl.2.1 _ hm rfl
    exact this hfit
  obtain ⟨bs, hF, hbs, hbn⟩ := mk k.pre (fun _ h => h) hnd
  -- the world as owned blocks
  let W : World := { w with heap := #[] }
  let m : List (Nat × Obj) := ((List.range w.heap.size).filter fun b => !(bs.map (·.1)).contains b).map fun b => (b, w.heap[b]?.getD (.map #[] 0))
  have hmm : m.map (·.1) = (List.range w.heap.size).filter fun b => !(bs.map (·.1)).contains b := by
    simp [m, List.map_map, Function.comp_def]
  have hO : Own W (bs ++ m) w := by
    refine ⟨⟨rfl, rfl, rfl, Nat.zero_le _, fun b hb => by simp [W] at hb⟩, fun p hp => ⟨Nat.zero_le _, ?_⟩, ?_⟩
    · rcases List.mem_append.1 hp with hp | hp
      · exact hbs p hp
      · obtain ⟨b, hb, rfl⟩ := List.mem_map.1 hp
        have hlt := List.mem_range.1 (List.mem_filter.1 hb).1
        simp [Array.getElem?_eq_getElem hlt]
    · rw [List.map_append, List.nodup_append]
      refine ⟨hbn, by rw [hmm]; exact List.nodup_range.filter _, fun a ha b hb he => ?_⟩
      rw [hmm] at hb
      have := (List.mem_filter.1 hb).2
      rw [← he] at this
      simp only [Bool.not_eq_true', List.contains_eq_mem, decide_eq_false_iff_not] at this
      exact this ha
  have hin : ∀ b, b < w.heap.size → (∃ o, (b, o) ∈ bs) ∨ (b, w.heap[b]?.getD (.map #[] 0)) ∈ m := by
    intro b hb
    by_cases hc : b ∈ bs.map (·.1)
    · obtain ⟨q, hq, rfl⟩ := List.mem_map.1 hc
      exact .inl ⟨q.2, hq⟩
    · refine .inr (List.mem_map.2 ⟨b, List.mem_filter.2 ⟨List.mem_range.2 hb, ?_⟩, rfl⟩)
      simp only [Bool.not_eq_true', List.contains_eq_mem, decide_eq_false_iff_not]
      exact hc
  refine (hc hcs ρ W w m args' bs h hH hfit hF hargs hO).mono ?_
  rintro e w' ⟨x, ds, bs', rfl, hO', hbb, hdl, hres⟩
  -- where blocks are now
  have hd : ∀ (i : Nat) d, ds[i]? = some d → w'.heap[d.1]? = some d.2 := fun i d hi => hO'.get (b := d.1) (o := d.2) (List.mem_append_left _ (List.mem_of_getElem? hi))
  have hb' : ∀ q ∈ bs', w'.heap[q.1]? = some q.2 := fun q hq => hO'.get (b := q.1) (o := q.2) (List.mem_append_right _ (List.mem_append_left _ hq))
  have hrest : ∀ b, b < w.heap.size → (∀ o, (b, o) ∉ bs) → w'.heap[b]? = w.heap[b]? := by
    intro b hb hno
    rcases hin b hb with ⟨o, ho⟩ | hm
    · exact absurd ho (hno o)
    · rw [hO'.get (b := b) (o := w.heap[b]?.getD (.map #[] 0)) (List.mem_append_right _ (List.mem_append_right _ hm)), Array.getElem?_eq_getElem hb]
      rfl
  have hdnew : ∀ (i : Nat) d, ds[i]? = some d → w.heap.size ≤ d.1 := by
    intro i d hi
    rcases Nat.lt_or_ge d.1 w.heap.size with hlt | hge
    · exfalso
      have hnd' := hO'.nd
      rw [List.map_append, List.nodup_append] at hnd'
      have hdm : d.1 ∈ ds.map (·.1) := List.mem_map.2 ⟨d, List.mem_of_getElem? hi, rfl⟩
      rcases hin d.1 hlt with ⟨o, ho⟩ | hm
      · have : d.1 ∈ bs'.map (·.1) := by rw [hbb]; exact List.mem_map.2 ⟨_, ho, rfl⟩
        exact hnd'.2.2 _ hdm _ (by rw [List.map_append]; exact List.mem_append_left _ this) rfl
      · exact hnd'.2.2 _ hdm _ (by rw [List.map_append]; exact List.mem_append_right _ (List.mem_map.2 ⟨_, hm, rfl⟩)) rfl
    · exact hge
  have hsize : w.heap.size ≤ w'.heap.size := by
    rcases Nat.lt_or_ge w'.heap.size w.heap.size with hlt | hge
    · exfalso
      have hpos : w.heap.size - 1 < w.heap.size := by omega
      have : ∃ o, w'.heap[w.heap.size - 1]? = some o := by
        rcases hin _ hpos with ⟨o, ho⟩ | hm
        · have : (w.heap.size - 1) ∈ bs'.map (·.1) := by rw [hbb]; exact List.mem_map.2 ⟨_, ho, rfl⟩
          obtain ⟨q, hq, hqe⟩ := List.mem_map.1 this
          exact ⟨q.2, by rw [← hqe]; exact hb' q hq⟩
        · exact ⟨_, hO'.get (b := w.heap.size - 1) (o := w.heap[w.heap.size - 1]?.getD (.map #[] 0)) (List.mem_append_right _ (List.mem_append_right _ hm))⟩
      obtain ⟨o, ho⟩ := this
      have := heap_lt ho
      omega
    · exact hge
  -- names now
  let ρ2 : Ren := fun n => if n < h.next then ρ n else (ds[n - h.next]?).map fun d => (d.1, objSize d.2)
  have r1 : ∀ n, n < h.next → ρ2 n = ρ n := fun n hn => by simp [ρ2, hn]
  have r2 : ∀ (i : Nat) d, ds[i]? = some d → ρ2 (h.next + i) = some (d.1, objSize d.2) := fun i d hi => by
    simp only [ρ2, if_neg (show ¬ h.next + i < h.next by omega), Nat.add_sub_cancel_left, hi, Option.map_some]
  let ns := relSub h.next 0 k.news
  let ρ3 : Ren := fun n => ρ2 (lookN n ns)
  have hρ3 : ∀ n, ρ3 n = ρ2 (lookN n ns) := fun _ => rfl
  obtain ⟨hx, hnews, hposts⟩ := hres ρ3 (fun n p hn hp => by
      rw [hρ3, lookN_small hn, r1 n (hH.lt hp)]
      exact hp) (fun i d hi => by
      have hil : i < k.news.length := by rw [← hdl]; exact (List.getElem?_eq_some_iff.1 hi).1
      rw [hρ3]
      have := lookN_big (nx := h.next) (l := k.news) (i := 0) (j := i) hil
      rw [Nat.zero_add] at this
      rw [this]
      exact r2 i d hi)
  refine ⟨ρ2, x, rfl, (VR.ren hρ3).2 hx, ?_⟩
  have hnext : (newAll { n := ns } k.news (putAll { n := ns } k.post (dropAll k.pre h))).next = h.next + k.news.length := by
    rw [newAll_next, putAll_next, dropAll_next]
  -- what is under a name
  have under : ∀ n o, (newAll { n := ns } k.news (putAll { n := ns } k.post (dropAll k.pre h))).get n = some o →
      (∃ (i : Nat) (d : Nat × Obj) (t : TB), ds[i]? = some d ∧ k.news[i]? = some t ∧ n = h.next + i ∧ o = (t.sub { n := ns }).ao) ∨ (∃ t, (n, t) ∈ k.post ∧ n < h.next ∧ o = (t.sub { n := ns }).ao) ∨ (n < h.next ∧ h.get n = some o ∧ ∀ t, (n, t) ∉ k.pre) := by
    intro n o hg
    rcases newAll_get hg with ⟨i, t, h1, h2, h3⟩ | ⟨h1, h2⟩
    · rw [putAll_next, dropAll_next] at h2
      have hil : i < ds.length := by rw [hdl]; exact (List.getElem?_eq_some_iff.1 h1).1
      exact .inl ⟨i, ds[i], t, List.getElem?_eq_getElem hil, h1, h2, h3⟩
    · have hk : ∀ a, h.get n = some a → n < h.next := fun a ha => by
        obtain ⟨b, s, hp, _⟩ := hH.obj n a ha
        exact hH.lt hp
      rcases putAll_get h2 with ⟨t, h3, h4⟩ | h3
      · obtain ⟨t0, ht0⟩ := hpost _ h3
        obtain ⟨a, ha, _⟩ := hfm _ ht0
        rw [hid] at ha
        exact .inr (.inl ⟨t, h3, hk a ha, h4⟩)
      · obtain ⟨h4, h5⟩ := dropAll_get h3
        exact .inr (.inr ⟨hk o h4, h4, h5⟩)
  have hpostb : ∀ n t, (n, t) ∈ k.post → ∃ b s, ρ n = some (b, s) ∧ (h.get n).isSome = true ∧ TR ρ3 t s w'.heap[b]? := by
    intro n t hm
    obtain ⟨b, o, s, h1, h2, h3⟩ := hposts _ hm
    obtain ⟨t0, ht0⟩ := hpost _ hm
    obtain ⟨a, ha, _⟩ := hfm _ ht0
    rw [hid] at ha
    exact ⟨b, s, h2, by rw [ha]; rfl, by rw [hb' _ h1]; exact h3⟩
  have hrestn : ∀ n o, h.get n = some o → (∀ t, (n, t) ∉ k.pre) → ∃ b s, ρ n = some (b, s) ∧ w'.heap[b]? = w.heap[b]? ∧ OR ρ o s w.heap[b]? := by
    intro n o hg hno
    obtain ⟨b, s, hp, hO1⟩ := hH.obj n o hg
    have hlt : b < w.heap.size := by
      rcases Nat.lt_or_ge b w.heap.size with h1 | h1
      · exact h1
      · rw [Array.getElem?_eq_none h1] at hO1
        exact hO1.notNone.elim
    refine ⟨b, s, hp, hrest b hlt fun o' ho' => ?_, hO1⟩
    obtain ⟨p, hp', s', hps⟩ := FitB.back hF _ ho'
    obtain ⟨a, ha, _⟩ := hfm p hp'
    rw [hid] at ha
    have := hH.inj n p.1 b s s' (by rw [hg]; rfl) (by rw [ha]; rfl) hp hps
    obtain ⟨pn, pt⟩ := p
    dsimp only at this
    subst this
    exact hno _ hp'
  have ext2 : ∀ n p, ρ n = some p → ρ2 n = some p := fun n p hp => by rw [r1 n (hH.lt hp)]; exact hp
  have isold : ∀ n, ((newAll { n := ns } k.news (putAll { n := ns } k.post (dropAll k.pre h))).get n).isSome = true → n < h.next → (h.get n).isSome = true := by
    intro n hn hlt
    obtain ⟨o, ho⟩ := Option.isSome_iff_exists.1 hn
    rcases under n o ho with ⟨i, d, t, h1, h2, h3, h4⟩ | ⟨t, h1, h2, h3⟩ | ⟨h1, h2, h3⟩
    · omega
    · obtain ⟨b, s, _, h4, _⟩ := hpostb n t h1
      exact h4
    · rw [h2]; rfl
  have newb : ∀ n b s, ((newAll { n := ns } k.news (putAll { n := ns } k.post (dropAll k.pre h))).get n).isSome = true → ρ2 n = some (b, s) → (h.next ≤ n ∧ ∃ (i : Nat) (d : Nat × Obj), n = h.next + i ∧ ds[i]? = some d ∧ b = d.1) ∨ (n < h.next ∧ (h.get n).isSome = true ∧ ρ n = some (b, s)) := by
    intro n b s hn hp
    by_cases hlt : n < h.next
    · rw [r1 n hlt] at hp
      exact .inr ⟨hlt, isold n hn hlt, hp⟩
    · obtain ⟨o, ho⟩ := Option.isSome_iff_exists.1 hn
      rcases under n o ho with ⟨i, d, t, h1, h2, h3, h4⟩ | ⟨t, h1, h2, h3⟩ | ⟨h1, h2, h3⟩
      · subst h3
        rw [r2 i d h1] at hp
        cases hp
        exact .inl ⟨by omega, i, d, rfl, h1, rfl⟩
      · omega
      · omega
  have hlive : ∀ n b s, ((newAll { n := ns } k.news (putAll { n := ns } k.post (dropAll k.pre h))).get n).isSome = true → ρ2 n = some (b, s) → w.heap.size ≤ b ∨ ∃ m s', (h.get m).isSome = true ∧ ρ m = some (b, s') := by
    intro n b s hn hp
    rcases newb n b s hn hp with ⟨_, i, d, _, h2, rfl⟩ | ⟨h1, h2, h3⟩
    · exact .inl (hdnew i d h2)
    · exact .inr ⟨n, s, h2, h3⟩
  have hblock : ∀ b, b < w.heap.size → (∀ n s, (h.get n).isSome = true → ρ n ≠ some (b, s)) → w'.heap[b]? = w.heap[b]? := by
    intro b hb hl
    refine hrest b hb fun o ho => ?_
    obtain ⟨p, hp', s', hps⟩ := FitB.back hF _ ho
    obtain ⟨a, ha, _⟩ := hfm p hp'
    rw [hid] at ha
    exact hl p.1 s' (by rw [ha]; rfl) hps
  have hT := hH.tables (w' := w') hblock hlive
  refine ⟨⟨fun n hn => ?_, fun n o ho => ?_, fun n q b s s' hn hq hp hp' => ?_, hT.1, hT.2.1, hT.2.2.1, hT.2.2.2⟩, r1, by rw [hnext]; omega, hO'.below.os, hO'.below.tape, hO'.below.output, hsize, hblock, hlive, fun n hn hs2 => isold n hs2 hn⟩
  · rw [hnext] at hn
    show (if n < h.next then ρ n else (ds[n - h.next]?).map fun d => (d.1, objSize d.2)) = none
    rw [if_neg (by omega), List.getElem?_eq_none (by omega)]
    rfl
  · rcases under n o ho with ⟨i, d, t, h1, h2, h3, h4⟩ | ⟨t, h1, h2, h3⟩ | ⟨h1, h2, h3⟩
    · subst h3; subst h4
      refine ⟨d.1, objSize d.2, r2 i d h1, ?_⟩
      rw [hd i d h1]
      exact ((TR.ren hρ3).2 (hnews i t d h2 h1)).or
    · subst h3
      obtain ⟨b, s, h4, _, h5⟩ := hpostb n t h1
      exact ⟨b, s, ext2 _ _ h4, ((TR.ren hρ3).2 h5).or⟩
    · obtain ⟨b, s, h4, h5, h6⟩ := hrestn n o h2 h3
      refine ⟨b, s, ext2 _ _ h4, ?_⟩
      rw [h5]
      exact h6.mono ext2
  · rcases newb n b s hn hp with ⟨_, i, d, rfl, h2, rfl⟩ | ⟨h1, h2, h3⟩ <;> rcases newb q _ s' hq hp' with ⟨_, j, d', rfl, h5, h6⟩ | ⟨h4, h5, h6⟩
    · have hnd' := hO'.nd
      rw [List.map_append, List.nodup_append] at hnd'
      have h7 : (ds.map (·.1))[i]? = some d.1 := by simp [h2]
      have h8 : (ds.map (·.1))[j]? = some d.1 := by simp [h5, h6]
      have := (List.getElem?_inj (List.getElem?_eq_some_iff.1 h7).1 hnd'.1).1 (h7.trans h8.symm)
      omega
    · exfalso
      obtain ⟨a, ha⟩ := Option.isSome_iff_exists.1 h5
      obtain ⟨b2, s2, hp2, hO2⟩ := hH.obj q a ha
      rw [h6] at hp2
      cases hp2
      have := hdnew i d h2
      rw [Array.getElem?_eq_none this] at hO2
      exact hO2.notNone
    · exfalso
      obtain ⟨a, ha⟩ := Option.isSome_iff_exists.1 h2
      obtain ⟨b2, s2, hp2, hO2⟩ := hH.obj n a ha
      rw [h3] at hp2
      cases hp2
      have := hdnew j d' h5
      rw [h6, Array.getElem?_eq_none this] at hO2
      exact hO2.notNone
    · exact hH.inj n q b s s' h2 h5 h3 h6
/-- A KNOWN CALL, out of a contract over owned blocks -/
theorem kc_own {k : Kc} (hf : FnOk P k.f) (hpost : ∀ p ∈ k.post, ∃ t, (p.1, t) ∈ k.pre) (hpn : ∀ p ∈ k.pre, p.1 < rel)
    (hc : (∀ c ∈ k.conds, c.1.ev Nums.σ = c.2) → ∀ (ρ : Ren) (W w : World) (m : List (Nat × Obj)) (args' : Array Value) (bs : List (Nat × Obj)), FitB ρ k.pre bs → VRs ρ k.args args'.toList → Own W (bs ++ m) w →
      Calls P k.f args' w fun e w' => ∃ x ds bs', e = .returned x ∧ Own W (ds ++ (bs' ++ m)) w' ∧ bs'.map (·.1) = bs.map (·.1) ∧ ds.length = k.news.length ∧
        ∀ ρ' : Ren, (∀ n p, n < rel → ρ n = some p → ρ' n = some p) → (∀ (i : Nat) d, ds[i]? = some d → ρ' (rel + i) = some (d.1, objSize d.2)) →
          VR ρ' k.res x ∧ (∀ (i : Nat) t d, k.news[i]? = some t → ds[i]? = some d → TR ρ' t (objSize d.2) (some d.2)) ∧ ∀ p ∈ k.post, ∃ b o s, (b, o) ∈ bs' ∧ ρ p.1 = some (b, s) ∧ TR ρ' p.2 s (some o)) : KcOk P k :=
  kc_ownH hf hpost hpn fun hcs ρ W w m args' bs _ _ _ => hc hcs ρ W w m args' bs
end
end Go.Proofs.YtmnpccpfejgkmaaGreat.Ex

/-
  The runner: a function's text, question by question; lists of what is known. No condition.
-/
namespace Go.Proofs.YtmnpccpfejgkmaaGreat.Ex
open Go
section
variable {P : Program} {gs : List (Nat × List Int)} {rks : List (Nat × CK)} {ro : Nat → Option (Option Addr × Nat × Nat)} {σ : Nat → Int} {Ω : Nat → Nat → Nat → Obj → Prop}
/-- known calls whatever the arguments are -/
abbrev kgs (l : List Kc) : Kg := fun _ => l
theorem kcAll_nil : KcAll gs rks ro P σ Ω (kgs []) := fun _ _ _ _ h => by cases h
theorem kcAll_cons {k : Kc} {l : List Kc} (h : ∀ fs (ok : ∀ f ∈ fs, f.1.ev σ = f.2), @KcOk (nums gs rks ro σ Ω fs ok) P k) (hl : KcAll gs rks ro P σ Ω (kgs l)) : KcAll gs rks ro P σ Ω (kgs (k :: l)) := fun fs ok args x hx => by
  rcases List.mem_cons.1 hx with rfl | hx
  · exact h fs ok
  · exact hl fs ok args x hx
/-- .. and by their arguments -/
theorem kcAll_more {k1 k2 : Kg} (h : KcAll gs rks ro P σ Ω k1) (hl : KcAll gs rks ro P σ Ω k2) : KcAll gs rks ro P σ Ω (fun args => k1 args ++ k2 args) := fun fs ok args x hx => by
  rcases List.mem_append.1 hx with hx | hx
  · exact h fs ok args x hx
  · exact hl fs ok args x hx
/-- one whose first argument is a slice -/
abbrev kgSl (K : Nat → Kc) : Kg := fun args => match args with
  | .dsl n _ _ :: _ => match Nat.blt n 600000 with
    | true => [K n]
    | false => []
  | _ => []
theorem kcAll_sl {K : Nat → Kc} (h : ∀ n, n < rel → ∀ fs (ok : ∀ f ∈ fs, f.1.ev σ = f.2), @KcOk (nums gs rks ro σ Ω fs ok) P (K n)) : KcAll gs rks ro P σ Ω (kgSl K) := fun fs ok args x hx => by
  unfold kgSl at hx
  split at hx
  · split at hx
    · rename_i hlt
      rw [List.mem_singleton] at hx
      subst hx
      exact h _ (show _ < 600000 by simpa using hlt) fs ok
    · cases hx
  · cases hx
theorem lnAll_nil {f : FuncId} : LnAll gs rks ro P f σ Ω [] := fun fs ok c hc l hl => by cases hl
theorem lnAll_cons {f : FuncId} {l : Ln} {lns : List Ln} (h : ∀ fs (ok : ∀ q ∈ fs, q.1.ev σ = q.2) (c : Code), c ∈ loopsOf (bodyOf P f) → loopId c = some l.key → @LnOk (nums gs rks ro σ Ω fs ok) P (ntOf P f) c l) (hl : LnAll gs rks ro P f σ Ω lns) : LnAll gs rks ro P f σ Ω (l :: lns) := fun fs ok c hc l' hl' => by
  rcases List.mem_cons.1 hl' with rfl | hl'
  · exact h fs ok c hc
  · exact hl fs ok c hc l' hl'
/-- one that looks at no memory -/
theorem kc_pure [Nums] {k : Kc} (ha : AV.shuts k.args = true) (hv : k.res.shut = true) (hpre : k.pre = []) (hpost : k.post = []) (hnews : k.news = []) (hf : FnOk P k.f)
    (hc : (∀ c ∈ k.conds, c.1.ev Nums.σ = c.2) → ∀ (W w : World) (m : List (Nat × Obj)), Own W m w → Calls P k.f (valsOf Nums.σ k.args).toArray w fun e w' => e = .returned (valOf Nums.σ k.res) ∧ Own W m w') : KcOk P k := by
  refine kc_own hf (by rw [hpost]; intro p hp; cases hp) (by rw [hpre]; intro p hp; cases hp) fun hcs ρ W w m args' bs hF hargs hO => ?_
  have hbs : bs = [] := by rw [hpre] at hF; exact hF
  subst hbs
  have hargs := VRs.shut hargs ha
  have hargs : args' = (valsOf Nums.σ k.args).toArray := by rw [← hargs]
  subst hargs
  refine (hc hcs W w m hO).mono ?_
  rintro e w' ⟨rfl, h'⟩
  refine ⟨_, [], [], rfl, h', rfl, by rw [hnews]; rfl, fun ρ' _ _ => ⟨VR.ofShut hv, fun i t d hi => by rw [hnews] at hi; simp at hi, fun p hp => by rw [hpost] at hp; cases hp⟩⟩
/-- A FUNCTION'S TEXT, question by question -/
theorem treeC_calls (hm : P.follows .mixedOrders = true) {f : FuncId} {kcs : Kg} {lns : List Ln} (hk : KcAll gs rks ro P σ Ω kcs) (hl : LnAll gs rks ro P f σ Ω lns) {n : Nat} {args : List AV} {t : Tm} {K : AV → List (Nat × TB) → Prop} {ρ : Ren} {w : World} {args' : Array Value} :
    ∀ (d : CT) (fs : List (Cnd × Bool)) (ok : ∀ f ∈ fs, f.1.ev σ = f.2), treeC P gs rks kcs lns n f args t d fs = true → RunC σ K d →
    @HR (nums gs rks ro σ Ω fs ok) ρ t.h.get t.h.next w → @VRs (nums gs rks ro σ Ω fs ok) ρ args args'.toList →
    Calls P f args' w fun e w' => ∃ fs' ok' v post ρ' x, ∃ h' : AH, K v post ∧ e = .returned x ∧ @VR (nums gs rks ro σ Ω fs' ok') ρ' v x ∧ @Stp (nums gs rks ro σ Ω fs' ok') ρ t.h.get t.h.next w ρ' h'.get h'.next w' ∧ ∀ p ∈ post, (h'.get p.1).isSome = true ∧ ∃ b s, ρ' p.1 = some (b, s) ∧ @TR (nums gs rks ro σ Ω fs' ok') ρ' p.2 s w'.heap[b]?
  | .is v post, fs, ok, h, hK, hH, hargs => by
    unfold treeC at h
    letI N : Nums := nums gs rks ro σ Ω fs ok
    split at h <;> first | (cases h; done) | skip
    rename_i fn hf
    split at h <;> first | (cases h; done) | skip
    split at h <;> first | (cases h; done) | skip
    rename_i c hb
    split at h <;> first | (cases h; done) | skip
    rename_i hle
    rw [Bool.and_eq_true] at hle
    have hle := Nat.le_of_ble_eq_true hle.1
    have hnt : ntOf P f = fn.ntmps := by unfold ntOf; rw [hf]
    have hbody : bodyOf P f = c := by unfold bodyOf; rw [hf]; dsimp only; rw [hb]
    have hal : args.length = args'.size := by simpa using VRs.len hargs
    have hE : ER ρ (envOf 0 args .e) fn.ntmps { tmps := args' ++ Array.replicate (fn.ntmps - args'.size) undef, defers := [] } := by
      refine ⟨rfl, by simp; omega, fun t v hv => ?_⟩
      rcases envOf_get hv with ⟨_, h1⟩ | h1
      · rw [Nat.sub_zero] at h1
        obtain ⟨x, hx, hr⟩ := VRs.get hargs h1
        refine ⟨x, ?_, hr⟩
        have hlt := (List.getElem?_eq_some_iff.1 hx).1
        rw [Array.getElem?_append_left (by simpa using hlt)]
        simpa using hx
      · rw [T.get_e] at h1; cases h1
    split at h <;> first | (cases h; done) | skip
    rename_i x env' h1 hno hx
    split at h <;> first | (cases h; done) | skip
    rename_i vs hvs
    rw [Bool.and_eq_true] at h
    refine calls_of_wp hf hb (wp_mono (execL_wp (L := loopsOf c) hm (callK_sound hm (fun _ => hk fs ok) n) (fun d hd l hl' hkey => by
      have := hl fs ok d (by rw [hbody]; exact hd) l hl' hkey
      rw [hnt] at this
      exact this) c _ _ _ _ _ (fun _ h => h) hx ρ w _ hE hH) ?_)
    rintro e a1 w1 ⟨rfl, ρ1, hst, hE1⟩
    obtain ⟨y, hy, hrun⟩ := results_sound (fn := fn) hst.hr hE1 hvs
    have hpost : ∀ p ∈ post, (h1.get p.1).isSome = true ∧ ∃ b s, ρ1 p.1 = some (b, s) ∧ TR ρ1 p.2 s w1.heap[b]? := fun p hp => by
      obtain ⟨a, ha, haf⟩ := (fitH_mem h.2).1 p hp
      have hid : ({} : Sub).nAt p.1 = p.1 := rfl
      rw [hid] at ha
      obtain ⟨b, s, hbs, hO⟩ := hst.hr.obj _ _ ha
      exact ⟨by rw [ha]; rfl, b, s, hbs, TR.sub0.1 (TB.fits_ok haf hO)⟩
    cases x with
    | exit id => exact absurd rfl (hno id)
    | normal => exact ⟨hE1.dz, y, hrun, fs, ok, v, post, ρ1, y, h1, hK, rfl, AV.fits_ok h.1 hy, hst, hpost⟩
    | ret => exact ⟨hE1.dz, y, hrun, fs, ok, v, post, ρ1, y, h1, hK, rfl, AV.fits_ok h.1 hy, hst, hpost⟩
  | .bad, _, _, _, hK, _, _ => hK.elim
  | .node q d e, fs, ok, h, hK, hH, hargs => by
    unfold treeC at h
    split at h <;> first | (cases h; done) | skip
    rename_i h1
    cases hq : q.ev σ with
    | true => exact treeC_calls hm hk hl d ((q, true) :: fs) (cons_ok ok hq) h1 (hK.1 hq) (HR.fac hH) (VRs.fac hargs)
    | false => exact treeC_calls hm hk hl e ((q, false) :: fs) (cons_ok ok hq) h (hK.2 hq) (HR.fac hH) (VRs.fac hargs)
/-- a law: it begins without blocks, and answers true -/
theorem law_calls (hm : P.follows .mixedOrders = true) {f : FuncId} {kcs : Kg} {lns : List Ln} (hk : KcAll gs rks ro P σ Ω kcs) (hl : LnAll gs rks ro P f σ Ω lns) {n : Nat} {args : List AV} {d : CT} {fs : List (Cnd × Bool)} (ok : ∀ f ∈ fs, f.1.ev σ = f.2)
    (h : treeC P gs rks kcs lns n f args ⟨[], [], ⟨0, 0, 0, 0⟩⟩ d fs = true) (hr : RunC σ (fun v _ => v = .bool true) d) (w : World) (hg : Tabs gs w) (hro : @Ros (nums gs rks ro σ Ω fs ok) w) {args' : Array Value} (hargs : @VRs (nums gs rks ro σ Ω fs ok) (fun _ => none) args args'.toList) :
    Calls P f args' w fun e w' => e = .returned (.bool true) ∧ Own w [] w' := by
  have hne : ∀ n, ((⟨[], [], ⟨0, 0, 0, 0⟩⟩ : Tm).h.get n) = none := fun n => by
    show (T.e : T AO).get n = none
    exact T.get_e n
  have hH : @HR (nums gs rks ro σ Ω fs ok) (fun _ => none) (⟨[], [], ⟨0, 0, 0, 0⟩⟩ : Tm).h.get (⟨[], [], ⟨0, 0, 0, 0⟩⟩ : Tm).h.next w :=
    @HR.mk (nums gs rks ro σ Ω fs ok) _ _ _ _ (fun _ _ => rfl) (fun n o hn => by rw [hne] at hn; cases hn) (fun n m b s s' hn => by rw [hne] at hn; cases hn) hg (fun b l _ n s hn => by rw [hne] at hn; cases hn) hro (fun b _ n s hn => by rw [hne] at hn; cases hn)
  refine (treeC_calls hm hk hl d fs ok h hr hH hargs).mono ?_
  rintro e w' ⟨fs', ok', v, post, ρ', x, h', rfl, rfl, hv, hst, _⟩
  unfold VR at hv
  subst hv
  refine ⟨rfl, ⟨⟨@Stp.os (nums gs rks ro σ Ω fs' ok') _ _ _ _ _ _ _ _ hst, @Stp.tape (nums gs rks ro σ Ω fs' ok') _ _ _ _ _ _ _ _ hst, @Stp.output (nums gs rks ro σ Ω fs' ok') _ _ _ _ _ _ _ _ hst, @Stp.size (nums gs rks ro σ Ω fs' ok') _ _ _ _ _ _ _ _ hst, fun b hb => @Stp.block (nums gs rks ro σ Ω fs' ok') _ _ _ _ _ _ _ _ hst b hb fun n s hn => by rw [hne] at hn; cases hn⟩, by simp, by simp⟩⟩
/-- known calls by memory -/
def KxAll (gs : List (Nat × List Int)) (rks : List (Nat × CK)) (ro : Nat → Option (Option Addr × Nat × Nat)) (P : Program) (σ : Nat → Int) (Ω : Nat → Nat → Nat → Obj → Prop) (kx : AH → Kg) : Prop := ∀ fs (ok : ∀ f ∈ fs, f.1.ev σ = f.2), ∀ h args, ∀ k ∈ kx h args, @KcOk (nums gs rks ro σ Ω fs ok) P k
theorem treeK_calls (hm : P.follows .mixedOrders = true) {f : FuncId} {kx : AH → Kg} {lns : List Ln} (hk : KxAll gs rks ro P σ Ω kx) (hl : LnAll gs rks ro P f σ Ω lns) {n : Nat} {args : List AV} {t : Tm} {K : AV → List (Nat × TB) → Prop} {ρ : Ren} {w : World} {args' : Array Value} :
    ∀ (d : CT) (fs : List (Cnd × Bool)) (ok : ∀ f ∈ fs, f.1.ev σ = f.2), treeK P gs rks kx lns n f args t d fs = true → RunC σ K d →
    @HR (nums gs rks ro σ Ω fs ok) ρ t.h.get t.h.next w → @VRs (nums gs rks ro σ Ω fs ok) ρ args args'.toList →
    Calls P f args' w fun e w' => ∃ fs' ok' v post ρ' x, ∃ h' : AH, K v post ∧ e = .returned x ∧ @VR (nums gs rks ro σ Ω fs' ok') ρ' v x ∧ @Stp (nums gs rks ro σ Ω fs' ok') ρ t.h.get t.h.next w ρ' h'.get h'.next w' ∧ ∀ p ∈ post, (h'.get p.1).isSome = true ∧ ∃ b s, ρ' p.1 = some (b, s) ∧ @TR (nums gs rks ro σ Ω fs' ok') ρ' p.2 s w'.heap[b]?
  | .is v post, fs, ok, h, hK, hH, hargs => by
    unfold treeK at h
    letI N : Nums := nums gs rks ro σ Ω fs ok
    split at h <;> first | (cases h; done) | skip
    rename_i fn hf
    split at h <;> first | (cases h; done) | skip
    split at h <;> first | (cases h; done) | skip
    rename_i c hb
    split at h <;> first | (cases h; done) | skip
    rename_i hle
    rw [Bool.and_eq_true] at hle
    have hle := Nat.le_of_ble_eq_true hle.1
    have hnt : ntOf P f = fn.ntmps := by unfold ntOf; rw [hf]
    have hbody : bodyOf P f = c := by unfold bodyOf; rw [hf]; dsimp only; rw [hb]
    have hal : args.length = args'.size := by simpa using VRs.len hargs
    have hE : ER ρ (envOf 0 args .e) fn.ntmps { tmps := args' ++ Array.replicate (fn.ntmps - args'.size) undef, defers := [] } := by
      refine ⟨rfl, by simp; omega, fun t v hv => ?_⟩
      rcases envOf_get hv with ⟨_, h1⟩ | h1
      · rw [Nat.sub_zero] at h1
        obtain ⟨x, hx, hr⟩ := VRs.get hargs h1
        refine ⟨x, ?_, hr⟩
        have hlt := (List.getElem?_eq_some_iff.1 hx).1
        rw [Array.getElem?_append_left (by simpa using hlt)]
        simpa using hx
      · rw [T.get_e] at h1; cases h1
    split at h <;> first | (cases h; done) | skip
    rename_i x env' h1 hno hx
    split at h <;> first | (cases h; done) | skip
    rename_i vs hvs
    rw [Bool.and_eq_true] at h
    refine calls_of_wp hf hb (wp_mono (execL_wp (L := loopsOf c) hm (callK_sound hm (hk fs ok) n) (fun d hd l hl' hkey => by
      have := hl fs ok d (by rw [hbody]; exact hd) l hl' hkey
      rw [hnt] at this
      exact this) c _ _ _ _ _ (fun _ h => h) hx ρ w _ hE hH) ?_)
    rintro e a1 w1 ⟨rfl, ρ1, hst, hE1⟩
    obtain ⟨y, hy, hrun⟩ := results_sound (fn := fn) hst.hr hE1 hvs
    have hpost : ∀ p ∈ post, (h1.get p.1).isSome = true ∧ ∃ b s, ρ1 p.1 = some (b, s) ∧ TR ρ1 p.2 s w1.heap[b]? := fun p hp => by
      obtain ⟨a, ha, haf⟩ := (fitH_mem h.2).1 p hp
      have hid : ({} : Sub).nAt p.1 = p.1 := rfl
      rw [hid] at ha
      obtain ⟨b, s, hbs, hO⟩ := hst.hr.obj _ _ ha
      exact ⟨by rw [ha]; rfl, b, s, hbs, TR.sub0.1 (TB.fits_ok haf hO)⟩
    cases x with
    | exit id => exact absurd rfl (hno id)
    | normal => exact ⟨hE1.dz, y, hrun, fs, ok, v, post, ρ1, y, h1, hK, rfl, AV.fits_ok h.1 hy, hst, hpost⟩
    | ret => exact ⟨hE1.dz, y, hrun, fs, ok, v, post, ρ1, y, h1, hK, rfl, AV.fits_ok h.1 hy, hst, hpost⟩
  | .bad, _, _, _, hK, _, _ => hK.elim
  | .node q d e, fs, ok, h, hK, hH, hargs => by
    unfold treeK at h
    split at h <;> first | (cases h; done) | skip
    rename_i h1
    cases hq : q.ev σ with
    | true => exact treeK_calls hm hk hl d ((q, true) :: fs) (cons_ok ok hq) h1 (hK.1 hq) (HR.fac hH) (VRs.fac hargs)
    | false => exact treeK_calls hm hk hl e ((q, false) :: fs) (cons_ok ok hq) h (hK.2 hq) (HR.fac hH) (VRs.fac hargs)
/-- a law: it begins without blocks, and answers true -/
theorem lawK_calls (hm : P.follows .mixedOrders = true) {f : FuncId} {kx : AH → Kg} {lns : List Ln} (hk : KxAll gs rks ro P σ Ω kx) (hl : LnAll gs rks ro P f σ Ω lns) {n : Nat} {args : List AV} {d : CT} {fs : List (Cnd × Bool)} (ok : ∀ f ∈ fs, f.1.ev σ = f.2)
    (h : treeK P gs rks kx lns n f args ⟨[], [], ⟨0, 0, 0, 0⟩⟩ d fs = true) (hr : RunC σ (fun v _ => v = .bool true) d) (w : World) (hg : Tabs gs w) (hro : @Ros (nums gs rks ro σ Ω fs ok) w) {args' : Array Value} (hargs : @VRs (nums gs rks ro σ Ω fs ok) (fun _ => none) args args'.toList) :
    Calls P f args' w fun e w' => e = .returned (.bool true) ∧ Own w [] w' := by
  have hne : ∀ n, ((⟨[], [], ⟨0, 0, 0, 0⟩⟩ : Tm).h.get n) = none := fun n => by
    show (T.e : T AO).get n = none
    exact T.get_e n
  have hH : @HR (nums gs rks ro σ Ω fs ok) (fun _ => none) (⟨[], [], ⟨0, 0, 0, 0⟩⟩ : Tm).h.get (⟨[], [], ⟨0, 0, 0, 0⟩⟩ : Tm).h.next w :=
    @HR.mk (nums gs rks ro σ Ω fs ok) _ _ _ _ (fun _ _ => rfl) (fun n o hn => by rw [hne] at hn; cases hn) (fun n m b s s' hn => by rw [hne] at hn; cases hn) hg (fun b l _ n s hn => by rw [hne] at hn; cases hn) hro (fun b _ n s hn => by rw [hne] at hn; cases hn)
  refine (treeK_calls hm hk hl d fs ok h hr hH hargs).mono ?_
  rintro e w' ⟨fs', ok', v, post, ρ', x, h', rfl, rfl, hv, hst, _⟩
  unfold VR at hv
  subst hv
  refine ⟨rfl, ⟨⟨@Stp.os (nums gs rks ro σ Ω fs' ok') _ _ _ _ _ _ _ _ hst, @Stp.tape (nums gs rks ro σ Ω fs' ok') _ _ _ _ _ _ _ _ hst, @Stp.output (nums gs rks ro σ Ω fs' ok') _ _ _ _ _ _ _ _ hst, @Stp.size (nums gs rks ro σ Ω fs' ok') _ _ _ _ _ _ _ _ hst, fun b hb => @Stp.block (nums gs rks ro σ Ω fs' ok') _ _ _ _ _ _ _ _ hst b hb fun n s hn => by rw [hne] at hn; cases hn⟩, by simp, by simp⟩⟩
end
/-! a reading of numbers out of numbers and lists -/
/-- numbers 'v', lists 'l' -/
def sg (v : Nat → Int) (l : Nat → List (List Int)) (n : Nat) : Int :=
  if n < 2048 then v n else if n < 4096 then ((l (n - 2048)).length : Int) else (((l ((n - 4096) % 64))[(n - 4096) / 64 / 64]?).getD [])[(n - 4096) / 64 % 64]?.getD 0
theorem sg_v {v : Nat → Int} {l : Nat → List (List Int)} {i : Nat} (h : i < 2048) : sg v l i = v i := by simp [sg, h]
theorem sg_ln {v : Nat → Int} {l : Nat → List (List Int)} {i : Nat} (h : i < 64) : sg v l (ln i) = ((l i).length : Int) := by
  unfold sg ln
  rw [if_neg (by omega), if_pos (by omega), Nat.add_sub_cancel_left]
theorem sg_lc {v : Nat → Int} {l : Nat → List (List Int)} {i e j : Nat} (hi : i < 64) (hj : j < 64) : sg v l (lc i e j) = (((l i)[e]?).getD [])[j]?.getD 0 := by
  unfold sg lc
  rw [if_neg (by omega), if_neg (by omega), Nat.add_sub_cancel_left]
  have h1 : ((e * 64 + j) * 64 + i) % 64 = i := by omega
  have h2 : ((e * 64 + j) * 64 + i) / 64 = e * 64 + j := by omega
  have h3 : (e * 64 + j) / 64 = e := by omega
  have h4 : (e * 64 + j) % 64 = j := by omega
  rw [h1, h2, h3, h4]
end Go.Proofs.YtmnpccpfejgkmaaGreat.Ex

/-
  The runner: a function's text, run question by question, as a known call of another one. No condition.
-/
namespace Go.Proofs.YtmnpccpfejgkmaaGreat.Ex
open Go
mutual
theorem AV.sub_e : ∀ v : AV, v.sub {} = v
  | .sym k e => by unfold AV.sub; rw [show e.sub {} = e from SE.sub_n [] e]
  | .bsym c p => by unfold AV.sub; rw [show c.sub {} = c from Cnd.sub_n [] c]
  | .ptr n off => by unfold AV.sub; rfl
  | .eptr n e s j => by unfold AV.sub; rw [show e.sub {} = e from SE.sub_n [] e]; rfl
  | .dsl n e s => by unfold AV.sub; rw [show e.sub {} = e from SE.sub_n [] e]; rfl
  | .ssl n e l s => by unfold AV.sub; rw [show e.sub {} = e from SE.sub_n [] e]; rfl
  | .rptr i e => by unfold AV.sub; rw [show e.sub {} = e from SE.sub_n [] e]
  | .sl n off len sz r => by unfold AV.sub; rfl
  | .map n => by unfold AV.sub; rfl
  | .fn f a b => by unfold AV.sub; rw [AV.subs_e a, AV.subs_e b]
  | .ifc t v => by unfold AV.sub; rw [AV.sub_e v]
  | .agg l => by unfold AV.sub; rw [AV.subs_e l]
  | .tup l => by unfold AV.sub; rw [AV.subs_e l]
  | .bool _ => by unfold AV.sub; rfl
  | .int _ _ => by unfold AV.sub; rfl
  | .str _ => by unfold AV.sub; rfl
  | .nilp => by unfold AV.sub; rfl
  | .gptr _ _ => by unfold AV.sub; rfl
  | .nilsl => by unfold AV.sub; rfl
  | .esl _ => by unfold AV.sub; rfl
  | .zsl => by unfold AV.sub; rfl
  | .osl e => by unfold AV.sub; rw [show e.sub {} = e from SE.sub_n [] e]
  | .rsl i => by unfold AV.sub; rfl
  | .nilmap => by unfold AV.sub; rfl
  | .nilfn => by unfold AV.sub; rfl
  | .nilif => by unfold AV.sub; rfl
theorem AV.subs_e : ∀ l : List AV, AV.subs {} l = l
  | [] => by unfold AV.subs; rfl
  | v :: l => by unfold AV.subs; rw [AV.sub_e v, AV.subs_e l]
end
theorem TB.sub_e (t : TB) : t.sub {} = t := by
  cases t with
  | cells l e => show TB.cells (AV.subs {} l) e = _; rw [AV.subs_e]
  | recs l ks e => show TB.recs (l.sub {}) ks e = _; rw [show l.sub {} = l from SE.sub_n [] l]
  | opb i n m => rfl
def subH (θ : Sub) (pre : List (Nat × TB)) : List (Nat × TB) := pre.map fun p => (p.1, p.2.sub θ)
theorem notIn_subH {θ : Sub} (hn : θ.n = []) {n : Nat} : ∀ {pre : List (Nat × TB)}, notIn {} n (subH θ pre) = true → notIn θ n pre = true
  | [], _ => rfl
  | (m, t) :: l, h => by
    have e1 : θ.nAt m = m := by unfold Sub.nAt; rw [hn]; rfl
    unfold subH at h
    rw [List.map_cons] at h
    unfold notIn at h ⊢
    rw [e1]
    have e2 : ({} : Sub).nAt m = m := rfl
    dsimp only at h
    rw [e2] at h
    split at h
    · cases h
    · exact notIn_subH hn h
theorem fitH_subH [Fc] {θ : Sub} (hn : θ.n = []) {h : AH} : ∀ {pre : List (Nat × TB)}, fitH {} h (subH θ pre) = true → fitH θ h pre = true
  | [], _ => rfl
  | (m, t) :: l, hf => by
    have e1 : θ.nAt m = m := by unfold Sub.nAt; rw [hn]; rfl
    unfold subH at hf
    rw [List.map_cons] at hf
    unfold fitH at hf ⊢
    rw [e1]
    have e2 : ({} : Sub).nAt m = m := rfl
    dsimp only at hf
    rw [e2] at hf
    split at hf
    · rename_i a ha
      rw [TB.sub_e] at hf
      rw [Bool.and_eq_true, Bool.and_eq_true] at hf ⊢
      exact ⟨hf.1, notIn_subH hn hf.2.1, fitH_subH hn hf.2.2⟩
    · cases hf
/-- new blocks, where they came to be -/
def newsAt (θ : Sub) : Nat → List TB → List (Nat × TB)
  | _, [] => []
  | i, t :: l => (θ.nAt (Nat.add rel i), t.sub θ) :: newsAt θ (Nat.add i 1) l
def leafPost (k : Kc) (θ : Sub) : List (Nat × TB) := subH θ k.post ++ newsAt θ 0 k.news
/-- an end of a text that is a known call -/
def Kc.leaf (k : Kc) (θ : Sub) : CT := .is (k.res.sub θ) (leafPost k θ)
theorem newsAt_mem {θ : Sub} : ∀ {l : List TB} {i j : Nat} {t : TB}, l[j]? = some t → (θ.nAt (rel + (i + j)), t.sub θ) ∈ newsAt θ i l
  | [], _, _, _, h => by simp at h
  | x :: l, i, 0, t, h => by
    simp only [List.getElem?_cons_zero, Option.some.injEq] at h
    subst h
    exact List.mem_cons_self
  | x :: l, i, j + 1, t, h => by
    have := newsAt_mem (θ := θ) (i := i + 1) (j := j) (t := t) (l := l) (by simpa using h)
    rw [show i + 1 + j = i + (j + 1) from by omega] at this
    exact List.mem_cons_of_mem _ this
def noOpb : TB → Bool
  | .opb _ _ _ => false
  | _ => true
def keptN (θ : Sub) : List (Nat × TB) → Bool
  | [] => true
  | (n, _) :: l => Nat.beq (θ.nAt n) n && keptN θ l
/-- the new names are other ones, and new -/
def newN (θ : Sub) (kn : Nat) : Nat → Nat → Bool
  | _, 0 => true
  | i, n + 1 => Nat.ble kn (θ.nAt (rel + i)) && ((List.range i).all (fun j => !(Nat.beq (θ.nAt (rel + j)) (θ.nAt (rel + i)))) && newN θ kn (i + 1) n)
def okR (pre : List (Nat × TB)) (m : Nat) (n : Nat) : Bool := hasN n pre || (Nat.ble rel n && Nat.blt n (rel + m))
/-- an end is as it must be -/
def leafOk (k : Kc) (pre : List (Nat × TB)) (kn : Nat) (θ : Sub) (B : Bd) : Bool :=
  (keptN θ pre && newN θ kn 0 k.news.length) && ((AV.bd B k.res && (bdH B k.post && k.news.all (TB.bd B))) && Nat.ble (rel + k.news.length) B.kn)
def kcForm (k : Kc) (pre : List (Nat × TB)) (B0 : Bd) (A : List AV) : Bool :=
  ((AV.bds B0 A && bdH B0 pre) && Nat.ble B0.kn rel) && ((AV.nm (okR pre k.news.length) k.res && nmH (okR pre k.news.length) k.post) && k.news.all fun t => TB.nm (okR pre k.news.length) t && noOpb t)
theorem keptN_mem {θ : Sub} : ∀ {l : List (Nat × TB)}, keptN θ l = true → ∀ p ∈ l, θ.nAt p.1 = p.1
  | [], _, p, hp => by cases hp
  | (n, t) :: l, h, p, hp => by
    unfold keptN at h
    rw [Bool.and_eq_true] at h
    rcases List.mem_cons.1 hp with rfl | hp
    · exact Nat.eq_of_beq_eq_true h.1
    · exact keptN_mem h.2 p hp
theorem newN_ok {θ : Sub} {kn : Nat} : ∀ {n i : Nat}, newN θ kn i n = true → ∀ j, i ≤ j → j < i + n → kn ≤ θ.nAt (rel + j) ∧ ∀ a, a < j → θ.nAt (rel + a) ≠ θ.nAt (rel + j)
  | 0, i, _, j, h1, h2 => by omega
  | n + 1, i, h, j, h1, h2 => by
    unfold newN at h
    rw [Bool.and_eq_true, Bool.and_eq_true] at h
    rcases Nat.lt_or_ge i j with hlt | hge
    · exact newN_ok h.2.2 j (by omega) (by omega)
    · have : j = i := by omega
      subst this
      refine ⟨Nat.le_of_ble_eq_true h.1, fun a ha he => ?_⟩
      have := List.all_eq_true.1 h.2.1 a (List.mem_range.2 ha)
      rw [he] at this
      simp at this
theorem TR.names {N : Nums} {ρ ρ' : Ren} {p : Nat → Bool} (hp : ∀ n, p n = true → ρ' n = ρ n) {t : TB} {s : Nat} {x : Option Obj} (hn : TB.nm p t = true) (h : @TR N ρ t s x) : @TR N ρ' t s x := by
  cases t with
  | cells l e =>
    obtain ⟨cur, h1, h2, h3, h4⟩ := h
    exact ⟨cur, h1, h2, h3, fun i v hv => by
      obtain ⟨h5, y, h6, h7⟩ := h4 i v hv
      exact ⟨h5, y, h6, VR.names hp (nms_get hn hv) h7⟩⟩
  | recs l ks e => exact h
  | opb i n m =>
    unfold TB.nm at hn
    rw [Bool.and_eq_true] at hn
    obtain ⟨b0, z0, b1, z1, o, h0, h1, h2, h3⟩ := h
    exact ⟨b0, z0, b1, z1, o, by rw [hp _ hn.1]; exact h0, by rw [hp _ hn.2]; exact h1, h2, h3⟩
theorem TR.size {N : Nums} {ρ : Ren} {t : TB} {s : Nat} {o : Obj} (h : @TR N ρ t s (some o)) (hn : noOpb t = true) : s = objSize o := by
  cases t with
  | cells l e => obtain ⟨cur, h1, h2, _⟩ := h; cases h1; exact h2.symm
  | recs l ks e => obtain ⟨cur, h1, h2, _⟩ := h; cases h1; exact h2.symm
  | opb i n m => cases hn
section
variable {P : Program} {gs : List (Nat × List Int)} {rks : List (Nat × CK)} {ro : Nat → Option (Option Addr × Nat × Nat)} {σ1 σ2 : Nat → Int} {Ω1 Ω2 : Nat → Nat → Nat → Obj → Prop}
set_option maxHeartbeats 1000000 in
/-- A FUNCTION'S TEXT, AS A KNOWN CALL: read by numbers of its own -/
theorem kc_tree (hm : P.follows .mixedOrders = true) {k : Kc} {A : List AV} {pre : List (Nat × TB)} {B0 : Bd} {θ0 : Sub} {kcs : Kg} {lns : List Ln} {n : Nat} {d : CT} {fs1 : List (Cnd × Bool)}
    (hf : FnOk P k.f) (hpre : k.pre = subH θ0 pre) (hargs : k.args = AV.subs θ0 A) (hθ : θ0.n = []) (hpost : k.post.map (·.1) = pre.map (·.1)) (hform : kcForm k pre B0 A = true)
    (hk : KcAll gs rks ro P σ1 Ω1 kcs) (hl : LnAll gs rks ro P k.f σ1 Ω1 lns) (ok1 : ∀ f ∈ fs1, f.1.ev σ1 = f.2) (h : treeC P gs rks kcs lns n k.f A ⟨[], pre, B0⟩ d fs1 = true)
    (ag0 : AgreeD θ0 B0 ro σ2 Ω2 σ1 Ω1) (hr : RunC σ1 (fun v post => ∃ θ B, v = k.res.sub θ ∧ post = leafPost k θ ∧ leafOk k pre B0.kn θ B = true ∧ AgreeD θ B ro σ1 Ω1 σ2 Ω2) d)
    (fs : List (Cnd × Bool)) (ok : ∀ f ∈ fs, f.1.ev σ2 = f.2) : @KcOk (nums gs rks ro σ2 Ω2 fs ok) P k := by
  letI N2 : Nums := nums gs rks ro σ2 Ω2 fs ok
  unfold kcForm at hform
  simp only [Bool.and_eq_true] at hform
  obtain ⟨⟨⟨hbA, hbH⟩, hkn⟩, ⟨hnr, hnp⟩, hnn⟩ := hform
  have hkn := Nat.le_of_ble_eq_true hkn
  have hpreN : ∀ p ∈ pre, p.1 < B0.kn := fun p hp => (bdH_mem hbH p hp).1
  have hn0 : ∀ i, θ0.nAt i = i := fun i => by unfold Sub.nAt; rw [hθ]; rfl
  have postN : ∀ p ∈ k.post, ∃ t, (p.1, t) ∈ pre := fun p hp => by
    have : p.1 ∈ pre.map (·.1) := by rw [← hpost]; exact List.mem_map.2 ⟨p, hp, rfl⟩
    obtain ⟨q, hq, he⟩ := List.mem_map.1 this
    exact ⟨q.2, by rw [← he]; exact hq⟩
  have preN : ∀ p ∈ pre, ∃ t, (p.1, t) ∈ k.post := fun p hp => by
    have : p.1 ∈ k.post.map (·.1) := by rw [hpost]; exact List.mem_map.2 ⟨p, hp, rfl⟩
    obtain ⟨q, hq, he⟩ := List.mem_map.1 this
    exact ⟨q.2, by rw [← he]; exact hq⟩
  refine kc_ownH hf (fun p hp => ?_) (fun p hp => ?_) fun _ ρ W w m args' bs hh hH hfit hF ha hO => ?_
  · obtain ⟨t, ht⟩ := postN p hp
    exact ⟨t.sub θ0, by rw [hpre]; exact List.mem_map.2 ⟨_, ht, rfl⟩⟩
  · rw [hpre] at hp
    obtain ⟨q, hq, rfl⟩ := List.mem_map.1 hp
    exact Nat.lt_of_lt_of_le (hpreN q hq) hkn
  -- the state, read anew
  have ag := AgreeD.agree gs rks ro ag0 ok ok1
  have hfits : @Tm.fits N2.toFc ⟨[], pre, B0⟩ θ0 .e hh = true := by
    unfold Tm.fits Tm.ok
    simp only [Bool.and_eq_true]
    refine ⟨⟨rfl, hbH, Nat.ble_eq_true_of_le (Nat.le_trans hkn (by unfold rel; omega))⟩, rfl, ?_⟩
    rw [hpre] at hfit
    exact @fitH_subH N2.toFc _ hθ _ _ hfit
  obtain ⟨-, hH1, hdom⟩ := Tm.re (nt := 0) (a := { tmps := #[], defers := [] }) hfits ag (@ER.mk N2 ρ .e 0 _ rfl rfl fun t v hv => by rw [T.get_e] at hv; cases hv) hH
  have hA1 : @VRs (nums gs rks ro σ1 Ω1 fs1 ok1) (reN ⟨[], pre, B0⟩ θ0 ρ) A args'.toList := by
    rw [hargs] at ha
    exact VRs.sub ag (fun n hn => by simp [reN, hn]) hbA ha
  refine (treeC_calls hm hk hl d fs1 ok1 h hr hH1 hA1).mono ?_
  rintro e w' ⟨fs', ok', v, post, ρ', x, h', ⟨θ, B, rfl, rfl, hlo, agx⟩, rfl, hv, hst, hp⟩
  have ag' := AgreeD.agree gs rks ro agx ok' ok
  unfold leafOk at hlo
  simp only [Bool.and_eq_true] at hlo
  obtain ⟨⟨hkept, hnew⟩, ⟨hbr, hbp, hbn⟩, hBk⟩ := hlo
  have hkept := keptN_mem hkept
  have hnew := newN_ok hnew
  have hBk := Nat.le_of_ble_eq_true hBk
  have shr := @Stp.hr (nums gs rks ro σ1 Ω1 fs' ok') _ _ _ _ _ _ _ _ hst
  have sext := @Stp.ext (nums gs rks ro σ1 Ω1 fs' ok') _ _ _ _ _ _ _ _ hst
  have sblock := @Stp.block (nums gs rks ro σ1 Ω1 fs' ok') _ _ _ _ _ _ _ _ hst
  have slive := @Stp.live (nums gs rks ro σ1 Ω1 fs' ok') _ _ _ _ _ _ _ _ hst
  have sinj := @HR.inj (nums gs rks ro σ1 Ω1 fs' ok') _ _ _ _ shr
  have hnext : (⟨[], pre, B0⟩ : Tm).h.next = B0.kn := rfl
  rw [hnext] at sext
  -- a block that the text found
  have hold : ∀ q, (∃ t, (q, t) ∈ pre) → (h'.get q).isSome = true ∧ ρ' q = ρ q := by
    rintro q ⟨t, ht⟩
    obtain ⟨t', ht'⟩ := preN _ ht
    have := (hp (q, t'.sub θ) (List.mem_append_left _ (List.mem_map.2 ⟨_, ht', rfl⟩))).1
    refine ⟨this, ?_⟩
    have hlt := hpreN _ ht
    rw [sext q hlt]
    show reN ⟨[], pre, B0⟩ θ0 ρ q = _
    unfold reN
    rw [if_pos hlt, hn0]
  have hpostT : ∀ p ∈ k.post, ∃ b s o, ρ p.1 = some (b, s) ∧ w'.heap[b]? = some o ∧ @TR (nums gs rks ro σ1 Ω1 fs' ok') ρ' (p.2.sub θ) s (some o) := by
    intro p hpm
    obtain ⟨_, b, s, h2, h3⟩ := hp (p.1, p.2.sub θ) (List.mem_append_left _ (List.mem_map.2 ⟨_, hpm, rfl⟩))
    rw [(hold p.1 (postN p hpm)).2] at h2
    cases hx : w'.heap[b]? with
    | none =>
      rw [hx] at h3
      exact (@OR.notNone (nums gs rks ro σ1 Ω1 fs' ok') _ _ _ (@TR.or (nums gs rks ro σ1 Ω1 fs' ok') _ _ _ _ h3)).elim
    | some o =>
      rw [hx] at h3
      exact ⟨b, s, o, h2, hx, h3⟩
  -- new blocks
  let dsOf : Nat → Nat × Obj := fun i => (((ρ' (θ.nAt (rel + i))).getD (0, 0)).1, (w'.heap[((ρ' (θ.nAt (rel + i))).getD (0, 0)).1]?).getD (.map #[] 0))
  have hd : ∀ i t, k.news[i]? = some t → ∃ s, ρ' (θ.nAt (rel + i)) = some ((dsOf i).1, s) ∧ w'.heap[(dsOf i).1]? = some (dsOf i).2 ∧ @TR (nums gs rks ro σ1 Ω1 fs' ok') ρ' (t.sub θ) s (some (dsOf i).2) ∧ w.heap.size ≤ (dsOf i).1 := by
    intro i t hi
    have hmem := newsAt_mem (θ := θ) (i := 0) hi
    rw [Nat.zero_add] at hmem
    have hil := (List.getElem?_eq_some_iff.1 hi).1
    obtain ⟨h1, b, s, h2, h3⟩ := hp _ (List.mem_append_right _ hmem)
    dsimp only at h1 h2 h3
    have hb : (dsOf i).1 = b := by simp only [dsOf, h2, Option.getD_some]
    cases hx : w'.heap[b]? with
    | none =>
      rw [hx] at h3
      exact (@OR.notNone (nums gs rks ro σ1 Ω1 fs' ok') _ _ _ (@TR.or (nums gs rks ro σ1 Ω1 fs' ok') _ _ _ _ h3)).elim
    | some o =>
      have ho : (dsOf i).2 = o := by simp only [dsOf, h2, Option.getD_some, hx]
      rw [hx] at h3
      rw [hb, ho]
      refine ⟨s, h2, hx, h3, ?_⟩
      rcases slive _ b s h1 h2 with hge | ⟨q, s', hq, hqs⟩
      · exact hge
      · exfalso
        obtain ⟨hqk, _⟩ := hdom q hq
        obtain ⟨t', ht'⟩ := heapT_some (l := pre) hq
        obtain ⟨o1, o2⟩ := hold q ⟨t', ht'⟩
        have hqs' : ρ' q = some (b, s') := by rw [sext q hqk]; exact hqs
        have := sinj _ _ b s s' h1 o1 h2 hqs'
        have h9 : B0.kn ≤ θ.nAt (rel + i) := (hnew i (Nat.zero_le _) (by omega)).1
        have hqk : q < B0.kn := hqk
        omega
  have hdi : ∀ i j, i < j → j < k.news.length → (dsOf i).1 ≠ (dsOf j).1 := by
    intro i j hij hj he
    obtain ⟨s, h1, _⟩ := hd i _ (List.getElem?_eq_getElem (Nat.lt_trans hij hj))
    obtain ⟨s', h2, _⟩ := hd j _ (List.getElem?_eq_getElem hj)
    have m1 := newsAt_mem (θ := θ) (i := 0) (List.getElem?_eq_getElem (Nat.lt_trans hij hj))
    have m2 := newsAt_mem (θ := θ) (i := 0) (List.getElem?_eq_getElem hj)
    rw [Nat.zero_add] at m1 m2
    rw [he] at h1
    exact (hnew j (Nat.zero_le _) (by omega)).2 i hij (sinj _ _ _ s s' (hp _ (List.mem_append_right _ m1)).1 (hp _ (List.mem_append_right _ m2)).1 h1 h2)
  have hdl : ∀ (i : Nat) d, ((List.range k.news.length).map dsOf)[i]? = some d → i < k.news.length ∧ d = dsOf i := by
    intro i d hi
    have hlt := (List.getElem?_eq_some_iff.1 hi).1
    rw [List.length_map, List.length_range] at hlt
    rw [List.getElem?_map, List.getElem?_range hlt] at hi
    exact ⟨hlt, (Option.some.inj hi).symm⟩
  have hback : ∀ q ∈ bs, ∃ o, w'.heap[q.1]? = some o := by
    intro q hq
    obtain ⟨p, hp1, s, hp2⟩ := FitB.back hF q hq
    rw [hpre] at hp1
    obtain ⟨p0, hp0, rfl⟩ := List.mem_map.1 hp1
    obtain ⟨t', ht'⟩ := preN _ hp0
    obtain ⟨b, s', o, h1, h2, _⟩ := hpostT _ ht'
    rw [show ρ p0.1 = some (q.1, s) from hp2] at h1
    cases h1
    exact ⟨o, h2⟩
  have hbl : ∀ q ∈ bs ++ m, q.1 < w.heap.size := fun q hq => heap_lt (hO.at_ q hq).2
  have hmk : ∀ b, b < w.heap.size → (∀ o, (b, o) ∉ bs) → w'.heap[b]? = w.heap[b]? := by
    intro b hb hno
    refine sblock b hb fun q s hq hqs => ?_
    obtain ⟨hqk, _⟩ := hdom q hq
    obtain ⟨t', ht'⟩ := heapT_some (l := pre) hq
    obtain ⟨b', o', s', h1, h2, _⟩ := FitB.mem hF (q, t'.sub θ0) (by rw [hpre]; exact List.mem_map.2 ⟨_, ht', rfl⟩)
    have hq1 : reN ⟨[], pre, B0⟩ θ0 ρ q = ρ q := by
      unfold reN
      rw [if_pos hqk, hn0]
    rw [hq1, show ρ q = some (b', s') from h2] at hqs
    cases hqs
    exact hno _ h1
  refine ⟨x, (List.range k.news.length).map dsOf, bs.map fun q => (q.1, (w'.heap[q.1]?).getD q.2), rfl, ⟨⟨?_, ?_, ?_, ?_, fun b hb => ?_⟩, fun p hpm => ?_, ?_⟩, ?_, by simp, fun ρ'' hk1 hk2 => ?_⟩
  · exact (@Stp.os (nums gs rks ro σ1 Ω1 fs' ok') _ _ _ _ _ _ _ _ hst).trans hO.below.os
  · exact (@Stp.tape (nums gs rks ro σ1 Ω1 fs' ok') _ _ _ _ _ _ _ _ hst).trans hO.below.tape
  · exact (@Stp.output (nums gs rks ro σ1 Ω1 fs' ok') _ _ _ _ _ _ _ _ hst).trans hO.below.output
  · exact Nat.le_trans hO.below.size (@Stp.size (nums gs rks ro σ1 Ω1 fs' ok') _ _ _ _ _ _ _ _ hst)
  · rw [hmk b (Nat.lt_of_lt_of_le hb hO.below.size) fun o ho => ?_]
    · exact hO.below.block b hb
    · have := hO.ge (List.mem_append_left _ ho)
      omega
  · rcases List.mem_append.1 hpm with hpm | hpm
    · obtain ⟨i, hi, rfl⟩ := List.mem_map.1 hpm
      have hi := List.mem_range.1 hi
      obtain ⟨s, _, h2, _, h4⟩ := hd i _ (List.getElem?_eq_getElem hi)
      exact ⟨Nat.le_trans hO.below.size h4, h2⟩
    · rcases List.mem_append.1 hpm with hpm | hpm
      · obtain ⟨q, hq, rfl⟩ := List.mem_map.1 hpm
        obtain ⟨o, ho⟩ := hback q hq
        refine ⟨(hO.at_ q (List.mem_append_left _ hq)).1, ?_⟩
        dsimp only
        rw [ho]
        rfl
      · have := hO.at_ p (List.mem_append_right _ hpm)
        refine ⟨this.1, ?_⟩
        rw [hmk p.1 (hbl p (List.mem_append_right _ hpm)) fun o ho => ?_]
        · exact this.2
        · have hnd := hO.nd
          rw [List.map_append, List.nodup_append] at hnd
          exact hnd.2.2 _ (List.mem_map.2 ⟨_, ho, rfl⟩) _ (List.mem_map.2 ⟨_, hpm, rfl⟩) rfl
  · have e1 : (bs.map fun q => (q.1, (w'.heap[q.1]?).getD q.2)).map (·.1) = bs.map (·.1) := by simp [List.map_map, Function.comp_def]
    have hnd := hO.nd
    rw [List.map_append] at hnd
    rw [List.map_append, List.map_append, e1, List.nodup_append]
    refine ⟨?_, hnd, fun a ha b hb he => ?_⟩
    · rw [List.map_map]
      refine List.pairwise_map.2 (List.Pairwise.imp_of_mem ?_ List.pairwise_lt_range)
      intro i j _ hj hij
      exact hdi i j hij (List.mem_range.1 hj)
    · obtain ⟨d0, hd0, rfl⟩ := List.mem_map.1 ha
      obtain ⟨i, hi, rfl⟩ := List.mem_map.1 hd0
      obtain ⟨s, _, _, _, h4⟩ := hd i _ (List.getElem?_eq_getElem (List.mem_range.1 hi))
      rw [← List.map_append] at hb
      obtain ⟨q, hq, rfl⟩ := List.mem_map.1 hb
      have := hbl q hq
      rw [← he] at this
      omega
  · simp [List.map_map, Function.comp_def]
  · -- what is read by the other numbers
    let ρm : Ren := fun q => if q < B.kn then ρ' (θ.nAt q) else none
    have hm1 : ∀ q, q < B.kn → ρm q = ρ' (θ.nAt q) := fun q hq => by simp [ρm, hq]
    have hpN : ∀ q, okR pre k.news.length q = true → ρ'' q = ρm q := by
      intro q hq
      unfold okR at hq
      rw [Bool.or_eq_true] at hq
      rcases hq with hq | hq
      · obtain ⟨t', ht'⟩ := hasN_mem hq
        have hlt := hpreN _ ht'
        obtain ⟨b, o, s, _, h2, _⟩ := FitB.mem hF (q, t'.sub θ0) (by rw [hpre]; exact List.mem_map.2 ⟨_, ht', rfl⟩)
        rw [hm1 q (by dsimp only at hlt; omega), hkept _ ht', (hold q ⟨t', ht'⟩).2, h2]
        exact hk1 q _ (by dsimp only at hlt; omega) h2
      · rw [Bool.and_eq_true] at hq
        have h1 := Nat.le_of_ble_eq_true hq.1
        have h2 : q < rel + k.news.length := by simpa using hq.2
        obtain ⟨i, rfl⟩ : ∃ i, q = rel + i := ⟨q - rel, by omega⟩
        have hi : i < k.news.length := by omega
        obtain ⟨s, h3, h4, h5, _⟩ := hd i _ (List.getElem?_eq_getElem hi)
        have h6 := hk2 i (dsOf i) (by rw [List.getElem?_map, List.getElem?_range hi]; rfl)
        rw [hm1 _ (by omega), h3, h6]
        have h7 := List.all_eq_true.1 hnn _ (List.getElem_mem hi)
        rw [Bool.and_eq_true] at h7
        have h8 : noOpb (k.news[i].sub θ) = true := by
          have := h7.2
          cases hc : k.news[i] <;> rw [hc] at this <;> first | rfl | cases this
        rw [TR.size h5 h8]
    refine ⟨VR.names hpN hnr (VR.sub ag' hm1 hbr hv), fun i t d hi hdi' => ?_, fun p hpm => ?_⟩
    · obtain ⟨hil, rfl⟩ := hdl i d hdi'
      obtain ⟨s, h3, h4, h5, _⟩ := hd i t hi
      have hmem := List.mem_of_getElem? hi
      have h7 := List.all_eq_true.1 hnn _ hmem
      rw [Bool.and_eq_true] at h7
      have h9 := TR.names hpN h7.1 (TR.sub ag' hm1 (List.all_eq_true.1 hbn _ hmem) h5)
      rw [TR.size h9 h7.2] at h9
      exact h9
    · obtain ⟨b, s, o, h1, h2, h3⟩ := hpostT p hpm
      obtain ⟨t', ht'⟩ := postN p hpm
      obtain ⟨b', o', s', h4, h5, _⟩ := FitB.mem hF (p.1, t'.sub θ0) (by rw [hpre]; exact List.mem_map.2 ⟨_, ht', rfl⟩)
      rw [show ρ p.1 = some (b', s') from h5] at h1
      obtain ⟨rfl, rfl⟩ : b' = b ∧ s' = s := by simpa using h1
      refine ⟨b', o, s', List.mem_map.2 ⟨_, h4, by simp [h2]⟩, h5, ?_⟩
      exact TR.names hpN (nmH_mem hnp p hpm) (TR.sub ag' hm1 (bdH_mem hbp p hpm).2 h3)
end
end Go.Proofs.YtmnpccpfejgkmaaGreat.Ex

/-
  Tables of pages, in plain Lean: the blocks that frame.blocks hands on, and when a table may be.
-/
namespace Go.Proofs.YtmnpccpfejgkmaaGreat
open Go.RowKit

/-- a page: kind, order, cache -/
abbrev Pg := Int × Int × Int
def pgIn : Pg := (1, 0, 0)
def pgSize (p : Pg) : Nat := 2 ^ p.2.1.toNat
def pgHead (p : Pg) : Bool := decide (0 ≤ p.2.1 ∧ p.2.1 ≤ 10 ∧ (p.1 = 0 ∧ p.2.2 = 0 ∨ p.1 = 2 ∧ 0 ≤ p.2.2 ∧ p.2.2 ≤ 8))
theorem pgSize_pos (p : Pg) : 1 ≤ pgSize p := Nat.one_le_two_pow
/-- may a block begin here? -/
def pgOk (L : List Pg) (i : Nat) (p : Pg) : Bool := pgHead p && decide (i % pgSize p = 0) && decide (i + pgSize p ≤ L.length) && ((L.drop (i + 1)).take (pgSize p - 1)).all (· == pgIn)

def pgYields (L : List Pg) : Nat → Nat → List (Int × Pg)
  | 0, _ => []
  | f + 1, i => match L[i]? with
    | none => []
    | some p => if pgOk L i p then ((i : Int), p) :: pgYields L f (i + pgSize p) else [(-1, p)]
theorem pgYields_past (L : List Pg) : ∀ (f i : Nat), L.length ≤ i → pgYields L f i = []
  | 0, _, _ => rfl
  | f + 1, i, h => by
    unfold pgYields
    rw [List.getElem?_eq_none h]
theorem pgYields_fuel (L : List Pg) : ∀ (f g i : Nat), L.length ≤ i + f → L.length ≤ i + g → pgYields L f i = pgYields L g i
  | 0, g, i, h, _ => by rw [pgYields_past L g i (by omega)]; rfl
  | f + 1, 0, i, _, h => by rw [pgYields_past L (f + 1) i (by omega)]; rfl
  | f + 1, g + 1, i, h1, h2 => by
    unfold pgYields
    cases L[i]? with
    | none => rfl
    | some p =>
      have := pgSize_pos p
      simp only
      rw [pgYields_fuel L f g (i + pgSize p) (by omega) (by omega)]
/-- what the blocks are from a place on -/
def pgFrom (L : List Pg) (i : Nat) : List (Int × Pg) := pgYields L (L.length - i) i
theorem pgFrom_end {L : List Pg} {i : Nat} (h : L.length ≤ i) : pgFrom L i = [] := pgYields_past L _ i h
theorem pgFrom_ok {L : List Pg} {i : Nat} {p : Pg} (h : L[i]? = some p) (ho : pgOk L i p = true) : pgFrom L i = ((i : Int), p) :: pgFrom L (i + pgSize p) := by
  have hi := (List.getElem?_eq_some_iff.1 h).1
  have := pgSize_pos p
  unfold pgFrom
  obtain ⟨k, hk⟩ : ∃ k, L.length - i = k + 1 := ⟨L.length - i - 1, by omega⟩
  rw [hk]
  show (match L[i]? with | none => [] | some p => if pgOk L i p then ((i : Int), p) :: pgYields L k (i + pgSize p) else [(-1, p)]) = _
  rw [h]
  simp only [ho, if_true]
  rw [pgYields_fuel L k (L.length - (i + pgSize p)) _ (by omega) (by omega)]
theorem pgFrom_no {L : List Pg} {i : Nat} {p : Pg} (h : L[i]? = some p) (ho : pgOk L i p = false) : pgFrom L i = [(-1, p)] := by
  have hi := (List.getElem?_eq_some_iff.1 h).1
  unfold pgFrom
  obtain ⟨k, hk⟩ : ∃ k, L.length - i = k + 1 := ⟨L.length - i - 1, by omega⟩
  rw [hk]
  show (match L[i]? with | none => [] | some p => if pgOk L i p then ((i : Int), p) :: pgYields L k (i + pgSize p) else [(-1, p)]) = _
  rw [h]
  simp [ho]

/-- a row of blocks from a place on: each may be a head, and lies at a multiple of its size -/
def Row : Nat → List Pg → Prop
  | _, [] => True
  | i, p :: bs => pgHead p = true ∧ i % pgSize p = 0 ∧ Row (i + pgSize p) bs
/-- .. laid as pages -/
def lay : List Pg → List Pg
  | [] => []
  | p :: bs => p :: List.replicate (pgSize p - 1) pgIn ++ lay bs
/-- .. with their places -/
def places : Nat → List Pg → List (Int × Pg)
  | _, [] => []
  | i, p :: bs => ((i : Int), p) :: places (i + pgSize p) bs
theorem lay_cons_len (p : Pg) (bs : List Pg) : (lay (p :: bs)).length = pgSize p + (lay bs).length := by
  have := pgSize_pos p
  simp [lay]
  omega
/-- a table of blocks hands on its blocks -/
theorem row_from : ∀ (bs : List Pg) (A : List Pg), Row A.length bs → pgFrom (A ++ lay bs) A.length = places A.length bs
  | [], A, _ => by rw [pgFrom_end (by simp [lay])]; rfl
  | p :: bs, A, h => by
    have h1 := pgSize_pos p
    have hl := lay_cons_len p bs
    have hp : (A ++ lay (p :: bs))[A.length]? = some p := by simp [lay]
    have hok : pgOk (A ++ lay (p :: bs)) A.length p = true := by
      have hd : (A ++ lay (p :: bs)).drop (A.length + 1) = List.replicate (pgSize p - 1) pgIn ++ lay bs := by
        rw [List.drop_append]
        simp [lay]
      unfold pgOk
      rw [hd, List.take_append_of_le_length (by simp), List.take_of_length_le (by simp), h.1, decide_eq_true h.2.1, decide_eq_true (by rw [List.length_append]; omega)]
      simp
    rw [pgFrom_ok hp hok]
    have e : A ++ lay (p :: bs) = (A ++ p :: List.replicate (pgSize p - 1) pgIn) ++ lay bs := by simp [lay]
    have el : (A ++ p :: List.replicate (pgSize p - 1) pgIn).length = A.length + pgSize p := by simp; omega
    have := row_from bs (A ++ p :: List.replicate (pgSize p - 1) pgIn) (by rw [el]; exact h.2.2)
    rw [el] at this
    rw [e, this]
    rfl
/-- .. and where no place is told that is none, the table is one of blocks -/
theorem from_row (L : List Pg) : ∀ (n i : Nat), L.length ≤ i + n → i ≤ L.length → (∀ x ∈ pgFrom L i, 0 ≤ x.1) → ∃ bs, L.drop i = lay bs ∧ Row i bs
  | 0, i, h, h2, _ => ⟨[], by simp [lay]; omega, trivial⟩
  | n + 1, i, h, h2, hx => by
    by_cases hi : i < L.length
    · obtain ⟨p, hp⟩ : ∃ p, L[i]? = some p := ⟨_, List.getElem?_eq_getElem hi⟩
      have h1 := pgSize_pos p
      cases ho : pgOk L i p with
      | false =>
        rw [pgFrom_no hp ho] at hx
        have := hx _ List.mem_cons_self
        simp at this
      | true =>
        rw [pgFrom_ok hp ho] at hx
        have ho' := ho
        unfold pgOk at ho'
        simp only [Bool.and_eq_true, decide_eq_true_eq, List.all_eq_true, beq_iff_eq] at ho'
        obtain ⟨⟨⟨a1, a2⟩, a3⟩, a4⟩ := ho'
        obtain ⟨bs, hb, hr⟩ := from_row L n (i + pgSize p) (by omega) a3 (fun x hx' => hx x (List.mem_cons_of_mem _ hx'))
        refine ⟨p :: bs, ?_, a1, a2, hr⟩
        have e1 : L.drop i = p :: L.drop (i + 1) := by
          rw [List.drop_eq_getElem_cons hi]
          rw [List.getElem?_eq_getElem hi] at hp
          rw [Option.some.inj hp]
        have e2 : (L.drop (i + 1)).take (pgSize p - 1) = List.replicate (pgSize p - 1) pgIn := by
          rw [List.eq_replicate_iff]
          refine ⟨by rw [List.length_take, List.length_drop]; omega, a4⟩
        have e3 : L.drop (i + 1) = List.replicate (pgSize p - 1) pgIn ++ lay bs := by
          rw [← e2, ← hb, ← List.take_append_drop (pgSize p - 1) (L.drop (i + 1)), List.drop_drop]
          rw [show i + 1 + (pgSize p - 1) = i + pgSize p from by omega]
          rw [List.take_append_of_le_length (by rw [List.length_take, List.length_drop]; omega), List.take_take, Nat.min_self]
        rw [e1, e3]
        rfl
    · exact ⟨[], by simp [lay]; omega, trivial⟩
/-- a table that may be -/
def Tab (L : List Pg) (bs : List Pg) : Prop := L = lay bs ∧ Row 0 bs
theorem tab_iff (L : List Pg) : (∃ bs, Tab L bs) ↔ ∀ x ∈ pgFrom L 0, 0 ≤ x.1 := by
  constructor
  · rintro ⟨bs, rfl, hr⟩
    have := row_from bs [] hr
    simp only [List.nil_append, List.length_nil] at this
    rw [this]
    have hpl : ∀ (bs : List Pg) (i : Nat), ∀ x ∈ places i bs, 0 ≤ x.1 := by
      intro bs
      induction bs with
      | nil => intro i x hx; simp [places] at hx
      | cons p bs ih =>
        intro i x hx
        rw [places, List.mem_cons] at hx
        rcases hx with rfl | hx
        · simp
        · exact ih _ x hx
    exact hpl bs 0
  · intro h
    obtain ⟨bs, hb, hr⟩ := from_row L L.length 0 (by omega) (by omega) h
    exact ⟨bs, by rw [← hb]; rfl, hr⟩
theorem tab_from {L bs : List Pg} (h : Tab L bs) : pgFrom L 0 = places 0 bs := by
  obtain ⟨rfl, hr⟩ := h
  have := row_from bs [] hr
  simpa using this
end Go.Proofs.YtmnpccpfejgkmaaGreat

/-
  Rows of numbers in memory: a function on indexes, or a list. No condition.
-/
namespace Go.Proofs.YtmnpccpfejgkmaaGreat
open Go.RowKit

/-- n cells, each the number that a function gives -/
def rowOf (n : Nat) (f : Nat → Int) : Array Value := ((List.range n).map fun i => Value.int .i64 (f i)).toArray
theorem rowOf_size (n : Nat) (f : Nat → Int) : (rowOf n f).size = n := by simp [rowOf]
theorem rowOf_get {n i : Nat} (f : Nat → Int) (h : i < n) : (rowOf n f)[i]? = some (.int .i64 (f i)) := by simp [rowOf, h]
theorem rowOf_congr {n : Nat} {f g : Nat → Int} (h : ∀ i, i < n → f i = g i) : rowOf n f = rowOf n g := by
  unfold rowOf
  congr 1
  exact List.map_congr_left fun i hi => by rw [h i (by simpa using hi)]
theorem rowOf_set {n i : Nat} (f : Nat → Int) (v : Int) (h : i < n) : (rowOf n f).setIfInBounds i (.int .i64 v) = rowOf n (fun j => if j = i then v else f j) := by
  apply Array.ext_getElem?
  intro j
  rw [Array.getElem?_setIfInBounds]
  by_cases hj : j < n
  · rw [rowOf_size, rowOf_get (fun j => if j = i then v else f j) hj]
    by_cases hij : i = j
    · subst hij; simp [h]
    · rw [if_neg hij, rowOf_get f hj, if_neg (by omega)]
  · rw [if_neg (by omega), Array.getElem?_eq_none (by rw [rowOf_size]; omega), Array.getElem?_eq_none (by rw [rowOf_size]; omega)]
theorem rowOf_rep (n : Nat) : Array.replicate n (Value.int .i64 0) = rowOf n (fun _ => 0) := by
  apply Array.ext_getElem?
  intro j
  by_cases hj : j < n
  · rw [rowOf_get _ hj]; simp [hj]
  · rw [Array.getElem?_eq_none (by simp; omega), Array.getElem?_eq_none (by rw [rowOf_size]; omega)]

/-- the cells of a list of numbers -/
def intCells (l : List Int) : Array Value := (l.map fun n => Value.int .i64 n).toArray
theorem intCells_size (l : List Int) : (intCells l).size = l.length := by simp [intCells]
theorem intCells_get (l : List Int) (i : Nat) : (intCells l)[i]? = (l[i]?).map fun n => Value.int .i64 n := by simp [intCells]
theorem intCells_set (l : List Int) (i : Nat) (v : Int) : (intCells l).setIfInBounds i (.int .i64 v) = intCells (l.set i v) := by
  apply Array.ext_getElem?
  intro j
  rw [Array.getElem?_setIfInBounds, intCells_get, intCells_get, intCells_size, List.getElem?_set]
  by_cases hij : i = j
  · subst hij
    by_cases h : i < l.length
    · simp [h]
    · simp [h]
  · simp [hij]

section
variable {W w : World} {X m : List (Nat × Obj)} {hb n i : Nat} {f : Nat → Int} {T : TypeId}
theorem row_at (h : Own W (X ++ (hb, .cells (rowOf n f) T) :: m) w) (hi : i < n) : w.cell? ⟨hb, i, none⟩ = some (.int .i64 (f i)) := by
  rw [h.cell (List.mem_append_right _ List.mem_cons_self), rowOf_get f hi]
theorem row_free (h : Own W (X ++ (hb, .cells (rowOf n f) T) :: m) w) : w.frozen? ⟨hb, i, none⟩ = false :=
  h.frozen (List.mem_append_right _ List.mem_cons_self) i
theorem row_lt (h : Own W (X ++ (hb, .cells (rowOf n f) T) :: m) w) : hb < w.heap.size := h.lt (List.mem_append_right _ List.mem_cons_self)
theorem row_set (h : Own W (X ++ (hb, .cells (rowOf n f) T) :: m) w) (hi : i < n) (v : Int) (g : Nat → Int) (hg : ∀ j, j < n → (if j = i then v else f j) = g j) :
    Own W (X ++ (hb, .cells (rowOf n g) T) :: m) (w.setCell ⟨hb, i, none⟩ (.int .i64 v)) := by
  have := h.setIn i (.int .i64 v)
  rw [rowOf_set f v hi, rowOf_congr hg] at this
  exact this
end
end Go.Proofs.YtmnpccpfejgkmaaGreat

/-
  Slices that the call owns: what they hold, and append onto them. No condition but sizes.
-/
namespace Go.Proofs.YtmnpccpfejgkmaaGreat
open Go.RowKit

/-- a slice value of n elements, whose cells are 'xs', and the blocks that it owns: none, or one ('ex': the block has just the slice's room) -/
def SlO (ex : Bool) (e size : Nat) (v : Value) (n : Nat) (xs : List Value) (bs : List (Nat × Obj)) : Prop :=
  xs.length = n * size ∧ ((v = .slice none 0 0 ∧ n = 0 ∧ bs = []) ∨
    ∃ g cap cur, v = .slice (some ⟨g, 0, none⟩) n cap ∧ bs = [(g, .cells cur e)] ∧ n ≤ cap ∧ cap ≤ maxLen ∧ (cap * size ≤ cur.size ∧ (ex = true → cur.size = cap * size)) ∧ cur.toList.take (n * size) = xs)
/-- .. one that may be appended to: its block has no more room than it knows of -/
abbrev SlOwn := SlO true
/-- a slice value of n elements that reads as the cells 'xs' -/
def Src (w : World) (size : Nat) (v : Value) (n : Nat) (xs : List Value) : Prop :=
  xs.length = n * size ∧ ((v = .slice none 0 0 ∧ n = 0) ∨ ∃ a c, v = .slice (some a) n c ∧ ∀ j u, xs[j]? = some u → w.cell? (a.add j) = some u)

theorem add_lit0 (g j : Nat) : (⟨g, 0, none⟩ : Addr).add j = ⟨g, j, none⟩ := by
  unfold Addr.add
  split <;> simp_all
theorem add_lit (g o j : Nat) : (⟨g, o, none⟩ : Addr).add j = ⟨g, o + j, none⟩ := by
  unfold Addr.add
  split <;> simp_all

section
variable {ex : Bool} {W w : World} {m : List (Nat × Obj)} {e size n : Nat} {v : Value} {xs : List Value} {bs : List (Nat × Obj)} {P : Program}

theorem SlO.nil (ex : Bool) (e size : Nat) : SlO ex e size (.slice none 0 0) 0 [] [] := ⟨by simp, .inl ⟨rfl, rfl, rfl⟩⟩
theorem SlO.made (ex : Bool) (e size g cap : Nat) (cur : Array Value) (n : Nat) (hn : n ≤ cap) (hc : cap ≤ maxLen) (hs : cur.size = cap * size) :
    SlO ex e size (.slice (some ⟨g, 0, none⟩) n cap) n (cur.toList.take (n * size)) [(g, .cells cur e)] :=
  ⟨by rw [List.length_take, Array.length_toList, hs, Nat.min_eq_left (Nat.mul_le_mul_right _ hn)], .inr ⟨g, cap, cur, rfl, rfl, hn, hc, ⟨by omega, fun _ => hs⟩, rfl⟩⟩
theorem SlO.form (h : SlO ex e size v n xs bs) (hn : 0 < n) : ∃ g cap cur, v = .slice (some ⟨g, 0, none⟩) n cap ∧ bs = [(g, .cells cur e)] ∧ n ≤ cap ∧ cap ≤ maxLen ∧ (cap * size ≤ cur.size ∧ (ex = true → cur.size = cap * size)) ∧ cur.toList.take (n * size) = xs := by
  rcases h.2 with ⟨_, h0, _⟩ | h
  · omega
  · exact h
theorem SlO.len (h : SlO ex e size v n xs bs) : xs.length = n * size := h.1
theorem SlO.slice (h : SlO ex e size v n xs bs) : ∃ A cap, v = .slice A n cap ∧ n ≤ cap ∧ cap ≤ maxLen := by
  rcases h.2 with ⟨rfl, rfl, _⟩ | ⟨g, cap, cur, rfl, _, h1, h2, _⟩
  · exact ⟨none, 0, rfl, Nat.le_refl _, by unfold maxLen; omega⟩
  · exact ⟨_, cap, rfl, h1, h2⟩
/-- the cell at an index -/
theorem SlO.cell (h : SlO ex e size v n xs bs) (hO : Own W (bs ++ m) w) {g cap : Nat} (hv : v = .slice (some ⟨g, 0, none⟩) n cap) {j : Nat} {u : Value} (hj : xs[j]? = some u) : w.cell? ⟨g, j, none⟩ = some u := by
  rcases h.2 with ⟨rfl, _, _⟩ | ⟨g', cap', cur, rfl, rfl, h1, h2, h3, h4⟩
  · cases hv
  · simp only [Value.slice.injEq, Option.some.injEq, Addr.mk.injEq, and_true, true_and] at hv
    obtain ⟨rfl, rfl⟩ := hv
    rw [hO.cell List.mem_cons_self]
    rw [← h4] at hj
    rw [List.getElem?_take] at hj
    split at hj
    · simpa using hj
    · cases hj
theorem SlO.src (h : SlO ex e size v n xs bs) (hO : Own W (bs ++ m) w) : Src w size v n xs := by
  refine ⟨h.1, ?_⟩
  rcases h.2 with ⟨rfl, rfl, _⟩ | ⟨g, cap, cur, rfl, h0, _⟩
  · exact .inl ⟨rfl, rfl⟩
  · refine .inr ⟨_, _, rfl, fun j u hj => ?_⟩
    rw [add_lit0]
    exact h.cell hO rfl hj
theorem SlO.free (h : SlO ex e size v n xs bs) (hO : Own W (bs ++ m) w) {g cap : Nat} (hv : v = .slice (some ⟨g, 0, none⟩) n cap) (j : Nat) : w.frozen? ⟨g, j, none⟩ = false := by
  rcases h.2 with ⟨rfl, _, _⟩ | ⟨g', cap', cur, rfl, rfl, _⟩
  · cases hv
  · simp only [Value.slice.injEq, Option.some.injEq, Addr.mk.injEq, and_true, true_and] at hv
    obtain ⟨rfl, rfl⟩ := hv
    exact hO.frozen List.mem_cons_self j
theorem SlO.lt (h : SlO ex e size v n xs bs) (hO : Own W (bs ++ m) w) {g cap : Nat} (hv : v = .slice (some ⟨g, 0, none⟩) n cap) : g < w.heap.size := by
  rcases h.2 with ⟨rfl, _, _⟩ | ⟨g', cap', cur, rfl, rfl, _⟩
  · cases hv
  · simp only [Value.slice.injEq, Option.some.injEq, Addr.mk.injEq, and_true, true_and] at hv
    obtain ⟨rfl, rfl⟩ := hv
    exact hO.lt List.mem_cons_self
/-- a cell is stored -/
theorem SlO.store (h : SlO ex e size v n xs bs) (hO : Own W (bs ++ m) w) {g cap : Nat} (hv : v = .slice (some ⟨g, 0, none⟩) n cap) {j : Nat} (_hj : j < n * size) (u : Value) :
    ∃ bs', SlO ex e size v n (xs.set j u) bs' ∧ Own W (bs' ++ m) (w.setCell ⟨g, j, none⟩ u) := by
  rcases h.2 with ⟨rfl, _, _⟩ | ⟨g', cap', cur, rfl, rfl, h1, h2, h3, h4⟩
  · cases hv
  · simp only [Value.slice.injEq, Option.some.injEq, Addr.mk.injEq, and_true, true_and] at hv
    obtain ⟨rfl, rfl⟩ := hv
    refine ⟨[(g', .cells (cur.setIfInBounds j u) e)], ⟨by rw [List.length_set]; exact h.1, .inr ⟨g', cap', _, rfl, rfl, h1, h2, by rw [Array.size_setIfInBounds]; exact h3, ?_⟩⟩, hO.set j u⟩
    rw [Array.toList_setIfInBounds, List.take_set, h4]
/-- shorter: the same block -/
theorem SlO.shorter (h : SlO ex e size v n xs bs) {g cap k : Nat} (hv : v = .slice (some ⟨g, 0, none⟩) n cap) (hk : k ≤ n) : SlO ex e size (.slice (some ⟨g, 0, none⟩) k cap) k (xs.take (k * size)) bs := by
  rcases h.2 with ⟨rfl, _, _⟩ | ⟨g', cap', cur, rfl, rfl, h1, h2, h3, h4⟩
  · cases hv
  · simp only [Value.slice.injEq, Option.some.injEq, Addr.mk.injEq, and_true, true_and] at hv
    obtain ⟨rfl, rfl⟩ := hv
    have hle : k * size ≤ n * size := Nat.mul_le_mul_right _ hk
    refine ⟨by rw [List.length_take, h.1]; omega, .inr ⟨g', cap', cur, rfl, rfl, by omega, h2, h3, ?_⟩⟩
    rw [← h4, List.take_take, Nat.min_eq_left hle]
/-- what may be appended to may be read and written -/
theorem SlO.weak (h : SlO ex e size v n xs bs) : SlO false e size v n xs bs := by
  refine ⟨h.1, ?_⟩
  rcases h.2 with h0 | ⟨g, cap, cur, hv, hb, h1, h2, h3, h4⟩
  · exact .inl h0
  · exact .inr ⟨g, cap, cur, hv, hb, h1, h2, ⟨h3.1, fun h => by cases h⟩, h4⟩
/-- shorter, and with less room ('s[:k:k]') -/
theorem SlO.cut (h : SlO ex e size v n xs bs) {g cap k : Nat} (hv : v = .slice (some ⟨g, 0, none⟩) n cap) (hk : k ≤ n) : SlO false e size (.slice (some ⟨g, 0, none⟩) k k) k (xs.take (k * size)) bs := by
  rcases h.2 with ⟨rfl, _, _⟩ | ⟨g', cap', cur, rfl, rfl, h1, h2, h3, h4⟩
  · cases hv
  · simp only [Value.slice.injEq, Option.some.injEq, Addr.mk.injEq, and_true, true_and] at hv
    obtain ⟨rfl, rfl⟩ := hv
    have hle : k * size ≤ n * size := Nat.mul_le_mul_right _ hk
    have hle2 : n * size ≤ cap' * size := Nat.mul_le_mul_right _ h1
    refine ⟨by rw [List.length_take, h.1]; omega, .inr ⟨g', k, cur, rfl, rfl, Nat.le_refl _, by omega, ⟨by omega, fun h => by cases h⟩, ?_⟩⟩
    rw [← h4, List.take_take, Nat.min_eq_left hle]
theorem Src.setCell (h : Src w size v n xs) {a : Addr} {u : Value} (ha : ∀ b c, v = .slice (some b) n c → b.block ≠ a.block) : Src (w.setCell a u) size v n xs := by
  refine ⟨h.1, ?_⟩
  rcases h.2 with h0 | ⟨b, c, hv, hc⟩
  · exact .inl h0
  · refine .inr ⟨b, c, hv, fun j x hj => ?_⟩
    rw [World.cell?_of_block (w := w) (Below.heap_setCell w a u _ (by rw [ChangeShapes.block_add]; exact ha b c hv))]
    exact hc j x hj
theorem Src.below (h : Src w size v n xs) {w' : World} (hb : Below w.heap.size w w') : Src w' size v n xs := by
  refine ⟨h.1, ?_⟩
  rcases h.2 with h0 | ⟨b, c, hv, hc⟩
  · exact .inl h0
  · refine .inr ⟨b, c, hv, fun j x hj => ?_⟩
    have := hc j x hj
    rw [hb.cell (World.block_lt_of_cell? w _ this)]
    exact this
theorem Src.ofOwn (h : Src W size v n xs) (hO : Own W m w) : Src w size v n xs := h.below hO.below

/-- APPEND onto a slice that the call owns: what it is then, and what is owned. -/
theorem run_app (t ty e : TypeId) (i : TypeInfo) (z : Value) (size bytes : Nat) (ht : P.underlying t = some (.slice e)) (hi : P.info? e = some i) (hz : i.zero = some z)
    (hsize : i.size = size) (hby : i.bytes = bytes) (hzs : z.cells.size = size) (hsz : 0 < size)
    (hs : SlOwn e size v n xs bs) (hO : Own W (bs ++ m) w) {x : Value} {k : Nat} {news : List Value} (hx : Src w size x k news) (h1 : ∀ u ∈ news, u.oneCell' = true)
    (h63 : n + k ≤ maxLen) (hbytes : (n + k) * bytes ≤ 140737488355328) :
    ∃ v' w' bs', (Builtin.append_ #[t, t] ty #[v, x]).run P w = .ok v' w' ∧ SlOwn e size v' (n + k) (xs ++ news) bs' ∧ Own W (bs' ++ m) w' ∧ (v' = .slice none 0 0 ↔ v = .slice none 0 0 ∧ k = 0) := by
  have hown : w.ownsRow W.heap.size e size v n xs := by
    refine ⟨hs.1, ?_⟩
    rcases hs.2 with ⟨h0, h1, _⟩ | ⟨g, cap, cur, hv, hb, ha, hc, hd, he⟩
    · exact .inl ⟨h0, h1⟩
    · subst hb
      exact .inr ⟨g, cap, cur, hv, hO.ge List.mem_cons_self, hO.get List.mem_cons_self, ha, hc, hd.2 rfl, he⟩
  rcases hx.2 with ⟨rfl, rfl⟩ | ⟨ad, c, rfl, hc⟩
  · have hn : news = [] := List.eq_nil_of_length_eq_zero (by simpa using hx.1)
    subst hn
    refine ⟨v, w, bs, ?_, by simpa using hs, hO, by simp⟩
    obtain ⟨A, cap, rfl, hle, _⟩ := SlO.slice hs
    cases A with
    | none => simp [Builtin.append_, run_underlying ht, sizeOf, typeInfo, hi, Builtin.lenOf, Builtin.firstCells, hle]
    | some a => simp [Builtin.append_, run_underlying ht, sizeOf, typeInfo, hi, Builtin.lenOf, Builtin.firstCells, hle, storeCells]
  · obtain ⟨v', w', hr, h2, h3, h4, h5⟩ := run_append_own_at (P := P) w W.heap.size t ty e i z size bytes ht hi hz hsize hby hzs hsz v n xs hown ad k c news hx.1 hc h1 h63 hbytes hO.size_le
    have hbel : Below W.heap.size W w' := hO.below.grown h3 hO.size_le (fun q hq => (hown.lt q hq).1)
    rcases h2.2 with ⟨hv', hn'⟩ | ⟨g, cap, cur, hv', hge, hg, ha, hb, hcs, htk⟩
    · subst hv'
      have hv0 := (h4.1 rfl).1
      subst hv0
      have hbs : bs = [] := by
        rcases hs.2 with ⟨_, _, h⟩ | ⟨g, cap, cur, hv, _⟩
        · exact h
        · cases hv
      subst hbs
      refine ⟨_, w', [], hr, ⟨h2.1, .inl ⟨rfl, hn', rfl⟩⟩, ⟨hbel, fun p hp => ⟨(hO.at_ p hp).1, ?_⟩, hO.nd⟩, h4⟩
      rw [h3.block p.1 (heap_lt (hO.at_ p hp).2) (by simp [Value.ownBlock])]
      exact (hO.at_ p hp).2
    · subst hv'
      refine ⟨_, w', [(g, .cells cur e)], hr, ⟨h2.1, .inr ⟨g, cap, cur, rfl, rfl, ha, hb, ⟨by omega, fun _ => hcs⟩, htk⟩⟩, ⟨hbel, fun p hp => ?_, ?_⟩, h4⟩
      · rcases List.mem_cons.1 hp with rfl | hp
        · exact ⟨hge, hg⟩
        · have hp' := hO.at_ p (List.mem_append_right _ hp)
          refine ⟨hp'.1, (h3.block p.1 (heap_lt hp'.2) (fun he => ?_)).trans hp'.2⟩
          rcases hs.2 with ⟨rfl, _, _⟩ | ⟨g0, cap0, cur0, rfl, rfl, _⟩
          · simp [Value.ownBlock] at he
          · simp only [Value.ownBlock, Option.some.injEq] at he
            exact Own.ne hO (b' := p.1) (o' := p.2) hp he
      · simp only [List.singleton_append, List.map_cons, List.nodup_cons]
        refine ⟨fun hin => ?_, (hO.dropL).nd⟩
        obtain ⟨p, hp, he⟩ := List.mem_map.1 hin
        have hp' := hO.at_ p (List.mem_append_right _ hp)
        rcases h5 with h5 | h5
        · rcases hs.2 with ⟨rfl, _, _⟩ | ⟨g0, cap0, cur0, rfl, rfl, _⟩
          · simp [Value.ownBlock] at h5
          · simp only [Value.ownBlock, Option.some.injEq] at h5
            exact Own.ne hO (b' := p.1) (o' := p.2) hp (by omega)
        · simp only [Value.ownBlock, Option.some.injEq] at h5
          have := heap_lt hp'.2
          omega
/-- .. at an operation of the walk: 'at_builtin; refine wpList_app rfl _ _ _ rfl rfl rfl ..' -/
theorem wpList_app {ops : Array Oper} {rest : List Oper} {o : Oper} {a : Act} {Q : Exit → Act → World → Prop} (hgd : o.guard = none) (s x : Operand) (t : TypeId)
    (ho : o.op = .call { callee := .builtin .append, args := #[s, x], argTypes := #[t, t] }) {v xv : Value} (hes : a.eval s = v) (hex : a.eval x = xv)
    (e : TypeId) (i : TypeInfo) (z : Value) (size bytes : Nat) (ht : P.underlying t = some (.slice e)) (hi : P.info? e = some i) (hz : i.zero = some z)
    (hsize : i.size = size) (hby : i.bytes = bytes) (hzs : z.cells.size = size) (hsz : 0 < size)
    (hs : SlOwn e size v n xs bs) (hO : Own W (bs ++ m) w) {k : Nat} {news : List Value} (hx : Src w size xv k news) (h1 : ∀ u ∈ news, u.oneCell' = true)
    (h63 : n + k ≤ maxLen) (hbytes : (n + k) * bytes ≤ 140737488355328)
    (h : ∀ v' w' bs', SlOwn e size v' (n + k) (xs ++ news) bs' → Own W (bs' ++ m) w' → (v' = .slice none 0 0 ↔ v = .slice none 0 0 ∧ k = 0) → wpList P ops Q rest (a.put o.dst v') w') :
    wpList P ops Q (o :: rest) a w := by
  obtain ⟨v', w', bs', hr, h2, h3, h4⟩ := run_app (P := P) t o.type e i z size bytes ht hi hz hsize hby hzs hsz hs hO hx h1 h63 hbytes
  refine wpList_plain hgd fun K hK => ?_
  unfold Oper.wp execOp
  simp only [ho, resolve, invoke, builtin, Sem.run_bind, Sem.run_pure, Result.andThen_ok, List.map_toArray, List.map_cons, List.map_nil, hes, hex, hr]
  exact hK _ _ (h v' w' bs' h2 h3 h4)
end
end Go.Proofs.YtmnpccpfejgkmaaGreat

/-
  Contracts: frame.headed, the test of a page that is inside, and whether a slice of pages has one that is not.
-/
namespace Go.Proofs.YtmnpccpfejgkmaaGreat
open Go.RowKit
attribute [local go_sem ↓] Go.wp_at_zero Go.wp_at_succ
/-- a page as a value -/
def pgVal (p : Pg) : Value := .agg #[.int .i64 p.1, .int .i64 p.2.1, .int .i64 p.2.2]
section
variable {W : World} {m : List (Nat × Obj)} {w : World}
set_option maxHeartbeats 1000000 in
theorem headed_spec (h : Own W m w) (k o c : Int) :
    Calls Tryz.prog 172 #[.agg #[.int .i64 k, .int .i64 o, .int .i64 c]] w fun e w' => e = .returned (.bool (pgHead (k, o, c))) ∧ Own W m w' := by
  have h0 := h.alloc (.cells #[.int .i64 k, .int .i64 o, .int .i64 c] 174)
  go_enter Tryz.func172, Tryz.ntmps172
  go_wp2_with fail
  all_goals go_ret
  all_goals refine ⟨?_, h0⟩
  all_goals simp only [beq_iff_eq, beq_eq_false_iff_ne, ne_eq] at *
  all_goals
    first
      | exact (congrArg (fun b => Ending.returned (Value.bool b)) (show pgHead (k, o, c) = false from decide_eq_false (by simp only; omega))).symm
      | exact (congrArg (fun b => Ending.returned (Value.bool b)) (show pgHead (k, o, c) = (c == 0) from Bool.eq_iff_iff.2 (by simp [pgHead]; omega))).symm
      | exact (congrArg (fun b => Ending.returned (Value.bool b)) (show pgHead (k, o, c) = decide (c ≤ 8) from Bool.eq_iff_iff.2 (by simp [pgHead]; omega))).symm
      | exact (congrArg (fun b => Ending.returned (Value.bool b)) (show pgHead (k, o, c) = (decide (0 ≤ c) && decide (c ≤ 8)) from Bool.eq_iff_iff.2 (by simp [pgHead]; omega))).symm
      | trace_state
set_option maxHeartbeats 1000000 in
theorem inside_spec (h : Own W m w) (k o c : Int) :
    Calls Tryz.prog 174 #[.agg #[.int .i64 k, .int .i64 o, .int .i64 c]] w fun e w' => e = .returned (.bool (!decide (((k, o, c) : Pg) = pgIn))) ∧ Own W m w' := by
  have h0 := h.alloc (.cells #[.int .i64 k, .int .i64 o, .int .i64 c] 174)
  go_enter Tryz.func174, Tryz.ntmps174
  go_wp2_with fail
  all_goals go_ret
  all_goals refine ⟨?_, h.alloc _⟩
  all_goals simp_all [pgIn]
end
/-- pages as numbers, one behind another -/
def flat3 : List Pg → List Int
  | [] => []
  | p :: l => p.1 :: p.2.1 :: p.2.2 :: flat3 l
theorem flat3_len : ∀ l, (flat3 l).length = l.length * 3
  | [] => rfl
  | p :: l => by simp [flat3, flat3_len l]; omega
theorem flat3_get : ∀ {l : List Pg} {j : Nat} {p : Pg}, l[j]? = some p → (flat3 l)[j * 3]? = some p.1 ∧ (flat3 l)[j * 3 + 1]? = some p.2.1 ∧ (flat3 l)[j * 3 + 2]? = some p.2.2
  | [], j, p, h => by simp at h
  | q :: l, 0, p, h => by
    simp at h
    subst h
    simp [flat3]
  | q :: l, j + 1, p, h => by
    have := flat3_get (l := l) (j := j) (p := p) (by simpa using h)
    rw [show (j + 1) * 3 = j * 3 + 1 + 1 + 1 from by omega]
    simpa [flat3] using this
/-- from a place on memory reads as pages -/
def PgAt (w : World) (g o : Nat) (l : List Pg) : Prop := g < w.heap.size ∧ ∀ (j : Nat) (p : Pg), l[j]? = some p →
  w.cell? ⟨g, o + j * 3, none⟩ = some (.int .i64 p.1) ∧ w.cell? ⟨g, o + j * 3 + 1, none⟩ = some (.int .i64 p.2.1) ∧ w.cell? ⟨g, o + j * 3 + 2, none⟩ = some (.int .i64 p.2.2)
theorem PgAt.own {W w : World} {g o : Nat} {l : List Pg} {m : List (Nat × Obj)} (h : PgAt W g o l) (hO : Own W m w) : PgAt w g o l := by
  refine ⟨Nat.lt_of_lt_of_le h.1 hO.size_le, fun j p hp => ?_⟩
  obtain ⟨h1, h2, h3⟩ := h.2 j p hp
  exact ⟨(hO.old (by exact h.1)).trans h1, (hO.old (by exact h.1)).trans h2, (hO.old (by exact h.1)).trans h3⟩
def pgIdx (l : List Pg) : Int := match l.findIdx? (fun p => decide (p ≠ pgIn)) with | some i => i | none => -1
theorem pgIdx_yes {l : List Pg} {k : Nat} {p : Pg} (hk : l[k]? = some p) (hp : p ≠ pgIn) (h : ∀ j, j < k → l[j]? = some pgIn) : pgIdx l = k := by
  have : l.findIdx? (fun p => decide (p ≠ pgIn)) = some k := by
    rw [List.findIdx?_eq_some_iff_getElem]
    obtain ⟨hlt, he⟩ := List.getElem?_eq_some_iff.1 hk
    refine ⟨hlt, by simp [he, hp], fun j hj => ?_⟩
    have := h j hj
    rw [List.getElem?_eq_getElem (by omega)] at this
    simp [Option.some.inj this]
  unfold pgIdx
  rw [this]
theorem pgIdx_no {l : List Pg} (h : ∀ j, j < l.length → l[j]? = some pgIn) : pgIdx l = -1 := by
  have : l.findIdx? (fun p => decide (p ≠ pgIn)) = none := by
    rw [List.findIdx?_eq_none_iff]
    intro x hx
    obtain ⟨j, hj, rfl⟩ := List.getElem_of_mem hx
    have := h j hj
    rw [List.getElem?_eq_getElem hj] at this
    simp [Option.some.inj this]
  unfold pgIdx
  rw [this]
theorem pgIdx_all (l : List Pg) : decide (0 ≤ pgIdx l) = !l.all (· == pgIn) := by
  unfold pgIdx
  cases h : l.findIdx? (fun p => decide (p ≠ pgIn)) with
  | none =>
    rw [List.findIdx?_eq_none_iff] at h
    have : l.all (· == pgIn) = true := by
      rw [List.all_eq_true]
      intro x hx
      have := h x hx
      simpa using this
    rw [this]; rfl
  | some k =>
    rw [List.findIdx?_eq_some_iff_getElem] at h
    obtain ⟨hlt, he, _⟩ := h
    have : l.all (· == pgIn) = false := by
      rw [List.all_eq_false]
      exact ⟨_, List.getElem_mem hlt, by simpa using he⟩
    rw [this]; simp
set_option maxHeartbeats 1000000 in
theorem indexFunc_spec {w : World} {g o : Nat} {c : Nat} {l : List Pg} (hs : PgAt w g o l) (hl : l.length ≤ 60000) :
    Calls Tryz.prog 178 #[.slice (some ⟨g, o, none⟩) l.length c, .func (.func 174) #[] #[]] w fun e w' => e = .returned (.int .i64 (pgIdx l)) ∧ Own w [] w' := by
  go_enter Tryz.func178, Tryz.ntmps178
  go_wp2_with fail
  go_loopw [8] (fun k wr => ∃ i : Nat, i ≤ l.length ∧ k = .int .i64 i ∧ (∀ j, j < i → l[j]? = some pgIn) ∧ Own w [] wr) (fun k _ => l.length - (intOf k).toNat)
  case atStart => exact ⟨0, Nat.zero_le _, rfl, fun j hj => absurd hj (by omega), Own.self w⟩
  case round =>
    obtain ⟨i, hi, rfl, hno, hr⟩ := hrel
    have HN := Lib.hid hno
    clear hno
    by_cases hlt : i < l.length
    · obtain ⟨p, hp⟩ : ∃ p, l[i]? = some p := ⟨_, List.getElem?_eq_getElem hlt⟩
      obtain ⟨q0, q1, q2⟩ := (hs.own hr).2 i p hp
      have HP := Lib.hid hp
      obtain ⟨p0, p1, p2⟩ := p
      simp only at q0 q1 q2
      clear hp
      by_cases hin : ((p0, p1, p2) : Pg) = pgIn
      · go_wp2_with (go_at_call 174; refine (inside_spec hr p0 p1 p2).mono ?_; rintro e w' ⟨rfl, h1⟩; rw [decide_eq_true hin])
        go_roundw
        case rel =>
          refine ⟨i + 1, by omega, by go_num, fun j hj => ?_, h1⟩
          by_cases hji : j < i
          · exact HN.out j hji
          · obtain rfl : j = i := by omega
            rw [HP.out, hin]
        case measure => simp [intOf]; omega
      · go_wp2_with (go_at_call 174; refine (inside_spec hr p0 p1 p2).mono ?_; rintro e w' ⟨rfl, h1⟩; rw [decide_eq_false hin])
        go_ret
        exact ⟨by rw [pgIdx_yes HP.out hin HN.out]; rfl, h1⟩
    · obtain rfl : i = l.length := by omega
      go_wp2_with fail
      go_ret
      exact ⟨by rw [pgIdx_no HN.out]; rfl, hr⟩
theorem containsFunc_spec {w : World} {g o : Nat} {c : Nat} {l : List Pg} (hs : PgAt w g o l) (hl : l.length ≤ 60000) :
    Calls Tryz.prog 173 #[.slice (some ⟨g, o, none⟩) l.length c, .func (.func 174) #[] #[]] w fun e w' => e = .returned (.bool (!l.all (· == pgIn))) ∧ Own w [] w' := by
  have HM := Lib.hid (pgIdx_all l)
  go_enter Tryz.func173, Tryz.ntmps173
  go_wp2_with (go_at_call 178; refine (indexFunc_spec hs hl).mono ?_; rintro e w' ⟨rfl, h1⟩)
  go_ret
  exact ⟨by rw [← HM.out]; rfl, h1⟩
theorem containsFunc_at {w : World} {g o : Nat} {c n : Nat} {l : List Pg} (hs : PgAt w g o l) (hn : n = l.length) (hl : n ≤ 60000) :
    Calls Tryz.prog 173 #[.slice (some ⟨g, o, none⟩) n c, .func (.func 174) #[] #[]] w fun e w' => e = .returned (.bool (!l.all (· == pgIn))) ∧ Own w [] w' := by
  subst hn
  exact containsFunc_spec hs hl
theorem PgAt.part {w : World} {g o : Nat} {L : List Pg} (h : PgAt w g o L) (i n : Nat) : PgAt w g (o + i * 3) ((L.drop i).take n) := by
  refine ⟨h.1, fun j p hp => ?_⟩
  have hp' : L[i + j]? = some p := by
    rw [List.getElem?_take] at hp
    split at hp
    · rw [List.getElem?_drop] at hp; exact hp
    · cases hp
  obtain ⟨h1, h2, h3⟩ := h.2 (i + j) p hp'
  rw [show o + i * 3 + j * 3 = o + (i + j) * 3 from by omega]
  exact ⟨h1, h2, h3⟩
theorem PgAt.empty {w : World} {g o o' : Nat} {L : List Pg} (h : PgAt w g o L) : PgAt w g o' [] := ⟨h.1, fun j p hp => by simp at hp⟩
end Go.Proofs.YtmnpccpfejgkmaaGreat
