/-
  Texts of this claim, joined. No condition.
-/
import Derived.Test.YthjjpmoifgcepaaGreatJh3
import Derived.Test.YthjjpmoifgcepaaGreatJh1
import Derived.Laws.CopyRow
import Derived.OpenShut
import Derived.Deep.Slices
/-
  Structs in boxes of their own: a whole one stored, a whole one loaded, in one step. No condition.
-/
namespace Go.Proofs.YthjjpmoifgcepaaGreat
open Go.RowKit
section
variable {P : Program} {W w : World} {m : List (Nat × Obj)} {b : Nat} {old new : Array Value} {e t : TypeId}
theorem own_row (h : Own W ((b, .cells old e) :: m) w) (hl : old.size = new.size) : Own W ((b, .cells new e) :: m) (w.setRow b new) := by
  have hg := h.get (List.mem_cons_self)
  have hge := h.ge (List.mem_cons_self)
  have hot : ∀ c, c ≠ b → (w.setRow b new).heap[c]? = w.heap[c]? := fun c hc => setRow_other w b c new hc
  refine ⟨⟨h.below.os, h.below.tape, h.below.output, ?_, fun c hc => ?_⟩, fun p hm => ?_, h.nd⟩
  · simpa using h.below.size
  · rw [hot c (by omega)]
    exact h.below.block c hc
  · rcases List.mem_cons.1 hm with rfl | hm
    · exact ⟨hge, by rw [setRow_heap w b old new e (0, 0) hg]⟩
    · have hne : p.1 ≠ b := h.ne (b' := p.1) (o' := p.2) hm
      exact ⟨(h.at_ p (List.mem_cons_of_mem _ hm)).1, (hot p.1 hne).trans (h.at_ p (List.mem_cons_of_mem _ hm)).2⟩
theorem run_storeBox (h : Own W ((b, .cells old e) :: m) w) (hl : old.size = new.size) (h1 : ∀ u ∈ new.toList, u.oneCell' = true) (hs : Ex.sizeT P t = some new.size) :
    (Instr.storeAt t (.pointer (some ⟨b, 0, none⟩)) (.agg new)).run P w = .ok () (w.setRow b new) := by
  have hcur := h.get (List.mem_cons_self)
  have hst := run_storeCells_at P b 0 e new.toList 0 old w hcur (by simp; omega) h1
  simp only [Nat.add_zero, List.take_zero, List.nil_append, Nat.zero_add] at hst
  rw [List.drop_eq_nil_of_le (by simp; omega), List.append_nil, Array.toArray_toList] at hst
  simp [Instr.storeAt, Instr.sureAddr, storeVar, Ex.sizeT_run hs w, Value.cells, hst]
theorem wpList_storeBox {ops : Array Oper} {rest : List Oper} {o : Oper} {a : Act} {Q : Exit → Act → World → Prop} (hgd : o.guard = none) (p x : Operand)
    (ho : o.op = .store t p x) (hp : a.eval p = .pointer (some ⟨b, 0, none⟩)) (hx : a.eval x = .agg new) (hs : Ex.sizeT P t = some new.size)
    (hO : Own W ((b, .cells old e) :: m) w) (hl : old.size = new.size) (h1 : ∀ u ∈ new.toList, u.oneCell' = true)
    (h : ∀ w', Own W ((b, .cells new e) :: m) w' → wpList P ops Q rest (a.put o.dst undef) w') :
    wpList P ops Q (o :: rest) a w := by
  refine wpList_plain hgd fun K hK => ?_
  have hr := run_storeBox (P := P) (t := t) hO hl h1 hs
  unfold Oper.wp execOp
  simp only [ho, hp, hx, Sem.run_bind, Sem.run_pure, Result.andThen_ok, hr]
  exact hK _ _ (h _ (own_row hO hl))
theorem run_loadBox {fs : Array Field} (h : Own W ((b, .cells old e) :: m) w) (hu : P.underlying t = some (.struct fs)) (hs : Ex.sizeT P t = some old.size) :
    (Instr.loadAt t (.pointer (some ⟨b, 0, none⟩))).run P w = .ok (.agg old) w := by
  have hcur := h.get (List.mem_cons_self)
  have hrange : w.rangeAt b 0 old.toList := fun j z hz => by
    simp only [Array.getElem?_toList] at hz
    simp [World.cell?, hcur, hz]
  have := run_loadAt_mid (P := P) w b 0 t old.toList (.struct fs) hrange hu rfl (by rw [Ex.sizeT_info hs, Array.length_toList])
  simpa using this
theorem wpList_loadBox {fs : Array Field} {ops : Array Oper} {rest : List Oper} {o : Oper} {a : Act} {Q : Exit → Act → World → Prop} (hgd : o.guard = none) (p : Operand)
    (ho : o.op = .load t p) (hp : a.eval p = .pointer (some ⟨b, 0, none⟩)) (hu : P.underlying t = some (.struct fs))
    (hO : Own W ((b, .cells old e) :: m) w) (hs : Ex.sizeT P t = some old.size) (h : wpList P ops Q rest (a.put o.dst (.agg old)) w) :
    wpList P ops Q (o :: rest) a w := by
  refine wpList_plain hgd fun K hK => ?_
  have hr := run_loadBox (P := P) (t := t) hO hu hs
  unfold Oper.wp execOp
  simp only [ho, hp, Sem.run_bind, Sem.run_pure, Result.andThen_ok, hr]
  exact hK _ _ h
/-- at a step of a region that draws its order: '((refine step_storeBox (by rfl) _ _ (by rfl) (by rfl) (by rfl) ..); intro w' h')' -/
theorem step_storeBox {ops : Array Oper} {o : Oper} {a : Act} {K : Act → World → Prop} {Q : Exit → Act → World → Prop} {E : Prop} (hgd : o.guard = none) (p x : Operand)
    (ho : o.op = .store t p x) (hp : a.eval p = .pointer (some ⟨b, 0, none⟩)) (hx : a.eval x = .agg new)
    (hO : Own W ((b, .cells old e) :: m) w) (hs : Ex.sizeT P t = some new.size) (hl : old.size = new.size) (h1 : ∀ u ∈ new.toList, u.oneCell' = true)
    (h : ∀ w', Own W ((b, .cells new e) :: m) w' → K (a.put o.dst undef) w') :
    if Region.wanted o (yielded ops a.tmps) = true then Oper.wp P o a w K Q else E := by
  have hw : Region.wanted o (yielded ops a.tmps) = true := by simp [Region.wanted, hgd]
  rw [if_pos hw]
  have hr := run_storeBox (P := P) (t := t) hO hl h1 hs
  unfold Oper.wp execOp
  simp only [ho, hp, hx, Sem.run_bind, Sem.run_pure, Result.andThen_ok, hr]
  exact h _ (own_row hO hl)
theorem step_loadBox {fs : Array Field} {ops : Array Oper} {o : Oper} {a : Act} {K : Act → World → Prop} {Q : Exit → Act → World → Prop} {E : Prop} (hgd : o.guard = none) (p : Operand)
    (ho : o.op = .load t p) (hp : a.eval p = .pointer (some ⟨b, 0, none⟩)) (hu : P.underlying t = some (.struct fs))
    (hO : Own W ((b, .cells old e) :: m) w) (hs : Ex.sizeT P t = some old.size) (h : K (a.put o.dst (.agg old)) w) :
    if Region.wanted o (yielded ops a.tmps) = true then Oper.wp P o a w K Q else E := by
  have hw : Region.wanted o (yielded ops a.tmps) = true := by simp [Region.wanted, hgd]
  rw [if_pos hw]
  have hr := run_loadBox (P := P) (t := t) hO hu hs
  unfold Oper.wp execOp
  simp only [ho, hp, Sem.run_bind, Sem.run_pure, Result.andThen_ok, hr]
  exact h
end
end Go.Proofs.YthjjpmoifgcepaaGreat

/-
  From what a law's walk gives to the law's row: the call returns true, and of what was there before nothing has turned. No condition.
-/
namespace Go.Proofs.YthjjpmoifgcepaaGreat
open Go.ChangeShapes Go.WideShapes Go.ChangeAt Go.RowKit

theorem Tryz.own : ownKnob Tryz.prog.godebug = none := by kernel_rfl
theorem Tryz.laidOut : laidOutB Tryz.prog = true := by kernel_rfl

section
variable {H : Type} {enc : TypeId × Value → H} {P : Program}
/-- arguments read behind the call as they did -/
theorem trodAll_below (hl : laidOutB P = true) {W W' : World} (hb : Below W.heap.size W W') {sp : Nat → Bool} :
    ∀ (ts : List TypeId) (vs : List Value) (ds : List (DataW H)) (ps : List MemPlace), (∀ t ∈ ts, P.readableRec t = true ∧ t < P.types.size) →
    DataW.TrodAll enc P W 0 (fun _ => true) true ts vs ds ps → (∀ x ∈ ps, x.block < W.heap.size) → (∀ x ∈ ps, sp x.block = true) →
    DataW.TrodAll enc P W' 0 sp true ts vs ds ps
  | [], vs, ds, ps, _, h, _, _ => by
    obtain ⟨rfl, rfl, rfl⟩ := trodAll_nil h
    exact trodAll_mk0
  | t :: ts, vs, ds, ps, hr, h, hlt, hs => by
    obtain ⟨v, vs', d, ds', p, q, rfl, rfl, rfl, h1, h2⟩ := trodAll_cons h
    obtain ⟨hr1, hr2⟩ := hr t List.mem_cons_self
    exact trodAll_cons_mk (WideElems.Trod_stays hl hr1 hr2 h1 (fun x hx => hb.same (hlt x (List.mem_append_left _ hx))) (fun x hx => hs x (List.mem_append_left _ hx)))
      (trodAll_below hl hb ts vs' ds' q (fun t' ht' => hr t' (List.mem_cons_of_mem _ ht')) h2 (fun x hx => hlt x (List.mem_append_right _ hx)) (fun x hx => hs x (List.mem_append_right _ hx)))

theorem law_post {f : Func} {s : ChangeSpec} {T : TypeId} {apart fresh handsOn again : Bool} {W W' : World} {args : Array Value} {ds gs : List (DataW H)} {before : List MemPlace} (hl : laidOutB P = true)
    (hT : P.underlying T = some .bool) (hres : f.resultTypes = #[T]) (hvars : s.vars = []) (hr : ∀ t ∈ f.params.toList, P.readableRec t = true ∧ t < P.types.size)
    (hW : DataW.Whole enc P f.params.toList s.vars apart W args.toList ds gs before)
    (hfn : s.fn H ds = { results := [.lit (.bool true)], args := ds }) (hb : Below W.heap.size W W') :
    s.post enc P f apart fresh handsOn again W args (.bool true) W' := by
  have hW' := hW
  obtain ⟨p, q, hA, hV, rfl, hz, hn⟩ := hW
  rw [hvars] at hV
  obtain ⟨rfl, rfl⟩ := trodVars_none hV
  simp only [List.append_nil] at hW'
  have hlt : ∀ x ∈ p, x.block < W.heap.size := fun x hx => hW'.lt x hx
  have hA' : ∀ sp : Nat → Bool, (∀ x ∈ p, sp x.block = true) → DataW.TrodAll enc P W' 0 sp true f.params.toList args.toList ds p :=
    fun sp hs => trodAll_below hl hb _ _ _ _ hr hA hlt hs
  have hR : ∀ (b : Nat) (sp : Nat → Bool) (hd : Bool), DataW.TrodAll enc P W' b sp hd f.resultTypes.toList ((Value.bool true).resultList f.resultTypes.size) [.lit (.bool true)] [] := fun b sp hd => by
    rw [hres]; exact trodAll_mk1 (shut_bool hT _)
  have hold : ∀ x ∈ p, (fun b => decide (b < W.heap.size)) x.block = true := fun x hx => by simpa using hlt x hx
  have hds : s.fn H (ds ++ []) = { results := [.lit (.bool true)], args := ds } := by rw [List.append_nil]; exact hfn
  refine ⟨ds, [], p, [], p, [], hW', ?_, ?_, ?_, World.keptBut_mono (fun x hx => ⟨hx, .inr (.inl hx)⟩) (hb.frame (· ∈ p)), fun _ => ?_⟩
  · rw [hds]; exact hR _ _ _
  · rw [hds]; exact hA' _ hold
  · rw [hvars, hds]; rfl
  · refine ⟨ok_one hres rfl (okWide_bool_mk hT _), _, [], [] ++ p, ⟨[] ++ p, [], trodAll_append (hA' _ (fun _ _ => rfl)) (hR 0 (fun _ => true) true), by rw [hvars]; rfl, by simp, ?_, ?_⟩, ?_⟩
    · intro b off hp
      have hin : MemPlace.cell b off ∈ p := by simpa using hp
      rw [hb.frozen (hlt _ hin)]
      exact hz b off (by simpa using hin)
    · intro ha
      simpa using hn ha
    · intro x hx _
      simpa using hx
end
end Go.Proofs.YthjjpmoifgcepaaGreat

/-
  Arguments opened to cells: flat types (numbers, bools, structs and arrays of such), and slices of them. No condition.
-/
namespace Go.Proofs.YthjjpmoifgcepaaGreat
open Go.ChangeShapes Go.WideShapes Go.ChangeAt Go.RowKit

/-- a cell of a kind: 'none': a bool -/
def CellIs : Option IntKind → Value → Prop
  | none, v => ∃ b, v = .bool b
  | some k, v => ∃ n, v = .int k n ∧ (Lit.int k n).wf = true

/-- the kinds of a struct's cells, from an offset on -/
def flatFields (P : Program) (K : TypeId → Option (List (Option IntKind))) : Nat → List Field → Option (List (Option IntKind))
  | _, [] => some []
  | off, f :: fs =>
    match K f.type with
    | some l => if f.offset = off ∧ l.length = P.cellsOf f.type then (flatFields P K (off + l.length) fs).map (l ++ ·) else none
    | none => none
/-- the kinds of a flat type's cells -/
def flatKinds (P : Program) : Nat → TypeId → Option (List (Option IntKind))
  | 0, _ => none
  | n + 1, t =>
    match P.underlying t with
    | some .bool => some [none]
    | some (.int k) => some [some k]
    | some (.struct fs) => flatFields P (flatKinds P n) 0 fs.toList
    | some (.array m e) =>
      match flatKinds P n e with
      | some l => if l.length = P.cellsOf e then some (List.replicate m l).flatten else none
      | none => none
    | _ => none

section
variable {H : Type} {enc : TypeId × Value → H} {P : Program} {w : World} {base : Nat} {spare : Nat → Bool} {held : Bool}

theorem flat_rep {l : List (Option IntKind)} {cs : List Value} : ∀ (m off : Nat) (_h : ∀ i, i < m → ∀ (j : Nat) (k : Option IntKind), l[j]? = some k → ∃ v, cs[off + i * l.length + j]? = some v ∧ CellIs k v) (i : Nat) (k : Option IntKind),
    (List.replicate m l).flatten[i]? = some k → ∃ v, cs[off + i]? = some v ∧ CellIs k v
  | 0, _, _, i, k, hk => by simp at hk
  | m + 1, off, h, i, k, hk => by
    rw [List.replicate_succ, List.flatten_cons] at hk
    by_cases hi : i < l.length
    · rw [List.getElem?_append_left hi] at hk
      have := h 0 (by omega) i k hk
      simpa using this
    · rw [List.getElem?_append_right (by omega)] at hk
      have h' : ∀ i, i < m → ∀ (j : Nat) (k : Option IntKind), l[j]? = some k → ∃ v, cs[(off + l.length) + i * l.length + j]? = some v ∧ CellIs k v := fun i' hi' j k' hk' => by
        have := h (i' + 1) (by omega) j k' hk'
        rwa [show off + (i' + 1) * l.length + j = off + l.length + i' * l.length + j from by rw [Nat.succ_mul]; omega] at this
      have := flat_rep m (off + l.length) h' (i - l.length) k hk
      rwa [show off + l.length + (i - l.length) = off + i from by omega] at this

theorem flat_fields {cs : List Value} {K : TypeId → Option (List (Option IntKind))} : ∀ (fs : List Field) (off : Nat) (ks : List (Option IntKind)), flatFields P K off fs = some ks →
    (∀ f ∈ fs, ∀ l, K f.type = some l → l.length = P.cellsOf f.type → ∀ (j : Nat) (k : Option IntKind), l[j]? = some k → ∃ v, cs[f.offset + j]? = some v ∧ CellIs k v) →
    ∀ (i : Nat) (k : Option IntKind), ks[i]? = some k → ∃ v, cs[off + i]? = some v ∧ CellIs k v
  | [], off, ks, hks, _, i, k, hk => by
    simp only [flatFields, Option.some.injEq] at hks
    subst hks
    simp at hk
  | f :: fs, off, ks, hks, hf, i, k, hk => by
    simp only [flatFields] at hks
    split at hks
    · rename_i l hl
      split at hks
      · rename_i hc
        obtain ⟨r, hr, rfl⟩ := Option.map_eq_some_iff.1 hks
        by_cases hi : i < l.length
        · rw [List.getElem?_append_left hi] at hk
          have := hf f List.mem_cons_self l hl hc.2 i k hk
          rwa [hc.1] at this
        · rw [List.getElem?_append_right (by omega)] at hk
          have := flat_fields fs (off + l.length) r hr (fun g hg => hf g (List.mem_cons_of_mem _ hg)) (i - l.length) k hk
          rwa [show off + l.length + (i - l.length) = off + i from by omega] at this
      · cases hks
    · cases hks

theorem take_drop_get {cs : List Value} {a n j : Nat} {v : Value} (h : ((cs.drop a).take n)[j]? = some v) : cs[a + j]? = some v := by
  rw [List.getElem?_take] at h
  split at h
  · rwa [List.getElem?_drop] at h
  · cases h

/-- what is read of a flat type: each cell is of its kind -/
theorem trod_flat : ∀ (fuel n : Nat) (t : TypeId) (cs : List Value) (x : DataW H × List MemPlace) (ks : List (Option IntKind)), DataW.trod enc P w base spare held fuel t cs = some x → flatKinds P n t = some ks →
    ∀ (i : Nat) (k : Option IntKind), ks[i]? = some k → ∃ v, cs[i]? = some v ∧ CellIs k v
  | 0, _, _, _, _, _, h, _ => by simp [DataW.trod] at h
  | fuel + 1, 0, _, _, _, _, _, hk => by simp [flatKinds] at hk
  | fuel + 1, n + 1, t, cs, x, ks, h, hks => by
    intro i k hk
    unfold flatKinds at hks
    split at hks
    · rename_i hu
      simp only [Option.some.injEq] at hks
      subst hks
      unfold DataW.trod at h
      rw [hu] at h
      match cs, h with
      | [.bool b], _ =>
        match i, hk with
        | 0, hk => simp at hk; subst hk; exact ⟨_, rfl, b, rfl⟩
        | i + 1, hk => simp at hk
    · rename_i q hu
      simp only [Option.some.injEq] at hks
      subst hks
      unfold DataW.trod at h
      rw [hu] at h
      match cs, h with
      | [.int k' z], h =>
        simp only at h
        split at h
        · rename_i hc
          match i, hk with
          | 0, hk => simp at hk; subst hk; exact ⟨_, rfl, z, by rw [hc.1], hc.2⟩
          | i + 1, hk => simp at hk
        · cases h
    · rename_i fs hu
      obtain ⟨xs, m, hm, _, hcl, _, hf⟩ := DataW.trod_struct hu h
      obtain rfl : fuel = m := by omega
      have := flat_fields (cs := cs) fs.toList 0 ks hks (fun f hfm l hl hlc j k' hk' => by
        obtain ⟨i', hi', hfi⟩ := List.getElem_of_mem hfm
        have hfi' : fs[i']? = some f := by rw [← Array.getElem?_toList, List.getElem?_eq_getElem hi', hfi]
        have ht := hf i' f hfi'
        have hlt : i' < xs.length := by have : i' < fs.size := by simpa using hi'
                                        omega
        rw [List.getElem?_eq_getElem hlt] at ht
        obtain ⟨v, hv, hc⟩ := trod_flat fuel n f.type _ _ l ht hl j k' hk'
        exact ⟨v, take_drop_get hv, hc⟩) i k hk
      simpa using this
    · rename_i m e hu
      split at hks
      · rename_i l hl
        split at hks
        · rename_i hlc
          simp only [Option.some.injEq] at hks
          subst hks
          unfold DataW.trod at h
          rw [hu] at h
          have h2 : ∃ xs, (List.range m).mapM (fun i => DataW.trod enc P w base spare held fuel e ((cs.drop (i * P.cellsOf e)).take (P.cellsOf e))) = some xs := by
            split at h <;> simp_all
            obtain ⟨_, xs, hx, _⟩ := h
            exact ⟨xs, hx⟩
          obtain ⟨xs, hx⟩ := h2
          have := flat_rep (l := l) (cs := cs) m 0 (fun i' hi' j k' hk' => by
            have hg := mapM_some_get hx i' i' (by simp [hi'])
            have hlen := mapM_some_length hx
            have hlt : i' < xs.length := by simpa [hlen] using hi'
            rw [List.getElem?_eq_getElem hlt] at hg
            obtain ⟨v, hv, hc⟩ := trod_flat fuel n e _ _ l hg hl j k' hk'
            refine ⟨v, ?_, hc⟩
            rw [hlc]
            simpa using take_drop_get hv) i k hk
          simpa using this
        · cases hks
      · cases hks
    · cases hks

/-- an argument of a struct's or an array's type is an aggregate of so many cells -/
theorem arg_agg {r : Reach} {b0 : Nat} {t : TypeId} {v : Value} (hu : (match P.underlying t with | some (.struct _) | some (.array _ _) => true | _ => false) = true) (hv : Value.okWide P w r b0 t v) :
    ∃ cs : Array Value, v = .agg cs ∧ cs.size = P.cellsOf t := by
  unfold Value.okWide at hv
  split at hv
  · obtain ⟨cs, h1, h2, _⟩ := hv; exact ⟨cs, h1, h2⟩
  · obtain ⟨cs, h1, h2, _⟩ := hv; exact ⟨cs, h1, h2⟩
  · rename_i h1 h2
    split at hu
    · rename_i q hq; exact absurd hq (h1 q)
    · rename_i q r hq; exact absurd hq (h2 q r)
    · cases hu
/-- ... each of its cells is of its kind -/
theorem open_flat {r : Reach} {b0 : Nat} {t : TypeId} {v : Value} {d : DataW H} {p : List MemPlace} (n : Nat) {ks : List (Option IntKind)} (hu : (match P.underlying t with | some (.struct _) | some (.array _ _) => true | _ => false) = true)
    (hks : flatKinds P n t = some ks) (hv : Value.okWide P w r b0 t v) (h : DataW.Trod enc P w base spare held t v d p) :
    ∃ cs : Array Value, v = .agg cs ∧ cs.size = P.cellsOf t ∧ ∀ (i : Nat) (k : Option IntKind), ks[i]? = some k → ∃ u, cs[i]? = some u ∧ CellIs k u := by
  obtain ⟨cs, rfl, hs⟩ := arg_agg hu hv
  obtain ⟨fuel, hf⟩ := h
  refine ⟨cs, rfl, hs, fun i k hk => ?_⟩
  obtain ⟨u, h1, h2⟩ := trod_flat fuel n t _ _ ks hf hks i k hk
  exact ⟨u, by simpa [Value.cells] using h1, h2⟩
/-- a slice of a flat type: each cell of each element is of its kind -/
theorem open_slice_flat {t e : TypeId} {v : Value} {d : DataW H} {p : List MemPlace} (n : Nat) {ks : List (Option IntKind)} (ht : P.underlying t = some (.slice e)) (hks : flatKinds P n e = some ks) (hone : v.cells.toList = [v])
    (h : DataW.Trod enc P w base spare held t v d p) (_hlt : ∀ x ∈ p, x.block < w.heap.size) (hpos : 0 < P.cellsOf e) :
    v = .slice none 0 0 ∨ ∃ (a : Addr) (len cap : Nat), v = .slice (some a) len cap ∧ len ≤ cap ∧ cap ≤ maxLen ∧ (0 < len → a.block < w.heap.size) ∧
      ∀ i, i < len → ∀ (j : Nat) (k : Option IntKind), ks[j]? = some k → ∃ u, w.cell? (a.add (i * P.cellsOf e + j)) = some u ∧ CellIs k u := by
  obtain ⟨fuel, hf⟩ := h
  rw [hone] at hf
  rcases Deep.open_slice ht hf with ⟨h0, _⟩ | ⟨a, len, cap, m, n', D, Pl, hcs, hb, hl, hm, hmm, hx, hi⟩
  · left; simpa using h0
  · right
    refine ⟨a, len, cap, by simpa using hcs, hl, hm, ?_, ?_⟩
    · intro hpos'
      have hml : len ≤ m := by rw [hmm]; split <;> omega
      obtain ⟨cs', hc, _⟩ := hi 0 (by omega)
      obtain ⟨_, hcl, hat⟩ := World.cells?_some hc
      have h0 := hat 0 (by omega)
      have h1 : cs'[0]? = some (cs'[0]'(by omega)) := List.getElem?_eq_getElem (by omega)
      rw [h1] at h0
      have := block_lt_of_cell h0
      simpa [Addr.add] using this
    · intro i hil j k hk
      have hml : len ≤ m := by rw [hmm]; split <;> omega
      obtain ⟨cs', hc, ht'⟩ := hi i (by omega)
      obtain ⟨u, hu, hcell⟩ := trod_flat n' n e cs' _ ks ht' hks j k hk
      obtain ⟨_, hcl, hat⟩ := World.cells?_some hc
      have hj : j < P.cellsOf e := by
        have := (List.getElem?_eq_some_iff.1 hu).1
        omega
      have := hat j hj
      rw [← Go.Deep.add_add, this, hu]
      exact ⟨u, rfl, hcell⟩

/-- a slice's elements, cell by cell, are of their kinds -/
def FlatAt (W : World) (ks : List (Option IntKind)) (A : Option Addr) (len : Nat) : Prop :=
  0 < len → ∃ B o, A = some ⟨B, o, none⟩ ∧ B < W.heap.size ∧ ∀ i, i < len → ∀ (j : Nat) (k : Option IntKind), ks[j]? = some k → ∃ u, W.cell? ⟨B, o + i * ks.length + j, none⟩ = some u ∧ CellIs k u
theorem open_slice_at {t e : TypeId} {v : Value} {d : DataW H} {p : List MemPlace} (n : Nat) {ks : List (Option IntKind)} (ht : P.underlying t = some (.slice e)) (hks : flatKinds P n e = some ks) (hlen : P.cellsOf e = ks.length) (hpos : 0 < ks.length) (hone : v.cells.toList = [v])
    (h : DataW.Trod enc P w base spare held t v d p) (hlt : ∀ x ∈ p, x.block < w.heap.size) :
    ∃ (A : Option Addr) (len cap : Nat), v = .slice A len cap ∧ len ≤ cap ∧ cap ≤ maxLen ∧ FlatAt w ks A len := by
  rcases open_slice_flat n ht hks hone h hlt (by omega) with rfl | ⟨a, len, cap, rfl, hl, hm, hb, hc⟩
  · exact ⟨none, 0, 0, rfl, Nat.le_refl _, by unfold maxLen; omega, fun h => absurd h (by omega)⟩
  · refine ⟨some a, len, cap, rfl, hl, hm, fun hp => ?_⟩
    obtain ⟨u, hu, _⟩ := hc 0 hp 0 (ks[0]'(by omega)) (List.getElem?_eq_getElem (by omega))
    have hs : a.spot = none := by
      have h0 : a.add (0 * P.cellsOf e + 0) = a := by simp [Addr.add]
      rw [h0] at hu
      unfold World.cell? at hu
      split at hu
      · split at hu
        · cases hu
        · simpa using ‹¬ a.spot.isSome = true›
      · cases hu
    obtain ⟨B, o, s⟩ := a
    simp only at hs
    subst hs
    refine ⟨B, o, rfl, hb hp, fun i hi j k hk => ?_⟩
    obtain ⟨u, hu, hk'⟩ := hc i hi j k hk
    refine ⟨u, ?_, hk'⟩
    rw [← hlen]
    have e1 : (⟨B, o, none⟩ : Addr).add (i * P.cellsOf e + j) = ⟨B, o + (i * P.cellsOf e + j), none⟩ := by
      unfold Addr.add
      split
      · rename_i h0; rw [h0]; rfl
      · rfl
    rw [e1] at hu
    rw [show o + i * P.cellsOf e + j = o + (i * P.cellsOf e + j) from by omega]
    exact hu
/-- an argument of a slice's type is one cell -/
theorem arg_slice {r : Reach} {b0 : Nat} {t e : TypeId} {v : Value} (ht : P.underlying t = some (.slice e)) (hv : Value.okWide P w r b0 t v) : v.cells.toList = [v] := by
  unfold Value.okWide at hv
  rw [ht] at hv
  simp only at hv
  unfold Cell.okWide at hv
  rw [ht] at hv
  cases v <;> first | rfl | (simp [Cell.ok, ht] at hv)
/-- a block of numbers is a slice of structs of numbers -/
theorem flatAt_of {W : World} {g : Nat} {T : TypeId} {l : List Int} {n len : Nat} (hg : W.heap[g]? = some (.cells (l.map fun x => Value.int .i64 x).toArray T (0, 0))) (hl : len * n ≤ l.length) (hwf : ∀ x ∈ l, (Lit.int .i64 x).wf = true) :
    FlatAt W (List.replicate n (some .i64)) (some ⟨g, 0, none⟩) len := by
  intro _
  refine ⟨g, 0, rfl, heap_lt hg, fun i hi j k hk => ?_⟩
  have hj : j < n := by have := (List.getElem?_eq_some_iff.1 hk).1; simpa using this
  have hk' : k = some .i64 := by
    rw [List.getElem?_replicate, if_pos hj] at hk
    exact (Option.some.inj hk).symm
  subst hk'
  rw [List.length_replicate]
  have hlt : 0 + i * n + j < l.length := by
    have : (i + 1) * n ≤ len * n := Nat.mul_le_mul_right _ hi
    rw [Nat.succ_mul] at this
    omega
  refine ⟨.int .i64 l[0 + i * n + j], ?_, _, rfl, hwf _ (List.getElem_mem hlt)⟩
  simp [World.cell?, hg, List.getElem?_eq_getElem (show i * n + j < l.length by omega)]
end
end Go.Proofs.YthjjpmoifgcepaaGreat

/-
  The runner: operations that make a block, or change one, or call. No condition.
-/
namespace Go.Proofs.YthjjpmoifgcepaaGreat.Ex
open Go
variable [Nums]
section
variable {P : Program} {ρ ρ' : Ren}
omit [Nums] in
theorem rep_get : ∀ (n : Nat) (z : List Value) (i : Nat), i < n * z.length → (List.replicate n z).flatten[i]? = z[i % z.length]?
  | 0, z, i, h => by omega
  | n + 1, z, i, h => by
    rw [List.replicate_succ, List.flatten_cons]
    by_cases hi : i < z.length
    · rw [List.getElem?_append_left hi, Nat.mod_eq_of_lt hi]
    · rw [List.getElem?_append_right (by omega), rep_get n z (i - z.length) (by rw [Nat.succ_mul] at h; omega)]
      congr 1
      rw [← Nat.mod_eq_sub_mod (by omega)]
omit [Nums] in
theorem rep_len (n : Nat) (z : List Value) : (List.replicate n z).flatten.length = n * z.length := by
  induction n with
  | zero => simp
  | succ n ih => rw [List.replicate_succ, List.flatten_cons, List.length_append, ih, Nat.succ_mul]; omega
omit [Nums] in
theorem rows_eq (z : Array Value) (n : Nat) : ((Array.range (n * z.size)).map (z[· % z.size]!)).toList = (List.replicate n z.toList).flatten := by
  apply List.ext_getElem?
  intro i
  by_cases hi : i < n * z.size
  · have h0 : 0 < z.size := by
      rcases Nat.eq_zero_or_pos z.size with h | h
      · rw [h] at hi; simp at hi
      · exact h
    have hm : i % z.size < z.size := Nat.mod_lt _ h0
    have := rep_get n z.toList i (by simpa using hi)
    rw [this]
    simp [hi, hm, List.getElem?_eq_getElem]
  · have h1 := rep_len n z.toList
    rw [List.getElem?_eq_none (by simp; omega), List.getElem?_eq_none (by rw [h1]; simp; omega)]
omit [Nums] in
theorem allOne_append : ∀ {a b : List AV}, allOne a = true → allOne b = true → allOne (a ++ b) = true
  | [], _, _, hb => hb
  | x :: a, b, ha, hb => by
    unfold allOne at ha
    split at ha <;> first | (cases ha; done) | skip
    rename_i hx
    rw [List.cons_append]
    unfold allOne
    rw [hx]
    exact allOne_append ha hb
omit [Nums] in
theorem allOne_rep {z : List AV} (h : allOne z = true) : ∀ n, allOne (rep n z) = true
  | 0 => rfl
  | n + 1 => allOne_append h (allOne_rep h n)
theorem OR.notNone {o : AO} {s : Nat} (h : OR ρ o s none) : False := by
  cases o with
  | cells cs k e => obtain ⟨_, h1, _⟩ := h; cases h1
  | map es bs ck => obtain ⟨_, h1, _⟩ := h; cases h1
  | mit m since seen last => cases m with
    | none => cases h
    | some m => obtain ⟨_, _, _, h1⟩ := h; cases h1
  | opq i => obtain ⟨_, _, _, _, _, _, h1⟩ := h; cases h1
  | opb i n m => obtain ⟨_, _, _, _, _, _, _, h1, _⟩ := h; cases h1
  | recs l ks e => obtain ⟨_, h1, _⟩ := h; cases h1
omit [Nums] in
theorem flat_one {α : Type} (v : α) : ∀ c : Nat, (List.replicate c [v]).flatten = List.replicate c v
  | 0 => rfl
  | c + 1 => by rw [List.replicate_succ, List.flatten_cons, flat_one v c]; rfl
def AllocR (P : Program) (ρ : Ren) (a : Act) (o : Oper) (ao : AO) (k : AK) : Prop :=
  ∃ obj s, OR ρ ao s (some obj) ∧ ∀ w : World, ∃ x, (execOp a.eval o).run P w = .ok (.value x) (w.alloc obj) ∧ ∀ (ρ' : Ren) n, ρ' n = some (w.heap.size, s) → VR ρ' (k.at n) x
theorem alloc_sound {o : Oper} {a : Act} {vs : List AV} {ao : AO} {k : AK} (h : aalloc P o.op vs = some (ao, k)) (hv : VRs ρ vs (o.op.operands.toList.map a.eval)) : AllocR P ρ a o ao k := by
  unfold AllocR execOp
  generalize o.op = op at h hv
  cases op with
  | alloc t =>
    simp only [aalloc] at h
    split at h <;> first | (cases h; done) | skip
    rename_i z hz
    split at h <;> first | (cases h; done) | skip
    rename_i h1
    simp only [Option.some.injEq, Prod.mk.injEq] at h
    obtain ⟨rfl, rfl⟩ := h
    obtain ⟨_, zv, _, _, hof, hzr⟩ := zeroT_run hz
    have hc := (ofV_sound ρ hof).cells
    refine ⟨.cells zv.cells t (0, 0), zv.cells.size, by simpa using cellsOf_or hc h1 t, fun w => ⟨.pointer (some ⟨w.heap.size, 0, none⟩), ?_, fun ρ' n hn => by unfold AK.at VR; exact ⟨_, _, hn, rfl⟩⟩⟩
    simp [Instr.alloc, hzr w, newVar, newRow]
  | box t x =>
    simp only [aalloc] at h
    split at h <;> first | (cases h; done) | skip
    rename_i v
    split at h <;> first | (cases h; done) | skip
    rename_i h1
    simp only [Option.some.injEq, Prod.mk.injEq] at h
    obtain ⟨rfl, rfl⟩ := h
    obtain ⟨y, hy, hr⟩ := hv.one
    simp [Op.operands] at hy
    have hc := hr.cells
    refine ⟨.cells y.cells t (0, 0), y.cells.size, by simpa using cellsOf_or hc h1 t, fun w => ⟨.pointer (some ⟨w.heap.size, 0, none⟩), ?_, fun ρ' n hn => by unfold AK.at VR; exact ⟨_, _, hn, rfl⟩⟩⟩
    simp [Instr.box, hy, newVar, newRow]
  | buildSlice t len parts =>
    simp only [aalloc] at h
    split at h <;> first | (cases h; done) | skip
    rename_i e hu
    split at h <;> first | (cases h; done) | skip
    rename_i s hs
    split at h <;> first | (cases h; done) | skip
    rename_i hle
    have hle : len * s ≤ 16777216 ∧ len ≤ 16777216 := by simpa using hle
    obtain ⟨hle, hlen⟩ := hle
    split at h <;> first | (cases h; done) | skip
    rename_i z hz
    split at h <;> first | (cases h; done) | skip
    rename_i hzl
    have hzl := Nat.eq_of_beq_eq_true hzl
    split at h <;> first | (cases h; done) | skip
    rename_i ps hps
    split at h <;> first | (cases h; done) | skip
    rename_i l hl
    split at h <;> first | (cases h; done) | skip
    rename_i h1
    simp only [Option.some.injEq, Prod.mk.injEq] at h
    obtain ⟨rfl, rfl⟩ := h
    obtain ⟨k1, k2⟩ := zipParts_sound hps hv a.eval (by simp [Op.operands])
    obtain ⟨_, zv, _, _, hof, hzr⟩ := zeroT_run hz
    have hc := (ofV_sound ρ hof).cells
    have hcl : zv.cells.size = s := by have := hc.len; rw [hzl] at this; simpa using this.symm
    have hrep : VRs ρ (rep len z.cells) ((Array.range (len * s)).map (zv.cells[· % zv.cells.size]!)).toList := by
      rw [← hcl, rows_eq]
      exact hc.rep len
    obtain ⟨b, hb, hbr⟩ := fill_sound hl hrep k1 k2
    refine ⟨.cells b e (0, 0), b.size, by simpa using cellsOf_or hbr h1 e, fun w => ⟨.slice (some ⟨w.heap.size, 0, none⟩) len len, ?_, fun ρ' n hn => ?_⟩⟩
    · have hparts : (parts.map fun (i, x) => (i, a.eval x)).toList = parts.toList.map fun p => (p.1, a.eval p.2) := by simp
      have hz0 : (if len * s = 0 then pure #[] else do pure (← zeroValue e).cells : Sem (Array Value)).run P w = .ok (if len * s = 0 then #[] else zv.cells) w := by
        split <;> simp [hzr w]
      have hbuild : (Instr.buildSlice t len (parts.map fun (i, x) => (i, a.eval x))).run P w = .ok (.slice (some ⟨w.heap.size, 0, none⟩) len len) (w.alloc (.cells b e (0, 0))) := by
        unfold Instr.buildSlice
        simp only [Sem.run_bind, run_underlying hu w, Result.andThen_ok, sizeT_run hs w]
        have hno : ¬ len * s > 2 ^ 24 := by omega
        simp only [hno, if_false]
        have hb' : Instr.fill (fun i => some (i * s, s)) ((Array.range (len * s)).map (zv.cells[· % zv.cells.size]!)) (parts.toList.map fun p => (p.1, a.eval p.2)) = some b := hb
        by_cases h0 : len * s = 0
        · rw [if_pos h0]
          have hr0 : ∀ f g : Nat → Value, (Array.range (len * s)).map f = (Array.range (len * s)).map g := fun f g => by rw [h0]; simp
          simp only [Sem.run_bind, Sem.run_pure, Result.andThen_ok, hparts]
          rw [hr0 _ (zv.cells[· % zv.cells.size]!), hb']
          simp [newRow]
        · rw [if_neg h0]
          simp only [Sem.run_bind, Sem.run_pure, Result.andThen_ok, hzr w, hparts]
          rw [hb']
          simp [newRow]
      simp [hbuild]
    · have hbl : b.size = len * s := by
        have h2 := hbr.len
        have h3 : l.length = (rep len z.cells).length := by
          have : ∀ {pl : Nat → Option (Nat × Nat)} {ps : List (Nat × AV)} {cells out : List AV}, afill pl cells ps = some out → out.length = cells.length := by
            intro pl ps
            induction ps with
            | nil => intro cells out h; simp only [afill, Option.some.injEq] at h; rw [h]
            | cons p ps ih =>
              intro cells out h
              obtain ⟨i, v⟩ := p
              unfold afill at h
              split at h <;> first | (cases h; done) | skip
              split at h <;> first | (cases h; done) | skip
              rename_i hlen
              have hlen := Nat.eq_of_beq_eq_true hlen
              split at h <;> first | (cases h; done) | skip
              rename_i hfit
              have hfit := Nat.le_of_ble_eq_true hfit
              rw [ih h]
              simp only [List.length_append, List.length_take, List.length_drop, hlen]
              have e : ∀ a b : Nat, Nat.add a b = a + b := fun _ _ => rfl
              simp only [e] at hfit ⊢
              omega
          exact this hl
        rw [h3] at h2
        have h4 := hrep.len
        simp at h2 h4
        omega
      unfold AK.at VR
      refine ⟨_, _, len, hn, rfl, Nat.le_refl _, ?_, rfl, hbl.symm⟩
      unfold maxLen; omega
  | makeMap t r =>
    simp only [aalloc] at h
    split at h <;> first | (cases h; done) | skip
    split at h <;> first | (cases h; done) | skip
    simp only [Option.some.injEq, Prod.mk.injEq] at h
    obtain ⟨rfl, rfl⟩ := h
    refine ⟨.map #[] 0, 0, ⟨#[], rfl, rfl, rfl⟩, fun w => ⟨.map (some w.heap.size), ?_, fun ρ' n hn => by unfold AK.at VR; exact ⟨_, _, hn, rfl⟩⟩⟩
    simp [Instr.makeMap]
  | makeSlice t x y =>
    simp only [aalloc] at h
    split at h <;> first | (cases h; done) | skip
    rename_i e hu
    split at h <;> first | (cases h; done) | skip
    rename_i i hi
    split at h <;> first | (cases h; done) | skip
    · rename_i kl l kc c
      split at h <;> first | (cases h; done) | skip
      rename_i hlc
      have hlc : l ≤ c := by simpa using hlc
      split at h <;> first | (cases h; done) | skip
      rename_i hby
      have hby : i.bytes * c ≤ 281474976710656 := by simpa using hby
      split at h <;> first | (cases h; done) | skip
      rename_i h63
      have h63 : c ≤ 9223372036854775807 := by simpa using h63
      split at h <;> first | (cases h; done) | skip
      rename_i z hz
      split at h <;> first | (cases h; done) | skip
      rename_i hzl
      have hzl := Nat.eq_of_beq_eq_true hzl
      split at h <;> first | (cases h; done) | skip
      rename_i hpos
      have hpos : 0 < i.size := by simpa using hpos
      split at h <;> first | (cases h; done) | skip
      rename_i h1
      simp only [Option.some.injEq, Prod.mk.injEq] at h
      obtain ⟨rfl, rfl⟩ := h
      obtain ⟨i', zv, hi', hiz, hof, hzr⟩ := zeroT_run hz
      rw [hi] at hi'
      cases hi'
      have hc := (ofV_sound ρ hof).cells
      have hcl : zv.cells.size = i.size := by have := hc.len; rw [hzl] at this; simpa using this.symm
      obtain ⟨y1, y2, hy, hr1, hr2⟩ := hv.two
      simp [Op.operands] at hy
      obtain ⟨e1, e2⟩ := hy
      have hr1 := hr1.int_inv
      have hr2 := hr2.int_inv
      subst hr1; subst hr2
      have hmade : (madeCells zv.cells (c * i.size)).toList = (List.replicate c zv.cells.toList).flatten := by
        unfold madeCells
        rw [← hcl]
        exact rows_eq zv.cells c
      have hrep : VRs ρ (rep c z.cells) (madeCells zv.cells (c * i.size)).toList := by
        rw [hmade]
        exact hc.rep c
      have hone := allOne_rep h1 c
      refine ⟨.cells (madeCells zv.cells (c * i.size)) e (0, 0), (madeCells zv.cells (c * i.size)).size, by simpa using cellsOf_or hrep hone e, fun w => ⟨.slice (some ⟨w.heap.size, 0, none⟩) l c, ?_, fun ρ' n hn => ?_⟩⟩
      · have hb : (i.bytes : Int) * (c : Int) ≤ 281474976710656 := by
          have h : ((i.bytes * c : Nat) : Int) ≤ 281474976710656 := by omega
          rwa [Int.natCast_mul] at h
        have hrm := run_make (P := P) w t e i zv hu hi hiz kl kc (l : Int) (c : Int) (by omega) (by omega) hb (by omega)
        simp only [Int.toNat_natCast] at hrm
        have e1' : a.eval x = .int kl ((l : Nat) : Int) := e1
        have e2' : a.eval y = .int kc ((c : Nat) : Int) := e2
        simp [e1', e2', hrm]
      · unfold AK.at VR
        refine ⟨_, _, c, hn, rfl, hlc, by unfold maxLen; omega, rfl, ?_⟩
        rw [size_madeCells]
    · rename_i ka ea kb eb
      split at h <;> first | (cases h; done) | skip
      rename_i hab
      have hab := SE.beq_eq hab
      subst hab
      split at h <;> first | (cases h; done) | skip
      rename_i h0
      have h0 : ¬ ea.ev Nums.σ < 0 := of_decide_eq_false (askLt_ok h0)
      split at h <;> first | (cases h; done) | skip
      rename_i hm
      have hm : ea.ev Nums.σ < 16777216 := of_decide_eq_true (askLt_ok hm)
      split at h <;> first | (cases h; done) | skip
      rename_i hby
      have hby := Nat.le_of_ble_eq_true hby
      split at h <;> first | (cases h; done) | skip
      rename_i k hz
      split at h <;> first | (cases h; done) | skip
      rename_i hsz
      have hsz := Nat.eq_of_beq_eq_true hsz
      simp only [Option.some.injEq, Prod.mk.injEq] at h
      obtain ⟨rfl, rfl⟩ := h
      obtain ⟨i', zv, hi', hiz, hof, hzr⟩ := zeroT_run hz
      rw [hi] at hi'
      cases hi'
      have hzv := ofV_sound ρ hof
      have hzv := hzv.int_inv
      subst hzv
      obtain ⟨y1, y2, hy, hr1, hr2⟩ := hv.two
      simp [Op.operands] at hy
      obtain ⟨e1, e2⟩ := hy
      unfold VR at hr1 hr2
      obtain ⟨c, hc⟩ : ∃ c : Nat, ea.ev Nums.σ = c := ⟨(ea.ev Nums.σ).toNat, by omega⟩
      rw [hc] at hm hr1 hr2
      subst hr1; subst hr2
      have hcm : c < 16777216 := by omega
      have hbc : i.bytes * c ≤ 281474976710656 := by
        have := Nat.mul_le_mul hby (Nat.le_of_lt hcm)
        omega
      have hmade : madeCells (Value.int k 0).cells (c * i.size) = Array.replicate c (.int k 0) := by
        have hrow := rows_eq (Value.int k 0).cells c
        apply Array.ext'
        rw [hsz]
        have e0 : (madeCells (Value.int k 0).cells (c * 1)).toList = (List.replicate c (Value.int k 0).cells.toList).flatten := hrow
        rw [e0, Array.toList_replicate]
        exact flat_one _ c
      refine ⟨.cells (Array.replicate c (.int k 0)) e (0, 0), c, ⟨Array.replicate c (.int k 0), rfl, by simp, ?_, fun r j ck hr hk => ?_⟩, fun w => ⟨.slice (some ⟨w.heap.size, 0, none⟩) c c, ?_, fun ρ' n hn => ?_⟩⟩
      · simp only [SE.evN, hc, Int.toNat_natCast, List.length_cons, List.length_nil, Nat.zero_add, Nat.mul_one]
        exact Nat.le_refl _
      · simp only [SE.evN, hc, Int.toNat_natCast] at hr
        match j with
        | 0 =>
          simp only [List.getElem?_cons_zero, Option.some.injEq] at hk
          subst hk
          simp only [List.length_cons, List.length_nil, Nat.zero_add, Nat.mul_one, Nat.add_zero, SE.evA, CK.val]
          rw [Array.getElem?_replicate, if_pos hr]
        | j + 1 => simp at hk
      · have hb : (i.bytes : Int) * (c : Int) ≤ 281474976710656 := by
          have h : ((i.bytes * c : Nat) : Int) ≤ 281474976710656 := by omega
          rwa [Int.natCast_mul] at h
        have hrm := run_make (P := P) w t e i _ hu hi hiz ka kb (c : Int) (c : Int) (by omega) (by omega) hb (by omega)
        simp only [Int.toNat_natCast] at hrm
        rw [hmade] at hrm
        have e1' : a.eval x = .int ka ((c : Nat) : Int) := e1
        have e2' : a.eval y = .int kb ((c : Nat) : Int) := e2
        simp [e1', e2', hrm]
      · unfold AK.at VR
        refine ⟨_, _, c, c, hn, rfl, Nat.le_refl _, by unfold maxLen; omega, by omega, hc⟩
  | _ => simp [aalloc] at h
end
end Go.Proofs.YthjjpmoifgcepaaGreat.Ex

/-
  The runner: operations that change a block, or call. No condition.
-/
namespace Go.Proofs.YthjjpmoifgcepaaGreat.Ex
open Go
variable [Nums]
section
variable {P : Program} {ρ ρ' : Ren}
omit [Nums] in
theorem splice_get {cur : List Value} {ys : List Value} {off : Nat} (h : off + ys.length ≤ cur.length) (i : Nat) :
    (cur.take off ++ ys ++ cur.drop (off + ys.length))[i]? = if off ≤ i ∧ i < off + ys.length then ys[i - off]? else cur[i]? := by
  have h1 : (cur.take off).length = off := by rw [List.length_take]; omega
  by_cases h0 : i < off
  · rw [if_neg (by omega), List.append_assoc, List.getElem?_append_left (by omega), List.getElem?_take, if_pos h0]
  · by_cases h2 : i < off + ys.length
    · rw [if_pos ⟨by omega, h2⟩, List.getElem?_append_left (by rw [List.length_append]; omega), List.getElem?_append_right (by omega), h1]
    · rw [if_neg (by omega), List.getElem?_append_right (by rw [List.length_append]; omega), List.length_append, h1, List.getElem?_drop]
      congr 1
      omega
theorem splice_ok {cs : T AV} {cur : Array Value} {l : List AV} {ys : List Value} {off : Nat} (hc : CellsOk ρ cs cur) (hl : VRs ρ l ys) (h1 : allOne l = true) (hfit : off + ys.length ≤ cur.size) :
    CellsOk ρ (setN cs off l) (cur.toList.take off ++ ys ++ cur.toList.drop (off + ys.length)).toArray := by
  intro i v hv
  have hg := splice_get (cur := cur.toList) (ys := ys) (off := off) (by simpa using hfit) i
  rcases setN_get hv with ⟨k1, k2, k3⟩ | ⟨k1, k2⟩
  · obtain ⟨y, hy, hr⟩ := hl.get k3
    refine ⟨allOne_mem h1 v (List.mem_of_getElem? k3), y, ?_, hr⟩
    rw [List.getElem?_toArray, hg, if_pos ⟨k1, by rw [← hl.len]; exact k2⟩]
    exact hy
  · obtain ⟨o1, y, hy, hr⟩ := hc i v k2
    refine ⟨o1, y, ?_, hr⟩
    rw [List.getElem?_toArray, hg, if_neg (by rw [← hl.len]; omega)]
    simpa using hy
omit [Nums] in
theorem splice_size {cur : Array Value} {ys : List Value} {off : Nat} (hfit : off + ys.length ≤ cur.size) : (cur.toList.take off ++ ys ++ cur.toList.drop (off + ys.length)).toArray.size = cur.size := by
  simp only [List.size_toArray, List.length_append, List.length_take, List.length_drop, Array.length_toList]
  omega
omit [Nums] in
theorem fresh_spec {h h' : AH} {o : AO} (hf : fresh h o = some h') : h'.next = h.next + 1 ∧ ∀ j v, h'.get j = some v → (j = h.next ∧ v = o) ∨ (j ≠ h.next ∧ h.get j = some v) := by
  unfold fresh at hf
  split at hf <;> first | (cases hf; done) | skip
  simp only [Option.some.injEq] at hf
  subst hf
  obtain ⟨m, n⟩ := h
  refine ⟨rfl, fun j v hv => ?_⟩
  rcases T.get_put (t := m) (k := n) (x := some o) hv with ⟨h1, h2⟩ | ⟨h1, h2⟩
  · exact .inl ⟨h1, by cases h2; rfl⟩
  · exact .inr ⟨h1, h2⟩
omit [Nums] in
theorem put_spec {h : AH} {n : Nat} {x : Option AO} {j : Nat} {v : AO} (hv : (h.put n x).get j = some v) : (j = n ∧ x = some v) ∨ (j ≠ n ∧ h.get j = some v) := by
  obtain ⟨m, nx⟩ := h
  exact T.get_put hv
omit [Nums] in
theorem put_next {h : AH} {n : Nat} {x : Option AO} : (h.put n x).next = h.next := by
  obtain ⟨m, nx⟩ := h
  rfl
/-- a new block, under the next name -/
theorem Stp.new {h h' : AH} {w w' : World} {o : AO} {s : Nat} {obj : Obj} (hr : HR ρ h.get h.next w) (g1 : Nat → Option AO) (hg1 : ∀ m o, g1 m = some o → h.get m = some o) (hn : h'.next = h.next + 1)
    (hg' : ∀ j v, h'.get j = some v → (j = h.next ∧ v = o) ∨ (j ≠ h.next ∧ g1 j = some v)) (hO : OR ρ o s (some obj))
    (hw : w'.heap = w.heap.push obj) (os : w'.os = w.os) (tape : w'.tape = w.tape) (output : w'.output = w.output) :
    Stp ρ h.get h.next w (upd ρ h.next (w.heap.size, s)) h'.get h'.next w' ∧ (upd ρ h.next (w.heap.size, s)) h.next = some (w.heap.size, s) := by
  refine ⟨(Stp.name (g1 := g1) (g' := h'.get) (o := o) (w' := w') hr h.next (hr.fresh _ (Nat.le_refl _)) h'.next (by omega) (by omega) (.inr trivial) (b := w.heap.size) (s := s) ?_ os tape output (by rw [hw]; simp) ?_ ?_ (.inl (Nat.le_refl _)) hg1 hg').2.2 (Nat.le_refl _), by simp [upd]⟩
  · rw [hw]; simpa using hO
  · intro c hc _
    rw [hw, Array.getElem?_push_lt hc, Array.getElem?_eq_getElem hc]
  · intro m s' hm hp
    obtain ⟨o', ho'⟩ := Option.isSome_iff_exists.1 hm
    obtain ⟨b, s1, hb, hO1⟩ := hr.obj m o' (hg1 m o' ho')
    rw [hp] at hb
    cases hb
    rw [Array.getElem?_eq_none (Nat.le_refl _)] at hO1
    exact hO1.notNone
theorem getN_src {h : AH} {nx : Nat} {w : World} {sz m : Nat} {x : AV} {u : Value} {l : List AV} (hr : HR ρ h.get nx w) (hs : srcCells h sz x = some (m, l)) (hx : VR ρ x u) :
    (m = 0 ∧ ((u = .slice none 0 0) ∨ ∃ a c, u = .slice (some a) 0 c)) ∨
    ∃ (a : Addr) (c : Nat) (ys : List Value), u = .slice (some a) m c ∧ ys.length = m * sz ∧ VRs ρ l ys ∧ (∀ j v, ys[j]? = some v → w.cell? (a.add j) = some v) ∧ (∀ y ∈ ys, y.oneCell' = true) ∧ allOne l = true := by
  unfold srcCells at hs
  split at hs <;> first | (cases hs; done) | skip
  · simp only [Option.some.injEq, Prod.mk.injEq] at hs
    obtain ⟨rfl, rfl⟩ := hs
    unfold VR at hx
    exact .inl ⟨rfl, .inl hx⟩
  · simp only [Option.some.injEq, Prod.mk.injEq] at hs
    obtain ⟨rfl, rfl⟩ := hs
    unfold VR at hx
    exact .inl ⟨rfl, .inr hx⟩
  · rename_i n off len sz' r
    split at hs <;> first | (cases hs; done) | skip
    rename_i hsz
    have hsz := Nat.eq_of_beq_eq_true hsz
    subst hsz
    split at hs <;> first | (cases hs; done) | skip
    rename_i cs k e hg
    split at hs <;> first | (cases hs; done) | skip
    rename_i l' hl
    simp only [Option.some.injEq, Prod.mk.injEq] at hs
    obtain ⟨rfl, rfl⟩ := hs
    unfold VR at hx
    obtain ⟨b, s, c, hb, rfl, _⟩ := hx
    obtain ⟨b', s', hb', hO⟩ := hr.obj _ _ hg
    rw [hb] at hb'
    cases hb'
    obtain ⟨cur, hcur, hs, hk, hcells⟩ := hO
    obtain ⟨ys, hyl, hrs, hat, hone⟩ := getN_sound hcells hl
    refine .inr ⟨_, c, ys, rfl, hyl, hrs, fun j v hv => ?_, hone, ?_⟩
    · have := hat j v hv
      rw [Addr.add_mid]
      simp [World.cell?, hcur, this]
    · have : ∀ {n i : Nat} {l : List AV}, getN cs i n = some l → allOne l = true := by
        intro n
        induction n with
        | zero => intro i l h; simp only [getN, Option.some.injEq] at h; subst h; rfl
        | succ n ih =>
          intro i l h
          unfold getN at h
          split at h <;> first | (cases h; done) | skip
          rename_i v hv
          split at h <;> first | (cases h; done) | skip
          rename_i m hm
          simp only [Option.some.injEq] at h; subst h
          unfold allOne
          rw [(hcells _ _ hv).1]
          exact ih hm
      exact this hl
omit [Nums] in
theorem sizes_zero {e : TypeId} {i : TypeInfo} {z : Value} (hz : z.cells.size = i.size) (n : Nat) : (Builtin.zeroCells z.cells n).size = n * i.size := by rw [size_zeroCells, hz]
omit [Nums] in
theorem append_zero {t e : TypeId} {i : TypeInfo} (hu : P.underlying t = some (.slice e)) (hi : P.info? e = some i) (ty : TypeId) {b : Option Addr} {len c : Nat} (hlc : len ≤ c) {u : Value}
    (hx : u = .slice none 0 0 ∨ ∃ a c, u = .slice (some a) 0 c) (w : World) : (Builtin.append_ #[t, t] ty #[.slice b len c, u]).run P w = .ok (.slice b len c) w := by
  rcases hx with rfl | ⟨a, c', rfl⟩
  · cases b with
    | none => simp [Builtin.append_, run_underlying hu w, sizeOf, typeInfo, hi, Builtin.lenOf, Builtin.firstCells, hlc]
    | some b => simp [Builtin.append_, run_underlying hu w, sizeOf, typeInfo, hi, Builtin.lenOf, Builtin.firstCells, hlc, storeCells]
  · cases b with
    | none => simp [Builtin.append_, run_underlying hu w, sizeOf, typeInfo, hi, Builtin.lenOf, Builtin.firstCells, hlc, loadCells, loadCellsFrom]
    | some b => simp [Builtin.append_, run_underlying hu w, sizeOf, typeInfo, hi, Builtin.lenOf, Builtin.firstCells, hlc, storeCells, loadCells, loadCellsFrom]
/-! records -/
theorem toCK_rel {k : CK} {v : AV} {x : SE} {y : Value} (h : toCK k v = some x) (hv : VR ρ v y) : y = k.val (x.ev Nums.σ) := by
  unfold toCK at h
  split at h
  · split at h <;> first | (cases h; done) | skip
    rename_i k0 k' e he
    split at h <;> first | (cases h; done) | skip
    rename_i hk
    have hk := of_decide_eq_true hk
    subst hk
    simp only [Option.some.injEq] at h
    subst h
    exact toSE_ok he hv
  · split at h <;> first | (cases h; done) | skip
    · rename_i b
      simp only [Option.some.injEq] at h
      subst h
      unfold VR at hv
      subst hv
      cases b <;> simp [CK.val, SE.ev]
    · rename_i c p
      split at h <;> first | (cases h; done) | skip
      rename_i q hq
      simp only [Option.some.injEq] at h
      subst h
      unfold VR at hv
      subst hv
      rw [askC_ok hq]
      cases hqp : (q == p) <;> simp [CK.val, SE.ev]
theorem recOf_sound : ∀ {ks : List CK} {vs : List AV} {r : SE} {ys : List Value}, recOf ks vs = some r → VRs ρ vs ys → ys.length = ks.length ∧ ∀ (j : Nat) (k : CK), ks[j]? = some k → ys[j]? = some (k.val (r.evA Nums.σ 0 j))
  | [], [], r, ys, h, hv => by
    unfold VRs at hv
    subst hv
    exact ⟨rfl, by simp⟩
  | [], _ :: _, r, ys, h, hv => by simp [recOf] at h
  | _ :: _, [], r, ys, h, hv => by simp [recOf] at h
  | k :: ks, v :: vs, r, ys, h, hv => by
    unfold recOf at h
    split at h <;> first | (cases h; done) | skip
    rename_i x hx
    split at h <;> first | (cases h; done) | skip
    rename_i r' hr
    simp only [Option.some.injEq] at h
    subst h
    obtain ⟨y, ys', rfl, h1, h2⟩ := hv.uncons
    obtain ⟨h3, h4⟩ := recOf_sound hr h2
    refine ⟨by simp [h3], fun j k' hk => ?_⟩
    cases j with
    | zero =>
      simp only [List.getElem?_cons_zero, Option.some.injEq] at hk
      subst hk
      simp only [List.getElem?_cons_zero, SE.evA]
      rw [toCK_rel hx h1]
    | succ j =>
      simp only [List.getElem?_cons_succ, SE.evA] at hk ⊢
      exact h4 j k' hk
/-- one more record behind so many -/
theorem snoc_rows {l r : SE} {ks : List CK} {cur new : Array Value} {ys : List Value} (hys : ys.length = ks.length ∧ ∀ (j : Nat) (k : CK), ks[j]? = some k → ys[j]? = some (k.val (r.evA Nums.σ 0 j)))
    (hat : ∀ (q j : Nat) (k : CK), q < l.evN Nums.σ → ks[j]? = some k → cur[q * ks.length + j]? = some (k.val (l.evA Nums.σ q j)))
    (hold : ∀ i : Nat, i < l.evN Nums.σ * ks.length → new[i]? = cur[i]?) (hnew : ∀ (j : Nat) (y : Value), ys[j]? = some y → new[l.evN Nums.σ * ks.length + j]? = some y) :
    ∀ (q j : Nat) (k : CK), q < (SE.lsnoc l r).evN Nums.σ → ks[j]? = some k → new[q * ks.length + j]? = some (k.val ((SE.lsnoc l r).evA Nums.σ q j)) := by
  intro q j k hq hk
  have hj : j < ks.length := (List.getElem?_eq_some_iff.1 hk).1
  simp only [SE.evN] at hq
  simp only [SE.evA]
  by_cases h : q = l.evN Nums.σ
  · rw [if_pos h]
    subst h
    exact hnew j _ (hys.2 j k hk)
  · rw [if_neg h]
    have h1 : q < l.evN Nums.σ := by omega
    have h2 : q * ks.length + j < l.evN Nums.σ * ks.length := by
      have := Nat.mul_le_mul_right ks.length (show q + 1 ≤ l.evN Nums.σ from h1)
      rw [Nat.add_mul] at this
      omega
    rw [hold _ h2]
    exact hat q j k h1 hk
theorem append_sound {t ty : TypeId} {s x v : AV} {u1 u2 : Value} {h h' : AH} {w : World} (ha : aappend P t s x h = some (v, h')) (hr : HR ρ h.get h.next w) (hs : VR ρ s u1) (hx : VR ρ x u2) :
    ∃ ρ' y w', (Builtin.append_ #[t, t] ty #[u1, u2]).run P w = .ok y w' ∧ Stp ρ h.get h.next w ρ' h'.get h'.next w' ∧ VR ρ' v y := by
  unfold aappend at ha
  split at ha <;> first | (cases ha; done) | skip
  rename_i e hu
  split at ha <;> first | (cases ha; done) | skip
  rename_i i hi
  split at ha <;> first | (cases ha; done) | skip
  rename_i hpos
  have hpos : 0 < i.size := by simpa using hpos
  split at ha <;> first | (cases ha; done) | skip
  rename_i z hz
  split at ha <;> first | (cases ha; done) | skip
  rename_i hzs
  have hzs := Nat.eq_of_beq_eq_true hzs
  split at ha <;> first | (cases ha; done) | skip
  · -- nothing
    rename_i l hsrc
    have h0 : u2 = .slice none 0 0 ∨ ∃ a c, u2 = .slice (some a) 0 c := by
      rcases getN_src hr hsrc hx with ⟨_, h⟩ | ⟨a, c, _, rfl, _⟩
      · exact h
      · exact .inr ⟨a, c, rfl⟩
    split at ha <;> first | (cases ha; done) | skip
    all_goals (simp only [Option.some.injEq, Prod.mk.injEq] at ha; obtain ⟨rfl, rfl⟩ := ha)
    · have hs' := hs
      unfold VR at hs'
      subst hs'
      exact ⟨ρ, _, w, append_zero hu hi ty (Nat.le_refl _) h0 w, Stp.refl hr, hs⟩
    · have hs' := hs
      unfold VR at hs'
      obtain ⟨a, c, rfl⟩ := hs'
      exact ⟨ρ, _, w, append_zero hu hi ty (Nat.zero_le _) h0 w, Stp.refl hr, hs⟩
    · have hs' := hs
      unfold VR at hs'
      obtain ⟨b, s0, c, _, rfl, hlc, _⟩ := hs'
      exact ⟨ρ, _, w, append_zero hu hi ty hlc h0 w, Stp.refl hr, hs⟩
  · rename_i m news hm0 hsrc
    have hm : 0 < m := by
      rcases Nat.eq_zero_or_pos m with h0 | h0
      · exact absurd h0 hm0
      · exact h0
    obtain ⟨a2, c2, ys, rfl, hyl, hys, hcell, hone, hall⟩ : ∃ (a : Addr) (c : Nat) (ys : List Value), u2 = .slice (some a) m c ∧ ys.length = m * i.size ∧ VRs ρ news ys ∧ (∀ j v, ys[j]? = some v → w.cell? (a.add j) = some v) ∧ (∀ y ∈ ys, y.oneCell' = true) ∧ allOne news = true := by
      rcases getN_src hr hsrc hx with ⟨h1, _⟩ | h1
      · omega
      · exact h1
    split at ha <;> first | (cases ha; done) | skip
    · -- onto nil
      split at ha <;> first | (cases ha; done) | skip
      rename_i h63
      have h63 := Nat.le_of_ble_eq_true h63
      split at ha <;> first | (cases ha; done) | skip
      rename_i hby
      have hby := Nat.le_of_ble_eq_true hby
      split at ha <;> first | (cases ha; done) | skip
      rename_i h1 hfr
      simp only [Option.some.injEq, Prod.mk.injEq] at ha
      obtain ⟨rfl, rfl⟩ := ha
      unfold VR at hs
      subst hs
      have hby' : m * i.bytes ≤ 140737488355328 := hby
      have hrun := run_append_nil (P := P) w t ty e i z hu hi hz a2 m c2 ys hyl hcell hm (by omega) (by omega)
      obtain ⟨hn, hg⟩ := fresh_spec hfr
      have hge := grownCap_ge w m 0 e
      have hcm : grownCap w m 0 e ≤ maxLen := grownCap_le_maxLen w m 0 e (by unfold maxLen; omega)
      have hO : OR ρ (cellsOf e news) (grownCap w m 0 e * i.size) (some (.cells (ys.toArray ++ Builtin.zeroCells z.cells (grownCap w m 0 e - m)) e (0, 0))) := by
        refine ⟨_, rfl, ?_, ?_, fun j v hv => ?_⟩
        · rw [Array.size_append, List.size_toArray, sizes_zero (e := e) hzs, hyl, ← Nat.add_mul]
          congr 1
          omega
        · have := hys.len
          rw [this, hyl]
          exact Nat.mul_le_mul_right _ hge
        · rcases setN_get hv with ⟨_, _, h3⟩ | ⟨_, h3⟩
          · rw [Nat.sub_zero] at h3
            obtain ⟨y, hy, hr'⟩ := hys.get h3
            refine ⟨allOne_mem hall v (List.mem_of_getElem? h3), y, ?_, hr'⟩
            have hlt := (List.getElem?_eq_some_iff.1 hy).1
            rw [Array.getElem?_append_left (by simpa using hlt)]
            simpa using hy
          · rw [T.get_e] at h3; cases h3
      obtain ⟨hst, hup⟩ := Stp.new (w' := w.drew.alloc (.cells (ys.toArray ++ Builtin.zeroCells z.cells (grownCap w m 0 e - m)) e)) hr h.get (fun _ _ h => h) hn hg hO rfl rfl rfl rfl
      refine ⟨_, _, _, hrun, hst, ?_⟩
      unfold VR
      exact ⟨_, _, _, hup, rfl, hge, hcm, rfl, rfl⟩
    · rename_i n len sz r
      split at ha <;> first | (cases ha; done) | skip
      rename_i hsz
      have hsz := Nat.eq_of_beq_eq_true hsz
      subst hsz
      split at ha <;> first | (cases ha; done) | skip
      rename_i cs k e' hg
      split at ha <;> first | (cases ha; done) | skip
      rename_i hee
      have hee := Nat.eq_of_beq_eq_true hee
      subst hee
      split at ha <;> first | (cases ha; done) | skip
      rename_i h63
      have h63 : len + m ≤ 9223372036854775807 := Nat.le_of_ble_eq_true h63
      split at ha <;> first | (cases ha; done) | skip
      rename_i hby
      have hby : (len + m) * i.bytes ≤ 140737488355328 := Nat.le_of_ble_eq_true hby
      unfold VR at hs
      obtain ⟨b, s, c, hb, rfl, hlc, hcm, hroom⟩ := hs
      obtain ⟨b', s', hb', hO⟩ := hr.obj _ _ hg
      rw [hb] at hb'
      cases hb'
      obtain ⟨cur, hcur, hcs, hk, hcells⟩ := hO
      have hbm : (len + m) * i.size = len * i.size + m * i.size := Nat.add_mul _ _ _
      -- grows
      have grow : ∀ (h1 : AH) (g1 : Nat → Option AO) (olds : List AV), len + m > c → getN cs 0 (len * i.size) = some olds → h1.next = h.next + 1 → (∀ m o, g1 m = some o → h.get m = some o) →
          (∀ j v, h1.get j = some v → (j = h.next ∧ v = cellsOf e' (olds ++ news)) ∨ (j ≠ h.next ∧ g1 j = some v)) →
          ∃ ρ' y w', (Builtin.append_ #[t, t] ty #[.slice (some ⟨b, 0, none⟩) len c, .slice (some a2) m c2]).run P w = .ok y w' ∧ Stp ρ h.get h.next w ρ' h1.get h1.next w' ∧ VR ρ' (.sl h.next 0 (len + m) i.size .whole) y := by
        intro h1 g1 olds hgt holds hn hg1 hg'
        obtain ⟨os, hol, hors, hoat, _⟩ := getN_sound hcells holds
        have hoall : allOne olds = true := by
          have : ∀ {n i : Nat} {l : List AV}, getN cs i n = some l → allOne l = true := by
            intro n
            induction n with
            | zero => intro i l h; simp only [getN, Option.some.injEq] at h; subst h; rfl
            | succ n ih =>
              intro i l h
              unfold getN at h
              split at h <;> first | (cases h; done) | skip
              rename_i v hv
              split at h <;> first | (cases h; done) | skip
              rename_i m hm
              simp only [Option.some.injEq] at h; subst h
              unfold allOne
              rw [(hcells _ _ hv).1]
              exact ih hm
          exact this holds
        have hocell : ∀ j v, os[j]? = some v → w.cell? ((⟨b, 0, none⟩ : Addr).add j) = some v := fun j v hv => by
          have := hoat j v hv
          rw [Addr.add_mid]
          simp [World.cell?, hcur] at this ⊢
          exact this
        have hrun := run_append_grow (P := P) w t ty e' i z hu hi hz ⟨b, 0, none⟩ len c os hol hocell a2 m c2 ys hyl hcell hgt (by omega) (growslice_fits (by omega) hby)
        have hge := grownCap_ge w (len + m) c e'
        have hcm' : grownCap w (len + m) c e' ≤ maxLen := grownCap_le_maxLen w (len + m) c e' (by unfold maxLen; omega)
        have hboth := hors.append hys
        have hO : OR ρ (cellsOf e' (olds ++ news)) (grownCap w (len + m) c e' * i.size) (some (.cells (os.toArray ++ ys.toArray ++ Builtin.zeroCells z.cells (grownCap w (len + m) c e' - (len + m))) e' (0, 0))) := by
          refine ⟨_, rfl, ?_, ?_, fun j v hv => ?_⟩
          · rw [Array.size_append, Array.size_append, List.size_toArray, List.size_toArray, sizes_zero (e := e') hzs, hyl, hol, ← Nat.add_mul, ← Nat.add_mul]
            congr 1
            omega
          · rw [hboth.len, List.length_append, hol, hyl, ← Nat.add_mul]
            exact Nat.mul_le_mul_right _ hge
          · rcases setN_get hv with ⟨_, _, h3⟩ | ⟨_, h3⟩
            · rw [Nat.sub_zero] at h3
              obtain ⟨y, hy, hr'⟩ := hboth.get h3
              refine ⟨allOne_mem (allOne_append hoall hall) v (List.mem_of_getElem? h3), y, ?_, hr'⟩
              have hlt := (List.getElem?_eq_some_iff.1 hy).1
              rw [Array.getElem?_append_left (by simpa using hlt)]
              simpa using hy
            · rw [T.get_e] at h3; cases h3
        obtain ⟨hst, hup⟩ := Stp.new (w' := w.drew.alloc (.cells (os.toArray ++ ys.toArray ++ Builtin.zeroCells z.cells (grownCap w (len + m) c e' - (len + m))) e')) hr g1 hg1 hn hg' hO rfl rfl rfl rfl
        refine ⟨_, _, _, hrun, hst, ?_⟩
        unfold VR
        exact ⟨_, _, _, hup, rfl, hge, hcm', rfl, rfl⟩
      split at ha <;> first | (cases ha; done) | skip
      · -- the whole block
        obtain ⟨_, hroom⟩ := hroom
        split at ha
        · -- it is known to fit
          rename_i hfit
          have hfit : (len + m) * i.size ≤ k := Nat.le_of_ble_eq_true hfit
          simp only [Option.some.injEq, Prod.mk.injEq] at ha
          obtain ⟨rfl, rfl⟩ := ha
          have hroom2 : len + m ≤ c := by
            rcases Nat.lt_or_ge c (len + m) with hlt | hge
            · have := Nat.mul_lt_mul_of_pos_right hlt hpos
              omega
            · exact hge
          have hf2 : len * i.size + ys.length ≤ cur.size := by rw [hyl]; omega
          have hrun := run_append_room (P := P) w t ty e' i hu hi b len c cur hcur a2 m c2 ys hyl hcell hone hroom2 hf2
          refine ⟨ρ, _, _, hrun, ?_, ?_⟩
          · rw [put_next]
            refine Stp.change hr (n := n) (b := b) (s := s) (by rw [hg]; rfl) hb (o := .cells (setN cs (Nat.mul len i.size) news) k e') ?_ rfl rfl rfl (by simp) (fun q _ hq => setRow_other w b q _ hq) ?_
            · rw [setRow_heap w b cur _ e' (0, 0) hcur]
              exact ⟨_, rfl, by rw [splice_size hf2]; exact hcs, hk, splice_ok hcells hys hall hf2⟩
            · intro q o' ho'
              rcases put_spec ho' with ⟨q1, q2⟩ | q1
              · exact .inl ⟨q1, by cases q2; rfl⟩
              · exact .inr q1
          · unfold VR
            exact ⟨b, s, c, hb, rfl, hroom2, hcm, rfl, hroom⟩
        · split at ha <;> first | (cases ha; done) | skip
          rename_i olds holds
          split at ha <;> first | (cases ha; done) | skip
          rename_i h1 hfr
          simp only [Option.some.injEq, Prod.mk.injEq] at ha
          obtain ⟨rfl, rfl⟩ := ha
          obtain ⟨hn, hg'⟩ := fresh_spec hfr
          rw [put_next] at hn hg'
          by_cases hgt : len + m > c
          · exact grow h1 (h.put n none).get olds hgt holds hn (fun q o ho => by
              rcases put_spec ho with ⟨_, q2⟩ | ⟨_, q2⟩
              · cases q2
              · exact q2) hg'
          · -- in place, under a new name
            have hroom2 : len + m ≤ c := by omega
            obtain ⟨os, hol, hors, hoat, _⟩ := getN_sound hcells holds
            have hol : os.length = len * i.size := hol
            have hf2 : len * i.size + ys.length ≤ cur.size := by
              rw [hyl, hcs, ← hroom, ← Nat.add_mul]
              exact Nat.mul_le_mul_right _ hroom2
            have hrun := run_append_room (P := P) w t ty e' i hu hi b len c cur hcur a2 m c2 ys hyl hcell hone hroom2 hf2
            have hn0 : h.next ≠ n := fun he => by
              have := hr.fresh n (by omega)
              rw [this] at hb
              cases hb
            have hst := (Stp.name (g1 := (h.put n none).get) (g' := h1.get) (o := cellsOf e' (olds ++ news)) (w' := w.setRow b (cur.toList.take (len * i.size) ++ ys ++ cur.toList.drop (len * i.size + ys.length)).toArray) hr h.next (hr.fresh _ (Nat.le_refl _)) h1.next (by omega) (by omega) (.inr trivial) (b := b) (s := s) ?_ rfl rfl rfl (by simp) (fun q _ hq => setRow_other w b q _ hq) ?_ (.inr ⟨n, s, by rw [hg]; rfl, hb⟩) ?_ hg').2.2 (Nat.le_refl _)
            · refine ⟨_, _, _, hrun, hst, ?_⟩
              unfold VR
              exact ⟨b, s, c, by simp [upd], rfl, hroom2, hcm, rfl, hroom⟩
            · rw [setRow_heap w b cur _ e' (0, 0) hcur]
              have hboth := hors.append hys
              have hoall : allOne olds = true := by
                have : ∀ {n i : Nat} {l : List AV}, getN cs i n = some l → allOne l = true := by
                  intro n
                  induction n with
                  | zero => intro i l h; simp only [getN, Option.some.injEq] at h; subst h; rfl
                  | succ n ih =>
                    intro i l h
                    unfold getN at h
                    split at h <;> first | (cases h; done) | skip
                    rename_i v hv
                    split at h <;> first | (cases h; done) | skip
                    rename_i m hm
                    simp only [Option.some.injEq] at h; subst h
                    unfold allOne
                    rw [(hcells _ _ hv).1]
                    exact ih hm
                exact this holds
              refine ⟨_, rfl, by rw [splice_size hf2]; exact hcs, ?_, fun j v hv => ?_⟩
              · rw [hboth.len, List.length_append, hol, hyl, ← hroom, ← Nat.add_mul]
                exact Nat.mul_le_mul_right _ hroom2
              · rcases setN_get hv with ⟨_, _, h3⟩ | ⟨_, h3⟩
                · rw [Nat.sub_zero] at h3
                  obtain ⟨y, hy, hr'⟩ := hboth.get h3
                  refine ⟨allOne_mem (allOne_append hoall hall) v (List.mem_of_getElem? h3), y, ?_, hr'⟩
                  rw [List.getElem?_toArray, splice_get (by simpa using hf2)]
                  by_cases hj : j < os.length
                  · rw [List.getElem?_append_left hj] at hy
                    rw [if_neg (by omega)]
                    have := hoat j y hy
                    simpa using this
                  · rw [List.getElem?_append_right (by omega), hol] at hy
                    have hjl := (List.getElem?_eq_some_iff.1 hy).1
                    rw [if_pos ⟨by omega, by omega⟩]
                    exact hy
                · rw [T.get_e] at h3; cases h3
            · intro q s' hq hp
              obtain ⟨o', ho'⟩ := Option.isSome_iff_exists.1 hq
              rcases put_spec ho' with ⟨_, q2⟩ | ⟨q1, q2⟩
              · cases q2
              · exact q1 (hr.inj q n b s' s (by rw [q2]; rfl) (by rw [hg]; rfl) hp hb)
            · intro q o ho
              rcases put_spec ho with ⟨_, q2⟩ | ⟨_, q2⟩
              · cases q2
              · exact q2
      · rename_i c0
        have hc0 : c = c0 := hroom
        split at ha <;> first | (cases ha; done) | skip
        rename_i hgt
        have hgt : c0 < len + m := by simpa using hgt
        split at ha <;> first | (cases ha; done) | skip
        rename_i olds holds
        split at ha <;> first | (cases ha; done) | skip
        rename_i h1 hfr
        simp only [Option.some.injEq, Prod.mk.injEq] at ha
        obtain ⟨rfl, rfl⟩ := ha
        obtain ⟨hn, hg'⟩ := fresh_spec hfr
        exact grow h1 h.get olds (by omega) holds hn (fun _ _ h => h) hg'
    · -- records
      rename_i n e' sz
      split at ha <;> first | (cases ha; done) | skip
      rename_i hsz
      have hsz := Nat.eq_of_beq_eq_true hsz
      subst hsz
      split at ha <;> first | (cases ha; done) | skip
      rename_i hm1
      have hm1 := Nat.eq_of_beq_eq_true hm1
      subst hm1
      split at ha <;> first | (cases ha; done) | skip
      rename_i l ks e0 hg
      split at ha <;> first | (cases ha; done) | skip
      rename_i hek
      rw [Bool.and_eq_true] at hek
      have hee := Nat.eq_of_beq_eq_true hek.1
      have hks := Nat.eq_of_beq_eq_true hek.2
      subst hee
      split at ha <;> first | (cases ha; done) | skip
      rename_i hle
      have hle := SE.beq_eq hle
      subst hle
      split at ha <;> first | (cases ha; done) | skip
      rename_i hlt
      have hlt := of_decide_eq_true (askLt_ok hlt)
      simp only [SE.ev, lenE_ev] at hlt
      split at ha <;> first | (cases ha; done) | skip
      rename_i hby
      have hby : i.bytes ≤ 1000000 := Nat.le_of_ble_eq_true hby
      split at ha <;> first | (cases ha; done) | skip
      rename_i r hrec
      split at ha <;> first | (cases ha; done) | skip
      rename_i h1 hfr
      simp only [Option.some.injEq, Prod.mk.injEq] at ha
      obtain ⟨rfl, rfl⟩ := ha
      obtain ⟨hn, hg'⟩ := fresh_spec hfr
      rw [put_next] at hn hg'
      unfold VR at hs
      obtain ⟨b, s, len, c, hb, rfl, hlc, hcm, hroom, hlen⟩ := hs
      rw [lenE_ev] at hlen
      have hlen : l.evN Nums.σ = len := by omega
      obtain ⟨b', s', hb', hO⟩ := hr.obj _ _ hg
      rw [hb] at hb'
      cases hb'
      obtain ⟨cur, hcur, hcs, hk, hat⟩ := hO
      have hrs := recOf_sound hrec hys
      have hyl : ys.length = 1 * i.size := hyl
      rw [Nat.one_mul] at hyl
      have hl6 : len < 1000000 := by omega
      have hby2 : (len + 1) * i.bytes ≤ 140737488355328 := by
        have := Nat.mul_le_mul (show len + 1 ≤ 1000000 from hl6) hby
        omega
      have hN : (SE.lsnoc l r).evN Nums.σ = len + 1 := by simp only [SE.evN, hlen]
      by_cases hgt : len + 1 > c
      · let os : List Value := cur.toList.take (len * i.size)
        have hol : os.length = len * i.size := by
          simp only [os, List.length_take, Array.length_toList, hcs]
          rw [hlen, hks] at hk
          omega
        have hoat : ∀ (j : Nat) v, os[j]? = some v → cur[j]? = some v ∧ j < len * i.size := fun j v hv => by
          have hj := (List.getElem?_eq_some_iff.1 hv).1
          rw [hol] at hj
          simp only [os, List.getElem?_take, if_pos hj, Array.getElem?_toList] at hv
          exact ⟨hv, hj⟩
        have hocell : ∀ j v, os[j]? = some v → w.cell? ((⟨b, 0, none⟩ : Addr).add j) = some v := fun j v hv => by
          have := (hoat j v hv).1
          rw [Addr.add_mid]
          simp [World.cell?, hcur] at this ⊢
          exact this
        have hrun := run_append_grow (P := P) w t ty e0 i z hu hi hz ⟨b, 0, none⟩ len c os hol hocell a2 1 c2 ys (by rw [hyl, Nat.one_mul]) hcell hgt (by omega) (growslice_fits (by omega) hby2)
        have hge := grownCap_ge w (len + 1) c e0
        have hcm' : grownCap w (len + 1) c e0 ≤ maxLen := grownCap_le_maxLen w (len + 1) c e0 (by unfold maxLen; omega)
        have hO : OR ρ (.recs (.lsnoc l r) ks e0) (grownCap w (len + 1) c e0 * i.size) (some (.cells (os.toArray ++ ys.toArray ++ Builtin.zeroCells z.cells (grownCap w (len + 1) c e0 - (len + 1))) e0 (0, 0))) := by
          refine ⟨_, rfl, ?_, ?_, ?_⟩
          · rw [Array.size_append, Array.size_append, List.size_toArray, List.size_toArray, sizes_zero (e := e0) hzs, hyl, hol]
            have : len * i.size + i.size = (len + 1) * i.size := by rw [Nat.add_mul, Nat.one_mul]
            rw [this, ← Nat.add_mul]
            congr 1
            omega
          · rw [hN, hks]
            exact Nat.mul_le_mul_right _ hge
          · refine snoc_rows hrs hat (fun i' hi' => ?_) (fun j y hy => ?_)
            · rw [hlen, hks] at hi'
              rw [Array.getElem?_append_left (by simp [hol]; omega), Array.getElem?_append_left (by simp [hol]; omega), List.getElem?_toArray]
              simp only [os, List.getElem?_take, if_pos hi', Array.getElem?_toList]
            · have hj := (List.getElem?_eq_some_iff.1 hy).1
              rw [hlen, hks, Array.getElem?_append_left (by simp [hol]; omega), Array.getElem?_append_right (by simp [hol])]
              simp only [List.size_toArray, hol, Nat.add_sub_cancel_left, List.getElem?_toArray]
              exact hy
        obtain ⟨hst, hup⟩ := Stp.new (w' := w.drew.alloc (.cells (os.toArray ++ ys.toArray ++ Builtin.zeroCells z.cells (grownCap w (len + 1) c e0 - (len + 1))) e0)) hr (h.put n none).get (fun q o ho => by
              rcases put_spec ho with ⟨_, q2⟩ | ⟨_, q2⟩
              · cases q2
              · exact q2) hn hg' hO rfl rfl rfl rfl
        refine ⟨_, _, _, hrun, hst, ?_⟩
        unfold VR
        exact ⟨_, _, _, _, hup, rfl, hge, hcm', rfl, by rw [lenE_ev, hN]⟩
      · have hroom2 : len + 1 ≤ c := by omega
        have hf2 : len * i.size + ys.length ≤ cur.size := by
          rw [hyl, hcs, ← hroom]
          have := Nat.mul_le_mul_right i.size hroom2
          rw [Nat.add_mul, Nat.one_mul] at this
          exact this
        have hrun := run_append_room (P := P) w t ty e0 i hu hi b len c cur hcur a2 1 c2 ys (by rw [hyl, Nat.one_mul]) hcell hone hroom2 hf2
        have hn0 : h.next ≠ n := fun he => by
          have := hr.fresh n (by omega)
          rw [this] at hb
          cases hb
        have hst := (Stp.name (g1 := (h.put n none).get) (g' := h1.get) (o := .recs (.lsnoc l r) ks e0) (w' := w.setRow b (cur.toList.take (len * i.size) ++ ys ++ cur.toList.drop (len * i.size + ys.length)).toArray) hr h.next (hr.fresh _ (Nat.le_refl _)) h1.next (by omega) (by omega) (.inr trivial) (b := b) (s := s) ?_ rfl rfl rfl (by simp) (fun q _ hq => setRow_other w b q _ hq) ?_ (.inr ⟨n, s, by rw [hg]; rfl, hb⟩) ?_ hg').2.2 (Nat.le_refl _)
        · refine ⟨_, _, _, hrun, hst, ?_⟩
          unfold VR
          exact ⟨b, s, _, c, by simp [upd], rfl, hroom2, hcm, hroom, by rw [lenE_ev, hN]⟩
        · rw [setRow_heap w b cur _ e0 (0, 0) hcur]
          refine ⟨_, rfl, by rw [splice_size hf2]; exact hcs, ?_, ?_⟩
          · rw [hN, hks, ← hroom]
            exact Nat.mul_le_mul_right _ hroom2
          · refine snoc_rows hrs hat (fun i' hi' => ?_) (fun j y hy => ?_)
            · rw [hlen, hks] at hi'
              rw [List.getElem?_toArray, splice_get (by simpa using hf2), if_neg (by omega), Array.getElem?_toList]
            · have hj := (List.getElem?_eq_some_iff.1 hy).1
              rw [hlen, hks, List.getElem?_toArray, splice_get (by simpa using hf2), if_pos ⟨by omega, by omega⟩, Nat.add_sub_cancel_left]
              exact hy
        · intro q s' hq hp
          obtain ⟨o', ho'⟩ := Option.isSome_iff_exists.1 hq
          rcases put_spec ho' with ⟨_, q2⟩ | ⟨q1, q2⟩
          · cases q2
          · exact q1 (hr.inj q n b s' s (by rw [q2]; rfl) (by rw [hg]; rfl) hp hb)
        · intro q o ho
          rcases put_spec ho with ⟨_, q2⟩ | ⟨_, q2⟩
          · cases q2
          · exact q2
end
end Go.Proofs.YthjjpmoifgcepaaGreat.Ex

/-
  The runner: one operation, of whatever kind. No condition.
-/
namespace Go.Proofs.YthjjpmoifgcepaaGreat.Ex
open Go
variable [Nums]
section
variable {P : Program} {ρ ρ' : Ren}
theorem MR.modify {nv : AV} {key y : Value} : ∀ {es : List (AV × AV)} {xs : List MapEntry} (j : Nat), MR ρ es xs → (∀ x, xs[j]? = some x → x.key = key) → VR ρ nv y → MR ρ (es.modify j fun p => (p.1, nv)) (xs.modify j fun e => { e with key := key, val := y })
  | [], xs, j, h, _, _ => by
    have : xs = [] := h
    subst this
    simpa using h
  | p :: es, xs, 0, h, hk, hv => by
    obtain ⟨x, xs', rfl, h1, h2, h3⟩ := h
    have := hk x rfl
    exact ⟨_, xs', rfl, by rw [← this]; exact h1, hv, h3⟩
  | p :: es, xs, j + 1, h, hk, hv => by
    obtain ⟨x, xs', rfl, h1, h2, h3⟩ := h
    simp only [List.modify_succ_cons]
    exact ⟨x, _, rfl, h1, h2, MR.modify j h3 (fun z hz => hk z (by simpa using hz)) hv⟩
theorem MR.erase : ∀ {es : List (AV × AV)} {xs : List MapEntry} (j : Nat), MR ρ es xs → MR ρ (es.eraseIdx j) (xs.eraseIdx j)
  | [], xs, j, h => by
    have : xs = [] := h
    subst this
    simpa using h
  | p :: es, xs, 0, h => by
    obtain ⟨x, xs', rfl, h1, h2, h3⟩ := h
    simpa using h3
  | p :: es, xs, j + 1, h => by
    obtain ⟨x, xs', rfl, h1, h2, h3⟩ := h
    simp only [List.eraseIdx_cons_succ]
    exact ⟨x, _, rfl, h1, h2, MR.erase j h3⟩
theorem MR.push : ∀ {es : List (AV × AV)} {xs : List MapEntry} {p : AV × AV} {e : MapEntry}, MR ρ es xs → VR ρ p.1 e.key → VR ρ p.2 e.val → MR ρ (es ++ [p]) (xs ++ [e])
  | [], xs, p, e, h, h1, h2 => by
    have : xs = [] := h
    subst this
    exact ⟨e, [], rfl, h1, h2, rfl⟩
  | q :: es, xs, p, e, h, h1, h2 => by
    obtain ⟨e', xs', rfl, k1, k2, k3⟩ := h
    exact ⟨e', _, rfl, k1, k2, MR.push k3 h1 h2⟩
omit [Nums] in
theorem setObj_map {r : Nat} {w : World} {xs : Array MapEntry} {c : Nat} (h : w.heap[r]? = some (.map xs c)) (o : Obj) : (setObj r o).run P w = .ok () { w with heap := w.heap.setIfInBounds r o } := by
  simp only [setObj, Sem.run, h]
omit [Nums] in
theorem born_modify (f : MapEntry → MapEntry) (hf : ∀ e, (f e).born = e.born) : ∀ (l : List MapEntry) (j : Nat), (l.modify j f).map (·.born) = l.map (·.born)
  | [], j => by simp
  | e :: l, 0 => by simp [hf]
  | e :: l, j + 1 => by simp [born_modify f hf l j]
theorem mapPut_sound {t : TypeId} {vs : List AV} {h h' : AH} {v : AV} {w : World} {u1 u2 u3 : Value} (ha : aloud.mapPut P t vs h = some (.val v h')) (hr : HR ρ h.get h.next w) (hv : VRs ρ vs [u1, u2, u3]) :
    ∃ w', (Instr.mapUpdate t u1 u2 u3).run P w = .ok () w' ∧ Stp ρ h.get h.next w ρ h'.get h'.next w' ∧ v = und := by
  unfold aloud.mapPut at ha
  split at ha <;> first | (cases ha; done) | skip
  rename_i kt et hu
  split at ha <;> first | (cases ha; done) | skip
  rename_i n ky nv
  obtain ⟨y1, y2, y3, hy, h1, h2, h3⟩ := hv.three
  simp only [List.cons.injEq, and_true] at hy
  obtain ⟨rfl, rfl, rfl⟩ := hy
  unfold VR at h1
  obtain ⟨b, s, hb, rfl⟩ := h1
  split at ha <;> first | (cases ha; done) | skip
  rename_i es bs ck hg
  obtain ⟨b', s', hb', hO⟩ := hr.obj _ _ hg
  rw [hb] at hb'
  cases hb'
  obtain ⟨xs, hx, hm, hbs⟩ := hO
  have hlt : b < w.heap.size := (Array.getElem?_eq_some_iff.1 hx).1
  obtain ⟨r0, hl0⟩ : ∃ r0, lookM P kt es ky = some r0 := by
    cases hl : lookM P kt es ky with
    | none => rw [hl] at ha; cases ha
    | some r => exact ⟨r, rfl⟩
  obtain ⟨hck0, hks0, hfound⟩ := lookM_sound hl0 hm h2
  have hck := hck0 false w
  have hks := hks0 w
  rw [hl0] at ha
  split at ha <;> first | (cases ha; done) | skip
  · rename_i j u heq
    cases heq
    simp only [Option.some.injEq, AN.val.injEq] at ha
    obtain ⟨rfl, rfl⟩ := ha
    obtain ⟨e, g1, g2, g3⟩ : ∃ e : MapEntry, (∀ w, (Instr.findKey kt u2 xs.toList).run P w = .ok (some (j, e.val)) w) ∧ xs.toList[j]? = some e ∧ e.key = u2 := by
      rcases hfound with ⟨g, _⟩ | ⟨j', v', x', g, g1, g2, g3, g4⟩
      · cases g
      · cases g
        exact ⟨x', g1, g2, g3⟩
    have hfk := g1 w
    have hej : xs[j]? = some e := by simpa using g2
    refine ⟨{ w with heap := w.heap.setIfInBounds b (.map (xs.modify j fun e => { e with key := u2, val := u3 }) ck) }, ?_, ?_, rfl⟩
    · unfold Instr.mapUpdate
      simp only [Sem.run_bind, run_underlying hu w, Result.andThen_ok, getObj_map hx, hck, hfk, hej, Option.map_some, Option.getD_some, g3, hks, setObj_map hx]
    · rw [put_next]
      refine Stp.change hr (n := n) (b := b) (s := s) (by rw [hg]; rfl) hb (o := .map (es.modify j fun p => (p.1, nv)) bs ck) ?_ rfl rfl rfl (by simp) (fun q _ hq => by simp [Array.getElem?_setIfInBounds, Ne.symm hq]) ?_
      · refine ⟨xs.modify j fun e => { e with key := u2, val := u3 }, by simp [hlt], ?_, ?_⟩
        · have := MR.modify (ρ := ρ) (nv := nv) (key := u2) (y := u3) j hm (fun z hz => by rw [g2] at hz; cases hz; exact g3) h3
          simpa using this
        · rw [← hbs]
          simpa using born_modify (fun e => { e with key := u2, val := u3 }) (fun _ => rfl) xs.toList j
      · intro q o' ho'
        rcases put_spec ho' with ⟨q1, q2⟩ | q1
        · exact .inl ⟨q1, by cases q2; rfl⟩
        · exact .inr q1
  · rename_i heq
    cases heq
    simp only [Option.some.injEq, AN.val.injEq] at ha
    obtain ⟨rfl, rfl⟩ := ha
    have g1 : ∀ w, (Instr.findKey kt u2 xs.toList).run P w = .ok none w := by
      rcases hfound with ⟨_, g⟩ | ⟨_, _, _, g, _⟩
      · exact g
      · cases g
    have hfk := g1 w
    refine ⟨{ w with heap := w.heap.setIfInBounds b (.map (xs.push { key := u2, val := u3, born := ck }) (ck + 1)) }, ?_, ?_, rfl⟩
    · unfold Instr.mapUpdate
      simp only [Sem.run_bind, run_underlying hu w, Result.andThen_ok, getObj_map hx, hck, hfk, setObj_map hx]
    · rw [put_next]
      refine Stp.change hr (n := n) (b := b) (s := s) (by rw [hg]; rfl) hb (o := .map (es ++ [(ky, nv)]) (bs ++ [ck]) (Nat.add ck 1)) ?_ rfl rfl rfl (by simp) (fun q _ hq => by simp [Array.getElem?_setIfInBounds, Ne.symm hq]) ?_
      · refine ⟨xs.push { key := u2, val := u3, born := ck }, by simp [hlt], ?_, ?_⟩
        · simp only [Array.toList_push]
          exact hm.push h2 h3
        · simp [← hbs]
      · intro q o' ho'
        rcases put_spec ho' with ⟨q1, q2⟩ | q1
        · exact .inl ⟨q1, by cases q2; rfl⟩
        · exact .inr q1
omit [Nums] in
theorem map_erase {α β : Type} (f : α → β) : ∀ (l : List α) (j : Nat), (l.eraseIdx j).map f = (l.map f).eraseIdx j
  | [], j => by simp
  | a :: l, 0 => by simp
  | a :: l, j + 1 => by simp [map_erase f l j]
theorem mapDel_sound {t : TypeId} {vs : List AV} {h h' : AH} {v : AV} {w : World} {u1 u2 : Value} {argTypes : Array TypeId} {ty : TypeId} (hat : argTypes[0]? = some t) (ha : aloud.mapDel P t vs h = some (.val v h')) (hr : HR ρ h.get h.next w) (hv : VRs ρ vs [u1, u2]) :
    ∃ w', (Builtin.delete_ argTypes ty #[u1, u2]).run P w = .ok (.tuple #[]) w' ∧ Stp ρ h.get h.next w ρ h'.get h'.next w' ∧ v = und := by
  unfold aloud.mapDel at ha
  split at ha <;> first | (cases ha; done) | skip
  rename_i kt et hu
  split at ha <;> first | (cases ha; done) | skip
  rename_i n ky
  obtain ⟨y1, y2, hy, h1, h2⟩ := hv.two
  simp only [List.cons.injEq, and_true] at hy
  obtain ⟨rfl, rfl⟩ := hy
  unfold VR at h1
  obtain ⟨b, s, hb, rfl⟩ := h1
  split at ha <;> first | (cases ha; done) | skip
  rename_i es bs ck hg
  obtain ⟨b', s', hb', hO⟩ := hr.obj _ _ hg
  rw [hb] at hb'
  cases hb'
  obtain ⟨xs, hx, hm, hbs⟩ := hO
  have hlt : b < w.heap.size := (Array.getElem?_eq_some_iff.1 hx).1
  obtain ⟨r0, hl0⟩ : ∃ r0, lookM P kt es ky = some r0 := by
    cases hl : lookM P kt es ky with
    | none => rw [hl] at ha; cases ha
    | some r => exact ⟨r, rfl⟩
  obtain ⟨hck0, -, hfound⟩ := lookM_sound hl0 hm h2
  have hck := hck0 xs.isEmpty w
  rw [hl0] at ha
  split at ha <;> first | (cases ha; done) | skip
  · rename_i heq
    cases heq
    simp only [Option.some.injEq, AN.val.injEq] at ha
    obtain ⟨rfl, rfl⟩ := ha
    have g1 : ∀ w, (Instr.findKey kt u2 xs.toList).run P w = .ok none w := by
      rcases hfound with ⟨_, g⟩ | ⟨_, _, _, g, _⟩
      · exact g
      · cases g
    have hfk := g1 w
    refine ⟨{ w with heap := w.heap.setIfInBounds b (.map xs ck) }, ?_, ?_, rfl⟩
    · unfold Builtin.delete_
      simp only [hat, List.getElem?_toArray, List.getElem?_cons_zero, List.getElem?_cons_succ, Sem.run_bind, run_underlying hu w, Result.andThen_ok, getObj_map hx, hck, hfk, setObj_map hx]
      rfl
    · rw [put_next]
      refine Stp.change hr (n := n) (b := b) (s := s) (by rw [hg]; rfl) hb (o := .map es bs ck) ?_ rfl rfl rfl (by simp) (fun q _ hq => by simp [Array.getElem?_setIfInBounds, Ne.symm hq]) ?_
      · exact ⟨xs, by simp [hlt], hm, hbs⟩
      · intro q o' ho'
        rcases put_spec ho' with ⟨q1, q2⟩ | q1
        · exact .inl ⟨q1, by cases q2; rfl⟩
        · exact .inr q1
  · rename_i j u heq
    cases heq
    simp only [Option.some.injEq, AN.val.injEq] at ha
    obtain ⟨rfl, rfl⟩ := ha
    obtain ⟨x, g1, g2⟩ : ∃ x, (∀ w, (Instr.findKey kt u2 xs.toList).run P w = .ok (some (j, x)) w) ∧ j < xs.toList.length := by
      rcases hfound with ⟨g, _⟩ | ⟨j', v', x', g, g1, g2, g3, g4⟩
      · cases g
      · cases g
        exact ⟨_, g1, (List.getElem?_eq_some_iff.1 g2).1⟩
    have g3 := MR.erase j hm
    have hfk := g1 w
    refine ⟨{ w with heap := w.heap.setIfInBounds b (.map (xs.eraseIdxIfInBounds j) ck) }, ?_, ?_, rfl⟩
    · unfold Builtin.delete_
      simp only [hat, List.getElem?_toArray, List.getElem?_cons_zero, List.getElem?_cons_succ, Sem.run_bind, run_underlying hu w, Result.andThen_ok, getObj_map hx, hck, hfk, setObj_map hx]
      rfl
    · rw [put_next]
      have hj : j < xs.size := by simpa using g2
      have he : (xs.eraseIdxIfInBounds j).toList = xs.toList.eraseIdx j := by simp [Array.eraseIdxIfInBounds, hj]
      refine Stp.change hr (n := n) (b := b) (s := s) (by rw [hg]; rfl) hb (o := .map (es.eraseIdx j) (bs.eraseIdx j) ck) ?_ rfl rfl rfl (by simp) (fun q _ hq => by simp [Array.getElem?_setIfInBounds, Ne.symm hq]) ?_
      · refine ⟨xs.eraseIdxIfInBounds j, by simp [hlt], by rw [he]; exact g3, ?_⟩
        rw [he, ← hbs, map_erase]
      · intro q o' ho'
        rcases put_spec ho' with ⟨q1, q2⟩ | q1
        · exact .inl ⟨q1, by cases q2; rfl⟩
        · exact .inr q1
/-! the entry of a map, to be written -/
theorem MR.at : ∀ {es : List (AV × AV)} {xs : List MapEntry} {j : Nat} {e : MapEntry}, MR ρ es xs → xs[j]? = some e → ∃ p, es[j]? = some p ∧ VR ρ p.1 e.key ∧ VR ρ p.2 e.val
  | [], xs, j, e, h, hj => by
    have : xs = [] := h
    subst this
    simp at hj
  | p :: es, xs, 0, e, h, hj => by
    obtain ⟨x, xs', rfl, h1, h2, h3⟩ := h
    simp at hj
    subst hj
    exact ⟨p, by simp, h1, h2⟩
  | p :: es, xs, j + 1, e, h, hj => by
    obtain ⟨x, xs', rfl, h1, h2, h3⟩ := h
    have := MR.at (j := j) h3 (by simpa using hj)
    simpa using this
omit [Nums] in
theorem modify_self {xs : Array MapEntry} {j : Nat} {e : MapEntry} (h : xs[j]? = some e) : xs.modify j (fun x => { x with key := e.key }) = xs := by
  apply Array.ext'
  rw [Array.toList_modify]
  apply List.ext_getElem?
  intro i
  rw [List.getElem?_modify]
  have h' : xs.toList[j]? = some e := by simpa using h
  by_cases hi : j = i
  · subst hi
    rw [h']
    simp
  · simp [hi]
theorem mapEnt_sound {t : TypeId} {vs : List AV} {h h' : AH} {v : AV} {w : World} {u1 u2 : Value} (ha : aloud.mapEnt P t vs h = some (.val v h')) (hr : HR ρ h.get h.next w) (hv : VRs ρ vs [u1, u2]) :
    ∃ y w', (Instr.mapEntry t u1 u2).run P w = .ok y w' ∧ Stp ρ h.get h.next w ρ h'.get h'.next w' ∧ VR ρ v y := by
  unfold aloud.mapEnt at ha
  split at ha <;> first | (cases ha; done) | skip
  rename_i kt et hu
  split at ha <;> first | (cases ha; done) | skip
  rename_i n ky
  obtain ⟨y1, y2, hy, h1, h2⟩ := hv.two
  simp only [List.cons.injEq, and_true] at hy
  obtain ⟨rfl, rfl⟩ := hy
  unfold VR at h1
  obtain ⟨b, s, hb, rfl⟩ := h1
  split at ha <;> first | (cases ha; done) | skip
  rename_i es bs ck hg
  obtain ⟨b', s', hb', hO⟩ := hr.obj _ _ hg
  rw [hb] at hb'
  cases hb'
  obtain ⟨xs, hx, hm, hbs⟩ := hO
  have hlt : b < w.heap.size := (Array.getElem?_eq_some_iff.1 hx).1
  obtain ⟨r0, hl0⟩ : ∃ r0, lookM P kt es ky = some r0 := by
    cases hl : lookM P kt es ky with
    | none => rw [hl] at ha; cases ha
    | some r => exact ⟨r, rfl⟩
  obtain ⟨hck0, hks0, hfound⟩ := lookM_sound hl0 hm h2
  have hck := hck0 false w
  have hks := hks0 w
  rw [hl0] at ha
  split at ha <;> first | (cases ha; done) | skip
  · rename_i j u heq
    cases heq
    split at ha <;> first | (cases ha; done) | skip
    rename_i stamp hst
    simp only [Option.some.injEq, AN.val.injEq] at ha
    obtain ⟨rfl, rfl⟩ := ha
    obtain ⟨e, g1, g2, g3, g4⟩ : ∃ e : MapEntry, (∀ w, (Instr.findKey kt u2 xs.toList).run P w = .ok (some (j, e.val)) w) ∧ xs.toList[j]? = some e ∧ e.key = u2 ∧ VR ρ u e.val := by
      rcases hfound with ⟨g, _⟩ | ⟨j', v', x', g, g1, g2, g3, g4⟩
      · cases g
      · cases g
        exact ⟨x', g1, g2, g3, g4⟩
    have hfk := g1 w
    have hej : xs[j]? = some e := by simpa using g2
    have hborn : e.born = stamp := by
      have : (xs.toList.map (·.born))[j]? = some e.born := by rw [List.getElem?_map, g2]; rfl
      rw [hbs, hst] at this
      exact (Option.some.inj this).symm
    refine ⟨.tuple #[e.val, goInt e.born], { w with heap := w.heap.setIfInBounds b (.map xs ck) }, ?_, ?_, ?_⟩
    · unfold Instr.mapEntry
      have hmod := modify_self hej
      rw [g3] at hmod
      simp only [Sem.run_bind, run_underlying hu w, Result.andThen_ok, getObj_map hx, hck, hfk, hej, Option.map_some, Option.getD_some, g3, hks, setObj_map hx, hmod, Sem.run_pure]
    · rw [put_next]
      refine Stp.change hr (n := n) (b := b) (s := s) (by rw [hg]; rfl) hb (o := .map es bs ck) ?_ rfl rfl rfl (by simp) (fun q _ hq => by simp [Array.getElem?_setIfInBounds, Ne.symm hq]) ?_
      · exact ⟨xs, by simp [hlt], hm, hbs⟩
      · intro q o' ho'
        rcases put_spec ho' with ⟨q1, q2⟩ | q1
        · exact .inl ⟨q1, by cases q2; rfl⟩
        · exact .inr q1
    · unfold VR
      exact ⟨_, rfl, VRs.cons g4 (VRs.cons (by unfold VR; rw [hborn]; rfl) VRs.nil)⟩
  · rename_i heq
    cases heq
    split at ha <;> first | (cases ha; done) | skip
    rename_i z hz
    simp only [Option.some.injEq, AN.val.injEq] at ha
    obtain ⟨rfl, rfl⟩ := ha
    obtain ⟨_, zv, _, _, hof, hzr⟩ := zeroT_run hz
    have hzv := ofV_sound ρ hof
    have g1 : ∀ w, (Instr.findKey kt u2 xs.toList).run P w = .ok none w := by
      rcases hfound with ⟨_, g⟩ | ⟨_, _, _, g, _⟩
      · exact g
      · cases g
    have hfk := g1 w
    refine ⟨.tuple #[zv, goInt ck], { w with heap := w.heap.setIfInBounds b (.map (xs.push { key := u2, val := zv, born := ck }) (ck + 1)) }, ?_, ?_, ?_⟩
    · unfold Instr.mapEntry
      simp only [Sem.run_bind, run_underlying hu w, Result.andThen_ok, getObj_map hx, hck, hfk, hzr w, setObj_map hx, Sem.run_pure]
    · rw [put_next]
      refine Stp.change hr (n := n) (b := b) (s := s) (by rw [hg]; rfl) hb (o := .map (es ++ [(ky, z)]) (bs ++ [ck]) (Nat.add ck 1)) ?_ rfl rfl rfl (by simp) (fun q _ hq => by simp [Array.getElem?_setIfInBounds, Ne.symm hq]) ?_
      · refine ⟨xs.push { key := u2, val := zv, born := ck }, by simp [hlt], ?_, ?_⟩
        · simp only [Array.toList_push]
          exact hm.push h2 hzv
        · simp [← hbs]
      · intro q o' ho'
        rcases put_spec ho' with ⟨q1, q2⟩ | q1
        · exact .inl ⟨q1, by cases q2; rfl⟩
        · exact .inr q1
    · unfold VR
      exact ⟨_, rfl, VRs.cons hzv (VRs.cons (by unfold VR; rfl) VRs.nil)⟩
omit [Nums] in
theorem idxOf_find {b : Nat} : ∀ {bs : List Nat} {xs : List MapEntry} {j : Nat}, idxOf b bs = some j → xs.map (·.born) = bs → xs.findIdx? (fun e => ((e.born : Nat) : Int) == (b : Int)) = some j ∧ j < xs.length
  | [], xs, j, h, _ => by unfold idxOf at h; cases h
  | c :: bs, [], j, _, hb => by cases hb
  | c :: bs, x :: xs, j, h, hb => by
    simp only [List.map_cons, List.cons.injEq] at hb
    unfold idxOf at h
    split at h
    · rename_i hc
      have hc : c = b := Nat.eq_of_beq_eq_true hc
      cases h
      have hxb : x.born = b := by rw [hb.1, hc]
      rw [List.findIdx?_cons, hxb]
      simp
    · rename_i hc
      have hc : c ≠ b := Nat.ne_of_beq_eq_false hc
      split at h <;> first | (cases h; done) | skip
      rename_i k hk
      cases h
      obtain ⟨h1, h2⟩ := idxOf_find hk hb.2
      have : ((x.born : Int) == (b : Int)) = false := by
        rw [beq_eq_false_iff_ne, hb.1]
        omega
      rw [List.findIdx?_cons, this]
      simp only [Bool.false_eq_true, if_false, h1, List.length_cons]
      exact ⟨rfl, by show k + 1 < _; omega⟩
theorem entSto_sound {t : TypeId} {vs : List AV} {h h' : AH} {v : AV} {w : World} {u1 u2 u3 : Value} (ha : aloud.entSto vs h = some (.val v h')) (hr : HR ρ h.get h.next w) (hv : VRs ρ vs [u1, u2, u3]) :
    ∃ w', (Instr.entryStore t u1 u2 u3).run P w = .ok () w' ∧ Stp ρ h.get h.next w ρ h'.get h'.next w' ∧ v = und := by
  unfold aloud.entSto at ha
  split at ha <;> first | (cases ha; done) | skip
  rename_i n kk st nv
  obtain ⟨y1, y2, y3, hy, h1, h2, h3⟩ := hv.three
  simp only [List.cons.injEq, and_true] at hy
  obtain ⟨rfl, rfl, rfl⟩ := hy
  unfold VR at h1 h2
  obtain ⟨b, s, hb, rfl⟩ := h1
  subst h2
  split at ha <;> first | (cases ha; done) | skip
  rename_i es bs ck hg
  obtain ⟨b', s', hb', hO⟩ := hr.obj _ _ hg
  rw [hb] at hb'
  cases hb'
  obtain ⟨xs, hx, hm, hbs⟩ := hO
  have hlt : b < w.heap.size := (Array.getElem?_eq_some_iff.1 hx).1
  split at ha <;> first | (cases ha; done) | skip
  rename_i j hj
  simp only [Option.some.injEq, AN.val.injEq] at ha
  obtain ⟨rfl, rfl⟩ := ha
  obtain ⟨hfi, hjl⟩ := idxOf_find hj hbs
  obtain ⟨e, he⟩ : ∃ e, xs.toList[j]? = some e := ⟨_, List.getElem?_eq_getElem hjl⟩
  refine ⟨{ w with heap := w.heap.setIfInBounds b (.map (xs.modify j fun e => { e with val := u3 }) ck) }, ?_, ?_, rfl⟩
  · unfold Instr.entryStore
    have hfa : xs.findIdx? (fun e => ((e.born : Nat) : Int) == (Int.ofNat st)) = some j := by
      rw [show xs = xs.toList.toArray from Array.toArray_toList.symm, List.findIdx?_toArray]
      simpa using hfi
    have hai : (asInt (.int kk (Int.ofNat st))).run P w = .ok (Int.ofNat st) w := rfl
    simp only [Sem.run_bind, Result.andThen_ok, getObj_map hx, hai, hfa, setObj_map hx]
  · rw [put_next]
    refine Stp.change hr (n := n) (b := b) (s := s) (by rw [hg]; rfl) hb (o := .map (es.modify j fun p => (p.1, nv)) bs ck) ?_ rfl rfl rfl (by simp) (fun q _ hq => by simp [Array.getElem?_setIfInBounds, Ne.symm hq]) ?_
    · refine ⟨xs.modify j fun e => { e with val := u3 }, by simp [hlt], ?_, ?_⟩
      · have := MR.modify (ρ := ρ) (nv := nv) (key := e.key) (y := u3) j hm (fun z hz => by rw [he] at hz; cases hz; rfl) h3
        have e2 : xs.toList.modify j (fun x => { x with key := e.key, val := u3 }) = xs.toList.modify j (fun x => { x with val := u3 }) := by
          apply List.ext_getElem?
          intro i
          rw [List.getElem?_modify, List.getElem?_modify]
          by_cases hi : j = i
          · subst hi
            rw [he]
            simp
          · simp [hi]
        rw [e2] at this
        simpa using this
      · rw [← hbs]
        simpa using born_modify (fun e => { e with val := u3 }) (fun _ => rfl) xs.toList j
    · intro q o' ho'
      rcases put_spec ho' with ⟨q1, q2⟩ | q1
      · exact .inl ⟨q1, by cases q2; rfl⟩
      · exact .inr q1
/-! iterators over maps -/
omit [Nums] in
theorem getObj_iter {r : Nat} {w : World} {m : Option Nat} {since last : Nat} {seen : Array Nat} (h : w.heap[r]? = some (.mapIter m since seen last)) : (getObj r).run P w = .ok (.mapIter m since seen last) w := by
  simp only [getObj, Sem.run, h]
omit [Nums] in
theorem setObj_iter {r : Nat} {w : World} {m : Option Nat} {since last : Nat} {seen : Array Nat} (h : w.heap[r]? = some (.mapIter m since seen last)) (o : Obj) : (setObj r o).run P w = .ok () { w with heap := w.heap.setIfInBounds r o } := by
  simp only [setObj, Sem.run, h]
theorem arange_sound {t kt et : TypeId} (hu : P.underlying t = some (.map kt et)) {vs : List AV} {h h' : AH} {v : AV} {w : World} {u1 : Value} (ha : aloud.arange vs h = some (.val v h')) (hr : HR ρ h.get h.next w) (hv : VRs ρ vs [u1]) :
    ∃ ρ' y w', (Instr.range t u1).run P w = .ok y w' ∧ Stp ρ h.get h.next w ρ' h'.get h'.next w' ∧ VR ρ' v y := by
  unfold aloud.arange at ha
  split at ha <;> first | (cases ha; done) | skip
  · obtain ⟨y, hy, h1⟩ := hv.one
    simp only [List.cons.injEq, and_true] at hy
    subst hy
    unfold VR at h1
    subst h1
    split at ha <;> first | (cases ha; done) | skip
    rename_i h1 hfr
    simp only [Option.some.injEq, AN.val.injEq] at ha
    obtain ⟨rfl, rfl⟩ := ha
    obtain ⟨hn, hg⟩ := fresh_spec hfr
    obtain ⟨hst, hup⟩ := Stp.new (s := 0) (obj := .mapIter none 0 #[] 0) (w' := w.alloc (.mapIter none 0 #[] 0)) hr h.get (fun _ _ h => h) hn hg (show OR ρ (.mit none 0 [] 0) 0 _ from rfl) rfl rfl rfl rfl
    refine ⟨_, .pointer (some ⟨w.heap.size, 0, none⟩), _, ?_, hst, ?_⟩
    · unfold Instr.range
      simp only [Sem.run_bind, run_underlying hu w, Result.andThen_ok, Sem.run_pure, newObj, Sem.run]
      rfl
    · unfold VR
      exact ⟨_, _, hup, rfl⟩
  · rename_i n
    obtain ⟨y, hy, h1⟩ := hv.one
    simp only [List.cons.injEq, and_true] at hy
    subst hy
    unfold VR at h1
    obtain ⟨b, s, hb, rfl⟩ := h1
    split at ha <;> first | (cases ha; done) | skip
    rename_i es bs ck hg0
    split at ha <;> first | (cases ha; done) | skip
    rename_i h1 hfr
    simp only [Option.some.injEq, AN.val.injEq] at ha
    obtain ⟨rfl, rfl⟩ := ha
    obtain ⟨b', s', hb', hO⟩ := hr.obj _ _ hg0
    rw [hb] at hb'
    cases hb'
    obtain ⟨xs, hx, hm, hbs⟩ := hO
    obtain ⟨hn, hg⟩ := fresh_spec hfr
    obtain ⟨hst, hup⟩ := Stp.new (s := 0) (obj := .mapIter (some b) ck #[] ck) (w' := w.alloc (.mapIter (some b) ck #[] ck)) hr h.get (fun _ _ h => h) hn hg (show OR ρ (.mit (some n) ck [] ck) 0 _ from ⟨b, s, hb, rfl⟩) rfl rfl rfl rfl
    refine ⟨_, .pointer (some ⟨w.heap.size, 0, none⟩), _, ?_, hst, ?_⟩
    · unfold Instr.range
      simp only [Sem.run_bind, run_underlying hu w, Result.andThen_ok, Sem.run_pure, getObj_map hx, newObj, Sem.run]
      rfl
    · unfold VR
      exact ⟨_, _, hup, rfl⟩
omit [Nums] in
theorem choose_one (w : World) : (choose (Question.mapNext 1)).run P w = .ok 0 w := by
  simp [choose, Sem.run, Question.forced]
def LR (ρ : Ren) : List (AV × AV × Nat) → List MapEntry → Prop
  | [], l => l = []
  | (k, v, b) :: r, l => ∃ e es, l = e :: es ∧ VR ρ k e.key ∧ VR ρ v e.val ∧ e.born = b ∧ LR ρ r es
theorem leftOf_sound {seen : List Nat} : ∀ {es : List (AV × AV)} {bs : List Nat} {xs : List MapEntry}, MR ρ es xs → xs.map (·.born) = bs → LR ρ (leftOf es bs seen) (xs.filter fun e => !seen.contains e.born)
  | [], bs, xs, hm, hb => by
    have : xs = [] := hm
    subst this
    subst hb
    rfl
  | (k, v) :: es, bs, xs, hm, hb => by
    obtain ⟨e, xs', rfl, h1, h2, h3⟩ := hm
    subst hb
    have ih := leftOf_sound (seen := seen) h3 rfl
    rw [List.map_cons]
    unfold leftOf
    cases hc : seen.contains e.born with
    | true =>
      rw [List.filter_cons_of_neg (by rw [hc]; simp)]
      exact ih
    | false =>
      rw [List.filter_cons_of_pos (by rw [hc]; rfl)]
      exact ⟨e, _, rfl, h1, h2, rfl, ih⟩
omit [Nums] in
theorem okNext_sound {bs seen : List Nat} {last : Nat} {xs : Array MapEntry} (h : okNext bs seen last = true) (hb : xs.toList.map (·.born) = bs) : (!seen.toArray.isEmpty && !xs.isEmpty && xs.all fun e => decide (e.born ≥ last)) = false := by
  unfold okNext at h
  rw [Bool.or_eq_true, Bool.or_eq_true] at h
  rcases h with h | h | h
  · have : seen = [] := by simpa using h
    subst this
    rfl
  · have : bs = [] := by simpa using h
    subst this
    have hx : xs.toList = [] := by simpa using hb
    have : xs = #[] := Array.toList_eq_nil_iff.1 hx
    subst this
    simp
  · obtain ⟨b, hbm, hbl⟩ := List.any_eq_true.1 h
    rw [← hb] at hbm
    obtain ⟨e, he, rfl⟩ := List.mem_map.1 hbm
    have hbl : e.born < last := by simpa using hbl
    have : (xs.all fun e => decide (e.born ≥ last)) = false := by
      rw [← Array.all_toList]
      rw [List.all_eq_false]
      exact ⟨e, he, by simp; omega⟩
    rw [this, Bool.and_false]
theorem anext_sound {vs : List AV} {h h' : AH} {v : AV} {w : World} {u1 : Value} {ty : TypeId} (ha : aloud.anext vs h = some (.val v h')) (hr : HR ρ h.get h.next w) (hv : VRs ρ vs [u1]) :
    ∃ y w', (Instr.next u1 false ty).run P w = .ok y w' ∧ Stp ρ h.get h.next w ρ h'.get h'.next w' ∧ VR ρ v y := by
  unfold aloud.anext at ha
  split at ha <;> first | (cases ha; done) | skip
  rename_i n
  obtain ⟨y, hy, h1⟩ := hv.one
  simp only [List.cons.injEq, and_true] at hy
  subst hy
  obtain ⟨b, s, hb, rfl⟩ := h1.ptr_inv
  have hover : VR ρ (.tup [.bool false]) (.tuple #[.bool false]) := by
    unfold VR
    exact ⟨_, rfl, VRs.cons (by unfold VR; rfl) VRs.nil⟩
  split at ha <;> first | (cases ha; done) | skip
  · rename_i hg
    simp only [Option.some.injEq, AN.val.injEq] at ha
    obtain ⟨rfl, rfl⟩ := ha
    obtain ⟨b', s', hb', hO⟩ := hr.obj _ _ hg
    rw [hb] at hb'
    cases hb'
    have hx : w.heap[b]? = some (.mapIter none 0 #[] 0) := hO
    refine ⟨.tuple #[.bool false], w, ?_, Stp.refl hr, hover⟩
    unfold Instr.next
    simp only [Sem.run_bind, getObj_iter hx, Result.andThen_ok, Sem.run_pure]
  · rename_i m since seen last hg
    split at ha <;> first | (cases ha; done) | skip
    rename_i es bs ck hgm
    obtain ⟨b', s', hb', hO⟩ := hr.obj _ _ hg
    rw [hb] at hb'
    cases hb'
    obtain ⟨bm, sm, hbm, hx⟩ := hO
    obtain ⟨b', s', hb', hOm⟩ := hr.obj _ _ hgm
    rw [hbm] at hb'
    cases hb'
    obtain ⟨xs, hxm, hm, hbs⟩ := hOm
    split at ha <;> first | (cases ha; done) | skip
    rename_i hok
    have hok := okNext_sound hok hbs
    have hL := leftOf_sound (seen := seen) hm hbs
    have hfilter : (xs.filter fun e => !seen.toArray.contains e.born).toList = xs.toList.filter fun e => !seen.contains e.born := by
      rw [Array.toList_filter]
      simp
    split at ha <;> first | (cases ha; done) | skip
    · rename_i hl
      simp only [Option.some.injEq, AN.val.injEq] at ha
      obtain ⟨rfl, rfl⟩ := ha
      rw [hl] at hL
      have hL : xs.toList.filter (fun e => !seen.contains e.born) = [] := hL
      have hleft : (xs.filter fun e => !seen.toArray.contains e.born) = #[] := by
        apply Array.ext'
        rw [hfilter, hL]
      refine ⟨.tuple #[.bool false], w, ?_, Stp.refl hr, hover⟩
      unfold Instr.next
      simp only [Sem.run_bind, getObj_iter hx, getObj_map hxm, Result.andThen_ok, hok, hleft]
      have hcand : ((if (Array.filter (fun x : MapEntry => decide (x.born < since)) #[]).isEmpty = true then #[none] else #[]) ++ Array.map some (Array.filter (fun x : MapEntry => decide (x.born < since)) #[] ++ Array.filter (fun x : MapEntry => decide (x.born ≥ since)) #[])) = #[none] := by simp
      rw [if_neg Bool.false_ne_true]
      simp only [hcand, Sem.run_bind, choose_one, Result.andThen_ok, show (#[(none : Option MapEntry)]).size = 1 from rfl, show (#[(none : Option MapEntry)])[0]? = some none from rfl, Sem.run_pure]
    · rename_i k nv bo hl
      split at ha <;> first | (cases ha; done) | skip
      rename_i hlt
      have hlt : bo < since := by simpa using hlt
      simp only [Option.some.injEq, AN.val.injEq] at ha
      obtain ⟨rfl, rfl⟩ := ha
      rw [hl] at hL
      obtain ⟨e, es', he, hk, hv', hbo, hnil⟩ := hL
      have hnil : es' = [] := hnil
      subst hnil
      have hleft : (xs.filter fun e => !seen.toArray.contains e.born) = #[e] := by
        apply Array.ext'
        rw [hfilter, he]
      have f1 : Array.filter (fun x => decide (x.born < since)) #[e] = #[e] := by simp [hbo, hlt]
      have f2 : Array.filter (fun x => decide (x.born ≥ since)) #[e] = #[] := by simp [hbo, hlt]
      have hblt : b < w.heap.size := (Array.getElem?_eq_some_iff.1 hx).1
      refine ⟨.tuple #[.bool true, e.key, e.val], { w with heap := w.heap.setIfInBounds b (.mapIter (some bm) since (seen.toArray.push e.born) ck) }, ?_, ?_, ?_⟩
      · unfold Instr.next
        simp only [Sem.run_bind, getObj_iter hx, getObj_map hxm, Result.andThen_ok, hok, hleft, f1, f2]
        have hcand : ((if (#[e] : Array MapEntry).isEmpty = true then #[none] else #[]) ++ Array.map some (#[e] ++ #[])) = #[some e] := by simp
        rw [if_neg Bool.false_ne_true]
        have hset := setObj_iter (P := P) hx (.mapIter (some bm) since (seen.toArray.push e.born) ck)
        simp only [hcand, Sem.run_bind, choose_one, Result.andThen_ok, show (#[some e]).size = 1 from rfl, show (#[some e])[0]? = some (some e) from rfl, hset, Sem.run_pure]
      · rw [put_next]
        refine Stp.change hr (n := n) (b := b) (s := s) (by rw [hg]; rfl) hb (o := .mit (some m) since (seen ++ [bo]) ck) ?_ rfl rfl rfl (by simp) (fun q _ hq => by simp [Array.getElem?_setIfInBounds, Ne.symm hq]) ?_
        · exact ⟨bm, sm, hbm, by simp [hblt, hbo]⟩
        · intro q o' ho'
          rcases put_spec ho' with ⟨q1, q2⟩ | q1
          · exact .inl ⟨q1, by cases q2; rfl⟩
          · exact .inr q1
      · unfold VR
        exact ⟨_, rfl, VRs.cons (by unfold VR; rfl) (VRs.cons hk (VRs.cons hv' VRs.nil))⟩
/-- what an operation that changes memory comes to -/
def LoudVal (P : Program) (ρ : Ren) (a : Act) (o : Oper) (h : AH) (w : World) (v : AV) (h' : AH) : Prop :=
  ∃ ρ' x w' nx, (execOp a.eval o).run P w = .ok nx w' ∧ (nx = .value x ∨ (nx = .skip ∧ x = undef)) ∧ Stp ρ h.get h.next w ρ' h'.get h'.next w' ∧ VR ρ' v x
def FnOk (P : Program) (f : FuncId) : Prop := ∃ fn c, P.funcs[f]? = some fn ∧ (fn.name == "runtime.NumGoroutine") = false ∧ fn.body = some c
theorem recSet_sound {e : SE} {ks : List CK} : ∀ {vs : List AV} {ys : List Value} {l l' : SE} {j : Nat}, recSet l e ks j vs = some l' → VRs ρ vs ys →
    l'.evN Nums.σ = l.evN Nums.σ ∧ j + ys.length ≤ ks.length ∨ vs = [] ∧ l' = l
  | [], ys, l, l', j, h, hv => by
    simp only [recSet, Option.some.injEq] at h
    exact .inr ⟨rfl, h.symm⟩
  | v :: vs, ys, l, l', j, h, hv => by
    unfold recSet at h
    split at h <;> first | (cases h; done) | skip
    rename_i k hk
    split at h <;> first | (cases h; done) | skip
    rename_i x hx
    obtain ⟨y, ys', rfl, h1, h2⟩ := hv.uncons
    have hj := (List.getElem?_eq_some_iff.1 hk).1
    rcases recSet_sound h h2 with ⟨h3, h4⟩ | ⟨h3, h4⟩
    · refine .inl ⟨by rw [h3]; simp only [SE.evN], ?_⟩
      have : Nat.add j 1 = j + 1 := rfl
      rw [this] at h4
      simp only [List.length_cons]
      omega
    · subst h3; subst h4
      unfold VRs at h2
      subst h2
      refine .inl ⟨by simp only [SE.evN], ?_⟩
      simp only [List.length_cons, List.length_nil]
      omega
theorem recSet_at {e : SE} {ks : List CK} : ∀ {vs : List AV} {ys : List Value} {l l' : SE} {j : Nat}, recSet l e ks j vs = some l' → VRs ρ vs ys → ∀ (q i : Nat) (k : CK), ks[i]? = some k →
    (q = (e.ev Nums.σ).toNat ∧ j ≤ i ∧ i < j + ys.length ∧ ys[i - j]? = some (k.val (l'.evA Nums.σ q i))) ∨ (¬ (q = (e.ev Nums.σ).toNat ∧ j ≤ i ∧ i < j + ys.length) ∧ l'.evA Nums.σ q i = l.evA Nums.σ q i)
  | [], ys, l, l', j, h, hv, q, i, k, hk => by
    simp only [recSet, Option.some.injEq] at h
    subst h
    unfold VRs at hv
    subst hv
    exact .inr ⟨by simp only [List.length_nil]; omega, rfl⟩
  | v :: vs, ys, l, l', j, h, hv, q, i, k, hk => by
    unfold recSet at h
    split at h <;> first | (cases h; done) | skip
    rename_i k0 hk0
    split at h <;> first | (cases h; done) | skip
    rename_i x hx
    obtain ⟨y, ys', rfl, h1, h2⟩ := hv.uncons
    have hj1 : Nat.add j 1 = j + 1 := rfl
    rcases recSet_at h h2 q i k hk with ⟨h3, h4, h5, h6⟩ | ⟨h3, h4⟩
    · rw [hj1] at h4 h5 h6
      refine .inl ⟨h3, by omega, by simp only [List.length_cons]; omega, ?_⟩
      rw [show i - j = (i - (j + 1)) + 1 from by omega, List.getElem?_cons_succ]
      exact h6
    · rw [hj1] at h3
      simp only [SE.evA] at h4
      by_cases hqi : q = (e.ev Nums.σ).toNat ∧ i = j
      · obtain ⟨hq, rfl⟩ := hqi
        rw [if_pos ⟨hq, rfl⟩] at h4
        rw [hk] at hk0
        cases hk0
        refine .inl ⟨hq, Nat.le_refl _, by simp only [List.length_cons]; omega, ?_⟩
        rw [Nat.sub_self, List.getElem?_cons_zero, h4, toCK_rel hx h1]
      · rw [if_neg hqi] at h4
        refine .inr ⟨?_, h4⟩
        simp only [List.length_cons]
        rintro ⟨a, b, c⟩
        apply hqi
        refine ⟨a, ?_⟩
        rcases Nat.lt_or_ge j i with hlt | hge
        · exact absurd ⟨a, by omega, by omega⟩ h3
        · omega
theorem recStore_sound {t : TypeId} {n s : Nat} {l x : SE} {ks : List CK} {e : TypeId} {j off : Nat} {v y : AV} {h h' : AH} {w : World} {b : Nat} {s0 : Nat} {u : Value} (hl : aloud.recStore n l x ks e j y h = some (.val v h')) (hr : HR ρ h.get h.next w)
    (hs : sizeT P t = some s) (hlen : y.cells.length = s) (h1 : allOne y.cells = true) (hg : h.get n = some (.recs l ks e)) (hb : ρ n = some (b, s0)) (hu : VR ρ y u) (hoff : off = (x.ev Nums.σ).toNat * ks.length + j) :
    ∃ w', (storeVar t ⟨b, off, none⟩ u).run P w = .ok () w' ∧ Stp ρ h.get h.next w ρ h'.get h'.next w' ∧ v = und := by
  subst hoff
  unfold aloud.recStore at hl
  split at hl <;> first | (cases hl; done) | skip
  rename_i hw
  obtain ⟨w1, w2⟩ := within_ok hw
  rw [lenE_ev] at w2
  have hrow : (x.ev Nums.σ).toNat < l.evN Nums.σ := by omega
  split at hl <;> first | (cases hl; done) | skip
  rename_i l' hset
  simp only [Option.some.injEq, AN.val.injEq] at hl
  obtain ⟨rfl, rfl⟩ := hl
  obtain ⟨b', s', hb', hO⟩ := hr.obj _ _ hg
  rw [hb] at hb'
  cases hb'
  obtain ⟨cur, hcur, hcs, hk, hat⟩ := hO
  have hc := hu.cells
  have hcl : u.cells.toList.length = s := by rw [← hc.len, hlen]
  have hsz : u.cells.size = s := by simpa using hcl
  have hrows : (x.ev Nums.σ).toNat * ks.length + ks.length ≤ l.evN Nums.σ * ks.length := by
    have := Nat.mul_le_mul_right ks.length (show (x.ev Nums.σ).toNat + 1 ≤ l.evN Nums.σ from hrow)
    rwa [Nat.add_mul, Nat.one_mul] at this
  rcases recSet_sound hset hc with ⟨hN, hfit0⟩ | ⟨he, hll⟩
  · have hfit : (x.ev Nums.σ).toNat * ks.length + j + u.cells.toList.length ≤ cur.size := by omega
    have hst := run_storeCells_at P b ((x.ev Nums.σ).toNat * ks.length + j) e u.cells.toList 0 cur w hcur (by simpa using hfit) (hc.ones h1)
    simp only [Nat.add_zero] at hst
    refine ⟨w.setRow b (cur.toList.take ((x.ev Nums.σ).toNat * ks.length + j) ++ u.cells.toList ++ cur.toList.drop ((x.ev Nums.σ).toNat * ks.length + j + u.cells.toList.length)).toArray, ?_, ?_, rfl⟩
    · simp only [storeVar, Sem.run_bind, Sem.run_pure, Result.andThen_ok, sizeT_run hs w, hsz, ne_eq, not_true_eq_false, if_false, hst]
    · rw [put_next]
      refine Stp.change hr (n := n) (b := b) (s := s0) (by rw [hg]; rfl) hb (o := .recs l' ks e) ?_ rfl rfl rfl (by simp) (fun q _ hq => setRow_other w b q _ hq) ?_
      · rw [setRow_heap w b cur _ e (0, 0) hcur]
        refine ⟨_, rfl, by rw [splice_size hfit]; exact hcs, by rw [hN]; exact hk, fun q i k hq hki => ?_⟩
        rw [hN] at hq
        have hi : i < ks.length := (List.getElem?_eq_some_iff.1 hki).1
        rw [List.getElem?_toArray, splice_get (by simpa using hfit)]
        rcases recSet_at hset hc q i k hki with ⟨h3, h4, h5, h6⟩ | ⟨h3, h4⟩
        · subst h3
          rw [if_pos ⟨by omega, by omega⟩, ← h6]
          congr 1
          omega
        · have hne : ¬ ((x.ev Nums.σ).toNat * ks.length + j ≤ q * ks.length + i ∧ q * ks.length + i < (x.ev Nums.σ).toNat * ks.length + j + u.cells.toList.length) := by
            rintro ⟨a1, a2⟩
            apply h3
            have hq2 : q = (x.ev Nums.σ).toNat := by
              rcases Nat.lt_trichotomy q (x.ev Nums.σ).toNat with c | c | c
              · exfalso
                have := Nat.mul_le_mul_right ks.length (show q + 1 ≤ (x.ev Nums.σ).toNat from c)
                rw [Nat.add_mul, Nat.one_mul] at this
                omega
              · exact c
              · exfalso
                have := Nat.mul_le_mul_right ks.length (show (x.ev Nums.σ).toNat + 1 ≤ q from c)
                rw [Nat.add_mul, Nat.one_mul] at this
                omega
            subst hq2
            exact ⟨rfl, by omega, by omega⟩
          rw [if_neg hne, h4, Array.getElem?_toList]
          exact hat q i k hq hki
      · intro q o' ho'
        rcases put_spec ho' with ⟨q1, q2⟩ | q1
        · exact .inl ⟨q1, by cases q2; rfl⟩
        · exact .inr q1
  · subst hll
    have hs0 : s = 0 := by rw [← hlen, he]; rfl
    have hnil : u.cells.toList = [] := List.eq_nil_of_length_eq_zero (by rw [hcl, hs0])
    have hfit : (0 : Nat) + u.cells.toList.length ≤ cur.size := by rw [hnil]; simp
    refine ⟨w, ?_, ?_, rfl⟩
    · simp only [storeVar, Sem.run_bind, Sem.run_pure, Result.andThen_ok, sizeT_run hs w, hsz, ne_eq, not_true_eq_false, if_false]
      have : u.cells = #[] := by apply Array.ext'; simpa using hnil
      rw [this]
      rfl
    · rw [put_next]
      refine Stp.change hr (n := n) (b := b) (s := s0) (by rw [hg]; rfl) hb (o := .recs l' ks e) ⟨cur, hcur, hcs, hk, hat⟩ rfl rfl rfl (Nat.le_refl _) (fun q _ hq => rfl) ?_
      intro q o' ho'
      rcases put_spec ho' with ⟨q1, q2⟩ | q1
      · exact .inl ⟨q1, by cases q2; rfl⟩
      · exact .inr q1
theorem loud_val {o : Oper} {a : Act} {vs : List AV} {v : AV} {h h' : AH} {w : World} (hl : aloud P o.op vs h = some (.val v h')) (hr : HR ρ h.get h.next w) (hv : VRs ρ vs (o.op.operands.toList.map a.eval)) : LoudVal P ρ a o h w v h' := by
  unfold LoudVal execOp
  generalize o.op = op at hl hv
  have undR : ∀ ρ : Ren, VR ρ und undef := fun ρ => by unfold und VR; exact ⟨#[], rfl, VRs.nil⟩
  cases op with
  | store t p x =>
    simp only [aloud] at hl
    split at hl <;> first | (cases hl; done) | skip
    case h_2 =>
      rename_i n q z j y
      split at hl <;> first | (cases hl; done) | skip
      rename_i s hs
      split at hl <;> first | (cases hl; done) | skip
      rename_i hlen
      have hlen := Nat.eq_of_beq_eq_true hlen
      split at hl <;> first | (cases hl; done) | skip
      rename_i h1
      split at hl <;> first | (cases hl; done) | skip
      rename_i l ks e hg
      split at hl <;> first | (cases hl; done) | skip
      rename_i hz
      have hz := Nat.eq_of_beq_eq_true hz
      subst hz
      obtain ⟨y1, y2, hy, hr1, hr2⟩ := hv.two
      simp [Op.operands] at hy
      obtain ⟨e1, e2⟩ := hy
      unfold VR at hr1
      obtain ⟨b, s0, hb, rfl⟩ := hr1
      obtain ⟨w', hrun, hst, rfl⟩ := recStore_sound hl hr hs hlen h1 hg hb hr2 rfl
      refine ⟨ρ, undef, w', .skip, ?_, .inr ⟨rfl, rfl⟩, hst, undR ρ⟩
      simp only [e1, e2, Instr.storeAt, Instr.sureAddr, Sem.run_bind, Sem.run_pure, Result.andThen_ok, hrun]
    rename_i n off y
    split at hl <;> first | (cases hl; done) | skip
    rename_i s hs
    split at hl <;> first | (cases hl; done) | skip
    rename_i hlen
    have hlen := Nat.eq_of_beq_eq_true hlen
    split at hl <;> first | (cases hl; done) | skip
    rename_i h1
    split at hl <;> first | (cases hl; done) | skip
    rotate_left
    · rename_i l ks e hg
      split at hl <;> first | (cases hl; done) | skip
      obtain ⟨y1, y2, hy, hr1, hr2⟩ := hv.two
      simp [Op.operands] at hy
      obtain ⟨e1, e2⟩ := hy
      obtain ⟨b, s0, hb, rfl⟩ := hr1.ptr_inv
      obtain ⟨w', hrun, hst, rfl⟩ := recStore_sound (off := off) hl hr hs hlen h1 hg hb hr2 (by simp only [SE.ev]; exact recAt_eq off)
      refine ⟨ρ, undef, w', .skip, ?_, .inr ⟨rfl, rfl⟩, hst, undR ρ⟩
      simp only [e1, e2, Instr.storeAt, Instr.sureAddr, Sem.run_bind, Sem.run_pure, Result.andThen_ok, hrun]
    rename_i cs k e hg
    split at hl <;> first | (cases hl; done) | skip
    rename_i hk
    have hk : off + s ≤ k := Nat.le_of_ble_eq_true hk
    simp only [Option.some.injEq, AN.val.injEq] at hl
    obtain ⟨rfl, rfl⟩ := hl
    obtain ⟨y1, y2, hy, hr1, hr2⟩ := hv.two
    simp [Op.operands] at hy
    obtain ⟨e1, e2⟩ := hy
    obtain ⟨b, s0, hb, rfl⟩ := hr1.ptr_inv
    obtain ⟨b', s', hb', hO⟩ := hr.obj _ _ hg
    rw [hb] at hb'
    cases hb'
    obtain ⟨cur, hcur, hcs, hks, hcells⟩ := hO
    have hc := hr2.cells
    have hcl : y2.cells.toList.length = s := by rw [← hc.len, hlen]
    have hfit : off + y2.cells.toList.length ≤ cur.size := by rw [hcl]; omega
    have hst := run_storeCells_at P b off e y2.cells.toList 0 cur w hcur (by simpa using hfit) (hc.ones h1)
    simp only [Nat.add_zero] at hst
    refine ⟨ρ, undef, w.setRow b (cur.toList.take off ++ y2.cells.toList ++ cur.toList.drop (off + y2.cells.toList.length)).toArray, .skip, ?_, .inr ⟨rfl, rfl⟩, ?_, undR ρ⟩
    · have hsz : y2.cells.size = s := by simpa using hcl
      simp only [e1, e2, Instr.storeAt, Instr.sureAddr, storeVar, Sem.run_bind, Sem.run_pure, Result.andThen_ok, sizeT_run hs w, hsz, ne_eq, not_true_eq_false, if_false, hst]
    · rw [put_next]
      refine Stp.change hr (n := n) (b := b) (s := s0) (by rw [hg]; rfl) hb (o := .cells (setN cs off y.cells) k e) ?_ rfl rfl rfl (by simp) (fun q _ hq => setRow_other w b q _ hq) ?_
      · rw [setRow_heap w b cur _ e (0, 0) hcur]
        exact ⟨_, rfl, by rw [splice_size hfit]; exact hcs, hks, splice_ok hcells hc h1 hfit⟩
      · intro q o' ho'
        rcases put_spec ho' with ⟨q1, q2⟩ | q1
        · exact .inl ⟨q1, by cases q2; rfl⟩
        · exact .inr q1
  | mapUpdate t m k x =>
    simp only [aloud] at hl
    obtain ⟨w', hrun, hst, rfl⟩ := mapPut_sound hl hr (u1 := a.eval m) (u2 := a.eval k) (u3 := a.eval x) (by simpa [Op.operands] using hv)
    exact ⟨ρ, undef, w', .skip, by simp [hrun], .inr ⟨rfl, rfl⟩, hst, undR ρ⟩
  | insert t m k x =>
    simp only [aloud] at hl
    obtain ⟨w', hrun, hst, rfl⟩ := mapPut_sound hl hr (u1 := a.eval m) (u2 := a.eval k) (u3 := a.eval x) (by simpa [Op.operands] using hv)
    exact ⟨ρ, undef, w', .skip, by simp [hrun], .inr ⟨rfl, rfl⟩, hst, undR ρ⟩
  | mapEntry t m k =>
    simp only [aloud] at hl
    obtain ⟨y, w', hrun, hst, hvr⟩ := mapEnt_sound hl hr (u1 := a.eval m) (u2 := a.eval k) (by simpa [Op.operands] using hv)
    exact ⟨ρ, y, w', .value y, by simp [hrun], .inl rfl, hst, hvr⟩
  | entryStore t m k x =>
    simp only [aloud] at hl
    obtain ⟨w', hrun, hst, rfl⟩ := entSto_sound (P := P) (t := t) hl hr (u1 := a.eval m) (u2 := a.eval k) (u3 := a.eval x) (by simpa [Op.operands] using hv)
    exact ⟨ρ, undef, w', .skip, by simp [hrun], .inr ⟨rfl, rfl⟩, hst, undR ρ⟩
  | range t x =>
    simp only [aloud] at hl
    split at hl <;> first | (cases hl; done) | skip
    rename_i kt et hu
    obtain ⟨ρ', y, w', hrun, hst, hvr⟩ := arange_sound hu hl hr (u1 := a.eval x) (by simpa [Op.operands] using hv)
    exact ⟨ρ', y, w', .value y, by simp [hrun], .inl rfl, hst, hvr⟩
  | next x st =>
    simp only [aloud] at hl
    split at hl <;> first | (cases hl; done) | skip
    obtain ⟨y, w', hrun, hst, hvr⟩ := anext_sound (P := P) (ty := o.type) hl hr (u1 := a.eval x) (by simpa [Op.operands] using hv)
    exact ⟨ρ, y, w', .value y, by simp [hrun], .inl rfl, hst, hvr⟩
  | call c =>
    simp only [aloud] at hl
    obtain ⟨callee, args, argTypes⟩ := c
    cases callee with
    | builtin b =>
      have hop : (Op.call ⟨.builtin b, args, argTypes⟩).operands = args := by simp [Op.operands, Call.operands]
      rw [hop] at hv
      cases b <;> first
        | (cases hl; done)
        | skip
      rotate_left
      · dsimp only at hl
        split at hl <;> first | (cases hl; done) | skip
        rename_i t hat
        have h2 : ∃ u1 u2, args.toList.map a.eval = [u1, u2] := by
          unfold aloud.mapDel at hl
          split at hl <;> first | (cases hl; done) | skip
          split at hl <;> first | (cases hl; done) | skip
          split at hl <;> first | (cases hl; done) | skip
          obtain ⟨y1, y2, hy, _, _⟩ := hv.two
          exact ⟨y1, y2, hy⟩
        obtain ⟨u1, u2, hy⟩ := h2
        rw [hy] at hv
        obtain ⟨w', hrun, hst, rfl⟩ := mapDel_sound (ty := o.type) hat hl hr hv
        refine ⟨ρ, .tuple #[], w', .value (.tuple #[]), ?_, .inl rfl, hst, by unfold und VR; exact ⟨_, rfl, VRs.nil⟩⟩
        have harg : args.map a.eval = #[u1, u2] := by
          apply Array.ext'
          rw [Array.toList_map, hy]
        simp only [resolve, invoke, builtin, Sem.run_bind, Sem.run_pure, Result.andThen_ok, harg]
        rw [hrun]
        rfl
      dsimp only at hl
      split at hl <;> first | (cases hl; done) | skip
      rename_i s x t t'
      split at hl <;> first | (cases hl; done) | skip
      rename_i htt
      have htt := Nat.eq_of_beq_eq_true htt
      subst htt
      split at hl <;> first | (cases hl; done) | skip
      rename_i v' h1 ha
      simp only [Option.some.injEq, AN.val.injEq] at hl
      obtain ⟨rfl, rfl⟩ := hl
      obtain ⟨y1, y2, hy, hr1, hr2⟩ := hv.two
      obtain ⟨ρ', y, w', hrun, hst, hvr⟩ := append_sound (ty := o.type) ha hr hr1 hr2
      refine ⟨ρ', y, w', .value y, ?_, .inl rfl, hst, hvr⟩
      have harg : args.map a.eval = #[y1, y2] := by
        apply Array.ext'
        rw [Array.toList_map, hy]
      simp only [resolve, invoke, builtin, Sem.run_bind, Sem.run_pure, Result.andThen_ok, harg]
      rw [show (Builtin.append_ { toList := [t, t] } o.type #[y1, y2]).run P w = .ok y w' from hrun]
      rfl
    | value f =>
      dsimp only at hl
      split at hl <;> cases hl
    | invoke r m => cases hl
  | _ => simp [aloud] at hl
theorem loud_call {o : Oper} {a : Act} {vs : List AV} {f : FuncId} {args : List AV} {h : AH} (hl : aloud P o.op vs h = some (.call f args)) (hv : VRs ρ vs (o.op.operands.toList.map a.eval)) (hf : FnOk P f) :
    ∃ args' : Array Value, VRs ρ args args'.toList ∧ ∀ w, (execOp a.eval o).run P w = .ok (.enter f args') w := by
  unfold execOp
  generalize o.op = op at hl hv
  cases op with
  | store t p x =>
    simp only [aloud] at hl
    have hno : ∀ {n : Nat} {l x : SE} {ks : List CK} {e : TypeId} {j : Nat} {v : AV}, aloud.recStore n l x ks e j v h ≠ some (.call f args) := by
      intro n l x ks e j v hc
      unfold aloud.recStore at hc
      split at hc <;> first | (cases hc; done) | skip
      split at hc <;> cases hc
    split at hl <;> first | (cases hl; done) | skip
    · split at hl <;> first | (cases hl; done) | skip
      split at hl <;> first | (cases hl; done) | skip
      split at hl <;> first | (cases hl; done) | skip
      split at hl <;> first | (cases hl; done) | skip
      · split at hl <;> cases hl
      · split at hl <;> first | (cases hl; done) | skip
        exact absurd hl hno
    · split at hl <;> first | (cases hl; done) | skip
      split at hl <;> first | (cases hl; done) | skip
      split at hl <;> first | (cases hl; done) | skip
      split at hl <;> first | (cases hl; done) | skip
      split at hl <;> first | (cases hl; done) | skip
      exact absurd hl hno
  | mapUpdate t m k x =>
    simp only [aloud, aloud.mapPut] at hl
    split at hl <;> first | (cases hl; done) | skip
    split at hl <;> first | (cases hl; done) | skip
    split at hl <;> first | (cases hl; done) | skip
    split at hl <;> cases hl
  | insert t m k x =>
    simp only [aloud, aloud.mapPut] at hl
    split at hl <;> first | (cases hl; done) | skip
    split at hl <;> first | (cases hl; done) | skip
    split at hl <;> first | (cases hl; done) | skip
    split at hl <;> cases hl
  | mapEntry t m k =>
    simp only [aloud, aloud.mapEnt] at hl
    split at hl <;> first | (cases hl; done) | skip
    split at hl <;> first | (cases hl; done) | skip
    split at hl <;> first | (cases hl; done) | skip
    split at hl <;> first | (cases hl; done) | skip
    · split at hl <;> cases hl
    · split at hl <;> cases hl
  | entryStore t m k x =>
    simp only [aloud, aloud.entSto] at hl
    split at hl <;> first | (cases hl; done) | skip
    split at hl <;> first | (cases hl; done) | skip
    split at hl <;> cases hl
  | range t x =>
    simp only [aloud, aloud.arange] at hl
    split at hl <;> first | (cases hl; done) | skip
    split at hl <;> first | (cases hl; done) | skip
    · split at hl <;> cases hl
    · split at hl <;> first | (cases hl; done) | skip
      split at hl <;> cases hl
  | next x st =>
    simp only [aloud, aloud.anext] at hl
    split at hl <;> first | (cases hl; done) | skip
    split at hl <;> first | (cases hl; done) | skip
    split at hl <;> first | (cases hl; done) | skip
    split at hl <;> first | (cases hl; done) | skip
    split at hl <;> first | (cases hl; done) | skip
    split at hl <;> first | (cases hl; done) | skip
    split at hl <;> cases hl
  | call c =>
    simp only [aloud] at hl
    obtain ⟨callee, cargs, argTypes⟩ := c
    cases callee with
    | builtin b =>
      cases b <;> first
        | (cases hl; done)
        | skip
      rotate_left
      · simp only [aloud.mapDel] at hl
        split at hl <;> first | (cases hl; done) | skip
        split at hl <;> first | (cases hl; done) | skip
        split at hl <;> first | (cases hl; done) | skip
        split at hl <;> first | (cases hl; done) | skip
        split at hl <;> cases hl
      dsimp only at hl
      split at hl <;> first | (cases hl; done) | skip
      split at hl <;> first | (cases hl; done) | skip
      split at hl <;> cases hl
    | value fv =>
      dsimp only at hl
      split at hl <;> first | (cases hl; done) | skip
      rename_i g x y l
      simp only [Option.some.injEq, AN.call.injEq] at hl
      obtain ⟨rfl, rfl⟩ := hl
      have hop : (Op.call ⟨.value fv, cargs, argTypes⟩).operands.toList.map a.eval = a.eval fv :: (cargs.map a.eval).toList := by simp [Op.operands, Call.operands]
      rw [hop] at hv
      obtain ⟨u, us, hy, h1, h2⟩ := hv.uncons
      simp only [List.cons.injEq] at hy
      obtain ⟨rfl, rfl⟩ := hy
      unfold VR at h1
      obtain ⟨fa, ca, hfv, hfa, hca⟩ := h1
      obtain ⟨fn, c, q1, q2, q3⟩ := hf
      refine ⟨fa ++ cargs.map a.eval ++ ca, ?_, fun w => ?_⟩
      · simp only [Array.toList_append, List.append_assoc]
        exact hfa.append (h2.append hca)
      · have q2' : ¬ fn.name = "runtime.NumGoroutine" := by simpa using q2
        simp [resolve, hfv, Deferred.ofValue, invoke, callFunc, q1, q2', q3]
    | invoke r m => cases hl
  | _ => simp [aloud] at hl
/-- what a call gives -/
def CallS (P : Program) (call : FuncId → List AV → AH → Option (AV × AH)) : Prop :=
  ∀ f args h v h', call f args h = some (v, h') → FnOk P f ∧ ∀ (ρ : Ren) (w : World) (args' : Array Value), HR ρ h.get h.next w → VRs ρ args args'.toList →
    Calls P f args' w fun e w' => ∃ ρ' x, e = .returned x ∧ VR ρ' v x ∧ Stp ρ h.get h.next w ρ' h'.get h'.next w'
theorem loudOp_wp {call : FuncId → List AV → AH → Option (AV × AH)} (hc : CallS P call) {o : Oper} {a : Act} {vs : List AV} {v : AV} {h h' : AH} {w : World} {K : Act → World → Prop} {Q : Exit → Act → World → Prop}
    (hk : kd o.op = .loud) (hop : opA P call o.op vs h = some (v, h')) (hr : HR ρ h.get h.next w) (hv : VRs ρ vs (o.op.operands.toList.map a.eval))
    (hK : ∀ ρ' x w', Stp ρ h.get h.next w ρ' h'.get h'.next w' → VR ρ' v x → K (a.put o.dst x) w') : o.wp P a w K Q := by
  unfold opA at hop
  rw [hk] at hop
  dsimp only at hop
  split at hop <;> first | (cases hop; done) | skip
  · rename_i v1 h1 hl
    simp only [Option.some.injEq, Prod.mk.injEq] at hop
    obtain ⟨rfl, rfl⟩ := hop
    obtain ⟨ρ', x, w', nx, hrun, hnx, hst, hvr⟩ := loud_val hl hr hv
    unfold Oper.wp
    rw [hrun]
    rcases hnx with rfl | ⟨rfl, rfl⟩
    · exact hK ρ' x w' hst hvr
    · exact hK ρ' undef w' hst hvr
  · rename_i f args hl
    obtain ⟨hf, hcall⟩ := hc _ _ _ _ _ hop
    obtain ⟨args', hargs, hrun⟩ := loud_call hl hv hf
    unfold Oper.wp
    rw [hrun w]
    refine (hcall ρ w args' hr hargs).mono ?_
    rintro e w' ⟨ρ', x, rfl, hvr, hst⟩
    exact hK ρ' x w' hst hvr
/-- one operation, where the text puts it -/
theorem op_wp {call : FuncId → List AV → AH → Option (AV × AH)} (hc : CallS P call) {o : Oper} {a : Act} {vs : List AV} {v : AV} {h h' : AH} {w : World} {K : Act → World → Prop} {Q : Exit → Act → World → Prop}
    (hop : opA P call o.op vs h = some (v, h')) (hr : HR ρ h.get h.next w) (hv : VRs ρ vs (o.op.operands.toList.map a.eval))
    (hK : ∀ ρ' x w', Stp ρ h.get h.next w ρ' h'.get h'.next w' → VR ρ' v x → K (a.put o.dst x) w') : o.wp P a w K Q := by
  cases hk : kd o.op with
  | pure =>
    unfold opA at hop
    rw [hk] at hop
    dsimp only at hop
    split at hop <;> first | (cases hop; done) | skip
    rename_i u hu
    simp only [Option.some.injEq, Prod.mk.injEq] at hop
    obtain ⟨rfl, rfl⟩ := hop
    obtain ⟨x, hx, hrun⟩ := pure_sound hu hv
    unfold Oper.wp
    rw [hrun w]
    exact hK ρ x w (Stp.refl hr) hx
  | read =>
    unfold opA at hop
    rw [hk] at hop
    dsimp only at hop
    split at hop <;> first | (cases hop; done) | skip
    rename_i u hu
    simp only [Option.some.injEq, Prod.mk.injEq] at hop
    obtain ⟨rfl, rfl⟩ := hop
    obtain ⟨x, hx, hrun⟩ := read_sound hr hu hv
    unfold Oper.wp
    rw [hrun]
    exact hK ρ x w (Stp.refl hr) hx
  | alloc =>
    unfold opA at hop
    rw [hk] at hop
    dsimp only at hop
    split at hop <;> first | (cases hop; done) | skip
    rename_i ao k ha
    split at hop <;> first | (cases hop; done) | skip
    rename_i h1 hfr
    simp only [Option.some.injEq, Prod.mk.injEq] at hop
    obtain ⟨rfl, rfl⟩ := hop
    obtain ⟨obj, s, hO, hrun⟩ := alloc_sound ha hv
    obtain ⟨x, hrx, hx⟩ := hrun w
    obtain ⟨hn, hg⟩ := fresh_spec hfr
    obtain ⟨hst, hup⟩ := Stp.new (w' := w.alloc obj) hr h.get (fun _ _ h => h) hn hg hO rfl rfl rfl rfl
    unfold Oper.wp
    rw [hrx]
    exact hK _ x _ hst (hx _ _ hup)
  | loud => exact loudOp_wp hc hk hop hr hv hK
end
end Go.Proofs.YthjjpmoifgcepaaGreat.Ex
