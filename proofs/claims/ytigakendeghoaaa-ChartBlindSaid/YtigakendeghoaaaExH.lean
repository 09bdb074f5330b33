/-
  The runner: reads, and what makes a block. No condition.
-/
import Derived.Test.YtigakendeghoaaaExG
namespace Go.Proofs.Ytigakendeghoaaa.Ex
open Go
variable [Nums]
section
variable {P : Program} {ρ ρ' : Ren}
omit [Nums] in
theorem getN_len {cs : T AV} : ∀ {n i : Nat} {l : List AV}, getN cs i n = some l → l.length = n
  | 0, _, l, h => by simp only [getN, Option.some.injEq] at h; subst h; rfl
  | n + 1, i, l, h => by
    unfold getN at h
    split at h <;> first | (cases h; done) | skip
    split at h <;> first | (cases h; done) | skip
    rename_i m hm
    simp only [Option.some.injEq] at h; subst h
    simp [getN_len hm]
def CellsOk (ρ : Ren) (cs : T AV) (cur : Array Value) : Prop := ∀ i v, cs.get i = some v → v.one = true ∧ ∃ y, cur[i]? = some y ∧ VR ρ v y
theorem getN_sound {cs : T AV} {cur : Array Value} (hc : CellsOk ρ cs cur) : ∀ {n i : Nat} {l : List AV}, getN cs i n = some l → ∃ ys : List Value, ys.length = n ∧ VRs ρ l ys ∧ (∀ (j : Nat) y, ys[j]? = some y → cur[i + j]? = some y) ∧ ∀ y ∈ ys, y.oneCell' = true
  | 0, _, l, h => by simp only [getN, Option.some.injEq] at h; subst h; exact ⟨[], rfl, VRs.nil, by simp, by simp⟩
  | n + 1, i, l, h => by
    unfold getN at h
    split at h <;> first | (cases h; done) | skip
    rename_i v hv
    split at h <;> first | (cases h; done) | skip
    rename_i m hm
    simp only [Option.some.injEq] at h; subst h
    obtain ⟨h1, y, hy, hr⟩ := hc _ _ hv
    obtain ⟨ys, hl, hrs, hg, ho⟩ := getN_sound hc hm
    refine ⟨y :: ys, by simp [hl], VRs.cons hr hrs, fun j z hz => ?_, fun z hz => ?_⟩
    · cases j with
      | zero => simp at hz; subst hz; simpa using hy
      | succ j =>
        have := hg j z (by simpa using hz)
        rwa [show Nat.add i 1 + j = i + (j + 1) from by show i + 1 + j = _; omega] at this
    · rcases List.mem_cons.1 hz with rfl | hz
      · exact hr.oneCell h1
      · exact ho z hz
omit [Nums] in
theorem setN_get : ∀ {l : List AV} {cs : T AV} {i j : Nat} {v : AV}, (setN cs i l).get j = some v → (i ≤ j ∧ j < i + l.length ∧ l[j - i]? = some v) ∨ ((j < i ∨ i + l.length ≤ j) ∧ cs.get j = some v)
  | [], cs, i, j, v, h => .inr ⟨by simp; omega, h⟩
  | x :: l, cs, i, j, v, h => by
    unfold setN at h
    rcases setN_get h with ⟨h1, h2, h3⟩ | ⟨h1, h2⟩
    · have h1 : i + 1 ≤ j := h1
      have h2 : j < i + 1 + l.length := h2
      refine .inl ⟨by omega, by simp; omega, ?_⟩
      have h3 : l[j - (i + 1)]? = some v := h3
      rw [show j - i = (j - (i + 1)) + 1 from by omega, List.getElem?_cons_succ]
      exact h3
    · have h1 : j < i + 1 ∨ i + 1 + l.length ≤ j := h1
      rcases T.get_put h2 with ⟨h3, h4⟩ | ⟨h3, h4⟩
      · subst h3
        refine .inl ⟨Nat.le_refl _, by simp, ?_⟩
        rw [Nat.sub_self]
        simpa using h4
      · refine .inr ⟨?_, h4⟩
        simp only [List.length_cons]
        omega
omit [Nums] in
theorem T.get_e {α : Type} (j : Nat) : (T.e : T α).get j = none := T.getP_e _
theorem cellsOf_or {l : List AV} {ys : List Value} (h : VRs ρ l ys) (h1 : allOne l = true) (e : TypeId) : OR ρ (cellsOf e l) ys.length (some (.cells ys.toArray e (0, 0))) := by
  refine ⟨ys.toArray, rfl, by simp, by rw [h.len]; exact Nat.le_refl _, fun i v hv => ?_⟩
  rcases setN_get hv with ⟨_, _, h3⟩ | ⟨_, h3⟩
  · rw [Nat.sub_zero] at h3
    refine ⟨allOne_mem h1 v (List.mem_of_getElem? h3), ?_⟩
    obtain ⟨y, hy, hr⟩ := h.get h3
    exact ⟨y, by simpa using hy, hr⟩
  · rw [T.get_e] at h3; cases h3

theorem lookAt_sound {d : IntKind} : ∀ {es : List (AV × AV)} {xs : List MapEntry} {k : IntKind} {i : Int} {r : Option AV} (idx : Nat), lookAt es k i = some r → MR ρ es xs →
    (r = none ∧ Instr.findNow (.int d) (.int k i) xs idx = some none) ∨ ∃ v j x, r = some v ∧ Instr.findNow (.int d) (.int k i) xs idx = some (some (j, x)) ∧ VR ρ v x
  | [], xs, k, i, r, idx, h, hm => by
    simp only [lookAt, Option.some.injEq] at h; subst h
    have : xs = [] := hm
    subst this
    exact .inl ⟨rfl, rfl⟩
  | (.int k' j, v) :: es, xs, k, i, r, idx, h, hm => by
    obtain ⟨e, xs', rfl, h1, h2, h3⟩ := hm
    have hk := h1.int_inv
    simp only [lookAt] at h
    split at h <;> first | (cases h; done) | skip
    rename_i hkk
    have hkk := of_decide_eq_true hkk
    subst hkk
    split at h
    · rename_i hij
      simp only [Option.some.injEq] at h; subst h
      refine .inr ⟨v, idx, e.val, rfl, ?_, h2⟩
      simp [Instr.findNow, Instr.sameNow, hk, hij]
    · rename_i hij
      rcases lookAt_sound (d := d) (idx + 1) h h3 with ⟨h4, h5⟩ | ⟨v', j', x', h4, h5, h6⟩
      · exact .inl ⟨h4, by simp [Instr.findNow, Instr.sameNow, hk, hij, h5]⟩
      · exact .inr ⟨v', j', x', h4, by simp [Instr.findNow, Instr.sameNow, hk, hij, h5], h6⟩
  | (.bool _, _) :: _, _, _, _, _, _, h, _ => by simp [lookAt] at h
  | (.sym _ _, _) :: _, _, _, _, _, _, h, _ => by simp [lookAt] at h
  | (.str _, _) :: _, _, _, _, _, _, h, _ => by simp [lookAt] at h
  | (.nilp, _) :: _, _, _, _, _, _, h, _ => by simp [lookAt] at h
  | (.ptr _ _, _) :: _, _, _, _, _, _, h, _ => by simp [lookAt] at h
  | (.nilsl, _) :: _, _, _, _, _, _, h, _ => by simp [lookAt] at h
  | (.sl .., _) :: _, _, _, _, _, _, h, _ => by simp [lookAt] at h
  | (.esl _, _) :: _, _, _, _, _, _, h, _ => by simp [lookAt] at h
  | (.nilmap, _) :: _, _, _, _, _, _, h, _ => by simp [lookAt] at h
  | (.map _, _) :: _, _, _, _, _, _, h, _ => by simp [lookAt] at h
  | (.fn .., _) :: _, _, _, _, _, _, h, _ => by simp [lookAt] at h
  | (.nilfn, _) :: _, _, _, _, _, _, h, _ => by simp [lookAt] at h
  | (.nilif, _) :: _, _, _, _, _, _, h, _ => by simp [lookAt] at h
  | (.ifc .., _) :: _, _, _, _, _, _, h, _ => by simp [lookAt] at h
  | (.agg _, _) :: _, _, _, _, _, _, h, _ => by simp [lookAt] at h
  | (.tup _, _) :: _, _, _, _, _, _, h, _ => by simp [lookAt] at h
omit [Nums] in
theorem checkKey_int (b : Bool) (n : Nat) {kt : TypeId} {d k : IntKind} {i : Int} (hu : P.underlying kt = some (.int d)) (w : World) : (Instr.checkKey b (n + 1) kt (.int k i)).run P w = .ok () w := by
  unfold Instr.checkKey
  rw [Sem.run_bind, run_underlying hu w]
  rfl
omit [Nums] in
theorem findKey_run {es : List MapEntry} {kt : TypeId} {d k : IntKind} {i : Int} {r : Option (Nat × Value)} (hu : P.underlying kt = some (.int d)) (h : Instr.findNow (.int d) (.int k i) es 0 = some r) (w : World) :
    (Instr.findKey kt (.int k i) es).run P w = .ok r w := by
  unfold Instr.findKey
  rw [Sem.run_bind, run_underlying hu w]
  simp only [Result.andThen_ok, h]
  rfl
omit [Nums] in
theorem getObj_map {r : Nat} {w : World} {xs : Array MapEntry} {c : Nat} (h : w.heap[r]? = some (.map xs c)) : (getObj r).run P w = .ok (.map xs c) w := by
  simp only [getObj, Sem.run, h]
theorem MR.len : ∀ {es : List (AV × AV)} {xs : List MapEntry}, MR ρ es xs → es.length = xs.length
  | [], xs, h => by have : xs = [] := h; subst this; rfl
  | _ :: es, xs, h => by
    obtain ⟨e, xs', rfl, _, _, h3⟩ := h
    simp [MR.len h3]
theorem read_sound {o : Oper} {a : Act} {vs : List AV} {v : AV} {h : AH} {nx : Nat} {w : World} (hr : HR ρ h.get nx w) (hread : aread P o.op vs h = some v) (hv : VRs ρ vs (o.op.operands.toList.map a.eval)) :
    ∃ x, VR ρ v x ∧ (execOp a.eval o).run P w = .ok (.value x) w := by
  unfold execOp
  generalize o.op = op at hread hv
  cases op with
  | load t p =>
    simp only [aread] at hread
    split at hread <;> first | (cases hread; done) | skip
    case h_2 =>
      rename_i b off
      split at hread <;> first | (cases hread; done) | skip
      rename_i l hl
      split at hread <;> first | (cases hread; done) | skip
      rename_i hagg
      split at hread <;> first | (cases hread; done) | skip
      rename_i c hc
      simp only [Option.some.injEq] at hread; subst hread
      obtain ⟨y, hy, hp⟩ := hv.one
      simp [Op.operands] at hy
      unfold VR at hp
      subst hp
      obtain ⟨e, q, hcur⟩ := hr.gl b l hl
      refine ⟨.int .i64 c, by unfold VR; rfl, ?_⟩
      have hc' : w.cell? ⟨b, off, none⟩ = some (.int .i64 c) := by simp [World.cell?, hcur, hc]
      simp [hy, Instr.loadAt, Instr.sureAddr, loadVar, aggT_run hagg w, hc']
    rename_i n off
    split at hread <;> first | (cases hread; done) | skip
    rename_i cs k e hg
    obtain ⟨y, hy, hp⟩ := hv.one
    simp [Op.operands] at hy
    obtain ⟨b, s, hb, rfl⟩ := hp.ptr_inv
    obtain ⟨b', s', hb', hO⟩ := hr.obj _ _ hg
    rw [hb] at hb'
    cases hb'
    obtain ⟨cur, hcur, hs, hk, hcells⟩ := hO
    split at hread
    · rename_i hagg
      split at hread <;> first | (cases hread; done) | skip
      rename_i sz hsz
      split at hread <;> first | (cases hread; done) | skip
      rename_i l hl
      simp only [Option.some.injEq] at hread; subst hread
      obtain ⟨ys, hyl, hrs, hat, _⟩ := getN_sound hcells hl
      refine ⟨.agg ys.toArray, by unfold VR; exact ⟨_, rfl, by simpa using hrs⟩, ?_⟩
      have hrange : w.rangeAt b off ys := fun j z hz => by
        have := hat j z hz
        simp [World.cell?, hcur, this]
      obtain ⟨d, hu, hd⟩ : ∃ d, P.underlying t = some d ∧ d.isRow = true := by
        unfold aggT at hagg
        split at hagg
        · rename_i hu; exact ⟨_, hu, rfl⟩
        · rename_i hu; exact ⟨_, hu, rfl⟩
        · cases hagg
        · cases hagg
      have := run_loadAt_mid (P := P) w b off t ys d hrange hu hd (by rw [sizeT_info hsz, hyl])
      simp [hy, this]
    · rename_i hagg
      obtain ⟨h1, z, hz, hzr⟩ := hcells _ _ hread
      refine ⟨z, hzr, ?_⟩
      have hc : w.cell? ⟨b, off, none⟩ = some z := by simp [World.cell?, hcur, hz]
      simp [hy, Instr.loadAt, Instr.sureAddr, loadVar, aggT_run hagg w, hc]
    · cases hread
  | lookup t m ix ok =>
    simp only [aread] at hread
    split at hread <;> first | (cases hread; done) | skip
    rename_i kt e hu
    split at hread <;> first | (cases hread; done) | skip
    rename_i d hku
    split at hread <;> first | (cases hread; done) | skip
    rename_i x k i
    obtain ⟨y1, y2, hy, hr1, hr2⟩ := hv.two
    simp [Op.operands] at hy
    obtain ⟨e1, e2⟩ := hy
    have hr2 := hr2.int_inv
    subst hr2
    split at hread <;> first | (cases hread; done) | skip
    rename_i es hes
    have hcase : ∃ xs : Array MapEntry, MR ρ es xs.toList ∧ ((y1 = .map none ∧ xs = #[]) ∨ ∃ b c, y1 = .map (some b) ∧ w.heap[b]? = some (.map xs c)) := by
      split at hes
      · simp only [Option.some.injEq] at hes; subst hes
        unfold VR at hr1
        subst hr1
        exact ⟨#[], rfl, .inl ⟨rfl, rfl⟩⟩
      · rename_i n
        split at hes <;> first | (cases hes; done) | skip
        rename_i es' hg
        simp only [Option.some.injEq] at hes; subst hes
        unfold VR at hr1
        obtain ⟨b, s, hb, rfl⟩ := hr1
        obtain ⟨b', s', hb', hO⟩ := hr.obj _ _ hg
        rw [hb] at hb'
        cases hb'
        obtain ⟨xs, c, hx, hm⟩ := hO
        exact ⟨xs, hm, .inr ⟨b, c, rfl, hx⟩⟩
      · cases hes
    obtain ⟨xs, hm, hcase⟩ := hcase
    have run_all : ∀ {r : Option (Nat × Value)}, Instr.findNow (.int d) (.int k i) xs.toList 0 = some r →
        (Instr.lookup t y1 (.int k i) ok).run P w = (match r with | some (_, v) => (Result.ok (v, true) w) | none => ((zeroValue e).run P w).andThen fun z w' => .ok (z, false) w').andThen fun p w' => .ok (if ok then .tuple #[p.1, .bool p.2] else p.1) w' := by
      intro r hf
      have hck := checkKey_int (P := P) xs.isEmpty 9999 (d := d) (k := k) (i := i) hku w
      have hfk := findKey_run hku hf w
      unfold Instr.lookup
      rcases hcase with ⟨rfl, rfl⟩ | ⟨b, c, rfl, hx⟩
      · simp only [Sem.run_bind, run_underlying hu w, Result.andThen_ok, Sem.run_pure, hck, hfk]
        cases r with
        | none => cases hz : (zeroValue e).run P w <;> simp [hz]
        | some p => simp
      · simp only [Sem.run_bind, run_underlying hu w, Result.andThen_ok, Sem.run_pure, getObj_map hx, hck, hfk]
        cases r with
        | none => cases hz : (zeroValue e).run P w <;> simp [hz]
        | some p => simp
    split at hread <;> first | (cases hread; done) | skip
    · rename_i v0 hl
      rcases lookAt_sound (d := d) 0 hl hm with ⟨h1, _⟩ | ⟨v', j, x', h1, h2, h3⟩
      · cases h1
      · cases h1
        have := run_all h2
        split at hread <;> (simp only [Option.some.injEq] at hread; subst hread)
        · refine ⟨.tuple #[x', .bool true], by unfold VR; exact ⟨_, rfl, VRs.cons h3 (VRs.cons (by unfold VR; rfl) VRs.nil)⟩, ?_⟩
          simp [e1, e2, this]
        · refine ⟨x', h3, ?_⟩
          simp [e1, e2, this]
    · rename_i hl
      rcases lookAt_sound (d := d) 0 hl hm with ⟨_, h2⟩ | ⟨v', j, x', h1, _⟩
      · split at hread <;> first | (cases hread; done) | skip
        rename_i z hz
        obtain ⟨_, zv, _, _, hof, hzr⟩ := zeroT_run hz
        have hzv := ofV_sound ρ hof
        have := run_all h2
        simp only [hzr w, Result.andThen_ok] at this
        split at hread <;> (simp only [Option.some.injEq] at hread; subst hread)
        · refine ⟨.tuple #[zv, .bool false], by unfold VR; exact ⟨_, rfl, VRs.cons hzv (VRs.cons (by unfold VR; rfl) VRs.nil)⟩, ?_⟩
          simp [e1, e2, this]
        · refine ⟨zv, hzv, ?_⟩
          simp [e1, e2, this]
      · cases h1
  | call c =>
    simp only [aread] at hread
    obtain ⟨callee, args, argTypes⟩ := c
    cases callee with
    | builtin b =>
      have hop : (Op.call ⟨.builtin b, args, argTypes⟩).operands = args := by simp [Op.operands, Call.operands]
      rw [hop] at hv
      cases b <;> first
        | (cases hread; done)
        | skip
      dsimp only at hread
      split at hread <;> first | (cases hread; done) | skip
      rename_i x t hat
      obtain ⟨y, hy, hx⟩ := hv.one
      have hy' : (args.map a.eval)[0]? = some y := by
        rw [← Array.getElem?_toList, Array.toList_map, hy]; rfl
      have fin : ∀ {n : Int}, (Builtin.len_ argTypes o.type (args.map a.eval)).run P w = .ok (.int .i64 n) w → ∃ x, VR ρ (.int .i64 n) x ∧
          ((do let d ← resolve a.eval { callee := .builtin .len, args := args, argTypes := argTypes } o.type; invoke d.target d.args : Sem Next)).run P w = .ok (.value x) w := by
        intro n hn
        refine ⟨_, by unfold VR; rfl, ?_⟩
        simp [resolve, invoke, builtin, hn]
      split at hread <;> first | (cases hread; done) | skip
      · rename_i e hu
        split at hread <;> first | (cases hread; done) | skip
        all_goals (simp only [Option.some.injEq] at hread; subst hread; unfold VR at hx)
        · subst hx
          exact fin (by simp [Builtin.len_, hat, hy', run_underlying hu w, goInt])
        · obtain ⟨_, _, rfl⟩ := hx
          exact fin (by simp [Builtin.len_, hat, hy', run_underlying hu w, goInt])
        · obtain ⟨_, _, _, _, rfl, _⟩ := hx
          exact fin (by simp [Builtin.len_, hat, hy', run_underlying hu w, goInt])
      · rename_i n e hu
        simp only [Option.some.injEq] at hread; subst hread
        exact fin (by simp [Builtin.len_, hat, hy', run_underlying hu w, goInt])
      · rename_i kt e hu
        split at hread <;> first | (cases hread; done) | skip
        · simp only [Option.some.injEq] at hread; subst hread
          unfold VR at hx
          subst hx
          exact fin (by simp [Builtin.len_, hat, hy', run_underlying hu w, goInt])
        · split at hread <;> first | (cases hread; done) | skip
          rename_i es hg
          simp only [Option.some.injEq] at hread; subst hread
          unfold VR at hx
          obtain ⟨b, s, hb, rfl⟩ := hx
          obtain ⟨b', s', hb', hO⟩ := hr.obj _ _ hg
          rw [hb] at hb'
          cases hb'
          obtain ⟨xs, c, hx, hm⟩ := hO
          have hln : es.length = xs.size := by simpa using hm.len
          exact fin (by simp [Builtin.len_, hat, hy', run_underlying hu w, goInt, getObj_map hx, hln])
    | _ => cases hread
  | _ => simp [aread] at hread
end
end Go.Proofs.Ytigakendeghoaaa.Ex
