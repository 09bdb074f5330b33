/-
  A map from numbers to numbers that the call owns: look-up, store, delete. No condition but the number of entries.
-/
import Derived.Test.YtigakendeghoaaaSep
import Derived.Maps.OwnSet
import Derived.Maps.OwnOps
namespace Go.Proofs.Ytigakendeghoaaa
open Go.RowKit
open Go.Maps (Keyed)
open Go.ChangeMaps (setBlock modify_eq_set)
/-- entries that are a function on numbers -/
structure IM (es : Array MapEntry) (n : Nat) (f : Int → Option Int) : Prop where
  size : es.size ≤ n
  ints : ∀ x ∈ es.toList, ∃ k c, x.key = .int .i64 k ∧ x.val = .int .i64 c ∧ (Lit.int .i64 k).wf = true
  apart : ∀ (i j : Nat) (x y : MapEntry), es.toList[i]? = some x → es.toList[j]? = some y → x.key = y.key → i = j
  fits : ∀ k c, f k = some c ↔ ∃ x ∈ es.toList, x.key = .int .i64 k ∧ x.val = .int .i64 c
def fPut (f : Int → Option Int) (k c : Int) : Int → Option Int := fun j => if j = k then some c else f j
def fDel (f : Int → Option Int) (k : Int) : Int → Option Int := fun j => if j = k then none else f j
theorem IM.nil : IM #[] 0 (fun _ => none) := ⟨by simp, by simp, by simp, by simp⟩
theorem int_keyed' : Keyed Try.prog 3 := Go.Maps.int_keyed Try.underlying3
theorem keyOf_i64 {k : Int} (hk : (Lit.int .i64 k).wf = true) : keyOf Try.prog 3 (.int .i64 k) = some (.int .i64 k) := Go.Maps.keyOf_int_mk Try.underlying3 hk
theorem zero_i64 (w : World) : (zeroValue 3).run Try.prog w = .ok (.int .i64 0) w := by
  have hi : (Try.prog.info? 3).map (fun i => i.zero) = some (some (.int .i64 0)) := by kernel_rfl
  cases h : Try.prog.info? 3 with
  | none => rw [h] at hi; cases hi
  | some i =>
    rw [h] at hi
    simp at hi
    simp [zeroValue, typeInfo, Sem.run, h, hi]
section
variable {w : World} {es : Array MapEntry} {ck n b : Nat} {f : Int → Option Int}
theorem IM.keysOk (h : IM es n f) : ∀ e ∈ es.toList, ∃ l, keyOf Try.prog 3 e.key = some l := fun e he => by
  obtain ⟨k, c, hk, -, hw⟩ := h.ints e he
  exact ⟨_, by rw [hk]; exact keyOf_i64 hw⟩
theorem IM.none_of (h : IM es n f) {k : Int} (hk : ∀ e ∈ es.toList, e.key ≠ .int .i64 k) : f k = none := by
  cases hf : f k with
  | none => rfl
  | some c =>
    obtain ⟨x, hx, h1, -⟩ := (h.fits k c).1 hf
    exact absurd h1 (hk x hx)
theorem run_mapGet (h : IM es n f) (hb : w.heap[b]? = some (.map es ck)) {k : Int} (hk : (Lit.int .i64 k).wf = true) :
    (Instr.lookup 118 (.map (some b)) (.int .i64 k) true).run Try.prog w = .ok (.tuple #[.int .i64 ((f k).getD 0), .bool (f k).isSome]) w := by
  have hkey := keyOf_i64 hk
  have K := int_keyed'
  rcases K.find w hkey es.toList h.keysOk with ⟨h1, h2⟩ | ⟨j, e0, h1, h2, h3⟩
  · have hf := h.none_of h2
    simp [Instr.lookup, run_underlying Try.underlying118, MapKept.run_getObj_map hb, K.check w _ hkey, h1, zero_i64, Result.andThen, hf]
  · have hm := List.mem_of_getElem? h2
    obtain ⟨k', c, e1, e2, -⟩ := h.ints e0 hm
    have hf : f k = some c := (h.fits k c).2 ⟨e0, hm, h3, e2⟩
    simp [Instr.lookup, run_underlying Try.underlying118, MapKept.run_getObj_map hb, K.check w _ hkey, h1, Result.andThen, hf, e2]
theorem run_mapPut (h : IM es n f) (hb : w.heap[b]? = some (.map es ck)) (hn : n < maxLen) {k : Int} (hk : (Lit.int .i64 k).wf = true) (c : Int) :
    ∃ es' ck', (Instr.mapUpdate 118 (.map (some b)) (.int .i64 k) (.int .i64 c)).run Try.prog w = .ok () (setBlock w b (.map es' ck')) ∧ IM es' (n + 1) (fPut f k c) := by
  have hkey := keyOf_i64 hk
  have K := int_keyed'
  rcases K.find w hkey es.toList h.keysOk with ⟨h1, h2⟩ | ⟨j, e0, h1, h2, h3⟩
  · refine ⟨es.push ⟨.int .i64 k, .int .i64 c, ck⟩, ck + 1, ?_, ⟨by have := h.size; simp; omega, ?_, ?_, ?_⟩⟩
    · simp [Instr.mapUpdate, run_underlying Try.underlying118, MapKept.run_getObj_map hb, K.check w false hkey, h1, MapKept.run_setObj_map _ hb, Result.andThen, setBlock]
    · intro x hx
      simp only [Array.toList_push, List.mem_append, List.mem_singleton] at hx
      rcases hx with hx | rfl
      · exact h.ints x hx
      · exact ⟨k, c, rfl, rfl, hk⟩
    · intro i j x y hx hy hxy
      rw [Array.toList_push, List.getElem?_append] at hx hy
      split at hx <;> split at hy
      · exact h.apart i j x y hx hy hxy
      · have : y = ⟨.int .i64 k, .int .i64 c, ck⟩ := by
          rw [List.getElem?_singleton] at hy; split at hy <;> simp_all
        subst this
        exact absurd hxy (h2 x (List.mem_of_getElem? hx))
      · have : x = ⟨.int .i64 k, .int .i64 c, ck⟩ := by
          rw [List.getElem?_singleton] at hx; split at hx <;> simp_all
        subst this
        exact absurd hxy.symm (h2 y (List.mem_of_getElem? hy))
      · rw [List.getElem?_singleton] at hx hy
        split at hx <;> split at hy <;> first | omega | simp_all
    · intro q d
      simp only [Array.toList_push, List.mem_append, List.mem_singleton, fPut]
      by_cases hq : q = k
      · subst hq
        rw [if_pos rfl]
        constructor
        · intro hd
          simp only [Option.some.injEq] at hd
          subst hd
          exact ⟨_, .inr rfl, rfl, rfl⟩
        · rintro ⟨x, hx | rfl, e1, e2⟩
          · exact absurd e1 (h2 x hx)
          · simp only [Value.int.injEq, true_and] at e2
            rw [e2]
      · rw [if_neg hq, h.fits q d]
        constructor
        · rintro ⟨x, hx, e1, e2⟩
          exact ⟨x, .inl hx, e1, e2⟩
        · rintro ⟨x, hx | rfl, e1, e2⟩
          · exact ⟨x, hx, e1, e2⟩
          · simp only [Value.int.injEq, true_and] at e1
            exact absurd e1.symm hq
  · have hj : es[j]? = some e0 := by simpa using h2
    have hjl : j < es.toList.length := (List.getElem?_eq_some_iff.1 h2).1
    have hlist : (es.modify j (fun e' => { e' with key := .int .i64 k, val := .int .i64 c })).toList = es.toList.set j { e0 with key := .int .i64 k, val := .int .i64 c } := by rw [Array.toList_modify, modify_eq_set _ _ _ _ h2]
    have hget : ∀ i, (es.toList.set j { e0 with key := .int .i64 k, val := .int .i64 c })[i]? = if i = j then some { e0 with key := .int .i64 k, val := .int .i64 c } else es.toList[i]? := fun i => by
      rw [List.getElem?_set]
      by_cases hij : j = i
      · subst hij; rw [if_pos rfl, if_pos rfl, if_pos hjl]
      · rw [if_neg hij, if_neg (fun e => hij e.symm)]
    have hmem : ∀ x, x ∈ es.toList.set j { e0 with key := .int .i64 k, val := .int .i64 c } ↔ x = { e0 with key := .int .i64 k, val := .int .i64 c } ∨ (x ∈ es.toList ∧ x.key ≠ .int .i64 k) := fun x => by
      constructor
      · intro hx
        obtain ⟨i, hi⟩ := List.getElem?_of_mem hx
        rw [hget] at hi
        split at hi
        · exact .inl (Option.some.inj hi).symm
        · rename_i hij
          exact .inr ⟨List.mem_of_getElem? hi, fun e => hij (h.apart i j x e0 hi h2 (e.trans h3.symm))⟩
      · rintro (rfl | ⟨hx, hne⟩)
        · exact List.mem_iff_getElem?.2 ⟨j, by rw [hget, if_pos rfl]⟩
        · obtain ⟨i, hi⟩ := List.getElem?_of_mem hx
          refine List.mem_iff_getElem?.2 ⟨i, ?_⟩
          rw [hget, if_neg, hi]
          rintro rfl
          rw [h2] at hi
          cases hi
          exact hne h3
    refine ⟨es.modify j (fun e' => { e' with key := .int .i64 k, val := .int .i64 c }), ck, ?_, ⟨by have := h.size; simp; omega, ?_, ?_, ?_⟩⟩
    · simp [Instr.mapUpdate, run_underlying Try.underlying118, MapKept.run_getObj_map hb, K.check w false hkey, h1, hj, h3, K.stays w hkey, MapKept.run_setObj_map _ hb, Result.andThen, setBlock]
    · intro x hx
      rw [hlist] at hx
      rcases (hmem x).1 hx with rfl | ⟨hx, -⟩
      · exact ⟨k, c, rfl, rfl, hk⟩
      · exact h.ints x hx
    · intro i i' x y hx hy hxy
      rw [hlist, hget] at hx hy
      split at hx <;> split at hy
      · omega
      · cases hx
        rename_i h5 h6
        exact absurd (h.apart i' j y e0 hy h2 (hxy.symm.trans h3.symm)) h6
      · cases hy
        rename_i h5 h6
        exact absurd (h.apart i j x e0 hx h2 (hxy.trans h3.symm)) h5
      · exact h.apart i i' x y hx hy hxy
    · intro q d
      rw [hlist]
      simp only [fPut]
      by_cases hq : q = k
      · subst hq
        rw [if_pos rfl]
        constructor
        · intro hd
          simp only [Option.some.injEq] at hd
          subst hd
          exact ⟨_, (hmem _).2 (.inl rfl), rfl, rfl⟩
        · rintro ⟨x, hx, e1, e2⟩
          rcases (hmem x).1 hx with rfl | ⟨-, hne⟩
          · simp only [Value.int.injEq, true_and] at e2
            rw [e2]
          · exact absurd e1 hne
      · rw [if_neg hq, h.fits q d]
        constructor
        · rintro ⟨x, hx, e1, e2⟩
          exact ⟨x, (hmem x).2 (.inr ⟨hx, by rw [e1]; intro he; simp only [Value.int.injEq, true_and] at he; exact hq he⟩), e1, e2⟩
        · rintro ⟨x, hx, e1, e2⟩
          rcases (hmem x).1 hx with rfl | ⟨hx, -⟩
          · simp only [Value.int.injEq, true_and] at e1
            exact absurd e1.symm hq
          · exact ⟨x, hx, e1, e2⟩
theorem run_mapDel (h : IM es n f) (hb : w.heap[b]? = some (.map es ck)) {k : Int} (hk : (Lit.int .i64 k).wf = true) (ty : TypeId) :
    ∃ es', (Builtin.delete_ #[118, 3] ty #[.map (some b), .int .i64 k]).run Try.prog w = .ok (.tuple #[]) (setBlock w b (.map es' ck)) ∧ IM es' n (fDel f k) := by
  have hkey := keyOf_i64 hk
  have K := int_keyed'
  rcases K.find w hkey es.toList h.keysOk with ⟨h1, h2⟩ | ⟨j, e0, h1, h2, h3⟩
  · refine ⟨es, ?_, ⟨h.size, h.ints, h.apart, ?_⟩⟩
    · simp [Builtin.delete_, run_underlying Try.underlying118, MapKept.run_getObj_map hb, K.check w _ hkey, h1, MapKept.run_setObj_map _ hb, Result.andThen, setBlock]
    · intro q d
      simp only [fDel]
      by_cases hq : q = k
      · subst hq
        rw [if_pos rfl]
        constructor
        · intro hd; cases hd
        · rintro ⟨x, hx, e1, -⟩
          exact absurd e1 (h2 x hx)
      · rw [if_neg hq]; exact h.fits q d
  · have hjl : j < es.toList.length := (List.getElem?_eq_some_iff.1 h2).1
    have hjs : j < es.size := by simpa using hjl
    have hsub : (es.eraseIdxIfInBounds j).toList = es.toList.eraseIdx j := by
      unfold Array.eraseIdxIfInBounds
      rw [dif_pos hjs]
      simp
    have hmem : ∀ x, x ∈ es.toList.eraseIdx j ↔ x ∈ es.toList ∧ x.key ≠ .int .i64 k := fun x => by
      rw [List.mem_eraseIdx_iff_getElem?]
      constructor
      · rintro ⟨i, hne, hi⟩
        exact ⟨List.mem_of_getElem? hi, fun e => hne (h.apart i j x e0 hi h2 (e.trans h3.symm))⟩
      · rintro ⟨hx, hne⟩
        obtain ⟨i, hi⟩ := List.getElem?_of_mem hx
        refine ⟨i, ?_, hi⟩
        rintro rfl
        rw [h2] at hi
        cases hi
        exact hne h3
    refine ⟨es.eraseIdxIfInBounds j, ?_, ⟨Nat.le_trans (MapFrom.size_erase es j) h.size, ?_, ?_, ?_⟩⟩
    · simp [Builtin.delete_, run_underlying Try.underlying118, MapKept.run_getObj_map hb, K.check w _ hkey, h1, MapKept.run_setObj_map _ hb, Result.andThen, setBlock]
    · intro x hx
      rw [hsub] at hx
      exact h.ints x ((hmem x).1 hx).1
    · intro i i' x y hx hy hxy
      rw [hsub, List.getElem?_eraseIdx] at hx hy
      split at hx <;> split at hy <;> have := h.apart _ _ x y hx hy hxy <;> omega
    · intro q d
      rw [hsub]
      simp only [fDel]
      by_cases hq : q = k
      · subst hq
        rw [if_pos rfl]
        constructor
        · intro hd; cases hd
        · rintro ⟨x, hx, e1, -⟩
          exact absurd e1 ((hmem x).1 hx).2
      · rw [if_neg hq, h.fits q d]
        constructor
        · rintro ⟨x, hx, e1, e2⟩
          exact ⟨x, (hmem x).2 ⟨hx, by rw [e1]; intro he; simp only [Value.int.injEq, true_and] at he; exact hq he⟩, e1, e2⟩
        · rintro ⟨x, hx, e1, e2⟩
          exact ⟨x, ((hmem x).1 hx).1, e1, e2⟩
end
section
variable {W w : World} {m : List (Nat × Obj)} {b : Nat} {o : Obj} {es : Array MapEntry} {ck : Nat}
theorem Own.setMap (h : Own W ((b, .map es ck) :: m) w) (es' : Array MapEntry) (ck' : Nat) : Own W ((b, .map es' ck') :: m) (setBlock w b (.map es' ck')) := by
  have hg := h.get (List.mem_cons_self)
  have hge := h.ge (List.mem_cons_self)
  have hlt := heap_lt hg
  have hother : ∀ k, k ≠ b → (setBlock w b (.map es' ck')).heap[k]? = w.heap[k]? := fun k hk => by
    simp only [setBlock]
    rw [Array.getElem?_setIfInBounds, if_neg (fun e => hk e.symm)]
  have hb := h.below
  refine ⟨⟨hb.os, hb.tape, hb.output, by simpa [setBlock] using hb.size, fun k hk => ?_⟩, fun p hm => ?_, h.nd⟩
  · rw [hother k (by omega)]; exact hb.block k hk
  · rcases List.mem_cons.1 hm with rfl | hm
    · exact ⟨hge, by simp [setBlock, Array.getElem?_setIfInBounds, hlt]⟩
    · exact ⟨(h.at_ p (List.mem_cons_of_mem _ hm)).1, (hother p.1 (Own.ne h (b' := p.1) (o' := p.2) hm)).trans (h.at_ p (List.mem_cons_of_mem _ hm)).2⟩
end
section
variable {W w : World} {M : List (Nat × Obj)} {es : Array MapEntry} {ck n b : Nat} {f : Int → Option Int}
variable {ops : Array Oper} {rest : List Oper} {o : Oper} {a : Act} {Q : Exit → Act → World → Prop}
/-- '(at_lookup; refine wpList_mapGet rfl _ _ rfl rfl rfl hIM hb hk ?_)' -/
theorem wpList_mapGet (hg : o.guard = none) (m x : Operand) (hop : o.op = Op.lookup 118 m x true) {k : Int} (hm : a.eval m = .map (some b)) (hx : a.eval x = .int .i64 k)
    (h : IM es n f) (hb : w.heap[b]? = some (.map es ck)) (hk : (Lit.int .i64 k).wf = true)
    (hK : wpList Try.prog ops Q rest (a.put o.dst (.tuple #[.int .i64 ((f k).getD 0), .bool (f k).isSome])) w) : wpList Try.prog ops Q (o :: rest) a w := by
  refine wpList_plain hg fun K' hK' => ?_
  unfold Oper.wp
  simp [execOp, hop, hm, hx, run_mapGet h hb hk, Result.andThen]
  exact hK' _ _ hK
/-- '(at_mapUpdate; refine wpList_mapPut rfl _ _ _ rfl rfl rfl rfl hIM hO hn hk ?_; intro es' ck' k1 k2)' -/
theorem wpList_mapPut (hg : o.guard = none) (m x v : Operand) (hop : o.op = Op.mapUpdate 118 m x v) {k c : Int} (hm : a.eval m = .map (some b)) (hx : a.eval x = .int .i64 k) (hv : a.eval v = .int .i64 c)
    (h : IM es n f) (hO : Own W ((b, .map es ck) :: M) w) (hn : n < maxLen) (hk : (Lit.int .i64 k).wf = true)
    (hK : ∀ es' ck' w', IM es' (n + 1) (fPut f k c) → Own W ((b, .map es' ck') :: M) w' → wpList Try.prog ops Q rest (a.put o.dst undef) w') : wpList Try.prog ops Q (o :: rest) a w := by
  refine wpList_plain hg fun K' hK' => ?_
  obtain ⟨es', ck', hrun, h1⟩ := run_mapPut h (hO.get List.mem_cons_self) hn hk c
  unfold Oper.wp
  simp [execOp, hop, hm, hx, hv, hrun, Result.andThen]
  exact hK' _ _ (hK es' ck' _ h1 (hO.setMap es' ck'))
/-- '(at_delete; refine wpList_mapDel rfl _ _ rfl rfl rfl hIM hO hk ?_; intro es' w' k1 k2)' -/
theorem wpList_mapDel (hg : o.guard = none) (m x : Operand) (hop : o.op = Op.call { callee := Callee.builtin Builtin.delete, args := #[m, x], argTypes := #[118, 3] }) {k : Int} (hm : a.eval m = .map (some b)) (hx : a.eval x = .int .i64 k)
    (h : IM es n f) (hO : Own W ((b, .map es ck) :: M) w) (hk : (Lit.int .i64 k).wf = true)
    (hK : ∀ es' w', IM es' n (fDel f k) → Own W ((b, .map es' ck) :: M) w' → wpList Try.prog ops Q rest (a.put o.dst (.tuple #[])) w') : wpList Try.prog ops Q (o :: rest) a w := by
  refine wpList_plain hg fun K' hK' => ?_
  obtain ⟨es', hrun, h1⟩ := run_mapDel h (hO.get List.mem_cons_self) hk o.type
  unfold Oper.wp
  simp [execOp, hop, resolve, invoke, builtin, hm, hx, hrun, Result.andThen]
  exact hK' _ _ (hK es' _ h1 (hO.setMap es' ck))
end
end Go.Proofs.Ytigakendeghoaaa
