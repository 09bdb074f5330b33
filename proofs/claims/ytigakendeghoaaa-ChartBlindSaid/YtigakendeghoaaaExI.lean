/-
  The runner: operations that make a block, or change one, or call. No condition.
-/
import Derived.Test.YtigakendeghoaaaExH
namespace Go.Proofs.Ytigakendeghoaaa.Ex
open Go
variable [Nums]
section
variable {P : Program} {ρ ρ' : Ren}
omit [Nums] in
theorem rep_get : ∀ (n : Nat) (z : List Value) (i : Nat), i < n * z.length → (List.replicate n z).flatten[i]? = z[i % z.length]?
  | 0, z, i, h => by omega
  | n + 1, z, i, h => by
    rw [List.replicate_succ, List.flatten_cons]
    by_cases hi : i < z.length
    · rw [List.getElem?_append_left hi, Nat.mod_eq_of_lt hi]
    · rw [List.getElem?_append_right (by omega), rep_get n z (i - z.length) (by rw [Nat.succ_mul] at h; omega)]
      congr 1
      rw [← Nat.mod_eq_sub_mod (by omega)]
omit [Nums] in
theorem rep_len (n : Nat) (z : List Value) : (List.replicate n z).flatten.length = n * z.length := by
  induction n with
  | zero => simp
  | succ n ih => rw [List.replicate_succ, List.flatten_cons, List.length_append, ih, Nat.succ_mul]; omega
omit [Nums] in
theorem rows_eq (z : Array Value) (n : Nat) : ((Array.range (n * z.size)).map (z[· % z.size]!)).toList = (List.replicate n z.toList).flatten := by
  apply List.ext_getElem?
  intro i
  by_cases hi : i < n * z.size
  · have h0 : 0 < z.size := by
      rcases Nat.eq_zero_or_pos z.size with h | h
      · rw [h] at hi; simp at hi
      · exact h
    have hm : i % z.size < z.size := Nat.mod_lt _ h0
    have := rep_get n z.toList i (by simpa using hi)
    rw [this]
    simp [hi, hm, List.getElem?_eq_getElem]
  · have h1 := rep_len n z.toList
    rw [List.getElem?_eq_none (by simp; omega), List.getElem?_eq_none (by rw [h1]; simp; omega)]
omit [Nums] in
theorem allOne_append : ∀ {a b : List AV}, allOne a = true → allOne b = true → allOne (a ++ b) = true
  | [], _, _, hb => hb
  | x :: a, b, ha, hb => by
    unfold allOne at ha
    split at ha <;> first | (cases ha; done) | skip
    rename_i hx
    rw [List.cons_append]
    unfold allOne
    rw [hx]
    exact allOne_append ha hb
omit [Nums] in
theorem allOne_rep {z : List AV} (h : allOne z = true) : ∀ n, allOne (rep n z) = true
  | 0 => rfl
  | n + 1 => allOne_append h (allOne_rep h n)
theorem OR.notNone {o : AO} {s : Nat} (h : OR ρ o s none) : False := by
  cases o with
  | cells cs k e => obtain ⟨_, h1, _⟩ := h; cases h1
  | map es => obtain ⟨_, _, h1, _⟩ := h; cases h1
def AllocR (P : Program) (ρ : Ren) (a : Act) (o : Oper) (ao : AO) (k : AK) : Prop :=
  ∃ obj s, OR ρ ao s (some obj) ∧ ∀ w : World, ∃ x, (execOp a.eval o).run P w = .ok (.value x) (w.alloc obj) ∧ ∀ (ρ' : Ren) n, ρ' n = some (w.heap.size, s) → VR ρ' (k.at n) x
theorem alloc_sound {o : Oper} {a : Act} {vs : List AV} {ao : AO} {k : AK} (h : aalloc P o.op vs = some (ao, k)) (hv : VRs ρ vs (o.op.operands.toList.map a.eval)) : AllocR P ρ a o ao k := by
  unfold AllocR execOp
  generalize o.op = op at h hv
  cases op with
  | alloc t =>
    simp only [aalloc] at h
    split at h <;> first | (cases h; done) | skip
    rename_i z hz
    split at h <;> first | (cases h; done) | skip
    rename_i h1
    simp only [Option.some.injEq, Prod.mk.injEq] at h
    obtain ⟨rfl, rfl⟩ := h
    obtain ⟨_, zv, _, _, hof, hzr⟩ := zeroT_run hz
    have hc := (ofV_sound ρ hof).cells
    refine ⟨.cells zv.cells t (0, 0), zv.cells.size, by simpa using cellsOf_or hc h1 t, fun w => ⟨.pointer (some ⟨w.heap.size, 0, none⟩), ?_, fun ρ' n hn => by unfold AK.at VR; exact ⟨_, _, hn, rfl⟩⟩⟩
    simp [Instr.alloc, hzr w, newVar, newRow]
  | box t x =>
    simp only [aalloc] at h
    split at h <;> first | (cases h; done) | skip
    rename_i v
    split at h <;> first | (cases h; done) | skip
    rename_i h1
    simp only [Option.some.injEq, Prod.mk.injEq] at h
    obtain ⟨rfl, rfl⟩ := h
    obtain ⟨y, hy, hr⟩ := hv.one
    simp [Op.operands] at hy
    have hc := hr.cells
    refine ⟨.cells y.cells t (0, 0), y.cells.size, by simpa using cellsOf_or hc h1 t, fun w => ⟨.pointer (some ⟨w.heap.size, 0, none⟩), ?_, fun ρ' n hn => by unfold AK.at VR; exact ⟨_, _, hn, rfl⟩⟩⟩
    simp [Instr.box, hy, newVar, newRow]
  | buildSlice t len parts =>
    simp only [aalloc] at h
    split at h <;> first | (cases h; done) | skip
    rename_i e hu
    split at h <;> first | (cases h; done) | skip
    rename_i s hs
    split at h <;> first | (cases h; done) | skip
    rename_i hle
    have hle : len * s ≤ 16777216 ∧ len ≤ 16777216 := by simpa using hle
    obtain ⟨hle, hlen⟩ := hle
    split at h <;> first | (cases h; done) | skip
    rename_i z hz
    split at h <;> first | (cases h; done) | skip
    rename_i hzl
    have hzl := Nat.eq_of_beq_eq_true hzl
    split at h <;> first | (cases h; done) | skip
    rename_i ps hps
    split at h <;> first | (cases h; done) | skip
    rename_i l hl
    split at h <;> first | (cases h; done) | skip
    rename_i h1
    simp only [Option.some.injEq, Prod.mk.injEq] at h
    obtain ⟨rfl, rfl⟩ := h
    obtain ⟨k1, k2⟩ := zipParts_sound hps hv a.eval (by simp [Op.operands])
    obtain ⟨_, zv, _, _, hof, hzr⟩ := zeroT_run hz
    have hc := (ofV_sound ρ hof).cells
    have hcl : zv.cells.size = s := by have := hc.len; rw [hzl] at this; simpa using this.symm
    have hrep : VRs ρ (rep len z.cells) ((Array.range (len * s)).map (zv.cells[· % zv.cells.size]!)).toList := by
      rw [← hcl, rows_eq]
      exact hc.rep len
    obtain ⟨b, hb, hbr⟩ := fill_sound hl hrep k1 k2
    refine ⟨.cells b e (0, 0), b.size, by simpa using cellsOf_or hbr h1 e, fun w => ⟨.slice (some ⟨w.heap.size, 0, none⟩) len len, ?_, fun ρ' n hn => ?_⟩⟩
    · have hparts : (parts.map fun (i, x) => (i, a.eval x)).toList = parts.toList.map fun p => (p.1, a.eval p.2) := by simp
      have hz0 : (if len * s = 0 then pure #[] else do pure (← zeroValue e).cells : Sem (Array Value)).run P w = .ok (if len * s = 0 then #[] else zv.cells) w := by
        split <;> simp [hzr w]
      have hbuild : (Instr.buildSlice t len (parts.map fun (i, x) => (i, a.eval x))).run P w = .ok (.slice (some ⟨w.heap.size, 0, none⟩) len len) (w.alloc (.cells b e (0, 0))) := by
        unfold Instr.buildSlice
        simp only [Sem.run_bind, run_underlying hu w, Result.andThen_ok, sizeT_run hs w]
        have hno : ¬ len * s > 2 ^ 24 := by omega
        simp only [hno, if_false]
        have hb' : Instr.fill (fun i => some (i * s, s)) ((Array.range (len * s)).map (zv.cells[· % zv.cells.size]!)) (parts.toList.map fun p => (p.1, a.eval p.2)) = some b := hb
        by_cases h0 : len * s = 0
        · rw [if_pos h0]
          have hr0 : ∀ f g : Nat → Value, (Array.range (len * s)).map f = (Array.range (len * s)).map g := fun f g => by rw [h0]; simp
          simp only [Sem.run_bind, Sem.run_pure, Result.andThen_ok, hparts]
          rw [hr0 _ (zv.cells[· % zv.cells.size]!), hb']
          simp [newRow]
        · rw [if_neg h0]
          simp only [Sem.run_bind, Sem.run_pure, Result.andThen_ok, hzr w, hparts]
          rw [hb']
          simp [newRow]
      simp [hbuild]
    · have hbl : b.size = len * s := by
        have h2 := hbr.len
        have h3 : l.length = (rep len z.cells).length := by
          have : ∀ {pl : Nat → Option (Nat × Nat)} {ps : List (Nat × AV)} {cells out : List AV}, afill pl cells ps = some out → out.length = cells.length := by
            intro pl ps
            induction ps with
            | nil => intro cells out h; simp only [afill, Option.some.injEq] at h; rw [h]
            | cons p ps ih =>
              intro cells out h
              obtain ⟨i, v⟩ := p
              unfold afill at h
              split at h <;> first | (cases h; done) | skip
              split at h <;> first | (cases h; done) | skip
              rename_i hlen
              have hlen := Nat.eq_of_beq_eq_true hlen
              split at h <;> first | (cases h; done) | skip
              rename_i hfit
              have hfit := Nat.le_of_ble_eq_true hfit
              rw [ih h]
              simp only [List.length_append, List.length_take, List.length_drop, hlen]
              have e : ∀ a b : Nat, Nat.add a b = a + b := fun _ _ => rfl
              simp only [e] at hfit ⊢
              omega
          exact this hl
        rw [h3] at h2
        have h4 := hrep.len
        simp at h2 h4
        omega
      unfold AK.at VR
      refine ⟨_, _, len, hn, rfl, Nat.le_refl _, ?_, rfl, hbl.symm⟩
      unfold maxLen; omega
  | makeMap t r =>
    simp only [aalloc] at h
    split at h <;> first | (cases h; done) | skip
    split at h <;> first | (cases h; done) | skip
    simp only [Option.some.injEq, Prod.mk.injEq] at h
    obtain ⟨rfl, rfl⟩ := h
    refine ⟨.map #[] 0, 0, ⟨#[], 0, rfl, rfl⟩, fun w => ⟨.map (some w.heap.size), ?_, fun ρ' n hn => by unfold AK.at VR; exact ⟨_, _, hn, rfl⟩⟩⟩
    simp [Instr.makeMap]
  | makeSlice t x y =>
    simp only [aalloc] at h
    split at h <;> first | (cases h; done) | skip
    rename_i e hu
    split at h <;> first | (cases h; done) | skip
    rename_i i hi
    split at h <;> first | (cases h; done) | skip
    rename_i kl l kc c
    split at h <;> first | (cases h; done) | skip
    rename_i hlc
    have hlc : l ≤ c := by simpa using hlc
    split at h <;> first | (cases h; done) | skip
    rename_i hby
    have hby : i.bytes * c ≤ 281474976710656 := by simpa using hby
    split at h <;> first | (cases h; done) | skip
    rename_i h63
    have h63 : c ≤ 9223372036854775807 := by simpa using h63
    split at h <;> first | (cases h; done) | skip
    rename_i z hz
    split at h <;> first | (cases h; done) | skip
    rename_i hzl
    have hzl := Nat.eq_of_beq_eq_true hzl
    split at h <;> first | (cases h; done) | skip
    rename_i hpos
    have hpos : 0 < i.size := by simpa using hpos
    split at h <;> first | (cases h; done) | skip
    rename_i h1
    simp only [Option.some.injEq, Prod.mk.injEq] at h
    obtain ⟨rfl, rfl⟩ := h
    obtain ⟨i', zv, hi', hiz, hof, hzr⟩ := zeroT_run hz
    rw [hi] at hi'
    cases hi'
    have hc := (ofV_sound ρ hof).cells
    have hcl : zv.cells.size = i.size := by have := hc.len; rw [hzl] at this; simpa using this.symm
    obtain ⟨y1, y2, hy, hr1, hr2⟩ := hv.two
    simp [Op.operands] at hy
    obtain ⟨e1, e2⟩ := hy
    have hr1 := hr1.int_inv
    have hr2 := hr2.int_inv
    subst hr1; subst hr2
    have hmade : (madeCells zv.cells (c * i.size)).toList = (List.replicate c zv.cells.toList).flatten := by
      unfold madeCells
      rw [← hcl]
      exact rows_eq zv.cells c
    have hrep : VRs ρ (rep c z.cells) (madeCells zv.cells (c * i.size)).toList := by
      rw [hmade]
      exact hc.rep c
    have hone := allOne_rep h1 c
    refine ⟨.cells (madeCells zv.cells (c * i.size)) e (0, 0), (madeCells zv.cells (c * i.size)).size, by simpa using cellsOf_or hrep hone e, fun w => ⟨.slice (some ⟨w.heap.size, 0, none⟩) l c, ?_, fun ρ' n hn => ?_⟩⟩
    · have hb : (i.bytes : Int) * (c : Int) ≤ 281474976710656 := by
        have h : ((i.bytes * c : Nat) : Int) ≤ 281474976710656 := by omega
        rwa [Int.natCast_mul] at h
      have hrm := run_make (P := P) w t e i zv hu hi hiz kl kc (l : Int) (c : Int) (by omega) (by omega) hb (by omega)
      simp only [Int.toNat_natCast] at hrm
      have e1' : a.eval x = .int kl ((l : Nat) : Int) := e1
      have e2' : a.eval y = .int kc ((c : Nat) : Int) := e2
      simp [e1', e2', hrm]
    · unfold AK.at VR
      refine ⟨_, _, c, hn, rfl, hlc, by unfold maxLen; omega, rfl, ?_⟩
      rw [size_madeCells]
  | _ => simp [aalloc] at h
end
end Go.Proofs.Ytigakendeghoaaa.Ex
