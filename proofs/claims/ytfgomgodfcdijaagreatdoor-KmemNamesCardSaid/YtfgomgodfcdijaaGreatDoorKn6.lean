/-
  Texts of this claim, joined. No condition.
-/
import Derived.Test.YtfgomgodfcdijaaGreatDoorKn5
import Derived.Lib.AppendZeros
/-
  The runner: operations that make a block, or change one, or call. No condition.
-/
namespace Go.Proofs.YtfgomgodfcdijaaGreatDoor.Ex
open Go
variable [Nums]
section
variable {P : Program} {ρ ρ' : Ren}
omit [Nums] in
theorem rep_get : ∀ (n : Nat) (z : List Value) (i : Nat), i < n * z.length → (List.replicate n z).flatten[i]? = z[i % z.length]?
  | 0, z, i, h => by omega
  | n + 1, z, i, h => by
    rw [List.replicate_succ, List.flatten_cons]
    by_cases hi : i < z.length
    · rw [List.getElem?_append_left hi, Nat.mod_eq_of_lt hi]
    · rw [List.getElem?_append_right (by omega), rep_get n z (i - z.length) (by rw [Nat.succ_mul] at h; omega)]
      congr 1
      rw [← Nat.mod_eq_sub_mod (by omega)]
omit [Nums] in
theorem rep_len (n : Nat) (z : List Value) : (List.replicate n z).flatten.length = n * z.length := by
  induction n with
  | zero => simp
  | succ n ih => rw [List.replicate_succ, List.flatten_cons, List.length_append, ih, Nat.succ_mul]; omega
omit [Nums] in
theorem rows_eq (z : Array Value) (n : Nat) : ((Array.range (n * z.size)).map (z[· % z.size]!)).toList = (List.replicate n z.toList).flatten := by
  apply List.ext_getElem?
  intro i
  by_cases hi : i < n * z.size
  · have h0 : 0 < z.size := by
      rcases Nat.eq_zero_or_pos z.size with h | h
      · rw [h] at hi; simp at hi
      · exact h
    have hm : i % z.size < z.size := Nat.mod_lt _ h0
    have := rep_get n z.toList i (by simpa using hi)
    rw [this]
    simp [hi, hm]
  · have h1 := rep_len n z.toList
    rw [List.getElem?_eq_none (by simp; omega), List.getElem?_eq_none (by rw [h1]; simp; omega)]
omit [Nums] in
theorem allOne_append : ∀ {a b : List AV}, allOne a = true → allOne b = true → allOne (a ++ b) = true
  | [], _, _, hb => hb
  | x :: a, b, ha, hb => by
    unfold allOne at ha
    split at ha <;> first | (cases ha; done) | skip
    rename_i hx
    rw [List.cons_append]
    unfold allOne
    rw [hx]
    exact allOne_append ha hb
omit [Nums] in
theorem allOne_rep {z : List AV} (h : allOne z = true) : ∀ n, allOne (rep n z) = true
  | 0 => rfl
  | n + 1 => allOne_append h (allOne_rep h n)
theorem OR.notNone {o : AO} {s : Nat} (h : OR ρ o s none) : False := by
  cases o with
  | cells cs k e => obtain ⟨_, h1, _⟩ := h; cases h1
  | map es bs ck => obtain ⟨_, h1, _⟩ := h; cases h1
  | mit m since seen last => cases m with
    | none => cases h
    | some m => obtain ⟨_, _, _, h1⟩ := h; cases h1
  | opq i => obtain ⟨_, _, _, _, _, _, h1⟩ := h; cases h1
  | opb i n m => obtain ⟨_, _, _, _, _, _, _, h1, _⟩ := h; cases h1
  | recs l ks e => obtain ⟨_, h1, _⟩ := h; cases h1
omit [Nums] in
theorem flat_one {α : Type} (v : α) : ∀ c : Nat, (List.replicate c [v]).flatten = List.replicate c v
  | 0 => rfl
  | c + 1 => by rw [List.replicate_succ, List.flatten_cons, flat_one v c]; rfl
def AllocR (P : Program) (ρ : Ren) (a : Act) (o : Oper) (ao : AO) (k : AK) : Prop :=
  ∃ obj s, OR ρ ao s (some obj) ∧ ∀ w : World, ∃ x, (execOp a.eval o).run P w = .ok (.value x) (w.alloc obj) ∧ ∀ (ρ' : Ren) n, ρ' n = some (w.heap.size, s) → VR ρ' (k.at n) x
theorem alloc_sound {o : Oper} {a : Act} {vs : List AV} {ao : AO} {k : AK} (h : aalloc P o.op vs = some (ao, k)) (hv : VRs ρ vs (o.op.operands.toList.map a.eval)) : AllocR P ρ a o ao k := by
  unfold AllocR execOp
  generalize o.op = op at h hv
  cases op with
  | alloc t =>
    simp only [aalloc] at h
    split at h <;> first | (cases h; done) | skip
    rename_i z hz
    split at h <;> first | (cases h; done) | skip
    rename_i h1
    simp only [Option.some.injEq, Prod.mk.injEq] at h
    obtain ⟨rfl, rfl⟩ := h
    obtain ⟨_, zv, _, _, hof, hzr⟩ := zeroT_run hz
    have hc := (ofV_sound ρ hof).cells
    refine ⟨.cells zv.cells t (0, 0), zv.cells.size, by simpa using cellsOf_or hc h1 t, fun w => ⟨.pointer (some ⟨w.heap.size, 0, none⟩), ?_, fun ρ' n hn => by unfold AK.at VR; exact ⟨_, _, hn, rfl⟩⟩⟩
    simp [Instr.alloc, hzr w, newVar, newRow]
  | box t x =>
    simp only [aalloc] at h
    split at h <;> first | (cases h; done) | skip
    rename_i v
    split at h <;> first | (cases h; done) | skip
    rename_i h1
    simp only [Option.some.injEq, Prod.mk.injEq] at h
    obtain ⟨rfl, rfl⟩ := h
    obtain ⟨y, hy, hr⟩ := hv.one
    simp [Op.operands] at hy
    have hc := hr.cells
    refine ⟨.cells y.cells t (0, 0), y.cells.size, by simpa using cellsOf_or hc h1 t, fun w => ⟨.pointer (some ⟨w.heap.size, 0, none⟩), ?_, fun ρ' n hn => by unfold AK.at VR; exact ⟨_, _, hn, rfl⟩⟩⟩
    simp [Instr.box, hy, newVar, newRow]
  | buildSlice t len parts =>
    simp only [aalloc] at h
    split at h <;> first | (cases h; done) | skip
    rename_i e hu
    split at h <;> first | (cases h; done) | skip
    rename_i s hs
    split at h <;> first | (cases h; done) | skip
    rename_i hle
    have hle : len * s ≤ 16777216 ∧ len ≤ 16777216 := by simpa using hle
    obtain ⟨hle, hlen⟩ := hle
    split at h <;> first | (cases h; done) | skip
    rename_i z hz
    split at h <;> first | (cases h; done) | skip
    rename_i hzl
    have hzl := Nat.eq_of_beq_eq_true hzl
    split at h <;> first | (cases h; done) | skip
    rename_i ps hps
    split at h <;> first | (cases h; done) | skip
    rename_i l hl
    split at h <;> first | (cases h; done) | skip
    rename_i h1
    simp only [Option.some.injEq, Prod.mk.injEq] at h
    obtain ⟨rfl, rfl⟩ := h
    obtain ⟨k1, k2⟩ := zipParts_sound hps hv a.eval (by simp [Op.operands])
    obtain ⟨_, zv, _, _, hof, hzr⟩ := zeroT_run hz
    have hc := (ofV_sound ρ hof).cells
    have hcl : zv.cells.size = s := by have := hc.len; rw [hzl] at this; simpa using this.symm
    have hrep : VRs ρ (rep len z.cells) ((Array.range (len * s)).map (zv.cells[· % zv.cells.size]!)).toList := by
      rw [← hcl, rows_eq]
      exact hc.rep len
    obtain ⟨b, hb, hbr⟩ := fill_sound hl hrep k1 k2
    refine ⟨.cells b e (0, 0), b.size, by simpa using cellsOf_or hbr h1 e, fun w => ⟨.slice (some ⟨w.heap.size, 0, none⟩) len len, ?_, fun ρ' n hn => ?_⟩⟩
    · have hparts : (parts.map fun (i, x) => (i, a.eval x)).toList = parts.toList.map fun p => (p.1, a.eval p.2) := by simp
      have hz0 : (if len * s = 0 then pure #[] else do pure (← zeroValue e).cells : Sem (Array Value)).run P w = .ok (if len * s = 0 then #[] else zv.cells) w := by
        split <;> simp [hzr w]
      have hbuild : (Instr.buildSlice t len (parts.map fun (i, x) => (i, a.eval x))).run P w = .ok (.slice (some ⟨w.heap.size, 0, none⟩) len len) (w.alloc (.cells b e (0, 0))) := by
        unfold Instr.buildSlice
        simp only [Sem.run_bind, run_underlying hu w, Result.andThen_ok, sizeT_run hs w]
        have hno : ¬ len * s > 2 ^ 24 := by omega
        simp only [hno, if_false]
        have hb' : Instr.fill (fun i => some (i * s, s)) ((Array.range (len * s)).map (zv.cells[· % zv.cells.size]!)) (parts.toList.map fun p => (p.1, a.eval p.2)) = some b := hb
        by_cases h0 : len * s = 0
        · rw [if_pos h0]
          have hr0 : ∀ f g : Nat → Value, (Array.range (len * s)).map f = (Array.range (len * s)).map g := fun f g => by rw [h0]; simp
          simp only [Sem.run_bind, Sem.run_pure, Result.andThen_ok, hparts]
          rw [hr0 _ (zv.cells[· % zv.cells.size]!), hb']
          simp [newRow]
        · rw [if_neg h0]
          simp only [Sem.run_bind, Sem.run_pure, Result.andThen_ok, hzr w, hparts]
          rw [hb']
          simp [newRow]
      simp [hbuild]
    · have hbl : b.size = len * s := by
        have h2 := hbr.len
        have h3 : l.length = (rep len z.cells).length := by
          have : ∀ {pl : Nat → Option (Nat × Nat)} {ps : List (Nat × AV)} {cells out : List AV}, afill pl cells ps = some out → out.length = cells.length := by
            intro pl ps
            induction ps with
            | nil => intro cells out h; simp only [afill, Option.some.injEq] at h; rw [h]
            | cons p ps ih =>
              intro cells out h
              obtain ⟨i, v⟩ := p
              unfold afill at h
              split at h <;> first | (cases h; done) | skip
              split at h <;> first | (cases h; done) | skip
              rename_i hlen
              have hlen := Nat.eq_of_beq_eq_true hlen
              split at h <;> first | (cases h; done) | skip
              rename_i hfit
              have hfit := Nat.le_of_ble_eq_true hfit
              rw [ih h]
              simp only [List.length_append, List.length_take, List.length_drop, hlen]
              have e : ∀ a b : Nat, Nat.add a b = a + b := fun _ _ => rfl
              simp only [e] at hfit ⊢
              omega
          exact this hl
        rw [h3] at h2
        have h4 := hrep.len
        simp at h2 h4
        omega
      unfold AK.at VR
      refine ⟨_, _, len, hn, rfl, Nat.le_refl _, ?_, rfl, hbl.symm⟩
      unfold maxLen; omega
  | makeMap t r =>
    simp only [aalloc] at h
    split at h <;> first | (cases h; done) | skip
    split at h <;> first | (cases h; done) | skip
    simp only [Option.some.injEq, Prod.mk.injEq] at h
    obtain ⟨rfl, rfl⟩ := h
    refine ⟨.map #[] 0, 0, ⟨#[], rfl, rfl, rfl⟩, fun w => ⟨.map (some w.heap.size), ?_, fun ρ' n hn => by unfold AK.at VR; exact ⟨_, _, hn, rfl⟩⟩⟩
    simp [Instr.makeMap]
  | makeSlice t x y =>
    simp only [aalloc] at h
    split at h <;> first | (cases h; done) | skip
    rename_i e hu
    split at h <;> first | (cases h; done) | skip
    rename_i i hi
    split at h <;> first | (cases h; done) | skip
    · rename_i kl l kc c
      split at h <;> first | (cases h; done) | skip
      rename_i hlc
      have hlc : l ≤ c := by simpa using hlc
      split at h <;> first | (cases h; done) | skip
      rename_i hby
      have hby : i.bytes * c ≤ 281474976710656 := by simpa using hby
      split at h <;> first | (cases h; done) | skip
      rename_i h63
      have h63 : c ≤ 9223372036854775807 := by simpa using h63
      split at h <;> first | (cases h; done) | skip
      rename_i z hz
      split at h <;> first | (cases h; done) | skip
      rename_i hzl
      have hzl := Nat.eq_of_beq_eq_true hzl
      split at h <;> first | (cases h; done) | skip
      rename_i hpos
      have hpos : 0 < i.size := by simpa using hpos
      split at h <;> first | (cases h; done) | skip
      rename_i h1
      simp only [Option.some.injEq, Prod.mk.injEq] at h
      obtain ⟨rfl, rfl⟩ := h
      obtain ⟨i', zv, hi', hiz, hof, hzr⟩ := zeroT_run hz
      rw [hi] at hi'
      cases hi'
      have hc := (ofV_sound ρ hof).cells
      have hcl : zv.cells.size = i.size := by have := hc.len; rw [hzl] at this; simpa using this.symm
      obtain ⟨y1, y2, hy, hr1, hr2⟩ := hv.two
      simp [Op.operands] at hy
      obtain ⟨e1, e2⟩ := hy
      have hr1 := hr1.int_inv
      have hr2 := hr2.int_inv
      subst hr1; subst hr2
      have hmade : (madeCells zv.cells (c * i.size)).toList = (List.replicate c zv.cells.toList).flatten := by
        unfold madeCells
        rw [← hcl]
        exact rows_eq zv.cells c
      have hrep : VRs ρ (rep c z.cells) (madeCells zv.cells (c * i.size)).toList := by
        rw [hmade]
        exact hc.rep c
      have hone := allOne_rep h1 c
      refine ⟨.cells (madeCells zv.cells (c * i.size)) e (0, 0), (madeCells zv.cells (c * i.size)).size, by simpa using cellsOf_or hrep hone e, fun w => ⟨.slice (some ⟨w.heap.size, 0, none⟩) l c, ?_, fun ρ' n hn => ?_⟩⟩
      · have hb : (i.bytes : Int) * (c : Int) ≤ 281474976710656 := by
          have h : ((i.bytes * c : Nat) : Int) ≤ 281474976710656 := by omega
          rwa [Int.natCast_mul] at h
        have hrm := run_make (P := P) w t e i zv hu hi hiz kl kc (l : Int) (c : Int) (by omega) (by omega) hb (by omega)
        simp only [Int.toNat_natCast] at hrm
        have e1' : a.eval x = .int kl ((l : Nat) : Int) := e1
        have e2' : a.eval y = .int kc ((c : Nat) : Int) := e2
        simp [e1', e2', hrm]
      · unfold AK.at VR
        refine ⟨_, _, c, hn, rfl, hlc, by unfold maxLen; omega, rfl, ?_⟩
        rw [size_madeCells]
    · rename_i ka ea kb eb
      split at h <;> first | (cases h; done) | skip
      rename_i hab
      have hab := SE.beq_eq hab
      subst hab
      split at h <;> first | (cases h; done) | skip
      rename_i h0
      have h0 : ¬ ea.ev Nums.σ < 0 := of_decide_eq_false (askLt_ok h0)
      split at h <;> first | (cases h; done) | skip
      rename_i hm
      have hm : ea.ev Nums.σ < 16777216 := of_decide_eq_true (askLt_ok hm)
      split at h <;> first | (cases h; done) | skip
      rename_i hby
      have hby := Nat.le_of_ble_eq_true hby
      split at h <;> first | (cases h; done) | skip
      rename_i k hz
      split at h <;> first | (cases h; done) | skip
      rename_i hsz
      have hsz := Nat.eq_of_beq_eq_true hsz
      simp only [Option.some.injEq, Prod.mk.injEq] at h
      obtain ⟨rfl, rfl⟩ := h
      obtain ⟨i', zv, hi', hiz, hof, hzr⟩ := zeroT_run hz
      rw [hi] at hi'
      cases hi'
      have hzv := ofV_sound ρ hof
      have hzv := hzv.int_inv
      subst hzv
      obtain ⟨y1, y2, hy, hr1, hr2⟩ := hv.two
      simp [Op.operands] at hy
      obtain ⟨e1, e2⟩ := hy
      unfold VR at hr1 hr2
      obtain ⟨c, hc⟩ : ∃ c : Nat, ea.ev Nums.σ = c := ⟨(ea.ev Nums.σ).toNat, by omega⟩
      rw [hc] at hm hr1 hr2
      subst hr1; subst hr2
      have hcm : c < 16777216 := by omega
      have hbc : i.bytes * c ≤ 281474976710656 := by
        have := Nat.mul_le_mul hby (Nat.le_of_lt hcm)
        omega
      have hmade : madeCells (Value.int k 0).cells (c * i.size) = Array.replicate c (.int k 0) := by
        have hrow := rows_eq (Value.int k 0).cells c
        apply Array.ext'
        rw [hsz]
        have e0 : (madeCells (Value.int k 0).cells (c * 1)).toList = (List.replicate c (Value.int k 0).cells.toList).flatten := hrow
        rw [e0, Array.toList_replicate]
        exact flat_one _ c
      refine ⟨.cells (Array.replicate c (.int k 0)) e (0, 0), c, ⟨Array.replicate c (.int k 0), rfl, by simp, ?_, fun r j ck hr hk => ?_⟩, fun w => ⟨.slice (some ⟨w.heap.size, 0, none⟩) c c, ?_, fun ρ' n hn => ?_⟩⟩
      · simp only [SE.evN, hc, Int.toNat_natCast, List.length_cons, List.length_nil, Nat.zero_add, Nat.mul_one]
        exact Nat.le_refl _
      · simp only [SE.evN, hc, Int.toNat_natCast] at hr
        match j with
        | 0 =>
          simp only [List.getElem?_cons_zero, Option.some.injEq] at hk
          subst hk
          simp only [List.length_cons, List.length_nil, Nat.zero_add, Nat.mul_one, Nat.add_zero, SE.evA, CK.val]
          rw [Array.getElem?_replicate, if_pos hr]
        | j + 1 => simp at hk
      · have hb : (i.bytes : Int) * (c : Int) ≤ 281474976710656 := by
          have h : ((i.bytes * c : Nat) : Int) ≤ 281474976710656 := by omega
          rwa [Int.natCast_mul] at h
        have hrm := run_make (P := P) w t e i _ hu hi hiz ka kb (c : Int) (c : Int) (by omega) (by omega) hb (by omega)
        simp only [Int.toNat_natCast] at hrm
        rw [hmade] at hrm
        have e1' : a.eval x = .int ka ((c : Nat) : Int) := e1
        have e2' : a.eval y = .int kb ((c : Nat) : Int) := e2
        simp [e1', e2', hrm]
      · unfold AK.at VR
        refine ⟨_, _, c, c, hn, rfl, Nat.le_refl _, by unfold maxLen; omega, by omega, hc⟩
  | _ => simp [aalloc] at h
end
end Go.Proofs.YtfgomgodfcdijaaGreatDoor.Ex

/-
  The runner: operations that change a block, or call. No condition.
-/
namespace Go.Proofs.YtfgomgodfcdijaaGreatDoor.Ex
open Go
variable [Nums]
section
variable {P : Program} {ρ ρ' : Ren}
omit [Nums] in
theorem splice_get {cur : List Value} {ys : List Value} {off : Nat} (h : off + ys.length ≤ cur.length) (i : Nat) :
    (cur.take off ++ ys ++ cur.drop (off + ys.length))[i]? = if off ≤ i ∧ i < off + ys.length then ys[i - off]? else cur[i]? := by
  have h1 : (cur.take off).length = off := by rw [List.length_take]; omega
  by_cases h0 : i < off
  · rw [if_neg (by omega), List.append_assoc, List.getElem?_append_left (by omega), List.getElem?_take, if_pos h0]
  · by_cases h2 : i < off + ys.length
    · rw [if_pos ⟨by omega, h2⟩, List.getElem?_append_left (by rw [List.length_append]; omega), List.getElem?_append_right (by omega), h1]
    · rw [if_neg (by omega), List.getElem?_append_right (by rw [List.length_append]; omega), List.length_append, h1, List.getElem?_drop]
      congr 1
      omega
theorem splice_ok {cs : T AV} {cur : Array Value} {l : List AV} {ys : List Value} {off : Nat} (hc : CellsOk ρ cs cur) (hl : VRs ρ l ys) (h1 : allOne l = true) (hfit : off + ys.length ≤ cur.size) :
    CellsOk ρ (setN cs off l) (cur.toList.take off ++ ys ++ cur.toList.drop (off + ys.length)).toArray := by
  intro i v hv
  have hg := splice_get (cur := cur.toList) (ys := ys) (off := off) (by simpa using hfit) i
  rcases setN_get hv with ⟨k1, k2, k3⟩ | ⟨k1, k2⟩
  · obtain ⟨y, hy, hr⟩ := hl.get k3
    refine ⟨allOne_mem h1 v (List.mem_of_getElem? k3), y, ?_, hr⟩
    rw [List.getElem?_toArray, hg, if_pos ⟨k1, by rw [← hl.len]; exact k2⟩]
    exact hy
  · obtain ⟨o1, y, hy, hr⟩ := hc i v k2
    refine ⟨o1, y, ?_, hr⟩
    rw [List.getElem?_toArray, hg, if_neg (by rw [← hl.len]; omega)]
    simpa using hy
omit [Nums] in
theorem splice_size {cur : Array Value} {ys : List Value} {off : Nat} (hfit : off + ys.length ≤ cur.size) : (cur.toList.take off ++ ys ++ cur.toList.drop (off + ys.length)).toArray.size = cur.size := by
  simp only [List.size_toArray, List.length_append, List.length_take, List.length_drop, Array.length_toList]
  omega
omit [Nums] in
theorem fresh_spec {h h' : AH} {o : AO} (hf : fresh h o = some h') : h'.next = h.next + 1 ∧ ∀ j v, h'.get j = some v → (j = h.next ∧ v = o) ∨ (j ≠ h.next ∧ h.get j = some v) := by
  unfold fresh at hf
  split at hf <;> first | (cases hf; done) | skip
  simp only [Option.some.injEq] at hf
  subst hf
  obtain ⟨m, n⟩ := h
  refine ⟨rfl, fun j v hv => ?_⟩
  rcases T.get_put (t := m) (k := n) (x := some o) hv with ⟨h1, h2⟩ | ⟨h1, h2⟩
  · exact .inl ⟨h1, by cases h2; rfl⟩
  · exact .inr ⟨h1, h2⟩
omit [Nums] in
theorem put_spec {h : AH} {n : Nat} {x : Option AO} {j : Nat} {v : AO} (hv : (h.put n x).get j = some v) : (j = n ∧ x = some v) ∨ (j ≠ n ∧ h.get j = some v) := by
  obtain ⟨m, nx⟩ := h
  exact T.get_put hv
omit [Nums] in
theorem put_next {h : AH} {n : Nat} {x : Option AO} : (h.put n x).next = h.next := by
  obtain ⟨m, nx⟩ := h
  rfl
/-- a new block, under the next name -/
theorem Stp.new {h h' : AH} {w w' : World} {o : AO} {s : Nat} {obj : Obj} (hr : HR ρ h.get h.next w) (g1 : Nat → Option AO) (hg1 : ∀ m o, g1 m = some o → h.get m = some o) (hn : h'.next = h.next + 1)
    (hg' : ∀ j v, h'.get j = some v → (j = h.next ∧ v = o) ∨ (j ≠ h.next ∧ g1 j = some v)) (hO : OR ρ o s (some obj))
    (hw : w'.heap = w.heap.push obj) (os : w'.os = w.os) (tape : w'.tape = w.tape) (output : w'.output = w.output) :
    Stp ρ h.get h.next w (upd ρ h.next (w.heap.size, s)) h'.get h'.next w' ∧ (upd ρ h.next (w.heap.size, s)) h.next = some (w.heap.size, s) := by
  refine ⟨(Stp.name (g1 := g1) (g' := h'.get) (o := o) (w' := w') hr h.next (hr.fresh _ (Nat.le_refl _)) h'.next (by omega) (by omega) (.inr trivial) (b := w.heap.size) (s := s) ?_ os tape output (by rw [hw]; simp) ?_ ?_ (.inl (Nat.le_refl _)) hg1 hg').2.2 (Nat.le_refl _), by simp [upd]⟩
  · rw [hw]; simpa using hO
  · intro c hc _
    rw [hw, Array.getElem?_push_lt hc, Array.getElem?_eq_getElem hc]
  · intro m s' hm hp
    obtain ⟨o', ho'⟩ := Option.isSome_iff_exists.1 hm
    obtain ⟨b, s1, hb, hO1⟩ := hr.obj m o' (hg1 m o' ho')
    rw [hp] at hb
    cases hb
    rw [Array.getElem?_eq_none (Nat.le_refl _)] at hO1
    exact hO1.notNone
theorem getN_src {h : AH} {nx : Nat} {w : World} {sz m : Nat} {x : AV} {u : Value} {l : List AV} (hr : HR ρ h.get nx w) (hs : srcCells h sz x = some (m, l)) (hx : VR ρ x u) :
    (m = 0 ∧ ((u = .slice none 0 0) ∨ ∃ a c, u = .slice (some a) 0 c)) ∨
    ∃ (a : Addr) (c : Nat) (ys : List Value), u = .slice (some a) m c ∧ ys.length = m * sz ∧ VRs ρ l ys ∧ (∀ j v, ys[j]? = some v → w.cell? (a.add j) = some v) ∧ (∀ y ∈ ys, y.oneCell' = true) ∧ allOne l = true := by
  unfold srcCells at hs
  split at hs <;> first | (cases hs; done) | skip
  · simp only [Option.some.injEq, Prod.mk.injEq] at hs
    obtain ⟨rfl, rfl⟩ := hs
    unfold VR at hx
    exact .inl ⟨rfl, .inl hx⟩
  · simp only [Option.some.injEq, Prod.mk.injEq] at hs
    obtain ⟨rfl, rfl⟩ := hs
    unfold VR at hx
    exact .inl ⟨rfl, .inr hx⟩
  · rename_i n off len sz' r
    split at hs <;> first | (cases hs; done) | skip
    rename_i hsz
    have hsz := Nat.eq_of_beq_eq_true hsz
    subst hsz
    split at hs <;> first | (cases hs; done) | skip
    rename_i cs k e hg
    split at hs <;> first | (cases hs; done) | skip
    rename_i l' hl
    simp only [Option.some.injEq, Prod.mk.injEq] at hs
    obtain ⟨rfl, rfl⟩ := hs
    unfold VR at hx
    obtain ⟨b, s, c, hb, rfl, _⟩ := hx
    obtain ⟨b', s', hb', hO⟩ := hr.obj _ _ hg
    rw [hb] at hb'
    cases hb'
    obtain ⟨cur, hcur, hs, hk, hcells⟩ := hO
    obtain ⟨ys, hyl, hrs, hat, hone⟩ := getN_sound hcells hl
    refine .inr ⟨_, c, ys, rfl, hyl, hrs, fun j v hv => ?_, hone, ?_⟩
    · have := hat j v hv
      rw [Addr.add_mid]
      simp [World.cell?, hcur, this]
    · have : ∀ {n i : Nat} {l : List AV}, getN cs i n = some l → allOne l = true := by
        intro n
        induction n with
        | zero => intro i l h; simp only [getN, Option.some.injEq] at h; subst h; rfl
        | succ n ih =>
          intro i l h
          unfold getN at h
          split at h <;> first | (cases h; done) | skip
          rename_i v hv
          split at h <;> first | (cases h; done) | skip
          rename_i m hm
          simp only [Option.some.injEq] at h; subst h
          unfold allOne
          rw [(hcells _ _ hv).1]
          exact ih hm
      exact this hl
omit [Nums] in
theorem sizes_zero {_e : TypeId} {i : TypeInfo} {z : Value} (hz : z.cells.size = i.size) (n : Nat) : (Builtin.zeroCells z.cells n).size = n * i.size := by rw [size_zeroCells, hz]
omit [Nums] in
theorem append_zero {t e : TypeId} {i : TypeInfo} (hu : P.underlying t = some (.slice e)) (hi : P.info? e = some i) (ty : TypeId) {b : Option Addr} {len c : Nat} (hlc : len ≤ c) {u : Value}
    (hx : u = .slice none 0 0 ∨ ∃ a c, u = .slice (some a) 0 c) (w : World) : (Builtin.append_ #[t, t] ty #[.slice b len c, u]).run P w = .ok (.slice b len c) w := by
  rcases hx with rfl | ⟨a, c', rfl⟩
  · cases b with
    | none => simp [Builtin.append_, run_underlying hu w, sizeOf, typeInfo, hi, Builtin.lenOf, Builtin.firstCells, hlc]
    | some b => simp [Builtin.append_, run_underlying hu w, sizeOf, typeInfo, hi, Builtin.lenOf, Builtin.firstCells, hlc, storeCells]
  · cases b with
    | none => simp [Builtin.append_, run_underlying hu w, sizeOf, typeInfo, hi, Builtin.lenOf, Builtin.firstCells, hlc, loadCells, loadCellsFrom]
    | some b => simp [Builtin.append_, run_underlying hu w, sizeOf, typeInfo, hi, Builtin.lenOf, Builtin.firstCells, hlc, storeCells, loadCells, loadCellsFrom]
/-! records -/
theorem toCK_rel {k : CK} {v : AV} {x : SE} {y : Value} (h : toCK k v = some x) (hv : VR ρ v y) : y = k.val (x.ev Nums.σ) := by
  unfold toCK at h
  split at h
  · split at h <;> first | (cases h; done) | skip
    rename_i k0 k' e he
    split at h <;> first | (cases h; done) | skip
    rename_i hk
    have hk := of_decide_eq_true hk
    subst hk
    simp only [Option.some.injEq] at h
    subst h
    exact toSE_ok he hv
  · split at h <;> first | (cases h; done) | skip
    · rename_i b
      simp only [Option.some.injEq] at h
      subst h
      unfold VR at hv
      subst hv
      cases b <;> simp [CK.val, SE.ev]
    · rename_i c p
      split at h <;> first | (cases h; done) | skip
      rename_i q hq
      simp only [Option.some.injEq] at h
      subst h
      unfold VR at hv
      subst hv
      rw [askC_ok hq]
      cases hqp : (q == p) <;> simp [CK.val, SE.ev]
theorem recOf_sound : ∀ {ks : List CK} {vs : List AV} {r : SE} {ys : List Value}, recOf ks vs = some r → VRs ρ vs ys → ys.length = ks.length ∧ ∀ (j : Nat) (k : CK), ks[j]? = some k → ys[j]? = some (k.val (r.evA Nums.σ 0 j))
  | [], [], r, ys, h, hv => by
    unfold VRs at hv
    subst hv
    exact ⟨rfl, by simp⟩
  | [], _ :: _, r, ys, h, hv => by simp [recOf] at h
  | _ :: _, [], r, ys, h, hv => by simp [recOf] at h
  | k :: ks, v :: vs, r, ys, h, hv => by
    unfold recOf at h
    split at h <;> first | (cases h; done) | skip
    rename_i x hx
    split at h <;> first | (cases h; done) | skip
    rename_i r' hr
    simp only [Option.some.injEq] at h
    subst h
    obtain ⟨y, ys', rfl, h1, h2⟩ := hv.uncons
    obtain ⟨h3, h4⟩ := recOf_sound hr h2
    refine ⟨by simp [h3], fun j k' hk => ?_⟩
    cases j with
    | zero =>
      simp only [List.getElem?_cons_zero, Option.some.injEq] at hk
      subst hk
      simp only [List.getElem?_cons_zero, SE.evA]
      rw [toCK_rel hx h1]
    | succ j =>
      simp only [List.getElem?_cons_succ, SE.evA] at hk ⊢
      exact h4 j k' hk
/-- one more record behind so many -/
theorem snoc_rows {l r : SE} {ks : List CK} {cur new : Array Value} {ys : List Value} (hys : ys.length = ks.length ∧ ∀ (j : Nat) (k : CK), ks[j]? = some k → ys[j]? = some (k.val (r.evA Nums.σ 0 j)))
    (hat : ∀ (q j : Nat) (k : CK), q < l.evN Nums.σ → ks[j]? = some k → cur[q * ks.length + j]? = some (k.val (l.evA Nums.σ q j)))
    (hold : ∀ i : Nat, i < l.evN Nums.σ * ks.length → new[i]? = cur[i]?) (hnew : ∀ (j : Nat) (y : Value), ys[j]? = some y → new[l.evN Nums.σ * ks.length + j]? = some y) :
    ∀ (q j : Nat) (k : CK), q < (SE.lsnoc l r).evN Nums.σ → ks[j]? = some k → new[q * ks.length + j]? = some (k.val ((SE.lsnoc l r).evA Nums.σ q j)) := by
  intro q j k hq hk
  have hj : j < ks.length := (List.getElem?_eq_some_iff.1 hk).1
  simp only [SE.evN] at hq
  simp only [SE.evA]
  by_cases h : q = l.evN Nums.σ
  · rw [if_pos h]
    subst h
    exact hnew j _ (hys.2 j k hk)
  · rw [if_neg h]
    have h1 : q < l.evN Nums.σ := by omega
    have h2 : q * ks.length + j < l.evN Nums.σ * ks.length := by
      have := Nat.mul_le_mul_right ks.length (show q + 1 ≤ l.evN Nums.σ from h1)
      rw [Nat.add_mul] at this
      omega
    rw [hold _ h2]
    exact hat q j k h1 hk
theorem append_sound {t ty : TypeId} {s x v : AV} {u1 u2 : Value} {h h' : AH} {w : World} (ha : aappend P t s x h = some (v, h')) (hr : HR ρ h.get h.next w) (hs : VR ρ s u1) (hx : VR ρ x u2) :
    ∃ ρ' y w', (Builtin.append_ #[t, t] ty #[u1, u2]).run P w = .ok y w' ∧ Stp ρ h.get h.next w ρ' h'.get h'.next w' ∧ VR ρ' v y := by
  unfold aappend at ha
  split at ha <;> first | (cases ha; done) | skip
  rename_i e hu
  split at ha <;> first | (cases ha; done) | skip
  rename_i i hi
  split at ha <;> first | (cases ha; done) | skip
  rename_i hpos
  have hpos : 0 < i.size := by simpa using hpos
  split at ha <;> first | (cases ha; done) | skip
  rename_i z hz
  split at ha <;> first | (cases ha; done) | skip
  rename_i hzs
  have hzs := Nat.eq_of_beq_eq_true hzs
  split at ha <;> first | (cases ha; done) | skip
  · -- nothing
    rename_i l hsrc
    have h0 : u2 = .slice none 0 0 ∨ ∃ a c, u2 = .slice (some a) 0 c := by
      rcases getN_src hr hsrc hx with ⟨_, h⟩ | ⟨a, c, _, rfl, _⟩
      · exact h
      · exact .inr ⟨a, c, rfl⟩
    split at ha <;> first | (cases ha; done) | skip
    all_goals (simp only [Option.some.injEq, Prod.mk.injEq] at ha; obtain ⟨rfl, rfl⟩ := ha)
    · have hs' := hs
      unfold VR at hs'
      subst hs'
      exact ⟨ρ, _, w, append_zero hu hi ty (Nat.le_refl _) h0 w, Stp.refl hr, hs⟩
    · have hs' := hs
      unfold VR at hs'
      obtain ⟨a, c, rfl⟩ := hs'
      exact ⟨ρ, _, w, append_zero hu hi ty (Nat.zero_le _) h0 w, Stp.refl hr, hs⟩
    · have hs' := hs
      unfold VR at hs'
      obtain ⟨b, s0, c, _, rfl, hlc, _⟩ := hs'
      exact ⟨ρ, _, w, append_zero hu hi ty hlc h0 w, Stp.refl hr, hs⟩
  · rename_i m news hm0 hsrc
    have hm : 0 < m := by
      rcases Nat.eq_zero_or_pos m with h0 | h0
      · exact absurd h0 hm0
      · exact h0
    obtain ⟨a2, c2, ys, rfl, hyl, hys, hcell, hone, hall⟩ : ∃ (a : Addr) (c : Nat) (ys : List Value), u2 = .slice (some a) m c ∧ ys.length = m * i.size ∧ VRs ρ news ys ∧ (∀ j v, ys[j]? = some v → w.cell? (a.add j) = some v) ∧ (∀ y ∈ ys, y.oneCell' = true) ∧ allOne news = true := by
      rcases getN_src hr hsrc hx with ⟨h1, _⟩ | h1
      · omega
      · exact h1
    split at ha <;> first | (cases ha; done) | skip
    · -- onto nil
      split at ha <;> first | (cases ha; done) | skip
      rename_i h63
      have h63 := Nat.le_of_ble_eq_true h63
      split at ha <;> first | (cases ha; done) | skip
      rename_i hby
      have hby := Nat.le_of_ble_eq_true hby
      split at ha <;> first | (cases ha; done) | skip
      rename_i h1 hfr
      simp only [Option.some.injEq, Prod.mk.injEq] at ha
      obtain ⟨rfl, rfl⟩ := ha
      unfold VR at hs
      subst hs
      have hby' : m * i.bytes ≤ 140737488355328 := hby
      have hrun := run_append_nil (P := P) w t ty e i z hu hi hz a2 m c2 ys hyl hcell hm (by omega) (by omega)
      obtain ⟨hn, hg⟩ := fresh_spec hfr
      have hge := grownCap_ge w m 0 e
      have hcm : grownCap w m 0 e ≤ maxLen := grownCap_le_maxLen w m 0 e (by unfold maxLen; omega)
      have hO : OR ρ (cellsOf e news) (grownCap w m 0 e * i.size) (some (.cells (ys.toArray ++ Builtin.zeroCells z.cells (grownCap w m 0 e - m)) e (0, 0))) := by
        refine ⟨_, rfl, ?_, ?_, fun j v hv => ?_⟩
        · rw [Array.size_append, List.size_toArray, sizes_zero (_e := e) hzs, hyl, ← Nat.add_mul]
          congr 1
          omega
        · have := hys.len
          rw [this, hyl]
          exact Nat.mul_le_mul_right _ hge
        · rcases setN_get hv with ⟨_, _, h3⟩ | ⟨_, h3⟩
          · rw [Nat.sub_zero] at h3
            obtain ⟨y, hy, hr'⟩ := hys.get h3
            refine ⟨allOne_mem hall v (List.mem_of_getElem? h3), y, ?_, hr'⟩
            have hlt := (List.getElem?_eq_some_iff.1 hy).1
            rw [Array.getElem?_append_left (by simpa using hlt)]
            simpa using hy
          · rw [T.get_e] at h3; cases h3
      obtain ⟨hst, hup⟩ := Stp.new (w' := w.drew.alloc (.cells (ys.toArray ++ Builtin.zeroCells z.cells (grownCap w m 0 e - m)) e)) hr h.get (fun _ _ h => h) hn hg hO rfl rfl rfl rfl
      refine ⟨_, _, _, hrun, hst, ?_⟩
      unfold VR
      exact ⟨_, _, _, hup, rfl, hge, hcm, rfl, rfl⟩
    · rename_i n len sz r
      split at ha <;> first | (cases ha; done) | skip
      rename_i hsz
      have hsz := Nat.eq_of_beq_eq_true hsz
      subst hsz
      split at ha <;> first | (cases ha; done) | skip
      rename_i cs k e' hg
      split at ha <;> first | (cases ha; done) | skip
      rename_i hee
      have hee := Nat.eq_of_beq_eq_true hee
      subst hee
      split at ha <;> first | (cases ha; done) | skip
      rename_i h63
      have h63 : len + m ≤ 9223372036854775807 := Nat.le_of_ble_eq_true h63
      split at ha <;> first | (cases ha; done) | skip
      rename_i hby
      have hby : (len + m) * i.bytes ≤ 140737488355328 := Nat.le_of_ble_eq_true hby
      unfold VR at hs
      obtain ⟨b, s, c, hb, rfl, hlc, hcm, hroom⟩ := hs
      obtain ⟨b', s', hb', hO⟩ := hr.obj _ _ hg
      rw [hb] at hb'
      cases hb'
      obtain ⟨cur, hcur, hcs, hk, hcells⟩ := hO
      have hbm : (len + m) * i.size = len * i.size + m * i.size := Nat.add_mul _ _ _
      -- grows
      have grow : ∀ (h1 : AH) (g1 : Nat → Option AO) (olds : List AV), len + m > c → getN cs 0 (len * i.size) = some olds → h1.next = h.next + 1 → (∀ m o, g1 m = some o → h.get m = some o) →
          (∀ j v, h1.get j = some v → (j = h.next ∧ v = cellsOf e' (olds ++ news)) ∨ (j ≠ h.next ∧ g1 j = some v)) →
          ∃ ρ' y w', (Builtin.append_ #[t, t] ty #[.slice (some ⟨b, 0, none⟩) len c, .slice (some a2) m c2]).run P w = .ok y w' ∧ Stp ρ h.get h.next w ρ' h1.get h1.next w' ∧ VR ρ' (.sl h.next 0 (len + m) i.size .whole) y := by
        intro h1 g1 olds hgt holds hn hg1 hg'
        obtain ⟨os, hol, hors, hoat, _⟩ := getN_sound hcells holds
        have hoall : allOne olds = true := by
          have : ∀ {n i : Nat} {l : List AV}, getN cs i n = some l → allOne l = true := by
            intro n
            induction n with
            | zero => intro i l h; simp only [getN, Option.some.injEq] at h; subst h; rfl
            | succ n ih =>
              intro i l h
              unfold getN at h
              split at h <;> first | (cases h; done) | skip
              rename_i v hv
              split at h <;> first | (cases h; done) | skip
              rename_i m hm
              simp only [Option.some.injEq] at h; subst h
              unfold allOne
              rw [(hcells _ _ hv).1]
              exact ih hm
          exact this holds
        have hocell : ∀ j v, os[j]? = some v → w.cell? ((⟨b, 0, none⟩ : Addr).add j) = some v := fun j v hv => by
          have := hoat j v hv
          rw [Addr.add_mid]
          simp [World.cell?, hcur] at this ⊢
          exact this
        have hrun := run_append_grow (P := P) w t ty e' i z hu hi hz ⟨b, 0, none⟩ len c os hol hocell a2 m c2 ys hyl hcell hgt (by omega) (growslice_fits (by omega) hby)
        have hge := grownCap_ge w (len + m) c e'
        have hcm' : grownCap w (len + m) c e' ≤ maxLen := grownCap_le_maxLen w (len + m) c e' (by unfold maxLen; omega)
        have hboth := hors.append hys
        have hO : OR ρ (cellsOf e' (olds ++ news)) (grownCap w (len + m) c e' * i.size) (some (.cells (os.toArray ++ ys.toArray ++ Builtin.zeroCells z.cells (grownCap w (len + m) c e' - (len + m))) e' (0, 0))) := by
          refine ⟨_, rfl, ?_, ?_, fun j v hv => ?_⟩
          · rw [Array.size_append, Array.size_append, List.size_toArray, List.size_toArray, sizes_zero (_e := e') hzs, hyl, hol, ← Nat.add_mul, ← Nat.add_mul]
            congr 1
            omega
          · rw [hboth.len, List.length_append, hol, hyl, ← Nat.add_mul]
            exact Nat.mul_le_mul_right _ hge
          · rcases setN_get hv with ⟨_, _, h3⟩ | ⟨_, h3⟩
            · rw [Nat.sub_zero] at h3
              obtain ⟨y, hy, hr'⟩ := hboth.get h3
              refine ⟨allOne_mem (allOne_append hoall hall) v (List.mem_of_getElem? h3), y, ?_, hr'⟩
              have hlt := (List.getElem?_eq_some_iff.1 hy).1
              rw [Array.getElem?_append_left (by simpa using hlt)]
              simpa using hy
            · rw [T.get_e] at h3; cases h3
        obtain ⟨hst, hup⟩ := Stp.new (w' := w.drew.alloc (.cells (os.toArray ++ ys.toArray ++ Builtin.zeroCells z.cells (grownCap w (len + m) c e' - (len + m))) e')) hr g1 hg1 hn hg' hO rfl rfl rfl rfl
        refine ⟨_, _, _, hrun, hst, ?_⟩
        unfold VR
        exact ⟨_, _, _, hup, rfl, hge, hcm', rfl, rfl⟩
      split at ha <;> first | (cases ha; done) | skip
      · -- the whole block
        obtain ⟨_, hroom⟩ := hroom
        split at ha
        · -- it is known to fit
          rename_i hfit
          have hfit : (len + m) * i.size ≤ k := Nat.le_of_ble_eq_true hfit
          simp only [Option.some.injEq, Prod.mk.injEq] at ha
          obtain ⟨rfl, rfl⟩ := ha
          have hroom2 : len + m ≤ c := by
            rcases Nat.lt_or_ge c (len + m) with hlt | hge
            · have := Nat.mul_lt_mul_of_pos_right hlt hpos
              omega
            · exact hge
          have hf2 : len * i.size + ys.length ≤ cur.size := by rw [hyl]; omega
          have hrun := run_append_room (P := P) w t ty e' i hu hi b len c cur hcur a2 m c2 ys hyl hcell hone hroom2 hf2
          refine ⟨ρ, _, _, hrun, ?_, ?_⟩
          · rw [put_next]
            refine Stp.change hr (n := n) (b := b) (s := s) (by rw [hg]; rfl) hb (o := .cells (setN cs (Nat.mul len i.size) news) k e') ?_ rfl rfl rfl (by simp) (fun q _ hq => setRow_other w b q _ hq) ?_
            · rw [setRow_heap w b cur _ e' (0, 0) hcur]
              exact ⟨_, rfl, by rw [splice_size hf2]; exact hcs, hk, splice_ok hcells hys hall hf2⟩
            · intro q o' ho'
              rcases put_spec ho' with ⟨q1, q2⟩ | q1
              · exact .inl ⟨q1, by cases q2; rfl⟩
              · exact .inr q1
          · unfold VR
            exact ⟨b, s, c, hb, rfl, hroom2, hcm, rfl, hroom⟩
        · split at ha <;> first | (cases ha; done) | skip
          rename_i olds holds
          split at ha <;> first | (cases ha; done) | skip
          rename_i h1 hfr
          simp only [Option.some.injEq, Prod.mk.injEq] at ha
          obtain ⟨rfl, rfl⟩ := ha
          obtain ⟨hn, hg'⟩ := fresh_spec hfr
          rw [put_next] at hn hg'
          by_cases hgt : len + m > c
          · exact grow h1 (h.put n none).get olds hgt holds hn (fun q o ho => by
              rcases put_spec ho with ⟨_, q2⟩ | ⟨_, q2⟩
              · cases q2
              · exact q2) hg'
          · -- in place, under a new name
            have hroom2 : len + m ≤ c := by omega
            obtain ⟨os, hol, hors, hoat, _⟩ := getN_sound hcells holds
            have hol : os.length = len * i.size := hol
            have hf2 : len * i.size + ys.length ≤ cur.size := by
              rw [hyl, hcs, ← hroom, ← Nat.add_mul]
              exact Nat.mul_le_mul_right _ hroom2
            have hrun := run_append_room (P := P) w t ty e' i hu hi b len c cur hcur a2 m c2 ys hyl hcell hone hroom2 hf2
            have hn0 : h.next ≠ n := fun he => by
              have := hr.fresh n (by omega)
              rw [this] at hb
              cases hb
            have hst := (Stp.name (g1 := (h.put n none).get) (g' := h1.get) (o := cellsOf e' (olds ++ news)) (w' := w.setRow b (cur.toList.take (len * i.size) ++ ys ++ cur.toList.drop (len * i.size + ys.length)).toArray) hr h.next (hr.fresh _ (Nat.le_refl _)) h1.next (by omega) (by omega) (.inr trivial) (b := b) (s := s) ?_ rfl rfl rfl (by simp) (fun q _ hq => setRow_other w b q _ hq) ?_ (.inr ⟨n, s, by rw [hg]; rfl, hb⟩) ?_ hg').2.2 (Nat.le_refl _)
            · refine ⟨_, _, _, hrun, hst, ?_⟩
              unfold VR
              exact ⟨b, s, c, by simp [upd], rfl, hroom2, hcm, rfl, hroom⟩
            · rw [setRow_heap w b cur _ e' (0, 0) hcur]
              have hboth := hors.append hys
              have hoall : allOne olds = true := by
                have : ∀ {n i : Nat} {l : List AV}, getN cs i n = some l → allOne l = true := by
                  intro n
                  induction n with
                  | zero => intro i l h; simp only [getN, Option.some.injEq] at h; subst h; rfl
                  | succ n ih =>
                    intro i l h
                    unfold getN at h
                    split at h <;> first | (cases h; done) | skip
                    rename_i v hv
                    split at h <;> first | (cases h; done) | skip
                    rename_i m hm
                    simp only [Option.some.injEq] at h; subst h
                    unfold allOne
                    rw [(hcells _ _ hv).1]
                    exact ih hm
                exact this holds
              refine ⟨_, rfl, by rw [splice_size hf2]; exact hcs, ?_, fun j v hv => ?_⟩
              · rw [hboth.len, List.length_append, hol, hyl, ← hroom, ← Nat.add_mul]
                exact Nat.mul_le_mul_right _ hroom2
              · rcases setN_get hv with ⟨_, _, h3⟩ | ⟨_, h3⟩
                · rw [Nat.sub_zero] at h3
                  obtain ⟨y, hy, hr'⟩ := hboth.get h3
                  refine ⟨allOne_mem (allOne_append hoall hall) v (List.mem_of_getElem? h3), y, ?_, hr'⟩
                  rw [List.getElem?_toArray, splice_get (by simpa using hf2)]
                  by_cases hj : j < os.length
                  · rw [List.getElem?_append_left hj] at hy
                    rw [if_neg (by omega)]
                    have := hoat j y hy
                    simpa using this
                  · rw [List.getElem?_append_right (by omega), hol] at hy
                    have hjl := (List.getElem?_eq_some_iff.1 hy).1
                    rw [if_pos ⟨by omega, by omega⟩]
                    exact hy
                · rw [T.get_e] at h3; cases h3
            · intro q s' hq hp
              obtain ⟨o', ho'⟩ := Option.isSome_iff_exists.1 hq
              rcases put_spec ho' with ⟨_, q2⟩ | ⟨q1, q2⟩
              · cases q2
              · exact q1 (hr.inj q n b s' s (by rw [q2]; rfl) (by rw [hg]; rfl) hp hb)
            · intro q o ho
              rcases put_spec ho with ⟨_, q2⟩ | ⟨_, q2⟩
              · cases q2
              · exact q2
      · rename_i c0
        have hc0 : c = c0 := hroom
        split at ha <;> first | (cases ha; done) | skip
        rename_i hgt
        have hgt : c0 < len + m := by simpa using hgt
        split at ha <;> first | (cases ha; done) | skip
        rename_i olds holds
        split at ha <;> first | (cases ha; done) | skip
        rename_i h1 hfr
        simp only [Option.some.injEq, Prod.mk.injEq] at ha
        obtain ⟨rfl, rfl⟩ := ha
        obtain ⟨hn, hg'⟩ := fresh_spec hfr
        exact grow h1 h.get olds (by omega) holds hn (fun _ _ h => h) hg'
    · -- records
      rename_i n e' sz
      split at ha <;> first | (cases ha; done) | skip
      rename_i hsz
      have hsz := Nat.eq_of_beq_eq_true hsz
      subst hsz
      split at ha <;> first | (cases ha; done) | skip
      rename_i hm1
      have hm1 := Nat.eq_of_beq_eq_true hm1
      subst hm1
      split at ha <;> first | (cases ha; done) | skip
      rename_i l ks e0 hg
      split at ha <;> first | (cases ha; done) | skip
      rename_i hek
      rw [Bool.and_eq_true] at hek
      have hee := Nat.eq_of_beq_eq_true hek.1
      have hks := Nat.eq_of_beq_eq_true hek.2
      subst hee
      split at ha <;> first | (cases ha; done) | skip
      rename_i hle
      have hle := SE.beq_eq hle
      subst hle
      split at ha <;> first | (cases ha; done) | skip
      rename_i hlt
      have hlt := of_decide_eq_true (askLt_ok hlt)
      simp only [SE.ev, lenE_ev] at hlt
      split at ha <;> first | (cases ha; done) | skip
      rename_i hby
      have hby : i.bytes ≤ 1000000 := Nat.le_of_ble_eq_true hby
      split at ha <;> first | (cases ha; done) | skip
      rename_i r hrec
      split at ha <;> first | (cases ha; done) | skip
      rename_i h1 hfr
      simp only [Option.some.injEq, Prod.mk.injEq] at ha
      obtain ⟨rfl, rfl⟩ := ha
      obtain ⟨hn, hg'⟩ := fresh_spec hfr
      rw [put_next] at hn hg'
      unfold VR at hs
      obtain ⟨b, s, len, c, hb, rfl, hlc, hcm, hroom, hlen⟩ := hs
      rw [lenE_ev] at hlen
      have hlen : l.evN Nums.σ = len := by omega
      obtain ⟨b', s', hb', hO⟩ := hr.obj _ _ hg
      rw [hb] at hb'
      cases hb'
      obtain ⟨cur, hcur, hcs, hk, hat⟩ := hO
      have hrs := recOf_sound hrec hys
      have hyl : ys.length = 1 * i.size := hyl
      rw [Nat.one_mul] at hyl
      have hl6 : len < 1000000 := by omega
      have hby2 : (len + 1) * i.bytes ≤ 140737488355328 := by
        have := Nat.mul_le_mul (show len + 1 ≤ 1000000 from hl6) hby
        omega
      have hN : (SE.lsnoc l r).evN Nums.σ = len + 1 := by simp only [SE.evN, hlen]
      by_cases hgt : len + 1 > c
      · let os : List Value := cur.toList.take (len * i.size)
        have hol : os.length = len * i.size := by
          simp only [os, List.length_take, Array.length_toList, hcs]
          rw [hlen, hks] at hk
          omega
        have hoat : ∀ (j : Nat) v, os[j]? = some v → cur[j]? = some v ∧ j < len * i.size := fun j v hv => by
          have hj := (List.getElem?_eq_some_iff.1 hv).1
          rw [hol] at hj
          simp only [os, List.getElem?_take, if_pos hj, Array.getElem?_toList] at hv
          exact ⟨hv, hj⟩
        have hocell : ∀ j v, os[j]? = some v → w.cell? ((⟨b, 0, none⟩ : Addr).add j) = some v := fun j v hv => by
          have := (hoat j v hv).1
          rw [Addr.add_mid]
          simp [World.cell?, hcur] at this ⊢
          exact this
        have hrun := run_append_grow (P := P) w t ty e0 i z hu hi hz ⟨b, 0, none⟩ len c os hol hocell a2 1 c2 ys (by rw [hyl, Nat.one_mul]) hcell hgt (by omega) (growslice_fits (by omega) hby2)
        have hge := grownCap_ge w (len + 1) c e0
        have hcm' : grownCap w (len + 1) c e0 ≤ maxLen := grownCap_le_maxLen w (len + 1) c e0 (by unfold maxLen; omega)
        have hO : OR ρ (.recs (.lsnoc l r) ks e0) (grownCap w (len + 1) c e0 * i.size) (some (.cells (os.toArray ++ ys.toArray ++ Builtin.zeroCells z.cells (grownCap w (len + 1) c e0 - (len + 1))) e0 (0, 0))) := by
          refine ⟨_, rfl, ?_, ?_, ?_⟩
          · rw [Array.size_append, Array.size_append, List.size_toArray, List.size_toArray, sizes_zero (_e := e0) hzs, hyl, hol]
            have : len * i.size + i.size = (len + 1) * i.size := by rw [Nat.add_mul, Nat.one_mul]
            rw [this, ← Nat.add_mul]
            congr 1
            omega
          · rw [hN, hks]
            exact Nat.mul_le_mul_right _ hge
          · refine snoc_rows hrs hat (fun i' hi' => ?_) (fun j y hy => ?_)
            · rw [hlen, hks] at hi'
              rw [Array.getElem?_append_left (by simp [hol]; omega), Array.getElem?_append_left (by simp [hol]; omega), List.getElem?_toArray]
              simp only [os, List.getElem?_take, if_pos hi', Array.getElem?_toList]
            · have hj := (List.getElem?_eq_some_iff.1 hy).1
              rw [hlen, hks, Array.getElem?_append_left (by simp [hol]; omega), Array.getElem?_append_right (by simp [hol])]
              simp only [List.size_toArray, hol, Nat.add_sub_cancel_left, List.getElem?_toArray]
              exact hy
        obtain ⟨hst, hup⟩ := Stp.new (w' := w.drew.alloc (.cells (os.toArray ++ ys.toArray ++ Builtin.zeroCells z.cells (grownCap w (len + 1) c e0 - (len + 1))) e0)) hr (h.put n none).get (fun q o ho => by
              rcases put_spec ho with ⟨_, q2⟩ | ⟨_, q2⟩
              · cases q2
              · exact q2) hn hg' hO rfl rfl rfl rfl
        refine ⟨_, _, _, hrun, hst, ?_⟩
        unfold VR
        exact ⟨_, _, _, _, hup, rfl, hge, hcm', rfl, by rw [lenE_ev, hN]⟩
      · have hroom2 : len + 1 ≤ c := by omega
        have hf2 : len * i.size + ys.length ≤ cur.size := by
          rw [hyl, hcs, ← hroom]
          have := Nat.mul_le_mul_right i.size hroom2
          rw [Nat.add_mul, Nat.one_mul] at this
          exact this
        have hrun := run_append_room (P := P) w t ty e0 i hu hi b len c cur hcur a2 1 c2 ys (by rw [hyl, Nat.one_mul]) hcell hone hroom2 hf2
        have hn0 : h.next ≠ n := fun he => by
          have := hr.fresh n (by omega)
          rw [this] at hb
          cases hb
        have hst := (Stp.name (g1 := (h.put n none).get) (g' := h1.get) (o := .recs (.lsnoc l r) ks e0) (w' := w.setRow b (cur.toList.take (len * i.size) ++ ys ++ cur.toList.drop (len * i.size + ys.length)).toArray) hr h.next (hr.fresh _ (Nat.le_refl _)) h1.next (by omega) (by omega) (.inr trivial) (b := b) (s := s) ?_ rfl rfl rfl (by simp) (fun q _ hq => setRow_other w b q _ hq) ?_ (.inr ⟨n, s, by rw [hg]; rfl, hb⟩) ?_ hg').2.2 (Nat.le_refl _)
        · refine ⟨_, _, _, hrun, hst, ?_⟩
          unfold VR
          exact ⟨b, s, _, c, by simp [upd], rfl, hroom2, hcm, hroom, by rw [lenE_ev, hN]⟩
        · rw [setRow_heap w b cur _ e0 (0, 0) hcur]
          refine ⟨_, rfl, by rw [splice_size hf2]; exact hcs, ?_, ?_⟩
          · rw [hN, hks, ← hroom]
            exact Nat.mul_le_mul_right _ hroom2
          · refine snoc_rows hrs hat (fun i' hi' => ?_) (fun j y hy => ?_)
            · rw [hlen, hks] at hi'
              rw [List.getElem?_toArray, splice_get (by simpa using hf2), if_neg (by omega), Array.getElem?_toList]
            · have hj := (List.getElem?_eq_some_iff.1 hy).1
              rw [hlen, hks, List.getElem?_toArray, splice_get (by simpa using hf2), if_pos ⟨by omega, by omega⟩, Nat.add_sub_cancel_left]
              exact hy
        · intro q s' hq hp
          obtain ⟨o', ho'⟩ := Option.isSome_iff_exists.1 hq
          rcases put_spec ho' with ⟨_, q2⟩ | ⟨q1, q2⟩
          · cases q2
          · exact q1 (hr.inj q n b s' s (by rw [q2]; rfl) (by rw [hg]; rfl) hp hb)
        · intro q o ho
          rcases put_spec ho with ⟨_, q2⟩ | ⟨_, q2⟩
          · cases q2
          · exact q2
theorem azeros_sound {t t' ty : TypeId} {s x v : AV} {u1 u2 : Value} {h h' : AH} {w : World} (ha : aloud.azeros P t t' s x h = some (.val v h')) (hr : HR ρ h.get h.next w) (hs : VR ρ s u1) (hx : VR ρ x u2) :
    ∃ ρ' y w', (Builtin.append_ #[t, t'] ty #[u1, u2]).run P w = .ok y w' ∧ Stp ρ h.get h.next w ρ' h'.get h'.next w' ∧ VR ρ' v y := by
  unfold aloud.azeros at ha
  split at ha <;> first | (cases ha; done) | skip
  split at ha <;> first | (cases ha; done) | skip
  rename_i k m
  split at ha <;> first | (cases ha; done) | skip
  rename_i e hu
  split at ha <;> first | (cases ha; done) | skip
  rename_i kn hun
  split at ha <;> first | (cases ha; done) | skip
  rename_i i hi
  split at ha <;> first | (cases ha; done) | skip
  rename_i z hz
  split at ha <;> first | (cases ha; done) | skip
  rename_i hok
  split at ha <;> first | (cases ha; done) | skip
  rename_i hm
  split at ha <;> first | (cases ha; done) | skip
  rename_i h1 hfr
  simp only [Option.some.injEq, AN.val.injEq] at ha
  obtain ⟨rfl, rfl⟩ := ha
  simp only [Bool.and_eq_true] at hok hm
  have hzl := Nat.eq_of_beq_eq_true hok.1
  have hpos : 0 < i.size := by simpa using hok.2.1
  have hone := hok.2.2
  have h0 : 0 < m := by simpa using hm.1
  have h63 : m ≤ 9223372036854775807 := Nat.le_of_ble_eq_true hm.2.1
  have h48 : m * i.bytes ≤ 140737488355328 := Nat.le_of_ble_eq_true hm.2.2
  obtain ⟨i', zv, hi', hiz, hof, hzr⟩ := zeroT_run hz
  rw [hi] at hi'
  cases hi'
  unfold VR at hs hx
  subst hs; subst hx
  have hc := (ofV_sound ρ hof).cells
  have hcl : zv.cells.size = i.size := by have := hc.len; rw [hzl] at this; simpa using this.symm
  have hrun := Go.Lib.run_append_nil_zeros (P := P) w t t' ty e i zv k kn hu hun hi hiz m h0 hpos (by omega) (by omega)
  obtain ⟨hn, hg⟩ := fresh_spec hfr
  have hge := grownCap_ge w m 0 e
  have hcm : grownCap w m 0 e ≤ maxLen := grownCap_le_maxLen w m 0 e (by unfold maxLen; omega)
  have hrow : (Builtin.zeroCells zv.cells m).toList = (List.replicate m zv.cells.toList).flatten := by
    unfold Builtin.zeroCells
    exact rows_eq zv.cells m
  have hrep : VRs ρ (rep m z.cells) (Builtin.zeroCells zv.cells m).toList := by
    rw [hrow]
    exact hc.rep m
  have hall := allOne_rep hone m
  have hO : OR ρ (cellsOf e (rep m z.cells)) (grownCap w m 0 e * i.size) (some (.cells (Builtin.zeroCells zv.cells m ++ Builtin.zeroCells zv.cells (grownCap w m 0 e - m)) e (0, 0))) := by
    refine ⟨_, rfl, ?_, ?_, fun j v hv => ?_⟩
    · rw [Array.size_append, sizes_zero (_e := e) hcl, sizes_zero (_e := e) hcl, ← Nat.add_mul]
      congr 1
      omega
    · have := hrep.len
      rw [this, Array.length_toList, sizes_zero (_e := e) hcl]
      exact Nat.mul_le_mul_right _ hge
    · rcases setN_get hv with ⟨_, _, h3⟩ | ⟨_, h3⟩
      · rw [Nat.sub_zero] at h3
        obtain ⟨y, hy, hr'⟩ := hrep.get h3
        refine ⟨allOne_mem hall v (List.mem_of_getElem? h3), y, ?_, hr'⟩
        have hlt := (List.getElem?_eq_some_iff.1 hy).1
        rw [Array.getElem?_append_left (by simpa using hlt)]
        simpa using hy
      · rw [T.get_e] at h3; cases h3
  obtain ⟨hst, hup⟩ := Stp.new (w' := w.drew.alloc (.cells (Builtin.zeroCells zv.cells m ++ Builtin.zeroCells zv.cells (grownCap w m 0 e - m)) e)) hr h.get (fun _ _ h => h) hn hg hO rfl rfl rfl rfl
  refine ⟨_, _, _, hrun, hst, ?_⟩
  unfold VR
  exact ⟨_, _, _, hup, rfl, hge, hcm, rfl, rfl⟩
/-- copy -/
theorem acopy_sound {t t' ty : TypeId} {d s v : AV} {u1 u2 : Value} {h h' : AH} {w : World} (ha : aloud.acopy P t d s h = some (.val v h')) (hr : HR ρ h.get h.next w) (hd : VR ρ d u1) (hs : VR ρ s u2) :
    ∃ y w', (Builtin.copy_ #[t, t'] ty #[u1, u2]).run P w = .ok y w' ∧ Stp ρ h.get h.next w ρ h'.get h'.next w' ∧ VR ρ v y := by
  unfold aloud.acopy at ha
  split at ha <;> first | (cases ha; done) | skip
  rename_i e hu
  split at ha <;> first | (cases ha; done) | skip
  rename_i z hz
  split at ha <;> first | (cases ha; done) | skip
  rename_i n off len sz r
  split at ha <;> first | (cases ha; done) | skip
  rename_i hsz
  have hsz := Nat.eq_of_beq_eq_true hsz
  subst hsz
  split at ha <;> first | (cases ha; done) | skip
  rename_i m l hsrc
  split at ha <;> first | (cases ha; done) | skip
  rename_i hm
  have hm : 0 < m := by simpa using hm
  split at ha <;> first | (cases ha; done) | skip
  rename_i cs k e' hg
  split at ha <;> first | (cases ha; done) | skip
  rename_i hfit
  have hfit : off + Nat.min m len * sz ≤ k := Nat.le_of_ble_eq_true hfit
  simp only [Option.some.injEq, AN.val.injEq] at ha
  obtain ⟨rfl, rfl⟩ := ha
  obtain ⟨a2, c2, ys, rfl, hyl, hys, hcell, hone, hall⟩ : ∃ (a : Addr) (c : Nat) (ys : List Value), u2 = .slice (some a) m c ∧ ys.length = m * sz ∧ VRs ρ l ys ∧ (∀ j v, ys[j]? = some v → w.cell? (a.add j) = some v) ∧ (∀ y ∈ ys, y.oneCell' = true) ∧ allOne l = true := by
    rcases getN_src hr hsrc hs with ⟨h1, _⟩ | h1
    · omega
    · exact h1
  unfold VR at hd
  obtain ⟨b, s0, c, hb, rfl, hlc, hcm, -⟩ := hd
  obtain ⟨b', s', hb', hO⟩ := hr.obj _ _ hg
  rw [hb] at hb'
  cases hb'
  obtain ⟨cur, hcur, hcs, hks, hcells⟩ := hO
  obtain ⟨q, hq⟩ : ∃ q, Nat.min m len = q := ⟨_, rfl⟩
  have hqm : q ≤ m := by rw [← hq]; exact Nat.min_le_left _ _
  rw [hq] at hfit ⊢
  have hqs : q * sz ≤ m * sz := Nat.mul_le_mul_right _ hqm
  have hyt : (ys.take (q * sz)).length = q * sz := by rw [List.length_take, hyl]; omega
  have hone' : ∀ y ∈ ys.take (q * sz), y.oneCell' = true := fun y hy => hone y (List.mem_of_mem_take hy)
  have hload := run_loadCells_list (P := P) w a2 (ys.take (q * sz)) (fun j v hv => by
    rw [List.getElem?_take] at hv
    split at hv
    · exact hcell j v hv
    · cases hv)
  rw [hyt] at hload
  have hfit2 : off + (ys.take (q * sz)).length ≤ cur.size := by rw [hyt]; omega
  have hst := run_storeCells_at P b off e' (ys.take (q * sz)) 0 cur w hcur (by simpa using hfit2) hone'
  simp only [Nat.add_zero] at hst
  have hlt : VRs ρ (l.take (q * sz)) (ys.take (q * sz)) := hys.take _
  have hallt : allOne (l.take (q * sz)) = true := by
    have : ∀ (l : List AV) (j : Nat), allOne l = true → allOne (l.take j) = true := by
      intro l
      induction l with
      | nil => intro j _; simp [allOne]
      | cons x l ih =>
        intro j hl
        cases j with
        | zero => rfl
        | succ j =>
          unfold allOne at hl
          split at hl <;> first | (cases hl; done) | skip
          rename_i hx
          rw [List.take_succ_cons]
          unfold allOne
          rw [hx]
          exact ih j hl
    exact this l _ hall
  refine ⟨.int .i64 (q : Int), w.setRow b (cur.toList.take off ++ ys.take (q * sz) ++ cur.toList.drop (off + (ys.take (q * sz)).length)).toArray, ?_, ?_, by unfold VR; rfl⟩
  · have hq' : min m len = q := hq
    simp [Builtin.copy_, run_underlying hu w, Builtin.lenOf, Builtin.firstCells, sizeT_run hz w, hq', hload, hst, goInt]
  · rw [put_next]
    refine Stp.change hr (n := n) (b := b) (s := s0) (by rw [hg]; rfl) hb (o := .cells (setN cs off (l.take (q * sz))) k e') ?_ rfl rfl rfl (by simp) (fun p _ hp => setRow_other w b p _ hp) ?_
    · rw [setRow_heap w b cur _ e' (0, 0) hcur]
      exact ⟨_, rfl, by rw [splice_size hfit2]; exact hcs, hks, splice_ok hcells hlt hallt hfit2⟩
    · intro p o' ho'
      rcases put_spec ho' with ⟨q1, q2⟩ | q1
      · exact .inl ⟨q1, by cases q2; rfl⟩
      · exact .inr q1
end
end Go.Proofs.YtfgomgodfcdijaaGreatDoor.Ex
