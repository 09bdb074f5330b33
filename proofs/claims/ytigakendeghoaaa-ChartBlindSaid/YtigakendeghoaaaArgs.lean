/-
  Arguments opened to cells: flat types (numbers, bools, structs and arrays of such), and slices of them. No condition.
-/
import Derived.Test.YtigakendeghoaaaLaw
import Derived.Deep.Slices
namespace Go.Proofs.Ytigakendeghoaaa
open Go.ChangeShapes Go.WideShapes Go.ChangeAt Go.RowKit

/-- a cell of a kind: 'none': a bool -/
def CellIs : Option IntKind → Value → Prop
  | none, v => ∃ b, v = .bool b
  | some k, v => ∃ n, v = .int k n ∧ (Lit.int k n).wf = true

/-- the kinds of a struct's cells, from an offset on -/
def flatFields (P : Program) (K : TypeId → Option (List (Option IntKind))) : Nat → List Field → Option (List (Option IntKind))
  | _, [] => some []
  | off, f :: fs =>
    match K f.type with
    | some l => if f.offset = off ∧ l.length = P.cellsOf f.type then (flatFields P K (off + l.length) fs).map (l ++ ·) else none
    | none => none
/-- the kinds of a flat type's cells -/
def flatKinds (P : Program) : Nat → TypeId → Option (List (Option IntKind))
  | 0, _ => none
  | n + 1, t =>
    match P.underlying t with
    | some .bool => some [none]
    | some (.int k) => some [some k]
    | some (.struct fs) => flatFields P (flatKinds P n) 0 fs.toList
    | some (.array m e) =>
      match flatKinds P n e with
      | some l => if l.length = P.cellsOf e then some (List.replicate m l).flatten else none
      | none => none
    | _ => none

section
variable {H : Type} {enc : TypeId × Value → H} {P : Program} {w : World} {base : Nat} {spare : Nat → Bool} {held : Bool}

theorem flat_rep {l : List (Option IntKind)} {cs : List Value} : ∀ (m off : Nat) (h : ∀ i, i < m → ∀ (j : Nat) (k : Option IntKind), l[j]? = some k → ∃ v, cs[off + i * l.length + j]? = some v ∧ CellIs k v) (i : Nat) (k : Option IntKind),
    (List.replicate m l).flatten[i]? = some k → ∃ v, cs[off + i]? = some v ∧ CellIs k v
  | 0, _, _, i, k, hk => by simp at hk
  | m + 1, off, h, i, k, hk => by
    rw [List.replicate_succ, List.flatten_cons] at hk
    by_cases hi : i < l.length
    · rw [List.getElem?_append_left hi] at hk
      have := h 0 (by omega) i k hk
      simpa using this
    · rw [List.getElem?_append_right (by omega)] at hk
      have h' : ∀ i, i < m → ∀ (j : Nat) (k : Option IntKind), l[j]? = some k → ∃ v, cs[(off + l.length) + i * l.length + j]? = some v ∧ CellIs k v := fun i' hi' j k' hk' => by
        have := h (i' + 1) (by omega) j k' hk'
        rwa [show off + (i' + 1) * l.length + j = off + l.length + i' * l.length + j from by rw [Nat.succ_mul]; omega] at this
      have := flat_rep m (off + l.length) h' (i - l.length) k hk
      rwa [show off + l.length + (i - l.length) = off + i from by omega] at this

theorem flat_fields {cs : List Value} {K : TypeId → Option (List (Option IntKind))} : ∀ (fs : List Field) (off : Nat) (ks : List (Option IntKind)), flatFields P K off fs = some ks →
    (∀ f ∈ fs, ∀ l, K f.type = some l → l.length = P.cellsOf f.type → ∀ (j : Nat) (k : Option IntKind), l[j]? = some k → ∃ v, cs[f.offset + j]? = some v ∧ CellIs k v) →
    ∀ (i : Nat) (k : Option IntKind), ks[i]? = some k → ∃ v, cs[off + i]? = some v ∧ CellIs k v
  | [], off, ks, hks, _, i, k, hk => by
    simp only [flatFields, Option.some.injEq] at hks
    subst hks
    simp at hk
  | f :: fs, off, ks, hks, hf, i, k, hk => by
    simp only [flatFields] at hks
    split at hks
    · rename_i l hl
      split at hks
      · rename_i hc
        obtain ⟨r, hr, rfl⟩ := Option.map_eq_some_iff.1 hks
        by_cases hi : i < l.length
        · rw [List.getElem?_append_left hi] at hk
          have := hf f List.mem_cons_self l hl hc.2 i k hk
          rwa [hc.1] at this
        · rw [List.getElem?_append_right (by omega)] at hk
          have := flat_fields fs (off + l.length) r hr (fun g hg => hf g (List.mem_cons_of_mem _ hg)) (i - l.length) k hk
          rwa [show off + l.length + (i - l.length) = off + i from by omega] at this
      · cases hks
    · cases hks

theorem take_drop_get {cs : List Value} {a n j : Nat} {v : Value} (h : ((cs.drop a).take n)[j]? = some v) : cs[a + j]? = some v := by
  rw [List.getElem?_take] at h
  split at h
  · rwa [List.getElem?_drop] at h
  · cases h

/-- what is read of a flat type: each cell is of its kind -/
theorem trod_flat : ∀ (fuel n : Nat) (t : TypeId) (cs : List Value) (x : DataW H × List MemPlace) (ks : List (Option IntKind)), DataW.trod enc P w base spare held fuel t cs = some x → flatKinds P n t = some ks →
    ∀ (i : Nat) (k : Option IntKind), ks[i]? = some k → ∃ v, cs[i]? = some v ∧ CellIs k v
  | 0, _, _, _, _, _, h, _ => by simp [DataW.trod] at h
  | fuel + 1, 0, _, _, _, _, _, hk => by simp [flatKinds] at hk
  | fuel + 1, n + 1, t, cs, x, ks, h, hks => by
    intro i k hk
    unfold flatKinds at hks
    split at hks
    · rename_i hu
      simp only [Option.some.injEq] at hks
      subst hks
      unfold DataW.trod at h
      rw [hu] at h
      match cs, h with
      | [.bool b], _ =>
        match i, hk with
        | 0, hk => simp at hk; subst hk; exact ⟨_, rfl, b, rfl⟩
        | i + 1, hk => simp at hk
    · rename_i q hu
      simp only [Option.some.injEq] at hks
      subst hks
      unfold DataW.trod at h
      rw [hu] at h
      match cs, h with
      | [.int k' z], h =>
        simp only at h
        split at h
        · rename_i hc
          match i, hk with
          | 0, hk => simp at hk; subst hk; exact ⟨_, rfl, z, by rw [hc.1], hc.2⟩
          | i + 1, hk => simp at hk
        · cases h
    · rename_i fs hu
      obtain ⟨xs, m, hm, _, hcl, _, hf⟩ := DataW.trod_struct hu h
      obtain rfl : fuel = m := by omega
      have := flat_fields (cs := cs) fs.toList 0 ks hks (fun f hfm l hl hlc j k' hk' => by
        obtain ⟨i', hi', hfi⟩ := List.getElem_of_mem hfm
        have hfi' : fs[i']? = some f := by rw [← Array.getElem?_toList, List.getElem?_eq_getElem hi', hfi]
        have ht := hf i' f hfi'
        have hlt : i' < xs.length := by have : i' < fs.size := by simpa using hi'
                                        omega
        rw [List.getElem?_eq_getElem hlt] at ht
        obtain ⟨v, hv, hc⟩ := trod_flat fuel n f.type _ _ l ht hl j k' hk'
        exact ⟨v, take_drop_get hv, hc⟩) i k hk
      simpa using this
    · rename_i m e hu
      split at hks
      · rename_i l hl
        split at hks
        · rename_i hlc
          simp only [Option.some.injEq] at hks
          subst hks
          unfold DataW.trod at h
          rw [hu] at h
          have h2 : ∃ xs, (List.range m).mapM (fun i => DataW.trod enc P w base spare held fuel e ((cs.drop (i * P.cellsOf e)).take (P.cellsOf e))) = some xs := by
            split at h <;> simp_all
            obtain ⟨_, xs, hx, _⟩ := h
            exact ⟨xs, hx⟩
          obtain ⟨xs, hx⟩ := h2
          have := flat_rep (l := l) (cs := cs) m 0 (fun i' hi' j k' hk' => by
            have hg := mapM_some_get hx i' i' (by simp [hi'])
            have hlen := mapM_some_length hx
            have hlt : i' < xs.length := by simpa [hlen] using hi'
            rw [List.getElem?_eq_getElem hlt] at hg
            obtain ⟨v, hv, hc⟩ := trod_flat fuel n e _ _ l hg hl j k' hk'
            refine ⟨v, ?_, hc⟩
            rw [hlc]
            simpa using take_drop_get hv) i k hk
          simpa using this
        · cases hks
      · cases hks
    · cases hks

/-- an argument of a struct's or an array's type is an aggregate of so many cells -/
theorem arg_agg {r : Reach} {b0 : Nat} {t : TypeId} {v : Value} (hu : (match P.underlying t with | some (.struct _) | some (.array _ _) => true | _ => false) = true) (hv : Value.okWide P w r b0 t v) :
    ∃ cs : Array Value, v = .agg cs ∧ cs.size = P.cellsOf t := by
  unfold Value.okWide at hv
  split at hv
  · obtain ⟨cs, h1, h2, _⟩ := hv; exact ⟨cs, h1, h2⟩
  · obtain ⟨cs, h1, h2, _⟩ := hv; exact ⟨cs, h1, h2⟩
  · rename_i h1 h2
    split at hu
    · rename_i q hq; exact absurd hq (h1 q)
    · rename_i q r hq; exact absurd hq (h2 q r)
    · cases hu
/-- ... each of its cells is of its kind -/
theorem open_flat {r : Reach} {b0 : Nat} {t : TypeId} {v : Value} {d : DataW H} {p : List MemPlace} (n : Nat) {ks : List (Option IntKind)} (hu : (match P.underlying t with | some (.struct _) | some (.array _ _) => true | _ => false) = true)
    (hks : flatKinds P n t = some ks) (hv : Value.okWide P w r b0 t v) (h : DataW.Trod enc P w base spare held t v d p) :
    ∃ cs : Array Value, v = .agg cs ∧ cs.size = P.cellsOf t ∧ ∀ (i : Nat) (k : Option IntKind), ks[i]? = some k → ∃ u, cs[i]? = some u ∧ CellIs k u := by
  obtain ⟨cs, rfl, hs⟩ := arg_agg hu hv
  obtain ⟨fuel, hf⟩ := h
  refine ⟨cs, rfl, hs, fun i k hk => ?_⟩
  obtain ⟨u, h1, h2⟩ := trod_flat fuel n t _ _ ks hf hks i k hk
  exact ⟨u, by simpa [Value.cells] using h1, h2⟩
/-- a slice of a flat type: each cell of each element is of its kind -/
theorem open_slice_flat {t e : TypeId} {v : Value} {d : DataW H} {p : List MemPlace} (n : Nat) {ks : List (Option IntKind)} (ht : P.underlying t = some (.slice e)) (hks : flatKinds P n e = some ks) (hone : v.cells.toList = [v])
    (h : DataW.Trod enc P w base spare held t v d p) (hlt : ∀ x ∈ p, x.block < w.heap.size) (hpos : 0 < P.cellsOf e) :
    v = .slice none 0 0 ∨ ∃ (a : Addr) (len cap : Nat), v = .slice (some a) len cap ∧ len ≤ cap ∧ cap ≤ maxLen ∧ (0 < len → a.block < w.heap.size) ∧
      ∀ i, i < len → ∀ (j : Nat) (k : Option IntKind), ks[j]? = some k → ∃ u, w.cell? (a.add (i * P.cellsOf e + j)) = some u ∧ CellIs k u := by
  obtain ⟨fuel, hf⟩ := h
  rw [hone] at hf
  rcases Deep.open_slice ht hf with ⟨h0, _⟩ | ⟨a, len, cap, m, n', D, Pl, hcs, hb, hl, hm, hmm, hx, hi⟩
  · left; simpa using h0
  · right
    refine ⟨a, len, cap, by simpa using hcs, hl, hm, ?_, ?_⟩
    · intro hpos'
      have hml : len ≤ m := by rw [hmm]; split <;> omega
      obtain ⟨cs', hc, _⟩ := hi 0 (by omega)
      obtain ⟨_, hcl, hat⟩ := World.cells?_some hc
      have h0 := hat 0 (by omega)
      have h1 : cs'[0]? = some (cs'[0]'(by omega)) := List.getElem?_eq_getElem (by omega)
      rw [h1] at h0
      have := block_lt_of_cell h0
      simpa [Addr.add] using this
    · intro i hil j k hk
      have hml : len ≤ m := by rw [hmm]; split <;> omega
      obtain ⟨cs', hc, ht'⟩ := hi i (by omega)
      obtain ⟨u, hu, hcell⟩ := trod_flat n' n e cs' _ ks ht' hks j k hk
      obtain ⟨_, hcl, hat⟩ := World.cells?_some hc
      have hj : j < P.cellsOf e := by
        have := (List.getElem?_eq_some_iff.1 hu).1
        omega
      have := hat j hj
      rw [← Go.Deep.add_add, this, hu]
      exact ⟨u, rfl, hcell⟩

/-- a slice's elements, cell by cell, are of their kinds -/
def FlatAt (W : World) (ks : List (Option IntKind)) (A : Option Addr) (len : Nat) : Prop :=
  0 < len → ∃ B o, A = some ⟨B, o, none⟩ ∧ B < W.heap.size ∧ ∀ i, i < len → ∀ (j : Nat) (k : Option IntKind), ks[j]? = some k → ∃ u, W.cell? ⟨B, o + i * ks.length + j, none⟩ = some u ∧ CellIs k u
theorem open_slice_at {t e : TypeId} {v : Value} {d : DataW H} {p : List MemPlace} (n : Nat) {ks : List (Option IntKind)} (ht : P.underlying t = some (.slice e)) (hks : flatKinds P n e = some ks) (hlen : P.cellsOf e = ks.length) (hpos : 0 < ks.length) (hone : v.cells.toList = [v])
    (h : DataW.Trod enc P w base spare held t v d p) (hlt : ∀ x ∈ p, x.block < w.heap.size) :
    ∃ (A : Option Addr) (len cap : Nat), v = .slice A len cap ∧ len ≤ cap ∧ cap ≤ maxLen ∧ FlatAt w ks A len := by
  rcases open_slice_flat n ht hks hone h hlt (by omega) with rfl | ⟨a, len, cap, rfl, hl, hm, hb, hc⟩
  · exact ⟨none, 0, 0, rfl, Nat.le_refl _, by unfold maxLen; omega, fun h => absurd h (by omega)⟩
  · refine ⟨some a, len, cap, rfl, hl, hm, fun hp => ?_⟩
    obtain ⟨u, hu, _⟩ := hc 0 hp 0 (ks[0]'(by omega)) (List.getElem?_eq_getElem (by omega))
    have hs : a.spot = none := by
      have h0 : a.add (0 * P.cellsOf e + 0) = a := by simp [Addr.add]
      rw [h0] at hu
      unfold World.cell? at hu
      split at hu
      · split at hu
        · cases hu
        · simpa using ‹¬ a.spot.isSome = true›
      · cases hu
    obtain ⟨B, o, s⟩ := a
    simp only at hs
    subst hs
    refine ⟨B, o, rfl, hb hp, fun i hi j k hk => ?_⟩
    obtain ⟨u, hu, hk'⟩ := hc i hi j k hk
    refine ⟨u, ?_, hk'⟩
    rw [← hlen]
    have e1 : (⟨B, o, none⟩ : Addr).add (i * P.cellsOf e + j) = ⟨B, o + (i * P.cellsOf e + j), none⟩ := by
      unfold Addr.add
      split
      · rename_i h0; rw [h0]; rfl
      · rfl
    rw [e1] at hu
    rw [show o + i * P.cellsOf e + j = o + (i * P.cellsOf e + j) from by omega]
    exact hu
/-- an argument of a slice's type is one cell -/
theorem arg_slice {r : Reach} {b0 : Nat} {t e : TypeId} {v : Value} (ht : P.underlying t = some (.slice e)) (hv : Value.okWide P w r b0 t v) : v.cells.toList = [v] := by
  unfold Value.okWide at hv
  rw [ht] at hv
  simp only at hv
  unfold Cell.okWide at hv
  rw [ht] at hv
  cases v <;> first | rfl | (simp [Cell.ok, ht] at hv)
/-- a block of numbers is a slice of structs of numbers -/
theorem flatAt_of {W : World} {g : Nat} {T : TypeId} {l : List Int} {n len : Nat} (hg : W.heap[g]? = some (.cells (l.map fun x => Value.int .i64 x).toArray T (0, 0))) (hl : len * n ≤ l.length) (hwf : ∀ x ∈ l, (Lit.int .i64 x).wf = true) :
    FlatAt W (List.replicate n (some .i64)) (some ⟨g, 0, none⟩) len := by
  intro _
  refine ⟨g, 0, rfl, heap_lt hg, fun i hi j k hk => ?_⟩
  have hj : j < n := by have := (List.getElem?_eq_some_iff.1 hk).1; simpa using this
  have hk' : k = some .i64 := by
    rw [List.getElem?_replicate, if_pos hj] at hk
    exact (Option.some.inj hk).symm
  subst hk'
  rw [List.length_replicate]
  have hlt : 0 + i * n + j < l.length := by
    have : (i + 1) * n ≤ len * n := Nat.mul_le_mul_right _ hi
    rw [Nat.succ_mul] at this
    omega
  refine ⟨.int .i64 l[0 + i * n + j], ?_, _, rfl, hwf _ (List.getElem_mem hlt)⟩
  simp [World.cell?, hg, List.getElem?_eq_getElem (show i * n + j < l.length by omega)]
end
end Go.Proofs.Ytigakendeghoaaa
