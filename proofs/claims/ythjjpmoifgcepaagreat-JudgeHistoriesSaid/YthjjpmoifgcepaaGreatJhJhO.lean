import Derived.Test.YthjjpmoifgcepaaGreatJhJhR
import Derived.Test.YthjjpmoifgcepaaGreatJh4
import Derived.SizedLaws
/-
  wainscotlaw30.JudgeHistories: a snap that came in: what it reads as, and its reach. No condition.
-/
namespace Go.Proofs.YthjjpmoifgcepaaGreat.Jh
open Go.RowKit Go.ChangeShapes Go.WideShapes Go.ChangeAt
section
variable {H : Type} {enc : TypeId × Value → H} {P : Program} {w : World} {base : Nat} {spare : Nat → Bool} {held : Bool}
/-- an element for each -/
theorem choose_list {α β : Type} {Q : α → β → Prop} : ∀ {R : List α}, (∀ r ∈ R, ∃ l, Q r l) → ∃ L : List β, L.length = R.length ∧ ∀ (i : Nat) r l, R[i]? = some r → L[i]? = some l → Q r l
  | [], _ => ⟨[], rfl, fun i r l h => by simp at h⟩
  | r0 :: R, h => by
    obtain ⟨l0, h0⟩ := h r0 List.mem_cons_self
    obtain ⟨L, h1, h2⟩ := choose_list (R := R) fun r hr => h r (List.mem_cons_of_mem _ hr)
    refine ⟨l0 :: L, by simp [h1], fun i r l hr hl => ?_⟩
    cases i with
    | zero =>
      simp only [List.getElem?_cons_zero, Option.some.injEq] at hr hl
      subst hr; subst hl
      exact h0
    | succ i => exact h2 i r l (by simpa using hr) (by simpa using hl)
/-- a slice that came in, element by element -/
theorem open_rows {t e : TypeId} {fuel size bytes : Nat} {cs : List Value} {x : DataW H × List MemPlace} {Q : List Value → Prop} (ht : P.underlying t = some (.slice e)) (hs : P.cellsOf e = size) (hb : P.bytesOf e = bytes) (hsp : ∀ b, spare b = true)
    (h : DataW.trod enc P w base spare held fuel t cs = some x) (hw : ∀ n ∈ x.1.weights P t, n ≤ reachBytes)
    (hQ : ∀ (fuel : Nat) (cs : List Value) (x : DataW H × List MemPlace), DataW.trod enc P w base spare held fuel e cs = some x → (∀ n ∈ x.1.weights P e, n ≤ reachBytes) → cs.length = size → Q cs) :
    ∃ (v : Value) (R : List (List Value)), cs = [v] ∧ Src w size v R.length R.flatten ∧ (∀ r ∈ R, r.length = size ∧ Q r) ∧ R.length * bytes ≤ BB := by
  rcases Deep.open_slice ht h with ⟨h0, _⟩ | ⟨a, len, cap, m, n', D, Pl, hcs, hb', hl, hm, hmm, hx, hi⟩
  · exact ⟨_, [], h0, ⟨by simp, .inl ⟨rfl, rfl⟩⟩, (by intro r hr; cases hr), by simp⟩
  · rw [hsp, if_pos rfl] at hmm
    subst hmm
    obtain ⟨cap, rfl⟩ : ∃ cap, cap = m := ⟨m, rfl⟩
    have hx1 : x.1 = .slice ((List.range len).map D) ((List.range (cap - len)).map fun j => D (len + j)) := by rw [hx]
    rw [hx1] at hw
    simp only [DataW.weights, ht, List.length_map, List.length_range] at hw
    have hlen : len * bytes ≤ BB := by
      have := hw _ List.mem_cons_self
      rw [hb] at this
      have h2 : len * bytes ≤ (len + (cap - len)) * bytes := Nat.mul_le_mul_right _ (by omega)
      unfold reachBytes at this
      unfold BB
      omega
    have hwi : ∀ i, i < len → ∀ n ∈ (D i).weights P e, n ≤ reachBytes := fun i hi n hn => by
      refine hw n (List.mem_cons_of_mem _ (List.mem_append_left _ ?_))
      have gen : ∀ (l : List (DataW H)) d, d ∈ l → ∀ n ∈ d.weights P e, n ∈ DataW.weightsAll P e l := by
        intro l
        induction l with
        | nil => intro d hd; cases hd
        | cons d0 l ih =>
          intro d hd n hn
          simp only [DataW.weightsAll, List.mem_append]
          rcases List.mem_cons.1 hd with rfl | hd
          · exact Or.inl hn
          · exact Or.inr (ih d hd n hn)
      exact gen _ (D i) (List.mem_map.2 ⟨i, List.mem_range.2 hi, rfl⟩) n hn
    have hrow : ∀ i ∈ List.range len, ∃ r : List Value, (r.length = size ∧ Q r) ∧ ∀ j u, r[j]? = some u → w.cell? (a.add (i * size + j)) = some u := fun i hi' => by
      have hil := List.mem_range.1 hi'
      obtain ⟨cs', hc, htr⟩ := hi i (by omega)
      obtain ⟨_, hcl, hat⟩ := World.cells?_some hc
      rw [hs] at hcl
      refine ⟨cs', ⟨hcl, hQ n' cs' _ htr (hwi i hil) hcl⟩, fun j u hj => ?_⟩
      have hjl := (List.getElem?_eq_some_iff.1 hj).1
      have := hat j (by omega)
      rw [← Go.Deep.add_add, ← hs, this, hj]
    obtain ⟨R, hR, hRi⟩ := choose_list hrow
    rw [List.length_range] at hR
    have hR2 : ∀ (i : Nat) r, R[i]? = some r → (r.length = size ∧ Q r) ∧ ∀ j u, r[j]? = some u → w.cell? (a.add (i * size + j)) = some u := fun i r hr => by
      have hil := (List.getElem?_eq_some_iff.1 hr).1
      exact hRi i i r (by rw [List.getElem?_range (by omega)]) hr
    have hRm : ∀ r ∈ R, r.length = size ∧ Q r := fun r hr => by
      obtain ⟨i, hi', rfl⟩ := List.getElem_of_mem hr
      exact (hR2 i _ (List.getElem?_eq_getElem hi')).1
    have hRl : ∀ r ∈ R, r.length = size := fun r hr => (hRm r hr).1
    refine ⟨_, R, hcs, ⟨flat_len hRl, .inr ⟨a, cap, by rw [hR], fun j u hj => ?_⟩⟩, hRm, by rw [hR]; exact hlen⟩
    have hjl := (List.getElem?_eq_some_iff.1 hj).1
    rw [flat_len hRl] at hjl
    have h0 : 0 < size := by
      rcases Nat.eq_zero_or_pos size with h0 | h0
      · rw [h0, Nat.mul_zero] at hjl; omega
      · exact h0
    have hi' : j / size < R.length := Nat.div_lt_of_lt_mul (by rw [Nat.mul_comm]; exact hjl)
    obtain ⟨h1, h2⟩ := hR2 (j / size) _ (List.getElem?_eq_getElem hi')
    have hm : j % size < size := Nat.mod_lt _ h0
    have h3 := flat_row hRl (List.getElem?_eq_getElem hi') (List.getElem?_eq_getElem (show j % size < (R[j / size]'hi').length by rw [h1.1]; exact hm))
    have h4 : j / size * size + j % size = j := by rw [Nat.mul_comm]; exact Nat.div_add_mod j size
    have h5 := h2 (j % size) _ (List.getElem?_eq_getElem (show j % size < (R[j / size]'hi').length by rw [h1.1]; exact hm))
    rw [h4] at h3 h5
    rw [hj] at h3
    rw [h5, Option.some.inj h3]
/-- a cell that is a number, or a bool -/
theorem open_int1 {t : TypeId} {fuel : Nat} {cs : List Value} {x : DataW H × List MemPlace} (ht : P.underlying t = some (.int .i64)) (h : DataW.trod enc P w base spare held fuel t cs = some x) : ∃ n : Int, cs = [.int .i64 n] ∧ (Lit.int .i64 n).wf = true := by
  cases fuel with
  | zero => simp [DataW.trod] at h
  | succ fuel =>
    unfold DataW.trod at h
    rw [ht] at h
    match cs, h with
    | [.int k' z], h =>
      simp only at h
      split at h
      · rename_i hc
        exact ⟨z, by rw [hc.1], hc.2⟩
      · cases h
theorem open_bool1 {t : TypeId} {fuel : Nat} {cs : List Value} {x : DataW H × List MemPlace} (ht : P.underlying t = some .bool) (h : DataW.trod enc P w base spare held fuel t cs = some x) : ∃ b : Bool, cs = [.bool b] := by
  cases fuel with
  | zero => simp [DataW.trod] at h
  | succ fuel =>
    unfold DataW.trod at h
    rw [ht] at h
    match cs, h with
    | [.bool b], _ => exact ⟨b, rfl⟩
/-- a slice of numbers -/
theorem open_intsB {t e : TypeId} {fuel : Nat} {cs : List Value} {x : DataW H × List MemPlace} (ht : P.underlying t = some (.slice e)) (he : P.underlying e = some (.int .i64)) (hs : P.cellsOf e = 1) (hb : P.bytesOf e = 8) (hsp : ∀ b, spare b = true)
    (h : DataW.trod enc P w base spare held fuel t cs = some x) (hw : ∀ n ∈ x.1.weights P t, n ≤ reachBytes) : ∃ v L, cs = [v] ∧ IntsB w v L ∧ ∀ z ∈ L, (Lit.int .i64 z).wf = true := by
  obtain ⟨v, R, h1, h2, h3, h4⟩ := open_rows (Q := fun r => ∃ n : Int, r = [.int .i64 n] ∧ (Lit.int .i64 n).wf = true) ht hs hb hsp h hw fun fuel cs x h _ _ => open_int1 he h
  obtain ⟨L, hL, hLi⟩ := choose_list (Q := fun (r : List Value) (n : Int) => r = [.int .i64 n] ∧ (Lit.int .i64 n).wf = true) fun r hr => (h3 r hr).2
  have hfl : R.flatten = ints L := by
    clear h1 h2 h4 h h3
    induction R generalizing L with
    | nil =>
      cases L with
      | nil => rfl
      | cons a L => simp at hL
    | cons r R ih =>
      cases L with
      | nil => simp at hL
      | cons a L =>
        have h0 := (hLi 0 r a rfl rfl).1
        subst h0
        have := ih L (by simpa using hL) fun i r l hr hl => hLi (i + 1) r l (by simpa using hr) (by simpa using hl)
        simp only [List.flatten_cons, List.cons_append, List.nil_append, this]
        rfl
  refine ⟨v, L, h1, ⟨?_, by rw [hL]; exact h4⟩, fun z hz => ?_⟩
  · rw [hfl, ← hL] at h2
    exact h2
  · obtain ⟨i, hi, rfl⟩ := List.getElem_of_mem hz
    exact (hLi i _ _ (List.getElem?_eq_getElem (by omega)) (List.getElem?_eq_getElem hi)).2
end
end Go.Proofs.YthjjpmoifgcepaaGreat.Jh
