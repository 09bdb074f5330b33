/-
  Tables of pages, in plain Lean: the blocks that frame.blocks hands on, and when a table may be.
-/
import Derived.Test.YtljcndcmdphmgaaSep
namespace Go.Proofs.Ytljcndcmdphmgaa
open Go.RowKit

/-- a page: kind, order, cache -/
abbrev Pg := Int × Int × Int
def pgIn : Pg := (1, 0, 0)
def pgSize (p : Pg) : Nat := 2 ^ p.2.1.toNat
def pgHead (p : Pg) : Bool := decide (0 ≤ p.2.1 ∧ p.2.1 ≤ 10 ∧ (p.1 = 0 ∧ p.2.2 = 0 ∨ p.1 = 2 ∧ 0 ≤ p.2.2 ∧ p.2.2 ≤ 8))
theorem pgSize_pos (p : Pg) : 1 ≤ pgSize p := Nat.one_le_two_pow
/-- may a block begin here? -/
def pgOk (L : List Pg) (i : Nat) (p : Pg) : Bool := pgHead p && decide (i % pgSize p = 0) && decide (i + pgSize p ≤ L.length) && ((L.drop (i + 1)).take (pgSize p - 1)).all (· == pgIn)

def pgYields (L : List Pg) : Nat → Nat → List (Int × Pg)
  | 0, _ => []
  | f + 1, i => match L[i]? with
    | none => []
    | some p => if pgOk L i p then ((i : Int), p) :: pgYields L f (i + pgSize p) else [(-1, p)]
theorem pgYields_past (L : List Pg) : ∀ (f i : Nat), L.length ≤ i → pgYields L f i = []
  | 0, _, _ => rfl
  | f + 1, i, h => by
    unfold pgYields
    rw [List.getElem?_eq_none h]
theorem pgYields_fuel (L : List Pg) : ∀ (f g i : Nat), L.length ≤ i + f → L.length ≤ i + g → pgYields L f i = pgYields L g i
  | 0, g, i, h, _ => by rw [pgYields_past L g i (by omega)]; rfl
  | f + 1, 0, i, _, h => by rw [pgYields_past L (f + 1) i (by omega)]; rfl
  | f + 1, g + 1, i, h1, h2 => by
    unfold pgYields
    cases L[i]? with
    | none => rfl
    | some p =>
      have := pgSize_pos p
      simp only
      rw [pgYields_fuel L f g (i + pgSize p) (by omega) (by omega)]
/-- what the blocks are from a place on -/
def pgFrom (L : List Pg) (i : Nat) : List (Int × Pg) := pgYields L (L.length - i) i
theorem pgFrom_end {L : List Pg} {i : Nat} (h : L.length ≤ i) : pgFrom L i = [] := pgYields_past L _ i h
theorem pgFrom_ok {L : List Pg} {i : Nat} {p : Pg} (h : L[i]? = some p) (ho : pgOk L i p = true) : pgFrom L i = ((i : Int), p) :: pgFrom L (i + pgSize p) := by
  have hi := (List.getElem?_eq_some_iff.1 h).1
  have := pgSize_pos p
  unfold pgFrom
  obtain ⟨k, hk⟩ : ∃ k, L.length - i = k + 1 := ⟨L.length - i - 1, by omega⟩
  rw [hk]
  show (match L[i]? with | none => [] | some p => if pgOk L i p then ((i : Int), p) :: pgYields L k (i + pgSize p) else [(-1, p)]) = _
  rw [h]
  simp only [ho, if_true]
  rw [pgYields_fuel L k (L.length - (i + pgSize p)) _ (by omega) (by omega)]
theorem pgFrom_no {L : List Pg} {i : Nat} {p : Pg} (h : L[i]? = some p) (ho : pgOk L i p = false) : pgFrom L i = [(-1, p)] := by
  have hi := (List.getElem?_eq_some_iff.1 h).1
  unfold pgFrom
  obtain ⟨k, hk⟩ : ∃ k, L.length - i = k + 1 := ⟨L.length - i - 1, by omega⟩
  rw [hk]
  show (match L[i]? with | none => [] | some p => if pgOk L i p then ((i : Int), p) :: pgYields L k (i + pgSize p) else [(-1, p)]) = _
  rw [h]
  simp [ho]

/-- a row of blocks from a place on: each may be a head, and lies at a multiple of its size -/
def Row : Nat → List Pg → Prop
  | _, [] => True
  | i, p :: bs => pgHead p = true ∧ i % pgSize p = 0 ∧ Row (i + pgSize p) bs
/-- .. laid as pages -/
def lay : List Pg → List Pg
  | [] => []
  | p :: bs => p :: List.replicate (pgSize p - 1) pgIn ++ lay bs
/-- .. with their places -/
def places : Nat → List Pg → List (Int × Pg)
  | _, [] => []
  | i, p :: bs => ((i : Int), p) :: places (i + pgSize p) bs
theorem lay_cons_len (p : Pg) (bs : List Pg) : (lay (p :: bs)).length = pgSize p + (lay bs).length := by
  have := pgSize_pos p
  simp [lay]
  omega
/-- a table of blocks hands on its blocks -/
theorem row_from : ∀ (bs : List Pg) (A : List Pg), Row A.length bs → pgFrom (A ++ lay bs) A.length = places A.length bs
  | [], A, _ => by rw [pgFrom_end (by simp [lay])]; rfl
  | p :: bs, A, h => by
    have h1 := pgSize_pos p
    have hl := lay_cons_len p bs
    have hp : (A ++ lay (p :: bs))[A.length]? = some p := by simp [lay]
    have hok : pgOk (A ++ lay (p :: bs)) A.length p = true := by
      have hd : (A ++ lay (p :: bs)).drop (A.length + 1) = List.replicate (pgSize p - 1) pgIn ++ lay bs := by
        rw [List.drop_append]
        simp [lay]
      unfold pgOk
      rw [hd, List.take_append_of_le_length (by simp), List.take_of_length_le (by simp), h.1, decide_eq_true h.2.1, decide_eq_true (by rw [List.length_append]; omega)]
      simp
    rw [pgFrom_ok hp hok]
    have e : A ++ lay (p :: bs) = (A ++ p :: List.replicate (pgSize p - 1) pgIn) ++ lay bs := by simp [lay]
    have el : (A ++ p :: List.replicate (pgSize p - 1) pgIn).length = A.length + pgSize p := by simp; omega
    have := row_from bs (A ++ p :: List.replicate (pgSize p - 1) pgIn) (by rw [el]; exact h.2.2)
    rw [el] at this
    rw [e, this]
    rfl
/-- .. and where no place is told that is none, the table is one of blocks -/
theorem from_row (L : List Pg) : ∀ (n i : Nat), L.length ≤ i + n → i ≤ L.length → (∀ x ∈ pgFrom L i, 0 ≤ x.1) → ∃ bs, L.drop i = lay bs ∧ Row i bs
  | 0, i, h, h2, _ => ⟨[], by simp [lay]; omega, trivial⟩
  | n + 1, i, h, h2, hx => by
    by_cases hi : i < L.length
    · obtain ⟨p, hp⟩ : ∃ p, L[i]? = some p := ⟨_, List.getElem?_eq_getElem hi⟩
      have h1 := pgSize_pos p
      cases ho : pgOk L i p with
      | false =>
        rw [pgFrom_no hp ho] at hx
        have := hx _ List.mem_cons_self
        simp at this
      | true =>
        rw [pgFrom_ok hp ho] at hx
        have ho' := ho
        unfold pgOk at ho'
        simp only [Bool.and_eq_true, decide_eq_true_eq, List.all_eq_true, beq_iff_eq] at ho'
        obtain ⟨⟨⟨a1, a2⟩, a3⟩, a4⟩ := ho'
        obtain ⟨bs, hb, hr⟩ := from_row L n (i + pgSize p) (by omega) a3 (fun x hx' => hx x (List.mem_cons_of_mem _ hx'))
        refine ⟨p :: bs, ?_, a1, a2, hr⟩
        have e1 : L.drop i = p :: L.drop (i + 1) := by
          rw [List.drop_eq_getElem_cons hi]
          rw [List.getElem?_eq_getElem hi] at hp
          rw [Option.some.inj hp]
        have e2 : (L.drop (i + 1)).take (pgSize p - 1) = List.replicate (pgSize p - 1) pgIn := by
          rw [List.eq_replicate_iff]
          refine ⟨by rw [List.length_take, List.length_drop]; omega, a4⟩
        have e3 : L.drop (i + 1) = List.replicate (pgSize p - 1) pgIn ++ lay bs := by
          rw [← e2, ← hb, ← List.take_append_drop (pgSize p - 1) (L.drop (i + 1)), List.drop_drop]
          rw [show i + 1 + (pgSize p - 1) = i + pgSize p from by omega]
          rw [List.take_append_of_le_length (by rw [List.length_take, List.length_drop]; omega), List.take_take, Nat.min_self]
        rw [e1, e3]
        rfl
    · exact ⟨[], by simp [lay]; omega, trivial⟩
/-- a table that may be -/
def Tab (L : List Pg) (bs : List Pg) : Prop := L = lay bs ∧ Row 0 bs
theorem tab_iff (L : List Pg) : (∃ bs, Tab L bs) ↔ ∀ x ∈ pgFrom L 0, 0 ≤ x.1 := by
  constructor
  · rintro ⟨bs, rfl, hr⟩
    have := row_from bs [] hr
    simp only [List.nil_append, List.length_nil] at this
    rw [this]
    have hpl : ∀ (bs : List Pg) (i : Nat), ∀ x ∈ places i bs, 0 ≤ x.1 := by
      intro bs
      induction bs with
      | nil => intro i x hx; simp [places] at hx
      | cons p bs ih =>
        intro i x hx
        rw [places, List.mem_cons] at hx
        rcases hx with rfl | hx
        · simp
        · exact ih _ x hx
    exact hpl bs 0
  · intro h
    obtain ⟨bs, hb, hr⟩ := from_row L L.length 0 (by omega) (by omega) h
    exact ⟨bs, by rw [← hb]; rfl, hr⟩
theorem tab_from {L bs : List Pg} (h : Tab L bs) : pgFrom L 0 = places 0 bs := by
  obtain ⟨rfl, hr⟩ := h
  have := row_from bs [] hr
  simpa using this
end Go.Proofs.Ytljcndcmdphmgaa
