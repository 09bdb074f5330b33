/-
  What a core's words say, in plain Lean. No condition.
-/
import Derived.Test.YtigakendeghoaaaRows
namespace Go.Proofs.Ytigakendeghoaaa.See
/-- a list of free objects: what shows the next one, the slab's links; what is out already -/
def walk (sh : Nat → Int → Option Int) (l : List Nat) : Nat → List Int → Int → Option (List Int)
  | 0, _, _ => none
  | n + 1, out, i => if i = -1 then some out else if i ∈ out then none else match sh (l.getD i.toNat 0) i with
    | none => none
    | some x => if (l.length : Int) ≤ x then none else walk sh l n (out ++ [i]) x
/-- slabs, one behind the other -/
def chain (of : Nat → Option Int) (nx : Int → Nat) (S : Nat) : Nat → List Int → Nat → Option (List Int)
  | 0, _, _ => none
  | n + 1, out, w => match of w with
    | none => none
    | some s => if (S : Int) ≤ s ∨ s ∈ out then none else if s = -1 then some out else chain of nx S n (out ++ [s]) (nx s)
/-- unlike numbers from 0 to below S: there are S at most; when there are S, all are there -/
theorem few : ∀ {S : Nat} {l : List Int}, l.Nodup → (∀ x ∈ l, 0 ≤ x ∧ x < S) → l.length ≤ S
  | 0, l, _, hb => by
    cases l with
    | nil => simp
    | cons x l =>
      have := hb x List.mem_cons_self
      omega
  | S + 1, l, hn, hb => by
    have h1 := few (S := S) (l := l.erase (S : Int)) (hn.erase _) fun x hx => by
      have h2 := (hn.mem_erase_iff).1 hx
      have := hb x h2.2
      omega
    by_cases hm : (S : Int) ∈ l
    · rw [List.length_erase_of_mem hm] at h1
      omega
    · rw [List.erase_of_not_mem hm] at h1
      omega
theorem few_lt {S : Nat} {l : List Int} (hn : l.Nodup) (hb : ∀ x ∈ l, 0 ≤ x ∧ x < S) {i : Int} (h0 : 0 ≤ i) (h1 : i < S) (hi : i ∉ l) : l.length < S := by
  have := few (S := S) (l := l ++ [i]) (List.nodup_append.2 ⟨hn, by simp, fun a ha b hb' he => by
    simp at hb'
    subst hb'
    subst he
    exact hi ha⟩) (fun x hx => by
    rcases List.mem_append.1 hx with hx | hx
    · exact hb x hx
    · simp at hx
      subst hx
      exact ⟨h0, h1⟩)
  simp at this
  omega
/-- words are numbers below 2^64 -/
def W64 (g : List Nat) : Prop := ∀ x ∈ g, x < 18446744073709551616
/-- a head: a slab, an object -/
def headOf (w : Nat) : Option (Int × Int) := if w = 0 then some (-1, -1) else if 64 ≤ w ∧ w < 2112 ∧ w % 64 ≤ 16 then some (((w / 64 : Nat) : Int) - 1, ((w % 64 : Nat) : Int) - 1) else none
/-- a part: a slab, how many -/
def partOf (w : Nat) : Option (Int × Int) := if w = 0 then some (-1, 0) else if 64 ≤ w ∧ w < 4096 ∧ 1 ≤ w % 64 ∧ w % 64 ≤ 32 then some (((w % 64 : Nat) : Int) - 1, ((w / 64 : Nat) : Int)) else none
def shelfOf (w : Nat) : Option Int := if w ≤ 32 then some ((w : Int) - 1) else none
/-- a slab's numbers -/
structure CountsP where
  inuse : Nat
  objects : Nat
  frozen : Bool
  live : Bool
  deriving DecidableEq
def countsOf (w : Nat) : Option CountsP := if w = 0 then some ⟨0, 0, false, false⟩ else
  if 131072 ≤ w ∧ w < 262144 ∧ 1 ≤ w / 256 % 256 ∧ w / 256 % 256 ≤ 16 ∧ w % 256 ≤ w / 256 % 256 then some ⟨w % 256, w / 256 % 256, decide (w / 65536 % 2 = 1), true⟩ else none
/-- the key at an object -/
def turned (key n : Nat) : Nat := (((key <<< (5 * n % 64)) % 18446744073709551616 ||| key >>> (64 - 5 * n % 64)) + n * 2654435769) % 18446744073709551616
def showOf (w key n : Nat) : Option Int := if w ^^^ turned key n ≤ 16 then some (((w ^^^ turned key n : Nat) : Int) - 1) else none
def keyOf (key s : Nat) : Nat := (key + s * 11400714819323198485) % 18446744073709551616
/-- a chart's numbers -/
structure Ch where
  C : Nat
  S : Nat
  O : Nat
  key : Nat
def Ch.words (c : Ch) : Nat := 4 * c.C + 4 + 4 * c.S + c.S * c.O
def Ch.ok (c : Ch) : Prop := 1 ≤ c.C ∧ c.C ≤ 8 ∧ 1 ≤ c.S ∧ c.S ≤ 32 ∧ 1 ≤ c.O ∧ c.O ≤ 16
def at_ (g : List Nat) (i : Nat) : Nat := g.getD i 0
def nextAt (c : Ch) (g : List Nat) (s : Int) : Nat := at_ g (4 * c.C + 4 + 4 * s.toNat + 2)
def links (c : Ch) (g : List Nat) (s : Nat) : List Nat := (g.drop (4 * c.C + 4 + 4 * c.S + s * c.O)).take c.O
/-- the free objects of a slab, from one on -/
def listP (c : Ch) (g : List Nat) (s i : Int) : Option (List Int) :=
  if 0 ≤ s ∧ s < c.S ∧ -1 ≤ i ∧ i < c.O then walk (fun w o => showOf w (keyOf c.key s.toNat) o.toNat) (links c g s.toNat) (c.O + 1) [] i else none
structure SlotP where
  slab : Int
  list : List Int
  turn : Nat
  parts : List Int
structure SlabP where
  counts : CountsP
  first : List Int
def partsP (c : Ch) (g : List Nat) (w : Nat) : Option (List Int) := chain (fun w => (partOf w).map (·.1)) (nextAt c g) c.S (c.S + 1) [] w
def shelfP (c : Ch) (g : List Nat) : Option (List Int) := chain shelfOf (nextAt c g) c.S (c.S + 1) [] (at_ g (4 * c.C + 1))
def slotP (c : Ch) (g : List Nat) (i : Nat) : Option SlotP :=
  match headOf (at_ g (4 * i)) with
  | none => none
  | some (s, o) => match (if s = -1 then some [] else listP c g s o) with
    | none => none
    | some l => match partsP c g (at_ g (4 * i + 2)) with
      | none => none
      | some p => some ⟨s, l, at_ g (4 * i + 1), p⟩
def slabP (c : Ch) (g : List Nat) (s : Nat) : Option SlabP :=
  match countsOf (at_ g (4 * c.C + 4 + 4 * s + 1)) with
  | none => none
  | some n => if c.O < at_ g (4 * c.C + 4 + 4 * s) then none else match listP c g s ((at_ g (4 * c.C + 4 + 4 * s) : Int) - 1) with
    | none => none
    | some l => some ⟨n, l⟩
/-- the first ones, as many as are asked for, if all may be -/
def upto {α : Type} (f : Nat → Option α) : Nat → Option (List α)
  | 0 => some []
  | n + 1 => match upto f n with
    | none => none
    | some l => match f n with
      | none => none
      | some x => some (l ++ [x])
theorem upto_none {α : Type} {f : Nat → Option α} {k : Nat} (h : f k = none) : ∀ {n : Nat}, k < n → upto f n = none
  | 0, hk => by omega
  | n + 1, hk => by
    unfold upto
    by_cases he : k = n
    · subst he
      rw [h]
      cases upto f k <;> rfl
    · rw [upto_none h (show k < n by omega)]
theorem upto_len {α : Type} {f : Nat → Option α} : ∀ {n : Nat} {l : List α}, upto f n = some l → l.length = n
  | 0, l, h => by
    simp only [upto, Option.some.injEq] at h
    subst h
    rfl
  | n + 1, l, h => by
    unfold upto at h
    split at h <;> first | (cases h; done) | skip
    rename_i l' hl
    split at h <;> first | (cases h; done) | skip
    simp only [Option.some.injEq] at h
    subst h
    simp [upto_len hl]
theorem upto_get {α : Type} {f : Nat → Option α} : ∀ {n : Nat} {l : List α}, upto f n = some l → ∀ i, i < n → f i = l[i]?
  | 0, l, h, i, hi => by omega
  | n + 1, l, h, i, hi => by
    unfold upto at h
    split at h <;> first | (cases h; done) | skip
    rename_i l' hl
    split at h <;> first | (cases h; done) | skip
    rename_i x hx
    simp only [Option.some.injEq] at h
    subst h
    have hlen := upto_len hl
    by_cases he : i = n
    · subst he
      rw [hx, List.getElem?_append_right (by omega), hlen, Nat.sub_self]
      rfl
    · rw [List.getElem?_append_left (by omega)]
      exact upto_get hl i (by omega)
structure CoreP where
  slots : List SlotP
  shelf : List Int
  locked : Bool
  slabs : List SlabP
/-- what words say -/
def seeP (c : Ch) (g : List Nat) : Option CoreP :=
  match upto (slotP c g) c.C with
  | none => none
  | some a => match shelfP c g with
    | none => none
    | some l => match upto (slabP c g) c.S with
      | none => none
      | some b => some ⟨a, l, decide (at_ g (4 * c.C) ≠ 0), b⟩
end Go.Proofs.Ytigakendeghoaaa.See
