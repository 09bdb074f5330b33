/-
  What Alloc finds, as a function; the contracts at tables that are written out.
-/
import Derived.Test.YtljcndcmdphmgaaBudFrees
namespace Go.Proofs.Ytljcndcmdphmgaa
open Go.RowKit
def ordFirst (L : List Pg) (o : Nat) : Option Nat := (List.range L.length).find? fun a => decide (L[a]? = some (fb o))
def leastOf (L : List Pg) : Nat → Nat → Option (Nat × Nat)
  | 0, _ => none
  | k + 1, o => match ordFirst L o with
    | some a => some (a, o)
    | none => leastOf L k (o + 1)
theorem ordFirst_none {L : List Pg} {o : Nat} (h : NoOrd L o) : ordFirst L o = none := by
  unfold ordFirst
  rw [List.find?_eq_none]
  intro a _
  simpa using h a
theorem ordFirst_some {L : List Pg} {o a : Nat} (h : L[a]? = some (fb o)) (hb : ∀ b, b < a → L[b]? ≠ some (fb o)) : ordFirst L o = some a := by
  unfold ordFirst
  have hlt := (List.getElem?_eq_some_iff.1 h).1
  rw [List.find?_eq_some_iff_getElem]
  refine ⟨by simpa using h, a, by simpa using hlt, by simp, fun j hj => ?_⟩
  simpa using hb j hj
theorem leastOf_some {L : List Pg} {order a o : Nat} (h : LeastIs L order a o) : ∀ (d q : Nat), q + d = o → order ≤ q → leastOf L (11 - q) q = some (a, o)
  | 0, q, hq, h1 => by
    obtain rfl : q = o := by omega
    obtain ⟨k, hk⟩ : ∃ k, 11 - q = k + 1 := ⟨10 - q, by have := h.2.1; omega⟩
    rw [hk]
    unfold leastOf
    rw [ordFirst_some h.2.2.1 h.2.2.2.2]
  | d + 1, q, hq, h1 => by
    obtain ⟨k, hk⟩ : ∃ k, 11 - q = k + 1 := ⟨10 - q, by have := h.2.1; omega⟩
    rw [hk]
    unfold leastOf
    rw [ordFirst_none (h.2.2.2.1 q h1 (by omega))]
    have := leastOf_some h d (q + 1) (by omega) (by omega)
    rwa [show 11 - (q + 1) = k from by omega] at this
theorem leastOf_is {L : List Pg} {order a o : Nat} (h : LeastIs L order a o) : leastOf L (11 - order) order = some (a, o) := by
  have := h.1
  exact leastOf_some h (o - order) order (by omega) (Nat.le_refl _)
theorem leastOf_no {L : List Pg} : ∀ (d q order : Nat), 11 - q = d → order ≤ q → NoneIs L order → leastOf L (11 - q) q = none
  | 0, q, order, hq, _, h => by rw [hq]; rfl
  | d + 1, q, order, hq, h1, h => by
    rw [hq]
    unfold leastOf
    rw [ordFirst_none (h q h1 (by omega))]
    have := leastOf_no d (q + 1) order (by omega) (by omega) h
    rwa [show 11 - (q + 1) = d from by omega] at this
section
variable {W w : World} {m bl : List (Nat × Obj)} {pb : Nat} {L : List Pg}
/-- Alloc, where it finds a block -/
theorem alloc_at (h : Own W (bl ++ m) w) (hb : BdO pb L bl) (hck : pgCheck L = 0) (order : Nat) (c : Int) (ho : order ≤ 10) (hc0 : 0 ≤ c) (hc8 : c ≤ 8) {a k : Nat} {L' : List Pg} (e : leastOf L (11 - order) order = some (a, order + k)) (e' : allocL L a order k c = L') :
    Calls Try.prog 28 #[.pointer (some ⟨pb, 0, none⟩), .int .i64 order, .int .i64 c] w fun e w' => ∃ bl', e = .returned (.tuple #[.int .i64 a, .int .i64 0]) ∧ BdO pb L' bl' ∧ Own W (bl' ++ m) w' := by
  obtain ⟨bs, hT⟩ := pgCheck_tab hck
  obtain ⟨h1, h2, -⟩ := pgCheck_zero hck
  refine (alloc_ok h hb hT h1 h2 order c ho hc0 hc8).mono ?_
  rintro x w' (⟨hbad, -⟩ | ⟨-, hno, -⟩ | ⟨-, a', k', bl', hl, hx, hb', hO⟩)
  · omega
  · rw [Int.toNat_natCast] at hno
    rw [leastOf_no _ order order rfl (Nat.le_refl _) hno] at e
    cases e
  · rw [Int.toNat_natCast] at hl hb'
    rw [leastOf_is hl] at e
    simp only [Option.some.injEq, Prod.mk.injEq] at e
    obtain ⟨rfl, hk⟩ := e
    obtain rfl : k' = k := by omega
    subst e'
    exact ⟨bl', hx, hb', hO⟩
theorem free_at (h : Own W (bl ++ m) w) (hb : BdO pb L bl) (hck : pgCheck L = 0) (page o0 : Nat) {c0 : Int} {L' : List Pg} (hp : L[page]? = some (2, (o0 : Int), c0)) (e' : freeL L page o0 = L') :
    Calls Try.prog 25 #[.pointer (some ⟨pb, 0, none⟩), .int .i64 page] w fun e w' => ∃ bl', e = .returned (.int .i64 0) ∧ BdO pb L' bl' ∧ Own W (bl' ++ m) w' := by
  obtain ⟨bs, hT⟩ := pgCheck_tab hck
  obtain ⟨h1, h2, -⟩ := pgCheck_zero hck
  subst e'
  exact Free_ok h hb hT h1 h2 page o0 c0 hp
theorem frees_at (h : Own W (bl ++ m) w) (hb : BdO pb L bl) (hck : pgCheck L = 0) (o : Nat) (ho : o ≤ 10) {l : List Int} (e : freesTo L o L.length = l) :
    Calls Try.prog 26 #[.pointer (some ⟨pb, 0, none⟩), .int .i64 o] w fun e w' => ∃ v bs, e = .returned v ∧ IntsOwn true v l bs ∧ Own W (bs ++ (bl ++ m)) w' := by
  obtain ⟨bs, hT⟩ := pgCheck_tab hck
  obtain ⟨h1, h2, -⟩ := pgCheck_zero hck
  subst e
  exact frees_ok h hb hT h1 h2 o ho
end
-- the tables of the example
def t7 : List Pg := [(0, 2, 0), (1, 0, 0), (1, 0, 0), (1, 0, 0), (0, 1, 0), (1, 0, 0), (0, 0, 0)]
def t7a : List Pg := [(0, 2, 0), (1, 0, 0), (1, 0, 0), (1, 0, 0), (0, 1, 0), (1, 0, 0), (2, 0, 1)]
def t7b : List Pg := [(0, 2, 0), (1, 0, 0), (1, 0, 0), (1, 0, 0), (2, 0, 1), (0, 0, 0), (2, 0, 1)]
def t7c : List Pg := [(0, 2, 0), (1, 0, 0), (1, 0, 0), (1, 0, 0), (2, 0, 1), (2, 0, 1), (2, 0, 1)]
def t7d : List Pg := [(0, 2, 0), (1, 0, 0), (1, 0, 0), (1, 0, 0), (0, 0, 0), (2, 0, 1), (2, 0, 1)]
def t8 : List Pg := [(0, 3, 0), (1, 0, 0), (1, 0, 0), (1, 0, 0), (1, 0, 0), (1, 0, 0), (1, 0, 0), (1, 0, 0)]
def t8a : List Pg := [(2, 1, 0), (1, 0, 0), (0, 1, 0), (1, 0, 0), (0, 2, 0), (1, 0, 0), (1, 0, 0), (1, 0, 0)]
theorem fresh7 : freshL 7 = t7 := by decide +kernel
theorem fresh8 : freshL 8 = t8 := by decide +kernel
theorem c7 : pgCheck t7 = 0 ∧ pgCheck t7a = 0 ∧ pgCheck t7b = 0 ∧ pgCheck t7c = 0 ∧ pgCheck t7d = 0 ∧ pgCheck t8 = 0 ∧ pgCheck t8a = 0 := by decide +kernel
end Go.Proofs.Ytljcndcmdphmgaa
