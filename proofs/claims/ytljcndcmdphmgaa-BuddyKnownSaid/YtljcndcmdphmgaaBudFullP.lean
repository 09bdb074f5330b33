/-
  BuddyFull, in plain Lean: what Alloc gives. No condition.
-/
import Derived.Test.YtljcndcmdphmgaaBudPlayed
namespace Go.Proofs.Ytljcndcmdphmgaa
open Go.RowKit
theorem freeSum_nn : ∀ (bs : List Pg), 0 ≤ freeSum bs ∧ freeSum bs ≤ (lay bs).length
  | [] => by simp [freeSum]
  | p :: bs => by
    have h1 := freeSum_nn bs
    have h2 := lay_cons_len p bs
    unfold freeSum
    split <;> omega
theorem pgFree_bd {L bs : List Pg} (h : Tab L bs) (h1 : 1 ≤ L.length) (h2 : L.length ≤ 1024) : 0 ≤ pgFree L ∧ pgFree L ≤ L.length := by
  rw [pgFree_tab h h1 h2]
  have := freeSum_nn bs
  have h3 := tab_len h
  omega
theorem freesTo_some {L : List Pg} {q : Nat} : 0 < (freesTo L q L.length).length ↔ ¬ NoOrd L q := by
  unfold freesTo NoOrd
  rw [List.length_map, List.length_pos_iff_exists_mem]
  constructor
  · rintro ⟨a, ha⟩ h
    rw [List.mem_filter] at ha
    exact h a (by simpa using ha.2)
  · intro h
    have : ∃ a : Nat, L[a]? = some (fb q) := by
      apply Classical.byContradiction
      intro hn
      exact h fun a ha => hn ⟨a, ha⟩
    obtain ⟨a, ha⟩ := this
    have hlt := (List.getElem?_eq_some_iff.1 ha).1
    exact ⟨a, List.mem_filter.2 ⟨by simpa using hlt, by simpa using ha⟩⟩
/-- was there a free block of an order from O on, below k? -/
def someTo (L : List Pg) (O k : Nat) (b : Bool) : Prop := b = true ↔ ∃ q, O ≤ q ∧ q < k ∧ ¬ NoOrd L q
theorem someTo_start (L : List Pg) (O : Nat) : someTo L O O false := ⟨fun h => (by cases h), fun ⟨q, h1, h2, _⟩ => by omega⟩
theorem someTo_yes {L : List Pg} {O k : Nat} (h : someTo L O k true) : someTo L O (k + 1) true := ⟨fun _ => by
  obtain ⟨q, h1, h2, h3⟩ := h.1 rfl
  exact ⟨q, h1, by omega, h3⟩, fun _ => rfl⟩
theorem someTo_no {L : List Pg} {O k : Nat} (hk : O ≤ k) (h : someTo L O k false) : someTo L O (k + 1) (decide (0 < (freesTo L k L.length).length)) := by
  constructor
  · intro hd
    exact ⟨k, hk, by omega, freesTo_some.1 (of_decide_eq_true hd)⟩
  · rintro ⟨q, h1, h2, h3⟩
    by_cases hq : q = k
    · subst hq
      exact decide_eq_true (freesTo_some.2 h3)
    · have := h.2 ⟨q, h1, by omega, h3⟩
      cases this
theorem someTo_none {L : List Pg} {O k : Nat} (hk : 11 ≤ k) (h : someTo L O k false) : NoneIs L O := by
  intro q h1 h2
  apply Classical.byContradiction
  intro hn
  have := h.2 ⟨q, h1, by omega, hn⟩
  cases this
theorem someTo_least {L : List Pg} {O k a o : Nat} (h : LeastIs L O a o) (hk : 11 ≤ k) : ¬ someTo L O k false := by
  intro hs
  exact someTo_none hk hs o h.1 h.2.1 a h.2.2.1
theorem someTo_not {L : List Pg} {O k : Nat} (h : NoneIs L O) (hk : k ≤ 11) : ¬ someTo L O k true := by
  intro hs
  obtain ⟨q, h1, h2, h3⟩ := hs.1 rfl
  exact h3 (h q h1 (by omega))
/-- what Alloc gives, in BuddyFull's words -/
theorem full_plain {L : List Pg} {outl : List Int} (hI : BInv L outl) (h1 : 1 ≤ L.length) (h2 : L.length ≤ 1024) {O a k : Nat} (hl : LeastIs L O a (O + k)) :
    (allocL L a O k 2).length = L.length ∧ (allocL L a O k 2)[a]? = some (2, (O : Int), 2) ∧ a + 2 ^ O ≤ L.length ∧ pgFree (allocL L a O k 2) = pgFree L - 2 ^ O ∧ (2 : Int) ^ O ≤ pgFree L ∧
      L[a]? = some (fb (O + k)) ∧ ∀ i : Nat, a ≤ i → i < a + 2 ^ O → pgHeadE L i = ((a : Int), 0) := by
  obtain ⟨hI', hlen, hsum⟩ := binv_alloc hI hl (c := 2) ⟨by omega, by omega⟩
  obtain ⟨bs, hT⟩ := bInv_tab hI
  obtain ⟨bs', hT', hs⟩ := hsum _ hT
  have hnn := (freeSum_nn bs').1
  have f1 := pgFree_tab hT h1 h2
  have f2 := pgFree_tab hT' (by omega) (by omega)
  obtain ⟨b1, b2, rfl, hb⟩ := tab_block hT hl.2.2.1 (fb_kind _)
  obtain ⟨-, hfit, -⟩ := tab_align hT hl.2.2.1 (fb_kind _)
  rw [fb_size] at hfit
  have hpw : 2 ^ O ≤ 2 ^ (O + k) := Nat.pow_le_pow_right (by omega) (by omega)
  obtain ⟨hA, hal, hle⟩ := alloc_tab hT hl.2.1 (c := 2) ⟨by omega, by omega⟩
  have hat := tab_at hA
  rw [hb] at hat
  refine ⟨hlen, hat, by omega, by rw [f1, f2]; omega, by rw [f1]; omega, hl.2.2.1, fun i hi1 hi2 => ?_⟩
  have hhd := (pgHd_at hT (page := (i : Int)) (by omega) (by rw [fb_size]; omega)).1
  unfold pgHeadE
  rw [pgCheck_of_tab hT h1 h2, if_neg (by simp), if_neg (by omega), hhd, hb]
section
variable {W w : World} {m bl : List (Nat × Obj)} {pb : Nat} {L : List Pg} {outl : List Int}
def FullPost (W : World) (m : List (Nat × Obj)) (pb : Nat) (L : List Pg) (O : Nat) (e : Ending) (w' : World) : Prop :=
  ∃ (L' : List Pg) (bl' : List (Nat × Obj)), Hid (BdO pb L' bl') ∧ Own W (bl' ++ m) w' ∧
    ((Hid (NoneIs L O) ∧ e = .returned (.tuple #[.int .i64 0, .int .i64 7]) ∧ Hid (L' = L)) ∨
     (∃ a k : Nat, Hid (LeastIs L O a (O + k)) ∧ e = .returned (.tuple #[.int .i64 a, .int .i64 0]) ∧ Hid (L' = allocL L a O k 2)))
theorem full_alloc (h : Own W (bl ++ m) w) (hb : BdO pb L bl) (hI : BInv L outl) (hL1 : 1 ≤ L.length) (hL : L.length ≤ 1024) (O : Nat) (ho : O ≤ 10) :
    Calls Try.prog 28 #[.pointer (some ⟨pb, 0, none⟩), .int .i64 O, .int .i64 2] w (FullPost W m pb L O) := by
  obtain ⟨bs, hT⟩ := bInv_tab hI
  refine (alloc_ok h hb hT hL1 hL O 2 ho (by omega) (by omega)).mono ?_
  rintro x w' (⟨hbad, -⟩ | ⟨-, hno, hx, hO⟩ | ⟨-, a, k, bl', hl, hx, hb', hO⟩)
  · omega
  · rw [Int.toNat_natCast] at hno
    exact ⟨L, bl, hb, hO, .inl ⟨hno, hx, rfl⟩⟩
  · rw [Int.toNat_natCast] at hl hb'
    exact ⟨_, bl', hb', hO, .inr ⟨a, k, hl, hx, rfl⟩⟩
end
end Go.Proofs.Ytljcndcmdphmgaa
