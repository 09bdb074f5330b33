/-
  Texts of this claim, joined. No condition.
-/
import Derived.Test.YtllbnoojkgbjiaaGreatFq7
import Derived.Test.YtllbnoojkgbjiaaGreatRows
import Derived.Test.YtllbnoojkgbjiaaGreatFq6
import Derived.Laws.BitsAllLaws
/-
  Contracts: mem.New, Words; slices.Clone of words. No condition.
-/
namespace Go.Proofs.YtllbnoojkgbjiaaGreat.Mem
open Go.RowKit
attribute [local go_sem ↓] Go.wp_at_zero Go.wp_at_succ
section
variable {W w : World} {m : List (Nat × Obj)} {b0 b1 N k b : Nat} {g : List Nat} {v : Value}
set_option maxHeartbeats 400000 in
theorem clone_spec (h : Own W m w) (hv : WordsSrc w v g) (hlen : g.length * 8 ≤ 140737488351232) :
    Calls Tryz.prog 29 #[v] w fun e w' => ∃ v' bs', e = .returned v' ∧ WordsOwn true v' g bs' ∧ Own W (bs' ++ m) w' := by
  rcases hv.2 with ⟨rfl, hn⟩ | ⟨a, c, rfl, hc⟩
  · have hl : g = [] := List.eq_nil_of_length_eq_zero hn
    subst hl
    have he := Lib.run_eql_slice_nil (P := Tryz.prog) w 22 23 none 0 0 0 0 Tryz.underlying22
    go_enter Tryz.func29, Tryz.ntmps29
    go_wp2
    go_ret
    exact ⟨_, [], rfl, SlO.nil _ _ _, h⟩
  · have he := Lib.run_eql_slice_nil (P := Tryz.prog) w 22 23 (some a) g.length c 0 0 Tryz.underlying22
    have hn := h.new (.cells #[] 23)
    have hs0 : WordsOwn true (.slice (some ⟨w.heap.size, 0, none⟩) 0 0) [] [(w.heap.size, .cells #[] 23)] := SlO.made true 23 1 w.heap.size 0 #[] 0 (Nat.le_refl _) (by unfold maxLen; omega) rfl
    have hx := hv.below (w' := w.alloc (.cells #[] 23)) ((Below.refl _ _).alloc (Nat.le_refl _) _)
    clear hv hc
    go_enter Tryz.func29, Tryz.ntmps29
    go_wp2_with (at_builtin; refine wpList_app_words rfl _ _ rfl rfl rfl hs0 hn hx (by simpa using hlen) ?_; intro v' w' bs' h1 h2 h3; have H1 := Lib.hid h1; clear h1 h3)
    go_ret
    exact ⟨_, bs', rfl, H1.out, h2⟩
theorem src_row (h : Own W (wB b1 g :: m) w) : WordsSrc w (.slice (some ⟨b1, 0, none⟩) g.length g.length) g :=
  ⟨by rw [words_len, Nat.mul_one], .inr ⟨_, _, rfl, fun j u hj => by
    rw [add_lit0]
    have hjl : j < g.length := by
      have := (List.getElem?_eq_some_iff.1 hj).1
      rw [words_len] at this
      exact this
    have hg1 : g[j]? = some (g[j]'hjl) := List.getElem?_eq_getElem hjl
    rw [words_get hg1] at hj
    rw [(cell_w h hg1).1, ← hj]⟩⟩
theorem words_spec (h : Own W (mB b0 b1 N k :: wB b1 g :: m) w) (hN : g.length = N) (hN2 : N ≤ 4096) :
    Calls Tryz.prog 9 #[.pointer (some ⟨b0, 0, none⟩)] w fun e w' => ∃ v' bs', e = .returned v' ∧ WordsOwn true v' g bs' ∧ Own W (bs' ++ (mB b0 b1 N k :: wB b1 g :: m)) w' := by
  obtain ⟨y0, y1, f1⟩ := box_m h
  have hs := src_row h.skip
  have hc := clone_spec h hs (by omega)
  rw [hN] at hc
  have HC := Lib.hid hc
  clear hc hs h hN
  go_enter Tryz.func9, Tryz.ntmps9
  go_wp2_with fail
  refine HC.out.mono ?_
  rintro e w3 ⟨v', bs', rfl, h3, h4⟩
  obtain ⟨A, c, rfl, -, -⟩ := h3.slice
  have H3 := Lib.hid h3
  have H4 := Lib.hid h4
  clear h3 h4
  go_wp2_with fail
  go_ret
  exact ⟨_, bs', rfl, H3.out, H4.out⟩
theorem row_zero (n : Nat) : Array.replicate n (Value.int .u64 0) = wRow (List.replicate n 0) := by
  unfold wRow words
  simp
set_option maxRecDepth 100000 in
theorem new_spec (h : Own W m w) (h1 : 1 ≤ N) (h2 : N ≤ 4096) :
    Calls Tryz.prog 13 #[.int .i64 N] w fun e w' => ∃ b0 b1, e = .returned (.tuple #[.pointer (some ⟨b0, 0, none⟩), .int .i64 0]) ∧ Own W (mB b0 b1 N 0 :: wB b1 (List.replicate N 0) :: m) w' := by
  obtain ⟨i, hi, hzz, hs, hby⟩ := info_get word_info
  have hmk := fun W => run_make_rowN (P := Tryz.prog) 22 23 i _ Tryz.underlying22 hi hzz .i64 .i64 N N (Nat.le_refl _) (by rw [hby]; omega) (by omega) W
  rw [hs, Nat.mul_one, madeCells_const _ (.int .u64 0) _ (by simp [Value.cells]) (by intro j hj; obtain rfl : j = 0 := (by simp [Value.cells] at hj; omega); rfl), row_zero] at hmk
  clear hi hzz hs hby
  have h3 : Own W (wB w.heap.size (List.replicate N 0) :: m) _ := h.new (.cells (wRow (List.replicate N 0)) 23)
  have h4 := h3.new (.cells #[.slice (some ⟨w.heap.size, 0, none⟩) N N, .int .i64 0] 48)
  rw [World.size_alloc] at h4
  have hi1 : (1 : Int) ≤ N := by omega
  have hi2 : (N : Int) ≤ 4096 := by omega
  clear h h3
  go_enter Tryz.func13, Tryz.ntmps13
  go_wp2_with fail
  go_ret2
  exact ⟨_, _, rfl, h4⟩
end
end Go.Proofs.YtllbnoojkgbjiaaGreat.Mem

/-
  What a core's words say, in plain Lean. No condition.
-/
namespace Go.Proofs.YtllbnoojkgbjiaaGreat.See
/-- a list of free objects: what shows the next one, the slab's links; what is out already -/
def walk (sh : Nat → Int → Option Int) (l : List Nat) : Nat → List Int → Int → Option (List Int)
  | 0, _, _ => none
  | n + 1, out, i => if i = -1 then some out else if i ∈ out then none else match sh (l.getD i.toNat 0) i with
    | none => none
    | some x => if (l.length : Int) ≤ x then none else walk sh l n (out ++ [i]) x
/-- slabs, one behind the other -/
def chain (of : Nat → Option Int) (nx : Int → Nat) (S : Nat) : Nat → List Int → Nat → Option (List Int)
  | 0, _, _ => none
  | n + 1, out, w => match of w with
    | none => none
    | some s => if (S : Int) ≤ s ∨ s ∈ out then none else if s = -1 then some out else chain of nx S n (out ++ [s]) (nx s)
/-- unlike numbers from 0 to below S: there are S at most; when there are S, all are there -/
theorem few : ∀ {S : Nat} {l : List Int}, l.Nodup → (∀ x ∈ l, 0 ≤ x ∧ x < S) → l.length ≤ S
  | 0, l, _, hb => by
    cases l with
    | nil => simp
    | cons x l =>
      have := hb x List.mem_cons_self
      omega
  | S + 1, l, hn, hb => by
    have h1 := few (S := S) (l := l.erase (S : Int)) (hn.erase _) fun x hx => by
      have h2 := (hn.mem_erase_iff).1 hx
      have := hb x h2.2
      omega
    by_cases hm : (S : Int) ∈ l
    · rw [List.length_erase_of_mem hm] at h1
      omega
    · rw [List.erase_of_not_mem hm] at h1
      omega
theorem few_lt {S : Nat} {l : List Int} (hn : l.Nodup) (hb : ∀ x ∈ l, 0 ≤ x ∧ x < S) {i : Int} (h0 : 0 ≤ i) (h1 : i < S) (hi : i ∉ l) : l.length < S := by
  have := few (S := S) (l := l ++ [i]) (List.nodup_append.2 ⟨hn, by simp, fun a ha b hb' he => by
    simp at hb'
    subst hb'
    subst he
    exact hi ha⟩) (fun x hx => by
    rcases List.mem_append.1 hx with hx | hx
    · exact hb x hx
    · simp at hx
      subst hx
      exact ⟨h0, h1⟩)
  simp at this
  omega
/-- words are numbers below 2^64 -/
def W64 (g : List Nat) : Prop := ∀ x ∈ g, x < 18446744073709551616
/-- a head: a slab, an object -/
def headOf (w : Nat) : Option (Int × Int) := if w = 0 then some (-1, -1) else if 64 ≤ w ∧ w < 2112 ∧ w % 64 ≤ 16 then some (((w / 64 : Nat) : Int) - 1, ((w % 64 : Nat) : Int) - 1) else none
/-- a part: a slab, how many -/
def partOf (w : Nat) : Option (Int × Int) := if w = 0 then some (-1, 0) else if 64 ≤ w ∧ w < 4096 ∧ 1 ≤ w % 64 ∧ w % 64 ≤ 32 then some (((w % 64 : Nat) : Int) - 1, ((w / 64 : Nat) : Int)) else none
def shelfOf (w : Nat) : Option Int := if w ≤ 32 then some ((w : Int) - 1) else none
/-- a slab's numbers -/
structure CountsP where
  inuse : Nat
  objects : Nat
  frozen : Bool
  live : Bool
  deriving DecidableEq
def countsOf (w : Nat) : Option CountsP := if w = 0 then some ⟨0, 0, false, false⟩ else
  if 131072 ≤ w ∧ w < 262144 ∧ 1 ≤ w / 256 % 256 ∧ w / 256 % 256 ≤ 16 ∧ w % 256 ≤ w / 256 % 256 then some ⟨w % 256, w / 256 % 256, decide (w / 65536 % 2 = 1), true⟩ else none
/-- the key at an object -/
def turned (key n : Nat) : Nat := (((key <<< (5 * n % 64)) % 18446744073709551616 ||| key >>> (64 - 5 * n % 64)) + n * 2654435769) % 18446744073709551616
def showOf (w key n : Nat) : Option Int := if w ^^^ turned key n ≤ 16 then some (((w ^^^ turned key n : Nat) : Int) - 1) else none
def keyOf (key s : Nat) : Nat := (key + s * 11400714819323198485) % 18446744073709551616
/-- a chart's numbers -/
structure Ch where
  C : Nat
  S : Nat
  O : Nat
  key : Nat
def Ch.words (c : Ch) : Nat := 4 * c.C + 4 + 4 * c.S + c.S * c.O
def Ch.ok (c : Ch) : Prop := 1 ≤ c.C ∧ c.C ≤ 8 ∧ 1 ≤ c.S ∧ c.S ≤ 32 ∧ 1 ≤ c.O ∧ c.O ≤ 16
def at_ (g : List Nat) (i : Nat) : Nat := g.getD i 0
def nextAt (c : Ch) (g : List Nat) (s : Int) : Nat := at_ g (4 * c.C + 4 + 4 * s.toNat + 2)
def links (c : Ch) (g : List Nat) (s : Nat) : List Nat := (g.drop (4 * c.C + 4 + 4 * c.S + s * c.O)).take c.O
/-- the free objects of a slab, from one on -/
def listP (c : Ch) (g : List Nat) (s i : Int) : Option (List Int) :=
  if 0 ≤ s ∧ s < c.S ∧ -1 ≤ i ∧ i < c.O then walk (fun w o => showOf w (keyOf c.key s.toNat) o.toNat) (links c g s.toNat) (c.O + 1) [] i else none
structure SlotP where
  slab : Int
  list : List Int
  turn : Nat
  parts : List Int
structure SlabP where
  counts : CountsP
  first : List Int
def partsP (c : Ch) (g : List Nat) (w : Nat) : Option (List Int) := chain (fun w => (partOf w).map (·.1)) (nextAt c g) c.S (c.S + 1) [] w
def shelfP (c : Ch) (g : List Nat) : Option (List Int) := chain shelfOf (nextAt c g) c.S (c.S + 1) [] (at_ g (4 * c.C + 1))
def slotP (c : Ch) (g : List Nat) (i : Nat) : Option SlotP :=
  match headOf (at_ g (4 * i)) with
  | none => none
  | some (s, o) => match (if s = -1 then some [] else listP c g s o) with
    | none => none
    | some l => match partsP c g (at_ g (4 * i + 2)) with
      | none => none
      | some p => some ⟨s, l, at_ g (4 * i + 1), p⟩
def slabP (c : Ch) (g : List Nat) (s : Nat) : Option SlabP :=
  match countsOf (at_ g (4 * c.C + 4 + 4 * s + 1)) with
  | none => none
  | some n => if c.O < at_ g (4 * c.C + 4 + 4 * s) then none else match listP c g s ((at_ g (4 * c.C + 4 + 4 * s) : Int) - 1) with
    | none => none
    | some l => some ⟨n, l⟩
/-- the first ones, as many as are asked for, if all may be -/
def upto {α : Type} (f : Nat → Option α) : Nat → Option (List α)
  | 0 => some []
  | n + 1 => match upto f n with
    | none => none
    | some l => match f n with
      | none => none
      | some x => some (l ++ [x])
theorem upto_none {α : Type} {f : Nat → Option α} {k : Nat} (h : f k = none) : ∀ {n : Nat}, k < n → upto f n = none
  | 0, hk => by omega
  | n + 1, hk => by
    unfold upto
    by_cases he : k = n
    · subst he
      rw [h]
      cases upto f k <;> rfl
    · rw [upto_none h (show k < n by omega)]
theorem upto_len {α : Type} {f : Nat → Option α} : ∀ {n : Nat} {l : List α}, upto f n = some l → l.length = n
  | 0, l, h => by
    simp only [upto, Option.some.injEq] at h
    subst h
    rfl
  | n + 1, l, h => by
    unfold upto at h
    split at h <;> first | (cases h; done) | skip
    rename_i l' hl
    split at h <;> first | (cases h; done) | skip
    simp only [Option.some.injEq] at h
    subst h
    simp [upto_len hl]
theorem upto_get {α : Type} {f : Nat → Option α} : ∀ {n : Nat} {l : List α}, upto f n = some l → ∀ i, i < n → f i = l[i]?
  | 0, l, h, i, hi => by omega
  | n + 1, l, h, i, hi => by
    unfold upto at h
    split at h <;> first | (cases h; done) | skip
    rename_i l' hl
    split at h <;> first | (cases h; done) | skip
    rename_i x hx
    simp only [Option.some.injEq] at h
    subst h
    have hlen := upto_len hl
    by_cases he : i = n
    · subst he
      rw [hx, List.getElem?_append_right (by omega), hlen, Nat.sub_self]
      rfl
    · rw [List.getElem?_append_left (by omega)]
      exact upto_get hl i (by omega)
structure CoreP where
  slots : List SlotP
  shelf : List Int
  locked : Bool
  slabs : List SlabP
/-- what words say -/
def seeP (c : Ch) (g : List Nat) : Option CoreP :=
  match upto (slotP c g) c.C with
  | none => none
  | some a => match shelfP c g with
    | none => none
    | some l => match upto (slabP c g) c.S with
      | none => none
      | some b => some ⟨a, l, decide (at_ g (4 * c.C) ≠ 0), b⟩
end Go.Proofs.YtllbnoojkgbjiaaGreat.See

/-
  Contracts: a head, a part, a slab's numbers (package count). No condition.
-/
namespace Go.Proofs.YtllbnoojkgbjiaaGreat.See
open Go.RowKit
attribute [local go_sem ↓] Go.wp_at_zero Go.wp_at_succ
theorem and63 (w : Nat) (h : w < 18446744073709551616) : bits .and .u64 (w : Int) 63 = ((w % 64 : Nat) : Int) := by
  have := u64_and_nat w 63 h (by omega)
  rw [show (63 : Int) = ((63 : Nat) : Int) from rfl, this, show (63 : Nat) = 2 ^ 6 - 1 from rfl, Nat.and_two_pow_sub_one_eq_mod]
theorem and255 (w : Nat) (h : w < 18446744073709551616) : bits .and .u64 (w : Int) 255 = ((w % 256 : Nat) : Int) := by
  have := u64_and_nat w 255 h (by omega)
  rw [show (255 : Int) = ((255 : Nat) : Int) from rfl, this, show (255 : Nat) = 2 ^ 8 - 1 from rfl, Nat.and_two_pow_sub_one_eq_mod]
def headOk (s o : Int) : Prop := 0 ≤ s ∧ s < 32 ∧ -1 ≤ o ∧ o < 16
instance (s o : Int) : Decidable (headOk s o) := inferInstanceAs (Decidable (0 ≤ s ∧ s < 32 ∧ -1 ≤ o ∧ o < 16))
/-- the word of a head -/
def headW (s o : Int) : Nat := (64 * (s + 1) + (o + 1)).toNat
theorem or64 (a b : Nat) (ha : a < 1000) (hb : b < 64) : bits .or .u64 ((64 * a : Nat) : Int) (b : Int) = ((64 * a + b : Nat) : Int) := by
  have := u64_or_nat (64 * a) b (by omega) (by omega)
  rw [this]
  have h := Nat.two_pow_add_eq_or_of_lt (i := 6) (b := b) hb a
  rw [← h]
def smay (s : Int) : Bool := decide (0 ≤ s ∧ s < 32)
theorem smay_yes {s : Int} (h : 0 ≤ s ∧ s < 32) : smay s = true := decide_eq_true h
theorem smay_no {s : Int} (h : ¬ (0 ≤ s ∧ s < 32)) : smay s = false := decide_eq_false h
theorem slabMay_spec (s : Int) (w : World) : Calls Tryz.prog 81 #[.int .i64 s] w fun e w' => e = .returned (.bool (smay s)) ∧ w = w' := by
  by_cases h0 : 0 ≤ s
  · by_cases h1 : s < 32
    · rw [smay_yes ⟨h0, h1⟩]
      go_enter Tryz.func81, Tryz.ntmps81
      go_wp2_with fail
      go_ret
      exact ⟨rfl, rfl⟩
    · rw [smay_no (by omega)]
      go_enter Tryz.func81, Tryz.ntmps81
      go_wp2_with fail
      go_ret
      exact ⟨rfl, rfl⟩
  · rw [smay_no (by omega)]
    go_enter Tryz.func81, Tryz.ntmps81
    go_wp2_with fail
    go_ret
    exact ⟨rfl, rfl⟩
/-- a head's word is made -/
theorem head_ok (s o : Int) (h : headOk s o) (w : World) : Calls Tryz.prog 60 #[.int .i64 s, .int .i64 o] w fun e w' => e = .returned (.tuple #[.int .u64 (headW s o), .int .i64 0]) ∧ w = w' := by
  obtain ⟨h0, h1, h2, h3⟩ := h
  have hb : (s == -1) = false := beq_eq_false_iff_ne.2 (by omega)
  have hw : bits .or .u64 ((s + 1) * 64) (o + 1) = headW s o := by
    have := or64 (s + 1).toNat (o + 1).toNat (by omega) (by omega)
    rw [show ((64 * (s + 1).toNat : Nat) : Int) = (s + 1) * 64 by omega, show ((o + 1).toNat : Int) = o + 1 by omega] at this
    rw [this]
    unfold headW
    omega
  have HW := Lib.hid hw
  clear hw
  go_enter Tryz.func60, Tryz.ntmps60
  go_wp2_with (go_at_call 81; refine (slabMay_spec s _).mono ?_; rintro e w' ⟨rfl, rfl⟩; rw [smay_yes ⟨h0, h1⟩])
  go_ret2
  exact ⟨by rw [← HW.out]; rfl, rfl⟩
theorem head_none (w : World) : Calls Tryz.prog 60 #[.int .i64 (-1), .int .i64 (-1)] w fun e w' => e = .returned (.tuple #[.int .u64 0, .int .i64 0]) ∧ w = w' := by
  go_enter Tryz.func60, Tryz.ntmps60
  go_wp2_with fail
  go_ret2
  exact ⟨rfl, rfl⟩
theorem head_bad (s o : Int) (h : ¬ headOk s o) (hn : ¬ (s = -1 ∧ o = -1)) (w : World) : Calls Tryz.prog 60 #[.int .i64 s, .int .i64 o] w fun e w' => e = .returned (.tuple #[.int .u64 0, .int .i64 2]) ∧ w = w' := by
  unfold headOk at h
  by_cases hs : s = -1
  · subst hs
    have hb : (o == -1) = false := beq_eq_false_iff_ne.2 (by omega)
    go_enter Tryz.func60, Tryz.ntmps60
    go_wp2_with (go_at_call 81; refine (slabMay_spec (-1) _).mono ?_; rintro e w' ⟨rfl, rfl⟩)
    go_ret2
    exact ⟨rfl, rfl⟩
  · have hb : (s == -1) = false := beq_eq_false_iff_ne.2 hs
    by_cases hm : 0 ≤ s ∧ s < 32
    · rcases (show o < -1 ∨ (¬ o < -1 ∧ 16 ≤ o) by omega) with ho | ⟨ho, ho2⟩
      all_goals
        go_enter Tryz.func60, Tryz.ntmps60
        go_wp2_with (go_at_call 81; refine (slabMay_spec s _).mono ?_; rintro e w' ⟨rfl, rfl⟩; rw [smay_yes hm])
        go_ret2
        exact ⟨rfl, rfl⟩
    · go_enter Tryz.func60, Tryz.ntmps60
      go_wp2_with (go_at_call 81; refine (slabMay_spec s _).mono ?_; rintro e w' ⟨rfl, rfl⟩; rw [smay_no hm])
      go_ret2
      exact ⟨rfl, rfl⟩
/-- is that a head? -/
def hIs (s o : Int) : Bool := decide (headOk s o ∨ (s = -1 ∧ o = -1))
theorem hc_spec (s o : Int) (w : World) : Calls Tryz.prog 107 #[.int .i64 s, .int .i64 o] w fun e w' => e = .returned (.bool (hIs s o)) ∧ w = w' := by
  by_cases h : headOk s o
  · rw [show hIs s o = true from decide_eq_true (.inl h)]
    have HH := Lib.hid h
    go_enter Tryz.func107, Tryz.ntmps107
    go_wp2_with (go_at_call 60; refine (head_ok s o HH.out _).mono ?_; rintro e w' ⟨rfl, rfl⟩)
    go_ret
    exact ⟨rfl, rfl⟩
  · by_cases hn : s = -1 ∧ o = -1
    · obtain ⟨rfl, rfl⟩ := hn
      rw [show hIs (-1) (-1) = true from decide_eq_true (.inr ⟨rfl, rfl⟩)]
      go_enter Tryz.func107, Tryz.ntmps107
      go_wp2_with (go_at_call 60; refine (head_none _).mono ?_; rintro e w' ⟨rfl, rfl⟩)
      go_ret
      exact ⟨rfl, rfl⟩
    · rw [show hIs s o = false from decide_eq_false (by intro hh; exact hh.elim h hn)]
      have HH := Lib.hid h
      have HN := Lib.hid hn
      clear h hn
      go_enter Tryz.func107, Tryz.ntmps107
      go_wp2_with (go_at_call 60; refine (head_bad s o HH.out HN.out _).mono ?_; rintro e w' ⟨rfl, rfl⟩)
      go_ret
      exact ⟨rfl, rfl⟩
/-- what told answers -/
def toldV (w : Nat) (hi lo : Int) (p : Int → Int → Bool) : Value :=
  if w ≤ 4095 ∧ p (((w / 64 : Nat) : Int) - hi) (((w % 64 : Nat) : Int) - lo) = true then .tuple #[.int .i64 (((w / 64 : Nat) : Int) - hi), .int .i64 (((w % 64 : Nat) : Int) - lo), .bool true] else .tuple #[.int .i64 0, .int .i64 0, .bool false]
set_option maxRecDepth 100000 in
theorem told_h (x : Nat) (hx : x < 18446744073709551616) (hi lo : Int) (h0 : 0 ≤ hi) (h1 : hi ≤ 1) (l0 : 0 ≤ lo) (l1 : lo ≤ 1) (w : World) :
    Calls Tryz.prog 106 #[.int .u64 x, .int .i64 hi, .int .i64 lo, .func (.func 107) #[] #[]] w fun e w' => e = .returned (toldV x hi lo hIs) ∧ w = w' := by
  have ha := and63 x hx
  have hd : (x : Int) / 64 = ((x / 64 : Nat) : Int) := by omega
  obtain ⟨q, hq⟩ : ∃ q : Nat, x / 64 = q := ⟨_, rfl⟩
  obtain ⟨r, hr⟩ : ∃ r : Nat, x % 64 = r := ⟨_, rfl⟩
  have hqb : x ≤ 4095 → q ≤ 63 := by omega
  have hrb : r < 64 := by omega
  unfold toldV
  rw [hq, hr]
  rw [hr] at ha
  rw [hq] at hd
  clear hq hr
  by_cases hbig : x ≤ 4095
  · have hbi : (x : Int) ≤ 4095 := by omega
    have hqb := hqb hbig
    clear hx
    cases hc : hIs ((q : Int) - hi) ((r : Int) - lo)
    · rw [if_neg (by simp)]
      go_enter Tryz.func106, Tryz.ntmps106
      go_wp2_with fail
      refine (hc_spec _ _ _).mono ?_
      rintro e w' ⟨rfl, rfl⟩
      rw [hc]
      go_wp2_with fail
      go_ret3
      exact ⟨rfl, rfl⟩
    · rw [if_pos ⟨hbig, rfl⟩]
      go_enter Tryz.func106, Tryz.ntmps106
      go_wp2_with fail
      refine (hc_spec _ _ _).mono ?_
      rintro e w' ⟨rfl, rfl⟩
      rw [hc]
      go_wp2_with fail
      go_ret3
      exact ⟨rfl, rfl⟩
  · have hbi : ¬ (x : Int) ≤ 4095 := by omega
    rw [if_neg (by intro h; exact hbig h.1)]
    clear hx hqb
    go_enter Tryz.func106, Tryz.ntmps106
    go_wp2_with fail
    go_ret3
    exact ⟨rfl, rfl⟩
/-- what HeadOf answers -/
def headV (w : Nat) : Value := match headOf w with
  | some (s, o) => .tuple #[.int .i64 s, .int .i64 o, .bool true]
  | none => .tuple #[.int .i64 (-1), .int .i64 (-1), .bool false]
theorem headOf_told (w : Nat) : headOf w = if w ≤ 4095 ∧ hIs (((w / 64 : Nat) : Int) - 1) (((w % 64 : Nat) : Int) - 1) = true then some (((w / 64 : Nat) : Int) - 1, ((w % 64 : Nat) : Int) - 1) else none := by
  unfold headOf hIs headOk
  by_cases h0 : w = 0
  · subst h0
    rw [if_pos rfl, if_pos ⟨by omega, by decide⟩]
    rfl
  · rw [if_neg h0]
    by_cases h1 : 64 ≤ w ∧ w < 2112 ∧ w % 64 ≤ 16
    · rw [if_pos h1, if_pos ⟨by omega, decide_eq_true (.inl (by omega))⟩]
    · rw [if_neg h1, if_neg]
      rintro ⟨h2, h3⟩
      have h3 := of_decide_eq_true h3
      omega
theorem headOf_spec (x : Nat) (hx : x < 18446744073709551616) (w : World) : Calls Tryz.prog 94 #[.int .u64 x] w fun e w' => e = .returned (headV x) ∧ w = w' := by
  have ht := fun w => told_h x hx 1 1 (by omega) (by omega) (by omega) (by omega) w
  have HT := Lib.hid ht
  unfold headV
  have he := headOf_told x
  clear hx ht
  by_cases hc : x ≤ 4095 ∧ hIs (((x / 64 : Nat) : Int) - 1) (((x % 64 : Nat) : Int) - 1) = true
  · rw [if_pos hc] at he
    rw [he]
    have hv : toldV x 1 1 hIs = .tuple #[.int .i64 (((x / 64 : Nat) : Int) - 1), .int .i64 (((x % 64 : Nat) : Int) - 1), .bool true] := by
      unfold toldV
      rw [if_pos hc]
    have HV := Lib.hid hv
    clear hv he hc
    go_enter Tryz.func94, Tryz.ntmps94
    go_wp2_with fail
    refine (HT.out _).mono ?_
    rintro e w' ⟨rfl, rfl⟩
    rw [HV.out]
    go_wp2_with fail
    go_ret3
    exact ⟨rfl, rfl⟩
  · rw [if_neg hc] at he
    rw [he]
    have hv : toldV x 1 1 hIs = .tuple #[.int .i64 0, .int .i64 0, .bool false] := by
      unfold toldV
      rw [if_neg hc]
    have HV := Lib.hid hv
    clear hv he hc
    go_enter Tryz.func94, Tryz.ntmps94
    go_wp2_with fail
    refine (HT.out _).mono ?_
    rintro e w' ⟨rfl, rfl⟩
    rw [HV.out]
    go_wp2_with fail
    go_ret3
    exact ⟨rfl, rfl⟩
def partOk (s n : Int) : Prop := 0 ≤ s ∧ s < 32 ∧ 1 ≤ n ∧ n ≤ 63
instance (s n : Int) : Decidable (partOk s n) := inferInstanceAs (Decidable (0 ≤ s ∧ s < 32 ∧ 1 ≤ n ∧ n ≤ 63))
/-- the word of a part -/
def partW (s n : Int) : Nat := (64 * n + (s + 1)).toNat
theorem part_ok (s n : Int) (h : partOk s n) (w : World) : Calls Tryz.prog 114 #[.int .i64 s, .int .i64 n] w fun e w' => e = .returned (.tuple #[.int .u64 (partW s n), .int .i64 0]) ∧ w = w' := by
  obtain ⟨h0, h1, h2, h3⟩ := h
  have hb : (s == -1) = false := beq_eq_false_iff_ne.2 (by omega)
  have hw : bits .or .u64 (n * 64) (s + 1) = partW s n := by
    have := or64 n.toNat (s + 1).toNat (by omega) (by omega)
    rw [show ((64 * n.toNat : Nat) : Int) = n * 64 by omega, show ((s + 1).toNat : Int) = s + 1 by omega] at this
    rw [this]
    unfold partW
    omega
  have HW := Lib.hid hw
  clear hw
  go_enter Tryz.func114, Tryz.ntmps114
  go_wp2_with (go_at_call 81; refine (slabMay_spec s _).mono ?_; rintro e w' ⟨rfl, rfl⟩; rw [smay_yes ⟨h0, h1⟩])
  go_ret2
  exact ⟨by rw [← HW.out]; rfl, rfl⟩
theorem part_none (w : World) : Calls Tryz.prog 114 #[.int .i64 (-1), .int .i64 0] w fun e w' => e = .returned (.tuple #[.int .u64 0, .int .i64 0]) ∧ w = w' := by
  go_enter Tryz.func114, Tryz.ntmps114
  go_wp2_with fail
  go_ret2
  exact ⟨rfl, rfl⟩
theorem part_bad (s n : Int) (h : ¬ partOk s n) (hn : ¬ (s = -1 ∧ n = 0)) (w : World) : Calls Tryz.prog 114 #[.int .i64 s, .int .i64 n] w fun e w' => e = .returned (.tuple #[.int .u64 0, .int .i64 2]) ∧ w = w' := by
  unfold partOk at h
  by_cases hs : s = -1
  · subst hs
    have hb : (n == 0) = false := beq_eq_false_iff_ne.2 (by omega)
    go_enter Tryz.func114, Tryz.ntmps114
    go_wp2_with (go_at_call 81; refine (slabMay_spec (-1) _).mono ?_; rintro e w' ⟨rfl, rfl⟩)
    go_ret2
    exact ⟨rfl, rfl⟩
  · have hb : (s == -1) = false := beq_eq_false_iff_ne.2 hs
    by_cases hm : 0 ≤ s ∧ s < 32
    · rcases (show n < 1 ∨ (¬ n < 1 ∧ 63 < n) by omega) with ho | ⟨ho, ho2⟩
      all_goals
        go_enter Tryz.func114, Tryz.ntmps114
        go_wp2_with (go_at_call 81; refine (slabMay_spec s _).mono ?_; rintro e w' ⟨rfl, rfl⟩; rw [smay_yes hm])
        go_ret2
        exact ⟨rfl, rfl⟩
    · go_enter Tryz.func114, Tryz.ntmps114
      go_wp2_with (go_at_call 81; refine (slabMay_spec s _).mono ?_; rintro e w' ⟨rfl, rfl⟩; rw [smay_no hm])
      go_ret2
      exact ⟨rfl, rfl⟩
/-- is that a part? (how many, which slab) -/
def pIs (n s : Int) : Bool := decide (partOk s n ∨ (s = -1 ∧ n = 0))
theorem pc_spec (n s : Int) (w : World) : Calls Tryz.prog 113 #[.int .i64 n, .int .i64 s] w fun e w' => e = .returned (.bool (pIs n s)) ∧ w = w' := by
  by_cases h : partOk s n
  · rw [show pIs n s = true from decide_eq_true (.inl h)]
    have HH := Lib.hid h
    clear h
    go_enter Tryz.func113, Tryz.ntmps113
    go_wp2_with (go_at_call 114; refine (part_ok s n HH.out _).mono ?_; rintro e w' ⟨rfl, rfl⟩)
    go_ret
    exact ⟨rfl, rfl⟩
  · by_cases hn : s = -1 ∧ n = 0
    · obtain ⟨rfl, rfl⟩ := hn
      rw [show pIs 0 (-1) = true from decide_eq_true (.inr ⟨rfl, rfl⟩)]
      go_enter Tryz.func113, Tryz.ntmps113
      go_wp2_with (go_at_call 114; refine (part_none _).mono ?_; rintro e w' ⟨rfl, rfl⟩)
      go_ret
      exact ⟨rfl, rfl⟩
    · rw [show pIs n s = false from decide_eq_false (by intro hh; exact hh.elim h hn)]
      have HH := Lib.hid h
      have HN := Lib.hid hn
      clear h hn
      go_enter Tryz.func113, Tryz.ntmps113
      go_wp2_with (go_at_call 114; refine (part_bad s n HH.out HN.out _).mono ?_; rintro e w' ⟨rfl, rfl⟩)
      go_ret
      exact ⟨rfl, rfl⟩
set_option maxRecDepth 100000 in
theorem told_p (x : Nat) (hx : x < 18446744073709551616) (hi lo : Int) (h0 : 0 ≤ hi) (h1 : hi ≤ 1) (l0 : 0 ≤ lo) (l1 : lo ≤ 1) (w : World) :
    Calls Tryz.prog 106 #[.int .u64 x, .int .i64 hi, .int .i64 lo, .func (.func 113) #[] #[]] w fun e w' => e = .returned (toldV x hi lo pIs) ∧ w = w' := by
  have ha := and63 x hx
  have hd : (x : Int) / 64 = ((x / 64 : Nat) : Int) := by omega
  obtain ⟨q, hq⟩ : ∃ q : Nat, x / 64 = q := ⟨_, rfl⟩
  obtain ⟨r, hr⟩ : ∃ r : Nat, x % 64 = r := ⟨_, rfl⟩
  have hqb : x ≤ 4095 → q ≤ 63 := by omega
  have hrb : r < 64 := by omega
  unfold toldV
  rw [hq, hr]
  rw [hr] at ha
  rw [hq] at hd
  clear hq hr
  by_cases hbig : x ≤ 4095
  · have hbi : (x : Int) ≤ 4095 := by omega
    have hqb := hqb hbig
    clear hx
    cases hc : pIs ((q : Int) - hi) ((r : Int) - lo)
    · rw [if_neg (by simp)]
      go_enter Tryz.func106, Tryz.ntmps106
      go_wp2_with fail
      refine (pc_spec _ _ _).mono ?_
      rintro e w' ⟨rfl, rfl⟩
      rw [hc]
      go_wp2_with fail
      go_ret3
      exact ⟨rfl, rfl⟩
    · rw [if_pos ⟨hbig, rfl⟩]
      go_enter Tryz.func106, Tryz.ntmps106
      go_wp2_with fail
      refine (pc_spec _ _ _).mono ?_
      rintro e w' ⟨rfl, rfl⟩
      rw [hc]
      go_wp2_with fail
      go_ret3
      exact ⟨rfl, rfl⟩
  · have hbi : ¬ (x : Int) ≤ 4095 := by omega
    rw [if_neg (by intro h; exact hbig h.1)]
    clear hx hqb
    go_enter Tryz.func106, Tryz.ntmps106
    go_wp2_with fail
    go_ret3
    exact ⟨rfl, rfl⟩
/-- what PartOf answers -/
def partV (w : Nat) : Value := match partOf w with
  | some (s, n) => .tuple #[.int .i64 s, .int .i64 n, .bool true]
  | none => .tuple #[.int .i64 (-1), .int .i64 0, .bool false]
theorem partOf_told (w : Nat) : partOf w = if w ≤ 4095 ∧ pIs (((w / 64 : Nat) : Int) - 0) (((w % 64 : Nat) : Int) - 1) = true then some (((w % 64 : Nat) : Int) - 1, ((w / 64 : Nat) : Int) - 0) else none := by
  unfold partOf pIs partOk
  by_cases h0 : w = 0
  · subst h0
    rw [if_pos rfl, if_pos ⟨by omega, by decide⟩]
    rfl
  · rw [if_neg h0]
    by_cases h1 : 64 ≤ w ∧ w < 4096 ∧ 1 ≤ w % 64 ∧ w % 64 ≤ 32
    · rw [if_pos h1, if_pos ⟨by omega, decide_eq_true (.inl (by omega))⟩, Int.sub_zero]
    · rw [if_neg h1, if_neg]
      rintro ⟨h2, h3⟩
      have h3 := of_decide_eq_true h3
      omega
theorem partOf_spec (x : Nat) (hx : x < 18446744073709551616) (w : World) : Calls Tryz.prog 110 #[.int .u64 x] w fun e w' => e = .returned (partV x) ∧ w = w' := by
  have ht := fun w => told_p x hx 0 1 (by omega) (by omega) (by omega) (by omega) w
  have HT := Lib.hid ht
  unfold partV
  have he := partOf_told x
  clear hx ht
  by_cases hc : x ≤ 4095 ∧ pIs (((x / 64 : Nat) : Int) - 0) (((x % 64 : Nat) : Int) - 1) = true
  · rw [if_pos hc] at he
    rw [he]
    have hv : toldV x 0 1 pIs = .tuple #[.int .i64 (((x / 64 : Nat) : Int) - 0), .int .i64 (((x % 64 : Nat) : Int) - 1), .bool true] := by
      unfold toldV
      rw [if_pos hc]
    have HV := Lib.hid hv
    clear hv he hc
    go_enter Tryz.func110, Tryz.ntmps110
    go_wp2_with fail
    refine (HT.out _).mono ?_
    rintro e w' ⟨rfl, rfl⟩
    rw [HV.out]
    go_wp2_with fail
    go_ret3
    exact ⟨by simp, rfl⟩
  · rw [if_neg hc] at he
    rw [he]
    have hv : toldV x 0 1 pIs = .tuple #[.int .i64 0, .int .i64 0, .bool false] := by
      unfold toldV
      rw [if_neg hc]
    have HV := Lib.hid hv
    clear hv he hc
    go_enter Tryz.func110, Tryz.ntmps110
    go_wp2_with fail
    refine (HT.out _).mono ?_
    rintro e w' ⟨rfl, rfl⟩
    rw [HV.out]
    go_wp2_with fail
    go_ret3
    exact ⟨rfl, rfl⟩
end Go.Proofs.YtllbnoojkgbjiaaGreat.See

/-
  Contracts: a slab's numbers in a word (package count). No condition.
-/
namespace Go.Proofs.YtllbnoojkgbjiaaGreat.See
open Go.RowKit
attribute [local go_sem ↓] Go.wp_at_zero Go.wp_at_succ
def mayB (a b : Int) (f l : Bool) : Bool := decide ((l = true ∧ 1 ≤ b ∧ b ≤ 16 ∧ 0 ≤ a ∧ a ≤ b) ∨ (a = 0 ∧ b = 0 ∧ f = false ∧ l = false))
section
variable {W w : World} {m : List (Nat × Obj)}
set_option maxHeartbeats 1000000 in
theorem may_spec (h : Own W m w) (a b : Int) (f l : Bool) : Calls Tryz.prog 82 #[.agg #[.int .i64 a, .int .i64 b, .bool f, .bool l]] w fun e w' => e = .returned (.bool (mayB a b f l)) ∧ Own W m w' := by
  have h0 := h.alloc (.cells #[.int .i64 a, .int .i64 b, .bool f, .bool l] 97)
  cases hm : mayB a b f l with
  | true =>
    rcases of_decide_eq_true hm with ⟨rfl, h1, h2, h3, h4⟩ | ⟨rfl, rfl, rfl, rfl⟩
    · clear hm
      go_enter Tryz.func82, Tryz.ntmps82
      go_wp2_with fail
      go_ret
      exact ⟨rfl, h0⟩
    · clear hm
      go_enter Tryz.func82, Tryz.ntmps82
      go_wp2_with fail
      go_ret
      exact ⟨rfl, h0⟩
  | false =>
    have hm := of_decide_eq_false hm
    cases l with
    | false =>
      have hn : ¬ (a = 0 ∧ b = 0 ∧ f = false) := fun hh => hm (.inr ⟨hh.1, hh.2.1, hh.2.2, rfl⟩)
      by_cases ha : a = 0
      · by_cases hb : b = 0
        · have hf : f = true := by
            cases f
            · exact absurd ⟨ha, hb, rfl⟩ hn
            · rfl
          subst ha hb hf
          clear hm hn
          go_enter Tryz.func82, Tryz.ntmps82
          go_wp2_with fail
          go_ret
          exact ⟨rfl, h0⟩
        · have hbb : (b == 0) = false := beq_eq_false_iff_ne.2 hb
          subst ha
          clear hm hn
          go_enter Tryz.func82, Tryz.ntmps82
          go_wp2_with fail
          go_ret
          exact ⟨rfl, h0⟩
      · have hab : (a == 0) = false := beq_eq_false_iff_ne.2 ha
        clear hm hn
        go_enter Tryz.func82, Tryz.ntmps82
        go_wp2_with fail
        go_ret
        exact ⟨rfl, h0⟩
    | true =>
      have hn : ¬ (1 ≤ b ∧ b ≤ 16 ∧ 0 ≤ a ∧ a ≤ b) := fun hh => hm (.inl ⟨rfl, hh⟩)
      clear hm
      rcases (show b < 1 ∨ (1 ≤ b ∧ 16 < b) ∨ (1 ≤ b ∧ b ≤ 16 ∧ a < 0) ∨ (1 ≤ b ∧ b ≤ 16 ∧ 0 ≤ a ∧ b < a) by omega) with h1 | ⟨h1, h2⟩ | ⟨h1, h2, h3⟩ | ⟨h1, h2, h3, h4⟩
      all_goals
        clear hn
        try have h5 : ¬ a ≤ b := by omega
        go_enter Tryz.func82, Tryz.ntmps82
        go_wp2_with fail
        go_ret
        exact ⟨rfl, h0⟩
theorem and_bit (x k : Nat) (hx : x < 18446744073709551616) (hk : k < 64) : bits .and .u64 (x : Int) ((2 ^ k : Nat) : Int) = ((2 ^ k * (x / 2 ^ k % 2) : Nat) : Int) := by
  have hp : 2 ^ k < 18446744073709551616 := by
    have := Nat.pow_lt_pow_right (a := 2) (by omega) hk
    exact this
  rw [u64_and_nat x (2 ^ k) hx hp]
  congr 1
  have ht : x.testBit k = decide (x / 2 ^ k % 2 = 1) := Nat.testBit_eq_decide_div_mod_eq
  apply Nat.eq_of_testBit_eq
  intro i
  rw [Nat.testBit_and, Nat.testBit_two_pow]
  rcases (show x / 2 ^ k % 2 = 0 ∨ x / 2 ^ k % 2 = 1 by omega) with h | h
  · rw [h, Nat.mul_zero, Nat.zero_testBit]
    by_cases hki : k = i
    · subst hki; rw [ht, h]; simp
    · simp [hki]
  · rw [h, Nat.mul_one, Nat.testBit_two_pow]
    by_cases hki : k = i
    · subst hki; rw [ht, h]; simp
    · simp [hki]
/-- what Counts answers -/
def countsV (w : Nat) : Value := match countsOf w with
  | some c => .tuple #[.agg #[.int .i64 c.inuse, .int .i64 c.objects, .bool c.frozen, .bool c.live], .bool true]
  | none => .tuple #[.agg #[.int .i64 0, .int .i64 0, .bool false, .bool false], .bool false]
theorem countsOf_may (x : Nat) (hx : x < 262144) : countsOf x = if mayB ((x % 256 : Nat) : Int) ((x / 256 % 256 : Nat) : Int) (decide (x / 65536 % 2 = 1)) (decide (x / 131072 % 2 = 1)) = true then some ⟨x % 256, x / 256 % 256, decide (x / 65536 % 2 = 1), decide (x / 131072 % 2 = 1)⟩ else none := by
  unfold countsOf mayB
  by_cases h0 : x = 0
  · subst h0
    decide
  · rw [if_neg h0]
    by_cases hl : x / 131072 % 2 = 1
    · rw [decide_eq_true hl]
      by_cases h1 : 131072 ≤ x ∧ x < 262144 ∧ 1 ≤ x / 256 % 256 ∧ x / 256 % 256 ≤ 16 ∧ x % 256 ≤ x / 256 % 256
      · rw [if_pos h1, if_pos (decide_eq_true (.inl ⟨rfl, by omega⟩))]
      · rw [if_neg h1, if_neg]
        intro h2
        rcases of_decide_eq_true h2 with ⟨-, h3⟩ | ⟨-, -, -, h3⟩
        · omega
        · cases h3
    · rw [decide_eq_false hl, if_neg (by omega), if_neg]
      intro h2
      rcases of_decide_eq_true h2 with ⟨h3, -⟩ | ⟨h3, h4, h5, -⟩
      · cases h3
      · have h5 := of_decide_eq_false h5
        omega
theorem countsOf_big (x : Nat) (hx : 262144 ≤ x) : countsOf x = none := by
  unfold countsOf
  rw [if_neg (by omega), if_neg (by omega)]
set_option maxRecDepth 100000 in
set_option maxHeartbeats 2000000 in
theorem counts_spec (h : Own W m w) (x : Nat) (hx : x < 18446744073709551616) : Calls Tryz.prog 104 #[.int .u64 x] w fun e w' => e = .returned (countsV x) ∧ Own W m w' := by
  have a1 := and255 x hx
  have a2 := and255 (x / 256) (by omega)
  have hd : (x : Int) / 256 = ((x / 256 : Nat) : Int) := by omega
  have a3 := and_bit x 16 hx (by omega)
  have a4 := and_bit x 17 hx (by omega)
  rw [show (2 : Nat) ^ 16 = 65536 from rfl] at a3
  rw [show (2 : Nat) ^ 17 = 131072 from rfl] at a4
  have hc1 := countsOf_may x
  have hc2 := countsOf_big x
  unfold countsV
  obtain ⟨A, hA⟩ : ∃ A, x % 256 = A := ⟨_, rfl⟩
  obtain ⟨Q, hQ⟩ : ∃ Q, x / 256 = Q := ⟨_, rfl⟩
  obtain ⟨B, hB⟩ : ∃ B, Q % 256 = B := ⟨_, rfl⟩
  obtain ⟨F, hF⟩ : ∃ F, x / 65536 % 2 = F := ⟨_, rfl⟩
  obtain ⟨L, hL⟩ : ∃ L, x / 131072 % 2 = L := ⟨_, rfl⟩
  rw [hA] at a1
  rw [hQ] at hd a2
  rw [hB] at a2
  rw [hF] at a3
  rw [hL] at a4
  rw [hA, hQ, hB, hF, hL] at hc1
  have A255 : A ≤ 255 := by omega
  have B255 : B ≤ 255 := by omega
  have F2 : F = 0 ∨ F = 1 := by omega
  have L2 : L = 0 ∨ L = 1 := by omega
  have b3 : (bits .and .u64 (x : Int) 65536 != 0) = decide (F = 1) := by
    have a3 : bits .and .u64 (x : Int) 65536 = ((65536 * F : Nat) : Int) := a3
    rw [a3]
    rcases F2 with rfl | rfl <;> rfl
  have b4 : (bits .and .u64 (x : Int) 131072 != 0) = decide (L = 1) := by
    have a4 : bits .and .u64 (x : Int) 131072 = ((131072 * L : Nat) : Int) := a4
    rw [a4]
    rcases L2 with rfl | rfl <;> rfl
  obtain ⟨f, hf⟩ : ∃ f, decide (F = 1) = f := ⟨_, rfl⟩
  obtain ⟨l, hl⟩ : ∃ l, decide (L = 1) = l := ⟨_, rfl⟩
  rw [hf] at b3 hc1
  rw [hl] at b4 hc1
  have h1 := h.new (.cells #[.int .i64 0, .int .i64 0, .bool false, .bool false] 97)
  have h2 := h1.new (.cells #[.int .i64 A, .int .i64 B, .bool f, .bool l] 97)
  simp only [World.size_alloc] at h2
  obtain ⟨g, hg⟩ : ∃ g, w.heap.size = g := ⟨_, rfl⟩
  rw [hg] at h1 h2
  have c1 := h1.cell List.mem_cons_self
  have f1 := h1.frozen List.mem_cons_self
  clear hA hQ hB hF hL hf hl a3 a4 F2 L2 hx
  by_cases hbig : x < 262144
  · have hc := hc1 hbig
    have hx : decide ((262144 : Int) ≤ x) = false := decide_eq_false (by omega)
    have hm := fun ws (hs : Own W ((g + 1, Obj.cells #[.int .i64 A, .int .i64 B, .bool f, .bool l] 97 (0, 0)) :: (g, Obj.cells #[.int .i64 0, .int .i64 0, .bool false, .bool false] 97 (0, 0)) :: m) ws) => may_spec hs A B f l
    cases hmay : mayB A B f l with
    | true =>
      rw [hmay] at hc hm
      simp only [if_true] at hc
      have HM := Lib.hid hm
      rw [hc]
      clear hc hbig hc1 hc2 hm hmay
      go_enter Tryz.func104, Tryz.ntmps104
      go_wp2_with fail
      refine (HM.out _ h2).mono ?_
      rintro e w3 ⟨rfl, h3⟩
      have q := h3.cell List.mem_cons_self
      have u := h3.frozen (List.mem_cons_of_mem _ List.mem_cons_self)
      have q0 := q 0
      have q1 := q 1
      have q2 := q 2
      have q3 := q 3
      have u0 := u 0
      have u1 := u 1
      have u2 := u 2
      have u3 := u 3
      simp at q0 q1 q2 q3
      have z := h3.cell (List.mem_cons_of_mem _ List.mem_cons_self)
      have z0 := z 0
      have z1 := z 1
      have z2 := z 2
      have z3 := z 3
      simp at z0 z1 z2 z3
      clear q u z b3 b4 a1 a2 hd
      go_wp2_with fail
      have h4 : Own W ([(g + 1, Obj.cells #[.int .i64 A, .int .i64 B, .bool f, .bool l] 97 (0, 0))] ++ (g, Obj.cells #[.int .i64 0, .int .i64 0, .bool false, .bool false] 97 (0, 0)) :: m) w3 := h3
      have h5 := (((h4.setIn 0 (.int .i64 A)).setIn 1 (.int .i64 B)).setIn 2 (.bool f)).setIn 3 (.bool l)
      have ec := h5.cell (List.mem_append_right _ List.mem_cons_self)
      have e0 := ec 0
      have e1 := ec 1
      have e2 := ec 2
      have e3 := ec 3
      simp at e0 e1 e2 e3
      exact bodyPost_ret (v := .tuple #[.agg #[(.int .i64 A), (.int .i64 B), (.bool f), (.bool l)], .bool true]) (by simp [results, Tryz.f104, go_sem, e0, e1, e2, e3]) rfl ⟨rfl, h5.drop1.dropL⟩
    | false =>
      rw [hmay] at hc hm
      simp only [Bool.false_eq_true, if_false] at hc
      have HM := Lib.hid hm
      rw [hc]
      clear hc hbig hc1 hc2 hm hmay
      go_enter Tryz.func104, Tryz.ntmps104
      go_wp2_with fail
      refine (HM.out _ h2).mono ?_
      rintro e w3 ⟨rfl, h3⟩
      have q := h3.cell List.mem_cons_self
      have u := h3.frozen (List.mem_cons_of_mem _ List.mem_cons_self)
      have q0 := q 0
      have q1 := q 1
      have q2 := q 2
      have q3 := q 3
      have u0 := u 0
      have u1 := u 1
      have u2 := u 2
      have u3 := u 3
      simp at q0 q1 q2 q3
      have z := h3.cell (List.mem_cons_of_mem _ List.mem_cons_self)
      have z0 := z 0
      have z1 := z 1
      have z2 := z 2
      have z3 := z 3
      simp at z0 z1 z2 z3
      clear q u z b3 b4 a1 a2 hd
      go_wp2_with fail
      have h4 : Own W ([(g + 1, Obj.cells #[.int .i64 A, .int .i64 B, .bool f, .bool l] 97 (0, 0))] ++ (g, Obj.cells #[.int .i64 0, .int .i64 0, .bool false, .bool false] 97 (0, 0)) :: m) w3 := h3
      have h5 := (((h4.setIn 0 (.int .i64 0)).setIn 1 (.int .i64 0)).setIn 2 (.bool false)).setIn 3 (.bool false)
      have ec := h5.cell (List.mem_append_right _ List.mem_cons_self)
      have e0 := ec 0
      have e1 := ec 1
      have e2 := ec 2
      have e3 := ec 3
      simp at e0 e1 e2 e3
      exact bodyPost_ret (v := .tuple #[.agg #[(.int .i64 0), (.int .i64 0), (.bool false), (.bool false)], .bool false]) (by simp [results, Tryz.f104, go_sem, e0, e1, e2, e3]) rfl ⟨rfl, h5.drop1.dropL⟩
  · have hc := hc2 (by omega)
    have hx : ¬ (x : Int) < 262144 := by omega
    rw [hc]
    clear hc hbig hc1 hc2
    go_enter Tryz.func104, Tryz.ntmps104
    go_wp2_with fail
    have ec := h2.cell (List.mem_cons_of_mem _ List.mem_cons_self)
    have e0 := ec 0
    have e1 := ec 1
    have e2 := ec 2
    have e3 := ec 3
    simp at e0 e1 e2 e3
    exact bodyPost_ret (v := .tuple #[.agg #[.int .i64 0, .int .i64 0, .bool false, .bool false], .bool false]) (by simp [results, Tryz.f104, go_sem, e0, e1, e2, e3]) rfl ⟨rfl, h2.skip.skip⟩
end
end Go.Proofs.YtllbnoojkgbjiaaGreat.See

/-
  Contracts: what a link shows (package link). No condition.
-/
namespace Go.Proofs.YtllbnoojkgbjiaaGreat.See
open Go.RowKit
attribute [local go_sem ↓] Go.wp_at_zero Go.wp_at_succ
def rotl (x s : Nat) : Nat := (x <<< s) % 18446744073709551616 ||| x >>> (64 - s)
theorem shr_lt (x s : Nat) (hx : x < 18446744073709551616) : x >>> s < 18446744073709551616 := by
  rw [Nat.shiftRight_eq_div_pow]
  exact Nat.lt_of_le_of_lt (Nat.div_le_self _ _) hx
theorem rotl_lt (x s : Nat) (hx : x < 18446744073709551616) : rotl x s < 18446744073709551616 := by
  have h : rotl x s < 2 ^ 64 := Nat.or_lt_two_pow (Nat.mod_lt _ (by omega)) (shr_lt x _ hx)
  exact h
theorem rot_bits (x s : Nat) (hx : x < 18446744073709551616) : bits .or .u64 (IntKind.u64.wrap ((x : Int) * 2 ^ s)) ((x : Int) / 2 ^ (64 - s)) = ((rotl x s : Nat) : Int) := by
  unfold rotl
  rw [← u64_or_nat _ _ (Nat.mod_lt _ (by omega)) (shr_lt x _ hx), IntKind.wrap_u64, Nat.shiftLeft_eq, Nat.shiftRight_eq_div_pow]
  congr 1
  all_goals push_cast; rfl
theorem rot_spec (x k : Nat) (hx : x < 18446744073709551616) (hk : k ≤ 75) (w : World) : Calls Tryz.prog 97 #[.int .u64 x, .int .i64 k] w fun e w' => e = .returned (.int .u64 (rotl x (k % 64) : Nat)) ∧ w = w' := by
  have ha := and63 k (by omega)
  obtain ⟨s, hs⟩ : ∃ s, k % 64 = s := ⟨_, rfl⟩
  have hs64 : s < 64 := by omega
  rw [hs] at ha ⊢
  have hb := Lib.hid (rot_bits x s hx)
  clear hs hx
  go_enter Tryz.func97, Tryz.ntmps97
  go_wp2_with fail
  go_ret
  exact ⟨by rw [← hb.out]; rfl, rfl⟩
theorem turned_eq (key n : Nat) : turned key n = (rotl key (5 * n % 64) + n * 2654435769) % 18446744073709551616 := rfl
theorem turned_lt (key n : Nat) : turned key n < 18446744073709551616 := by
  rw [turned_eq]
  exact Nat.mod_lt _ (by omega)
set_option maxRecDepth 100000 in
theorem turned_spec (key n : Nat) (hx : key < 18446744073709551616) (hn : n < 16) (w : World) : Calls Tryz.prog 78 #[.int .u64 key, .int .i64 n] w fun e w' => e = .returned (.int .u64 (turned key n : Nat)) ∧ w = w' := by
  have hr := fun w => rot_spec key (5 * n) hx (by omega) w
  rw [show ((5 * n : Nat) : Int) = 5 * (n : Int) by omega] at hr
  have HR := Lib.hid hr
  have hv : IntKind.u64.wrap ((rotl key (5 * n % 64) : Int) + (n : Int) * 2654435769) = ((turned key n : Nat) : Int) := by
    rw [turned_eq, IntKind.wrap_u64]
    omega
  have HV := Lib.hid hv
  clear hr hx hv
  go_enter Tryz.func78, Tryz.ntmps78
  go_wp2_with (go_at_call 97; refine (HR.out _).mono ?_; rintro e w' ⟨rfl, rfl⟩)
  go_ret
  exact ⟨by rw [← HV.out]; rfl, rfl⟩
def oIs (i : Int) : Bool := decide (0 ≤ i ∧ i < 16)
theorem oIs_yes {i : Int} (h : 0 ≤ i ∧ i < 16) : oIs i = true := decide_eq_true h
theorem oIs_no {i : Int} (h : ¬ (0 ≤ i ∧ i < 16)) : oIs i = false := decide_eq_false h
theorem object_spec (i : Int) (w : World) : Calls Tryz.prog 95 #[.int .i64 i] w fun e w' => e = .returned (.bool (oIs i)) ∧ w = w' := by
  by_cases h0 : 0 ≤ i
  · by_cases h1 : i < 16
    · rw [oIs_yes ⟨h0, h1⟩]
      go_enter Tryz.func95, Tryz.ntmps95
      go_wp2_with fail
      go_ret
      exact ⟨rfl, rfl⟩
    · rw [oIs_no (by omega)]
      go_enter Tryz.func95, Tryz.ntmps95
      go_wp2_with fail
      go_ret
      exact ⟨rfl, rfl⟩
  · rw [oIs_no (by omega)]
    go_enter Tryz.func95, Tryz.ntmps95
    go_wp2_with fail
    go_ret
    exact ⟨rfl, rfl⟩
/-- what Show answers -/
def showV (x key : Nat) (n : Nat) : Value := match showOf x key n with
  | some i => .tuple #[.int .i64 i, .bool true]
  | none => .tuple #[.int .i64 0, .bool false]
theorem showOf_ge {x key n : Nat} {i : Int} (h : showOf x key n = some i) : -1 ≤ i ∧ i < 16 := by
  unfold showOf at h
  split at h
  · simp at h; omega
  · cases h
set_option maxRecDepth 100000 in
theorem show_ok (x key n : Nat) (hx : x < 18446744073709551616) (hk : key < 18446744073709551616) (hn : n < 16) (w : World) : Calls Tryz.prog 69 #[.int .u64 x, .int .u64 key, .int .i64 n] w fun e w' => e = .returned (showV x key n) ∧ w = w' := by
  have ht := fun w => turned_spec key n hk hn w
  have hb := u64_xor_nat x (turned key n) hx (turned_lt key n)
  unfold showV showOf
  obtain ⟨T, hT⟩ : ∃ T, turned key n = T := ⟨_, rfl⟩
  obtain ⟨X, hX⟩ : ∃ X, x ^^^ T = X := ⟨_, rfl⟩
  rw [hT] at ht hb ⊢
  rw [hX] at hb ⊢
  have ho := fun w => object_spec (n : Int) w
  rw [oIs_yes (by omega)] at ho
  have HT := Lib.hid ht
  have HO := Lib.hid ho
  clear ht ho hT hX hx hk
  by_cases hc : X ≤ 16
  · have hci : decide ((16 : Int) < X) = false := decide_eq_false (by omega)
    rw [if_pos hc]
    go_enter Tryz.func69, Tryz.ntmps69
    go_wp2_with (first | (go_at_call 95; refine (HO.out _).mono ?_; rintro e w' ⟨rfl, rfl⟩) | (go_at_call 78; refine (HT.out _).mono ?_; rintro e w' ⟨rfl, rfl⟩))
    go_ret2
    exact ⟨rfl, rfl⟩
  · have hci : decide ((16 : Int) < X) = true := decide_eq_true (by omega)
    rw [if_neg hc]
    go_enter Tryz.func69, Tryz.ntmps69
    go_wp2_with (first | (go_at_call 95; refine (HO.out _).mono ?_; rintro e w' ⟨rfl, rfl⟩) | (go_at_call 78; refine (HT.out _).mono ?_; rintro e w' ⟨rfl, rfl⟩))
    go_ret2
    exact ⟨rfl, rfl⟩
theorem show_bad (x key : Int) (n : Int) (hn : ¬ (0 ≤ n ∧ n < 16)) (w : World) : Calls Tryz.prog 69 #[.int .u64 x, .int .u64 key, .int .i64 n] w fun e w' => e = .returned (.tuple #[.int .i64 0, .bool false]) ∧ w = w' := by
  have ho := fun w => object_spec n w
  rw [oIs_no hn] at ho
  have HO := Lib.hid ho
  clear ho hn
  go_enter Tryz.func69, Tryz.ntmps69
  go_wp2_with (go_at_call 95; refine (HO.out _).mono ?_; rintro e w' ⟨rfl, rfl⟩)
  go_ret2
  exact ⟨rfl, rfl⟩
/-- a link that is made -/
def hideW (i : Int) (key n : Nat) : Nat := (i + 1).toNat ^^^ turned key n
theorem hide_lt {i : Int} {key n : Nat} (hi : i < 16) : hideW i key n < 18446744073709551616 := by
  have h : hideW i key n < 2 ^ 64 := Nat.xor_lt_two_pow (by omega) (turned_lt key n)
  exact h
/-- .. shows what was hidden -/
theorem show_hide {i : Int} {key n : Nat} (h0 : -1 ≤ i) (hi : i < 16) : showOf (hideW i key n) key n = some i := by
  unfold showOf hideW
  rw [Nat.xor_assoc, Nat.xor_self, Nat.xor_zero, if_pos (by omega)]
  congr 1
  omega
end Go.Proofs.YtllbnoojkgbjiaaGreat.See

/-
  Contracts: link.Fresh, count.Pack. No condition.
-/
namespace Go.Proofs.YtllbnoojkgbjiaaGreat.Fast
open Go Mem See
open Go.RowKit
attribute [local go_sem ↓] Go.wp_at_zero Go.wp_at_succ
/-- links that rise: the first i of n -/
def freshL (n key : Nat) : List Nat := (List.range n).map fun i => if i + 1 = n then hideW (-1) key i else hideW ((i : Int) + 1) key i
/-- .. as the loop lays them: the first i -/
def freshI (n key i : Nat) : List Nat := (List.range n).map fun j => if j < i then hideW ((j : Int) + 1) key j else 0
section
variable {W w : World} {m : List (Nat × Obj)} {n key : Nat}
theorem freshI_zero : freshI n key 0 = List.replicate n 0 := by
  apply List.ext_getElem? 
  intro j
  simp [freshI, List.getElem?_replicate]
  by_cases h : j < n <;> simp [h]
theorem freshI_len (i : Nat) : (freshI n key i).length = n := by simp [freshI]
theorem freshI_set {i : Nat} (hi : i < n) : (freshI n key i).set i (hideW ((i : Int) + 1) key i) = freshI n key (i + 1) := by
  apply List.ext_getElem?
  intro j
  rw [List.getElem?_set]
  by_cases hij : i = j
  · subst hij
    simp [freshI, hi]
  · rw [if_neg hij]
    by_cases hj : j < n
    · simp only [freshI, List.getElem?_map, List.getElem?_range hj, Option.map_some]
      by_cases h1 : j < i
      · rw [if_pos h1, if_pos (by omega)]
      · rw [if_neg h1, if_neg (by omega)]
    · rw [List.getElem?_eq_none (by simp [freshI]; omega), List.getElem?_eq_none (by simp [freshI]; omega)]
theorem fresh_last (h : 0 < n) : (freshI n key n).set (n - 1) (hideW (-1) key (n - 1)) = freshL n key := by
  apply List.ext_getElem?
  intro j
  rw [List.getElem?_set]
  by_cases hij : n - 1 = j
  · subst hij
    have h1 : n - 1 < n := by omega
    have h2 : n - 1 + 1 = n := by omega
    simp [freshL, h1, h2, freshI]
  · rw [if_neg hij]
    by_cases hj : j < n
    · simp only [freshI, freshL, List.getElem?_map, List.getElem?_range hj, Option.map_some]
      rw [if_pos hj, if_neg (by omega)]
    · rw [List.getElem?_eq_none (by simp [freshI]; omega), List.getElem?_eq_none (by simp [freshL]; omega)]
theorem turned_eq (key i : Nat) : turned key i = hideW (-1) key i := by
  unfold hideW
  simp
set_option maxRecDepth 100000 in
set_option maxHeartbeats 2000000 in
theorem fresh_spec (h : Own W m w) (h1 : 1 ≤ n) (h2 : n ≤ 16) (hk : key < 18446744073709551616) :
    Calls Tryz.prog 57 #[.int .i64 n, .int .u64 key] w fun e w' => ∃ b, e = .returned (.tuple #[.slice (some ⟨b, 0, none⟩) n n, .int .i64 0]) ∧ Own W (wB b (freshL n key) :: m) w' := by
  obtain ⟨i, hi, hzz, hs, hby⟩ := info_get word_info
  have hmk := fun W => run_make_rowN (P := Tryz.prog) 22 23 i _ Tryz.underlying22 hi hzz .i64 .i64 n n (Nat.le_refl _) (by rw [hby]; omega) (by omega) W
  rw [hs, Nat.mul_one, madeCells_const _ (.int .u64 0) _ (by simp [Value.cells]) (by intro j hj; obtain rfl : j = 0 := (by simp [Value.cells] at hj; omega); rfl), row_zero, ← freshI_zero (key := key)] at hmk
  clear hi hzz hs hby
  have h3 : Own W (wB w.heap.size (freshI n key 0) :: m) _ := h.new (.cells (wRow (freshI n key 0)) 23)
  obtain ⟨b, hb⟩ : ∃ b, w.heap.size = b := ⟨_, rfl⟩
  rw [hb] at h3
  have H3 := Lib.hid h3
  have HK := Lib.hid hk
  have hi1 : (1 : Int) ≤ n := by omega
  have hi2 : (n : Int) ≤ 16 := by omega
  clear h h3 hk
  go_enter Tryz.func57, Tryz.ntmps57
  go_wp2_with fail
  try rw [hb]
  obtain ⟨wa, hwa⟩ : ∃ wa, w.alloc (.cells (wRow (freshI n key 0)) 23) = wa := ⟨_, rfl⟩
  have H4 := H3.out
  rw [hwa] at H4 ⊢
  clear hwa hmk H3
  have H5 := Lib.hid H4
  clear H4
  go_loopw [18] (fun iv wr => ∃ i : Nat, iv = .int .i64 i ∧ i ≤ n ∧ Own W (wB b (freshI n key i) :: m) wr) (fun iv _ => n - (intOf iv).toNat)
  case atStart => exact ⟨0, rfl, by omega, H5.out⟩
  case round =>
    clear H5
    obtain ⟨i, rfl, hi, hr⟩ := hrel
    by_cases hlt : i < n
    · have hlti : (i : Int) < n := by omega
      have hi0 : (0 : Int) ≤ i := by omega
      have ht := fun w => turned_spec key i HK.out (by omega) w
      have hb1 := u64_xor_nat (i + 2) (turned key i) (by omega) (turned_lt key i)
      have hw2 : hideW ((i : Int) + 1) key i = (i + 2) ^^^ turned key i := by unfold hideW; congr 1
      obtain ⟨T, hT⟩ : ∃ T, turned key i = T := ⟨_, rfl⟩
      obtain ⟨X, hX⟩ : ∃ X, (i + 2) ^^^ T = X := ⟨_, rfl⟩
      rw [hT] at ht hb1 hw2
      rw [hX] at hb1 hw2
      have hb2 : bits .xor .u64 ((i : Int) + 2) (T : Int) = (X : Int) := hb1
      have HT := Lib.hid ht
      have hx1 : (freshI n key i)[i]? = some 0 := by simp [freshI, hlt]
      obtain ⟨c0, f0⟩ := cell_w hr hx1
      have h5 := set_w hr i X
      rw [← hw2, freshI_set hlt] at h5
      rw [hw2] at h5
      have H6 := Lib.hid h5
      clear ht hb1 hT hX hw2 hx1 h5 hr
      go_wp2_with (go_at_call 78; refine (HT.out _).mono ?_; rintro e w' ⟨rfl, rfl⟩)
      exact ⟨⟨i + 1, by go_num, by omega, H6.out⟩, by simp [intOf]; omega⟩
    · obtain rfl : i = n := by omega
      have hlti : ¬ (i : Int) < i := by omega
      have ht := fun w => turned_spec key (i - 1) HK.out (by omega) w
      rw [show ((i - 1 : Nat) : Int) = (i : Int) - 1 from by omega] at ht
      rw [turned_eq] at ht
      obtain ⟨T, hT⟩ : ∃ T, hideW (-1) key (i - 1) = T := ⟨_, rfl⟩
      rw [hT] at ht
      have HT := Lib.hid ht
      obtain ⟨x1, hx1⟩ : ∃ x, (freshI i key i)[i - 1]? = some x := ⟨_, List.getElem?_eq_getElem (by rw [freshI_len]; omega)⟩
      obtain ⟨q, hq⟩ : ∃ q : Nat, i - 1 = q := ⟨_, rfl⟩
      have hqi : (i : Int) - 1 = (q : Int) := by omega
      have hq1 : (q : Int) < (i : Int) := by omega
      have h5 := set_w hr (i - 1) T
      rw [← hT, fresh_last (by omega)] at h5
      rw [hT] at h5
      rw [hq] at hx1 h5
      rw [hqi] at HT
      obtain ⟨c0, f0⟩ := cell_w hr hx1
      have H6 := Lib.hid h5
      clear ht hT hx1 h5 hr
      go_wp2_with (go_at_call 78; refine (HT.out _).mono ?_; rintro e w' ⟨rfl, rfl⟩)
      go_ret2
      exact ⟨b, rfl, H6.out⟩
end
end Go.Proofs.YtllbnoojkgbjiaaGreat.Fast

/-
  Contract: count.Pack. No condition.
-/
namespace Go.Proofs.YtllbnoojkgbjiaaGreat.See
open Go.RowKit
attribute [local go_sem ↓] Go.wp_at_zero Go.wp_at_succ
section
variable {W w : World} {m : List (Nat × Obj)}
theorem flag_spec (f : Bool) (x : Nat) (w : World) : Calls Tryz.prog 83 #[.bool f, .int .u64 x] w fun e w' => e = .returned (.int .u64 ((if f then x else 0 : Nat) : Int)) ∧ w = w' := by
  cases f
  all_goals
    go_enter Tryz.func83, Tryz.ntmps83
    go_wp2_with fail
    go_ret
    exact ⟨rfl, rfl⟩
theorem flag_y (x : Nat) (w : World) : Calls Tryz.prog 83 #[.bool true, .int .u64 x] w fun e w' => e = .returned (.int .u64 (x : Int)) ∧ w = w' := flag_spec true x w
theorem flag_n (x : Nat) (w : World) : Calls Tryz.prog 83 #[.bool false, .int .u64 x] w fun e w' => e = .returned (.int .u64 0) ∧ w = w' := flag_spec false x w
theorem or_low (b a i : Nat) (h : a < 2 ^ i) : a ||| 2 ^ i * b = 2 ^ i * b + a := by
  rw [Nat.or_comm]
  exact (Nat.two_pow_add_eq_or_of_lt h b).symm
theorem pack_bits (A B F L : Nat) (ha : A ≤ 255) (hb : B ≤ 255) (hf : F = 0 ∨ F = 65536) (hl : L = 0 ∨ L = 131072) :
    bits .or .u64 (bits .or .u64 (bits .or .u64 (IntKind.u64.wrap (A : Int)) (IntKind.u64.wrap (IntKind.u64.wrap (B : Int) * 256))) (F : Int)) (L : Int) = (A : Int) + 256 * (B : Int) + (F : Int) + (L : Int) := by
  have e1 : IntKind.u64.wrap (A : Int) = (A : Int) := by rw [IntKind.wrap_u64]; omega
  have e2 : IntKind.u64.wrap (IntKind.u64.wrap (B : Int) * 256) = ((256 * B : Nat) : Int) := by rw [IntKind.wrap_u64, IntKind.wrap_u64]; omega
  rw [e1, e2, u64_or_nat A (256 * B) (by omega) (by omega)]
  have h1 := or_low B A 8 (by omega)
  rw [show (2 : Nat) ^ 8 = 256 from rfl] at h1
  rw [h1, u64_or_nat (256 * B + A) F (by omega) (by omega)]
  have h2 : (256 * B + A) ||| F = 256 * B + A + F := by
    rcases hf with rfl | rfl
    · simp
    · have := or_low 1 (256 * B + A) 16 (by omega)
      simp only [Nat.mul_one] at this
      rw [show (2 : Nat) ^ 16 = 65536 from rfl] at this
      omega
  rw [h2, u64_or_nat (256 * B + A + F) L (by omega) (by omega)]
  have h3 : (256 * B + A + F) ||| L = 256 * B + A + F + L := by
    rcases hl with rfl | rfl
    · simp
    · have := or_low 1 (256 * B + A + F) 17 (by omega)
      simp only [Nat.mul_one] at this
      rw [show (2 : Nat) ^ 17 = 131072 from rfl] at this
      omega
  rw [h3]
  omega
/-- the word of counts -/
def packN (A B : Nat) (f l : Bool) : Nat := A + 256 * B + (if f then 65536 else 0) + (if l then 131072 else 0)
theorem nB_box {b : Nat} {a o : Int} {f l : Bool} (h : Own W ((b, .cells #[.int .i64 a, .int .i64 o, .bool f, .bool l] 97) :: m) w) : w.cell? ⟨b, 0, none⟩ = some (.int .i64 a) ∧ w.cell? ⟨b, 1, none⟩ = some (.int .i64 o) ∧ w.cell? ⟨b, 2, none⟩ = some (.bool f) ∧ w.cell? ⟨b, 3, none⟩ = some (.bool l) :=
  ⟨h.cell List.mem_cons_self 0, h.cell List.mem_cons_self 1, h.cell List.mem_cons_self 2, h.cell List.mem_cons_self 3⟩
set_option maxRecDepth 100000 in
set_option maxHeartbeats 2000000 in
theorem pack_ok (h : Own W m w) (A B : Nat) (ha : A ≤ 255) (hb : B ≤ 255) (f l : Bool) (hm : mayB A B f l = true) : Calls Tryz.prog 61 #[.agg #[.int .i64 A, .int .i64 B, .bool f, .bool l]] w fun e w' => e = .returned (.tuple #[.int .u64 (packN A B f l : Nat), .int .i64 0]) ∧ Own W m w' := by
  have h1 := h.new (.cells #[.int .i64 A, .int .i64 B, .bool f, .bool l] 97)
  obtain ⟨g, hg⟩ : ∃ g, w.heap.size = g := ⟨_, rfl⟩
  rw [hg] at h1
  have hmm := fun ws (hs : Own W ((g, Obj.cells #[.int .i64 A, .int .i64 B, .bool f, .bool l] 97) :: m) ws) => may_spec hs A B f l
  rw [hm] at hmm
  have HM := Lib.hid hmm
  have H1 := Lib.hid h1
  obtain ⟨y0, y1, y2, y3⟩ := nB_box h1
  clear hmm h1 h hm
  cases f <;> cases l
  · go_enter Tryz.func61, Tryz.ntmps61
    go_wp2_with fail
    refine (HM.out _ H1.out).mono ?_
    rintro e w2 ⟨rfl, h2⟩
    clear y0 y1 y2 y3
    obtain ⟨y0, y1, y2, y3⟩ := nB_box h2
    go_wp2_with fail
    go_region_held3 (fun w' => w'.cell? ⟨g, 0, none⟩ = some (.int .i64 A) ∧ w'.cell? ⟨g, 1, none⟩ = some (.int .i64 B) ∧ w'.cell? ⟨g, 2, none⟩ = some (.bool false) ∧ w'.cell? ⟨g, 3, none⟩ = some (.bool false)) (first | (refine ⟨?_, ?_, ?_, ?_⟩ <;> assumption) | go_keep)
      (first | (go_at_call 83; first | (refine (flag_n 65536 _).mono ?_; rintro e w' ⟨rfl, rfl⟩) | (refine (flag_n 131072 _).mono ?_; rintro e w' ⟨rfl, rfl⟩)))
    go_wp2_with fail
    go_ret2
    refine ⟨?_, h2.drew.skip⟩
    have hpb := pack_bits A B 0 0 ha hb (by simp) (by simp)
    simp [packN] at hpb ⊢
    omega
  · go_enter Tryz.func61, Tryz.ntmps61
    go_wp2_with fail
    refine (HM.out _ H1.out).mono ?_
    rintro e w2 ⟨rfl, h2⟩
    clear y0 y1 y2 y3
    obtain ⟨y0, y1, y2, y3⟩ := nB_box h2
    go_wp2_with fail
    go_region_held3 (fun w' => w'.cell? ⟨g, 0, none⟩ = some (.int .i64 A) ∧ w'.cell? ⟨g, 1, none⟩ = some (.int .i64 B) ∧ w'.cell? ⟨g, 2, none⟩ = some (.bool false) ∧ w'.cell? ⟨g, 3, none⟩ = some (.bool true)) (first | (refine ⟨?_, ?_, ?_, ?_⟩ <;> assumption) | go_keep)
      (first | (go_at_call 83; first | (refine (flag_n 65536 _).mono ?_; rintro e w' ⟨rfl, rfl⟩) | (refine (flag_y 131072 _).mono ?_; rintro e w' ⟨rfl, rfl⟩)))
    go_wp2_with fail
    go_ret2
    refine ⟨?_, h2.drew.skip⟩
    have hpb := pack_bits A B 0 131072 ha hb (by simp) (by simp)
    simp [packN] at hpb ⊢
    omega
  · go_enter Tryz.func61, Tryz.ntmps61
    go_wp2_with fail
    refine (HM.out _ H1.out).mono ?_
    rintro e w2 ⟨rfl, h2⟩
    clear y0 y1 y2 y3
    obtain ⟨y0, y1, y2, y3⟩ := nB_box h2
    go_wp2_with fail
    go_region_held3 (fun w' => w'.cell? ⟨g, 0, none⟩ = some (.int .i64 A) ∧ w'.cell? ⟨g, 1, none⟩ = some (.int .i64 B) ∧ w'.cell? ⟨g, 2, none⟩ = some (.bool true) ∧ w'.cell? ⟨g, 3, none⟩ = some (.bool false)) (first | (refine ⟨?_, ?_, ?_, ?_⟩ <;> assumption) | go_keep)
      (first | (go_at_call 83; first | (refine (flag_y 65536 _).mono ?_; rintro e w' ⟨rfl, rfl⟩) | (refine (flag_n 131072 _).mono ?_; rintro e w' ⟨rfl, rfl⟩)))
    go_wp2_with fail
    go_ret2
    refine ⟨?_, h2.drew.skip⟩
    have hpb := pack_bits A B 65536 0 ha hb (by simp) (by simp)
    simp [packN] at hpb ⊢
    omega
  · go_enter Tryz.func61, Tryz.ntmps61
    go_wp2_with fail
    refine (HM.out _ H1.out).mono ?_
    rintro e w2 ⟨rfl, h2⟩
    clear y0 y1 y2 y3
    obtain ⟨y0, y1, y2, y3⟩ := nB_box h2
    go_wp2_with fail
    go_region_held3 (fun w' => w'.cell? ⟨g, 0, none⟩ = some (.int .i64 A) ∧ w'.cell? ⟨g, 1, none⟩ = some (.int .i64 B) ∧ w'.cell? ⟨g, 2, none⟩ = some (.bool true) ∧ w'.cell? ⟨g, 3, none⟩ = some (.bool true)) (first | (refine ⟨?_, ?_, ?_, ?_⟩ <;> assumption) | go_keep)
      (first | (go_at_call 83; first | (refine (flag_y 65536 _).mono ?_; rintro e w' ⟨rfl, rfl⟩) | (refine (flag_y 131072 _).mono ?_; rintro e w' ⟨rfl, rfl⟩)))
    go_wp2_with fail
    go_ret2
    refine ⟨?_, h2.drew.skip⟩
    have hpb := pack_bits A B 65536 131072 ha hb (by simp) (by simp)
    simp [packN] at hpb ⊢
    omega
set_option maxRecDepth 100000 in
theorem pack_bad (h : Own W m w) (a b : Int) (f l : Bool) (hm : mayB a b f l = false) : Calls Tryz.prog 61 #[.agg #[.int .i64 a, .int .i64 b, .bool f, .bool l]] w fun e w' => e = .returned (.tuple #[.int .u64 0, .int .i64 2]) ∧ Own W m w' := by
  have h1 := h.new (.cells #[.int .i64 a, .int .i64 b, .bool f, .bool l] 97)
  obtain ⟨g, hg⟩ : ∃ g, w.heap.size = g := ⟨_, rfl⟩
  rw [hg] at h1
  have hmm := fun ws (hs : Own W ((g, Obj.cells #[.int .i64 a, .int .i64 b, .bool f, .bool l] 97) :: m) ws) => may_spec hs a b f l
  rw [hm] at hmm
  have HM := Lib.hid hmm
  have H1 := Lib.hid h1
  obtain ⟨y0, y1, y2, y3⟩ := nB_box h1
  clear hmm h1 h hm
  go_enter Tryz.func61, Tryz.ntmps61
  go_wp2_with fail
  refine (HM.out _ H1.out).mono ?_
  rintro e w2 ⟨rfl, h2⟩
  go_wp2_with fail
  go_ret2
  exact ⟨rfl, h2.skip⟩
end
end Go.Proofs.YtllbnoojkgbjiaaGreat.See

/-
  Contract: link.Hide. No condition.
-/
namespace Go.Proofs.YtllbnoojkgbjiaaGreat.See
open Go.RowKit
attribute [local go_sem ↓] Go.wp_at_zero Go.wp_at_succ
/-- what Hide answers -/
def hideV (i : Int) (key : Nat) (n : Int) : Value := if (-1 ≤ i ∧ i < 16) ∧ (0 ≤ n ∧ n < 16) then .tuple #[.int .u64 (hideW i key n.toNat : Nat), .int .i64 0] else .tuple #[.int .u64 0, .int .i64 2]
set_option maxRecDepth 100000 in
set_option maxHeartbeats 2000000 in
theorem hide_spec (i : Int) (key : Nat) (n : Int) (hk : key < 18446744073709551616) (w : World) : Calls Tryz.prog 71 #[.int .i64 i, .int .u64 key, .int .i64 n] w fun e w' => e = .returned (hideV i key n) ∧ w = w' := by
  have ho := fun w => object_spec i w
  have hn := fun w => object_spec n w
  unfold hideV
  by_cases hi : -1 ≤ i ∧ i < 16
  · by_cases hnn : 0 ≤ n ∧ n < 16
    · rw [if_pos ⟨hi, hnn⟩]
      obtain ⟨n, rfl⟩ : ∃ k : Nat, n = k := ⟨n.toNat, by omega⟩
      have ht := fun w => turned_spec key n hk (by omega) w
      have hb := u64_xor_nat (i + 1).toNat (turned key n) (by omega) (turned_lt key n)
      rw [show (((i + 1).toNat : Nat) : Int) = i + 1 from by omega] at hb
      have hw : IntKind.u64.wrap (i + 1) = i + 1 := by rw [IntKind.wrap_u64]; omega
      rw [oIs_yes hnn] at hn
      rw [Int.toNat_natCast]
      unfold hideW
      obtain ⟨T, hT⟩ : ∃ T, turned key n = T := ⟨_, rfl⟩
      obtain ⟨X, hX⟩ : ∃ X, (i + 1).toNat ^^^ T = X := ⟨_, rfl⟩
      rw [hT] at ht hb ⊢
      rw [hX] at hb ⊢
      have HT := Lib.hid ht
      have HN := Lib.hid hn
      by_cases h1 : i = -1
      · subst h1
        rw [show (-1 : Int) + 1 = 0 from rfl] at hb hw
        clear ht hn hT hX hk ho
        go_enter Tryz.func71, Tryz.ntmps71
        go_wp2_with (first | (go_at_call 95; refine (HN.out _).mono ?_; rintro e w' ⟨rfl, rfl⟩) | (go_at_call 78; refine (HT.out _).mono ?_; rintro e w' ⟨rfl, rfl⟩))
        go_ret2
        exact ⟨rfl, rfl⟩
      · rw [oIs_yes (by omega)] at ho
        have HO := Lib.hid ho
        have hne : (i != -1) = true := by simpa using h1
        clear ht hn hT hX hk ho
        go_enter Tryz.func71, Tryz.ntmps71
        go_wp2_with (first | (go_at_call 95; first | (refine (HO.out _).mono ?_; rintro e w' ⟨rfl, rfl⟩) | (refine (HN.out _).mono ?_; rintro e w' ⟨rfl, rfl⟩)) | (go_at_call 78; refine (HT.out _).mono ?_; rintro e w' ⟨rfl, rfl⟩))
        go_ret2
        exact ⟨rfl, rfl⟩
    · rw [if_neg (fun h => hnn h.2)]
      rw [oIs_no hnn] at hn
      have HN := Lib.hid hn
      by_cases h1 : i = -1
      · subst h1
        clear hn ho hk
        go_enter Tryz.func71, Tryz.ntmps71
        go_wp2_with (go_at_call 95; refine (HN.out _).mono ?_; rintro e w' ⟨rfl, rfl⟩)
        go_ret2
        exact ⟨rfl, rfl⟩
      · rw [oIs_yes (by omega)] at ho
        have HO := Lib.hid ho
        have hne : (i != -1) = true := by simpa using h1
        clear hn ho hk
        go_enter Tryz.func71, Tryz.ntmps71
        go_wp2_with (go_at_call 95; first | (refine (HO.out _).mono ?_; rintro e w' ⟨rfl, rfl⟩) | (refine (HN.out _).mono ?_; rintro e w' ⟨rfl, rfl⟩))
        go_ret2
        exact ⟨rfl, rfl⟩
  · rw [if_neg (fun h => hi h.1)]
    rw [oIs_no (by omega)] at ho
    have HO := Lib.hid ho
    have hne : (i != -1) = true := by simp; omega
    clear hn ho hk
    go_enter Tryz.func71, Tryz.ntmps71
    go_wp2_with (go_at_call 95; refine (HO.out _).mono ?_; rintro e w' ⟨rfl, rfl⟩)
    go_ret2
    exact ⟨rfl, rfl⟩
end Go.Proofs.YtllbnoojkgbjiaaGreat.See

/-
  Slices of numbers: append, one number, numbers that the code writes down.
-/
namespace Go.Proofs.YtllbnoojkgbjiaaGreat
open Go.RowKit

theorem int_info : (Tryz.prog.info? 3).map (fun i => (i.zero, i.size, i.bytes)) = some (some (.int .i64 0), 1, 8) := by kernel_rfl
/-- numbers as values -/
def ints (l : List Int) : List Value := l.map fun n => .int .i64 n
theorem ints_len (l : List Int) : (ints l).length = l.length := by simp [ints]
theorem ints_get {l : List Int} {i : Nat} {n : Int} (h : l[i]? = some n) : (ints l)[i]? = some (.int .i64 n) := by simp [ints, h]
theorem ints_one (l : List Int) : ∀ u ∈ ints l, u.oneCell' = true := by
  intro u hu
  obtain ⟨n, _, rfl⟩ := List.mem_map.1 hu
  rfl
theorem ints_append (a b : List Int) : ints a ++ ints b = ints (a ++ b) := by simp [ints]
theorem ints_take (l : List Int) (k : Nat) : (ints l).take k = ints (l.take k) := by simp [ints]
theorem ints_drop (l : List Int) (k : Nat) : (ints l).drop k = ints (l.drop k) := by simp [ints]
theorem ints_set (l : List Int) (k : Nat) (n : Int) : (ints l).set k (.int .i64 n) = ints (l.set k n) := by simp [ints]
/-- a slice of numbers that the call owns -/
abbrev IntsOwn (ex : Bool) (v : Value) (l : List Int) (bs : List (Nat × Obj)) : Prop := SlO ex 3 1 v l.length (ints l) bs
/-- a slice that reads as numbers -/
abbrev IntsSrc (w : World) (v : Value) (l : List Int) : Prop := Src w 1 v l.length (ints l)

section
variable {W w : World} {m bs : List (Nat × Obj)} {v x : Value} {l l' : List Int}

/-- append, of numbers: 'at_builtin; refine wpList_app_ints rfl _ _ rfl rfl rfl hs hO hx hlen ?_; intro v' w' bs' h1 h2 h3' -/
theorem wpList_app_ints {ops : Array Oper} {rest : List Oper} {o : Oper} {a : Act} {Q : Exit → Act → World → Prop} (hgd : o.guard = none) (s x : Operand)
    (ho : o.op = .call { callee := .builtin .append, args := #[s, x], argTypes := #[71, 71] }) {v xv : Value} (hes : a.eval s = v) (hex : a.eval x = xv)
    (hs : IntsOwn true v l bs) (hO : Own W (bs ++ m) w) (hx : IntsSrc w xv l') (hlen : l.length + l'.length ≤ 60000)
    (h : ∀ v' w' bs', IntsOwn true v' (l ++ l') bs' → Own W (bs' ++ m) w' → (v' = .slice none 0 0 ↔ v = .slice none 0 0 ∧ l' = []) → wpList Tryz.prog ops Q rest (a.put o.dst v') w') :
    wpList Tryz.prog ops Q (o :: rest) a w := by
  obtain ⟨i, hi, hz, hsz, hb⟩ := info_get int_info
  refine wpList_app hgd s x _ ho hes hex 3 i _ 1 8 Tryz.underlying71 hi hz hsz hb rfl (by omega) hs hO hx (ints_one l') (by unfold maxLen; omega) (by omega) fun v' w' bs' h1 h2 h3 => ?_
  rw [ints_append, ← List.length_append] at h1
  exact h v' w' bs' h1 h2 (by rw [h3, List.length_eq_zero_iff])

/-- one number, in a block of its own -/
theorem src_one (w : World) (p : Int) : IntsSrc (w.alloc (.cells #[.int .i64 p] 3)) (.slice (some ⟨w.heap.size, 0, none⟩) 1 1) [p] := by
  refine ⟨rfl, .inr ⟨_, _, rfl, fun j u hj => ?_⟩⟩
  rw [add_lit0]
  match j, hj with
  | 0, hj => simp [ints] at hj; subst hj; simp
  | j + 1, hj => simp [ints] at hj

end
/-- structs that the code writes down, in a block of their own -/
theorem src_lit (w : World) (e : TypeId) (size n : Nat) (l : List Int) (hl : l.length = n * size) :
    Src (w.alloc (.cells (ints l).toArray e)) size (.slice (some ⟨w.heap.size, 0, none⟩) n n) n (ints l) := by
  refine ⟨by simpa [ints] using hl, .inr ⟨_, _, rfl, fun j u hj => ?_⟩⟩
  rw [add_lit0]
  simp [hj]

end Go.Proofs.YtllbnoojkgbjiaaGreat

/-
  wainscotref00.EqInts answers whether two lists of numbers are one.
-/
namespace Go.Proofs.YtllbnoojkgbjiaaGreat
open Go.RowKit

theorem take_eq_of {a b : List Int} {k : Nat} {x y : Int} (ha : a[k]? = some x) (hb : b[k]? = some y) (h : a.take k = b.take k) (hxy : x = y) : a.take (k + 1) = b.take (k + 1) := by
  rw [List.take_add_one, List.take_add_one, ha, hb, h, hxy]
set_option maxHeartbeats 1000000 in
theorem eqInts_spec {w : World} {v1 v2 : Value} {l1 l2 : List Int} (h1 : IntsSrc w v1 l1) (h2 : IntsSrc w v2 l2) (hl1 : l1.length ≤ 60000) (hl2 : l2.length ≤ 60000) :
    Calls Tryz.prog 33 #[v1, v2] w fun e w' => e = .returned (.bool (decide (l1 = l2))) ∧ ∃ n, w' = w.drewN n := by
  have f1 : ∃ A c, v1 = .slice A l1.length c := by
    rcases h1.2 with ⟨rfl, h0⟩ | ⟨a, c, rfl, _⟩
    · exact ⟨none, 0, by rw [h0]⟩
    · exact ⟨_, c, rfl⟩
  have f2 : ∃ A c, v2 = .slice A l2.length c := by
    rcases h2.2 with ⟨rfl, h0⟩ | ⟨a, c, rfl, _⟩
    · exact ⟨none, 0, by rw [h0]⟩
    · exact ⟨_, c, rfl⟩
  obtain ⟨A1, c1, rfl⟩ := f1
  obtain ⟨A2, c2, rfl⟩ := f2
  by_cases hl : l1.length = l2.length
  · have H1 := Lib.hid h1
    have H2 := Lib.hid h2
    clear h1 h2
    have hb : ((l1.length : Int) != (l2.length : Int)) = false := by rw [hl]; simp
    have HL := Lib.hid hl
    clear hl
    go_enter Tryz.func33, Tryz.ntmps33
    go_wp2_with fail
    go_loopw [5] (fun k wr => ∃ i : Nat, i ≤ l1.length ∧ k = .int .i64 i ∧ l1.take i = l2.take i ∧ ∃ n, wr = w.drewN n) (fun k _ => l1.length - (intOf k).toNat)
    case atStart => exact ⟨0, Nat.zero_le _, rfl, by simp, 0, rfl⟩
    case round =>
      obtain ⟨i, hi, rfl, hT, nq0, rfl⟩ := hrel
      have HT := Lib.hid hT
      clear hT
      by_cases hlt : i < l1.length
      · rcases H1.out.2 with ⟨_, h0⟩ | ⟨a1, k1, he1, hc1⟩
        · omega
        rcases H2.out.2 with ⟨_, h0⟩ | ⟨a2, k2, he2, hc2⟩
        · have := HL.out; omega
        cases he1
        cases he2
        obtain ⟨x, hx⟩ : ∃ x, l1[i]? = some x := ⟨_, List.getElem?_eq_getElem hlt⟩
        obtain ⟨y, hy⟩ : ∃ y, l2[i]? = some y := ⟨_, List.getElem?_eq_getElem (by have := HL.out; omega)⟩
        have cx := hc1 i _ (ints_get hx)
        have cy := hc2 i _ (ints_get hy)
        have i0 : (0 : Int) ≤ (i : Int) := by omega
        have i1 : (i : Int) < (l1.length : Int) := by omega
        have i2 : (i : Int) < (l2.length : Int) := by have := HL.out; omega
        have HX := Lib.hid hx
        have HY := Lib.hid hy
        clear hx hy hc1 hc2
        by_cases hxy : x = y
        · have hxb : (x != y) = false := by simpa using hxy
          have HXY := Lib.hid hxy
          clear hxy
          go_wp2_with fail
          go_quiet (fail)
          go_wp2_with fail
          go_roundw
          case rel => exact ⟨i + 1, by omega, by go_num, take_eq_of HX.out HY.out HT.out HXY.out, nq0 + nq, by first | rfl | rw [World.drewN_drewN]⟩
          case measure => simp [intOf]; omega
        · have hxb : (x != y) = true := by simpa using hxy
          have HXY := Lib.hid hxy
          clear hxy
          go_wp2_with fail
          go_quiet (fail)
          go_wp2_with fail
          go_ret
          refine ⟨?_, nq0 + nq, by first | rfl | rw [World.drewN_drewN]⟩
          have : l1 ≠ l2 := fun he => HXY.out (by have := HX.out; rw [he, HY.out] at this; exact (Option.some.inj this).symm)
          rw [decide_eq_false this]; rfl
      · obtain rfl : i = l1.length := by omega
        go_wp2_with fail
        go_ret
        refine ⟨?_, _, rfl⟩
        have : l1 = l2 := by
          have h := HT.out
          rw [List.take_of_length_le (Nat.le_refl _), HL.out, List.take_of_length_le (Nat.le_refl _)] at h
          exact h
        rw [decide_eq_true this]; rfl
  · have hb : ((l1.length : Int) != (l2.length : Int)) = true := by simp; omega
    have hne : l1 ≠ l2 := fun he => hl (by rw [he])
    have HN := Lib.hid hne
    clear hne hl h1 h2
    go_enter Tryz.func33, Tryz.ntmps33
    go_wp2_with fail
    go_ret
    exact ⟨by rw [decide_eq_false HN.out]; rfl, 0, rfl⟩
section
variable {W : World} {m : List (Nat × Obj)} {w : World}
theorem eqInts_yes {v1 v2 : Value} {l1 l2 : List Int} (h1 : IntsSrc w v1 l1) (h2 : IntsSrc w v2 l2) (hl1 : l1.length ≤ 60000) (he : l1 = l2) (h : Own W m w) :
    Calls Tryz.prog 33 #[v1, v2] w fun e w' => e = .returned (.bool true) ∧ Own W m w' := by
  subst he
  refine (eqInts_spec h1 h2 hl1 hl1).mono ?_
  rintro e w' ⟨rfl, n, rfl⟩
  exact ⟨by simp, h.drewN n⟩
end
end Go.Proofs.YtllbnoojkgbjiaaGreat

/-
  The runner: arguments that are slices of numbers, or of bools. No condition.
-/
namespace Go.Proofs.YtllbnoojkgbjiaaGreat.Ex
open Go Go.ChangeShapes Go.WideShapes Go.ChangeAt Go.RowKit
def ckOf : Option IntKind → CK
  | none => .bool
  | some k => .int k
def ckWf : Option IntKind → Int → Prop
  | none, _ => True
  | some k, n => (Lit.int k n).wf = true
/-- the numbers of a slice -/
theorem flat_list {W : World} {k : Option IntKind} {A : Option Addr} {len : Nat} (h : FlatAt W [k] A len) :
    ∃ L : List Int, L.length = len ∧ (∀ a, A = some a → 0 < len → a.block < W.heap.size ∧ ∀ e, e < len → W.cell? (a.add e) = some ((ckOf k).val (L[e]?.getD 0))) ∧ (A = none → len = 0) ∧ ∀ x ∈ L, ckWf k x := by
  by_cases h0 : len = 0
  · subst h0
    exact ⟨[], rfl, fun _ _ h => by omega, fun _ => rfl, by simp⟩
  obtain ⟨B, o, rfl, hB, hc⟩ := h (by omega)
  have hv : ∀ e, e < len → ∃ x : Int, W.cell? ⟨B, o + e, none⟩ = some ((ckOf k).val x) ∧ ckWf k x := by
    intro e he
    obtain ⟨u, hu, hk⟩ := hc e he 0 k rfl
    simp only [List.length_cons, List.length_nil, Nat.zero_add, Nat.mul_one, Nat.add_zero] at hu
    cases k with
    | none =>
      obtain ⟨b, rfl⟩ := hk
      refine ⟨if b then 1 else 0, ?_, trivial⟩
      rw [hu]
      cases b <;> rfl
    | some k =>
      obtain ⟨n, rfl, hw⟩ := hk
      exact ⟨n, hu, hw⟩
  have hL : ∀ n, n ≤ len → ∃ L : List Int, L.length = n ∧ (∀ e, e < n → W.cell? ⟨B, o + e, none⟩ = some ((ckOf k).val (L[e]?.getD 0))) ∧ ∀ x ∈ L, ckWf k x := by
    intro n
    induction n with
    | zero => intro _; exact ⟨[], rfl, fun e he => by omega, by simp⟩
    | succ n ih =>
      intro hn
      obtain ⟨L, h1, h2, h3⟩ := ih (by omega)
      obtain ⟨x, hx, hw⟩ := hv n (by omega)
      refine ⟨L ++ [x], by simp [h1], fun e he => ?_, fun y hy => ?_⟩
      · by_cases hen : e = n
        · subst hen
          rw [hx, List.getElem?_append_right (by omega), h1]
          simp
        · rw [h2 e (by omega), List.getElem?_append_left (by omega)]
      · rcases List.mem_append.1 hy with hy | hy
        · exact h3 y hy
        · rw [List.mem_singleton] at hy
          subst hy
          exact hw
  obtain ⟨L, h1, h2, h3⟩ := hL len (Nat.le_refl _)
  refine ⟨L, h1, fun a ha _ => ?_, (fun hn => by cases hn), h3⟩
  cases ha
  refine ⟨hB, fun e he => ?_⟩
  rw [← h2 e he]
  congr 1
  unfold Addr.add
  split
  · rename_i h0; subst h0; rfl
  · rfl
end Go.Proofs.YtllbnoojkgbjiaaGreat.Ex

/-
  The runner: known calls over a memory of two blocks; that make one; that give a list. No condition.
-/
namespace Go.Proofs.YtllbnoojkgbjiaaGreat.Ex
open Go
section
variable [Nums] {P : Program}
theorem opb_inv {ρ : Ren} {i n m s b0 b1 s0 s1 : Nat} {o : Obj} (h : TR ρ (.opb i n m) s (some o)) (h0 : ρ n = some (b0, s0)) (h1 : ρ m = some (b1, s1)) : Nums.Ω i b0 b1 o := by
  obtain ⟨c0, z0, c1, z1, o', k0, k1, k2, k3⟩ := h
  rw [h0] at k0
  rw [h1] at k1
  cases k0
  cases k1
  cases k2
  exact k3
theorem opb_mk {ρ : Ren} {i n m s b0 b1 s0 s1 : Nat} {o : Obj} (h0 : ρ n = some (b0, s0)) (h1 : ρ m = some (b1, s1)) (h : Nums.Ω i b0 b1 o) : TR ρ (.opb i n m) s (some o) := ⟨b0, s0, b1, s1, o, h0, h1, rfl, h⟩
/-- a call over the memory, whose result has no blocks -/
theorem kc_mem {k : Kc} {i j n0 n1 : Nat} {xs : List AV} (hn0 : n0 < rel) (hn1 : n1 < rel) (hpre : k.pre = [(n0, .opb i n0 n1), (n1, .opb (i + 1) n0 n1)]) (hpost : k.post = [(n0, .opb j n0 n1), (n1, .opb (j + 1) n0 n1)]) (hnews : k.news = [])
    (hargs : k.args = .ptr n0 0 :: xs) (hxs : AV.shuts xs = true) (hres : k.res.shut = true) (hf : FnOk P k.f)
    (hc : (∀ c ∈ k.conds, c.1.ev Nums.σ = c.2) → ∀ (W w : World) (m : List (Nat × Obj)) (b0 b1 : Nat) (o0 o1 : Obj), Nums.Ω i b0 b1 o0 → Nums.Ω (i + 1) b0 b1 o1 → Own W ((b0, o0) :: (b1, o1) :: m) w →
      Calls P k.f (.pointer (some ⟨b0, 0, none⟩) :: valsOf Nums.σ xs).toArray w fun e w' => e = .returned (valOf Nums.σ k.res) ∧ ∃ o0' o1', Nums.Ω j b0 b1 o0' ∧ Nums.Ω (j + 1) b0 b1 o1' ∧ Own W ((b0, o0') :: (b1, o1') :: m) w') : KcOk P k := by
  refine kc_own hf (by rw [hpost, hpre]; intro p hp; simp only [List.mem_cons, List.not_mem_nil, or_false] at hp; exact hp.elim (fun h => h ▸ ⟨_, List.mem_cons_self⟩) (fun h => h ▸ ⟨_, List.mem_cons_of_mem _ List.mem_cons_self⟩))
    (by rw [hpre]; intro p hp; simp only [List.mem_cons, List.not_mem_nil, or_false] at hp; rcases hp with rfl | rfl <;> assumption) fun hcs ρ W w m args' bs hF ha hO => ?_
  rw [hpre] at hF
  obtain ⟨b0, o0, s0, r, rfl, p0, t0, b1, o1, s1, r1, rfl, p1, t1, rfl⟩ := hF
  have w0 := opb_inv t0 p0 p1
  have w1 := opb_inv t1 p0 p1
  rw [hargs] at ha
  obtain ⟨y, ys, hy, hp, hys⟩ := ha.uncons
  obtain ⟨c0, z0, q0, rfl⟩ := hp.ptr_inv
  rw [p0] at q0
  cases q0
  have hys := VRs.shut hys hxs
  have hargs2 : args' = (.pointer (some ⟨b0, 0, none⟩) :: valsOf Nums.σ xs).toArray := by
    apply Array.ext'
    rw [hy, hys]
  subst hargs2
  refine (hc hcs W w m b0 b1 o0 o1 w0 w1 hO).mono ?_
  rintro e w' ⟨rfl, o0', o1', v0, v1, h'⟩
  refine ⟨_, [], [(b0, o0'), (b1, o1')], rfl, h', rfl, by rw [hnews]; rfl, fun ρ' hk _ => ⟨VR.ofShut hres, fun i t d hi => by rw [hnews] at hi; simp at hi, fun p hp => ?_⟩⟩
  rw [hpost] at hp
  simp only [List.mem_cons, List.not_mem_nil, or_false] at hp
  have q0 := hk _ _ hn0 p0
  have q1 := hk _ _ hn1 p1
  rcases hp with rfl | rfl
  · exact ⟨b0, o0', s0, by simp, p0, opb_mk q0 q1 v0⟩
  · exact ⟨b1, o1', s1, by simp, p1, opb_mk q0 q1 v1⟩
/-- a call that makes a memory: the first one of its results -/
theorem kc_make {k : Kc} {i : Nat} {ys : List AV} (hpre : k.pre = []) (hpost : k.post = []) (hnews : k.news = [.opb i rel (rel + 1), .opb (i + 1) rel (rel + 1)]) (hxs : AV.shuts k.args = true) (hres : k.res = .tup (.ptr rel 0 :: ys)) (hys : AV.shuts ys = true) (hf : FnOk P k.f)
    (hc : (∀ c ∈ k.conds, c.1.ev Nums.σ = c.2) → ∀ (W w : World) (m : List (Nat × Obj)), Own W m w →
      Calls P k.f (valsOf Nums.σ k.args).toArray w fun e w' => ∃ b0 b1 o0 o1, e = .returned (.tuple (.pointer (some ⟨b0, 0, none⟩) :: valsOf Nums.σ ys).toArray) ∧ Nums.Ω i b0 b1 o0 ∧ Nums.Ω (i + 1) b0 b1 o1 ∧ Own W ((b0, o0) :: (b1, o1) :: m) w') : KcOk P k := by
  refine kc_own hf (by rw [hpost]; intro p hp; cases hp) (by rw [hpre]; intro p hp; cases hp) fun hcs ρ W w m args' bs hF ha hO => ?_
  have hbs : bs = [] := by rw [hpre] at hF; exact hF
  subst hbs
  have ha := VRs.shut ha hxs
  have ha : args' = (valsOf Nums.σ k.args).toArray := by rw [← ha]
  subst ha
  refine (hc hcs W w m hO).mono ?_
  rintro e w' ⟨b0, b1, o0, o1, rfl, v0, v1, h'⟩
  refine ⟨_, [(b0, o0), (b1, o1)], [], rfl, h', rfl, by rw [hnews]; rfl, fun ρ' _ hd => ?_⟩
  have d0 : ρ' rel = some (b0, objSize o0) := hd 0 _ rfl
  have d1 : ρ' (rel + 1) = some (b1, objSize o1) := hd 1 _ rfl
  refine ⟨?_, fun j t d hj hd2 => ?_, fun p hp => by rw [hpost] at hp; cases hp⟩
  · rw [hres]
    unfold VR
    refine ⟨_, rfl, VRs.cons ?_ (VRs.ofShut hys)⟩
    unfold VR
    exact ⟨b0, _, d0, rfl⟩
  · rw [hnews] at hj
    match j with
    | 0 =>
      simp only [List.getElem?_cons_zero, Option.some.injEq] at hj hd2
      subst hj; subst hd2
      exact opb_mk d0 d1 v0
    | 1 =>
      simp only [List.getElem?_cons_succ, List.getElem?_cons_zero, Option.some.injEq] at hj hd2
      subst hj; subst hd2
      exact opb_mk d0 d1 v1
    | j + 2 => simp at hj
end
end Go.Proofs.YtllbnoojkgbjiaaGreat.Ex
