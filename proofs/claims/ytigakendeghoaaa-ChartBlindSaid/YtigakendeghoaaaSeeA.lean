/-
  Contracts: a head, a part, a slab's numbers (package count). No condition.
-/
import Derived.Test.YtigakendeghoaaaSeeP
import Derived.Test.YtigakendeghoaaaSep
import Derived.Laws.BitsAllLaws
namespace Go.Proofs.Ytigakendeghoaaa.See
open Go.RowKit
attribute [local go_sem ↓] Go.wp_at_zero Go.wp_at_succ
theorem and63 (w : Nat) (h : w < 18446744073709551616) : bits .and .u64 (w : Int) 63 = ((w % 64 : Nat) : Int) := by
  have := u64_and_nat w 63 h (by omega)
  rw [show (63 : Int) = ((63 : Nat) : Int) from rfl, this, show (63 : Nat) = 2 ^ 6 - 1 from rfl, Nat.and_two_pow_sub_one_eq_mod]
theorem and255 (w : Nat) (h : w < 18446744073709551616) : bits .and .u64 (w : Int) 255 = ((w % 256 : Nat) : Int) := by
  have := u64_and_nat w 255 h (by omega)
  rw [show (255 : Int) = ((255 : Nat) : Int) from rfl, this, show (255 : Nat) = 2 ^ 8 - 1 from rfl, Nat.and_two_pow_sub_one_eq_mod]
def headOk (s o : Int) : Prop := 0 ≤ s ∧ s < 32 ∧ -1 ≤ o ∧ o < 16
instance (s o : Int) : Decidable (headOk s o) := inferInstanceAs (Decidable (0 ≤ s ∧ s < 32 ∧ -1 ≤ o ∧ o < 16))
/-- the word of a head -/
def headW (s o : Int) : Nat := (64 * (s + 1) + (o + 1)).toNat
theorem or64 (a b : Nat) (ha : a < 1000) (hb : b < 64) : bits .or .u64 ((64 * a : Nat) : Int) (b : Int) = ((64 * a + b : Nat) : Int) := by
  have := u64_or_nat (64 * a) b (by omega) (by omega)
  rw [this]
  have h := Nat.two_pow_add_eq_or_of_lt (i := 6) (b := b) hb a
  rw [← h]
def smay (s : Int) : Bool := decide (0 ≤ s ∧ s < 32)
theorem smay_yes {s : Int} (h : 0 ≤ s ∧ s < 32) : smay s = true := decide_eq_true h
theorem smay_no {s : Int} (h : ¬ (0 ≤ s ∧ s < 32)) : smay s = false := decide_eq_false h
theorem slabMay_spec (s : Int) (w : World) : Calls Try.prog 90 #[.int .i64 s] w fun e w' => e = .returned (.bool (smay s)) ∧ w = w' := by
  by_cases h0 : 0 ≤ s
  · by_cases h1 : s < 32
    · rw [smay_yes ⟨h0, h1⟩]
      go_enter Try.func90, Try.ntmps90
      go_wp2_with fail
      go_ret
      exact ⟨rfl, rfl⟩
    · rw [smay_no (by omega)]
      go_enter Try.func90, Try.ntmps90
      go_wp2_with fail
      go_ret
      exact ⟨rfl, rfl⟩
  · rw [smay_no (by omega)]
    go_enter Try.func90, Try.ntmps90
    go_wp2_with fail
    go_ret
    exact ⟨rfl, rfl⟩
/-- a head's word is made -/
theorem head_ok (s o : Int) (h : headOk s o) (w : World) : Calls Try.prog 73 #[.int .i64 s, .int .i64 o] w fun e w' => e = .returned (.tuple #[.int .u64 (headW s o), .int .i64 0]) ∧ w = w' := by
  obtain ⟨h0, h1, h2, h3⟩ := h
  have hb : (s == -1) = false := beq_eq_false_iff_ne.2 (by omega)
  have hw : bits .or .u64 ((s + 1) * 64) (o + 1) = headW s o := by
    have := or64 (s + 1).toNat (o + 1).toNat (by omega) (by omega)
    rw [show ((64 * (s + 1).toNat : Nat) : Int) = (s + 1) * 64 by omega, show ((o + 1).toNat : Int) = o + 1 by omega] at this
    rw [this]
    unfold headW
    omega
  have HW := Lib.hid hw
  clear hw
  go_enter Try.func73, Try.ntmps73
  go_wp2_with (go_at_call 90; refine (slabMay_spec s _).mono ?_; rintro e w' ⟨rfl, rfl⟩; rw [smay_yes ⟨h0, h1⟩])
  go_ret2
  exact ⟨by rw [← HW.out]; rfl, rfl⟩
theorem head_none (w : World) : Calls Try.prog 73 #[.int .i64 (-1), .int .i64 (-1)] w fun e w' => e = .returned (.tuple #[.int .u64 0, .int .i64 0]) ∧ w = w' := by
  go_enter Try.func73, Try.ntmps73
  go_wp2_with fail
  go_ret2
  exact ⟨rfl, rfl⟩
theorem head_bad (s o : Int) (h : ¬ headOk s o) (hn : ¬ (s = -1 ∧ o = -1)) (w : World) : Calls Try.prog 73 #[.int .i64 s, .int .i64 o] w fun e w' => e = .returned (.tuple #[.int .u64 0, .int .i64 2]) ∧ w = w' := by
  unfold headOk at h
  by_cases hs : s = -1
  · subst hs
    have hb : (o == -1) = false := beq_eq_false_iff_ne.2 (by omega)
    go_enter Try.func73, Try.ntmps73
    go_wp2_with (go_at_call 90; refine (slabMay_spec (-1) _).mono ?_; rintro e w' ⟨rfl, rfl⟩)
    go_ret2
    exact ⟨rfl, rfl⟩
  · have hb : (s == -1) = false := beq_eq_false_iff_ne.2 hs
    by_cases hm : 0 ≤ s ∧ s < 32
    · rcases (show o < -1 ∨ (¬ o < -1 ∧ 16 ≤ o) by omega) with ho | ⟨ho, ho2⟩
      all_goals
        go_enter Try.func73, Try.ntmps73
        go_wp2_with (go_at_call 90; refine (slabMay_spec s _).mono ?_; rintro e w' ⟨rfl, rfl⟩; rw [smay_yes hm])
        go_ret2
        exact ⟨rfl, rfl⟩
    · go_enter Try.func73, Try.ntmps73
      go_wp2_with (go_at_call 90; refine (slabMay_spec s _).mono ?_; rintro e w' ⟨rfl, rfl⟩; rw [smay_no hm])
      go_ret2
      exact ⟨rfl, rfl⟩
/-- is that a head? -/
def hIs (s o : Int) : Bool := decide (headOk s o ∨ (s = -1 ∧ o = -1))
theorem hc_spec (s o : Int) (w : World) : Calls Try.prog 102 #[.int .i64 s, .int .i64 o] w fun e w' => e = .returned (.bool (hIs s o)) ∧ w = w' := by
  by_cases h : headOk s o
  · rw [show hIs s o = true from decide_eq_true (.inl h)]
    have HH := Lib.hid h
    go_enter Try.func102, Try.ntmps102
    go_wp2_with (go_at_call 73; refine (head_ok s o HH.out _).mono ?_; rintro e w' ⟨rfl, rfl⟩)
    go_ret
    exact ⟨rfl, rfl⟩
  · by_cases hn : s = -1 ∧ o = -1
    · obtain ⟨rfl, rfl⟩ := hn
      rw [show hIs (-1) (-1) = true from decide_eq_true (.inr ⟨rfl, rfl⟩)]
      go_enter Try.func102, Try.ntmps102
      go_wp2_with (go_at_call 73; refine (head_none _).mono ?_; rintro e w' ⟨rfl, rfl⟩)
      go_ret
      exact ⟨rfl, rfl⟩
    · rw [show hIs s o = false from decide_eq_false (by intro hh; exact hh.elim h hn)]
      have HH := Lib.hid h
      have HN := Lib.hid hn
      clear h hn
      go_enter Try.func102, Try.ntmps102
      go_wp2_with (go_at_call 73; refine (head_bad s o HH.out HN.out _).mono ?_; rintro e w' ⟨rfl, rfl⟩)
      go_ret
      exact ⟨rfl, rfl⟩
/-- what told answers -/
def toldV (w : Nat) (hi lo : Int) (p : Int → Int → Bool) : Value :=
  if w ≤ 4095 ∧ p (((w / 64 : Nat) : Int) - hi) (((w % 64 : Nat) : Int) - lo) = true then .tuple #[.int .i64 (((w / 64 : Nat) : Int) - hi), .int .i64 (((w % 64 : Nat) : Int) - lo), .bool true] else .tuple #[.int .i64 0, .int .i64 0, .bool false]
set_option maxRecDepth 100000 in
theorem told_h (x : Nat) (hx : x < 18446744073709551616) (hi lo : Int) (h0 : 0 ≤ hi) (h1 : hi ≤ 1) (l0 : 0 ≤ lo) (l1 : lo ≤ 1) (w : World) :
    Calls Try.prog 101 #[.int .u64 x, .int .i64 hi, .int .i64 lo, .func (.func 102) #[] #[]] w fun e w' => e = .returned (toldV x hi lo hIs) ∧ w = w' := by
  have ha := and63 x hx
  have hd : (x : Int) / 64 = ((x / 64 : Nat) : Int) := by omega
  obtain ⟨q, hq⟩ : ∃ q : Nat, x / 64 = q := ⟨_, rfl⟩
  obtain ⟨r, hr⟩ : ∃ r : Nat, x % 64 = r := ⟨_, rfl⟩
  have hqb : x ≤ 4095 → q ≤ 63 := by omega
  have hrb : r < 64 := by omega
  unfold toldV
  rw [hq, hr]
  rw [hr] at ha
  rw [hq] at hd
  clear hq hr
  by_cases hbig : x ≤ 4095
  · have hbi : (x : Int) ≤ 4095 := by omega
    have hqb := hqb hbig
    clear hx
    cases hc : hIs ((q : Int) - hi) ((r : Int) - lo)
    · rw [if_neg (by simp)]
      go_enter Try.func101, Try.ntmps101
      go_wp2_with fail
      refine (hc_spec _ _ _).mono ?_
      rintro e w' ⟨rfl, rfl⟩
      rw [hc]
      go_wp2_with fail
      go_ret3
      exact ⟨rfl, rfl⟩
    · rw [if_pos ⟨hbig, rfl⟩]
      go_enter Try.func101, Try.ntmps101
      go_wp2_with fail
      refine (hc_spec _ _ _).mono ?_
      rintro e w' ⟨rfl, rfl⟩
      rw [hc]
      go_wp2_with fail
      go_ret3
      exact ⟨rfl, rfl⟩
  · have hbi : ¬ (x : Int) ≤ 4095 := by omega
    rw [if_neg (by intro h; exact hbig h.1)]
    clear hx hqb
    go_enter Try.func101, Try.ntmps101
    go_wp2_with fail
    go_ret3
    exact ⟨rfl, rfl⟩
/-- what HeadOf answers -/
def headV (w : Nat) : Value := match headOf w with
  | some (s, o) => .tuple #[.int .i64 s, .int .i64 o, .bool true]
  | none => .tuple #[.int .i64 (-1), .int .i64 (-1), .bool false]
theorem headOf_told (w : Nat) : headOf w = if w ≤ 4095 ∧ hIs (((w / 64 : Nat) : Int) - 1) (((w % 64 : Nat) : Int) - 1) = true then some (((w / 64 : Nat) : Int) - 1, ((w % 64 : Nat) : Int) - 1) else none := by
  unfold headOf hIs headOk
  by_cases h0 : w = 0
  · subst h0
    rw [if_pos rfl, if_pos ⟨by omega, by decide⟩]
    rfl
  · rw [if_neg h0]
    by_cases h1 : 64 ≤ w ∧ w < 2112 ∧ w % 64 ≤ 16
    · rw [if_pos h1, if_pos ⟨by omega, decide_eq_true (.inl (by omega))⟩]
    · rw [if_neg h1, if_neg]
      rintro ⟨h2, h3⟩
      have h3 := of_decide_eq_true h3
      omega
theorem headOf_spec (x : Nat) (hx : x < 18446744073709551616) (w : World) : Calls Try.prog 80 #[.int .u64 x] w fun e w' => e = .returned (headV x) ∧ w = w' := by
  have ht := fun w => told_h x hx 1 1 (by omega) (by omega) (by omega) (by omega) w
  have HT := Lib.hid ht
  unfold headV
  have he := headOf_told x
  clear hx ht
  by_cases hc : x ≤ 4095 ∧ hIs (((x / 64 : Nat) : Int) - 1) (((x % 64 : Nat) : Int) - 1) = true
  · rw [if_pos hc] at he
    rw [he]
    have hv : toldV x 1 1 hIs = .tuple #[.int .i64 (((x / 64 : Nat) : Int) - 1), .int .i64 (((x % 64 : Nat) : Int) - 1), .bool true] := by
      unfold toldV
      rw [if_pos hc]
    have HV := Lib.hid hv
    clear hv he hc
    go_enter Try.func80, Try.ntmps80
    go_wp2_with fail
    refine (HT.out _).mono ?_
    rintro e w' ⟨rfl, rfl⟩
    rw [HV.out]
    go_wp2_with fail
    go_ret3
    exact ⟨rfl, rfl⟩
  · rw [if_neg hc] at he
    rw [he]
    have hv : toldV x 1 1 hIs = .tuple #[.int .i64 0, .int .i64 0, .bool false] := by
      unfold toldV
      rw [if_neg hc]
    have HV := Lib.hid hv
    clear hv he hc
    go_enter Try.func80, Try.ntmps80
    go_wp2_with fail
    refine (HT.out _).mono ?_
    rintro e w' ⟨rfl, rfl⟩
    rw [HV.out]
    go_wp2_with fail
    go_ret3
    exact ⟨rfl, rfl⟩
def partOk (s n : Int) : Prop := 0 ≤ s ∧ s < 32 ∧ 1 ≤ n ∧ n ≤ 63
instance (s n : Int) : Decidable (partOk s n) := inferInstanceAs (Decidable (0 ≤ s ∧ s < 32 ∧ 1 ≤ n ∧ n ≤ 63))
/-- the word of a part -/
def partW (s n : Int) : Nat := (64 * n + (s + 1)).toNat
theorem part_ok (s n : Int) (h : partOk s n) (w : World) : Calls Try.prog 120 #[.int .i64 s, .int .i64 n] w fun e w' => e = .returned (.tuple #[.int .u64 (partW s n), .int .i64 0]) ∧ w = w' := by
  obtain ⟨h0, h1, h2, h3⟩ := h
  have hb : (s == -1) = false := beq_eq_false_iff_ne.2 (by omega)
  have hw : bits .or .u64 (n * 64) (s + 1) = partW s n := by
    have := or64 n.toNat (s + 1).toNat (by omega) (by omega)
    rw [show ((64 * n.toNat : Nat) : Int) = n * 64 by omega, show ((s + 1).toNat : Int) = s + 1 by omega] at this
    rw [this]
    unfold partW
    omega
  have HW := Lib.hid hw
  clear hw
  go_enter Try.func120, Try.ntmps120
  go_wp2_with (go_at_call 90; refine (slabMay_spec s _).mono ?_; rintro e w' ⟨rfl, rfl⟩; rw [smay_yes ⟨h0, h1⟩])
  go_ret2
  exact ⟨by rw [← HW.out]; rfl, rfl⟩
theorem part_none (w : World) : Calls Try.prog 120 #[.int .i64 (-1), .int .i64 0] w fun e w' => e = .returned (.tuple #[.int .u64 0, .int .i64 0]) ∧ w = w' := by
  go_enter Try.func120, Try.ntmps120
  go_wp2_with fail
  go_ret2
  exact ⟨rfl, rfl⟩
theorem part_bad (s n : Int) (h : ¬ partOk s n) (hn : ¬ (s = -1 ∧ n = 0)) (w : World) : Calls Try.prog 120 #[.int .i64 s, .int .i64 n] w fun e w' => e = .returned (.tuple #[.int .u64 0, .int .i64 2]) ∧ w = w' := by
  unfold partOk at h
  by_cases hs : s = -1
  · subst hs
    have hb : (n == 0) = false := beq_eq_false_iff_ne.2 (by omega)
    go_enter Try.func120, Try.ntmps120
    go_wp2_with (go_at_call 90; refine (slabMay_spec (-1) _).mono ?_; rintro e w' ⟨rfl, rfl⟩)
    go_ret2
    exact ⟨rfl, rfl⟩
  · have hb : (s == -1) = false := beq_eq_false_iff_ne.2 hs
    by_cases hm : 0 ≤ s ∧ s < 32
    · rcases (show n < 1 ∨ (¬ n < 1 ∧ 63 < n) by omega) with ho | ⟨ho, ho2⟩
      all_goals
        go_enter Try.func120, Try.ntmps120
        go_wp2_with (go_at_call 90; refine (slabMay_spec s _).mono ?_; rintro e w' ⟨rfl, rfl⟩; rw [smay_yes hm])
        go_ret2
        exact ⟨rfl, rfl⟩
    · go_enter Try.func120, Try.ntmps120
      go_wp2_with (go_at_call 90; refine (slabMay_spec s _).mono ?_; rintro e w' ⟨rfl, rfl⟩; rw [smay_no hm])
      go_ret2
      exact ⟨rfl, rfl⟩
/-- is that a part? (how many, which slab) -/
def pIs (n s : Int) : Bool := decide (partOk s n ∨ (s = -1 ∧ n = 0))
theorem pc_spec (n s : Int) (w : World) : Calls Try.prog 119 #[.int .i64 n, .int .i64 s] w fun e w' => e = .returned (.bool (pIs n s)) ∧ w = w' := by
  by_cases h : partOk s n
  · rw [show pIs n s = true from decide_eq_true (.inl h)]
    have HH := Lib.hid h
    clear h
    go_enter Try.func119, Try.ntmps119
    go_wp2_with (go_at_call 120; refine (part_ok s n HH.out _).mono ?_; rintro e w' ⟨rfl, rfl⟩)
    go_ret
    exact ⟨rfl, rfl⟩
  · by_cases hn : s = -1 ∧ n = 0
    · obtain ⟨rfl, rfl⟩ := hn
      rw [show pIs 0 (-1) = true from decide_eq_true (.inr ⟨rfl, rfl⟩)]
      go_enter Try.func119, Try.ntmps119
      go_wp2_with (go_at_call 120; refine (part_none _).mono ?_; rintro e w' ⟨rfl, rfl⟩)
      go_ret
      exact ⟨rfl, rfl⟩
    · rw [show pIs n s = false from decide_eq_false (by intro hh; exact hh.elim h hn)]
      have HH := Lib.hid h
      have HN := Lib.hid hn
      clear h hn
      go_enter Try.func119, Try.ntmps119
      go_wp2_with (go_at_call 120; refine (part_bad s n HH.out HN.out _).mono ?_; rintro e w' ⟨rfl, rfl⟩)
      go_ret
      exact ⟨rfl, rfl⟩
set_option maxRecDepth 100000 in
theorem told_p (x : Nat) (hx : x < 18446744073709551616) (hi lo : Int) (h0 : 0 ≤ hi) (h1 : hi ≤ 1) (l0 : 0 ≤ lo) (l1 : lo ≤ 1) (w : World) :
    Calls Try.prog 101 #[.int .u64 x, .int .i64 hi, .int .i64 lo, .func (.func 119) #[] #[]] w fun e w' => e = .returned (toldV x hi lo pIs) ∧ w = w' := by
  have ha := and63 x hx
  have hd : (x : Int) / 64 = ((x / 64 : Nat) : Int) := by omega
  obtain ⟨q, hq⟩ : ∃ q : Nat, x / 64 = q := ⟨_, rfl⟩
  obtain ⟨r, hr⟩ : ∃ r : Nat, x % 64 = r := ⟨_, rfl⟩
  have hqb : x ≤ 4095 → q ≤ 63 := by omega
  have hrb : r < 64 := by omega
  unfold toldV
  rw [hq, hr]
  rw [hr] at ha
  rw [hq] at hd
  clear hq hr
  by_cases hbig : x ≤ 4095
  · have hbi : (x : Int) ≤ 4095 := by omega
    have hqb := hqb hbig
    clear hx
    cases hc : pIs ((q : Int) - hi) ((r : Int) - lo)
    · rw [if_neg (by simp)]
      go_enter Try.func101, Try.ntmps101
      go_wp2_with fail
      refine (pc_spec _ _ _).mono ?_
      rintro e w' ⟨rfl, rfl⟩
      rw [hc]
      go_wp2_with fail
      go_ret3
      exact ⟨rfl, rfl⟩
    · rw [if_pos ⟨hbig, rfl⟩]
      go_enter Try.func101, Try.ntmps101
      go_wp2_with fail
      refine (pc_spec _ _ _).mono ?_
      rintro e w' ⟨rfl, rfl⟩
      rw [hc]
      go_wp2_with fail
      go_ret3
      exact ⟨rfl, rfl⟩
  · have hbi : ¬ (x : Int) ≤ 4095 := by omega
    rw [if_neg (by intro h; exact hbig h.1)]
    clear hx hqb
    go_enter Try.func101, Try.ntmps101
    go_wp2_with fail
    go_ret3
    exact ⟨rfl, rfl⟩
/-- what PartOf answers -/
def partV (w : Nat) : Value := match partOf w with
  | some (s, n) => .tuple #[.int .i64 s, .int .i64 n, .bool true]
  | none => .tuple #[.int .i64 (-1), .int .i64 0, .bool false]
theorem partOf_told (w : Nat) : partOf w = if w ≤ 4095 ∧ pIs (((w / 64 : Nat) : Int) - 0) (((w % 64 : Nat) : Int) - 1) = true then some (((w % 64 : Nat) : Int) - 1, ((w / 64 : Nat) : Int) - 0) else none := by
  unfold partOf pIs partOk
  by_cases h0 : w = 0
  · subst h0
    rw [if_pos rfl, if_pos ⟨by omega, by decide⟩]
    rfl
  · rw [if_neg h0]
    by_cases h1 : 64 ≤ w ∧ w < 4096 ∧ 1 ≤ w % 64 ∧ w % 64 ≤ 32
    · rw [if_pos h1, if_pos ⟨by omega, decide_eq_true (.inl (by omega))⟩, Int.sub_zero]
    · rw [if_neg h1, if_neg]
      rintro ⟨h2, h3⟩
      have h3 := of_decide_eq_true h3
      omega
theorem partOf_spec (x : Nat) (hx : x < 18446744073709551616) (w : World) : Calls Try.prog 104 #[.int .u64 x] w fun e w' => e = .returned (partV x) ∧ w = w' := by
  have ht := fun w => told_p x hx 0 1 (by omega) (by omega) (by omega) (by omega) w
  have HT := Lib.hid ht
  unfold partV
  have he := partOf_told x
  clear hx ht
  by_cases hc : x ≤ 4095 ∧ pIs (((x / 64 : Nat) : Int) - 0) (((x % 64 : Nat) : Int) - 1) = true
  · rw [if_pos hc] at he
    rw [he]
    have hv : toldV x 0 1 pIs = .tuple #[.int .i64 (((x / 64 : Nat) : Int) - 0), .int .i64 (((x % 64 : Nat) : Int) - 1), .bool true] := by
      unfold toldV
      rw [if_pos hc]
    have HV := Lib.hid hv
    clear hv he hc
    go_enter Try.func104, Try.ntmps104
    go_wp2_with fail
    refine (HT.out _).mono ?_
    rintro e w' ⟨rfl, rfl⟩
    rw [HV.out]
    go_wp2_with fail
    go_ret3
    exact ⟨by simp, rfl⟩
  · rw [if_neg hc] at he
    rw [he]
    have hv : toldV x 0 1 pIs = .tuple #[.int .i64 0, .int .i64 0, .bool false] := by
      unfold toldV
      rw [if_neg hc]
    have HV := Lib.hid hv
    clear hv he hc
    go_enter Try.func104, Try.ntmps104
    go_wp2_with fail
    refine (HT.out _).mono ?_
    rintro e w' ⟨rfl, rfl⟩
    rw [HV.out]
    go_wp2_with fail
    go_ret3
    exact ⟨rfl, rfl⟩
end Go.Proofs.Ytigakendeghoaaa.See
