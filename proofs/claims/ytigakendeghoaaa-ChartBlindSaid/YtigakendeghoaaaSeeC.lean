/-
  Contracts: what a link shows (package link). No condition.
-/
import Derived.Test.YtigakendeghoaaaSeeA
namespace Go.Proofs.Ytigakendeghoaaa.See
open Go.RowKit
attribute [local go_sem ↓] Go.wp_at_zero Go.wp_at_succ
def rotl (x s : Nat) : Nat := (x <<< s) % 18446744073709551616 ||| x >>> (64 - s)
theorem shr_lt (x s : Nat) (hx : x < 18446744073709551616) : x >>> s < 18446744073709551616 := by
  rw [Nat.shiftRight_eq_div_pow]
  exact Nat.lt_of_le_of_lt (Nat.div_le_self _ _) hx
theorem rotl_lt (x s : Nat) (hx : x < 18446744073709551616) : rotl x s < 18446744073709551616 := by
  have h : rotl x s < 2 ^ 64 := Nat.or_lt_two_pow (Nat.mod_lt _ (by omega)) (shr_lt x _ hx)
  exact h
theorem rot_bits (x s : Nat) (hx : x < 18446744073709551616) : bits .or .u64 (IntKind.u64.wrap ((x : Int) * 2 ^ s)) ((x : Int) / 2 ^ (64 - s)) = ((rotl x s : Nat) : Int) := by
  unfold rotl
  rw [← u64_or_nat _ _ (Nat.mod_lt _ (by omega)) (shr_lt x _ hx), IntKind.wrap_u64, Nat.shiftLeft_eq, Nat.shiftRight_eq_div_pow]
  congr 1
  all_goals push_cast; rfl
theorem rot_spec (x k : Nat) (hx : x < 18446744073709551616) (hk : k ≤ 75) (w : World) : Calls Try.prog 109 #[.int .u64 x, .int .i64 k] w fun e w' => e = .returned (.int .u64 (rotl x (k % 64) : Nat)) ∧ w = w' := by
  have ha := and63 k (by omega)
  obtain ⟨s, hs⟩ : ∃ s, k % 64 = s := ⟨_, rfl⟩
  have hs64 : s < 64 := by omega
  rw [hs] at ha ⊢
  have hb := Lib.hid (rot_bits x s hx)
  clear hs hx
  go_enter Try.func109, Try.ntmps109
  go_wp2_with fail
  go_ret
  exact ⟨by rw [← hb.out]; rfl, rfl⟩
theorem turned_eq (key n : Nat) : turned key n = (rotl key (5 * n % 64) + n * 2654435769) % 18446744073709551616 := rfl
theorem turned_lt (key n : Nat) : turned key n < 18446744073709551616 := by
  rw [turned_eq]
  exact Nat.mod_lt _ (by omega)
set_option maxRecDepth 100000 in
theorem turned_spec (key n : Nat) (hx : key < 18446744073709551616) (hn : n < 16) (w : World) : Calls Try.prog 89 #[.int .u64 key, .int .i64 n] w fun e w' => e = .returned (.int .u64 (turned key n : Nat)) ∧ w = w' := by
  have hr := fun w => rot_spec key (5 * n) hx (by omega) w
  rw [show ((5 * n : Nat) : Int) = 5 * (n : Int) by omega] at hr
  have HR := Lib.hid hr
  have hv : IntKind.u64.wrap ((rotl key (5 * n % 64) : Int) + (n : Int) * 2654435769) = ((turned key n : Nat) : Int) := by
    rw [turned_eq, IntKind.wrap_u64]
    omega
  have HV := Lib.hid hv
  clear hr hx hv
  go_enter Try.func89, Try.ntmps89
  go_wp2_with (go_at_call 109; refine (HR.out _).mono ?_; rintro e w' ⟨rfl, rfl⟩)
  go_ret
  exact ⟨by rw [← HV.out]; rfl, rfl⟩
def oIs (i : Int) : Bool := decide (0 ≤ i ∧ i < 16)
theorem oIs_yes {i : Int} (h : 0 ≤ i ∧ i < 16) : oIs i = true := decide_eq_true h
theorem oIs_no {i : Int} (h : ¬ (0 ≤ i ∧ i < 16)) : oIs i = false := decide_eq_false h
theorem object_spec (i : Int) (w : World) : Calls Try.prog 125 #[.int .i64 i] w fun e w' => e = .returned (.bool (oIs i)) ∧ w = w' := by
  by_cases h0 : 0 ≤ i
  · by_cases h1 : i < 16
    · rw [oIs_yes ⟨h0, h1⟩]
      go_enter Try.func125, Try.ntmps125
      go_wp2_with fail
      go_ret
      exact ⟨rfl, rfl⟩
    · rw [oIs_no (by omega)]
      go_enter Try.func125, Try.ntmps125
      go_wp2_with fail
      go_ret
      exact ⟨rfl, rfl⟩
  · rw [oIs_no (by omega)]
    go_enter Try.func125, Try.ntmps125
    go_wp2_with fail
    go_ret
    exact ⟨rfl, rfl⟩
/-- what Show answers -/
def showV (x key : Nat) (n : Nat) : Value := match showOf x key n with
  | some i => .tuple #[.int .i64 i, .bool true]
  | none => .tuple #[.int .i64 0, .bool false]
theorem showOf_ge {x key n : Nat} {i : Int} (h : showOf x key n = some i) : -1 ≤ i ∧ i < 16 := by
  unfold showOf at h
  split at h
  · simp at h; omega
  · cases h
set_option maxRecDepth 100000 in
theorem show_ok (x key n : Nat) (hx : x < 18446744073709551616) (hk : key < 18446744073709551616) (hn : n < 16) (w : World) : Calls Try.prog 114 #[.int .u64 x, .int .u64 key, .int .i64 n] w fun e w' => e = .returned (showV x key n) ∧ w = w' := by
  have ht := fun w => turned_spec key n hk hn w
  have hb := u64_xor_nat x (turned key n) hx (turned_lt key n)
  unfold showV showOf
  obtain ⟨T, hT⟩ : ∃ T, turned key n = T := ⟨_, rfl⟩
  obtain ⟨X, hX⟩ : ∃ X, x ^^^ T = X := ⟨_, rfl⟩
  rw [hT] at ht hb ⊢
  rw [hX] at hb ⊢
  have ho := fun w => object_spec (n : Int) w
  rw [oIs_yes (by omega)] at ho
  have HT := Lib.hid ht
  have HO := Lib.hid ho
  clear ht ho hT hX hx hk
  by_cases hc : X ≤ 16
  · have hci : decide ((16 : Int) < X) = false := decide_eq_false (by omega)
    rw [if_pos hc]
    go_enter Try.func114, Try.ntmps114
    go_wp2_with (first | (go_at_call 125; refine (HO.out _).mono ?_; rintro e w' ⟨rfl, rfl⟩) | (go_at_call 89; refine (HT.out _).mono ?_; rintro e w' ⟨rfl, rfl⟩))
    go_ret2
    exact ⟨rfl, rfl⟩
  · have hci : decide ((16 : Int) < X) = true := decide_eq_true (by omega)
    rw [if_neg hc]
    go_enter Try.func114, Try.ntmps114
    go_wp2_with (first | (go_at_call 125; refine (HO.out _).mono ?_; rintro e w' ⟨rfl, rfl⟩) | (go_at_call 89; refine (HT.out _).mono ?_; rintro e w' ⟨rfl, rfl⟩))
    go_ret2
    exact ⟨rfl, rfl⟩
theorem show_bad (x key : Int) (n : Int) (hn : ¬ (0 ≤ n ∧ n < 16)) (w : World) : Calls Try.prog 114 #[.int .u64 x, .int .u64 key, .int .i64 n] w fun e w' => e = .returned (.tuple #[.int .i64 0, .bool false]) ∧ w = w' := by
  have ho := fun w => object_spec n w
  rw [oIs_no hn] at ho
  have HO := Lib.hid ho
  clear ho hn
  go_enter Try.func114, Try.ntmps114
  go_wp2_with (go_at_call 125; refine (HO.out _).mono ?_; rintro e w' ⟨rfl, rfl⟩)
  go_ret2
  exact ⟨rfl, rfl⟩
/-- a link that is made -/
def hideW (i : Int) (key n : Nat) : Nat := (i + 1).toNat ^^^ turned key n
theorem hide_lt {i : Int} {key n : Nat} (hi : i < 16) : hideW i key n < 18446744073709551616 := by
  have h : hideW i key n < 2 ^ 64 := Nat.xor_lt_two_pow (by omega) (turned_lt key n)
  exact h
/-- .. shows what was hidden -/
theorem show_hide {i : Int} {key n : Nat} (h0 : -1 ≤ i) (hi : i < 16) : showOf (hideW i key n) key n = some i := by
  unfold showOf hideW
  rw [Nat.xor_assoc, Nat.xor_self, Nat.xor_zero, if_pos (by omega)]
  congr 1
  omega
end Go.Proofs.Ytigakendeghoaaa.See
