import Derived.Test.YtllbnoojkgbjiaaGreatFq8
/-
  Contracts: the document's links (wainscotref16): what one shows. No condition.
-/
namespace Go.Proofs.YtllbnoojkgbjiaaGreat.See
open Go.RowKit
attribute [local go_sem ↓] Go.wp_at_zero Go.wp_at_succ
theorem rotl_bit {x : Nat} (hx : x < 18446744073709551616) {s i : Nat} (hs : s < 64) (hi : i < 64) : (rotl x s).testBit i = x.testBit ((i + (64 - s)) % 64) := by
  have hx' : x < 2 ^ 64 := hx
  unfold rotl
  have e : (18446744073709551616 : Nat) = 2 ^ 64 := rfl
  rw [e, Nat.testBit_or, Nat.testBit_mod_two_pow, Nat.testBit_shiftLeft, Nat.testBit_shiftRight]
  by_cases h : s ≤ i
  · have h1 : x.testBit (64 - s + i) = false := Nat.testBit_lt_two_pow (Nat.lt_of_lt_of_le hx' (Nat.pow_le_pow_right (by omega) (by omega)))
    rw [h1, show (i + (64 - s)) % 64 = i - s by omega]
    simp [hi, h]
  · rw [show (i + (64 - s)) % 64 = 64 - s + i by omega]
    simp [h]
theorem rotl_step {x s : Nat} (hx : x < 18446744073709551616) (hs : s < 64) : rotl (rotl x s) 1 = rotl x ((s + 1) % 64) := by
  apply Nat.eq_of_testBit_eq
  intro i
  by_cases hi : i < 64
  · rw [rotl_bit (rotl_lt x s hx) (by omega) hi, rotl_bit hx hs (by omega), rotl_bit hx (by omega) hi]
    congr 1
    omega
  · have h1 : rotl (rotl x s) 1 < 2 ^ i := Nat.lt_of_lt_of_le (rotl_lt _ _ (rotl_lt x s hx)) (show 2 ^ 64 ≤ 2 ^ i from Nat.pow_le_pow_right (by omega) (by omega))
    have h2 : rotl x ((s + 1) % 64) < 2 ^ i := Nat.lt_of_lt_of_le (rotl_lt _ _ hx) (show 2 ^ 64 ≤ 2 ^ i from Nat.pow_le_pow_right (by omega) (by omega))
    rw [Nat.testBit_lt_two_pow h1, Nat.testBit_lt_two_pow h2]
theorem rotl_zero {x : Nat} (hx : x < 18446744073709551616) : rotl x 0 = x := by
  unfold rotl
  rw [Nat.shiftLeft_zero, Nat.mod_eq_of_lt hx, Nat.sub_zero, Nat.shiftRight_eq_div_pow, Nat.div_eq_of_lt (show x < 2 ^ 64 from hx), Nat.or_zero]
theorem mod64_step (i : Nat) : (i % 64 + 1) % 64 = (i + 1) % 64 := by omega
def addN (x i : Nat) : Nat := (x + i * 2654435769) % 18446744073709551616
theorem addN_step (x i : Nat) : (addN x i + 2654435769) % 18446744073709551616 = addN x (i + 1) := by
  unfold addN
  omega
set_option maxRecDepth 100000 in
theorem rturned_spec (key n : Nat) (hx : key < 18446744073709551616) (hn : n < 16) (w : World) : Calls Tryz.prog 76 #[.int .u64 key, .int .i64 n] w fun e w' => e = .returned (.int .u64 (turned key n : Nat)) ∧ w = w' := by
  have H0 := Lib.hid (rotl_zero hx)
  have HX := Lib.hid hx
  have h5 : 5 * n ≤ 75 := by omega
  clear hx
  go_enter Tryz.func76, Tryz.ntmps76
  go_wp2_with fail
  go_loopw [5, 6] (fun ov iv wr => ∃ i : Nat, iv = .int .i64 i ∧ i ≤ 5 * n ∧ ov = .int .u64 (rotl key (i % 64) : Nat) ∧ w = wr) (fun _ iv _ => 5 * n - (intOf iv).toNat)
  case atStart => exact ⟨0, rfl, by omega, by rw [Nat.zero_mod, H0.out], rfl⟩
  case round =>
    obtain ⟨i, rfl, hi, rfl, rfl⟩ := hrel
    by_cases hlt : i < 5 * n
    · have hlti : (i : Int) < 5 * (n : Int) := by omega
      have HB := Lib.hid (rot_bits (rotl key (i % 64)) 1 (rotl_lt _ _ HX.out))
      have HS := Lib.hid (rotl_step (s := i % 64) HX.out (Nat.mod_lt _ (by omega)))
      go_wp2_with fail
      refine ⟨⟨i + 1, by go_num, by omega, ?_, trivial⟩, by simp [intOf]; omega⟩
      have hb := HB.out
      rw [HS.out, mod64_step] at hb
      rw [← hb]
      rfl
    · obtain rfl : i = 5 * n := by omega
      have hlti : ¬ (5 * (n : Int)) < 5 * (n : Int) := by omega
      have hcast : ((5 * n : Nat) : Int) = 5 * (n : Int) := by omega
      obtain ⟨R, hR⟩ : ∃ R, rotl key (5 * n % 64) = R := ⟨_, rfl⟩
      have HR := Lib.hid hR
      have HRL := Lib.hid (hR ▸ rotl_lt key (5 * n % 64) HX.out)
      rw [hR, hcast]
      clear hR
      go_wp2_with fail
      go_loopw [5, 7] (fun ov iv wr => ∃ i : Nat, iv = .int .i64 i ∧ i ≤ n ∧ ov = .int .u64 (addN R i : Nat) ∧ w = wr) (fun _ iv _ => n - (intOf iv).toNat)
      case atStart => exact ⟨0, rfl, by omega, by unfold addN; rw [Nat.zero_mul, Nat.add_zero, Nat.mod_eq_of_lt HRL.out], rfl⟩
      case round =>
        obtain ⟨j, rfl, hj, rfl, rfl⟩ := hrel
        by_cases hjl : j < n
        · have hjli : (j : Int) < (n : Int) := by omega
          have HA := Lib.hid (addN_step R j)
          go_wp2_with fail
          refine ⟨⟨j + 1, by go_num, by omega, ?_, trivial⟩, by simp [intOf]; omega⟩
          rw [← HA.out]
          rw [IntKind.wrap_u64, Int.natCast_emod, Int.natCast_add]
          rfl
        · obtain rfl : j = n := by omega
          have hjli : ¬ (j : Int) < (j : Int) := by omega
          go_wp2_with fail
          go_ret
          exact ⟨by rw [turned_eq, HR.out]; rfl, rfl⟩
set_option maxRecDepth 100000 in
theorem rshow_ok (x key n : Nat) (hx : x < 18446744073709551616) (hk : key < 18446744073709551616) (hn : n < 16) (w : World) : Calls Tryz.prog 51 #[.int .u64 x, .int .u64 key, .int .i64 n] w fun e w' => e = .returned (showV x key n) ∧ w = w' := by
  have ht := fun w => rturned_spec key n hk hn w
  have hb := u64_xor_nat x (turned key n) hx (turned_lt key n)
  unfold showV showOf
  obtain ⟨T, hT⟩ : ∃ T, turned key n = T := ⟨_, rfl⟩
  obtain ⟨X, hX⟩ : ∃ X, x ^^^ T = X := ⟨_, rfl⟩
  rw [hT] at ht hb ⊢
  rw [hX] at hb ⊢
  have HT := Lib.hid ht
  have hn0 : (0 : Int) ≤ n := by omega
  have hn1 : (n : Int) < 16 := by omega
  clear ht hT hX hx hk
  by_cases hc : X ≤ 16
  · have hci : decide ((16 : Int) < X) = false := decide_eq_false (by omega)
    rw [if_pos hc]
    go_enter Tryz.func51, Tryz.ntmps51
    go_wp2_with (go_at_call 76; refine (HT.out _).mono ?_; rintro e w' ⟨rfl, rfl⟩)
    go_ret2
    exact ⟨rfl, rfl⟩
  · have hci : decide ((16 : Int) < X) = true := decide_eq_true (by omega)
    rw [if_neg hc]
    go_enter Tryz.func51, Tryz.ntmps51
    go_wp2_with (go_at_call 76; refine (HT.out _).mono ?_; rintro e w' ⟨rfl, rfl⟩)
    go_ret2
    exact ⟨rfl, rfl⟩
end Go.Proofs.YtllbnoojkgbjiaaGreat.See
