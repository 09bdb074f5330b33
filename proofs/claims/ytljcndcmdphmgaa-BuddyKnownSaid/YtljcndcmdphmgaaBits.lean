/-
  x & (2^s - 1) is x mod 2^s; a shift of one.
-/
import Derived.Test.YtljcndcmdphmgaaSep
namespace Go.Proofs.Ytljcndcmdphmgaa
open Go.RowKit
theorem and_mask_i64 (x : Int) (s : Nat) (hs : s ≤ 40) : bits .and .i64 x ((2 : Int) ^ s - 1) = x % 2 ^ s := by
  have hp : (2 : Nat) ^ s ≤ 2 ^ 40 := Nat.pow_le_pow_right (by omega) hs
  have hp1 : 1 ≤ (2 : Nat) ^ s := Nat.one_le_two_pow
  have e1 : ((2 : Int) ^ s - 1) = ((2 ^ s - 1 : Nat) : Int) := by
    rw [Int.natCast_sub hp1]; simp
  have h2 : (BitVec.ofInt 64 ((2 ^ s - 1 : Nat) : Int)).toNat = 2 ^ s - 1 := by
    rw [BitVec.ofInt_natCast, BitVec.toNat_ofNat]; exact Nat.mod_eq_of_lt (by omega)
  have h1 : (BitVec.ofInt 64 x).toNat = (x % 18446744073709551616).toNat := by
    rw [BitVec.toNat_ofInt]; rfl
  rw [e1]
  show IntKind.i64.wrap ((BitVec.ofInt 64 x &&& BitVec.ofInt 64 ((2 ^ s - 1 : Nat) : Int)).toNat : Int) = _
  rw [BitVec.toNat_and, h2, h1, Nat.and_two_pow_sub_one_eq_mod]
  have hlt : (x % 18446744073709551616).toNat % 2 ^ s < 2 ^ s := Nat.mod_lt _ (by omega)
  have hw : IntKind.i64.wrap (((x % 18446744073709551616).toNat % 2 ^ s : Nat) : Int) = (((x % 18446744073709551616).toNat % 2 ^ s : Nat) : Int) := by rw [IntWalk.i64_in] <;> omega
  rw [hw]
  have hpos : 0 ≤ x % 18446744073709551616 := by omega
  rw [Int.natCast_emod, Int.toNat_of_nonneg hpos]
  have hd : ((2 ^ s : Nat) : Int) ∣ 18446744073709551616 := by
    have : (2 : Nat) ^ s ∣ 2 ^ 64 := Nat.pow_dvd_pow 2 (by omega)
    have h := Int.natCast_dvd_natCast.2 this
    exact h
  rw [Int.emod_emod_of_dvd _ hd]
  simp
theorem and_15_i64 (x : Int) : bits .and .i64 x 15 = x % 16 := and_mask_i64 x 4 (by omega)
end Go.Proofs.Ytljcndcmdphmgaa
