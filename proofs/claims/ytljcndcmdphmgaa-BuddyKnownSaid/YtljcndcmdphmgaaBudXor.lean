/-
  The place of a block's buddy by xor.
-/
import Derived.Test.YtljcndcmdphmgaaBudPlain2
import Derived.Test.YtljcndcmdphmgaaBits
namespace Go.Proofs.Ytljcndcmdphmgaa
open Go.RowKit
theorem xor_one_nat (q : Nat) : q ^^^ 1 = if q % 2 = 0 then q + 1 else q - 1 := by
  have h1 : (q ^^^ 1) / 2 = q / 2 := by
    have := Nat.xor_div_two (a := q) (b := 1)
    simpa using this
  have h2 : (q ^^^ 1) % 2 = 1 ↔ ¬ (q % 2 = 1 ↔ 1 % 2 = 1) := Nat.xor_mod_two_eq_one
  have h3 : (1 : Nat) % 2 = 1 := rfl
  rw [h3] at h2
  split
  · have : (q ^^^ 1) % 2 = 1 := h2.2 (by omega)
    omega
  · have : ¬ (q ^^^ 1) % 2 = 1 := fun h => (h2.1 h) (by omega)
    omega
theorem xor_other {a o : Nat} (h : a % 2 ^ o = 0) : a ^^^ 2 ^ o = other a o := by
  obtain ⟨q, rfl⟩ := Nat.dvd_of_mod_eq_zero h
  have hp := Nat.two_pow_pos o
  have e1 : 2 ^ o * q = q <<< o := by rw [Nat.shiftLeft_eq, Nat.mul_comm]
  have e2 : 2 ^ o = 1 <<< o := by rw [Nat.shiftLeft_eq, Nat.one_mul]
  have e3 : (2 ^ o * q) ^^^ 2 ^ o = 2 ^ o * (q ^^^ 1) := by
    rw [e1]
    conv => lhs; rw [e2]
    rw [← Nat.shiftLeft_xor_distrib, Nat.shiftLeft_eq, Nat.mul_comm]
  rw [e3, xor_one_nat]
  unfold other
  have e4 : (2 ^ o * q) % (2 * 2 ^ o) = 0 ↔ q % 2 = 0 := by
    rw [Nat.mul_comm 2 (2 ^ o), Nat.mul_mod_mul_left]
    constructor
    · intro h
      rcases Nat.mul_eq_zero.1 h with h | h
      · omega
      · exact h
    · intro h
      rw [h]
      rfl
  by_cases hq : q % 2 = 0
  · rw [if_pos hq, if_pos (e4.2 hq), Nat.mul_add, Nat.mul_one]
  · rw [if_neg hq, if_neg (fun h => hq (e4.1 h)), Nat.mul_sub, Nat.mul_one]
theorem xor_i64 (a b : Nat) (ha : a < 2 ^ 40) (hb : b < 2 ^ 40) : bits .xor .i64 (a : Int) (b : Int) = ((a ^^^ b : Nat) : Int) := by
  have h1 : (BitVec.ofInt 64 ((a : Nat) : Int)).toNat = a := by
    rw [BitVec.ofInt_natCast, BitVec.toNat_ofNat]; exact Nat.mod_eq_of_lt (by omega)
  have h2 : (BitVec.ofInt 64 ((b : Nat) : Int)).toNat = b := by
    rw [BitVec.ofInt_natCast, BitVec.toNat_ofNat]; exact Nat.mod_eq_of_lt (by omega)
  show IntKind.i64.wrap ((BitVec.ofInt 64 (a : Int) ^^^ BitVec.ofInt 64 (b : Int)).toNat : Int) = _
  rw [BitVec.toNat_xor, h1, h2]
  have := Nat.xor_lt_two_pow ha hb
  rw [IntWalk.i64_in] <;> omega
end Go.Proofs.Ytljcndcmdphmgaa
