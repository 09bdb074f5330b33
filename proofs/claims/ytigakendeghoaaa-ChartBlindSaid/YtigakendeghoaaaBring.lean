/-
  wainscotref00.Bring brings a number to be from 0 to below another one, which is above 0 and at most 2^62.
-/
import Derived.Test.YtigakendeghoaaaSep
namespace Go.Proofs.Ytigakendeghoaaa
open Go.RowKit

theorem tmod_emod (i n : Int) (hn : 1 ≤ n) : -n < i.tmod n ∧ i.tmod n < n ∧ (i.tmod n < 0 → i.tmod n + n = i % n) ∧ (0 ≤ i.tmod n → i.tmod n = i % n) := by
  have h1 := Int.emod_nonneg i (show n ≠ 0 from by omega)
  have h2 := Int.emod_lt_of_pos i (show 0 < n from by omega)
  have h3 := Int.tmod_eq_emod (a := i) (b := n)
  have h4 : n ∣ i ↔ i % n = 0 := Int.dvd_iff_emod_eq_zero
  have h5 : (n.natAbs : Int) = n := by omega
  have h6 : 0 ≤ i → 0 ≤ i.tmod n := fun h => Int.tmod_nonneg n h
  by_cases h0 : 0 ≤ i ∨ n ∣ i
  · rw [if_pos h0] at h3
    omega
  · rw [if_neg h0, h5] at h3
    have : ¬ n ∣ i := fun h => h0 (.inr h)
    have h7 : i % n ≠ 0 := fun h => this (h4.2 h)
    omega
theorem i64_of_wf {n : Int} (h : (Lit.int .i64 n).wf = true) : -9223372036854775808 ≤ n ∧ n ≤ 9223372036854775807 := by
  simpa [Lit.wf, IntKind.min, IntKind.max, IntKind.signed, IntKind.bits] using h
theorem emod_bd (i n : Int) (hn : 1 ≤ n) : 0 ≤ i % n ∧ i % n < n := ⟨Int.emod_nonneg _ (by omega), Int.emod_lt_of_pos _ (by omega)⟩

set_option maxHeartbeats 400000 in
theorem bring_spec (i n : Int) (h1 : 1 ≤ n) (h2 : n ≤ 4611686018427387904) (hi : (Lit.int .i64 i).wf = true) (w : World) :
    Calls Try.prog 43 #[.int .i64 i, .int .i64 n] w fun e w' => e = .returned (.int .i64 (i % n)) ∧ w = w' := by
  obtain ⟨t1, t2, t3, t4⟩ := tmod_emod i n h1
  have hi := i64_of_wf hi
  have T3 := Lib.hid t3
  have T4 := Lib.hid t4
  clear t3 t4
  by_cases h0 : 0 ≤ i
  · have hp : i.tmod n = i % n := T4.out (Int.tmod_nonneg n h0)
    have hq := emod_bd i n h1
    have H := Lib.hid hp
    clear hp
    go_enter Try.func43, Try.ntmps43
    go_wp2
    all_goals first | (exfalso; omega) | skip
    all_goals go_ret
    all_goals exact ⟨rfl, rfl⟩
  · go_enter Try.func43, Try.ntmps43
    go_wp2
    all_goals go_ret
    · rename_i hlt
      exact ⟨by simpa using T3.out (by assumption), rfl⟩
    · exact ⟨by simpa using T4.out (by assumption), rfl⟩
theorem bring_id (i n : Int) (h0 : 0 ≤ i) (h1 : i < n) (h2 : n ≤ 4611686018427387904) (w : World) :
    Calls Try.prog 43 #[.int .i64 i, .int .i64 n] w fun e w' => e = .returned (.int .i64 i) ∧ w = w' := by
  have c := bring_spec i n (by omega) h2 (by simp [Lit.wf, IntKind.min, IntKind.max, IntKind.signed, IntKind.bits]; omega) w
  rwa [Int.emod_eq_of_lt h0 h1] at c
end Go.Proofs.Ytigakendeghoaaa
