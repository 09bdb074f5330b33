import Derived.Test.YthjjpmoifgcepaaGreatJh1
/-
  Contracts: judge.within, the test of a snap's tags, whether a slice of tags has one that may not be: it has not, if all tags are at most the caches' number.
-/
namespace Go.Proofs.YthjjpmoifgcepaaGreat.Jt
open Go.RowKit
attribute [local go_sem ↓] Go.wp_at_zero Go.wp_at_succ
/-- all of a slice's numbers are at most K, and none is below 0 -/
def TagsAt (w : World) (g n K : Nat) : Prop := ∀ j, j < n → ∃ t : Nat, t ≤ K ∧ w.cell? ⟨g, j, none⟩ = some (.int .i64 t)
theorem TagsAt.own {W w : World} {g n K : Nat} (h : TagsAt W g n K) (hO : Own W [] w) (hg : g < W.heap.size) : TagsAt w g n K := fun j hj => by
  obtain ⟨t, h1, h2⟩ := h j hj
  exact ⟨t, h1, (hO.old (a := ⟨g, j, none⟩) hg).trans h2⟩
theorem within_spec {w : World} {n a b : Int} (h1 : a ≤ n) (h2 : n ≤ b) : Calls Tryz.prog 20 #[.int .i64 n, .int .i64 a, .int .i64 b] w fun e w' => e = .returned (.bool true) ∧ Own w [] w' := by
  have h0 := Own.self w
  have d1 : decide (a ≤ n) = true := decide_eq_true h1
  have d2 : decide (n ≤ b) = true := decide_eq_true h2
  go_enter Tryz.func20, Tryz.ntmps20
  go_wp2_with fail
  go_ret
  exact ⟨rfl, h0⟩
theorem test_spec {w : World} {t K B c : Nat} {A : Option Addr} (ht : t ≤ K) (hB : w.cell? ⟨B, 9, none⟩ = some (.slice A K c)) : Calls Tryz.prog 22 #[.int .i64 t, .pointer (some ⟨B, 0, none⟩)] w fun e w' => e = .returned (.bool false) ∧ Own w [] w' := by
  have h1 : (0 : Int) ≤ t := by omega
  have h2 : (t : Int) ≤ K := by omega
  go_enter Tryz.func22, Tryz.ntmps22
  go_wp2_with (go_at_call 20; refine (within_spec h1 h2).mono ?_; rintro e w' ⟨rfl, h3⟩)
  go_ret
  exact ⟨rfl, h3⟩
set_option maxHeartbeats 1000000 in
theorem indexFunc_spec {w : World} {g n K B c c' : Nat} {A : Option Addr} (hs : TagsAt w g n K) (hg : g < w.heap.size) (hb : B < w.heap.size) (hB : w.cell? ⟨B, 9, none⟩ = some (.slice A K c')) (hl : n ≤ 60000) :
    Calls Tryz.prog 40 #[.slice (some ⟨g, 0, none⟩) n c, .func (.func 22) #[] #[.pointer (some ⟨B, 0, none⟩)]] w fun e w' => e = .returned (.int .i64 (-1)) ∧ Own w [] w' := by
  go_enter Tryz.func40, Tryz.ntmps40
  go_wp2_with fail
  go_loopw [8] (fun k wr => ∃ i : Nat, i ≤ n ∧ k = .int .i64 i ∧ Own w [] wr) (fun k _ => n - (intOf k).toNat)
  case atStart => exact ⟨0, Nat.zero_le _, rfl, Own.self w⟩
  case round =>
    obtain ⟨i, hi, rfl, hr⟩ := hrel
    by_cases hlt : i < n
    · obtain ⟨t, h1, h2⟩ := (hs.own hr hg) i hlt
      have hB' := (hr.old (a := ⟨B, 9, none⟩) hb).trans hB
      go_wp2_with (go_at_call 22; refine (test_spec h1 hB').mono ?_; rintro e w' ⟨rfl, h3⟩)
      go_roundw
      case rel => exact ⟨i + 1, by omega, by go_num, hr.of_self h3⟩
      case measure => simp [intOf]; omega
    · obtain rfl : i = n := by omega
      go_wp2_with fail
      go_ret
      exact ⟨rfl, hr⟩
theorem containsFunc_spec {w : World} {g n K B c c' : Nat} {A : Option Addr} (hs : TagsAt w g n K) (hg : g < w.heap.size) (hb : B < w.heap.size) (hB : w.cell? ⟨B, 9, none⟩ = some (.slice A K c')) (hl : n ≤ 60000) :
    Calls Tryz.prog 21 #[.slice (some ⟨g, 0, none⟩) n c, .func (.func 22) #[] #[.pointer (some ⟨B, 0, none⟩)]] w fun e w' => e = .returned (.bool false) ∧ Own w [] w' := by
  go_enter Tryz.func21, Tryz.ntmps21
  go_wp2_with (go_at_call 40; refine (indexFunc_spec hs hg hb hB hl).mono ?_; rintro e w' ⟨rfl, h1⟩)
  go_ret
  exact ⟨rfl, h1⟩
end Go.Proofs.YthjjpmoifgcepaaGreat.Jt
