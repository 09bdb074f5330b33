import Derived.Test.YtllbnoojkgbjiaaGreatFq8
import Derived.Test.YtllbnoojkgbjiaaGreatFqSrA
/-
  Contracts: the document's memory (wainscotref03: New, Words), and its links (wainscotref16: Hide, Show of what is no object). No condition.
-/
namespace Go.Proofs.YtllbnoojkgbjiaaGreat.Fss
open Go.RowKit Mem See
attribute [local go_sem ↓] Go.wp_at_zero Go.wp_at_succ
/-- the document's memory's own block -/
def rB (b0 b1 N k : Nat) : Nat × Obj := (b0, .cells #[.slice (some ⟨b1, 0, none⟩) N N, .int .i64 (k : Int)] 66)
section
variable {W w : World} {m : List (Nat × Obj)} {b0 b1 N k b : Nat} {g : List Nat}
theorem box_r (h : Own W (rB b0 b1 N k :: m) w) : w.cell? ⟨b0, 0, none⟩ = some (.slice (some ⟨b1, 0, none⟩) N N) ∧ w.cell? ⟨b0, 1, none⟩ = some (.int .i64 (k : Int)) ∧ w.frozen? ⟨b0, 1, none⟩ = false :=
  ⟨h.cell List.mem_cons_self 0, h.cell List.mem_cons_self 1, h.frozen List.mem_cons_self 1⟩
theorem rwords_spec {z : Nat} (h : Own W m w) (y0 : w.cell? ⟨b0, 0, none⟩ = some (.slice (some ⟨b1, 0, none⟩) g.length z)) (hs : WordsSrc w (.slice (some ⟨b1, 0, none⟩) g.length z) g) (hN2 : g.length ≤ 4096) :
    Calls Tryz.prog 10 #[.pointer (some ⟨b0, 0, none⟩)] w fun e w' => ∃ v' bs', e = .returned v' ∧ WordsOwn true v' g bs' ∧ Own W (bs' ++ m) w' := by
  have hs0 : WordsOwn true (.slice none 0 0) [] [] := SlO.nil _ _ _
  have HS := Lib.hid hs
  have H := Lib.hid h
  clear hs h
  go_enter Tryz.func10, Tryz.ntmps10
  go_wp2_with (at_builtin; refine wpList_app_words rfl _ _ rfl rfl rfl hs0 H.out HS.out (by simp; omega) ?_; intro v' w' bs' h1 h2 h3; have H1 := Lib.hid h1; clear h1 h3)
  go_ret
  exact ⟨_, bs', rfl, H1.out, h2⟩
set_option maxRecDepth 100000 in
theorem rnew_spec (h : Own W m w) (h1 : 1 ≤ N) (h2 : N ≤ 4096) :
    Calls Tryz.prog 14 #[.int .i64 (N : Int)] w fun e w' => ∃ b0 b1, e = .returned (.tuple #[.pointer (some ⟨b0, 0, none⟩), .int .i64 0]) ∧ Own W (rB b0 b1 N 0 :: wB b1 (List.replicate N 0) :: m) w' := by
  obtain ⟨i, hi, hzz, hs, hby⟩ := info_get word_info
  have hmk := fun W => run_make_rowN (P := Tryz.prog) 22 23 i _ Tryz.underlying22 hi hzz .i64 .i64 N N (Nat.le_refl _) (by rw [hby]; omega) (by omega) W
  rw [hs, Nat.mul_one, madeCells_const _ (.int .u64 0) _ (by simp [Value.cells]) (by intro j hj; obtain rfl : j = 0 := (by simp [Value.cells] at hj; omega); rfl), row_zero] at hmk
  clear hi hzz hs hby
  have h3 : Own W (wB w.heap.size (List.replicate N 0) :: m) _ := h.new (.cells (wRow (List.replicate N 0)) 23)
  have h4 := h3.new (.cells #[.slice (some ⟨w.heap.size, 0, none⟩) N N, .int .i64 0] 66)
  rw [World.size_alloc] at h4
  have hi1 : (1 : Int) ≤ N := by omega
  have hi2 : (N : Int) ≤ 4096 := by omega
  clear h h3
  go_enter Tryz.func14, Tryz.ntmps14
  go_wp2_with fail
  go_ret2
  exact ⟨_, _, rfl, h4⟩
end
set_option maxRecDepth 100000 in
theorem rshow_bad (x key : Nat) (n : Int) (h : ¬ (0 ≤ n ∧ n < 16)) (w : World) : Calls Tryz.prog 51 #[.int .u64 x, .int .u64 key, .int .i64 n] w fun e w' => e = .returned (.tuple #[.int .i64 0, .bool false]) ∧ w = w' := by
  by_cases h0 : n < 0
  · go_enter Tryz.func51, Tryz.ntmps51
    go_wp2_with fail
    go_ret2
    exact ⟨rfl, rfl⟩
  · have h1 : 16 ≤ n := by omega
    go_enter Tryz.func51, Tryz.ntmps51
    go_wp2_with fail
    go_ret2
    exact ⟨rfl, rfl⟩
set_option maxRecDepth 100000 in
theorem rhide_spec (i : Int) (key : Nat) (n : Int) (hk : key < 18446744073709551616) (w : World) : Calls Tryz.prog 53 #[.int .i64 i, .int .u64 key, .int .i64 n] w fun e w' => e = .returned (hideV i key n) ∧ w = w' := by
  unfold hideV
  by_cases hi : -1 ≤ i ∧ i < 16
  · by_cases hnn : 0 ≤ n ∧ n < 16
    · rw [if_pos ⟨hi, hnn⟩]
      obtain ⟨n, rfl⟩ : ∃ k : Nat, n = k := ⟨n.toNat, by omega⟩
      have ht := fun w => rturned_spec key n hk (by omega) w
      have hb := u64_xor_nat (i + 1).toNat (turned key n) (by omega) (turned_lt key n)
      rw [show (((i + 1).toNat : Nat) : Int) = i + 1 from by omega] at hb
      have hw : IntKind.u64.wrap (i + 1) = i + 1 := by rw [IntKind.wrap_u64]; omega
      rw [Int.toNat_natCast]
      unfold hideW
      obtain ⟨T, hT⟩ : ∃ T, turned key n = T := ⟨_, rfl⟩
      obtain ⟨X, hX⟩ : ∃ X, (i + 1).toNat ^^^ T = X := ⟨_, rfl⟩
      rw [hT] at ht hb ⊢
      rw [hX] at hb ⊢
      have HT := Lib.hid ht
      obtain ⟨h1, h2⟩ := hi
      obtain ⟨h3, h4⟩ := hnn
      have h1' : ¬ i < -1 := by omega
      have h3' : ¬ (n : Int) < 0 := by omega
      clear ht hT hX hk
      go_enter Tryz.func53, Tryz.ntmps53
      go_wp2_with (go_at_call 76; refine (HT.out _).mono ?_; rintro e w' ⟨rfl, rfl⟩)
      go_ret2
      exact ⟨rfl, rfl⟩
    · rw [if_neg (fun h => hnn h.2)]
      obtain ⟨h1, h2⟩ := hi
      have h1' : ¬ i < -1 := by omega
      clear hk
      by_cases h0 : n < 0
      · go_enter Tryz.func53, Tryz.ntmps53
        go_wp2_with fail
        go_ret2
        exact ⟨rfl, rfl⟩
      · have h3 : 16 ≤ n := by omega
        go_enter Tryz.func53, Tryz.ntmps53
        go_wp2_with fail
        go_ret2
        exact ⟨rfl, rfl⟩
  · rw [if_neg (fun h => hi h.1)]
    clear hk
    by_cases h0 : i < -1
    · go_enter Tryz.func53, Tryz.ntmps53
      go_wp2_with fail
      go_ret2
      exact ⟨rfl, rfl⟩
    · have h3 : 16 ≤ i := by omega
      go_enter Tryz.func53, Tryz.ntmps53
      go_wp2_with fail
      go_ret2
      exact ⟨rfl, rfl⟩
end Go.Proofs.YtllbnoojkgbjiaaGreat.Fss
