/-
  wainscotlaw13.StockTakes answers true, whatever it is given.
-/
import Derived.Test.YtpmnababdjdniaaStockWorks
import Derived.Test.YtpmnababdjdniaaBring
import Derived.Test.YtpmnababdjdniaaLaw
namespace Go.Proofs.Ytpmnababdjdniaa.stockTakes
open Go.RowKit

theorem quiet_bring (i n : Int) (h1 : 1 ≤ n) (h2 : n ≤ 4611686018427387904) (hi : (Lit.int .i64 i).wf = true) (w : World) (k : Nat) :
    Calls Try.prog 19 #[.int .i64 i, .int .i64 n] (w.drewN k) fun e w' => e = .returned (.int .i64 (i % n)) ∧ ∃ m, w' = w.drewN m :=
  (bring_spec i n h1 h2 hi _).mono fun _ _ ⟨he, hw⟩ => ⟨he, k, hw.symm⟩

set_option maxHeartbeats 1000000 in
theorem walk (g0 g1 n take : Int) (x0 : (Lit.int .i64 g0).wf = true) (x1 : (Lit.int .i64 g1).wf = true) (xn : (Lit.int .i64 n).wf = true) (xt : (Lit.int .i64 take).wf = true) {W w : World} {m : List (Nat × Obj)} (h : Own W m w) :
    Calls Try.prog 5 #[.agg #[.int .i64 g0, .int .i64 g1], .int .i64 n, .int .i64 take] w fun e w' => e = .returned (.bool true) ∧ Own W m w' := by
  have b0 := emod_bd g0 16 (by omega)
  have b1 := emod_bd g1 16 (by omega)
  have bn := emod_bd n 1025 (by omega)
  have bt := emod_bd take 1200 (by omega)
  go_enter Try.func5, Try.ntmps5
  go_wp2_with fail
  refine (new_ok (h.new _) 1 (by omega) (by omega)).mono ?_
  rintro e w1 ⟨b, bl, rfl, h1⟩
  have q0 := h1.cell (List.mem_append_right _ List.mem_cons_self) 0
  have q1 := h1.cell (List.mem_append_right _ List.mem_cons_self) 1
  simp at q0 q1
  go_wp2_with fail
  go_quiet ((go_at_call 19; refine quiet_bring _ _ (by omega) (by omega) ?_ _ _; first | exact x0 | exact x1))
  go_wp2_with fail
  refine (bring_spec n 1025 (by omega) (by omega) xn _).mono ?_
  rintro e w2 ⟨rfl, rfl⟩
  go_wp2_with fail
  refine (bring_spec take 1200 (by omega) (by omega) xt _).mono ?_
  rintro e w3 ⟨rfl, rfl⟩
  go_wp2_with fail
  have a0 : 1 ≤ 1 + g0 % 16 ∧ 1 + g0 % 16 ≤ 16 := by omega
  have t0 : 1 ≤ 1 + take % 1200 := by omega
  generalize 1 + g0 % 16 = A at a0 ⊢
  generalize 1 + g1 % 16 = B
  generalize n % 1025 = N at bn ⊢
  generalize 1 + take % 1200 = T at t0 ⊢
  clear b0 b1 bt
  have e1 : stPut (List.replicate (Int.toNat 1) (0, 0)) 0 A N = ((0, 0, 0), [stWhole A N]) := by
    rw [show (List.replicate (Int.toNat 1) ((0 : Int), (0 : Int))) = [(0, 0)] from rfl]
    have a1 : ¬(A < 1 ∨ 16 < A) := by omega
    have a2 : ¬(N < 0 ∨ 9007199254740991 < N) := by omega
    simp [stPut, stAt, a1, a2]
    omega
  refine (put_at (h1.drewN nq) (StOk.one _ (by simp)) 0 A N e1).mono ?_
  clear e1
  rintro e w4 ⟨rfl, h4⟩
  have OK : Hid (∀ N', 0 ≤ N' → N' ≤ 1024 → StOk [stWhole A N']) := fun N' h1 h2 => StOk.one _ (by unfold stWhole; split <;> simp <;> omega)
  have T1 : Hid (∀ g, (A != g) = true → stTake [stWhole A N] 0 g T = (false, [stWhole A N])) := by
    intro g hg
    have hg' : A ≠ g := by simpa using hg
    unfold stWhole
    split <;> (simp [stTake, stAt]; omega)
  have T2 : Hid (∀ n, n < 1 → stTake [stWhole A N] 0 A n = (false, [stWhole A N])) := by
    intro n hn
    simp [stTake, stAt]; omega
  have T3 : Hid (T ≤ N → stTake [stWhole A N] 0 A T = (true, [stWhole A (N - T)])) := by
    intro hn
    have : stWhole A N = (A, N) := by unfold stWhole; rw [if_neg (by omega)]
    simp [stTake, stAt, this]; omega
  have T4 : Hid (N < T → stTake [stWhole A N] 0 A T = (false, [stWhole A N])) := by
    intro hn
    unfold stWhole
    split <;> (simp [stTake, stAt]; omega)
  have H1 : Hid (∀ n : Int, n = 0 → stHas [stWhole A n] 0 = (0, 0)) := by intro n hn; simp [stHas, stAt, stWhole, hn]
  have H2 : Hid (∀ n : Int, 1 ≤ n → stHas [stWhole A n] 0 = (A, n)) := by intro n hn; simp [stHas, stAt, stWhole, show n ≠ 0 from by omega]
  rcases hAB : (A != B) with _ | _
  case' true =>
    go_wp2_with fail
    refine (take_at h4 (OK.out _ bn.1 (by omega)) 0 B T (T1.out B hAB)).mono ?_
    rintro e w5 ⟨rfl, h4⟩
  all_goals
    go_wp2_with fail
    refine (take_at h4 (OK.out _ bn.1 (by omega)) 0 A 0 (T2.out 0 (by omega))).mono ?_
    rintro e w5 ⟨rfl, h5⟩
    go_wp2_with fail
    refine (take_at h5 (OK.out _ bn.1 (by omega)) 0 A (-1) (T2.out (-1) (by omega))).mono ?_
    rintro e w6 ⟨rfl, h6⟩
    go_wp2_with fail
    by_cases hTN : T ≤ N
    · refine (take_at h6 (OK.out _ bn.1 (by omega)) 0 A T (T3.out hTN)).mono ?_
      rintro e w7 ⟨rfl, h7⟩
      go_wp2_with fail
      by_cases hz : N - T = 0
      · refine (has_at h7 (OK.out _ (by omega) (by omega)) 0 (H1.out _ hz)).mono ?_
        rintro e w8 ⟨rfl, h8⟩
        go_wp2_with fail
        refine (works_spec h8).mono ?_
        rintro e w9 ⟨rfl, h9⟩
        go_wp2_with fail
        go_ret
        exact ⟨rfl, h9.dropL.skip⟩
      · refine (has_at h7 (OK.out _ (by omega) (by omega)) 0 (H2.out _ (by omega))).mono ?_
        rintro e w8 ⟨rfl, h8⟩
        have hp : 0 < N - T := by omega
        clear hz
        go_wp2_with fail
        refine (works_spec h8).mono ?_
        rintro e w9 ⟨rfl, h9⟩
        go_wp2_with fail
        go_ret
        exact ⟨rfl, h9.dropL.skip⟩
    · refine (take_at h6 (OK.out _ bn.1 (by omega)) 0 A T (T4.out (by omega))).mono ?_
      rintro e w7 ⟨rfl, h7⟩
      go_wp2_with fail
      by_cases hz : N = 0
      · refine (has_at h7 (OK.out _ (by omega) (by omega)) 0 (H1.out _ hz)).mono ?_
        rintro e w8 ⟨rfl, h8⟩
        subst hz
        go_wp2_with fail
        refine (works_spec h8).mono ?_
        rintro e w9 ⟨rfl, h9⟩
        go_wp2_with fail
        go_ret
        exact ⟨rfl, h9.dropL.skip⟩
      · refine (has_at h7 (OK.out _ (by omega) (by omega)) 0 (H2.out _ (by omega))).mono ?_
        rintro e w8 ⟨rfl, h8⟩
        have hp : 0 < N := by omega
        clear hz
        go_wp2_with fail
        refine (works_spec h8).mono ?_
        rintro e w9 ⟨rfl, h9⟩
        go_wp2_with fail
        go_ret
        exact ⟨rfl, h9.dropL.skip⟩
end Go.Proofs.Ytpmnababdjdniaa.stockTakes
