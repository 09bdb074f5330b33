/-
  The reference's buddies: fresh, New. No condition.
-/
import Derived.Test.YtljcndcmdphmgaaBrfA
namespace Go.Proofs.Ytljcndcmdphmgaa
open Go.RowKit
theorem gBlocks_step {n i : Nat} (h : i < n) : gBlocks n n i = fb (gOrd i n 10) :: gBlocks n n (i + 2 ^ gOrd i n 10) := by
  obtain ⟨f, hf⟩ : ∃ f, n = f + 1 := ⟨n - 1, by omega⟩
  have hp := Nat.two_pow_pos (gOrd i n 10)
  have e : gBlocks n (f + 1) i = fb (gOrd i n 10) :: gBlocks n f (i + 2 ^ gOrd i n 10) := by
    conv => lhs; unfold gBlocks
    rw [if_pos h]
  have e2 : gBlocks n n i = gBlocks n (f + 1) i := by rw [← hf]
  rw [e2, e, gBlocks_fuel n f n _ (by omega) (by omega)]
theorem gBlocks_end (n f : Nat) : gBlocks n f n = [] := by
  cases f with
  | zero => rfl
  | succ f => unfold gBlocks; rw [if_neg (by omega)]
theorem gOrd_is {i n o : Nat} (hi : i < n) (ho : o ≤ gOrd i n 10) (hn : o = 10 ∨ ¬ fits i n (o + 1)) : o = gOrd i n 10 := by
  have hle := gOrd_le i n 10
  rcases hn with rfl | hn
  · omega
  · by_cases h : o < gOrd i n 10
    · exact absurd (fits_down (gOrd_fits hi 10) (show o + 1 ≤ gOrd i n 10 by omega)) hn
    · omega
/-- what the reference has laid, when n pages are asked -/
def FrAt (n : Nat) (X : List Pg) : Prop := X.length ≤ n ∧ X ++ lay (gBlocks n n X.length) = freshL n
theorem frAt_nil (n : Nat) : FrAt n [] := ⟨Nat.zero_le _, by simp [freshL, freshB]⟩
theorem frAt_step {n : Nat} {X : List Pg} (h : FrAt n X) (hi : X.length < n) : FrAt n (X ++ fb (gOrd X.length n 10) :: List.replicate (2 ^ gOrd X.length n 10 - 1) pgIn) := by
  have hf := (gOrd_fits hi 10).2
  have hp := Nat.two_pow_pos (gOrd X.length n 10)
  obtain ⟨h1, h2⟩ := h
  rw [gBlocks_step hi] at h2
  have hl : (X ++ fb (gOrd X.length n 10) :: List.replicate (2 ^ gOrd X.length n 10 - 1) pgIn).length = X.length + 2 ^ gOrd X.length n 10 := by simp; omega
  refine ⟨by omega, ?_⟩
  rw [hl, ← h2]
  simp [lay, fb_size]
theorem frAt_end {n : Nat} {X : List Pg} (h : FrAt n X) (hi : ¬ X.length < n) : X = freshL n := by
  obtain ⟨h1, h2⟩ := h
  rw [show X.length = n from by omega, gBlocks_end] at h2
  simpa [lay] using h2
def rLen : Value → Nat
  | .slice _ n _ => n
  | _ => 0
theorem flat3_one (p : Pg) : flat3 [p] = [p.1, p.2.1, p.2.2] := rfl
section
variable {W w : World} {m : List (Nat × Obj)}
theorem pg_app {ops : Array Oper} {rest : List Oper} {o : Oper} {a : Act} {Q : Exit → Act → World → Prop} {bs : List (Nat × Obj)} {X : List Pg} (hgd : o.guard = none) (s x : Operand)
    (ho : o.op = .call { callee := .builtin .append, args := #[s, x], argTypes := #[22, 22] }) {v xv : Value} (hes : a.eval s = v) (hex : a.eval x = xv)
    (hs : PgO true v X bs) (hO : Own W (bs ++ m) w) (p : Pg) (hx : Src w 3 xv 1 (ints [p.1, p.2.1, p.2.2])) (hlen : X.length ≤ 50000)
    (h : ∀ v' w' bs', PgO true v' (X ++ [p]) bs' → Own W (bs' ++ m) w' → wpList Try.prog ops Q rest (a.put o.dst v') w') :
    wpList Try.prog ops Q (o :: rest) a w := by
  refine wpList_app_dos hgd s x 22 ho hes hex _ page_info Try.underlying22 rfl (by omega) (by omega) hs hO hx (by omega) fun v' w' bs' h1 h2 => h v' w' bs' ?_ h2
  unfold PgO
  rw [List.length_append, flat3_append]
  exact h1
theorem pg_src (w : World) (p : Pg) : Src (w.alloc (.cells #[.int .i64 p.1, .int .i64 p.2.1, .int .i64 p.2.2] 24)) 3 (.slice (some ⟨w.heap.size, 0, none⟩) 1 1) 1 (ints [p.1, p.2.1, p.2.2]) := src_lit w 24 3 1 [p.1, p.2.1, p.2.2] rfl
set_option maxRecDepth 100000 in
set_option maxHeartbeats 4000000 in
theorem rfresh_spec (h : Own W m w) (n : Nat) (hn : n ≤ 1024) :
    Calls Try.prog 60 #[.int .i64 n] w fun e w' => ∃ v bs, e = .returned v ∧ PgO true v (freshL n) bs ∧ Own W (bs ++ m) w' := by
  go_enter Try.func60, Try.ntmps60
  go_wp2_with fail
  go_loopw [3] (fun out wr => ∃ (X : List Pg) (bs : List (Nat × Obj)), Hid (FrAt n X) ∧ Hid (PgO true out X bs) ∧ Own W (bs ++ m) wr) (fun out _ => n - rLen out)
  case atStart => exact ⟨[], [], frAt_nil n, SlO.nil _ _ _, h⟩
  case round =>
    obtain ⟨X, bs, HF, HO, hr⟩ := hrel
    obtain ⟨A, c, hout, hc, hcm⟩ := HO.out.slice
    subst hout
    obtain ⟨i, hi⟩ : ∃ i, X.length = i := ⟨_, rfl⟩
    have HI := Lib.hid hi
    have o9 : PgO true (.slice A i c) X bs := by have := HO.out; rwa [hi] at this
    have HO9 := Lib.hid o9
    rw [hi] at hc ⊢
    clear hi HO o9
    by_cases hlt : i < n
    · have hlti : (i : Int) < n := by omega
      go_wp2_with fail
      go_loopw [5] (fun o wr' => ∃ k : Nat, o = .int .i64 k ∧ k ≤ 10 ∧ Hid (k ≤ gOrd i n 10) ∧ wr' = wr) (fun o _ => 10 - (intOf o).toNat)
      case atStart => exact ⟨0, rfl, by omega, Nat.zero_le _, rfl⟩
      case round =>
        obtain ⟨k, rfl, hk, HK, rfl⟩ := hrel
        obtain ⟨M, hM, hMi, hM1, hM2⟩ := pow_nat hk
        have HM := Lib.hid hM
        have hmin : min k 64 = k := by omega
        have hw : IntKind.i64.wrap (2 * (M : Int)) = 2 * (M : Int) := by rw [IntWalk.i64_in] <;> omega
        have hk0 : (0 : Int) ≤ k := by omega
        have hfit : fits i n (k + 1) ↔ i % (2 * M) = 0 ∧ i + 2 * M ≤ n := by
          unfold fits
          rw [Nat.pow_succ, hM, Nat.mul_comm]
        have FIN : Hid ((k = 10 ∨ ¬ fits i n (k + 1)) → k = gOrd i n 10) := fun hx => gOrd_is hlt HK.out hx
        have rest : k = gOrd i n 10 → Hid (k = gOrd i n 10) := id
        have hmodi : (i : Int) % (2 * (M : Int)) = ((i % (2 * M) : Nat) : Int) := by push_cast; rfl
        have hi0 : (0 : Int) ≤ i := by omega
        by_cases hgo : k < 10 ∧ fits i n (k + 1)
        · obtain ⟨h10, hf⟩ := hgo
          have hf' := hfit.1 hf
          have hk1 : Hid (k + 1 ≤ gOrd i n 10) := gOrd_max i n 10 (k + 1) (by omega) hf
          have b1 : ((i : Int) % (2 * (M : Int)) == 0) = true := by rw [hmodi, hf'.1]; rfl
          have b2 : (i : Int) + 2 * (M : Int) ≤ n := by omega
          have b3 : (k : Int) < 10 := by omega
          clear hM hfit FIN rest hmodi hf hf'
          go_wp2_with fail
          exact ⟨⟨k + 1, by go_num, by omega, hk1, trivial⟩, by simp [intOf]; omega⟩
        · have hcase : (10 ≤ k) ∨ (k < 10 ∧ i % (2 * M) ≠ 0) ∨ (k < 10 ∧ i % (2 * M) = 0 ∧ n < i + 2 * M) := by
            rw [hfit] at hgo
            omega
          have HG : Hid (k = gOrd i n 10) := FIN.out (by
            by_cases h10 : k < 10
            · exact .inr fun hf => hgo ⟨h10, hf⟩
            · exact .inl (by omega))
          have hw1 : IntKind.i64.wrap (M : Int) = (M : Int) := by rw [IntWalk.i64_in] <;> omega
          have hstep := frAt_step HF.out (by rw [HI.out]; exact hlt)
          rw [HI.out, ← HG.out, hM] at hstep
          have HST := Lib.hid hstep
          have hsrc1 := fun wr : World => pg_src wr (fb k)
          have hsrc2 := fun wr : World => pg_src wr pgIn
          have HS1 := Lib.hid hsrc1
          have HS2 := Lib.hid hsrc2
          have HMOD := Lib.hid hmodi
          clear hM hfit FIN rest hgo hstep hsrc1 hsrc2 hmodi
          have hb : ((10 : Int) ≤ k) ∨ ((k : Int) < 10 ∧ ((i : Int) % (2 * (M : Int)) == 0) = false) ∨ ((k : Int) < 10 ∧ ((i : Int) % (2 * (M : Int)) == 0) = true ∧ (n : Int) < (i : Int) + 2 * (M : Int)) := by
            rw [HMOD.out]
            rcases hcase with h10 | ⟨h10, hz⟩ | ⟨h10, hz, hz2⟩
            · exact .inl (by omega)
            · exact .inr (.inl ⟨by omega, beq_eq_false_iff_ne.2 (by omega)⟩)
            · exact .inr (.inr ⟨by omega, beq_iff_eq.2 (by omega), by omega⟩)
          clear hcase
          rcases hb with b3 | ⟨b3, b1⟩ | ⟨b3, b1, b2⟩
          all_goals
            go_wp2_with (at_builtin; refine pg_app rfl _ _ rfl rfl rfl HO9.out (hr.alloc _) (fb k) (HS1.out _) (by rw [HI.out]; omega) ?_; intro v' w' bs' k1 k2; have K1 := Lib.hid k1; clear k1)
            go_loopw [3, 6] (fun out z wr => ∃ (j : Nat) (bs : List (Nat × Obj)), 1 ≤ j ∧ j ≤ M ∧ z = .int .i64 j ∧ Hid (PgO true out (X ++ fb k :: List.replicate (j - 1) pgIn) bs) ∧ Own W (bs ++ m) wr) (fun _ z _ => M - (intOf z).toNat)
            case atStart => exact ⟨1, bs', by omega, by omega, rfl, K1, k2⟩
            case round =>
              clear K1 k2 hr b3
              obtain ⟨j, bs2, hj1, hj2, rfl, HO2, hr2⟩ := hrel
              obtain ⟨A2, c2, hv, -, -⟩ := HO2.out.slice
              subst hv
              have hlen : (X ++ fb k :: List.replicate (j - 1) pgIn).length = i + j := by
                have := HI.out
                simp
                omega
              have HL := Lib.hid hlen
              by_cases hlj : j < M
              · have hlji : (j : Int) < M := by omega
                clear hlen
                go_wp2_with (at_builtin; refine pg_app rfl _ _ rfl rfl rfl HO2.out (hr2.alloc _) pgIn (HS2.out _) (by rw [HL.out]; omega) ?_; intro v' w' bs' k1 k2; have K1 := Lib.hid k1; clear k1)
                refine ⟨⟨j + 1, bs', by omega, by omega, by go_num, ?_, k2⟩, by simp [intOf]; omega⟩
                show PgO true v' (X ++ fb k :: List.replicate (j + 1 - 1) pgIn) bs'
                have e : X ++ fb k :: List.replicate (j + 1 - 1) pgIn = X ++ fb k :: List.replicate (j - 1) pgIn ++ [pgIn] := by
                  rw [show j + 1 - 1 = (j - 1) + 1 from by omega, List.replicate_succ']
                  simp
                rw [e]
                exact K1.out
              · have hjM : j = M := by omega
                subst hjM
                have hlji : ¬ (j : Int) < j := by omega
                clear hlen
                go_wp2_with fail
                refine ⟨⟨X ++ fb k :: List.replicate (j - 1) pgIn, bs2, HST.out, HO2, hr2⟩, ?_⟩
                simp only [rLen]
                rw [HL.out]
                omega
    · have hlti : ¬ (i : Int) < n := by omega
      go_wp2_with fail
      go_ret
      have e := frAt_end HF.out (by rw [HI.out]; exact hlt)
      have o9 := HO9.out
      rw [e] at o9
      exact ⟨_, rfl, bs, o9, hr⟩
set_option maxHeartbeats 400000 in
theorem rnew_ok (h : Own W m w) (n : Nat) (h1 : 1 ≤ n) (h2 : n ≤ 1024) :
    Calls Try.prog 30 #[.int .i64 n] w fun e w' => ∃ rb bl, e = .returned (.tuple #[.pointer (some ⟨rb, 0, none⟩), .int .i64 0]) ∧ RdO rb (freshL n) bl ∧ Own W (bl ++ m) w' := by
  go_enter Try.func30, Try.ntmps30
  go_wp2_with fail
  refine (rfresh_spec h n h2).mono ?_
  rintro e w1 ⟨v, bs, rfl, o1, h1⟩
  obtain ⟨A, c, rfl, -, -⟩ := o1.slice
  have h3 := h1.new (.cells #[.slice A (freshL n).length c] 57)
  go_wp2_with fail
  go_ret2
  exact ⟨_, _, rfl, ⟨_, bs, o1.weak, rfl⟩, h3⟩
set_option maxHeartbeats 400000 in
theorem rnew_bad (n : Int) (hn : n < 1 ∨ 1024 < n) (w : World) :
    Calls Try.prog 30 #[.int .i64 n] w fun e w' => e = .returned (.tuple #[.pointer none, .int .i64 2]) ∧ w = w' := by
  go_enter Try.func30, Try.ntmps30
  go_wp2_with fail
  all_goals (try omega)
  all_goals go_ret2
  all_goals exact ⟨rfl, rfl⟩
end
end Go.Proofs.Ytljcndcmdphmgaa
