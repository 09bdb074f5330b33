/-
  Contracts: a slab's numbers in a word (package count). No condition.
-/
import Derived.Test.YtigakendeghoaaaSeeA
namespace Go.Proofs.Ytigakendeghoaaa.See
open Go.RowKit
attribute [local go_sem ↓] Go.wp_at_zero Go.wp_at_succ
def mayB (a b : Int) (f l : Bool) : Bool := decide ((l = true ∧ 1 ≤ b ∧ b ≤ 16 ∧ 0 ≤ a ∧ a ≤ b) ∨ (a = 0 ∧ b = 0 ∧ f = false ∧ l = false))
section
variable {W w : World} {m : List (Nat × Obj)}
set_option maxHeartbeats 1000000 in
theorem may_spec (h : Own W m w) (a b : Int) (f l : Bool) : Calls Try.prog 91 #[.agg #[.int .i64 a, .int .i64 b, .bool f, .bool l]] w fun e w' => e = .returned (.bool (mayB a b f l)) ∧ Own W m w' := by
  have h0 := h.alloc (.cells #[.int .i64 a, .int .i64 b, .bool f, .bool l] 80)
  cases hm : mayB a b f l with
  | true =>
    rcases of_decide_eq_true hm with ⟨rfl, h1, h2, h3, h4⟩ | ⟨rfl, rfl, rfl, rfl⟩
    · clear hm
      go_enter Try.func91, Try.ntmps91
      go_wp2_with fail
      go_ret
      exact ⟨rfl, h0⟩
    · clear hm
      go_enter Try.func91, Try.ntmps91
      go_wp2_with fail
      go_ret
      exact ⟨rfl, h0⟩
  | false =>
    have hm := of_decide_eq_false hm
    cases l with
    | false =>
      have hn : ¬ (a = 0 ∧ b = 0 ∧ f = false) := fun hh => hm (.inr ⟨hh.1, hh.2.1, hh.2.2, rfl⟩)
      by_cases ha : a = 0
      · by_cases hb : b = 0
        · have hf : f = true := by
            cases f
            · exact absurd ⟨ha, hb, rfl⟩ hn
            · rfl
          subst ha hb hf
          clear hm hn
          go_enter Try.func91, Try.ntmps91
          go_wp2_with fail
          go_ret
          exact ⟨rfl, h0⟩
        · have hbb : (b == 0) = false := beq_eq_false_iff_ne.2 hb
          subst ha
          clear hm hn
          go_enter Try.func91, Try.ntmps91
          go_wp2_with fail
          go_ret
          exact ⟨rfl, h0⟩
      · have hab : (a == 0) = false := beq_eq_false_iff_ne.2 ha
        clear hm hn
        go_enter Try.func91, Try.ntmps91
        go_wp2_with fail
        go_ret
        exact ⟨rfl, h0⟩
    | true =>
      have hn : ¬ (1 ≤ b ∧ b ≤ 16 ∧ 0 ≤ a ∧ a ≤ b) := fun hh => hm (.inl ⟨rfl, hh⟩)
      clear hm
      rcases (show b < 1 ∨ (1 ≤ b ∧ 16 < b) ∨ (1 ≤ b ∧ b ≤ 16 ∧ a < 0) ∨ (1 ≤ b ∧ b ≤ 16 ∧ 0 ≤ a ∧ b < a) by omega) with h1 | ⟨h1, h2⟩ | ⟨h1, h2, h3⟩ | ⟨h1, h2, h3, h4⟩
      all_goals
        clear hn
        try have h5 : ¬ a ≤ b := by omega
        go_enter Try.func91, Try.ntmps91
        go_wp2_with fail
        go_ret
        exact ⟨rfl, h0⟩
theorem and_bit (x k : Nat) (hx : x < 18446744073709551616) (hk : k < 64) : bits .and .u64 (x : Int) ((2 ^ k : Nat) : Int) = ((2 ^ k * (x / 2 ^ k % 2) : Nat) : Int) := by
  have hp : 2 ^ k < 18446744073709551616 := by
    have := Nat.pow_lt_pow_right (a := 2) (by omega) hk
    exact this
  rw [u64_and_nat x (2 ^ k) hx hp]
  congr 1
  have ht : x.testBit k = decide (x / 2 ^ k % 2 = 1) := Nat.testBit_eq_decide_div_mod_eq
  apply Nat.eq_of_testBit_eq
  intro i
  rw [Nat.testBit_and, Nat.testBit_two_pow]
  rcases (show x / 2 ^ k % 2 = 0 ∨ x / 2 ^ k % 2 = 1 by omega) with h | h
  · rw [h, Nat.mul_zero, Nat.zero_testBit]
    by_cases hki : k = i
    · subst hki; rw [ht, h]; simp
    · simp [hki]
  · rw [h, Nat.mul_one, Nat.testBit_two_pow]
    by_cases hki : k = i
    · subst hki; rw [ht, h]; simp
    · simp [hki]
/-- what Counts answers -/
def countsV (w : Nat) : Value := match countsOf w with
  | some c => .tuple #[.agg #[.int .i64 c.inuse, .int .i64 c.objects, .bool c.frozen, .bool c.live], .bool true]
  | none => .tuple #[.agg #[.int .i64 0, .int .i64 0, .bool false, .bool false], .bool false]
theorem countsOf_may (x : Nat) (hx : x < 262144) : countsOf x = if mayB ((x % 256 : Nat) : Int) ((x / 256 % 256 : Nat) : Int) (decide (x / 65536 % 2 = 1)) (decide (x / 131072 % 2 = 1)) = true then some ⟨x % 256, x / 256 % 256, decide (x / 65536 % 2 = 1), decide (x / 131072 % 2 = 1)⟩ else none := by
  unfold countsOf mayB
  by_cases h0 : x = 0
  · subst h0
    decide
  · rw [if_neg h0]
    by_cases hl : x / 131072 % 2 = 1
    · rw [decide_eq_true hl]
      by_cases h1 : 131072 ≤ x ∧ x < 262144 ∧ 1 ≤ x / 256 % 256 ∧ x / 256 % 256 ≤ 16 ∧ x % 256 ≤ x / 256 % 256
      · rw [if_pos h1, if_pos (decide_eq_true (.inl ⟨rfl, by omega⟩))]
      · rw [if_neg h1, if_neg]
        intro h2
        rcases of_decide_eq_true h2 with ⟨-, h3⟩ | ⟨-, -, -, h3⟩
        · omega
        · cases h3
    · rw [decide_eq_false hl, if_neg (by omega), if_neg]
      intro h2
      rcases of_decide_eq_true h2 with ⟨h3, -⟩ | ⟨h3, h4, h5, -⟩
      · cases h3
      · have h5 := of_decide_eq_false h5
        omega
theorem countsOf_big (x : Nat) (hx : 262144 ≤ x) : countsOf x = none := by
  unfold countsOf
  rw [if_neg (by omega), if_neg (by omega)]
set_option maxRecDepth 100000 in
set_option maxHeartbeats 2000000 in
theorem counts_spec (h : Own W m w) (x : Nat) (hx : x < 18446744073709551616) : Calls Try.prog 83 #[.int .u64 x] w fun e w' => e = .returned (countsV x) ∧ Own W m w' := by
  have a1 := and255 x hx
  have a2 := and255 (x / 256) (by omega)
  have hd : (x : Int) / 256 = ((x / 256 : Nat) : Int) := by omega
  have a3 := and_bit x 16 hx (by omega)
  have a4 := and_bit x 17 hx (by omega)
  rw [show (2 : Nat) ^ 16 = 65536 from rfl] at a3
  rw [show (2 : Nat) ^ 17 = 131072 from rfl] at a4
  have hc1 := countsOf_may x
  have hc2 := countsOf_big x
  unfold countsV
  obtain ⟨A, hA⟩ : ∃ A, x % 256 = A := ⟨_, rfl⟩
  obtain ⟨Q, hQ⟩ : ∃ Q, x / 256 = Q := ⟨_, rfl⟩
  obtain ⟨B, hB⟩ : ∃ B, Q % 256 = B := ⟨_, rfl⟩
  obtain ⟨F, hF⟩ : ∃ F, x / 65536 % 2 = F := ⟨_, rfl⟩
  obtain ⟨L, hL⟩ : ∃ L, x / 131072 % 2 = L := ⟨_, rfl⟩
  rw [hA] at a1
  rw [hQ] at hd a2
  rw [hB] at a2
  rw [hF] at a3
  rw [hL] at a4
  rw [hA, hQ, hB, hF, hL] at hc1
  have A255 : A ≤ 255 := by omega
  have B255 : B ≤ 255 := by omega
  have F2 : F = 0 ∨ F = 1 := by omega
  have L2 : L = 0 ∨ L = 1 := by omega
  have b3 : (bits .and .u64 (x : Int) 65536 != 0) = decide (F = 1) := by
    have a3 : bits .and .u64 (x : Int) 65536 = ((65536 * F : Nat) : Int) := a3
    rw [a3]
    rcases F2 with rfl | rfl <;> rfl
  have b4 : (bits .and .u64 (x : Int) 131072 != 0) = decide (L = 1) := by
    have a4 : bits .and .u64 (x : Int) 131072 = ((131072 * L : Nat) : Int) := a4
    rw [a4]
    rcases L2 with rfl | rfl <;> rfl
  obtain ⟨f, hf⟩ : ∃ f, decide (F = 1) = f := ⟨_, rfl⟩
  obtain ⟨l, hl⟩ : ∃ l, decide (L = 1) = l := ⟨_, rfl⟩
  rw [hf] at b3 hc1
  rw [hl] at b4 hc1
  have h1 := h.new (.cells #[.int .i64 0, .int .i64 0, .bool false, .bool false] 80)
  have h2 := h1.new (.cells #[.int .i64 A, .int .i64 B, .bool f, .bool l] 80)
  simp only [World.size_alloc] at h2
  obtain ⟨g, hg⟩ : ∃ g, w.heap.size = g := ⟨_, rfl⟩
  rw [hg] at h1 h2
  have c1 := h1.cell List.mem_cons_self
  have f1 := h1.frozen List.mem_cons_self
  clear hA hQ hB hF hL hf hl a3 a4 F2 L2 hx
  by_cases hbig : x < 262144
  · have hc := hc1 hbig
    have hx : decide ((262144 : Int) ≤ x) = false := decide_eq_false (by omega)
    have hm := fun ws (hs : Own W ((g + 1, Obj.cells #[.int .i64 A, .int .i64 B, .bool f, .bool l] 80 (0, 0)) :: (g, Obj.cells #[.int .i64 0, .int .i64 0, .bool false, .bool false] 80 (0, 0)) :: m) ws) => may_spec hs A B f l
    cases hmay : mayB A B f l with
    | true =>
      rw [hmay] at hc hm
      simp only [if_true] at hc
      have HM := Lib.hid hm
      rw [hc]
      clear hc hbig hc1 hc2 hm hmay
      go_enter Try.func83, Try.ntmps83
      go_wp2_with fail
      refine (HM.out _ h2).mono ?_
      rintro e w3 ⟨rfl, h3⟩
      have q := h3.cell List.mem_cons_self
      have u := h3.frozen (List.mem_cons_of_mem _ List.mem_cons_self)
      have q0 := q 0
      have q1 := q 1
      have q2 := q 2
      have q3 := q 3
      have u0 := u 0
      have u1 := u 1
      have u2 := u 2
      have u3 := u 3
      simp at q0 q1 q2 q3
      have z := h3.cell (List.mem_cons_of_mem _ List.mem_cons_self)
      have z0 := z 0
      have z1 := z 1
      have z2 := z 2
      have z3 := z 3
      simp at z0 z1 z2 z3
      clear q u z b3 b4 a1 a2 hd
      go_wp2_with fail
      have h4 : Own W ([(g + 1, Obj.cells #[.int .i64 A, .int .i64 B, .bool f, .bool l] 80 (0, 0))] ++ (g, Obj.cells #[.int .i64 0, .int .i64 0, .bool false, .bool false] 80 (0, 0)) :: m) w3 := h3
      have h5 := (((h4.setIn 0 (.int .i64 A)).setIn 1 (.int .i64 B)).setIn 2 (.bool f)).setIn 3 (.bool l)
      have ec := h5.cell (List.mem_append_right _ List.mem_cons_self)
      have e0 := ec 0
      have e1 := ec 1
      have e2 := ec 2
      have e3 := ec 3
      simp at e0 e1 e2 e3
      exact bodyPost_ret (v := .tuple #[.agg #[(.int .i64 A), (.int .i64 B), (.bool f), (.bool l)], .bool true]) (by simp [results, Try.f83, go_sem, e0, e1, e2, e3]) rfl ⟨rfl, h5.drop1.dropL⟩
    | false =>
      rw [hmay] at hc hm
      simp only [Bool.false_eq_true, if_false] at hc
      have HM := Lib.hid hm
      rw [hc]
      clear hc hbig hc1 hc2 hm hmay
      go_enter Try.func83, Try.ntmps83
      go_wp2_with fail
      refine (HM.out _ h2).mono ?_
      rintro e w3 ⟨rfl, h3⟩
      have q := h3.cell List.mem_cons_self
      have u := h3.frozen (List.mem_cons_of_mem _ List.mem_cons_self)
      have q0 := q 0
      have q1 := q 1
      have q2 := q 2
      have q3 := q 3
      have u0 := u 0
      have u1 := u 1
      have u2 := u 2
      have u3 := u 3
      simp at q0 q1 q2 q3
      have z := h3.cell (List.mem_cons_of_mem _ List.mem_cons_self)
      have z0 := z 0
      have z1 := z 1
      have z2 := z 2
      have z3 := z 3
      simp at z0 z1 z2 z3
      clear q u z b3 b4 a1 a2 hd
      go_wp2_with fail
      have h4 : Own W ([(g + 1, Obj.cells #[.int .i64 A, .int .i64 B, .bool f, .bool l] 80 (0, 0))] ++ (g, Obj.cells #[.int .i64 0, .int .i64 0, .bool false, .bool false] 80 (0, 0)) :: m) w3 := h3
      have h5 := (((h4.setIn 0 (.int .i64 0)).setIn 1 (.int .i64 0)).setIn 2 (.bool false)).setIn 3 (.bool false)
      have ec := h5.cell (List.mem_append_right _ List.mem_cons_self)
      have e0 := ec 0
      have e1 := ec 1
      have e2 := ec 2
      have e3 := ec 3
      simp at e0 e1 e2 e3
      exact bodyPost_ret (v := .tuple #[.agg #[(.int .i64 0), (.int .i64 0), (.bool false), (.bool false)], .bool false]) (by simp [results, Try.f83, go_sem, e0, e1, e2, e3]) rfl ⟨rfl, h5.drop1.dropL⟩
  · have hc := hc2 (by omega)
    have hx : ¬ (x : Int) < 262144 := by omega
    rw [hc]
    clear hc hbig hc1 hc2
    go_enter Try.func83, Try.ntmps83
    go_wp2_with fail
    have ec := h2.cell (List.mem_cons_of_mem _ List.mem_cons_self)
    have e0 := ec 0
    have e1 := ec 1
    have e2 := ec 2
    have e3 := ec 3
    simp at e0 e1 e2 e3
    exact bodyPost_ret (v := .tuple #[.agg #[.int .i64 0, .int .i64 0, .bool false, .bool false], .bool false]) (by simp [results, Try.f83, go_sem, e0, e1, e2, e3]) rfl ⟨rfl, h2.skip.skip⟩
end
end Go.Proofs.Ytigakendeghoaaa.See
