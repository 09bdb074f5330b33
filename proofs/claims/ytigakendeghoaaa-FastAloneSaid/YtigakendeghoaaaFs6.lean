/-
  Texts of this claim, joined. No condition.
-/
import Derived.Test.YtigakendeghoaaaFs5
import Derived.Test.YtigakendeghoaaaFs4
import Derived.Test.YtigakendeghoaaaRows
import Derived.WalkMore
/-
  Contracts: what a link shows (package link). No condition.
-/
namespace Go.Proofs.Ytigakendeghoaaa.See
open Go.RowKit
attribute [local go_sem ↓] Go.wp_at_zero Go.wp_at_succ
def rotl (x s : Nat) : Nat := (x <<< s) % 18446744073709551616 ||| x >>> (64 - s)
theorem shr_lt (x s : Nat) (hx : x < 18446744073709551616) : x >>> s < 18446744073709551616 := by
  rw [Nat.shiftRight_eq_div_pow]
  exact Nat.lt_of_le_of_lt (Nat.div_le_self _ _) hx
theorem rotl_lt (x s : Nat) (hx : x < 18446744073709551616) : rotl x s < 18446744073709551616 := by
  have h : rotl x s < 2 ^ 64 := Nat.or_lt_two_pow (Nat.mod_lt _ (by omega)) (shr_lt x _ hx)
  exact h
theorem rot_bits (x s : Nat) (hx : x < 18446744073709551616) : bits .or .u64 (IntKind.u64.wrap ((x : Int) * 2 ^ s)) ((x : Int) / 2 ^ (64 - s)) = ((rotl x s : Nat) : Int) := by
  unfold rotl
  rw [← u64_or_nat _ _ (Nat.mod_lt _ (by omega)) (shr_lt x _ hx), IntKind.wrap_u64, Nat.shiftLeft_eq, Nat.shiftRight_eq_div_pow]
  congr 1
  all_goals push_cast; rfl
theorem rot_spec (x k : Nat) (hx : x < 18446744073709551616) (hk : k ≤ 75) (w : World) : Calls Try.prog 109 #[.int .u64 x, .int .i64 k] w fun e w' => e = .returned (.int .u64 (rotl x (k % 64) : Nat)) ∧ w = w' := by
  have ha := and63 k (by omega)
  obtain ⟨s, hs⟩ : ∃ s, k % 64 = s := ⟨_, rfl⟩
  have hs64 : s < 64 := by omega
  rw [hs] at ha ⊢
  have hb := Lib.hid (rot_bits x s hx)
  clear hs hx
  go_enter Try.func109, Try.ntmps109
  go_wp2_with fail
  go_ret
  exact ⟨by rw [← hb.out]; rfl, rfl⟩
theorem turned_eq (key n : Nat) : turned key n = (rotl key (5 * n % 64) + n * 2654435769) % 18446744073709551616 := rfl
theorem turned_lt (key n : Nat) : turned key n < 18446744073709551616 := by
  rw [turned_eq]
  exact Nat.mod_lt _ (by omega)
set_option maxRecDepth 100000 in
theorem turned_spec (key n : Nat) (hx : key < 18446744073709551616) (hn : n < 16) (w : World) : Calls Try.prog 89 #[.int .u64 key, .int .i64 n] w fun e w' => e = .returned (.int .u64 (turned key n : Nat)) ∧ w = w' := by
  have hr := fun w => rot_spec key (5 * n) hx (by omega) w
  rw [show ((5 * n : Nat) : Int) = 5 * (n : Int) by omega] at hr
  have HR := Lib.hid hr
  have hv : IntKind.u64.wrap ((rotl key (5 * n % 64) : Int) + (n : Int) * 2654435769) = ((turned key n : Nat) : Int) := by
    rw [turned_eq, IntKind.wrap_u64]
    omega
  have HV := Lib.hid hv
  clear hr hx hv
  go_enter Try.func89, Try.ntmps89
  go_wp2_with (go_at_call 109; refine (HR.out _).mono ?_; rintro e w' ⟨rfl, rfl⟩)
  go_ret
  exact ⟨by rw [← HV.out]; rfl, rfl⟩
def oIs (i : Int) : Bool := decide (0 ≤ i ∧ i < 16)
theorem oIs_yes {i : Int} (h : 0 ≤ i ∧ i < 16) : oIs i = true := decide_eq_true h
theorem oIs_no {i : Int} (h : ¬ (0 ≤ i ∧ i < 16)) : oIs i = false := decide_eq_false h
theorem object_spec (i : Int) (w : World) : Calls Try.prog 125 #[.int .i64 i] w fun e w' => e = .returned (.bool (oIs i)) ∧ w = w' := by
  by_cases h0 : 0 ≤ i
  · by_cases h1 : i < 16
    · rw [oIs_yes ⟨h0, h1⟩]
      go_enter Try.func125, Try.ntmps125
      go_wp2_with fail
      go_ret
      exact ⟨rfl, rfl⟩
    · rw [oIs_no (by omega)]
      go_enter Try.func125, Try.ntmps125
      go_wp2_with fail
      go_ret
      exact ⟨rfl, rfl⟩
  · rw [oIs_no (by omega)]
    go_enter Try.func125, Try.ntmps125
    go_wp2_with fail
    go_ret
    exact ⟨rfl, rfl⟩
/-- what Show answers -/
def showV (x key : Nat) (n : Nat) : Value := match showOf x key n with
  | some i => .tuple #[.int .i64 i, .bool true]
  | none => .tuple #[.int .i64 0, .bool false]
theorem showOf_ge {x key n : Nat} {i : Int} (h : showOf x key n = some i) : -1 ≤ i ∧ i < 16 := by
  unfold showOf at h
  split at h
  · simp at h; omega
  · cases h
set_option maxRecDepth 100000 in
theorem show_ok (x key n : Nat) (hx : x < 18446744073709551616) (hk : key < 18446744073709551616) (hn : n < 16) (w : World) : Calls Try.prog 114 #[.int .u64 x, .int .u64 key, .int .i64 n] w fun e w' => e = .returned (showV x key n) ∧ w = w' := by
  have ht := fun w => turned_spec key n hk hn w
  have hb := u64_xor_nat x (turned key n) hx (turned_lt key n)
  unfold showV showOf
  obtain ⟨T, hT⟩ : ∃ T, turned key n = T := ⟨_, rfl⟩
  obtain ⟨X, hX⟩ : ∃ X, x ^^^ T = X := ⟨_, rfl⟩
  rw [hT] at ht hb ⊢
  rw [hX] at hb ⊢
  have ho := fun w => object_spec (n : Int) w
  rw [oIs_yes (by omega)] at ho
  have HT := Lib.hid ht
  have HO := Lib.hid ho
  clear ht ho hT hX hx hk
  by_cases hc : X ≤ 16
  · have hci : decide ((16 : Int) < X) = false := decide_eq_false (by omega)
    rw [if_pos hc]
    go_enter Try.func114, Try.ntmps114
    go_wp2_with (first | (go_at_call 125; refine (HO.out _).mono ?_; rintro e w' ⟨rfl, rfl⟩) | (go_at_call 89; refine (HT.out _).mono ?_; rintro e w' ⟨rfl, rfl⟩))
    go_ret2
    exact ⟨rfl, rfl⟩
  · have hci : decide ((16 : Int) < X) = true := decide_eq_true (by omega)
    rw [if_neg hc]
    go_enter Try.func114, Try.ntmps114
    go_wp2_with (first | (go_at_call 125; refine (HO.out _).mono ?_; rintro e w' ⟨rfl, rfl⟩) | (go_at_call 89; refine (HT.out _).mono ?_; rintro e w' ⟨rfl, rfl⟩))
    go_ret2
    exact ⟨rfl, rfl⟩
theorem show_bad (x key : Int) (n : Int) (hn : ¬ (0 ≤ n ∧ n < 16)) (w : World) : Calls Try.prog 114 #[.int .u64 x, .int .u64 key, .int .i64 n] w fun e w' => e = .returned (.tuple #[.int .i64 0, .bool false]) ∧ w = w' := by
  have ho := fun w => object_spec n w
  rw [oIs_no hn] at ho
  have HO := Lib.hid ho
  clear ho hn
  go_enter Try.func114, Try.ntmps114
  go_wp2_with (go_at_call 125; refine (HO.out _).mono ?_; rintro e w' ⟨rfl, rfl⟩)
  go_ret2
  exact ⟨rfl, rfl⟩
/-- a link that is made -/
def hideW (i : Int) (key n : Nat) : Nat := (i + 1).toNat ^^^ turned key n
theorem hide_lt {i : Int} {key n : Nat} (hi : i < 16) : hideW i key n < 18446744073709551616 := by
  have h : hideW i key n < 2 ^ 64 := Nat.xor_lt_two_pow (by omega) (turned_lt key n)
  exact h
/-- .. shows what was hidden -/
theorem show_hide {i : Int} {key n : Nat} (h0 : -1 ≤ i) (hi : i < 16) : showOf (hideW i key n) key n = some i := by
  unfold showOf hideW
  rw [Nat.xor_assoc, Nat.xor_self, Nat.xor_zero, if_pos (by omega)]
  congr 1
  omega
end Go.Proofs.Ytigakendeghoaaa.See

/-
  Contract: link.Hide. No condition.
-/
namespace Go.Proofs.Ytigakendeghoaaa.See
open Go.RowKit
attribute [local go_sem ↓] Go.wp_at_zero Go.wp_at_succ
/-- what Hide answers -/
def hideV (i : Int) (key : Nat) (n : Int) : Value := if (-1 ≤ i ∧ i < 16) ∧ (0 ≤ n ∧ n < 16) then .tuple #[.int .u64 (hideW i key n.toNat : Nat), .int .i64 0] else .tuple #[.int .u64 0, .int .i64 2]
set_option maxRecDepth 100000 in
set_option maxHeartbeats 2000000 in
theorem hide_spec (i : Int) (key : Nat) (n : Int) (hk : key < 18446744073709551616) (w : World) : Calls Try.prog 116 #[.int .i64 i, .int .u64 key, .int .i64 n] w fun e w' => e = .returned (hideV i key n) ∧ w = w' := by
  have ho := fun w => object_spec i w
  have hn := fun w => object_spec n w
  unfold hideV
  by_cases hi : -1 ≤ i ∧ i < 16
  · by_cases hnn : 0 ≤ n ∧ n < 16
    · rw [if_pos ⟨hi, hnn⟩]
      obtain ⟨n, rfl⟩ : ∃ k : Nat, n = k := ⟨n.toNat, by omega⟩
      have ht := fun w => turned_spec key n hk (by omega) w
      have hb := u64_xor_nat (i + 1).toNat (turned key n) (by omega) (turned_lt key n)
      rw [show (((i + 1).toNat : Nat) : Int) = i + 1 from by omega] at hb
      have hw : IntKind.u64.wrap (i + 1) = i + 1 := by rw [IntKind.wrap_u64]; omega
      rw [oIs_yes hnn] at hn
      rw [Int.toNat_natCast]
      unfold hideW
      obtain ⟨T, hT⟩ : ∃ T, turned key n = T := ⟨_, rfl⟩
      obtain ⟨X, hX⟩ : ∃ X, (i + 1).toNat ^^^ T = X := ⟨_, rfl⟩
      rw [hT] at ht hb ⊢
      rw [hX] at hb ⊢
      have HT := Lib.hid ht
      have HN := Lib.hid hn
      by_cases h1 : i = -1
      · subst h1
        rw [show (-1 : Int) + 1 = 0 from rfl] at hb hw
        clear ht hn hT hX hk ho
        go_enter Try.func116, Try.ntmps116
        go_wp2_with (first | (go_at_call 125; refine (HN.out _).mono ?_; rintro e w' ⟨rfl, rfl⟩) | (go_at_call 89; refine (HT.out _).mono ?_; rintro e w' ⟨rfl, rfl⟩))
        go_ret2
        exact ⟨rfl, rfl⟩
      · rw [oIs_yes (by omega)] at ho
        have HO := Lib.hid ho
        have hne : (i != -1) = true := by simpa using h1
        clear ht hn hT hX hk ho
        go_enter Try.func116, Try.ntmps116
        go_wp2_with (first | (go_at_call 125; first | (refine (HO.out _).mono ?_; rintro e w' ⟨rfl, rfl⟩) | (refine (HN.out _).mono ?_; rintro e w' ⟨rfl, rfl⟩)) | (go_at_call 89; refine (HT.out _).mono ?_; rintro e w' ⟨rfl, rfl⟩))
        go_ret2
        exact ⟨rfl, rfl⟩
    · rw [if_neg (fun h => hnn h.2)]
      rw [oIs_no hnn] at hn
      have HN := Lib.hid hn
      by_cases h1 : i = -1
      · subst h1
        clear hn ho hk
        go_enter Try.func116, Try.ntmps116
        go_wp2_with (go_at_call 125; refine (HN.out _).mono ?_; rintro e w' ⟨rfl, rfl⟩)
        go_ret2
        exact ⟨rfl, rfl⟩
      · rw [oIs_yes (by omega)] at ho
        have HO := Lib.hid ho
        have hne : (i != -1) = true := by simpa using h1
        clear hn ho hk
        go_enter Try.func116, Try.ntmps116
        go_wp2_with (go_at_call 125; first | (refine (HO.out _).mono ?_; rintro e w' ⟨rfl, rfl⟩) | (refine (HN.out _).mono ?_; rintro e w' ⟨rfl, rfl⟩))
        go_ret2
        exact ⟨rfl, rfl⟩
  · rw [if_neg (fun h => hi h.1)]
    rw [oIs_no (by omega)] at ho
    have HO := Lib.hid ho
    have hne : (i != -1) = true := by simp; omega
    clear hn ho hk
    go_enter Try.func116, Try.ntmps116
    go_wp2_with (go_at_call 125; refine (HO.out _).mono ?_; rintro e w' ⟨rfl, rfl⟩)
    go_ret2
    exact ⟨rfl, rfl⟩
end Go.Proofs.Ytigakendeghoaaa.See

/-
  wainscotlaw21.ChartPlaces: each place is known (by the runner, question by question); then the law by one run. No condition.
-/
namespace Go.Proofs.Ytigakendeghoaaa.chartPlaces
open Go Ex
def v (i : Nat) : SE := .var i
def l (n : Int) : SE := .lit n
def add (a b : SE) : SE := .bin .add a b
def mul (a b : SE) : SE := .bin .mul a b
def chart : AV := .agg [.sym .i64 (v 0), .sym .i64 (v 1), .sym .i64 (v 2), .sym .i64 (v 3), .sym .i64 (v 4), .sym .u64 (v 5)]
def is (e : SE) : DT := .is (.sym .i64 e)
def num (n : Int) : DT := .is (.int .i64 n)
def no : DT := num (-1)
/-- the value that a tree leads to -/
def endOf (σ : Nat → Int) : DT → Value
  | .leaf => .bool true
  | .is a => Ex.valOf σ a
  | .bad => undef
  | .node c t e => if c.ev σ = true then endOf σ t else endOf σ e
theorem ends_of {σ : Nat → Int} : ∀ {d : DT} {x : Value}, Ex.Ends σ d x → x = endOf σ d
  | .leaf, _, h => h
  | .is _, _, h => h
  | .bad, _, h => h.elim
  | .node c t e, x, h => by
    unfold endOf
    rcases h with ⟨h1, h2⟩ | ⟨h1, h2⟩
    · rw [if_pos h1]; exact ends_of h2
    · rw [if_neg (by rw [h1]; simp)]; exact ends_of h2
def iv : Value → Int
  | .int _ n => n
  | _ => 0
def ofKind (k : IntKind) : DT → Bool
  | .is (.int k' _) => decide (k = k')
  | .is (.sym k' _) => decide (k = k')
  | .node _ t e => ofKind k t && ofKind k e
  | .bad => true
  | _ => false
theorem kind_of {σ : Nat → Int} {k : IntKind} : ∀ {d : DT}, ofKind k d = true → ¬ BadP σ d → endOf σ d = .int k (iv (endOf σ d))
  | .is a, h, _ => by
    cases a <;> simp [ofKind] at h <;> subst h <;> simp [endOf, Ex.valOf, iv]
  | .bad, _, h => absurd trivial h
  | .leaf, h, _ => by cases h
  | .node c t e, h, hb => by
    unfold ofKind at h
    rw [Bool.and_eq_true] at h
    unfold endOf
    by_cases hc : c.ev σ = true
    · rw [if_pos hc]; exact kind_of h.1 fun hx => hb (.inl ⟨hc, hx⟩)
    · rw [if_neg hc]; exact kind_of h.2 fun hx => hb (.inr ⟨by simpa using hc, hx⟩)
/-! the trees -/
def chain : List (SE × SE) → DT → DT → DT
  | [], _, y => y
  | (a, b) :: r, n, y => .node (.lt a b) n (chain r n y)
def tChk : DT := chain [(v 0, l 1), (l 8, v 0), (v 1, l 1), (l 32, v 1), (v 2, l 1), (l 16, v 2), (v 3, l 0), (l 32, v 3), (v 4, l 0), (l 32, v 4)] (num 2) (num 0)
def less (a : SE) : SE := .bin .sub a (l 1)
def inn (a : SE) (n : Int) (y : DT) : DT := .node (.lt a (l 0)) (num 2) (.node (.lt a (l n)) y (num 2))
def tChkR : DT := inn (less (v 0)) 8 (inn (less (v 1)) 32 (inn (less (v 2)) 16 (inn (v 3) 33 (inn (v 4) 33 (num 0)))))
def okQ : Cnd := .eq (v 8) (l 0)
def base : SE := mul (l 4) (v 0)
def slabs : SE := add base (l 4)
def links : SE := add slabs (mul (l 4) (v 1))
def t0 (e : SE) : DT := .node okQ (is e) no
def t1 (n : Nat) (e : SE) : DT := .node okQ (.node (.lt (v 6) (l 0)) no (.node (.lt (v 6) (v n)) (is e) no)) (.node (.lt (v 6) (l 0)) no (.node (.lt (v 6) (v n)) no no))
def tWords : DT := .node okQ (chain [(v 0, l 1), (l 8, v 0), (v 1, l 1), (l 32, v 1), (v 2, l 1), (l 16, v 2)] .bad (is (add links (mul (v 1) (v 2))))) (num 0)
def tHead : DT := t1 0 (mul (l 4) (v 6))
def tPart : DT := t1 0 (add (mul (l 4) (v 6)) (l 2))
def tLock : DT := t0 base
def tShelf : DT := t0 (add base (l 1))
def tHeld : DT := t0 (add base (l 2))
def tFirst : DT := t1 1 (add slabs (mul (l 4) (v 6)))
def tNext : DT := t1 1 (add (add slabs (mul (l 4) (v 6))) (l 2))
def tLink : DT :=
  .node okQ (.node (.lt (v 6) (l 0)) no (.node (.lt (v 6) (v 1)) (.node (.lt (v 7) (l 0)) no (.node (.lt (v 7) (v 2)) (is (add (add links (mul (v 6) (v 2))) (v 7))) no)) no))
    (.node (.lt (v 6) (l 0)) no (.node (.lt (v 6) (v 1)) (.node (.lt (v 7) (l 0)) no (.node (.lt (v 7) (v 2)) no no)) no))
def tKey : DT := .is (.sym .u64 (.ubin .add (v 5) (.ubin .mul (.cv .u64 (v 6)) (l 11400714819323198485))))
/-! what the numbers are -/
def args0 (a b c d e key i k : Int) : List Int := [a, b, c, d, e, key, i, k]
section
variable (a b c d e key i k : Int)
def s0 : Nat → Int := fun n => [a, b, c, d, e, key, i, k].getD n 0
def chk : Int := iv (endOf (s0 a b c d e key i k) tChk)
def s1 : Nat → Int := fun n => [a, b, c, d, e, key, i, k, chk a b c d e key i k].getD n 0
def val (t : DT) : Int := iv (endOf (s1 a b c d e key i k) t)
def s2 : Nat → Int := fun n => [a, b, c, d, e, key, i, k, chk a b c d e key i k, val a b c d e key i k tWords, val a b c d e key i k tHead, val a b c d e key i k tPart, val a b c d e key i k tLock, val a b c d e key i k tShelf, val a b c d e key i k tHeld, val a b c d e key i k tFirst, val a b c d e key i k tNext, val a b c d e key i k tLink, val a b c d e key i k tKey].getD n 0

/-- a number of 64 bits -/
def I64 (n : Int) : Prop := -9223372036854775808 ≤ n ∧ n ≤ 9223372036854775807
def Ok (a b c d e : Int) : Prop := 1 ≤ a ∧ a ≤ 8 ∧ 1 ≤ b ∧ b ≤ 32 ∧ 1 ≤ c ∧ c ≤ 16 ∧ 0 ≤ d ∧ d ≤ 32 ∧ 0 ≤ e ∧ e ≤ 32
instance : Decidable (Ok a b c d e) := by unfold Ok; infer_instance
theorem chk_is : endOf (s0 a b c d e key i k) tChk = .int .i64 (if Ok a b c d e then 0 else 2) := by
  simp only [tChk, chain, endOf, num, Cnd.ev, SE.ev, v, l, s0, Ex.valOf, List.getD_cons_zero, List.getD_cons_succ, decide_eq_true_eq, Ok]
  by_cases h1 : a < 1 <;> by_cases h2 : 8 < a <;> by_cases h3 : b < 1 <;> by_cases h4 : 32 < b <;> by_cases h5 : c < 1 <;> by_cases h6 : 16 < c <;> by_cases h7 : d < 0 <;> by_cases h8 : 32 < d <;> by_cases h9 : e < 0 <;> by_cases h10 : 32 < e <;> simp [*] <;> omega
theorem wrap_less {n x : Int} (hx : I64 x) (h0 : 0 ≤ n) (hn : n ≤ 9223372036854775807) : (0 ≤ IntKind.i64.wrap (x - 1) ∧ IntKind.i64.wrap (x - 1) < n) ↔ 1 ≤ x ∧ x ≤ n := by
  unfold I64 at hx
  have hw : IntKind.i64.wrap (x - 1) = if x = -9223372036854775808 then 9223372036854775807 else x - 1 := by
    simp [IntKind.wrap, IntKind.signed, IntKind.bits]
    split <;> split <;> omega
  rw [hw]
  split <;> omega
theorem inn_end {σ : Nat → Int} {x : SE} {n : Int} {y : DT} : endOf σ (inn x n y) = if 0 ≤ x.ev σ ∧ x.ev σ < n then endOf σ y else .int .i64 2 := by
  simp only [inn, endOf, num, Cnd.ev, SE.ev, l, Ex.valOf, decide_eq_true_eq]
  by_cases h1 : x.ev σ < 0 <;> by_cases h2 : x.ev σ < n <;> simp [h1, h2] <;> omega
theorem chkR_is (ha : I64 a) (hb : I64 b) (hc : I64 c) : endOf (s0 a b c d e key i k) tChkR = .int .i64 (if Ok a b c d e then 0 else 2) := by
  unfold tChkR
  have e0 : (less (v 0)).ev (s0 a b c d e key i k) = IntKind.i64.wrap (a - 1) := rfl
  have e1 : (less (v 1)).ev (s0 a b c d e key i k) = IntKind.i64.wrap (b - 1) := rfl
  have e2 : (less (v 2)).ev (s0 a b c d e key i k) = IntKind.i64.wrap (c - 1) := rfl
  have e3 : (v 3).ev (s0 a b c d e key i k) = d := rfl
  have e4 : (v 4).ev (s0 a b c d e key i k) = e := rfl
  simp only [inn_end, e0, e1, e2, e3, e4, wrap_less ha (n := 8) (by decide) (by decide), wrap_less hb (n := 32) (by decide) (by decide), wrap_less hc (n := 16) (by decide) (by decide)]
  simp only [endOf, num, Ex.valOf]
  split
  · split
    · split
      · split
        · split
          · rw [if_pos (by unfold Ok; omega)]
          · rw [if_neg (by unfold Ok; omega)]
        · rw [if_neg (by unfold Ok; omega)]
      · rw [if_neg (by unfold Ok; omega)]
    · rw [if_neg (by unfold Ok; omega)]
  · rw [if_neg (by unfold Ok; omega)]
theorem bad_words : ¬ BadP (s1 a b c d e key i k) tWords := by
  have hchk : chk a b c d e key i k = if Ok a b c d e then 0 else 2 := by unfold chk; rw [chk_is]; rfl
  have e8 : s1 a b c d e key i k 8 = chk a b c d e key i k := rfl
  have e0 : s1 a b c d e key i k 0 = a := rfl
  have e1 : s1 a b c d e key i k 1 = b := rfl
  have e2 : s1 a b c d e key i k 2 = c := rfl
  intro h
  simp only [tWords, chain, BadP, Cnd.ev, okQ, v, l, SE.ev, is, num, e8, e0, e1, e2, hchk, decide_eq_true_eq, decide_eq_false_iff_not, beq_iff_eq, beq_eq_false_iff_ne, and_false, or_false, and_true] at h
  by_cases hok : Ok a b c d e
  · unfold Ok at hok
    omega
  · simp [hok] at h
end
/-- a call that is known, by a tree -/
theorem known {σ σ' : Nat → Int} {ov : Ov} (hov : OvOk Try.prog [] σ ov) {f : FuncId} {xs : List AV} {t : DT} {k : IntKind} {e : SE} (ha : AV.shuts xs = true) (h : tree Try.prog [] ov 30 f xs t [] = true) (hb : ¬ BadP σ t) (hk : ofKind k t = true)
    (he : valsOf σ' xs = valsOf σ xs) (hv : e.ev σ' = iv (endOf σ t)) (w : World) (hg : Tabs [] w) : Calls Try.prog f (valsOf σ' xs).toArray w fun r w' => r = .returned (Ex.valOf σ' (.sym k e)) ∧ RowKit.Below w.heap.size w w' := by
  rw [he]
  refine (tree_ends mixed hov ha t [] (by simp) h hb w hg).mono ?_
  rintro _ _ ⟨⟨x, rfl, hx⟩, h2⟩
  refine ⟨?_, h2⟩
  rw [ends_of hx, kind_of hk hb]
  unfold Ex.valOf
  rw [hv]
def hasBad : DT → Bool
  | .bad => true
  | .node _ t e => hasBad t || hasBad e
  | _ => false
theorem no_bad {σ : Nat → Int} {t : DT} (h : hasBad t = false) : ¬ BadP σ t := by
  induction t with
  | leaf => exact fun h => h
  | is _ => exact fun h => h
  | bad => cases h
  | node c t e i1 i2 =>
    unfold hasBad at h
    rw [Bool.or_eq_false_iff] at h
    rintro (⟨_, h1⟩ | ⟨_, h1⟩)
    · exact i1 h.1 h1
    · exact i2 h.2 h1
def i6 : AV := .sym .i64 (v 6)
def k7 : AV := .sym .i64 (v 7)

theorem r_cCheck : tree Try.prog [] [] 30 11 [chart] tChk [] = true := by kernel_rfl
theorem r_rCheck : tree Try.prog [] [] 30 21 [chart] tChkR [] = true := by kernel_rfl
def ov1 : Ov := [(11, [chart], .sym .i64 (v 8)), (21, [chart], .sym .i64 (v 8))]
theorem r_cWords : tree Try.prog [] ov1 30 12 [chart] tWords [] = true := by kernel_rfl
theorem r_rWords : tree Try.prog [] ov1 30 22 [chart] tWords [] = true := by kernel_rfl
theorem r_cHead : tree Try.prog [] ov1 30 13 [chart, i6] tHead [] = true := by kernel_rfl
theorem r_rHead : tree Try.prog [] ov1 30 23 [chart, i6] tHead [] = true := by kernel_rfl
theorem r_cPart : tree Try.prog [] ov1 30 14 [chart, i6] tPart [] = true := by kernel_rfl
theorem r_rPart : tree Try.prog [] ov1 30 24 [chart, i6] tPart [] = true := by kernel_rfl
theorem r_cLock : tree Try.prog [] ov1 30 15 [chart] tLock [] = true := by kernel_rfl
theorem r_rLock : tree Try.prog [] ov1 30 25 [chart] tLock [] = true := by kernel_rfl
theorem r_cShelf : tree Try.prog [] ov1 30 16 [chart] tShelf [] = true := by kernel_rfl
theorem r_rShelf : tree Try.prog [] ov1 30 26 [chart] tShelf [] = true := by kernel_rfl
theorem r_cHeld : tree Try.prog [] ov1 30 17 [chart] tHeld [] = true := by kernel_rfl
theorem r_rHeld : tree Try.prog [] ov1 30 27 [chart] tHeld [] = true := by kernel_rfl
theorem r_cFirst : tree Try.prog [] ov1 30 18 [chart, i6] tFirst [] = true := by kernel_rfl
theorem r_rFirst : tree Try.prog [] ov1 30 28 [chart, i6] tFirst [] = true := by kernel_rfl
theorem r_cNext : tree Try.prog [] ov1 30 19 [chart, i6] tNext [] = true := by kernel_rfl
theorem r_rNext : tree Try.prog [] ov1 30 29 [chart, i6] tNext [] = true := by kernel_rfl
theorem r_cLink : tree Try.prog [] ov1 30 20 [chart, i6, k7] tLink [] = true := by kernel_rfl
theorem r_rLink : tree Try.prog [] ov1 30 30 [chart, i6, k7] tLink [] = true := by kernel_rfl
theorem r_cKey : tree Try.prog [] ov1 30 32 [chart, i6] tKey [] = true := by kernel_rfl
theorem r_rKey : tree Try.prog [] ov1 30 33 [chart, i6] tKey [] = true := by kernel_rfl
def ov2 : Ov := [(11, [chart], .sym .i64 (v 8)), (21, [chart], .sym .i64 (v 8)), (12, [chart], .sym .i64 (v 9)), (22, [chart], .sym .i64 (v 9)), (13, [chart, i6], .sym .i64 (v 10)), (23, [chart, i6], .sym .i64 (v 10)), (14, [chart, i6], .sym .i64 (v 11)), (24, [chart, i6], .sym .i64 (v 11)), (15, [chart], .sym .i64 (v 12)), (25, [chart], .sym .i64 (v 12)), (16, [chart], .sym .i64 (v 13)), (26, [chart], .sym .i64 (v 13)), (17, [chart], .sym .i64 (v 14)), (27, [chart], .sym .i64 (v 14)), (18, [chart, i6], .sym .i64 (v 15)), (28, [chart, i6], .sym .i64 (v 15)), (19, [chart, i6], .sym .i64 (v 16)), (29, [chart, i6], .sym .i64 (v 16)), (20, [chart, i6, k7], .sym .i64 (v 17)), (30, [chart, i6, k7], .sym .i64 (v 17)), (32, [chart, i6], .sym .u64 (v 18)), (33, [chart, i6], .sym .u64 (v 18)), (34, [], .bool true)]
theorem r_works : tree Try.prog [] [] 30 34 [] .leaf [] = true := by kernel_rfl
theorem r_law : tree Try.prog [] ov2 30 3 [chart, i6, k7] .leaf [] = true := by kernel_rfl
section
variable {a b c d e key i k : Int}
theorem ok1 (ha : I64 a) (hb : I64 b) (hc : I64 c) : OvOk Try.prog [] (s1 a b c d e key i k) ov1 :=
  ov_cons (ov_cons ov_nil rfl rfl ⟨Try.f21, _, Try.func21, by kernel_rfl, rfl⟩
    (known (σ := s0 a b c d e key i k) ov_nil rfl r_rCheck (no_bad rfl) rfl rfl (by rw [chkR_is a b c d e key i k ha hb hc]; show chk a b c d e key i k = _; unfold chk; rw [chk_is])))
    rfl rfl ⟨Try.f11, _, Try.func11, by kernel_rfl, rfl⟩ (known (σ := s0 a b c d e key i k) ov_nil rfl r_cCheck (no_bad rfl) rfl rfl rfl)
theorem ok2 (ha : I64 a) (hb : I64 b) (hc : I64 c) : OvOk Try.prog [] (s2 a b c d e key i k) ov2 := by
  have h1 := ok1 (d := d) (e := e) (key := key) (i := i) (k := k) ha hb hc
  have h := ov_cons (σ := s2 a b c d e key i k) (P := Try.prog) (gs := []) ov_nil (xs := []) (v := .bool true) rfl rfl ⟨Try.f34, _, Try.func34, by kernel_rfl, rfl⟩ (fun w hg => leaf_calls (σ := fun _ => 0) mixed ov_nil r_works w hg)
  have h := ov_cons h (xs := [chart, i6]) (v := .sym .u64 (v 18)) rfl rfl ⟨Try.f33, _, Try.func33, by kernel_rfl, rfl⟩ (known (σ := s1 a b c d e key i k) h1 rfl r_rKey (no_bad rfl) rfl rfl rfl)
  have h := ov_cons h (xs := [chart, i6]) (v := .sym .u64 (v 18)) rfl rfl ⟨Try.f32, _, Try.func32, by kernel_rfl, rfl⟩ (known (σ := s1 a b c d e key i k) h1 rfl r_cKey (no_bad rfl) rfl rfl rfl)
  have h := ov_cons h (xs := [chart, i6, k7]) (v := .sym .i64 (v 17)) rfl rfl ⟨Try.f30, _, Try.func30, by kernel_rfl, rfl⟩ (known (σ := s1 a b c d e key i k) h1 rfl r_rLink (no_bad rfl) rfl rfl rfl)
  have h := ov_cons h (xs := [chart, i6, k7]) (v := .sym .i64 (v 17)) rfl rfl ⟨Try.f20, _, Try.func20, by kernel_rfl, rfl⟩ (known (σ := s1 a b c d e key i k) h1 rfl r_cLink (no_bad rfl) rfl rfl rfl)
  have h := ov_cons h (xs := [chart, i6]) (v := .sym .i64 (v 16)) rfl rfl ⟨Try.f29, _, Try.func29, by kernel_rfl, rfl⟩ (known (σ := s1 a b c d e key i k) h1 rfl r_rNext (no_bad rfl) rfl rfl rfl)
  have h := ov_cons h (xs := [chart, i6]) (v := .sym .i64 (v 16)) rfl rfl ⟨Try.f19, _, Try.func19, by kernel_rfl, rfl⟩ (known (σ := s1 a b c d e key i k) h1 rfl r_cNext (no_bad rfl) rfl rfl rfl)
  have h := ov_cons h (xs := [chart, i6]) (v := .sym .i64 (v 15)) rfl rfl ⟨Try.f28, _, Try.func28, by kernel_rfl, rfl⟩ (known (σ := s1 a b c d e key i k) h1 rfl r_rFirst (no_bad rfl) rfl rfl rfl)
  have h := ov_cons h (xs := [chart, i6]) (v := .sym .i64 (v 15)) rfl rfl ⟨Try.f18, _, Try.func18, by kernel_rfl, rfl⟩ (known (σ := s1 a b c d e key i k) h1 rfl r_cFirst (no_bad rfl) rfl rfl rfl)
  have h := ov_cons h (xs := [chart]) (v := .sym .i64 (v 14)) rfl rfl ⟨Try.f27, _, Try.func27, by kernel_rfl, rfl⟩ (known (σ := s1 a b c d e key i k) h1 rfl r_rHeld (no_bad rfl) rfl rfl rfl)
  have h := ov_cons h (xs := [chart]) (v := .sym .i64 (v 14)) rfl rfl ⟨Try.f17, _, Try.func17, by kernel_rfl, rfl⟩ (known (σ := s1 a b c d e key i k) h1 rfl r_cHeld (no_bad rfl) rfl rfl rfl)
  have h := ov_cons h (xs := [chart]) (v := .sym .i64 (v 13)) rfl rfl ⟨Try.f26, _, Try.func26, by kernel_rfl, rfl⟩ (known (σ := s1 a b c d e key i k) h1 rfl r_rShelf (no_bad rfl) rfl rfl rfl)
  have h := ov_cons h (xs := [chart]) (v := .sym .i64 (v 13)) rfl rfl ⟨Try.f16, _, Try.func16, by kernel_rfl, rfl⟩ (known (σ := s1 a b c d e key i k) h1 rfl r_cShelf (no_bad rfl) rfl rfl rfl)
  have h := ov_cons h (xs := [chart]) (v := .sym .i64 (v 12)) rfl rfl ⟨Try.f25, _, Try.func25, by kernel_rfl, rfl⟩ (known (σ := s1 a b c d e key i k) h1 rfl r_rLock (no_bad rfl) rfl rfl rfl)
  have h := ov_cons h (xs := [chart]) (v := .sym .i64 (v 12)) rfl rfl ⟨Try.f15, _, Try.func15, by kernel_rfl, rfl⟩ (known (σ := s1 a b c d e key i k) h1 rfl r_cLock (no_bad rfl) rfl rfl rfl)
  have h := ov_cons h (xs := [chart, i6]) (v := .sym .i64 (v 11)) rfl rfl ⟨Try.f24, _, Try.func24, by kernel_rfl, rfl⟩ (known (σ := s1 a b c d e key i k) h1 rfl r_rPart (no_bad rfl) rfl rfl rfl)
  have h := ov_cons h (xs := [chart, i6]) (v := .sym .i64 (v 11)) rfl rfl ⟨Try.f14, _, Try.func14, by kernel_rfl, rfl⟩ (known (σ := s1 a b c d e key i k) h1 rfl r_cPart (no_bad rfl) rfl rfl rfl)
  have h := ov_cons h (xs := [chart, i6]) (v := .sym .i64 (v 10)) rfl rfl ⟨Try.f23, _, Try.func23, by kernel_rfl, rfl⟩ (known (σ := s1 a b c d e key i k) h1 rfl r_rHead (no_bad rfl) rfl rfl rfl)
  have h := ov_cons h (xs := [chart, i6]) (v := .sym .i64 (v 10)) rfl rfl ⟨Try.f13, _, Try.func13, by kernel_rfl, rfl⟩ (known (σ := s1 a b c d e key i k) h1 rfl r_cHead (no_bad rfl) rfl rfl rfl)
  have h := ov_cons h (xs := [chart]) (v := .sym .i64 (v 9)) rfl rfl ⟨Try.f22, _, Try.func22, by kernel_rfl, rfl⟩ (known (σ := s1 a b c d e key i k) h1 rfl r_rWords (bad_words a b c d e key i k) rfl rfl rfl)
  have h := ov_cons h (xs := [chart]) (v := .sym .i64 (v 9)) rfl rfl ⟨Try.f12, _, Try.func12, by kernel_rfl, rfl⟩ (known (σ := s1 a b c d e key i k) h1 rfl r_cWords (bad_words a b c d e key i k) rfl rfl rfl)
  have h := ov_cons h (xs := [chart]) (v := .sym .i64 (v 8)) rfl rfl ⟨Try.f21, _, Try.func21, by kernel_rfl, rfl⟩ (known (σ := s0 a b c d e key i k) ov_nil rfl r_rCheck (no_bad rfl) rfl rfl (by rw [chkR_is a b c d e key i k ha hb hc]; show chk a b c d e key i k = _; unfold chk; rw [chk_is]))
  have h := ov_cons h (xs := [chart]) (v := .sym .i64 (v 8)) rfl rfl ⟨Try.f11, _, Try.func11, by kernel_rfl, rfl⟩ (known (σ := s0 a b c d e key i k) ov_nil rfl r_cCheck (no_bad rfl) rfl rfl rfl)
  exact h
theorem walk (W : World) (ha : I64 a) (hb : I64 b) (hc : I64 c) : Calls Try.prog 3 #[.agg #[.int .i64 a, .int .i64 b, .int .i64 c, .int .i64 d, .int .i64 e, .int .u64 key], .int .i64 i, .int .i64 k] W fun r w' => r = .returned (.bool true) ∧ Own W [] w' :=
  law_over (ok2 (d := d) (e := e) (key := key) (i := i) (k := k) ha hb hc) (args := [chart, i6, k7]) rfl .leaf rfl r_law (fun h => h) W tabs_nil
end
end Go.Proofs.Ytigakendeghoaaa.chartPlaces

/-
  Where a core's words lie: no two at one place, all within the words. Plain.
-/
namespace Go.Proofs.Ytigakendeghoaaa.Apart
/-- a processor's places -/
def cpuPl (i : Nat) : List Nat := [4 * i, 4 * i + 1, 4 * i + 2, 4 * i + 3]
/-- a slab's places -/
def slabPl (C S O s : Nat) : List Nat := [4 * C + 4 + 4 * s, 4 * C + 4 + 4 * s + 1, 4 * C + 4 + 4 * s + 2] ++ (List.range O).map fun i => 4 * C + 4 + 4 * S + s * O + i
def pl (C S O : Nat) : List Nat := [4 * C, 4 * C + 1, 4 * C + 2] ++ ((List.range C).flatMap cpuPl ++ (List.range S).flatMap (slabPl C S O))
theorem mem_cpu {C x : Nat} (h : x ∈ (List.range C).flatMap cpuPl) : x < 4 * C := by
  rw [List.mem_flatMap] at h
  obtain ⟨i, hi, hx⟩ := h
  rw [List.mem_range] at hi
  simp [cpuPl] at hx
  omega
theorem mem_slab {C S O s x : Nat} (hs : s < S) (h : x ∈ slabPl C S O s) : (4 * C + 4 + 4 * s ≤ x ∧ x < 4 * C + 4 + 4 * s + 3) ∨ (4 * C + 4 + 4 * S + s * O ≤ x ∧ x < 4 * C + 4 + 4 * S + (s + 1) * O) := by
  simp only [slabPl, List.mem_append, List.mem_cons, List.not_mem_nil, or_false, List.mem_map, List.mem_range] at h
  rw [Nat.add_mul, Nat.one_mul]
  rcases h with h | ⟨i, hi, rfl⟩
  · left; omega
  · right; omega
theorem mem_pl {C S O x : Nat} (h : x ∈ pl C S O) : x < 4 * C + 4 + 4 * S + S * O := by
  simp only [pl, List.mem_append, List.mem_cons, List.not_mem_nil, or_false] at h
  rcases h with h | h | h
  · omega
  · have := mem_cpu h; omega
  · rw [List.mem_flatMap] at h
    obtain ⟨s, hs, hx⟩ := h
    rw [List.mem_range] at hs
    have hm : (s + 1) * O ≤ S * O := Nat.mul_le_mul_right O hs
    rcases mem_slab hs hx with h | h <;> omega
theorem range_pairs (n : Nat) : (List.range n).Pairwise (fun a b => a < b) := List.pairwise_lt_range
theorem nodup_cpu (C : Nat) : ((List.range C).flatMap cpuPl).Pairwise (· ≠ ·) := by
  rw [List.pairwise_flatMap]
  refine ⟨fun i _ => by simp [cpuPl], (range_pairs C).imp ?_⟩
  intro a b hab x hx y hy
  simp [cpuPl] at hx hy
  omega
theorem nodup_slab (C S O : Nat) : ((List.range S).flatMap (slabPl C S O)).Pairwise (· ≠ ·) := by
  rw [List.pairwise_flatMap]
  refine ⟨fun s hs => ?_, ?_⟩
  · rw [List.mem_range] at hs
    unfold slabPl
    rw [List.pairwise_append]
    refine ⟨by simp, ?_, ?_⟩
    · rw [List.pairwise_map]
      exact (range_pairs O).imp fun h => by omega
    · intro x hx y hy
      simp only [List.mem_cons, List.not_mem_nil, or_false] at hx
      rw [List.mem_map] at hy
      obtain ⟨i, _, rfl⟩ := hy
      omega
  · rw [List.pairwise_iff_forall_sublist]
    intro a b hab x hx y hy
    have hlt : a < b := by
      have := (range_pairs S).sublist hab
      simpa using this
    have hb : b < S := by
      have := hab.subset (List.mem_cons_of_mem _ List.mem_cons_self)
      simpa using this
    have hm : (a + 1) * O ≤ b * O := Nat.mul_le_mul_right O hlt
    rcases mem_slab (by omega) hx with h1 | h1 <;> rcases mem_slab hb hy with h2 | h2 <;> omega
theorem nodup_pl (C S O : Nat) : (pl C S O).Pairwise (· ≠ ·) := by
  unfold pl
  rw [List.pairwise_append, List.pairwise_append]
  refine ⟨by simp, ⟨nodup_cpu C, nodup_slab C S O, ?_⟩, ?_⟩
  · intro x hx y hy
    have := mem_cpu hx
    rw [List.mem_flatMap] at hy
    obtain ⟨s, hs, hy⟩ := hy
    rw [List.mem_range] at hs
    rcases mem_slab hs hy with h | h <;> omega
  · intro x hx y hy
    simp only [List.mem_cons, List.not_mem_nil, or_false] at hx
    rw [List.mem_append] at hy
    rcases hy with hy | hy
    · have := mem_cpu hy; omega
    · rw [List.mem_flatMap] at hy
      obtain ⟨s, hs, hy⟩ := hy
      rw [List.mem_range] at hs
      rcases mem_slab hs hy with h | h <;> omega
end Go.Proofs.Ytigakendeghoaaa.Apart

/-
  The places of a chart that may be: contracts out of the trees. No condition.
-/
namespace Go.Proofs.Ytigakendeghoaaa.Apart
open Go Ex chartPlaces
/-- a chart as a value -/
abbrev chV (C S O d e key : Int) : Value := .agg #[.int .i64 C, .int .i64 S, .int .i64 O, .int .i64 d, .int .i64 e, .int .u64 key]
theorem wrap_id {n : Int} (h : -9223372036854775808 ≤ n ∧ n ≤ 9223372036854775807) : IntKind.i64.wrap n = n := by
  simp [IntKind.wrap, IntKind.signed, IntKind.bits]
  split <;> omega
section
variable {C S O d e key i k : Int} {W w : World} {m : List (Nat × Obj)}
theorem ok_64 (h : Ok C S O d e) : I64 C ∧ I64 S ∧ I64 O := by unfold Ok at h; unfold I64; omega
theorem s1_8 (h : Ok C S O d e) : s1 C S O d e key i k 8 = 0 := by
  show chartPlaces.chk C S O d e key i k = 0
  unfold chartPlaces.chk
  rw [chk_is, if_pos h]
  rfl
theorem place (h : Ok C S O d e) {f : FuncId} {xs : List AV} {t : DT} (ht : tree Try.prog [] ov1 30 f xs t [] = true) (ha : AV.shuts xs = true) (hb : ¬ BadP (s1 C S O d e key i k) t) (hO : Own W m w) :
    Calls Try.prog f (valsOf (s1 C S O d e key i k) xs).toArray w fun r w' => r = .returned (endOf (s1 C S O d e key i k) t) ∧ Own W m w' := by
  obtain ⟨h1, h2, h3⟩ := ok_64 h
  refine (tree_ends mixed (ok1 h1 h2 h3) ha t [] (by simp) ht hb w tabs_nil).mono ?_
  rintro _ _ ⟨⟨x, rfl, hx⟩, h2⟩
  exact ⟨by rw [ends_of hx], hO.then_below h2⟩
theorem mul_ok (h : Ok C S O d e) : 0 ≤ S * O ∧ S * O ≤ 512 := by
  unfold Ok at h
  have h1 : S * O ≤ 32 * O := Int.mul_le_mul_of_nonneg_right (by omega) (by omega)
  have h2 : 0 ≤ S * O := Int.mul_nonneg (by omega) (by omega)
  omega
theorem check_ok (h : Ok C S O d e) (hO : Own W m w) : Calls Try.prog 11 #[chV C S O d e key] w fun r w' => r = .returned (.int .i64 0) ∧ Own W m w' := by
  refine (tree_ends (σ := s0 C S O d e key 0 0) mixed ov_nil (args := [chart]) rfl tChk [] (by simp) r_cCheck (no_bad rfl) w tabs_nil).mono ?_
  rintro _ _ ⟨⟨x, rfl, hx⟩, h2⟩
  refine ⟨?_, hO.then_below h2⟩
  rw [ends_of hx, chk_is, if_pos h]
theorem words_ok (h : Ok C S O d e) (hO : Own W m w) : Calls Try.prog 12 #[chV C S O d e key] w fun r w' => r = .returned (.int .i64 (4 * C + 4 + 4 * S + S * O)) ∧ Own W m w' := by
  refine (place (key := key) (i := 0) (k := 0) h r_cWords rfl (bad_words _ _ _ _ _ _ _ _) hO).mono ?_
  rintro _ _ ⟨rfl, h2⟩
  refine ⟨?_, h2⟩
  have hm := mul_ok h
  have h8 := s1_8 (key := key) (i := 0) (k := 0) h
  have e0 : s1 C S O d e key 0 0 0 = C := rfl
  have e1 : s1 C S O d e key 0 0 1 = S := rfl
  have e2 : s1 C S O d e key 0 0 2 = O := rfl
  unfold Ok at h
  simp only [tWords, chain, endOf, Cnd.ev, okQ, v, l, SE.ev, is, num, h8, e0, e1, e2, Ex.valOf, add, mul, links, slabs, base, decide_eq_true_eq, beq_self_eq_true, if_true]
  rw [if_neg (by omega), if_neg (by omega), if_neg (by omega), if_neg (by omega), if_neg (by omega), if_neg (by omega)]
  rw [wrap_id (n := 4 * C) (by omega), wrap_id (n := 4 * C + 4) (by omega), wrap_id (n := 4 * S) (by omega), wrap_id (n := 4 * C + 4 + 4 * S) (by omega), wrap_id (n := S * O) (by omega), wrap_id (n := 4 * C + 4 + 4 * S + S * O) (by omega)]
theorem lock_ok (h : Ok C S O d e) (hO : Own W m w) : Calls Try.prog 15 #[chV C S O d e key] w fun r w' => r = .returned (.int .i64 (4 * C)) ∧ Own W m w' := by
  refine (place (key := key) (i := 0) (k := 0) h r_cLock rfl (no_bad rfl) hO).mono ?_
  rintro _ _ ⟨rfl, h2⟩
  refine ⟨?_, h2⟩
  have h8 := s1_8 (key := key) (i := 0) (k := 0) h
  have e0 : s1 C S O d e key 0 0 0 = C := rfl
  have e1 : s1 C S O d e key 0 0 1 = S := rfl
  have e2 : s1 C S O d e key 0 0 2 = O := rfl
  have e6 : s1 C S O d e key 0 0 6 = 0 := rfl
  have e7 : s1 C S O d e key 0 0 7 = 0 := rfl
  unfold Ok at h
  simp only [tLock, t0, t1, endOf, Cnd.ev, okQ, v, l, SE.ev, is, no, num, h8, e0, e1, e2, e6, e7, Ex.valOf, add, mul, links, slabs, base, decide_eq_true_eq, beq_self_eq_true, if_true]
  rw [wrap_id (n := 4 * C) (by omega)]
theorem shelf_ok (h : Ok C S O d e) (hO : Own W m w) : Calls Try.prog 16 #[chV C S O d e key] w fun r w' => r = .returned (.int .i64 (4 * C + 1)) ∧ Own W m w' := by
  refine (place (key := key) (i := 0) (k := 0) h r_cShelf rfl (no_bad rfl) hO).mono ?_
  rintro _ _ ⟨rfl, h2⟩
  refine ⟨?_, h2⟩
  have h8 := s1_8 (key := key) (i := 0) (k := 0) h
  have e0 : s1 C S O d e key 0 0 0 = C := rfl
  have e1 : s1 C S O d e key 0 0 1 = S := rfl
  have e2 : s1 C S O d e key 0 0 2 = O := rfl
  have e6 : s1 C S O d e key 0 0 6 = 0 := rfl
  have e7 : s1 C S O d e key 0 0 7 = 0 := rfl
  unfold Ok at h
  simp only [tShelf, t0, t1, endOf, Cnd.ev, okQ, v, l, SE.ev, is, no, num, h8, e0, e1, e2, e6, e7, Ex.valOf, add, mul, links, slabs, base, decide_eq_true_eq, beq_self_eq_true, if_true]
  rw [wrap_id (n := 4 * C) (by omega), wrap_id (n := 4 * C + 1) (by omega)]
theorem held_ok (h : Ok C S O d e) (hO : Own W m w) : Calls Try.prog 17 #[chV C S O d e key] w fun r w' => r = .returned (.int .i64 (4 * C + 2)) ∧ Own W m w' := by
  refine (place (key := key) (i := 0) (k := 0) h r_cHeld rfl (no_bad rfl) hO).mono ?_
  rintro _ _ ⟨rfl, h2⟩
  refine ⟨?_, h2⟩
  have h8 := s1_8 (key := key) (i := 0) (k := 0) h
  have e0 : s1 C S O d e key 0 0 0 = C := rfl
  have e1 : s1 C S O d e key 0 0 1 = S := rfl
  have e2 : s1 C S O d e key 0 0 2 = O := rfl
  have e6 : s1 C S O d e key 0 0 6 = 0 := rfl
  have e7 : s1 C S O d e key 0 0 7 = 0 := rfl
  unfold Ok at h
  simp only [tHeld, t0, t1, endOf, Cnd.ev, okQ, v, l, SE.ev, is, no, num, h8, e0, e1, e2, e6, e7, Ex.valOf, add, mul, links, slabs, base, decide_eq_true_eq, beq_self_eq_true, if_true]
  rw [wrap_id (n := 4 * C) (by omega), wrap_id (n := 4 * C + 2) (by omega)]
theorem head_ok (h : Ok C S O d e) (hi : 0 ≤ i ∧ i < C) (hO : Own W m w) : Calls Try.prog 13 #[chV C S O d e key, .int .i64 i] w fun r w' => r = .returned (.int .i64 (4 * i)) ∧ Own W m w' := by
  refine (place (key := key) (i := i) (k := 0) h r_cHead rfl (no_bad rfl) hO).mono ?_
  rintro _ _ ⟨rfl, h2⟩
  refine ⟨?_, h2⟩
  have h8 := s1_8 (key := key) (i := i) (k := 0) h
  have e0 : s1 C S O d e key i 0 0 = C := rfl
  have e1 : s1 C S O d e key i 0 1 = S := rfl
  have e2 : s1 C S O d e key i 0 2 = O := rfl
  have e6 : s1 C S O d e key i 0 6 = i := rfl
  have e7 : s1 C S O d e key i 0 7 = 0 := rfl
  unfold Ok at h
  simp only [tHead, t0, t1, endOf, Cnd.ev, okQ, v, l, SE.ev, is, no, num, h8, e0, e1, e2, e6, e7, Ex.valOf, add, mul, links, slabs, base, decide_eq_true_eq, beq_self_eq_true, if_true]
  rw [if_neg (by omega), if_pos (by omega)]
  rw [wrap_id (n := 4 * i) (by omega)]
theorem part_ok (h : Ok C S O d e) (hi : 0 ≤ i ∧ i < C) (hO : Own W m w) : Calls Try.prog 14 #[chV C S O d e key, .int .i64 i] w fun r w' => r = .returned (.int .i64 (4 * i + 2)) ∧ Own W m w' := by
  refine (place (key := key) (i := i) (k := 0) h r_cPart rfl (no_bad rfl) hO).mono ?_
  rintro _ _ ⟨rfl, h2⟩
  refine ⟨?_, h2⟩
  have h8 := s1_8 (key := key) (i := i) (k := 0) h
  have e0 : s1 C S O d e key i 0 0 = C := rfl
  have e1 : s1 C S O d e key i 0 1 = S := rfl
  have e2 : s1 C S O d e key i 0 2 = O := rfl
  have e6 : s1 C S O d e key i 0 6 = i := rfl
  have e7 : s1 C S O d e key i 0 7 = 0 := rfl
  unfold Ok at h
  simp only [tPart, t0, t1, endOf, Cnd.ev, okQ, v, l, SE.ev, is, no, num, h8, e0, e1, e2, e6, e7, Ex.valOf, add, mul, links, slabs, base, decide_eq_true_eq, beq_self_eq_true, if_true]
  rw [if_neg (by omega), if_pos (by omega)]
  rw [wrap_id (n := 4 * i) (by omega), wrap_id (n := 4 * i + 2) (by omega)]
theorem first_ok (h : Ok C S O d e) (hi : 0 ≤ i ∧ i < S) (hO : Own W m w) : Calls Try.prog 18 #[chV C S O d e key, .int .i64 i] w fun r w' => r = .returned (.int .i64 (4 * C + 4 + 4 * i)) ∧ Own W m w' := by
  refine (place (key := key) (i := i) (k := 0) h r_cFirst rfl (no_bad rfl) hO).mono ?_
  rintro _ _ ⟨rfl, h2⟩
  refine ⟨?_, h2⟩
  have h8 := s1_8 (key := key) (i := i) (k := 0) h
  have e0 : s1 C S O d e key i 0 0 = C := rfl
  have e1 : s1 C S O d e key i 0 1 = S := rfl
  have e2 : s1 C S O d e key i 0 2 = O := rfl
  have e6 : s1 C S O d e key i 0 6 = i := rfl
  have e7 : s1 C S O d e key i 0 7 = 0 := rfl
  unfold Ok at h
  simp only [tFirst, t0, t1, endOf, Cnd.ev, okQ, v, l, SE.ev, is, no, num, h8, e0, e1, e2, e6, e7, Ex.valOf, add, mul, links, slabs, base, decide_eq_true_eq, beq_self_eq_true, if_true]
  rw [if_neg (by omega), if_pos (by omega)]
  rw [wrap_id (n := 4 * C) (by omega), wrap_id (n := 4 * C + 4) (by omega), wrap_id (n := 4 * i) (by omega), wrap_id (n := 4 * C + 4 + 4 * i) (by omega)]
theorem next_ok (h : Ok C S O d e) (hi : 0 ≤ i ∧ i < S) (hO : Own W m w) : Calls Try.prog 19 #[chV C S O d e key, .int .i64 i] w fun r w' => r = .returned (.int .i64 (4 * C + 4 + 4 * i + 2)) ∧ Own W m w' := by
  refine (place (key := key) (i := i) (k := 0) h r_cNext rfl (no_bad rfl) hO).mono ?_
  rintro _ _ ⟨rfl, h2⟩
  refine ⟨?_, h2⟩
  have h8 := s1_8 (key := key) (i := i) (k := 0) h
  have e0 : s1 C S O d e key i 0 0 = C := rfl
  have e1 : s1 C S O d e key i 0 1 = S := rfl
  have e2 : s1 C S O d e key i 0 2 = O := rfl
  have e6 : s1 C S O d e key i 0 6 = i := rfl
  have e7 : s1 C S O d e key i 0 7 = 0 := rfl
  unfold Ok at h
  simp only [tNext, t0, t1, endOf, Cnd.ev, okQ, v, l, SE.ev, is, no, num, h8, e0, e1, e2, e6, e7, Ex.valOf, add, mul, links, slabs, base, decide_eq_true_eq, beq_self_eq_true, if_true]
  rw [if_neg (by omega), if_pos (by omega)]
  rw [wrap_id (n := 4 * C) (by omega), wrap_id (n := 4 * C + 4) (by omega), wrap_id (n := 4 * i) (by omega), wrap_id (n := 4 * C + 4 + 4 * i) (by omega), wrap_id (n := 4 * C + 4 + 4 * i + 2) (by omega)]
theorem link_ok (h : Ok C S O d e) (hi : 0 ≤ i ∧ i < S) (hk : 0 ≤ k ∧ k < O) (hO : Own W m w) : Calls Try.prog 20 #[chV C S O d e key, .int .i64 i, .int .i64 k] w fun r w' => r = .returned (.int .i64 (4 * C + 4 + 4 * S + i * O + k)) ∧ Own W m w' := by
  refine (place (key := key) (i := i) (k := k) h r_cLink rfl (no_bad rfl) hO).mono ?_
  rintro _ _ ⟨rfl, h2⟩
  refine ⟨?_, h2⟩
  have hm : 0 ≤ i * O ∧ i * O ≤ 32 * O := ⟨Int.mul_nonneg (by omega) (by omega), Int.mul_le_mul_of_nonneg_right (by unfold Ok at h; omega) (by omega)⟩
  have h8 := s1_8 (key := key) (i := i) (k := k) h
  have e0 : s1 C S O d e key i k 0 = C := rfl
  have e1 : s1 C S O d e key i k 1 = S := rfl
  have e2 : s1 C S O d e key i k 2 = O := rfl
  have e6 : s1 C S O d e key i k 6 = i := rfl
  have e7 : s1 C S O d e key i k 7 = k := rfl
  unfold Ok at h
  simp only [tLink, t0, t1, endOf, Cnd.ev, okQ, v, l, SE.ev, is, no, num, h8, e0, e1, e2, e6, e7, Ex.valOf, add, mul, links, slabs, base, decide_eq_true_eq, beq_self_eq_true, if_true]
  rw [if_neg (by omega), if_pos (by omega), if_neg (by omega), if_pos (by omega)]
  rw [wrap_id (n := 4 * C) (by omega), wrap_id (n := 4 * C + 4) (by omega), wrap_id (n := 4 * S) (by omega), wrap_id (n := 4 * C + 4 + 4 * S) (by omega), wrap_id (n := i * O) (by omega), wrap_id (n := 4 * C + 4 + 4 * S + i * O) (by omega), wrap_id (n := 4 * C + 4 + 4 * S + i * O + k) (by omega)]
end
end Go.Proofs.Ytigakendeghoaaa.Apart

/-
  wainscotref00.Bring brings a number to be from 0 to below another one, which is above 0 and at most 2^62.
-/
namespace Go.Proofs.Ytigakendeghoaaa
open Go.RowKit

theorem tmod_emod (i n : Int) (hn : 1 ≤ n) : -n < i.tmod n ∧ i.tmod n < n ∧ (i.tmod n < 0 → i.tmod n + n = i % n) ∧ (0 ≤ i.tmod n → i.tmod n = i % n) := by
  have h1 := Int.emod_nonneg i (show n ≠ 0 from by omega)
  have h2 := Int.emod_lt_of_pos i (show 0 < n from by omega)
  have h3 := Int.tmod_eq_emod (a := i) (b := n)
  have h4 : n ∣ i ↔ i % n = 0 := Int.dvd_iff_emod_eq_zero
  have h5 : (n.natAbs : Int) = n := by omega
  have h6 : 0 ≤ i → 0 ≤ i.tmod n := fun h => Int.tmod_nonneg n h
  by_cases h0 : 0 ≤ i ∨ n ∣ i
  · rw [if_pos h0] at h3
    omega
  · rw [if_neg h0, h5] at h3
    have : ¬ n ∣ i := fun h => h0 (.inr h)
    have h7 : i % n ≠ 0 := fun h => this (h4.2 h)
    omega
theorem i64_of_wf {n : Int} (h : (Lit.int .i64 n).wf = true) : -9223372036854775808 ≤ n ∧ n ≤ 9223372036854775807 := by
  simpa [Lit.wf, IntKind.min, IntKind.max, IntKind.signed, IntKind.bits] using h
theorem emod_bd (i n : Int) (hn : 1 ≤ n) : 0 ≤ i % n ∧ i % n < n := ⟨Int.emod_nonneg _ (by omega), Int.emod_lt_of_pos _ (by omega)⟩

set_option maxHeartbeats 400000 in
theorem bring_spec (i n : Int) (h1 : 1 ≤ n) (h2 : n ≤ 4611686018427387904) (hi : (Lit.int .i64 i).wf = true) (w : World) :
    Calls Try.prog 43 #[.int .i64 i, .int .i64 n] w fun e w' => e = .returned (.int .i64 (i % n)) ∧ w = w' := by
  obtain ⟨t1, t2, t3, t4⟩ := tmod_emod i n h1
  have hi := i64_of_wf hi
  have T3 := Lib.hid t3
  have T4 := Lib.hid t4
  clear t3 t4
  by_cases h0 : 0 ≤ i
  · have hp : i.tmod n = i % n := T4.out (Int.tmod_nonneg n h0)
    have hq := emod_bd i n h1
    have H := Lib.hid hp
    clear hp
    go_enter Try.func43, Try.ntmps43
    go_wp2
    all_goals first | (exfalso; omega) | skip
    all_goals go_ret
    all_goals exact ⟨rfl, rfl⟩
  · go_enter Try.func43, Try.ntmps43
    go_wp2
    all_goals go_ret
    · rename_i hlt
      exact ⟨by simpa using T3.out (by assumption), rfl⟩
    · exact ⟨by simpa using T4.out (by assumption), rfl⟩
theorem bring_id (i n : Int) (h0 : 0 ≤ i) (h1 : i < n) (h2 : n ≤ 4611686018427387904) (w : World) :
    Calls Try.prog 43 #[.int .i64 i, .int .i64 n] w fun e w' => e = .returned (.int .i64 i) ∧ w = w' := by
  have c := bring_spec i n (by omega) h2 (by simp [Lit.wf, IntKind.min, IntKind.max, IntKind.signed, IntKind.bits]; omega) w
  rwa [Int.emod_eq_of_lt h0 h1] at c
end Go.Proofs.Ytigakendeghoaaa

/-
  A chart that may be, out of any. No condition.
-/
namespace Go.Proofs.Ytigakendeghoaaa.Apart
open Go Ex chartPlaces
def five (j : Nat) (n : Int) : Nat × List AV × AV := (43, [.sym .i64 (v j), .int .i64 n], .sym .i64 (v (6 + j)))
def ovB : Ov := [five 0 8, five 1 32, five 2 16, five 3 33, five 4 33]
def one (j : Nat) : AV := .sym .i64 (.bin .add (l 1) (v (6 + j)))
def tMade : DT := .is (.agg [one 0, one 1, one 2, .sym .i64 (v 9), .sym .i64 (v 10), .sym .u64 (v 5)])
theorem r_made : tree Try.prog [] ovB 30 40 [chart] tMade [] = true := by kernel_rfl
section
variable {a b c d e key : Int} {W w : World} {m : List (Nat × Obj)}
def sB (a b c d e key : Int) : Nat → Int := fun n => [a, b, c, d, e, key, a % 8, b % 32, c % 16, d % 33, e % 33].getD n 0
theorem okB (ha : (Lit.int .i64 a).wf = true) (hb : (Lit.int .i64 b).wf = true) (hc : (Lit.int .i64 c).wf = true) (hd : (Lit.int .i64 d).wf = true) (he : (Lit.int .i64 e).wf = true) : OvOk Try.prog [] (sB a b c d e key) ovB := by
  have one : ∀ (x n : Int) (hx : (Lit.int .i64 x).wf = true) (h1 : 1 ≤ n) (h2 : n ≤ 64) (w : World), Tabs [] w → Calls Try.prog 43 #[.int .i64 x, .int .i64 n] w fun r w' => r = .returned (.int .i64 (x % n)) ∧ RowKit.Below w.heap.size w w' :=
    fun x n hx h1 h2 w _ => (bring_spec x n h1 (by omega) hx w).mono fun _ _ h => ⟨h.1, h.2 ▸ RowKit.Below.refl _ _⟩
  have hf : FnOk Try.prog 43 := ⟨Try.f43, _, Try.func43, by kernel_rfl, rfl⟩
  exact ov_cons (ov_cons (ov_cons (ov_cons (ov_cons ov_nil rfl rfl hf (one e 33 he (by omega) (by omega))) rfl rfl hf (one d 33 hd (by omega) (by omega))) rfl rfl hf (one c 16 hc (by omega) (by omega))) rfl rfl hf (one b 32 hb (by omega) (by omega))) rfl rfl hf (one a 8 ha (by omega) (by omega))
theorem made_ok (ha : (Lit.int .i64 a).wf = true) (hb : (Lit.int .i64 b).wf = true) (hc : (Lit.int .i64 c).wf = true) (hd : (Lit.int .i64 d).wf = true) (he : (Lit.int .i64 e).wf = true) (hO : Own W m w) :
    Calls Try.prog 40 #[chV a b c d e key] w fun r w' => (∃ C S O d' e', Ok C S O d' e' ∧ r = .returned (chV C S O d' e' key)) ∧ Own W m w' := by
  refine (tree_ends (σ := sB a b c d e key) mixed (okB ha hb hc hd he) (args := [chart]) rfl tMade [] (by simp) r_made (no_bad rfl) w tabs_nil).mono ?_
  rintro _ _ ⟨⟨x, rfl, hx⟩, h2⟩
  refine ⟨⟨1 + a % 8, 1 + b % 32, 1 + c % 16, d % 33, e % 33, by unfold Ok; omega, ?_⟩, hO.then_below h2⟩
  rw [ends_of hx]
  have w1 : IntKind.i64.wrap (1 + a % 8) = 1 + a % 8 := wrap_id (by omega)
  have w2 : IntKind.i64.wrap (1 + b % 32) = 1 + b % 32 := wrap_id (by omega)
  have w3 : IntKind.i64.wrap (1 + c % 16) = 1 + c % 16 := wrap_id (by omega)
  have e : endOf (sB a b c d e key) tMade = chV (IntKind.i64.wrap (1 + a % 8)) (IntKind.i64.wrap (1 + b % 32)) (IntKind.i64.wrap (1 + c % 16)) (d % 33) (e % 33) key := rfl
  rw [e, w1, w2, w3]
end
end Go.Proofs.Ytigakendeghoaaa.Apart

/-
  append at a step of a region that draws its order: for 'go_region_held3'. No condition but sizes.
-/
namespace Go.Proofs.Ytigakendeghoaaa
open Go.RowKit
section
variable {W w : World} {m : List (Nat × Obj)} {e size n : Nat} {v : Value} {xs : List Value} {bs : List (Nat × Obj)} {P : Program}
/-- '((with_reducible refine step_app (by rfl) _ _ _ (by rfl) (by rfl) (by rfl) ..); intro v' w' bs' k1 k2)' -/
theorem step_app {ops : Array Oper} {o : Oper} {a : Act} {K : Act → World → Prop} {Q : Exit → Act → World → Prop} {E : Prop} (hgd : o.guard = none) (s x : Operand) (t : TypeId)
    (ho : o.op = .call { callee := .builtin .append, args := #[s, x], argTypes := #[t, t] }) {v xv : Value} (hes : a.eval s = v) (hex : a.eval x = xv)
    (e : TypeId) (i : TypeInfo) (z : Value) (size bytes : Nat) (ht : P.underlying t = some (.slice e)) (hi : P.info? e = some i) (hz : i.zero = some z)
    (hsize : i.size = size) (hby : i.bytes = bytes) (hzs : z.cells.size = size) (hsz : 0 < size)
    (hs : SlOwn e size v n xs bs) (hO : Own W (bs ++ m) w) {k : Nat} {news : List Value} (hx : Src w size xv k news) (h1 : ∀ u ∈ news, u.oneCell' = true)
    (h63 : n + k ≤ maxLen) (hbytes : (n + k) * bytes ≤ 140737488355328)
    (h : ∀ v' w' bs', SlOwn e size v' (n + k) (xs ++ news) bs' → Own W (bs' ++ m) w' → K (a.put o.dst v') w') :
    if Region.wanted o (yielded ops a.tmps) = true then Oper.wp P o a w K Q else E := by
  have hw : Region.wanted o (yielded ops a.tmps) = true := by simp [Region.wanted, hgd]
  rw [if_pos hw]
  obtain ⟨v', w', bs', hr, h2, h3, h4⟩ := run_app (P := P) t o.type e i z size bytes ht hi hz hsize hby hzs hsz hs hO hx h1 h63 hbytes
  unfold Oper.wp execOp
  simp only [ho, resolve, invoke, builtin, Sem.run_bind, Sem.run_pure, Result.andThen_ok, List.map_toArray, List.map_cons, List.map_nil, hes, hex, hr]
  exact h v' w' bs' h2 h3
end
end Go.Proofs.Ytigakendeghoaaa

/-
  Slices of numbers: append, one number, numbers that the code writes down.
-/
namespace Go.Proofs.Ytigakendeghoaaa
open Go.RowKit

theorem int_info : (Try.prog.info? 3).map (fun i => (i.zero, i.size, i.bytes)) = some (some (.int .i64 0), 1, 8) := by kernel_rfl
/-- numbers as values -/
def ints (l : List Int) : List Value := l.map fun n => .int .i64 n
theorem ints_len (l : List Int) : (ints l).length = l.length := by simp [ints]
theorem ints_get {l : List Int} {i : Nat} {n : Int} (h : l[i]? = some n) : (ints l)[i]? = some (.int .i64 n) := by simp [ints, h]
theorem ints_one (l : List Int) : ∀ u ∈ ints l, u.oneCell' = true := by
  intro u hu
  obtain ⟨n, _, rfl⟩ := List.mem_map.1 hu
  rfl
theorem ints_append (a b : List Int) : ints a ++ ints b = ints (a ++ b) := by simp [ints]
theorem ints_take (l : List Int) (k : Nat) : (ints l).take k = ints (l.take k) := by simp [ints]
theorem ints_drop (l : List Int) (k : Nat) : (ints l).drop k = ints (l.drop k) := by simp [ints]
theorem ints_set (l : List Int) (k : Nat) (n : Int) : (ints l).set k (.int .i64 n) = ints (l.set k n) := by simp [ints]
/-- a slice of numbers that the call owns -/
abbrev IntsOwn (ex : Bool) (v : Value) (l : List Int) (bs : List (Nat × Obj)) : Prop := SlO ex 3 1 v l.length (ints l) bs
/-- a slice that reads as numbers -/
abbrev IntsSrc (w : World) (v : Value) (l : List Int) : Prop := Src w 1 v l.length (ints l)

section
variable {W w : World} {m bs : List (Nat × Obj)} {v x : Value} {l l' : List Int}

/-- append, of numbers: 'at_builtin; refine wpList_app_ints rfl _ _ rfl rfl rfl hs hO hx hlen ?_; intro v' w' bs' h1 h2 h3' -/
theorem wpList_app_ints {ops : Array Oper} {rest : List Oper} {o : Oper} {a : Act} {Q : Exit → Act → World → Prop} (hgd : o.guard = none) (s x : Operand)
    (ho : o.op = .call { callee := .builtin .append, args := #[s, x], argTypes := #[30, 30] }) {v xv : Value} (hes : a.eval s = v) (hex : a.eval x = xv)
    (hs : IntsOwn true v l bs) (hO : Own W (bs ++ m) w) (hx : IntsSrc w xv l') (hlen : l.length + l'.length ≤ 60000)
    (h : ∀ v' w' bs', IntsOwn true v' (l ++ l') bs' → Own W (bs' ++ m) w' → (v' = .slice none 0 0 ↔ v = .slice none 0 0 ∧ l' = []) → wpList Try.prog ops Q rest (a.put o.dst v') w') :
    wpList Try.prog ops Q (o :: rest) a w := by
  obtain ⟨i, hi, hz, hsz, hb⟩ := info_get int_info
  refine wpList_app hgd s x _ ho hes hex 3 i _ 1 8 Try.underlying30 hi hz hsz hb rfl (by omega) hs hO hx (ints_one l') (by unfold maxLen; omega) (by omega) fun v' w' bs' h1 h2 h3 => ?_
  rw [ints_append, ← List.length_append] at h1
  exact h v' w' bs' h1 h2 (by rw [h3, List.length_eq_zero_iff])

/-- one number, in a block of its own -/
theorem src_one (w : World) (p : Int) : IntsSrc (w.alloc (.cells #[.int .i64 p] 3)) (.slice (some ⟨w.heap.size, 0, none⟩) 1 1) [p] := by
  refine ⟨rfl, .inr ⟨_, _, rfl, fun j u hj => ?_⟩⟩
  rw [add_lit0]
  match j, hj with
  | 0, hj => simp [ints] at hj; subst hj; simp
  | j + 1, hj => simp [ints] at hj

end
/-- structs that the code writes down, in a block of their own -/
theorem src_lit (w : World) (e : TypeId) (size n : Nat) (l : List Int) (hl : l.length = n * size) :
    Src (w.alloc (.cells (ints l).toArray e)) size (.slice (some ⟨w.heap.size, 0, none⟩) n n) n (ints l) := by
  refine ⟨by simpa [ints] using hl, .inr ⟨_, _, rfl, fun j u hj => ?_⟩⟩
  rw [add_lit0]
  simp [hj]

end Go.Proofs.Ytigakendeghoaaa

/-
  append of numbers at a step of a region that draws its order. No condition but sizes.
-/
namespace Go.Proofs.Ytigakendeghoaaa
open Go.RowKit
section
variable {W w : World} {m bs : List (Nat × Obj)} {l l' : List Int}
theorem step_app_ints {ops : Array Oper} {o : Oper} {a : Act} {K : Act → World → Prop} {Q : Exit → Act → World → Prop} {E : Prop} (hgd : o.guard = none) (s x : Operand)
    (ho : o.op = .call { callee := .builtin .append, args := #[s, x], argTypes := #[30, 30] }) {v xv : Value} (hes : a.eval s = v) (hex : a.eval x = xv)
    (hs : IntsOwn true v l bs) (hO : Own W (bs ++ m) w) (hx : IntsSrc w xv l') (hlen : l.length + l'.length ≤ 60000)
    (h : ∀ v' w' bs', IntsOwn true v' (l ++ l') bs' → Own W (bs' ++ m) w' → K (a.put o.dst v') w') :
    if Region.wanted o (yielded ops a.tmps) = true then Oper.wp Try.prog o a w K Q else E := by
  obtain ⟨i, hi, hz, hsz, hb⟩ := info_get int_info
  refine step_app hgd s x _ ho hes hex 3 i _ 1 8 Try.underlying30 hi hz hsz hb rfl (by omega) hs hO hx (ints_one l') (by unfold maxLen; omega) (by omega) fun v' w' bs' h1 h2 => ?_
  rw [ints_append, ← List.length_append] at h1
  exact h v' w' bs' h1 h2
end
end Go.Proofs.Ytigakendeghoaaa

/-
  The places of a chart, as the code lists them. No condition.
-/
namespace Go.Proofs.Ytigakendeghoaaa.Apart
open Go.RowKit
open chartPlaces (Ok)
attribute [local go_sem ↓] Go.wp_at_zero Go.wp_at_succ
def castN (l : List Nat) : List Int := l.map fun n => ((n : Nat) : Int)
theorem castN_append (a b : List Nat) : castN (a ++ b) = castN a ++ castN b := by simp [castN]
theorem castN_len (a : List Nat) : (castN a).length = a.length := by simp [castN]
/-- the first of them: processors' words, as many as k have -/
def plA (C k : Nat) : List Nat := [4 * C, 4 * C + 1, 4 * C + 2] ++ (List.range k).flatMap cpuPl
/-- .. and those of k slabs -/
def plB (C S O k : Nat) : List Nat := plA C C ++ (List.range k).flatMap (slabPl C S O)
/-- .. and of the next one, with j links -/
def plC (C S O k j : Nat) : List Nat := plB C S O k ++ ([4 * C + 4 + 4 * k, 4 * C + 4 + 4 * k + 1, 4 * C + 4 + 4 * k + 2] ++ (List.range j).map fun i => 4 * C + 4 + 4 * S + k * O + i)
theorem plA_succ (C k : Nat) : plA C (k + 1) = plA C k ++ cpuPl k := by simp [plA, List.range_succ]
theorem plB_zero (C S O : Nat) : plB C S O 0 = plA C C := by simp [plB]
theorem plC_succ (C S O k j : Nat) : plC C S O k (j + 1) = plC C S O k j ++ [4 * C + 4 + 4 * S + k * O + j] := by simp [plC, List.range_succ]
theorem plB_succ (C S O k : Nat) : plB C S O (k + 1) = plC C S O k O := by simp [plB, plC, List.range_succ, slabPl]
theorem pl_eq (C S O : Nat) : pl C S O = plB C S O S := by simp [pl, plB, plA]
theorem plA_len (C : Nat) : ∀ k, (plA C k).length = 3 + 4 * k
  | 0 => rfl
  | k + 1 => by rw [plA_succ, List.length_append, plA_len C k]; simp [cpuPl]; omega
theorem plC_len (C S O k : Nat) : ∀ j, (plC C S O k j).length = (plB C S O k).length + 3 + j
  | 0 => by simp [plC]
  | j + 1 => by rw [plC_succ, List.length_append, plC_len C S O k j]; simp; omega
theorem plB_len (C S O : Nat) : ∀ k, (plB C S O k).length = 3 + 4 * C + k * (3 + O)
  | 0 => by rw [plB_zero, plA_len]; omega
  | k + 1 => by
    have := Nat.succ_mul k (3 + O)
    rw [plB_succ, plC_len, plB_len C S O k]
    simp only [Nat.succ_eq_add_one] at this
    omega
section
variable {d e key : Int} {W w : World} {m : List (Nat × Obj)}
/-- a chart's block -/
def chB (b : Nat) (C S O d e key : Int) : Nat × Obj := (b, .cells #[.int .i64 C, .int .i64 S, .int .i64 O, .int .i64 d, .int .i64 e, .int .u64 key] 24)
def ChAt (w : World) (b : Nat) (C S O d e key : Int) : Prop :=
    w.cell? ⟨b, 0, none⟩ = some (.int .i64 C) ∧ w.cell? ⟨b, 1, none⟩ = some (.int .i64 S) ∧ w.cell? ⟨b, 2, none⟩ = some (.int .i64 O) ∧ w.cell? ⟨b, 3, none⟩ = some (.int .i64 d) ∧ w.cell? ⟨b, 4, none⟩ = some (.int .i64 e) ∧ w.cell? ⟨b, 5, none⟩ = some (.int .u64 key)
theorem box6 {b : Nat} {C S O d e key : Int} (h : Own W (chB b C S O d e key :: m) w) : ChAt w b C S O d e key :=
  ⟨h.cell List.mem_cons_self 0, h.cell List.mem_cons_self 1, h.cell List.mem_cons_self 2, h.cell List.mem_cons_self 3, h.cell List.mem_cons_self 4, h.cell List.mem_cons_self 5⟩
theorem box6' {b : Nat} {C S O d e key : Int} {bs : List (Nat × Obj)} (h : Own W (bs ++ chB b C S O d e key :: m) w) : ChAt w b C S O d e key := box6 (h.perm List.perm_middle)
set_option maxRecDepth 100000 in
set_option maxHeartbeats 4000000 in
theorem places_ok {C S O : Nat} (h : Ok C S O d e) (hO : Own W m w) : Calls Try.prog 41 #[chV C S O d e key] w fun r w' => ∃ v bs, r = .returned v ∧ IntsOwn true v (castN (pl C S O)) bs ∧ Own W (bs ++ m) w' := by
  have h0 : Own W (chB w.heap.size C S O d e key :: m) _ := hO.new (.cells #[.int .i64 C, .int .i64 S, .int .i64 O, .int .i64 d, .int .i64 e, .int .u64 key] 24)
  have hOk := Lib.hid h
  have hC : 1 ≤ C ∧ C ≤ 8 ∧ 1 ≤ S ∧ S ≤ 32 ∧ 1 ≤ O ∧ O ≤ 16 := by unfold Ok at h; omega
  obtain ⟨c1, c2, c3, c4, c5, c6⟩ := hC
  obtain ⟨y0, y1, y2, y3, y4, y5⟩ := box6 h0
  clear h
  unfold chV
  go_enter Try.func41, Try.ntmps41
  go_wp2_with fail
  go_region_held3 (fun w' => w'.cell? ⟨w.heap.size, 0, none⟩ = some (.int .i64 C) ∧ w'.cell? ⟨w.heap.size, 1, none⟩ = some (.int .i64 S) ∧ w'.cell? ⟨w.heap.size, 2, none⟩ = some (.int .i64 O) ∧ w'.cell? ⟨w.heap.size, 3, none⟩ = some (.int .i64 d) ∧ w'.cell? ⟨w.heap.size, 4, none⟩ = some (.int .i64 e) ∧ w'.cell? ⟨w.heap.size, 5, none⟩ = some (.int .u64 key))
    (first | assumption | go_keep)
    (first | (go_at_call 15; ((with_reducible refine (lock_ok hOk.out h0.drew).mono ?_); rintro r w1 ⟨rfl, h1⟩; have y1 := box6 h1)) | (go_at_call 16; ((with_reducible refine (shelf_ok hOk.out h1).mono ?_); rintro r w2 ⟨rfl, h2⟩; have y2 := box6 h2)) | (go_at_call 17; ((with_reducible refine (held_ok hOk.out h2).mono ?_); rintro r w3 ⟨rfl, h3⟩; have y3 := box6 h3)))
  have o3 : IntsOwn true (.slice (some ⟨w3.heap.size, 0, none⟩) 3 3) (castN (plA C 0)) [(w3.heap.size, .cells #[.int .i64 (4 * C), .int .i64 (4 * C + 1), .int .i64 (4 * C + 2)] 3)] := by
    have := SlO.made true 3 1 w3.heap.size 3 #[.int .i64 (4 * C), .int .i64 (4 * C + 1), .int .i64 (4 * C + 2)] 3 (Nat.le_refl _) (by unfold maxLen; omega) rfl
    have e : (#[Value.int .i64 (4 * C), .int .i64 (4 * C + 1), .int .i64 (4 * C + 2)] : Array Value).toList.take (3 * 1) = ints (castN (plA C 0)) := by simp [plA, castN, ints]
    rw [e] at this
    exact this
  have h4 : Own W ([(w3.heap.size, .cells #[.int .i64 (4 * C), .int .i64 (4 * C + 1), .int .i64 (4 * C + 2)] 3)] ++ chB w.heap.size C S O d e key :: m) _ := h3.new _
  have O3 := Lib.hid o3
  obtain ⟨wa, hwa⟩ : ∃ wa, w3.alloc (.cells #[.int .i64 (4 * C), .int .i64 (4 * C + 1), .int .i64 (4 * C + 2)] 3) = wa := ⟨_, rfl⟩
  rw [hwa] at h4 ⊢
  clear hwa
  clear h0 h1 h2 h3 y0 y1 y2 y3 y4 y5 o3
  go_wp2_with fail
  go_loopw [3, 4] (fun out i wr => ∃ (k : Nat) (bs : List (Nat × Obj)), k ≤ C ∧ i = .int .i64 k ∧ Hid (IntsOwn true out (castN (plA C k)) bs) ∧ Own W (bs ++ chB w.heap.size C S O d e key :: m) wr) (fun _ i _ => C - (intOf i).toNat)
  case atStart => exact ⟨0, _, by omega, rfl, O3, h4⟩
  case round =>
    clear h4 O3
    obtain ⟨k, bs, hk, rfl, HO, hr⟩ := hrel
    obtain ⟨y0, y1, y2, y3, y4, y5⟩ := box6' hr
    have hlen := plA_len C k
    rw [← castN_len] at hlen
    obtain ⟨A3, n3, hv, -, -⟩ := HO.out.slice
    subst hv
    have HLEN := Lib.hid hlen
    clear hlen
    by_cases hlt : k < C
    · have hlti : (k : Int) < C := by omega
      have hkk : 0 ≤ (k : Int) ∧ (k : Int) < (C : Int) := by omega
      have HK := Lib.hid hkk
      have hwp := hr.perm List.perm_middle
      have w1 : IntKind.i64.wrap (4 * (k : Int) + 1) = 4 * (k : Int) + 1 := by rw [IntWalk.i64_in] <;> omega
      have w2 : IntKind.i64.wrap (4 * (k : Int) + 2 + 1) = 4 * (k : Int) + 2 + 1 := by rw [IntWalk.i64_in] <;> omega
      have hsrc : ∀ w8 : World, IntsSrc (w8.alloc (.cells #[.int .i64 (4 * (k : Int)), .int .i64 (4 * (k : Int) + 1), .int .i64 (4 * (k : Int) + 2), .int .i64 (4 * (k : Int) + 2 + 1)] 3)) (.slice (some ⟨w8.heap.size, 0, none⟩) 4 4) [4 * (k : Int), 4 * (k : Int) + 1, 4 * (k : Int) + 2, 4 * (k : Int) + 2 + 1] := fun w8 => src_lit w8 3 1 4 [4 * (k : Int), 4 * (k : Int) + 1, 4 * (k : Int) + 2, 4 * (k : Int) + 2 + 1] rfl
      have HSRC := Lib.hid hsrc
      clear hkk hsrc
      go_wp2_with fail
      go_region_held3 (fun w' => w'.cell? ⟨w.heap.size, 0, none⟩ = some (.int .i64 C) ∧ w'.cell? ⟨w.heap.size, 1, none⟩ = some (.int .i64 S) ∧ w'.cell? ⟨w.heap.size, 2, none⟩ = some (.int .i64 O) ∧ w'.cell? ⟨w.heap.size, 3, none⟩ = some (.int .i64 d) ∧ w'.cell? ⟨w.heap.size, 4, none⟩ = some (.int .i64 e) ∧ w'.cell? ⟨w.heap.size, 5, none⟩ = some (.int .u64 key))
        (first | assumption | go_keep)
        (first
          | (go_at_call 13; (first | ((with_reducible refine (head_ok hOk.out HK.out h5).mono ?_); rintro r w6 ⟨rfl, h6⟩; have y6 := box6 h6) | ((with_reducible refine (head_ok hOk.out HK.out hwp.drew).mono ?_); rintro r w5 ⟨rfl, h5⟩; have y5 := box6 h5)))
          | (go_at_call 14; (first | ((with_reducible refine (part_ok hOk.out HK.out h7).mono ?_); rintro r w8 ⟨rfl, h8⟩; have y8 := box6 h8) | ((with_reducible refine (part_ok hOk.out HK.out h6).mono ?_); rintro r w7 ⟨rfl, h7⟩; have y7 := box6 h7)))
          | ((refine step_app_ints (by rfl) _ _ (by rfl) (by rfl) (by rfl) HO.out ((h8.perm List.perm_middle.symm).alloc _) (HSRC.out w8) (by rw [HLEN.out]; simp; omega) ?_); intro v' w' bs' k1 k2; have K1 := Lib.hid k1; clear k1; have y9 := box6' k2))
      go_wp2_with fail
      refine ⟨⟨k + 1, bs', by omega, by go_num, ?_, k2⟩, by simp [intOf]; omega⟩
      show IntsOwn true v' (castN (plA C (k + 1))) bs'
      have e : castN (plA C (k + 1)) = castN (plA C k) ++ [4 * (k : Int), 4 * (k : Int) + 1, 4 * (k : Int) + 2, 4 * (k : Int) + 2 + 1] := by
        rw [plA_succ, castN_append]
        simp [castN, cpuPl]
        omega
      rw [e]
      exact K1.out
    · have hkC : k = C := by omega
      subst hkC
      have hlti : ¬ (k : Int) < k := by omega
      go_wp2_with fail
      go_loopw [3, 5] (fun out i wr => ∃ (q : Nat) (bs : List (Nat × Obj)), q ≤ S ∧ i = .int .i64 q ∧ Hid (IntsOwn true out (castN (plB k S O q)) bs) ∧ Own W (bs ++ chB w.heap.size k S O d e key :: m) wr) (fun _ i _ => S - (intOf i).toNat)
      case atStart => exact ⟨0, _, by omega, rfl, by rw [plB_zero]; exact HO, hr⟩
      case round =>
        clear hr HO y0 y1 y2 y3 y4 y5 HLEN hlt hlti
        obtain ⟨q, bs, hq, rfl, HO, hr⟩ := hrel
        obtain ⟨y0, y1, y2, y3, y4, y5⟩ := box6' hr
        have hqm : q * (3 + O) ≤ S * (3 + O) := Nat.mul_le_mul_right _ hq
        have hSm : S * (3 + O) ≤ 32 * 19 := Nat.mul_le_mul c4 (by omega)
        have hlen := plB_len k S O q
        rw [← castN_len] at hlen
        have hl2 : (castN (plB k S O q)).length ≤ 700 := by omega
        have HLEN := Lib.hid hl2
        obtain ⟨A3, n3, hv, -, -⟩ := HO.out.slice
        subst hv
        clear hlen hl2 hqm hSm
        by_cases hlt : q < S
        · have hlti : (q : Int) < S := by omega
          have hqq : 0 ≤ (q : Int) ∧ (q : Int) < (S : Int) := by omega
          have HK := Lib.hid hqq
          have hwp := hr.perm List.perm_middle
          have w1 : IntKind.i64.wrap (4 * (k : Int) + 4 + 4 * (q : Int) + 1) = 4 * (k : Int) + 4 + 4 * (q : Int) + 1 := by rw [IntWalk.i64_in] <;> omega
          have hsrc : ∀ w8 : World, IntsSrc (w8.alloc (.cells #[.int .i64 (4 * (k : Int) + 4 + 4 * (q : Int)), .int .i64 (4 * (k : Int) + 4 + 4 * (q : Int) + 1), .int .i64 (4 * (k : Int) + 4 + 4 * (q : Int) + 2)] 3)) (.slice (some ⟨w8.heap.size, 0, none⟩) 3 3) [4 * (k : Int) + 4 + 4 * (q : Int), 4 * (k : Int) + 4 + 4 * (q : Int) + 1, 4 * (k : Int) + 4 + 4 * (q : Int) + 2] := fun w8 => src_lit w8 3 1 3 [4 * (k : Int) + 4 + 4 * (q : Int), 4 * (k : Int) + 4 + 4 * (q : Int) + 1, 4 * (k : Int) + 4 + 4 * (q : Int) + 2] rfl
          have HSRC := Lib.hid hsrc
          clear hqq hsrc
          go_wp2_with fail
          go_region_held3 (fun w' => w'.cell? ⟨w.heap.size, 0, none⟩ = some (.int .i64 k) ∧ w'.cell? ⟨w.heap.size, 1, none⟩ = some (.int .i64 S) ∧ w'.cell? ⟨w.heap.size, 2, none⟩ = some (.int .i64 O) ∧ w'.cell? ⟨w.heap.size, 3, none⟩ = some (.int .i64 d) ∧ w'.cell? ⟨w.heap.size, 4, none⟩ = some (.int .i64 e) ∧ w'.cell? ⟨w.heap.size, 5, none⟩ = some (.int .u64 key))
            (first | assumption | go_keep)
            (first
              | (go_at_call 18; (first | ((with_reducible refine (first_ok hOk.out HK.out h5).mono ?_); rintro r w6 ⟨rfl, h6⟩; have y6 := box6 h6) | ((with_reducible refine (first_ok hOk.out HK.out hwp.drew).mono ?_); rintro r w5 ⟨rfl, h5⟩; have y5 := box6 h5)))
              | (go_at_call 19; ((with_reducible refine (next_ok hOk.out HK.out h6).mono ?_); rintro r w7 ⟨rfl, h7⟩; have y7 := box6 h7))
              | ((refine step_app_ints (by rfl) _ _ (by rfl) (by rfl) (by rfl) HO.out ((h7.perm List.perm_middle.symm).alloc _) (HSRC.out w7) (by have := HLEN.out; simp; omega) ?_); intro v' w' bs' k1 k2; have K1 := Lib.hid k1; clear k1; have y9 := box6' k2))
          have K2 : Hid (IntsOwn true v' (castN (plC k S O q 0)) bs') := by
            show IntsOwn true v' (castN (plC k S O q 0)) bs'
            have e : castN (plC k S O q 0) = castN (plB k S O q) ++ [4 * (k : Int) + 4 + 4 * (q : Int), 4 * (k : Int) + 4 + 4 * (q : Int) + 1, 4 * (k : Int) + 4 + 4 * (q : Int) + 2] := by
              unfold plC
              rw [castN_append]
              simp [castN]
            rw [e]
            exact K1.out
          clear K1 h5 h6 h7 y6 y7 w1 hwp
          go_wp2_with fail
          go_loopw [3, 6] (fun out i wr => ∃ (j : Nat) (bs : List (Nat × Obj)), j ≤ O ∧ i = .int .i64 j ∧ Hid (IntsOwn true out (castN (plC k S O q j)) bs) ∧ Own W (bs ++ chB w.heap.size k S O d e key :: m) wr) (fun _ i _ => O - (intOf i).toNat)
          case atStart => exact ⟨0, _, by omega, rfl, K2, k2⟩
          case round =>
            clear hr k2 K2 y0 y1 y2 y3 y4 y5 y9 HO
            obtain ⟨j, bs, hj, rfl, HO, hr⟩ := hrel
            obtain ⟨y0, y1, y2, y3, y4, y5⟩ := box6' hr
            have hlen := plC_len k S O q j
            rw [← castN_len, ← castN_len] at hlen
            have hl2 : (castN (plC k S O q j)).length ≤ 800 := by have := HLEN.out; omega
            have HLEN2 := Lib.hid hl2
            obtain ⟨A3, n3, hv, -, -⟩ := HO.out.slice
            subst hv
            clear hlen hl2
            by_cases hlj : j < O
            · have hlji : (j : Int) < O := by omega
              have hjj : 0 ≤ (j : Int) ∧ (j : Int) < (O : Int) := by omega
              have HJ := Lib.hid hjj
              have hwp := hr.perm List.perm_middle
              clear hjj
              go_wp2_with fail
              refine (link_ok hOk.out HK.out HJ.out hwp).mono ?_
              rintro r w5 ⟨rfl, h5⟩
              have h6 := (h5.perm List.perm_middle.symm).alloc (.cells #[.int .i64 (4 * (k : Int) + 4 + 4 * (S : Int) + (q : Int) * (O : Int) + (j : Int))] 3)
              have hsrc := src_one w5 (4 * (k : Int) + 4 + 4 * (S : Int) + (q : Int) * (O : Int) + (j : Int))
              have HSRC2 := Lib.hid hsrc
              clear hsrc
              go_wp2_with (at_builtin; refine wpList_app_ints rfl _ _ rfl rfl rfl HO.out h6 HSRC2.out (by have := HLEN2.out; simp; omega) ?_; intro v' w' bs' k1 k2 k3; have K1 := Lib.hid k1; clear k1 k3)
              refine ⟨⟨j + 1, bs', by omega, by go_num, ?_, k2⟩, by simp [intOf]; omega⟩
              show IntsOwn true v' (castN (plC k S O q (j + 1))) bs'
              have e : castN (plC k S O q (j + 1)) = castN (plC k S O q j) ++ [4 * (k : Int) + 4 + 4 * (S : Int) + (q : Int) * (O : Int) + (j : Int)] := by
                rw [plC_succ, castN_append]
                simp [castN]
              rw [e]
              exact K1.out
            · have hjO : j = O := by omega
              subst hjO
              have hlji : ¬ (j : Int) < j := by omega
              go_wp2_with fail
              exact ⟨⟨q + 1, bs, by omega, by go_num, by rw [plB_succ]; exact HO, hr⟩, by simp [intOf]; omega⟩
        · have hqS : q = S := by omega
          subst hqS
          have hlti : ¬ (q : Int) < q := by omega
          go_wp2_with fail
          go_ret
          exact ⟨_, rfl, bs, by rw [pl_eq]; exact HO.out, hr.drop1⟩
end
end Go.Proofs.Ytigakendeghoaaa.Apart

/-
  The known calls of steps' trees are what the memory, and the packages below, do. No condition.
-/
namespace Go.Proofs.Ytigakendeghoaaa.Step
open Go Ex Mem See
open Go.RowKit (Below)
/-- a memory's two blocks, as they may be: at first, behind a step's access that does what it asks, behind one that does not -/
def ωM (N k : Nat) (g g1 g2 : List Nat) : Nat → Nat → Nat → Obj := fun i b0 b1 => match i with
  | 0 => (mB b0 b1 N k).2
  | 1 => (wB b1 g).2
  | 2 => (mB b0 b1 N (k + 1)).2
  | 3 => (wB b1 g1).2
  | 4 => (mB b0 b1 N (k + 1)).2
  | _ => (wB b1 g2).2
theorem below_self (w : World) : Below w.heap.size w w := Below.refl _ _
theorem fnok_Len : FnOk Try.prog 76 := ⟨Try.f76, _, Try.func76, by kernel_rfl, rfl⟩
theorem fnok_Load : FnOk Try.prog 124 := ⟨Try.f124, _, Try.func124, by kernel_rfl, rfl⟩
theorem fnok_Store : FnOk Try.prog 49 := ⟨Try.f49, _, Try.func49, by kernel_rfl, rfl⟩
theorem fnok_Cas2 : FnOk Try.prog 129 := ⟨Try.f129, _, Try.func129, by kernel_rfl, rfl⟩
theorem fnok_HeadOf : FnOk Try.prog 80 := ⟨Try.f80, _, Try.func80, by kernel_rfl, rfl⟩
theorem fnok_Head : FnOk Try.prog 73 := ⟨Try.f73, _, Try.func73, by kernel_rfl, rfl⟩
theorem fnok_Show : FnOk Try.prog 114 := ⟨Try.f114, _, Try.func114, by kernel_rfl, rfl⟩
theorem fnok_Hide : FnOk Try.prog 116 := ⟨Try.f116, _, Try.func116, by kernel_rfl, rfl⟩
section
variable {σ : Nat → Int} {N k : Nat} {g g1 g2 : List Nat}
theorem kn_len (hN : σ 30 = N) : KnAll Try.prog [] σ (ωM N k g g1 g2) [kLen 76] :=
  kn_mem (s := 0) (s' := 0) (xs := []) rfl rfl rfl rfl fnok_Len rfl fun _ W w m b0 b1 h => by
    refine (len_spec (b0 := b0) (b1 := b1) (N := N) (k := k) h).mono ?_
    rintro e w' ⟨rfl, h2⟩
    exact ⟨by simp [kLen, Ex.valOf, sI, SE.ev, hN], h2⟩
theorem kn_load {a : SE} {i : Nat} {cs : List (Cnd × Bool)} (hN : g.length = N) (hN2 : N ≤ 4096) (hk : k ≤ 1000000000) (hg : g1 = g) (hc : (∀ c ∈ cs, c.1.ev σ = c.2) → ∃ j x : Nat, a.ev σ = j ∧ g[j]? = some x ∧ σ i = x) :
    KnAll Try.prog [] σ (ωM N k g g1 g2) [kLoad 124 a i cs] :=
  kn_mem (s := 0) (s' := 1) (xs := [.sym .i64 a]) rfl rfl rfl rfl fnok_Load rfl fun hcs W w m b0 b1 h => by
    obtain ⟨j, x, h1, h2, h3⟩ := hc hcs
    have := load_in (b0 := b0) (b1 := b1) (N := N) (k := k) h h2 hN hN2 hk
    simp only [Ex.valsOf, Ex.valOf, h1]
    refine this.mono ?_
    rintro e w' ⟨rfl, h4⟩
    exact ⟨by simp [kLoad, Ex.valOf, Ex.valsOf, sU, nI, SE.ev, h3], by rw [hg]; exact h4⟩
theorem kn_loadN (hN2 : N ≤ 4096) (hk : k ≤ 1000000000) : KnAll Try.prog [] σ (ωM N k g g1 g2) [kLoadN 124] :=
  kn_mem (s := 0) (s' := 0) (xs := [nI (-1)]) rfl rfl rfl rfl fnok_Load rfl fun hcs W w m b0 b1 h => by
    have := load_bad (b0 := b0) (b1 := b1) (N := N) (k := k) h (-1) (.inl (by decide)) hN2 hk
    refine this.mono ?_
    rintro e w' ⟨rfl, h4⟩
    exact ⟨rfl, h4⟩
theorem kn_store {a e : SE} {cs : List (Cnd × Bool)} (hN : g.length = N) (hN2 : N ≤ 4096) (hk : k ≤ 1000000000) (hc : (∀ c ∈ cs, c.1.ev σ = c.2) → ∃ j x y : Nat, a.ev σ = j ∧ g[j]? = some x ∧ e.ev σ = y ∧ g1 = g.set j y) :
    KnAll Try.prog [] σ (ωM N k g g1 g2) [kStore 49 a (.sym .u64 e) cs] :=
  kn_mem (s := 0) (s' := 1) (xs := [.sym .i64 a, .sym .u64 e]) rfl rfl rfl rfl fnok_Store rfl fun hcs W w m b0 b1 h => by
    obtain ⟨j, x, y, h1, h2, h3, h5⟩ := hc hcs
    have := store_in (b0 := b0) (b1 := b1) (N := N) (k := k) y h h2 hN hN2 hk
    simp only [Ex.valsOf, Ex.valOf, h1, h3]
    refine this.mono ?_
    rintro e w' ⟨rfl, h4⟩
    exact ⟨rfl, by rw [h5]; exact h4⟩
theorem kn_storeN {e : SE} (hN2 : N ≤ 4096) (hk : k ≤ 1000000000) (he : ∃ y : Nat, e.ev σ = y) : KnAll Try.prog [] σ (ωM N k g g1 g2) [kStoreN 49 (.sym .u64 e)] :=
  kn_mem (s := 0) (s' := 0) (xs := [nI (-1), .sym .u64 e]) rfl rfl rfl rfl fnok_Store rfl fun hcs W w m b0 b1 h => by
    obtain ⟨y, hy⟩ := he
    have := store_bad (b0 := b0) (b1 := b1) (N := N) (k := k) y h (-1) (.inl (by decide)) hN2 hk
    simp only [Ex.valsOf, Ex.valOf, hy, nI]
    refine this.mono ?_
    rintro e w' ⟨rfl, h4⟩
    exact ⟨rfl, h4⟩
/-- the four numbers of a Cas2 -/
def cas2Xs (a b c d : SE) : List AV := [.sym .u64 a, .sym .u64 b, .sym .u64 c, .sym .u64 d]
theorem kn_cas2Y {p a b c d : SE} {cs : List (Cnd × Bool)} (hN : g.length = N) (hN2 : N ≤ 4096) (hk : k ≤ 1000000000)
    (hc : (∀ q ∈ cs, q.1.ev σ = q.2) → ∃ j x y a' b' c' d' : Nat, p.ev σ = j ∧ g[j]? = some x ∧ g[j + 1]? = some y ∧ a.ev σ = a' ∧ b.ev σ = b' ∧ c.ev σ = c' ∧ d.ev σ = d' ∧ σ 41 = (if x = a' ∧ y = b' then 1 else 0) ∧ (x = a' ∧ y = b' → g1 = (g.set j c').set (j + 1) d')) :
    KnAll Try.prog [] σ (ωM N k g g1 g2) [kCas2Y 129 p (cas2Xs a b c d) cs] :=
  kn_mem (s := 0) (s' := 1) (xs := .sym .i64 p :: cas2Xs a b c d) rfl rfl rfl rfl fnok_Cas2 rfl fun hcs W w m b0 b1 h => by
    obtain ⟨j, x, y, a', b', c', d', h1, h2, h3, h4, h5, h6, h7, h8, h9⟩ := hc fun q hq => hcs q (List.mem_append_left _ hq)
    have h10 := hcs (.eq (v 41) (l 1), true) (List.mem_append_right _ List.mem_cons_self)
    simp only [Cnd.ev, SE.ev, v, l, h8, beq_iff_eq] at h10
    have hxy : x = a' ∧ y = b' := by
      by_cases hh : x = a' ∧ y = b'
      · exact hh
      · rw [if_neg hh] at h10; cases h10
    have := cas2_in (b0 := b0) (b1 := b1) (N := N) (k := k) a' b' c' d' h h2 h3 (t := true) (g' := g1) ⟨by rw [decide_eq_true hxy], by rw [if_pos hxy]; exact h9 hxy⟩ hN hN2 hk
    simp only [cas2Xs, Ex.valsOf, Ex.valOf, h1, h4, h5, h6, h7]
    refine this.mono ?_
    rintro e w' ⟨rfl, h11⟩
    exact ⟨rfl, h11⟩
theorem kn_cas2F {p a b c d : SE} {cs : List (Cnd × Bool)} (hN : g.length = N) (hN2 : N ≤ 4096) (hk : k ≤ 1000000000) (hg : g2 = g)
    (hc : (∀ q ∈ cs, q.1.ev σ = q.2) → ∃ j x y a' b' c' d' : Nat, p.ev σ = j ∧ g[j]? = some x ∧ g[j + 1]? = some y ∧ a.ev σ = a' ∧ b.ev σ = b' ∧ c.ev σ = c' ∧ d.ev σ = d' ∧ σ 41 = (if x = a' ∧ y = b' then 1 else 0)) :
    KnAll Try.prog [] σ (ωM N k g g1 g2) [kCas2F 129 p (cas2Xs a b c d) cs] :=
  kn_mem (s := 0) (s' := 2) (xs := .sym .i64 p :: cas2Xs a b c d) rfl rfl rfl rfl fnok_Cas2 rfl fun hcs W w m b0 b1 h => by
    obtain ⟨j, x, y, a', b', c', d', h1, h2, h3, h4, h5, h6, h7, h8⟩ := hc fun q hq => hcs q (List.mem_append_left _ hq)
    have h10 := hcs (.eq (v 41) (l 1), false) (List.mem_append_right _ List.mem_cons_self)
    simp only [Cnd.ev, SE.ev, v, l, h8] at h10
    have hxy : ¬ (x = a' ∧ y = b') := fun hh => by rw [if_pos hh] at h10; simp at h10
    have := cas2_in (b0 := b0) (b1 := b1) (N := N) (k := k) a' b' c' d' h h2 h3 (t := false) (g' := g2) ⟨by rw [decide_eq_false hxy], by rw [if_neg hxy]; exact hg⟩ hN hN2 hk
    simp only [cas2Xs, Ex.valsOf, Ex.valOf, h1, h4, h5, h6, h7]
    refine this.mono ?_
    rintro e w' ⟨rfl, h11⟩
    exact ⟨rfl, h11⟩
theorem kn_cas2N {a b c d : SE} (hN2 : N ≤ 4096) (hk : k ≤ 1000000000) (hc : ∃ a' b' c' d' : Nat, a.ev σ = a' ∧ b.ev σ = b' ∧ c.ev σ = c' ∧ d.ev σ = d') :
    KnAll Try.prog [] σ (ωM N k g g1 g2) [kCas2N 129 (cas2Xs a b c d)] :=
  kn_mem (s := 0) (s' := 0) (xs := nI (-1) :: cas2Xs a b c d) rfl rfl rfl rfl fnok_Cas2 rfl fun hcs W w m b0 b1 h => by
    obtain ⟨a', b', c', d', h4, h5, h6, h7⟩ := hc
    have := cas2_bad (b0 := b0) (b1 := b1) (N := N) (k := k) a' b' c' d' h (-1) (.inl (by decide)) hN2 hk
    simp only [cas2Xs, Ex.valsOf, Ex.valOf, nI, h4, h5, h6, h7]
    refine this.mono ?_
    rintro e w' ⟨rfl, h11⟩
    exact ⟨rfl, h11⟩
/-! what words say -/
theorem kn_headOf {ω : Nat → Nat → Nat → Obj} (x : Nat) (hx : x < 18446744073709551616) (h1 : σ 31 = x) (h2 : σ 32 = if (headOf x).isSome then 1 else 0) (h3 : ∀ s o, headOf x = some (s, o) → σ 33 = s ∧ σ 34 = o) :
    KnAll Try.prog [] σ ω [kHeadOfY 80, kHeadOfN 80, kHeadOf0 80] := by
  refine (kn_pure (k := kHeadOfY 80) rfl rfl rfl fnok_HeadOf fun hcs w => ?_).cons ((kn_pure (k := kHeadOfN 80) rfl rfl rfl fnok_HeadOf fun hcs w => ?_).cons ((kn_pure (k := kHeadOf0 80) rfl rfl rfl fnok_HeadOf fun hcs w => ?_).cons knAll_nil))
  · have h10 := hcs (.eq (v 32) (l 1), true) List.mem_cons_self
    simp only [Cnd.ev, SE.ev, v, l, h2, beq_iff_eq] at h10
    have := headOf_spec x hx w
    simp only [kHeadOfY, Ex.valsOf, Ex.valOf, sU, SE.ev, h1]
    refine this.mono ?_
    rintro e w' ⟨rfl, rfl⟩
    refine ⟨?_, below_self w⟩
    unfold headV
    cases hh : headOf x with
    | none => rw [hh] at h10; cases h10
    | some p =>
      obtain ⟨s, o⟩ := p
      obtain ⟨e1, e2⟩ := h3 s o hh
      simp [sI, Ex.valOf, SE.ev, e1, e2]
  · have h10 := hcs (.eq (v 32) (l 1), false) List.mem_cons_self
    simp only [Cnd.ev, SE.ev, v, l, h2] at h10
    have := headOf_spec x hx w
    simp only [kHeadOfN, Ex.valsOf, Ex.valOf, sU, SE.ev, h1]
    refine this.mono ?_
    rintro e w' ⟨rfl, rfl⟩
    refine ⟨?_, below_self w⟩
    unfold headV
    cases hh : headOf x with
    | none => rfl
    | some p => rw [hh] at h10; simp at h10
  · have := headOf_spec 0 (by decide) w
    refine this.mono ?_
    rintro e w' ⟨rfl, rfl⟩
    exact ⟨rfl, below_self w⟩
/-- Head's answer: an error, a word -/
def headR (s o : Int) : Int × Nat := if headOk s o then (0, headW s o) else if s = -1 ∧ o = -1 then (0, 0) else (2, 0)
theorem kn_head {ω : Nat → Nat → Nat → Obj} {a b : Nat} (h1 : σ 37 = (headR (σ a) (σ b)).1) (h2 : σ 38 = (headR (σ a) (σ b)).2) : KnAll Try.prog [] σ ω [kHeadY 73 [sI a, sI b], kHeadN 73 [sI a, sI b]] := by
  have key : ∀ w, Calls Try.prog 73 #[.int .i64 (σ a), .int .i64 (σ b)] w fun e w' => e = .returned (.tuple #[.int .u64 ((headR (σ a) (σ b)).2 : Nat), .int .i64 (headR (σ a) (σ b)).1]) ∧ w = w' := by
    intro w
    unfold headR
    by_cases h : headOk (σ a) (σ b)
    · rw [if_pos h]
      exact head_ok _ _ h w
    · rw [if_neg h]
      by_cases hn : σ a = -1 ∧ σ b = -1
      · rw [if_pos hn, hn.1, hn.2]
        exact head_none w
      · rw [if_neg hn]
        exact head_bad _ _ h hn w
  refine (kn_pure (k := kHeadY 73 [sI a, sI b]) rfl rfl rfl fnok_Head fun hcs w => ?_).cons ((kn_pure (k := kHeadN 73 [sI a, sI b]) rfl rfl rfl fnok_Head fun hcs w => ?_).cons knAll_nil)
  · have h10 := hcs (.eq (v 37) (l 0), true) List.mem_cons_self
    simp only [Cnd.ev, SE.ev, v, l, h1, beq_iff_eq] at h10
    simp only [kHeadY, Ex.valsOf, Ex.valOf, sI, SE.ev]
    refine (key w).mono ?_
    rintro e w' ⟨rfl, rfl⟩
    exact ⟨by simp [Ex.valOf, Ex.valsOf, sU, nI, SE.ev, h2, h10], below_self w⟩
  · have h10 := hcs (.eq (v 37) (l 0), false) List.mem_cons_self
    simp only [Cnd.ev, SE.ev, v, l, h1] at h10
    simp only [kHeadN, Ex.valsOf, Ex.valOf, sI, SE.ev]
    refine (key w).mono ?_
    rintro e w' ⟨rfl, rfl⟩
    refine ⟨?_, below_self w⟩
    unfold headR at h10 ⊢
    by_cases h : headOk (σ a) (σ b)
    · rw [if_pos h] at h10; simp at h10
    · rw [if_neg h] at h10 ⊢
      by_cases hn : σ a = -1 ∧ σ b = -1
      · rw [if_pos hn] at h10; simp at h10
      · rw [if_neg hn]; rfl
/-- what a link shows, at whatever it is -/
def showG (x key : Nat) (n : Int) : Option Int := if 0 ≤ n ∧ n < 16 then showOf x key n.toNat else none
theorem kn_show {ω : Nat → Nat → Nat → Obj} {wv : AV} {e : SE} {b i x key : Nat} (hw : wv.shut = true) (hx : x < 18446744073709551616) (hk : key < 18446744073709551616) (h0 : Ex.valOf σ wv = .int .u64 (x : Int)) (h1 : e.ev σ = key) (h2 : σ i = if (showG x key (σ b)).isSome then 1 else 0) (h3 : ∀ s, showG x key (σ b) = some s → σ (i + 1) = s) :
    KnAll Try.prog [] σ ω [kShowY 114 i [wv, .sym .u64 e, sI b], kShowN 114 i [wv, .sym .u64 e, sI b]] := by
  have key2 : ∀ w, Calls Try.prog 114 #[.int .u64 x, .int .u64 key, .int .i64 (σ b)] w fun r w' => r = .returned (match showG x key (σ b) with | some i => .tuple #[.int .i64 i, .bool true] | none => .tuple #[.int .i64 0, .bool false]) ∧ w = w' := by
    intro w
    unfold showG
    by_cases h : 0 ≤ σ b ∧ σ b < 16
    · rw [if_pos h]
      have := show_ok x key (σ b).toNat hx hk (by omega) w
      rw [show (((σ b).toNat : Nat) : Int) = σ b from by omega] at this
      exact this
    · rw [if_neg h]
      exact show_bad _ _ _ h w
  have ha : AV.shuts [wv, .sym .u64 e, sI b] = true := by simp [AV.shuts, hw, AV.shut, sI]
  refine (kn_pure (k := kShowY 114 i [wv, .sym .u64 e, sI b]) ha rfl rfl fnok_Show fun hcs w => ?_).cons ((kn_pure (k := kShowN 114 i [wv, .sym .u64 e, sI b]) ha rfl rfl fnok_Show fun hcs w => ?_).cons knAll_nil)
  · have h10 := hcs (.eq (v i) (l 1), true) List.mem_cons_self
    simp only [Cnd.ev, SE.ev, v, l, h2, beq_iff_eq] at h10
    simp only [kShowY, Ex.valsOf, h0, Ex.valOf, sI, SE.ev, h1]
    refine (key2 w).mono ?_
    rintro e w' ⟨rfl, rfl⟩
    refine ⟨?_, below_self w⟩
    cases hh : showG x key (σ b) with
    | none => rw [hh] at h10; cases h10
    | some s => simp [h3 s hh]
  · have h10 := hcs (.eq (v i) (l 1), false) List.mem_cons_self
    simp only [Cnd.ev, SE.ev, v, l, h2] at h10
    simp only [kShowN, Ex.valsOf, h0, Ex.valOf, sI, SE.ev, h1]
    refine (key2 w).mono ?_
    rintro e w' ⟨rfl, rfl⟩
    refine ⟨?_, below_self w⟩
    cases hh : showG x key (σ b) with
    | none => rfl
    | some s => rw [hh] at h10; simp at h10
/-- Hide's answer: an error, a word -/
def hideR (i : Int) (key : Nat) (n : Int) : Int × Nat := if (-1 ≤ i ∧ i < 16) ∧ (0 ≤ n ∧ n < 16) then (0, hideW i key n.toNat) else (2, 0)
theorem kn_hide {ω : Nat → Nat → Nat → Obj} {e : SE} {a b key : Nat} (hk : key < 18446744073709551616) (h0 : e.ev σ = key) (h1 : σ 39 = (hideR (σ a) key (σ b)).1) (h2 : σ 40 = (hideR (σ a) key (σ b)).2) :
    KnAll Try.prog [] σ ω [kHideY 116 [sI a, .sym .u64 e, sI b], kHideN 116 [sI a, .sym .u64 e, sI b]] := by
  have hv : hideV (σ a) key (σ b) = .tuple #[.int .u64 ((hideR (σ a) key (σ b)).2 : Nat), .int .i64 (hideR (σ a) key (σ b)).1] := by
    unfold hideV hideR
    split <;> rfl
  refine (kn_pure (k := kHideY 116 [sI a, .sym .u64 e, sI b]) rfl rfl rfl fnok_Hide fun hcs w => ?_).cons ((kn_pure (k := kHideN 116 [sI a, .sym .u64 e, sI b]) rfl rfl rfl fnok_Hide fun hcs w => ?_).cons knAll_nil)
  · have h10 := hcs (.eq (v 39) (l 0), true) List.mem_cons_self
    simp only [Cnd.ev, SE.ev, v, l, h1, beq_iff_eq] at h10
    simp only [kHideY, Ex.valsOf, Ex.valOf, sI, SE.ev, h0]
    refine (hide_spec _ _ _ hk w).mono ?_
    rintro e w' ⟨rfl, rfl⟩
    rw [hv]
    exact ⟨by simp [Ex.valOf, Ex.valsOf, sU, nI, SE.ev, h2, h10], below_self w⟩
  · have h10 := hcs (.eq (v 39) (l 0), false) List.mem_cons_self
    simp only [Cnd.ev, SE.ev, v, l, h1] at h10
    simp only [kHideN, Ex.valsOf, Ex.valOf, sI, SE.ev, h0]
    refine (hide_spec _ _ _ hk w).mono ?_
    rintro e w' ⟨rfl, rfl⟩
    rw [hv]
    refine ⟨?_, below_self w⟩
    unfold hideR at h10 ⊢
    by_cases h : (-1 ≤ σ a ∧ σ a < 16) ∧ (0 ≤ σ b ∧ σ b < 16)
    · rw [if_pos h] at h10; simp at h10
    · rw [if_neg h]; rfl
end
end Go.Proofs.Ytigakendeghoaaa.Step

/-
  Contract: the objects of a list (link.List). No condition.
-/
namespace Go.Proofs.Ytigakendeghoaaa.See
open Go.RowKit
attribute [local go_sem ↓] Go.wp_at_zero Go.wp_at_succ
/-- words that are read, whatever else there is -/
def Rd (W : World) (m : List (Nat × Obj)) (B o : Nat) (g : List Nat) : Prop := ∀ ws, Own W m ws → ∀ (j : Nat) (x : Nat), g[j]? = some x → ws.cell? ⟨B, o + j, none⟩ = some (.int .u64 (x : Int))
theorem Rd.more {W : World} {m m' : List (Nat × Obj)} {B o : Nat} {g : List Nat} (h : Rd W m B o g) : Rd W (m' ++ m) B o g := fun ws hw j x hj => h ws hw.dropL j x hj
/-- which objects are out -/
def hadRow (out : List Int) : Array Value := ((List.range 16).map fun (i : Nat) => Value.bool (decide ((i : Int) ∈ out))).toArray
theorem hadRow_get (out : List Int) {i : Nat} (h : i < 16) : (hadRow out)[i]? = some (.bool (decide ((i : Int) ∈ out))) := by simp [hadRow, h]
theorem hadRow_set (out : List Int) {i : Nat} (h : i < 16) : (hadRow out).setIfInBounds i (.bool true) = hadRow (out ++ [(i : Int)]) := by
  apply Array.ext_getElem?
  intro j
  rw [Array.getElem?_setIfInBounds]
  by_cases hj : j < 16
  · rw [hadRow_get _ hj]
    by_cases hx : i = j
    · subst hx; simp [hadRow, h]
    · rw [if_neg hx, hadRow_get _ hj]
      have : ¬ (j : Int) = (i : Int) := fun e => hx (by omega)
      simp [this]
  · rw [if_neg (by omega), Array.getElem?_eq_none (by simp [hadRow]; omega), Array.getElem?_eq_none (by simp [hadRow]; omega)]
def slLen : Value → Nat
  | .slice _ n _ => n
  | _ => 0
def shW (key : Nat) (w : Nat) (o : Int) : Option Int := showOf w key o.toNat
section
variable {W w : World} {m : List (Nat × Obj)} {B o c : Nat} {g : List Nat}
/-- what List answers -/
def ListPost (W : World) (m : List (Nat × Obj)) (r : Option (List Int)) (e : Ending) (w' : World) : Prop := match r with
  | some l => ∃ v bs, e = .returned (.tuple #[v, .int .i64 0]) ∧ Hid (IntsOwn true v l bs) ∧ Own W (bs ++ m) w'
  | none => e = .returned (.tuple #[.slice none 0 0, .int .i64 150]) ∧ Own W m w'
set_option maxRecDepth 100000 in
set_option maxHeartbeats 2000000 in
theorem list_spec (h : Own W m w) (hr : Rd W m B o g) {n : Nat} (hn : g.length = n) (hg : n ≤ 16) (hw : W64 g) (hnc : n ≤ c) (hcm : c ≤ maxLen) (key : Nat) (hk : key < 18446744073709551616) (first : Int) (h0 : -1 ≤ first) (h1 : first < n) :
    Calls Try.prog 103 #[.slice (some ⟨B, o, none⟩) n c, .int .u64 key, .int .i64 first] w (ListPost W m (walk (shW key) g (n + 1) [] first)) := by
  obtain ⟨R, hR⟩ : ∃ R, walk (shW key) g (n + 1) [] first = R := ⟨_, rfl⟩
  have HR := Lib.hid hR
  have HRD := Lib.hid hr
  have HN := Lib.hid hn
  have HW := Lib.hid hw
  have HK := Lib.hid hk
  have HC := Lib.hid hcm
  rw [hR]
  have hgi : (n : Int) ≤ 16 := by omega
  have hb1 : decide ((16 : Int) < (n : Int)) = false := decide_eq_false (by omega)
  have hb2 : decide (first < -1) = false := decide_eq_false (by omega)
  have hb3 : decide ((n : Int) ≤ first) = false := decide_eq_false (by omega)
  clear hr hn hw hk hcm hR
  go_enter Try.func103, Try.ntmps103
  go_wp2_with fail
  go_step3
  go_wp2_with fail
  go_step3
  go_wp2_with fail
  have h1 : Own W ([(w.heap.size, .cells (hadRow []) 143)] ++ m) (w.alloc (.cells #[.bool false, .bool false, .bool false, .bool false, .bool false, .bool false, .bool false, .bool false, .bool false, .bool false, .bool false, .bool false, .bool false, .bool false, .bool false, .bool false] 143)) := h.new (.cells (hadRow []) 143)
  obtain ⟨d, hd⟩ : ∃ d, w.heap.size = d := ⟨_, rfl⟩
  obtain ⟨wa, hwa⟩ : ∃ wa, w.alloc (.cells #[.bool false, .bool false, .bool false, .bool false, .bool false, .bool false, .bool false, .bool false, .bool false, .bool false, .bool false, .bool false, .bool false, .bool false, .bool false, .bool false] 143) = wa := ⟨_, rfl⟩
  rw [hwa, hd] at h1
  rw [hwa, hd]
  have H1 := Lib.hid h1
  clear h1 hd hwa hb1 hb2 hb3
  go_loopw [2, 9] (fun iv ov wr => ∃ (i : Int) (out : List Int) (bs : List (Nat × Obj)), iv = .int .i64 i ∧ -1 ≤ i ∧ i < n ∧ Hid (out.Nodup ∧ ∀ x ∈ out, 0 ≤ x ∧ x < n) ∧ Hid (walk (shW key) g (n + 1 - out.length) out i = R) ∧ Hid (IntsOwn true ov out bs) ∧ Own W ([(d, .cells (hadRow out) 143)] ++ (bs ++ m)) wr) (fun _ ov _ => 17 - slLen ov)
  case atStart => exact ⟨first, [], [], rfl, h0, h1, ⟨List.nodup_nil, fun x hx => (by simp at hx)⟩, HR, SlO.nil _ _ _, H1.out⟩
  case round =>
    clear H1 HR h0 h1 h
    obtain ⟨i, out, bs, rfl, i0, i1, HND, HWK, HO, hr⟩ := hrel
    obtain ⟨A8, c8, hv, -, -⟩ := HO.out.slice
    subst hv
    have hfew := few HND.out.1 HND.out.2
    obtain ⟨z, hz⟩ : ∃ z, out.length = z := ⟨_, rfl⟩
    have HZ := Lib.hid hz
    rw [hz] at hfew ⊢
    by_cases him : i = -1
    · subst him
      have hk := HWK.out
      rw [hz, show n + 1 - z = (n - z) + 1 by omega] at hk
      simp only [walk, if_true] at hk
      have HK2 := Lib.hid hk
      clear hz hk
      go_wp2_with fail
      rw [Exit.noGoto_ret]
      go_ret2
      rw [← HK2.out]
      exact ⟨_, bs, rfl, by have := HO.out; rw [HZ.out] at this; exact this, hr.dropL⟩
    · have hib : (i == -1) = false := beq_eq_false_iff_ne.2 him
      obtain ⟨j, rfl⟩ : ∃ j : Nat, i = j := ⟨i.toNat, by omega⟩
      have hj16 : j < 16 := by omega
      have cj := hr.cell List.mem_cons_self j
      have fj := hr.frozen List.mem_cons_self j
      rw [hadRow_get _ hj16] at cj
      have hji0 : (0 : Int) ≤ (j : Int) := by omega
      have hji1 : (j : Int) < 16 := by omega
      by_cases hin : (j : Int) ∈ out
      · rw [decide_eq_true hin] at cj
        have hk := HWK.out
        rw [hz, show n + 1 - z = (n - z) + 1 by omega] at hk
        simp only [walk, him, hin, if_false, if_true] at hk
        have HK2 := Lib.hid hk
        clear hz hk
        go_wp2_with fail
        rw [Exit.noGoto_ret]
        go_ret2
        rw [← HK2.out]
        exact ⟨rfl, hr.dropL.dropL⟩
      · rw [decide_eq_false hin] at cj
        obtain ⟨x, hx⟩ : ∃ x, g[j]? = some x := ⟨_, List.getElem?_eq_getElem (by have := HN.out; omega)⟩
        have hxw := HW.out x (List.mem_of_getElem? hx)
        have hgd : g.getD j 0 = x := by rw [List.getD_eq_getElem?_getD, hx]; rfl
        have hlt := few_lt HND.out.1 HND.out.2 hji0 i1 hin
        rw [hz] at hlt
        have hsh := fun w => show_ok x key j hxw HK.out hj16 w
        have hk := HWK.out
        rw [hz, show n + 1 - z = (n - z) + 1 by omega] at hk
        simp only [walk, him, hin, if_false, Int.toNat_natCast, hgd, shW, HN.out] at hk
        have hr2 : Own W ((d, .cells (hadRow out) 143) :: (bs ++ m)) wr := hr
        have h2 := hr2.set j (.bool true)
        rw [hadRow_set _ hj16] at h2
        have h3 : Own W (bs ++ ((d, .cells (hadRow (out ++ [(j : Int)])) 143) :: m)) _ := h2.perm List.perm_middle.symm
        have h4 := h3.alloc (.cells #[.int .i64 (j : Int)] 3)
        have hsrc := src_one (wr.setCell ⟨d, j, none⟩ (.bool true)) (j : Int)
        rw [World.size_setCell] at hsrc
        have hnd : (out ++ [(j : Int)]).Nodup ∧ ∀ x ∈ out ++ [(j : Int)], 0 ≤ x ∧ x < n := by
          refine ⟨List.nodup_append.2 ⟨HND.out.1, by simp, fun a ha b hb he => ?_⟩, fun x hx => ?_⟩
          · simp at hb
            subst hb
            subst he
            exact hin ha
          · rcases List.mem_append.1 hx with hx | hx
            · exact HND.out.2 x hx
            · simp at hx
              subst hx
              exact ⟨hji0, i1⟩
        have HND2 := Lib.hid hnd
        have HSRC := Lib.hid hsrc
        have HX := Lib.hid hx
        have HO2 : Hid (IntsOwn true (.slice A8 z c8) out bs) := by have := HO.out; rw [hz] at this; exact this
        have H4 := Lib.hid h4
        have hlen : out.length + [(j : Int)].length ≤ 60000 := by simp; omega
        have HLEN := Lib.hid hlen
        unfold showV at hsh
        clear hsrc hx hnd h2 hr2 h3 h4 HO hgd hxw hlen hz
        cases hso : showOf x key j with
        | none =>
          rw [hso] at hsh hk
          simp only at hsh hk
          have HS := Lib.hid hsh
          have HK2 := Lib.hid hk
          clear hsh hk hso
          go_wp2_with (first | (at_builtin; refine wpList_app_ints rfl _ _ rfl rfl rfl HO2.out H4.out HSRC.out HLEN.out ?_; intro v' w' bs' k1 k2 k3; have K1 := Lib.hid k1; have cx := HRD.out _ k2.dropL.skip j x HX.out; clear k1 k3) | (go_at_call 114; refine (HS.out _).mono ?_; rintro e w5 ⟨rfl, rfl⟩))
          rw [Exit.noGoto_ret]
          go_ret2
          rw [← HK2.out]
          exact ⟨rfl, k2.dropL.skip⟩
        | some y =>
          rw [hso] at hsh hk
          simp only at hsh hk
          obtain ⟨y0, y1⟩ := showOf_ge hso
          have HS := Lib.hid hsh
          clear hsh hso
          by_cases hny : (n : Int) ≤ y
          · rw [if_pos hny] at hk
            have HK2 := Lib.hid hk
            clear hk
            go_wp2_with (first | (at_builtin; refine wpList_app_ints rfl _ _ rfl rfl rfl HO2.out H4.out HSRC.out HLEN.out ?_; intro v' w' bs' k1 k2 k3; have K1 := Lib.hid k1; have cx := HRD.out _ k2.dropL.skip j x HX.out; clear k1 k3) | (go_at_call 114; refine (HS.out _).mono ?_; rintro e w5 ⟨rfl, rfl⟩))
            rw [Exit.noGoto_ret]
            go_ret2
            rw [← HK2.out]
            exact ⟨rfl, k2.dropL.skip⟩
          · rw [if_neg hny] at hk
            have HK2 : Hid (walk (shW key) g (n + 1 - (out ++ [(j : Int)]).length) (out ++ [(j : Int)]) y = R) := by
              show _ = _
              rw [List.length_append, HZ.out, List.length_singleton, show n + 1 - (z + 1) = n - z by omega]
              exact hk
            clear hk
            have hnyi : y < n := by omega
            go_wp2_with (first | (at_builtin; refine wpList_app_ints rfl _ _ rfl rfl rfl HO2.out H4.out HSRC.out HLEN.out ?_; intro v' w' bs' k1 k2 k3; have K1 := Lib.hid k1; have cx := HRD.out _ k2.dropL.skip j x HX.out; clear k1 k3) | (go_at_call 114; refine (HS.out _).mono ?_; rintro e w5 ⟨rfl, rfl⟩))
            obtain ⟨A9, c9, hv9, -, -⟩ := K1.out.slice
            rw [List.length_append, HZ.out, List.length_singleton] at hv9
            refine ⟨⟨y, _, bs', rfl, y0, hnyi, HND2, HK2, K1, ?_⟩, ?_⟩
            · exact k2.perm List.perm_middle
            · rw [hv9]
              simp [slLen]
              omega
end
end Go.Proofs.Ytigakendeghoaaa.See
