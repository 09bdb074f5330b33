/-
  wainscotlaw21.ChartPlaces: each place is known (by the runner, question by question); then the law by one run. No condition.
-/
import Derived.Test.YtigakendeghoaaaExY
namespace Go.Proofs.Ytigakendeghoaaa.chartPlaces
open Go Ex
def v (i : Nat) : SE := .var i
def l (n : Int) : SE := .lit n
def add (a b : SE) : SE := .bin .add a b
def mul (a b : SE) : SE := .bin .mul a b
def chart : AV := .agg [.sym .i64 (v 0), .sym .i64 (v 1), .sym .i64 (v 2), .sym .i64 (v 3), .sym .i64 (v 4), .sym .u64 (v 5)]
def is (e : SE) : DT := .is (.sym .i64 e)
def num (n : Int) : DT := .is (.int .i64 n)
def no : DT := num (-1)
/-- the value that a tree leads to -/
def endOf (σ : Nat → Int) : DT → Value
  | .leaf => .bool true
  | .is a => Ex.valOf σ a
  | .bad => undef
  | .node c t e => if c.ev σ = true then endOf σ t else endOf σ e
theorem ends_of {σ : Nat → Int} : ∀ {d : DT} {x : Value}, Ex.Ends σ d x → x = endOf σ d
  | .leaf, _, h => h
  | .is _, _, h => h
  | .bad, _, h => h.elim
  | .node c t e, x, h => by
    unfold endOf
    rcases h with ⟨h1, h2⟩ | ⟨h1, h2⟩
    · rw [if_pos h1]; exact ends_of h2
    · rw [if_neg (by rw [h1]; simp)]; exact ends_of h2
def iv : Value → Int
  | .int _ n => n
  | _ => 0
def ofKind (k : IntKind) : DT → Bool
  | .is (.int k' _) => decide (k = k')
  | .is (.sym k' _) => decide (k = k')
  | .node _ t e => ofKind k t && ofKind k e
  | .bad => true
  | _ => false
theorem kind_of {σ : Nat → Int} {k : IntKind} : ∀ {d : DT}, ofKind k d = true → ¬ BadP σ d → endOf σ d = .int k (iv (endOf σ d))
  | .is a, h, _ => by
    cases a <;> simp [ofKind] at h <;> subst h <;> simp [endOf, Ex.valOf, iv]
  | .bad, _, h => absurd trivial h
  | .leaf, h, _ => by cases h
  | .node c t e, h, hb => by
    unfold ofKind at h
    rw [Bool.and_eq_true] at h
    unfold endOf
    by_cases hc : c.ev σ = true
    · rw [if_pos hc]; exact kind_of h.1 fun hx => hb (.inl ⟨hc, hx⟩)
    · rw [if_neg hc]; exact kind_of h.2 fun hx => hb (.inr ⟨by simpa using hc, hx⟩)
/-! the trees -/
def chain : List (SE × SE) → DT → DT → DT
  | [], _, y => y
  | (a, b) :: r, n, y => .node (.lt a b) n (chain r n y)
def tChk : DT := chain [(v 0, l 1), (l 8, v 0), (v 1, l 1), (l 32, v 1), (v 2, l 1), (l 16, v 2), (v 3, l 0), (l 32, v 3), (v 4, l 0), (l 32, v 4)] (num 2) (num 0)
def less (a : SE) : SE := .bin .sub a (l 1)
def inn (a : SE) (n : Int) (y : DT) : DT := .node (.lt a (l 0)) (num 2) (.node (.lt a (l n)) y (num 2))
def tChkR : DT := inn (less (v 0)) 8 (inn (less (v 1)) 32 (inn (less (v 2)) 16 (inn (v 3) 33 (inn (v 4) 33 (num 0)))))
def okQ : Cnd := .eq (v 8) (l 0)
def base : SE := mul (l 4) (v 0)
def slabs : SE := add base (l 4)
def links : SE := add slabs (mul (l 4) (v 1))
def t0 (e : SE) : DT := .node okQ (is e) no
def t1 (n : Nat) (e : SE) : DT := .node okQ (.node (.lt (v 6) (l 0)) no (.node (.lt (v 6) (v n)) (is e) no)) (.node (.lt (v 6) (l 0)) no (.node (.lt (v 6) (v n)) no no))
def tWords : DT := .node okQ (chain [(v 0, l 1), (l 8, v 0), (v 1, l 1), (l 32, v 1), (v 2, l 1), (l 16, v 2)] .bad (is (add links (mul (v 1) (v 2))))) (num 0)
def tHead : DT := t1 0 (mul (l 4) (v 6))
def tPart : DT := t1 0 (add (mul (l 4) (v 6)) (l 2))
def tLock : DT := t0 base
def tShelf : DT := t0 (add base (l 1))
def tHeld : DT := t0 (add base (l 2))
def tFirst : DT := t1 1 (add slabs (mul (l 4) (v 6)))
def tNext : DT := t1 1 (add (add slabs (mul (l 4) (v 6))) (l 2))
def tLink : DT :=
  .node okQ (.node (.lt (v 6) (l 0)) no (.node (.lt (v 6) (v 1)) (.node (.lt (v 7) (l 0)) no (.node (.lt (v 7) (v 2)) (is (add (add links (mul (v 6) (v 2))) (v 7))) no)) no))
    (.node (.lt (v 6) (l 0)) no (.node (.lt (v 6) (v 1)) (.node (.lt (v 7) (l 0)) no (.node (.lt (v 7) (v 2)) no no)) no))
def tKey : DT := .is (.sym .u64 (.ubin .add (v 5) (.ubin .mul (.cv .u64 (v 6)) (l 11400714819323198485))))
/-! what the numbers are -/
def args0 (a b c d e key i k : Int) : List Int := [a, b, c, d, e, key, i, k]
section
variable (a b c d e key i k : Int)
def s0 : Nat → Int := fun n => [a, b, c, d, e, key, i, k].getD n 0
def chk : Int := iv (endOf (s0 a b c d e key i k) tChk)
def s1 : Nat → Int := fun n => [a, b, c, d, e, key, i, k, chk a b c d e key i k].getD n 0
def val (t : DT) : Int := iv (endOf (s1 a b c d e key i k) t)
def s2 : Nat → Int := fun n => [a, b, c, d, e, key, i, k, chk a b c d e key i k, val a b c d e key i k tWords, val a b c d e key i k tHead, val a b c d e key i k tPart, val a b c d e key i k tLock, val a b c d e key i k tShelf, val a b c d e key i k tHeld, val a b c d e key i k tFirst, val a b c d e key i k tNext, val a b c d e key i k tLink, val a b c d e key i k tKey].getD n 0

/-- a number of 64 bits -/
def I64 (n : Int) : Prop := -9223372036854775808 ≤ n ∧ n ≤ 9223372036854775807
def Ok (a b c d e : Int) : Prop := 1 ≤ a ∧ a ≤ 8 ∧ 1 ≤ b ∧ b ≤ 32 ∧ 1 ≤ c ∧ c ≤ 16 ∧ 0 ≤ d ∧ d ≤ 32 ∧ 0 ≤ e ∧ e ≤ 32
instance : Decidable (Ok a b c d e) := by unfold Ok; infer_instance
theorem chk_is : endOf (s0 a b c d e key i k) tChk = .int .i64 (if Ok a b c d e then 0 else 2) := by
  simp only [tChk, chain, endOf, num, Cnd.ev, SE.ev, v, l, s0, Ex.valOf, List.getD_cons_zero, List.getD_cons_succ, decide_eq_true_eq, Ok]
  by_cases h1 : a < 1 <;> by_cases h2 : 8 < a <;> by_cases h3 : b < 1 <;> by_cases h4 : 32 < b <;> by_cases h5 : c < 1 <;> by_cases h6 : 16 < c <;> by_cases h7 : d < 0 <;> by_cases h8 : 32 < d <;> by_cases h9 : e < 0 <;> by_cases h10 : 32 < e <;> simp [*] <;> omega
theorem wrap_less {n x : Int} (hx : I64 x) (h0 : 0 ≤ n) (hn : n ≤ 9223372036854775807) : (0 ≤ IntKind.i64.wrap (x - 1) ∧ IntKind.i64.wrap (x - 1) < n) ↔ 1 ≤ x ∧ x ≤ n := by
  unfold I64 at hx
  have hw : IntKind.i64.wrap (x - 1) = if x = -9223372036854775808 then 9223372036854775807 else x - 1 := by
    simp [IntKind.wrap, IntKind.signed, IntKind.bits]
    split <;> split <;> omega
  rw [hw]
  split <;> omega
theorem inn_end {σ : Nat → Int} {x : SE} {n : Int} {y : DT} : endOf σ (inn x n y) = if 0 ≤ x.ev σ ∧ x.ev σ < n then endOf σ y else .int .i64 2 := by
  simp only [inn, endOf, num, Cnd.ev, SE.ev, l, Ex.valOf, decide_eq_true_eq]
  by_cases h1 : x.ev σ < 0 <;> by_cases h2 : x.ev σ < n <;> simp [h1, h2] <;> omega
theorem chkR_is (ha : I64 a) (hb : I64 b) (hc : I64 c) : endOf (s0 a b c d e key i k) tChkR = .int .i64 (if Ok a b c d e then 0 else 2) := by
  unfold tChkR
  have e0 : (less (v 0)).ev (s0 a b c d e key i k) = IntKind.i64.wrap (a - 1) := rfl
  have e1 : (less (v 1)).ev (s0 a b c d e key i k) = IntKind.i64.wrap (b - 1) := rfl
  have e2 : (less (v 2)).ev (s0 a b c d e key i k) = IntKind.i64.wrap (c - 1) := rfl
  have e3 : (v 3).ev (s0 a b c d e key i k) = d := rfl
  have e4 : (v 4).ev (s0 a b c d e key i k) = e := rfl
  simp only [inn_end, e0, e1, e2, e3, e4, wrap_less ha (n := 8) (by decide) (by decide), wrap_less hb (n := 32) (by decide) (by decide), wrap_less hc (n := 16) (by decide) (by decide)]
  simp only [endOf, num, Ex.valOf]
  split
  · split
    · split
      · split
        · split
          · rw [if_pos (by unfold Ok; omega)]
          · rw [if_neg (by unfold Ok; omega)]
        · rw [if_neg (by unfold Ok; omega)]
      · rw [if_neg (by unfold Ok; omega)]
    · rw [if_neg (by unfold Ok; omega)]
  · rw [if_neg (by unfold Ok; omega)]
theorem bad_words : ¬ BadP (s1 a b c d e key i k) tWords := by
  have hchk : chk a b c d e key i k = if Ok a b c d e then 0 else 2 := by unfold chk; rw [chk_is]; rfl
  have e8 : s1 a b c d e key i k 8 = chk a b c d e key i k := rfl
  have e0 : s1 a b c d e key i k 0 = a := rfl
  have e1 : s1 a b c d e key i k 1 = b := rfl
  have e2 : s1 a b c d e key i k 2 = c := rfl
  intro h
  simp only [tWords, chain, BadP, Cnd.ev, okQ, v, l, SE.ev, is, num, e8, e0, e1, e2, hchk, decide_eq_true_eq, decide_eq_false_iff_not, beq_iff_eq, beq_eq_false_iff_ne, and_false, or_false, and_true] at h
  by_cases hok : Ok a b c d e
  · unfold Ok at hok
    omega
  · simp [hok] at h
end
/-- a call that is known, by a tree -/
theorem known {σ σ' : Nat → Int} {ov : Ov} (hov : OvOk Try.prog [] σ ov) {f : FuncId} {xs : List AV} {t : DT} {k : IntKind} {e : SE} (ha : AV.shuts xs = true) (h : tree Try.prog [] ov 30 f xs t [] = true) (hb : ¬ BadP σ t) (hk : ofKind k t = true)
    (he : valsOf σ' xs = valsOf σ xs) (hv : e.ev σ' = iv (endOf σ t)) (w : World) (hg : Tabs [] w) : Calls Try.prog f (valsOf σ' xs).toArray w fun r w' => r = .returned (Ex.valOf σ' (.sym k e)) ∧ RowKit.Below w.heap.size w w' := by
  rw [he]
  refine (tree_ends mixed hov ha t [] (by simp) h hb w hg).mono ?_
  rintro _ _ ⟨⟨x, rfl, hx⟩, h2⟩
  refine ⟨?_, h2⟩
  rw [ends_of hx, kind_of hk hb]
  unfold Ex.valOf
  rw [hv]
def hasBad : DT → Bool
  | .bad => true
  | .node _ t e => hasBad t || hasBad e
  | _ => false
theorem no_bad {σ : Nat → Int} {t : DT} (h : hasBad t = false) : ¬ BadP σ t := by
  induction t with
  | leaf => exact fun h => h
  | is _ => exact fun h => h
  | bad => cases h
  | node c t e i1 i2 =>
    unfold hasBad at h
    rw [Bool.or_eq_false_iff] at h
    rintro (⟨_, h1⟩ | ⟨_, h1⟩)
    · exact i1 h.1 h1
    · exact i2 h.2 h1
def i6 : AV := .sym .i64 (v 6)
def k7 : AV := .sym .i64 (v 7)

theorem r_cCheck : tree Try.prog [] [] 30 11 [chart] tChk [] = true := by kernel_rfl
theorem r_rCheck : tree Try.prog [] [] 30 21 [chart] tChkR [] = true := by kernel_rfl
def ov1 : Ov := [(11, [chart], .sym .i64 (v 8)), (21, [chart], .sym .i64 (v 8))]
theorem r_cWords : tree Try.prog [] ov1 30 12 [chart] tWords [] = true := by kernel_rfl
theorem r_rWords : tree Try.prog [] ov1 30 22 [chart] tWords [] = true := by kernel_rfl
theorem r_cHead : tree Try.prog [] ov1 30 13 [chart, i6] tHead [] = true := by kernel_rfl
theorem r_rHead : tree Try.prog [] ov1 30 23 [chart, i6] tHead [] = true := by kernel_rfl
theorem r_cPart : tree Try.prog [] ov1 30 14 [chart, i6] tPart [] = true := by kernel_rfl
theorem r_rPart : tree Try.prog [] ov1 30 24 [chart, i6] tPart [] = true := by kernel_rfl
theorem r_cLock : tree Try.prog [] ov1 30 15 [chart] tLock [] = true := by kernel_rfl
theorem r_rLock : tree Try.prog [] ov1 30 25 [chart] tLock [] = true := by kernel_rfl
theorem r_cShelf : tree Try.prog [] ov1 30 16 [chart] tShelf [] = true := by kernel_rfl
theorem r_rShelf : tree Try.prog [] ov1 30 26 [chart] tShelf [] = true := by kernel_rfl
theorem r_cHeld : tree Try.prog [] ov1 30 17 [chart] tHeld [] = true := by kernel_rfl
theorem r_rHeld : tree Try.prog [] ov1 30 27 [chart] tHeld [] = true := by kernel_rfl
theorem r_cFirst : tree Try.prog [] ov1 30 18 [chart, i6] tFirst [] = true := by kernel_rfl
theorem r_rFirst : tree Try.prog [] ov1 30 28 [chart, i6] tFirst [] = true := by kernel_rfl
theorem r_cNext : tree Try.prog [] ov1 30 19 [chart, i6] tNext [] = true := by kernel_rfl
theorem r_rNext : tree Try.prog [] ov1 30 29 [chart, i6] tNext [] = true := by kernel_rfl
theorem r_cLink : tree Try.prog [] ov1 30 20 [chart, i6, k7] tLink [] = true := by kernel_rfl
theorem r_rLink : tree Try.prog [] ov1 30 30 [chart, i6, k7] tLink [] = true := by kernel_rfl
theorem r_cKey : tree Try.prog [] ov1 30 32 [chart, i6] tKey [] = true := by kernel_rfl
theorem r_rKey : tree Try.prog [] ov1 30 33 [chart, i6] tKey [] = true := by kernel_rfl
def ov2 : Ov := [(11, [chart], .sym .i64 (v 8)), (21, [chart], .sym .i64 (v 8)), (12, [chart], .sym .i64 (v 9)), (22, [chart], .sym .i64 (v 9)), (13, [chart, i6], .sym .i64 (v 10)), (23, [chart, i6], .sym .i64 (v 10)), (14, [chart, i6], .sym .i64 (v 11)), (24, [chart, i6], .sym .i64 (v 11)), (15, [chart], .sym .i64 (v 12)), (25, [chart], .sym .i64 (v 12)), (16, [chart], .sym .i64 (v 13)), (26, [chart], .sym .i64 (v 13)), (17, [chart], .sym .i64 (v 14)), (27, [chart], .sym .i64 (v 14)), (18, [chart, i6], .sym .i64 (v 15)), (28, [chart, i6], .sym .i64 (v 15)), (19, [chart, i6], .sym .i64 (v 16)), (29, [chart, i6], .sym .i64 (v 16)), (20, [chart, i6, k7], .sym .i64 (v 17)), (30, [chart, i6, k7], .sym .i64 (v 17)), (32, [chart, i6], .sym .u64 (v 18)), (33, [chart, i6], .sym .u64 (v 18)), (34, [], .bool true)]
theorem r_works : tree Try.prog [] [] 30 34 [] .leaf [] = true := by kernel_rfl
theorem r_law : tree Try.prog [] ov2 30 3 [chart, i6, k7] .leaf [] = true := by kernel_rfl
section
variable {a b c d e key i k : Int}
theorem ok1 (ha : I64 a) (hb : I64 b) (hc : I64 c) : OvOk Try.prog [] (s1 a b c d e key i k) ov1 :=
  ov_cons (ov_cons ov_nil rfl rfl ⟨Try.f21, _, Try.func21, by kernel_rfl, rfl⟩
    (known (σ := s0 a b c d e key i k) ov_nil rfl r_rCheck (no_bad rfl) rfl rfl (by rw [chkR_is a b c d e key i k ha hb hc]; show chk a b c d e key i k = _; unfold chk; rw [chk_is])))
    rfl rfl ⟨Try.f11, _, Try.func11, by kernel_rfl, rfl⟩ (known (σ := s0 a b c d e key i k) ov_nil rfl r_cCheck (no_bad rfl) rfl rfl rfl)
theorem ok2 (ha : I64 a) (hb : I64 b) (hc : I64 c) : OvOk Try.prog [] (s2 a b c d e key i k) ov2 := by
  have h1 := ok1 (d := d) (e := e) (key := key) (i := i) (k := k) ha hb hc
  have h := ov_cons (σ := s2 a b c d e key i k) (P := Try.prog) (gs := []) ov_nil (xs := []) (v := .bool true) rfl rfl ⟨Try.f34, _, Try.func34, by kernel_rfl, rfl⟩ (fun w hg => leaf_calls (σ := fun _ => 0) mixed ov_nil r_works w hg)
  have h := ov_cons h (xs := [chart, i6]) (v := .sym .u64 (v 18)) rfl rfl ⟨Try.f33, _, Try.func33, by kernel_rfl, rfl⟩ (known (σ := s1 a b c d e key i k) h1 rfl r_rKey (no_bad rfl) rfl rfl rfl)
  have h := ov_cons h (xs := [chart, i6]) (v := .sym .u64 (v 18)) rfl rfl ⟨Try.f32, _, Try.func32, by kernel_rfl, rfl⟩ (known (σ := s1 a b c d e key i k) h1 rfl r_cKey (no_bad rfl) rfl rfl rfl)
  have h := ov_cons h (xs := [chart, i6, k7]) (v := .sym .i64 (v 17)) rfl rfl ⟨Try.f30, _, Try.func30, by kernel_rfl, rfl⟩ (known (σ := s1 a b c d e key i k) h1 rfl r_rLink (no_bad rfl) rfl rfl rfl)
  have h := ov_cons h (xs := [chart, i6, k7]) (v := .sym .i64 (v 17)) rfl rfl ⟨Try.f20, _, Try.func20, by kernel_rfl, rfl⟩ (known (σ := s1 a b c d e key i k) h1 rfl r_cLink (no_bad rfl) rfl rfl rfl)
  have h := ov_cons h (xs := [chart, i6]) (v := .sym .i64 (v 16)) rfl rfl ⟨Try.f29, _, Try.func29, by kernel_rfl, rfl⟩ (known (σ := s1 a b c d e key i k) h1 rfl r_rNext (no_bad rfl) rfl rfl rfl)
  have h := ov_cons h (xs := [chart, i6]) (v := .sym .i64 (v 16)) rfl rfl ⟨Try.f19, _, Try.func19, by kernel_rfl, rfl⟩ (known (σ := s1 a b c d e key i k) h1 rfl r_cNext (no_bad rfl) rfl rfl rfl)
  have h := ov_cons h (xs := [chart, i6]) (v := .sym .i64 (v 15)) rfl rfl ⟨Try.f28, _, Try.func28, by kernel_rfl, rfl⟩ (known (σ := s1 a b c d e key i k) h1 rfl r_rFirst (no_bad rfl) rfl rfl rfl)
  have h := ov_cons h (xs := [chart, i6]) (v := .sym .i64 (v 15)) rfl rfl ⟨Try.f18, _, Try.func18, by kernel_rfl, rfl⟩ (known (σ := s1 a b c d e key i k) h1 rfl r_cFirst (no_bad rfl) rfl rfl rfl)
  have h := ov_cons h (xs := [chart]) (v := .sym .i64 (v 14)) rfl rfl ⟨Try.f27, _, Try.func27, by kernel_rfl, rfl⟩ (known (σ := s1 a b c d e key i k) h1 rfl r_rHeld (no_bad rfl) rfl rfl rfl)
  have h := ov_cons h (xs := [chart]) (v := .sym .i64 (v 14)) rfl rfl ⟨Try.f17, _, Try.func17, by kernel_rfl, rfl⟩ (known (σ := s1 a b c d e key i k) h1 rfl r_cHeld (no_bad rfl) rfl rfl rfl)
  have h := ov_cons h (xs := [chart]) (v := .sym .i64 (v 13)) rfl rfl ⟨Try.f26, _, Try.func26, by kernel_rfl, rfl⟩ (known (σ := s1 a b c d e key i k) h1 rfl r_rShelf (no_bad rfl) rfl rfl rfl)
  have h := ov_cons h (xs := [chart]) (v := .sym .i64 (v 13)) rfl rfl ⟨Try.f16, _, Try.func16, by kernel_rfl, rfl⟩ (known (σ := s1 a b c d e key i k) h1 rfl r_cShelf (no_bad rfl) rfl rfl rfl)
  have h := ov_cons h (xs := [chart]) (v := .sym .i64 (v 12)) rfl rfl ⟨Try.f25, _, Try.func25, by kernel_rfl, rfl⟩ (known (σ := s1 a b c d e key i k) h1 rfl r_rLock (no_bad rfl) rfl rfl rfl)
  have h := ov_cons h (xs := [chart]) (v := .sym .i64 (v 12)) rfl rfl ⟨Try.f15, _, Try.func15, by kernel_rfl, rfl⟩ (known (σ := s1 a b c d e key i k) h1 rfl r_cLock (no_bad rfl) rfl rfl rfl)
  have h := ov_cons h (xs := [chart, i6]) (v := .sym .i64 (v 11)) rfl rfl ⟨Try.f24, _, Try.func24, by kernel_rfl, rfl⟩ (known (σ := s1 a b c d e key i k) h1 rfl r_rPart (no_bad rfl) rfl rfl rfl)
  have h := ov_cons h (xs := [chart, i6]) (v := .sym .i64 (v 11)) rfl rfl ⟨Try.f14, _, Try.func14, by kernel_rfl, rfl⟩ (known (σ := s1 a b c d e key i k) h1 rfl r_cPart (no_bad rfl) rfl rfl rfl)
  have h := ov_cons h (xs := [chart, i6]) (v := .sym .i64 (v 10)) rfl rfl ⟨Try.f23, _, Try.func23, by kernel_rfl, rfl⟩ (known (σ := s1 a b c d e key i k) h1 rfl r_rHead (no_bad rfl) rfl rfl rfl)
  have h := ov_cons h (xs := [chart, i6]) (v := .sym .i64 (v 10)) rfl rfl ⟨Try.f13, _, Try.func13, by kernel_rfl, rfl⟩ (known (σ := s1 a b c d e key i k) h1 rfl r_cHead (no_bad rfl) rfl rfl rfl)
  have h := ov_cons h (xs := [chart]) (v := .sym .i64 (v 9)) rfl rfl ⟨Try.f22, _, Try.func22, by kernel_rfl, rfl⟩ (known (σ := s1 a b c d e key i k) h1 rfl r_rWords (bad_words a b c d e key i k) rfl rfl rfl)
  have h := ov_cons h (xs := [chart]) (v := .sym .i64 (v 9)) rfl rfl ⟨Try.f12, _, Try.func12, by kernel_rfl, rfl⟩ (known (σ := s1 a b c d e key i k) h1 rfl r_cWords (bad_words a b c d e key i k) rfl rfl rfl)
  have h := ov_cons h (xs := [chart]) (v := .sym .i64 (v 8)) rfl rfl ⟨Try.f21, _, Try.func21, by kernel_rfl, rfl⟩ (known (σ := s0 a b c d e key i k) ov_nil rfl r_rCheck (no_bad rfl) rfl rfl (by rw [chkR_is a b c d e key i k ha hb hc]; show chk a b c d e key i k = _; unfold chk; rw [chk_is]))
  have h := ov_cons h (xs := [chart]) (v := .sym .i64 (v 8)) rfl rfl ⟨Try.f11, _, Try.func11, by kernel_rfl, rfl⟩ (known (σ := s0 a b c d e key i k) ov_nil rfl r_cCheck (no_bad rfl) rfl rfl rfl)
  exact h
theorem walk (W : World) (ha : I64 a) (hb : I64 b) (hc : I64 c) : Calls Try.prog 3 #[.agg #[.int .i64 a, .int .i64 b, .int .i64 c, .int .i64 d, .int .i64 e, .int .u64 key], .int .i64 i, .int .i64 k] W fun r w' => r = .returned (.bool true) ∧ Own W [] w' :=
  law_over (ok2 (d := d) (e := e) (key := key) (i := i) (k := k) ha hb hc) (args := [chart, i6, k7]) rfl .leaf rfl r_law (fun h => h) W tabs_nil
end
end Go.Proofs.Ytigakendeghoaaa.chartPlaces
