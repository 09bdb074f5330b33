/-
  The places of a chart that may be: contracts out of the trees. No condition.
-/
import Derived.Test.YtigakendeghoaaaExChartPlaces
import Derived.Test.YtigakendeghoaaaApartPlain
namespace Go.Proofs.Ytigakendeghoaaa.Apart
open Go Ex chartPlaces
/-- a chart as a value -/
abbrev chV (C S O d e key : Int) : Value := .agg #[.int .i64 C, .int .i64 S, .int .i64 O, .int .i64 d, .int .i64 e, .int .u64 key]
theorem wrap_id {n : Int} (h : -9223372036854775808 ≤ n ∧ n ≤ 9223372036854775807) : IntKind.i64.wrap n = n := by
  simp [IntKind.wrap, IntKind.signed, IntKind.bits]
  split <;> omega
section
variable {C S O d e key i k : Int} {W w : World} {m : List (Nat × Obj)}
theorem ok_64 (h : Ok C S O d e) : I64 C ∧ I64 S ∧ I64 O := by unfold Ok at h; unfold I64; omega
theorem s1_8 (h : Ok C S O d e) : s1 C S O d e key i k 8 = 0 := by
  show chartPlaces.chk C S O d e key i k = 0
  unfold chartPlaces.chk
  rw [chk_is, if_pos h]
  rfl
theorem place (h : Ok C S O d e) {f : FuncId} {xs : List AV} {t : DT} (ht : tree Try.prog [] ov1 30 f xs t [] = true) (ha : AV.shuts xs = true) (hb : ¬ BadP (s1 C S O d e key i k) t) (hO : Own W m w) :
    Calls Try.prog f (valsOf (s1 C S O d e key i k) xs).toArray w fun r w' => r = .returned (endOf (s1 C S O d e key i k) t) ∧ Own W m w' := by
  obtain ⟨h1, h2, h3⟩ := ok_64 h
  refine (tree_ends mixed (ok1 h1 h2 h3) ha t [] (by simp) ht hb w tabs_nil).mono ?_
  rintro _ _ ⟨⟨x, rfl, hx⟩, h2⟩
  exact ⟨by rw [ends_of hx], hO.then_below h2⟩
theorem mul_ok (h : Ok C S O d e) : 0 ≤ S * O ∧ S * O ≤ 512 := by
  unfold Ok at h
  have h1 : S * O ≤ 32 * O := Int.mul_le_mul_of_nonneg_right (by omega) (by omega)
  have h2 : 0 ≤ S * O := Int.mul_nonneg (by omega) (by omega)
  omega
theorem check_ok (h : Ok C S O d e) (hO : Own W m w) : Calls Try.prog 11 #[chV C S O d e key] w fun r w' => r = .returned (.int .i64 0) ∧ Own W m w' := by
  refine (tree_ends (σ := s0 C S O d e key 0 0) mixed ov_nil (args := [chart]) rfl tChk [] (by simp) r_cCheck (no_bad rfl) w tabs_nil).mono ?_
  rintro _ _ ⟨⟨x, rfl, hx⟩, h2⟩
  refine ⟨?_, hO.then_below h2⟩
  rw [ends_of hx, chk_is, if_pos h]
theorem words_ok (h : Ok C S O d e) (hO : Own W m w) : Calls Try.prog 12 #[chV C S O d e key] w fun r w' => r = .returned (.int .i64 (4 * C + 4 + 4 * S + S * O)) ∧ Own W m w' := by
  refine (place (key := key) (i := 0) (k := 0) h r_cWords rfl (bad_words _ _ _ _ _ _ _ _) hO).mono ?_
  rintro _ _ ⟨rfl, h2⟩
  refine ⟨?_, h2⟩
  have hm := mul_ok h
  have h8 := s1_8 (key := key) (i := 0) (k := 0) h
  have e0 : s1 C S O d e key 0 0 0 = C := rfl
  have e1 : s1 C S O d e key 0 0 1 = S := rfl
  have e2 : s1 C S O d e key 0 0 2 = O := rfl
  unfold Ok at h
  simp only [tWords, chain, endOf, Cnd.ev, okQ, v, l, SE.ev, is, num, h8, e0, e1, e2, Ex.valOf, add, mul, links, slabs, base, decide_eq_true_eq, beq_self_eq_true, if_true]
  rw [if_neg (by omega), if_neg (by omega), if_neg (by omega), if_neg (by omega), if_neg (by omega), if_neg (by omega)]
  rw [wrap_id (n := 4 * C) (by omega), wrap_id (n := 4 * C + 4) (by omega), wrap_id (n := 4 * S) (by omega), wrap_id (n := 4 * C + 4 + 4 * S) (by omega), wrap_id (n := S * O) (by omega), wrap_id (n := 4 * C + 4 + 4 * S + S * O) (by omega)]
theorem lock_ok (h : Ok C S O d e) (hO : Own W m w) : Calls Try.prog 15 #[chV C S O d e key] w fun r w' => r = .returned (.int .i64 (4 * C)) ∧ Own W m w' := by
  refine (place (key := key) (i := 0) (k := 0) h r_cLock rfl (no_bad rfl) hO).mono ?_
  rintro _ _ ⟨rfl, h2⟩
  refine ⟨?_, h2⟩
  have h8 := s1_8 (key := key) (i := 0) (k := 0) h
  have e0 : s1 C S O d e key 0 0 0 = C := rfl
  have e1 : s1 C S O d e key 0 0 1 = S := rfl
  have e2 : s1 C S O d e key 0 0 2 = O := rfl
  have e6 : s1 C S O d e key 0 0 6 = 0 := rfl
  have e7 : s1 C S O d e key 0 0 7 = 0 := rfl
  unfold Ok at h
  simp only [tLock, t0, t1, endOf, Cnd.ev, okQ, v, l, SE.ev, is, no, num, h8, e0, e1, e2, e6, e7, Ex.valOf, add, mul, links, slabs, base, decide_eq_true_eq, beq_self_eq_true, if_true]
  rw [wrap_id (n := 4 * C) (by omega)]
theorem shelf_ok (h : Ok C S O d e) (hO : Own W m w) : Calls Try.prog 16 #[chV C S O d e key] w fun r w' => r = .returned (.int .i64 (4 * C + 1)) ∧ Own W m w' := by
  refine (place (key := key) (i := 0) (k := 0) h r_cShelf rfl (no_bad rfl) hO).mono ?_
  rintro _ _ ⟨rfl, h2⟩
  refine ⟨?_, h2⟩
  have h8 := s1_8 (key := key) (i := 0) (k := 0) h
  have e0 : s1 C S O d e key 0 0 0 = C := rfl
  have e1 : s1 C S O d e key 0 0 1 = S := rfl
  have e2 : s1 C S O d e key 0 0 2 = O := rfl
  have e6 : s1 C S O d e key 0 0 6 = 0 := rfl
  have e7 : s1 C S O d e key 0 0 7 = 0 := rfl
  unfold Ok at h
  simp only [tShelf, t0, t1, endOf, Cnd.ev, okQ, v, l, SE.ev, is, no, num, h8, e0, e1, e2, e6, e7, Ex.valOf, add, mul, links, slabs, base, decide_eq_true_eq, beq_self_eq_true, if_true]
  rw [wrap_id (n := 4 * C) (by omega), wrap_id (n := 4 * C + 1) (by omega)]
theorem held_ok (h : Ok C S O d e) (hO : Own W m w) : Calls Try.prog 17 #[chV C S O d e key] w fun r w' => r = .returned (.int .i64 (4 * C + 2)) ∧ Own W m w' := by
  refine (place (key := key) (i := 0) (k := 0) h r_cHeld rfl (no_bad rfl) hO).mono ?_
  rintro _ _ ⟨rfl, h2⟩
  refine ⟨?_, h2⟩
  have h8 := s1_8 (key := key) (i := 0) (k := 0) h
  have e0 : s1 C S O d e key 0 0 0 = C := rfl
  have e1 : s1 C S O d e key 0 0 1 = S := rfl
  have e2 : s1 C S O d e key 0 0 2 = O := rfl
  have e6 : s1 C S O d e key 0 0 6 = 0 := rfl
  have e7 : s1 C S O d e key 0 0 7 = 0 := rfl
  unfold Ok at h
  simp only [tHeld, t0, t1, endOf, Cnd.ev, okQ, v, l, SE.ev, is, no, num, h8, e0, e1, e2, e6, e7, Ex.valOf, add, mul, links, slabs, base, decide_eq_true_eq, beq_self_eq_true, if_true]
  rw [wrap_id (n := 4 * C) (by omega), wrap_id (n := 4 * C + 2) (by omega)]
theorem head_ok (h : Ok C S O d e) (hi : 0 ≤ i ∧ i < C) (hO : Own W m w) : Calls Try.prog 13 #[chV C S O d e key, .int .i64 i] w fun r w' => r = .returned (.int .i64 (4 * i)) ∧ Own W m w' := by
  refine (place (key := key) (i := i) (k := 0) h r_cHead rfl (no_bad rfl) hO).mono ?_
  rintro _ _ ⟨rfl, h2⟩
  refine ⟨?_, h2⟩
  have h8 := s1_8 (key := key) (i := i) (k := 0) h
  have e0 : s1 C S O d e key i 0 0 = C := rfl
  have e1 : s1 C S O d e key i 0 1 = S := rfl
  have e2 : s1 C S O d e key i 0 2 = O := rfl
  have e6 : s1 C S O d e key i 0 6 = i := rfl
  have e7 : s1 C S O d e key i 0 7 = 0 := rfl
  unfold Ok at h
  simp only [tHead, t0, t1, endOf, Cnd.ev, okQ, v, l, SE.ev, is, no, num, h8, e0, e1, e2, e6, e7, Ex.valOf, add, mul, links, slabs, base, decide_eq_true_eq, beq_self_eq_true, if_true]
  rw [if_neg (by omega), if_pos (by omega)]
  rw [wrap_id (n := 4 * i) (by omega)]
theorem part_ok (h : Ok C S O d e) (hi : 0 ≤ i ∧ i < C) (hO : Own W m w) : Calls Try.prog 14 #[chV C S O d e key, .int .i64 i] w fun r w' => r = .returned (.int .i64 (4 * i + 2)) ∧ Own W m w' := by
  refine (place (key := key) (i := i) (k := 0) h r_cPart rfl (no_bad rfl) hO).mono ?_
  rintro _ _ ⟨rfl, h2⟩
  refine ⟨?_, h2⟩
  have h8 := s1_8 (key := key) (i := i) (k := 0) h
  have e0 : s1 C S O d e key i 0 0 = C := rfl
  have e1 : s1 C S O d e key i 0 1 = S := rfl
  have e2 : s1 C S O d e key i 0 2 = O := rfl
  have e6 : s1 C S O d e key i 0 6 = i := rfl
  have e7 : s1 C S O d e key i 0 7 = 0 := rfl
  unfold Ok at h
  simp only [tPart, t0, t1, endOf, Cnd.ev, okQ, v, l, SE.ev, is, no, num, h8, e0, e1, e2, e6, e7, Ex.valOf, add, mul, links, slabs, base, decide_eq_true_eq, beq_self_eq_true, if_true]
  rw [if_neg (by omega), if_pos (by omega)]
  rw [wrap_id (n := 4 * i) (by omega), wrap_id (n := 4 * i + 2) (by omega)]
theorem first_ok (h : Ok C S O d e) (hi : 0 ≤ i ∧ i < S) (hO : Own W m w) : Calls Try.prog 18 #[chV C S O d e key, .int .i64 i] w fun r w' => r = .returned (.int .i64 (4 * C + 4 + 4 * i)) ∧ Own W m w' := by
  refine (place (key := key) (i := i) (k := 0) h r_cFirst rfl (no_bad rfl) hO).mono ?_
  rintro _ _ ⟨rfl, h2⟩
  refine ⟨?_, h2⟩
  have h8 := s1_8 (key := key) (i := i) (k := 0) h
  have e0 : s1 C S O d e key i 0 0 = C := rfl
  have e1 : s1 C S O d e key i 0 1 = S := rfl
  have e2 : s1 C S O d e key i 0 2 = O := rfl
  have e6 : s1 C S O d e key i 0 6 = i := rfl
  have e7 : s1 C S O d e key i 0 7 = 0 := rfl
  unfold Ok at h
  simp only [tFirst, t0, t1, endOf, Cnd.ev, okQ, v, l, SE.ev, is, no, num, h8, e0, e1, e2, e6, e7, Ex.valOf, add, mul, links, slabs, base, decide_eq_true_eq, beq_self_eq_true, if_true]
  rw [if_neg (by omega), if_pos (by omega)]
  rw [wrap_id (n := 4 * C) (by omega), wrap_id (n := 4 * C + 4) (by omega), wrap_id (n := 4 * i) (by omega), wrap_id (n := 4 * C + 4 + 4 * i) (by omega)]
theorem next_ok (h : Ok C S O d e) (hi : 0 ≤ i ∧ i < S) (hO : Own W m w) : Calls Try.prog 19 #[chV C S O d e key, .int .i64 i] w fun r w' => r = .returned (.int .i64 (4 * C + 4 + 4 * i + 2)) ∧ Own W m w' := by
  refine (place (key := key) (i := i) (k := 0) h r_cNext rfl (no_bad rfl) hO).mono ?_
  rintro _ _ ⟨rfl, h2⟩
  refine ⟨?_, h2⟩
  have h8 := s1_8 (key := key) (i := i) (k := 0) h
  have e0 : s1 C S O d e key i 0 0 = C := rfl
  have e1 : s1 C S O d e key i 0 1 = S := rfl
  have e2 : s1 C S O d e key i 0 2 = O := rfl
  have e6 : s1 C S O d e key i 0 6 = i := rfl
  have e7 : s1 C S O d e key i 0 7 = 0 := rfl
  unfold Ok at h
  simp only [tNext, t0, t1, endOf, Cnd.ev, okQ, v, l, SE.ev, is, no, num, h8, e0, e1, e2, e6, e7, Ex.valOf, add, mul, links, slabs, base, decide_eq_true_eq, beq_self_eq_true, if_true]
  rw [if_neg (by omega), if_pos (by omega)]
  rw [wrap_id (n := 4 * C) (by omega), wrap_id (n := 4 * C + 4) (by omega), wrap_id (n := 4 * i) (by omega), wrap_id (n := 4 * C + 4 + 4 * i) (by omega), wrap_id (n := 4 * C + 4 + 4 * i + 2) (by omega)]
theorem link_ok (h : Ok C S O d e) (hi : 0 ≤ i ∧ i < S) (hk : 0 ≤ k ∧ k < O) (hO : Own W m w) : Calls Try.prog 20 #[chV C S O d e key, .int .i64 i, .int .i64 k] w fun r w' => r = .returned (.int .i64 (4 * C + 4 + 4 * S + i * O + k)) ∧ Own W m w' := by
  refine (place (key := key) (i := i) (k := k) h r_cLink rfl (no_bad rfl) hO).mono ?_
  rintro _ _ ⟨rfl, h2⟩
  refine ⟨?_, h2⟩
  have hm : 0 ≤ i * O ∧ i * O ≤ 32 * O := ⟨Int.mul_nonneg (by omega) (by omega), Int.mul_le_mul_of_nonneg_right (by unfold Ok at h; omega) (by omega)⟩
  have h8 := s1_8 (key := key) (i := i) (k := k) h
  have e0 : s1 C S O d e key i k 0 = C := rfl
  have e1 : s1 C S O d e key i k 1 = S := rfl
  have e2 : s1 C S O d e key i k 2 = O := rfl
  have e6 : s1 C S O d e key i k 6 = i := rfl
  have e7 : s1 C S O d e key i k 7 = k := rfl
  unfold Ok at h
  simp only [tLink, t0, t1, endOf, Cnd.ev, okQ, v, l, SE.ev, is, no, num, h8, e0, e1, e2, e6, e7, Ex.valOf, add, mul, links, slabs, base, decide_eq_true_eq, beq_self_eq_true, if_true]
  rw [if_neg (by omega), if_pos (by omega), if_neg (by omega), if_pos (by omega)]
  rw [wrap_id (n := 4 * C) (by omega), wrap_id (n := 4 * C + 4) (by omega), wrap_id (n := 4 * S) (by omega), wrap_id (n := 4 * C + 4 + 4 * S) (by omega), wrap_id (n := i * O) (by omega), wrap_id (n := 4 * C + 4 + 4 * S + i * O) (by omega), wrap_id (n := 4 * C + 4 + 4 * S + i * O + k) (by omega)]
end
end Go.Proofs.Ytigakendeghoaaa.Apart
