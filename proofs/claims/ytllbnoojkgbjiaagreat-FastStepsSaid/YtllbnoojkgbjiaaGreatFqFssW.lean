import Derived.Test.YtllbnoojkgbjiaaGreatFq9
/-
  Contracts: the document's Check and Words of a chart (wainscotref21), the program's Check: of any chart. No condition.
-/
namespace Go.Proofs.YtllbnoojkgbjiaaGreat.Fss
open Go Ex chartPlaces
open Apart (chV s1_8 wrap_id mul_ok)
namespace RT
open chartPlaces
def less (a : SE) : SE := .bin .sub a (chartPlaces.l 1)
def inn (a : SE) (n : Int) (y : DT) : DT := .node (.lt a (chartPlaces.l 0)) (num 2) (.node (.lt a (chartPlaces.l n)) y (num 2))
def tChkR : DT := inn (less (chartPlaces.v 0)) 8 (inn (less (chartPlaces.v 1)) 32 (inn (less (chartPlaces.v 2)) 16 (inn (chartPlaces.v 3) 33 (inn (chartPlaces.v 4) 33 (num 0)))))
section
variable (a b c d e key i k : Int)
theorem wrap_less {n x : Int} (hx : I64 x) (h0 : 0 ≤ n) (hn : n ≤ 9223372036854775807) : (0 ≤ IntKind.i64.wrap (x - 1) ∧ IntKind.i64.wrap (x - 1) < n) ↔ 1 ≤ x ∧ x ≤ n := by
  unfold I64 at hx
  have hw : IntKind.i64.wrap (x - 1) = if x = -9223372036854775808 then 9223372036854775807 else x - 1 := by
    simp [IntKind.wrap, IntKind.signed, IntKind.bits]
    split <;> split <;> omega
  rw [hw]
  split <;> omega
theorem inn_end {σ : Nat → Int} {x : SE} {n : Int} {y : DT} : endOf σ (inn x n y) = if 0 ≤ x.ev σ ∧ x.ev σ < n then endOf σ y else .int .i64 2 := by
  simp only [inn, endOf, num, Cnd.ev, SE.ev, chartPlaces.l, Ex.valOf, decide_eq_true_eq]
  by_cases h1 : x.ev σ < 0 <;> by_cases h2 : x.ev σ < n <;> simp [h1, h2] <;> omega
theorem chkR_is (ha : I64 a) (hb : I64 b) (hc : I64 c) : endOf (s0 a b c d e key i k) tChkR = .int .i64 (if Ok a b c d e then 0 else 2) := by
  unfold tChkR
  have e0 : (less (chartPlaces.v 0)).ev (s0 a b c d e key i k) = IntKind.i64.wrap (a - 1) := rfl
  have e1 : (less (chartPlaces.v 1)).ev (s0 a b c d e key i k) = IntKind.i64.wrap (b - 1) := rfl
  have e2 : (less (chartPlaces.v 2)).ev (s0 a b c d e key i k) = IntKind.i64.wrap (c - 1) := rfl
  have e3 : (chartPlaces.v 3).ev (s0 a b c d e key i k) = d := rfl
  have e4 : (chartPlaces.v 4).ev (s0 a b c d e key i k) = e := rfl
  simp only [inn_end, e0, e1, e2, e3, e4, wrap_less ha (n := 8) (by decide) (by decide), wrap_less hb (n := 32) (by decide) (by decide), wrap_less hc (n := 16) (by decide) (by decide)]
  simp only [endOf, num, Ex.valOf]
  split
  · split
    · split
      · split
        · split
          · rw [if_pos (by unfold Ok; omega)]
          · rw [if_neg (by unfold Ok; omega)]
        · rw [if_neg (by unfold Ok; omega)]
      · rw [if_neg (by unfold Ok; omega)]
    · rw [if_neg (by unfold Ok; omega)]
  · rw [if_neg (by unfold Ok; omega)]
end
end RT
theorem t_rCheck : tree Tryz.prog [] [] 30 45 [chart] RT.tChkR [] = true := by kernel_rfl
def ovR : Ov := [(45, [chart], .sym .i64 (chartPlaces.v 8))]
theorem t_rWords : tree Tryz.prog [] ovR 30 12 [chart] tWords [] = true := by kernel_rfl
section
variable {C S O d e key i k : Int} (hC : I64 C) (hS : I64 S) (hO' : I64 O) {W w : World} {m : List (Nat × Obj)}
include hC hS hO'
theorem okR1 : OvOk Tryz.prog [] (s1 C S O d e key i k) ovR :=
  ov_cons ov_nil rfl rfl ⟨Tryz.f45, _, Tryz.func45, by kernel_rfl, rfl⟩ (known (σ := s0 C S O d e key i k) ov_nil rfl t_rCheck (no_bad rfl) rfl rfl (by rw [RT.chkR_is C S O d e key i k hC hS hO']; show chartPlaces.chk C S O d e key i k = _; unfold chartPlaces.chk; rw [chk_is]))
theorem rcheck_any (hO : Own W m w) : Calls Tryz.prog 45 #[chV C S O d e key] w fun r w' => r = .returned (.int .i64 (if Ok C S O d e then 0 else 2)) ∧ Own W m w' := by
  refine (tree_ends (σ := s0 C S O d e key 0 0) mixed ov_nil (args := [chart]) rfl RT.tChkR [] (by simp) t_rCheck (no_bad rfl) w tabs_nil).mono ?_
  rintro _ _ ⟨⟨x, rfl, hx⟩, h2⟩
  refine ⟨?_, hO.then_below h2⟩
  rw [ends_of hx, RT.chkR_is C S O d e key 0 0 hC hS hO']
omit hC hS hO' in
theorem ccheck_any (hO : Own W m w) : Calls Tryz.prog 18 #[chV C S O d e key] w fun r w' => r = .returned (.int .i64 (if Ok C S O d e then 0 else 2)) ∧ Own W m w' := by
  refine (tree_ends (σ := s0 C S O d e key 0 0) mixed ov_nil (args := [chart]) rfl tChk [] (by simp) r_cCheck (no_bad rfl) w tabs_nil).mono ?_
  rintro _ _ ⟨⟨x, rfl, hx⟩, h2⟩
  refine ⟨?_, hO.then_below h2⟩
  rw [ends_of hx, chk_is]
theorem rwordsN_ok (h : Ok C S O d e) (hO : Own W m w) : Calls Tryz.prog 12 #[chV C S O d e key] w fun r w' => r = .returned (.int .i64 (4 * C + 4 + 4 * S + S * O)) ∧ Own W m w' := by
  refine (tree_ends (σ := s1 C S O d e key 0 0) mixed (okR1 hC hS hO') (args := [chart]) rfl tWords [] (by simp) t_rWords (bad_words _ _ _ _ _ _ _ _) w tabs_nil).mono ?_
  rintro _ _ ⟨⟨x, rfl, hx⟩, h2⟩
  refine ⟨?_, hO.then_below h2⟩
  rw [ends_of hx]
  have hm := mul_ok h
  have h8 := s1_8 (key := key) (i := 0) (k := 0) h
  have e0 : s1 C S O d e key 0 0 0 = C := rfl
  have e1 : s1 C S O d e key 0 0 1 = S := rfl
  have e2 : s1 C S O d e key 0 0 2 = O := rfl
  unfold Ok at h
  simp only [tWords, chain, endOf, Cnd.ev, okQ, chartPlaces.v, chartPlaces.l, SE.ev, is, num, h8, e0, e1, e2, Ex.valOf, chartPlaces.add, chartPlaces.mul, links, slabs, base, decide_eq_true_eq, beq_self_eq_true, if_true]
  rw [if_neg (by omega), if_neg (by omega), if_neg (by omega), if_neg (by omega), if_neg (by omega), if_neg (by omega)]
  rw [wrap_id (n := 4 * C) (by omega), wrap_id (n := 4 * C + 4) (by omega), wrap_id (n := 4 * S) (by omega), wrap_id (n := 4 * C + 4 + 4 * S) (by omega), wrap_id (n := S * O) (by omega), wrap_id (n := 4 * C + 4 + 4 * S + S * O) (by omega)]
theorem rwordsN_bad (h : ¬ Ok C S O d e) (hO : Own W m w) : Calls Tryz.prog 12 #[chV C S O d e key] w fun r w' => r = .returned (.int .i64 0) ∧ Own W m w' := by
  refine (tree_ends (σ := s1 C S O d e key 0 0) mixed (okR1 hC hS hO') (args := [chart]) rfl tWords [] (by simp) t_rWords (bad_words _ _ _ _ _ _ _ _) w tabs_nil).mono ?_
  rintro _ _ ⟨⟨x, rfl, hx⟩, h2⟩
  refine ⟨?_, hO.then_below h2⟩
  rw [ends_of hx]
  have h8 : s1 C S O d e key 0 0 8 = 2 := by
    show chartPlaces.chk C S O d e key 0 0 = 2
    unfold chartPlaces.chk
    rw [chk_is, if_neg h]
    rfl
  simp only [tWords, endOf, Cnd.ev, okQ, chartPlaces.v, chartPlaces.l, SE.ev, num, h8, Ex.valOf]
  rfl
end
end Go.Proofs.YtllbnoojkgbjiaaGreat.Fss
