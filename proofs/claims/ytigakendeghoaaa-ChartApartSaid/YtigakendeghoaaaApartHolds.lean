/-
  wainscotlaw21.ChartApart: for every input the call returns true, and the input reads as it did. No condition.
-/
import Derived.Test.YtigakendeghoaaaApartLaw
import Derived.Test.YtigakendeghoaaaArgs
namespace Go.Proofs.Ytigakendeghoaaa.chartApart
open Go.ChangeShapes Go.WideShapes Go.ChangeAt Go.RowKit

set_option maxRecDepth 100000 in
set_option maxHeartbeats 1000000 in
theorem lifted (os : Os) (started : os.Started) (H : Type) (enc : TypeId × Value → H) :
    ReturnsInHanded {} Try.checked os 5 .any (Rows.chartApartSpec.pre6 enc Try.prog Try.f5 Rows.chartApartRow.domain false) (Rows.chartApartSpec.post enc Try.prog Try.f5 false true false false) := by
  refine returnsInHanded_of_change (C := Try.checked) Try.own started (by kernel_rfl) Try.func5
    (ChangeSpec.witness6 (enc := enc) (C := Try.checked) false ⟨#[], #[.agg #[.int .i64 0, .int .i64 0, .int .i64 0, .int .i64 0, .int .i64 0, .int .u64 0]], []⟩ 8 (by kernel_rfl) (by kernel_rfl) (by kernel_rfl) (by kernel_rfl)) ?_
  intro W base args ds gs before hval0 hW _ _
  have hval : ∀ (j : Nat) t v, Try.f5.params[j]? = some t → args[j]? = some v → Value.okWide Try.prog W .any base t v := hval0
  have hW' := hW
  obtain ⟨p, q, hA0, hV, rfl, hfz, hnd⟩ := hW
  have hA : DataW.TrodAll enc Try.prog W 0 (fun _ => true) true Try.f5.params.toList args.toList ds p := hA0
  rw [Try.params5] at hA hval
  obtain ⟨v0, vs0, d0, ds0, p0, q0, hargs, rfl, rfl, h0, r0⟩ := trodAll_cons hA
  obtain ⟨rfl, rfl, rfl⟩ := trodAll_nil r0
  obtain rfl : args = #[v0] := by cases args; simp_all
  obtain ⟨rfl, rfl⟩ := trodVars_none hV
  obtain ⟨cs0, rfl, hcs0, hall0⟩ := open_flat 4 (ks := [some .i64, some .i64, some .i64, some .i64, some .i64, some .u64]) (by kernel_rfl) (by kernel_rfl) (hval 0 _ _ rfl rfl) h0
  obtain ⟨_, hu0_0, f0_0, rfl, xf0_0⟩ := hall0 0 _ rfl
  obtain ⟨_, hu0_1, f0_1, rfl, xf0_1⟩ := hall0 1 _ rfl
  obtain ⟨_, hu0_2, f0_2, rfl, xf0_2⟩ := hall0 2 _ rfl
  obtain ⟨_, hu0_3, f0_3, rfl, xf0_3⟩ := hall0 3 _ rfl
  obtain ⟨_, hu0_4, f0_4, rfl, xf0_4⟩ := hall0 4 _ rfl
  obtain ⟨_, hu0_5, f0_5, rfl, xf0_5⟩ := hall0 5 _ rfl
  obtain rfl : cs0 = #[.int .i64 f0_0, .int .i64 f0_1, .int .i64 f0_2, .int .i64 f0_3, .int .i64 f0_4, .int .u64 f0_5] := by
    have : cs0.size = 6 := by rw [hcs0]; kernel_rfl
    apply Array.ext_getElem?
    intro i
    match i with
    | 0 => simpa using hu0_0
    | 1 => simpa using hu0_1
    | 2 => simpa using hu0_2
    | 3 => simpa using hu0_3
    | 4 => simpa using hu0_4
    | 5 => simpa using hu0_5
    | i + 6 => rw [Array.getElem?_eq_none (by omega)]; rfl
  have hc : Calls Try.prog 5 #[.agg #[.int .i64 f0_0, .int .i64 f0_1, .int .i64 f0_2, .int .i64 f0_3, .int .i64 f0_4, .int .u64 f0_5]] W fun e w' => e = .returned (.bool true) ∧ Own W [] w' := by
    exact Apart.law_ok f0_0 f0_1 f0_2 f0_3 f0_4 f0_5 xf0_0 xf0_1 xf0_2 xf0_3 xf0_4 (Own.self W)
  exact hc.mono fun e W' ⟨he, hO⟩ => ⟨_, he, law_post Try.laidOut Try.underlying4 rfl rfl (by intro t ht; simp [Try.params5] at ht; subst ht; exact ⟨by kernel_rfl, of_decide_eq_true (by kernel_rfl)⟩) hW' rfl hO.below⟩

theorem holds : Rows.ChartApartSaid :=
  OpenClaim.holds_of_wide 5 Try.f5 rfl rfl rfl rfl rfl rfl rfl ⟨rfl, rfl, rfl, rfl, rfl⟩ rfl rfl rfl rfl rfl (by kernel_rfl) Try.func5 (by kernel_rfl)
    (of_decide_eq_true (by kernel_rfl)) (by unfold Func.isWrapper; first | (rw [if_pos (by decide +kernel)]; kernel_rfl) | (rw [if_neg (by decide +kernel)]; exact ⟨rfl, rfl⟩))
    (fun os started H enc _ => lifted os started H enc)
end Go.Proofs.Ytigakendeghoaaa.chartApart
