import Derived.Test.YtllbnoojkgbjiaaGreatFqFssH
import Derived.Test.YtllbnoojkgbjiaaGreatFq7
import Derived.Test.YtllbnoojkgbjiaaGreatFq6
/-
  wainscotlaw22.FastSteps: for every input the call returns true, and the input reads as it did. No condition.
-/
namespace Go.Proofs.YtllbnoojkgbjiaaGreat.fastSteps
open Go.ChangeShapes Go.WideShapes Go.ChangeAt Go.RowKit

set_option maxRecDepth 100000 in
set_option maxHeartbeats 1000000 in
theorem lifted (os : Os) (started : os.Started) (H : Type) (enc : TypeId × Value → H) :
    ReturnsInHanded {} Tryz.checked os 3 .any (Rows.fastStepsSpec.pre6 enc Tryz.prog Tryz.f3 Rows.fastStepsRow.domain false) (Rows.fastStepsSpec.post enc Tryz.prog Tryz.f3 false true false false) := by
  refine returnsInHanded_of_change (C := Tryz.checked) Tryz.own started (by kernel_rfl) Tryz.func3
    (ChangeSpec.witness6 (enc := enc) (C := Tryz.checked) false ⟨#[], #[.slice none 0 0, .agg #[.int .i64 0, .int .i64 0, .int .i64 0, .int .i64 0, .int .i64 0, .int .u64 0], .agg #[.int .i64 0, .int .i64 0, .int .i64 0, .int .i64 0, .int .i64 0, .int .i64 0, .int .i64 0, .int .u64 0, .int .u64 0, .int .u64 0, .int .u64 0, .int .u64 0, .int .i64 0, .int .i64 0, .int .i64 0, .int .i64 0, .int .i64 0]], []⟩ 8 (by kernel_rfl) (by kernel_rfl) (by kernel_rfl) (by kernel_rfl)) ?_
  intro W base args ds gs before hval0 hW _ _
  have hval : ∀ (j : Nat) t v, Tryz.f3.params[j]? = some t → args[j]? = some v → Value.okWide Tryz.prog W .any base t v := hval0
  have hW' := hW
  obtain ⟨p, q, hA0, hV, rfl, hfz, hnd⟩ := hW
  have hA : DataW.TrodAll enc Tryz.prog W 0 (fun _ => true) true Tryz.f3.params.toList args.toList ds p := hA0
  rw [Tryz.params3] at hA hval
  obtain ⟨v0, vs0, d0, ds0, p0, q0, hargs, rfl, rfl, h0, r0⟩ := trodAll_cons hA
  obtain ⟨v1, vs1, d1, ds1, p1, q1, rfl, rfl, rfl, h1, r1⟩ := trodAll_cons r0
  obtain ⟨v2, vs2, d2, ds2, p2, q2, rfl, rfl, rfl, h2, r2⟩ := trodAll_cons r1
  obtain ⟨rfl, rfl, rfl⟩ := trodAll_nil r2
  obtain rfl : args = #[v0, v1, v2] := by cases args; simp_all
  obtain ⟨rfl, rfl⟩ := trodVars_none hV
  obtain ⟨A0, len0, cap0, rfl, hlc0, hcm0, hat0⟩ := open_slice_at 4 (ks := [some .u64]) Tryz.underlying22 (by kernel_rfl) (by kernel_rfl) (by simp) (arg_slice Tryz.underlying22 (hval 0 _ _ rfl rfl)) h0 (fun x hx => hW'.lt x (by simp [hx]))
  obtain ⟨cs1, rfl, hcs1, hall1⟩ := open_flat 4 (ks := [some .i64, some .i64, some .i64, some .i64, some .i64, some .u64]) (by kernel_rfl) (by kernel_rfl) (hval 1 _ _ rfl rfl) h1
  obtain ⟨_, hu1_0, f1_0, rfl, xf1_0⟩ := hall1 0 _ rfl
  obtain ⟨_, hu1_1, f1_1, rfl, xf1_1⟩ := hall1 1 _ rfl
  obtain ⟨_, hu1_2, f1_2, rfl, xf1_2⟩ := hall1 2 _ rfl
  obtain ⟨_, hu1_3, f1_3, rfl, xf1_3⟩ := hall1 3 _ rfl
  obtain ⟨_, hu1_4, f1_4, rfl, xf1_4⟩ := hall1 4 _ rfl
  obtain ⟨_, hu1_5, f1_5, rfl, xf1_5⟩ := hall1 5 _ rfl
  obtain rfl : cs1 = #[.int .i64 f1_0, .int .i64 f1_1, .int .i64 f1_2, .int .i64 f1_3, .int .i64 f1_4, .int .u64 f1_5] := by
    have : cs1.size = 6 := by rw [hcs1]; kernel_rfl
    apply Array.ext_getElem?
    intro i
    match i with
    | 0 => simpa using hu1_0
    | 1 => simpa using hu1_1
    | 2 => simpa using hu1_2
    | 3 => simpa using hu1_3
    | 4 => simpa using hu1_4
    | 5 => simpa using hu1_5
    | i + 6 => rw [Array.getElem?_eq_none (by omega)]; rfl
  obtain ⟨cs2, rfl, hcs2, hall2⟩ := open_flat 4 (ks := [some .i64, some .i64, some .i64, some .i64, some .i64, some .i64, some .i64, some .u64, some .u64, some .u64, some .u64, some .u64, some .i64, some .i64, some .i64, some .i64, some .i64]) (by kernel_rfl) (by kernel_rfl) (hval 2 _ _ rfl rfl) h2
  obtain ⟨_, hu2_0, f2_0, rfl, xf2_0⟩ := hall2 0 _ rfl
  obtain ⟨_, hu2_1, f2_1, rfl, xf2_1⟩ := hall2 1 _ rfl
  obtain ⟨_, hu2_2, f2_2, rfl, xf2_2⟩ := hall2 2 _ rfl
  obtain ⟨_, hu2_3, f2_3, rfl, xf2_3⟩ := hall2 3 _ rfl
  obtain ⟨_, hu2_4, f2_4, rfl, xf2_4⟩ := hall2 4 _ rfl
  obtain ⟨_, hu2_5, f2_5, rfl, xf2_5⟩ := hall2 5 _ rfl
  obtain ⟨_, hu2_6, f2_6, rfl, xf2_6⟩ := hall2 6 _ rfl
  obtain ⟨_, hu2_7, f2_7, rfl, xf2_7⟩ := hall2 7 _ rfl
  obtain ⟨_, hu2_8, f2_8, rfl, xf2_8⟩ := hall2 8 _ rfl
  obtain ⟨_, hu2_9, f2_9, rfl, xf2_9⟩ := hall2 9 _ rfl
  obtain ⟨_, hu2_10, f2_10, rfl, xf2_10⟩ := hall2 10 _ rfl
  obtain ⟨_, hu2_11, f2_11, rfl, xf2_11⟩ := hall2 11 _ rfl
  obtain ⟨_, hu2_12, f2_12, rfl, xf2_12⟩ := hall2 12 _ rfl
  obtain ⟨_, hu2_13, f2_13, rfl, xf2_13⟩ := hall2 13 _ rfl
  obtain ⟨_, hu2_14, f2_14, rfl, xf2_14⟩ := hall2 14 _ rfl
  obtain ⟨_, hu2_15, f2_15, rfl, xf2_15⟩ := hall2 15 _ rfl
  obtain ⟨_, hu2_16, f2_16, rfl, xf2_16⟩ := hall2 16 _ rfl
  obtain rfl : cs2 = #[.int .i64 f2_0, .int .i64 f2_1, .int .i64 f2_2, .int .i64 f2_3, .int .i64 f2_4, .int .i64 f2_5, .int .i64 f2_6, .int .u64 f2_7, .int .u64 f2_8, .int .u64 f2_9, .int .u64 f2_10, .int .u64 f2_11, .int .i64 f2_12, .int .i64 f2_13, .int .i64 f2_14, .int .i64 f2_15, .int .i64 f2_16] := by
    have : cs2.size = 17 := by rw [hcs2]; kernel_rfl
    apply Array.ext_getElem?
    intro i
    match i with
    | 0 => simpa using hu2_0
    | 1 => simpa using hu2_1
    | 2 => simpa using hu2_2
    | 3 => simpa using hu2_3
    | 4 => simpa using hu2_4
    | 5 => simpa using hu2_5
    | 6 => simpa using hu2_6
    | 7 => simpa using hu2_7
    | 8 => simpa using hu2_8
    | 9 => simpa using hu2_9
    | 10 => simpa using hu2_10
    | 11 => simpa using hu2_11
    | 12 => simpa using hu2_12
    | 13 => simpa using hu2_13
    | 14 => simpa using hu2_14
    | 15 => simpa using hu2_15
    | 16 => simpa using hu2_16
    | i + 17 => rw [Array.getElem?_eq_none (by omega)]; rfl
  have hc : Calls Tryz.prog 3 #[.slice A0 len0 cap0, .agg #[.int .i64 f1_0, .int .i64 f1_1, .int .i64 f1_2, .int .i64 f1_3, .int .i64 f1_4, .int .u64 f1_5], .agg #[.int .i64 f2_0, .int .i64 f2_1, .int .i64 f2_2, .int .i64 f2_3, .int .i64 f2_4, .int .i64 f2_5, .int .i64 f2_6, .int .u64 f2_7, .int .u64 f2_8, .int .u64 f2_9, .int .u64 f2_10, .int .u64 f2_11, .int .i64 f2_12, .int .i64 f2_13, .int .i64 f2_14, .int .i64 f2_15, .int .i64 f2_16]] W fun e w' => e = .returned (.bool true) ∧ Own W [] w' := by
    have := Fss.steps_law W f1_0 f1_1 f1_2 f1_3 f1_4 f1_5 (fun q => [f2_0, f2_1, f2_2, f2_3, f2_4, f2_5, f2_6, f2_7, f2_8, f2_9, f2_10, f2_11, f2_12, f2_13, f2_14, f2_15, f2_16].getD q 0) xf1_0 xf1_1 xf1_2 xf1_5 A0 len0 cap0 hlc0 hcm0 hat0
    exact this
  exact hc.mono fun e W' ⟨he, hO⟩ => ⟨_, he, law_post Tryz.laidOut Tryz.underlying4 rfl rfl (by intro t ht; simp [Tryz.params3] at ht; rcases ht with rfl | rfl | rfl <;> exact ⟨by kernel_rfl, of_decide_eq_true (by kernel_rfl)⟩) hW' rfl hO.below⟩

theorem holds : Rows.FastStepsSaid :=
  OpenClaim.holds_of_wide 3 Tryz.f3 rfl rfl rfl rfl rfl rfl rfl ⟨rfl, rfl, rfl, rfl, rfl⟩ rfl rfl rfl rfl rfl (by kernel_rfl) Tryz.func3 (by kernel_rfl)
    (of_decide_eq_true (by kernel_rfl)) (by unfold Func.isWrapper; first | (rw [if_pos (by decide +kernel)]; kernel_rfl) | (rw [if_neg (by decide +kernel)]; exact ⟨rfl, rfl⟩))
    (fun os started H enc _ => lifted os started H enc)
end Go.Proofs.YtllbnoojkgbjiaaGreat.fastSteps
