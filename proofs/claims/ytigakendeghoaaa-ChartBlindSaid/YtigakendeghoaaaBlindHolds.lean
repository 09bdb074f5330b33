/-
  wainscotlaw21.ChartBlind: for every input the call returns true, and the input reads as it did. No condition.
-/
import Derived.Test.YtigakendeghoaaaBlind
import Derived.Test.YtigakendeghoaaaArgs
import Derived.Test.YtigakendeghoaaaLaw
namespace Go.Proofs.Ytigakendeghoaaa.chartBlind
open Go.ChangeShapes Go.WideShapes Go.ChangeAt Go.RowKit

set_option maxRecDepth 100000 in
set_option maxHeartbeats 1000000 in
theorem lifted (os : Os) (started : os.Started) (H : Type) (enc : TypeId × Value → H) :
    ReturnsInHanded {} Try.checked os 6 .any (Rows.chartBlindSpec.pre6 enc Try.prog Try.f6 Rows.chartBlindRow.domain false) (Rows.chartBlindSpec.post enc Try.prog Try.f6 false true false false) := by
  refine returnsInHanded_of_change (C := Try.checked) Try.own started (by kernel_rfl) Try.func6
    (ChangeSpec.witness6 (enc := enc) (C := Try.checked) false ⟨#[], #[.slice none 0 0, .agg #[.int .i64 0, .int .i64 0, .int .i64 0, .int .i64 0, .int .i64 0, .int .u64 0], .int .u64 0], []⟩ 8 (by kernel_rfl) (by kernel_rfl) (by kernel_rfl) (by kernel_rfl)) ?_
  intro W base args ds gs before hval0 hW _ _
  have hval : ∀ (j : Nat) t v, Try.f6.params[j]? = some t → args[j]? = some v → Value.okWide Try.prog W .any base t v := hval0
  have hW' := hW
  obtain ⟨p, q, hA0, hV, rfl, hfz, hnd⟩ := hW
  have hA : DataW.TrodAll enc Try.prog W 0 (fun _ => true) true Try.f6.params.toList args.toList ds p := hA0
  rw [Try.params6] at hA hval
  obtain ⟨v0, vs0, d0, ds0, p0, q0, hargs, rfl, rfl, h0, r0⟩ := trodAll_cons hA
  obtain ⟨v1, vs1, d1, ds1, p1, q1, rfl, rfl, rfl, h1, r1⟩ := trodAll_cons r0
  obtain ⟨v2, vs2, d2, ds2, p2, q2, rfl, rfl, rfl, h2, r2⟩ := trodAll_cons r1
  obtain ⟨rfl, rfl, rfl⟩ := trodAll_nil r2
  obtain rfl : args = #[v0, v1, v2] := by cases args; simp_all
  obtain ⟨rfl, rfl⟩ := trodVars_none hV
  obtain ⟨A0, len0, cap0, rfl, hlc0, hcm0, hat0⟩ := open_slice_at 4 (ks := [some .u64]) Try.underlying35 (by kernel_rfl) (by kernel_rfl) (by simp) (arg_slice Try.underlying35 (hval 0 _ _ rfl rfl)) h0 (fun x hx => hW'.lt x (by simp [hx]))
  obtain ⟨cs1, rfl, hcs1, hall1⟩ := open_flat 4 (ks := [some .i64, some .i64, some .i64, some .i64, some .i64, some .u64]) (by kernel_rfl) (by kernel_rfl) (hval 1 _ _ rfl rfl) h1
  obtain ⟨_, hu1_0, f1_0, rfl, xf1_0⟩ := hall1 0 _ rfl
  obtain ⟨_, hu1_1, f1_1, rfl, xf1_1⟩ := hall1 1 _ rfl
  obtain ⟨_, hu1_2, f1_2, rfl, xf1_2⟩ := hall1 2 _ rfl
  obtain ⟨_, hu1_3, f1_3, rfl, xf1_3⟩ := hall1 3 _ rfl
  obtain ⟨_, hu1_4, f1_4, rfl, xf1_4⟩ := hall1 4 _ rfl
  obtain ⟨_, hu1_5, f1_5, rfl, xf1_5⟩ := hall1 5 _ rfl
  obtain rfl : cs1 = #[.int .i64 f1_0, .int .i64 f1_1, .int .i64 f1_2, .int .i64 f1_3, .int .i64 f1_4, .int .u64 f1_5] := by
    have : cs1.size = 6 := by rw [hcs1]; kernel_rfl
    apply Array.ext_getElem?
    intro i
    match i with
    | 0 => simpa using hu1_0
    | 1 => simpa using hu1_1
    | 2 => simpa using hu1_2
    | 3 => simpa using hu1_3
    | 4 => simpa using hu1_4
    | 5 => simpa using hu1_5
    | i + 6 => rw [Array.getElem?_eq_none (by omega)]; rfl
  obtain ⟨n2, rfl, rfl, rfl, x2⟩ := open_int Try.underlying22 (hval 2 _ _ rfl rfl) h2
  have hc : Calls Try.prog 6 #[.slice A0 len0 cap0, .agg #[.int .i64 f1_0, .int .i64 f1_1, .int .i64 f1_2, .int .i64 f1_3, .int .i64 f1_4, .int .u64 f1_5], .int .u64 n2] W fun e w' => e = .returned (.bool true) ∧ Own W [] w' := by
    exact See.blind_walk (Own.self W) f1_0 f1_1 f1_2 f1_3 f1_4 f1_5 n2 xf1_0 xf1_1 xf1_2 xf1_3 xf1_4 xf1_5 x2 A0 len0 cap0 hlc0 hcm0 hat0
  exact hc.mono fun e W' ⟨he, hO⟩ => ⟨_, he, law_post Try.laidOut Try.underlying4 rfl rfl (by intro t ht; simp [Try.params6] at ht; rcases ht with rfl | rfl | rfl <;> exact ⟨by kernel_rfl, of_decide_eq_true (by kernel_rfl)⟩) hW' rfl hO.below⟩

theorem holds : Rows.ChartBlindSaid :=
  OpenClaim.holds_of_wide 6 Try.f6 rfl rfl rfl rfl rfl rfl rfl ⟨rfl, rfl, rfl, rfl, rfl⟩ rfl rfl rfl rfl rfl (by kernel_rfl) Try.func6 (by kernel_rfl)
    (of_decide_eq_true (by kernel_rfl)) (by unfold Func.isWrapper; first | (rw [if_pos (by decide +kernel)]; kernel_rfl) | (rw [if_neg (by decide +kernel)]; exact ⟨rfl, rfl⟩))
    (fun os started H enc _ => lifted os started H enc)
end Go.Proofs.Ytigakendeghoaaa.chartBlind
