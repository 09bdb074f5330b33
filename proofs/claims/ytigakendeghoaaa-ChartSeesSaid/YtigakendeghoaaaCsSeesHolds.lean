import Derived.Test.YtigakendeghoaaaCs11
import Derived.Test.YtigakendeghoaaaCs10
import Derived.Test.YtigakendeghoaaaCs6
/-
  wainscotlaw21.ChartSees: for every input the call returns true, and the input reads as it did. No condition.
-/
namespace Go.Proofs.Ytigakendeghoaaa.chartSees
open Go.ChangeShapes Go.WideShapes Go.ChangeAt Go.RowKit

set_option maxRecDepth 100000 in
set_option maxHeartbeats 1000000 in
theorem lifted (os : Os) (started : os.Started) (H : Type) (enc : TypeId × Value → H) :
    ReturnsInHanded {} Try.checked os 4 .any (Rows.chartSeesSpec.pre6 enc Try.prog Try.f4 Rows.chartSeesRow.domain false) (Rows.chartSeesSpec.post enc Try.prog Try.f4 false true false false) := by
  refine returnsInHanded_of_change_sized (C := Try.checked) Try.own started (by kernel_rfl) Try.func4
    (ChangeSpec.witness6 (enc := enc) (C := Try.checked) false ⟨#[], #[.slice none 0 0, .agg #[.int .i64 0, .int .i64 0, .int .i64 0, .int .i64 0, .int .i64 0, .int .u64 0]], []⟩ 8 (by kernel_rfl) (by kernel_rfl) (by kernel_rfl) (by kernel_rfl)) ?_
  intro W base args ds gs before hval0 hW _ hsz0 _
  have hsz : (DataW.weightsEach Try.prog (Try.f4.params.toList ++ Rows.chartSeesSpec.plain.varTypes Try.prog) (ds ++ gs)).all (· ≤ reachBytes) = true := hsz0
  have hval : ∀ (j : Nat) t v, Try.f4.params[j]? = some t → args[j]? = some v → Value.okWide Try.prog W .any base t v := hval0
  have hW' := hW
  obtain ⟨p, q, hA0, hV, rfl, hfz, hnd⟩ := hW
  have hA : DataW.TrodAll enc Try.prog W 0 (fun _ => true) true Try.f4.params.toList args.toList ds p := hA0
  rw [Try.params4] at hA hval hsz
  obtain ⟨v0, vs0, d0, ds0, p0, q0, hargs, rfl, rfl, h0, r0⟩ := trodAll_cons hA
  obtain ⟨v1, vs1, d1, ds1, p1, q1, rfl, rfl, rfl, h1, r1⟩ := trodAll_cons r0
  obtain ⟨rfl, rfl, rfl⟩ := trodAll_nil r1
  obtain rfl : args = #[v0, v1] := by cases args; simp_all
  obtain ⟨rfl, rfl⟩ := trodVars_none hV
  obtain ⟨g0, hs0, hw0, hr0, A0, cap0, rfl, hlc0, hcm0⟩ := open_words hsz (j := 0) rfl rfl Try.underlying35 Try.underlying22 (by kernel_rfl) (by kernel_rfl) (arg_slice Try.underlying35 (hval 0 _ _ rfl rfl)) h0 (fun x hx => hW'.lt x (by simp [hx]))
  obtain ⟨cs1, rfl, hcs1, hall1⟩ := open_flat 4 (ks := [some .i64, some .i64, some .i64, some .i64, some .i64, some .u64]) (by kernel_rfl) (by kernel_rfl) (hval 1 _ _ rfl rfl) h1
  obtain ⟨_, hu1_0, f1_0, rfl, xf1_0⟩ := hall1 0 _ rfl
  obtain ⟨_, hu1_1, f1_1, rfl, xf1_1⟩ := hall1 1 _ rfl
  obtain ⟨_, hu1_2, f1_2, rfl, xf1_2⟩ := hall1 2 _ rfl
  obtain ⟨_, hu1_3, f1_3, rfl, xf1_3⟩ := hall1 3 _ rfl
  obtain ⟨_, hu1_4, f1_4, rfl, xf1_4⟩ := hall1 4 _ rfl
  obtain ⟨_, hu1_5, f1_5, rfl, xf1_5⟩ := hall1 5 _ rfl
  obtain rfl : cs1 = #[.int .i64 f1_0, .int .i64 f1_1, .int .i64 f1_2, .int .i64 f1_3, .int .i64 f1_4, .int .u64 f1_5] := by
    have : cs1.size = 6 := by rw [hcs1]; kernel_rfl
    apply Array.ext_getElem?
    intro i
    match i with
    | 0 => simpa using hu1_0
    | 1 => simpa using hu1_1
    | 2 => simpa using hu1_2
    | 3 => simpa using hu1_3
    | 4 => simpa using hu1_4
    | 5 => simpa using hu1_5
    | i + 6 => rw [Array.getElem?_eq_none (by omega)]; rfl
  have hc : Calls Try.prog 4 #[.slice A0 g0.length cap0, .agg #[.int .i64 f1_0, .int .i64 f1_1, .int .i64 f1_2, .int .i64 f1_3, .int .i64 f1_4, .int .u64 f1_5]] W fun e w' => e = .returned (.bool true) ∧ Own W [] w' := by
    exact See.sees_walk (Own.self W) f1_0 f1_1 f1_2 f1_3 f1_4 f1_5 xf1_0 xf1_1 xf1_2 xf1_5 ⟨fun ws hws => hs0.ofOwn hws, hw0, A0, cap0, rfl, hlc0, hcm0⟩ hr0
  exact hc.mono fun e W' ⟨he, hO⟩ => ⟨_, he, law_post Try.laidOut Try.underlying4 rfl rfl (by intro t ht; simp [Try.params4] at ht; rcases ht with rfl | rfl <;> exact ⟨by kernel_rfl, of_decide_eq_true (by kernel_rfl)⟩) hW' rfl hO.below⟩

theorem holds : Rows.ChartSeesSaid :=
  OpenClaim.holds_of_wide 4 Try.f4 rfl rfl rfl rfl rfl rfl rfl ⟨rfl, rfl, rfl, rfl, rfl⟩ rfl rfl rfl rfl rfl (by kernel_rfl) Try.func4 (by kernel_rfl)
    (of_decide_eq_true (by kernel_rfl)) (by unfold Func.isWrapper; first | (rw [if_pos (by decide +kernel)]; kernel_rfl) | (rw [if_neg (by decide +kernel)]; exact ⟨rfl, rfl⟩))
    (fun os started H enc _ => lifted os started H enc)
end Go.Proofs.Ytigakendeghoaaa.chartSees
