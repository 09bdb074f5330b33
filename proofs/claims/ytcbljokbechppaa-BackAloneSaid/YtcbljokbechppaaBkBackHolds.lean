import Derived.Test.YtcbljokbechppaaBkBackG
import Derived.Test.YtcbljokbechppaaBk7
import Derived.Test.YtcbljokbechppaaBk6
/-
  wainscotlaw23.BackAlone: for every input the call returns true, and the input reads as it did. No condition.
-/
namespace Go.Proofs.Ytcbljokbechppaa.backAlone
open Go.ChangeShapes Go.WideShapes Go.ChangeAt Go.RowKit

set_option maxRecDepth 100000 in
set_option maxHeartbeats 1000000 in
theorem lifted (os : Os) (started : os.Started) (H : Type) (enc : TypeId × Value → H) :
    ReturnsInHanded {} Try.checked os 3 .any (Rows.backAloneSpec.pre6 enc Try.prog Try.f3 Rows.backAloneRow.domain false) (Rows.backAloneSpec.post enc Try.prog Try.f3 false true false false) := by
  refine returnsInHanded_of_change (C := Try.checked) Try.own started (by kernel_rfl) Try.func3
    (ChangeSpec.witness6 (enc := enc) (C := Try.checked) false ⟨#[], #[.int .i64 0, .int .i64 0, .agg #[.bool false, .bool false, .int .i64 0, .int .i64 0]], []⟩ 8 (by kernel_rfl) (by kernel_rfl) (by kernel_rfl) (by kernel_rfl)) ?_
  intro W base args ds gs before hval0 hW _ _
  have hval : ∀ (j : Nat) t v, Try.f3.params[j]? = some t → args[j]? = some v → Value.okWide Try.prog W .any base t v := hval0
  have hW' := hW
  obtain ⟨p, q, hA0, hV, rfl, hfz, hnd⟩ := hW
  have hA : DataW.TrodAll enc Try.prog W 0 (fun _ => true) true Try.f3.params.toList args.toList ds p := hA0
  rw [Try.params3] at hA hval
  obtain ⟨v0, vs0, d0, ds0, p0, q0, hargs, rfl, rfl, h0, r0⟩ := trodAll_cons hA
  obtain ⟨v1, vs1, d1, ds1, p1, q1, rfl, rfl, rfl, h1, r1⟩ := trodAll_cons r0
  obtain ⟨v2, vs2, d2, ds2, p2, q2, rfl, rfl, rfl, h2, r2⟩ := trodAll_cons r1
  obtain ⟨rfl, rfl, rfl⟩ := trodAll_nil r2
  obtain rfl : args = #[v0, v1, v2] := by cases args; simp_all
  obtain ⟨rfl, rfl⟩ := trodVars_none hV
  obtain ⟨n0, rfl, rfl, rfl, x0⟩ := open_int Try.underlying3 (hval 0 _ _ rfl rfl) h0
  obtain ⟨n1, rfl, rfl, rfl, x1⟩ := open_int Try.underlying3 (hval 1 _ _ rfl rfl) h1
  obtain ⟨cs2, rfl, hcs2, hall2⟩ := open_flat 4 (ks := [none, none, some .i64, some .i64]) (by kernel_rfl) (by kernel_rfl) (hval 2 _ _ rfl rfl) h2
  obtain ⟨_, hu2_0, f2_0, rfl⟩ := hall2 0 _ rfl
  obtain ⟨_, hu2_1, f2_1, rfl⟩ := hall2 1 _ rfl
  obtain ⟨_, hu2_2, f2_2, rfl, xf2_2⟩ := hall2 2 _ rfl
  obtain ⟨_, hu2_3, f2_3, rfl, xf2_3⟩ := hall2 3 _ rfl
  obtain rfl : cs2 = #[.bool f2_0, .bool f2_1, .int .i64 f2_2, .int .i64 f2_3] := by
    have : cs2.size = 4 := by rw [hcs2]; kernel_rfl
    apply Array.ext_getElem?
    intro i
    match i with
    | 0 => simpa using hu2_0
    | 1 => simpa using hu2_1
    | 2 => simpa using hu2_2
    | 3 => simpa using hu2_3
    | i + 4 => rw [Array.getElem?_eq_none (by omega)]; rfl
  have hc : Calls Try.prog 3 #[.int .i64 n0, .int .i64 n1, .agg #[.bool f2_0, .bool f2_1, .int .i64 f2_2, .int .i64 f2_3]] W fun e w' => e = .returned (.bool true) ∧ Own W [] w' := by
    exact Back.alone_law W n0 n1 f2_2 f2_3 f2_0 f2_1 x0 x1 xf2_2 xf2_3
  exact hc.mono fun e W' ⟨he, hO⟩ => ⟨_, he, law_post Try.laidOut Try.underlying4 rfl rfl (by intro t ht; simp [Try.params3] at ht; rcases ht with rfl | rfl | rfl <;> exact ⟨by kernel_rfl, of_decide_eq_true (by kernel_rfl)⟩) hW' rfl hO.below⟩

theorem holds : Rows.BackAloneSaid :=
  OpenClaim.holds_of_wide 3 Try.f3 rfl rfl rfl rfl rfl rfl rfl ⟨rfl, rfl, rfl, rfl, rfl⟩ rfl rfl rfl rfl rfl (by kernel_rfl) Try.func3 (by kernel_rfl)
    (of_decide_eq_true (by kernel_rfl)) (by unfold Func.isWrapper; first | (rw [if_pos (by decide +kernel)]; kernel_rfl) | (rw [if_neg (by decide +kernel)]; exact ⟨rfl, rfl⟩))
    (fun os started H enc _ => lifted os started H enc)
end Go.Proofs.Ytcbljokbechppaa.backAlone
