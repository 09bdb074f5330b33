/-
  wainscotlaw05.FrameSum: for every input the call returns true, and the input reads as it did. No condition.
-/
import Derived.Test.YtljcndcmdphmgaaFrameSum
import Derived.Test.YtljcndcmdphmgaaArgs
namespace Go.Proofs.Ytljcndcmdphmgaa.frameSum
open Go.ChangeShapes Go.WideShapes Go.ChangeAt Go.RowKit

set_option maxRecDepth 100000 in
set_option maxHeartbeats 1000000 in
theorem lifted (os : Os) (started : os.Started) (H : Type) (enc : TypeId × Value → H) :
    ReturnsInHanded {} Try.checked os 4 .any (Rows.frameSumSpec.pre6 enc Try.prog Try.f4 Rows.frameSumRow.domain false) (Rows.frameSumSpec.post enc Try.prog Try.f4 false true false false) := by
  refine returnsInHanded_of_change (C := Try.checked) Try.own started (by kernel_rfl) Try.func4
    (ChangeSpec.witness6 (enc := enc) (C := Try.checked) false ⟨#[], #[.slice none 0 0], []⟩ 8 (by kernel_rfl) (by kernel_rfl) (by kernel_rfl) (by kernel_rfl)) ?_
  intro W base args ds gs before hval0 hW _ _
  have hval : ∀ (j : Nat) t v, Try.f4.params[j]? = some t → args[j]? = some v → Value.okWide Try.prog W .any base t v := hval0
  have hW' := hW
  obtain ⟨p, q, hA0, hV, rfl, hfz, hnd⟩ := hW
  have hA : DataW.TrodAll enc Try.prog W 0 (fun _ => true) true Try.f4.params.toList args.toList ds p := hA0
  rw [Try.params4] at hA hval
  obtain ⟨v0, vs0, d0, ds0, p0, q0, hargs, rfl, rfl, h0, r0⟩ := trodAll_cons hA
  obtain ⟨rfl, rfl, rfl⟩ := trodAll_nil r0
  obtain rfl : args = #[v0] := by cases args; simp_all
  obtain ⟨rfl, rfl⟩ := trodVars_none hV
  obtain ⟨A0, len0, cap0, rfl, hlc0, hcm0, hat0⟩ := open_slice_at 4 (ks := [some .i64, some .i64, some .i64]) Try.underlying22 (by kernel_rfl) (by kernel_rfl) (by simp) (arg_slice Try.underlying22 (hval 0 _ _ rfl rfl)) h0 (fun x hx => hW'.lt x (by simp [hx]))
  have hc : Calls Try.prog 4 #[.slice A0 len0 cap0] W fun e w' => e = .returned (.bool true) ∧ Own W [] w' := by
    obtain ⟨L, hL, hp⟩ := pages_of hat0
    have hl : (L.take 200).length = min len0 200 := by rw [List.length_take, hL, Nat.min_comm]
    refine frameSum.walk (Own.self W) (L := L.take 200) (N := min len0 200) (cap := cap0) ⟨A0, cap0, by rw [hl], by rw [hl]; omega, hcm0, fun h0 => ?_⟩ hl (by omega) len0 (by omega) hlc0 hcm0
    obtain ⟨g, o, hA, hP⟩ := hp (by omega)
    exact ⟨g, o, hA, hP.take 200⟩
  exact hc.mono fun e W' ⟨he, hO⟩ => ⟨_, he, law_post Try.laidOut Try.underlying4 rfl rfl (by intro t ht; simp [Try.params4] at ht; subst ht; exact ⟨by kernel_rfl, of_decide_eq_true (by kernel_rfl)⟩) hW' rfl hO.below⟩

theorem holds : Rows.FrameSumSaid :=
  OpenClaim.holds_of_wide 4 Try.f4 rfl rfl rfl rfl rfl rfl rfl ⟨rfl, rfl, rfl, rfl, rfl⟩ rfl rfl rfl rfl rfl (by kernel_rfl) Try.func4 (by kernel_rfl)
    (of_decide_eq_true (by kernel_rfl)) (by unfold Func.isWrapper; first | (rw [if_pos (by decide +kernel)]; kernel_rfl) | (rw [if_neg (by decide +kernel)]; exact ⟨rfl, rfl⟩))
    (fun os started H enc _ => lifted os started H enc)
end Go.Proofs.Ytljcndcmdphmgaa.frameSum
