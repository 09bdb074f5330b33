import Derived.Test.YtmnpccpfejgkmaaGreatJkJkG
import Derived.Test.YtmnpccpfejgkmaaGreatJk7
import Derived.Test.YtmnpccpfejgkmaaGreatJk5
/-
  wainscotlaw30.JudgeKnown: for every input the call returns true, and the input reads as it did. No condition.
-/
namespace Go.Proofs.YtmnpccpfejgkmaaGreat.judgeKnown
open Go.ChangeShapes Go.WideShapes Go.ChangeAt Go.RowKit

set_option maxRecDepth 100000 in
set_option maxHeartbeats 1000000 in
theorem lifted (os : Os) (started : os.Started) (H : Type) (enc : TypeId × Value → H) :
    ReturnsInHanded {} Tryz.checked os 3 .any (Rows.judgeKnownSpec.pre6 enc Tryz.prog Tryz.f3 Rows.judgeKnownRow.domain false) (Rows.judgeKnownSpec.post enc Tryz.prog Tryz.f3 false true false false) := by
  refine returnsInHanded_of_change (C := Tryz.checked) Tryz.own started (by kernel_rfl) Tryz.func3
    (ChangeSpec.witness6 (enc := enc) (C := Tryz.checked) false ⟨#[], #[], []⟩ 8 (by kernel_rfl) (by kernel_rfl) (by kernel_rfl) (by kernel_rfl)) ?_
  intro W base args ds gs before hval0 hW _ _
  have hval : ∀ (j : Nat) t v, Tryz.f3.params[j]? = some t → args[j]? = some v → Value.okWide Tryz.prog W .any base t v := hval0
  have hW' := hW
  obtain ⟨p, q, hA0, hV, rfl, hfz, hnd⟩ := hW
  have hA : DataW.TrodAll enc Tryz.prog W 0 (fun _ => true) true Tryz.f3.params.toList args.toList ds p := hA0
  rw [Tryz.params3] at hA hval
  obtain ⟨hargs, rfl, rfl⟩ := trodAll_nil hA
  obtain rfl : args = #[] := by cases args; simp_all
  obtain ⟨rfl, rfl⟩ := trodVars_none hV
  have hc : Calls Tryz.prog 3 #[] W fun e w' => e = .returned (.bool true) ∧ Own W [] w' := by
    exact Jk.known_law W
  exact hc.mono fun e W' ⟨he, hO⟩ => ⟨_, he, law_post Tryz.laidOut Tryz.underlying4 rfl rfl (by intro t ht; simp [Tryz.params3] at ht) hW' rfl hO.below⟩

theorem holds : Rows.JudgeKnownSaid :=
  OpenClaim.holds_of_wide 3 Tryz.f3 rfl rfl rfl rfl rfl rfl rfl ⟨rfl, rfl, rfl, rfl, rfl⟩ rfl rfl rfl rfl rfl (by kernel_rfl) Tryz.func3 (by kernel_rfl)
    (of_decide_eq_true (by kernel_rfl)) (by unfold Func.isWrapper; first | (rw [if_pos (by decide +kernel)]; kernel_rfl) | (rw [if_neg (by decide +kernel)]; exact ⟨rfl, rfl⟩))
    (fun os started H enc _ => lifted os started H enc)
end Go.Proofs.YtmnpccpfejgkmaaGreat.judgeKnown
