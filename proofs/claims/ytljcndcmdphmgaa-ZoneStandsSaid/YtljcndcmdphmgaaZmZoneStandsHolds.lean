import Derived.Test.YtljcndcmdphmgaaZmZoneStands
import Derived.Test.YtljcndcmdphmgaaZm3
/-
  wainscotlaw08.ZoneStands: for every input the call returns true, and the input reads as it did. No condition.
-/
namespace Go.Proofs.Ytljcndcmdphmgaa.zoneStands
open Go.ChangeShapes Go.WideShapes Go.ChangeAt Go.RowKit

set_option maxRecDepth 100000 in
set_option maxHeartbeats 1000000 in
theorem lifted (os : Os) (started : os.Started) (H : Type) (enc : TypeId × Value → H) :
    ReturnsInHanded {} Try.checked os 10 .any (Rows.zoneStandsSpec.pre6 enc Try.prog Try.f10 Rows.zoneStandsRow.domain false) (Rows.zoneStandsSpec.post enc Try.prog Try.f10 false true false false) := by
  refine returnsInHanded_of_change (C := Try.checked) Try.own started (by kernel_rfl) Try.func10
    (ChangeSpec.witness6 (enc := enc) (C := Try.checked) false ⟨#[], #[.int .i64 0, .slice none 0 0], []⟩ 8 (by kernel_rfl) (by kernel_rfl) (by kernel_rfl) (by kernel_rfl)) ?_
  intro W base args ds gs before hval0 hW _ _
  have hval : ∀ (j : Nat) t v, Try.f10.params[j]? = some t → args[j]? = some v → Value.okWide Try.prog W .any base t v := hval0
  have hW' := hW
  obtain ⟨p, q, hA0, hV, rfl, hfz, hnd⟩ := hW
  have hA : DataW.TrodAll enc Try.prog W 0 (fun _ => true) true Try.f10.params.toList args.toList ds p := hA0
  rw [Try.params10] at hA hval
  obtain ⟨v0, vs0, d0, ds0, p0, q0, hargs, rfl, rfl, h0, r0⟩ := trodAll_cons hA
  obtain ⟨v1, vs1, d1, ds1, p1, q1, rfl, rfl, rfl, h1, r1⟩ := trodAll_cons r0
  obtain ⟨rfl, rfl, rfl⟩ := trodAll_nil r1
  obtain rfl : args = #[v0, v1] := by cases args; simp_all
  obtain ⟨rfl, rfl⟩ := trodVars_none hV
  obtain ⟨n0, rfl, rfl, rfl, x0⟩ := open_int Try.underlying3 (hval 0 _ _ rfl rfl) h0
  obtain ⟨A1, len1, cap1, rfl, hlc1, hcm1, hat1⟩ := open_slice_at 4 (ks := [some .i64, some .i64, some .i64, some .i64]) Try.underlying62 (by kernel_rfl) (by kernel_rfl) (by simp) (arg_slice Try.underlying62 (hval 1 _ _ rfl rfl)) h1 (fun x hx => hW'.lt x (by simp [hx]))
  have hc : Calls Try.prog 10 #[.int .i64 n0, .slice A1 len1 cap1] W fun e w' => e = .returned (.bool true) ∧ Own W [] w' := by
    exact zoneStands.walk (Own.self W) n0 x0 A1 len1 cap1 hlc1 hcm1 hat1
  exact hc.mono fun e W' ⟨he, hO⟩ => ⟨_, he, law_post Try.laidOut Try.underlying4 rfl rfl (by intro t ht; simp [Try.params10] at ht; rcases ht with rfl | rfl <;> exact ⟨by kernel_rfl, of_decide_eq_true (by kernel_rfl)⟩) hW' rfl hO.below⟩

theorem holds : Rows.ZoneStandsSaid :=
  OpenClaim.holds_of_wide 10 Try.f10 rfl rfl rfl rfl rfl rfl rfl ⟨rfl, rfl, rfl, rfl, rfl⟩ rfl rfl rfl rfl rfl (by kernel_rfl) Try.func10 (by kernel_rfl)
    (of_decide_eq_true (by kernel_rfl)) (by unfold Func.isWrapper; first | (rw [if_pos (by decide +kernel)]; kernel_rfl) | (rw [if_neg (by decide +kernel)]; exact ⟨rfl, rfl⟩))
    (fun os started H enc _ => lifted os started H enc)
end Go.Proofs.Ytljcndcmdphmgaa.zoneStands
