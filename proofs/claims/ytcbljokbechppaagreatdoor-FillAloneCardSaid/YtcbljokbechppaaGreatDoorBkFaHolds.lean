import Derived.Test.YtcbljokbechppaaGreatDoorBkFaG
import Derived.Test.YtcbljokbechppaaGreatDoorBk7
import Derived.Test.YtcbljokbechppaaGreatDoorBk6
import Derived.Test.YtcbljokbechppaaGreatDoorTie
import Derived.Test.YtcbljokbechppaaGreatDoorCards
import Derived.SevenTiedAt
import Derived.LaidLaws
/-
  wainscotlaw24.FillAlone: for every input the call returns true, and the input reads as it did. No condition.
-/
namespace Go.Proofs.YtcbljokbechppaaGreatDoor.fillAlone
open Go.ChangeShapes Go.WideShapes Go.ChangeAt Go.RowKit

set_option maxRecDepth 100000 in
set_option maxHeartbeats 1000000 in
theorem lifted (os : Os) (started : os.Started) (H : Type) (enc : TypeId × Value → H) :
    ReturnsInHanded {} Tryz.checked os 4 .any (fun w args => (Rows.fillAloneSpec.pre enc Tryz.prog Tryz.f4 Rows.fillAloneRow.domain false w args ∧ laidMetH Tryz.prog [("wainscot/fill.goesOn", Rows.laid_wainscot_fill_goesOn)] w) ∧ sizedMet enc Tryz.prog Tryz.f4 (OpenSpec.ofChange Rows.fillAloneSpec) false w args) (Rows.fillAloneSpec.post enc Tryz.prog Tryz.f4 false true false false) := by
  refine returnsInHanded_of_change_and (C := Tryz.checked) (X := fun w _ => laidMetH Tryz.prog [("wainscot/fill.goesOn", Rows.laid_wainscot_fill_goesOn)] w) (fun _ _ _ hh h => h.of_heap hh) Tryz.own started (by kernel_rfl) Tryz.func4
    (ChangeSpec.witness_shaped (enc := enc) (C := Tryz.checked) (os := os) (X := fun w _ => laidMetH Tryz.prog [("wainscot/fill.goesOn", Rows.laid_wainscot_fill_goesOn)] w) false (World.doorLaid Tryz.prog 400 os) #[.int .i64 0, .bool false, .slice none 0 0] 8 rfl (World.shaped_of_RefB (by kernel_rfl) (by kernel_rfl)) (by kernel_rfl) (by kernel_rfl) (by kernel_rfl) (FillTab.door_met os _)) ?_
  intro W base args ds gs before hval0 hW _ _ hLaid _
  have hg := FillTab.of_laid hLaid
  have hval : ∀ (j : Nat) t v, Tryz.f4.params[j]? = some t → args[j]? = some v → Value.okWide Tryz.prog W .any base t v := hval0
  have hW' := hW
  obtain ⟨p, q, hA0, hV, rfl, hfz, hnd⟩ := hW
  have hA : DataW.TrodAll enc Tryz.prog W 0 (fun _ => true) true Tryz.f4.params.toList args.toList ds p := hA0
  rw [Tryz.params4] at hA hval
  obtain ⟨v0, vs0, d0, ds0, p0, q0, hargs, rfl, rfl, h0, r0⟩ := trodAll_cons hA
  obtain ⟨v1, vs1, d1, ds1, p1, q1, rfl, rfl, rfl, h1, r1⟩ := trodAll_cons r0
  obtain ⟨v2, vs2, d2, ds2, p2, q2, rfl, rfl, rfl, h2, r2⟩ := trodAll_cons r1
  obtain ⟨rfl, rfl, rfl⟩ := trodAll_nil r2
  obtain rfl : args = #[v0, v1, v2] := by cases args; simp_all
  obtain ⟨rfl, rfl⟩ := trodVars_none hV
  obtain ⟨n0, rfl, rfl, rfl, x0⟩ := open_int Tryz.underlying3 (hval 0 _ _ rfl rfl) h0
  obtain ⟨b1, rfl, rfl, rfl⟩ := open_bool Tryz.underlying4 (hval 1 _ _ rfl rfl) h1
  obtain ⟨A2, len2, cap2, rfl, hlc2, hcm2, hat2⟩ := open_slice_at 4 (ks := [some .i64]) Tryz.underlying30 (by kernel_rfl) (by kernel_rfl) (by simp) (arg_slice Tryz.underlying30 (hval 2 _ _ rfl rfl)) h2 (fun x hx => hW'.lt x (by simp [hx]))
  have hc : Calls Tryz.prog 4 #[.int .i64 n0, .bool b1, .slice A2 len2 cap2] W fun e w' => e = .returned (.bool true) ∧ Own W [] w' := by
    exact Fa.alone_law W hg n0 b1 x0 A2 len2 cap2 hlc2 hcm2 hat2
  exact hc.mono fun e W' ⟨he, hO⟩ => ⟨_, he, law_post Tryz.laidOut Tryz.underlying4 rfl rfl (by intro t ht; simp [Tryz.params4] at ht; rcases ht with rfl | rfl | rfl <;> exact ⟨by kernel_rfl, of_decide_eq_true (by kernel_rfl)⟩) hW' rfl hO.below⟩

theorem holds : Rows.FillAloneSaid :=
  OpenClaim.holds_of_wide 4 Tryz.f4 rfl rfl rfl rfl rfl rfl rfl ⟨rfl, rfl, rfl, rfl, rfl⟩ rfl rfl rfl rfl rfl (by kernel_rfl) Tryz.func4 (by kernel_rfl)
    (of_decide_eq_true (by kernel_rfl)) (by unfold Func.isWrapper; first | (rw [if_pos (by decide +kernel)]; kernel_rfl) | (rw [if_neg (by decide +kernel)]; exact ⟨rfl, rfl⟩))
    (fun os started H enc _ => lifted os started H enc)
theorem card_holds : Rows.FillAloneCardSaid :=
  Claim7.holds_tied_plain_at .later [] [.data] true Rows.fillAloneCard.stood.harness false
    holds (fun _ h => by cases h) (by kernel_rfl) (fun _ h => by cases h) fillAlone_row_tie rfl ⟨rfl, rfl⟩ (by kernel_rfl) (by kernel_rfl)
    (fun f fn hf hfn => by
      obtain rfl : f = 4 := Option.some.inj ((show Tryz.prog.funcNamed "wainscot/wainscotlaw24.FillAlone" = some 4 by kernel_rfl).symm.trans hf) |>.symm
      obtain rfl : fn = Tryz.f4 := (Option.some.inj (Tryz.func4.symm.trans hfn)).symm
      exact ⟨by kernel_rfl, fun j t ht => by
        have hm : t ∈ Tryz.f4.params.toList := by simpa using Array.mem_of_getElem? ht
        have hall : (Tryz.f4.params.toList.all fun u => !Tryz.prog.wantsStandIn u) = true := by kernel_rfl
        exact (show Tryz.prog.wantsStandIn t = false by simpa using List.all_eq_true.1 hall t hm)⟩)
    (by kernel_rfl)
end Go.Proofs.YtcbljokbechppaaGreatDoor.fillAlone
