/-
  KmemNames, as a tied card: kmemNames.card_holds. No condition.
-/
import Derived.Test.YtfgomgodfcdijaaGreatDoorKn33
import Derived.Test.YtfgomgodfcdijaaGreatDoorKn34
import Derived.Test.YtfgomgodfcdijaaGreatDoorKn18
import Derived.Test.YtfgomgodfcdijaaGreatDoorKn19
import Derived.Test.YtfgomgodfcdijaaGreatDoorTie
import Derived.Test.YtfgomgodfcdijaaGreatDoorCards
import Derived.SevenTiedAt
import Derived.LaidLaws
/-
  wainscotlaw29.KmemNames: for every input the call returns true, and the input reads as it did. No condition.
-/
namespace Go.Proofs.YtfgomgodfcdijaaGreatDoor.kmemNames
open Go.ChangeShapes Go.WideShapes Go.ChangeAt Go.RowKit

set_option maxRecDepth 100000 in
set_option maxHeartbeats 1000000 in
theorem lifted (os : Os) (started : os.Started) (H : Type) (enc : TypeId × Value → H) :
    ReturnsInHanded {} Tryz.checked os 3 .any (fun w args => (Rows.kmemNamesSpec.pre enc Tryz.prog Tryz.f3 Rows.kmemNamesRow.domain false w args ∧ laidMetH Tryz.prog [("wainscot/fill.goesOn", Rows.laid_wainscot_fill_goesOn)] w) ∧ sizedMet enc Tryz.prog Tryz.f3 (OpenSpec.ofChange Rows.kmemNamesSpec) false w args) (Rows.kmemNamesSpec.post enc Tryz.prog Tryz.f3 false true false false) := by
  refine returnsInHanded_of_change_and (C := Tryz.checked) (X := fun w _ => laidMetH Tryz.prog [("wainscot/fill.goesOn", Rows.laid_wainscot_fill_goesOn)] w) (fun _ _ _ hh h => h.of_heap hh) Tryz.own started (by kernel_rfl) Tryz.func3
    (ChangeSpec.witness_shaped (enc := enc) (C := Tryz.checked) (os := os) (X := fun w _ => laidMetH Tryz.prog [("wainscot/fill.goesOn", Rows.laid_wainscot_fill_goesOn)] w) false (World.doorLaid Tryz.prog 400 os) #[] 8 rfl (World.shaped_of_RefB (by kernel_rfl) (by kernel_rfl)) (by kernel_rfl) (by kernel_rfl) (by kernel_rfl) (FillTab.door_met os _)) ?_
  intro W base args ds gs before hval0 hW _ _ hLaid _
  have hg := FillTab.of_laid hLaid
  have hval : ∀ (j : Nat) t v, Tryz.f3.params[j]? = some t → args[j]? = some v → Value.okWide Tryz.prog W .any base t v := hval0
  have hW' := hW
  obtain ⟨p, q, hA0, hV, rfl, hfz, hnd⟩ := hW
  have hA : DataW.TrodAll enc Tryz.prog W 0 (fun _ => true) true Tryz.f3.params.toList args.toList ds p := hA0
  rw [Tryz.params3] at hA hval
  obtain ⟨hargs, rfl, rfl⟩ := trodAll_nil hA
  obtain rfl : args = #[] := by cases args; simp_all
  obtain ⟨rfl, rfl⟩ := trodVars_none hV
  have hc : Calls Tryz.prog 3 #[] W fun e w' => e = .returned (.bool true) ∧ Own W [] w' := by
    exact walk W hg
  exact hc.mono fun e W' ⟨he, hO⟩ => ⟨_, he, law_post Tryz.laidOut Tryz.underlying4 rfl rfl (by intro t ht; simp [Tryz.params3] at ht) hW' rfl hO.below⟩

theorem holds : Rows.KmemNamesSaid :=
  OpenClaim.holds_of_wide 3 Tryz.f3 rfl rfl rfl rfl rfl rfl rfl ⟨rfl, rfl, rfl, rfl, rfl⟩ rfl rfl rfl rfl rfl named Tryz.func3 closed
    (of_decide_eq_true (by kernel_rfl)) wrap
    (fun os started H enc _ => lifted os started H enc)
theorem card_holds : Rows.KmemNamesCardSaid :=
  Claim7.holds_tied_plain_at .later [] [.data] true Rows.kmemNamesCard.stood.harness Rows.kmemNamesCard.stood.looks
    holds (fun _ h => by cases h) byText (fun _ h => by cases h) kmemNames_row_tie rfl ⟨rfl, rfl⟩ mainIs (by kernel_rfl)
    (fun f fn hf hfn => by
      obtain rfl : f = 3 := Option.some.inj (named.symm.trans hf) |>.symm
      obtain rfl : fn = Tryz.f3 := (Option.some.inj (Tryz.func3.symm.trans hfn)).symm
      exact ⟨looks, fun j t ht => by
        have hm : t ∈ Tryz.f3.params.toList := by simpa using Array.mem_of_getElem? ht
        have hall : (Tryz.f3.params.toList.all fun u => !Tryz.prog.wantsStandIn u) = true := by kernel_rfl
        exact (show Tryz.prog.wantsStandIn t = false by simpa using List.all_eq_true.1 hall t hm)⟩)
    goes
end Go.Proofs.YtfgomgodfcdijaaGreatDoor.kmemNames
