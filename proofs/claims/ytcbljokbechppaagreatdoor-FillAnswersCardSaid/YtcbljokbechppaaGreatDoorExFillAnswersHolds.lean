/-
  wainscotlaw24.FillAnswers: for every input the call returns true, and the input reads as it did. No condition.
-/
import Derived.Test.YtcbljokbechppaaGreatDoorExFillAnswers
import Derived.Test.YtcbljokbechppaaGreatDoorLaw
import Derived.Test.YtcbljokbechppaaGreatDoorTab
import Derived.Test.YtcbljokbechppaaGreatDoorArgs
import Derived.Test.YtcbljokbechppaaGreatDoorTie
import Derived.Test.YtcbljokbechppaaGreatDoorCards
import Derived.SevenTiedAt
import Derived.LaidLaws
namespace Go.Proofs.YtcbljokbechppaaGreatDoor.fillAnswers
open Go.ChangeShapes Go.WideShapes Go.ChangeAt Go.RowKit

set_option maxRecDepth 100000 in
set_option maxHeartbeats 1000000 in
theorem lifted (os : Os) (started : os.Started) (H : Type) (enc : TypeId × Value → H) :
    ReturnsInHanded {} Tryz.checked os 3 .any (fun w args => (Rows.fillAnswersSpec.pre enc Tryz.prog Tryz.f3 Rows.fillAnswersRow.domain false w args ∧ laidMetH Tryz.prog [("wainscot/fill.goesOn", Rows.laid_wainscot_fill_goesOn)] w) ∧ sizedMet enc Tryz.prog Tryz.f3 (OpenSpec.ofChange Rows.fillAnswersSpec) false w args) (Rows.fillAnswersSpec.post enc Tryz.prog Tryz.f3 false true false false) := by
  refine returnsInHanded_of_change_and (C := Tryz.checked) (X := fun w _ => laidMetH Tryz.prog [("wainscot/fill.goesOn", Rows.laid_wainscot_fill_goesOn)] w) (fun _ _ _ hh h => h.of_heap hh) Tryz.own started (by kernel_rfl) Tryz.func3
    (ChangeSpec.witness_shaped (enc := enc) (C := Tryz.checked) (os := os) (X := fun w _ => laidMetH Tryz.prog [("wainscot/fill.goesOn", Rows.laid_wainscot_fill_goesOn)] w) false (World.doorLaid Tryz.prog 400 os) #[.agg #[.int .i64 0, .int .i64 0, .int .i64 0, .int .i64 0, .int .i64 0, .int .i64 0, .int .i64 0, .int .u64 0, .int .u64 0, .int .u64 0, .int .u64 0, .int .u64 0, .int .i64 0, .int .i64 0, .int .i64 0, .int .i64 0, .int .i64 0], .bool false, .int .i64 0] 8 rfl (World.shaped_of_RefB (by kernel_rfl) (by kernel_rfl)) (by kernel_rfl) (by kernel_rfl) (by kernel_rfl) (FillTab.door_met os _)) ?_
  intro W base args ds gs before hval0 hW _ _ hLaid _
  have hg := FillTab.of_laid hLaid
  have hval : ∀ (j : Nat) t v, Tryz.f3.params[j]? = some t → args[j]? = some v → Value.okWide Tryz.prog W .any base t v := hval0
  have hW' := hW
  obtain ⟨p, q, hA0, hV, rfl, hfz, hnd⟩ := hW
  have hA : DataW.TrodAll enc Tryz.prog W 0 (fun _ => true) true Tryz.f3.params.toList args.toList ds p := hA0
  rw [Tryz.params3] at hA hval
  obtain ⟨v0, vs0, d0, ds0, p0, q0, hargs, rfl, rfl, h0, r0⟩ := trodAll_cons hA
  obtain ⟨v1, vs1, d1, ds1, p1, q1, rfl, rfl, rfl, h1, r1⟩ := trodAll_cons r0
  obtain ⟨v2, vs2, d2, ds2, p2, q2, rfl, rfl, rfl, h2, r2⟩ := trodAll_cons r1
  obtain ⟨rfl, rfl, rfl⟩ := trodAll_nil r2
  obtain rfl : args = #[v0, v1, v2] := by cases args; simp_all
  obtain ⟨rfl, rfl⟩ := trodVars_none hV
  obtain ⟨cs0, rfl, hcs0, hall0⟩ := open_flat 4 (ks := [some .i64, some .i64, some .i64, some .i64, some .i64, some .i64, some .i64, some .u64, some .u64, some .u64, some .u64, some .u64, some .i64, some .i64, some .i64, some .i64, some .i64]) (by kernel_rfl) (by kernel_rfl) (hval 0 _ _ rfl rfl) h0
  obtain ⟨_, hu0_0, f0_0, rfl, xf0_0⟩ := hall0 0 _ rfl
  obtain ⟨_, hu0_1, f0_1, rfl, xf0_1⟩ := hall0 1 _ rfl
  obtain ⟨_, hu0_2, f0_2, rfl, xf0_2⟩ := hall0 2 _ rfl
  obtain ⟨_, hu0_3, f0_3, rfl, xf0_3⟩ := hall0 3 _ rfl
  obtain ⟨_, hu0_4, f0_4, rfl, xf0_4⟩ := hall0 4 _ rfl
  obtain ⟨_, hu0_5, f0_5, rfl, xf0_5⟩ := hall0 5 _ rfl
  obtain ⟨_, hu0_6, f0_6, rfl, xf0_6⟩ := hall0 6 _ rfl
  obtain ⟨_, hu0_7, f0_7, rfl, xf0_7⟩ := hall0 7 _ rfl
  obtain ⟨_, hu0_8, f0_8, rfl, xf0_8⟩ := hall0 8 _ rfl
  obtain ⟨_, hu0_9, f0_9, rfl, xf0_9⟩ := hall0 9 _ rfl
  obtain ⟨_, hu0_10, f0_10, rfl, xf0_10⟩ := hall0 10 _ rfl
  obtain ⟨_, hu0_11, f0_11, rfl, xf0_11⟩ := hall0 11 _ rfl
  obtain ⟨_, hu0_12, f0_12, rfl, xf0_12⟩ := hall0 12 _ rfl
  obtain ⟨_, hu0_13, f0_13, rfl, xf0_13⟩ := hall0 13 _ rfl
  obtain ⟨_, hu0_14, f0_14, rfl, xf0_14⟩ := hall0 14 _ rfl
  obtain ⟨_, hu0_15, f0_15, rfl, xf0_15⟩ := hall0 15 _ rfl
  obtain ⟨_, hu0_16, f0_16, rfl, xf0_16⟩ := hall0 16 _ rfl
  obtain rfl : cs0 = #[.int .i64 f0_0, .int .i64 f0_1, .int .i64 f0_2, .int .i64 f0_3, .int .i64 f0_4, .int .i64 f0_5, .int .i64 f0_6, .int .u64 f0_7, .int .u64 f0_8, .int .u64 f0_9, .int .u64 f0_10, .int .u64 f0_11, .int .i64 f0_12, .int .i64 f0_13, .int .i64 f0_14, .int .i64 f0_15, .int .i64 f0_16] := by
    have : cs0.size = 17 := by rw [hcs0]; kernel_rfl
    apply Array.ext_getElem?
    intro i
    match i with
    | 0 => simpa using hu0_0
    | 1 => simpa using hu0_1
    | 2 => simpa using hu0_2
    | 3 => simpa using hu0_3
    | 4 => simpa using hu0_4
    | 5 => simpa using hu0_5
    | 6 => simpa using hu0_6
    | 7 => simpa using hu0_7
    | 8 => simpa using hu0_8
    | 9 => simpa using hu0_9
    | 10 => simpa using hu0_10
    | 11 => simpa using hu0_11
    | 12 => simpa using hu0_12
    | 13 => simpa using hu0_13
    | 14 => simpa using hu0_14
    | 15 => simpa using hu0_15
    | 16 => simpa using hu0_16
    | i + 17 => rw [Array.getElem?_eq_none (by omega)]; rfl
  obtain ⟨b1, rfl, rfl, rfl⟩ := open_bool Tryz.underlying4 (hval 1 _ _ rfl rfl) h1
  obtain ⟨n2, rfl, rfl, rfl, x2⟩ := open_int Tryz.underlying3 (hval 2 _ _ rfl rfl) h2
  have hc : Calls Tryz.prog 3 #[.agg #[.int .i64 f0_0, .int .i64 f0_1, .int .i64 f0_2, .int .i64 f0_3, .int .i64 f0_4, .int .i64 f0_5, .int .i64 f0_6, .int .u64 f0_7, .int .u64 f0_8, .int .u64 f0_9, .int .u64 f0_10, .int .u64 f0_11, .int .i64 f0_12, .int .i64 f0_13, .int .i64 f0_14, .int .i64 f0_15, .int .i64 f0_16], .bool b1, .int .i64 n2] W fun e w' => e = .returned (.bool true) ∧ Own W [] w' := by
    exact walk W hg f0_0 f0_1 f0_2 f0_3 f0_4 f0_5 f0_6 f0_7 f0_8 f0_9 f0_10 f0_11 f0_12 f0_13 f0_14 f0_15 f0_16 b1 n2
  exact hc.mono fun e W' ⟨he, hO⟩ => ⟨_, he, law_post Tryz.laidOut Tryz.underlying4 rfl rfl (by intro t ht; simp [Tryz.params3] at ht; rcases ht with rfl | rfl | rfl <;> exact ⟨by kernel_rfl, of_decide_eq_true (by kernel_rfl)⟩) hW' rfl hO.below⟩

theorem holds : Rows.FillAnswersSaid :=
  OpenClaim.holds_of_wide 3 Tryz.f3 rfl rfl rfl rfl rfl rfl rfl ⟨rfl, rfl, rfl, rfl, rfl⟩ rfl rfl rfl rfl rfl (by kernel_rfl) Tryz.func3 (by kernel_rfl)
    (of_decide_eq_true (by kernel_rfl)) (by unfold Func.isWrapper; first | (rw [if_pos (by decide +kernel)]; kernel_rfl) | (rw [if_neg (by decide +kernel)]; exact ⟨rfl, rfl⟩))
    (fun os started H enc _ => lifted os started H enc)
theorem card_holds : Rows.FillAnswersCardSaid :=
  Claim7.holds_tied_plain_at .later [] [.data] true Rows.fillAnswersCard.stood.harness false
    holds (fun _ h => by cases h) (by kernel_rfl) (fun _ h => by cases h) fillAnswers_row_tie rfl ⟨rfl, rfl⟩ (by kernel_rfl) (by kernel_rfl)
    (fun f fn hf hfn => by
      obtain rfl : f = 3 := Option.some.inj ((show Tryz.prog.funcNamed "wainscot/wainscotlaw24.FillAnswers" = some 3 by kernel_rfl).symm.trans hf) |>.symm
      obtain rfl : fn = Tryz.f3 := (Option.some.inj (Tryz.func3.symm.trans hfn)).symm
      exact ⟨by kernel_rfl, fun j t ht => by
        have hm : t ∈ Tryz.f3.params.toList := by simpa using Array.mem_of_getElem? ht
        have hall : (Tryz.f3.params.toList.all fun u => !Tryz.prog.wantsStandIn u) = true := by kernel_rfl
        exact (show Tryz.prog.wantsStandIn t = false by simpa using List.all_eq_true.1 hall t hm)⟩)
    (by kernel_rfl)
end Go.Proofs.YtcbljokbechppaaGreatDoor.fillAnswers
