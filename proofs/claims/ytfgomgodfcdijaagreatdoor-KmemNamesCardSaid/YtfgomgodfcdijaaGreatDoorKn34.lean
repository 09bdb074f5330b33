/-
  Texts of this claim, joined. No condition.
-/
import Derived.Test.YtfgomgodfcdijaaGreatDoorRows
import Derived.Test.YtfgomgodfcdijaaGreatDoorKn18
import Derived.Test.YtfgomgodfcdijaaGreatDoorCards
import Derived.SevenTiedAt
/-
  wainscotlaw29.KmemNames: the row's facts, each by itself (all at once is too much memory). No condition.
-/
namespace Go.Proofs.YtfgomgodfcdijaaGreatDoor.kmemNames
open Go Go.ChangeShapes Go.WideShapes Go.ChangeAt Go.RowKit
theorem j0 : Rows.kmemNamesRow.wf (OpenSpec.ofChange Rows.kmemNamesSpec) = true := by kernel_rfl
theorem j1 : laidOutB Tryz.prog = true := by kernel_rfl
theorem j2 : mapsRowed Tryz.prog = true := by kernel_rfl
theorem j4 : namedTie Tryz.prog Rows.kmemNamesRow.named Rows.kmemNamesSpec.vars = true := by kernel_rfl
theorem j9 : (Rows.kmemNamesRow.inPlace == Tryz.prog.inPlace 3) = true := by kernel_rfl
theorem j10 : (Rows.kmemNamesRow.unfollowed == Tryz.prog.unfollowed 3) = true := by kernel_rfl
theorem j11 : (Rows.kmemNamesRow.recurses == Tryz.prog.recurses 3) = true := by kernel_rfl
theorem j12 : (Rows.kmemNamesRow.named == Tryz.prog.varsNamed 3) = true := by kernel_rfl
theorem j22 : (Rows.kmemNamesRow.plainKeys == Tryz.prog.plainKeys) = true := by kernel_rfl
theorem j24 : Tryz.prog.stopsHeard = true := by kernel_rfl
theorem j25 : Tryz.prog.mayEnter = true := by kernel_rfl
theorem j26 : (Rows.kmemNamesRow.lifted == Tryz.prog.liftsFinal) = true := by kernel_rfl
theorem and_ok {x y : Bool} (h : x = true) (k : y = true) : (x && y) = true := by rw [h, k]; rfl
theorem closed : joinedFacts Tryz.prog 3 Tryz.f3 Rows.kmemNamesSpec Rows.kmemNamesRow = true := by
  unfold joinedFacts
  refine and_ok ?_ (by kernel_rfl)
  refine and_ok ?_ (by kernel_rfl)
  refine and_ok ?_ (by kernel_rfl)
  refine and_ok ?_ (by kernel_rfl)
  refine and_ok ?_ (by kernel_rfl)
  refine and_ok ?_ j26
  refine and_ok ?_ j25
  refine and_ok ?_ j24
  refine and_ok ?_ (by kernel_rfl)
  refine and_ok ?_ j22
  refine and_ok ?_ (by kernel_rfl)
  refine and_ok ?_ (by kernel_rfl)
  refine and_ok ?_ (by kernel_rfl)
  refine and_ok ?_ (by kernel_rfl)
  refine and_ok ?_ (by kernel_rfl)
  refine and_ok ?_ (by kernel_rfl)
  refine and_ok ?_ (by kernel_rfl)
  refine and_ok ?_ (by kernel_rfl)
  refine and_ok ?_ (by kernel_rfl)
  refine and_ok ?_ j12
  refine and_ok ?_ j11
  refine and_ok ?_ j10
  refine and_ok ?_ j9
  refine and_ok ?_ (by kernel_rfl)
  refine and_ok ?_ (by kernel_rfl)
  refine and_ok ?_ (by kernel_rfl)
  refine and_ok ?_ (by kernel_rfl)
  refine and_ok ?_ j4
  refine and_ok ?_ (by kernel_rfl)
  refine and_ok ?_ j2
  refine and_ok ?_ j1
  exact j0
theorem wrap : Tryz.f3.isWrapper Tryz.prog Rows.kmemNamesRow.wrapper Rows.kmemNamesRow.mainSum := by unfold Func.isWrapper; first | (rw [if_pos (by decide +kernel)]; kernel_rfl) | (rw [if_neg (by decide +kernel)]; exact ⟨rfl, rfl⟩)
theorem byText : Rows.kmemNamesRow.wfByText (OpenSpec.ofChange Rows.kmemNamesSpec) = true := by kernel_rfl
theorem goes : false = Rows.kmemNamesRow.goesBy Tryz.prog := by kernel_rfl
theorem looks : Rows.kmemNamesCard.stood.looks = Tryz.prog.looks [] := by kernel_rfl
theorem mainIs : Tryz.prog.mainIs = some (Rows.kmemNamesCard.stood.harness.1, Rows.kmemNamesCard.stood.harness.2.toList) := by kernel_rfl
theorem named : Tryz.prog.funcNamed "wainscot/wainscotlaw29.KmemNames" = some 3 := by kernel_rfl
end Go.Proofs.YtfgomgodfcdijaaGreatDoor.kmemNames
