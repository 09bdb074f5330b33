/-
  DERIVED. GIVEN WITH THE SEED: THE CARDS: each row of YtcbljokbechppaaGreatDoorRows.lean that lists a variable, with what it lists TIED to the program's text (the seventh form; the later family's looks); each row that meets fmt, with fmt's text TOLD by the authors' own Lean function (tested against real Go, not proved from fmt's source: count such statements apart). THE CARD IS WHAT COUNTS. Prove the row's statement (the work); the ties are given (YtcbljokbechppaaGreatDoorTie.lean); close each card by the builder's one call (the guide's Derived/Test/ToyasCard.lean, 'card_holds'). Laid BY PROGRAM, IN A SANDBOX (cutbox-door.mjs). By AI agents, Wed Nov 11 2026. No macro, syntax, notation, axiom, sorry.
-/
import Derived.Test.YtcbljokbechppaaGreatDoorRows
import GoSem.ClaimSeven
namespace Go.Proofs.YtcbljokbechppaaGreatDoor
namespace Rows

/-- THE TIED CARD OF 'wainscotlaw24.FillAnswers'. -/
def fillAnswersCard : Claim7 := { stood := { row := fillAnswersRow, standIns := [], harness := (true, "671fff020e6a06a8a9065e991ddfe9cfe4d1d2f42ff6ee4a5b34d7f2a3907e6c"), looks := false }, kinds := [], alts := [], laidByText := true, laidKinds := [.data], laidTests := true, laidLooks := .later }
def FillAnswersCardSaid : Prop := Claim7.holds Tryz.pinned (.plain (OpenSpec.ofChange fillAnswersSpec)) fillAnswersCard

/-- THE TIED CARD OF 'wainscotlaw24.FillAlone'. -/
def fillAloneCard : Claim7 := { stood := { row := fillAloneRow, standIns := [], harness := (true, "671fff020e6a06a8a9065e991ddfe9cfe4d1d2f42ff6ee4a5b34d7f2a3907e6c"), looks := false }, kinds := [], alts := [], laidByText := true, laidKinds := [.data], laidTests := true, laidLooks := .later }
def FillAloneCardSaid : Prop := Claim7.holds Tryz.pinned (.plain (OpenSpec.ofChange fillAloneSpec)) fillAloneCard

/-- THE TIED CARD OF 'wainscotlaw24.FillApart'. -/
def fillApartCard : Claim7 := { stood := { row := fillApartRow, standIns := [], harness := (true, "671fff020e6a06a8a9065e991ddfe9cfe4d1d2f42ff6ee4a5b34d7f2a3907e6c"), looks := false }, kinds := [], alts := [], laidByText := true, laidKinds := [.data], laidTests := true, laidLooks := .later }
def FillApartCardSaid : Prop := Claim7.holds Tryz.pinned (.plain (OpenSpec.ofChange fillApartSpec)) fillApartCard

/-- THE TIED CARD OF 'wainscotlaw24.FillNames'. -/
def fillNamesCard : Claim7 := { stood := { row := fillNamesRow, standIns := [], harness := (true, "671fff020e6a06a8a9065e991ddfe9cfe4d1d2f42ff6ee4a5b34d7f2a3907e6c"), looks := false }, kinds := [], alts := [], laidByText := true, laidKinds := [.data], laidTests := true, laidLooks := .later }
def FillNamesCardSaid : Prop := Claim7.holds Tryz.pinned (.plain (OpenSpec.ofChange fillNamesSpec)) fillNamesCard

/-- THE SECOND FORM's CARD OF 'wainscotlaw24.FillAnswers'. -/
def fillAnswersUptoCard : Claim7 := { stood := { row := fillAnswersUptoRow, standIns := [], harness := (true, "671fff020e6a06a8a9065e991ddfe9cfe4d1d2f42ff6ee4a5b34d7f2a3907e6c"), looks := false }, kinds := [], alts := [], laidByText := true, laidKinds := [.data], laidTests := true, laidLooks := .later }
def FillAnswersUptoCardSaid : Prop := Claim7.holds Tryz.pinned (.plain (OpenSpec.upto fillAnswersSpec)) fillAnswersUptoCard

/-- THE SECOND FORM's CARD OF 'wainscotlaw24.FillAlone'. -/
def fillAloneUptoCard : Claim7 := { stood := { row := fillAloneUptoRow, standIns := [], harness := (true, "671fff020e6a06a8a9065e991ddfe9cfe4d1d2f42ff6ee4a5b34d7f2a3907e6c"), looks := false }, kinds := [], alts := [], laidByText := true, laidKinds := [.data], laidTests := true, laidLooks := .later }
def FillAloneUptoCardSaid : Prop := Claim7.holds Tryz.pinned (.plain (OpenSpec.upto fillAloneSpec)) fillAloneUptoCard

/-- THE SECOND FORM's CARD OF 'wainscotlaw24.FillApart'. -/
def fillApartUptoCard : Claim7 := { stood := { row := fillApartUptoRow, standIns := [], harness := (true, "671fff020e6a06a8a9065e991ddfe9cfe4d1d2f42ff6ee4a5b34d7f2a3907e6c"), looks := false }, kinds := [], alts := [], laidByText := true, laidKinds := [.data], laidTests := true, laidLooks := .later }
def FillApartUptoCardSaid : Prop := Claim7.holds Tryz.pinned (.plain (OpenSpec.upto fillApartSpec)) fillApartUptoCard

/-- THE SECOND FORM's CARD OF 'wainscotlaw24.FillNames'. -/
def fillNamesUptoCard : Claim7 := { stood := { row := fillNamesUptoRow, standIns := [], harness := (true, "671fff020e6a06a8a9065e991ddfe9cfe4d1d2f42ff6ee4a5b34d7f2a3907e6c"), looks := false }, kinds := [], alts := [], laidByText := true, laidKinds := [.data], laidTests := true, laidLooks := .later }
def FillNamesUptoCardSaid : Prop := Claim7.holds Tryz.pinned (.plain (OpenSpec.upto fillNamesSpec)) fillNamesUptoCard
end Rows
end Go.Proofs.YtcbljokbechppaaGreatDoor
