/-
  DERIVED. GIVEN WITH THE SEED: THE CARDS: each row of YtombcmhhocbedaaGreatDoorRows.lean that lists a variable, with what it lists TIED to the program's text (the seventh form; the later family's looks); each row that meets fmt, with fmt's text TOLD by the authors' own Lean function (tested against real Go, not proved from fmt's source: count such statements apart). THE CARD IS WHAT COUNTS. Prove the row's statement (the work); the ties are given (YtombcmhhocbedaaGreatDoorTie.lean); close each card by the builder's one call (the guide's Derived/Test/ToyasCard.lean, 'card_holds'). Laid BY PROGRAM, IN A SANDBOX (cutbox-door.mjs). By AI agents, Wed Nov 11 2026. No macro, syntax, notation, axiom, sorry.
-/
import Derived.Test.YtombcmhhocbedaaGreatDoorRows
import GoSem.ClaimSeven
namespace Go.Proofs.YtombcmhhocbedaaGreatDoor
namespace Rows

/-- THE TIED CARD OF 'wainscotlaw26.CrewNames'. -/
def crewNamesCard : Claim7 := { stood := { row := crewNamesRow, standIns := [], harness := (true, "73e168f03aa59015eae708824da766e8921f532bdab8a7690909a99fa96fc941"), looks := true }, kinds := [], alts := [], laidByText := true, laidKinds := [.data], laidTests := true, laidLooks := .later }
def CrewNamesCardSaid : Prop := Claim7.holds Tryz.pinned (.plain (OpenSpec.ofChange crewNamesSpec)) crewNamesCard

/-- THE TIED CARD OF 'wainscotlaw29.KmemNames'. -/
def kmemNamesCard : Claim7 := { stood := { row := kmemNamesRow, standIns := [], harness := (true, "73e168f03aa59015eae708824da766e8921f532bdab8a7690909a99fa96fc941"), looks := true }, kinds := [], alts := [], laidByText := true, laidKinds := [.data], laidTests := true, laidLooks := .later }
def KmemNamesCardSaid : Prop := Claim7.holds Tryz.pinned (.plain (OpenSpec.ofChange kmemNamesSpec)) kmemNamesCard

/-- THE SECOND FORM's CARD OF 'wainscotlaw26.CrewNames'. -/
def crewNamesUptoCard : Claim7 := { stood := { row := crewNamesUptoRow, standIns := [], harness := (true, "73e168f03aa59015eae708824da766e8921f532bdab8a7690909a99fa96fc941"), looks := true }, kinds := [], alts := [], laidByText := true, laidKinds := [.data], laidTests := true, laidLooks := .later }
def CrewNamesUptoCardSaid : Prop := Claim7.holds Tryz.pinned (.plain (OpenSpec.upto crewNamesSpec)) crewNamesUptoCard

/-- THE SECOND FORM's CARD OF 'wainscotlaw29.KmemNames'. -/
def kmemNamesUptoCard : Claim7 := { stood := { row := kmemNamesUptoRow, standIns := [], harness := (true, "73e168f03aa59015eae708824da766e8921f532bdab8a7690909a99fa96fc941"), looks := true }, kinds := [], alts := [], laidByText := true, laidKinds := [.data], laidTests := true, laidLooks := .later }
def KmemNamesUptoCardSaid : Prop := Claim7.holds Tryz.pinned (.plain (OpenSpec.upto kmemNamesSpec)) kmemNamesUptoCard
end Rows
end Go.Proofs.YtombcmhhocbedaaGreatDoor
