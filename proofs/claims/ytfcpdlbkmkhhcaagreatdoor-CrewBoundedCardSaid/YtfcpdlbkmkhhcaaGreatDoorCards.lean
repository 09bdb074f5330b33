/-
  DERIVED. GIVEN WITH THE SEED: THE CARDS: each row of YtfcpdlbkmkhhcaaGreatDoorRows.lean that lists a variable, with what it lists TIED to the program's text (the seventh form; the later family's looks); each row that meets fmt, with fmt's text TOLD by the authors' own Lean function (tested against real Go, not proved from fmt's source: count such statements apart). THE CARD IS WHAT COUNTS. Prove the row's statement (the work); the ties are given (YtfcpdlbkmkhhcaaGreatDoorTie.lean); close each card by the builder's one call (the guide's Derived/Test/ToyasCard.lean, 'card_holds'). Laid BY PROGRAM, IN A SANDBOX (cutbox-door.mjs). By AI agents, Wed Nov 11 2026. No macro, syntax, notation, axiom, sorry.
-/
import Derived.Test.YtfcpdlbkmkhhcaaGreatDoorRows
import GoSem.ClaimSeven
namespace Go.Proofs.YtfcpdlbkmkhhcaaGreatDoor
namespace Rows

/-- THE TIED CARD OF 'wainscotlaw26.CrewNone'. -/
def crewNoneCard : Claim7 := { stood := { row := crewNoneRow, standIns := [], harness := (true, "97317ca856f9c5f0915f1ac28f573021650ffc27493f99b4f5ab9c69b19a9967"), looks := false }, kinds := [], alts := [], laidByText := true, laidKinds := [.data], laidTests := true, laidLooks := .later }
def CrewNoneCardSaid : Prop := Claim7.holds Tryz.pinned (.plain (OpenSpec.ofChange crewNoneSpec)) crewNoneCard

/-- THE TIED CARD OF 'wainscotlaw26.CrewHeap'. -/
def crewHeapCard : Claim7 := { stood := { row := crewHeapRow, standIns := [], harness := (true, "97317ca856f9c5f0915f1ac28f573021650ffc27493f99b4f5ab9c69b19a9967"), looks := false }, kinds := [], alts := [], laidByText := true, laidKinds := [.data], laidTests := true, laidLooks := .later }
def CrewHeapCardSaid : Prop := Claim7.holds Tryz.pinned (.plain (OpenSpec.ofChange crewHeapSpec)) crewHeapCard

/-- THE TIED CARD OF 'wainscotlaw26.CrewBounded'. -/
def crewBoundedCard : Claim7 := { stood := { row := crewBoundedRow, standIns := [], harness := (true, "97317ca856f9c5f0915f1ac28f573021650ffc27493f99b4f5ab9c69b19a9967"), looks := false }, kinds := [], alts := [], laidByText := true, laidKinds := [.data], laidTests := true, laidLooks := .later }
def CrewBoundedCardSaid : Prop := Claim7.holds Tryz.pinned (.plain (OpenSpec.ofChange crewBoundedSpec)) crewBoundedCard

/-- THE SECOND FORM's CARD OF 'wainscotlaw26.CrewNone'. -/
def crewNoneUptoCard : Claim7 := { stood := { row := crewNoneUptoRow, standIns := [], harness := (true, "97317ca856f9c5f0915f1ac28f573021650ffc27493f99b4f5ab9c69b19a9967"), looks := false }, kinds := [], alts := [], laidByText := true, laidKinds := [.data], laidTests := true, laidLooks := .later }
def CrewNoneUptoCardSaid : Prop := Claim7.holds Tryz.pinned (.plain (OpenSpec.upto crewNoneSpec)) crewNoneUptoCard

/-- THE SECOND FORM's CARD OF 'wainscotlaw26.CrewHeap'. -/
def crewHeapUptoCard : Claim7 := { stood := { row := crewHeapUptoRow, standIns := [], harness := (true, "97317ca856f9c5f0915f1ac28f573021650ffc27493f99b4f5ab9c69b19a9967"), looks := false }, kinds := [], alts := [], laidByText := true, laidKinds := [.data], laidTests := true, laidLooks := .later }
def CrewHeapUptoCardSaid : Prop := Claim7.holds Tryz.pinned (.plain (OpenSpec.upto crewHeapSpec)) crewHeapUptoCard

/-- THE SECOND FORM's CARD OF 'wainscotlaw26.CrewBounded'. -/
def crewBoundedUptoCard : Claim7 := { stood := { row := crewBoundedUptoRow, standIns := [], harness := (true, "97317ca856f9c5f0915f1ac28f573021650ffc27493f99b4f5ab9c69b19a9967"), looks := false }, kinds := [], alts := [], laidByText := true, laidKinds := [.data], laidTests := true, laidLooks := .later }
def CrewBoundedUptoCardSaid : Prop := Claim7.holds Tryz.pinned (.plain (OpenSpec.upto crewBoundedSpec)) crewBoundedUptoCard
end Rows
end Go.Proofs.YtfcpdlbkmkhhcaaGreatDoor
