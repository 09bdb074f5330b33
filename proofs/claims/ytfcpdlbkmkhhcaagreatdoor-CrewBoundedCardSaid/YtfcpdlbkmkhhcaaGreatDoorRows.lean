/-
  NARROWER THAN 'FOR EVERY INPUT', by the rows' own cells (each row's printed sentence says how): CrewNone: laid · CrewHeap: laid · CrewBounded: laid.
  DERIVED. THE GIVEN ROWS OF THIS SEAT. 3 by the template 'for every input the law returns true; each argument reads behind the call as it read before'; 0 by the template 'total and deterministic' (their statements: YtfcpdlbkmkhhcaaGreatDoorTotals.lean).
  GIVEN WITH THE SEED: the statements are not yours to turn. If you find one false, say at which input.
  Laid BY PROGRAM, IN A SANDBOX (cutbox-rows.mjs): the forced cells as the released guide's own fill.sh prints them over the translation c013ac973fa753de… (all of the seat's roots in one cut). By AI agents, Wed Nov 11 2026. No macro, syntax, notation, axiom, sorry.
-/
import Derived.Test.YtfcpdlbkmkhhcaaGreatDoorChecked
import GoSem.Claim
import GoSem.ClaimJoined
import GoSem.ClaimMapViews
import Derived.JoinedTies
import Derived.KernelRfl
namespace Go.Proofs.YtfcpdlbkmkhhcaaGreatDoor
/- THE CELL 'sum', in the pinned program and in every row, IS THE sha256 OF THE DUMP (.gsa) THAT YtfcpdlbkmkhhcaaGreatDoorProg.lean LOADS. Nothing in Lean hashes anything: it is a label: what it is worth is what the hold of that sum in a sandbox is worth. -/
noncomputable def Tryz.pinned : Pinned := { name := "ytfcpdlbkmkhhcaagreatdoor", sum := "c013ac973fa753decc58dcdd7c9f6f3bc02d4df73dcfe130a883c2a5d63a2f71", checked := Tryz.checked }
namespace Rows
def none {H : Type} : Left H := { results := [], args := [] }

/- WHAT THE LISTED PACKAGE-LEVEL VARIABLES READ AS WHEN THE CALL BEGINS. Each datum BY PROGRAM (the guide's laid-datum.mjs) off the statement by which the dump's own 'gosem.cut.vars' lays the variable. In a bare row this is a premise. The card (YtfcpdlbkmkhhcaaGreatDoorCards.lean) ties it to the program's text. -/
def laid_wainscot_fill_goesOn {H : Type} : DataW H := .agg [.lit (.int .i64 0), .lit (.int .i64 0), .lit (.int .i64 0), .lit (.int .i64 0), .lit (.int .i64 0), .lit (.int .i64 0), .lit (.int .i64 0), .lit (.int .i64 0), .lit (.int .i64 0), .lit (.int .i64 0), .lit (.int .i64 0), .lit (.int .i64 0), .lit (.int .i64 0), .lit (.int .i64 0), .lit (.int .i64 0), .lit (.int .i64 0), .lit (.int .i64 0), .lit (.int .i64 0), .lit (.int .i64 0), .lit (.int .i64 0), .lit (.int .i64 0), .lit (.int .i64 22), .lit (.int .i64 0), .lit (.int .i64 0), .lit (.int .i64 0), .lit (.int .i64 0), .lit (.int .i64 0), .lit (.int .i64 0), .lit (.int .i64 0), .lit (.int .i64 0), .lit (.int .i64 31), .lit (.int .i64 0), .lit (.int .i64 0), .lit (.int .i64 0), .lit (.int .i64 0), .lit (.int .i64 0), .lit (.int .i64 43), .lit (.int .i64 38), .lit (.int .i64 0), .lit (.int .i64 0), .lit (.int .i64 41), .lit (.int .i64 42), .lit (.int .i64 0), .lit (.int .i64 0), .lit (.int .i64 0), .lit (.int .i64 0), .lit (.int .i64 47), .lit (.int .i64 48), .lit (.int .i64 49), .lit (.int .i64 40)]

/-- 'wainscotlaw26.CrewNone': WHATEVER THE INPUT: true; the input reads as it did. -/
def crewNoneSpec : ChangeSpec := { name := "crewNone", fn := fun _ => fun
  | [d] => { results := [.lit (.bool true)], args := [d] }
  | _ => none }
def crewNoneRow : OpenClaim := { program := "ytfcpdlbkmkhhcaagreatdoor", sum := "c013ac973fa753decc58dcdd7c9f6f3bc02d4df73dcfe130a883c2a5d63a2f71", func := "wainscot/wainscotlaw26.CrewNone", spec := "crewNone", unfollowed := true, recurses := true, named := ["wainscot/fill.goesOn"], apart := false, laid := [("wainscot/fill.goesOn", laid_wainscot_fill_goesOn)] }
def CrewNoneSaid : Prop := crewNoneRow.holds Tryz.pinned (OpenSpec.ofChange crewNoneSpec)

/-- ITS FALSE NEIGHBOUR: 'it returns false'. Refute it at one input. -/
def crewNoneWrong : ChangeSpec := { name := "crewNone", fn := fun _ => fun
  | [d] => { results := [.lit (.bool false)], args := [d] }
  | _ => none }
def CrewNoneWrongFalsely : Prop := crewNoneRow.holds Tryz.pinned (OpenSpec.ofChange crewNoneWrong)

/-- 'wainscotlaw26.CrewHeap': WHATEVER THE INPUT: true; the input reads as it did. -/
def crewHeapSpec : ChangeSpec := { name := "crewHeap", fn := fun _ => fun
  | [d] => { results := [.lit (.bool true)], args := [d] }
  | _ => none }
def crewHeapRow : OpenClaim := { program := "ytfcpdlbkmkhhcaagreatdoor", sum := "c013ac973fa753decc58dcdd7c9f6f3bc02d4df73dcfe130a883c2a5d63a2f71", func := "wainscot/wainscotlaw26.CrewHeap", spec := "crewHeap", unfollowed := true, recurses := true, named := ["wainscot/fill.goesOn"], apart := false, laid := [("wainscot/fill.goesOn", laid_wainscot_fill_goesOn)] }
def CrewHeapSaid : Prop := crewHeapRow.holds Tryz.pinned (OpenSpec.ofChange crewHeapSpec)

/-- ITS FALSE NEIGHBOUR: 'it returns false'. Refute it at one input. -/
def crewHeapWrong : ChangeSpec := { name := "crewHeap", fn := fun _ => fun
  | [d] => { results := [.lit (.bool false)], args := [d] }
  | _ => none }
def CrewHeapWrongFalsely : Prop := crewHeapRow.holds Tryz.pinned (OpenSpec.ofChange crewHeapWrong)

/-- 'wainscotlaw26.CrewBounded': WHATEVER THE INPUT: true; the input reads as it did. -/
def crewBoundedSpec : ChangeSpec := { name := "crewBounded", fn := fun _ => fun
  | [d] => { results := [.lit (.bool true)], args := [d] }
  | _ => none }
def crewBoundedRow : OpenClaim := { program := "ytfcpdlbkmkhhcaagreatdoor", sum := "c013ac973fa753decc58dcdd7c9f6f3bc02d4df73dcfe130a883c2a5d63a2f71", func := "wainscot/wainscotlaw26.CrewBounded", spec := "crewBounded", unfollowed := true, recurses := true, named := ["wainscot/fill.goesOn"], apart := false, laid := [("wainscot/fill.goesOn", laid_wainscot_fill_goesOn)] }
def CrewBoundedSaid : Prop := crewBoundedRow.holds Tryz.pinned (OpenSpec.ofChange crewBoundedSpec)

/-- ITS FALSE NEIGHBOUR: 'it returns false'. Refute it at one input. -/
def crewBoundedWrong : ChangeSpec := { name := "crewBounded", fn := fun _ => fun
  | [d] => { results := [.lit (.bool false)], args := [d] }
  | _ => none }
def CrewBoundedWrongFalsely : Prop := crewBoundedRow.holds Tryz.pinned (OpenSpec.ofChange crewBoundedWrong)

/- THE SECOND FORM. 'bulk': how many values and letters a reading holds, each counted each time it is reached (what is shared counts as often as it is met; a slice's spare places count too). A statement '..UptoSaid' is the law's where the arguments, and the package variables that the reading takes, are together of bulk at most 1048576: NARROWER than '..Said'. Prove '..Said' where nothing that the law and all that it calls make is longer than what came in: it says more and counts as full. Else prove '..UptoSaid'. A law counts once. -/
mutual
def uptoBulk {H : Type} : DataW H → Nat
  | .lit (.string bytes) => bytes.length + 1
  | .lit _ => 1
  | .nil => 1
  | .ptr d => uptoBulk d + 1
  | .slice elems spare => uptoBulkAll elems + uptoBulkAll spare + 1
  | .agg parts => uptoBulkAll parts + 1
  | .iface _ d => uptoBulk d + 1
  | .map entries => uptoBulkEntries entries + 1
  | .held _ => 1
def uptoBulkAll {H : Type} : List (DataW H) → Nat
  | [] => 0
  | d :: r => uptoBulk d + uptoBulkAll r
def uptoBulkEntries {H : Type} : List (Lit × DataW H) → Nat
  | [] => 0
  | x :: r => uptoBulkEntry x + uptoBulkEntries r
def uptoBulkEntry {H : Type} : Lit × DataW H → Nat
  | (.string bytes, d) => bytes.length + uptoBulk d + 1
  | (_, d) => uptoBulk d + 1
 end
def uptoSmall : (H : Type) → List (DataW H) → Bool := fun _ ds => decide (uptoBulkAll ds ≤ 1048576)
def OpenSpec.upto (s : _root_.Go.ChangeSpec) : _root_.Go.OpenSpec := { _root_.Go.OpenSpec.ofChange s with cond := some uptoSmall }

/-- 'wainscotlaw26.CrewNone', WHERE WHAT IT READS IS OF BULK AT MOST 1048576: true; the input reads as it did. -/
def crewNoneUptoRow : OpenClaim := { program := "ytfcpdlbkmkhhcaagreatdoor", sum := "c013ac973fa753decc58dcdd7c9f6f3bc02d4df73dcfe130a883c2a5d63a2f71", func := "wainscot/wainscotlaw26.CrewNone", spec := "crewNone", unfollowed := true, recurses := true, named := ["wainscot/fill.goesOn"], apart := false, laid := [("wainscot/fill.goesOn", laid_wainscot_fill_goesOn)], narrowed := true }
def CrewNoneUptoSaid : Prop := crewNoneUptoRow.holds Tryz.pinned (OpenSpec.upto crewNoneSpec)

/-- 'wainscotlaw26.CrewHeap', WHERE WHAT IT READS IS OF BULK AT MOST 1048576: true; the input reads as it did. -/
def crewHeapUptoRow : OpenClaim := { program := "ytfcpdlbkmkhhcaagreatdoor", sum := "c013ac973fa753decc58dcdd7c9f6f3bc02d4df73dcfe130a883c2a5d63a2f71", func := "wainscot/wainscotlaw26.CrewHeap", spec := "crewHeap", unfollowed := true, recurses := true, named := ["wainscot/fill.goesOn"], apart := false, laid := [("wainscot/fill.goesOn", laid_wainscot_fill_goesOn)], narrowed := true }
def CrewHeapUptoSaid : Prop := crewHeapUptoRow.holds Tryz.pinned (OpenSpec.upto crewHeapSpec)

/-- 'wainscotlaw26.CrewBounded', WHERE WHAT IT READS IS OF BULK AT MOST 1048576: true; the input reads as it did. -/
def crewBoundedUptoRow : OpenClaim := { program := "ytfcpdlbkmkhhcaagreatdoor", sum := "c013ac973fa753decc58dcdd7c9f6f3bc02d4df73dcfe130a883c2a5d63a2f71", func := "wainscot/wainscotlaw26.CrewBounded", spec := "crewBounded", unfollowed := true, recurses := true, named := ["wainscot/fill.goesOn"], apart := false, laid := [("wainscot/fill.goesOn", laid_wainscot_fill_goesOn)], narrowed := true }
def CrewBoundedUptoSaid : Prop := crewBoundedUptoRow.holds Tryz.pinned (OpenSpec.upto crewBoundedSpec)

end Rows
end Go.Proofs.YtfcpdlbkmkhhcaaGreatDoor
