/-
  No cell of these rows narrows 'for every input' (looked for: loops, veiled, ifaces, maps, wideKeys, modest, calm, conditions, laid).
  DERIVED. THE GIVEN ROWS OF THIS SEAT. 11 by the template 'for every input the law returns true; each argument reads behind the call as it read before'; 0 by the template 'total and deterministic' (their statements: YtljcndcmdphmgaaTotals.lean).
  GIVEN WITH THE SEED: the statements are not yours to turn. If you find one false, say at which input.
  Laid BY PROGRAM, IN A SANDBOX (cutbox-rows.mjs): the forced cells as the released guide's own fill.sh prints them over the translation ab3ac6740b4ebed0… (all of the seat's roots in one cut). By AI agents, Wed Nov 11 2026. No macro, syntax, notation, axiom, sorry.
-/
import Derived.Test.YtljcndcmdphmgaaChecked
import GoSem.Claim
import GoSem.ClaimJoined
import GoSem.ClaimMapViews
import Derived.JoinedTies
import Derived.KernelRfl
namespace Go.Proofs.Ytljcndcmdphmgaa
/- THE CELL 'sum', in the pinned program and in every row, IS THE sha256 OF THE DUMP (.gsa) THAT YtljcndcmdphmgaaProg.lean LOADS. Nothing in Lean hashes anything: it is a label: what it is worth is what the hold of that sum in a sandbox is worth. -/
noncomputable def Try.pinned : Pinned := { name := "ytljcndcmdphmgaa", sum := "ab3ac6740b4ebed0af25b14e02c044c40040f79f202077001763066c08d2a874", checked := Try.checked }
namespace Rows
def none {H : Type} : Left H := { results := [], args := [] }

/-- 'wainscotlaw05.FrameStays': WHATEVER THE INPUT: true; the input reads as it did. -/
def frameStaysSpec : ChangeSpec := { name := "frameStays", fn := fun _ => fun
  | [d1, d2, d3] => { results := [.lit (.bool true)], args := [d1, d2, d3] }
  | _ => none }
def frameStaysRow : OpenClaim := { program := "ytljcndcmdphmgaa", sum := "ab3ac6740b4ebed0af25b14e02c044c40040f79f202077001763066c08d2a874", func := "wainscot/wainscotlaw05.FrameStays", spec := "frameStays", unfollowed := true, recurses := true, apart := false }
def FrameStaysSaid : Prop := frameStaysRow.holds Try.pinned (OpenSpec.ofChange frameStaysSpec)

/-- ITS FALSE NEIGHBOUR: 'it returns false'. Refute it at one input. -/
def frameStaysWrong : ChangeSpec := { name := "frameStays", fn := fun _ => fun
  | [d1, d2, d3] => { results := [.lit (.bool false)], args := [d1, d2, d3] }
  | _ => none }
def FrameStaysWrongFalsely : Prop := frameStaysRow.holds Try.pinned (OpenSpec.ofChange frameStaysWrong)

/-- 'wainscotlaw05.FrameSum': WHATEVER THE INPUT: true; the input reads as it did. -/
def frameSumSpec : ChangeSpec := { name := "frameSum", fn := fun _ => fun
  | [d] => { results := [.lit (.bool true)], args := [d] }
  | _ => none }
def frameSumRow : OpenClaim := { program := "ytljcndcmdphmgaa", sum := "ab3ac6740b4ebed0af25b14e02c044c40040f79f202077001763066c08d2a874", func := "wainscot/wainscotlaw05.FrameSum", spec := "frameSum", unfollowed := true, recurses := true, apart := false }
def FrameSumSaid : Prop := frameSumRow.holds Try.pinned (OpenSpec.ofChange frameSumSpec)

/-- ITS FALSE NEIGHBOUR: 'it returns false'. Refute it at one input. -/
def frameSumWrong : ChangeSpec := { name := "frameSum", fn := fun _ => fun
  | [d] => { results := [.lit (.bool false)], args := [d] }
  | _ => none }
def FrameSumWrongFalsely : Prop := frameSumRow.holds Try.pinned (OpenSpec.ofChange frameSumWrong)

/-- 'wainscotlaw06.BuddyBack': WHATEVER THE INPUT: true; the input reads as it did. -/
def buddyBackSpec : ChangeSpec := { name := "buddyBack", fn := fun _ => fun
  | [d1, d2, d3] => { results := [.lit (.bool true)], args := [d1, d2, d3] }
  | _ => none }
def buddyBackRow : OpenClaim := { program := "ytljcndcmdphmgaa", sum := "ab3ac6740b4ebed0af25b14e02c044c40040f79f202077001763066c08d2a874", func := "wainscot/wainscotlaw06.BuddyBack", spec := "buddyBack", unfollowed := true, recurses := true, apart := false }
def BuddyBackSaid : Prop := buddyBackRow.holds Try.pinned (OpenSpec.ofChange buddyBackSpec)

/-- ITS FALSE NEIGHBOUR: 'it returns false'. Refute it at one input. -/
def buddyBackWrong : ChangeSpec := { name := "buddyBack", fn := fun _ => fun
  | [d1, d2, d3] => { results := [.lit (.bool false)], args := [d1, d2, d3] }
  | _ => none }
def BuddyBackWrongFalsely : Prop := buddyBackRow.holds Try.pinned (OpenSpec.ofChange buddyBackWrong)

/-- 'wainscotlaw06.BuddyFull': WHATEVER THE INPUT: true; the input reads as it did. -/
def buddyFullSpec : ChangeSpec := { name := "buddyFull", fn := fun _ => fun
  | [d1, d2, d3] => { results := [.lit (.bool true)], args := [d1, d2, d3] }
  | _ => none }
def buddyFullRow : OpenClaim := { program := "ytljcndcmdphmgaa", sum := "ab3ac6740b4ebed0af25b14e02c044c40040f79f202077001763066c08d2a874", func := "wainscot/wainscotlaw06.BuddyFull", spec := "buddyFull", unfollowed := true, recurses := true, apart := false }
def BuddyFullSaid : Prop := buddyFullRow.holds Try.pinned (OpenSpec.ofChange buddyFullSpec)

/-- ITS FALSE NEIGHBOUR: 'it returns false'. Refute it at one input. -/
def buddyFullWrong : ChangeSpec := { name := "buddyFull", fn := fun _ => fun
  | [d1, d2, d3] => { results := [.lit (.bool false)], args := [d1, d2, d3] }
  | _ => none }
def BuddyFullWrongFalsely : Prop := buddyFullRow.holds Try.pinned (OpenSpec.ofChange buddyFullWrong)

/-- 'wainscotlaw06.BuddyPlays': WHATEVER THE INPUT: true; the input reads as it did. -/
def buddyPlaysSpec : ChangeSpec := { name := "buddyPlays", fn := fun _ => fun
  | [d1, d2] => { results := [.lit (.bool true)], args := [d1, d2] }
  | _ => none }
def buddyPlaysRow : OpenClaim := { program := "ytljcndcmdphmgaa", sum := "ab3ac6740b4ebed0af25b14e02c044c40040f79f202077001763066c08d2a874", func := "wainscot/wainscotlaw06.BuddyPlays", spec := "buddyPlays", unfollowed := true, recurses := true, apart := false }
def BuddyPlaysSaid : Prop := buddyPlaysRow.holds Try.pinned (OpenSpec.ofChange buddyPlaysSpec)

/-- ITS FALSE NEIGHBOUR: 'it returns false'. Refute it at one input. -/
def buddyPlaysWrong : ChangeSpec := { name := "buddyPlays", fn := fun _ => fun
  | [d1, d2] => { results := [.lit (.bool false)], args := [d1, d2] }
  | _ => none }
def BuddyPlaysWrongFalsely : Prop := buddyPlaysRow.holds Try.pinned (OpenSpec.ofChange buddyPlaysWrong)

/-- 'wainscotlaw06.BuddyKnown': WHATEVER THE INPUT: true; the input reads as it did. -/
def buddyKnownSpec : ChangeSpec := { name := "buddyKnown", fn := fun _ => fun
  | [] => { results := [.lit (.bool true)], args := [] }
  | _ => none }
def buddyKnownRow : OpenClaim := { program := "ytljcndcmdphmgaa", sum := "ab3ac6740b4ebed0af25b14e02c044c40040f79f202077001763066c08d2a874", func := "wainscot/wainscotlaw06.BuddyKnown", spec := "buddyKnown", unfollowed := true, recurses := true, apart := false }
def BuddyKnownSaid : Prop := buddyKnownRow.holds Try.pinned (OpenSpec.ofChange buddyKnownSpec)

/-- ITS FALSE NEIGHBOUR: 'it returns false'. Refute it at one input. -/
def buddyKnownWrong : ChangeSpec := { name := "buddyKnown", fn := fun _ => fun
  | [] => { results := [.lit (.bool false)], args := [] }
  | _ => none }
def BuddyKnownWrongFalsely : Prop := buddyKnownRow.holds Try.pinned (OpenSpec.ofChange buddyKnownWrong)

/-- 'wainscotlaw08.ZonePlays': WHATEVER THE INPUT: true; the input reads as it did. -/
def zonePlaysSpec : ChangeSpec := { name := "zonePlays", fn := fun _ => fun
  | [d1, d2, d3] => { results := [.lit (.bool true)], args := [d1, d2, d3] }
  | _ => none }
def zonePlaysRow : OpenClaim := { program := "ytljcndcmdphmgaa", sum := "ab3ac6740b4ebed0af25b14e02c044c40040f79f202077001763066c08d2a874", func := "wainscot/wainscotlaw08.ZonePlays", spec := "zonePlays", unfollowed := true, recurses := true, apart := false }
def ZonePlaysSaid : Prop := zonePlaysRow.holds Try.pinned (OpenSpec.ofChange zonePlaysSpec)

/-- ITS FALSE NEIGHBOUR: 'it returns false'. Refute it at one input. -/
def zonePlaysWrong : ChangeSpec := { name := "zonePlays", fn := fun _ => fun
  | [d1, d2, d3] => { results := [.lit (.bool false)], args := [d1, d2, d3] }
  | _ => none }
def ZonePlaysWrongFalsely : Prop := zonePlaysRow.holds Try.pinned (OpenSpec.ofChange zonePlaysWrong)

/-- 'wainscotlaw08.ZoneStands': WHATEVER THE INPUT: true; the input reads as it did. -/
def zoneStandsSpec : ChangeSpec := { name := "zoneStands", fn := fun _ => fun
  | [d1, d2] => { results := [.lit (.bool true)], args := [d1, d2] }
  | _ => none }
def zoneStandsRow : OpenClaim := { program := "ytljcndcmdphmgaa", sum := "ab3ac6740b4ebed0af25b14e02c044c40040f79f202077001763066c08d2a874", func := "wainscot/wainscotlaw08.ZoneStands", spec := "zoneStands", unfollowed := true, recurses := true, apart := false }
def ZoneStandsSaid : Prop := zoneStandsRow.holds Try.pinned (OpenSpec.ofChange zoneStandsSpec)

/-- ITS FALSE NEIGHBOUR: 'it returns false'. Refute it at one input. -/
def zoneStandsWrong : ChangeSpec := { name := "zoneStands", fn := fun _ => fun
  | [d1, d2] => { results := [.lit (.bool false)], args := [d1, d2] }
  | _ => none }
def ZoneStandsWrongFalsely : Prop := zoneStandsRow.holds Try.pinned (OpenSpec.ofChange zoneStandsWrong)

/-- 'wainscotlaw08.ZoneBack': WHATEVER THE INPUT: true; the input reads as it did. -/
def zoneBackSpec : ChangeSpec := { name := "zoneBack", fn := fun _ => fun
  | [d1, d2, d3] => { results := [.lit (.bool true)], args := [d1, d2, d3] }
  | _ => none }
def zoneBackRow : OpenClaim := { program := "ytljcndcmdphmgaa", sum := "ab3ac6740b4ebed0af25b14e02c044c40040f79f202077001763066c08d2a874", func := "wainscot/wainscotlaw08.ZoneBack", spec := "zoneBack", unfollowed := true, recurses := true, apart := false }
def ZoneBackSaid : Prop := zoneBackRow.holds Try.pinned (OpenSpec.ofChange zoneBackSpec)

/-- ITS FALSE NEIGHBOUR: 'it returns false'. Refute it at one input. -/
def zoneBackWrong : ChangeSpec := { name := "zoneBack", fn := fun _ => fun
  | [d1, d2, d3] => { results := [.lit (.bool false)], args := [d1, d2, d3] }
  | _ => none }
def ZoneBackWrongFalsely : Prop := zoneBackRow.holds Try.pinned (OpenSpec.ofChange zoneBackWrong)

/-- 'wainscotlaw08.ZoneFull': WHATEVER THE INPUT: true; the input reads as it did. -/
def zoneFullSpec : ChangeSpec := { name := "zoneFull", fn := fun _ => fun
  | [d1, d2, d3] => { results := [.lit (.bool true)], args := [d1, d2, d3] }
  | _ => none }
def zoneFullRow : OpenClaim := { program := "ytljcndcmdphmgaa", sum := "ab3ac6740b4ebed0af25b14e02c044c40040f79f202077001763066c08d2a874", func := "wainscot/wainscotlaw08.ZoneFull", spec := "zoneFull", unfollowed := true, recurses := true, apart := false }
def ZoneFullSaid : Prop := zoneFullRow.holds Try.pinned (OpenSpec.ofChange zoneFullSpec)

/-- ITS FALSE NEIGHBOUR: 'it returns false'. Refute it at one input. -/
def zoneFullWrong : ChangeSpec := { name := "zoneFull", fn := fun _ => fun
  | [d1, d2, d3] => { results := [.lit (.bool false)], args := [d1, d2, d3] }
  | _ => none }
def ZoneFullWrongFalsely : Prop := zoneFullRow.holds Try.pinned (OpenSpec.ofChange zoneFullWrong)

/-- 'wainscotlaw08.ZoneKnown': WHATEVER THE INPUT: true; the input reads as it did. -/
def zoneKnownSpec : ChangeSpec := { name := "zoneKnown", fn := fun _ => fun
  | [] => { results := [.lit (.bool true)], args := [] }
  | _ => none }
def zoneKnownRow : OpenClaim := { program := "ytljcndcmdphmgaa", sum := "ab3ac6740b4ebed0af25b14e02c044c40040f79f202077001763066c08d2a874", func := "wainscot/wainscotlaw08.ZoneKnown", spec := "zoneKnown", unfollowed := true, recurses := true, apart := false }
def ZoneKnownSaid : Prop := zoneKnownRow.holds Try.pinned (OpenSpec.ofChange zoneKnownSpec)

/-- ITS FALSE NEIGHBOUR: 'it returns false'. Refute it at one input. -/
def zoneKnownWrong : ChangeSpec := { name := "zoneKnown", fn := fun _ => fun
  | [] => { results := [.lit (.bool false)], args := [] }
  | _ => none }
def ZoneKnownWrongFalsely : Prop := zoneKnownRow.holds Try.pinned (OpenSpec.ofChange zoneKnownWrong)

/- THE SECOND FORM. 'bulk': how many values and letters a reading holds, each counted each time it is reached (what is shared counts as often as it is met; a slice's spare places count too). A statement '..UptoSaid' is the law's where the arguments, and the package variables that the reading takes, are together of bulk at most 1048576: NARROWER than '..Said'. Prove '..Said' where nothing that the law and all that it calls make is longer than what came in: it says more and counts as full. Else prove '..UptoSaid'. A law counts once. -/
mutual
def uptoBulk {H : Type} : DataW H → Nat
  | .lit (.string bytes) => bytes.length + 1
  | .lit _ => 1
  | .nil => 1
  | .ptr d => uptoBulk d + 1
  | .slice elems spare => uptoBulkAll elems + uptoBulkAll spare + 1
  | .agg parts => uptoBulkAll parts + 1
  | .iface _ d => uptoBulk d + 1
  | .map entries => uptoBulkEntries entries + 1
  | .held _ => 1
def uptoBulkAll {H : Type} : List (DataW H) → Nat
  | [] => 0
  | d :: r => uptoBulk d + uptoBulkAll r
def uptoBulkEntries {H : Type} : List (Lit × DataW H) → Nat
  | [] => 0
  | x :: r => uptoBulkEntry x + uptoBulkEntries r
def uptoBulkEntry {H : Type} : Lit × DataW H → Nat
  | (.string bytes, d) => bytes.length + uptoBulk d + 1
  | (_, d) => uptoBulk d + 1
 end
def uptoSmall : (H : Type) → List (DataW H) → Bool := fun _ ds => decide (uptoBulkAll ds ≤ 1048576)
def OpenSpec.upto (s : _root_.Go.ChangeSpec) : _root_.Go.OpenSpec := { _root_.Go.OpenSpec.ofChange s with cond := some uptoSmall }

/-- 'wainscotlaw05.FrameStays', WHERE WHAT IT READS IS OF BULK AT MOST 1048576: true; the input reads as it did. -/
def frameStaysUptoRow : OpenClaim := { program := "ytljcndcmdphmgaa", sum := "ab3ac6740b4ebed0af25b14e02c044c40040f79f202077001763066c08d2a874", func := "wainscot/wainscotlaw05.FrameStays", spec := "frameStays", unfollowed := true, recurses := true, apart := false, narrowed := true }
def FrameStaysUptoSaid : Prop := frameStaysUptoRow.holds Try.pinned (OpenSpec.upto frameStaysSpec)

/-- 'wainscotlaw05.FrameSum', WHERE WHAT IT READS IS OF BULK AT MOST 1048576: true; the input reads as it did. -/
def frameSumUptoRow : OpenClaim := { program := "ytljcndcmdphmgaa", sum := "ab3ac6740b4ebed0af25b14e02c044c40040f79f202077001763066c08d2a874", func := "wainscot/wainscotlaw05.FrameSum", spec := "frameSum", unfollowed := true, recurses := true, apart := false, narrowed := true }
def FrameSumUptoSaid : Prop := frameSumUptoRow.holds Try.pinned (OpenSpec.upto frameSumSpec)

/-- 'wainscotlaw06.BuddyBack', WHERE WHAT IT READS IS OF BULK AT MOST 1048576: true; the input reads as it did. -/
def buddyBackUptoRow : OpenClaim := { program := "ytljcndcmdphmgaa", sum := "ab3ac6740b4ebed0af25b14e02c044c40040f79f202077001763066c08d2a874", func := "wainscot/wainscotlaw06.BuddyBack", spec := "buddyBack", unfollowed := true, recurses := true, apart := false, narrowed := true }
def BuddyBackUptoSaid : Prop := buddyBackUptoRow.holds Try.pinned (OpenSpec.upto buddyBackSpec)

/-- 'wainscotlaw06.BuddyFull', WHERE WHAT IT READS IS OF BULK AT MOST 1048576: true; the input reads as it did. -/
def buddyFullUptoRow : OpenClaim := { program := "ytljcndcmdphmgaa", sum := "ab3ac6740b4ebed0af25b14e02c044c40040f79f202077001763066c08d2a874", func := "wainscot/wainscotlaw06.BuddyFull", spec := "buddyFull", unfollowed := true, recurses := true, apart := false, narrowed := true }
def BuddyFullUptoSaid : Prop := buddyFullUptoRow.holds Try.pinned (OpenSpec.upto buddyFullSpec)

/-- 'wainscotlaw06.BuddyPlays', WHERE WHAT IT READS IS OF BULK AT MOST 1048576: true; the input reads as it did. -/
def buddyPlaysUptoRow : OpenClaim := { program := "ytljcndcmdphmgaa", sum := "ab3ac6740b4ebed0af25b14e02c044c40040f79f202077001763066c08d2a874", func := "wainscot/wainscotlaw06.BuddyPlays", spec := "buddyPlays", unfollowed := true, recurses := true, apart := false, narrowed := true }
def BuddyPlaysUptoSaid : Prop := buddyPlaysUptoRow.holds Try.pinned (OpenSpec.upto buddyPlaysSpec)

/-- 'wainscotlaw06.BuddyKnown', WHERE WHAT IT READS IS OF BULK AT MOST 1048576: true; the input reads as it did. -/
def buddyKnownUptoRow : OpenClaim := { program := "ytljcndcmdphmgaa", sum := "ab3ac6740b4ebed0af25b14e02c044c40040f79f202077001763066c08d2a874", func := "wainscot/wainscotlaw06.BuddyKnown", spec := "buddyKnown", unfollowed := true, recurses := true, apart := false, narrowed := true }
def BuddyKnownUptoSaid : Prop := buddyKnownUptoRow.holds Try.pinned (OpenSpec.upto buddyKnownSpec)

/-- 'wainscotlaw08.ZonePlays', WHERE WHAT IT READS IS OF BULK AT MOST 1048576: true; the input reads as it did. -/
def zonePlaysUptoRow : OpenClaim := { program := "ytljcndcmdphmgaa", sum := "ab3ac6740b4ebed0af25b14e02c044c40040f79f202077001763066c08d2a874", func := "wainscot/wainscotlaw08.ZonePlays", spec := "zonePlays", unfollowed := true, recurses := true, apart := false, narrowed := true }
def ZonePlaysUptoSaid : Prop := zonePlaysUptoRow.holds Try.pinned (OpenSpec.upto zonePlaysSpec)

/-- 'wainscotlaw08.ZoneStands', WHERE WHAT IT READS IS OF BULK AT MOST 1048576: true; the input reads as it did. -/
def zoneStandsUptoRow : OpenClaim := { program := "ytljcndcmdphmgaa", sum := "ab3ac6740b4ebed0af25b14e02c044c40040f79f202077001763066c08d2a874", func := "wainscot/wainscotlaw08.ZoneStands", spec := "zoneStands", unfollowed := true, recurses := true, apart := false, narrowed := true }
def ZoneStandsUptoSaid : Prop := zoneStandsUptoRow.holds Try.pinned (OpenSpec.upto zoneStandsSpec)

/-- 'wainscotlaw08.ZoneBack', WHERE WHAT IT READS IS OF BULK AT MOST 1048576: true; the input reads as it did. -/
def zoneBackUptoRow : OpenClaim := { program := "ytljcndcmdphmgaa", sum := "ab3ac6740b4ebed0af25b14e02c044c40040f79f202077001763066c08d2a874", func := "wainscot/wainscotlaw08.ZoneBack", spec := "zoneBack", unfollowed := true, recurses := true, apart := false, narrowed := true }
def ZoneBackUptoSaid : Prop := zoneBackUptoRow.holds Try.pinned (OpenSpec.upto zoneBackSpec)

/-- 'wainscotlaw08.ZoneFull', WHERE WHAT IT READS IS OF BULK AT MOST 1048576: true; the input reads as it did. -/
def zoneFullUptoRow : OpenClaim := { program := "ytljcndcmdphmgaa", sum := "ab3ac6740b4ebed0af25b14e02c044c40040f79f202077001763066c08d2a874", func := "wainscot/wainscotlaw08.ZoneFull", spec := "zoneFull", unfollowed := true, recurses := true, apart := false, narrowed := true }
def ZoneFullUptoSaid : Prop := zoneFullUptoRow.holds Try.pinned (OpenSpec.upto zoneFullSpec)

/-- 'wainscotlaw08.ZoneKnown', WHERE WHAT IT READS IS OF BULK AT MOST 1048576: true; the input reads as it did. -/
def zoneKnownUptoRow : OpenClaim := { program := "ytljcndcmdphmgaa", sum := "ab3ac6740b4ebed0af25b14e02c044c40040f79f202077001763066c08d2a874", func := "wainscot/wainscotlaw08.ZoneKnown", spec := "zoneKnown", unfollowed := true, recurses := true, apart := false, narrowed := true }
def ZoneKnownUptoSaid : Prop := zoneKnownUptoRow.holds Try.pinned (OpenSpec.upto zoneKnownSpec)

end Rows
end Go.Proofs.Ytljcndcmdphmgaa
