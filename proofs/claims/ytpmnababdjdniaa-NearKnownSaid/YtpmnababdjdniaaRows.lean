/-
  No cell of these rows narrows 'for every input' (looked for: loops, veiled, ifaces, maps, wideKeys, modest, calm, conditions, laid).
  DERIVED. THE GIVEN ROWS OF THIS SEAT. 8 by the template 'for every input the law returns true; each argument reads behind the call as it read before'; 0 by the template 'total and deterministic' (their statements: YtpmnababdjdniaaTotals.lean).
  GIVEN WITH THE SEED: the statements are not yours to turn. If you find one false, say at which input.
  Laid BY PROGRAM, IN A SANDBOX (cutbox-rows.mjs): the forced cells as the released guide's own fill.sh prints them over the translation 37af9fbbf3431b49… (all of the seat's roots in one cut). By AI agents, Wed Nov 11 2026. No macro, syntax, notation, axiom, sorry.
-/
import Derived.Test.YtpmnababdjdniaaChecked
import GoSem.Claim
import GoSem.ClaimJoined
import GoSem.ClaimMapViews
import Derived.JoinedTies
import Derived.KernelRfl
namespace Go.Proofs.Ytpmnababdjdniaa
/- THE CELL 'sum', in the pinned program and in every row, IS THE sha256 OF THE DUMP (.gsa) THAT YtpmnababdjdniaaProg.lean LOADS. Nothing in Lean hashes anything: it is a label: what it is worth is what the hold of that sum in a sandbox is worth. -/
noncomputable def Try.pinned : Pinned := { name := "ytpmnababdjdniaa", sum := "37af9fbbf3431b495eb5789332cc7ea12cd8b66a5e3d7751df7dc6f00eeccb61", checked := Try.checked }
namespace Rows
def none {H : Type} : Left H := { results := [], args := [] }

/-- 'wainscotlaw13.StockPlays': WHATEVER THE INPUT: true; the input reads as it did. -/
def stockPlaysSpec : ChangeSpec := { name := "stockPlays", fn := fun _ => fun
  | [d1, d2] => { results := [.lit (.bool true)], args := [d1, d2] }
  | _ => none }
def stockPlaysRow : OpenClaim := { program := "ytpmnababdjdniaa", sum := "37af9fbbf3431b495eb5789332cc7ea12cd8b66a5e3d7751df7dc6f00eeccb61", func := "wainscot/wainscotlaw13.StockPlays", spec := "stockPlays", apart := false }
def StockPlaysSaid : Prop := stockPlaysRow.holds Try.pinned (OpenSpec.ofChange stockPlaysSpec)

/-- ITS FALSE NEIGHBOUR: 'it returns false'. Refute it at one input. -/
def stockPlaysWrong : ChangeSpec := { name := "stockPlays", fn := fun _ => fun
  | [d1, d2] => { results := [.lit (.bool false)], args := [d1, d2] }
  | _ => none }
def StockPlaysWrongFalsely : Prop := stockPlaysRow.holds Try.pinned (OpenSpec.ofChange stockPlaysWrong)

/-- 'wainscotlaw13.StockSums': WHATEVER THE INPUT: true; the input reads as it did. -/
def stockSumsSpec : ChangeSpec := { name := "stockSums", fn := fun _ => fun
  | [d] => { results := [.lit (.bool true)], args := [d] }
  | _ => none }
def stockSumsRow : OpenClaim := { program := "ytpmnababdjdniaa", sum := "37af9fbbf3431b495eb5789332cc7ea12cd8b66a5e3d7751df7dc6f00eeccb61", func := "wainscot/wainscotlaw13.StockSums", spec := "stockSums", apart := false }
def StockSumsSaid : Prop := stockSumsRow.holds Try.pinned (OpenSpec.ofChange stockSumsSpec)

/-- ITS FALSE NEIGHBOUR: 'it returns false'. Refute it at one input. -/
def stockSumsWrong : ChangeSpec := { name := "stockSums", fn := fun _ => fun
  | [d] => { results := [.lit (.bool false)], args := [d] }
  | _ => none }
def StockSumsWrongFalsely : Prop := stockSumsRow.holds Try.pinned (OpenSpec.ofChange stockSumsWrong)

/-- 'wainscotlaw13.StockTakes': WHATEVER THE INPUT: true; the input reads as it did. -/
def stockTakesSpec : ChangeSpec := { name := "stockTakes", fn := fun _ => fun
  | [d1, d2, d3] => { results := [.lit (.bool true)], args := [d1, d2, d3] }
  | _ => none }
def stockTakesRow : OpenClaim := { program := "ytpmnababdjdniaa", sum := "37af9fbbf3431b495eb5789332cc7ea12cd8b66a5e3d7751df7dc6f00eeccb61", func := "wainscot/wainscotlaw13.StockTakes", spec := "stockTakes", apart := false }
def StockTakesSaid : Prop := stockTakesRow.holds Try.pinned (OpenSpec.ofChange stockTakesSpec)

/-- ITS FALSE NEIGHBOUR: 'it returns false'. Refute it at one input. -/
def stockTakesWrong : ChangeSpec := { name := "stockTakes", fn := fun _ => fun
  | [d1, d2, d3] => { results := [.lit (.bool false)], args := [d1, d2, d3] }
  | _ => none }
def StockTakesWrongFalsely : Prop := stockTakesRow.holds Try.pinned (OpenSpec.ofChange stockTakesWrong)

/-- 'wainscotlaw13.StockKnown': WHATEVER THE INPUT: true; the input reads as it did. -/
def stockKnownSpec : ChangeSpec := { name := "stockKnown", fn := fun _ => fun
  | [] => { results := [.lit (.bool true)], args := [] }
  | _ => none }
def stockKnownRow : OpenClaim := { program := "ytpmnababdjdniaa", sum := "37af9fbbf3431b495eb5789332cc7ea12cd8b66a5e3d7751df7dc6f00eeccb61", func := "wainscot/wainscotlaw13.StockKnown", spec := "stockKnown", apart := false }
def StockKnownSaid : Prop := stockKnownRow.holds Try.pinned (OpenSpec.ofChange stockKnownSpec)

/-- ITS FALSE NEIGHBOUR: 'it returns false'. Refute it at one input. -/
def stockKnownWrong : ChangeSpec := { name := "stockKnown", fn := fun _ => fun
  | [] => { results := [.lit (.bool false)], args := [] }
  | _ => none }
def StockKnownWrongFalsely : Prop := stockKnownRow.holds Try.pinned (OpenSpec.ofChange stockKnownWrong)

/-- 'wainscotlaw07.NearPlays': WHATEVER THE INPUT: true; the input reads as it did. -/
def nearPlaysSpec : ChangeSpec := { name := "nearPlays", fn := fun _ => fun
  | [d1, d2, d3] => { results := [.lit (.bool true)], args := [d1, d2, d3] }
  | _ => none }
def nearPlaysRow : OpenClaim := { program := "ytpmnababdjdniaa", sum := "37af9fbbf3431b495eb5789332cc7ea12cd8b66a5e3d7751df7dc6f00eeccb61", func := "wainscot/wainscotlaw07.NearPlays", spec := "nearPlays", unfollowed := true, recurses := true, apart := false }
def NearPlaysSaid : Prop := nearPlaysRow.holds Try.pinned (OpenSpec.ofChange nearPlaysSpec)

/-- ITS FALSE NEIGHBOUR: 'it returns false'. Refute it at one input. -/
def nearPlaysWrong : ChangeSpec := { name := "nearPlays", fn := fun _ => fun
  | [d1, d2, d3] => { results := [.lit (.bool false)], args := [d1, d2, d3] }
  | _ => none }
def NearPlaysWrongFalsely : Prop := nearPlaysRow.holds Try.pinned (OpenSpec.ofChange nearPlaysWrong)

/-- 'wainscotlaw07.NearOnce': WHATEVER THE INPUT: true; the input reads as it did. -/
def nearOnceSpec : ChangeSpec := { name := "nearOnce", fn := fun _ => fun
  | [d1, d2, d3] => { results := [.lit (.bool true)], args := [d1, d2, d3] }
  | _ => none }
def nearOnceRow : OpenClaim := { program := "ytpmnababdjdniaa", sum := "37af9fbbf3431b495eb5789332cc7ea12cd8b66a5e3d7751df7dc6f00eeccb61", func := "wainscot/wainscotlaw07.NearOnce", spec := "nearOnce", unfollowed := true, recurses := true, apart := false }
def NearOnceSaid : Prop := nearOnceRow.holds Try.pinned (OpenSpec.ofChange nearOnceSpec)

/-- ITS FALSE NEIGHBOUR: 'it returns false'. Refute it at one input. -/
def nearOnceWrong : ChangeSpec := { name := "nearOnce", fn := fun _ => fun
  | [d1, d2, d3] => { results := [.lit (.bool false)], args := [d1, d2, d3] }
  | _ => none }
def NearOnceWrongFalsely : Prop := nearOnceRow.holds Try.pinned (OpenSpec.ofChange nearOnceWrong)

/-- 'wainscotlaw07.NearLast': WHATEVER THE INPUT: true; the input reads as it did. -/
def nearLastSpec : ChangeSpec := { name := "nearLast", fn := fun _ => fun
  | [d1, d2] => { results := [.lit (.bool true)], args := [d1, d2] }
  | _ => none }
def nearLastRow : OpenClaim := { program := "ytpmnababdjdniaa", sum := "37af9fbbf3431b495eb5789332cc7ea12cd8b66a5e3d7751df7dc6f00eeccb61", func := "wainscot/wainscotlaw07.NearLast", spec := "nearLast", unfollowed := true, recurses := true, apart := false }
def NearLastSaid : Prop := nearLastRow.holds Try.pinned (OpenSpec.ofChange nearLastSpec)

/-- ITS FALSE NEIGHBOUR: 'it returns false'. Refute it at one input. -/
def nearLastWrong : ChangeSpec := { name := "nearLast", fn := fun _ => fun
  | [d1, d2] => { results := [.lit (.bool false)], args := [d1, d2] }
  | _ => none }
def NearLastWrongFalsely : Prop := nearLastRow.holds Try.pinned (OpenSpec.ofChange nearLastWrong)

/-- 'wainscotlaw07.NearKnown': WHATEVER THE INPUT: true; the input reads as it did. -/
def nearKnownSpec : ChangeSpec := { name := "nearKnown", fn := fun _ => fun
  | [] => { results := [.lit (.bool true)], args := [] }
  | _ => none }
def nearKnownRow : OpenClaim := { program := "ytpmnababdjdniaa", sum := "37af9fbbf3431b495eb5789332cc7ea12cd8b66a5e3d7751df7dc6f00eeccb61", func := "wainscot/wainscotlaw07.NearKnown", spec := "nearKnown", unfollowed := true, recurses := true, apart := false }
def NearKnownSaid : Prop := nearKnownRow.holds Try.pinned (OpenSpec.ofChange nearKnownSpec)

/-- ITS FALSE NEIGHBOUR: 'it returns false'. Refute it at one input. -/
def nearKnownWrong : ChangeSpec := { name := "nearKnown", fn := fun _ => fun
  | [] => { results := [.lit (.bool false)], args := [] }
  | _ => none }
def NearKnownWrongFalsely : Prop := nearKnownRow.holds Try.pinned (OpenSpec.ofChange nearKnownWrong)

/- THE SECOND FORM. 'bulk': how many values and letters a reading holds, each counted each time it is reached (what is shared counts as often as it is met; a slice's spare places count too). A statement '..UptoSaid' is the law's where the arguments, and the package variables that the reading takes, are together of bulk at most 1048576: NARROWER than '..Said'. Prove '..Said' where nothing that the law and all that it calls make is longer than what came in: it says more and counts as full. Else prove '..UptoSaid'. A law counts once. -/
mutual
def uptoBulk {H : Type} : DataW H → Nat
  | .lit (.string bytes) => bytes.length + 1
  | .lit _ => 1
  | .nil => 1
  | .ptr d => uptoBulk d + 1
  | .slice elems spare => uptoBulkAll elems + uptoBulkAll spare + 1
  | .agg parts => uptoBulkAll parts + 1
  | .iface _ d => uptoBulk d + 1
  | .map entries => uptoBulkEntries entries + 1
  | .held _ => 1
def uptoBulkAll {H : Type} : List (DataW H) → Nat
  | [] => 0
  | d :: r => uptoBulk d + uptoBulkAll r
def uptoBulkEntries {H : Type} : List (Lit × DataW H) → Nat
  | [] => 0
  | x :: r => uptoBulkEntry x + uptoBulkEntries r
def uptoBulkEntry {H : Type} : Lit × DataW H → Nat
  | (.string bytes, d) => bytes.length + uptoBulk d + 1
  | (_, d) => uptoBulk d + 1
 end
def uptoSmall : (H : Type) → List (DataW H) → Bool := fun _ ds => decide (uptoBulkAll ds ≤ 1048576)
def OpenSpec.upto (s : _root_.Go.ChangeSpec) : _root_.Go.OpenSpec := { _root_.Go.OpenSpec.ofChange s with cond := some uptoSmall }

/-- 'wainscotlaw13.StockPlays', WHERE WHAT IT READS IS OF BULK AT MOST 1048576: true; the input reads as it did. -/
def stockPlaysUptoRow : OpenClaim := { program := "ytpmnababdjdniaa", sum := "37af9fbbf3431b495eb5789332cc7ea12cd8b66a5e3d7751df7dc6f00eeccb61", func := "wainscot/wainscotlaw13.StockPlays", spec := "stockPlays", apart := false, narrowed := true }
def StockPlaysUptoSaid : Prop := stockPlaysUptoRow.holds Try.pinned (OpenSpec.upto stockPlaysSpec)

/-- 'wainscotlaw13.StockSums', WHERE WHAT IT READS IS OF BULK AT MOST 1048576: true; the input reads as it did. -/
def stockSumsUptoRow : OpenClaim := { program := "ytpmnababdjdniaa", sum := "37af9fbbf3431b495eb5789332cc7ea12cd8b66a5e3d7751df7dc6f00eeccb61", func := "wainscot/wainscotlaw13.StockSums", spec := "stockSums", apart := false, narrowed := true }
def StockSumsUptoSaid : Prop := stockSumsUptoRow.holds Try.pinned (OpenSpec.upto stockSumsSpec)

/-- 'wainscotlaw13.StockTakes', WHERE WHAT IT READS IS OF BULK AT MOST 1048576: true; the input reads as it did. -/
def stockTakesUptoRow : OpenClaim := { program := "ytpmnababdjdniaa", sum := "37af9fbbf3431b495eb5789332cc7ea12cd8b66a5e3d7751df7dc6f00eeccb61", func := "wainscot/wainscotlaw13.StockTakes", spec := "stockTakes", apart := false, narrowed := true }
def StockTakesUptoSaid : Prop := stockTakesUptoRow.holds Try.pinned (OpenSpec.upto stockTakesSpec)

/-- 'wainscotlaw13.StockKnown', WHERE WHAT IT READS IS OF BULK AT MOST 1048576: true; the input reads as it did. -/
def stockKnownUptoRow : OpenClaim := { program := "ytpmnababdjdniaa", sum := "37af9fbbf3431b495eb5789332cc7ea12cd8b66a5e3d7751df7dc6f00eeccb61", func := "wainscot/wainscotlaw13.StockKnown", spec := "stockKnown", apart := false, narrowed := true }
def StockKnownUptoSaid : Prop := stockKnownUptoRow.holds Try.pinned (OpenSpec.upto stockKnownSpec)

/-- 'wainscotlaw07.NearPlays', WHERE WHAT IT READS IS OF BULK AT MOST 1048576: true; the input reads as it did. -/
def nearPlaysUptoRow : OpenClaim := { program := "ytpmnababdjdniaa", sum := "37af9fbbf3431b495eb5789332cc7ea12cd8b66a5e3d7751df7dc6f00eeccb61", func := "wainscot/wainscotlaw07.NearPlays", spec := "nearPlays", unfollowed := true, recurses := true, apart := false, narrowed := true }
def NearPlaysUptoSaid : Prop := nearPlaysUptoRow.holds Try.pinned (OpenSpec.upto nearPlaysSpec)

/-- 'wainscotlaw07.NearOnce', WHERE WHAT IT READS IS OF BULK AT MOST 1048576: true; the input reads as it did. -/
def nearOnceUptoRow : OpenClaim := { program := "ytpmnababdjdniaa", sum := "37af9fbbf3431b495eb5789332cc7ea12cd8b66a5e3d7751df7dc6f00eeccb61", func := "wainscot/wainscotlaw07.NearOnce", spec := "nearOnce", unfollowed := true, recurses := true, apart := false, narrowed := true }
def NearOnceUptoSaid : Prop := nearOnceUptoRow.holds Try.pinned (OpenSpec.upto nearOnceSpec)

/-- 'wainscotlaw07.NearLast', WHERE WHAT IT READS IS OF BULK AT MOST 1048576: true; the input reads as it did. -/
def nearLastUptoRow : OpenClaim := { program := "ytpmnababdjdniaa", sum := "37af9fbbf3431b495eb5789332cc7ea12cd8b66a5e3d7751df7dc6f00eeccb61", func := "wainscot/wainscotlaw07.NearLast", spec := "nearLast", unfollowed := true, recurses := true, apart := false, narrowed := true }
def NearLastUptoSaid : Prop := nearLastUptoRow.holds Try.pinned (OpenSpec.upto nearLastSpec)

/-- 'wainscotlaw07.NearKnown', WHERE WHAT IT READS IS OF BULK AT MOST 1048576: true; the input reads as it did. -/
def nearKnownUptoRow : OpenClaim := { program := "ytpmnababdjdniaa", sum := "37af9fbbf3431b495eb5789332cc7ea12cd8b66a5e3d7751df7dc6f00eeccb61", func := "wainscot/wainscotlaw07.NearKnown", spec := "nearKnown", unfollowed := true, recurses := true, apart := false, narrowed := true }
def NearKnownUptoSaid : Prop := nearKnownUptoRow.holds Try.pinned (OpenSpec.upto nearKnownSpec)

end Rows
end Go.Proofs.Ytpmnababdjdniaa
