/-
  No cell of these rows narrows 'for every input' (looked for: loops, veiled, ifaces, maps, wideKeys, modest, calm, conditions, laid).
  DERIVED. THE GIVEN ROWS OF THIS SEAT. 8 by the template 'for every input the law returns true; each argument reads behind the call as it read before'; 0 by the template 'total and deterministic' (their statements: YtigakendeghoaaaTotals.lean).
  GIVEN WITH THE SEED: the statements are not yours to turn. If you find one false, say at which input.
  Laid BY PROGRAM, IN A SANDBOX (cutbox-rows.mjs): the forced cells as the released guide's own fill.sh prints them over the translation be9bcde469339e37… (all of the seat's roots in one cut). By AI agents, Wed Nov 11 2026. No macro, syntax, notation, axiom, sorry.
-/
import Derived.Test.YtigakendeghoaaaChecked
import GoSem.Claim
import GoSem.ClaimJoined
import GoSem.ClaimMapViews
import Derived.JoinedTies
import Derived.KernelRfl
namespace Go.Proofs.Ytigakendeghoaaa
/- THE CELL 'sum', in the pinned program and in every row, IS THE sha256 OF THE DUMP (.gsa) THAT YtigakendeghoaaaProg.lean LOADS. Nothing in Lean hashes anything: it is a label: what it is worth is what the hold of that sum in a sandbox is worth. -/
noncomputable def Try.pinned : Pinned := { name := "ytigakendeghoaaa", sum := "be9bcde469339e37e6217151347989c71c9cb8f0f3f59a85db0bf396d5755e57", checked := Try.checked }
namespace Rows
def none {H : Type} : Left H := { results := [], args := [] }

/-- 'wainscotlaw21.ChartPlaces': WHATEVER THE INPUT: true; the input reads as it did. -/
def chartPlacesSpec : ChangeSpec := { name := "chartPlaces", fn := fun _ => fun
  | [d1, d2, d3] => { results := [.lit (.bool true)], args := [d1, d2, d3] }
  | _ => none }
def chartPlacesRow : OpenClaim := { program := "ytigakendeghoaaa", sum := "be9bcde469339e37e6217151347989c71c9cb8f0f3f59a85db0bf396d5755e57", func := "wainscot/wainscotlaw21.ChartPlaces", spec := "chartPlaces", unfollowed := true, recurses := true, apart := false }
def ChartPlacesSaid : Prop := chartPlacesRow.holds Try.pinned (OpenSpec.ofChange chartPlacesSpec)

/-- ITS FALSE NEIGHBOUR: 'it returns false'. Refute it at one input. -/
def chartPlacesWrong : ChangeSpec := { name := "chartPlaces", fn := fun _ => fun
  | [d1, d2, d3] => { results := [.lit (.bool false)], args := [d1, d2, d3] }
  | _ => none }
def ChartPlacesWrongFalsely : Prop := chartPlacesRow.holds Try.pinned (OpenSpec.ofChange chartPlacesWrong)

/-- 'wainscotlaw21.ChartSees': WHATEVER THE INPUT: true; the input reads as it did. -/
def chartSeesSpec : ChangeSpec := { name := "chartSees", fn := fun _ => fun
  | [d1, d2] => { results := [.lit (.bool true)], args := [d1, d2] }
  | _ => none }
def chartSeesRow : OpenClaim := { program := "ytigakendeghoaaa", sum := "be9bcde469339e37e6217151347989c71c9cb8f0f3f59a85db0bf396d5755e57", func := "wainscot/wainscotlaw21.ChartSees", spec := "chartSees", unfollowed := true, recurses := true, apart := false }
def ChartSeesSaid : Prop := chartSeesRow.holds Try.pinned (OpenSpec.ofChange chartSeesSpec)

/-- ITS FALSE NEIGHBOUR: 'it returns false'. Refute it at one input. -/
def chartSeesWrong : ChangeSpec := { name := "chartSees", fn := fun _ => fun
  | [d1, d2] => { results := [.lit (.bool false)], args := [d1, d2] }
  | _ => none }
def ChartSeesWrongFalsely : Prop := chartSeesRow.holds Try.pinned (OpenSpec.ofChange chartSeesWrong)

/-- 'wainscotlaw21.ChartApart': WHATEVER THE INPUT: true; the input reads as it did. -/
def chartApartSpec : ChangeSpec := { name := "chartApart", fn := fun _ => fun
  | [d] => { results := [.lit (.bool true)], args := [d] }
  | _ => none }
def chartApartRow : OpenClaim := { program := "ytigakendeghoaaa", sum := "be9bcde469339e37e6217151347989c71c9cb8f0f3f59a85db0bf396d5755e57", func := "wainscot/wainscotlaw21.ChartApart", spec := "chartApart", unfollowed := true, recurses := true, apart := false }
def ChartApartSaid : Prop := chartApartRow.holds Try.pinned (OpenSpec.ofChange chartApartSpec)

/-- ITS FALSE NEIGHBOUR: 'it returns false'. Refute it at one input. -/
def chartApartWrong : ChangeSpec := { name := "chartApart", fn := fun _ => fun
  | [d] => { results := [.lit (.bool false)], args := [d] }
  | _ => none }
def ChartApartWrongFalsely : Prop := chartApartRow.holds Try.pinned (OpenSpec.ofChange chartApartWrong)

/-- 'wainscotlaw21.ChartBlind': WHATEVER THE INPUT: true; the input reads as it did. -/
def chartBlindSpec : ChangeSpec := { name := "chartBlind", fn := fun _ => fun
  | [d1, d2, d3] => { results := [.lit (.bool true)], args := [d1, d2, d3] }
  | _ => none }
def chartBlindRow : OpenClaim := { program := "ytigakendeghoaaa", sum := "be9bcde469339e37e6217151347989c71c9cb8f0f3f59a85db0bf396d5755e57", func := "wainscot/wainscotlaw21.ChartBlind", spec := "chartBlind", unfollowed := true, recurses := true, apart := false }
def ChartBlindSaid : Prop := chartBlindRow.holds Try.pinned (OpenSpec.ofChange chartBlindSpec)

/-- ITS FALSE NEIGHBOUR: 'it returns false'. Refute it at one input. -/
def chartBlindWrong : ChangeSpec := { name := "chartBlind", fn := fun _ => fun
  | [d1, d2, d3] => { results := [.lit (.bool false)], args := [d1, d2, d3] }
  | _ => none }
def ChartBlindWrongFalsely : Prop := chartBlindRow.holds Try.pinned (OpenSpec.ofChange chartBlindWrong)

/-- 'wainscotlaw21.ChartNames': WHATEVER THE INPUT: true; the input reads as it did. -/
def chartNamesSpec : ChangeSpec := { name := "chartNames", fn := fun _ => fun
  | [] => { results := [.lit (.bool true)], args := [] }
  | _ => none }
def chartNamesRow : OpenClaim := { program := "ytigakendeghoaaa", sum := "be9bcde469339e37e6217151347989c71c9cb8f0f3f59a85db0bf396d5755e57", func := "wainscot/wainscotlaw21.ChartNames", spec := "chartNames", unfollowed := true, recurses := true, apart := false }
def ChartNamesSaid : Prop := chartNamesRow.holds Try.pinned (OpenSpec.ofChange chartNamesSpec)

/-- ITS FALSE NEIGHBOUR: 'it returns false'. Refute it at one input. -/
def chartNamesWrong : ChangeSpec := { name := "chartNames", fn := fun _ => fun
  | [] => { results := [.lit (.bool false)], args := [] }
  | _ => none }
def ChartNamesWrongFalsely : Prop := chartNamesRow.holds Try.pinned (OpenSpec.ofChange chartNamesWrong)

/-- 'wainscotlaw22.FastAlone': WHATEVER THE INPUT: true; the input reads as it did. -/
def fastAloneSpec : ChangeSpec := { name := "fastAlone", fn := fun _ => fun
  | [d1, d2, d3] => { results := [.lit (.bool true)], args := [d1, d2, d3] }
  | _ => none }
def fastAloneRow : OpenClaim := { program := "ytigakendeghoaaa", sum := "be9bcde469339e37e6217151347989c71c9cb8f0f3f59a85db0bf396d5755e57", func := "wainscot/wainscotlaw22.FastAlone", spec := "fastAlone", unfollowed := true, recurses := true, apart := false }
def FastAloneSaid : Prop := fastAloneRow.holds Try.pinned (OpenSpec.ofChange fastAloneSpec)

/-- ITS FALSE NEIGHBOUR: 'it returns false'. Refute it at one input. -/
def fastAloneWrong : ChangeSpec := { name := "fastAlone", fn := fun _ => fun
  | [d1, d2, d3] => { results := [.lit (.bool false)], args := [d1, d2, d3] }
  | _ => none }
def FastAloneWrongFalsely : Prop := fastAloneRow.holds Try.pinned (OpenSpec.ofChange fastAloneWrong)

/-- 'wainscotlaw22.FastApart': WHATEVER THE INPUT: true; the input reads as it did. -/
def fastApartSpec : ChangeSpec := { name := "fastApart", fn := fun _ => fun
  | [d1, d2, d3] => { results := [.lit (.bool true)], args := [d1, d2, d3] }
  | _ => none }
def fastApartRow : OpenClaim := { program := "ytigakendeghoaaa", sum := "be9bcde469339e37e6217151347989c71c9cb8f0f3f59a85db0bf396d5755e57", func := "wainscot/wainscotlaw22.FastApart", spec := "fastApart", unfollowed := true, recurses := true, apart := false }
def FastApartSaid : Prop := fastApartRow.holds Try.pinned (OpenSpec.ofChange fastApartSpec)

/-- ITS FALSE NEIGHBOUR: 'it returns false'. Refute it at one input. -/
def fastApartWrong : ChangeSpec := { name := "fastApart", fn := fun _ => fun
  | [d1, d2, d3] => { results := [.lit (.bool false)], args := [d1, d2, d3] }
  | _ => none }
def FastApartWrongFalsely : Prop := fastApartRow.holds Try.pinned (OpenSpec.ofChange fastApartWrong)

/-- 'wainscotlaw22.FastNames': WHATEVER THE INPUT: true; the input reads as it did. -/
def fastNamesSpec : ChangeSpec := { name := "fastNames", fn := fun _ => fun
  | [] => { results := [.lit (.bool true)], args := [] }
  | _ => none }
def fastNamesRow : OpenClaim := { program := "ytigakendeghoaaa", sum := "be9bcde469339e37e6217151347989c71c9cb8f0f3f59a85db0bf396d5755e57", func := "wainscot/wainscotlaw22.FastNames", spec := "fastNames", unfollowed := true, recurses := true, apart := false }
def FastNamesSaid : Prop := fastNamesRow.holds Try.pinned (OpenSpec.ofChange fastNamesSpec)

/-- ITS FALSE NEIGHBOUR: 'it returns false'. Refute it at one input. -/
def fastNamesWrong : ChangeSpec := { name := "fastNames", fn := fun _ => fun
  | [] => { results := [.lit (.bool false)], args := [] }
  | _ => none }
def FastNamesWrongFalsely : Prop := fastNamesRow.holds Try.pinned (OpenSpec.ofChange fastNamesWrong)

/- THE SECOND FORM. 'bulk': how many values and letters a reading holds, each counted each time it is reached (what is shared counts as often as it is met; a slice's spare places count too). A statement '..UptoSaid' is the law's where the arguments, and the package variables that the reading takes, are together of bulk at most 1048576: NARROWER than '..Said'. Prove '..Said' where nothing that the law and all that it calls make is longer than what came in: it says more and counts as full. Else prove '..UptoSaid'. A law counts once. -/
mutual
def uptoBulk {H : Type} : DataW H → Nat
  | .lit (.string bytes) => bytes.length + 1
  | .lit _ => 1
  | .nil => 1
  | .ptr d => uptoBulk d + 1
  | .slice elems spare => uptoBulkAll elems + uptoBulkAll spare + 1
  | .agg parts => uptoBulkAll parts + 1
  | .iface _ d => uptoBulk d + 1
  | .map entries => uptoBulkEntries entries + 1
  | .held _ => 1
def uptoBulkAll {H : Type} : List (DataW H) → Nat
  | [] => 0
  | d :: r => uptoBulk d + uptoBulkAll r
def uptoBulkEntries {H : Type} : List (Lit × DataW H) → Nat
  | [] => 0
  | x :: r => uptoBulkEntry x + uptoBulkEntries r
def uptoBulkEntry {H : Type} : Lit × DataW H → Nat
  | (.string bytes, d) => bytes.length + uptoBulk d + 1
  | (_, d) => uptoBulk d + 1
 end
def uptoSmall : (H : Type) → List (DataW H) → Bool := fun _ ds => decide (uptoBulkAll ds ≤ 1048576)
def OpenSpec.upto (s : _root_.Go.ChangeSpec) : _root_.Go.OpenSpec := { _root_.Go.OpenSpec.ofChange s with cond := some uptoSmall }

/-- 'wainscotlaw21.ChartPlaces', WHERE WHAT IT READS IS OF BULK AT MOST 1048576: true; the input reads as it did. -/
def chartPlacesUptoRow : OpenClaim := { program := "ytigakendeghoaaa", sum := "be9bcde469339e37e6217151347989c71c9cb8f0f3f59a85db0bf396d5755e57", func := "wainscot/wainscotlaw21.ChartPlaces", spec := "chartPlaces", unfollowed := true, recurses := true, apart := false, narrowed := true }
def ChartPlacesUptoSaid : Prop := chartPlacesUptoRow.holds Try.pinned (OpenSpec.upto chartPlacesSpec)

/-- 'wainscotlaw21.ChartSees', WHERE WHAT IT READS IS OF BULK AT MOST 1048576: true; the input reads as it did. -/
def chartSeesUptoRow : OpenClaim := { program := "ytigakendeghoaaa", sum := "be9bcde469339e37e6217151347989c71c9cb8f0f3f59a85db0bf396d5755e57", func := "wainscot/wainscotlaw21.ChartSees", spec := "chartSees", unfollowed := true, recurses := true, apart := false, narrowed := true }
def ChartSeesUptoSaid : Prop := chartSeesUptoRow.holds Try.pinned (OpenSpec.upto chartSeesSpec)

/-- 'wainscotlaw21.ChartApart', WHERE WHAT IT READS IS OF BULK AT MOST 1048576: true; the input reads as it did. -/
def chartApartUptoRow : OpenClaim := { program := "ytigakendeghoaaa", sum := "be9bcde469339e37e6217151347989c71c9cb8f0f3f59a85db0bf396d5755e57", func := "wainscot/wainscotlaw21.ChartApart", spec := "chartApart", unfollowed := true, recurses := true, apart := false, narrowed := true }
def ChartApartUptoSaid : Prop := chartApartUptoRow.holds Try.pinned (OpenSpec.upto chartApartSpec)

/-- 'wainscotlaw21.ChartBlind', WHERE WHAT IT READS IS OF BULK AT MOST 1048576: true; the input reads as it did. -/
def chartBlindUptoRow : OpenClaim := { program := "ytigakendeghoaaa", sum := "be9bcde469339e37e6217151347989c71c9cb8f0f3f59a85db0bf396d5755e57", func := "wainscot/wainscotlaw21.ChartBlind", spec := "chartBlind", unfollowed := true, recurses := true, apart := false, narrowed := true }
def ChartBlindUptoSaid : Prop := chartBlindUptoRow.holds Try.pinned (OpenSpec.upto chartBlindSpec)

/-- 'wainscotlaw21.ChartNames', WHERE WHAT IT READS IS OF BULK AT MOST 1048576: true; the input reads as it did. -/
def chartNamesUptoRow : OpenClaim := { program := "ytigakendeghoaaa", sum := "be9bcde469339e37e6217151347989c71c9cb8f0f3f59a85db0bf396d5755e57", func := "wainscot/wainscotlaw21.ChartNames", spec := "chartNames", unfollowed := true, recurses := true, apart := false, narrowed := true }
def ChartNamesUptoSaid : Prop := chartNamesUptoRow.holds Try.pinned (OpenSpec.upto chartNamesSpec)

/-- 'wainscotlaw22.FastAlone', WHERE WHAT IT READS IS OF BULK AT MOST 1048576: true; the input reads as it did. -/
def fastAloneUptoRow : OpenClaim := { program := "ytigakendeghoaaa", sum := "be9bcde469339e37e6217151347989c71c9cb8f0f3f59a85db0bf396d5755e57", func := "wainscot/wainscotlaw22.FastAlone", spec := "fastAlone", unfollowed := true, recurses := true, apart := false, narrowed := true }
def FastAloneUptoSaid : Prop := fastAloneUptoRow.holds Try.pinned (OpenSpec.upto fastAloneSpec)

/-- 'wainscotlaw22.FastApart', WHERE WHAT IT READS IS OF BULK AT MOST 1048576: true; the input reads as it did. -/
def fastApartUptoRow : OpenClaim := { program := "ytigakendeghoaaa", sum := "be9bcde469339e37e6217151347989c71c9cb8f0f3f59a85db0bf396d5755e57", func := "wainscot/wainscotlaw22.FastApart", spec := "fastApart", unfollowed := true, recurses := true, apart := false, narrowed := true }
def FastApartUptoSaid : Prop := fastApartUptoRow.holds Try.pinned (OpenSpec.upto fastApartSpec)

/-- 'wainscotlaw22.FastNames', WHERE WHAT IT READS IS OF BULK AT MOST 1048576: true; the input reads as it did. -/
def fastNamesUptoRow : OpenClaim := { program := "ytigakendeghoaaa", sum := "be9bcde469339e37e6217151347989c71c9cb8f0f3f59a85db0bf396d5755e57", func := "wainscot/wainscotlaw22.FastNames", spec := "fastNames", unfollowed := true, recurses := true, apart := false, narrowed := true }
def FastNamesUptoSaid : Prop := fastNamesUptoRow.holds Try.pinned (OpenSpec.upto fastNamesSpec)

end Rows
end Go.Proofs.Ytigakendeghoaaa
