/-
  No cell of these rows narrows 'for every input' (looked for: loops, veiled, ifaces, maps, wideKeys, modest, calm, conditions, laid).
  DERIVED. THE GIVEN ROWS OF THIS SEAT. 5 by the template 'for every input the law returns true; each argument reads behind the call as it read before'; 0 by the template 'total and deterministic' (their statements: YtckkccnebjacdaaGreatTotals.lean).
  GIVEN WITH THE SEED: the statements are not yours to turn. If you find one false, say at which input.
  Laid BY PROGRAM, IN A SANDBOX (cutbox-rows.mjs): the forced cells as the released guide's own fill.sh prints them over the translation b1f26075a672d679… (all of the seat's roots in one cut). By AI agents, Wed Nov 11 2026. No macro, syntax, notation, axiom, sorry.
-/
import Derived.Test.YtckkccnebjacdaaGreatChecked
import GoSem.Claim
import GoSem.ClaimJoined
import GoSem.ClaimMapViews
import Derived.JoinedTies
import Derived.KernelRfl
namespace Go.Proofs.YtckkccnebjacdaaGreat
/- THE CELL 'sum', in the pinned program and in every row, IS THE sha256 OF THE DUMP (.gsa) THAT YtckkccnebjacdaaGreatProg.lean LOADS. Nothing in Lean hashes anything: it is a label: what it is worth is what the hold of that sum in a sandbox is worth. -/
noncomputable def Tryz.pinned : Pinned := { name := "ytckkccnebjacdaagreat", sum := "b1f26075a672d679fd19897b160e3628f3eab86d2822df5fd600acf11ea3da29", checked := Tryz.checked }
namespace Rows
def none {H : Type} : Left H := { results := [], args := [] }

/-- 'ferrymanlaw18.UndoBack': WHATEVER THE INPUT: true; the input reads as it did. -/
def undoBackSpec : ChangeSpec := { name := "undoBack", fn := fun _ => fun
  | [d1, d2] => { results := [.lit (.bool true)], args := [d1, d2] }
  | _ => none }
def undoBackRow : OpenClaim := { program := "ytckkccnebjacdaagreat", sum := "b1f26075a672d679fd19897b160e3628f3eab86d2822df5fd600acf11ea3da29", func := "ferryman/ferrymanlaw18.UndoBack", spec := "undoBack", unfollowed := true, recurses := true, plainKeys := false, apart := false }
def UndoBackSaid : Prop := undoBackRow.holds Tryz.pinned (OpenSpec.ofChange undoBackSpec)

/-- ITS FALSE NEIGHBOUR: 'it returns false'. Refute it at one input. -/
def undoBackWrong : ChangeSpec := { name := "undoBack", fn := fun _ => fun
  | [d1, d2] => { results := [.lit (.bool false)], args := [d1, d2] }
  | _ => none }
def UndoBackWrongFalsely : Prop := undoBackRow.holds Tryz.pinned (OpenSpec.ofChange undoBackWrong)

/-- 'ferrymanlaw18.UndoSegments': WHATEVER THE INPUT: true; the input reads as it did. -/
def undoSegmentsSpec : ChangeSpec := { name := "undoSegments", fn := fun _ => fun
  | [d1, d2] => { results := [.lit (.bool true)], args := [d1, d2] }
  | _ => none }
def undoSegmentsRow : OpenClaim := { program := "ytckkccnebjacdaagreat", sum := "b1f26075a672d679fd19897b160e3628f3eab86d2822df5fd600acf11ea3da29", func := "ferryman/ferrymanlaw18.UndoSegments", spec := "undoSegments", unfollowed := true, recurses := true, plainKeys := false, apart := false }
def UndoSegmentsSaid : Prop := undoSegmentsRow.holds Tryz.pinned (OpenSpec.ofChange undoSegmentsSpec)

/-- ITS FALSE NEIGHBOUR: 'it returns false'. Refute it at one input. -/
def undoSegmentsWrong : ChangeSpec := { name := "undoSegments", fn := fun _ => fun
  | [d1, d2] => { results := [.lit (.bool false)], args := [d1, d2] }
  | _ => none }
def UndoSegmentsWrongFalsely : Prop := undoSegmentsRow.holds Tryz.pinned (OpenSpec.ofChange undoSegmentsWrong)

/-- 'ferrymanlaw18.UndoNames': WHATEVER THE INPUT: true; the input reads as it did. -/
def undoNamesSpec : ChangeSpec := { name := "undoNames", fn := fun _ => fun
  | [] => { results := [.lit (.bool true)], args := [] }
  | _ => none }
def undoNamesRow : OpenClaim := { program := "ytckkccnebjacdaagreat", sum := "b1f26075a672d679fd19897b160e3628f3eab86d2822df5fd600acf11ea3da29", func := "ferryman/ferrymanlaw18.UndoNames", spec := "undoNames", inPlace := ["maps.clone"], unfollowed := true, recurses := true, plainKeys := false, apart := false }
def UndoNamesSaid : Prop := undoNamesRow.holds Tryz.pinned (OpenSpec.ofChange undoNamesSpec)

/-- ITS FALSE NEIGHBOUR: 'it returns false'. Refute it at one input. -/
def undoNamesWrong : ChangeSpec := { name := "undoNames", fn := fun _ => fun
  | [] => { results := [.lit (.bool false)], args := [] }
  | _ => none }
def UndoNamesWrongFalsely : Prop := undoNamesRow.holds Tryz.pinned (OpenSpec.ofChange undoNamesWrong)

/-- 'ferrymanlaw18.UndoPlays': WHATEVER THE INPUT: true; the input reads as it did. -/
def undoPlaysSpec : ChangeSpec := { name := "undoPlays", fn := fun _ => fun
  | [d1, d2] => { results := [.lit (.bool true)], args := [d1, d2] }
  | _ => none }
def undoPlaysRow : OpenClaim := { program := "ytckkccnebjacdaagreat", sum := "b1f26075a672d679fd19897b160e3628f3eab86d2822df5fd600acf11ea3da29", func := "ferryman/ferrymanlaw18.UndoPlays", spec := "undoPlays", inPlace := ["maps.clone"], unfollowed := true, recurses := true, plainKeys := false, apart := false }
def UndoPlaysSaid : Prop := undoPlaysRow.holds Tryz.pinned (OpenSpec.ofChange undoPlaysSpec)

/-- ITS FALSE NEIGHBOUR: 'it returns false'. Refute it at one input. -/
def undoPlaysWrong : ChangeSpec := { name := "undoPlays", fn := fun _ => fun
  | [d1, d2] => { results := [.lit (.bool false)], args := [d1, d2] }
  | _ => none }
def UndoPlaysWrongFalsely : Prop := undoPlaysRow.holds Tryz.pinned (OpenSpec.ofChange undoPlaysWrong)

/-- 'ferrymanlaw18.UndoCopies': WHATEVER THE INPUT: true; the input reads as it did. -/
def undoCopiesSpec : ChangeSpec := { name := "undoCopies", fn := fun _ => fun
  | [d1, d2, d3] => { results := [.lit (.bool true)], args := [d1, d2, d3] }
  | _ => none }
def undoCopiesRow : OpenClaim := { program := "ytckkccnebjacdaagreat", sum := "b1f26075a672d679fd19897b160e3628f3eab86d2822df5fd600acf11ea3da29", func := "ferryman/ferrymanlaw18.UndoCopies", spec := "undoCopies", inPlace := ["maps.clone"], unfollowed := true, recurses := true, plainKeys := false, apart := false }
def UndoCopiesSaid : Prop := undoCopiesRow.holds Tryz.pinned (OpenSpec.ofChange undoCopiesSpec)

/-- ITS FALSE NEIGHBOUR: 'it returns false'. Refute it at one input. -/
def undoCopiesWrong : ChangeSpec := { name := "undoCopies", fn := fun _ => fun
  | [d1, d2, d3] => { results := [.lit (.bool false)], args := [d1, d2, d3] }
  | _ => none }
def UndoCopiesWrongFalsely : Prop := undoCopiesRow.holds Tryz.pinned (OpenSpec.ofChange undoCopiesWrong)

/- THE SECOND FORM. 'bulk': how many values and letters a reading holds, each counted each time it is reached (what is shared counts as often as it is met; a slice's spare places count too). A statement '..UptoSaid' is the law's where the arguments, and the package variables that the reading takes, are together of bulk at most 1048576: NARROWER than '..Said'. Prove '..Said' where nothing that the law and all that it calls make is longer than what came in: it says more and counts as full. Else prove '..UptoSaid'. A law counts once. -/
mutual
def uptoBulk {H : Type} : DataW H → Nat
  | .lit (.string bytes) => bytes.length + 1
  | .lit _ => 1
  | .nil => 1
  | .ptr d => uptoBulk d + 1
  | .slice elems spare => uptoBulkAll elems + uptoBulkAll spare + 1
  | .agg parts => uptoBulkAll parts + 1
  | .iface _ d => uptoBulk d + 1
  | .map entries => uptoBulkEntries entries + 1
  | .held _ => 1
def uptoBulkAll {H : Type} : List (DataW H) → Nat
  | [] => 0
  | d :: r => uptoBulk d + uptoBulkAll r
def uptoBulkEntries {H : Type} : List (Lit × DataW H) → Nat
  | [] => 0
  | x :: r => uptoBulkEntry x + uptoBulkEntries r
def uptoBulkEntry {H : Type} : Lit × DataW H → Nat
  | (.string bytes, d) => bytes.length + uptoBulk d + 1
  | (_, d) => uptoBulk d + 1
 end
def uptoSmall : (H : Type) → List (DataW H) → Bool := fun _ ds => decide (uptoBulkAll ds ≤ 1048576)
def OpenSpec.upto (s : _root_.Go.ChangeSpec) : _root_.Go.OpenSpec := { _root_.Go.OpenSpec.ofChange s with cond := some uptoSmall }

/-- 'ferrymanlaw18.UndoBack', WHERE WHAT IT READS IS OF BULK AT MOST 1048576: true; the input reads as it did. -/
def undoBackUptoRow : OpenClaim := { program := "ytckkccnebjacdaagreat", sum := "b1f26075a672d679fd19897b160e3628f3eab86d2822df5fd600acf11ea3da29", func := "ferryman/ferrymanlaw18.UndoBack", spec := "undoBack", unfollowed := true, recurses := true, plainKeys := false, apart := false, narrowed := true }
def UndoBackUptoSaid : Prop := undoBackUptoRow.holds Tryz.pinned (OpenSpec.upto undoBackSpec)

/-- 'ferrymanlaw18.UndoSegments', WHERE WHAT IT READS IS OF BULK AT MOST 1048576: true; the input reads as it did. -/
def undoSegmentsUptoRow : OpenClaim := { program := "ytckkccnebjacdaagreat", sum := "b1f26075a672d679fd19897b160e3628f3eab86d2822df5fd600acf11ea3da29", func := "ferryman/ferrymanlaw18.UndoSegments", spec := "undoSegments", unfollowed := true, recurses := true, plainKeys := false, apart := false, narrowed := true }
def UndoSegmentsUptoSaid : Prop := undoSegmentsUptoRow.holds Tryz.pinned (OpenSpec.upto undoSegmentsSpec)

/-- 'ferrymanlaw18.UndoNames', WHERE WHAT IT READS IS OF BULK AT MOST 1048576: true; the input reads as it did. -/
def undoNamesUptoRow : OpenClaim := { program := "ytckkccnebjacdaagreat", sum := "b1f26075a672d679fd19897b160e3628f3eab86d2822df5fd600acf11ea3da29", func := "ferryman/ferrymanlaw18.UndoNames", spec := "undoNames", inPlace := ["maps.clone"], unfollowed := true, recurses := true, plainKeys := false, apart := false, narrowed := true }
def UndoNamesUptoSaid : Prop := undoNamesUptoRow.holds Tryz.pinned (OpenSpec.upto undoNamesSpec)

/-- 'ferrymanlaw18.UndoPlays', WHERE WHAT IT READS IS OF BULK AT MOST 1048576: true; the input reads as it did. -/
def undoPlaysUptoRow : OpenClaim := { program := "ytckkccnebjacdaagreat", sum := "b1f26075a672d679fd19897b160e3628f3eab86d2822df5fd600acf11ea3da29", func := "ferryman/ferrymanlaw18.UndoPlays", spec := "undoPlays", inPlace := ["maps.clone"], unfollowed := true, recurses := true, plainKeys := false, apart := false, narrowed := true }
def UndoPlaysUptoSaid : Prop := undoPlaysUptoRow.holds Tryz.pinned (OpenSpec.upto undoPlaysSpec)

/-- 'ferrymanlaw18.UndoCopies', WHERE WHAT IT READS IS OF BULK AT MOST 1048576: true; the input reads as it did. -/
def undoCopiesUptoRow : OpenClaim := { program := "ytckkccnebjacdaagreat", sum := "b1f26075a672d679fd19897b160e3628f3eab86d2822df5fd600acf11ea3da29", func := "ferryman/ferrymanlaw18.UndoCopies", spec := "undoCopies", inPlace := ["maps.clone"], unfollowed := true, recurses := true, plainKeys := false, apart := false, narrowed := true }
def UndoCopiesUptoSaid : Prop := undoCopiesUptoRow.holds Tryz.pinned (OpenSpec.upto undoCopiesSpec)

end Rows
end Go.Proofs.YtckkccnebjacdaaGreat
