/-
  No cell of these rows narrows 'for every input' (looked for: loops, veiled, ifaces, maps, wideKeys, modest, calm, conditions, laid).
  DERIVED. THE GIVEN ROWS OF THIS SEAT. 6 by the template 'for every input the law returns true; each argument reads behind the call as it read before'; 0 by the template 'total and deterministic' (their statements: YtkfnfflonjfglaaTotals.lean).
  GIVEN WITH THE SEED: the statements are not yours to turn. If you find one false, say at which input.
  Laid BY PROGRAM, IN A SANDBOX (cutbox-rows.mjs): the forced cells as the released guide's own fill.sh prints them over the translation 31141f783824bc65… (all of the seat's roots in one cut). By AI agents, Wed Nov 11 2026. No macro, syntax, notation, axiom, sorry.
-/
import Derived.Test.YtkfnfflonjfglaaChecked
import GoSem.Claim
import GoSem.ClaimJoined
import GoSem.ClaimMapViews
import Derived.JoinedTies
import Derived.KernelRfl
namespace Go.Proofs.Ytkfnfflonjfglaa
/- THE CELL 'sum', in the pinned program and in every row, IS THE sha256 OF THE DUMP (.gsa) THAT YtkfnfflonjfglaaProg.lean LOADS. Nothing in Lean hashes anything: it is a label: what it is worth is what the hold of that sum in a sandbox is worth. -/
noncomputable def Try.pinned : Pinned := { name := "ytkfnfflonjfglaa", sum := "31141f783824bc657944694cb17b39088c29bbf5a6910a92d189840b81eb9375", checked := Try.checked }
namespace Rows
def none {H : Type} : Left H := { results := [], args := [] }

/-- 'ferrymanlaw10.DeadSum': WHATEVER THE INPUT: true; the input reads as it did. -/
def deadSumSpec : ChangeSpec := { name := "deadSum", fn := fun _ => fun
  | [d] => { results := [.lit (.bool true)], args := [d] }
  | _ => none }
def deadSumRow : OpenClaim := { program := "ytkfnfflonjfglaa", sum := "31141f783824bc657944694cb17b39088c29bbf5a6910a92d189840b81eb9375", func := "ferryman/ferrymanlaw10.DeadSum", spec := "deadSum", unfollowed := true, recurses := true, apart := false }
def DeadSumSaid : Prop := deadSumRow.holds Try.pinned (OpenSpec.ofChange deadSumSpec)

/-- ITS FALSE NEIGHBOUR: 'it returns false'. Refute it at one input. -/
def deadSumWrong : ChangeSpec := { name := "deadSum", fn := fun _ => fun
  | [d] => { results := [.lit (.bool false)], args := [d] }
  | _ => none }
def DeadSumWrongFalsely : Prop := deadSumRow.holds Try.pinned (OpenSpec.ofChange deadSumWrong)

/-- 'ferrymanlaw10.DeadRows': WHATEVER THE INPUT: true; the input reads as it did. -/
def deadRowsSpec : ChangeSpec := { name := "deadRows", fn := fun _ => fun
  | [d1, d2, d3] => { results := [.lit (.bool true)], args := [d1, d2, d3] }
  | _ => none }
def deadRowsRow : OpenClaim := { program := "ytkfnfflonjfglaa", sum := "31141f783824bc657944694cb17b39088c29bbf5a6910a92d189840b81eb9375", func := "ferryman/ferrymanlaw10.DeadRows", spec := "deadRows", unfollowed := true, recurses := true, apart := false }
def DeadRowsSaid : Prop := deadRowsRow.holds Try.pinned (OpenSpec.ofChange deadRowsSpec)

/-- ITS FALSE NEIGHBOUR: 'it returns false'. Refute it at one input. -/
def deadRowsWrong : ChangeSpec := { name := "deadRows", fn := fun _ => fun
  | [d1, d2, d3] => { results := [.lit (.bool false)], args := [d1, d2, d3] }
  | _ => none }
def DeadRowsWrongFalsely : Prop := deadRowsRow.holds Try.pinned (OpenSpec.ofChange deadRowsWrong)

/-- 'ferrymanlaw10.DeadNames': WHATEVER THE INPUT: true; the input reads as it did. -/
def deadNamesSpec : ChangeSpec := { name := "deadNames", fn := fun _ => fun
  | [] => { results := [.lit (.bool true)], args := [] }
  | _ => none }
def deadNamesRow : OpenClaim := { program := "ytkfnfflonjfglaa", sum := "31141f783824bc657944694cb17b39088c29bbf5a6910a92d189840b81eb9375", func := "ferryman/ferrymanlaw10.DeadNames", spec := "deadNames", inPlace := ["maps.clone"], unfollowed := true, recurses := true, apart := false }
def DeadNamesSaid : Prop := deadNamesRow.holds Try.pinned (OpenSpec.ofChange deadNamesSpec)

/-- ITS FALSE NEIGHBOUR: 'it returns false'. Refute it at one input. -/
def deadNamesWrong : ChangeSpec := { name := "deadNames", fn := fun _ => fun
  | [] => { results := [.lit (.bool false)], args := [] }
  | _ => none }
def DeadNamesWrongFalsely : Prop := deadNamesRow.holds Try.pinned (OpenSpec.ofChange deadNamesWrong)

/-- 'ferrymanlaw10.DeadPlays': WHATEVER THE INPUT: true; the input reads as it did. -/
def deadPlaysSpec : ChangeSpec := { name := "deadPlays", fn := fun _ => fun
  | [d] => { results := [.lit (.bool true)], args := [d] }
  | _ => none }
def deadPlaysRow : OpenClaim := { program := "ytkfnfflonjfglaa", sum := "31141f783824bc657944694cb17b39088c29bbf5a6910a92d189840b81eb9375", func := "ferryman/ferrymanlaw10.DeadPlays", spec := "deadPlays", inPlace := ["maps.clone"], unfollowed := true, recurses := true, apart := false }
def DeadPlaysSaid : Prop := deadPlaysRow.holds Try.pinned (OpenSpec.ofChange deadPlaysSpec)

/-- ITS FALSE NEIGHBOUR: 'it returns false'. Refute it at one input. -/
def deadPlaysWrong : ChangeSpec := { name := "deadPlays", fn := fun _ => fun
  | [d] => { results := [.lit (.bool false)], args := [d] }
  | _ => none }
def DeadPlaysWrongFalsely : Prop := deadPlaysRow.holds Try.pinned (OpenSpec.ofChange deadPlaysWrong)

/-- 'ferrymanlaw10.DeadPasses': WHATEVER THE INPUT: true; the input reads as it did. -/
def deadPassesSpec : ChangeSpec := { name := "deadPasses", fn := fun _ => fun
  | [d1, d2, d3] => { results := [.lit (.bool true)], args := [d1, d2, d3] }
  | _ => none }
def deadPassesRow : OpenClaim := { program := "ytkfnfflonjfglaa", sum := "31141f783824bc657944694cb17b39088c29bbf5a6910a92d189840b81eb9375", func := "ferryman/ferrymanlaw10.DeadPasses", spec := "deadPasses", inPlace := ["maps.clone"], unfollowed := true, recurses := true, apart := false }
def DeadPassesSaid : Prop := deadPassesRow.holds Try.pinned (OpenSpec.ofChange deadPassesSpec)

/-- ITS FALSE NEIGHBOUR: 'it returns false'. Refute it at one input. -/
def deadPassesWrong : ChangeSpec := { name := "deadPasses", fn := fun _ => fun
  | [d1, d2, d3] => { results := [.lit (.bool false)], args := [d1, d2, d3] }
  | _ => none }
def DeadPassesWrongFalsely : Prop := deadPassesRow.holds Try.pinned (OpenSpec.ofChange deadPassesWrong)

/-- 'ferrymanlaw10.DeadApart': WHATEVER THE INPUT: true; the input reads as it did. -/
def deadApartSpec : ChangeSpec := { name := "deadApart", fn := fun _ => fun
  | [d1, d2] => { results := [.lit (.bool true)], args := [d1, d2] }
  | _ => none }
def deadApartRow : OpenClaim := { program := "ytkfnfflonjfglaa", sum := "31141f783824bc657944694cb17b39088c29bbf5a6910a92d189840b81eb9375", func := "ferryman/ferrymanlaw10.DeadApart", spec := "deadApart", inPlace := ["maps.clone"], unfollowed := true, recurses := true, apart := false }
def DeadApartSaid : Prop := deadApartRow.holds Try.pinned (OpenSpec.ofChange deadApartSpec)

/-- ITS FALSE NEIGHBOUR: 'it returns false'. Refute it at one input. -/
def deadApartWrong : ChangeSpec := { name := "deadApart", fn := fun _ => fun
  | [d1, d2] => { results := [.lit (.bool false)], args := [d1, d2] }
  | _ => none }
def DeadApartWrongFalsely : Prop := deadApartRow.holds Try.pinned (OpenSpec.ofChange deadApartWrong)

/- THE SECOND FORM. 'bulk': how many values and letters a reading holds, each counted each time it is reached (what is shared counts as often as it is met; a slice's spare places count too). A statement '..UptoSaid' is the law's where the arguments, and the package variables that the reading takes, are together of bulk at most 1048576: NARROWER than '..Said'. Prove '..Said' where nothing that the law and all that it calls make is longer than what came in: it says more and counts as full. Else prove '..UptoSaid'. A law counts once. -/
mutual
def uptoBulk {H : Type} : DataW H → Nat
  | .lit (.string bytes) => bytes.length + 1
  | .lit _ => 1
  | .nil => 1
  | .ptr d => uptoBulk d + 1
  | .slice elems spare => uptoBulkAll elems + uptoBulkAll spare + 1
  | .agg parts => uptoBulkAll parts + 1
  | .iface _ d => uptoBulk d + 1
  | .map entries => uptoBulkEntries entries + 1
  | .held _ => 1
def uptoBulkAll {H : Type} : List (DataW H) → Nat
  | [] => 0
  | d :: r => uptoBulk d + uptoBulkAll r
def uptoBulkEntries {H : Type} : List (Lit × DataW H) → Nat
  | [] => 0
  | x :: r => uptoBulkEntry x + uptoBulkEntries r
def uptoBulkEntry {H : Type} : Lit × DataW H → Nat
  | (.string bytes, d) => bytes.length + uptoBulk d + 1
  | (_, d) => uptoBulk d + 1
 end
def uptoSmall : (H : Type) → List (DataW H) → Bool := fun _ ds => decide (uptoBulkAll ds ≤ 1048576)
def OpenSpec.upto (s : _root_.Go.ChangeSpec) : _root_.Go.OpenSpec := { _root_.Go.OpenSpec.ofChange s with cond := some uptoSmall }

/-- 'ferrymanlaw10.DeadSum', WHERE WHAT IT READS IS OF BULK AT MOST 1048576: true; the input reads as it did. -/
def deadSumUptoRow : OpenClaim := { program := "ytkfnfflonjfglaa", sum := "31141f783824bc657944694cb17b39088c29bbf5a6910a92d189840b81eb9375", func := "ferryman/ferrymanlaw10.DeadSum", spec := "deadSum", unfollowed := true, recurses := true, apart := false, narrowed := true }
def DeadSumUptoSaid : Prop := deadSumUptoRow.holds Try.pinned (OpenSpec.upto deadSumSpec)

/-- 'ferrymanlaw10.DeadRows', WHERE WHAT IT READS IS OF BULK AT MOST 1048576: true; the input reads as it did. -/
def deadRowsUptoRow : OpenClaim := { program := "ytkfnfflonjfglaa", sum := "31141f783824bc657944694cb17b39088c29bbf5a6910a92d189840b81eb9375", func := "ferryman/ferrymanlaw10.DeadRows", spec := "deadRows", unfollowed := true, recurses := true, apart := false, narrowed := true }
def DeadRowsUptoSaid : Prop := deadRowsUptoRow.holds Try.pinned (OpenSpec.upto deadRowsSpec)

/-- 'ferrymanlaw10.DeadNames', WHERE WHAT IT READS IS OF BULK AT MOST 1048576: true; the input reads as it did. -/
def deadNamesUptoRow : OpenClaim := { program := "ytkfnfflonjfglaa", sum := "31141f783824bc657944694cb17b39088c29bbf5a6910a92d189840b81eb9375", func := "ferryman/ferrymanlaw10.DeadNames", spec := "deadNames", inPlace := ["maps.clone"], unfollowed := true, recurses := true, apart := false, narrowed := true }
def DeadNamesUptoSaid : Prop := deadNamesUptoRow.holds Try.pinned (OpenSpec.upto deadNamesSpec)

/-- 'ferrymanlaw10.DeadPlays', WHERE WHAT IT READS IS OF BULK AT MOST 1048576: true; the input reads as it did. -/
def deadPlaysUptoRow : OpenClaim := { program := "ytkfnfflonjfglaa", sum := "31141f783824bc657944694cb17b39088c29bbf5a6910a92d189840b81eb9375", func := "ferryman/ferrymanlaw10.DeadPlays", spec := "deadPlays", inPlace := ["maps.clone"], unfollowed := true, recurses := true, apart := false, narrowed := true }
def DeadPlaysUptoSaid : Prop := deadPlaysUptoRow.holds Try.pinned (OpenSpec.upto deadPlaysSpec)

/-- 'ferrymanlaw10.DeadPasses', WHERE WHAT IT READS IS OF BULK AT MOST 1048576: true; the input reads as it did. -/
def deadPassesUptoRow : OpenClaim := { program := "ytkfnfflonjfglaa", sum := "31141f783824bc657944694cb17b39088c29bbf5a6910a92d189840b81eb9375", func := "ferryman/ferrymanlaw10.DeadPasses", spec := "deadPasses", inPlace := ["maps.clone"], unfollowed := true, recurses := true, apart := false, narrowed := true }
def DeadPassesUptoSaid : Prop := deadPassesUptoRow.holds Try.pinned (OpenSpec.upto deadPassesSpec)

/-- 'ferrymanlaw10.DeadApart', WHERE WHAT IT READS IS OF BULK AT MOST 1048576: true; the input reads as it did. -/
def deadApartUptoRow : OpenClaim := { program := "ytkfnfflonjfglaa", sum := "31141f783824bc657944694cb17b39088c29bbf5a6910a92d189840b81eb9375", func := "ferryman/ferrymanlaw10.DeadApart", spec := "deadApart", inPlace := ["maps.clone"], unfollowed := true, recurses := true, apart := false, narrowed := true }
def DeadApartUptoSaid : Prop := deadApartUptoRow.holds Try.pinned (OpenSpec.upto deadApartSpec)

end Rows
end Go.Proofs.Ytkfnfflonjfglaa
