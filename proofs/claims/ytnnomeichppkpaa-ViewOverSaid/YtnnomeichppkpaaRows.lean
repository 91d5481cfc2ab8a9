/-
  No cell of these rows narrows 'for every input' (looked for: loops, veiled, ifaces, maps, wideKeys, modest, calm, conditions, laid).
  DERIVED. THE GIVEN ROWS OF THIS SEAT. 4 by the template 'for every input the law returns true; each argument reads behind the call as it read before'; 0 by the template 'total and deterministic' (their statements: YtnnomeichppkpaaTotals.lean).
  GIVEN WITH THE SEED: the statements are not yours to turn. If you find one false, say at which input.
  Laid BY PROGRAM, IN A SANDBOX (cutbox-rows.mjs): the forced cells as the released guide's own fill.sh prints them over the translation 52bed3ad5cea37c5… (all of the seat's roots in one cut). By AI agents, Wed Nov 11 2026. No macro, syntax, notation, axiom, sorry.
-/
import Derived.Test.YtnnomeichppkpaaChecked
import GoSem.Claim
import GoSem.ClaimJoined
import GoSem.ClaimMapViews
import Derived.JoinedTies
import Derived.KernelRfl
namespace Go.Proofs.Ytnnomeichppkpaa
/- THE CELL 'sum', in the pinned program and in every row, IS THE sha256 OF THE DUMP (.gsa) THAT YtnnomeichppkpaaProg.lean LOADS. Nothing in Lean hashes anything: it is a label: what it is worth is what the hold of that sum in a sandbox is worth. -/
noncomputable def Try.pinned : Pinned := { name := "ytnnomeichppkpaa", sum := "52bed3ad5cea37c56e70ae60b758d73d747fe685e606b356e07cbccea3c819db", checked := Try.checked }
namespace Rows
def none {H : Type} : Left H := { results := [], args := [] }

/-- 'ferrymanlaw09.ViewOwn': WHATEVER THE INPUT: true; the input reads as it did. -/
def viewOwnSpec : ChangeSpec := { name := "viewOwn", fn := fun _ => fun
  | [d1, d2, d3, d4] => { results := [.lit (.bool true)], args := [d1, d2, d3, d4] }
  | _ => none }
def viewOwnRow : OpenClaim := { program := "ytnnomeichppkpaa", sum := "52bed3ad5cea37c56e70ae60b758d73d747fe685e606b356e07cbccea3c819db", func := "ferryman/ferrymanlaw09.ViewOwn", spec := "viewOwn", unfollowed := true, recurses := true, apart := false }
def ViewOwnSaid : Prop := viewOwnRow.holds Try.pinned (OpenSpec.ofChange viewOwnSpec)

/-- ITS FALSE NEIGHBOUR: 'it returns false'. Refute it at one input. -/
def viewOwnWrong : ChangeSpec := { name := "viewOwn", fn := fun _ => fun
  | [d1, d2, d3, d4] => { results := [.lit (.bool false)], args := [d1, d2, d3, d4] }
  | _ => none }
def ViewOwnWrongFalsely : Prop := viewOwnRow.holds Try.pinned (OpenSpec.ofChange viewOwnWrong)

/-- 'ferrymanlaw09.ViewOver': WHATEVER THE INPUT: true; the input reads as it did. -/
def viewOverSpec : ChangeSpec := { name := "viewOver", fn := fun _ => fun
  | [d] => { results := [.lit (.bool true)], args := [d] }
  | _ => none }
def viewOverRow : OpenClaim := { program := "ytnnomeichppkpaa", sum := "52bed3ad5cea37c56e70ae60b758d73d747fe685e606b356e07cbccea3c819db", func := "ferryman/ferrymanlaw09.ViewOver", spec := "viewOver", unfollowed := true, recurses := true, apart := false }
def ViewOverSaid : Prop := viewOverRow.holds Try.pinned (OpenSpec.ofChange viewOverSpec)

/-- ITS FALSE NEIGHBOUR: 'it returns false'. Refute it at one input. -/
def viewOverWrong : ChangeSpec := { name := "viewOver", fn := fun _ => fun
  | [d] => { results := [.lit (.bool false)], args := [d] }
  | _ => none }
def ViewOverWrongFalsely : Prop := viewOverRow.holds Try.pinned (OpenSpec.ofChange viewOverWrong)

/-- 'ferrymanlaw09.ViewNames': WHATEVER THE INPUT: true; the input reads as it did. -/
def viewNamesSpec : ChangeSpec := { name := "viewNames", fn := fun _ => fun
  | [] => { results := [.lit (.bool true)], args := [] }
  | _ => none }
def viewNamesRow : OpenClaim := { program := "ytnnomeichppkpaa", sum := "52bed3ad5cea37c56e70ae60b758d73d747fe685e606b356e07cbccea3c819db", func := "ferryman/ferrymanlaw09.ViewNames", spec := "viewNames", unfollowed := true, recurses := true, apart := false }
def ViewNamesSaid : Prop := viewNamesRow.holds Try.pinned (OpenSpec.ofChange viewNamesSpec)

/-- ITS FALSE NEIGHBOUR: 'it returns false'. Refute it at one input. -/
def viewNamesWrong : ChangeSpec := { name := "viewNames", fn := fun _ => fun
  | [] => { results := [.lit (.bool false)], args := [] }
  | _ => none }
def ViewNamesWrongFalsely : Prop := viewNamesRow.holds Try.pinned (OpenSpec.ofChange viewNamesWrong)

/-- 'ferrymanlaw09.ViewTells': WHATEVER THE INPUT: true; the input reads as it did. -/
def viewTellsSpec : ChangeSpec := { name := "viewTells", fn := fun _ => fun
  | [d1, d2, d3, d4, d5, d6] => { results := [.lit (.bool true)], args := [d1, d2, d3, d4, d5, d6] }
  | _ => none }
def viewTellsRow : OpenClaim := { program := "ytnnomeichppkpaa", sum := "52bed3ad5cea37c56e70ae60b758d73d747fe685e606b356e07cbccea3c819db", func := "ferryman/ferrymanlaw09.ViewTells", spec := "viewTells", unfollowed := true, recurses := true, apart := false }
def ViewTellsSaid : Prop := viewTellsRow.holds Try.pinned (OpenSpec.ofChange viewTellsSpec)

/-- ITS FALSE NEIGHBOUR: 'it returns false'. Refute it at one input. -/
def viewTellsWrong : ChangeSpec := { name := "viewTells", fn := fun _ => fun
  | [d1, d2, d3, d4, d5, d6] => { results := [.lit (.bool false)], args := [d1, d2, d3, d4, d5, d6] }
  | _ => none }
def ViewTellsWrongFalsely : Prop := viewTellsRow.holds Try.pinned (OpenSpec.ofChange viewTellsWrong)

/- THE SECOND FORM. 'bulk': how many values and letters a reading holds, each counted each time it is reached (what is shared counts as often as it is met; a slice's spare places count too). A statement '..UptoSaid' is the law's where the arguments, and the package variables that the reading takes, are together of bulk at most 1048576: NARROWER than '..Said'. Prove '..Said' where nothing that the law and all that it calls make is longer than what came in: it says more and counts as full. Else prove '..UptoSaid'. A law counts once. -/
mutual
def uptoBulk {H : Type} : DataW H → Nat
  | .lit (.string bytes) => bytes.length + 1
  | .lit _ => 1
  | .nil => 1
  | .ptr d => uptoBulk d + 1
  | .slice elems spare => uptoBulkAll elems + uptoBulkAll spare + 1
  | .agg parts => uptoBulkAll parts + 1
  | .iface _ d => uptoBulk d + 1
  | .map entries => uptoBulkEntries entries + 1
  | .held _ => 1
def uptoBulkAll {H : Type} : List (DataW H) → Nat
  | [] => 0
  | d :: r => uptoBulk d + uptoBulkAll r
def uptoBulkEntries {H : Type} : List (Lit × DataW H) → Nat
  | [] => 0
  | x :: r => uptoBulkEntry x + uptoBulkEntries r
def uptoBulkEntry {H : Type} : Lit × DataW H → Nat
  | (.string bytes, d) => bytes.length + uptoBulk d + 1
  | (_, d) => uptoBulk d + 1
 end
def uptoSmall : (H : Type) → List (DataW H) → Bool := fun _ ds => decide (uptoBulkAll ds ≤ 1048576)
def OpenSpec.upto (s : _root_.Go.ChangeSpec) : _root_.Go.OpenSpec := { _root_.Go.OpenSpec.ofChange s with cond := some uptoSmall }

/-- 'ferrymanlaw09.ViewOwn', WHERE WHAT IT READS IS OF BULK AT MOST 1048576: true; the input reads as it did. -/
def viewOwnUptoRow : OpenClaim := { program := "ytnnomeichppkpaa", sum := "52bed3ad5cea37c56e70ae60b758d73d747fe685e606b356e07cbccea3c819db", func := "ferryman/ferrymanlaw09.ViewOwn", spec := "viewOwn", unfollowed := true, recurses := true, apart := false, narrowed := true }
def ViewOwnUptoSaid : Prop := viewOwnUptoRow.holds Try.pinned (OpenSpec.upto viewOwnSpec)

/-- 'ferrymanlaw09.ViewOver', WHERE WHAT IT READS IS OF BULK AT MOST 1048576: true; the input reads as it did. -/
def viewOverUptoRow : OpenClaim := { program := "ytnnomeichppkpaa", sum := "52bed3ad5cea37c56e70ae60b758d73d747fe685e606b356e07cbccea3c819db", func := "ferryman/ferrymanlaw09.ViewOver", spec := "viewOver", unfollowed := true, recurses := true, apart := false, narrowed := true }
def ViewOverUptoSaid : Prop := viewOverUptoRow.holds Try.pinned (OpenSpec.upto viewOverSpec)

/-- 'ferrymanlaw09.ViewNames', WHERE WHAT IT READS IS OF BULK AT MOST 1048576: true; the input reads as it did. -/
def viewNamesUptoRow : OpenClaim := { program := "ytnnomeichppkpaa", sum := "52bed3ad5cea37c56e70ae60b758d73d747fe685e606b356e07cbccea3c819db", func := "ferryman/ferrymanlaw09.ViewNames", spec := "viewNames", unfollowed := true, recurses := true, apart := false, narrowed := true }
def ViewNamesUptoSaid : Prop := viewNamesUptoRow.holds Try.pinned (OpenSpec.upto viewNamesSpec)

/-- 'ferrymanlaw09.ViewTells', WHERE WHAT IT READS IS OF BULK AT MOST 1048576: true; the input reads as it did. -/
def viewTellsUptoRow : OpenClaim := { program := "ytnnomeichppkpaa", sum := "52bed3ad5cea37c56e70ae60b758d73d747fe685e606b356e07cbccea3c819db", func := "ferryman/ferrymanlaw09.ViewTells", spec := "viewTells", unfollowed := true, recurses := true, apart := false, narrowed := true }
def ViewTellsUptoSaid : Prop := viewTellsUptoRow.holds Try.pinned (OpenSpec.upto viewTellsSpec)

end Rows
end Go.Proofs.Ytnnomeichppkpaa
