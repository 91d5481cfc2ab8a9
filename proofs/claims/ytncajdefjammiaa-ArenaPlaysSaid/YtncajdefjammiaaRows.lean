/-
  No cell of these rows narrows 'for every input' (looked for: loops, veiled, ifaces, maps, wideKeys, modest, calm, conditions, laid).
  DERIVED. THE GIVEN ROWS OF THIS SEAT. 7 by the template 'for every input the law returns true; each argument reads behind the call as it read before'; 0 by the template 'total and deterministic' (their statements: YtncajdefjammiaaTotals.lean).
  GIVEN WITH THE SEED: the statements are not yours to turn. If you find one false, say at which input.
  Laid BY PROGRAM, IN A SANDBOX (cutbox-rows.mjs): the forced cells as the released guide's own fill.sh prints them over the translation 05be39b6847452c5… (all of the seat's roots in one cut). By AI agents, Wed Nov 11 2026. No macro, syntax, notation, axiom, sorry.
-/
import Derived.Test.YtncajdefjammiaaChecked
import GoSem.Claim
import GoSem.ClaimJoined
import GoSem.ClaimMapViews
import Derived.JoinedTies
import Derived.KernelRfl
namespace Go.Proofs.Ytncajdefjammiaa
/- THE CELL 'sum', in the pinned program and in every row, IS THE sha256 OF THE DUMP (.gsa) THAT YtncajdefjammiaaProg.lean LOADS. Nothing in Lean hashes anything: it is a label: what it is worth is what the hold of that sum in a sandbox is worth. -/
noncomputable def Try.pinned : Pinned := { name := "ytncajdefjammiaa", sum := "05be39b6847452c539541a1b1a6cb5b163d05c67b4aff0c507032e4b0a086eec", checked := Try.checked }
namespace Rows
def none {H : Type} : Left H := { results := [], args := [] }

/-- 'ferrymanlaw04.ArenaNever': WHATEVER THE INPUT: true; the input reads as it did. -/
def arenaNeverSpec : ChangeSpec := { name := "arenaNever", fn := fun _ => fun
  | [d1, d2] => { results := [.lit (.bool true)], args := [d1, d2] }
  | _ => none }
def arenaNeverRow : OpenClaim := { program := "ytncajdefjammiaa", sum := "05be39b6847452c539541a1b1a6cb5b163d05c67b4aff0c507032e4b0a086eec", func := "ferryman/ferrymanlaw04.ArenaNever", spec := "arenaNever", plainKeys := false, apart := false }
def ArenaNeverSaid : Prop := arenaNeverRow.holds Try.pinned (OpenSpec.ofChange arenaNeverSpec)

/-- ITS FALSE NEIGHBOUR: 'it returns false'. Refute it at one input. -/
def arenaNeverWrong : ChangeSpec := { name := "arenaNever", fn := fun _ => fun
  | [d1, d2] => { results := [.lit (.bool false)], args := [d1, d2] }
  | _ => none }
def ArenaNeverWrongFalsely : Prop := arenaNeverRow.holds Try.pinned (OpenSpec.ofChange arenaNeverWrong)

/-- 'ferrymanlaw04.ArenaApart': WHATEVER THE INPUT: true; the input reads as it did. -/
def arenaApartSpec : ChangeSpec := { name := "arenaApart", fn := fun _ => fun
  | [d1, d2] => { results := [.lit (.bool true)], args := [d1, d2] }
  | _ => none }
def arenaApartRow : OpenClaim := { program := "ytncajdefjammiaa", sum := "05be39b6847452c539541a1b1a6cb5b163d05c67b4aff0c507032e4b0a086eec", func := "ferryman/ferrymanlaw04.ArenaApart", spec := "arenaApart", plainKeys := false, apart := false }
def ArenaApartSaid : Prop := arenaApartRow.holds Try.pinned (OpenSpec.ofChange arenaApartSpec)

/-- ITS FALSE NEIGHBOUR: 'it returns false'. Refute it at one input. -/
def arenaApartWrong : ChangeSpec := { name := "arenaApart", fn := fun _ => fun
  | [d1, d2] => { results := [.lit (.bool false)], args := [d1, d2] }
  | _ => none }
def ArenaApartWrongFalsely : Prop := arenaApartRow.holds Try.pinned (OpenSpec.ofChange arenaApartWrong)

/-- 'ferrymanlaw04.ArenaMany': WHATEVER THE INPUT: true; the input reads as it did. -/
def arenaManySpec : ChangeSpec := { name := "arenaMany", fn := fun _ => fun
  | [d1, d2] => { results := [.lit (.bool true)], args := [d1, d2] }
  | _ => none }
def arenaManyRow : OpenClaim := { program := "ytncajdefjammiaa", sum := "05be39b6847452c539541a1b1a6cb5b163d05c67b4aff0c507032e4b0a086eec", func := "ferryman/ferrymanlaw04.ArenaMany", spec := "arenaMany", plainKeys := false, apart := false }
def ArenaManySaid : Prop := arenaManyRow.holds Try.pinned (OpenSpec.ofChange arenaManySpec)

/-- ITS FALSE NEIGHBOUR: 'it returns false'. Refute it at one input. -/
def arenaManyWrong : ChangeSpec := { name := "arenaMany", fn := fun _ => fun
  | [d1, d2] => { results := [.lit (.bool false)], args := [d1, d2] }
  | _ => none }
def ArenaManyWrongFalsely : Prop := arenaManyRow.holds Try.pinned (OpenSpec.ofChange arenaManyWrong)

/-- 'ferrymanlaw04.ArenaCopies': WHATEVER THE INPUT: true; the input reads as it did. -/
def arenaCopiesSpec : ChangeSpec := { name := "arenaCopies", fn := fun _ => fun
  | [d1, d2, d3] => { results := [.lit (.bool true)], args := [d1, d2, d3] }
  | _ => none }
def arenaCopiesRow : OpenClaim := { program := "ytncajdefjammiaa", sum := "05be39b6847452c539541a1b1a6cb5b163d05c67b4aff0c507032e4b0a086eec", func := "ferryman/ferrymanlaw04.ArenaCopies", spec := "arenaCopies", inPlace := ["maps.clone"], plainKeys := false, apart := false }
def ArenaCopiesSaid : Prop := arenaCopiesRow.holds Try.pinned (OpenSpec.ofChange arenaCopiesSpec)

/-- ITS FALSE NEIGHBOUR: 'it returns false'. Refute it at one input. -/
def arenaCopiesWrong : ChangeSpec := { name := "arenaCopies", fn := fun _ => fun
  | [d1, d2, d3] => { results := [.lit (.bool false)], args := [d1, d2, d3] }
  | _ => none }
def ArenaCopiesWrongFalsely : Prop := arenaCopiesRow.holds Try.pinned (OpenSpec.ofChange arenaCopiesWrong)

/-- 'ferrymanlaw04.ArenaNames': WHATEVER THE INPUT: true; the input reads as it did. -/
def arenaNamesSpec : ChangeSpec := { name := "arenaNames", fn := fun _ => fun
  | [] => { results := [.lit (.bool true)], args := [] }
  | _ => none }
def arenaNamesRow : OpenClaim := { program := "ytncajdefjammiaa", sum := "05be39b6847452c539541a1b1a6cb5b163d05c67b4aff0c507032e4b0a086eec", func := "ferryman/ferrymanlaw04.ArenaNames", spec := "arenaNames", inPlace := ["maps.clone"], plainKeys := false, apart := false }
def ArenaNamesSaid : Prop := arenaNamesRow.holds Try.pinned (OpenSpec.ofChange arenaNamesSpec)

/-- ITS FALSE NEIGHBOUR: 'it returns false'. Refute it at one input. -/
def arenaNamesWrong : ChangeSpec := { name := "arenaNames", fn := fun _ => fun
  | [] => { results := [.lit (.bool false)], args := [] }
  | _ => none }
def ArenaNamesWrongFalsely : Prop := arenaNamesRow.holds Try.pinned (OpenSpec.ofChange arenaNamesWrong)

/-- 'ferrymanlaw04.ArenaPlays': WHATEVER THE INPUT: true; the input reads as it did. -/
def arenaPlaysSpec : ChangeSpec := { name := "arenaPlays", fn := fun _ => fun
  | [d1, d2] => { results := [.lit (.bool true)], args := [d1, d2] }
  | _ => none }
def arenaPlaysRow : OpenClaim := { program := "ytncajdefjammiaa", sum := "05be39b6847452c539541a1b1a6cb5b163d05c67b4aff0c507032e4b0a086eec", func := "ferryman/ferrymanlaw04.ArenaPlays", spec := "arenaPlays", inPlace := ["maps.clone"], plainKeys := false, apart := false }
def ArenaPlaysSaid : Prop := arenaPlaysRow.holds Try.pinned (OpenSpec.ofChange arenaPlaysSpec)

/-- ITS FALSE NEIGHBOUR: 'it returns false'. Refute it at one input. -/
def arenaPlaysWrong : ChangeSpec := { name := "arenaPlays", fn := fun _ => fun
  | [d1, d2] => { results := [.lit (.bool false)], args := [d1, d2] }
  | _ => none }
def ArenaPlaysWrongFalsely : Prop := arenaPlaysRow.holds Try.pinned (OpenSpec.ofChange arenaPlaysWrong)

/-- 'ferrymanlaw04.ArenaAgain': WHATEVER THE INPUT: true; the input reads as it did. -/
def arenaAgainSpec : ChangeSpec := { name := "arenaAgain", fn := fun _ => fun
  | [d1, d2, d3] => { results := [.lit (.bool true)], args := [d1, d2, d3] }
  | _ => none }
def arenaAgainRow : OpenClaim := { program := "ytncajdefjammiaa", sum := "05be39b6847452c539541a1b1a6cb5b163d05c67b4aff0c507032e4b0a086eec", func := "ferryman/ferrymanlaw04.ArenaAgain", spec := "arenaAgain", inPlace := ["maps.clone"], plainKeys := false, apart := false }
def ArenaAgainSaid : Prop := arenaAgainRow.holds Try.pinned (OpenSpec.ofChange arenaAgainSpec)

/-- ITS FALSE NEIGHBOUR: 'it returns false'. Refute it at one input. -/
def arenaAgainWrong : ChangeSpec := { name := "arenaAgain", fn := fun _ => fun
  | [d1, d2, d3] => { results := [.lit (.bool false)], args := [d1, d2, d3] }
  | _ => none }
def ArenaAgainWrongFalsely : Prop := arenaAgainRow.holds Try.pinned (OpenSpec.ofChange arenaAgainWrong)

/- THE SECOND FORM. 'bulk': how many values and letters a reading holds, each counted each time it is reached (what is shared counts as often as it is met; a slice's spare places count too). A statement '..UptoSaid' is the law's where the arguments, and the package variables that the reading takes, are together of bulk at most 1048576: NARROWER than '..Said'. Prove '..Said' where nothing that the law and all that it calls make is longer than what came in: it says more and counts as full. Else prove '..UptoSaid'. A law counts once. -/
mutual
def uptoBulk {H : Type} : DataW H → Nat
  | .lit (.string bytes) => bytes.length + 1
  | .lit _ => 1
  | .nil => 1
  | .ptr d => uptoBulk d + 1
  | .slice elems spare => uptoBulkAll elems + uptoBulkAll spare + 1
  | .agg parts => uptoBulkAll parts + 1
  | .iface _ d => uptoBulk d + 1
  | .map entries => uptoBulkEntries entries + 1
  | .held _ => 1
def uptoBulkAll {H : Type} : List (DataW H) → Nat
  | [] => 0
  | d :: r => uptoBulk d + uptoBulkAll r
def uptoBulkEntries {H : Type} : List (Lit × DataW H) → Nat
  | [] => 0
  | x :: r => uptoBulkEntry x + uptoBulkEntries r
def uptoBulkEntry {H : Type} : Lit × DataW H → Nat
  | (.string bytes, d) => bytes.length + uptoBulk d + 1
  | (_, d) => uptoBulk d + 1
 end
def uptoSmall : (H : Type) → List (DataW H) → Bool := fun _ ds => decide (uptoBulkAll ds ≤ 1048576)
def OpenSpec.upto (s : _root_.Go.ChangeSpec) : _root_.Go.OpenSpec := { _root_.Go.OpenSpec.ofChange s with cond := some uptoSmall }

/-- 'ferrymanlaw04.ArenaNever', WHERE WHAT IT READS IS OF BULK AT MOST 1048576: true; the input reads as it did. -/
def arenaNeverUptoRow : OpenClaim := { program := "ytncajdefjammiaa", sum := "05be39b6847452c539541a1b1a6cb5b163d05c67b4aff0c507032e4b0a086eec", func := "ferryman/ferrymanlaw04.ArenaNever", spec := "arenaNever", plainKeys := false, apart := false, narrowed := true }
def ArenaNeverUptoSaid : Prop := arenaNeverUptoRow.holds Try.pinned (OpenSpec.upto arenaNeverSpec)

/-- 'ferrymanlaw04.ArenaApart', WHERE WHAT IT READS IS OF BULK AT MOST 1048576: true; the input reads as it did. -/
def arenaApartUptoRow : OpenClaim := { program := "ytncajdefjammiaa", sum := "05be39b6847452c539541a1b1a6cb5b163d05c67b4aff0c507032e4b0a086eec", func := "ferryman/ferrymanlaw04.ArenaApart", spec := "arenaApart", plainKeys := false, apart := false, narrowed := true }
def ArenaApartUptoSaid : Prop := arenaApartUptoRow.holds Try.pinned (OpenSpec.upto arenaApartSpec)

/-- 'ferrymanlaw04.ArenaMany', WHERE WHAT IT READS IS OF BULK AT MOST 1048576: true; the input reads as it did. -/
def arenaManyUptoRow : OpenClaim := { program := "ytncajdefjammiaa", sum := "05be39b6847452c539541a1b1a6cb5b163d05c67b4aff0c507032e4b0a086eec", func := "ferryman/ferrymanlaw04.ArenaMany", spec := "arenaMany", plainKeys := false, apart := false, narrowed := true }
def ArenaManyUptoSaid : Prop := arenaManyUptoRow.holds Try.pinned (OpenSpec.upto arenaManySpec)

/-- 'ferrymanlaw04.ArenaCopies', WHERE WHAT IT READS IS OF BULK AT MOST 1048576: true; the input reads as it did. -/
def arenaCopiesUptoRow : OpenClaim := { program := "ytncajdefjammiaa", sum := "05be39b6847452c539541a1b1a6cb5b163d05c67b4aff0c507032e4b0a086eec", func := "ferryman/ferrymanlaw04.ArenaCopies", spec := "arenaCopies", inPlace := ["maps.clone"], plainKeys := false, apart := false, narrowed := true }
def ArenaCopiesUptoSaid : Prop := arenaCopiesUptoRow.holds Try.pinned (OpenSpec.upto arenaCopiesSpec)

/-- 'ferrymanlaw04.ArenaNames', WHERE WHAT IT READS IS OF BULK AT MOST 1048576: true; the input reads as it did. -/
def arenaNamesUptoRow : OpenClaim := { program := "ytncajdefjammiaa", sum := "05be39b6847452c539541a1b1a6cb5b163d05c67b4aff0c507032e4b0a086eec", func := "ferryman/ferrymanlaw04.ArenaNames", spec := "arenaNames", inPlace := ["maps.clone"], plainKeys := false, apart := false, narrowed := true }
def ArenaNamesUptoSaid : Prop := arenaNamesUptoRow.holds Try.pinned (OpenSpec.upto arenaNamesSpec)

/-- 'ferrymanlaw04.ArenaPlays', WHERE WHAT IT READS IS OF BULK AT MOST 1048576: true; the input reads as it did. -/
def arenaPlaysUptoRow : OpenClaim := { program := "ytncajdefjammiaa", sum := "05be39b6847452c539541a1b1a6cb5b163d05c67b4aff0c507032e4b0a086eec", func := "ferryman/ferrymanlaw04.ArenaPlays", spec := "arenaPlays", inPlace := ["maps.clone"], plainKeys := false, apart := false, narrowed := true }
def ArenaPlaysUptoSaid : Prop := arenaPlaysUptoRow.holds Try.pinned (OpenSpec.upto arenaPlaysSpec)

/-- 'ferrymanlaw04.ArenaAgain', WHERE WHAT IT READS IS OF BULK AT MOST 1048576: true; the input reads as it did. -/
def arenaAgainUptoRow : OpenClaim := { program := "ytncajdefjammiaa", sum := "05be39b6847452c539541a1b1a6cb5b163d05c67b4aff0c507032e4b0a086eec", func := "ferryman/ferrymanlaw04.ArenaAgain", spec := "arenaAgain", inPlace := ["maps.clone"], plainKeys := false, apart := false, narrowed := true }
def ArenaAgainUptoSaid : Prop := arenaAgainUptoRow.holds Try.pinned (OpenSpec.upto arenaAgainSpec)

end Rows
end Go.Proofs.Ytncajdefjammiaa
