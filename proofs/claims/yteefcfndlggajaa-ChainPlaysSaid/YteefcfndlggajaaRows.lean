/-
  No cell of these rows narrows 'for every input' (looked for: loops, veiled, ifaces, maps, wideKeys, modest, calm, conditions, laid).
  DERIVED. THE GIVEN ROWS OF THIS SEAT. 6 by the template 'for every input the law returns true; each argument reads behind the call as it read before'; 0 by the template 'total and deterministic' (their statements: YteefcfndlggajaaTotals.lean).
  GIVEN WITH THE SEED: the statements are not yours to turn. If you find one false, say at which input.
  Laid BY PROGRAM, IN A SANDBOX (cutbox-rows.mjs): the forced cells as the released guide's own fill.sh prints them over the translation 15e95a3025d10801… (all of the seat's roots in one cut). By AI agents, Wed Nov 11 2026. No macro, syntax, notation, axiom, sorry.
-/
import Derived.Test.YteefcfndlggajaaChecked
import GoSem.Claim
import GoSem.ClaimJoined
import GoSem.ClaimMapViews
import Derived.JoinedTies
import Derived.KernelRfl
namespace Go.Proofs.Yteefcfndlggajaa
/- THE CELL 'sum', in the pinned program and in every row, IS THE sha256 OF THE DUMP (.gsa) THAT YteefcfndlggajaaProg.lean LOADS. Nothing in Lean hashes anything: it is a label: what it is worth is what the hold of that sum in a sandbox is worth. -/
noncomputable def Try.pinned : Pinned := { name := "yteefcfndlggajaa", sum := "15e95a3025d10801cb8250a1d3297822752a83735ff3fcff75595042e6e4cf0c", checked := Try.checked }
namespace Rows
def none {H : Type} : Left H := { results := [], args := [] }

/-- 'ferrymanlaw17.ChainMade': WHATEVER THE INPUT: true; the input reads as it did. -/
def chainMadeSpec : ChangeSpec := { name := "chainMade", fn := fun _ => fun
  | [d1, d2] => { results := [.lit (.bool true)], args := [d1, d2] }
  | _ => none }
def chainMadeRow : OpenClaim := { program := "yteefcfndlggajaa", sum := "15e95a3025d10801cb8250a1d3297822752a83735ff3fcff75595042e6e4cf0c", func := "ferryman/ferrymanlaw17.ChainMade", spec := "chainMade", unfollowed := true, recurses := true, plainKeys := false, apart := false }
def ChainMadeSaid : Prop := chainMadeRow.holds Try.pinned (OpenSpec.ofChange chainMadeSpec)

/-- ITS FALSE NEIGHBOUR: 'it returns false'. Refute it at one input. -/
def chainMadeWrong : ChangeSpec := { name := "chainMade", fn := fun _ => fun
  | [d1, d2] => { results := [.lit (.bool false)], args := [d1, d2] }
  | _ => none }
def ChainMadeWrongFalsely : Prop := chainMadeRow.holds Try.pinned (OpenSpec.ofChange chainMadeWrong)

/-- 'ferrymanlaw17.ChainAlone': WHATEVER THE INPUT: true; the input reads as it did. -/
def chainAloneSpec : ChangeSpec := { name := "chainAlone", fn := fun _ => fun
  | [d1, d2, d3, d4, d5, d6] => { results := [.lit (.bool true)], args := [d1, d2, d3, d4, d5, d6] }
  | _ => none }
def chainAloneRow : OpenClaim := { program := "yteefcfndlggajaa", sum := "15e95a3025d10801cb8250a1d3297822752a83735ff3fcff75595042e6e4cf0c", func := "ferryman/ferrymanlaw17.ChainAlone", spec := "chainAlone", unfollowed := true, recurses := true, plainKeys := false, apart := false }
def ChainAloneSaid : Prop := chainAloneRow.holds Try.pinned (OpenSpec.ofChange chainAloneSpec)

/-- ITS FALSE NEIGHBOUR: 'it returns false'. Refute it at one input. -/
def chainAloneWrong : ChangeSpec := { name := "chainAlone", fn := fun _ => fun
  | [d1, d2, d3, d4, d5, d6] => { results := [.lit (.bool false)], args := [d1, d2, d3, d4, d5, d6] }
  | _ => none }
def ChainAloneWrongFalsely : Prop := chainAloneRow.holds Try.pinned (OpenSpec.ofChange chainAloneWrong)

/-- 'ferrymanlaw17.ChainCut': WHATEVER THE INPUT: true; the input reads as it did. -/
def chainCutSpec : ChangeSpec := { name := "chainCut", fn := fun _ => fun
  | [d1, d2, d3] => { results := [.lit (.bool true)], args := [d1, d2, d3] }
  | _ => none }
def chainCutRow : OpenClaim := { program := "yteefcfndlggajaa", sum := "15e95a3025d10801cb8250a1d3297822752a83735ff3fcff75595042e6e4cf0c", func := "ferryman/ferrymanlaw17.ChainCut", spec := "chainCut", inPlace := ["maps.clone"], unfollowed := true, recurses := true, plainKeys := false, apart := false }
def ChainCutSaid : Prop := chainCutRow.holds Try.pinned (OpenSpec.ofChange chainCutSpec)

/-- ITS FALSE NEIGHBOUR: 'it returns false'. Refute it at one input. -/
def chainCutWrong : ChangeSpec := { name := "chainCut", fn := fun _ => fun
  | [d1, d2, d3] => { results := [.lit (.bool false)], args := [d1, d2, d3] }
  | _ => none }
def ChainCutWrongFalsely : Prop := chainCutRow.holds Try.pinned (OpenSpec.ofChange chainCutWrong)

/-- 'ferrymanlaw17.ChainNames': WHATEVER THE INPUT: true; the input reads as it did. -/
def chainNamesSpec : ChangeSpec := { name := "chainNames", fn := fun _ => fun
  | [] => { results := [.lit (.bool true)], args := [] }
  | _ => none }
def chainNamesRow : OpenClaim := { program := "yteefcfndlggajaa", sum := "15e95a3025d10801cb8250a1d3297822752a83735ff3fcff75595042e6e4cf0c", func := "ferryman/ferrymanlaw17.ChainNames", spec := "chainNames", inPlace := ["maps.clone"], unfollowed := true, recurses := true, plainKeys := false, apart := false }
def ChainNamesSaid : Prop := chainNamesRow.holds Try.pinned (OpenSpec.ofChange chainNamesSpec)

/-- ITS FALSE NEIGHBOUR: 'it returns false'. Refute it at one input. -/
def chainNamesWrong : ChangeSpec := { name := "chainNames", fn := fun _ => fun
  | [] => { results := [.lit (.bool false)], args := [] }
  | _ => none }
def ChainNamesWrongFalsely : Prop := chainNamesRow.holds Try.pinned (OpenSpec.ofChange chainNamesWrong)

/-- 'ferrymanlaw17.ChainPlays': WHATEVER THE INPUT: true; the input reads as it did. -/
def chainPlaysSpec : ChangeSpec := { name := "chainPlays", fn := fun _ => fun
  | [d1, d2] => { results := [.lit (.bool true)], args := [d1, d2] }
  | _ => none }
def chainPlaysRow : OpenClaim := { program := "yteefcfndlggajaa", sum := "15e95a3025d10801cb8250a1d3297822752a83735ff3fcff75595042e6e4cf0c", func := "ferryman/ferrymanlaw17.ChainPlays", spec := "chainPlays", inPlace := ["maps.clone"], unfollowed := true, recurses := true, plainKeys := false, apart := false }
def ChainPlaysSaid : Prop := chainPlaysRow.holds Try.pinned (OpenSpec.ofChange chainPlaysSpec)

/-- ITS FALSE NEIGHBOUR: 'it returns false'. Refute it at one input. -/
def chainPlaysWrong : ChangeSpec := { name := "chainPlays", fn := fun _ => fun
  | [d1, d2] => { results := [.lit (.bool false)], args := [d1, d2] }
  | _ => none }
def ChainPlaysWrongFalsely : Prop := chainPlaysRow.holds Try.pinned (OpenSpec.ofChange chainPlaysWrong)

/-- 'ferrymanlaw17.ChainCopies': WHATEVER THE INPUT: true; the input reads as it did. -/
def chainCopiesSpec : ChangeSpec := { name := "chainCopies", fn := fun _ => fun
  | [d1, d2, d3] => { results := [.lit (.bool true)], args := [d1, d2, d3] }
  | _ => none }
def chainCopiesRow : OpenClaim := { program := "yteefcfndlggajaa", sum := "15e95a3025d10801cb8250a1d3297822752a83735ff3fcff75595042e6e4cf0c", func := "ferryman/ferrymanlaw17.ChainCopies", spec := "chainCopies", inPlace := ["maps.clone"], unfollowed := true, recurses := true, plainKeys := false, apart := false }
def ChainCopiesSaid : Prop := chainCopiesRow.holds Try.pinned (OpenSpec.ofChange chainCopiesSpec)

/-- ITS FALSE NEIGHBOUR: 'it returns false'. Refute it at one input. -/
def chainCopiesWrong : ChangeSpec := { name := "chainCopies", fn := fun _ => fun
  | [d1, d2, d3] => { results := [.lit (.bool false)], args := [d1, d2, d3] }
  | _ => none }
def ChainCopiesWrongFalsely : Prop := chainCopiesRow.holds Try.pinned (OpenSpec.ofChange chainCopiesWrong)

/- THE SECOND FORM. 'bulk': how many values and letters a reading holds, each counted each time it is reached (what is shared counts as often as it is met; a slice's spare places count too). A statement '..UptoSaid' is the law's where the arguments, and the package variables that the reading takes, are together of bulk at most 1048576: NARROWER than '..Said'. Prove '..Said' where nothing that the law and all that it calls make is longer than what came in: it says more and counts as full. Else prove '..UptoSaid'. A law counts once. -/
mutual
def uptoBulk {H : Type} : DataW H → Nat
  | .lit (.string bytes) => bytes.length + 1
  | .lit _ => 1
  | .nil => 1
  | .ptr d => uptoBulk d + 1
  | .slice elems spare => uptoBulkAll elems + uptoBulkAll spare + 1
  | .agg parts => uptoBulkAll parts + 1
  | .iface _ d => uptoBulk d + 1
  | .map entries => uptoBulkEntries entries + 1
  | .held _ => 1
def uptoBulkAll {H : Type} : List (DataW H) → Nat
  | [] => 0
  | d :: r => uptoBulk d + uptoBulkAll r
def uptoBulkEntries {H : Type} : List (Lit × DataW H) → Nat
  | [] => 0
  | x :: r => uptoBulkEntry x + uptoBulkEntries r
def uptoBulkEntry {H : Type} : Lit × DataW H → Nat
  | (.string bytes, d) => bytes.length + uptoBulk d + 1
  | (_, d) => uptoBulk d + 1
 end
def uptoSmall : (H : Type) → List (DataW H) → Bool := fun _ ds => decide (uptoBulkAll ds ≤ 1048576)
def OpenSpec.upto (s : _root_.Go.ChangeSpec) : _root_.Go.OpenSpec := { _root_.Go.OpenSpec.ofChange s with cond := some uptoSmall }

/-- 'ferrymanlaw17.ChainMade', WHERE WHAT IT READS IS OF BULK AT MOST 1048576: true; the input reads as it did. -/
def chainMadeUptoRow : OpenClaim := { program := "yteefcfndlggajaa", sum := "15e95a3025d10801cb8250a1d3297822752a83735ff3fcff75595042e6e4cf0c", func := "ferryman/ferrymanlaw17.ChainMade", spec := "chainMade", unfollowed := true, recurses := true, plainKeys := false, apart := false, narrowed := true }
def ChainMadeUptoSaid : Prop := chainMadeUptoRow.holds Try.pinned (OpenSpec.upto chainMadeSpec)

/-- 'ferrymanlaw17.ChainAlone', WHERE WHAT IT READS IS OF BULK AT MOST 1048576: true; the input reads as it did. -/
def chainAloneUptoRow : OpenClaim := { program := "yteefcfndlggajaa", sum := "15e95a3025d10801cb8250a1d3297822752a83735ff3fcff75595042e6e4cf0c", func := "ferryman/ferrymanlaw17.ChainAlone", spec := "chainAlone", unfollowed := true, recurses := true, plainKeys := false, apart := false, narrowed := true }
def ChainAloneUptoSaid : Prop := chainAloneUptoRow.holds Try.pinned (OpenSpec.upto chainAloneSpec)

/-- 'ferrymanlaw17.ChainCut', WHERE WHAT IT READS IS OF BULK AT MOST 1048576: true; the input reads as it did. -/
def chainCutUptoRow : OpenClaim := { program := "yteefcfndlggajaa", sum := "15e95a3025d10801cb8250a1d3297822752a83735ff3fcff75595042e6e4cf0c", func := "ferryman/ferrymanlaw17.ChainCut", spec := "chainCut", inPlace := ["maps.clone"], unfollowed := true, recurses := true, plainKeys := false, apart := false, narrowed := true }
def ChainCutUptoSaid : Prop := chainCutUptoRow.holds Try.pinned (OpenSpec.upto chainCutSpec)

/-- 'ferrymanlaw17.ChainNames', WHERE WHAT IT READS IS OF BULK AT MOST 1048576: true; the input reads as it did. -/
def chainNamesUptoRow : OpenClaim := { program := "yteefcfndlggajaa", sum := "15e95a3025d10801cb8250a1d3297822752a83735ff3fcff75595042e6e4cf0c", func := "ferryman/ferrymanlaw17.ChainNames", spec := "chainNames", inPlace := ["maps.clone"], unfollowed := true, recurses := true, plainKeys := false, apart := false, narrowed := true }
def ChainNamesUptoSaid : Prop := chainNamesUptoRow.holds Try.pinned (OpenSpec.upto chainNamesSpec)

/-- 'ferrymanlaw17.ChainPlays', WHERE WHAT IT READS IS OF BULK AT MOST 1048576: true; the input reads as it did. -/
def chainPlaysUptoRow : OpenClaim := { program := "yteefcfndlggajaa", sum := "15e95a3025d10801cb8250a1d3297822752a83735ff3fcff75595042e6e4cf0c", func := "ferryman/ferrymanlaw17.ChainPlays", spec := "chainPlays", inPlace := ["maps.clone"], unfollowed := true, recurses := true, plainKeys := false, apart := false, narrowed := true }
def ChainPlaysUptoSaid : Prop := chainPlaysUptoRow.holds Try.pinned (OpenSpec.upto chainPlaysSpec)

/-- 'ferrymanlaw17.ChainCopies', WHERE WHAT IT READS IS OF BULK AT MOST 1048576: true; the input reads as it did. -/
def chainCopiesUptoRow : OpenClaim := { program := "yteefcfndlggajaa", sum := "15e95a3025d10801cb8250a1d3297822752a83735ff3fcff75595042e6e4cf0c", func := "ferryman/ferrymanlaw17.ChainCopies", spec := "chainCopies", inPlace := ["maps.clone"], unfollowed := true, recurses := true, plainKeys := false, apart := false, narrowed := true }
def ChainCopiesUptoSaid : Prop := chainCopiesUptoRow.holds Try.pinned (OpenSpec.upto chainCopiesSpec)

end Rows
end Go.Proofs.Yteefcfndlggajaa
