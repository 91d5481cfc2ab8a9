/-
  No cell of these rows narrows 'for every input' (looked for: loops, veiled, ifaces, maps, wideKeys, modest, calm, conditions, laid).
  DERIVED. THE GIVEN ROWS OF THIS SEAT. 6 by the template 'for every input the law returns true; each argument reads behind the call as it read before'; 0 by the template 'total and deterministic' (their statements: YtdbnopfpopeefaaTotals.lean).
  GIVEN WITH THE SEED: the statements are not yours to turn. If you find one false, say at which input.
  Laid BY PROGRAM, IN A SANDBOX (cutbox-rows.mjs): the forced cells as the released guide's own fill.sh prints them over the translation b0c931982ca88507… (all of the seat's roots in one cut). By AI agents, Wed Nov 11 2026. No macro, syntax, notation, axiom, sorry.
-/
import Derived.Test.YtdbnopfpopeefaaChecked
import GoSem.Claim
import GoSem.ClaimJoined
import GoSem.ClaimMapViews
import Derived.JoinedTies
import Derived.KernelRfl
namespace Go.Proofs.Ytdbnopfpopeefaa
/- THE CELL 'sum', in the pinned program and in every row, IS THE sha256 OF THE DUMP (.gsa) THAT YtdbnopfpopeefaaProg.lean LOADS. Nothing in Lean hashes anything: it is a label: what it is worth is what the hold of that sum in a sandbox is worth. -/
noncomputable def Try.pinned : Pinned := { name := "ytdbnopfpopeefaa", sum := "b0c931982ca88507ce4acf98e6e2c375ead54971338516dade17d786e1a71574", checked := Try.checked }
namespace Rows
def none {H : Type} : Left H := { results := [], args := [] }

/-- 'ferrymanlaw03.PageApart': WHATEVER THE INPUT: true; the input reads as it did. -/
def pageApartSpec : ChangeSpec := { name := "pageApart", fn := fun _ => fun
  | [d1, d2, d3] => { results := [.lit (.bool true)], args := [d1, d2, d3] }
  | _ => none }
def pageApartRow : OpenClaim := { program := "ytdbnopfpopeefaa", sum := "b0c931982ca88507ce4acf98e6e2c375ead54971338516dade17d786e1a71574", func := "ferryman/ferrymanlaw03.PageApart", spec := "pageApart", apart := false }
def PageApartSaid : Prop := pageApartRow.holds Try.pinned (OpenSpec.ofChange pageApartSpec)

/-- ITS FALSE NEIGHBOUR: 'it returns false'. Refute it at one input. -/
def pageApartWrong : ChangeSpec := { name := "pageApart", fn := fun _ => fun
  | [d1, d2, d3] => { results := [.lit (.bool false)], args := [d1, d2, d3] }
  | _ => none }
def PageApartWrongFalsely : Prop := pageApartRow.holds Try.pinned (OpenSpec.ofChange pageApartWrong)

/-- 'ferrymanlaw03.PageLast': WHATEVER THE INPUT: true; the input reads as it did. -/
def pageLastSpec : ChangeSpec := { name := "pageLast", fn := fun _ => fun
  | [d1, d2, d3] => { results := [.lit (.bool true)], args := [d1, d2, d3] }
  | _ => none }
def pageLastRow : OpenClaim := { program := "ytdbnopfpopeefaa", sum := "b0c931982ca88507ce4acf98e6e2c375ead54971338516dade17d786e1a71574", func := "ferryman/ferrymanlaw03.PageLast", spec := "pageLast", apart := false }
def PageLastSaid : Prop := pageLastRow.holds Try.pinned (OpenSpec.ofChange pageLastSpec)

/-- ITS FALSE NEIGHBOUR: 'it returns false'. Refute it at one input. -/
def pageLastWrong : ChangeSpec := { name := "pageLast", fn := fun _ => fun
  | [d1, d2, d3] => { results := [.lit (.bool false)], args := [d1, d2, d3] }
  | _ => none }
def PageLastWrongFalsely : Prop := pageLastRow.holds Try.pinned (OpenSpec.ofChange pageLastWrong)

/-- 'ferrymanlaw03.PageMany': WHATEVER THE INPUT: true; the input reads as it did. -/
def pageManySpec : ChangeSpec := { name := "pageMany", fn := fun _ => fun
  | [d1, d2] => { results := [.lit (.bool true)], args := [d1, d2] }
  | _ => none }
def pageManyRow : OpenClaim := { program := "ytdbnopfpopeefaa", sum := "b0c931982ca88507ce4acf98e6e2c375ead54971338516dade17d786e1a71574", func := "ferryman/ferrymanlaw03.PageMany", spec := "pageMany", apart := false }
def PageManySaid : Prop := pageManyRow.holds Try.pinned (OpenSpec.ofChange pageManySpec)

/-- ITS FALSE NEIGHBOUR: 'it returns false'. Refute it at one input. -/
def pageManyWrong : ChangeSpec := { name := "pageMany", fn := fun _ => fun
  | [d1, d2] => { results := [.lit (.bool false)], args := [d1, d2] }
  | _ => none }
def PageManyWrongFalsely : Prop := pageManyRow.holds Try.pinned (OpenSpec.ofChange pageManyWrong)

/-- 'ferrymanlaw03.PageCopies': WHATEVER THE INPUT: true; the input reads as it did. -/
def pageCopiesSpec : ChangeSpec := { name := "pageCopies", fn := fun _ => fun
  | [d1, d2, d3] => { results := [.lit (.bool true)], args := [d1, d2, d3] }
  | _ => none }
def pageCopiesRow : OpenClaim := { program := "ytdbnopfpopeefaa", sum := "b0c931982ca88507ce4acf98e6e2c375ead54971338516dade17d786e1a71574", func := "ferryman/ferrymanlaw03.PageCopies", spec := "pageCopies", inPlace := ["maps.clone"], unfollowed := true, recurses := true, apart := false }
def PageCopiesSaid : Prop := pageCopiesRow.holds Try.pinned (OpenSpec.ofChange pageCopiesSpec)

/-- ITS FALSE NEIGHBOUR: 'it returns false'. Refute it at one input. -/
def pageCopiesWrong : ChangeSpec := { name := "pageCopies", fn := fun _ => fun
  | [d1, d2, d3] => { results := [.lit (.bool false)], args := [d1, d2, d3] }
  | _ => none }
def PageCopiesWrongFalsely : Prop := pageCopiesRow.holds Try.pinned (OpenSpec.ofChange pageCopiesWrong)

/-- 'ferrymanlaw03.PageNames': WHATEVER THE INPUT: true; the input reads as it did. -/
def pageNamesSpec : ChangeSpec := { name := "pageNames", fn := fun _ => fun
  | [] => { results := [.lit (.bool true)], args := [] }
  | _ => none }
def pageNamesRow : OpenClaim := { program := "ytdbnopfpopeefaa", sum := "b0c931982ca88507ce4acf98e6e2c375ead54971338516dade17d786e1a71574", func := "ferryman/ferrymanlaw03.PageNames", spec := "pageNames", inPlace := ["maps.clone"], apart := false }
def PageNamesSaid : Prop := pageNamesRow.holds Try.pinned (OpenSpec.ofChange pageNamesSpec)

/-- ITS FALSE NEIGHBOUR: 'it returns false'. Refute it at one input. -/
def pageNamesWrong : ChangeSpec := { name := "pageNames", fn := fun _ => fun
  | [] => { results := [.lit (.bool false)], args := [] }
  | _ => none }
def PageNamesWrongFalsely : Prop := pageNamesRow.holds Try.pinned (OpenSpec.ofChange pageNamesWrong)

/-- 'ferrymanlaw03.PagePlays': WHATEVER THE INPUT: true; the input reads as it did. -/
def pagePlaysSpec : ChangeSpec := { name := "pagePlays", fn := fun _ => fun
  | [d1, d2] => { results := [.lit (.bool true)], args := [d1, d2] }
  | _ => none }
def pagePlaysRow : OpenClaim := { program := "ytdbnopfpopeefaa", sum := "b0c931982ca88507ce4acf98e6e2c375ead54971338516dade17d786e1a71574", func := "ferryman/ferrymanlaw03.PagePlays", spec := "pagePlays", inPlace := ["maps.clone"], apart := false }
def PagePlaysSaid : Prop := pagePlaysRow.holds Try.pinned (OpenSpec.ofChange pagePlaysSpec)

/-- ITS FALSE NEIGHBOUR: 'it returns false'. Refute it at one input. -/
def pagePlaysWrong : ChangeSpec := { name := "pagePlays", fn := fun _ => fun
  | [d1, d2] => { results := [.lit (.bool false)], args := [d1, d2] }
  | _ => none }
def PagePlaysWrongFalsely : Prop := pagePlaysRow.holds Try.pinned (OpenSpec.ofChange pagePlaysWrong)

/- THE SECOND FORM. 'bulk': how many values and letters a reading holds, each counted each time it is reached (what is shared counts as often as it is met; a slice's spare places count too). A statement '..UptoSaid' is the law's where the arguments, and the package variables that the reading takes, are together of bulk at most 1048576: NARROWER than '..Said'. Prove '..Said' where nothing that the law and all that it calls make is longer than what came in: it says more and counts as full. Else prove '..UptoSaid'. A law counts once. -/
mutual
def uptoBulk {H : Type} : DataW H → Nat
  | .lit (.string bytes) => bytes.length + 1
  | .lit _ => 1
  | .nil => 1
  | .ptr d => uptoBulk d + 1
  | .slice elems spare => uptoBulkAll elems + uptoBulkAll spare + 1
  | .agg parts => uptoBulkAll parts + 1
  | .iface _ d => uptoBulk d + 1
  | .map entries => uptoBulkEntries entries + 1
  | .held _ => 1
def uptoBulkAll {H : Type} : List (DataW H) → Nat
  | [] => 0
  | d :: r => uptoBulk d + uptoBulkAll r
def uptoBulkEntries {H : Type} : List (Lit × DataW H) → Nat
  | [] => 0
  | x :: r => uptoBulkEntry x + uptoBulkEntries r
def uptoBulkEntry {H : Type} : Lit × DataW H → Nat
  | (.string bytes, d) => bytes.length + uptoBulk d + 1
  | (_, d) => uptoBulk d + 1
 end
def uptoSmall : (H : Type) → List (DataW H) → Bool := fun _ ds => decide (uptoBulkAll ds ≤ 1048576)
def OpenSpec.upto (s : _root_.Go.ChangeSpec) : _root_.Go.OpenSpec := { _root_.Go.OpenSpec.ofChange s with cond := some uptoSmall }

/-- 'ferrymanlaw03.PageApart', WHERE WHAT IT READS IS OF BULK AT MOST 1048576: true; the input reads as it did. -/
def pageApartUptoRow : OpenClaim := { program := "ytdbnopfpopeefaa", sum := "b0c931982ca88507ce4acf98e6e2c375ead54971338516dade17d786e1a71574", func := "ferryman/ferrymanlaw03.PageApart", spec := "pageApart", apart := false, narrowed := true }
def PageApartUptoSaid : Prop := pageApartUptoRow.holds Try.pinned (OpenSpec.upto pageApartSpec)

/-- 'ferrymanlaw03.PageLast', WHERE WHAT IT READS IS OF BULK AT MOST 1048576: true; the input reads as it did. -/
def pageLastUptoRow : OpenClaim := { program := "ytdbnopfpopeefaa", sum := "b0c931982ca88507ce4acf98e6e2c375ead54971338516dade17d786e1a71574", func := "ferryman/ferrymanlaw03.PageLast", spec := "pageLast", apart := false, narrowed := true }
def PageLastUptoSaid : Prop := pageLastUptoRow.holds Try.pinned (OpenSpec.upto pageLastSpec)

/-- 'ferrymanlaw03.PageMany', WHERE WHAT IT READS IS OF BULK AT MOST 1048576: true; the input reads as it did. -/
def pageManyUptoRow : OpenClaim := { program := "ytdbnopfpopeefaa", sum := "b0c931982ca88507ce4acf98e6e2c375ead54971338516dade17d786e1a71574", func := "ferryman/ferrymanlaw03.PageMany", spec := "pageMany", apart := false, narrowed := true }
def PageManyUptoSaid : Prop := pageManyUptoRow.holds Try.pinned (OpenSpec.upto pageManySpec)

/-- 'ferrymanlaw03.PageCopies', WHERE WHAT IT READS IS OF BULK AT MOST 1048576: true; the input reads as it did. -/
def pageCopiesUptoRow : OpenClaim := { program := "ytdbnopfpopeefaa", sum := "b0c931982ca88507ce4acf98e6e2c375ead54971338516dade17d786e1a71574", func := "ferryman/ferrymanlaw03.PageCopies", spec := "pageCopies", inPlace := ["maps.clone"], unfollowed := true, recurses := true, apart := false, narrowed := true }
def PageCopiesUptoSaid : Prop := pageCopiesUptoRow.holds Try.pinned (OpenSpec.upto pageCopiesSpec)

/-- 'ferrymanlaw03.PageNames', WHERE WHAT IT READS IS OF BULK AT MOST 1048576: true; the input reads as it did. -/
def pageNamesUptoRow : OpenClaim := { program := "ytdbnopfpopeefaa", sum := "b0c931982ca88507ce4acf98e6e2c375ead54971338516dade17d786e1a71574", func := "ferryman/ferrymanlaw03.PageNames", spec := "pageNames", inPlace := ["maps.clone"], apart := false, narrowed := true }
def PageNamesUptoSaid : Prop := pageNamesUptoRow.holds Try.pinned (OpenSpec.upto pageNamesSpec)

/-- 'ferrymanlaw03.PagePlays', WHERE WHAT IT READS IS OF BULK AT MOST 1048576: true; the input reads as it did. -/
def pagePlaysUptoRow : OpenClaim := { program := "ytdbnopfpopeefaa", sum := "b0c931982ca88507ce4acf98e6e2c375ead54971338516dade17d786e1a71574", func := "ferryman/ferrymanlaw03.PagePlays", spec := "pagePlays", inPlace := ["maps.clone"], apart := false, narrowed := true }
def PagePlaysUptoSaid : Prop := pagePlaysUptoRow.holds Try.pinned (OpenSpec.upto pagePlaysSpec)

end Rows
end Go.Proofs.Ytdbnopfpopeefaa
