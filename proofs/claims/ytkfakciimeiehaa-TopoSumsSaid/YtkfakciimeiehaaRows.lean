/-
  No cell of these rows narrows 'for every input' (looked for: loops, veiled, ifaces, maps, wideKeys, modest, calm, conditions, laid).
  DERIVED. THE GIVEN ROWS OF THIS SEAT. 12 by the template 'for every input the law returns true; each argument reads behind the call as it read before'; 0 by the template 'total and deterministic' (their statements: YtkfakciimeiehaaTotals.lean).
  GIVEN WITH THE SEED: the statements are not yours to turn. If you find one false, say at which input.
  Laid BY PROGRAM, IN A SANDBOX (cutbox-rows.mjs): the forced cells as the released guide's own fill.sh prints them over the translation 8cbec0be1ea40cec… (all of the seat's roots in one cut). By AI agents, Wed Nov 11 2026. No macro, syntax, notation, axiom, sorry.
-/
import Derived.Test.YtkfakciimeiehaaChecked
import GoSem.Claim
import GoSem.ClaimJoined
import GoSem.ClaimMapViews
import Derived.JoinedTies
import Derived.KernelRfl
namespace Go.Proofs.Ytkfakciimeiehaa
/- THE CELL 'sum', in the pinned program and in every row, IS THE sha256 OF THE DUMP (.gsa) THAT YtkfakciimeiehaaProg.lean LOADS. Nothing in Lean hashes anything: it is a label: what it is worth is what the hold of that sum in a sandbox is worth. -/
noncomputable def Try.pinned : Pinned := { name := "ytkfakciimeiehaa", sum := "8cbec0be1ea40cec45ec075f4248b047a7e276105c60fbbfe0d02f57777edcf2", checked := Try.checked }
namespace Rows
def none {H : Type} : Left H := { results := [], args := [] }

/-- 'windroselaw13.TotalOf': WHATEVER THE INPUT: true; the input reads as it did. -/
def totalOfSpec : ChangeSpec := { name := "totalOf", fn := fun _ => fun
  | [d1, d2] => { results := [.lit (.bool true)], args := [d1, d2] }
  | _ => none }
def totalOfRow : OpenClaim := { program := "ytkfakciimeiehaa", sum := "8cbec0be1ea40cec45ec075f4248b047a7e276105c60fbbfe0d02f57777edcf2", func := "windrose/windroselaw13.TotalOf", spec := "totalOf", apart := false }
def TotalOfSaid : Prop := totalOfRow.holds Try.pinned (OpenSpec.ofChange totalOfSpec)

/-- ITS FALSE NEIGHBOUR: 'it returns false'. Refute it at one input. -/
def totalOfWrong : ChangeSpec := { name := "totalOf", fn := fun _ => fun
  | [d1, d2] => { results := [.lit (.bool false)], args := [d1, d2] }
  | _ => none }
def TotalOfWrongFalsely : Prop := totalOfRow.holds Try.pinned (OpenSpec.ofChange totalOfWrong)

/-- 'windroselaw13.TotalFolds': WHATEVER THE INPUT: true; the input reads as it did. -/
def totalFoldsSpec : ChangeSpec := { name := "totalFolds", fn := fun _ => fun
  | [d1, d2, d3] => { results := [.lit (.bool true)], args := [d1, d2, d3] }
  | _ => none }
def totalFoldsRow : OpenClaim := { program := "ytkfakciimeiehaa", sum := "8cbec0be1ea40cec45ec075f4248b047a7e276105c60fbbfe0d02f57777edcf2", func := "windrose/windroselaw13.TotalFolds", spec := "totalFolds", apart := false }
def TotalFoldsSaid : Prop := totalFoldsRow.holds Try.pinned (OpenSpec.ofChange totalFoldsSpec)

/-- ITS FALSE NEIGHBOUR: 'it returns false'. Refute it at one input. -/
def totalFoldsWrong : ChangeSpec := { name := "totalFolds", fn := fun _ => fun
  | [d1, d2, d3] => { results := [.lit (.bool false)], args := [d1, d2, d3] }
  | _ => none }
def TotalFoldsWrongFalsely : Prop := totalFoldsRow.holds Try.pinned (OpenSpec.ofChange totalFoldsWrong)

/-- 'windroselaw13.TotalParts': WHATEVER THE INPUT: true; the input reads as it did. -/
def totalPartsSpec : ChangeSpec := { name := "totalParts", fn := fun _ => fun
  | [d1, d2, d3] => { results := [.lit (.bool true)], args := [d1, d2, d3] }
  | _ => none }
def totalPartsRow : OpenClaim := { program := "ytkfakciimeiehaa", sum := "8cbec0be1ea40cec45ec075f4248b047a7e276105c60fbbfe0d02f57777edcf2", func := "windrose/windroselaw13.TotalParts", spec := "totalParts", apart := false }
def TotalPartsSaid : Prop := totalPartsRow.holds Try.pinned (OpenSpec.ofChange totalPartsSpec)

/-- ITS FALSE NEIGHBOUR: 'it returns false'. Refute it at one input. -/
def totalPartsWrong : ChangeSpec := { name := "totalParts", fn := fun _ => fun
  | [d1, d2, d3] => { results := [.lit (.bool false)], args := [d1, d2, d3] }
  | _ => none }
def TotalPartsWrongFalsely : Prop := totalPartsRow.holds Try.pinned (OpenSpec.ofChange totalPartsWrong)

/-- 'windroselaw19.PostingsWalks': WHATEVER THE INPUT: true; the input reads as it did. -/
def postingsWalksSpec : ChangeSpec := { name := "postingsWalks", fn := fun _ => fun
  | [d1, d2] => { results := [.lit (.bool true)], args := [d1, d2] }
  | _ => none }
def postingsWalksRow : OpenClaim := { program := "ytkfakciimeiehaa", sum := "8cbec0be1ea40cec45ec075f4248b047a7e276105c60fbbfe0d02f57777edcf2", func := "windrose/windroselaw19.PostingsWalks", spec := "postingsWalks", apart := false }
def PostingsWalksSaid : Prop := postingsWalksRow.holds Try.pinned (OpenSpec.ofChange postingsWalksSpec)

/-- ITS FALSE NEIGHBOUR: 'it returns false'. Refute it at one input. -/
def postingsWalksWrong : ChangeSpec := { name := "postingsWalks", fn := fun _ => fun
  | [d1, d2] => { results := [.lit (.bool false)], args := [d1, d2] }
  | _ => none }
def PostingsWalksWrongFalsely : Prop := postingsWalksRow.holds Try.pinned (OpenSpec.ofChange postingsWalksWrong)

/-- 'windroselaw19.PostingsNobody': WHATEVER THE INPUT: true; the input reads as it did. -/
def postingsNobodySpec : ChangeSpec := { name := "postingsNobody", fn := fun _ => fun
  | [d] => { results := [.lit (.bool true)], args := [d] }
  | _ => none }
def postingsNobodyRow : OpenClaim := { program := "ytkfakciimeiehaa", sum := "8cbec0be1ea40cec45ec075f4248b047a7e276105c60fbbfe0d02f57777edcf2", func := "windrose/windroselaw19.PostingsNobody", spec := "postingsNobody", apart := false }
def PostingsNobodySaid : Prop := postingsNobodyRow.holds Try.pinned (OpenSpec.ofChange postingsNobodySpec)

/-- ITS FALSE NEIGHBOUR: 'it returns false'. Refute it at one input. -/
def postingsNobodyWrong : ChangeSpec := { name := "postingsNobody", fn := fun _ => fun
  | [d] => { results := [.lit (.bool false)], args := [d] }
  | _ => none }
def PostingsNobodyWrongFalsely : Prop := postingsNobodyRow.holds Try.pinned (OpenSpec.ofChange postingsNobodyWrong)

/-- 'windroselaw19.PostingsSets': WHATEVER THE INPUT: true; the input reads as it did. -/
def postingsSetsSpec : ChangeSpec := { name := "postingsSets", fn := fun _ => fun
  | [d1, d2, d3] => { results := [.lit (.bool true)], args := [d1, d2, d3] }
  | _ => none }
def postingsSetsRow : OpenClaim := { program := "ytkfakciimeiehaa", sum := "8cbec0be1ea40cec45ec075f4248b047a7e276105c60fbbfe0d02f57777edcf2", func := "windrose/windroselaw19.PostingsSets", spec := "postingsSets", apart := false }
def PostingsSetsSaid : Prop := postingsSetsRow.holds Try.pinned (OpenSpec.ofChange postingsSetsSpec)

/-- ITS FALSE NEIGHBOUR: 'it returns false'. Refute it at one input. -/
def postingsSetsWrong : ChangeSpec := { name := "postingsSets", fn := fun _ => fun
  | [d1, d2, d3] => { results := [.lit (.bool false)], args := [d1, d2, d3] }
  | _ => none }
def PostingsSetsWrongFalsely : Prop := postingsSetsRow.holds Try.pinned (OpenSpec.ofChange postingsSetsWrong)

/-- 'windroselaw19.PostingsLaws': WHATEVER THE INPUT: true; the input reads as it did. -/
def postingsLawsSpec : ChangeSpec := { name := "postingsLaws", fn := fun _ => fun
  | [d1, d2, d3] => { results := [.lit (.bool true)], args := [d1, d2, d3] }
  | _ => none }
def postingsLawsRow : OpenClaim := { program := "ytkfakciimeiehaa", sum := "8cbec0be1ea40cec45ec075f4248b047a7e276105c60fbbfe0d02f57777edcf2", func := "windrose/windroselaw19.PostingsLaws", spec := "postingsLaws", apart := false }
def PostingsLawsSaid : Prop := postingsLawsRow.holds Try.pinned (OpenSpec.ofChange postingsLawsSpec)

/-- ITS FALSE NEIGHBOUR: 'it returns false'. Refute it at one input. -/
def postingsLawsWrong : ChangeSpec := { name := "postingsLaws", fn := fun _ => fun
  | [d1, d2, d3] => { results := [.lit (.bool false)], args := [d1, d2, d3] }
  | _ => none }
def PostingsLawsWrongFalsely : Prop := postingsLawsRow.holds Try.pinned (OpenSpec.ofChange postingsLawsWrong)

/-- 'windroselaw19.PostingsCodes': WHATEVER THE INPUT: true; the input reads as it did. -/
def postingsCodesSpec : ChangeSpec := { name := "postingsCodes", fn := fun _ => fun
  | [d] => { results := [.lit (.bool true)], args := [d] }
  | _ => none }
def postingsCodesRow : OpenClaim := { program := "ytkfakciimeiehaa", sum := "8cbec0be1ea40cec45ec075f4248b047a7e276105c60fbbfe0d02f57777edcf2", func := "windrose/windroselaw19.PostingsCodes", spec := "postingsCodes", apart := false }
def PostingsCodesSaid : Prop := postingsCodesRow.holds Try.pinned (OpenSpec.ofChange postingsCodesSpec)

/-- ITS FALSE NEIGHBOUR: 'it returns false'. Refute it at one input. -/
def postingsCodesWrong : ChangeSpec := { name := "postingsCodes", fn := fun _ => fun
  | [d] => { results := [.lit (.bool false)], args := [d] }
  | _ => none }
def PostingsCodesWrongFalsely : Prop := postingsCodesRow.holds Try.pinned (OpenSpec.ofChange postingsCodesWrong)

/-- 'windroselaw19.PostingsDecodes': WHATEVER THE INPUT: true; the input reads as it did. -/
def postingsDecodesSpec : ChangeSpec := { name := "postingsDecodes", fn := fun _ => fun
  | [d] => { results := [.lit (.bool true)], args := [d] }
  | _ => none }
def postingsDecodesRow : OpenClaim := { program := "ytkfakciimeiehaa", sum := "8cbec0be1ea40cec45ec075f4248b047a7e276105c60fbbfe0d02f57777edcf2", func := "windrose/windroselaw19.PostingsDecodes", spec := "postingsDecodes", apart := false }
def PostingsDecodesSaid : Prop := postingsDecodesRow.holds Try.pinned (OpenSpec.ofChange postingsDecodesSpec)

/-- ITS FALSE NEIGHBOUR: 'it returns false'. Refute it at one input. -/
def postingsDecodesWrong : ChangeSpec := { name := "postingsDecodes", fn := fun _ => fun
  | [d] => { results := [.lit (.bool false)], args := [d] }
  | _ => none }
def PostingsDecodesWrongFalsely : Prop := postingsDecodesRow.holds Try.pinned (OpenSpec.ofChange postingsDecodesWrong)

/-- 'windroselaw06.TopoFinds': WHATEVER THE INPUT: true; the input reads as it did. -/
def topoFindsSpec : ChangeSpec := { name := "topoFinds", fn := fun _ => fun
  | [d1, d2] => { results := [.lit (.bool true)], args := [d1, d2] }
  | _ => none }
def topoFindsRow : OpenClaim := { program := "ytkfakciimeiehaa", sum := "8cbec0be1ea40cec45ec075f4248b047a7e276105c60fbbfe0d02f57777edcf2", func := "windrose/windroselaw06.TopoFinds", spec := "topoFinds", inPlace := ["slices.overlaps[windrose/api.Choice]"], unfollowed := true, recurses := true, apart := false }
def TopoFindsSaid : Prop := topoFindsRow.holds Try.pinned (OpenSpec.ofChange topoFindsSpec)

/-- ITS FALSE NEIGHBOUR: 'it returns false'. Refute it at one input. -/
def topoFindsWrong : ChangeSpec := { name := "topoFinds", fn := fun _ => fun
  | [d1, d2] => { results := [.lit (.bool false)], args := [d1, d2] }
  | _ => none }
def TopoFindsWrongFalsely : Prop := topoFindsRow.holds Try.pinned (OpenSpec.ofChange topoFindsWrong)

/-- 'windroselaw06.TopoSums': WHATEVER THE INPUT: true; the input reads as it did. -/
def topoSumsSpec : ChangeSpec := { name := "topoSums", fn := fun _ => fun
  | [d] => { results := [.lit (.bool true)], args := [d] }
  | _ => none }
def topoSumsRow : OpenClaim := { program := "ytkfakciimeiehaa", sum := "8cbec0be1ea40cec45ec075f4248b047a7e276105c60fbbfe0d02f57777edcf2", func := "windrose/windroselaw06.TopoSums", spec := "topoSums", inPlace := ["slices.overlaps[windrose/api.Choice]"], unfollowed := true, recurses := true, apart := false }
def TopoSumsSaid : Prop := topoSumsRow.holds Try.pinned (OpenSpec.ofChange topoSumsSpec)

/-- ITS FALSE NEIGHBOUR: 'it returns false'. Refute it at one input. -/
def topoSumsWrong : ChangeSpec := { name := "topoSums", fn := fun _ => fun
  | [d] => { results := [.lit (.bool false)], args := [d] }
  | _ => none }
def TopoSumsWrongFalsely : Prop := topoSumsRow.holds Try.pinned (OpenSpec.ofChange topoSumsWrong)

/-- 'windroselaw19.PostingsTurns': WHATEVER THE INPUT: true; the input reads as it did. -/
def postingsTurnsSpec : ChangeSpec := { name := "postingsTurns", fn := fun _ => fun
  | [d1, d2] => { results := [.lit (.bool true)], args := [d1, d2] }
  | _ => none }
def postingsTurnsRow : OpenClaim := { program := "ytkfakciimeiehaa", sum := "8cbec0be1ea40cec45ec075f4248b047a7e276105c60fbbfe0d02f57777edcf2", func := "windrose/windroselaw19.PostingsTurns", spec := "postingsTurns", inPlace := ["slices.overlaps[int]"], apart := false }
def PostingsTurnsSaid : Prop := postingsTurnsRow.holds Try.pinned (OpenSpec.ofChange postingsTurnsSpec)

/-- ITS FALSE NEIGHBOUR: 'it returns false'. Refute it at one input. -/
def postingsTurnsWrong : ChangeSpec := { name := "postingsTurns", fn := fun _ => fun
  | [d1, d2] => { results := [.lit (.bool false)], args := [d1, d2] }
  | _ => none }
def PostingsTurnsWrongFalsely : Prop := postingsTurnsRow.holds Try.pinned (OpenSpec.ofChange postingsTurnsWrong)

/- THE SECOND FORM. 'bulk': how many values and letters a reading holds, each counted each time it is reached (what is shared counts as often as it is met; a slice's spare places count too). A statement '..UptoSaid' is the law's where the arguments, and the package variables that the reading takes, are together of bulk at most 1048576: NARROWER than '..Said'. Prove '..Said' where nothing that the law and all that it calls make is longer than what came in: it says more and counts as full. Else prove '..UptoSaid'. A law counts once. -/
mutual
def uptoBulk {H : Type} : DataW H → Nat
  | .lit (.string bytes) => bytes.length + 1
  | .lit _ => 1
  | .nil => 1
  | .ptr d => uptoBulk d + 1
  | .slice elems spare => uptoBulkAll elems + uptoBulkAll spare + 1
  | .agg parts => uptoBulkAll parts + 1
  | .iface _ d => uptoBulk d + 1
  | .map entries => uptoBulkEntries entries + 1
  | .held _ => 1
def uptoBulkAll {H : Type} : List (DataW H) → Nat
  | [] => 0
  | d :: r => uptoBulk d + uptoBulkAll r
def uptoBulkEntries {H : Type} : List (Lit × DataW H) → Nat
  | [] => 0
  | x :: r => uptoBulkEntry x + uptoBulkEntries r
def uptoBulkEntry {H : Type} : Lit × DataW H → Nat
  | (.string bytes, d) => bytes.length + uptoBulk d + 1
  | (_, d) => uptoBulk d + 1
 end
def uptoSmall : (H : Type) → List (DataW H) → Bool := fun _ ds => decide (uptoBulkAll ds ≤ 1048576)
def OpenSpec.upto (s : _root_.Go.ChangeSpec) : _root_.Go.OpenSpec := { _root_.Go.OpenSpec.ofChange s with cond := some uptoSmall }

/-- 'windroselaw13.TotalOf', WHERE WHAT IT READS IS OF BULK AT MOST 1048576: true; the input reads as it did. -/
def totalOfUptoRow : OpenClaim := { program := "ytkfakciimeiehaa", sum := "8cbec0be1ea40cec45ec075f4248b047a7e276105c60fbbfe0d02f57777edcf2", func := "windrose/windroselaw13.TotalOf", spec := "totalOf", apart := false, narrowed := true }
def TotalOfUptoSaid : Prop := totalOfUptoRow.holds Try.pinned (OpenSpec.upto totalOfSpec)

/-- 'windroselaw13.TotalFolds', WHERE WHAT IT READS IS OF BULK AT MOST 1048576: true; the input reads as it did. -/
def totalFoldsUptoRow : OpenClaim := { program := "ytkfakciimeiehaa", sum := "8cbec0be1ea40cec45ec075f4248b047a7e276105c60fbbfe0d02f57777edcf2", func := "windrose/windroselaw13.TotalFolds", spec := "totalFolds", apart := false, narrowed := true }
def TotalFoldsUptoSaid : Prop := totalFoldsUptoRow.holds Try.pinned (OpenSpec.upto totalFoldsSpec)

/-- 'windroselaw13.TotalParts', WHERE WHAT IT READS IS OF BULK AT MOST 1048576: true; the input reads as it did. -/
def totalPartsUptoRow : OpenClaim := { program := "ytkfakciimeiehaa", sum := "8cbec0be1ea40cec45ec075f4248b047a7e276105c60fbbfe0d02f57777edcf2", func := "windrose/windroselaw13.TotalParts", spec := "totalParts", apart := false, narrowed := true }
def TotalPartsUptoSaid : Prop := totalPartsUptoRow.holds Try.pinned (OpenSpec.upto totalPartsSpec)

/-- 'windroselaw19.PostingsWalks', WHERE WHAT IT READS IS OF BULK AT MOST 1048576: true; the input reads as it did. -/
def postingsWalksUptoRow : OpenClaim := { program := "ytkfakciimeiehaa", sum := "8cbec0be1ea40cec45ec075f4248b047a7e276105c60fbbfe0d02f57777edcf2", func := "windrose/windroselaw19.PostingsWalks", spec := "postingsWalks", apart := false, narrowed := true }
def PostingsWalksUptoSaid : Prop := postingsWalksUptoRow.holds Try.pinned (OpenSpec.upto postingsWalksSpec)

/-- 'windroselaw19.PostingsNobody', WHERE WHAT IT READS IS OF BULK AT MOST 1048576: true; the input reads as it did. -/
def postingsNobodyUptoRow : OpenClaim := { program := "ytkfakciimeiehaa", sum := "8cbec0be1ea40cec45ec075f4248b047a7e276105c60fbbfe0d02f57777edcf2", func := "windrose/windroselaw19.PostingsNobody", spec := "postingsNobody", apart := false, narrowed := true }
def PostingsNobodyUptoSaid : Prop := postingsNobodyUptoRow.holds Try.pinned (OpenSpec.upto postingsNobodySpec)

/-- 'windroselaw19.PostingsSets', WHERE WHAT IT READS IS OF BULK AT MOST 1048576: true; the input reads as it did. -/
def postingsSetsUptoRow : OpenClaim := { program := "ytkfakciimeiehaa", sum := "8cbec0be1ea40cec45ec075f4248b047a7e276105c60fbbfe0d02f57777edcf2", func := "windrose/windroselaw19.PostingsSets", spec := "postingsSets", apart := false, narrowed := true }
def PostingsSetsUptoSaid : Prop := postingsSetsUptoRow.holds Try.pinned (OpenSpec.upto postingsSetsSpec)

/-- 'windroselaw19.PostingsLaws', WHERE WHAT IT READS IS OF BULK AT MOST 1048576: true; the input reads as it did. -/
def postingsLawsUptoRow : OpenClaim := { program := "ytkfakciimeiehaa", sum := "8cbec0be1ea40cec45ec075f4248b047a7e276105c60fbbfe0d02f57777edcf2", func := "windrose/windroselaw19.PostingsLaws", spec := "postingsLaws", apart := false, narrowed := true }
def PostingsLawsUptoSaid : Prop := postingsLawsUptoRow.holds Try.pinned (OpenSpec.upto postingsLawsSpec)

/-- 'windroselaw19.PostingsCodes', WHERE WHAT IT READS IS OF BULK AT MOST 1048576: true; the input reads as it did. -/
def postingsCodesUptoRow : OpenClaim := { program := "ytkfakciimeiehaa", sum := "8cbec0be1ea40cec45ec075f4248b047a7e276105c60fbbfe0d02f57777edcf2", func := "windrose/windroselaw19.PostingsCodes", spec := "postingsCodes", apart := false, narrowed := true }
def PostingsCodesUptoSaid : Prop := postingsCodesUptoRow.holds Try.pinned (OpenSpec.upto postingsCodesSpec)

/-- 'windroselaw19.PostingsDecodes', WHERE WHAT IT READS IS OF BULK AT MOST 1048576: true; the input reads as it did. -/
def postingsDecodesUptoRow : OpenClaim := { program := "ytkfakciimeiehaa", sum := "8cbec0be1ea40cec45ec075f4248b047a7e276105c60fbbfe0d02f57777edcf2", func := "windrose/windroselaw19.PostingsDecodes", spec := "postingsDecodes", apart := false, narrowed := true }
def PostingsDecodesUptoSaid : Prop := postingsDecodesUptoRow.holds Try.pinned (OpenSpec.upto postingsDecodesSpec)

/-- 'windroselaw06.TopoFinds', WHERE WHAT IT READS IS OF BULK AT MOST 1048576: true; the input reads as it did. -/
def topoFindsUptoRow : OpenClaim := { program := "ytkfakciimeiehaa", sum := "8cbec0be1ea40cec45ec075f4248b047a7e276105c60fbbfe0d02f57777edcf2", func := "windrose/windroselaw06.TopoFinds", spec := "topoFinds", inPlace := ["slices.overlaps[windrose/api.Choice]"], unfollowed := true, recurses := true, apart := false, narrowed := true }
def TopoFindsUptoSaid : Prop := topoFindsUptoRow.holds Try.pinned (OpenSpec.upto topoFindsSpec)

/-- 'windroselaw06.TopoSums', WHERE WHAT IT READS IS OF BULK AT MOST 1048576: true; the input reads as it did. -/
def topoSumsUptoRow : OpenClaim := { program := "ytkfakciimeiehaa", sum := "8cbec0be1ea40cec45ec075f4248b047a7e276105c60fbbfe0d02f57777edcf2", func := "windrose/windroselaw06.TopoSums", spec := "topoSums", inPlace := ["slices.overlaps[windrose/api.Choice]"], unfollowed := true, recurses := true, apart := false, narrowed := true }
def TopoSumsUptoSaid : Prop := topoSumsUptoRow.holds Try.pinned (OpenSpec.upto topoSumsSpec)

/-- 'windroselaw19.PostingsTurns', WHERE WHAT IT READS IS OF BULK AT MOST 1048576: true; the input reads as it did. -/
def postingsTurnsUptoRow : OpenClaim := { program := "ytkfakciimeiehaa", sum := "8cbec0be1ea40cec45ec075f4248b047a7e276105c60fbbfe0d02f57777edcf2", func := "windrose/windroselaw19.PostingsTurns", spec := "postingsTurns", inPlace := ["slices.overlaps[int]"], apart := false, narrowed := true }
def PostingsTurnsUptoSaid : Prop := postingsTurnsUptoRow.holds Try.pinned (OpenSpec.upto postingsTurnsSpec)

end Rows
end Go.Proofs.Ytkfakciimeiehaa
