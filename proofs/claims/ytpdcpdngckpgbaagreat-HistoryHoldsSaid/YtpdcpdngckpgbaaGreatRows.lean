/-
  No cell of these rows narrows 'for every input' (looked for: loops, veiled, ifaces, maps, wideKeys, modest, calm, conditions, laid).
  DERIVED. THE GIVEN ROWS OF THIS SEAT. 8 by the template 'for every input the law returns true; each argument reads behind the call as it read before'; 0 by the template 'total and deterministic' (their statements: YtpdcpdngckpgbaaGreatTotals.lean).
  GIVEN WITH THE SEED: the statements are not yours to turn. If you find one false, say at which input.
  Laid BY PROGRAM, IN A SANDBOX (cutbox-rows.mjs): the forced cells as the released guide's own fill.sh prints them over the translation e5fbc856a4ede288… (all of the seat's roots in one cut). By AI agents, Wed Nov 11 2026. No macro, syntax, notation, axiom, sorry.
-/
import Derived.Test.YtpdcpdngckpgbaaGreatChecked
import GoSem.Claim
import GoSem.ClaimJoined
import GoSem.ClaimMapViews
import Derived.JoinedTies
import Derived.KernelRfl
namespace Go.Proofs.YtpdcpdngckpgbaaGreat
/- THE CELL 'sum', in the pinned program and in every row, IS THE sha256 OF THE DUMP (.gsa) THAT YtpdcpdngckpgbaaGreatProg.lean LOADS. Nothing in Lean hashes anything: it is a label: what it is worth is what the hold of that sum in a sandbox is worth. -/
noncomputable def Tryz.pinned : Pinned := { name := "ytpdcpdngckpgbaagreat", sum := "e5fbc856a4ede288cc48b7e9adafc7738d7035e7abd1064083cc88cb86d84e48", checked := Tryz.checked }
namespace Rows
def none {H : Type} : Left H := { results := [], args := [] }

/-- 'windroselaw20.IndexCodes': WHATEVER THE INPUT: true; the input reads as it did. -/
def indexCodesSpec : ChangeSpec := { name := "indexCodes", fn := fun _ => fun
  | [d1, d2] => { results := [.lit (.bool true)], args := [d1, d2] }
  | _ => none }
def indexCodesRow : OpenClaim := { program := "ytpdcpdngckpgbaagreat", sum := "e5fbc856a4ede288cc48b7e9adafc7738d7035e7abd1064083cc88cb86d84e48", func := "windrose/windroselaw20.IndexCodes", spec := "indexCodes", inPlace := ["internal/bytealg.IndexByteString", "internal/bytealg.IndexString", "internal/bytealg.abigen_runtime_cmpstring", "internal/abi.NoEscape", "slices.overlaps[windrose/api.Post]", "slices.overlaps[int]"], unfollowed := true, recurses := true, named := ["internal/bytealg.MaxLen"], apart := false }
def IndexCodesSaid : Prop := indexCodesRow.holds Tryz.pinned (OpenSpec.ofChange indexCodesSpec)

/-- ITS FALSE NEIGHBOUR: 'it returns false'. Refute it at one input. -/
def indexCodesWrong : ChangeSpec := { name := "indexCodes", fn := fun _ => fun
  | [d1, d2] => { results := [.lit (.bool false)], args := [d1, d2] }
  | _ => none }
def IndexCodesWrongFalsely : Prop := indexCodesRow.holds Tryz.pinned (OpenSpec.ofChange indexCodesWrong)

/-- 'windroselaw20.IndexGoes': WHATEVER THE INPUT: true; the input reads as it did. -/
def indexGoesSpec : ChangeSpec := { name := "indexGoes", fn := fun _ => fun
  | [d1, d2] => { results := [.lit (.bool true)], args := [d1, d2] }
  | _ => none }
def indexGoesRow : OpenClaim := { program := "ytpdcpdngckpgbaagreat", sum := "e5fbc856a4ede288cc48b7e9adafc7738d7035e7abd1064083cc88cb86d84e48", func := "windrose/windroselaw20.IndexGoes", spec := "indexGoes", inPlace := ["internal/bytealg.IndexByteString", "internal/bytealg.IndexString", "internal/bytealg.abigen_runtime_cmpstring", "internal/abi.NoEscape", "slices.overlaps[windrose/api.Post]", "slices.overlaps[int]"], unfollowed := true, recurses := true, named := ["internal/bytealg.MaxLen"], apart := false }
def IndexGoesSaid : Prop := indexGoesRow.holds Tryz.pinned (OpenSpec.ofChange indexGoesSpec)

/-- ITS FALSE NEIGHBOUR: 'it returns false'. Refute it at one input. -/
def indexGoesWrong : ChangeSpec := { name := "indexGoes", fn := fun _ => fun
  | [d1, d2] => { results := [.lit (.bool false)], args := [d1, d2] }
  | _ => none }
def IndexGoesWrongFalsely : Prop := indexGoesRow.holds Tryz.pinned (OpenSpec.ofChange indexGoesWrong)

/-- 'windroselaw20.IndexTurns': WHATEVER THE INPUT: true; the input reads as it did. -/
def indexTurnsSpec : ChangeSpec := { name := "indexTurns", fn := fun _ => fun
  | [d1, d2, d3] => { results := [.lit (.bool true)], args := [d1, d2, d3] }
  | _ => none }
def indexTurnsRow : OpenClaim := { program := "ytpdcpdngckpgbaagreat", sum := "e5fbc856a4ede288cc48b7e9adafc7738d7035e7abd1064083cc88cb86d84e48", func := "windrose/windroselaw20.IndexTurns", spec := "indexTurns", inPlace := ["internal/bytealg.IndexByteString", "internal/bytealg.IndexString", "internal/bytealg.abigen_runtime_cmpstring", "internal/abi.NoEscape", "slices.overlaps[windrose/api.Post]", "slices.overlaps[int]"], unfollowed := true, recurses := true, named := ["internal/bytealg.MaxLen"], apart := false }
def IndexTurnsSaid : Prop := indexTurnsRow.holds Tryz.pinned (OpenSpec.ofChange indexTurnsSpec)

/-- ITS FALSE NEIGHBOUR: 'it returns false'. Refute it at one input. -/
def indexTurnsWrong : ChangeSpec := { name := "indexTurns", fn := fun _ => fun
  | [d1, d2, d3] => { results := [.lit (.bool false)], args := [d1, d2, d3] }
  | _ => none }
def IndexTurnsWrongFalsely : Prop := indexTurnsRow.holds Tryz.pinned (OpenSpec.ofChange indexTurnsWrong)

/-- 'windroselaw34.HistoryFinds': WHATEVER THE INPUT: true; the input reads as it did. -/
def historyFindsSpec : ChangeSpec := { name := "historyFinds", fn := fun _ => fun
  | [d1, d2] => { results := [.lit (.bool true)], args := [d1, d2] }
  | _ => none }
def historyFindsRow : OpenClaim := { program := "ytpdcpdngckpgbaagreat", sum := "e5fbc856a4ede288cc48b7e9adafc7738d7035e7abd1064083cc88cb86d84e48", func := "windrose/windroselaw34.HistoryFinds", spec := "historyFinds", inPlace := ["internal/bytealg.IndexByteString", "internal/bytealg.IndexString", "internal/bytealg.abigen_runtime_cmpstring", "internal/abi.NoEscape", "slices.overlaps[windrose/api.Line]", "slices.overlaps[windrose/api.Sample]", "slices.overlaps[windrose/api.Done]"], unfollowed := true, recurses := true, named := ["internal/bytealg.MaxLen"], apart := false }
def HistoryFindsSaid : Prop := historyFindsRow.holds Tryz.pinned (OpenSpec.ofChange historyFindsSpec)

/-- ITS FALSE NEIGHBOUR: 'it returns false'. Refute it at one input. -/
def historyFindsWrong : ChangeSpec := { name := "historyFinds", fn := fun _ => fun
  | [d1, d2] => { results := [.lit (.bool false)], args := [d1, d2] }
  | _ => none }
def HistoryFindsWrongFalsely : Prop := historyFindsRow.holds Tryz.pinned (OpenSpec.ofChange historyFindsWrong)

/-- 'windroselaw34.HistoryFound': WHATEVER THE INPUT: true; the input reads as it did. -/
def historyFoundSpec : ChangeSpec := { name := "historyFound", fn := fun _ => fun
  | [d1, d2] => { results := [.lit (.bool true)], args := [d1, d2] }
  | _ => none }
def historyFoundRow : OpenClaim := { program := "ytpdcpdngckpgbaagreat", sum := "e5fbc856a4ede288cc48b7e9adafc7738d7035e7abd1064083cc88cb86d84e48", func := "windrose/windroselaw34.HistoryFound", spec := "historyFound", inPlace := ["internal/bytealg.IndexByteString", "internal/bytealg.IndexString", "internal/bytealg.abigen_runtime_cmpstring", "internal/abi.NoEscape", "slices.overlaps[windrose/api.Line]", "slices.overlaps[windrose/api.Sample]", "slices.overlaps[windrose/api.Done]"], unfollowed := true, recurses := true, named := ["internal/bytealg.MaxLen"], apart := false }
def HistoryFoundSaid : Prop := historyFoundRow.holds Tryz.pinned (OpenSpec.ofChange historyFoundSpec)

/-- ITS FALSE NEIGHBOUR: 'it returns false'. Refute it at one input. -/
def historyFoundWrong : ChangeSpec := { name := "historyFound", fn := fun _ => fun
  | [d1, d2] => { results := [.lit (.bool false)], args := [d1, d2] }
  | _ => none }
def HistoryFoundWrongFalsely : Prop := historyFoundRow.holds Tryz.pinned (OpenSpec.ofChange historyFoundWrong)

/-- 'windroselaw34.HistoryHolds': WHATEVER THE INPUT: true; the input reads as it did. -/
def historyHoldsSpec : ChangeSpec := { name := "historyHolds", fn := fun _ => fun
  | [d1, d2] => { results := [.lit (.bool true)], args := [d1, d2] }
  | _ => none }
def historyHoldsRow : OpenClaim := { program := "ytpdcpdngckpgbaagreat", sum := "e5fbc856a4ede288cc48b7e9adafc7738d7035e7abd1064083cc88cb86d84e48", func := "windrose/windroselaw34.HistoryHolds", spec := "historyHolds", inPlace := ["internal/bytealg.IndexByteString", "internal/bytealg.IndexString", "internal/bytealg.abigen_runtime_cmpstring", "internal/abi.NoEscape", "slices.overlaps[windrose/api.Line]", "slices.overlaps[windrose/api.Sample]", "slices.overlaps[windrose/api.Done]"], unfollowed := true, recurses := true, named := ["internal/bytealg.MaxLen"], apart := false }
def HistoryHoldsSaid : Prop := historyHoldsRow.holds Tryz.pinned (OpenSpec.ofChange historyHoldsSpec)

/-- ITS FALSE NEIGHBOUR: 'it returns false'. Refute it at one input. -/
def historyHoldsWrong : ChangeSpec := { name := "historyHolds", fn := fun _ => fun
  | [d1, d2] => { results := [.lit (.bool false)], args := [d1, d2] }
  | _ => none }
def HistoryHoldsWrongFalsely : Prop := historyHoldsRow.holds Tryz.pinned (OpenSpec.ofChange historyHoldsWrong)

/-- 'windroselaw34.HistoryChecks': WHATEVER THE INPUT: true; the input reads as it did. -/
def historyChecksSpec : ChangeSpec := { name := "historyChecks", fn := fun _ => fun
  | [d1, d2, d3] => { results := [.lit (.bool true)], args := [d1, d2, d3] }
  | _ => none }
def historyChecksRow : OpenClaim := { program := "ytpdcpdngckpgbaagreat", sum := "e5fbc856a4ede288cc48b7e9adafc7738d7035e7abd1064083cc88cb86d84e48", func := "windrose/windroselaw34.HistoryChecks", spec := "historyChecks", inPlace := ["internal/bytealg.IndexByteString", "internal/bytealg.IndexString", "internal/bytealg.abigen_runtime_cmpstring", "internal/abi.NoEscape", "slices.overlaps[windrose/api.Line]", "slices.overlaps[windrose/api.Sample]", "slices.overlaps[windrose/api.Done]"], unfollowed := true, recurses := true, named := ["internal/bytealg.MaxLen"], apart := false }
def HistoryChecksSaid : Prop := historyChecksRow.holds Tryz.pinned (OpenSpec.ofChange historyChecksSpec)

/-- ITS FALSE NEIGHBOUR: 'it returns false'. Refute it at one input. -/
def historyChecksWrong : ChangeSpec := { name := "historyChecks", fn := fun _ => fun
  | [d1, d2, d3] => { results := [.lit (.bool false)], args := [d1, d2, d3] }
  | _ => none }
def HistoryChecksWrongFalsely : Prop := historyChecksRow.holds Tryz.pinned (OpenSpec.ofChange historyChecksWrong)

/-- 'windroselaw34.HistoryExplains': WHATEVER THE INPUT: true; the input reads as it did. -/
def historyExplainsSpec : ChangeSpec := { name := "historyExplains", fn := fun _ => fun
  | [d1, d2] => { results := [.lit (.bool true)], args := [d1, d2] }
  | _ => none }
def historyExplainsRow : OpenClaim := { program := "ytpdcpdngckpgbaagreat", sum := "e5fbc856a4ede288cc48b7e9adafc7738d7035e7abd1064083cc88cb86d84e48", func := "windrose/windroselaw34.HistoryExplains", spec := "historyExplains", inPlace := ["internal/bytealg.IndexByteString", "internal/bytealg.IndexString", "internal/bytealg.abigen_runtime_cmpstring", "internal/abi.NoEscape", "slices.overlaps[windrose/api.Line]", "slices.overlaps[windrose/api.Sample]", "slices.overlaps[windrose/api.Done]"], unfollowed := true, recurses := true, named := ["internal/bytealg.MaxLen"], apart := false }
def HistoryExplainsSaid : Prop := historyExplainsRow.holds Tryz.pinned (OpenSpec.ofChange historyExplainsSpec)

/-- ITS FALSE NEIGHBOUR: 'it returns false'. Refute it at one input. -/
def historyExplainsWrong : ChangeSpec := { name := "historyExplains", fn := fun _ => fun
  | [d1, d2] => { results := [.lit (.bool false)], args := [d1, d2] }
  | _ => none }
def HistoryExplainsWrongFalsely : Prop := historyExplainsRow.holds Tryz.pinned (OpenSpec.ofChange historyExplainsWrong)

/- THE SECOND FORM. 'bulk': how many values and letters a reading holds, each counted each time it is reached (what is shared counts as often as it is met; a slice's spare places count too). A statement '..UptoSaid' is the law's where the arguments, and the package variables that the reading takes, are together of bulk at most 1048576: NARROWER than '..Said'. Prove '..Said' where nothing that the law and all that it calls make is longer than what came in: it says more and counts as full. Else prove '..UptoSaid'. A law counts once. -/
mutual
def uptoBulk {H : Type} : DataW H → Nat
  | .lit (.string bytes) => bytes.length + 1
  | .lit _ => 1
  | .nil => 1
  | .ptr d => uptoBulk d + 1
  | .slice elems spare => uptoBulkAll elems + uptoBulkAll spare + 1
  | .agg parts => uptoBulkAll parts + 1
  | .iface _ d => uptoBulk d + 1
  | .map entries => uptoBulkEntries entries + 1
  | .held _ => 1
def uptoBulkAll {H : Type} : List (DataW H) → Nat
  | [] => 0
  | d :: r => uptoBulk d + uptoBulkAll r
def uptoBulkEntries {H : Type} : List (Lit × DataW H) → Nat
  | [] => 0
  | x :: r => uptoBulkEntry x + uptoBulkEntries r
def uptoBulkEntry {H : Type} : Lit × DataW H → Nat
  | (.string bytes, d) => bytes.length + uptoBulk d + 1
  | (_, d) => uptoBulk d + 1
 end
def uptoSmall : (H : Type) → List (DataW H) → Bool := fun _ ds => decide (uptoBulkAll ds ≤ 1048576)
def OpenSpec.upto (s : _root_.Go.ChangeSpec) : _root_.Go.OpenSpec := { _root_.Go.OpenSpec.ofChange s with cond := some uptoSmall }

/-- 'windroselaw20.IndexCodes', WHERE WHAT IT READS IS OF BULK AT MOST 1048576: true; the input reads as it did. -/
def indexCodesUptoRow : OpenClaim := { program := "ytpdcpdngckpgbaagreat", sum := "e5fbc856a4ede288cc48b7e9adafc7738d7035e7abd1064083cc88cb86d84e48", func := "windrose/windroselaw20.IndexCodes", spec := "indexCodes", inPlace := ["internal/bytealg.IndexByteString", "internal/bytealg.IndexString", "internal/bytealg.abigen_runtime_cmpstring", "internal/abi.NoEscape", "slices.overlaps[windrose/api.Post]", "slices.overlaps[int]"], unfollowed := true, recurses := true, named := ["internal/bytealg.MaxLen"], apart := false, narrowed := true }
def IndexCodesUptoSaid : Prop := indexCodesUptoRow.holds Tryz.pinned (OpenSpec.upto indexCodesSpec)

/-- 'windroselaw20.IndexGoes', WHERE WHAT IT READS IS OF BULK AT MOST 1048576: true; the input reads as it did. -/
def indexGoesUptoRow : OpenClaim := { program := "ytpdcpdngckpgbaagreat", sum := "e5fbc856a4ede288cc48b7e9adafc7738d7035e7abd1064083cc88cb86d84e48", func := "windrose/windroselaw20.IndexGoes", spec := "indexGoes", inPlace := ["internal/bytealg.IndexByteString", "internal/bytealg.IndexString", "internal/bytealg.abigen_runtime_cmpstring", "internal/abi.NoEscape", "slices.overlaps[windrose/api.Post]", "slices.overlaps[int]"], unfollowed := true, recurses := true, named := ["internal/bytealg.MaxLen"], apart := false, narrowed := true }
def IndexGoesUptoSaid : Prop := indexGoesUptoRow.holds Tryz.pinned (OpenSpec.upto indexGoesSpec)

/-- 'windroselaw20.IndexTurns', WHERE WHAT IT READS IS OF BULK AT MOST 1048576: true; the input reads as it did. -/
def indexTurnsUptoRow : OpenClaim := { program := "ytpdcpdngckpgbaagreat", sum := "e5fbc856a4ede288cc48b7e9adafc7738d7035e7abd1064083cc88cb86d84e48", func := "windrose/windroselaw20.IndexTurns", spec := "indexTurns", inPlace := ["internal/bytealg.IndexByteString", "internal/bytealg.IndexString", "internal/bytealg.abigen_runtime_cmpstring", "internal/abi.NoEscape", "slices.overlaps[windrose/api.Post]", "slices.overlaps[int]"], unfollowed := true, recurses := true, named := ["internal/bytealg.MaxLen"], apart := false, narrowed := true }
def IndexTurnsUptoSaid : Prop := indexTurnsUptoRow.holds Tryz.pinned (OpenSpec.upto indexTurnsSpec)

/-- 'windroselaw34.HistoryFinds', WHERE WHAT IT READS IS OF BULK AT MOST 1048576: true; the input reads as it did. -/
def historyFindsUptoRow : OpenClaim := { program := "ytpdcpdngckpgbaagreat", sum := "e5fbc856a4ede288cc48b7e9adafc7738d7035e7abd1064083cc88cb86d84e48", func := "windrose/windroselaw34.HistoryFinds", spec := "historyFinds", inPlace := ["internal/bytealg.IndexByteString", "internal/bytealg.IndexString", "internal/bytealg.abigen_runtime_cmpstring", "internal/abi.NoEscape", "slices.overlaps[windrose/api.Line]", "slices.overlaps[windrose/api.Sample]", "slices.overlaps[windrose/api.Done]"], unfollowed := true, recurses := true, named := ["internal/bytealg.MaxLen"], apart := false, narrowed := true }
def HistoryFindsUptoSaid : Prop := historyFindsUptoRow.holds Tryz.pinned (OpenSpec.upto historyFindsSpec)

/-- 'windroselaw34.HistoryFound', WHERE WHAT IT READS IS OF BULK AT MOST 1048576: true; the input reads as it did. -/
def historyFoundUptoRow : OpenClaim := { program := "ytpdcpdngckpgbaagreat", sum := "e5fbc856a4ede288cc48b7e9adafc7738d7035e7abd1064083cc88cb86d84e48", func := "windrose/windroselaw34.HistoryFound", spec := "historyFound", inPlace := ["internal/bytealg.IndexByteString", "internal/bytealg.IndexString", "internal/bytealg.abigen_runtime_cmpstring", "internal/abi.NoEscape", "slices.overlaps[windrose/api.Line]", "slices.overlaps[windrose/api.Sample]", "slices.overlaps[windrose/api.Done]"], unfollowed := true, recurses := true, named := ["internal/bytealg.MaxLen"], apart := false, narrowed := true }
def HistoryFoundUptoSaid : Prop := historyFoundUptoRow.holds Tryz.pinned (OpenSpec.upto historyFoundSpec)

/-- 'windroselaw34.HistoryHolds', WHERE WHAT IT READS IS OF BULK AT MOST 1048576: true; the input reads as it did. -/
def historyHoldsUptoRow : OpenClaim := { program := "ytpdcpdngckpgbaagreat", sum := "e5fbc856a4ede288cc48b7e9adafc7738d7035e7abd1064083cc88cb86d84e48", func := "windrose/windroselaw34.HistoryHolds", spec := "historyHolds", inPlace := ["internal/bytealg.IndexByteString", "internal/bytealg.IndexString", "internal/bytealg.abigen_runtime_cmpstring", "internal/abi.NoEscape", "slices.overlaps[windrose/api.Line]", "slices.overlaps[windrose/api.Sample]", "slices.overlaps[windrose/api.Done]"], unfollowed := true, recurses := true, named := ["internal/bytealg.MaxLen"], apart := false, narrowed := true }
def HistoryHoldsUptoSaid : Prop := historyHoldsUptoRow.holds Tryz.pinned (OpenSpec.upto historyHoldsSpec)

/-- 'windroselaw34.HistoryChecks', WHERE WHAT IT READS IS OF BULK AT MOST 1048576: true; the input reads as it did. -/
def historyChecksUptoRow : OpenClaim := { program := "ytpdcpdngckpgbaagreat", sum := "e5fbc856a4ede288cc48b7e9adafc7738d7035e7abd1064083cc88cb86d84e48", func := "windrose/windroselaw34.HistoryChecks", spec := "historyChecks", inPlace := ["internal/bytealg.IndexByteString", "internal/bytealg.IndexString", "internal/bytealg.abigen_runtime_cmpstring", "internal/abi.NoEscape", "slices.overlaps[windrose/api.Line]", "slices.overlaps[windrose/api.Sample]", "slices.overlaps[windrose/api.Done]"], unfollowed := true, recurses := true, named := ["internal/bytealg.MaxLen"], apart := false, narrowed := true }
def HistoryChecksUptoSaid : Prop := historyChecksUptoRow.holds Tryz.pinned (OpenSpec.upto historyChecksSpec)

/-- 'windroselaw34.HistoryExplains', WHERE WHAT IT READS IS OF BULK AT MOST 1048576: true; the input reads as it did. -/
def historyExplainsUptoRow : OpenClaim := { program := "ytpdcpdngckpgbaagreat", sum := "e5fbc856a4ede288cc48b7e9adafc7738d7035e7abd1064083cc88cb86d84e48", func := "windrose/windroselaw34.HistoryExplains", spec := "historyExplains", inPlace := ["internal/bytealg.IndexByteString", "internal/bytealg.IndexString", "internal/bytealg.abigen_runtime_cmpstring", "internal/abi.NoEscape", "slices.overlaps[windrose/api.Line]", "slices.overlaps[windrose/api.Sample]", "slices.overlaps[windrose/api.Done]"], unfollowed := true, recurses := true, named := ["internal/bytealg.MaxLen"], apart := false, narrowed := true }
def HistoryExplainsUptoSaid : Prop := historyExplainsUptoRow.holds Tryz.pinned (OpenSpec.upto historyExplainsSpec)

end Rows
end Go.Proofs.YtpdcpdngckpgbaaGreat
