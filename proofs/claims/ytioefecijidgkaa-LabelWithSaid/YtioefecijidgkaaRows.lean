/-
  No cell of these rows narrows 'for every input' (looked for: loops, veiled, ifaces, maps, wideKeys, modest, calm, conditions, laid).
  DERIVED. THE GIVEN ROWS OF THIS SEAT. 6 by the template 'for every input the law returns true; each argument reads behind the call as it read before'; 0 by the template 'total and deterministic' (their statements: YtioefecijidgkaaTotals.lean).
  GIVEN WITH THE SEED: the statements are not yours to turn. If you find one false, say at which input.
  Laid BY PROGRAM, IN A SANDBOX (cutbox-rows.mjs): the forced cells as the released guide's own fill.sh prints them over the translation 6bacad1b76e17a15… (all of the seat's roots in one cut). By AI agents, Wed Nov 11 2026. No macro, syntax, notation, axiom, sorry.
-/
import Derived.Test.YtioefecijidgkaaChecked
import GoSem.Claim
import GoSem.ClaimJoined
import GoSem.ClaimMapViews
import Derived.JoinedTies
import Derived.KernelRfl
namespace Go.Proofs.Ytioefecijidgkaa
/- THE CELL 'sum', in the pinned program and in every row, IS THE sha256 OF THE DUMP (.gsa) THAT YtioefecijidgkaaProg.lean LOADS. Nothing in Lean hashes anything: it is a label: what it is worth is what the hold of that sum in a sandbox is worth. -/
noncomputable def Try.pinned : Pinned := { name := "ytioefecijidgkaa", sum := "6bacad1b76e17a1548e53dad7213724303be596fe5b47ac2fe4a8f47c2916d58", checked := Try.checked }
namespace Rows
def none {H : Type} : Left H := { results := [], args := [] }

/-- 'windroselaw03.LabelPrints': WHATEVER THE INPUT: true; the input reads as it did. -/
def labelPrintsSpec : ChangeSpec := { name := "labelPrints", fn := fun _ => fun
  | [d] => { results := [.lit (.bool true)], args := [d] }
  | _ => none }
def labelPrintsRow : OpenClaim := { program := "ytioefecijidgkaa", sum := "6bacad1b76e17a1548e53dad7213724303be596fe5b47ac2fe4a8f47c2916d58", func := "windrose/windroselaw03.LabelPrints", spec := "labelPrints", inPlace := ["internal/bytealg.IndexByteString", "internal/bytealg.IndexString", "internal/bytealg.abigen_runtime_cmpstring", "internal/abi.NoEscape"], unfollowed := true, recurses := true, named := ["internal/bytealg.MaxLen"], apart := false }
def LabelPrintsSaid : Prop := labelPrintsRow.holds Try.pinned (OpenSpec.ofChange labelPrintsSpec)

/-- ITS FALSE NEIGHBOUR: 'it returns false'. Refute it at one input. -/
def labelPrintsWrong : ChangeSpec := { name := "labelPrints", fn := fun _ => fun
  | [d] => { results := [.lit (.bool false)], args := [d] }
  | _ => none }
def LabelPrintsWrongFalsely : Prop := labelPrintsRow.holds Try.pinned (OpenSpec.ofChange labelPrintsWrong)

/-- 'windroselaw03.LabelParses': WHATEVER THE INPUT: true; the input reads as it did. -/
def labelParsesSpec : ChangeSpec := { name := "labelParses", fn := fun _ => fun
  | [d] => { results := [.lit (.bool true)], args := [d] }
  | _ => none }
def labelParsesRow : OpenClaim := { program := "ytioefecijidgkaa", sum := "6bacad1b76e17a1548e53dad7213724303be596fe5b47ac2fe4a8f47c2916d58", func := "windrose/windroselaw03.LabelParses", spec := "labelParses", inPlace := ["internal/bytealg.IndexByteString", "internal/bytealg.IndexString", "internal/bytealg.abigen_runtime_cmpstring", "internal/abi.NoEscape"], unfollowed := true, recurses := true, named := ["internal/bytealg.MaxLen"], apart := false }
def LabelParsesSaid : Prop := labelParsesRow.holds Try.pinned (OpenSpec.ofChange labelParsesSpec)

/-- ITS FALSE NEIGHBOUR: 'it returns false'. Refute it at one input. -/
def labelParsesWrong : ChangeSpec := { name := "labelParses", fn := fun _ => fun
  | [d] => { results := [.lit (.bool false)], args := [d] }
  | _ => none }
def LabelParsesWrongFalsely : Prop := labelParsesRow.holds Try.pinned (OpenSpec.ofChange labelParsesWrong)

/-- 'windroselaw03.LabelApart': WHATEVER THE INPUT: true; the input reads as it did. -/
def labelApartSpec : ChangeSpec := { name := "labelApart", fn := fun _ => fun
  | [d1, d2] => { results := [.lit (.bool true)], args := [d1, d2] }
  | _ => none }
def labelApartRow : OpenClaim := { program := "ytioefecijidgkaa", sum := "6bacad1b76e17a1548e53dad7213724303be596fe5b47ac2fe4a8f47c2916d58", func := "windrose/windroselaw03.LabelApart", spec := "labelApart", inPlace := ["internal/bytealg.IndexByteString", "internal/bytealg.IndexString", "internal/bytealg.abigen_runtime_cmpstring", "internal/abi.NoEscape"], unfollowed := true, recurses := true, named := ["internal/bytealg.MaxLen"], apart := false }
def LabelApartSaid : Prop := labelApartRow.holds Try.pinned (OpenSpec.ofChange labelApartSpec)

/-- ITS FALSE NEIGHBOUR: 'it returns false'. Refute it at one input. -/
def labelApartWrong : ChangeSpec := { name := "labelApart", fn := fun _ => fun
  | [d1, d2] => { results := [.lit (.bool false)], args := [d1, d2] }
  | _ => none }
def LabelApartWrongFalsely : Prop := labelApartRow.holds Try.pinned (OpenSpec.ofChange labelApartWrong)

/-- 'windroselaw03.LabelWith': WHATEVER THE INPUT: true; the input reads as it did. -/
def labelWithSpec : ChangeSpec := { name := "labelWith", fn := fun _ => fun
  | [d1, d2, d3] => { results := [.lit (.bool true)], args := [d1, d2, d3] }
  | _ => none }
def labelWithRow : OpenClaim := { program := "ytioefecijidgkaa", sum := "6bacad1b76e17a1548e53dad7213724303be596fe5b47ac2fe4a8f47c2916d58", func := "windrose/windroselaw03.LabelWith", spec := "labelWith", inPlace := ["internal/bytealg.IndexByteString", "internal/bytealg.IndexString", "internal/bytealg.abigen_runtime_cmpstring", "internal/abi.NoEscape", "slices.overlaps[windrose/api.Label]"], unfollowed := true, recurses := true, named := ["internal/bytealg.MaxLen"], apart := false }
def LabelWithSaid : Prop := labelWithRow.holds Try.pinned (OpenSpec.ofChange labelWithSpec)

/-- ITS FALSE NEIGHBOUR: 'it returns false'. Refute it at one input. -/
def labelWithWrong : ChangeSpec := { name := "labelWith", fn := fun _ => fun
  | [d1, d2, d3] => { results := [.lit (.bool false)], args := [d1, d2, d3] }
  | _ => none }
def LabelWithWrongFalsely : Prop := labelWithRow.holds Try.pinned (OpenSpec.ofChange labelWithWrong)

/-- 'windroselaw28.PglogCodes': WHATEVER THE INPUT: true; the input reads as it did. -/
def pglogCodesSpec : ChangeSpec := { name := "pglogCodes", fn := fun _ => fun
  | [d1, d2] => { results := [.lit (.bool true)], args := [d1, d2] }
  | _ => none }
def pglogCodesRow : OpenClaim := { program := "ytioefecijidgkaa", sum := "6bacad1b76e17a1548e53dad7213724303be596fe5b47ac2fe4a8f47c2916d58", func := "windrose/windroselaw28.PglogCodes", spec := "pglogCodes", inPlace := ["internal/bytealg.IndexByteString", "internal/bytealg.IndexString", "internal/bytealg.abigen_runtime_cmpstring", "internal/abi.NoEscape"], unfollowed := true, recurses := true, named := ["internal/bytealg.MaxLen"], apart := false }
def PglogCodesSaid : Prop := pglogCodesRow.holds Try.pinned (OpenSpec.ofChange pglogCodesSpec)

/-- ITS FALSE NEIGHBOUR: 'it returns false'. Refute it at one input. -/
def pglogCodesWrong : ChangeSpec := { name := "pglogCodes", fn := fun _ => fun
  | [d1, d2] => { results := [.lit (.bool false)], args := [d1, d2] }
  | _ => none }
def PglogCodesWrongFalsely : Prop := pglogCodesRow.holds Try.pinned (OpenSpec.ofChange pglogCodesWrong)

/-- 'windroselaw28.PglogMeets': WHATEVER THE INPUT: true; the input reads as it did. -/
def pglogMeetsSpec : ChangeSpec := { name := "pglogMeets", fn := fun _ => fun
  | [d1, d2] => { results := [.lit (.bool true)], args := [d1, d2] }
  | _ => none }
def pglogMeetsRow : OpenClaim := { program := "ytioefecijidgkaa", sum := "6bacad1b76e17a1548e53dad7213724303be596fe5b47ac2fe4a8f47c2916d58", func := "windrose/windroselaw28.PglogMeets", spec := "pglogMeets", inPlace := ["internal/bytealg.IndexByteString", "internal/bytealg.IndexString", "internal/bytealg.abigen_runtime_cmpstring", "internal/abi.NoEscape"], unfollowed := true, recurses := true, named := ["internal/bytealg.MaxLen"], apart := false }
def PglogMeetsSaid : Prop := pglogMeetsRow.holds Try.pinned (OpenSpec.ofChange pglogMeetsSpec)

/-- ITS FALSE NEIGHBOUR: 'it returns false'. Refute it at one input. -/
def pglogMeetsWrong : ChangeSpec := { name := "pglogMeets", fn := fun _ => fun
  | [d1, d2] => { results := [.lit (.bool false)], args := [d1, d2] }
  | _ => none }
def PglogMeetsWrongFalsely : Prop := pglogMeetsRow.holds Try.pinned (OpenSpec.ofChange pglogMeetsWrong)

/- THE SECOND FORM. 'bulk': how many values and letters a reading holds, each counted each time it is reached (what is shared counts as often as it is met; a slice's spare places count too). A statement '..UptoSaid' is the law's where the arguments, and the package variables that the reading takes, are together of bulk at most 1048576: NARROWER than '..Said'. Prove '..Said' where nothing that the law and all that it calls make is longer than what came in: it says more and counts as full. Else prove '..UptoSaid'. A law counts once. -/
mutual
def uptoBulk {H : Type} : DataW H → Nat
  | .lit (.string bytes) => bytes.length + 1
  | .lit _ => 1
  | .nil => 1
  | .ptr d => uptoBulk d + 1
  | .slice elems spare => uptoBulkAll elems + uptoBulkAll spare + 1
  | .agg parts => uptoBulkAll parts + 1
  | .iface _ d => uptoBulk d + 1
  | .map entries => uptoBulkEntries entries + 1
  | .held _ => 1
def uptoBulkAll {H : Type} : List (DataW H) → Nat
  | [] => 0
  | d :: r => uptoBulk d + uptoBulkAll r
def uptoBulkEntries {H : Type} : List (Lit × DataW H) → Nat
  | [] => 0
  | x :: r => uptoBulkEntry x + uptoBulkEntries r
def uptoBulkEntry {H : Type} : Lit × DataW H → Nat
  | (.string bytes, d) => bytes.length + uptoBulk d + 1
  | (_, d) => uptoBulk d + 1
 end
def uptoSmall : (H : Type) → List (DataW H) → Bool := fun _ ds => decide (uptoBulkAll ds ≤ 1048576)
def OpenSpec.upto (s : _root_.Go.ChangeSpec) : _root_.Go.OpenSpec := { _root_.Go.OpenSpec.ofChange s with cond := some uptoSmall }

/-- 'windroselaw03.LabelPrints', WHERE WHAT IT READS IS OF BULK AT MOST 1048576: true; the input reads as it did. -/
def labelPrintsUptoRow : OpenClaim := { program := "ytioefecijidgkaa", sum := "6bacad1b76e17a1548e53dad7213724303be596fe5b47ac2fe4a8f47c2916d58", func := "windrose/windroselaw03.LabelPrints", spec := "labelPrints", inPlace := ["internal/bytealg.IndexByteString", "internal/bytealg.IndexString", "internal/bytealg.abigen_runtime_cmpstring", "internal/abi.NoEscape"], unfollowed := true, recurses := true, named := ["internal/bytealg.MaxLen"], apart := false, narrowed := true }
def LabelPrintsUptoSaid : Prop := labelPrintsUptoRow.holds Try.pinned (OpenSpec.upto labelPrintsSpec)

/-- 'windroselaw03.LabelParses', WHERE WHAT IT READS IS OF BULK AT MOST 1048576: true; the input reads as it did. -/
def labelParsesUptoRow : OpenClaim := { program := "ytioefecijidgkaa", sum := "6bacad1b76e17a1548e53dad7213724303be596fe5b47ac2fe4a8f47c2916d58", func := "windrose/windroselaw03.LabelParses", spec := "labelParses", inPlace := ["internal/bytealg.IndexByteString", "internal/bytealg.IndexString", "internal/bytealg.abigen_runtime_cmpstring", "internal/abi.NoEscape"], unfollowed := true, recurses := true, named := ["internal/bytealg.MaxLen"], apart := false, narrowed := true }
def LabelParsesUptoSaid : Prop := labelParsesUptoRow.holds Try.pinned (OpenSpec.upto labelParsesSpec)

/-- 'windroselaw03.LabelApart', WHERE WHAT IT READS IS OF BULK AT MOST 1048576: true; the input reads as it did. -/
def labelApartUptoRow : OpenClaim := { program := "ytioefecijidgkaa", sum := "6bacad1b76e17a1548e53dad7213724303be596fe5b47ac2fe4a8f47c2916d58", func := "windrose/windroselaw03.LabelApart", spec := "labelApart", inPlace := ["internal/bytealg.IndexByteString", "internal/bytealg.IndexString", "internal/bytealg.abigen_runtime_cmpstring", "internal/abi.NoEscape"], unfollowed := true, recurses := true, named := ["internal/bytealg.MaxLen"], apart := false, narrowed := true }
def LabelApartUptoSaid : Prop := labelApartUptoRow.holds Try.pinned (OpenSpec.upto labelApartSpec)

/-- 'windroselaw03.LabelWith', WHERE WHAT IT READS IS OF BULK AT MOST 1048576: true; the input reads as it did. -/
def labelWithUptoRow : OpenClaim := { program := "ytioefecijidgkaa", sum := "6bacad1b76e17a1548e53dad7213724303be596fe5b47ac2fe4a8f47c2916d58", func := "windrose/windroselaw03.LabelWith", spec := "labelWith", inPlace := ["internal/bytealg.IndexByteString", "internal/bytealg.IndexString", "internal/bytealg.abigen_runtime_cmpstring", "internal/abi.NoEscape", "slices.overlaps[windrose/api.Label]"], unfollowed := true, recurses := true, named := ["internal/bytealg.MaxLen"], apart := false, narrowed := true }
def LabelWithUptoSaid : Prop := labelWithUptoRow.holds Try.pinned (OpenSpec.upto labelWithSpec)

/-- 'windroselaw28.PglogCodes', WHERE WHAT IT READS IS OF BULK AT MOST 1048576: true; the input reads as it did. -/
def pglogCodesUptoRow : OpenClaim := { program := "ytioefecijidgkaa", sum := "6bacad1b76e17a1548e53dad7213724303be596fe5b47ac2fe4a8f47c2916d58", func := "windrose/windroselaw28.PglogCodes", spec := "pglogCodes", inPlace := ["internal/bytealg.IndexByteString", "internal/bytealg.IndexString", "internal/bytealg.abigen_runtime_cmpstring", "internal/abi.NoEscape"], unfollowed := true, recurses := true, named := ["internal/bytealg.MaxLen"], apart := false, narrowed := true }
def PglogCodesUptoSaid : Prop := pglogCodesUptoRow.holds Try.pinned (OpenSpec.upto pglogCodesSpec)

/-- 'windroselaw28.PglogMeets', WHERE WHAT IT READS IS OF BULK AT MOST 1048576: true; the input reads as it did. -/
def pglogMeetsUptoRow : OpenClaim := { program := "ytioefecijidgkaa", sum := "6bacad1b76e17a1548e53dad7213724303be596fe5b47ac2fe4a8f47c2916d58", func := "windrose/windroselaw28.PglogMeets", spec := "pglogMeets", inPlace := ["internal/bytealg.IndexByteString", "internal/bytealg.IndexString", "internal/bytealg.abigen_runtime_cmpstring", "internal/abi.NoEscape"], unfollowed := true, recurses := true, named := ["internal/bytealg.MaxLen"], apart := false, narrowed := true }
def PglogMeetsUptoSaid : Prop := pglogMeetsUptoRow.holds Try.pinned (OpenSpec.upto pglogMeetsSpec)

end Rows
end Go.Proofs.Ytioefecijidgkaa
