/-
  No cell of these rows narrows 'for every input' (looked for: loops, veiled, ifaces, maps, wideKeys, modest, calm, conditions, laid).
  DERIVED. THE GIVEN ROWS OF THIS SEAT. 6 by the template 'for every input the law returns true; each argument reads behind the call as it read before'; 0 by the template 'total and deterministic' (their statements: YtcmkhlfjcdchmaaGreatTotals.lean).
  GIVEN WITH THE SEED: the statements are not yours to turn. If you find one false, say at which input.
  Laid BY PROGRAM, IN A SANDBOX (cutbox-rows.mjs): the forced cells as the released guide's own fill.sh prints them over the translation 523ca650039bd4f8… (all of the seat's roots in one cut). By AI agents, Wed Nov 11 2026. No macro, syntax, notation, axiom, sorry.
-/
import Derived.Test.YtcmkhlfjcdchmaaGreatChecked
import GoSem.Claim
import GoSem.ClaimJoined
import GoSem.ClaimMapViews
import Derived.JoinedTies
import Derived.KernelRfl
namespace Go.Proofs.YtcmkhlfjcdchmaaGreat
/- THE CELL 'sum', in the pinned program and in every row, IS THE sha256 OF THE DUMP (.gsa) THAT YtcmkhlfjcdchmaaGreatProg.lean LOADS. Nothing in Lean hashes anything: it is a label: what it is worth is what the hold of that sum in a sandbox is worth. -/
noncomputable def Tryz.pinned : Pinned := { name := "ytcmkhlfjcdchmaagreat", sum := "523ca650039bd4f8a5048a38b3874be4f1756c47e66a98aa419dbf59a5504cf0", checked := Tryz.checked }
namespace Rows
def none {H : Type} : Left H := { results := [], args := [] }

/-- 'windroselaw14.ShelfFolds': WHATEVER THE INPUT: true; the input reads as it did. -/
def shelfFoldsSpec : ChangeSpec := { name := "shelfFolds", fn := fun _ => fun
  | [d] => { results := [.lit (.bool true)], args := [d] }
  | _ => none }
def shelfFoldsRow : OpenClaim := { program := "ytcmkhlfjcdchmaagreat", sum := "523ca650039bd4f8a5048a38b3874be4f1756c47e66a98aa419dbf59a5504cf0", func := "windrose/windroselaw14.ShelfFolds", spec := "shelfFolds", inPlace := ["internal/bytealg.IndexByteString", "internal/bytealg.IndexString", "internal/bytealg.abigen_runtime_cmpstring", "internal/abi.NoEscape", "slices.overlaps[windrose/api.Line]", "slices.overlaps[windrose/api.Sample]", "slices.overlaps[windrose/api.Done]"], unfollowed := true, recurses := true, named := ["internal/bytealg.MaxLen"], apart := false }
def ShelfFoldsSaid : Prop := shelfFoldsRow.holds Tryz.pinned (OpenSpec.ofChange shelfFoldsSpec)

/-- ITS FALSE NEIGHBOUR: 'it returns false'. Refute it at one input. -/
def shelfFoldsWrong : ChangeSpec := { name := "shelfFolds", fn := fun _ => fun
  | [d] => { results := [.lit (.bool false)], args := [d] }
  | _ => none }
def ShelfFoldsWrongFalsely : Prop := shelfFoldsRow.holds Tryz.pinned (OpenSpec.ofChange shelfFoldsWrong)

/-- 'windroselaw14.ShelfOnce': WHATEVER THE INPUT: true; the input reads as it did. -/
def shelfOnceSpec : ChangeSpec := { name := "shelfOnce", fn := fun _ => fun
  | [d1, d2, d3] => { results := [.lit (.bool true)], args := [d1, d2, d3] }
  | _ => none }
def shelfOnceRow : OpenClaim := { program := "ytcmkhlfjcdchmaagreat", sum := "523ca650039bd4f8a5048a38b3874be4f1756c47e66a98aa419dbf59a5504cf0", func := "windrose/windroselaw14.ShelfOnce", spec := "shelfOnce", inPlace := ["internal/bytealg.IndexByteString", "internal/bytealg.IndexString", "internal/bytealg.abigen_runtime_cmpstring", "internal/abi.NoEscape", "slices.overlaps[windrose/api.Line]", "slices.overlaps[windrose/api.Sample]", "slices.overlaps[windrose/api.Done]"], unfollowed := true, recurses := true, named := ["internal/bytealg.MaxLen"], apart := false }
def ShelfOnceSaid : Prop := shelfOnceRow.holds Tryz.pinned (OpenSpec.ofChange shelfOnceSpec)

/-- ITS FALSE NEIGHBOUR: 'it returns false'. Refute it at one input. -/
def shelfOnceWrong : ChangeSpec := { name := "shelfOnce", fn := fun _ => fun
  | [d1, d2, d3] => { results := [.lit (.bool false)], args := [d1, d2, d3] }
  | _ => none }
def ShelfOnceWrongFalsely : Prop := shelfOnceRow.holds Tryz.pinned (OpenSpec.ofChange shelfOnceWrong)

/-- 'windroselaw14.ShelfTrims': WHATEVER THE INPUT: true; the input reads as it did. -/
def shelfTrimsSpec : ChangeSpec := { name := "shelfTrims", fn := fun _ => fun
  | [d1, d2] => { results := [.lit (.bool true)], args := [d1, d2] }
  | _ => none }
def shelfTrimsRow : OpenClaim := { program := "ytcmkhlfjcdchmaagreat", sum := "523ca650039bd4f8a5048a38b3874be4f1756c47e66a98aa419dbf59a5504cf0", func := "windrose/windroselaw14.ShelfTrims", spec := "shelfTrims", inPlace := ["internal/bytealg.IndexByteString", "internal/bytealg.IndexString", "internal/bytealg.abigen_runtime_cmpstring", "internal/abi.NoEscape", "slices.overlaps[windrose/api.Line]", "slices.overlaps[windrose/api.Sample]", "slices.overlaps[windrose/api.Done]"], unfollowed := true, recurses := true, named := ["internal/bytealg.MaxLen"], apart := false }
def ShelfTrimsSaid : Prop := shelfTrimsRow.holds Tryz.pinned (OpenSpec.ofChange shelfTrimsSpec)

/-- ITS FALSE NEIGHBOUR: 'it returns false'. Refute it at one input. -/
def shelfTrimsWrong : ChangeSpec := { name := "shelfTrims", fn := fun _ => fun
  | [d1, d2] => { results := [.lit (.bool false)], args := [d1, d2] }
  | _ => none }
def ShelfTrimsWrongFalsely : Prop := shelfTrimsRow.holds Tryz.pinned (OpenSpec.ofChange shelfTrimsWrong)

/-- 'windroselaw14.ShelfDoes': WHATEVER THE INPUT: true; the input reads as it did. -/
def shelfDoesSpec : ChangeSpec := { name := "shelfDoes", fn := fun _ => fun
  | [d1, d2] => { results := [.lit (.bool true)], args := [d1, d2] }
  | _ => none }
def shelfDoesRow : OpenClaim := { program := "ytcmkhlfjcdchmaagreat", sum := "523ca650039bd4f8a5048a38b3874be4f1756c47e66a98aa419dbf59a5504cf0", func := "windrose/windroselaw14.ShelfDoes", spec := "shelfDoes", inPlace := ["internal/bytealg.IndexByteString", "internal/bytealg.IndexString", "internal/bytealg.abigen_runtime_cmpstring", "internal/abi.NoEscape", "slices.overlaps[windrose/api.Line]", "slices.overlaps[windrose/api.Sample]", "slices.overlaps[windrose/api.Done]"], unfollowed := true, recurses := true, named := ["internal/bytealg.MaxLen"], apart := false }
def ShelfDoesSaid : Prop := shelfDoesRow.holds Tryz.pinned (OpenSpec.ofChange shelfDoesSpec)

/-- ITS FALSE NEIGHBOUR: 'it returns false'. Refute it at one input. -/
def shelfDoesWrong : ChangeSpec := { name := "shelfDoes", fn := fun _ => fun
  | [d1, d2] => { results := [.lit (.bool false)], args := [d1, d2] }
  | _ => none }
def ShelfDoesWrongFalsely : Prop := shelfDoesRow.holds Tryz.pinned (OpenSpec.ofChange shelfDoesWrong)

/-- 'windroselaw28.PglogLooks': WHATEVER THE INPUT: true; the input reads as it did. -/
def pglogLooksSpec : ChangeSpec := { name := "pglogLooks", fn := fun _ => fun
  | [d] => { results := [.lit (.bool true)], args := [d] }
  | _ => none }
def pglogLooksRow : OpenClaim := { program := "ytcmkhlfjcdchmaagreat", sum := "523ca650039bd4f8a5048a38b3874be4f1756c47e66a98aa419dbf59a5504cf0", func := "windrose/windroselaw28.PglogLooks", spec := "pglogLooks", inPlace := ["internal/bytealg.IndexByteString", "internal/bytealg.IndexString", "internal/bytealg.abigen_runtime_cmpstring", "internal/abi.NoEscape", "slices.overlaps[windrose/api.Line]", "slices.overlaps[windrose/api.Sample]", "slices.overlaps[windrose/api.Done]"], unfollowed := true, recurses := true, named := ["internal/bytealg.MaxLen"], apart := false }
def PglogLooksSaid : Prop := pglogLooksRow.holds Tryz.pinned (OpenSpec.ofChange pglogLooksSpec)

/-- ITS FALSE NEIGHBOUR: 'it returns false'. Refute it at one input. -/
def pglogLooksWrong : ChangeSpec := { name := "pglogLooks", fn := fun _ => fun
  | [d] => { results := [.lit (.bool false)], args := [d] }
  | _ => none }
def PglogLooksWrongFalsely : Prop := pglogLooksRow.holds Tryz.pinned (OpenSpec.ofChange pglogLooksWrong)

/-- 'windroselaw28.PglogTurns': WHATEVER THE INPUT: true; the input reads as it did. -/
def pglogTurnsSpec : ChangeSpec := { name := "pglogTurns", fn := fun _ => fun
  | [d1, d2, d3] => { results := [.lit (.bool true)], args := [d1, d2, d3] }
  | _ => none }
def pglogTurnsRow : OpenClaim := { program := "ytcmkhlfjcdchmaagreat", sum := "523ca650039bd4f8a5048a38b3874be4f1756c47e66a98aa419dbf59a5504cf0", func := "windrose/windroselaw28.PglogTurns", spec := "pglogTurns", inPlace := ["internal/bytealg.IndexByteString", "internal/bytealg.IndexString", "internal/bytealg.abigen_runtime_cmpstring", "internal/abi.NoEscape", "slices.overlaps[windrose/api.Line]", "slices.overlaps[windrose/api.Sample]", "slices.overlaps[windrose/api.Done]"], unfollowed := true, recurses := true, named := ["internal/bytealg.MaxLen"], apart := false }
def PglogTurnsSaid : Prop := pglogTurnsRow.holds Tryz.pinned (OpenSpec.ofChange pglogTurnsSpec)

/-- ITS FALSE NEIGHBOUR: 'it returns false'. Refute it at one input. -/
def pglogTurnsWrong : ChangeSpec := { name := "pglogTurns", fn := fun _ => fun
  | [d1, d2, d3] => { results := [.lit (.bool false)], args := [d1, d2, d3] }
  | _ => none }
def PglogTurnsWrongFalsely : Prop := pglogTurnsRow.holds Tryz.pinned (OpenSpec.ofChange pglogTurnsWrong)

/- THE SECOND FORM. 'bulk': how many values and letters a reading holds, each counted each time it is reached (what is shared counts as often as it is met; a slice's spare places count too). A statement '..UptoSaid' is the law's where the arguments, and the package variables that the reading takes, are together of bulk at most 1048576: NARROWER than '..Said'. Prove '..Said' where nothing that the law and all that it calls make is longer than what came in: it says more and counts as full. Else prove '..UptoSaid'. A law counts once. -/
mutual
def uptoBulk {H : Type} : DataW H → Nat
  | .lit (.string bytes) => bytes.length + 1
  | .lit _ => 1
  | .nil => 1
  | .ptr d => uptoBulk d + 1
  | .slice elems spare => uptoBulkAll elems + uptoBulkAll spare + 1
  | .agg parts => uptoBulkAll parts + 1
  | .iface _ d => uptoBulk d + 1
  | .map entries => uptoBulkEntries entries + 1
  | .held _ => 1
def uptoBulkAll {H : Type} : List (DataW H) → Nat
  | [] => 0
  | d :: r => uptoBulk d + uptoBulkAll r
def uptoBulkEntries {H : Type} : List (Lit × DataW H) → Nat
  | [] => 0
  | x :: r => uptoBulkEntry x + uptoBulkEntries r
def uptoBulkEntry {H : Type} : Lit × DataW H → Nat
  | (.string bytes, d) => bytes.length + uptoBulk d + 1
  | (_, d) => uptoBulk d + 1
 end
def uptoSmall : (H : Type) → List (DataW H) → Bool := fun _ ds => decide (uptoBulkAll ds ≤ 1048576)
def OpenSpec.upto (s : _root_.Go.ChangeSpec) : _root_.Go.OpenSpec := { _root_.Go.OpenSpec.ofChange s with cond := some uptoSmall }

/-- 'windroselaw14.ShelfFolds', WHERE WHAT IT READS IS OF BULK AT MOST 1048576: true; the input reads as it did. -/
def shelfFoldsUptoRow : OpenClaim := { program := "ytcmkhlfjcdchmaagreat", sum := "523ca650039bd4f8a5048a38b3874be4f1756c47e66a98aa419dbf59a5504cf0", func := "windrose/windroselaw14.ShelfFolds", spec := "shelfFolds", inPlace := ["internal/bytealg.IndexByteString", "internal/bytealg.IndexString", "internal/bytealg.abigen_runtime_cmpstring", "internal/abi.NoEscape", "slices.overlaps[windrose/api.Line]", "slices.overlaps[windrose/api.Sample]", "slices.overlaps[windrose/api.Done]"], unfollowed := true, recurses := true, named := ["internal/bytealg.MaxLen"], apart := false, narrowed := true }
def ShelfFoldsUptoSaid : Prop := shelfFoldsUptoRow.holds Tryz.pinned (OpenSpec.upto shelfFoldsSpec)

/-- 'windroselaw14.ShelfOnce', WHERE WHAT IT READS IS OF BULK AT MOST 1048576: true; the input reads as it did. -/
def shelfOnceUptoRow : OpenClaim := { program := "ytcmkhlfjcdchmaagreat", sum := "523ca650039bd4f8a5048a38b3874be4f1756c47e66a98aa419dbf59a5504cf0", func := "windrose/windroselaw14.ShelfOnce", spec := "shelfOnce", inPlace := ["internal/bytealg.IndexByteString", "internal/bytealg.IndexString", "internal/bytealg.abigen_runtime_cmpstring", "internal/abi.NoEscape", "slices.overlaps[windrose/api.Line]", "slices.overlaps[windrose/api.Sample]", "slices.overlaps[windrose/api.Done]"], unfollowed := true, recurses := true, named := ["internal/bytealg.MaxLen"], apart := false, narrowed := true }
def ShelfOnceUptoSaid : Prop := shelfOnceUptoRow.holds Tryz.pinned (OpenSpec.upto shelfOnceSpec)

/-- 'windroselaw14.ShelfTrims', WHERE WHAT IT READS IS OF BULK AT MOST 1048576: true; the input reads as it did. -/
def shelfTrimsUptoRow : OpenClaim := { program := "ytcmkhlfjcdchmaagreat", sum := "523ca650039bd4f8a5048a38b3874be4f1756c47e66a98aa419dbf59a5504cf0", func := "windrose/windroselaw14.ShelfTrims", spec := "shelfTrims", inPlace := ["internal/bytealg.IndexByteString", "internal/bytealg.IndexString", "internal/bytealg.abigen_runtime_cmpstring", "internal/abi.NoEscape", "slices.overlaps[windrose/api.Line]", "slices.overlaps[windrose/api.Sample]", "slices.overlaps[windrose/api.Done]"], unfollowed := true, recurses := true, named := ["internal/bytealg.MaxLen"], apart := false, narrowed := true }
def ShelfTrimsUptoSaid : Prop := shelfTrimsUptoRow.holds Tryz.pinned (OpenSpec.upto shelfTrimsSpec)

/-- 'windroselaw14.ShelfDoes', WHERE WHAT IT READS IS OF BULK AT MOST 1048576: true; the input reads as it did. -/
def shelfDoesUptoRow : OpenClaim := { program := "ytcmkhlfjcdchmaagreat", sum := "523ca650039bd4f8a5048a38b3874be4f1756c47e66a98aa419dbf59a5504cf0", func := "windrose/windroselaw14.ShelfDoes", spec := "shelfDoes", inPlace := ["internal/bytealg.IndexByteString", "internal/bytealg.IndexString", "internal/bytealg.abigen_runtime_cmpstring", "internal/abi.NoEscape", "slices.overlaps[windrose/api.Line]", "slices.overlaps[windrose/api.Sample]", "slices.overlaps[windrose/api.Done]"], unfollowed := true, recurses := true, named := ["internal/bytealg.MaxLen"], apart := false, narrowed := true }
def ShelfDoesUptoSaid : Prop := shelfDoesUptoRow.holds Tryz.pinned (OpenSpec.upto shelfDoesSpec)

/-- 'windroselaw28.PglogLooks', WHERE WHAT IT READS IS OF BULK AT MOST 1048576: true; the input reads as it did. -/
def pglogLooksUptoRow : OpenClaim := { program := "ytcmkhlfjcdchmaagreat", sum := "523ca650039bd4f8a5048a38b3874be4f1756c47e66a98aa419dbf59a5504cf0", func := "windrose/windroselaw28.PglogLooks", spec := "pglogLooks", inPlace := ["internal/bytealg.IndexByteString", "internal/bytealg.IndexString", "internal/bytealg.abigen_runtime_cmpstring", "internal/abi.NoEscape", "slices.overlaps[windrose/api.Line]", "slices.overlaps[windrose/api.Sample]", "slices.overlaps[windrose/api.Done]"], unfollowed := true, recurses := true, named := ["internal/bytealg.MaxLen"], apart := false, narrowed := true }
def PglogLooksUptoSaid : Prop := pglogLooksUptoRow.holds Tryz.pinned (OpenSpec.upto pglogLooksSpec)

/-- 'windroselaw28.PglogTurns', WHERE WHAT IT READS IS OF BULK AT MOST 1048576: true; the input reads as it did. -/
def pglogTurnsUptoRow : OpenClaim := { program := "ytcmkhlfjcdchmaagreat", sum := "523ca650039bd4f8a5048a38b3874be4f1756c47e66a98aa419dbf59a5504cf0", func := "windrose/windroselaw28.PglogTurns", spec := "pglogTurns", inPlace := ["internal/bytealg.IndexByteString", "internal/bytealg.IndexString", "internal/bytealg.abigen_runtime_cmpstring", "internal/abi.NoEscape", "slices.overlaps[windrose/api.Line]", "slices.overlaps[windrose/api.Sample]", "slices.overlaps[windrose/api.Done]"], unfollowed := true, recurses := true, named := ["internal/bytealg.MaxLen"], apart := false, narrowed := true }
def PglogTurnsUptoSaid : Prop := pglogTurnsUptoRow.holds Tryz.pinned (OpenSpec.upto pglogTurnsSpec)

end Rows
end Go.Proofs.YtcmkhlfjcdchmaaGreat
