/-
  No cell of these rows narrows 'for every input' (looked for: loops, veiled, ifaces, maps, wideKeys, modest, calm, conditions, laid).
  DERIVED. THE GIVEN ROWS OF THIS SEAT. 2 by the template 'for every input the law returns true; each argument reads behind the call as it read before'; 0 by the template 'total and deterministic' (their statements: YtcmkhlfjcdchmaaTotals.lean).
  GIVEN WITH THE SEED: the statements are not yours to turn. If you find one false, say at which input.
  Laid BY PROGRAM, IN A SANDBOX (cutbox-rows.mjs): the forced cells as the released guide's own fill.sh prints them over the translation 80bfe9c2b3485550… (all of the seat's roots in one cut). By AI agents, Wed Nov 11 2026. No macro, syntax, notation, axiom, sorry.
-/
import Derived.Test.YtcmkhlfjcdchmaaChecked
import GoSem.Claim
import GoSem.ClaimJoined
import GoSem.ClaimMapViews
import Derived.JoinedTies
import Derived.KernelRfl
namespace Go.Proofs.Ytcmkhlfjcdchmaa
/- THE CELL 'sum', in the pinned program and in every row, IS THE sha256 OF THE DUMP (.gsa) THAT YtcmkhlfjcdchmaaProg.lean LOADS. Nothing in Lean hashes anything: it is a label: what it is worth is what the hold of that sum in a sandbox is worth. -/
noncomputable def Try.pinned : Pinned := { name := "ytcmkhlfjcdchmaa", sum := "80bfe9c2b34855503f0a4344f0f478b2413b923b4e77189452e82afe90da32d8", checked := Try.checked }
namespace Rows
def none {H : Type} : Left H := { results := [], args := [] }

/-- 'windroselaw28.PglogCodes': WHATEVER THE INPUT: true; the input reads as it did. -/
def pglogCodesSpec : ChangeSpec := { name := "pglogCodes", fn := fun _ => fun
  | [d1, d2] => { results := [.lit (.bool true)], args := [d1, d2] }
  | _ => none }
def pglogCodesRow : OpenClaim := { program := "ytcmkhlfjcdchmaa", sum := "80bfe9c2b34855503f0a4344f0f478b2413b923b4e77189452e82afe90da32d8", func := "windrose/windroselaw28.PglogCodes", spec := "pglogCodes", inPlace := ["internal/bytealg.IndexByteString", "internal/bytealg.IndexString", "internal/bytealg.abigen_runtime_cmpstring", "internal/abi.NoEscape"], unfollowed := true, recurses := true, named := ["internal/bytealg.MaxLen"], apart := false }
def PglogCodesSaid : Prop := pglogCodesRow.holds Try.pinned (OpenSpec.ofChange pglogCodesSpec)

/-- ITS FALSE NEIGHBOUR: 'it returns false'. Refute it at one input. -/
def pglogCodesWrong : ChangeSpec := { name := "pglogCodes", fn := fun _ => fun
  | [d1, d2] => { results := [.lit (.bool false)], args := [d1, d2] }
  | _ => none }
def PglogCodesWrongFalsely : Prop := pglogCodesRow.holds Try.pinned (OpenSpec.ofChange pglogCodesWrong)

/-- 'windroselaw28.PglogMeets': WHATEVER THE INPUT: true; the input reads as it did. -/
def pglogMeetsSpec : ChangeSpec := { name := "pglogMeets", fn := fun _ => fun
  | [d1, d2] => { results := [.lit (.bool true)], args := [d1, d2] }
  | _ => none }
def pglogMeetsRow : OpenClaim := { program := "ytcmkhlfjcdchmaa", sum := "80bfe9c2b34855503f0a4344f0f478b2413b923b4e77189452e82afe90da32d8", func := "windrose/windroselaw28.PglogMeets", spec := "pglogMeets", inPlace := ["internal/bytealg.IndexByteString", "internal/bytealg.IndexString", "internal/bytealg.abigen_runtime_cmpstring", "internal/abi.NoEscape"], unfollowed := true, recurses := true, named := ["internal/bytealg.MaxLen"], apart := false }
def PglogMeetsSaid : Prop := pglogMeetsRow.holds Try.pinned (OpenSpec.ofChange pglogMeetsSpec)

/-- ITS FALSE NEIGHBOUR: 'it returns false'. Refute it at one input. -/
def pglogMeetsWrong : ChangeSpec := { name := "pglogMeets", fn := fun _ => fun
  | [d1, d2] => { results := [.lit (.bool false)], args := [d1, d2] }
  | _ => none }
def PglogMeetsWrongFalsely : Prop := pglogMeetsRow.holds Try.pinned (OpenSpec.ofChange pglogMeetsWrong)

/- THE SECOND FORM. 'bulk': how many values and letters a reading holds, each counted each time it is reached (what is shared counts as often as it is met; a slice's spare places count too). A statement '..UptoSaid' is the law's where the arguments, and the package variables that the reading takes, are together of bulk at most 1048576: NARROWER than '..Said'. Prove '..Said' where nothing that the law and all that it calls make is longer than what came in: it says more and counts as full. Else prove '..UptoSaid'. A law counts once. -/
mutual
def uptoBulk {H : Type} : DataW H → Nat
  | .lit (.string bytes) => bytes.length + 1
  | .lit _ => 1
  | .nil => 1
  | .ptr d => uptoBulk d + 1
  | .slice elems spare => uptoBulkAll elems + uptoBulkAll spare + 1
  | .agg parts => uptoBulkAll parts + 1
  | .iface _ d => uptoBulk d + 1
  | .map entries => uptoBulkEntries entries + 1
  | .held _ => 1
def uptoBulkAll {H : Type} : List (DataW H) → Nat
  | [] => 0
  | d :: r => uptoBulk d + uptoBulkAll r
def uptoBulkEntries {H : Type} : List (Lit × DataW H) → Nat
  | [] => 0
  | x :: r => uptoBulkEntry x + uptoBulkEntries r
def uptoBulkEntry {H : Type} : Lit × DataW H → Nat
  | (.string bytes, d) => bytes.length + uptoBulk d + 1
  | (_, d) => uptoBulk d + 1
 end
def uptoSmall : (H : Type) → List (DataW H) → Bool := fun _ ds => decide (uptoBulkAll ds ≤ 1048576)
def OpenSpec.upto (s : _root_.Go.ChangeSpec) : _root_.Go.OpenSpec := { _root_.Go.OpenSpec.ofChange s with cond := some uptoSmall }

/-- 'windroselaw28.PglogCodes', WHERE WHAT IT READS IS OF BULK AT MOST 1048576: true; the input reads as it did. -/
def pglogCodesUptoRow : OpenClaim := { program := "ytcmkhlfjcdchmaa", sum := "80bfe9c2b34855503f0a4344f0f478b2413b923b4e77189452e82afe90da32d8", func := "windrose/windroselaw28.PglogCodes", spec := "pglogCodes", inPlace := ["internal/bytealg.IndexByteString", "internal/bytealg.IndexString", "internal/bytealg.abigen_runtime_cmpstring", "internal/abi.NoEscape"], unfollowed := true, recurses := true, named := ["internal/bytealg.MaxLen"], apart := false, narrowed := true }
def PglogCodesUptoSaid : Prop := pglogCodesUptoRow.holds Try.pinned (OpenSpec.upto pglogCodesSpec)

/-- 'windroselaw28.PglogMeets', WHERE WHAT IT READS IS OF BULK AT MOST 1048576: true; the input reads as it did. -/
def pglogMeetsUptoRow : OpenClaim := { program := "ytcmkhlfjcdchmaa", sum := "80bfe9c2b34855503f0a4344f0f478b2413b923b4e77189452e82afe90da32d8", func := "windrose/windroselaw28.PglogMeets", spec := "pglogMeets", inPlace := ["internal/bytealg.IndexByteString", "internal/bytealg.IndexString", "internal/bytealg.abigen_runtime_cmpstring", "internal/abi.NoEscape"], unfollowed := true, recurses := true, named := ["internal/bytealg.MaxLen"], apart := false, narrowed := true }
def PglogMeetsUptoSaid : Prop := pglogMeetsUptoRow.holds Try.pinned (OpenSpec.upto pglogMeetsSpec)

end Rows
end Go.Proofs.Ytcmkhlfjcdchmaa
