/- The statement LabelWith: for every input the Go law windrose/windroselaw03.LabelWith returns true, and each argument reads behind the call as it read before. Conditions: none but the row's own. -/
import Derived.Test.YtioefecijidgkaaRows
import Derived.Test.YtioefecijidgkaaLbU
import Derived.Test.YtioefecijidgkaaAbsOp
import Derived.HandedShaped
import Derived.Shelf.Vars
import Derived.WalkKit
import Derived.ProofKit
import Derived.OpenShut
import Derived.ShutString
import Derived.ChangeOld
import Derived.Below
import Derived.SizedLaws
import Derived.Carry
namespace Go.Proofs.Ytioefecijidgkaa.labelWith
open Go.ChangeShapes Go.WideShapes Go.ChangeAt Go.RowKit Go.Proofs.Ytioefecijidgkaa.A Go.Proofs.YtioefecijidgkaaAbs
open Go.ChangeMaps (open_string shut_string)
set_option linter.unusedVariables false
theorem own : ownKnob Try.prog.godebug = none := by kernel_rfl
theorem laidOut : laidOutB Try.prog = true := by kernel_rfl
theorem op9 : OpensC Try.prog 9 1 CStr WStr := opens_string Try.underlying9
theorem op83 : OpensC Try.prog 83 2 Lb.c (fun x : Lb => (WPair WStr WStr) (x.name, x.value)) := opens_struct (sz := 1 + (1)) (c := (CPair 1 CStr CStr)) (wf := (WPair WStr WStr)) Try.underlying83 (by kernel_rfl) (opensF_cons rfl (by kernel_rfl) op9 (opensF_one rfl (by kernel_rfl) op9)) (fun y : ByteArray × ByteArray => ⟨y.1, y.2⟩) (by intro y k hk; rcases k with _ | _ | k <;> first | rfl | omega) (fun _ h => h)
theorem op22 : OpensC Try.prog 22 1 (CSl 2 Lb.c) (WSlice 32 (fun x : Lb => (WPair WStr WStr) (x.name, x.value))) := opens_slice Try.underlying22 32 (by kernel_rfl) (by kernel_rfl) op83
theorem op24 : OpensC Try.prog 24 2 Ser.c (fun x : Ser => (WPair WStr (WSlice 32 (fun x : Lb => (WPair WStr WStr) (x.name, x.value)))) (x.name, x.labels)) := opens_struct (sz := 1 + (1)) (c := (CPair 1 CStr (CSl 2 Lb.c))) (wf := (WPair WStr (WSlice 32 (fun x : Lb => (WPair WStr WStr) (x.name, x.value))))) Try.underlying24 (by kernel_rfl) (opensF_cons rfl (by kernel_rfl) op9 (opensF_one rfl (by kernel_rfl) op22)) (fun y : ByteArray × (List Lb) => ⟨y.1, y.2⟩) (by intro y k hk; rcases k with _ | _ | k <;> first | rfl | omega) (fun _ h => h)
set_option maxRecDepth 100000 in
theorem lifted (os : Os) (started : os.Started) (H : Type) (enc : TypeId × Value → H) :
    ReturnsInHanded {} Try.checked os 6 .any (Rows.labelWithSpec.pre6 enc Try.prog Try.f6 Rows.labelWithRow.domain false) (Rows.labelWithSpec.post enc Try.prog Try.f6 false true false false) := by
  refine returnsInHanded_of_change_shaped (C := Try.checked) own started (by kernel_rfl) Try.func6
    (ChangeSpec.witness6 (enc := enc) (C := Try.checked) false ⟨#[], #[.agg #[.string ByteArray.empty, .slice none 0 0], .string ByteArray.empty, .string ByteArray.empty], []⟩ 8 (by kernel_rfl) (by kernel_rfl) (by kernel_rfl) (by kernel_rfl)) ?_
  intro W base args ds gs before hval0 hW hcnd hsz0 hsh _
  have hsz : (DataW.weightsEach Try.prog (Try.f6.params.toList ++ Rows.labelWithSpec.plain.varTypes Try.prog) (ds ++ gs)).all (· ≤ reachBytes) = true := hsz0
  have hval : ∀ (j : Nat) t v, Try.f6.params[j]? = some t → args[j]? = some v → Value.okWide Try.prog W .any base t v := hval0
  have hW' := hW
  obtain ⟨p, q, hA0, hV, rfl, hfz, hnd⟩ := hW
  have hA : DataW.TrodAll enc Try.prog W 0 (fun _ => true) true Try.f6.params.toList args.toList ds p := hA0
  rw [Try.params6] at hA hval hsz
  obtain ⟨v0, vs0, d0, ds0, p0, q0, hargs, rfl, rfl, h0, r0⟩ := trodAll_cons hA
  obtain ⟨v1, vs1, d1, ds1, p1, q1, rfl, rfl, rfl, h1, r1⟩ := trodAll_cons r0
  obtain ⟨v2, vs2, d2, ds2, p2, q2, rfl, rfl, rfl, h2, r2⟩ := trodAll_cons r1
  obtain ⟨rfl, rfl, rfl⟩ := trodAll_nil r2
  obtain rfl : args = #[v0, v1, v2] := by cases args; simp_all
  obtain ⟨rfl, rfl⟩ := trodVars_none hV
  have k0 := h0
  have lt0 : ∀ x ∈ p0, x.block < W.heap.size := by obtain ⟨m, hm⟩ := k0; exact DataW.trod_lt m _ _ _ hm
  have hw0 : ∀ n ∈ d0.weights Try.prog 24, n ≤ reachBytes := fun n hn => by simpa using List.all_eq_true.1 hsz n (DataW.weights_mem_each (j := 0) rfl rfl n hn)
  obtain ⟨y0, w0, r0x⟩ := struct_arg op24 Try.underlying24 (hval 0 24 v0 rfl rfl) h0 hw0
  obtain ⟨y1, rfl, rfl, rfl, z1⟩ := open_string Try.underlying9 (hval 1 9 v1 rfl rfl) h1
  have w1 : WStr y1 := by
    have z := sized_string hsz (j := 1) (t := 9) rfl rfl
    rw [Array.length_toList] at z
    exact z
  obtain ⟨y2, rfl, rfl, rfl, z2⟩ := open_string Try.underlying9 (hval 2 9 v2 rfl rfl) h2
  have w2 : WStr y2 := by
    have z := sized_string hsz (j := 2) (t := 9) rfl rfl
    rw [Array.length_toList] at z
    exact z
  obtain ⟨mx, hmx⟩ := Go.Proofs.cell_of_shapedOpen_int (P := Try.prog) (g := 0) (zero := #[.int .i64 0]) (t := 3) hsh (of_decide_eq_true (by kernel_rfl)) (by kernel_rfl) rfl (by kernel_rfl) (by kernel_rfl) Try.underlying3
  have hc := LabelWith_rc y0 (zSer_wf w0 (by decide)) y1 y2 (Nat.le_trans w1 (by decide)) (Nat.le_trans w2 (by decide)) []
  have hps : True := trivial
  clear hA0 hval0 hsz0 hsz
  refine (law_calls (w := W) (vals := #[v0, .string y1, .string y2]) F_windroselaw03_LabelWith hc (GI_some (by kernel_rfl) hmx) ⟨r0x, rel_string _, rel_string _, trivial⟩).mono fun e W' ⟨he, bel0⟩ => ?_
  have bel : Below W.heap.size W W' := bel0
  subst he
  exact ⟨_, rfl, _, _, _, [], _, [], hW', trodAll_mk1 (shut_bool Try.underlying4 _), (trodAll_cons_mk (Below.trod laidOut (by kernel_rfl) (of_decide_eq_true (by kernel_rfl)) k0 bel lt0) (trodAll_cons_mk (shut_string Try.underlying9 z1) (trodAll_cons_mk (shut_string Try.underlying9 z2) trodAll_mk0))), rfl, bel.frame _, fun h => by cases h⟩
theorem over : Rows.labelWithRow.holds Try.pinned (OpenSpec.ofChange Rows.labelWithSpec) :=
  OpenClaim.holds_of_wide 6 Try.f6 rfl rfl rfl rfl rfl rfl rfl ⟨rfl, rfl, rfl, rfl, rfl⟩ rfl rfl rfl rfl rfl (by kernel_rfl) Try.func6 (by kernel_rfl)
    (of_decide_eq_true (by kernel_rfl)) (by unfold Func.isWrapper; first | (rw [if_pos (by decide +kernel)]; kernel_rfl) | (rw [if_neg (by decide +kernel)]; exact ⟨rfl, rfl⟩))
    (fun os started H enc _ => lifted os started H enc)
theorem proved : Rows.LabelWithSaid := over
#print axioms proved
end Go.Proofs.Ytioefecijidgkaa.labelWith
namespace Go.Proofs.Ytioefecijidgkaa
/-- The row, under a short name, for the claim. -/
theorem labelWith_holds : Rows.LabelWithSaid := labelWith.proved
end Go.Proofs.Ytioefecijidgkaa
