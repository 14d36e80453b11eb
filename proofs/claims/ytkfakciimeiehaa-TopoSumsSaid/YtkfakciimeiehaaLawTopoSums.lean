/- The statement TopoSums: for every input the Go law windrose/windroselaw06.TopoSums returns true, and each argument reads behind the call as it read before. Conditions: none but the row's own. -/
import Derived.Test.YtkfakciimeiehaaRows
import Derived.Test.YtkfakciimeiehaaT9
import Derived.Test.YtkfakciimeiehaaAbsOp
import Derived.WalkKit
import Derived.ProofKit
import Derived.OpenShut
import Derived.ShutString
import Derived.ChangeOld
import Derived.Below
import Derived.SizedLaws
import Derived.Carry
namespace Go.Proofs.Ytkfakciimeiehaa.topoSums
open Go.ChangeShapes Go.WideShapes Go.ChangeAt Go.RowKit Go.Proofs.Ytkfakciimeiehaa.A Go.Proofs.YtkfakciimeiehaaAbs
open Go.ChangeMaps (open_string shut_string)
set_option linter.unusedVariables false
theorem own : ownKnob Try.prog.godebug = none := by kernel_rfl
theorem laidOut : laidOutB Try.prog = true := by kernel_rfl
theorem op3 : OpensC Try.prog 3 1 (CInt .i64) (WInt .i64) := opens_int Try.underlying3
theorem op4 : OpensC Try.prog 4 1 CBool WAny := opens_bool Try.underlying4
theorem op67 : OpensC Try.prog 67 6 Nd.c (fun x : Nd => (WPair (WInt .i64) (WPair (WInt .i64) (WPair (WInt .i64) (WPair (WInt .i64) (WPair WAny WAny))))) (x.id, x.zone, x.rack, x.weight, x.up, x.inn)) := opens_struct (sz := 1 + (1 + (1 + (1 + (1 + (1)))))) (c := (CPair 1 (CInt .i64) (CPair 1 (CInt .i64) (CPair 1 (CInt .i64) (CPair 1 (CInt .i64) (CPair 1 CBool CBool)))))) (wf := (WPair (WInt .i64) (WPair (WInt .i64) (WPair (WInt .i64) (WPair (WInt .i64) (WPair WAny WAny)))))) Try.underlying67 (by kernel_rfl) (opensF_cons rfl (by kernel_rfl) op3 (opensF_cons rfl (by kernel_rfl) op3 (opensF_cons rfl (by kernel_rfl) op3 (opensF_cons rfl (by kernel_rfl) op3 (opensF_cons rfl (by kernel_rfl) op4 (opensF_one rfl (by kernel_rfl) op4)))))) (fun y : Int × Int × Int × Int × Bool × Bool => ⟨y.1, y.2.1, y.2.2.1, y.2.2.2.1, y.2.2.2.2.1, y.2.2.2.2.2⟩) (by intro y k hk; rcases k with _ | _ | _ | _ | _ | _ | k <;> first | rfl | omega) (fun _ h => h)
theorem op65 : OpensC Try.prog 65 1 (CSl 6 Nd.c) (WSlice 40 (fun x : Nd => (WPair (WInt .i64) (WPair (WInt .i64) (WPair (WInt .i64) (WPair (WInt .i64) (WPair WAny WAny))))) (x.id, x.zone, x.rack, x.weight, x.up, x.inn))) := opens_slice Try.underlying65 40 (by kernel_rfl) (by kernel_rfl) op67
set_option maxRecDepth 100000 in
theorem lifted (os : Os) (started : os.Started) (H : Type) (enc : TypeId × Value → H) :
    ReturnsInHanded {} Try.checked os 13 .any (Rows.topoSumsSpec.pre6 enc Try.prog Try.f13 Rows.topoSumsRow.domain false) (Rows.topoSumsSpec.post enc Try.prog Try.f13 false true false false) := by
  refine returnsInHanded_of_change_sized (C := Try.checked) own started (by kernel_rfl) Try.func13
    (ChangeSpec.witness6 (enc := enc) (C := Try.checked) false ⟨#[], #[.slice none 0 0], []⟩ 8 (by kernel_rfl) (by kernel_rfl) (by kernel_rfl) (by kernel_rfl)) ?_
  intro W base args ds gs before hval0 hW hcnd hsz0 _
  have hsz : (DataW.weightsEach Try.prog (Try.f13.params.toList ++ Rows.topoSumsSpec.plain.varTypes Try.prog) (ds ++ gs)).all (· ≤ reachBytes) = true := hsz0
  have hval : ∀ (j : Nat) t v, Try.f13.params[j]? = some t → args[j]? = some v → Value.okWide Try.prog W .any base t v := hval0
  have hW' := hW
  obtain ⟨p, q, hA0, hV, rfl, hfz, hnd⟩ := hW
  have hA : DataW.TrodAll enc Try.prog W 0 (fun _ => true) true Try.f13.params.toList args.toList ds p := hA0
  rw [Try.params13] at hA hval hsz
  obtain ⟨v0, vs0, d0, ds0, p0, q0, hargs, rfl, rfl, h0, r0⟩ := trodAll_cons hA
  obtain ⟨rfl, rfl, rfl⟩ := trodAll_nil r0
  obtain rfl : args = #[v0] := by cases args; simp_all
  obtain ⟨rfl, rfl⟩ := trodVars_none hV
  have k0 := h0
  have lt0 : ∀ x ∈ p0, x.block < W.heap.size := by obtain ⟨m, hm⟩ := k0; exact DataW.trod_lt m _ _ _ hm
  have hw0 : ∀ n ∈ d0.weights Try.prog 65, n ≤ reachBytes := fun n hn => by simpa using List.all_eq_true.1 hsz n (DataW.weights_mem_each (j := 0) rfl rfl n hn)
  obtain ⟨y0, w0, r0x⟩ := slice_arg op65 Try.underlying65 (hval 0 65 v0 rfl rfl) h0 hw0
  have hc := TopoSums_rc y0 []
  have hps : True := trivial
  clear hA0 hval0 hsz0 hsz
  refine (law_calls (w := W) (vals := #[v0]) F_windroselaw06_TopoSums hc (GI_none (by kernel_rfl)) ⟨r0x, trivial⟩).mono fun e W' ⟨he, bel0⟩ => ?_
  have bel : Below W.heap.size W W' := bel0
  subst he
  exact ⟨_, rfl, _, _, _, [], _, [], hW', trodAll_mk1 (shut_bool Try.underlying4 _), (trodAll_cons_mk (Below.trod laidOut (by kernel_rfl) (of_decide_eq_true (by kernel_rfl)) k0 bel lt0) trodAll_mk0), rfl, bel.frame _, fun h => by cases h⟩
theorem over : Rows.topoSumsRow.holds Try.pinned (OpenSpec.ofChange Rows.topoSumsSpec) :=
  OpenClaim.holds_of_wide 13 Try.f13 rfl rfl rfl rfl rfl rfl rfl ⟨rfl, rfl, rfl, rfl, rfl⟩ rfl rfl rfl rfl rfl (by kernel_rfl) Try.func13 (by kernel_rfl)
    (of_decide_eq_true (by kernel_rfl)) (by unfold Func.isWrapper; first | (rw [if_pos (by decide +kernel)]; kernel_rfl) | (rw [if_neg (by decide +kernel)]; exact ⟨rfl, rfl⟩))
    (fun os started H enc _ => lifted os started H enc)
theorem proved : Rows.TopoSumsSaid := over
#print axioms proved
end Go.Proofs.Ytkfakciimeiehaa.topoSums
namespace Go.Proofs.Ytkfakciimeiehaa
/-- The row, under a short name, for the claim. -/
theorem topoSums_holds : Rows.TopoSumsSaid := topoSums.proved
end Go.Proofs.Ytkfakciimeiehaa
