/- The statement TotalParts: for every input the Go law windrose/windroselaw13.TotalParts returns true, and each argument reads behind the call as it read before. Conditions: none but the row's own. -/
import Derived.Test.YtkfakciimeiehaaRows
import Derived.Test.YtkfakciimeiehaaPTotalx5
import Derived.Test.YtkfakciimeiehaaOpens
import Derived.Test.YtkfakciimeiehaaPureTotalParts
import Derived.WalkKit
import Derived.ProofKit
import Derived.OpenShut
import Derived.ShutString
import Derived.ChangeOld
import Derived.Below
import Derived.SizedLaws
import Derived.Carry
namespace Go.Proofs.Ytkfakciimeiehaa.totalParts
open Go.ChangeShapes Go.WideShapes Go.ChangeAt Go.RowKit Go.Proofs.Ytkfakciimeiehaa.PTotal Go.Proofs.YtkfakciimeiehaaOpens Go.Proofs.YtkfakciimeiehaaW.PrintWords
open Go.ChangeMaps (open_string shut_string)
set_option linter.unusedVariables false
theorem own : ownKnob Try.prog.godebug = none := by kernel_rfl
theorem laidOut : laidOutB Try.prog = true := by kernel_rfl
theorem op3 : Opens Try.prog 3 (Kd.int .i64) (WInt .i64) := opens_int Try.underlying3
theorem op84 : Opens Try.prog 84 k84 (fun x : S84 => (WPair (WInt .i64) (WInt .i64)) (x.f0, x.f1)) := opens_struct Try.underlying84 (fun x : S84 => (x.f0, x.f1)) (fun y => ⟨y.1, y.2⟩) (fun _ => rfl) (by kernel_rfl) (opensF_cons rfl (by kernel_rfl) op3 (opensF_one rfl (by kernel_rfl) op3))
theorem op22 : Opens Try.prog 22 (Kd.slice 84 k84) (WSlice 16 (fun x : S84 => (WPair (WInt .i64) (WInt .i64)) (x.f0, x.f1))) := opens_slice Try.underlying22 16 (by kernel_rfl) (by kernel_rfl) op84
set_option maxRecDepth 100000 in
theorem lifted (os : Os) (started : os.Started) (H : Type) (enc : TypeId × Value → H) :
    ReturnsInHanded {} Try.checked os 5 .any (Rows.totalPartsSpec.pre6 enc Try.prog Try.f5 Rows.totalPartsRow.domain false) (Rows.totalPartsSpec.post enc Try.prog Try.f5 false true false false) := by
  refine returnsInHanded_of_change_sized (C := Try.checked) own started (by kernel_rfl) Try.func5
    (ChangeSpec.witness6 (enc := enc) (C := Try.checked) false ⟨#[], #[.int .i64 0, .slice none 0 0, .int .u8 0], []⟩ 8 (by kernel_rfl) (by kernel_rfl) (by kernel_rfl) (by kernel_rfl)) ?_
  intro W base args ds gs before hval0 hW hcnd hsz0 _
  have hsz : (DataW.weightsEach Try.prog (Try.f5.params.toList ++ Rows.totalPartsSpec.plain.varTypes Try.prog) (ds ++ gs)).all (· ≤ reachBytes) = true := hsz0
  have hval : ∀ (j : Nat) t v, Try.f5.params[j]? = some t → args[j]? = some v → Value.okWide Try.prog W .any base t v := hval0
  have hW' := hW
  obtain ⟨p, q, hA0, hV, rfl, hfz, hnd⟩ := hW
  have hA : DataW.TrodAll enc Try.prog W 0 (fun _ => true) true Try.f5.params.toList args.toList ds p := hA0
  rw [Try.params5] at hA hval hsz
  obtain ⟨v0, vs0, d0, ds0, p0, q0, hargs, rfl, rfl, h0, r0⟩ := trodAll_cons hA
  obtain ⟨v1, vs1, d1, ds1, p1, q1, rfl, rfl, rfl, h1, r1⟩ := trodAll_cons r0
  obtain ⟨v2, vs2, d2, ds2, p2, q2, rfl, rfl, rfl, h2, r2⟩ := trodAll_cons r1
  obtain ⟨rfl, rfl, rfl⟩ := trodAll_nil r2
  obtain rfl : args = #[v0, v1, v2] := by cases args; simp_all
  obtain ⟨rfl, rfl⟩ := trodVars_none hV
  obtain ⟨a0, rfl, rfl, rfl, w0⟩ := open_int Try.underlying3 (hval 0 3 v0 rfl rfl) h0
  have k1 := h1
  have lt1 : ∀ x ∈ p1, x.block < W.heap.size := by obtain ⟨m, hm⟩ := k1; exact DataW.trod_lt m _ _ _ hm
  have hw1 : ∀ n ∈ d1.weights Try.prog 22, n ≤ reachBytes := fun n hn => by simpa using List.all_eq_true.1 hsz n (DataW.weights_mem_each (j := 1) rfl rfl n hn)
  obtain ⟨A1, c1, l1, rfl, hc1, hr1, w1⟩ := slice_arg op22 Try.underlying22 (hval 1 22 v1 rfl rfl) h1 hw1
  obtain ⟨a2, rfl, rfl, rfl, w2⟩ := open_int Try.underlying5 (hval 2 5 v2 rfl rfl) h2
  have hp : ∀ (a0 : Int) (l1 : List S84) (a2 : Int), WInt .i64 a0 → (WSlice 16 (fun x : S84 => (WPair (WInt .i64) (WInt .i64)) (x.f0, x.f1))) l1 → WInt .u8 a2 → ∃ k, windroselaw13_TotalParts.f k a0 l1 a2 = some true := Pure.TotalParts
  obtain ⟨k, hk⟩ := hp a0 l1 a2 w0 w1 w2
  clear hA0 hval0 hsz0 hsz
  refine (windroselaw13_TotalParts.calls k a0 A1 c1 l1 a2 true W hr1 hc1 hk).mono fun e W' ⟨he, bel0⟩ => ?_
  have bel : Below W.heap.size W W' := bel0
  subst he
  exact ⟨_, rfl, _, _, _, [], _, [], hW', trodAll_mk1 (shut_bool Try.underlying4 _), (trodAll_cons_mk (shut_int Try.underlying3 w0) (trodAll_cons_mk (Below.trod laidOut (by kernel_rfl) (of_decide_eq_true (by kernel_rfl)) k1 bel lt1) (trodAll_cons_mk (shut_int Try.underlying5 w2) trodAll_mk0))), rfl, bel.frame _, fun h => by cases h⟩
theorem over : Rows.totalPartsRow.holds Try.pinned (OpenSpec.ofChange Rows.totalPartsSpec) :=
  OpenClaim.holds_of_wide 5 Try.f5 rfl rfl rfl rfl rfl rfl rfl ⟨rfl, rfl, rfl, rfl, rfl⟩ rfl rfl rfl rfl rfl (by kernel_rfl) Try.func5 (by kernel_rfl)
    (of_decide_eq_true (by kernel_rfl)) (by unfold Func.isWrapper; first | (rw [if_pos (by decide +kernel)]; kernel_rfl) | (rw [if_neg (by decide +kernel)]; exact ⟨rfl, rfl⟩))
    (fun os started H enc _ => lifted os started H enc)
theorem proved : Rows.TotalPartsSaid := over
#print axioms proved
end Go.Proofs.Ytkfakciimeiehaa.totalParts
namespace Go.Proofs.Ytkfakciimeiehaa
/-- The row, under a short name, for the claim. -/
theorem totalParts_holds : Rows.TotalPartsSaid := totalParts.proved
end Go.Proofs.Ytkfakciimeiehaa
