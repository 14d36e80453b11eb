/- The statement PostingsDecodes: for every input the Go law windrose/windroselaw19.PostingsDecodes returns true, and each argument reads behind the call as it read before. Conditions: none but the row's own. -/
import Derived.Test.YtkfakciimeiehaaRows
import Derived.Test.YtkfakciimeiehaaPCodex8
import Derived.Test.YtkfakciimeiehaaOpens
import Derived.Test.YtkfakciimeiehaaPurePostingsDecodes
import Derived.WalkKit
import Derived.ProofKit
import Derived.OpenShut
import Derived.ShutString
import Derived.ChangeOld
import Derived.Below
import Derived.SizedLaws
import Derived.Carry
namespace Go.Proofs.Ytkfakciimeiehaa.postingsDecodes
open Go.ChangeShapes Go.WideShapes Go.ChangeAt Go.RowKit Go.Proofs.Ytkfakciimeiehaa.PCode Go.Proofs.YtkfakciimeiehaaOpens Go.Proofs.YtkfakciimeiehaaW.PrintWords
open Go.ChangeMaps (open_string shut_string)
set_option linter.unusedVariables false
theorem own : ownKnob Try.prog.godebug = none := by kernel_rfl
theorem laidOut : laidOutB Try.prog = true := by kernel_rfl
theorem op3 : Opens Try.prog 3 (Kd.int .i64) (WInt .i64) := opens_int Try.underlying3
theorem op31 : Opens Try.prog 31 (Kd.slice 3 (Kd.int .i64)) (WSlice 8 (WInt .i64)) := opens_slice Try.underlying31 8 (by kernel_rfl) (by kernel_rfl) op3
theorem op9 : Opens Try.prog 9 Kd.string WStr := opens_string Try.underlying9
theorem op52 : Opens Try.prog 52 (Kd.slice 9 Kd.string) (WSlice 16 WStr) := opens_slice Try.underlying52 16 (by kernel_rfl) (by kernel_rfl) op9
theorem op54 : Opens Try.prog 54 (Kd.pair (Kd.slice 3 (Kd.int .i64)) (Kd.slice 9 Kd.string)) (WPair (WSlice 8 (WInt .i64)) (WSlice 16 WStr)) := opens_struct0 Try.underlying54 (by kernel_rfl) (opensF_cons rfl (by kernel_rfl) op31 (opensF_one rfl (by kernel_rfl) op52))
set_option maxRecDepth 100000 in
theorem lifted (os : Os) (started : os.Started) (H : Type) (enc : TypeId × Value → H) :
    ReturnsInHanded {} Try.checked os 11 .any (Rows.postingsDecodesSpec.pre6 enc Try.prog Try.f11 Rows.postingsDecodesRow.domain false) (Rows.postingsDecodesSpec.post enc Try.prog Try.f11 false true false false) := by
  refine returnsInHanded_of_change_sized (C := Try.checked) own started (by kernel_rfl) Try.func11
    (ChangeSpec.witness6 (enc := enc) (C := Try.checked) false ⟨#[], #[.agg #[.slice none 0 0, .slice none 0 0]], []⟩ 8 (by kernel_rfl) (by kernel_rfl) (by kernel_rfl) (by kernel_rfl)) ?_
  intro W base args ds gs before hval0 hW hcnd hsz0 _
  have hsz : (DataW.weightsEach Try.prog (Try.f11.params.toList ++ Rows.postingsDecodesSpec.plain.varTypes Try.prog) (ds ++ gs)).all (· ≤ reachBytes) = true := hsz0
  have hval : ∀ (j : Nat) t v, Try.f11.params[j]? = some t → args[j]? = some v → Value.okWide Try.prog W .any base t v := hval0
  have hW' := hW
  obtain ⟨p, q, hA0, hV, rfl, hfz, hnd⟩ := hW
  have hA : DataW.TrodAll enc Try.prog W 0 (fun _ => true) true Try.f11.params.toList args.toList ds p := hA0
  rw [Try.params11] at hA hval hsz
  obtain ⟨v0, vs0, d0, ds0, p0, q0, hargs, rfl, rfl, h0, r0⟩ := trodAll_cons hA
  obtain ⟨rfl, rfl, rfl⟩ := trodAll_nil r0
  obtain rfl : args = #[v0] := by cases args; simp_all
  obtain ⟨rfl, rfl⟩ := trodVars_none hV
  have k0 := h0
  have lt0 : ∀ x ∈ p0, x.block < W.heap.size := by obtain ⟨m, hm⟩ := k0; exact DataW.trod_lt m _ _ _ hm
  have hw0 : ∀ n ∈ d0.weights Try.prog 54, n ≤ reachBytes := fun n hn => by simpa using List.all_eq_true.1 hsz n (DataW.weights_mem_each (j := 0) rfl rfl n hn)
  obtain ⟨cs0, y0, rfl, K0, w0⟩ := struct_arg op54 Try.underlying54 (hval 0 54 v0 rfl rfl) h0 hw0
  obtain ⟨l0_0, l0_1, rfl⟩ : ∃ l0_0 l0_1, y0 = (l0_0, l0_1) := ⟨_, _, rfl⟩
  generalize e0 : cs0.toList = L0 at K0
  obtain ⟨_, _, rfl, ⟨A0_0, c0_0, rfl, hc0_0, hr0_0⟩, ⟨A0_1, c0_1, rfl, hc0_1, hr0_1⟩⟩ := K0
  obtain rfl : cs0 = #[.slice A0_0 l0_0.length c0_0, .slice A0_1 l0_1.length c0_1] := Array.toList_inj.1 e0
  have hp : ∀ (l0_0 : List Int) (l0_1 : List ByteArray), (WPair (WSlice 8 (WInt .i64)) (WSlice 16 WStr)) (l0_0, l0_1) → ∃ k, windroselaw19_PostingsDecodes.f k l0_0 l0_1 = some true := Pure.PostingsDecodes
  obtain ⟨k, hk⟩ := hp l0_0 l0_1 w0
  clear hA0 hval0 hsz0 hsz
  refine (windroselaw19_PostingsDecodes.calls k A0_0 c0_0 l0_0 A0_1 c0_1 l0_1 true W hr0_0 hc0_0 hr0_1 hc0_1 hk).mono fun e W' ⟨he, bel0⟩ => ?_
  have bel : Below W.heap.size W W' := bel0
  subst he
  exact ⟨_, rfl, _, _, _, [], _, [], hW', trodAll_mk1 (shut_bool Try.underlying4 _), (trodAll_cons_mk (Below.trod laidOut (by kernel_rfl) (of_decide_eq_true (by kernel_rfl)) k0 bel lt0) trodAll_mk0), rfl, bel.frame _, fun h => by cases h⟩
theorem over : Rows.postingsDecodesRow.holds Try.pinned (OpenSpec.ofChange Rows.postingsDecodesSpec) :=
  OpenClaim.holds_of_wide 11 Try.f11 rfl rfl rfl rfl rfl rfl rfl ⟨rfl, rfl, rfl, rfl, rfl⟩ rfl rfl rfl rfl rfl (by kernel_rfl) Try.func11 (by kernel_rfl)
    (of_decide_eq_true (by kernel_rfl)) (by unfold Func.isWrapper; first | (rw [if_pos (by decide +kernel)]; kernel_rfl) | (rw [if_neg (by decide +kernel)]; exact ⟨rfl, rfl⟩))
    (fun os started H enc _ => lifted os started H enc)
theorem proved : Rows.PostingsDecodesSaid := over
#print axioms proved
end Go.Proofs.Ytkfakciimeiehaa.postingsDecodes
namespace Go.Proofs.Ytkfakciimeiehaa
/-- The row, under a short name, for the claim. -/
theorem postingsDecodes_holds : Rows.PostingsDecodesSaid := postingsDecodes.proved
end Go.Proofs.Ytkfakciimeiehaa
