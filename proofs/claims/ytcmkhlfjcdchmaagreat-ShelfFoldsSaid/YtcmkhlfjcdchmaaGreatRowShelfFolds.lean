/- The statement ShelfFolds: for every input the Go law windrose/windroselaw14.ShelfFolds returns true, and each argument reads behind the call as it read before. Conditions: none but the row's own. -/
import Derived.Test.YtcmkhlfjcdchmaaGreatShpg
import Derived.Test.YtcmkhlfjcdchmaaGreatRows
import Derived.HandedShaped
import Derived.Shelf.Vars
import Derived.WalkKit
import Derived.ProofKit
import Derived.OpenShut
import Derived.ShutString
import Derived.ChangeOld
import Derived.Below
import Derived.SizedLaws
import Derived.Carry
namespace Go.Proofs.YtcmkhlfjcdchmaaGreat.shelfFolds
open Go.ChangeShapes Go.WideShapes Go.ChangeAt Go.RowKit Go.Proofs.YtcmkhlfjcdchmaaGreat.A Go.Proofs.YtcmkhlfjcdchmaaGreatAbs
open Go.ChangeMaps (open_string shut_string)
set_option linter.unusedVariables false
theorem own : ownKnob Tryz.prog.godebug = none := by kernel_rfl
theorem laidOut : laidOutB Tryz.prog = true := by kernel_rfl
theorem op3 : OpensC Tryz.prog 3 1 (CInt .i64) (WInt .i64) := opens_int Tryz.underlying3
theorem op9 : OpensC Tryz.prog 9 1 CStr WStr := opens_string Tryz.underlying9
theorem op33 : OpensC Tryz.prog 33 2 Smp.c (fun x : Smp => (WPair (WInt .i64) (WInt .i64)) (x.t, x.v)) := opens_struct (sz := 1 + (1)) (c := (CPair 1 (CInt .i64) (CInt .i64))) (wf := (WPair (WInt .i64) (WInt .i64))) Tryz.underlying33 (by kernel_rfl) (opensF_cons rfl (by kernel_rfl) op3 (opensF_one rfl (by kernel_rfl) op3)) (fun y : Int × Int => ⟨y.1, y.2⟩) (by intro y k hk; rcases k with _ | _ | k <;> first | rfl | omega) (fun _ h => h)
theorem op35 : OpensC Tryz.prog 35 7 Opn.c (fun x : Opn => (WPair (WInt .i64) (WPair WStr (WPair (fun x : Smp => (WPair (WInt .i64) (WInt .i64)) (x.t, x.v)) (WPair (WInt .i64) (WPair (WInt .i64) (WInt .i64)))))) (x.kind, x.ser, x.smp, x.frm, x.to, x.tot)) := opens_struct (sz := 1 + (1 + (2 + (1 + (1 + (1)))))) (c := (CPair 1 (CInt .i64) (CPair 1 CStr (CPair 2 Smp.c (CPair 1 (CInt .i64) (CPair 1 (CInt .i64) (CInt .i64))))))) (wf := (WPair (WInt .i64) (WPair WStr (WPair (fun x : Smp => (WPair (WInt .i64) (WInt .i64)) (x.t, x.v)) (WPair (WInt .i64) (WPair (WInt .i64) (WInt .i64))))))) Tryz.underlying35 (by kernel_rfl) (opensF_cons rfl (by kernel_rfl) op3 (opensF_cons rfl (by kernel_rfl) op9 (opensF_cons rfl (by kernel_rfl) op33 (opensF_cons rfl (by kernel_rfl) op3 (opensF_cons rfl (by kernel_rfl) op3 (opensF_one rfl (by kernel_rfl) op3)))))) (fun y : Int × ByteArray × Smp × Int × Int × Int => ⟨y.1, y.2.1, y.2.2.1, y.2.2.2.1, y.2.2.2.2.1, y.2.2.2.2.2⟩) (by intro y k hk; rcases k with _ | _ | _ | _ | _ | _ | _ | k <;> first | rfl | omega) (fun _ h => h)
theorem op37 : OpensC Tryz.prog 37 10 Ent.c (fun x : Ent => (WPair (WInt .i64) (WPair (WInt .i64) (WPair (WInt .i64) (fun x : Opn => (WPair (WInt .i64) (WPair WStr (WPair (fun x : Smp => (WPair (WInt .i64) (WInt .i64)) (x.t, x.v)) (WPair (WInt .i64) (WPair (WInt .i64) (WInt .i64)))))) (x.kind, x.ser, x.smp, x.frm, x.to, x.tot))))) (x.epoch, x.client, x.id, x.op)) := opens_struct (sz := 1 + (1 + (1 + (7)))) (c := (CPair 1 (CInt .i64) (CPair 1 (CInt .i64) (CPair 1 (CInt .i64) Opn.c)))) (wf := (WPair (WInt .i64) (WPair (WInt .i64) (WPair (WInt .i64) (fun x : Opn => (WPair (WInt .i64) (WPair WStr (WPair (fun x : Smp => (WPair (WInt .i64) (WInt .i64)) (x.t, x.v)) (WPair (WInt .i64) (WPair (WInt .i64) (WInt .i64)))))) (x.kind, x.ser, x.smp, x.frm, x.to, x.tot)))))) Tryz.underlying37 (by kernel_rfl) (opensF_cons rfl (by kernel_rfl) op3 (opensF_cons rfl (by kernel_rfl) op3 (opensF_cons rfl (by kernel_rfl) op3 (opensF_one rfl (by kernel_rfl) op35)))) (fun y : Int × Int × Int × Opn => ⟨y.1, y.2.1, y.2.2.1, y.2.2.2⟩) (by intro y k hk; rcases k with _ | _ | _ | _ | _ | _ | _ | _ | _ | _ | k <;> first | rfl | omega) (fun _ h => h)
theorem op22 : OpensC Tryz.prog 22 1 (CSl 10 Ent.c) (WSlice 88 (fun x : Ent => (WPair (WInt .i64) (WPair (WInt .i64) (WPair (WInt .i64) (fun x : Opn => (WPair (WInt .i64) (WPair WStr (WPair (fun x : Smp => (WPair (WInt .i64) (WInt .i64)) (x.t, x.v)) (WPair (WInt .i64) (WPair (WInt .i64) (WInt .i64)))))) (x.kind, x.ser, x.smp, x.frm, x.to, x.tot))))) (x.epoch, x.client, x.id, x.op))) := opens_slice Tryz.underlying22 88 (by kernel_rfl) (by kernel_rfl) op37
set_option maxRecDepth 100000 in
theorem lifted (os : Os) (started : os.Started) (H : Type) (enc : TypeId × Value → H) :
    ReturnsInHanded {} Tryz.checked os 3 .any (Rows.shelfFoldsSpec.pre6 enc Tryz.prog Tryz.f3 Rows.shelfFoldsRow.domain false) (Rows.shelfFoldsSpec.post enc Tryz.prog Tryz.f3 false true false false) := by
  refine returnsInHanded_of_change_shaped (C := Tryz.checked) own started (by kernel_rfl) Tryz.func3
    (ChangeSpec.witness6 (enc := enc) (C := Tryz.checked) false ⟨#[], #[.slice none 0 0], []⟩ 8 (by kernel_rfl) (by kernel_rfl) (by kernel_rfl) (by kernel_rfl)) ?_
  intro W base args ds gs before hval0 hW hcnd hsz0 hsh _
  have hsz : (DataW.weightsEach Tryz.prog (Tryz.f3.params.toList ++ Rows.shelfFoldsSpec.plain.varTypes Tryz.prog) (ds ++ gs)).all (· ≤ reachBytes) = true := hsz0
  have hval : ∀ (j : Nat) t v, Tryz.f3.params[j]? = some t → args[j]? = some v → Value.okWide Tryz.prog W .any base t v := hval0
  have hW' := hW
  obtain ⟨p, q, hA0, hV, rfl, hfz, hnd⟩ := hW
  have hA : DataW.TrodAll enc Tryz.prog W 0 (fun _ => true) true Tryz.f3.params.toList args.toList ds p := hA0
  rw [Tryz.params3] at hA hval hsz
  obtain ⟨v0, vs0, d0, ds0, p0, q0, hargs, rfl, rfl, h0, r0⟩ := trodAll_cons hA
  obtain ⟨rfl, rfl, rfl⟩ := trodAll_nil r0
  obtain rfl : args = #[v0] := by cases args; simp_all
  obtain ⟨rfl, rfl⟩ := trodVars_none hV
  have k0 := h0
  have lt0 : ∀ x ∈ p0, x.block < W.heap.size := by obtain ⟨m, hm⟩ := k0; exact DataW.trod_lt m _ _ _ hm
  have hw0 : ∀ n ∈ d0.weights Tryz.prog 22, n ≤ reachBytes := fun n hn => by simpa using List.all_eq_true.1 hsz n (DataW.weights_mem_each (j := 0) rfl rfl n hn)
  obtain ⟨y0, w0, r0x⟩ := slice_arg op22 Tryz.underlying22 (hval 0 22 v0 rfl rfl) h0 hw0
  obtain ⟨mx, hmx⟩ := Go.Proofs.cell_of_shapedOpen_int (P := Tryz.prog) (g := 0) (zero := #[.int .i64 0]) (t := 3) hsh (of_decide_eq_true (by kernel_rfl)) (by kernel_rfl) rfl (by kernel_rfl) (by kernel_rfl) Tryz.underlying3
  have hc := ShelfFolds_rc y0 (wlen w0.1 (by decide)) []
  have hps : True := trivial
  clear hA0 hval0 hsz0 hsz
  refine (law_calls (w := W) (vals := #[v0]) F_windroselaw14_ShelfFolds hc (GI_some (by kernel_rfl) hmx) ⟨r0x, trivial⟩).mono fun e W' ⟨he, bel0⟩ => ?_
  have bel : Below W.heap.size W W' := bel0
  subst he
  exact ⟨_, rfl, _, _, _, [], _, [], hW', trodAll_mk1 (shut_bool Tryz.underlying4 _), (trodAll_cons_mk (Below.trod laidOut (by kernel_rfl) (of_decide_eq_true (by kernel_rfl)) k0 bel lt0) trodAll_mk0), rfl, bel.frame _, fun h => by cases h⟩
theorem over : Rows.shelfFoldsRow.holds Tryz.pinned (OpenSpec.ofChange Rows.shelfFoldsSpec) :=
  OpenClaim.holds_of_wide 3 Tryz.f3 rfl rfl rfl rfl rfl rfl rfl ⟨rfl, rfl, rfl, rfl, rfl⟩ rfl rfl rfl rfl rfl (by kernel_rfl) Tryz.func3 (by kernel_rfl)
    (of_decide_eq_true (by kernel_rfl)) (by unfold Func.isWrapper; first | (rw [if_pos (by decide +kernel)]; kernel_rfl) | (rw [if_neg (by decide +kernel)]; exact ⟨rfl, rfl⟩))
    (fun os started H enc _ => lifted os started H enc)
theorem proved : Rows.ShelfFoldsSaid := over
#print axioms proved
end Go.Proofs.YtcmkhlfjcdchmaaGreat.shelfFolds
namespace Go.Proofs.YtcmkhlfjcdchmaaGreat
/-- The row, under a short name, for the claim. -/
theorem shelfFolds_holds : Rows.ShelfFoldsSaid := shelfFolds.proved
end Go.Proofs.YtcmkhlfjcdchmaaGreat
