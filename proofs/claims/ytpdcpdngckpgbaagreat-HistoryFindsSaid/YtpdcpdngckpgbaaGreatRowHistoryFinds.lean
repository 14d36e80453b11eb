/- The statement HistoryFinds: for every input the Go law windrose/windroselaw34.HistoryFinds returns true, and each argument reads behind the call as it read before. Conditions: none but the row's own. -/
import Derived.Test.YtpdcpdngckpgbaaGreatHixg
import Derived.Test.YtpdcpdngckpgbaaGreatRows
import Derived.HandedShaped
import Derived.Shelf.Vars
import Derived.WalkKit
import Derived.ProofKit
import Derived.OpenShut
import Derived.ShutString
import Derived.ChangeOld
import Derived.Below
import Derived.SizedLaws
import Derived.Carry
namespace Go.Proofs.YtpdcpdngckpgbaaGreat.historyFinds
open Go.ChangeShapes Go.WideShapes Go.ChangeAt Go.RowKit Go.Proofs.YtpdcpdngckpgbaaGreat.A Go.Proofs.YtpdcpdngckpgbaaGreatAbs
open Go.ChangeMaps (open_string shut_string)
set_option linter.unusedVariables false
theorem own : ownKnob Tryz.prog.godebug = none := by kernel_rfl
theorem laidOut : laidOutB Tryz.prog = true := by kernel_rfl
theorem op3 : OpensC Tryz.prog 3 1 (CInt .i64) (WInt .i64) := opens_int Tryz.underlying3
theorem op9 : OpensC Tryz.prog 9 1 CStr WStr := opens_string Tryz.underlying9
theorem op63 : OpensC Tryz.prog 63 2 Smp.c (fun x : Smp => (WPair (WInt .i64) (WInt .i64)) (x.t, x.v)) := opens_struct (sz := 1 + (1)) (c := (CPair 1 (CInt .i64) (CInt .i64))) (wf := (WPair (WInt .i64) (WInt .i64))) Tryz.underlying63 (by kernel_rfl) (opensF_cons rfl (by kernel_rfl) op3 (opensF_one rfl (by kernel_rfl) op3)) (fun y : Int × Int => ⟨y.1, y.2⟩) (by intro y k hk; rcases k with _ | _ | k <;> first | rfl | omega) (fun _ h => h)
theorem op65 : OpensC Tryz.prog 65 7 Opn.c (fun x : Opn => (WPair (WInt .i64) (WPair WStr (WPair (fun x : Smp => (WPair (WInt .i64) (WInt .i64)) (x.t, x.v)) (WPair (WInt .i64) (WPair (WInt .i64) (WInt .i64)))))) (x.kind, x.ser, x.smp, x.frm, x.to, x.tot)) := opens_struct (sz := 1 + (1 + (2 + (1 + (1 + (1)))))) (c := (CPair 1 (CInt .i64) (CPair 1 CStr (CPair 2 Smp.c (CPair 1 (CInt .i64) (CPair 1 (CInt .i64) (CInt .i64))))))) (wf := (WPair (WInt .i64) (WPair WStr (WPair (fun x : Smp => (WPair (WInt .i64) (WInt .i64)) (x.t, x.v)) (WPair (WInt .i64) (WPair (WInt .i64) (WInt .i64))))))) Tryz.underlying65 (by kernel_rfl) (opensF_cons rfl (by kernel_rfl) op3 (opensF_cons rfl (by kernel_rfl) op9 (opensF_cons rfl (by kernel_rfl) op63 (opensF_cons rfl (by kernel_rfl) op3 (opensF_cons rfl (by kernel_rfl) op3 (opensF_one rfl (by kernel_rfl) op3)))))) (fun y : Int × ByteArray × Smp × Int × Int × Int => ⟨y.1, y.2.1, y.2.2.1, y.2.2.2.1, y.2.2.2.2.1, y.2.2.2.2.2⟩) (by intro y k hk; rcases k with _ | _ | _ | _ | _ | _ | _ | k <;> first | rfl | omega) (fun _ h => h)
theorem op32 : OpensC Tryz.prog 32 1 (CInt .i64) (WInt .i64) := opens_int Tryz.underlying32
theorem op4 : OpensC Tryz.prog 4 1 CBool WAny := opens_bool Tryz.underlying4
theorem op67 : OpensC Tryz.prog 67 3 Ans.c (fun x : Ans => (WPair (WInt .i64) (WPair WAny (WInt .i64))) (x.code, x.has, x.n)) := opens_struct (sz := 1 + (1 + (1))) (c := (CPair 1 (CInt .i64) (CPair 1 CBool (CInt .i64)))) (wf := (WPair (WInt .i64) (WPair WAny (WInt .i64)))) Tryz.underlying67 (by kernel_rfl) (opensF_cons rfl (by kernel_rfl) op32 (opensF_cons rfl (by kernel_rfl) op4 (opensF_one rfl (by kernel_rfl) op3))) (fun y : Int × Bool × Int => ⟨y.1, y.2.1, y.2.2⟩) (by intro y k hk; rcases k with _ | _ | _ | k <;> first | rfl | omega) (fun _ h => h)
theorem op69 : OpensC Tryz.prog 69 15 Evt.c (fun x : Evt => (WPair (WInt .i64) (WPair (WInt .i64) (WPair (WInt .i64) (WPair (fun x : Opn => (WPair (WInt .i64) (WPair WStr (WPair (fun x : Smp => (WPair (WInt .i64) (WInt .i64)) (x.t, x.v)) (WPair (WInt .i64) (WPair (WInt .i64) (WInt .i64)))))) (x.kind, x.ser, x.smp, x.frm, x.to, x.tot)) (WPair (WInt .i64) (WPair (WInt .i64) (fun x : Ans => (WPair (WInt .i64) (WPair WAny (WInt .i64))) (x.code, x.has, x.n)))))))) (x.client, x.id, x.group, x.op, x.bg, x.en, x.ans)) := opens_struct (sz := 1 + (1 + (1 + (7 + (1 + (1 + (3))))))) (c := (CPair 1 (CInt .i64) (CPair 1 (CInt .i64) (CPair 1 (CInt .i64) (CPair 7 Opn.c (CPair 1 (CInt .i64) (CPair 1 (CInt .i64) Ans.c))))))) (wf := (WPair (WInt .i64) (WPair (WInt .i64) (WPair (WInt .i64) (WPair (fun x : Opn => (WPair (WInt .i64) (WPair WStr (WPair (fun x : Smp => (WPair (WInt .i64) (WInt .i64)) (x.t, x.v)) (WPair (WInt .i64) (WPair (WInt .i64) (WInt .i64)))))) (x.kind, x.ser, x.smp, x.frm, x.to, x.tot)) (WPair (WInt .i64) (WPair (WInt .i64) (fun x : Ans => (WPair (WInt .i64) (WPair WAny (WInt .i64))) (x.code, x.has, x.n))))))))) Tryz.underlying69 (by kernel_rfl) (opensF_cons rfl (by kernel_rfl) op3 (opensF_cons rfl (by kernel_rfl) op3 (opensF_cons rfl (by kernel_rfl) op3 (opensF_cons rfl (by kernel_rfl) op65 (opensF_cons rfl (by kernel_rfl) op3 (opensF_cons rfl (by kernel_rfl) op3 (opensF_one rfl (by kernel_rfl) op67))))))) (fun y : Int × Int × Int × Opn × Int × Int × Ans => ⟨y.1, y.2.1, y.2.2.1, y.2.2.2.1, y.2.2.2.2.1, y.2.2.2.2.2.1, y.2.2.2.2.2.2⟩) (by intro y k hk; rcases k with _ | _ | _ | _ | _ | _ | _ | _ | _ | _ | _ | _ | _ | _ | _ | k <;> first | rfl | omega) (fun _ h => h)
theorem op54 : OpensC Tryz.prog 54 1 (CSl 15 Evt.c) (WSlice 128 (fun x : Evt => (WPair (WInt .i64) (WPair (WInt .i64) (WPair (WInt .i64) (WPair (fun x : Opn => (WPair (WInt .i64) (WPair WStr (WPair (fun x : Smp => (WPair (WInt .i64) (WInt .i64)) (x.t, x.v)) (WPair (WInt .i64) (WPair (WInt .i64) (WInt .i64)))))) (x.kind, x.ser, x.smp, x.frm, x.to, x.tot)) (WPair (WInt .i64) (WPair (WInt .i64) (fun x : Ans => (WPair (WInt .i64) (WPair WAny (WInt .i64))) (x.code, x.has, x.n)))))))) (x.client, x.id, x.group, x.op, x.bg, x.en, x.ans))) := opens_slice Tryz.underlying54 128 (by kernel_rfl) (by kernel_rfl) op69
set_option maxRecDepth 100000 in
theorem lifted (os : Os) (started : os.Started) (H : Type) (enc : TypeId × Value → H) :
    ReturnsInHanded {} Tryz.checked os 6 .any (Rows.historyFindsSpec.pre6 enc Tryz.prog Tryz.f6 Rows.historyFindsRow.domain false) (Rows.historyFindsSpec.post enc Tryz.prog Tryz.f6 false true false false) := by
  refine returnsInHanded_of_change_shaped (C := Tryz.checked) own started (by kernel_rfl) Tryz.func6
    (ChangeSpec.witness6 (enc := enc) (C := Tryz.checked) false ⟨#[], #[.slice none 0 0, .int .i64 0], []⟩ 8 (by kernel_rfl) (by kernel_rfl) (by kernel_rfl) (by kernel_rfl)) ?_
  intro W base args ds gs before hval0 hW hcnd hsz0 hsh _
  have hsz : (DataW.weightsEach Tryz.prog (Tryz.f6.params.toList ++ Rows.historyFindsSpec.plain.varTypes Tryz.prog) (ds ++ gs)).all (· ≤ reachBytes) = true := hsz0
  have hval : ∀ (j : Nat) t v, Tryz.f6.params[j]? = some t → args[j]? = some v → Value.okWide Tryz.prog W .any base t v := hval0
  have hW' := hW
  obtain ⟨p, q, hA0, hV, rfl, hfz, hnd⟩ := hW
  have hA : DataW.TrodAll enc Tryz.prog W 0 (fun _ => true) true Tryz.f6.params.toList args.toList ds p := hA0
  rw [Tryz.params6] at hA hval hsz
  obtain ⟨v0, vs0, d0, ds0, p0, q0, hargs, rfl, rfl, h0, r0⟩ := trodAll_cons hA
  obtain ⟨v1, vs1, d1, ds1, p1, q1, rfl, rfl, rfl, h1, r1⟩ := trodAll_cons r0
  obtain ⟨rfl, rfl, rfl⟩ := trodAll_nil r1
  obtain rfl : args = #[v0, v1] := by cases args; simp_all
  obtain ⟨rfl, rfl⟩ := trodVars_none hV
  have k0 := h0
  have lt0 : ∀ x ∈ p0, x.block < W.heap.size := by obtain ⟨m, hm⟩ := k0; exact DataW.trod_lt m _ _ _ hm
  have hw0 : ∀ n ∈ d0.weights Tryz.prog 54, n ≤ reachBytes := fun n hn => by simpa using List.all_eq_true.1 hsz n (DataW.weights_mem_each (j := 0) rfl rfl n hn)
  obtain ⟨y0, w0, r0x⟩ := slice_arg op54 Tryz.underlying54 (hval 0 54 v0 rfl rfl) h0 hw0
  obtain ⟨y1, rfl, rfl, rfl, w1⟩ := open_int Tryz.underlying3 (hval 1 3 v1 rfl rfl) h1
  obtain ⟨mx, hmx⟩ := Go.Proofs.cell_of_shapedOpen_int (P := Tryz.prog) (g := 0) (zero := #[.int .i64 0]) (t := 3) hsh (of_decide_eq_true (by kernel_rfl)) (by kernel_rfl) rfl (by kernel_rfl) (by kernel_rfl) Tryz.underlying3
  have hc := HistoryFinds_rc y0 (wlenH w0.1 (by decide)) y1 []
  have hps : True := trivial
  clear hA0 hval0 hsz0 hsz
  refine (law_calls (w := W) (vals := #[v0, .int .i64 y1]) F_windroselaw34_HistoryFinds hc (GI_some (by kernel_rfl) hmx) ⟨r0x, rel_int _ _, trivial⟩).mono fun e W' ⟨he, bel0⟩ => ?_
  have bel : Below W.heap.size W W' := bel0
  subst he
  exact ⟨_, rfl, _, _, _, [], _, [], hW', trodAll_mk1 (shut_bool Tryz.underlying4 _), (trodAll_cons_mk (Below.trod laidOut (by kernel_rfl) (of_decide_eq_true (by kernel_rfl)) k0 bel lt0) (trodAll_cons_mk (shut_int Tryz.underlying3 w1) trodAll_mk0)), rfl, bel.frame _, fun h => by cases h⟩
theorem over : Rows.historyFindsRow.holds Tryz.pinned (OpenSpec.ofChange Rows.historyFindsSpec) :=
  OpenClaim.holds_of_wide 6 Tryz.f6 rfl rfl rfl rfl rfl rfl rfl ⟨rfl, rfl, rfl, rfl, rfl⟩ rfl rfl rfl rfl rfl (by kernel_rfl) Tryz.func6 (by kernel_rfl)
    (of_decide_eq_true (by kernel_rfl)) (by unfold Func.isWrapper; first | (rw [if_pos (by decide +kernel)]; kernel_rfl) | (rw [if_neg (by decide +kernel)]; exact ⟨rfl, rfl⟩))
    (fun os started H enc _ => lifted os started H enc)
theorem proved : Rows.HistoryFindsSaid := over
#print axioms proved
end Go.Proofs.YtpdcpdngckpgbaaGreat.historyFinds
namespace Go.Proofs.YtpdcpdngckpgbaaGreat
/-- The row, under a short name, for the claim. -/
theorem historyFinds_holds : Rows.HistoryFindsSaid := historyFinds.proved
end Go.Proofs.YtpdcpdngckpgbaaGreat
