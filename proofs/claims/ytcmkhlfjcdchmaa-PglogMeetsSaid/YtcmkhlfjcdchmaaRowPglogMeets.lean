/- The statement PglogMeets: for every input the Go law windrose/windroselaw28.PglogMeets returns true, and each argument reads behind the call as it read before. Conditions: none but the row's own. -/
import Derived.Test.YtcmkhlfjcdchmaaPmxe
import Derived.Test.YtcmkhlfjcdchmaaRows
import Derived.HandedShaped
import Derived.Shelf.Vars
import Derived.WalkKit
import Derived.ProofKit
import Derived.OpenShut
import Derived.ShutString
import Derived.ChangeOld
import Derived.Below
import Derived.SizedLaws
import Derived.Carry
namespace Go.Proofs.Ytcmkhlfjcdchmaa.pglogMeets
open Go.ChangeShapes Go.WideShapes Go.ChangeAt Go.RowKit Go.Proofs.Ytcmkhlfjcdchmaa.A Go.Proofs.YtcmkhlfjcdchmaaAbs
open Go.ChangeMaps (open_string shut_string)
set_option linter.unusedVariables false
theorem own : ownKnob Try.prog.godebug = none := by kernel_rfl
theorem laidOut : laidOutB Try.prog = true := by kernel_rfl
theorem op9 : OpensC Try.prog 9 1 CStr WStr := opens_string Try.underlying9
theorem op3 : OpensC Try.prog 3 1 (CInt .i64) (WInt .i64) := opens_int Try.underlying3
theorem op23 : OpensC Try.prog 23 2 Smp.c (fun x : Smp => (WPair (WInt .i64) (WInt .i64)) (x.t, x.v)) := opens_struct (sz := 1 + (1)) (c := (CPair 1 (CInt .i64) (CInt .i64))) (wf := (WPair (WInt .i64) (WInt .i64))) Try.underlying23 (by kernel_rfl) (opensF_cons rfl (by kernel_rfl) op3 (opensF_one rfl (by kernel_rfl) op3)) (fun y : Int × Int => ⟨y.1, y.2⟩) (by intro y k hk; rcases k with _ | _ | k <;> first | rfl | omega) (fun _ h => h)
theorem op84 : OpensC Try.prog 84 1 (CSl 2 Smp.c) (WSlice 16 (fun x : Smp => (WPair (WInt .i64) (WInt .i64)) (x.t, x.v))) := opens_slice Try.underlying84 16 (by kernel_rfl) (by kernel_rfl) op23
theorem op87 : OpensC Try.prog 87 2 Lin.c (fun x : Lin => (WPair WStr (WSlice 16 (fun x : Smp => (WPair (WInt .i64) (WInt .i64)) (x.t, x.v)))) (x.ser, x.smps)) := opens_struct (sz := 1 + (1)) (c := (CPair 1 CStr (CSl 2 Smp.c))) (wf := (WPair WStr (WSlice 16 (fun x : Smp => (WPair (WInt .i64) (WInt .i64)) (x.t, x.v))))) Try.underlying87 (by kernel_rfl) (opensF_cons rfl (by kernel_rfl) op9 (opensF_one rfl (by kernel_rfl) op84)) (fun y : ByteArray × (List Smp) => ⟨y.1, y.2⟩) (by intro y k hk; rcases k with _ | _ | k <;> first | rfl | omega) (fun _ h => h)
theorem op45 : OpensC Try.prog 45 1 (CSl 2 Lin.c) (WSlice 40 (fun x : Lin => (WPair WStr (WSlice 16 (fun x : Smp => (WPair (WInt .i64) (WInt .i64)) (x.t, x.v)))) (x.ser, x.smps))) := opens_slice Try.underlying45 40 (by kernel_rfl) (by kernel_rfl) op87
theorem op33 : OpensC Try.prog 33 1 (CInt .i64) (WInt .i64) := opens_int Try.underlying33
theorem op4 : OpensC Try.prog 4 1 CBool WAny := opens_bool Try.underlying4
theorem op90 : OpensC Try.prog 90 3 Ans.c (fun x : Ans => (WPair (WInt .i64) (WPair WAny (WInt .i64))) (x.code, x.has, x.n)) := opens_struct (sz := 1 + (1 + (1))) (c := (CPair 1 (CInt .i64) (CPair 1 CBool (CInt .i64)))) (wf := (WPair (WInt .i64) (WPair WAny (WInt .i64)))) Try.underlying90 (by kernel_rfl) (opensF_cons rfl (by kernel_rfl) op33 (opensF_cons rfl (by kernel_rfl) op4 (opensF_one rfl (by kernel_rfl) op3))) (fun y : Int × Bool × Int => ⟨y.1, y.2.1, y.2.2⟩) (by intro y k hk; rcases k with _ | _ | _ | k <;> first | rfl | omega) (fun _ h => h)
theorem op92 : OpensC Try.prog 92 5 Dn.c (fun x : Dn => (WPair (WInt .i64) (WPair (WInt .i64) (fun x : Ans => (WPair (WInt .i64) (WPair WAny (WInt .i64))) (x.code, x.has, x.n)))) (x.client, x.id, x.ans)) := opens_struct (sz := 1 + (1 + (3))) (c := (CPair 1 (CInt .i64) (CPair 1 (CInt .i64) Ans.c))) (wf := (WPair (WInt .i64) (WPair (WInt .i64) (fun x : Ans => (WPair (WInt .i64) (WPair WAny (WInt .i64))) (x.code, x.has, x.n))))) Try.underlying92 (by kernel_rfl) (opensF_cons rfl (by kernel_rfl) op3 (opensF_cons rfl (by kernel_rfl) op3 (opensF_one rfl (by kernel_rfl) op90))) (fun y : Int × Int × Ans => ⟨y.1, y.2.1, y.2.2⟩) (by intro y k hk; rcases k with _ | _ | _ | _ | _ | k <;> first | rfl | omega) (fun _ h => h)
theorem op46 : OpensC Try.prog 46 1 (CSl 5 Dn.c) (WSlice 40 (fun x : Dn => (WPair (WInt .i64) (WPair (WInt .i64) (fun x : Ans => (WPair (WInt .i64) (WPair WAny (WInt .i64))) (x.code, x.has, x.n)))) (x.client, x.id, x.ans))) := opens_slice Try.underlying46 40 (by kernel_rfl) (by kernel_rfl) op92
theorem op48 : OpensC Try.prog 48 3 Shf.c (fun x : Shf => (WPair (WSlice 40 (fun x : Lin => (WPair WStr (WSlice 16 (fun x : Smp => (WPair (WInt .i64) (WInt .i64)) (x.t, x.v)))) (x.ser, x.smps))) (WPair (WSlice 40 (fun x : Dn => (WPair (WInt .i64) (WPair (WInt .i64) (fun x : Ans => (WPair (WInt .i64) (WPair WAny (WInt .i64))) (x.code, x.has, x.n)))) (x.client, x.id, x.ans))) (WInt .i64))) (x.lines, x.dones, x.floor)) := opens_struct (sz := 1 + (1 + (1))) (c := (CPair 1 (CSl 2 Lin.c) (CPair 1 (CSl 5 Dn.c) (CInt .i64)))) (wf := (WPair (WSlice 40 (fun x : Lin => (WPair WStr (WSlice 16 (fun x : Smp => (WPair (WInt .i64) (WInt .i64)) (x.t, x.v)))) (x.ser, x.smps))) (WPair (WSlice 40 (fun x : Dn => (WPair (WInt .i64) (WPair (WInt .i64) (fun x : Ans => (WPair (WInt .i64) (WPair WAny (WInt .i64))) (x.code, x.has, x.n)))) (x.client, x.id, x.ans))) (WInt .i64)))) Try.underlying48 (by kernel_rfl) (opensF_cons rfl (by kernel_rfl) op45 (opensF_cons rfl (by kernel_rfl) op46 (opensF_one rfl (by kernel_rfl) op3))) (fun y : (List Lin) × (List Dn) × Int => ⟨y.1, y.2.1, y.2.2⟩) (by intro y k hk; rcases k with _ | _ | _ | k <;> first | rfl | omega) (fun _ h => h)
theorem op25 : OpensC Try.prog 25 7 Opn.c (fun x : Opn => (WPair (WInt .i64) (WPair WStr (WPair (fun x : Smp => (WPair (WInt .i64) (WInt .i64)) (x.t, x.v)) (WPair (WInt .i64) (WPair (WInt .i64) (WInt .i64)))))) (x.kind, x.ser, x.smp, x.frm, x.to, x.tot)) := opens_struct (sz := 1 + (1 + (2 + (1 + (1 + (1)))))) (c := (CPair 1 (CInt .i64) (CPair 1 CStr (CPair 2 Smp.c (CPair 1 (CInt .i64) (CPair 1 (CInt .i64) (CInt .i64))))))) (wf := (WPair (WInt .i64) (WPair WStr (WPair (fun x : Smp => (WPair (WInt .i64) (WInt .i64)) (x.t, x.v)) (WPair (WInt .i64) (WPair (WInt .i64) (WInt .i64))))))) Try.underlying25 (by kernel_rfl) (opensF_cons rfl (by kernel_rfl) op3 (opensF_cons rfl (by kernel_rfl) op9 (opensF_cons rfl (by kernel_rfl) op23 (opensF_cons rfl (by kernel_rfl) op3 (opensF_cons rfl (by kernel_rfl) op3 (opensF_one rfl (by kernel_rfl) op3)))))) (fun y : Int × ByteArray × Smp × Int × Int × Int => ⟨y.1, y.2.1, y.2.2.1, y.2.2.2.1, y.2.2.2.2.1, y.2.2.2.2.2⟩) (by intro y k hk; rcases k with _ | _ | _ | _ | _ | _ | _ | k <;> first | rfl | omega) (fun _ h => h)
theorem op27 : OpensC Try.prog 27 10 Ent.c (fun x : Ent => (WPair (WInt .i64) (WPair (WInt .i64) (WPair (WInt .i64) (fun x : Opn => (WPair (WInt .i64) (WPair WStr (WPair (fun x : Smp => (WPair (WInt .i64) (WInt .i64)) (x.t, x.v)) (WPair (WInt .i64) (WPair (WInt .i64) (WInt .i64)))))) (x.kind, x.ser, x.smp, x.frm, x.to, x.tot))))) (x.epoch, x.client, x.id, x.op)) := opens_struct (sz := 1 + (1 + (1 + (7)))) (c := (CPair 1 (CInt .i64) (CPair 1 (CInt .i64) (CPair 1 (CInt .i64) Opn.c)))) (wf := (WPair (WInt .i64) (WPair (WInt .i64) (WPair (WInt .i64) (fun x : Opn => (WPair (WInt .i64) (WPair WStr (WPair (fun x : Smp => (WPair (WInt .i64) (WInt .i64)) (x.t, x.v)) (WPair (WInt .i64) (WPair (WInt .i64) (WInt .i64)))))) (x.kind, x.ser, x.smp, x.frm, x.to, x.tot)))))) Try.underlying27 (by kernel_rfl) (opensF_cons rfl (by kernel_rfl) op3 (opensF_cons rfl (by kernel_rfl) op3 (opensF_cons rfl (by kernel_rfl) op3 (opensF_one rfl (by kernel_rfl) op25)))) (fun y : Int × Int × Int × Opn => ⟨y.1, y.2.1, y.2.2.1, y.2.2.2⟩) (by intro y k hk; rcases k with _ | _ | _ | _ | _ | _ | _ | _ | _ | _ | k <;> first | rfl | omega) (fun _ h => h)
theorem op49 : OpensC Try.prog 49 1 (CSl 10 Ent.c) (WSlice 88 (fun x : Ent => (WPair (WInt .i64) (WPair (WInt .i64) (WPair (WInt .i64) (fun x : Opn => (WPair (WInt .i64) (WPair WStr (WPair (fun x : Smp => (WPair (WInt .i64) (WInt .i64)) (x.t, x.v)) (WPair (WInt .i64) (WPair (WInt .i64) (WInt .i64)))))) (x.kind, x.ser, x.smp, x.frm, x.to, x.tot))))) (x.epoch, x.client, x.id, x.op))) := opens_slice Try.underlying49 88 (by kernel_rfl) (by kernel_rfl) op27
theorem op51 : OpensC Try.prog 51 6 Lg.c (fun x : Lg => (WPair (fun x : Shf => (WPair (WSlice 40 (fun x : Lin => (WPair WStr (WSlice 16 (fun x : Smp => (WPair (WInt .i64) (WInt .i64)) (x.t, x.v)))) (x.ser, x.smps))) (WPair (WSlice 40 (fun x : Dn => (WPair (WInt .i64) (WPair (WInt .i64) (fun x : Ans => (WPair (WInt .i64) (WPair WAny (WInt .i64))) (x.code, x.has, x.n)))) (x.client, x.id, x.ans))) (WInt .i64))) (x.lines, x.dones, x.floor)) (WPair (WInt .i64) (WPair (WInt .i64) (WSlice 88 (fun x : Ent => (WPair (WInt .i64) (WPair (WInt .i64) (WPair (WInt .i64) (fun x : Opn => (WPair (WInt .i64) (WPair WStr (WPair (fun x : Smp => (WPair (WInt .i64) (WInt .i64)) (x.t, x.v)) (WPair (WInt .i64) (WPair (WInt .i64) (WInt .i64)))))) (x.kind, x.ser, x.smp, x.frm, x.to, x.tot))))) (x.epoch, x.client, x.id, x.op)))))) (x.base, x.trim, x.epoch, x.tail)) := opens_struct (sz := 3 + (1 + (1 + (1)))) (c := (CPair 3 Shf.c (CPair 1 (CInt .i64) (CPair 1 (CInt .i64) (CSl 10 Ent.c))))) (wf := (WPair (fun x : Shf => (WPair (WSlice 40 (fun x : Lin => (WPair WStr (WSlice 16 (fun x : Smp => (WPair (WInt .i64) (WInt .i64)) (x.t, x.v)))) (x.ser, x.smps))) (WPair (WSlice 40 (fun x : Dn => (WPair (WInt .i64) (WPair (WInt .i64) (fun x : Ans => (WPair (WInt .i64) (WPair WAny (WInt .i64))) (x.code, x.has, x.n)))) (x.client, x.id, x.ans))) (WInt .i64))) (x.lines, x.dones, x.floor)) (WPair (WInt .i64) (WPair (WInt .i64) (WSlice 88 (fun x : Ent => (WPair (WInt .i64) (WPair (WInt .i64) (WPair (WInt .i64) (fun x : Opn => (WPair (WInt .i64) (WPair WStr (WPair (fun x : Smp => (WPair (WInt .i64) (WInt .i64)) (x.t, x.v)) (WPair (WInt .i64) (WPair (WInt .i64) (WInt .i64)))))) (x.kind, x.ser, x.smp, x.frm, x.to, x.tot))))) (x.epoch, x.client, x.id, x.op))))))) Try.underlying51 (by kernel_rfl) (opensF_cons rfl (by kernel_rfl) op48 (opensF_cons rfl (by kernel_rfl) op3 (opensF_cons rfl (by kernel_rfl) op3 (opensF_one rfl (by kernel_rfl) op49)))) (fun y : Shf × Int × Int × (List Ent) => ⟨y.1, y.2.1, y.2.2.1, y.2.2.2⟩) (by intro y k hk; rcases k with _ | _ | _ | _ | _ | _ | k <;> first | rfl | omega) (fun _ h => h)
set_option maxRecDepth 100000 in
theorem lifted (os : Os) (started : os.Started) (H : Type) (enc : TypeId × Value → H) :
    ReturnsInHanded {} Try.checked os 4 .any (Rows.pglogMeetsSpec.pre6 enc Try.prog Try.f4 Rows.pglogMeetsRow.domain false) (Rows.pglogMeetsSpec.post enc Try.prog Try.f4 false true false false) := by
  refine returnsInHanded_of_change_shaped (C := Try.checked) own started (by kernel_rfl) Try.func4
    (ChangeSpec.witness6 (enc := enc) (C := Try.checked) false ⟨#[], #[.agg #[.slice none 0 0, .slice none 0 0, .int .i64 0, .int .i64 0, .int .i64 0, .slice none 0 0], .agg #[.slice none 0 0, .slice none 0 0, .int .i64 0, .int .i64 0, .int .i64 0, .slice none 0 0]], []⟩ 8 (by kernel_rfl) (by kernel_rfl) (by kernel_rfl) (by kernel_rfl)) ?_
  intro W base args ds gs before hval0 hW hcnd hsz0 hsh _
  have hsz : (DataW.weightsEach Try.prog (Try.f4.params.toList ++ Rows.pglogMeetsSpec.plain.varTypes Try.prog) (ds ++ gs)).all (· ≤ reachBytes) = true := hsz0
  have hval : ∀ (j : Nat) t v, Try.f4.params[j]? = some t → args[j]? = some v → Value.okWide Try.prog W .any base t v := hval0
  have hW' := hW
  obtain ⟨p, q, hA0, hV, rfl, hfz, hnd⟩ := hW
  have hA : DataW.TrodAll enc Try.prog W 0 (fun _ => true) true Try.f4.params.toList args.toList ds p := hA0
  rw [Try.params4] at hA hval hsz
  obtain ⟨v0, vs0, d0, ds0, p0, q0, hargs, rfl, rfl, h0, r0⟩ := trodAll_cons hA
  obtain ⟨v1, vs1, d1, ds1, p1, q1, rfl, rfl, rfl, h1, r1⟩ := trodAll_cons r0
  obtain ⟨rfl, rfl, rfl⟩ := trodAll_nil r1
  obtain rfl : args = #[v0, v1] := by cases args; simp_all
  obtain ⟨rfl, rfl⟩ := trodVars_none hV
  have k0 := h0
  have lt0 : ∀ x ∈ p0, x.block < W.heap.size := by obtain ⟨m, hm⟩ := k0; exact DataW.trod_lt m _ _ _ hm
  have hw0 : ∀ n ∈ d0.weights Try.prog 51, n ≤ reachBytes := fun n hn => by simpa using List.all_eq_true.1 hsz n (DataW.weights_mem_each (j := 0) rfl rfl n hn)
  obtain ⟨y0, w0, r0x⟩ := struct_arg op51 Try.underlying51 (hval 0 51 v0 rfl rfl) h0 hw0
  have k1 := h1
  have lt1 : ∀ x ∈ p1, x.block < W.heap.size := by obtain ⟨m, hm⟩ := k1; exact DataW.trod_lt m _ _ _ hm
  have hw1 : ∀ n ∈ d1.weights Try.prog 51, n ≤ reachBytes := fun n hn => by simpa using List.all_eq_true.1 hsz n (DataW.weights_mem_each (j := 1) rfl rfl n hn)
  obtain ⟨y1, w1, r1x⟩ := struct_arg op51 Try.underlying51 (hval 1 51 v1 rfl rfl) h1 hw1
  obtain ⟨mx, hmx⟩ := Go.Proofs.cell_of_shapedOpen_int (P := Try.prog) (g := 0) (zero := #[.int .i64 0]) (t := 3) hsh (of_decide_eq_true (by kernel_rfl)) (by kernel_rfl) rfl (by kernel_rfl) (by kernel_rfl) Try.underlying3
  have hc := PglogMeets_rc y0 y1 (wlen w0.2.2.2.1 (by decide)) (wlen w0.1.1.1 (by decide)) (wlen w1.2.2.2.1 (by decide)) (wlen w1.1.1.1 (by decide)) []
  have hps : True := trivial
  clear hA0 hval0 hsz0 hsz
  refine (law_calls (w := W) (vals := #[v0, v1]) F_windroselaw28_PglogMeets hc (GI_some (by kernel_rfl) hmx) ⟨r0x, r1x, trivial⟩).mono fun e W' ⟨he, bel0⟩ => ?_
  have bel : Below W.heap.size W W' := bel0
  subst he
  exact ⟨_, rfl, _, _, _, [], _, [], hW', trodAll_mk1 (shut_bool Try.underlying4 _), (trodAll_cons_mk (Below.trod laidOut (by kernel_rfl) (of_decide_eq_true (by kernel_rfl)) k0 bel lt0) (trodAll_cons_mk (Below.trod laidOut (by kernel_rfl) (of_decide_eq_true (by kernel_rfl)) k1 bel lt1) trodAll_mk0)), rfl, bel.frame _, fun h => by cases h⟩
theorem over : Rows.pglogMeetsRow.holds Try.pinned (OpenSpec.ofChange Rows.pglogMeetsSpec) :=
  OpenClaim.holds_of_wide 4 Try.f4 rfl rfl rfl rfl rfl rfl rfl ⟨rfl, rfl, rfl, rfl, rfl⟩ rfl rfl rfl rfl rfl (by kernel_rfl) Try.func4 (by kernel_rfl)
    (of_decide_eq_true (by kernel_rfl)) (by unfold Func.isWrapper; first | (rw [if_pos (by decide +kernel)]; kernel_rfl) | (rw [if_neg (by decide +kernel)]; exact ⟨rfl, rfl⟩))
    (fun os started H enc _ => lifted os started H enc)
theorem proved : Rows.PglogMeetsSaid := over
#print axioms proved
end Go.Proofs.Ytcmkhlfjcdchmaa.pglogMeets
namespace Go.Proofs.Ytcmkhlfjcdchmaa
/-- The row, under a short name, for the claim. -/
theorem pglogMeets_holds : Rows.PglogMeetsSaid := pglogMeets.proved
end Go.Proofs.Ytcmkhlfjcdchmaa
