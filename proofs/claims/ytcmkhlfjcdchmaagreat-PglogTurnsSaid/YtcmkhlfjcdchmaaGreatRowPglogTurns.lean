/- The statement PglogTurns: for every input the Go law windrose/windroselaw28.PglogTurns returns true, and each argument reads behind the call as it read before. Conditions: none but the row's own. -/
import Derived.Test.YtcmkhlfjcdchmaaGreatPgpg
import Derived.Test.YtcmkhlfjcdchmaaGreatRows
import Derived.HandedShaped
import Derived.Shelf.Vars
import Derived.WalkKit
import Derived.ProofKit
import Derived.OpenShut
import Derived.ShutString
import Derived.ChangeOld
import Derived.Below
import Derived.SizedLaws
import Derived.Carry
namespace Go.Proofs.YtcmkhlfjcdchmaaGreat.pglogTurns
open Go.ChangeShapes Go.WideShapes Go.ChangeAt Go.RowKit Go.Proofs.YtcmkhlfjcdchmaaGreat.A Go.Proofs.YtcmkhlfjcdchmaaGreatAbs
open Go.ChangeMaps (open_string shut_string)
set_option linter.unusedVariables false
theorem own : ownKnob Tryz.prog.godebug = none := by kernel_rfl
theorem laidOut : laidOutB Tryz.prog = true := by kernel_rfl
theorem op9 : OpensC Tryz.prog 9 1 CStr WStr := opens_string Tryz.underlying9
theorem op3 : OpensC Tryz.prog 3 1 (CInt .i64) (WInt .i64) := opens_int Tryz.underlying3
theorem op33 : OpensC Tryz.prog 33 2 Smp.c (fun x : Smp => (WPair (WInt .i64) (WInt .i64)) (x.t, x.v)) := opens_struct (sz := 1 + (1)) (c := (CPair 1 (CInt .i64) (CInt .i64))) (wf := (WPair (WInt .i64) (WInt .i64))) Tryz.underlying33 (by kernel_rfl) (opensF_cons rfl (by kernel_rfl) op3 (opensF_one rfl (by kernel_rfl) op3)) (fun y : Int × Int => ⟨y.1, y.2⟩) (by intro y k hk; rcases k with _ | _ | k <;> first | rfl | omega) (fun _ h => h)
theorem op47 : OpensC Tryz.prog 47 1 (CSl 2 Smp.c) (WSlice 16 (fun x : Smp => (WPair (WInt .i64) (WInt .i64)) (x.t, x.v))) := opens_slice Tryz.underlying47 16 (by kernel_rfl) (by kernel_rfl) op33
theorem op49 : OpensC Tryz.prog 49 2 Lin.c (fun x : Lin => (WPair WStr (WSlice 16 (fun x : Smp => (WPair (WInt .i64) (WInt .i64)) (x.t, x.v)))) (x.ser, x.smps)) := opens_struct (sz := 1 + (1)) (c := (CPair 1 CStr (CSl 2 Smp.c))) (wf := (WPair WStr (WSlice 16 (fun x : Smp => (WPair (WInt .i64) (WInt .i64)) (x.t, x.v))))) Tryz.underlying49 (by kernel_rfl) (opensF_cons rfl (by kernel_rfl) op9 (opensF_one rfl (by kernel_rfl) op47)) (fun y : ByteArray × (List Smp) => ⟨y.1, y.2⟩) (by intro y k hk; rcases k with _ | _ | k <;> first | rfl | omega) (fun _ h => h)
theorem op26 : OpensC Tryz.prog 26 1 (CSl 2 Lin.c) (WSlice 40 (fun x : Lin => (WPair WStr (WSlice 16 (fun x : Smp => (WPair (WInt .i64) (WInt .i64)) (x.t, x.v)))) (x.ser, x.smps))) := opens_slice Tryz.underlying26 40 (by kernel_rfl) (by kernel_rfl) op49
theorem op39 : OpensC Tryz.prog 39 1 (CInt .i64) (WInt .i64) := opens_int Tryz.underlying39
theorem op4 : OpensC Tryz.prog 4 1 CBool WAny := opens_bool Tryz.underlying4
theorem op41 : OpensC Tryz.prog 41 3 Ans.c (fun x : Ans => (WPair (WInt .i64) (WPair WAny (WInt .i64))) (x.code, x.has, x.n)) := opens_struct (sz := 1 + (1 + (1))) (c := (CPair 1 (CInt .i64) (CPair 1 CBool (CInt .i64)))) (wf := (WPair (WInt .i64) (WPair WAny (WInt .i64)))) Tryz.underlying41 (by kernel_rfl) (opensF_cons rfl (by kernel_rfl) op39 (opensF_cons rfl (by kernel_rfl) op4 (opensF_one rfl (by kernel_rfl) op3))) (fun y : Int × Bool × Int => ⟨y.1, y.2.1, y.2.2⟩) (by intro y k hk; rcases k with _ | _ | _ | k <;> first | rfl | omega) (fun _ h => h)
theorem op45 : OpensC Tryz.prog 45 5 Dn.c (fun x : Dn => (WPair (WInt .i64) (WPair (WInt .i64) (fun x : Ans => (WPair (WInt .i64) (WPair WAny (WInt .i64))) (x.code, x.has, x.n)))) (x.client, x.id, x.ans)) := opens_struct (sz := 1 + (1 + (3))) (c := (CPair 1 (CInt .i64) (CPair 1 (CInt .i64) Ans.c))) (wf := (WPair (WInt .i64) (WPair (WInt .i64) (fun x : Ans => (WPair (WInt .i64) (WPair WAny (WInt .i64))) (x.code, x.has, x.n))))) Tryz.underlying45 (by kernel_rfl) (opensF_cons rfl (by kernel_rfl) op3 (opensF_cons rfl (by kernel_rfl) op3 (opensF_one rfl (by kernel_rfl) op41))) (fun y : Int × Int × Ans => ⟨y.1, y.2.1, y.2.2⟩) (by intro y k hk; rcases k with _ | _ | _ | _ | _ | k <;> first | rfl | omega) (fun _ h => h)
theorem op27 : OpensC Tryz.prog 27 1 (CSl 5 Dn.c) (WSlice 40 (fun x : Dn => (WPair (WInt .i64) (WPair (WInt .i64) (fun x : Ans => (WPair (WInt .i64) (WPair WAny (WInt .i64))) (x.code, x.has, x.n)))) (x.client, x.id, x.ans))) := opens_slice Tryz.underlying27 40 (by kernel_rfl) (by kernel_rfl) op45
theorem op29 : OpensC Tryz.prog 29 3 Shf.c (fun x : Shf => (WPair (WSlice 40 (fun x : Lin => (WPair WStr (WSlice 16 (fun x : Smp => (WPair (WInt .i64) (WInt .i64)) (x.t, x.v)))) (x.ser, x.smps))) (WPair (WSlice 40 (fun x : Dn => (WPair (WInt .i64) (WPair (WInt .i64) (fun x : Ans => (WPair (WInt .i64) (WPair WAny (WInt .i64))) (x.code, x.has, x.n)))) (x.client, x.id, x.ans))) (WInt .i64))) (x.lines, x.dones, x.floor)) := opens_struct (sz := 1 + (1 + (1))) (c := (CPair 1 (CSl 2 Lin.c) (CPair 1 (CSl 5 Dn.c) (CInt .i64)))) (wf := (WPair (WSlice 40 (fun x : Lin => (WPair WStr (WSlice 16 (fun x : Smp => (WPair (WInt .i64) (WInt .i64)) (x.t, x.v)))) (x.ser, x.smps))) (WPair (WSlice 40 (fun x : Dn => (WPair (WInt .i64) (WPair (WInt .i64) (fun x : Ans => (WPair (WInt .i64) (WPair WAny (WInt .i64))) (x.code, x.has, x.n)))) (x.client, x.id, x.ans))) (WInt .i64)))) Tryz.underlying29 (by kernel_rfl) (opensF_cons rfl (by kernel_rfl) op26 (opensF_cons rfl (by kernel_rfl) op27 (opensF_one rfl (by kernel_rfl) op3))) (fun y : (List Lin) × (List Dn) × Int => ⟨y.1, y.2.1, y.2.2⟩) (by intro y k hk; rcases k with _ | _ | _ | k <;> first | rfl | omega) (fun _ h => h)
theorem op35 : OpensC Tryz.prog 35 7 Opn.c (fun x : Opn => (WPair (WInt .i64) (WPair WStr (WPair (fun x : Smp => (WPair (WInt .i64) (WInt .i64)) (x.t, x.v)) (WPair (WInt .i64) (WPair (WInt .i64) (WInt .i64)))))) (x.kind, x.ser, x.smp, x.frm, x.to, x.tot)) := opens_struct (sz := 1 + (1 + (2 + (1 + (1 + (1)))))) (c := (CPair 1 (CInt .i64) (CPair 1 CStr (CPair 2 Smp.c (CPair 1 (CInt .i64) (CPair 1 (CInt .i64) (CInt .i64))))))) (wf := (WPair (WInt .i64) (WPair WStr (WPair (fun x : Smp => (WPair (WInt .i64) (WInt .i64)) (x.t, x.v)) (WPair (WInt .i64) (WPair (WInt .i64) (WInt .i64))))))) Tryz.underlying35 (by kernel_rfl) (opensF_cons rfl (by kernel_rfl) op3 (opensF_cons rfl (by kernel_rfl) op9 (opensF_cons rfl (by kernel_rfl) op33 (opensF_cons rfl (by kernel_rfl) op3 (opensF_cons rfl (by kernel_rfl) op3 (opensF_one rfl (by kernel_rfl) op3)))))) (fun y : Int × ByteArray × Smp × Int × Int × Int => ⟨y.1, y.2.1, y.2.2.1, y.2.2.2.1, y.2.2.2.2.1, y.2.2.2.2.2⟩) (by intro y k hk; rcases k with _ | _ | _ | _ | _ | _ | _ | k <;> first | rfl | omega) (fun _ h => h)
theorem op37 : OpensC Tryz.prog 37 10 Ent.c (fun x : Ent => (WPair (WInt .i64) (WPair (WInt .i64) (WPair (WInt .i64) (fun x : Opn => (WPair (WInt .i64) (WPair WStr (WPair (fun x : Smp => (WPair (WInt .i64) (WInt .i64)) (x.t, x.v)) (WPair (WInt .i64) (WPair (WInt .i64) (WInt .i64)))))) (x.kind, x.ser, x.smp, x.frm, x.to, x.tot))))) (x.epoch, x.client, x.id, x.op)) := opens_struct (sz := 1 + (1 + (1 + (7)))) (c := (CPair 1 (CInt .i64) (CPair 1 (CInt .i64) (CPair 1 (CInt .i64) Opn.c)))) (wf := (WPair (WInt .i64) (WPair (WInt .i64) (WPair (WInt .i64) (fun x : Opn => (WPair (WInt .i64) (WPair WStr (WPair (fun x : Smp => (WPair (WInt .i64) (WInt .i64)) (x.t, x.v)) (WPair (WInt .i64) (WPair (WInt .i64) (WInt .i64)))))) (x.kind, x.ser, x.smp, x.frm, x.to, x.tot)))))) Tryz.underlying37 (by kernel_rfl) (opensF_cons rfl (by kernel_rfl) op3 (opensF_cons rfl (by kernel_rfl) op3 (opensF_cons rfl (by kernel_rfl) op3 (opensF_one rfl (by kernel_rfl) op35)))) (fun y : Int × Int × Int × Opn => ⟨y.1, y.2.1, y.2.2.1, y.2.2.2⟩) (by intro y k hk; rcases k with _ | _ | _ | _ | _ | _ | _ | _ | _ | _ | k <;> first | rfl | omega) (fun _ h => h)
theorem op22 : OpensC Tryz.prog 22 1 (CSl 10 Ent.c) (WSlice 88 (fun x : Ent => (WPair (WInt .i64) (WPair (WInt .i64) (WPair (WInt .i64) (fun x : Opn => (WPair (WInt .i64) (WPair WStr (WPair (fun x : Smp => (WPair (WInt .i64) (WInt .i64)) (x.t, x.v)) (WPair (WInt .i64) (WPair (WInt .i64) (WInt .i64)))))) (x.kind, x.ser, x.smp, x.frm, x.to, x.tot))))) (x.epoch, x.client, x.id, x.op))) := opens_slice Tryz.underlying22 88 (by kernel_rfl) (by kernel_rfl) op37
theorem op60 : OpensC Tryz.prog 60 6 Lg.c (fun x : Lg => (WPair (fun x : Shf => (WPair (WSlice 40 (fun x : Lin => (WPair WStr (WSlice 16 (fun x : Smp => (WPair (WInt .i64) (WInt .i64)) (x.t, x.v)))) (x.ser, x.smps))) (WPair (WSlice 40 (fun x : Dn => (WPair (WInt .i64) (WPair (WInt .i64) (fun x : Ans => (WPair (WInt .i64) (WPair WAny (WInt .i64))) (x.code, x.has, x.n)))) (x.client, x.id, x.ans))) (WInt .i64))) (x.lines, x.dones, x.floor)) (WPair (WInt .i64) (WPair (WInt .i64) (WSlice 88 (fun x : Ent => (WPair (WInt .i64) (WPair (WInt .i64) (WPair (WInt .i64) (fun x : Opn => (WPair (WInt .i64) (WPair WStr (WPair (fun x : Smp => (WPair (WInt .i64) (WInt .i64)) (x.t, x.v)) (WPair (WInt .i64) (WPair (WInt .i64) (WInt .i64)))))) (x.kind, x.ser, x.smp, x.frm, x.to, x.tot))))) (x.epoch, x.client, x.id, x.op)))))) (x.base, x.trim, x.epoch, x.tail)) := opens_struct (sz := 3 + (1 + (1 + (1)))) (c := (CPair 3 Shf.c (CPair 1 (CInt .i64) (CPair 1 (CInt .i64) (CSl 10 Ent.c))))) (wf := (WPair (fun x : Shf => (WPair (WSlice 40 (fun x : Lin => (WPair WStr (WSlice 16 (fun x : Smp => (WPair (WInt .i64) (WInt .i64)) (x.t, x.v)))) (x.ser, x.smps))) (WPair (WSlice 40 (fun x : Dn => (WPair (WInt .i64) (WPair (WInt .i64) (fun x : Ans => (WPair (WInt .i64) (WPair WAny (WInt .i64))) (x.code, x.has, x.n)))) (x.client, x.id, x.ans))) (WInt .i64))) (x.lines, x.dones, x.floor)) (WPair (WInt .i64) (WPair (WInt .i64) (WSlice 88 (fun x : Ent => (WPair (WInt .i64) (WPair (WInt .i64) (WPair (WInt .i64) (fun x : Opn => (WPair (WInt .i64) (WPair WStr (WPair (fun x : Smp => (WPair (WInt .i64) (WInt .i64)) (x.t, x.v)) (WPair (WInt .i64) (WPair (WInt .i64) (WInt .i64)))))) (x.kind, x.ser, x.smp, x.frm, x.to, x.tot))))) (x.epoch, x.client, x.id, x.op))))))) Tryz.underlying60 (by kernel_rfl) (opensF_cons rfl (by kernel_rfl) op29 (opensF_cons rfl (by kernel_rfl) op3 (opensF_cons rfl (by kernel_rfl) op3 (opensF_one rfl (by kernel_rfl) op22)))) (fun y : Shf × Int × Int × (List Ent) => ⟨y.1, y.2.1, y.2.2.1, y.2.2.2⟩) (by intro y k hk; rcases k with _ | _ | _ | _ | _ | _ | k <;> first | rfl | omega) (fun _ h => h)
set_option maxRecDepth 100000 in
theorem lifted (os : Os) (started : os.Started) (H : Type) (enc : TypeId × Value → H) :
    ReturnsInHanded {} Tryz.checked os 8 .any (Rows.pglogTurnsSpec.pre6 enc Tryz.prog Tryz.f8 Rows.pglogTurnsRow.domain false) (Rows.pglogTurnsSpec.post enc Tryz.prog Tryz.f8 false true false false) := by
  refine returnsInHanded_of_change_shaped (C := Tryz.checked) own started (by kernel_rfl) Tryz.func8
    (ChangeSpec.witness6 (enc := enc) (C := Tryz.checked) false ⟨#[], #[.agg #[.slice none 0 0, .slice none 0 0, .int .i64 0, .int .i64 0, .int .i64 0, .slice none 0 0], .agg #[.int .i64 0, .int .i64 0, .int .i64 0, .int .i64 0, .string ByteArray.empty, .int .i64 0, .int .i64 0, .int .i64 0, .int .i64 0, .int .i64 0], .int .i64 0], []⟩ 8 (by kernel_rfl) (by kernel_rfl) (by kernel_rfl) (by kernel_rfl)) ?_
  intro W base args ds gs before hval0 hW hcnd hsz0 hsh _
  have hsz : (DataW.weightsEach Tryz.prog (Tryz.f8.params.toList ++ Rows.pglogTurnsSpec.plain.varTypes Tryz.prog) (ds ++ gs)).all (· ≤ reachBytes) = true := hsz0
  have hval : ∀ (j : Nat) t v, Tryz.f8.params[j]? = some t → args[j]? = some v → Value.okWide Tryz.prog W .any base t v := hval0
  have hW' := hW
  obtain ⟨p, q, hA0, hV, rfl, hfz, hnd⟩ := hW
  have hA : DataW.TrodAll enc Tryz.prog W 0 (fun _ => true) true Tryz.f8.params.toList args.toList ds p := hA0
  rw [Tryz.params8] at hA hval hsz
  obtain ⟨v0, vs0, d0, ds0, p0, q0, hargs, rfl, rfl, h0, r0⟩ := trodAll_cons hA
  obtain ⟨v1, vs1, d1, ds1, p1, q1, rfl, rfl, rfl, h1, r1⟩ := trodAll_cons r0
  obtain ⟨v2, vs2, d2, ds2, p2, q2, rfl, rfl, rfl, h2, r2⟩ := trodAll_cons r1
  obtain ⟨rfl, rfl, rfl⟩ := trodAll_nil r2
  obtain rfl : args = #[v0, v1, v2] := by cases args; simp_all
  obtain ⟨rfl, rfl⟩ := trodVars_none hV
  have k0 := h0
  have lt0 : ∀ x ∈ p0, x.block < W.heap.size := by obtain ⟨m, hm⟩ := k0; exact DataW.trod_lt m _ _ _ hm
  have hw0 : ∀ n ∈ d0.weights Tryz.prog 60, n ≤ reachBytes := fun n hn => by simpa using List.all_eq_true.1 hsz n (DataW.weights_mem_each (j := 0) rfl rfl n hn)
  obtain ⟨y0, w0, r0x⟩ := struct_arg op60 Tryz.underlying60 (hval 0 60 v0 rfl rfl) h0 hw0
  have k1 := h1
  have lt1 : ∀ x ∈ p1, x.block < W.heap.size := by obtain ⟨m, hm⟩ := k1; exact DataW.trod_lt m _ _ _ hm
  have hw1 : ∀ n ∈ d1.weights Tryz.prog 37, n ≤ reachBytes := fun n hn => by simpa using List.all_eq_true.1 hsz n (DataW.weights_mem_each (j := 1) rfl rfl n hn)
  obtain ⟨y1, w1, r1x⟩ := struct_arg op37 Tryz.underlying37 (hval 1 37 v1 rfl rfl) h1 hw1
  obtain ⟨y2, rfl, rfl, rfl, w2⟩ := open_int Tryz.underlying3 (hval 2 3 v2 rfl rfl) h2
  obtain ⟨mx, hmx⟩ := Go.Proofs.cell_of_shapedOpen_int (P := Tryz.prog) (g := 0) (zero := #[.int .i64 0]) (t := 3) hsh (of_decide_eq_true (by kernel_rfl)) (by kernel_rfl) rfl (by kernel_rfl) (by kernel_rfl) Tryz.underlying3
  have hc := PglogTurns_rc y0 (wlen w0.2.2.2.1 (by decide)) (wlen w0.1.1.1 (by decide)) y1 y2 (wint64 w2) []
  have hps : True := trivial
  clear hA0 hval0 hsz0 hsz
  refine (law_calls (w := W) (vals := #[v0, v1, .int .i64 y2]) F_windroselaw28_PglogTurns hc (GI_some (by kernel_rfl) hmx) ⟨r0x, r1x, rel_int _ _, trivial⟩).mono fun e W' ⟨he, bel0⟩ => ?_
  have bel : Below W.heap.size W W' := bel0
  subst he
  exact ⟨_, rfl, _, _, _, [], _, [], hW', trodAll_mk1 (shut_bool Tryz.underlying4 _), (trodAll_cons_mk (Below.trod laidOut (by kernel_rfl) (of_decide_eq_true (by kernel_rfl)) k0 bel lt0) (trodAll_cons_mk (Below.trod laidOut (by kernel_rfl) (of_decide_eq_true (by kernel_rfl)) k1 bel lt1) (trodAll_cons_mk (shut_int Tryz.underlying3 w2) trodAll_mk0))), rfl, bel.frame _, fun h => by cases h⟩
theorem over : Rows.pglogTurnsRow.holds Tryz.pinned (OpenSpec.ofChange Rows.pglogTurnsSpec) :=
  OpenClaim.holds_of_wide 8 Tryz.f8 rfl rfl rfl rfl rfl rfl rfl ⟨rfl, rfl, rfl, rfl, rfl⟩ rfl rfl rfl rfl rfl (by kernel_rfl) Tryz.func8 (by kernel_rfl)
    (of_decide_eq_true (by kernel_rfl)) (by unfold Func.isWrapper; first | (rw [if_pos (by decide +kernel)]; kernel_rfl) | (rw [if_neg (by decide +kernel)]; exact ⟨rfl, rfl⟩))
    (fun os started H enc _ => lifted os started H enc)
theorem proved : Rows.PglogTurnsSaid := over
#print axioms proved
end Go.Proofs.YtcmkhlfjcdchmaaGreat.pglogTurns
namespace Go.Proofs.YtcmkhlfjcdchmaaGreat
/-- The row, under a short name, for the claim. -/
theorem pglogTurns_holds : Rows.PglogTurnsSaid := pglogTurns.proved
end Go.Proofs.YtcmkhlfjcdchmaaGreat
