/- Part 7 of the texts on which the row stands: HiV. Conditions: none. -/
import Derived.Test.YtpdcpdngckpgbaaGreatHhxf
set_option linter.unusedVariables false
set_option linter.unusedSimpArgs false
section
namespace Go.Proofs.YtpdcpdngckpgbaaGreat.A
open Go Go.Proofs Go.Proofs.YtpdcpdngckpgbaaGreatAbs
def dmI (m : List (Int × Int)) : List (Value × Value) := m.map fun p => (.int .i64 p.1, .int .i64 p.2)
abbrev mapI (m : List (Int × Int)) : Blk := .mp (dmI m)
abbrev evR (v : Nat) (l : List Evt) (f : Bool) : Blk := .rows 69 15 v (rowsL 15 Evt.c l) f
theorem dmI_get (c : Int) : ∀ m, (mfind (dmI m) (.int .i64 c)).getD (.int .i64 0) = .int .i64 (look m c)
 | [] => rfl
 | p :: m => by
  rw [look]
  show (bif (c == p.1) then some (Value.int .i64 p.2) else mfind (dmI m) (.int .i64 c)).getD _ = _
  by_cases h : c = p.1
  ·rw [if_pos h, h, beq_self_eq_true]; rfl
  ·rw [if_neg h, beq_eq_false_iff_ne.2 h]; exact dmI_get c m
theorem dmI_put (k v : Int) : ∀ m, mput (dmI m) (.int .i64 k) (.int .i64 v) = dmI (putM m k v)
 | [] => rfl
 | p :: m => by
  rw [putM]
  show (bif (k == p.1) then (Value.int .i64 k, Value.int .i64 v) :: dmI m else (.int .i64 p.1, .int .i64 p.2) :: mput (dmI m) (.int .i64 k) (.int .i64 v)) = _
  rw [dmI_put k v m]
  by_cases h : k = p.1
  ·rw [if_pos h, h, beq_self_eq_true]; rfl
  ·rw [if_neg h, beq_eq_false_iff_ne.2 h]; rfl
theorem dmI_like (k : Int) (m : List (Int × Int)) : (dmI m).all (fun q => keyLike (.int .i64 k) q.1) = true := by
 rw [List.all_eq_true]
 intro q hq
 obtain ⟨a, _, rfl⟩ := List.mem_map.1 hq
 rfl
theorem keyI (k : Int) : keyV false (.int .i64 k) = true := rfl
theorem pair_0 (y : Int × Int) : CPair 1 (CInt .u8) (CInt .u8) y 0 = .v (.int .u8 y.1) := rfl
theorem pair_1 (y : Int × Int) : CPair 1 (CInt .u8) (CInt .u8) y 1 = .v (.int .u8 y.2) := rfl
abbrev xL (x : List (Int × Int)) : Pt := immP 2 (CPair 1 (CInt .u8) (CInt .u8)) x
set_option maxHeartbeats 2000000 in
set_option maxRecDepth 20000 in
theorem HistoryHolds_rc (l : List Ent) (hl : l.length ≤ 140737488355328) (hs : ∀ e ∈ l, e.op.ser.size ≤ 140737488355328) (x : List (Int × Int)) (hxl : x.length ≤ 140737488355328) (hx : ∀ y ∈ x, (0 ≤ y.1 ∧ y.1 ≤ 255) ∧ 0 ≤ y.2 ∧ y.2 ≤ 255) (M : List Blk) : CallR Tryz.prog M n_windroselaw34_HistoryHolds [entL l, xL x] (.b true) M := by
 refine callPG F_windroselaw34_HistoryHolds (Nat.le_of_ble_eq_true rfl) (by simp only [go_sem]) ?_ M
 refine run_seqV ?_
 simp only [go_sem]
 refine run_seqV ?_
 simp only [go_sem]
 refine run_seqV ?_
 simp only [go_sem]
 refine run_seqV ?_
 simp only [go_sem]
 refine run_seqV ?_
 simp only [go_sem]
 refine run_seqV ?_
 simp only [go_sem]
 refine run_gh (gh_sub_cell (b := 0) (i := 0) (j := 0) _ _ rfl rfl rfl (nil_sub (sz := 2) (c := Lin.c))) ?_
 refine run_gh (gh_sub_cell (b := 0) (i := 0) (j := 1) _ _ rfl rfl rfl (nil_sub (sz := 5) (c := Dn.c))) ?_
 have hB : ∀ (st : HSt) (v : Nat) (f : Bool), ∀ y ∈ [shfB st.s, evR v st.evs f, mapI st.last, mapI st.ends], ltB 4 y := fun st v f y hy => by
  simp only [List.mem_cons, List.not_mem_nil, or_false] at hy
  rcases hy with rfl | rfl | rfl | rfl
  ·simp only [go_sem, ltB]
  ·exact fun r hr => (rowsL_row r hr).2 _
  ·trivial
  ·trivial
 refine R_loop (ι := Nat × HSt × Nat × Bool) (J := fun p => p.1 ≤ 11 ∧ p.1 ≤ l.length ∧ p.1 ≤ x.length ∧ HI p.1 p.2.1)
  (env := fun p => [(0, .p (entL l)), (1, .p (xL x)), (5, .p (.one (.ptr 0 0 0 0))), (6, .p (.one (.arr 15 1 p.2.2.1 0 p.2.1.evs.length))), (7, .p (.one (.mp 2 0))), (8, .p (.one (.mp 3 0))), (9, .i p.1)])
  (mem := fun p => [shfB p.2.1.s, evR p.2.2.1 p.2.1.evs p.2.2.2, mapI p.2.1.last, mapI p.2.1.ends])
  (μ := fun p => 11 - p.1) (0, HSt0, 0, true) ⟨Nat.zero_le _, Nat.zero_le _, Nat.zero_le _, HI0⟩ ⟨[], rfl, Nat.le_of_ble_eq_true rfl, ?_, hB _ _ _⟩ ?_
 ·simp only [go_sem]
  rfl
 rintro ⟨k, st, v, f⟩ ⟨hk, hkl, hkx, hI⟩
 simp only at hk hkl hkx hI
 refine run_seqV ?_
 simp only [go_sem]
 refine ⟨fun h1 => ?_, fun h1 => ?_⟩
 ·have hc1 : k < l.length ∧ k < 11 ∧ k < x.length := by
   simp at h1
   omega
  obtain ⟨c1, c2, c3⟩ := hc1
  have hbl : 0 ≤ (k : Int) ∧ k < l.length := ⟨by omega, c1⟩
  have hbx : 0 ≤ (k : Int) ∧ k < x.length := ⟨by omega, c3⟩
  have hel := hs (l.getD k default) (by rw [gd_get c1]; exact List.getElem_mem c1)
  have hxm := hx (x.getD k default) (by rw [gd_get c3]; exact List.getElem_mem c3)
  have hstep := HI_step hI c2 (l.getD k default) (x.getD k default) hxm
  have hmono := HI_mono hI
  have hla := hI.la (l.getD k default).client
  have hlen := hI.len
  have e1 : IntKind.i64.wrap ((k : Int) + 1) = (k : Int) + 1 := w64 (by omega) (by omega)
  have e2 : IntKind.i64.wrap (100 * ((k : Int) + 1)) = 100 * ((k : Int) + 1) := w64 (by omega) (by omega)
  have e3 : IntKind.i64.wrap ((k : Int) + 1) = ((k + 1 : Nat) : Int) := w64s (by omega)
  have e5 : IntKind.i64.wrap (x.getD k default).1 = (x.getD k default).1 := w64 (by omega) (by omega)
  have e6 : IntKind.i64.wrap (100 * ((k : Int) + 1) - (x.getD k default).1) = 100 * ((k : Int) + 1) - (x.getD k default).1 := w64 (by omega) (by omega)
  have e7 : IntKind.i64.wrap (x.getD k default).2 = (x.getD k default).2 := w64 (by omega) (by omega)
  have e8 : IntKind.i64.wrap (100 * ((k : Int) + 1) + (x.getD k default).2) = 100 * ((k : Int) + 1) + (x.getD k default).2 := w64 (by omega) (by omega)
  refine run_seq ?_
  refine run_block ?_
  refine run_seqV ?_
  simp only [go_sem]
  refine ⟨hbl, ?_⟩
  generalize l.getD k default = e at hel hstep hla ⊢
  refine run_seqV ?_
  simp only [go_sem, e1, e2]
  refine run_seqV ?_
  simp only [go_sem, pair_0, pair_1, e5, e6]
  refine ⟨hbx, ?_⟩
  refine run_seqV ?_
  simp only [go_sem]
  refine call0 (rOpB_rc e.op hel) ?_
  simp only [go_sem, dmI_get, dmI_like, keyI]
  rw [show decide ((300 : Int) < (e.op.ser.size : Int)) = decide (300 < e.op.ser.size) by rw [decide_eq_decide]; omega]
  obtain ⟨a, ha⟩ : ∃ a, a = x.getD k default := ⟨_, rfl⟩
  rw [← ha] at hxm hstep e5 e6 e7 e8 ⊢
  have key : (!opOk e.op || decide (300 < e.op.ser.size) || decide (e.client < 1) || decide (5 < e.client) || decide (100 * ((k : Int) + 1) - a.1 < 1) || decide (100 * ((k : Int) + 1) - a.1 < look st.ends e.client)) = skipH st k e a := rfl
  rw [key]
  refine ⟨fun hc => ?_, fun hc => ?_⟩
  ·refine V_sound ?_
   simp only [go_sem, e3]
   refine ⟨(k + 1, st, v, f), ⟨by omega, by omega, by omega, hmono⟩, by simp only []; omega, [_], rfl, Nat.le_of_ble_eq_true rfl, ?_, hB _ _ _⟩
   simp only [go_sem]
  have hsk := hc
  unfold skipH at hsk
  simp only [Bool.or_eq_false_iff, Bool.not_eq_false', decide_eq_false_iff_not] at hsk
  obtain ⟨⟨⟨⟨⟨_, k2⟩, k3⟩, k4⟩, _⟩, _⟩ := hsk
  rw [stepH, if_neg (by rw [hc]; simp)] at hstep
  unfold newH at hstep
  have e9 : IntKind.i64.wrap (look st.last e.client + 1) = look st.last e.client + 1 := w64 (by omega) (by omega)
  have hZ : serSz 2000 st.s := fun y hy => Nat.le_trans (hI.sz y hy) (by decide)
  have hd := fun M => rDo_rc st.s (shP_z hI.p hZ) ⟨e.epoch, e.client, look st.last e.client + 1, e.op⟩ (by simp only []; omega) M
  have hcode := DoS_code hI.p (e := ⟨e.epoch, e.client, look st.last e.client + 1, e.op⟩) ⟨by simp only []; omega, by simp only []; omega⟩ ⟨by simp only []; omega, by simp only []; omega⟩
  rw [(Do_eq hI.p _).1] at hd
  generalize DoS st.s ⟨e.epoch, e.client, look st.last e.client + 1, e.op⟩ = W at hd hcode hstep
  obtain ⟨s', an, c⟩ := W
  simp only at hd hcode hstep
  subst hcode
  refine run_seqV ?_
  simp only [go_sem, dmI_get, dmI_like, keyI, e9]
  refine run_seqV ?_
  simp only [go_sem]
  refine call0 hd ?_
  simp only [go_sem]
  refine run_seqV ?_
  simp only [go_sem]
  refine run_seqV ?_
  simp only [go_sem]
  refine run_seqV ?_
  simp only [go_sem, dmI_put, dmI_like, keyI]
  refine run_seqV ?_
  simp only [go_sem, pair_0, pair_1, ← ha, e7, e8]
  refine ⟨hbx, rfl, ?_⟩
  refine run_seqV ?_
  simp only [go_sem, dmI_put, dmI_like, keyI]
  refine run_seqV ?_
  simp only [go_sem, pair_0, pair_1, ← ha]
  refine ⟨hbx, ?_⟩
  rw [Int.tmod_eq_emod_of_nonneg hxm.2.1]
  have hap : ∀ ev : Evt, rowsL 15 Evt.c st.evs ++ [[.c (.v (.int .i64 ev.client)), .c (.v (.int .i64 ev.id)), .c (.v (.int .i64 ev.group)), .c (.v (.int .i64 ev.op.kind)), .c (.v (.string ev.op.ser)), .c (.v (.int .i64 ev.op.smp.t)), .c (.v (.int .i64 ev.op.smp.v)), .c (.v (.int .i64 ev.op.frm)), .c (.v (.int .i64 ev.op.to)), .c (.v (.int .i64 ev.op.tot)), .c (.v (.int .i64 ev.bg)), .c (.v (.int .i64 ev.en)), .c (.v (.int .i64 ev.ans.code)), .c (.v (.bool ev.ans.has)), .c (.v (.int .i64 ev.ans.n))]] = rowsL 15 Evt.c (st.evs ++ [ev]) := fun ev => rowsL_app1 st.evs ev
  refine ⟨fun h7 => ⟨⟨keyI _, dmI_like _ _⟩, ?_⟩, fun h7 => ?_⟩
  ·simp only [if_pos h7] at hstep
   have hrow := hap ⟨e.client, look st.last e.client + 1, 0, e.op, 100 * ((k : Int) + 1) - a.1, 0, ⟨0, false, 0⟩⟩
   simp only at hrow
   refine V_sound ?_
   simp only [go_sem, rowsL_len, hrow, dmI_put]
   refine ⟨by omega, V_sound ?_⟩
   simp only [go_sem, e3]
   refine ⟨(k + 1, _, v + 1, false), ⟨by omega, by omega, by omega, hstep⟩, by simp only []; omega, [_, _, _, _, _], rfl, Nat.le_of_ble_eq_true rfl, ?_, hB _ _ _⟩
   simp only [go_sem, List.length_append, List.length_cons, List.length_nil, Nat.zero_add]
  ·simp only [if_neg h7] at hstep
   have hrow := hap ⟨e.client, look st.last e.client + 1, 0, e.op, 100 * ((k : Int) + 1) - a.1, 100 * ((k : Int) + 1) + a.2, an⟩
   simp only at hrow
   refine V_sound ?_
   simp only [go_sem, rowsL_len, hrow, dmI_put]
   refine ⟨by omega, V_sound ?_⟩
   simp only [go_sem, e3]
   refine ⟨(k + 1, _, v + 1, false), ⟨by omega, by omega, by omega, hstep⟩, by simp only []; omega, [_, _, _, _, _], rfl, Nat.le_of_ble_eq_true rfl, ?_, hB _ _ _⟩
   simp only [go_sem, List.length_append, List.length_cons, List.length_nil, Nat.zero_add]
 ·have hlen := hI.len
  have hR := Right_rc st.evs (by omega) (fun e he => Nat.le_trans (hI.one e he).2.2.2 (by decide))
  rw [holds_right hI hk] at hR
  refine run_gh (gh_freeze (b := 1) (l := rowsL 15 Evt.c st.evs) rfl (rowsL_closed _)) ?_
  refine run_seqV ?_
  simp only [go_sem, rowsL_len]
  refine callS (hR _) ⟨subP_one (frz_sub' st.evs), trivial⟩ (fun h => Bool.noConfusion h) ?_
  simp only [go_sem]
  refine callg0 (fun _ => awake34_rc) ?_
  simp only [go_sem]
  exact run_ret (endB true _ _ 4 (by simp only [go_sem]))
end Go.Proofs.YtpdcpdngckpgbaaGreat.A
end
