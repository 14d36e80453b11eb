/- Part 7 of the texts on which the row stands: ShW, ShX. Conditions: none. -/
import Derived.Test.YtcmkhlfjcdchmaaGreatShpf
set_option linter.unusedVariables false
set_option linter.unusedSimpArgs false
section
namespace Go.Proofs.YtcmkhlfjcdchmaaGreat.A
open Go Go.Proofs Go.Proofs.YtcmkhlfjcdchmaaGreatAbs
theorem rtrim_take (l : List Smp) (a : Int) {k : Nat} (hk : k < l.length) : rtrimS (l.take (k + 1)) a = rtrimS (l.take k) a ++ if decide (a ≤ (l.getD k default).t) = true then [l.getD k default] else [] := filter_take _ l hk
theorem trimL_take {lines : List Lin} (hok : ∀ x ∈ lines, smsOk x.smps = true) (a : Int) {k : Nat} (hk : k < lines.length) : (trimL (lines.take (k + 1)) a).length = (trimL (lines.take k) a).length + if (rtrimS (lines.getD k default).smps a).length = 0 then 0 else 1 := by
  have hm : lines.getD k default ∈ lines := by rw [gd_get hk]; exact List.getElem_mem hk
  have := mayL_flt (lines.getD k default) a
  unfold trimL at *
  rw [take_succ_getD default hk, List.map_append, List.filter_append, this, List.length_append, rtrim_eq (hok _ hm), mayL]
  split <;> rfl
theorem trimL_le (lines : List Lin) (a : Int) : (trimL lines a).length ≤ lines.length := Nat.le_trans (List.length_filter_le ..) (by rw [List.length_map]; exact Nat.le_refl _)
set_option maxRecDepth 20000 in
set_option maxHeartbeats 4000000 in
theorem ShelfTrims_rc (l : List Ent) (hl : l.length ≤ 140737488355328) (frm : Int) (M : List Blk) : CallR Tryz.prog M n_windroselaw14_ShelfTrims [entL l, .i frm] (.b true) M := by
  refine callPG F_windroselaw14_ShelfTrims (Nat.le_of_ble_eq_true rfl) (by simp only [go_sem]) ?_ M
  have hB0 : ∀ (e : Nat → SV) (D : List Blk), e 4 = .b true → FinK 131 0 [.t 4] (.b true) [] .ret ⟨e, D⟩ := fun e D h => endB true e D 4 h
  refine run_seqV ?_
  simp only [go_sem]
  refine run_seqV ?_
  simp only [go_sem]
  refine call0 (entries_rc l hl) ?_
  simp only [go_sem]
  refine ⟨fun hc => ?_, fun hc => ?_⟩
  · refine call0 awake14_rc ?_
    simp only [go_sem]
    exact hB0 _ _ (by simp only [go_sem])
  have hg : entriesB l = true ∧ 0 ≤ frm ∧ frm ≤ 1099511627776 := by
    simp only [Bool.or_eq_false_iff, Bool.not_eq_false', decide_eq_false_iff_not] at hc
    exact ⟨hc.1.1, by omega, by omega⟩
  clear hc
  obtain ⟨hE, h0, h1⟩ := hg
  obtain ⟨hP, hsz⟩ := foldP l (ent_sz hE)
  have hz := shP_z hP hsz
  have f1 := fun M => FoldP_rc hE M
  generalize foldS l = s at hP hsz hz f1
  have d1 := fun M => DoP_rc hP hsz ⟨0, 0, 1, ⟨2, mkS [], zSmp, frm, 0, 0⟩⟩ (by simp only; decide) M
  rw [(Do_eq hP _).1, do_trim hP 0 h0 h1] at d1
  refine run_seqV ?_
  simp only [go_sem]
  refine call0 f1 ?_
  simp only [go_sem]
  unfold trimSh at d1
  by_cases hf : frm < s.floor
  · rw [if_pos hf] at d1
    simp only at d1
    refine run_seqV ?_
    simp only [go_sem]
    refine call0 d1 ?_
    simp only [go_sem]
    refine run_seqV ?_
    simp only [go_sem]
    refine run_seqV ?_
    simp only [go_sem]
    refine ⟨fun _ => ?_, fun h => absurd hf h⟩
    refine callg0 (fun _ => rssame_rc s s hz) ?_
    simp only [go_sem]
    refine callg0 (fun _ => awake14_rc) ?_
    simp only [go_sem]
    exact hB0 _ _ (by simp only [go_sem])
  · rw [if_neg hf] at d1
    simp only at d1
    have hzx : zShf ⟨trimL s.lines frm, s.dones, frm⟩ := by
      refine shP_z (trim_ok hP (by omega) h1) fun x hx => ?_
      obtain ⟨w, hw, rfl⟩ := List.mem_map.1 (List.mem_filter.1 hx).1
      exact hsz w hw
    have hlin : ∀ k, k < s.lines.length → rlineS (trimL s.lines frm) (s.lines.getD k default).ser = rtrimS (s.lines.getD k default).smps frm := fun k hk => trim_line hP frm hk
    have hst := fun k (hk : k < s.lines.length) => trimL_take (fun x hx => (hP.ln x hx).ok) frm hk
    have hlen := hP.ll
    have hsl := fun k (hk : k < s.lines.length) => hz.smp k hk
    have hle := fun k => trimL_le (s.lines.take k) frm
    obtain ⟨lines, dones, floor⟩ := s
    simp only at hf d1 hzx hlin hst hlen hsl hle
    refine run_seqV ?_
    simp only [go_sem]
    refine call0 d1 ?_
    simp only [go_sem]
    refine run_seqV ?_
    simp only [go_sem]
    refine run_seqV ?_
    simp only [go_sem]
    refine ⟨fun h => absurd h hf, fun _ => run_seqV ?_⟩
    simp only [go_sem]
    refine run_seqV ?_
    simp only [go_sem]
    refine R_loop (ι := Nat) (J := fun k => k ≤ lines.length)
      (env := fun k => [(1, .i frm), (5, .p (.one (.ptr 0 0 0 0))), (6, .p (.one (.ptr 1 0 0 0))), (7, .p (.one (.ptr 2 0 0 0))), (9, .i (trimL (lines.take k) frm).length), (10, .i k)])
      (mem := fun _ => [shfB ⟨lines, dones, floor⟩, shfB ⟨trimL lines frm, dones, frm⟩, ansB ⟨0, false, 0⟩])
      (μ := fun k => lines.length - k) 0 (Nat.zero_le _) ⟨[], rfl, Nat.zero_le _, ?_, ?_⟩ ?_
    · simp only [go_sem, trimL, List.take_zero, List.map_nil, List.filter_nil, List.length_nil]
    · simp only [go_sem, ltB]
    rintro k hk
    refine run_seqV ?_
    simp only [go_sem]
    refine ⟨fun hk1 => ?_, fun hk1 => ?_⟩
    · refine run_seq ?_
      refine run_block ?_
      refine run_seqV ?_
      simp only [go_sem]
      refine run_seqV ?_
      simp only [go_sem]
      have hs1 := hsl k hk1
      generalize hS : (lines.getD k default).smps = sm at hs1
      refine R_loop (ι := Nat × Nat × Bool) (J := fun p => p.1 ≤ sm.length)
        (env := fun p => [(1, .i frm), (5, .p (.one (.ptr 0 0 0 0))), (6, .p (.one (.ptr 1 0 0 0))), (7, .p (.one (.ptr 2 0 0 0))), (9, .i (trimL (lines.take k) frm).length), (10, .i k), (11, .p (.one (.arr 2 3 p.2.1 0 (rtrimS (sm.take p.1) frm).length))), (12, .i p.1)])
        (mem := fun p => [shfB ⟨lines, dones, floor⟩, shfB ⟨trimL lines frm, dones, frm⟩, ansB ⟨0, false, 0⟩, .rows 33 2 p.2.1 (rowsL 2 Smp.c (rtrimS (sm.take p.1) frm)) p.2.2])
        (μ := fun p => sm.length - p.1) (0, 0, true) (Nat.zero_le _) ⟨[], rfl, Nat.zero_le _, ?_, ?_⟩ ?_
      · simp only [go_sem, List.take_zero, rtrimS, List.filter_nil, List.length_nil]
      · simp only [go_sem, ltB]
        exact fun r hr => (rowsL_row r hr).2 _
      rintro ⟨j, v, f⟩ hj
      simp only at hj
      have hws : (rtrimS (sm.take j) frm).length ≤ j := filter_len _ sm j
      refine run_seqV ?_
      simp only [go_sem, hS]
      refine ⟨⟨by omega, hk1⟩, fun hj1 => ?_, fun hj1 => ?_⟩
      · have hst2 := rtrim_take sm frm hj1
        have e3 : IntKind.i64.wrap ((j : Int) + 1) = ((j + 1 : Nat) : Int) := w64s (by omega)
        have hlx : ∀ x : Smp, (⟨x.t, x.v⟩ : Smp) = x := fun _ => rfl
        generalize rtrimS (sm.take j) frm = ws at hst2 hws
        refine V_sound ?_
        simp only [go_sem, hS, smp_row, rowsL_len, e3, hlx]
        refine ⟨by omega, by omega, fun hc => ⟨by omega, by omega, by omega, ?_⟩, fun hc => ?_⟩
        · have hst' : rtrimS (sm.take (j + 1)) frm = ws ++ [sm.getD j default] := by
            rw [hst2, if_pos (by simpa using hc)]
          refine ⟨(j + 1, v + 1, false), hj1, by simp only []; omega, [.rows 33 2 0 [[.c (.v (.int .i64 (sm.getD j default).t)), .c (.v (.int .i64 (sm.getD j default).v))]] true], ?_, Nat.zero_le _, ?_, ?_⟩
          · simp only [hst', go_sem]
          · simp only [go_sem, hst', List.length_append, List.length_cons, List.length_nil, Nat.zero_add]
          · simp only [go_sem, ltB]
            exact fun r hr => (rowsL_row r hr).2 _
        · have hst' : rtrimS (sm.take (j + 1)) frm = ws := by
            rw [hst2, if_neg (by simpa using hc), List.append_nil]
          refine ⟨(j + 1, v, f), hj1, by simp only []; omega, [], ?_, Nat.zero_le _, ?_, ?_⟩
          · simp only [hst', go_sem]
          · simp only [go_sem, hst']
          · simp only [go_sem, ltB]
            exact fun r hr => (rowsL_row r hr).2 _
      · have hjl : j = sm.length := by omega
        subst hjl
        rw [List.take_length] at hws ⊢
        refine run_seqV ?_
        simp only [go_sem]
        have hle2 := hle k
        rw [List.length_take] at hle2
        have hst1 := hst k hk1
        rw [hS] at hst1
        have hlin1 := hlin k hk1
        rw [hS] at hlin1
        refine ⟨fun hp => ?_, fun hp => ?_⟩
        · rw [if_neg (by omega)] at hst1
          refine run_seqV ?_
          simp only [go_sem, hS]
          refine ⟨⟨by omega, hk1⟩, call0 (rline_rc ⟨trimL lines frm, dones, frm⟩ hzx.ll (lines.getD k default).ser) ?_⟩
          simp only [go_sem, hlin1]
          refine callL (rSmSame_rc (rtrimS sm frm) (rtrimS sm frm) (by omega) []) ⟨Snap.same _ trivial, snapL _ rfl, trivial⟩ (by simp only [go_sem]) ?_
          simp only [go_sem]
          refine V_sound ?_
          simp only [go_sem]
          refine V_sound ?_
          simp only [go_sem, w64s (show k < 9223372036854775807 by omega)]
          refine ⟨k + 1, hk1, by omega, [_], rfl, Nat.zero_le _, ?_, ?_⟩
          · simp only [go_sem, hst1]
            exact w64s (by omega)
          · simp only [go_sem, ltB]
        · rw [if_pos (by omega)] at hst1
          refine run_seqV ?_
          simp only [go_sem, hS]
          refine ⟨⟨by omega, hk1⟩, call0 (rline_rc ⟨trimL lines frm, dones, frm⟩ hzx.ll (lines.getD k default).ser) ?_⟩
          simp only [go_sem, hlin1]
          refine callL (rSmSame_rc (rtrimS sm frm) (rtrimS sm frm) (by omega) []) ⟨Snap.same _ trivial, snapL _ rfl, trivial⟩ (by simp only [go_sem]) ?_
          simp only [go_sem]
          refine V_sound ?_
          simp only [go_sem]
          refine V_sound ?_
          simp only [go_sem, w64s (show k < 9223372036854775807 by omega)]
          refine ⟨k + 1, hk1, by omega, [_], rfl, Nat.zero_le _, ?_, ?_⟩
          · simp only [go_sem, hst1, Nat.add_zero]
          · simp only [go_sem, ltB]
    · have hkl : k = lines.length := by omega
      subst hkl
      rw [List.take_length]
      refine V_sound ?_
      simp only [go_sem]
      refine callg0 (fun _ => awake14_rc) ?_
      simp only [go_sem]
      exact hB0 _ _ (by simp only [go_sem])
end Go.Proofs.YtcmkhlfjcdchmaaGreat.A
end
section
namespace Go.Proofs.YtcmkhlfjcdchmaaGreat.A
open Go Go.Proofs Go.Proofs.YtcmkhlfjcdchmaaGreatAbs
def stepO (c : Int) (s : Shf) (e : Ent) : Shf := if e.client = c then s else stepF s e
def onceS (c : Int) (s : Shf) (m : List Ent) : Shf := m.foldl (stepO c) s
theorem once_ok (c i : Int) (a : Ans) : ∀ (m : List Ent) (s : Shf), (∀ e ∈ m, e.op.ser.size ≤ 2000) → shP s → serSz 2000 s → toldC s c i a → shP (onceS c s m) ∧ serSz 2000 (onceS c s m) ∧ toldC (onceS c s m) c i a
  | [], s, _, h1, h2, h3 => ⟨h1, h2, h3⟩
  | e :: m, s, hm, h1, h2, h3 => by
    unfold onceS
    rw [List.foldl_cons]
    have hs : shP (stepO c s e) ∧ serSz 2000 (stepO c s e) ∧ toldC (stepO c s e) c i a := by
      unfold stepO
      by_cases hc : e.client = c
      · rw [if_pos hc]; exact ⟨h1, h2, h3⟩
      · rw [if_neg hc]
        refine ⟨(step_eq h1 e).2, ?_, ?_⟩
        · unfold stepF
          split
          · exact Do_sz h1 h2 e (hm e (List.mem_cons_self ..))
          · exact h2
        · unfold stepF
          split
          · exact told_step h1 h3 hc
          · exact h3
    exact once_ok c i a m _ (fun x hx => hm x (List.mem_cons_of_mem _ hx)) hs.1 hs.2.1 hs.2.2
theorem Do_code {s : Shf} (h : shP s) {e : Ent} (h1 : 1 ≤ e.client) (h2 : e.client ≤ 2147483647) (h3 : 1 ≤ e.id) (h4 : e.id ≤ 2147483647) : (DoS s e).2.2 = 0 := by
  unfold DoS
  rw [(shOk_iff s).2 h]
  rw [if_neg (by simp only [Bool.true_eq_false, false_or]; omega)]
  split
  · rfl
  split
  · rfl
  · rfl
def keptB (c : Int) (l : List Dn) : Bool := l.any fun d => d.client == c
theorem kept_take (c : Int) (l : List Dn) {k : Nat} (hk : k < l.length) : keptB c (l.take (k + 1)) = (keptB c (l.take k) || ((l.getD k default).client == c)) := by
  unfold keptB
  rw [take_succ_getD default hk, List.any_append]
  simp
abbrev shfV (v : Nat) (s : Shf) : Blk := .rows 29 3 v [[.c (immL 2 Lin.c s.lines), .c (immL 5 Dn.c s.dones), .c (.v (.int .i64 s.floor))]] true
abbrev ansV (v : Nat) (a : Ans) : Blk := .rows 41 3 v [[.c (.v (.int .i64 a.code)), .c (.v (.bool a.has)), .c (.v (.int .i64 a.n))]] true
set_option maxRecDepth 20000 in
set_option maxHeartbeats 4000000 in
theorem ShelfOnce_rc (l : List Ent) (hl : l.length ≤ 140737488355328) (e : Ent) (m : List Ent) (hm : m.length ≤ 140737488355328) (M : List Blk) : CallR Tryz.prog M n_windroselaw14_ShelfOnce [entL l, entA e, entL m] (.b true) M := by
  refine callPG F_windroselaw14_ShelfOnce (Nat.le_of_ble_eq_true rfl) (by simp only [go_sem, opRow]) ?_ M
  have hB0 : ∀ (e : Nat → SV) (D : List Blk), e 6 = .b true → FinK 140 0 [.t 6] (.b true) [] .ret ⟨e, D⟩ := fun e D h => endB true e D 6 h
  obtain ⟨epoch, client, id, op⟩ := e
  refine run_seqV ?_
  simp only [go_sem, opRow]
  refine run_seqV ?_
  simp only [go_sem]
  refine call0 (entries_rc l hl) ?_
  simp only [go_sem]
  refine callg0 (fun _ => entries_rc m hm) ?_
  simp only [go_sem, opRow]
  refine callg0 (fun _ => short_rc op) ?_
  simp only [go_sem, opRow]
  refine ⟨fun hc => ?_, fun hc => ?_⟩
  · refine call0 awake14_rc ?_
    simp only [go_sem]
    exact hB0 _ _ (by simp only [go_sem])
  have hg : (entriesB l = true ∧ entriesB m = true ∧ shortB op = true) ∧ 1 ≤ client ∧ client ≤ 2147483647 ∧ 1 ≤ id ∧ id ≤ 2147483647 := by
    simp only [Bool.or_eq_false_iff, Bool.not_eq_false', decide_eq_false_iff_not] at hc
    refine ⟨⟨?_, ?_, ?_⟩, ?_, ?_, ?_, ?_⟩
    all_goals first | omega | simp_all
  clear hc
  obtain ⟨⟨hE, hE2, hsh⟩, hc1, hc2, hi1, hi2⟩ := hg
  have ho : op.ser.size ≤ 2000 := by
    unfold shortB at hsh
    have := of_decide_eq_true hsh
    omega
  obtain ⟨hP, hsz⟩ := foldP l (ent_sz hE)
  have f1 := fun M => FoldP_rc hE M
  generalize foldS l = s at hP hsz f1
  have d1 := fun M => DoP_rc hP hsz ⟨epoch, client, id, op⟩ ho M
  rw [(Do_eq hP _).1] at d1
  have hcode := Do_code hP (e := ⟨epoch, client, id, op⟩) hc1 hc2 hi1 hi2
  have hP1 := (Do_eq hP ⟨epoch, client, id, op⟩).2
  have hsz1 := Do_sz hP hsz ⟨epoch, client, id, op⟩ ho
  have htold := told_first hP (e := ⟨epoch, client, id, op⟩) hc1 hc2 hi1 hi2
  generalize DoS s ⟨epoch, client, id, op⟩ = W at d1 hcode hP1 hsz1 htold
  obtain ⟨s1, a, code⟩ := W
  simp only at hcode hP1 hsz1 htold
  subst hcode
  refine run_seqV ?_
  simp only [go_sem, opRow]
  refine callx0 f1 ?_
  simp only [go_sem, opRow]
  refine callx0 d1 ?_
  simp only [go_sem]
  refine ⟨rfl, run_seqV ?_⟩
  simp only [go_sem]
  refine run_seqV ?_
  simp only [go_sem]
  refine ⟨fun h9 => ?_, fun h9 => ?_⟩
  · refine call0 awake14_rc ?_
    simp only [go_sem]
    exact hB0 _ _ (by simp only [go_sem])
  have htold := htold h9
  have hinv := fun k => once_ok client id a (m.take k) s1 (take_sz (ent_sz hE2) k) hP1 hsz1 htold
  have hml := ent_len hE2
  have hstep : ∀ k, k < m.length → onceS client s1 (m.take (k + 1)) = stepO client (onceS client s1 (m.take k)) (m.getD k default) := fun k hk => foldl_take (stepO client) s1 m hk
  refine run_seqV ?_
  simp only [go_sem]
  refine R_loop (ι := Nat) (J := fun k => k ≤ m.length)
    (env := fun k => [(2, .p (entL m)), (4, .p (.one (.ptr 0 0 0 0))), (7, .p (.one (.ptr 1 1 0 0))), (8, .p (.one (.ptr 2 1 0 0))), (10, .i k)])
    (mem := fun k => [.rows 37 10 0 [entCells ⟨epoch, client, id, op⟩] true, shfV 1 (onceS client s1 (m.take k)), ansV 1 a])
    (μ := fun k => m.length - k) 0 (Nat.zero_le _) ⟨[], ?_, Nat.zero_le _, ?_, ?_⟩ ?_
  · simp only [go_sem, List.take_zero, onceS, List.foldl_nil, opRow]
  · simp only [go_sem]
  · simp only [go_sem, ltB, opRow]
  rintro k hk
  refine run_seqV ?_
  simp only [go_sem]
  refine ⟨fun hk1 => ?_, fun hk1 => ?_⟩
  · have hst := hstep k hk1
    have e3 : IntKind.i64.wrap ((k : Int) + 1) = ((k + 1 : Nat) : Int) := w64s (by omega)
    obtain ⟨i1, i2, i3⟩ := hinv k
    refine run_seq ?_
    refine run_block ?_
    refine run_seqV ?_
    simp only [go_sem, opRow]
    refine ⟨⟨by omega, hk1⟩, fun hq => ?_, fun hq => ?_⟩
    · have hst' : onceS client s1 (m.take (k + 1)) = onceS client s1 (m.take k) := by rw [hst, stepO, if_pos hq]
      refine V_sound ?_
      simp only [go_sem, e3]
      refine ⟨k + 1, hk1, by omega, [], by simp only [hst', List.append_nil], Nat.zero_le _, ?_, ?_⟩
      · simp only [go_sem]
      · simp only [go_sem, ltB, opRow]
    · have hst' : onceS client s1 (m.take (k + 1)) = stepF (onceS client s1 (m.take k)) (m.getD k default) := by rw [hst, stepO, if_neg hq]
      have d2 := fun M => DoP_rc i1 i2 (m.getD k default) (by rw [gd_get hk1]; exact ent_sz hE2 _ (List.getElem_mem hk1)) M
      rw [(Do_eq i1 _).1] at d2
      unfold stepF at hst'
      generalize DoS (onceS client s1 (m.take k)) (m.getD k default) = W2 at d2 hst'
      obtain ⟨x, b, c⟩ := W2
      simp only at hst'
      refine run_seqV ?_
      simp only [go_sem, opRow]
      refine ⟨⟨by omega, hk1⟩, callx0 d2 ?_⟩
      simp only [go_sem]
      refine ⟨rfl, ?_⟩
      refine V_sound ?_
      simp only [go_sem]
      refine ⟨fun hc => ?_, fun hc => ?_⟩
      · rw [if_pos hc] at hst'
        refine V_sound ?_
        simp only [go_sem, e3]
        refine ⟨k + 1, hk1, by omega, [_, _], by simp only [hst']; rfl, Nat.zero_le _, ?_, ?_⟩
        · simp only [go_sem]
        · simp only [go_sem, ltB, opRow]
      · rw [if_neg hc] at hst'
        refine V_sound ?_
        simp only [go_sem, e3]
        refine ⟨k + 1, hk1, by omega, [_, _], by simp only [hst']; rfl, Nat.zero_le _, ?_, ?_⟩
        · simp only [go_sem]
        · simp only [go_sem, ltB, opRow]
  · have hkl : k = m.length := by omega
    subst hkl
    obtain ⟨i1, i2, i3⟩ := hinv m.length
    rw [List.take_length] at i1 i2 i3 ⊢
    generalize onceS client s1 m = z at i1 i2 i3
    refine run_seqV ?_
    simp only [go_sem]
    refine run_seqV ?_
    simp only [go_sem]
    refine R_loop (ι := Nat) (J := fun k => k ≤ z.dones.length)
      (env := fun k => [(4, .p (.one (.ptr 0 0 0 0))), (7, .p (.one (.ptr 1 1 0 0))), (8, .p (.one (.ptr 2 1 0 0))), (14, .b (keptB client (z.dones.take k))), (15, .i k)])
      (mem := fun _ => [.rows 37 10 0 [entCells ⟨epoch, client, id, op⟩] true, shfV 1 z, ansV 1 a])
      (μ := fun k => z.dones.length - k) 0 (Nat.zero_le _) ⟨[], ?_, Nat.zero_le _, ?_, ?_⟩ ?_
    · simp only [go_sem]
    · simp only [go_sem, List.take_zero, keptB, List.any_nil]
    · simp only [go_sem, ltB, opRow]
    rintro j hj
    refine run_seqV ?_
    simp only [go_sem]
    refine ⟨fun hj1 => ?_, fun hj1 => ?_⟩
    · have hdl := i1.dl
      have hkt := kept_take client z.dones hj1
      refine V_sound ?_
      simp only [go_sem, opRow, w64s (show j < 9223372036854775807 by omega)]
      refine ⟨fun _ => by omega, j + 1, hj1, by omega, [], by simp only [List.append_nil], Nat.zero_le _, ?_, ?_⟩
      · simp only [go_sem, hkt]
      · simp only [go_sem, ltB, opRow]
    · have hjl : j = z.dones.length := by omega
      subst hjl
      rw [List.take_length]
      have d3 := fun M => DoP_rc i1 i2 ⟨epoch, client, id, op⟩ ho M
      rw [(Do_eq i1 _).1] at d3
      have hag := fun hk => told_again i1 (e := ⟨epoch, client, id, op⟩) i3 hc1 hc2 hi1 hi2 hk
      generalize DoS z ⟨epoch, client, id, op⟩ = W3 at d3 hag
      obtain ⟨x, b, c⟩ := W3
      refine run_seqV ?_
      simp only [go_sem, opRow]
      refine call0 d3 ?_
      simp only [go_sem]
      cases hk : keptB client z.dones with
      | true =>
        have hk2 : ∃ d ∈ z.dones, d.client = client := by
          unfold keptB at hk
          simpa using hk
        have hw := hag hk2
        simp only [Prod.mk.injEq] at hw
        obtain ⟨rfl, rfl, rfl⟩ := hw
        refine run_seqV ?_
        simp only [go_sem, ans_eq]
        refine callg0 (fun _ => rssame_rc _ _ (shP_z i1 i2)) ?_
        simp only [go_sem]
        refine callg0 (fun _ => awake14_rc) ?_
        simp only [go_sem]
        exact run_ret (hB0 _ _ (by simp only [go_sem]))
      | false =>
        refine run_seqV ?_
        simp only [go_sem, ans_eq]
        refine callg0 (r := .b false) (fun h => Bool.noConfusion h) ?_
        simp only [go_sem]
        refine callg0 (fun _ => awake14_rc) ?_
        simp only [go_sem]
        exact run_ret (hB0 _ _ (by simp only [go_sem]))
end Go.Proofs.YtcmkhlfjcdchmaaGreat.A
end
