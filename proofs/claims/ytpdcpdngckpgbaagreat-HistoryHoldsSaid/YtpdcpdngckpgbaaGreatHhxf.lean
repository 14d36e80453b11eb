/- Part 6 of the texts on which the row stands: ShP, ShQ, ShR, ShS, ShVa, ShT, ShVb, ShVc, CdHist, HiA, HiB, HiC, HiD, HiE, HiH, HiF, HiG, HiI, HiJ, HiK, HiL, HiM, AbsTr, HiN, HiO, HiQ, HiR, HiS, HiT, HiU. Conditions: none. -/
import Derived.Test.YtpdcpdngckpgbaaGreatHhxe
import Derived.Test.YtpdcpdngckpgbaaGreatProg
import Derived.KernelRfl
set_option linter.unusedVariables false
set_option linter.unusedSimpArgs false
section
namespace Go.Proofs.YtpdcpdngckpgbaaGreat.A
open Go Go.Proofs.YtpdcpdngckpgbaaGreatAbs
def leN (l : List Dn) : Nat → Int
 | 0 => -1
 | i + 1 => if leN l i < 0 ∨ (l.getD i default).id < (l.getD (leN l i).toNat default).id then (i : Int) else leN l i
theorem leN_lt (l : List Dn) : ∀ k, -1 ≤ leN l k ∧ leN l k < k
 | 0 => by simp [leN]
 | k + 1 => by
  have := leN_lt l k
  rw [leN]
  split <;> omega
def hadN (l : List Dn) (c : Int) : Nat → Bool
 | 0 => false
 | i + 1 => hadN l c i || ((l.getD i default).client == c)
def ntA (l : List Dn) (d : Dn) (had : Bool) (least : Int) : Nat → List Dn × Bool
 | 0 => ([], false)
 | i + 1 =>
  let q := if (!(ntA l d had least i).2 && decide (d.client ≤ (l.getD i default).client)) = true then ((ntA l d had least i).1 ++ [d], true) else ntA l d had least i
  if ((l.getD i default).client != d.client && (had || decide ((l.length : Int) < 8) || ((i : Int) != least))) = true then (q.1 ++ [l.getD i default], q.2) else q
def noteS (l : List Dn) (d : Dn) : List Dn :=
 let p := ntA l d (hadN l d.client l.length) (leN l l.length) l.length
 if p.2 = true then p.1 else p.1 ++ [d]
theorem ntA_len (l : List Dn) (d : Dn) (had : Bool) (least : Int) : ∀ k, (ntA l d had least k).1.length ≤ 2 * k
 | 0 => Nat.le_refl _
 | k + 1 => by
  have := ntA_len l d had least k
  rw [ntA]
  split <;> split <;> first | omega | (simp only [List.length_append, List.length_cons, List.length_nil]; omega)
theorem dn_row (l : List Dn) (a b c : Int) (h : Bool) (n : Int) : rowsL 5 Dn.c l ++ [[AV.c (CV.v (Value.int IntKind.i64 a)), AV.c (CV.v (Value.int IntKind.i64 b)), AV.c (CV.v (Value.int IntKind.i64 c)), AV.c (CV.v (Value.bool h)), AV.c (CV.v (Value.int IntKind.i64 n))]] = rowsL 5 Dn.c (l ++ [⟨a, b, ⟨c, h, n⟩⟩]) := rowsL_app1 l ⟨a, b, ⟨c, h, n⟩⟩
set_option maxRecDepth 20000 in
theorem rnote_rc (l : List Dn) (hl : l.length ≤ 1000) (d : Dn) (M : List Blk) : CallR Tryz.prog M n_windroseref14_note [dnL l, dnA d] (.p (dnL (noteS l d))) M := by
 refine callPG F_windroseref14_note (Nat.le_of_ble_eq_true rfl) (by simp only [go_sem]) ?_ M
 refine run_seqV ?_
 simp only [go_sem]
 refine run_seqV ?_
 simp only [go_sem]
 refine run_seqV ?_
 simp only [go_sem]
 refine run_seqV ?_
 simp only [go_sem]
 refine run_seqV ?_
 simp only [go_sem]
 refine run_seqV ?_
 simp only [go_sem]
 refine R_loop (ι := Nat) (J := fun k => k ≤ l.length)
  (env := fun k => [(0, .p (dnL l)), (3, .p (.one (.ptr 0 0 0 0))), (5, .p (.one (.arr 5 1 0 0 0))), (6, .b false), (7, .i (leN l k)), (8, .b (hadN l d.client k)), (9, .i k)])
  (mem := fun _ => [.rows 130 5 0 [dnCells d] true, .rows 130 5 0 [] true])
  (μ := fun k => l.length - k) 0 (Nat.zero_le _) ⟨[], ?_, Nat.zero_le _, ?_, ?_⟩ ?_
 ·simp only [go_sem]
 ·simp only [go_sem, leN, hadN]
 ·simp only [go_sem, ltB]
 rintro k hk
 refine run_seqV ?_
 simp only [go_sem]
 have hle := leN_lt l k
 refine ⟨fun h1 => ?_, fun h1 => ?_⟩
 ·have e3 : IntKind.i64.wrap ((k : Int) + 1) = ((k + 1 : Nat) : Int) := w64s (by omega)
  refine run_seq ?_
  refine run_block ?_
  refine run_seqV ?_
  simp only [go_sem]
  have hh : hadN l d.client (k + 1) = (hadN l d.client k || ((l.getD k default).client == d.client)) := rfl
  refine ⟨fun _ => ⟨by omega, h1⟩, V_sound ?_⟩
  simp only [go_sem]
  refine ⟨fun h => ⟨by omega, h1⟩, fun h => ?_, fun hc => ?_, fun hc => ?_⟩
  ·have h0 : ¬ leN l k < 0 := by simpa using h
   exact ⟨by omega, by omega⟩
  ·have hn : leN l (k + 1) = k := by rw [leN, if_pos (by simpa using hc)]
   refine V_sound ?_
   simp only [go_sem, e3]
   refine ⟨k + 1, h1, by omega, [], by simp only [go_sem], Nat.zero_le _, ?_, by simp only [go_sem, ltB]⟩
   simp only [go_sem, hn, hh]
  ·have hn : leN l (k + 1) = leN l k := by
    rw [leN, if_neg]
    intro h
    have : (decide (leN l k < 0) || decide ((l.getD k default).id < (l.getD (leN l k).toNat default).id)) = true := by simpa using h
    rw [this] at hc; cases hc
   refine V_sound ?_
   simp only [go_sem, e3]
   refine ⟨k + 1, h1, by omega, [], by simp only [go_sem], Nat.zero_le _, ?_, by simp only [go_sem, ltB]⟩
   simp only [go_sem, hn, hh]
 ·have hkl : k = l.length := by omega
  subst hkl
  unfold noteS
  generalize hadN l d.client l.length = had
  generalize leN l l.length = least at hle ⊢
  refine run_seqV ?_
  simp only [go_sem]
  refine R_loop (ι := Nat × Nat × Bool) (J := fun p => p.1 ≤ l.length)
   (env := fun p => [(0, .p (dnL l)), (3, .p (.one (.ptr 0 0 0 0))), (5, .p (.one (.arr 5 1 p.2.1 0 (ntA l d had least p.1).1.length))), (6, .b (ntA l d had least p.1).2), (7, .i least), (8, .b had), (10, .i p.1)])
   (mem := fun p => [.rows 130 5 0 [dnCells d] true, .rows 130 5 p.2.1 (rowsL 5 Dn.c (ntA l d had least p.1).1) p.2.2])
   (μ := fun p => l.length - p.1) (0, 0, true) (Nat.zero_le _) ⟨[], ?_, Nat.zero_le _, ?_, ?_⟩ ?_
  ·simp only [go_sem, ntA, rowsL_nil]
  ·simp only [go_sem, ntA, List.length_nil]
  ·simp only [go_sem, ltB]
   exact fun r hr => (rowsL_row r hr).2 _
  rintro ⟨k, v, f⟩ hk
  simp only at hk
  refine run_seqV ?_
  simp only [go_sem]
  have hwl := ntA_len l d had least k
  have hst : ntA l d had least (k + 1) = (let q := if (!(ntA l d had least k).2 && decide (d.client ≤ (l.getD k default).client)) = true then ((ntA l d had least k).1 ++ [d], true) else ntA l d had least k
   if ((l.getD k default).client != d.client && (had || decide ((l.length : Int) < 8) || ((k : Int) != least))) = true then (q.1 ++ [l.getD k default], q.2) else q) := rfl
  refine ⟨fun h1 => ?_, fun h1 => ?_⟩
  ·generalize hw : ntA l d had least k = W at hst hwl ⊢
   obtain ⟨ws, put⟩ := W
   have hrow := rowsL_getD (sz := 5) (c := Dn.c) h1
   simp only [go_sem] at hrow
   simp only at hwl
   have e3 : IntKind.i64.wrap ((k : Int) + 1) = ((k + 1 : Nat) : Int) := w64s (by omega)
   refine run_seq ?_
   refine run_block ?_
   refine run_seqV ?_
   simp only [go_sem]
   have hlx : (⟨(l.getD k default).client, (l.getD k default).id, ⟨(l.getD k default).ans.code, (l.getD k default).ans.has, (l.getD k default).ans.n⟩⟩ : Dn) = l.getD k default := rfl
   have hdx : (⟨d.client, d.id, ⟨d.ans.code, d.ans.has, d.ans.n⟩⟩ : Dn) = d := rfl
   refine ⟨fun _ => ⟨by omega, h1⟩, fun hp => ⟨by omega, ?_⟩, fun hp => ?_⟩
   ·simp only [if_pos hp] at hst
    refine V_sound ?_
    simp only [go_sem, dn_row, rowsL_len, List.length_append, List.length_cons, List.length_nil, Nat.zero_add, hlx, hdx]
    refine ⟨⟨by omega, h1⟩, fun hq => ⟨⟨by omega, h1⟩, by omega, V_sound ?_⟩, fun hq => V_sound ?_⟩
    ·simp only [if_pos hq] at hst
     simp only [go_sem, e3]
     refine ⟨(k + 1, v + 1 + 1, false), h1, by simp only []; omega, [.rows 130 5 0 [dnCells d] true, .rows 130 5 0 [dnCells (l.getD k default)] true], ?_, Nat.zero_le _, ?_, ?_⟩
     ·simp only [hst, go_sem, dn_row]
     ·simp only [go_sem, hst, List.length_append, List.length_cons, List.length_nil, Nat.zero_add]
     ·simp only [go_sem, ltB]
      exact fun r hr => (rowsL_row r hr).2 _
    ·simp only [hq, Bool.false_eq_true, if_false] at hst
     simp only [go_sem, e3]
     refine ⟨(k + 1, v + 1, false), h1, by simp only []; omega, [.rows 130 5 0 [dnCells d] true], ?_, Nat.zero_le _, ?_, ?_⟩
     ·simp only [hst, go_sem, dn_row]
     ·simp only [go_sem, hst, List.length_append, List.length_cons, List.length_nil, Nat.zero_add]
     ·simp only [go_sem, ltB]
      exact fun r hr => (rowsL_row r hr).2 _
   ·simp only [hp, Bool.false_eq_true, if_false] at hst
    refine V_sound ?_
    simp only [go_sem, dn_row, rowsL_len, List.length_append, List.length_cons, List.length_nil, Nat.zero_add, hlx, hdx]
    refine ⟨⟨by omega, h1⟩, fun hq => ⟨⟨by omega, h1⟩, by omega, V_sound ?_⟩, fun hq => V_sound ?_⟩
    ·simp only [if_pos hq] at hst
     simp only [go_sem, e3]
     refine ⟨(k + 1, v + 1, false), h1, by simp only []; omega, [.rows 130 5 0 [dnCells (l.getD k default)] true], ?_, Nat.zero_le _, ?_, ?_⟩
     ·simp only [hst, go_sem, dn_row]
     ·simp only [go_sem, hst, List.length_append, List.length_cons, List.length_nil, Nat.zero_add]
     ·simp only [go_sem, ltB]
      exact fun r hr => (rowsL_row r hr).2 _
    ·simp only [hq, Bool.false_eq_true, if_false] at hst
     simp only [go_sem, e3]
     refine ⟨(k + 1, v, f), h1, by simp only []; omega, [], ?_, Nat.zero_le _, ?_, ?_⟩
     ·simp only [hst, go_sem, dn_row]
     ·simp only [go_sem, hst, List.length_append, List.length_cons, List.length_nil, Nat.zero_add]
     ·simp only [go_sem, ltB]
      exact fun r hr => (rowsL_row r hr).2 _
  ·have hkl : k = l.length := by omega
   subst hkl
   generalize hw : ntA l d had least l.length = W at hwl ⊢
   obtain ⟨ws, put⟩ := W
   simp only at hwl
   have hend : ∀ (ws : List Dn) (e : Nat → SV) (X : List Blk) (v : Nat) (f : Bool), e 4 = .p (.one (.arr 5 1 v 0 ws.length)) → X[1]? = some (.rows 130 5 v (rowsL 5 Dn.c ws) f) → FinK 102 0 [.t 4] (.p (dnL ws)) [] .ret ⟨e, X⟩ := by
    intro ws e X v f h4 hX
    refine finQ (.inr rfl) (gh_freeze (b := 1) (l := rowsL 5 Dn.c ws) hX (rowsL_closed ws)) (qs := [.one (.c (.imm 5 ws.length fun i j => toC (((rowsL 5 Dn.c ws).getD (0 + i) []).getD j default)))]) (cnd := True) ?_ trivial (subS_p (subP_one (frz_sub ws))) (by simp only [go_sem])
    simp only [go_sem, h4, Nat.zero_add]
   refine run_seqV ?_
   simp only [go_sem, rowsL_len]
   refine ⟨fun hp => ⟨by omega, ?_⟩, fun hp => ?_⟩
   ·have hput : put = false := by simpa using hp
    rw [hput]
    refine V_sound ?_
    have hl2 : ws.length + 1 = (ws ++ [d]).length := by simp
    simp only [go_sem, dn_row, hl2]
    exact hend (ws ++ [d]) _ _ _ _ (by simp only [go_sem]) rfl
   ·have hput : put = true := by simpa using hp
    rw [hput]
    refine V_sound ?_
    simp only [go_sem]
    exact hend ws _ _ _ _ (by simp only [go_sem]) rfl
end Go.Proofs.YtpdcpdngckpgbaaGreat.A
end
section
namespace Go.Proofs.YtpdcpdngckpgbaaGreat.A
open Go Go.Proofs.YtpdcpdngckpgbaaGreatAbs
theorem setS_len (l : List Lin) (n : ByteArray) (x : List Smp) : (setS l n x).length ≤ l.length + 1 := by
 have := stAll_len n x l ([], decide (x.length = 0))
 simp only [List.length_nil] at this
 unfold setS stAll
 split at this <;> split at this <;> split <;> first | omega | (simp only [List.length_append, List.length_cons, List.length_nil]; omega) | contradiction
def trA (s : Shf) (a : Int) : Nat → List Lin
 | 0 => s.lines
 | k + 1 => setS (trA s a k) (s.lines.getD k default).ser (rtrimS (s.lines.getD k default).smps a)
theorem trA_len (s : Shf) (a : Int) : ∀ k, (trA s a k).length ≤ s.lines.length + k
 | 0 => Nat.le_refl _
 | k + 1 => by
  have := trA_len s a k
  have := setS_len (trA s a k) (s.lines.getD k default).ser (rtrimS (s.lines.getD k default).smps a)
  rw [trA]; omega
def ropS (s : Shf) (o : Opn) : Shf × Ans :=
 if o.kind = 1 then
  if o.smp.t < s.floor then (s, ⟨9, false, 0⟩)
  else if (rlineS s.lines o.ser).length = 0 ∧ s.lines.length = 16 then (s, ⟨6, false, 0⟩)
  else if (rputS (rlineS s.lines o.ser) o.smp).2 = 7 then (s, ⟨0, false, 0⟩)
  else if (rputS (rlineS s.lines o.ser) o.smp).2 ≠ 0 then (s, ⟨(rputS (rlineS s.lines o.ser) o.smp).2, false, 0⟩)
  else (⟨setS s.lines o.ser (rputS (rlineS s.lines o.ser) o.smp).1, s.dones, s.floor⟩, ⟨0, true, 0⟩)
 else if o.kind = 2 then
  if o.frm < s.floor then (s, ⟨9, false, 0⟩) else (⟨trA s o.frm s.lines.length, s.dones, o.frm⟩, ⟨0, false, 0⟩)
 else if o.kind = 4 then (s, ⟨0, (rgetS (rlineS s.lines o.ser) o.frm).2, (rgetS (rlineS s.lines o.ser) o.frm).1.v⟩)
 else (s, ⟨0, (totS o.tot (rrangeS (rlineS s.lines o.ser) o.frm o.to)).2, (totS o.tot (rrangeS (rlineS s.lines o.ser) o.frm o.to)).1⟩)
theorem rlineS_len {l : List Lin} (hs : ∀ i, i < l.length → (l.getD i default).smps.length ≤ 1000) (n : ByteArray) : (rlineS l n).length ≤ 1000 := by
 unfold rlineS
 split
 ·exact hs _ (by assumption)
 ·exact Nat.zero_le _
abbrev shfB (s : Shf) : Blk := .rows 77 3 0 [[.c (immL 2 Lin.c s.lines), .c (immL 5 Dn.c s.dones), .c (.v (.int .i64 s.floor))]] true
theorem endOp {n : Nat} (s : Shf) (a : Ans) (e : Nat → SV) (X : List Blk) (h4 : e 4 = .p (.one (.ptr 2 0 0 0))) (h5 : e 5 = .p (.one (.ptr 3 0 0 0))) (x2 : X[2]? = some (shfB s)) (x3 : X[3]? = some (ansB a)) : FinK n 0 [.l true 3 4, .l true 3 5] (.tup [shfA s, ansA a]) [] .ret ⟨e, X⟩ := by
 refine fin0 (.inr rfl) (qs := [shfA s, ansA a]) (cnd := True ∧ True) ?_ ⟨trivial, trivial⟩ (SubS.refl _) (by simp only [go_sem])
 simp only [go_sem, h4, h5, x2, x3, Option.map_some]
set_option maxRecDepth 20000 in
theorem rop_rc (s : Shf) (hz : zShf s) (o : Opn) (M : List Blk) : CallR Tryz.prog M n_windroseref14_op [shfA s, opnA o] (.tup [shfA (ropS s o).1, ansA (ropS s o).2]) M := by
 refine callPG F_windroseref14_op (Nat.le_of_ble_eq_true rfl) (by simp only [go_sem]) ?_ M
 have hrl := rlineS_len hz.smp o.ser
 obtain ⟨kind, ser, smp, frm, to, tot⟩ := o
 obtain ⟨lines, dones, floor⟩ := s
 obtain ⟨hll, hdl, hser, hsmp⟩ := hz
 simp only at hll hdl hser hsmp hrl ⊢
 refine run_seqV ?_
 simp only [go_sem]
 refine run_seqV ?_
 simp only [go_sem]
 refine call0 (rline_rc ⟨lines, dones, floor⟩ hll ser) ?_
 simp only [go_sem]
 refine run_seq ?_
 refine run_seqV ?_
 simp only [go_sem, opRow]
 refine run_block ?_
 refine run_seqV ?_
 simp only [go_sem, opRow]
 refine run_cond (t := kind == 1) (by simp only [go_sem]) (fun h => ?_) (fun h => ?_)
 ·have k1 : kind = 1 := by simpa using h
  subst k1
  refine run_seqV ?_
  simp only [go_sem]
  have hw : ropS ⟨lines, dones, floor⟩ ⟨1, ser, smp, frm, to, tot⟩ = if smp.t < floor then (⟨lines, dones, floor⟩, ⟨9, false, 0⟩)
    else if (rlineS lines ser).length = 0 ∧ lines.length = 16 then (⟨lines, dones, floor⟩, ⟨6, false, 0⟩)
    else if (rputS (rlineS lines ser) smp).2 = 7 then (⟨lines, dones, floor⟩, ⟨0, false, 0⟩)
    else if (rputS (rlineS lines ser) smp).2 ≠ 0 then (⟨lines, dones, floor⟩, ⟨(rputS (rlineS lines ser) smp).2, false, 0⟩)
    else (⟨setS lines ser (rputS (rlineS lines ser) smp).1, dones, floor⟩, ⟨0, true, 0⟩) := rfl
  rw [hw]
  refine ⟨fun hc => ?_, fun hc => ?_⟩
  ·rw [if_pos hc]
   exact endOp ⟨lines, dones, floor⟩ ⟨9, false, 0⟩ _ _ (by simp only [go_sem]) (by simp only [go_sem]) rfl rfl
  rw [if_neg hc]
  refine run_seqV ?_
  simp only [go_sem]
  refine ⟨fun hd => ?_, fun hd => ?_⟩
  ·have hd : (rlineS lines ser).length = 0 ∧ lines.length = 16 := by
    simp only [Bool.and_eq_true, beq_iff_eq] at hd
    omega
   rw [if_pos hd]
   exact endOp ⟨lines, dones, floor⟩ ⟨6, false, 0⟩ _ _ (by simp only [go_sem]) (by simp only [go_sem]) rfl rfl
  have hd : ¬ ((rlineS lines ser).length = 0 ∧ lines.length = 16) := by
   rintro ⟨h1, h2⟩
   rw [h1, h2] at hd
   cases hd
  rw [if_neg hd]
  refine run_seqV ?_
  simp only [go_sem]
  refine call0 (rPut_rc (rlineS lines ser) hrl smp) ?_
  generalize rputS (rlineS lines ser) smp = W
  obtain ⟨L, c⟩ := W
  simp only [go_sem]
  refine run_seqV ?_
  simp only [go_sem]
  refine ⟨fun h7 => ?_, fun h7 => ?_⟩
  ·rw [if_pos h7]
   exact endOp ⟨lines, dones, floor⟩ ⟨0, false, 0⟩ _ _ (by simp only [go_sem]) (by simp only [go_sem]) rfl rfl
  rw [if_neg h7]
  refine run_seqV ?_
  simp only [go_sem]
  refine ⟨fun h0 => ?_, fun h0 => ?_⟩
  ·have h0 : c ≠ 0 := by simpa using h0
   rw [if_pos h0]
   exact endOp ⟨lines, dones, floor⟩ ⟨c, false, 0⟩ _ _ (by simp only [go_sem]) (by simp only [go_sem]) rfl rfl
  have h0 : ¬ c ≠ 0 := by simpa using h0
  rw [if_neg h0]
  refine run_seqV ?_
  simp only [go_sem]
  refine call0 (rset_rc lines (by omega) ser L) ?_
  simp only [go_sem]
  refine V_sound ?_
  simp only [go_sem]
  exact endOp ⟨setS lines ser L, dones, floor⟩ ⟨0, true, 0⟩ _ _ (by simp only [go_sem]) (by simp only [go_sem]) rfl rfl
 ·have k1 : ¬ kind = 1 := by simpa using h
  refine run_seqV ?_
  simp only [go_sem]
  refine run_cond (t := kind == 2) (by simp only [go_sem]) (fun h => ?_) (fun h => ?_)
  ·have k2 : kind = 2 := by simpa using h
   subst k2
   have hw : ropS ⟨lines, dones, floor⟩ ⟨2, ser, smp, frm, to, tot⟩ = if frm < floor then (⟨lines, dones, floor⟩, ⟨9, false, 0⟩) else (⟨trA ⟨lines, dones, floor⟩ frm lines.length, dones, frm⟩, ⟨0, false, 0⟩) := rfl
   rw [hw]
   refine run_seqV ?_
   simp only [go_sem]
   refine ⟨fun hc => ?_, fun hc => ?_⟩
   ·rw [if_pos hc]
    exact endOp ⟨lines, dones, floor⟩ ⟨9, false, 0⟩ _ _ (by simp only [go_sem]) (by simp only [go_sem]) rfl rfl
   rw [if_neg hc]
   refine run_seqV ?_
   simp only [go_sem]
   refine run_seqV ?_
   simp only [go_sem]
   refine R_loop (ι := Nat) (J := fun k => k ≤ lines.length)
    (env := fun k => [(2, .p (.one (.ptr 0 0 0 0))), (3, .p (.one (.ptr 1 0 0 0))), (4, .p (.one (.ptr 2 0 0 0))), (5, .p (.one (.ptr 3 0 0 0))), (9, .p (linL (trA ⟨lines, dones, floor⟩ frm k))), (10, .i k)])
    (mem := fun _ => [shfB ⟨lines, dones, floor⟩, .rows 65 7 0 [opRow ⟨2, ser, smp, frm, to, tot⟩] true, zSh, ansB ⟨0, false, 0⟩])
    (μ := fun k => lines.length - k) 0 (Nat.zero_le _) ⟨[], ?_, Nat.zero_le _, ?_, ?_⟩ ?_
   ·simp only [go_sem, opRow]
   ·simp only [go_sem, trA]
   ·simp only [go_sem, ltB, opRow]
   rintro k hk
   refine run_seqV ?_
   simp only [go_sem]
   refine ⟨fun h1 => ?_, fun h1 => ?_⟩
   ·have e3 : IntKind.i64.wrap ((k : Int) + 1) = ((k + 1 : Nat) : Int) := w64s (by omega)
    have hl := trA_len ⟨lines, dones, floor⟩ frm k
    have hsk := hsmp k h1
    simp only at hl
    refine run_seqV ?_
    simp only [go_sem, opRow]
    refine ⟨⟨by omega, h1⟩, ⟨by omega, h1⟩, ?_⟩
    refine call0 (rTrim_rc (lines.getD k default).smps (by omega) frm) ?_
    simp only [go_sem]
    refine call0 (rset_rc (trA ⟨lines, dones, floor⟩ frm k) (by omega) (lines.getD k default).ser (rtrimS (lines.getD k default).smps frm)) ?_
    simp only [go_sem]
    refine V_sound ?_
    simp only [go_sem, e3]
    refine ⟨k + 1, h1, by omega, [], ?_, Nat.zero_le _, ?_, ?_⟩
    ·simp only [go_sem, opRow]
    ·simp only [go_sem, trA]
    ·simp only [go_sem, ltB, opRow]
   ·have hkl : k = lines.length := by omega
    subst hkl
    refine V_sound ?_
    simp only [go_sem, opRow]
    exact endOp ⟨trA ⟨lines, dones, floor⟩ frm lines.length, dones, frm⟩ ⟨0, false, 0⟩ _ _ (by simp only [go_sem]) (by simp only [go_sem]) rfl rfl
  ·have k2 : ¬ kind = 2 := by simpa using h
   have hw : ropS ⟨lines, dones, floor⟩ ⟨kind, ser, smp, frm, to, tot⟩ = if kind = 4 then (⟨lines, dones, floor⟩, ⟨0, (rgetS (rlineS lines ser) frm).2, (rgetS (rlineS lines ser) frm).1.v⟩)
     else (⟨lines, dones, floor⟩, ⟨0, (totS tot (rrangeS (rlineS lines ser) frm to)).2, (totS tot (rrangeS (rlineS lines ser) frm to)).1⟩) := by
    rw [ropS, if_neg k1, if_neg k2]
   rw [hw]
   refine run_seqV ?_
   simp only [go_sem]
   refine run_cond (t := kind == 4) (by simp only [go_sem]) (fun h => ?_) (fun h => ?_)
   ·have k4 : kind = 4 := by simpa using h
    subst k4
    rw [if_pos rfl]
    refine run_seqV ?_
    simp only [go_sem]
    refine call0 (rGet_rc (rlineS lines ser) (by omega) frm) ?_
    simp only [go_sem]
    refine V_sound ?_
    simp only [go_sem]
    refine ⟨rfl, ?_⟩
    exact endOp ⟨lines, dones, floor⟩ ⟨0, (rgetS (rlineS lines ser) frm).2, (rgetS (rlineS lines ser) frm).1.v⟩ _ _ (by simp only [go_sem]) (by simp only [go_sem]) rfl rfl
   ·have k4 : ¬ kind = 4 := by simpa using h
    rw [if_neg k4]
    refine V_sound ?_
    simp only [go_sem]
    refine run_seqV ?_
    simp only [go_sem]
    have hf : (rrangeS (rlineS lines ser) frm to).length ≤ (rlineS lines ser).length := List.length_filter_le _ _
    refine call0 (rRange_rc (rlineS lines ser) (by omega) frm to) ?_
    simp only [go_sem]
    refine call0 (rOf_rc tot (rrangeS (rlineS lines ser) frm to) (by omega)) ?_
    simp only [go_sem]
    refine V_sound ?_
    simp only [go_sem]
    exact endOp ⟨lines, dones, floor⟩ ⟨0, (totS tot (rrangeS (rlineS lines ser) frm to)).2, (totS tot (rrangeS (rlineS lines ser) frm to)).1⟩ _ _ (by simp only [go_sem]) (by simp only [go_sem]) rfl rfl
end Go.Proofs.YtpdcpdngckpgbaaGreat.A
end
section
namespace Go.Proofs.YtpdcpdngckpgbaaGreat.A
open Go Go.Proofs.YtpdcpdngckpgbaaGreatAbs
def rApS (s : Shf) (o : Opn) : Shf × Ans := if opOk o = false then (s, ⟨1, false, 0⟩) else ropS s o
theorem ropS_dones (s : Shf) (o : Opn) : (ropS s o).1.dones = s.dones := by
 unfold ropS
 repeat' split
 all_goals rfl
theorem rApS_dones (s : Shf) (o : Opn) : (rApS s o).1.dones = s.dones := by
 unfold rApS
 split
 ·rfl
 ·exact ropS_dones s o
set_option maxRecDepth 20000 in
theorem rApply_rc (s : Shf) (hz : zShf s) (o : Opn) (ho : o.ser.size ≤ 2000) (M : List Blk) : CallR Tryz.prog M n_windroseref14_Apply [shfA s, opnA o] (.tup [shfA (rApS s o).1, ansA (rApS s o).2]) M := by
 refine callPG F_windroseref14_Apply (Nat.le_of_ble_eq_true rfl) (by simp only [go_sem]) ?_ M
 refine run_seqV ?_
 simp only [go_sem]
 refine run_seqV ?_
 simp only [go_sem, opRow]
 refine call0 (rOp_rc o ho) ?_
 simp only [go_sem]
 refine ⟨fun h => ?_, fun h => ?_⟩
 ·have h : opOk o = false := by simpa using h
  rw [rApS, if_pos h]
  exact endOp s ⟨1, false, 0⟩ _ _ (by simp only [go_sem]) (by simp only [go_sem]) rfl rfl
 ·have h : ¬ opOk o = false := by simpa using h
  rw [rApS, if_neg h]
  refine run_seqV ?_
  simp only [go_sem, opRow]
  refine call0 (rop_rc s hz o) ?_
  generalize ropS s o = W
  obtain ⟨x, a⟩ := W
  simp only [go_sem]
  refine V_sound ?_
  simp only [go_sem]
  exact endOp x a _ _ (by simp only [go_sem]) (by simp only [go_sem]) rfl rfl
def rDoS (s : Shf) (e : Ent) : Shf × Ans × Int :=
 if ¬ (0 ≤ e.client ∧ e.client ≤ 2147483647) ∨ ¬ (1 ≤ e.id ∧ e.id ≤ 2147483647) then (⟨[], [], 0⟩, ⟨0, false, 0⟩, 1)
 else if metI s.dones e.client e.id < s.dones.length then (s, if (s.dones.getD (metI s.dones e.client e.id) default).id = e.id then (s.dones.getD (metI s.dones e.client e.id) default).ans else ⟨9, false, 0⟩, 0)
 else if 0 < e.client then (⟨(rApS s e.op).1.lines, noteS s.dones ⟨e.client, e.id, (rApS s e.op).2⟩, (rApS s e.op).1.floor⟩, (rApS s e.op).2, 0)
 else ((rApS s e.op).1, (rApS s e.op).2, 0)
theorem endOpC {n : Nat} (s : Shf) (a : Ans) (c : Int) (e : Nat → SV) (X : List Blk) (h4 : e 4 = .p (.one (.ptr 2 0 0 0))) (h5 : e 5 = .p (.one (.ptr 3 0 0 0))) (h6 : e 6 = .i c) (x2 : X[2]? = some (shfB s)) (x3 : X[3]? = some (ansB a)) : FinK n 0 [.l true 3 4, .l true 3 5, .t 6] (.tup [shfA s, ansA a, .i c]) [] .ret ⟨e, X⟩ := by
 refine fin0 (.inr rfl) (qs := [shfA s, ansA a, .i c]) (cnd := True ∧ True) ?_ ⟨trivial, trivial⟩ (SubS.refl _) (by simp only [go_sem])
 simp only [go_sem, h4, h5, h6, x2, x3, Option.map_some]
set_option maxRecDepth 20000 in
theorem rDo_rc (s : Shf) (hz : zShf s) (en : Ent) (ho : en.op.ser.size ≤ 2000) (M : List Blk) :
  CallR Tryz.prog M n_windroseref14_Do [shfA s, entA en] (.tup [shfA (rDoS s en).1, ansA (rDoS s en).2.1, .i (rDoS s en).2.2]) M := by
 refine callPG F_windroseref14_Do (Nat.le_of_ble_eq_true rfl) (by simp only [go_sem, opRow]) ?_ M
 obtain ⟨epoch, client, id, op⟩ := en
 simp only at ho ⊢
 have hz0 := hz
 obtain ⟨lines, dones, floor⟩ := s
 obtain ⟨hll, hdl, hser, hsmp⟩ := hz
 simp only at hll hdl hser hsmp ⊢
 refine run_seqV ?_
 simp only [go_sem, opRow]
 refine run_seqV ?_
 simp only [go_sem]
 refine ⟨fun hc => ?_, fun hc => ?_⟩
 ·have hw : rDoS ⟨lines, dones, floor⟩ ⟨epoch, client, id, op⟩ = (⟨[], [], 0⟩, ⟨0, false, 0⟩, 1) := by
   rw [rDoS, if_pos]
   simp only [Bool.or_eq_true, decide_eq_true_eq] at hc
   simp only
   omega
  rw [hw]
  exact fin0 (.inr rfl) (qs := [.agg [.c (.v (.slice none 0 0)), .c (.v (.slice none 0 0)), .c (.v (.int .i64 0))], ansA ⟨0, false, 0⟩, .i 1]) (cnd := True ∧ True) (by simp only [go_sem]) ⟨trivial, trivial⟩ (subS_tupL ⟨subP_aggL ⟨nil_sub (α := Lin), nil_sub (α := Dn), SubA.refl _, trivial⟩, SubP.refl _, SubP.refl _, trivial⟩) (by simp only [go_sem])
 have hs : (0 ≤ client ∧ client ≤ 2147483647) ∧ (1 ≤ id ∧ id ≤ 2147483647) := by
  simp only [Bool.or_eq_false_iff, decide_eq_false_iff_not] at hc
  omega
 have hw : rDoS ⟨lines, dones, floor⟩ ⟨epoch, client, id, op⟩ = if metI dones client id < dones.length then (⟨lines, dones, floor⟩, if (dones.getD (metI dones client id) default).id = id then (dones.getD (metI dones client id) default).ans else ⟨9, false, 0⟩, 0)
   else if 0 < client then (⟨(rApS ⟨lines, dones, floor⟩ op).1.lines, noteS dones ⟨client, id, (rApS ⟨lines, dones, floor⟩ op).2⟩, (rApS ⟨lines, dones, floor⟩ op).1.floor⟩, (rApS ⟨lines, dones, floor⟩ op).2, 0) else ((rApS ⟨lines, dones, floor⟩ op).1, (rApS ⟨lines, dones, floor⟩ op).2, 0) := by
  rw [rDoS, if_neg]
  simp only
  omega
 rw [hw]
 refine run_seqV ?_
 simp only [go_sem]
 refine R_loop (ι := Nat) (J := fun k => k ≤ dones.length ∧ ∀ i, i < k → ¬ ((dones.getD i default).client = client ∧ id ≤ (dones.getD i default).id))
  (env := fun k => [(2, .p (.one (.ptr 0 0 0 0))), (3, .p (.one (.ptr 1 0 0 0))), (4, .p (.one (.ptr 2 0 0 0))), (5, .p (.one (.ptr 3 0 0 0))), (7, .i k)])
  (mem := fun _ => [shfB ⟨lines, dones, floor⟩, .rows 80 10 0 [entCells ⟨epoch, client, id, op⟩] true, zSh, ansB ⟨0, false, 0⟩])
  (μ := fun k => dones.length - k) 0 ⟨Nat.zero_le _, fun i hi => absurd hi (Nat.not_lt_zero _)⟩ ⟨[], ?_, Nat.zero_le _, ?_, ?_⟩ ?_
 ·simp only [go_sem, opRow]
 ·simp only [go_sem]
 ·simp only [go_sem, ltB, opRow]
 rintro k ⟨hk, hne⟩
 refine run_seqV ?_
 simp only [go_sem]
 refine ⟨fun h1 => ?_, fun h1 => ?_⟩
 ·have hrow := rowsL_getD (sz := 5) (c := Dn.c) h1
  simp only [go_sem] at hrow
  have e3 : IntKind.i64.wrap ((k : Int) + 1) = ((k + 1 : Nat) : Int) := w64s (by omega)
  have hmet : (dones.getD k default).client = client → id ≤ (dones.getD k default).id → metI dones client id = k := fun hq1 hq2 => by
   rw [metI, List.findIdx_eq h1]
   refine ⟨?_, fun i hi => ?_⟩
   ·rw [List.getD_eq_getElem?_getD, List.getElem?_eq_getElem h1, Option.getD_some] at hq1 hq2
    rw [hq1]; simp; omega
   ·have h5 := hne i hi
    rw [List.getD_eq_getElem?_getD, List.getElem?_eq_getElem (show i < dones.length by omega), Option.getD_some] at h5
    simpa [Bool.and_eq_false_iff] using h5
  refine run_seq ?_
  refine run_block ?_
  refine run_seqV ?_
  simp only [go_sem, opRow]
  refine ⟨⟨by omega, h1⟩, run_seqV ?_⟩
  simp only [go_sem]
  refine ⟨fun h2 => ⟨rfl, ?_⟩, fun h2 => run_seqV ?_⟩
  ·have hq : (dones.getD k default).client = client ∧ (dones.getD k default).id = id := by simpa using h2
   have hm := hmet hq.1 (by omega)
   rw [hm, if_pos h1]
   simp only [if_pos hq.2]
   exact endOpC ⟨lines, dones, floor⟩ (dones.getD k default).ans 0 _ _ (by simp only [go_sem]) (by simp only [go_sem]) (by simp only [go_sem]) rfl rfl
  ·simp only [go_sem]
   have hnq : ¬ ((dones.getD k default).client = client ∧ (dones.getD k default).id = id) := by
    intro h; rw [h.1, h.2] at h2; simp at h2
   refine V_sound ?_
   simp only [go_sem]
   refine ⟨fun h3 => ?_, fun h3 => ?_⟩
   ·have hq : (dones.getD k default).client = client ∧ id < (dones.getD k default).id := by simpa using h3
    have hm := hmet hq.1 (by omega)
    rw [hm, if_pos h1]
    simp only [if_neg (show ¬ (dones.getD k default).id = id by omega)]
    exact endOpC ⟨lines, dones, floor⟩ ⟨9, false, 0⟩ 0 _ _ (by simp only [go_sem]) (by simp only [go_sem]) (by simp only [go_sem]) rfl rfl
   ·refine V_sound ?_
    simp only [go_sem, e3]
    refine ⟨k + 1, ⟨h1, fun i hi => ?_⟩, by omega, [.rows 130 5 0 [dnCells (dones.getD k default)] true], ?_, ?_, ?_, ?_⟩
    ·by_cases e : i = k
     ·subst e
      rintro ⟨h5, h6⟩
      have : ¬ ((dones.getD i default).client = client ∧ id < (dones.getD i default).id) := by
       rintro ⟨h7, h8⟩
       rw [h7, beq_self_eq_true, decide_eq_true h8] at h3
       cases h3
      rcases Int.lt_or_eq_of_le h6 with h7 | h7
      ·exact this ⟨h5, h7⟩
      ·exact hnq ⟨h5, h7.symm⟩
     ·exact hne i (by omega)
    ·rfl
    ·simp only [List.length_cons, List.length_nil]; omega
    ·simp only [go_sem]
    ·simp only [go_sem, ltB, opRow]
 ·have hkl : k = dones.length := by omega
  subst hkl
  have hm : metI dones client id = dones.length := by
   rw [metI, List.findIdx_eq_length]
   intro y hy
   obtain ⟨j, hj, rfl⟩ := List.mem_iff_getElem.1 hy
   have h5 := hne j hj
   rw [List.getD_eq_getElem?_getD, List.getElem?_eq_getElem hj, Option.getD_some] at h5
   simpa [Bool.and_eq_false_iff] using h5
  rw [hm, if_neg (Nat.lt_irrefl _)]
  have hap := fun M => rApply_rc ⟨lines, dones, floor⟩ hz0 op ho M
  have hd := rApS_dones ⟨lines, dones, floor⟩ op
  generalize rApS ⟨lines, dones, floor⟩ op = W at hap hd ⊢
  obtain ⟨⟨L, dn, fl⟩, a⟩ := W
  simp only at hd
  subst hd
  refine run_seqV ?_
  simp only [go_sem, opRow]
  refine call0 hap ?_
  simp only [go_sem]
  refine run_seqV ?_
  simp only [go_sem]
  refine ⟨fun hc => ?_, fun hc => ?_⟩
  ·rw [if_pos hc]
   refine call0 (rnote_rc dn hdl ⟨client, id, a⟩) ?_
   simp only [go_sem]
   refine V_sound ?_
   simp only [go_sem]
   refine ⟨rfl, ?_⟩
   exact endOpC ⟨L, noteS dn ⟨client, id, a⟩, fl⟩ a 0 _ _ (by simp only [go_sem]) (by simp only [go_sem]) (by simp only [go_sem]) rfl rfl
  ·rw [if_neg hc]
   refine V_sound ?_
   simp only [go_sem]
   refine ⟨rfl, ?_⟩
   exact endOpC ⟨L, dn, fl⟩ a 0 _ _ (by simp only [go_sem]) (by simp only [go_sem]) (by simp only [go_sem]) rfl rfl
end Go.Proofs.YtpdcpdngckpgbaaGreat.A
end
section
namespace Go.Proofs.YtpdcpdngckpgbaaGreat.A
open Go Go.Proofs.YtpdcpdngckpgbaaGreatAbs
abbrev entL (l : List Ent) : Pt := immP 10 Ent.c l
def evOk (s : Shf) (en : Ent) : Prop := shOk s = true → metI s.dones en.client en.id = s.dones.length → 8 < (insD s.dones ⟨en.client, en.id, (doOp s en.op).2⟩).length → 0 ≤ evN (insD s.dones ⟨en.client, en.id, (doOp s en.op).2⟩) en.client (insD s.dones ⟨en.client, en.id, (doOp s en.op).2⟩).length
end Go.Proofs.YtpdcpdngckpgbaaGreat.A
end
section
namespace Go.Proofs.YtpdcpdngckpgbaaGreat.A
open Go Go.Proofs.YtpdcpdngckpgbaaGreatAbs
theorem gd_get {α : Type} [Inhabited α] {l : List α} {i : Nat} (h : i < l.length) : l.getD i default = l[i] := by
 rw [List.getD_eq_getElem?_getD, List.getElem?_eq_getElem h]; rfl
theorem gd_app {α : Type} [Inhabited α] (A B : List α) (k : Nat) : (A ++ B).getD (A.length + k) default = B.getD k default := by
 rw [List.getD_eq_getElem?_getD, List.getD_eq_getElem?_getD, List.getElem?_append_right (Nat.le_add_right _ _), Nat.add_sub_cancel_left]
theorem gd_app0 {α : Type} [Inhabited α] (A B : List α) (y : α) : (A ++ y :: B).getD A.length default = y := by
 have := gd_app A (y :: B) 0
 rw [Nat.add_zero] at this
 rw [this]; rfl
theorem gd_appL {α : Type} [Inhabited α] (A B : List α) {k : Nat} (h : k < A.length) : (A ++ B).getD k default = A.getD k default := by
 rw [List.getD_eq_getElem?_getD, List.getD_eq_getElem?_getD, List.getElem?_append_left h]
theorem set_mid {α : Type} (A B : List α) (x y : α) : (A ++ x :: B).set A.length y = A ++ y :: B := by
 rw [List.set_append_right _ _ (Nat.le_refl _), Nat.sub_self]; rfl
theorem bs_split {α : Type} [Inhabited α] {l : List α} {R : α → α → Prop} (hs : l.Pairwise R) (p q : α → Bool) (h1 : ∀ x y, R x y → p y = true → p x = true) (h2 : ∀ x y, R x y → p x = false → q y = false) :
  ∃ A B, l = A ++ B ∧ bsF (fun i => p (l.getD i default)) 0 l.length = A.length ∧ (∀ x ∈ A, p x = true) ∧ (∀ x ∈ B, p x = false) ∧ ∀ x ∈ B.tail, q x = false := by
 have hR := List.pairwise_iff_getElem.1 hs
 have hl := bsF_le (lt := fun i => p (l.getD i default)) l.length 0 l.length (by omega) (Nat.zero_le _)
 obtain ⟨ha, hb⟩ := bsF_lt (lt := fun i => p (l.getD i default)) l.length 0 l.length (by omega) (Nat.zero_le _) (fun a b _ hab hbl hp => by
  by_cases e : a = b
  ·subst e; exact hp
  ·have hal : a < l.length := by omega
   rw [gd_get hbl] at hp
   rw [gd_get hal]
   exact h1 _ _ (hR a b hal hbl (by omega)) hp)
 generalize bsF (fun i => p (l.getD i default)) 0 l.length = k at hl ha hb
 refine ⟨l.take k, l.drop k, (List.take_append_drop k l).symm, by rw [List.length_take]; omega, fun x hx => ?_, fun x hx => ?_, fun x hx => ?_⟩
 ·obtain ⟨i, hi, rfl⟩ := List.mem_iff_getElem.1 hx
  rw [List.length_take] at hi
  have := ha i (Nat.zero_le _) (by omega)
  rw [gd_get (by omega)] at this
  rw [List.getElem_take]
  exact this
 ·obtain ⟨i, hi, rfl⟩ := List.mem_iff_getElem.1 hx
  rw [List.length_drop] at hi
  have := hb (k + i) (by omega) (by omega)
  rw [gd_get (by omega)] at this
  rw [List.getElem_drop]
  exact this
 ·rw [List.tail_drop] at hx
  obtain ⟨i, hi, rfl⟩ := List.mem_iff_getElem.1 hx
  rw [List.length_drop] at hi
  have hk : k < l.length := by omega
  have := hb k (Nat.le_refl _) hk
  rw [gd_get hk] at this
  rw [List.getElem_drop]
  exact h2 _ _ (hR k (k + 1 + i) hk (by omega) (by omega)) this
theorem pw_idx {α : Type} [Inhabited α] {l : List α} {R : α → α → Prop} (ht : ∀ x y z, R x y → R y z → R x z) (h : ∀ i, i < l.length → i = 0 ∨ R (l.getD (i - 1) default) (l.getD i default)) : l.Pairwise R := by
 have key : ∀ j, j < l.length → ∀ i, i < j → R (l.getD i default) (l.getD j default) := by
  intro j
  induction j with
  | zero => intro _ i hi; omega
  | succ j ih =>
   intro hj i hi
   have h1 : R (l.getD j default) (l.getD (j + 1) default) := by
    rcases h (j + 1) hj with e | e
    ·omega
    ·simpa using e
   by_cases e : i = j
   ·subst e; exact h1
   ·exact ht _ _ _ (ih (by omega) i (by omega)) h1
 rw [List.pairwise_iff_getElem]
 intro i j hi hj hij
 have := key j hj i hij
 rwa [gd_get hi, gd_get hj] at this
theorem idx_pw {α : Type} [Inhabited α] {l : List α} {R : α → α → Prop} (h : l.Pairwise R) {i : Nat} (hi : i < l.length) (h0 : i ≠ 0) : R (l.getD (i - 1) default) (l.getD i default) := by
 rw [gd_get hi, gd_get (show i - 1 < l.length by omega)]
 exact List.pairwise_iff_getElem.1 h _ _ _ _ (by omega)
theorem all_mem {α : Type} [Inhabited α] {l : List α} {p : α → Prop} : (∀ i, i < l.length → p (l.getD i default)) ↔ ∀ x ∈ l, p x := by
 constructor
 ·intro h x hx
  obtain ⟨i, hi, rfl⟩ := List.mem_iff_getElem.1 hx
  have := h i hi
  rwa [gd_get hi] at this
 ·intro h i hi
  rw [gd_get hi]
  exact h _ (List.getElem_mem hi)
def upS (l : List Smp) : Prop := l.Pairwise fun x y => x.t < y.t
theorem smsOk_iff (l : List Smp) : smsOk l = true ↔ l.length ≤ 64 ∧ (∀ x ∈ l, smOk x = true) ∧ upS l := by
 unfold smsOk
 rw [Bool.and_eq_true, decide_eq_true_eq, List.all_eq_true]
 constructor
 ·rintro ⟨h1, h2⟩
  have h3 : ∀ i, i < l.length → smAt l i = true := fun i hi => h2 i (List.mem_range.2 hi)
  refine ⟨h1, all_mem.1 fun i hi => ?_, pw_idx (fun x y z => Int.lt_trans) fun i hi => ?_⟩
  ·have := h3 i hi
   unfold smAt at this
   exact (Bool.and_eq_true_iff.1 this).1
  ·have := h3 i hi
   unfold smAt at this
   have := (Bool.and_eq_true_iff.1 this).2
   simpa using this
 ·rintro ⟨h1, h2, h3⟩
  refine ⟨h1, fun i hi => ?_⟩
  have hi := List.mem_range.1 hi
  unfold smAt
  rw [Bool.and_eq_true]
  refine ⟨all_mem.2 h2 i hi, ?_⟩
  by_cases h0 : i = 0
  ·simp [h0]
  ·have := idx_pw h3 hi h0
   simp only [Bool.or_eq_true, decide_eq_true_eq]
   exact .inr this
theorem sm_split {l : List Smp} (hs : upS l) (t : Int) : ∃ A B, l = A ++ B ∧ atS l t = A.length ∧ (∀ x ∈ A, x.t < t) ∧
  ((hitS l t = true ∧ ∃ y B', B = y :: B' ∧ y.t = t ∧ ∀ x ∈ B', t < x.t) ∨ (hitS l t = false ∧ ∀ x ∈ B, t < x.t)) := by
 obtain ⟨A, B, h1, h2, h3, h4, h5⟩ := bs_split hs (fun x => decide (cmpI x.t t < 0)) (fun x => decide (x.t = t)) (fun x y h hy => by
   rw [decide_eq_true_eq, cmpI_lt] at *; omega) (fun x y h hx => by
   rw [decide_eq_false_iff_not, cmpI_lt] at hx; rw [decide_eq_false_iff_not]; omega)
 have h2 : atS l t = A.length := h2
 refine ⟨A, B, h1, h2, fun x hx => by have := h3 x hx; rwa [decide_eq_true_eq, cmpI_lt] at this, ?_⟩
 have hB : ∀ x ∈ B, t ≤ x.t := fun x hx => by have := h4 x hx; rw [decide_eq_false_iff_not, cmpI_lt] at this; omega
 cases B with
 | nil =>
  right
  refine ⟨?_, fun x hx => by cases hx⟩
  rw [hitS, h2, h1]; simp
 | cons y B' =>
  have hy : l.getD A.length default = y := by rw [h1, gd_app0]
  have hlen : A.length < l.length := by rw [h1]; simp
  have hT : ∀ x ∈ B', x.t ≠ t := fun x hx => by have := h5 x hx; rwa [decide_eq_false_iff_not] at this
  have hhit : hitS l t = decide (y.t = t) := by rw [hitS, h2, hy, cmpI_eq, decide_eq_true hlen, Bool.true_and]
  by_cases e : y.t = t
  ·left
   exact ⟨by rw [hhit, decide_eq_true e], y, B', rfl, e, fun x hx => by have := hB x (List.mem_cons_of_mem _ hx); have := hT x hx; omega⟩
  ·right
   refine ⟨by rw [hhit, decide_eq_false e], fun x hx => ?_⟩
   rcases List.mem_cons.1 hx with rfl | hx
   ·have := hB x (List.mem_cons_self ..); omega
   ·have := hB x (List.mem_cons_of_mem _ hx); have := hT x hx; omega
theorem rgetI_app {A B : List Smp} {t : Int} (h : ∀ x ∈ A, x.t ≠ t) : rgetI (A ++ B) t = A.length + rgetI B t := by
 unfold rgetI
 rw [List.findIdx_append, if_neg]
 ·omega
 ·rw [List.findIdx_lt_length]
  rintro ⟨x, hx, h1⟩
  exact h x hx (by simpa using h1)
theorem rget_eq {l : List Smp} (h : smsOk l = true) (t : Int) : rgetS l t = getS l t := by
 obtain ⟨A, B, h1, h2, h3, h4⟩ := sm_split ((smsOk_iff l).1 h).2.2 t
 have hA : ∀ x ∈ A, x.t ≠ t := fun x hx e => by have := h3 x hx; omega
 rcases h4 with ⟨hh, y, B', rfl, hy, hB⟩ | ⟨hh, hB⟩
 ·have e : rgetI l t = A.length := by
   rw [h1, rgetI_app hA]
   simp [rgetI, List.findIdx_cons, hy]
  have hl : A.length < l.length := by rw [h1]; simp
  rw [rgetS, getS, e, h2, if_pos hl, if_pos ⟨hh, h⟩]
 ·have e : rgetI l t = l.length := by
   rw [rgetI, List.findIdx_eq_length]
   intro x hx
   rw [h1] at hx
   rcases List.mem_append.1 hx with hx | hx
   ·simpa using hA x hx
   ·have := hB x hx; simp; omega
  rw [rgetS, getS, e, if_neg (Nat.lt_irrefl _), if_neg (by rw [hh]; simp)]
theorem wS_A (s : Smp) : ∀ (A : List Smp) (p : List Smp), (∀ x ∈ A, x.t < s.t) → A.foldl (wStepS s) (p, false) = (p ++ A, false)
 | [], p, h => by simp
 | x :: A, p, h => by
  have h1 := h x (List.mem_cons_self ..)
  rw [List.foldl_cons, show wStepS s (p, false) x = (p ++ [x], false) by simp [wStepS, show ¬ s.t < x.t by omega], wS_A s A _ fun y hy => h y (List.mem_cons_of_mem _ hy)]
  simp
theorem wS_T (s : Smp) : ∀ (A : List Smp) (p : List Smp), A.foldl (wStepS s) (p, true) = (p ++ A, true)
 | [], p => by simp
 | x :: A, p => by
  rw [List.foldl_cons, show wStepS s (p, true) x = (p ++ [x], true) by simp [wStepS], wS_T s A _]
  simp
theorem withS_eq {A B : List Smp} {s : Smp} (hA : ∀ x ∈ A, x.t < s.t) (hB : ∀ x ∈ B, s.t < x.t) : withS (A ++ B) s = A ++ s :: B := by
 unfold withS wAllS
 rw [List.foldl_append, wS_A s A [] hA]
 cases B with
 | nil => simp
 | cons y B =>
  have h1 := hB y (List.mem_cons_self ..)
  rw [List.foldl_cons, show wStepS s ([] ++ A, false) y = (A ++ [s] ++ [y], true) by simp [wStepS, h1], wS_T]
  simp
theorem smp_vt {x s : Smp} (h : x.t = s.t) : (x = s) ↔ x.v = s.v := by
 cases x; cases s
 simp only at h
 simp [h]
theorem rput_eq {l : List Smp} (h : smsOk l = true) (s : Smp) : rputS l s = putS l s := by
 unfold rputS putS
 rw [if_neg (show ¬ smsOk l = false by rw [h]; simp), rget_eq h]
 by_cases hs : smOk s = false
 ·rw [if_pos hs, if_pos hs]
 ·rw [if_neg hs, if_neg hs]
  obtain ⟨A, B, h1, h2, h3, h4⟩ := sm_split ((smsOk_iff l).1 h).2.2 s.t
  rcases h4 with ⟨hh, y, B', rfl, hy, hB⟩ | ⟨hh, hB⟩
  ·have hg : l.getD A.length default = y := by rw [h1, gd_app0]
   have hG : getS l s.t = (y, true) := by rw [getS, if_pos ⟨hh, h⟩, h2, hg]
   rw [hG, if_pos hh, h2, hg]
   simp only [true_and, if_true, smp_vt hy]
   by_cases e : y.v = s.v <;> simp only [e, if_true, if_false]
  ·have hG : getS l s.t = (zSmp, false) := by rw [getS, if_neg (by rw [hh]; simp)]
   rw [hG, if_neg (show ¬ hitS l s.t = true by rw [hh]; simp)]
   simp only [Bool.false_eq_true, false_and, if_false]
   by_cases e : l.length = 64
   ·rw [if_pos e, if_pos e]
   ·rw [if_neg e, if_neg e, h2]
    have e1 : l.take A.length = A := by rw [h1]; simp
    have e2 : l.drop A.length = B := by rw [h1]; simp
    rw [e1, e2, h1, withS_eq h3 hB]
theorem putS_ok {l : List Smp} (h : smsOk l = true) (s : Smp) : smsOk (putS l s).1 = true := by
 unfold putS
 rw [if_neg (show ¬ smsOk l = false by rw [h]; simp)]
 split
 ·exact h
 split
 ·exact h
 split
 ·exact h
 rename_i hs hh h64
 obtain ⟨k1, k2, k3⟩ := (smsOk_iff l).1 h
 obtain ⟨A, B, h1, h2, h3, h4⟩ := sm_split k3 s.t
 have hB : ∀ x ∈ B, s.t < x.t := by
  rcases h4 with ⟨hh', _⟩ | ⟨_, hB⟩
  ·exact absurd hh' hh
  ·exact hB
 have e1 : l.take A.length = A := by rw [h1]; simp
 have e2 : l.drop A.length = B := by rw [h1]; simp
 rw [h2, e1, e2, smsOk_iff]
 have hlen : l.length = A.length + B.length := by rw [h1]; simp
 refine ⟨by simp; omega, fun x hx => ?_, ?_⟩
 ·rcases List.mem_append.1 hx with hx | hx
  ·exact k2 x (by rw [h1]; exact List.mem_append_left _ hx)
  ·rcases List.mem_cons.1 hx with rfl | hx
   ·simpa using hs
   ·exact k2 x (by rw [h1]; exact List.mem_append_right _ hx)
 ·unfold upS at k3 ⊢
  rw [h1, List.pairwise_append] at k3
  rw [List.pairwise_append, List.pairwise_cons]
  refine ⟨k3.1, ⟨hB, k3.2.1⟩, fun a ha b hb => ?_⟩
  rcases List.mem_cons.1 hb with rfl | hb
  ·exact h3 a ha
  ·exact k3.2.2 a ha b hb
theorem putS_mem {l : List Smp} (h : smsOk l = true) (s : Smp) : ∀ x ∈ (putS l s).1, x = s ∨ x ∈ l := by
 unfold putS
 rw [if_neg (show ¬ smsOk l = false by rw [h]; simp)]
 split
 ·exact fun x hx => .inr hx
 split
 ·exact fun x hx => .inr hx
 split
 ·exact fun x hx => .inr hx
 intro x hx
 rcases List.mem_append.1 hx with hx | hx
 ·exact .inr (List.mem_of_mem_take hx)
 ·rcases List.mem_cons.1 hx with rfl | hx
  ·exact .inl rfl
  ·exact .inr (List.mem_of_mem_drop hx)
theorem filter_slice {α : Type} [Inhabited α] (l : List α) (p : α → Bool) (i j : Nat) (hp : ∀ k, k < l.length → p (l.getD k default) = (decide (i ≤ k) && decide (k < j))) : l.filter p = (l.drop i).take (j - i) := by
 have e : l = l.take i ++ ((l.drop i).take (j - i) ++ (l.drop i).drop (j - i)) := by rw [List.take_append_drop, List.take_append_drop]
 have hp' : ∀ k (h : k < l.length), p l[k] = (decide (i ≤ k) && decide (k < j)) := fun k h => by rw [← hp k h, gd_get h]
 conv => lhs; rw [e]
 rw [List.filter_append, List.filter_append]
 have e1 : (l.take i).filter p = [] := by
  rw [List.filter_eq_nil_iff]
  intro x hx
  obtain ⟨k, hk, rfl⟩ := List.mem_iff_getElem.1 hx
  rw [List.length_take] at hk
  rw [List.getElem_take, hp' k (by omega), decide_eq_false (by omega)]
  simp
 have e2 : ((l.drop i).take (j - i)).filter p = (l.drop i).take (j - i) := by
  rw [List.filter_eq_self]
  intro x hx
  obtain ⟨k, hk, rfl⟩ := List.mem_iff_getElem.1 hx
  rw [List.length_take, List.length_drop] at hk
  rw [List.getElem_take, List.getElem_drop, hp' (i + k) (by omega), decide_eq_true (by omega), decide_eq_true (by omega)]
  simp
 have e3 : ((l.drop i).drop (j - i)).filter p = [] := by
  rw [List.filter_eq_nil_iff]
  intro x hx
  obtain ⟨k, hk, rfl⟩ := List.mem_iff_getElem.1 hx
  rw [List.length_drop, List.length_drop] at hk
  rw [List.getElem_drop, List.getElem_drop, hp' _ (by omega)]
  simp only [Bool.and_eq_true, decide_eq_true_eq, not_and]
  omega
 rw [e1, e2, e3, List.nil_append, List.append_nil]
theorem at_char {l : List Smp} (hs : upS l) (t : Int) {k : Nat} (hk : k < l.length) : ((l.getD k default).t < t ↔ k < atS l t) := by
 obtain ⟨A, B, h1, h2, h3, h4⟩ := sm_split hs t
 rw [h2]
 by_cases h : k < A.length
 ·have : (l.getD k default).t < t := by
   rw [h1, gd_appL _ _ h, gd_get h]
   exact h3 _ (List.getElem_mem h)
  exact ⟨fun _ => h, fun _ => this⟩
 ·have hB : ∀ x ∈ B, t ≤ x.t := by
   rcases h4 with ⟨_, y, B', rfl, hy, hB⟩ | ⟨_, hB⟩
   ·intro x hx
    rcases List.mem_cons.1 hx with rfl | hx
    ·omega
    ·have := hB x hx; omega
   ·intro x hx
    have := hB x hx; omega
  have hkB : k - A.length < B.length := by rw [h1, List.length_append] at hk; omega
  have : t ≤ (l.getD k default).t := by
   rw [h1, show k = A.length + (k - A.length) by omega, gd_app, gd_get hkB]
   exact hB _ (List.getElem_mem hkB)
  constructor
  ·intro h'; omega
  ·intro h'; omega
theorem rrange_eq {l : List Smp} (h : smsOk l = true) (a b : Int) : rrangeS l a b = rangeS l a b := by
 have hu := ((smsOk_iff l).1 h).2.2
 rw [rangeS, if_pos h, rrangeS]
 refine filter_slice l _ _ _ fun k hk => ?_
 have h1 := at_char hu a hk
 have h2 := at_char hu b hk
 rw [Bool.eq_iff_iff]
 simp only [Bool.and_eq_true, decide_eq_true_eq]
 omega
theorem rtrim_eq {l : List Smp} (h : smsOk l = true) (a : Int) : rtrimS l a = trimS l a := by
 have hu := ((smsOk_iff l).1 h).2.2
 have hat := atS_le l a
 rw [trimS, if_pos h, rtrimS, filter_slice l _ (atS l a) l.length fun k hk => ?_]
 ·rw [List.take_of_length_le]
  rw [List.length_drop]; exact Nat.le_refl _
 ·have h1 := at_char hu a hk
  rw [Bool.eq_iff_iff]
  simp only [Bool.and_eq_true, decide_eq_true_eq]
  omega
theorem rtrim_ok {l : List Smp} (h : smsOk l = true) (a : Int) : smsOk (rtrimS l a) = true := by
 obtain ⟨h1, h2, h3⟩ := (smsOk_iff l).1 h
 rw [smsOk_iff]
 refine ⟨Nat.le_trans (List.length_filter_le ..) h1, fun x hx => h2 x (List.mem_filter.1 hx).1, List.Pairwise.filter _ h3⟩
end Go.Proofs.YtpdcpdngckpgbaaGreat.A
end
section
namespace Go.Proofs.YtpdcpdngckpgbaaGreat.A
open Go Go.Proofs.YtpdcpdngckpgbaaGreatAbs
@[go_sem] def Ans.c (x : Ans) : Nat → CV
 | 0 => .v (.int .i64 x.code)
 | 1 => .v (.bool x.has)
 | _ => .v (.int .i64 x.n)
theorem lin_ext {x y : Lin} : x = y ↔ x.ser = y.ser ∧ x.smps = y.smps := by
 cases x; cases y; simp
instance : DecidableEq Lin := fun a b => decidable_of_iff' _ lin_ext
theorem ans_ext {x y : Ans} : x = y ↔ x.code = y.code ∧ x.has = y.has ∧ x.n = y.n := by
 cases x; cases y; simp
instance : DecidableEq Ans := fun a b => decidable_of_iff' _ ans_ext
theorem dn_ext {x y : Dn} : x = y ↔ x.client = y.client ∧ x.id = y.id ∧ x.ans = y.ans := by
 cases x; cases y; simp
instance : DecidableEq Dn := fun a b => decidable_of_iff' _ dn_ext
theorem shf_ext {x y : Shf} : x = y ↔ x.lines = y.lines ∧ x.dones = y.dones ∧ x.floor = y.floor := by
 cases x; cases y; simp
instance : DecidableEq Shf := fun a b => decidable_of_iff' _ shf_ext
theorem ans_eq (x y : Ans) : (x.code == y.code && (x.has == y.has && x.n == y.n)) = decide (x = y) := by
 rw [Bool.eq_iff_iff]
 simp only [Bool.and_eq_true, beq_iff_eq, decide_eq_true_eq, ans_ext]
theorem endB {n : Nat} (v : Bool) (e : Nat → SV) (X : List Blk) (r : Nat) (h4 : e r = .b v) : FinK n 0 [.t r] (.b v) [] .ret ⟨e, X⟩ := by
 refine fin0 (.inr rfl) (qs := [.one (.c (.v (.bool v)))]) (cnd := True) ?_ trivial (SubS.refl _) (by simp only [go_sem])
 simp only [go_sem, h4]
end Go.Proofs.YtpdcpdngckpgbaaGreat.A
end
section
namespace Go.Proofs.YtpdcpdngckpgbaaGreat.A
open Go Go.Proofs.YtpdcpdngckpgbaaGreatAbs
def upLn (l : List Lin) : Prop := l.Pairwise fun x y => sLt x.ser y.ser = true
theorem cmpS_lt0 (a b : ByteArray) : (cmpS a b < 0) ↔ sLt a b = true := by
 have := cmpS_neg a b
 rw [← this, decide_eq_true_eq]
theorem cmpS_eq0 (a b : ByteArray) : (cmpS a b == 0) = decide (a = b) := by
 unfold cmpS
 cases h : sLt a b with
 | true => have := sLt_ne h; simp [this]
 | false =>
  cases k : sLt b a with
  | true => have := sLt_ne k; simp [Ne.symm this]
  | false => have := sLt_total h k; simp [this]
theorem ln_split {l : List Lin} (hs : upLn l) (n : ByteArray) : ∃ A B, l = A ++ B ∧ atL l n = A.length ∧ (∀ x ∈ A, sLt x.ser n = true) ∧
  ((hitL l n = true ∧ ∃ y B', B = ⟨n, y⟩ :: B' ∧ ∀ x ∈ B', sLt n x.ser = true) ∨ (hitL l n = false ∧ ∀ x ∈ B, sLt n x.ser = true)) := by
 obtain ⟨A, B, h1, h2, h3, h4, h5⟩ := bs_split hs (fun x => decide (cmpS x.ser n < 0)) (fun x => decide (x.ser = n)) (fun x y h hy => by
   rw [decide_eq_true_eq, cmpS_lt0] at *; exact sLt_trans h hy) (fun x y h hx => by
   rw [decide_eq_false_iff_not, cmpS_lt0] at hx; rw [decide_eq_false_iff_not]; rintro rfl; exact hx h)
 have h2 : atL l n = A.length := h2
 refine ⟨A, B, h1, h2, fun x hx => by have := h3 x hx; rwa [decide_eq_true_eq, cmpS_lt0] at this, ?_⟩
 have hB : ∀ x ∈ B, sLt x.ser n = false := fun x hx => by have := h4 x hx; rw [decide_eq_false_iff_not, cmpS_lt0] at this; simpa using this
 cases B with
 | nil =>
  right
  refine ⟨?_, fun x hx => by cases hx⟩
  rw [hitL, h2, h1]; simp
 | cons y B' =>
  have hy : l.getD A.length default = y := by rw [h1, gd_app0]
  have hlen : A.length < l.length := by rw [h1]; simp
  have hT : ∀ x ∈ B', x.ser ≠ n := fun x hx => by have := h5 x hx; rwa [decide_eq_false_iff_not] at this
  have hhit : hitL l n = decide (y.ser = n) := by rw [hitL, h2, hy, cmpS_eq0, decide_eq_true hlen, Bool.true_and]
  have hgt : ∀ x ∈ y :: B', x.ser ≠ n → sLt n x.ser = true := fun x hx hne => by
   cases h : sLt n x.ser with
   | true => rfl
   | false => exact absurd (sLt_total (hB x hx) h) hne
  by_cases e : y.ser = n
  ·left
   refine ⟨by rw [hhit, decide_eq_true e], y.smps, B', by rw [← e], fun x hx => hgt x (List.mem_cons_of_mem _ hx) (hT x hx)⟩
  ·right
   refine ⟨by rw [hhit, decide_eq_false e], fun x hx => ?_⟩
   rcases List.mem_cons.1 hx with rfl | hx
   ·exact hgt _ (List.mem_cons_self ..) e
   ·exact hgt x (List.mem_cons_of_mem _ hx) (hT x hx)
theorem rlI_app {A B : List Lin} {n : ByteArray} (h : ∀ x ∈ A, x.ser ≠ n) : rlI (A ++ B) n = A.length + rlI B n := by
 unfold rlI
 rw [List.findIdx_append, if_neg]
 ·omega
 ·rw [List.findIdx_lt_length]
  rintro ⟨x, hx, h1⟩
  exact h x hx (by simpa using h1)
theorem rline_hit {A B : List Lin} {n : ByteArray} {y : List Smp} (h : ∀ x ∈ A, x.ser ≠ n) : rlineS (A ++ ⟨n, y⟩ :: B) n = y := by
 have e : rlI (A ++ ⟨n, y⟩ :: B) n = A.length := by rw [rlI_app h]; simp [rlI, List.findIdx_cons]
 rw [rlineS, e, if_pos (by simp), gd_app0]
theorem rline_no {l : List Lin} {n : ByteArray} (h : ∀ x ∈ l, x.ser ≠ n) : rlineS l n = [] := by
 have e : rlI l n = l.length := by
  rw [rlI, List.findIdx_eq_length]
  exact fun x hx => by simpa using h x hx
 rw [rlineS, e, if_neg (Nat.lt_irrefl _)]
theorem rline_eq {s : Shf} (hs : upLn s.lines) (n : ByteArray) : rlineS s.lines n = hasL s n := by
 obtain ⟨A, B, h1, h2, h3, h4⟩ := ln_split hs n
 have hA : ∀ x ∈ A, x.ser ≠ n := fun x hx => sLt_ne (h3 x hx)
 rcases h4 with ⟨hh, y, B', rfl, hB⟩ | ⟨hh, hB⟩
 ·rw [hasL, if_pos hh, h2, h1, rline_hit hA, gd_app0]
 ·rw [hasL, if_neg (by rw [hh]; simp), rline_no]
  intro x hx
  rw [h1] at hx
  rcases List.mem_append.1 hx with hx | hx
  ·exact hA x hx
  ·exact (sLt_ne (hB x hx)).symm
theorem st_A (n : ByteArray) (x : List Smp) : ∀ (A p : List Lin) (b : Bool), (∀ y ∈ A, sLt y.ser n = true) → A.foldl (stStep n x) (p, b) = (p ++ A, b)
 | [], p, b, h => by simp
 | y :: A, p, b, h => by
  have h1 := h y (List.mem_cons_self ..)
  rw [List.foldl_cons, show stStep n x (p, b) y = (p ++ [y], b) by simp [stStep, h1, sLt_ne h1], st_A n x A _ b fun z hz => h z (List.mem_cons_of_mem _ hz)]
  simp
theorem st_T (n : ByteArray) (x : List Smp) : ∀ (A p : List Lin), (∀ y ∈ A, y.ser ≠ n) → A.foldl (stStep n x) (p, true) = (p ++ A, true)
 | [], p, h => by simp
 | y :: A, p, h => by
  have h1 := h y (List.mem_cons_self ..)
  rw [List.foldl_cons, show stStep n x (p, true) y = (p ++ [y], true) by simp [stStep, h1], st_T n x A _ fun z hz => h z (List.mem_cons_of_mem _ hz)]
  simp
def mayL (n : ByteArray) (x : List Smp) : List Lin := if x.length = 0 then [] else [⟨n, x⟩]
theorem setS_hit {A B : List Lin} {n : ByteArray} {y : List Smp} (hA : ∀ z ∈ A, sLt z.ser n = true) (hB : ∀ z ∈ B, sLt n z.ser = true) (x : List Smp) : setS (A ++ ⟨n, y⟩ :: B) n x = A ++ (mayL n x ++ B) := by
 have hB' : ∀ z ∈ B, z.ser ≠ n := fun z hz => (sLt_ne (hB z hz)).symm
 unfold setS stAll mayL
 rw [List.foldl_append, st_A n x A [] _ hA, List.foldl_cons]
 by_cases h : x.length = 0
 ·rw [decide_eq_true h, show stStep n x ([] ++ A, true) ⟨n, y⟩ = (A, true) by simp [stStep], st_T n x B A hB']
  simp [h]
 ·rw [decide_eq_false h, show stStep n x ([] ++ A, false) ⟨n, y⟩ = (A ++ [⟨n, x⟩], true) by simp [stStep, sLt_irrefl], st_T n x B _ hB']
  simp [h]
theorem setS_no {A B : List Lin} {n : ByteArray} (hA : ∀ z ∈ A, sLt z.ser n = true) (hB : ∀ z ∈ B, sLt n z.ser = true) (x : List Smp) : setS (A ++ B) n x = A ++ (mayL n x ++ B) := by
 have hB' : ∀ z ∈ B, z.ser ≠ n := fun z hz => (sLt_ne (hB z hz)).symm
 unfold setS stAll mayL
 rw [List.foldl_append, st_A n x A [] _ hA]
 by_cases h : x.length = 0
 ·rw [decide_eq_true h, st_T n x B _ hB']
  simp [h]
 ·rw [decide_eq_false h]
  cases B with
  | nil => simp [h]
  | cons b B =>
   have h1 := hB b (List.mem_cons_self ..)
   rw [List.foldl_cons, show stStep n x ([] ++ A, false) b = (A ++ [⟨n, x⟩] ++ [b], true) by simp [stStep, sLt_asymm h1, (sLt_ne h1).symm], st_T n x B _ fun z hz => hB' z (List.mem_cons_of_mem _ hz)]
   simp [h]
structure linOk (f : Int) (x : Lin) : Prop where
 ser : serT x.ser = true
 ne : x.smps.length ≠ 0
 ok : smsOk x.smps = true
 fl : ∀ y ∈ x.smps, f ≤ y.t
structure dnOk (d : Dn) : Prop where
 c1 : 1 ≤ d.client
 c2 : d.client ≤ 2147483647
 i1 : 1 ≤ d.id
 i2 : d.id ≤ 2147483647
def upD (l : List Dn) : Prop := l.Pairwise fun x y => x.client < y.client
structure shP (s : Shf) : Prop where
 ll : s.lines.length ≤ 16
 dl : s.dones.length ≤ 8
 f0 : 0 ≤ s.floor
 f1 : s.floor ≤ 1099511627776
 ln : ∀ x ∈ s.lines, linOk s.floor x
 up : upLn s.lines
 dn : ∀ d ∈ s.dones, dnOk d
 ud : upD s.dones
theorem fl_iff {l : List Smp} (hu : upS l) (h0 : l.length ≠ 0) (f : Int) : f ≤ (l.getD 0 default).t ↔ ∀ y ∈ l, f ≤ y.t := by
 constructor
 ·intro h y hy
  cases l with
  | nil => cases hy
  | cons x l =>
   have h : f ≤ x.t := h
   rcases List.mem_cons.1 hy with rfl | hy
   ·exact h
   ·have := (List.pairwise_cons.1 hu).1 y hy
    omega
 ·intro h
  rw [gd_get (by omega)]
  exact h _ (List.getElem_mem _)
theorem shOk_iff (s : Shf) : shOk s = true ↔ shP s := by
 unfold shOk
 simp only [Bool.and_eq_true, decide_eq_true_eq, List.all_eq_true, List.mem_range]
 constructor
 ·rintro ⟨⟨⟨⟨⟨h1, h2⟩, h3⟩, h4⟩, h5⟩, h6⟩
  have k5 : ∀ i, i < s.lines.length → (serT (s.lines.getD i default).ser = true ∧ (s.lines.getD i default).smps.length ≠ 0 ∧ smsOk (s.lines.getD i default).smps = true ∧ s.floor ≤ ((s.lines.getD i default).smps.getD 0 default).t) ∧ (i = 0 ∨ sLt (s.lines.getD (i - 1) default).ser (s.lines.getD i default).ser = true) := fun i hi => by
   have := h5 i hi
   simp only [lnAt, Bool.and_eq_true, Bool.or_eq_true, decide_eq_true_eq, beq_iff_eq] at this
   obtain ⟨⟨⟨⟨a, b⟩, c⟩, d⟩, e⟩ := this
   exact ⟨⟨a, by omega, d, e⟩, b⟩
  have k6 : ∀ i, i < s.dones.length → dnOk (s.dones.getD i default) ∧ (i = 0 ∨ (s.dones.getD (i - 1) default).client < (s.dones.getD i default).client) := fun i hi => by
   have := h6 i hi
   simp only [dnAt, Bool.and_eq_true, Bool.or_eq_true, decide_eq_true_eq, beq_iff_eq] at this
   obtain ⟨⟨⟨⟨a, b⟩, c⟩, d⟩, e⟩ := this
   exact ⟨⟨a, b, c, d⟩, e⟩
  refine ⟨h1, h2, h3, h4, all_mem.1 fun i hi => ?_, (show upLn s.lines from pw_idx (fun x y z h k => sLt_trans h k) fun i hi => (k5 i hi).2), all_mem.1 fun i hi => (k6 i hi).1, (show upD s.dones from pw_idx (fun x y z h k => Int.lt_trans h k) fun i hi => (k6 i hi).2)⟩
  obtain ⟨⟨a, b, c, d⟩, e⟩ := k5 i hi
  exact ⟨a, b, c, (fl_iff ((smsOk_iff _).1 c).2.2 b s.floor).1 d⟩
 ·rintro ⟨h1, h2, h3, h4, h5, h6, h7, h8⟩
  refine ⟨⟨⟨⟨⟨h1, h2⟩, h3⟩, h4⟩, fun i hi => ?_⟩, fun i hi => ?_⟩
  ·obtain ⟨a, b, c, d⟩ := all_mem.2 h5 i hi
   simp only [lnAt, Bool.and_eq_true, Bool.or_eq_true, decide_eq_true_eq, beq_iff_eq]
   refine ⟨⟨⟨⟨a, ?_⟩, by omega⟩, c⟩, (fl_iff ((smsOk_iff _).1 c).2.2 b s.floor).2 d⟩
   by_cases h0 : i = 0
   ·exact .inl h0
   ·exact .inr (idx_pw h6 hi h0)
  ·obtain ⟨a, b, c, d⟩ := all_mem.2 h7 i hi
   simp only [dnAt, Bool.and_eq_true, Bool.or_eq_true, decide_eq_true_eq, beq_iff_eq]
   refine ⟨⟨⟨⟨a, b⟩, c⟩, d⟩, ?_⟩
   by_cases h0 : i = 0
   ·exact .inl h0
   ·exact .inr (idx_pw h8 hi h0)
theorem putS_ne {l : List Smp} (h : smsOk l = true) {s : Smp} (h2 : (putS l s).2 ≠ 0) : (putS l s).1 = l := by
 revert h2
 unfold putS
 rw [if_neg (show ¬ smsOk l = false by rw [h]; simp)]
 repeat' split
 all_goals first | (intro _; rfl) | (intro h; exact absurd rfl h)
theorem putS_nil {s : Smp} (h : smOk s = true) : putS [] s = ([s], 0) := by
 have e : atS [] s.t = 0 := by have := atS_le [] s.t; simpa using this
 have e2 : hitS [] s.t = false := by rw [hitS, e]; rfl
 rw [putS, if_neg (by decide), if_neg (by rw [h]; simp), if_neg (by rw [e2]; simp), if_neg (by decide), e]
 rfl
theorem putS_len0 {l : List Smp} (h : smsOk l = true) (h0 : l.length ≠ 0) (s : Smp) : (putS l s).1.length ≠ 0 := by
 unfold putS
 rw [if_neg (show ¬ smsOk l = false by rw [h]; simp)]
 repeat' split
 all_goals first | exact h0 | simp
theorem lin_mid {s : Shf} {A B : List Lin} {n : ByteArray} {y z : List Smp} (hl : s.lines = A ++ ⟨n, y⟩ :: B) (h : shP s) (h1 : linOk s.floor ⟨n, z⟩) : shP ⟨A ++ ⟨n, z⟩ :: B, s.dones, s.floor⟩ := by
 have hu := h.up
 have hln := h.ln
 unfold upLn at hu
 rw [hl] at hu hln
 have hlen := h.ll
 rw [hl] at hlen
 refine ⟨by simpa using hlen, h.dl, h.f0, h.f1, fun x hx => ?_, ?_, h.dn, h.ud⟩
 ·rcases List.mem_append.1 hx with hx | hx
  ·exact hln x (List.mem_append_left _ hx)
  ·rcases List.mem_cons.1 hx with rfl | hx
   ·exact h1
   ·exact hln x (List.mem_append_right _ (List.mem_cons_of_mem _ hx))
 ·unfold upLn
  rw [List.pairwise_append, List.pairwise_cons] at hu ⊢
  refine ⟨hu.1, ⟨hu.2.1.1, hu.2.1.2⟩, fun a ha b hb => ?_⟩
  rcases List.mem_cons.1 hb with rfl | hb
  ·exact hu.2.2 a ha ⟨n, y⟩ (List.mem_cons_self ..)
  ·exact hu.2.2 a ha b (List.mem_cons_of_mem _ hb)
theorem write_eq {s : Shf} (h : shP s) (o : Opn) (hk : o.kind = 1) (hser : serT o.ser = true) (hs : smOk o.smp = true) :
  ropS s o = (⟨(writeS s.lines s.floor o).1, s.dones, s.floor⟩, (writeS s.lines s.floor o).2) ∧ shP ⟨(writeS s.lines s.floor o).1, s.dones, s.floor⟩ := by
 unfold ropS writeS
 rw [if_pos hk]
 by_cases hf : o.smp.t < s.floor
 ·rw [if_pos hf, if_pos hf]
  exact ⟨rfl, h⟩
 rw [if_neg hf, if_neg hf, rline_eq h.up]
 obtain ⟨A, B, h1, h2, h3, h4⟩ := ln_split h.up o.ser
 have hA : ∀ x ∈ A, x.ser ≠ o.ser := fun x hx => sLt_ne (h3 x hx)
 have hsame : (⟨s.lines, s.dones, s.floor⟩ : Shf) = s := rfl
 rcases h4 with ⟨hh, y, B', rfl, hB⟩ | ⟨hh, hB⟩
 ·have hlin := h.ln ⟨o.ser, y⟩ (by rw [h1]; simp)
  have hg : s.lines.getD A.length default = ⟨o.ser, y⟩ := by rw [h1, gd_app0]
  have hhas : hasL s o.ser = y := by rw [hasL, if_pos hh, h2, hg]
  have hset : ∀ z, s.lines.set A.length z = A ++ z :: B' := fun z => by rw [h1, set_mid]
  have hne : y.length ≠ 0 := hlin.ne
  have hok : smsOk y = true := hlin.ok
  simp only [hhas, hne, false_and, if_false, hh, Bool.true_eq_false, wrL, if_true, h2, hg, hset, rput_eq hok]
  by_cases h7 : (putS y o.smp).2 = 7
  ·have e := putS_ne hok (s := o.smp) (by rw [h7]; decide)
   rw [if_pos h7, if_pos h7, e, ← h1]
   exact ⟨rfl, h⟩
  ·rw [if_neg h7, if_neg h7]
   by_cases h0 : (putS y o.smp).2 = 0
   ·rw [if_neg (by simpa using h0), h0, h1, setS_hit h3 hB, mayL, if_neg (putS_len0 hok hne _)]
    refine ⟨rfl, lin_mid h1 h ⟨hser, putS_len0 hok hne _, putS_ok hok _, fun z hz => ?_⟩⟩
    rcases putS_mem hok _ z hz with rfl | hz
    ·omega
    ·exact hlin.fl z hz
   ·have e := putS_ne hok h0
    rw [if_pos h0, e, ← h1, decide_eq_false h0]
    exact ⟨rfl, h⟩
 ·have hhas : hasL s o.ser = [] := by rw [hasL, if_neg (by rw [hh]; simp)]
  simp only [hhas, List.length_nil, true_and, hh]
  by_cases h16 : s.lines.length = 16
  ·rw [if_pos h16, if_pos h16]
   exact ⟨rfl, h⟩
  ·rw [if_neg h16, if_neg h16]
   have hw : wrL s.lines o.ser = A ++ ⟨o.ser, []⟩ :: B := by
    rw [wrL, if_neg (by rw [hh]; simp), h2, h1]; simp
   rw [hw, h2, gd_app0, set_mid, rput_eq (l := []) (by decide), putS_nil hs]
   simp only [h1, setS_no h3 hB, mayL]
   refine ⟨rfl, ?_⟩
   have hln := h.ln
   have hu := h.up
   have hl := h.ll
   rw [h1] at hln hl
   unfold upLn at hu
   rw [h1, List.pairwise_append] at hu
   refine ⟨?_, h.dl, h.f0, h.f1, fun x hx => ?_, ?_, h.dn, h.ud⟩
   ·rw [h1] at h16
    simp at h16 hl ⊢
    omega
   ·rcases List.mem_append.1 hx with hx | hx
    ·exact hln x (List.mem_append_left _ hx)
    ·rcases List.mem_cons.1 hx with rfl | hx
     ·refine ⟨hser, by simp, by rw [smsOk_one]; exact hs, fun z hz => ?_⟩
      rw [List.mem_singleton] at hz
      subst hz
      show s.floor ≤ _
      omega
     ·exact hln x (List.mem_append_right _ hx)
   ·unfold upLn
    rw [List.pairwise_append, List.pairwise_cons]
    refine ⟨hu.1, ⟨hB, hu.2.1⟩, fun a ha b hb => ?_⟩
    rcases List.mem_cons.1 hb with rfl | hb
    ·exact h3 a ha
    ·exact hu.2.2 a ha b hb
theorem mayL_flt (x : Lin) (a : Int) : ([x].map (trimF a)).filter (fun x => !bareL x) = mayL x.ser (trimS x.smps a) := by
 simp only [List.map_cons, List.map_nil, List.filter_cons, List.filter_nil, bareL, trimF, mayL]
 by_cases h0 : (trimS x.smps a).length = 0
 ·rw [decide_eq_true h0, if_pos h0]; rfl
 ·rw [decide_eq_false h0, if_neg h0]; rfl
theorem trA_eq {s : Shf} (h : shP s) (a : Int) : ∀ k, k ≤ s.lines.length → trA s a k = trimL (s.lines.take k) a ++ s.lines.drop k
 | 0, _ => by simp [trA, trimL]
 | k + 1, hk => by
  have hkl : k < s.lines.length := hk
  have hu := h.up
  unfold upLn at hu
  have hR := List.pairwise_iff_getElem.1 hu
  rw [trA, trA_eq h a k (by omega), List.drop_eq_getElem_cons hkl, gd_get hkl]
  have hok := (h.ln _ (List.getElem_mem hkl)).ok
  have hA : ∀ z ∈ trimL (s.lines.take k) a, sLt z.ser s.lines[k].ser = true := by
   intro z hz
   obtain ⟨w, hw, rfl⟩ := List.mem_map.1 (List.mem_filter.1 hz).1
   obtain ⟨i, hi, rfl⟩ := List.mem_iff_getElem.1 hw
   rw [List.length_take] at hi
   rw [List.getElem_take]
   exact hR i k (by omega) hkl (by omega)
  have hB : ∀ z ∈ s.lines.drop (k + 1), sLt s.lines[k].ser z.ser = true := by
   intro z hz
   obtain ⟨i, hi, rfl⟩ := List.mem_iff_getElem.1 hz
   rw [List.length_drop] at hi
   rw [List.getElem_drop]
   exact hR k (k + 1 + i) hkl (by omega) (by omega)
  have e := setS_hit (y := s.lines[k].smps) hA hB (rtrimS s.lines[k].smps a)
  have e2 : (⟨s.lines[k].ser, s.lines[k].smps⟩ : Lin) = s.lines[k] := rfl
  rw [e2] at e
  rw [e, rtrim_eq hok, ← List.append_assoc]
  congr 1
  unfold trimL
  rw [List.take_succ_eq_append_getElem hkl, List.map_append, List.filter_append]
  congr 1
  exact (mayL_flt _ a).symm
theorem trim_ok {s : Shf} (h : shP s) {a : Int} (h1 : s.floor ≤ a) (h2 : a ≤ 1099511627776) : shP ⟨trimL s.lines a, s.dones, a⟩ := by
 have hf := h.f0
 refine ⟨Nat.le_trans (List.length_filter_le ..) (by rw [List.length_map]; exact h.ll), h.dl, (show 0 ≤ a by omega), h2, fun x hx => ?_, ?_, h.dn, h.ud⟩
 ·obtain ⟨hx1, hx2⟩ := List.mem_filter.1 hx
  obtain ⟨w, hw, rfl⟩ := List.mem_map.1 hx1
  have hl := h.ln w hw
  have hr := rtrim_eq hl.ok a
  refine ⟨hl.ser, by simpa [bareL] using hx2, ?_, fun y hy => ?_⟩
  ·show smsOk (trimS w.smps a) = true
   rw [← hr]
   exact rtrim_ok hl.ok a
  ·have hy : y ∈ trimS w.smps a := hy
   rw [← hr] at hy
   simpa using (List.mem_filter.1 hy).2
 ·unfold upLn trimL
  refine List.Pairwise.filter _ ?_
  rw [List.pairwise_map]
  exact h.up
theorem op_serT {o : Opn} (h : opOk o = true) (h2 : o.kind ≠ 2) : serT o.ser = true := by
 unfold opOk at h
 rw [if_neg h2] at h
 split at h
 ·simp only [Bool.and_eq_true] at h; exact h.1.1.1.1
 split at h
 ·simp only [Bool.and_eq_true] at h; exact h.1.1.1
 split at h
 ·simp only [Bool.and_eq_true] at h; exact h.1.1.1
 ·cases h
theorem doOp_eq {s : Shf} (h : shP s) (o : Opn) : rApS s o = doOp s o ∧ shP (doOp s o).1 := by
 unfold rApS doOp
 by_cases ho : opOk o = false
 ·rw [if_pos ho, if_pos ho]
  exact ⟨rfl, h⟩
 rw [if_neg ho, if_neg ho]
 have ho : opOk o = true := by simpa using ho
 by_cases k1 : o.kind = 1
 ·rw [if_pos k1]
  have hs : smOk o.smp = true := by
   unfold opOk at ho
   rw [if_pos k1] at ho
   simp only [Bool.and_eq_true] at ho
   exact ho.1.1.1.2
  exact write_eq h o k1 (op_serT ho (by rw [k1]; decide)) hs
 rw [if_neg k1]
 by_cases k2 : o.kind = 2
 ·rw [if_pos k2]
  have hf : 0 ≤ o.frm ∧ o.frm ≤ 1099511627776 := by
   unfold opOk at ho
   rw [if_neg k1, if_pos k2] at ho
   simp only [Bool.and_eq_true, decide_eq_true_eq] at ho
   exact ⟨ho.1.1.1.2, ho.1.1.2⟩
  unfold ropS trimSh
  rw [if_neg k1, if_pos k2]
  by_cases hl : o.frm < s.floor
  ·rw [if_pos hl, if_pos hl]
   exact ⟨rfl, h⟩
  ·rw [if_neg hl, if_neg hl, trA_eq h o.frm _ (Nat.le_refl _)]
   simp only [List.take_length, List.drop_length, List.append_nil]
   exact ⟨trivial, trim_ok h (by omega) hf.2⟩
 rw [if_neg k2]
 have hhas : smsOk (hasL s o.ser) = true := by
  unfold hasL
  split
  ·rename_i hh
   rw [gd_get (hitL_lt hh)]
   exact (h.ln _ (List.getElem_mem _)).ok
  ·decide
 unfold ropS lookS
 rw [if_neg k1, if_neg k2, rline_eq h.up, rget_eq hhas, rrange_eq hhas]
 refine ⟨?_, h⟩
 split <;> rfl
end Go.Proofs.YtpdcpdngckpgbaaGreat.A
end
section
namespace Go.Proofs.YtpdcpdngckpgbaaGreat.A
open Go Go.Proofs.YtpdcpdngckpgbaaGreatAbs
theorem dn_split {l : List Dn} (hs : upD l) (c : Int) : ∃ A B, l = A ++ B ∧ atD l c = A.length ∧ (∀ x ∈ A, x.client < c) ∧
  ((hitD l c = true ∧ ∃ y B', B = y :: B' ∧ y.client = c ∧ ∀ x ∈ B', c < x.client) ∨ (hitD l c = false ∧ ∀ x ∈ B, c < x.client)) := by
 obtain ⟨A, B, h1, h2, h3, h4, h5⟩ := bs_split hs (fun x => decide (cmpI x.client c < 0)) (fun x => decide (x.client = c)) (fun x y h hy => by
   rw [decide_eq_true_eq, cmpI_lt] at *; omega) (fun x y h hx => by
   rw [decide_eq_false_iff_not, cmpI_lt] at hx; rw [decide_eq_false_iff_not]; omega)
 have h2 : atD l c = A.length := h2
 refine ⟨A, B, h1, h2, fun x hx => by have := h3 x hx; rwa [decide_eq_true_eq, cmpI_lt] at this, ?_⟩
 have hB : ∀ x ∈ B, c ≤ x.client := fun x hx => by have := h4 x hx; rw [decide_eq_false_iff_not, cmpI_lt] at this; omega
 cases B with
 | nil =>
  right
  refine ⟨?_, fun x hx => by cases hx⟩
  rw [hitD, h2, h1]; simp
 | cons y B' =>
  have hy : l.getD A.length default = y := by rw [h1, gd_app0]
  have hlen : A.length < l.length := by rw [h1]; simp
  have hT : ∀ x ∈ B', x.client ≠ c := fun x hx => by have := h5 x hx; rwa [decide_eq_false_iff_not] at this
  have hhit : hitD l c = decide (y.client = c) := by rw [hitD, h2, hy, cmpI_eq, decide_eq_true hlen, Bool.true_and]
  by_cases e : y.client = c
  ·left
   exact ⟨by rw [hhit, decide_eq_true e], y, B', rfl, e, fun x hx => by have := hB x (List.mem_cons_of_mem _ hx); have := hT x hx; omega⟩
  ·right
   refine ⟨by rw [hhit, decide_eq_false e], fun x hx => ?_⟩
   rcases List.mem_cons.1 hx with rfl | hx
   ·have := hB x (List.mem_cons_self ..); omega
   ·have := hB x (List.mem_cons_of_mem _ hx); have := hT x hx; omega
def sel (f : Nat → Bool) (l : List Dn) (i j : Nat) : List Dn := ((List.range' i (j - i)).filter f).map fun k => l.getD k default
theorem sel_succ (f : Nat → Bool) (l : List Dn) {i k : Nat} (h : i ≤ k) : sel f l i (k + 1) = sel f l i k ++ if f k = true then [l.getD k default] else [] := by
 unfold sel
 rw [show k + 1 - i = (k - i) + 1 by omega, List.range'_1_concat, List.filter_append, List.map_append, show i + (k - i) = k by omega]
 congr 1
 by_cases hf : f k = true <;> simp [hf]
theorem sel_nil (f : Nat → Bool) (l : List Dn) (i : Nat) : sel f l i i = [] := by simp [sel]
theorem sel_split (f : Nat → Bool) (l : List Dn) {i m j : Nat} (h1 : i ≤ m) (h2 : m ≤ j) : sel f l i j = sel f l i m ++ sel f l m j := by
 obtain ⟨d, rfl⟩ : ∃ d, j = m + d := ⟨j - m, by omega⟩
 clear h2
 induction d with
 | zero => rw [Nat.add_zero, sel_nil, List.append_nil]
 | succ d ih => rw [← Nat.add_assoc, sel_succ f l (by omega), sel_succ f l (by omega), ih, List.append_assoc]
theorem sel_all {f : Nat → Bool} {l : List Dn} {i j : Nat} (hj : j ≤ l.length) (h : ∀ k, i ≤ k → k < j → f k = true) : sel f l i j = (l.take j).drop i := by
 unfold sel
 rw [List.filter_eq_self.2 (fun k hk => by
  rw [List.mem_range'_1] at hk
  exact h k hk.1 (by omega))]
 refine List.ext_getElem (by simp; omega) fun k h1 h2 => ?_
 simp at h1
 rw [List.getElem_map, List.getElem_range', List.getElem_drop, List.getElem_take, gd_get (by omega)]
 simp
theorem sel_skip {f : Nat → Bool} {l : List Dn} {i m j : Nat} (hj : j ≤ l.length) (him : i ≤ m) (hmj : m < j) (h : ∀ k, i ≤ k → k < j → f k = decide (k ≠ m)) : sel f l i j = (l.take m).drop i ++ (l.take j).drop (m + 1) := by
 rw [sel_split f l him (by omega), sel_split f l (Nat.le_succ m) hmj, sel_all (by omega) (fun k h1 h2 => by rw [h k h1 (by omega)]; simp; omega), sel_all hj (fun k h1 h2 => by rw [h k (by omega) h2]; simp; omega), sel_succ f l (Nat.le_refl m), sel_nil, h m him hmj]
 simp
def ntC (l : List Dn) (d : Dn) (had : Bool) (least : Int) (i : Nat) : Bool := (l.getD i default).client != d.client && (had || decide ((l.length : Int) < 8) || ((i : Int) != least))
def ntQ (l : List Dn) (d : Dn) (p : List Dn × Bool) (i : Nat) : List Dn × Bool := if (!p.2 && decide (d.client ≤ (l.getD i default).client)) = true then (p.1 ++ [d], true) else p
theorem ntA_succ (l : List Dn) (d : Dn) (had : Bool) (least : Int) (i : Nat) : ntA l d had least (i + 1) = if ntC l d had least i = true then ((ntQ l d (ntA l d had least i) i).1 ++ [l.getD i default], (ntQ l d (ntA l d had least i) i).2) else ntQ l d (ntA l d had least i) i := rfl
theorem ntA_eq {A B : List Dn} {d : Dn} (hA : ∀ x ∈ A, x.client < d.client) (hB : ∀ x ∈ B, d.client ≤ x.client) (had : Bool) (least : Int) : ∀ k, k ≤ (A ++ B).length →
  ntA (A ++ B) d had least k = if k ≤ A.length then (sel (ntC (A ++ B) d had least) (A ++ B) 0 k, false) else (sel (ntC (A ++ B) d had least) (A ++ B) 0 A.length ++ d :: sel (ntC (A ++ B) d had least) (A ++ B) A.length k, true)
 | 0, _ => by simp [ntA, sel_nil]
 | k + 1, hk => by
  have ih := ntA_eq hA hB had least k (by omega)
  rw [ntA_succ, ih]
  unfold ntQ
  generalize ntC (A ++ B) d had least = f
  by_cases h1 : k < A.length
  ·have h2 : ¬ d.client ≤ ((A ++ B).getD k default).client := by
    rw [gd_appL _ _ h1, gd_get h1]
    have := hA _ (List.getElem_mem h1)
    omega
   rw [if_pos (show k ≤ A.length by omega), if_pos (show k + 1 ≤ A.length by omega), sel_succ f _ (Nat.zero_le k)]
   simp only [h2, decide_false, Bool.and_false, Bool.false_eq_true, if_false]
   by_cases hfk : f k = true <;> simp [hfk]
  ·have hkB : k - A.length < B.length := by rw [List.length_append] at hk; omega
   have h2 : d.client ≤ ((A ++ B).getD k default).client := by
    rw [show k = A.length + (k - A.length) by omega, gd_app, gd_get hkB]
    exact hB _ (List.getElem_mem hkB)
   rw [if_neg (show ¬ k + 1 ≤ A.length by omega), sel_succ f _ (show A.length ≤ k by omega)]
   by_cases h3 : k = A.length
   ·rw [if_pos (show k ≤ A.length by omega)]
    simp only [h2, decide_true, Bool.and_true, Bool.not_false, if_true]
    subst h3
    rw [sel_nil]
    by_cases hfk : f A.length = true <;> simp [hfk]
   ·rw [if_neg (show ¬ k ≤ A.length by omega)]
    simp only [Bool.not_true, Bool.false_and, Bool.false_eq_true, if_false]
    by_cases hfk : f k = true <;> simp [hfk]
theorem noteS_eq {A B : List Dn} {d : Dn} (hA : ∀ x ∈ A, x.client < d.client) (hB : ∀ x ∈ B, d.client ≤ x.client) :
  noteS (A ++ B) d = sel (ntC (A ++ B) d (hadN (A ++ B) d.client (A ++ B).length) (leN (A ++ B) (A ++ B).length)) (A ++ B) 0 A.length ++ d :: sel (ntC (A ++ B) d (hadN (A ++ B) d.client (A ++ B).length) (leN (A ++ B) (A ++ B).length)) (A ++ B) A.length (A ++ B).length := by
 unfold noteS
 rw [ntA_eq hA hB _ _ _ (Nat.le_refl _)]
 generalize ntC (A ++ B) d _ _ = f
 by_cases h : (A ++ B).length ≤ A.length
 ·have e : (A ++ B).length = A.length := by rw [List.length_append] at h ⊢; omega
  rw [if_pos h, e, sel_nil]
  simp
 ·rw [if_neg h]
  simp
theorem hadN_iff (l : List Dn) (c : Int) : ∀ k, k ≤ l.length → (hadN l c k = true ↔ ∃ i, i < k ∧ (l.getD i default).client = c)
 | 0, _ => by simp [hadN]
 | k + 1, hk => by
  rw [hadN, Bool.or_eq_true, hadN_iff l c k (by omega), beq_iff_eq]
  constructor
  ·rintro (⟨i, h1, h2⟩ | h)
   ·exact ⟨i, by omega, h2⟩
   ·exact ⟨k, by omega, h⟩
  ·rintro ⟨i, h1, h2⟩
   by_cases e : i = k
   ·subst e; exact .inr h2
   ·exact .inl ⟨i, by omega, h2⟩
theorem leN_nn (l : List Dn) : ∀ k, 0 < k → 0 ≤ leN l k
 | 0, h => absurd h (Nat.lt_irrefl _)
 | k + 1, _ => by
  rw [leN]
  split
  ·omega
  ·rename_i h
   have : ¬ leN l k < 0 := fun h' => h (.inl h')
   omega
theorem evN_nn {l : List Dn} {c : Int} : ∀ k, (∃ i, i < k ∧ (l.getD i default).client ≠ c) → 0 ≤ evN l c k
 | 0, ⟨i, h, _⟩ => absurd h (Nat.not_lt_zero _)
 | k + 1, ⟨i, h, hc⟩ => by
  rw [evN]
  split
  ·omega
  ·rename_i hn
   by_cases e : i = k
   ·subst e
    have : ¬ evN l c i < 0 := fun h' => hn ⟨hc, .inl h'⟩
    omega
   ·exact evN_nn k ⟨i, by omega, hc⟩
theorem ev_le {A B : List Dn} {d : Dn} (hA : ∀ x ∈ A, x.client < d.client) : ∀ k, k ≤ A.length → evN (A ++ d :: B) d.client k = leN (A ++ B) k
 | 0, _ => rfl
 | k + 1, hk => by
  have hk' : k < A.length := hk
  have hl := leN_lt (A ++ B) k
  have hc := hA _ (List.getElem_mem hk')
  rw [evN, leN, ev_le hA k (by omega), gd_appL _ _ hk', gd_appL _ _ hk', gd_get hk']
  have hne : A[k].client ≠ d.client := by omega
  simp only [hne, ne_eq, not_false_eq_true, true_and]
  by_cases h0 : leN (A ++ B) k < 0
  ·simp [h0]
  ·rw [gd_appL A (d :: B) (show (leN (A ++ B) k).toNat < A.length by omega), gd_appL A B (show (leN (A ++ B) k).toNat < A.length by omega)]
theorem ev_at {A B : List Dn} {d : Dn} (hA : ∀ x ∈ A, x.client < d.client) : evN (A ++ d :: B) d.client (A.length + 1) = leN (A ++ B) A.length := by
 rw [evN, ev_le hA _ (Nat.le_refl _), gd_app0, if_neg (by simp)]
def shI (a : Nat) (m : Int) : Int := if m < (a : Int) then m else m + 1
theorem shI_get (A B : List Dn) (d : Dn) {m : Int} (h : 0 ≤ m) : (A ++ d :: B).getD (shI A.length m).toNat default = (A ++ B).getD m.toNat default := by
 unfold shI
 split
 ·rw [gd_appL A (d :: B) (by omega), gd_appL A B (by omega)]
 ·rw [show (m + 1).toNat = A.length + (m.toNat - A.length + 1) by omega, gd_app, show m.toNat = A.length + (m.toNat - A.length) by omega, gd_app]
  simp [List.getD_eq_getElem?_getD]
theorem ev_gt {A B : List Dn} {d : Dn} (hA : ∀ x ∈ A, x.client < d.client) (hB : ∀ x ∈ B, d.client < x.client) : ∀ j, j ≤ B.length → evN (A ++ d :: B) d.client (A.length + j + 1) = shI A.length (leN (A ++ B) (A.length + j))
 | 0, _ => by
  simp only [Nat.add_zero]
  rw [ev_at hA, shI, if_pos (leN_lt _ _).2]
 | j + 1, hj => by
  have hj' : j < B.length := hj
  have hc := hB _ (List.getElem_mem hj')
  have hl := leN_lt (A ++ B) (A.length + j)
  have e1 : (A ++ d :: B).getD (A.length + j + 1) default = B[j] := by
   rw [Nat.add_assoc, gd_app, show (d :: B).getD (j + 1) default = B.getD j default by simp [List.getD_eq_getElem?_getD], gd_get hj']
  have e2 : (A ++ B).getD (A.length + j) default = B[j] := by rw [gd_app, gd_get hj']
  rw [show A.length + (j + 1) + 1 = A.length + j + 1 + 1 by omega, evN, ev_gt hA hB j (by omega), e1, show A.length + (j + 1) = A.length + j + 1 by omega, leN, e2]
  have hne : B[j].client ≠ d.client := by omega
  simp only [hne, ne_eq, not_false_eq_true, true_and]
  by_cases h0 : leN (A ++ B) (A.length + j) < 0
  ·have : shI A.length (leN (A ++ B) (A.length + j)) < 0 := by unfold shI; split <;> omega
   rw [if_pos (.inl this), if_pos (.inl h0), shI, if_neg (by omega)]
   omega
  ·have : ¬ shI A.length (leN (A ++ B) (A.length + j)) < 0 := by unfold shI; split <;> omega
   rw [shI_get A B d (by omega)]
   by_cases h3 : B[j].id < ((A ++ B).getD (leN (A ++ B) (A.length + j)).toNat default).id
   ·rw [if_pos (.inr h3), if_pos (.inr h3), shI, if_neg (by omega)]
    omega
   ·rw [if_neg (by rintro (h | h) <;> contradiction), if_neg (by rintro (h | h) <;> contradiction)]
theorem note_eq {l : List Dn} (hu : upD l) (h8 : l.length ≤ 8) (d : Dn) : noteS l d = doneS l d := by
 obtain ⟨A, B, h1, h2, h3, h4⟩ := dn_split hu d.client
 subst h1
 unfold doneS insD
 rw [h2]
 rcases h4 with ⟨hh, y, B', rfl, hy, hB⟩ | ⟨hh, hB⟩
 ·have hle : ∀ x ∈ y :: B', d.client ≤ x.client := fun x hx => by
   rcases List.mem_cons.1 hx with rfl | hx
   ·omega
   ·have := hB x hx; omega
  have hhad : hadN (A ++ y :: B') d.client (A ++ y :: B').length = true := (hadN_iff _ _ _ (Nat.le_refl _)).2 ⟨A.length, by simp, by rw [gd_app0]; exact hy⟩
  rw [noteS_eq h3 hle, hhad, if_pos hh, set_mid]
  have hf : ∀ k, ntC (A ++ y :: B') d true (leN (A ++ y :: B') (A ++ y :: B').length) k = (((A ++ y :: B').getD k default).client != d.client) := fun k => by simp [ntC]
  have hlen : (A ++ y :: B').length = A.length + 1 + B'.length := by simp; omega
  rw [sel_all (by omega) (fun k _ hk => by
   rw [hf, gd_appL _ _ hk, gd_get hk]
   have := h3 _ (List.getElem_mem hk)
   simp; omega), sel_split _ _ (Nat.le_succ A.length) (by omega), sel_succ _ _ (Nat.le_refl _), sel_nil, hf, gd_app0, sel_all (Nat.le_refl _) (fun k hk1 hk2 => by
   have hkB : k - (A.length + 1) < B'.length := by omega
   rw [hf, show k = A.length + (k - (A.length + 1) + 1) by omega, gd_app, show (y :: B').getD (k - (A.length + 1) + 1) default = B'.getD (k - (A.length + 1)) default by simp [List.getD_eq_getElem?_getD], gd_get hkB]
   have := hB _ (List.getElem_mem hkB)
   simp; omega), List.take_length]
  simp [hy]
 ·have hle : ∀ x ∈ B, d.client ≤ x.client := fun x hx => by have := hB x hx; omega
  have hne : ∀ k, k < (A ++ B).length → ((A ++ B).getD k default).client ≠ d.client := fun k hk => by
   rw [gd_get hk]
   rcases List.mem_append.1 (List.getElem_mem hk) with hx | hx
   ·have := h3 _ hx; omega
   ·have := hB _ hx; omega
  have hhad : hadN (A ++ B) d.client (A ++ B).length = false := by
   rw [← Bool.not_eq_true, hadN_iff _ _ _ (Nat.le_refl _)]
   rintro ⟨i, h5, h6⟩
   exact hne i h5 h6
  have e1 : (A ++ B).take A.length = A := by simp
  have e2 : (A ++ B).drop A.length = B := by simp
  rw [noteS_eq h3 hle, hhad, if_neg (by rw [hh]; simp), e1, e2]
  have hf : ∀ k, k < (A ++ B).length → ntC (A ++ B) d false (leN (A ++ B) (A ++ B).length) k = (decide (((A ++ B).length : Int) < 8) || ((k : Int) != leN (A ++ B) (A ++ B).length)) := fun k hk => by
   rw [ntC, bne_iff_ne.2 (hne k hk), Bool.true_and, Bool.false_or]
  have hlen : (A ++ B).length = A.length + B.length := by simp
  have hlen2 : (A ++ d :: B).length = A.length + B.length + 1 := by simp; omega
  by_cases h7 : (A ++ B).length < 8
  ·rw [if_pos (by omega)]
   have hf1 : ∀ k, k < (A ++ B).length → ntC (A ++ B) d false (leN (A ++ B) (A ++ B).length) k = true := fun k hk => by
    rw [hf k hk, decide_eq_true (by omega), Bool.true_or]
   rw [sel_all (by omega) (fun k _ hk => hf1 k (by omega)), sel_all (Nat.le_refl _) (fun k _ hk => hf1 k hk), List.take_length]
   simp
  ·rw [if_neg (by omega)]
   have hl := leN_lt (A ++ B) (A ++ B).length
   have hn := leN_nn (A ++ B) (A ++ B).length (by omega)
   have hev := ev_gt h3 hB B.length (Nat.le_refl _)
   rw [← hlen] at hev
   have hE : evN (A ++ d :: B) d.client (A ++ d :: B).length = shI A.length (leN (A ++ B) (A ++ B).length) := by rw [hlen2, ← hev, hlen]
   rw [hE]
   obtain ⟨m, hm⟩ : ∃ m : Nat, leN (A ++ B) (A ++ B).length = (m : Int) := ⟨(leN (A ++ B) (A ++ B).length).toNat, by omega⟩
   rw [hm] at hf hl ⊢
   have hf2 : ∀ k, k < (A ++ B).length → ntC (A ++ B) d false (m : Int) k = decide (k ≠ m) := fun k hk => by
    rw [hf k hk, decide_eq_false (by omega), Bool.false_or, Bool.eq_iff_iff]
    simp
    omega
   unfold shI
   by_cases hma : m < A.length
   ·rw [if_pos (by omega), sel_skip (m := m) (by omega) (Nat.zero_le _) hma (fun k _ hk => hf2 k (by omega)), sel_all (Nat.le_refl _) (fun k hk1 hk2 => by rw [hf2 k hk2]; simp; omega), List.take_length]
    rw [Int.toNat_natCast, List.take_append_of_le_length (show m ≤ A.length by omega), List.take_append_of_le_length (show m ≤ A.length by omega), List.drop_append_of_le_length (show m + 1 ≤ A.length by omega)]
    simp
   ·rw [if_neg (by omega), sel_all (by omega) (fun k _ hk => by rw [hf2 k (by omega), decide_eq_true_eq]; omega), sel_skip (m := m) (Nat.le_refl _) (by omega) (by omega) (fun k _ hk => hf2 k hk)]
    rw [show ((m : Int) + 1).toNat = A.length + (m - A.length + 1) by omega, show m + 1 = A.length + (m - A.length + 1) by omega, show A.length + (m - A.length + 1) + 1 = A.length + (m - A.length + 2) by omega]
    have e5 : (A ++ B).take m = A ++ B.take (m - A.length) := by rw [List.take_append, List.take_of_length_le (show A.length ≤ m by omega)]
    rw [e5, List.take_length]
    simp only [List.take_length_add_append, List.drop_length_add_append, List.take_succ_cons, List.drop_succ_cons]
    simp
theorem done_ok {l : List Dn} (hu : upD l) (h8 : l.length ≤ 8) (hd : ∀ x ∈ l, dnOk x) {d : Dn} (hdd : dnOk d) : upD (doneS l d) ∧ (doneS l d).length ≤ 8 ∧ ∀ x ∈ doneS l d, dnOk x ∧ (x = d ∨ x ∈ l) := by
 obtain ⟨A, B, h1, h2, h3, h4⟩ := dn_split hu d.client
 subst h1
 unfold doneS insD
 have e1 : (A ++ B).take A.length = A := by simp
 have e2 : (A ++ B).drop A.length = B := by simp
 have hu' := hu
 unfold upD at hu'
 rw [List.pairwise_append] at hu'
 rw [h2, e1, e2]
 rcases h4 with ⟨hh, y, B', rfl, hy, hB⟩ | ⟨hh, hB⟩
 ·rw [if_pos hh, set_mid]
  have hB2 := List.pairwise_cons.1 hu'.2.1
  refine ⟨?_, by simpa using h8, fun x hx => ?_⟩
  ·unfold upD
   rw [List.pairwise_append, List.pairwise_cons]
   refine ⟨hu'.1, ⟨hB, hB2.2⟩, fun a ha b hb => ?_⟩
   rcases List.mem_cons.1 hb with rfl | hb
   ·exact h3 a ha
   ·exact hu'.2.2 a ha b (List.mem_cons_of_mem _ hb)
  ·rcases List.mem_append.1 hx with hx | hx
   ·have := List.mem_append_left (y :: B') hx
    exact ⟨hd x this, .inr this⟩
   ·rcases List.mem_cons.1 hx with rfl | hx
    ·exact ⟨hdd, .inl rfl⟩
    ·have := List.mem_append_right A (List.mem_cons_of_mem y hx)
     exact ⟨hd x this, .inr this⟩
 ·rw [if_neg (by rw [hh]; simp)]
  have hins : upD (A ++ d :: B) := by
   unfold upD
   rw [List.pairwise_append, List.pairwise_cons]
   refine ⟨hu'.1, ⟨hB, hu'.2.1⟩, fun a ha b hb => ?_⟩
   rcases List.mem_cons.1 hb with rfl | hb
   ·exact h3 a ha
   ·exact hu'.2.2 a ha b hb
  have hmem : ∀ x ∈ A ++ d :: B, dnOk x ∧ (x = d ∨ x ∈ A ++ B) := fun x hx => by
   rcases List.mem_append.1 hx with hx | hx
   ·have := List.mem_append_left B hx
    exact ⟨hd x this, .inr this⟩
   ·rcases List.mem_cons.1 hx with rfl | hx
    ·exact ⟨hdd, .inl rfl⟩
    ·have := List.mem_append_right A hx
     exact ⟨hd x this, .inr this⟩
  have hlen2 : (A ++ d :: B).length = (A ++ B).length + 1 := by simp; omega
  by_cases h9 : (A ++ d :: B).length ≤ 8
  ·rw [if_pos h9]
   exact ⟨hins, h9, hmem⟩
  ·rw [if_neg h9]
   have hlt := evN_lt (A ++ d :: B) d.client (A ++ d :: B).length
   have hnn := evN_nn (l := A ++ d :: B) (c := d.client) (A ++ d :: B).length (by
    by_cases hA0 : A = []
    ·subst hA0
     have hB0 : 0 < B.length := by simp at h9; omega
     refine ⟨1, by simp; omega, ?_⟩
     rw [List.nil_append, show (d :: B).getD 1 default = B.getD 0 default by simp [List.getD_eq_getElem?_getD], gd_get hB0]
     have := hB _ (List.getElem_mem hB0)
     omega
    ·have hA1 : 0 < A.length := List.length_pos_iff.2 hA0
     refine ⟨0, by omega, ?_⟩
     rw [gd_appL _ _ hA1, gd_get hA1]
     have := h3 _ (List.getElem_mem hA1)
     omega)
   generalize evN (A ++ d :: B) d.client (A ++ d :: B).length = e at hlt hnn
   have hsub : ((A ++ d :: B).take e.toNat ++ (A ++ d :: B).drop (e.toNat + 1)).Sublist (A ++ d :: B) := by
    rw [← List.eraseIdx_eq_take_drop_succ]
    exact List.eraseIdx_sublist ..
   refine ⟨List.Pairwise.sublist hsub hins, ?_, fun x hx => hmem x (hsub.mem hx)⟩
   rw [List.length_append, List.length_take, List.length_drop]
   omega
theorem other_mem {l : List Dn} (hu : upD l) (d : Dn) (h : 2 ≤ l.length) : ∃ i, i < (insD l d).length ∧ ((insD l d).getD i default).client ≠ d.client := by
 obtain ⟨A, B, h1, h2, h3, h4⟩ := dn_split hu d.client
 subst h1
 have e1 : (A ++ B).take A.length = A := by simp
 have e2 : (A ++ B).drop A.length = B := by simp
 rw [insD, h2, e1, e2]
 cases A with
 | cons x A =>
  refine ⟨0, by simp, ?_⟩
  have := h3 x (List.mem_cons_self ..)
  show x.client ≠ d.client
  omega
 | nil =>
  match B, h, hu with
  | y :: z :: B, _, hu =>
   have hyz : y.client < z.client := (List.pairwise_cons.1 hu).1 z (List.mem_cons_self ..)
   by_cases hy : y.client = d.client
   ·refine ⟨2, by simp, ?_⟩
    show z.client ≠ d.client
    omega
   ·exact ⟨1, by simp, hy⟩
theorem ev_ok {s : Shf} (h : shP s) (en : Ent) : evOk s en := by
 intro _ _ h8
 rw [insD_len] at h8
 exact evN_nn _ (other_mem h.ud ⟨en.client, en.id, (doOp s en.op).2⟩ (by omega))
theorem zP : shP ⟨[], [], 0⟩ where
 ll := Nat.zero_le _
 dl := Nat.zero_le _
 f0 := Int.le_refl _
 f1 := (by decide : (0 : Int) ≤ 1099511627776)
 ln := fun x hx => by cases hx
 up := List.Pairwise.nil
 dn := fun x hx => by cases hx
 ud := List.Pairwise.nil
theorem Do_eq {s : Shf} (h : shP s) (e : Ent) : rDoS s e = DoS s e ∧ shP (DoS s e).1 := by
 obtain ⟨h1, h2⟩ := doOp_eq h e.op
 unfold rDoS DoS
 rw [(shOk_iff s).2 h, h1]
 simp only [Bool.true_eq_false, false_or]
 by_cases hg : ¬ (0 ≤ e.client ∧ e.client ≤ 2147483647) ∨ ¬ (1 ≤ e.id ∧ e.id ≤ 2147483647)
 ·rw [if_pos hg, if_pos hg]
  exact ⟨rfl, zP⟩
 rw [if_neg hg, if_neg hg]
 by_cases hm : metI s.dones e.client e.id < s.dones.length
 ·rw [if_pos hm, if_pos hm]
  exact ⟨rfl, h⟩
 rw [if_neg hm, if_neg hm]
 by_cases hc : 0 < e.client
 ·rw [if_pos hc, if_pos hc, doOp_dones, note_eq h.ud h.dl]
  refine ⟨rfl, ?_⟩
  obtain ⟨k1, k2, k3⟩ := done_ok h.ud h.dl h.dn (d := ⟨e.client, e.id, (doOp s e.op).2⟩) ⟨by simp only; omega, by simp only; omega, by simp only; omega, by simp only; omega⟩
  exact ⟨h2.ll, k2, h2.f0, h2.f1, h2.ln, h2.up, fun x hx => (k3 x hx).1, k1⟩
 ·rw [if_neg hc, if_neg hc]
  exact ⟨rfl, h2⟩
def serSz (n : Nat) (s : Shf) : Prop := ∀ x ∈ s.lines, x.ser.size ≤ n
theorem doOp_sz {s : Shf} (h : shP s) {n : Nat} (hs : serSz n s) (o : Opn) (ho : o.ser.size ≤ n) : serSz n (doOp s o).1 := by
 unfold doOp
 split
 ·exact hs
 split
 ·intro x hx
  have hx : x ∈ (writeS s.lines s.floor o).1 := hx
  unfold writeS at hx
  have hw : ∀ y ∈ wrL s.lines o.ser, y.ser.size ≤ n := by
   intro y hy
   unfold wrL at hy
   split at hy
   ·exact hs y hy
   ·rcases List.mem_append.1 hy with hy | hy
    ·exact hs y (List.mem_of_mem_take hy)
    ·rcases List.mem_cons.1 hy with rfl | hy
     ·exact ho
     ·exact hs y (List.mem_of_mem_drop hy)
  split at hx
  ·exact hs x hx
  split at hx
  ·exact hs x hx
  ·obtain ⟨i, hi, rfl⟩ := List.mem_iff_getElem.1 hx
   rw [List.getElem_set]
   split
   ·show ((wrL s.lines o.ser).getD (atL s.lines o.ser) default).ser.size ≤ n
    rename_i e
    rw [List.length_set] at hi
    rw [gd_get (by omega)]
    exact hw _ (List.getElem_mem _)
   ·exact hw _ (List.getElem_mem _)
 split
 ·intro x hx
  have hx : x ∈ (trimSh s.lines s.floor o.frm).1 := hx
  unfold trimSh at hx
  split at hx
  ·exact hs x hx
  ·obtain ⟨w, hw, rfl⟩ := List.mem_map.1 (List.mem_filter.1 hx).1
   exact hs w hw
 ·exact hs
theorem Do_sz {s : Shf} (h : shP s) {n : Nat} (hs : serSz n s) (e : Ent) (ho : e.op.ser.size ≤ n) : serSz n (DoS s e).1 := by
 have hd := doOp_sz h hs e.op ho
 unfold DoS
 split
 ·intro x hx; cases hx
 split
 ·exact hs
 split
 ·exact hd
 ·exact hd
theorem shP_z {s : Shf} (h : shP s) (hs : serSz 2000 s) : zShf s := by
 refine ⟨by have := h.ll; omega, by have := h.dl; omega, fun i hi => ?_, fun i hi => ?_⟩
 ·rw [gd_get hi]
  exact hs _ (List.getElem_mem hi)
 ·rw [gd_get hi]
  have := smsOk_len (h.ln _ (List.getElem_mem hi)).ok
  omega
end Go.Proofs.YtpdcpdngckpgbaaGreat.A
end
section
set_option maxRecDepth 100000
namespace Go.Proofs.YtpdcpdngckpgbaaGreat.A
open Go Go.Proofs.YtpdcpdngckpgbaaGreatAbs

def c_windroselaw34_awake : C :=
 (.seq (.reg false [oo 0 (.mv (kb false))])
 (.seq (.reg false [oo 7 (.bld [.int .i64 0, .int .i64 0] [(0, 1, (ki 5)), (1, 1, (ki 7))]), oo 8 (.bld [.int .i64 0, .string ⟨#[]⟩, .int .i64 0, .int .i64 0, .int .i64 0, .int .i64 0, .int .i64 0] [(0, 1, (ki 1)), (1, 1, (.k (.one (.c (.v (.string ⟨#[97]⟩)))))), (2, 2, (.t 7))]), oo 9 (.bld [.int .i64 0, .bool false, .int .i64 0] [(1, 1, (kb true))]), oo 10 (.bld [.int .i64 0, .int .i64 0, .int .i64 0, .int .i64 0, .string ⟨#[]⟩, .int .i64 0, .int .i64 0, .int .i64 0, .int .i64 0, .int .i64 0, .int .i64 0, .int .i64 0, .int .i64 0, .bool false, .int .i64 0] [(0, 1, (ki 1)), (1, 1, (ki 1)), (3, 7, (.t 8)), (10, 1, (ki 1)), (11, 1, (ki 2)), (12, 3, (.t 9))]), oo 1 (.alloc 69 15 [.int .i64 0, .int .i64 0, .int .i64 0, .int .i64 0, .string ⟨#[]⟩, .int .i64 0, .int .i64 0, .int .i64 0, .int .i64 0, .int .i64 0, .int .i64 0, .int .i64 0, .int .i64 0, .bool false, .int .i64 0]), on_ (.st 15 (.t 1) (.t 10))])
 (.seq (.reg false [oo 11 (.bld [.int .i64 0, .string ⟨#[]⟩, .int .i64 0, .int .i64 0, .int .i64 0, .int .i64 0, .int .i64 0] [(0, 1, (ki 4)), (1, 1, (.k (.one (.c (.v (.string ⟨#[97]⟩)))))), (4, 1, (ki 5))]), oo 12 (.bld [.int .i64 0, .int .i64 0, .int .i64 0, .int .i64 0, .string ⟨#[]⟩, .int .i64 0, .int .i64 0, .int .i64 0, .int .i64 0, .int .i64 0, .int .i64 0, .int .i64 0, .int .i64 0, .bool false, .int .i64 0] [(0, 1, (ki 2)), (1, 1, (ki 1)), (3, 7, (.t 11)), (10, 1, (ki 3)), (11, 1, (ki 4))]), oo 2 (.alloc 69 15 [.int .i64 0, .int .i64 0, .int .i64 0, .int .i64 0, .string ⟨#[]⟩, .int .i64 0, .int .i64 0, .int .i64 0, .int .i64 0, .int .i64 0, .int .i64 0, .int .i64 0, .int .i64 0, .bool false, .int .i64 0]), on_ (.st 15 (.t 2) (.t 12))])
 (.seq (.reg false [oo 14 (.ld true 15 (.t 1)), oo 15 (.ld true 15 (.t 2)), oo 16 (.bsl 69 15 2 [.int .i64 0, .int .i64 0, .int .i64 0, .int .i64 0, .string ⟨#[]⟩, .int .i64 0, .int .i64 0, .int .i64 0, .int .i64 0, .int .i64 0, .int .i64 0, .int .i64 0, .int .i64 0, .bool false, .int .i64 0] [(0, (.t 14)), (1, (.t 15))]), oo 17 (.call (kf 30) [(.t 16), (ki 0)]), om 13 17, oo 18 (.ex (.t 13) 0), oo 19 (.ex (.t 13) 1), om 3 18, om 4 19])
 (.seq (.reg false [oo 20 (.bld [.int .i64 0, .bool false, .int .i64 0] [(1, 1, (kb true)), (2, 1, (ki 7))]), oo 21 (.fa 12 (.t 2)), on_ (.st 3 (.t 21) (.t 20))])
 (.seq (.reg false [oo 23 (.ld true 15 (.t 1)), oo 24 (.ld true 15 (.t 2)), oo 25 (.bsl 69 15 2 [.int .i64 0, .int .i64 0, .int .i64 0, .int .i64 0, .string ⟨#[]⟩, .int .i64 0, .int .i64 0, .int .i64 0, .int .i64 0, .int .i64 0, .int .i64 0, .int .i64 0, .int .i64 0, .bool false, .int .i64 0] [(0, (.t 23)), (1, (.t 24))]), oo 26 (.call (kf 30) [(.t 25), (ki 0)]), om 22 26, oo 27 (.ex (.t 22) 0), oo 28 (.ex (.t 22) 1), om 5 27, om 6 28])
 (.seq (.reg false [om 29 4, oo 30 (.bin .eql (.t 29) (ki 5)), om 31 30, og 32 31 true (.mv (.t 6)), og 33 31 true (.bin .eql (.t 32) (ki 0)), oo 34 (.pick (.t 31) (.t 33) (kb false)), om 35 34, og 36 35 true (.mv (.t 5)), og 37 35 true (.bsl 3 1 2 [.int .i64 0] [(0, (ki 0)), (1, (ki 1))]), og 38 35 true (.call (kf 34) [(.t 36), (.t 37)]), oo 39 (.pick (.t 35) (.t 38) (kb false)), om 40 39, og 41 40 true (.ld true 15 (.t 1)), og 42 40 true (.ld true 15 (.t 2)), og 43 40 true (.bsl 69 15 2 [.int .i64 0, .int .i64 0, .int .i64 0, .int .i64 0, .string ⟨#[]⟩, .int .i64 0, .int .i64 0, .int .i64 0, .int .i64 0, .int .i64 0, .int .i64 0, .int .i64 0, .int .i64 0, .bool false, .int .i64 0] [(0, (.t 41)), (1, (.t 42))]), og 44 40 true (.call (kf 32) [(.t 43)]), oo 45 (.pick (.t 40) (.t 44) (kb false)), om 0 45])
 .ret)))))))
abbrev n_windroselaw34_awake : Nat := 29
theorem F_windroselaw34_awake : Fun Tryz.prog n_windroselaw34_awake 46 c_windroselaw34_awake [.t 0] := ⟨⟨Tryz.f29, _, Tryz.func29, by kernel_rfl, rfl, rfl, by kernel_rfl, by kernel_rfl⟩⟩
def c_history_Find : C :=
 (.seq (.reg false [oo 4 (.mv (.k (.one (.c (.v (.slice none 0 0)))))), oo 5 (.mv (ki 0))])
 (.seq (.seq (.reg false [om 10 0, oo 11 (.call (kf 40) [(.t 10)]), om 6 11])
 (.seq (.reg false [om 12 6, oo 13 (.bin .neq (.t 12) (ki 0))])
 (.cond (.t 13)
 (.seq (.reg false [om 14 6, oo 4 (.mv (.k (.one (.c (.v (.slice none 0 0)))))), om 5 14])
 .ret)
 .skip)))
 (.seq (.reg false [om 15 0, om 16 1, oo 17 (.call (kf 41) [(.t 15), (.t 16)]), om 7 17])
 (.seq (.seq (.reg false [om 18 7, oo 19 (.len (.t 18)), oo 20 (.bin .gtr (.t 19) (ki 14))])
 (.cond (.t 20)
 (.seq (.reg false [oo 4 (.mv (.k (.one (.c (.v (.slice none 0 0)))))), oo 5 (.mv (ki 4))])
 .ret)
 .skip))
 (.seq (.reg false [om 22 0, om 23 7, oo 24 (.bld [.slice none 0 0, .slice none 0 0, .int .i64 0] []), oo 25 (.mkm), oo 26 (.call (kf 69) [(.t 22), (.t 23), (.t 24), (.t 25)]), om 21 26, oo 27 (.ex (.t 21) 0), oo 28 (.ex (.t 21) 1), om 8 27, om 9 28])
 (.seq (.seq (.reg false [om 29 9, oo 30 (.un .not (.t 29))])
 (.cond (.t 30)
 (.seq (.reg false [oo 4 (.mv (.k (.one (.c (.v (.slice none 0 0)))))), oo 5 (.mv (ki 5))])
 .ret)
 .skip))
 (.seq (.reg false [om 31 8, om 4 31, oo 5 (.mv (ki 0))])
 .ret)))))))
abbrev n_history_Find : Nat := 30
theorem F_history_Find : Fun Tryz.prog n_history_Find 32 c_history_Find [.t 4, .t 5] := ⟨⟨Tryz.f30, _, Tryz.func30, by kernel_rfl, rfl, rfl, by kernel_rfl, by kernel_rfl⟩⟩
def c_history_Right : C :=
 (.seq (.reg false [oo 2 (.mv (kb false))])
 (.seq (.seq (.reg false [oo 6 (.mv (ki 0))])
 (.block 0 (.loop (.seq (.reg false [oo 7 (.bin .lss (.t 6) (ki 8))])
 (.seq (.cond (.t 7)
 .skip
 (.exit 0))
 (.seq (.block 1 (.seq (.reg false [om 8 6, om 3 8])
 (.seq (.reg false [om 10 0, om 11 3, oo 12 (.call (kf 30) [(.t 10), (.t 11)]), om 9 12, oo 13 (.ex (.t 9) 0), oo 14 (.ex (.t 9) 1), om 4 13, om 5 14])
 (.seq (.reg false [om 15 5, oo 16 (.bin .neq (.t 15) (ki 0))])
 (.cond (.t 16)
 (.seq (.reg false [oo 2 (.mv (kb false))])
 .ret)
 .skip)))))
 (.reg false [oo 17 (.bin .add (.t 6) (ki 1)), om 6 17])))))))
 (.seq (.reg false [oo 2 (.mv (kb true))])
 .ret)))
abbrev n_history_Right : Nat := 32
theorem F_history_Right : Fun Tryz.prog n_history_Right 18 c_history_Right [.t 2] := ⟨⟨Tryz.f32, _, Tryz.func32, by kernel_rfl, rfl, rfl, by kernel_rfl, by kernel_rfl⟩⟩
def c_history_Check : C :=
 (.seq (.reg false [oo 2 (.mv (ki 0))])
 (.seq (.seq (.reg false [om 9 0, oo 10 (.len (.t 9)), oo 11 (.mv (ki 0))])
 (.block 0 (.loop (.seq (.reg false [oo 12 (.bin .lss (.t 11) (.t 10))])
 (.seq (.cond (.t 12)
 .skip
 (.exit 0))
 (.seq (.block 1 (.seq (.reg false [om 13 11, oo 14 (.ia 15 (.t 9) (.t 11)), oo 15 (.ld true 15 (.t 14)), oo 4 (.alloc 69 15 [.int .i64 0, .int .i64 0, .int .i64 0, .int .i64 0, .string ⟨#[]⟩, .int .i64 0, .int .i64 0, .int .i64 0, .int .i64 0, .int .i64 0, .int .i64 0, .int .i64 0, .int .i64 0, .bool false, .int .i64 0]), om 3 13, on_ (.st 15 (.t 4) (.t 15))])
 (.seq (.seq (.reg false [oo 16 (.ld true 15 (.t 4)), oo 17 (.call (kf 75) [(.t 16)]), oo 18 (.un .not (.t 17))])
 (.cond (.t 18)
 (.seq (.reg false [oo 2 (.mv (ki 1))])
 .ret)
 .skip))
 (.seq (.reg false [om 19 0, om 20 3, oo 21 (.slc 15 (.t 19) none (some (.t 20))), oo 22 (.len (.t 21)), oo 23 (.mv (ki 0))])
 (.block 2 (.loop (.seq (.reg false [oo 24 (.bin .lss (.t 23) (.t 22))])
 (.seq (.cond (.t 24)
 .skip
 (.exit 2))
 (.seq (.block 3 (.seq (.reg false [oo 25 (.ia 15 (.t 21) (.t 23)), oo 26 (.ld true 15 (.t 25)), oo 6 (.alloc 69 15 [.int .i64 0, .int .i64 0, .int .i64 0, .int .i64 0, .string ⟨#[]⟩, .int .i64 0, .int .i64 0, .int .i64 0, .int .i64 0, .int .i64 0, .int .i64 0, .int .i64 0, .int .i64 0, .bool false, .int .i64 0]), on_ (.st 15 (.t 6) (.t 26))])
 (.seq (.rgx [[], [], [], [], [2, 0, 3], [3, 1, 4, 2, 0]] [oo 27 (.ld true 15 (.t 6)), oo 28 (.ld true 15 (.t 4)), oo 7 (.alloc 69 15 [.int .i64 0, .int .i64 0, .int .i64 0, .int .i64 0, .string ⟨#[]⟩, .int .i64 0, .int .i64 0, .int .i64 0, .int .i64 0, .int .i64 0, .int .i64 0, .int .i64 0, .int .i64 0, .bool false, .int .i64 0]), oo 8 (.alloc 69 15 [.int .i64 0, .int .i64 0, .int .i64 0, .int .i64 0, .string ⟨#[]⟩, .int .i64 0, .int .i64 0, .int .i64 0, .int .i64 0, .int .i64 0, .int .i64 0, .int .i64 0, .int .i64 0, .bool false, .int .i64 0]), on_ (.st 15 (.t 7) (.t 27)), on_ (.st 15 (.t 8) (.t 28))])
 (.seq (.seq (.reg false [oo 29 (.fa 1 (.t 7)), oo 30 (.ld false 1 (.t 29)), oo 31 (.fa 1 (.t 8)), oo 32 (.ld false 1 (.t 31)), oo 33 (.bin .gtr (.t 30) (.t 32))])
 (.cond (.t 33)
 (.reg false [oo 34 (.ld true 15 (.t 8)), oo 35 (.ld true 15 (.t 7)), on_ (.st 15 (.t 7) (.t 34)), on_ (.st 15 (.t 8) (.t 35))])
 .skip))
 (.seq (.reg false [oo 36 (.fa 0 (.t 7)), oo 37 (.ld false 1 (.t 36)), oo 38 (.fa 0 (.t 8)), oo 39 (.ld false 1 (.t 38)), oo 40 (.bin .eql (.t 37) (.t 39)), om 41 40, og 42 41 true (.fa 1 (.t 7)), og 43 41 true (.ld false 1 (.t 42)), og 44 41 true (.fa 1 (.t 8)), og 45 41 true (.ld false 1 (.t 44)), og 46 41 true (.bin .eql (.t 43) (.t 45)), og 47 41 true (.mv (.t 46)), og 48 47 false (.fa 10 (.t 8)), og 49 47 false (.ld false 1 (.t 48)), og 50 47 false (.fa 10 (.t 7)), og 51 47 false (.ld false 1 (.t 50)), og 52 47 false (.fa 11 (.t 7)), og 53 47 false (.ld false 1 (.t 52)), og 54 47 false (.mx (.t 51) (.t 53)), og 55 47 false (.bin .lss (.t 49) (.t 54)), og 56 41 true (.pick (.t 47) (kb true) (.t 55)), oo 57 (.pick (.t 41) (.t 56) (kb false))])
 (.cond (.t 57)
 (.seq (.reg false [oo 2 (.mv (ki 1))])
 .ret)
 .skip))))))
 (.reg false [oo 58 (.bin .add (.t 23) (ki 1)), om 23 58]))))))))))
 (.reg false [oo 59 (.bin .add (.t 11) (ki 1)), om 11 59])))))))
 (.seq (.reg false [oo 2 (.mv (ki 0))])
 .ret)))
abbrev n_history_Check : Nat := 40
theorem F_history_Check : Fun Tryz.prog n_history_Check 60 c_history_Check [.t 2] := ⟨⟨Tryz.f40, _, Tryz.func40, by kernel_rfl, rfl, rfl, by kernel_rfl, by kernel_rfl⟩⟩
def c_history_Of : C :=
 (.seq (.reg false [oo 4 (.mv (.k (.one (.c (.v (.slice none 0 0))))))])
 (.seq (.reg false [oo 5 (.mv (.k (.one (.c (.v (.slice none 0 0))))))])
 (.seq (.seq (.reg false [om 8 0, oo 9 (.len (.t 8)), oo 10 (.mv (ki 0))])
 (.block 0 (.loop (.seq (.reg false [oo 11 (.bin .lss (.t 10) (.t 9))])
 (.seq (.cond (.t 11)
 .skip
 (.exit 0))
 (.seq (.block 1 (.seq (.reg false [om 12 10, oo 13 (.ia 15 (.t 8) (.t 10)), oo 14 (.ld true 15 (.t 13)), oo 7 (.alloc 69 15 [.int .i64 0, .int .i64 0, .int .i64 0, .int .i64 0, .string ⟨#[]⟩, .int .i64 0, .int .i64 0, .int .i64 0, .int .i64 0, .int .i64 0, .int .i64 0, .int .i64 0, .int .i64 0, .bool false, .int .i64 0]), om 6 12, on_ (.st 15 (.t 7) (.t 14))])
 (.seq (.reg false [oo 15 (.fa 2 (.t 7)), oo 16 (.ld false 1 (.t 15)), om 17 1, oo 18 (.bin .eql (.t 16) (.t 17))])
 (.cond (.t 18)
 (.reg false [om 19 5, om 20 6, oo 21 (.bsl 3 1 1 [.int .i64 0] [(0, (.t 20))]), oo 22 (.app 3 1 8 [.int .i64 0] (.t 19) (.t 21)), om 5 22])
 .skip))))
 (.reg false [oo 23 (.bin .add (.t 10) (ki 1)), om 10 23])))))))
 (.seq (.reg false [om 24 5, om 4 24])
 .ret))))
abbrev n_history_Of : Nat := 41
theorem F_history_Of : Fun Tryz.prog n_history_Of 25 c_history_Of [.t 4] := ⟨⟨Tryz.f41, _, Tryz.func41, by kernel_rfl, rfl, rfl, by kernel_rfl, by kernel_rfl⟩⟩
def c_history_try : C :=
 (.seq (.reg false [oo 6 (.box 77 3 (.t 2)), oo 8 (.mv (.k (.one (.c (.v (.slice none 0 0)))))), oo 9 (.mv (kb false))])
 (.seq (.seq (.reg false [om 18 0, om 19 1, oo 20 (.call (kf 86) [(.t 18), (.t 19)])])
 (.cond (.t 20)
 (.seq (.reg false [oo 8 (.mv (.k (.one (.c (.v (.slice none 0 0)))))), oo 9 (.mv (kb true))])
 .ret)
 .skip))
 (.seq (.reg false [om 21 1, oo 22 (.ld true 3 (.t 6)), oo 23 (.call (kf 111) [(.t 21), (.t 22)]), om 10 23])
 (.seq (.seq (.reg false [om 24 3, om 25 10, oo 26 (.lku (.bool false) true false (.t 24) (.t 25))])
 (.cond (.t 26)
 (.seq (.reg false [oo 8 (.mv (.k (.one (.c (.v (.slice none 0 0)))))), oo 9 (.mv (kb false))])
 .ret)
 .skip))
 (.seq (.seq (.reg false [om 27 1, oo 28 (.len (.t 27)), oo 29 (.mv (ki 0))])
 (.block 0 (.loop (.seq (.reg false [oo 30 (.bin .lss (.t 29) (.t 28))])
 (.seq (.cond (.t 30)
 .skip
 (.exit 0))
 (.seq (.block 1 (.seq (.reg false [oo 31 (.ia 1 (.t 27) (.t 29)), oo 32 (.ld false 1 (.t 31)), om 12 32])
 (.seq (.seq (.reg false [om 33 0, om 34 1, om 35 12, oo 36 (.call (kf 83) [(.t 33), (.t 34), (.t 35)]), oo 37 (.un .not (.t 36))])
 (.cond (.t 37)
 (.exit 1)
 .skip))
 (.seq (.rgx [[], [], [], [1, 2], [3, 1, 2], [4, 3, 1, 2], [0, 5, 4, 3, 1, 2], [6, 0, 5, 4, 3, 1, 2], [7, 6, 0, 5, 4, 3, 1, 2], [7, 6, 0, 5, 4, 3, 1, 2], [7, 6, 0, 5, 4, 3, 1, 2], [], [], [11, 8, 7, 6, 0, 5, 4, 3, 1, 2, 12], [12, 9, 7, 6, 0, 5, 4, 3, 1, 2, 13, 11, 8], [10, 7, 6, 0, 5, 4, 3, 1, 2, 14, 12, 9, 13, 11, 8]] [oo 39 (.ld true 3 (.t 6)), om 40 0, om 41 12, oo 42 (.ia 15 (.t 40) (.t 41)), oo 43 (.ld true 15 (.t 42)), oo 44 (.call (kf 78) [(.t 43)]), oo 45 (.call (kf 84) [(.t 39), (.t 44)]), om 38 45, oo 46 (.ex (.t 38) 0), oo 47 (.ex (.t 38) 1), oo 48 (.ex (.t 38) 2), oo 13 (.alloc 77 3 [.slice none 0 0, .slice none 0 0, .int .i64 0]), oo 14 (.alloc 67 3 [.int .i64 0, .bool false, .int .i64 0]), on_ (.st 3 (.t 13) (.t 46)), on_ (.st 3 (.t 14) (.t 47)), om 15 48])
 (.seq (.seq (.reg true [om 49 0, om 50 12, oo 51 (.ia 15 (.t 49) (.t 50)), oo 52 (.fa 11 (.t 51)), oo 53 (.ld false 1 (.t 52)), oo 54 (.bin .gtr (.t 53) (ki 0)), om 55 54, og 56 55 true (.ld true 3 (.t 14)), og 57 55 true (.mv (.t 0)), og 58 55 true (.mv (.t 12)), og 59 55 true (.ia 15 (.t 57) (.t 58)), og 60 55 true (.fa 12 (.t 59)), og 61 55 true (.ld true 3 (.t 60)), og 62 55 true (.eqa [1, 0, 1] true (.t 56) (.t 61)), oo 63 (.pick (.t 55) (.t 62) (kb false))])
 (.cond (.t 63)
 (.exit 1)
 .skip))
 (.seq (.reg true [om 65 0, om 66 1, om 67 12, oo 68 (.call (kf 85) [(.t 66), (.t 67)]), oo 69 (.ld true 3 (.t 13)), om 70 3, oo 71 (.call (kf 69) [(.t 65), (.t 68), (.t 69), (.t 70)]), om 64 71, oo 72 (.ex (.t 64) 0), oo 73 (.ex (.t 64) 1), om 16 72, om 17 73])
 (.seq (.reg false [om 74 17])
 (.cond (.t 74)
 (.seq (.reg false [om 75 12, oo 76 (.bsl 3 1 1 [.int .i64 0] [(0, (.t 75))]), om 77 16, oo 78 (.app 3 1 8 [.int .i64 0] (.t 76) (.t 77)), om 8 78, oo 9 (.mv (kb true))])
 .ret)
 .skip))))))))
 (.reg false [oo 79 (.bin .add (.t 29) (ki 1)), om 29 79])))))))
 (.seq (.reg false [om 80 3, om 81 10, on_ (.mup true (.t 80) (.t 81) (kb true))])
 (.seq (.reg false [oo 8 (.mv (.k (.one (.c (.v (.slice none 0 0)))))), oo 9 (.mv (kb false))])
 .ret)))))))
abbrev n_history_try : Nat := 69
theorem F_history_try : Fun Tryz.prog n_history_try 82 c_history_try [.t 8, .t 9] := ⟨⟨Tryz.f69, _, Tryz.func69, by kernel_rfl, rfl, rfl, by kernel_rfl, by kernel_rfl⟩⟩
def c_history_one : C :=
 (.seq (.reg false [oo 1 (.box 69 15 (.t 0)), oo 2 (.mv (kb false))])
 (.seq (.reg false [oo 3 (.fa 0 (.t 1)), oo 4 (.ld false 1 (.t 3)), oo 5 (.call (kf 77) [(.t 4), (ki 1), (ki 2147483647)]), om 6 5, og 7 6 true (.fa 1 (.t 1)), og 8 6 true (.ld false 1 (.t 7)), og 9 6 true (.call (kf 77) [(.t 8), (ki 1), (ki 2147483647)]), oo 10 (.pick (.t 6) (.t 9) (kb false)), om 11 10, og 12 11 true (.fa 2 (.t 1)), og 13 11 true (.ld false 1 (.t 12)), og 14 11 true (.call (kf 77) [(.t 13), (ki 0), (ki 7)]), oo 15 (.pick (.t 11) (.t 14) (kb false)), om 16 15, og 17 16 true (.fa 10 (.t 1)), og 18 16 true (.ld false 1 (.t 17)), og 19 16 true (.call (kf 77) [(.t 18), (ki 1), (ki 2147483647)]), oo 20 (.pick (.t 16) (.t 19) (kb false)), om 21 20, og 22 21 true (.fa 11 (.t 1)), og 23 21 true (.ld false 1 (.t 22)), og 24 21 true (.bin .eql (.t 23) (ki 0)), og 25 21 true (.mv (.t 24)), og 26 25 false (.fa 11 (.t 1)), og 27 25 false (.ld false 1 (.t 26)), og 28 25 false (.fa 10 (.t 1)), og 29 25 false (.ld false 1 (.t 28)), og 30 25 false (.call (kf 77) [(.t 27), (.t 29), (ki 2147483647)]), og 31 21 true (.pick (.t 25) (kb true) (.t 30)), oo 32 (.pick (.t 21) (.t 31) (kb false)), om 33 32, og 34 33 true (.fa 3 (.t 1)), og 35 33 true (.ld true 7 (.t 34)), og 36 33 true (.call (kf 113) [(.t 35)]), og 37 33 true (.bin .eql (.t 36) (ki 0)), oo 38 (.pick (.t 33) (.t 37) (kb false)), om 2 38])
 .ret))
abbrev n_history_one : Nat := 75
theorem F_history_one : Fun Tryz.prog n_history_one 39 c_history_one [.t 2] := ⟨⟨Tryz.f75, _, Tryz.func75, by kernel_rfl, rfl, rfl, by kernel_rfl, by kernel_rfl⟩⟩
def c_history_in : C :=
 (.seq (.reg false [oo 6 (.mv (kb false))])
 (.seq (.reg false [om 7 0, om 8 1, oo 9 (.bin .geq (.t 7) (.t 8)), om 10 9, og 11 10 true (.mv (.t 0)), og 12 10 true (.mv (.t 2)), og 13 10 true (.bin .leq (.t 11) (.t 12)), oo 14 (.pick (.t 10) (.t 13) (kb false)), om 6 14])
 .ret))
abbrev n_history_in : Nat := 77
theorem F_history_in : Fun Tryz.prog n_history_in 15 c_history_in [.t 6] := ⟨⟨Tryz.f77, _, Tryz.func77, by kernel_rfl, rfl, rfl, by kernel_rfl, by kernel_rfl⟩⟩
def c_history_entry : C :=
 (.seq (.reg false [oo 1 (.box 69 15 (.t 0)), oo 2 (.alloc 80 10 [.int .i64 0, .int .i64 0, .int .i64 0, .int .i64 0, .string ⟨#[]⟩, .int .i64 0, .int .i64 0, .int .i64 0, .int .i64 0, .int .i64 0])])
 (.seq (.reg false [oo 3 (.fa 0 (.t 1)), oo 4 (.ld false 1 (.t 3)), oo 5 (.fa 1 (.t 1)), oo 6 (.ld false 1 (.t 5)), oo 7 (.fa 3 (.t 1)), oo 8 (.ld true 7 (.t 7)), oo 9 (.bld [.int .i64 0, .int .i64 0, .int .i64 0, .int .i64 0, .string ⟨#[]⟩, .int .i64 0, .int .i64 0, .int .i64 0, .int .i64 0, .int .i64 0] [(0, 1, (ki 1)), (1, 1, (.t 4)), (2, 1, (.t 6)), (3, 7, (.t 8))]), on_ (.st 10 (.t 2) (.t 9))])
 .ret))
abbrev n_history_entry : Nat := 78
theorem F_history_entry : Fun Tryz.prog n_history_entry 10 c_history_entry [.l true 10 2] := ⟨⟨Tryz.f78, _, Tryz.func78, by kernel_rfl, rfl, rfl, by kernel_rfl, by kernel_rfl⟩⟩
def c_history_may : C :=
 (.seq (.reg false [oo 3 (.box 54 1 (.t 0)), oo 5 (.box 3 1 (.t 2)), oo 6 (.mv (kb false))])
 (.seq (.reg false [om 7 1, oo 8 (.mkf 117 [(.t 3), (.t 5)]), oo 9 (.call (kf 116) [(.t 7), (.t 8)]), oo 10 (.un .not (.t 9)), om 6 10])
 .ret))
abbrev n_history_may : Nat := 83
theorem F_history_may : Fun Tryz.prog n_history_may 11 c_history_may [.t 6] := ⟨⟨Tryz.f83, _, Tryz.func83, by kernel_rfl, rfl, rfl, by kernel_rfl, by kernel_rfl⟩⟩
def c_history_without : C :=
 (.seq (.reg false [oo 3 (.box 3 1 (.t 1)), oo 4 (.mv (.k (.one (.c (.v (.slice none 0 0))))))])
 (.seq (.reg false [om 5 0, oo 6 (.call (kf 100) [(.t 5)]), oo 7 (.mkf 124 [(.t 3)]), oo 8 (.call (kf 123) [(.t 6), (.t 7)]), om 4 8])
 .ret))
abbrev n_history_without : Nat := 85
theorem F_history_without : Fun Tryz.prog n_history_without 9 c_history_without [.t 4] := ⟨⟨Tryz.f85, _, Tryz.func85, by kernel_rfl, rfl, rfl, by kernel_rfl, by kernel_rfl⟩⟩
def c_history_over : C :=
 (.seq (.reg false [oo 2 (.box 54 1 (.t 0)), oo 4 (.mv (kb false))])
 (.seq (.reg false [om 5 1, oo 6 (.mkf 125 [(.t 2)]), oo 7 (.call (kf 116) [(.t 5), (.t 6)]), oo 8 (.un .not (.t 7)), om 4 8])
 .ret))
abbrev n_history_over : Nat := 86
theorem F_history_over : Fun Tryz.prog n_history_over 9 c_history_over [.t 4] := ⟨⟨Tryz.f86, _, Tryz.func86, by kernel_rfl, rfl, rfl, by kernel_rfl, by kernel_rfl⟩⟩
def c_slices_Clone_int_int : C :=
 (.seq (.reg false [oo 2 (.mv (.k (.one (.c (.v (.slice none 0 0))))))])
 (.seq (.seq (.reg false [om 3 0, oo 4 (.eqb false (.t 3) (.k (.one (.c (.v (.slice none 0 0))))))])
 (.cond (.t 4)
 (.seq (.reg false [oo 2 (.mv (.k (.one (.c (.v (.slice none 0 0))))))])
 .ret)
 .skip))
 (.seq (.reg false [oo 5 (.bsl 3 1 0 [.int .i64 0] []), om 6 0, oo 7 (.app 3 1 8 [.int .i64 0] (.t 5) (.t 6)), om 2 7])
 .ret)))
abbrev n_slices_Clone_int_int : Nat := 100
theorem F_slices_Clone_int_int : Fun Tryz.prog n_slices_Clone_int_int 8 c_slices_Clone_int_int [.t 2] := ⟨⟨Tryz.f100, _, Tryz.func100, by kernel_rfl, rfl, rfl, by kernel_rfl, by kernel_rfl⟩⟩
def c_history_mark : C :=
 (.seq (.reg false [oo 3 (.box 77 3 (.t 1)), oo 4 (.mv (.k (.one (.c (.v (.string ⟨#[]⟩))))))])
 (.seq (.reg false [om 15 0, oo 16 (.len (.t 15)), oo 17 (.cvi .u8 (.t 16)), oo 18 (.bsl 5 1 1 [.int .u8 0] [(0, (.t 17))]), om 5 18])
 (.seq (.seq (.reg false [om 19 0, oo 20 (.len (.t 19)), oo 21 (.mv (ki 0))])
 (.block 0 (.loop (.seq (.reg false [oo 22 (.bin .lss (.t 21) (.t 20))])
 (.seq (.cond (.t 22)
 .skip
 (.exit 0))
 (.seq (.block 1 (.seq (.reg false [oo 23 (.ia 1 (.t 19) (.t 21)), oo 24 (.ld false 1 (.t 23)), om 7 24])
 (.reg false [om 25 5, om 26 7, oo 27 (.call (kf 150) [(.t 25), (.t 26)]), om 5 27])))
 (.reg false [oo 28 (.bin .add (.t 21) (ki 1)), om 21 28])))))))
 (.seq (.reg false [om 29 5, oo 30 (.fa 2 (.t 3)), oo 31 (.ld false 1 (.t 30)), oo 32 (.call (kf 150) [(.t 29), (.t 31)]), om 5 32])
 (.seq (.seq (.reg false [oo 33 (.fa 1 (.t 3)), oo 34 (.ld false 1 (.t 33)), oo 35 (.len (.t 34)), oo 36 (.mv (ki 0))])
 (.block 2 (.loop (.seq (.reg false [oo 37 (.bin .lss (.t 36) (.t 35))])
 (.seq (.cond (.t 37)
 .skip
 (.exit 2))
 (.seq (.block 3 (.seq (.reg false [oo 38 (.ia 5 (.t 34) (.t 36)), oo 39 (.ld true 5 (.t 38)), oo 9 (.alloc 130 5 [.int .i64 0, .int .i64 0, .int .i64 0, .bool false, .int .i64 0]), on_ (.st 5 (.t 9) (.t 39))])
 (.seq (.reg false [oo 10 (.mv (ki 0))])
 (.seq (.seq (.reg false [oo 40 (.fa 2 (.t 9)), oo 41 (.fa 1 (.t 40)), oo 42 (.ld false 1 (.t 41))])
 (.cond (.t 42)
 (.reg false [oo 10 (.mv (ki 1))])
 .skip))
 (.reg true [om 43 5, oo 44 (.fa 0 (.t 9)), oo 45 (.ld false 1 (.t 44)), oo 46 (.call (kf 150) [(.t 43), (.t 45)]), oo 47 (.fa 1 (.t 9)), oo 48 (.ld false 1 (.t 47)), oo 49 (.call (kf 150) [(.t 46), (.t 48)]), oo 50 (.fa 2 (.t 9)), oo 51 (.fa 0 (.t 50)), oo 52 (.ld false 1 (.t 51)), oo 53 (.call (kf 150) [(.t 49), (.t 52)]), om 54 10, oo 55 (.call (kf 150) [(.t 53), (.t 54)]), oo 56 (.fa 2 (.t 9)), oo 57 (.fa 2 (.t 56)), oo 58 (.ld false 1 (.t 57)), oo 59 (.call (kf 150) [(.t 55), (.t 58)]), om 5 59])))))
 (.reg false [oo 60 (.bin .add (.t 36) (ki 1)), om 36 60])))))))
 (.seq (.seq (.reg false [oo 61 (.fa 0 (.t 3)), oo 62 (.ld false 1 (.t 61)), oo 63 (.len (.t 62)), oo 64 (.mv (ki 0))])
 (.block 4 (.loop (.seq (.reg false [oo 65 (.bin .lss (.t 64) (.t 63))])
 (.seq (.cond (.t 65)
 .skip
 (.exit 4))
 (.seq (.block 5 (.seq (.reg false [oo 66 (.ia 2 (.t 62) (.t 64)), oo 67 (.ld true 2 (.t 66)), oo 12 (.alloc 136 2 [.string ⟨#[]⟩, .slice none 0 0]), on_ (.st 2 (.t 12) (.t 67))])
 (.seq (.reg true [om 68 5, oo 69 (.fa 1 (.t 12)), oo 70 (.ld false 1 (.t 69)), oo 71 (.len (.t 70)), oo 72 (.call (kf 150) [(.t 68), (.t 71)]), oo 73 (.fa 0 (.t 12)), oo 74 (.ld false 1 (.t 73)), oo 75 (.lens (.t 74)), oo 76 (.call (kf 150) [(.t 72), (.t 75)]), oo 77 (.fa 0 (.t 12)), oo 78 (.ld false 1 (.t 77)), oo 79 (.aps 5 (.t 76) (.t 78)), om 5 79])
 (.seq (.reg false [oo 80 (.fa 1 (.t 12)), oo 81 (.ld false 1 (.t 80)), oo 82 (.len (.t 81)), oo 83 (.mv (ki 0))])
 (.block 6 (.loop (.seq (.reg false [oo 84 (.bin .lss (.t 83) (.t 82))])
 (.seq (.cond (.t 84)
 .skip
 (.exit 6))
 (.seq (.block 7 (.seq (.reg false [oo 85 (.ia 2 (.t 81) (.t 83)), oo 86 (.ld true 2 (.t 85)), oo 14 (.alloc 63 2 [.int .i64 0, .int .i64 0]), on_ (.st 2 (.t 14) (.t 86))])
 (.reg true [om 87 5, oo 88 (.fa 0 (.t 14)), oo 89 (.ld false 1 (.t 88)), oo 90 (.call (kf 150) [(.t 87), (.t 89)]), oo 91 (.fa 1 (.t 14)), oo 92 (.ld false 1 (.t 91)), oo 93 (.call (kf 150) [(.t 90), (.t 92)]), om 5 93])))
 (.reg false [oo 94 (.bin .add (.t 83) (ki 1)), om 83 94]))))))))))
 (.reg false [oo 95 (.bin .add (.t 64) (ki 1)), om 64 95])))))))
 (.seq (.reg false [om 96 5, oo 97 (.b2s (.t 96)), om 4 97])
 .ret)))))))
abbrev n_history_mark : Nat := 111
theorem F_history_mark : Fun Tryz.prog n_history_mark 98 c_history_mark [.t 4] := ⟨⟨Tryz.f111, _, Tryz.func111, by kernel_rfl, rfl, rfl, by kernel_rfl, by kernel_rfl⟩⟩
def c_slices_ContainsFunc_int_int : C :=
 (.seq (.reg false [oo 4 (.mv (kb false))])
 (.seq (.reg false [om 5 0, om 6 1, oo 7 (.call (kf 160) [(.t 5), (.t 6)]), oo 8 (.bin .geq (.t 7) (ki 0)), om 4 8])
 .ret))
abbrev n_slices_ContainsFunc_int_int : Nat := 116
theorem F_slices_ContainsFunc_int_int : Fun Tryz.prog n_slices_ContainsFunc_int_int 9 c_slices_ContainsFunc_int_int [.t 4] := ⟨⟨Tryz.f116, _, Tryz.func116, by kernel_rfl, rfl, rfl, by kernel_rfl, by kernel_rfl⟩⟩
def c_history_may_1 : C :=
 (.seq (.reg false [oo 4 (.mv (kb false))])
 (.seq (.reg true [oo 5 (.ld false 1 (.t 1)), om 6 0, oo 7 (.ia 15 (.t 5) (.t 6)), oo 8 (.fa 11 (.t 7)), oo 9 (.ld false 1 (.t 8)), oo 10 (.bin .gtr (.t 9) (ki 0)), om 11 10, og 12 11 true (.ld false 1 (.t 1)), og 13 11 true (.mv (.t 0)), og 14 11 true (.ia 15 (.t 12) (.t 13)), og 15 11 true (.fa 11 (.t 14)), og 16 11 true (.ld false 1 (.t 15)), og 17 11 true (.ld false 1 (.t 1)), og 18 11 true (.ld false 1 (.t 2)), og 19 11 true (.ia 15 (.t 17) (.t 18)), og 20 11 true (.fa 10 (.t 19)), og 21 11 true (.ld false 1 (.t 20)), og 22 11 true (.bin .lss (.t 16) (.t 21)), oo 23 (.pick (.t 11) (.t 22) (kb false)), om 4 23])
 .ret))
abbrev n_history_may_1 : Nat := 117
theorem F_history_may_1 : Fun Tryz.prog n_history_may_1 24 c_history_may_1 [.t 4] := ⟨⟨Tryz.f117, _, Tryz.func117, by kernel_rfl, rfl, rfl, by kernel_rfl, by kernel_rfl⟩⟩
def c_slices_DeleteFunc_int_int : C :=
 (.seq (.reg false [oo 4 (.mv (.k (.one (.c (.v (.slice none 0 0))))))])
 (.seq (.reg false [om 8 0, om 9 1, oo 10 (.call (kf 160) [(.t 8), (.t 9)]), om 5 10])
 (.seq (.seq (.reg false [om 11 5, oo 12 (.bin .eql (.t 11) (ki (-1)))])
 (.cond (.t 12)
 (.seq (.reg false [om 13 0, om 4 13])
 .ret)
 .skip))
 (.seq (.seq (.reg false [om 14 5, oo 15 (.bin .add (.t 14) (ki 1)), om 6 15])
 (.block 0 (.loop (.seq (.seq (.reg false [om 16 6, om 17 0, oo 18 (.len (.t 17)), oo 19 (.bin .lss (.t 16) (.t 18))])
 (.cond (.t 19)
 .skip
 (.exit 0)))
 (.seq (.block 1 (.seq (.reg false [om 22 0, om 23 6, oo 24 (.ia 1 (.t 22) (.t 23)), oo 25 (.ld false 1 (.t 24)), om 7 25])
 (.seq (.reg false [om 26 1, om 27 7, oo 28 (.call (.t 26) [(.t 27)]), oo 29 (.un .not (.t 28))])
 (.cond (.t 29)
 (.seq (.reg false [om 30 0, om 31 5, om 32 7, oo 33 (.ia 1 (.t 30) (.t 31)), on_ (.st 1 (.t 33) (.t 32))])
 (.reg false [om 34 5, oo 35 (.bin .add (.t 34) (ki 1)), om 5 35]))
 .skip))))
 (.reg false [om 20 6, oo 21 (.bin .add (.t 20) (ki 1)), om 6 21]))))))
 (.seq (.reg false [om 36 0, om 37 5, oo 38 (.slc 1 (.t 36) (some (.t 37)) none), on_ (.clr 1 [.int .i64 0] (.t 38))])
 (.seq (.reg false [om 39 0, om 40 5, oo 41 (.slc 1 (.t 39) none (some (.t 40))), om 4 41])
 .ret))))))
abbrev n_slices_DeleteFunc_int_int : Nat := 123
theorem F_slices_DeleteFunc_int_int : Fun Tryz.prog n_slices_DeleteFunc_int_int 42 c_slices_DeleteFunc_int_int [.t 4] := ⟨⟨Tryz.f123, _, Tryz.func123, by kernel_rfl, rfl, rfl, by kernel_rfl, by kernel_rfl⟩⟩
def c_history_without_1 : C :=
 (.seq (.reg false [oo 3 (.mv (kb false))])
 (.seq (.reg false [om 4 0, oo 5 (.ld false 1 (.t 1)), oo 6 (.bin .eql (.t 4) (.t 5)), om 3 6])
 .ret))
abbrev n_history_without_1 : Nat := 124
theorem F_history_without_1 : Fun Tryz.prog n_history_without_1 7 c_history_without_1 [.t 3] := ⟨⟨Tryz.f124, _, Tryz.func124, by kernel_rfl, rfl, rfl, by kernel_rfl, by kernel_rfl⟩⟩
def c_history_over_1 : C :=
 (.seq (.reg false [oo 3 (.mv (kb false))])
 (.seq (.reg false [oo 4 (.ld false 1 (.t 1)), om 5 0, oo 6 (.ia 15 (.t 4) (.t 5)), oo 7 (.fa 11 (.t 6)), oo 8 (.ld false 1 (.t 7)), oo 9 (.bin .gtr (.t 8) (ki 0)), om 3 9])
 .ret))
abbrev n_history_over_1 : Nat := 125
theorem F_history_over_1 : Fun Tryz.prog n_history_over_1 10 c_history_over_1 [.t 3] := ⟨⟨Tryz.f125, _, Tryz.func125, by kernel_rfl, rfl, rfl, by kernel_rfl, by kernel_rfl⟩⟩
def c_history_word : C :=
 (.seq (.reg false [oo 4 (.mv (.k (.one (.c (.v (.slice none 0 0))))))])
 (.seq (.seq (.reg false [oo 6 (.mv (ki 0))])
 (.block 0 (.loop (.seq (.reg false [oo 7 (.bin .lss (.t 6) (ki 8))])
 (.seq (.cond (.t 7)
 .skip
 (.exit 0))
 (.seq (.block 1 (.seq (.reg false [om 8 6, om 5 8])
 (.reg false [om 9 0, om 10 1, om 11 5, oo 12 (.bin .mul (ki 8) (.t 11)), oo 13 (.bin .shr (.t 10) (.t 12)), oo 14 (.cvi .u8 (.t 13)), oo 15 (.bsl 5 1 1 [.int .u8 0] [(0, (.t 14))]), oo 16 (.app 5 1 1 [.int .u8 0] (.t 9) (.t 15)), om 0 16])))
 (.reg false [oo 17 (.bin .add (.t 6) (ki 1)), om 6 17])))))))
 (.seq (.reg false [om 18 0, om 4 18])
 .ret)))
abbrev n_history_word : Nat := 150
theorem F_history_word : Fun Tryz.prog n_history_word 19 c_history_word [.t 4] := ⟨⟨Tryz.f150, _, Tryz.func150, by kernel_rfl, rfl, rfl, by kernel_rfl, by kernel_rfl⟩⟩
def c_slices_IndexFunc_int_int : C :=
 (.seq (.reg false [oo 4 (.mv (ki 0))])
 (.seq (.seq (.reg false [om 6 0, oo 7 (.len (.t 6)), oo 8 (.mv (ki 0))])
 (.block 0 (.loop (.seq (.reg false [oo 9 (.bin .lss (.t 8) (.t 7))])
 (.seq (.cond (.t 9)
 .skip
 (.exit 0))
 (.seq (.block 1 (.seq (.reg false [om 10 8, om 5 10])
 (.seq (.reg false [om 11 1, om 12 0, om 13 5, oo 14 (.ia 1 (.t 12) (.t 13)), oo 15 (.ld false 1 (.t 14)), oo 16 (.call (.t 11) [(.t 15)])])
 (.cond (.t 16)
 (.seq (.reg false [om 17 5, om 4 17])
 .ret)
 .skip))))
 (.reg false [oo 18 (.bin .add (.t 8) (ki 1)), om 8 18])))))))
 (.seq (.reg false [oo 4 (.mv (ki (-1)))])
 .ret)))
abbrev n_slices_IndexFunc_int_int : Nat := 160
theorem F_slices_IndexFunc_int_int : Fun Tryz.prog n_slices_IndexFunc_int_int 19 c_slices_IndexFunc_int_int [.t 4] := ⟨⟨Tryz.f160, _, Tryz.func160, by kernel_rfl, rfl, rfl, by kernel_rfl, by kernel_rfl⟩⟩
def c_windroselaw34_HistoryHolds : C :=
 (.seq (.reg false [oo 4 (.mv (kb false))])
 (.seq (.reg false [oo 17 (.bld [.slice none 0 0, .slice none 0 0, .int .i64 0] []), oo 5 (.alloc 77 3 [.slice none 0 0, .slice none 0 0, .int .i64 0]), on_ (.st 3 (.t 5) (.t 17))])
 (.seq (.reg false [oo 18 (.bsl 69 15 0 [.int .i64 0, .int .i64 0, .int .i64 0, .int .i64 0, .string ⟨#[]⟩, .int .i64 0, .int .i64 0, .int .i64 0, .int .i64 0, .int .i64 0, .int .i64 0, .int .i64 0, .int .i64 0, .bool false, .int .i64 0] []), om 6 18])
 (.seq (.reg false [oo 19 (.mkm), om 7 19])
 (.seq (.reg false [oo 20 (.mkm), om 8 20])
 (.seq (.seq (.reg false [oo 9 (.mv (ki 0))])
 (.block 0 (.loop (.seq (.seq (.reg false [om 21 9, om 22 0, oo 23 (.len (.t 22)), oo 24 (.bin .lss (.t 21) (.t 23)), om 25 24, og 26 25 true (.mv (.t 9)), og 27 25 true (.bin .lss (.t 26) (ki 11)), oo 28 (.pick (.t 25) (.t 27) (kb false)), om 29 28, og 30 29 true (.mv (.t 9)), og 31 29 true (.mv (.t 1)), og 32 29 true (.len (.t 31)), og 33 29 true (.bin .lss (.t 30) (.t 32)), oo 34 (.pick (.t 29) (.t 33) (kb false))])
 (.cond (.t 34)
 .skip
 (.exit 0)))
 (.seq (.block 1 (.seq (.reg false [om 37 0, om 38 9, oo 39 (.ia 10 (.t 37) (.t 38)), oo 40 (.ld true 10 (.t 39)), oo 10 (.alloc 80 10 [.int .i64 0, .int .i64 0, .int .i64 0, .int .i64 0, .string ⟨#[]⟩, .int .i64 0, .int .i64 0, .int .i64 0, .int .i64 0, .int .i64 0]), on_ (.st 10 (.t 10) (.t 40))])
 (.seq (.reg false [om 41 9, oo 42 (.bin .add (.t 41) (ki 1)), oo 43 (.bin .mul (ki 100) (.t 42)), om 11 43])
 (.seq (.reg false [om 44 11, om 45 1, om 46 9, oo 47 (.ia 2 (.t 45) (.t 46)), oo 48 (.fa 0 (.t 47)), oo 49 (.ld false 1 (.t 48)), oo 50 (.cvi .i64 (.t 49)), oo 51 (.bin .sub (.t 44) (.t 50)), om 12 51])
 (.seq (.seq (.reg false [oo 52 (.fa 3 (.t 10)), oo 53 (.ld true 7 (.t 52)), oo 54 (.call (kf 37) [(.t 53)]), oo 55 (.un .not (.t 54)), om 56 55, og 57 56 false (.fa 3 (.t 10)), og 58 56 false (.fa 1 (.t 57)), og 59 56 false (.ld false 1 (.t 58)), og 60 56 false (.lens (.t 59)), og 61 56 false (.bin .gtr (.t 60) (ki 300)), oo 62 (.pick (.t 56) (kb true) (.t 61)), om 63 62, og 64 63 false (.fa 1 (.t 10)), og 65 63 false (.ld false 1 (.t 64)), og 66 63 false (.bin .lss (.t 65) (ki 1)), oo 67 (.pick (.t 63) (kb true) (.t 66)), om 68 67, og 69 68 false (.fa 1 (.t 10)), og 70 68 false (.ld false 1 (.t 69)), og 71 68 false (.bin .gtr (.t 70) (ki 5)), oo 72 (.pick (.t 68) (kb true) (.t 71)), om 73 72, og 74 73 false (.mv (.t 12)), og 75 73 false (.bin .lss (.t 74) (ki 1)), oo 76 (.pick (.t 73) (kb true) (.t 75)), om 77 76, og 78 77 false (.mv (.t 12)), og 79 77 false (.mv (.t 8)), og 80 77 false (.fa 1 (.t 10)), og 81 77 false (.ld false 1 (.t 80)), og 82 77 false (.lku (.int .i64 0) false false (.t 79) (.t 81)), og 83 77 false (.bin .lss (.t 78) (.t 82)), oo 84 (.pick (.t 77) (kb true) (.t 83))])
 (.cond (.t 84)
 (.exit 1)
 .skip))
 (.seq (.reg false [om 85 7, oo 86 (.fa 1 (.t 10)), oo 87 (.ld false 1 (.t 86)), oo 88 (.lku (.int .i64 0) false false (.t 85) (.t 87)), oo 89 (.bin .add (.t 88) (ki 1)), oo 90 (.fa 2 (.t 10)), on_ (.st 1 (.t 90) (.t 89))])
 (.seq (.reg false [oo 92 (.ld true 3 (.t 5)), oo 93 (.ld true 10 (.t 10)), oo 94 (.call (kf 38) [(.t 92), (.t 93)]), om 91 94, oo 95 (.ex (.t 91) 0), oo 96 (.ex (.t 91) 1), oo 97 (.ex (.t 91) 2), oo 13 (.alloc 77 3 [.slice none 0 0, .slice none 0 0, .int .i64 0]), oo 14 (.alloc 67 3 [.int .i64 0, .bool false, .int .i64 0]), on_ (.st 3 (.t 13) (.t 95)), on_ (.st 3 (.t 14) (.t 96)), om 15 97])
 (.seq (.seq (.reg false [om 98 15, oo 99 (.bin .neq (.t 98) (ki 0))])
 (.cond (.t 99)
 (.seq (.reg false [oo 4 (.mv (kb false))])
 .ret)
 .skip))
 (.seq (.reg false [oo 100 (.ld true 3 (.t 13)), on_ (.st 3 (.t 5) (.t 100))])
 (.seq (.reg false [om 101 7, oo 102 (.fa 1 (.t 10)), oo 103 (.ld false 1 (.t 102)), oo 104 (.fa 2 (.t 10)), oo 105 (.ld false 1 (.t 104)), on_ (.mup false (.t 101) (.t 103) (.t 105))])
 (.seq (.rgx [[], [0], [], [2], [], [4], [], [], [], [], [8, 9], [10, 8, 9], [11, 10, 8, 9], [12, 11, 10, 8, 9], [7, 13, 12, 11, 10, 8, 9], [], [1, 0, 3, 2, 5, 4, 6, 14, 7, 13, 12, 11, 10, 8, 9, 15], [], [17, 16, 1, 0, 3, 2, 5, 4, 6, 14, 7, 13, 12, 11, 10, 8, 9, 15]] [oo 106 (.fa 1 (.t 10)), oo 107 (.ld false 1 (.t 106)), oo 108 (.fa 2 (.t 10)), oo 109 (.ld false 1 (.t 108)), oo 110 (.fa 3 (.t 10)), oo 111 (.ld true 7 (.t 110)), om 112 12, om 113 11, om 114 1, om 115 9, oo 116 (.ia 2 (.t 114) (.t 115)), oo 117 (.fa 1 (.t 116)), oo 118 (.ld false 1 (.t 117)), oo 119 (.cvi .i64 (.t 118)), oo 120 (.bin .add (.t 113) (.t 119)), oo 121 (.ld true 3 (.t 14)), oo 122 (.bld [.int .i64 0, .int .i64 0, .int .i64 0, .int .i64 0, .string ⟨#[]⟩, .int .i64 0, .int .i64 0, .int .i64 0, .int .i64 0, .int .i64 0, .int .i64 0, .int .i64 0, .int .i64 0, .bool false, .int .i64 0] [(0, 1, (.t 107)), (1, 1, (.t 109)), (3, 7, (.t 111)), (10, 1, (.t 112)), (11, 1, (.t 120)), (12, 3, (.t 121))]), oo 16 (.alloc 69 15 [.int .i64 0, .int .i64 0, .int .i64 0, .int .i64 0, .string ⟨#[]⟩, .int .i64 0, .int .i64 0, .int .i64 0, .int .i64 0, .int .i64 0, .int .i64 0, .int .i64 0, .int .i64 0, .bool false, .int .i64 0]), on_ (.st 15 (.t 16) (.t 122))])
 (.seq (.reg false [om 123 8, oo 124 (.fa 1 (.t 10)), oo 125 (.ld false 1 (.t 124)), oo 126 (.fa 11 (.t 16)), oo 127 (.ld false 1 (.t 126)), on_ (.mup false (.t 123) (.t 125) (.t 127))])
 (.seq (.seq (.reg false [om 128 1, om 129 9, oo 130 (.ia 2 (.t 128) (.t 129)), oo 131 (.fa 1 (.t 130)), oo 132 (.ld false 1 (.t 131)), oo 133 (.bin .rem (.t 132) (.k (.one (.c (.v (.int .u8 8)))))), oo 134 (.bin .eql (.t 133) (.k (.one (.c (.v (.int .u8 7))))))])
 (.cond (.t 134)
 (.seq (.reg false [oo 135 (.fa 11 (.t 16)), on_ (.st 1 (.t 135) (ki 0))])
 (.seq (.reg false [oo 136 (.bld [.int .i64 0, .bool false, .int .i64 0] []), oo 137 (.fa 12 (.t 16)), on_ (.st 3 (.t 137) (.t 136))])
 (.reg false [om 138 8, oo 139 (.fa 1 (.t 10)), oo 140 (.ld false 1 (.t 139)), om 141 12, on_ (.mup false (.t 138) (.t 140) (.t 141))])))
 .skip))
 (.reg false [om 142 6, oo 143 (.ld true 15 (.t 16)), oo 144 (.bsl 69 15 1 [.int .i64 0, .int .i64 0, .int .i64 0, .int .i64 0, .string ⟨#[]⟩, .int .i64 0, .int .i64 0, .int .i64 0, .int .i64 0, .int .i64 0, .int .i64 0, .int .i64 0, .int .i64 0, .bool false, .int .i64 0] [(0, (.t 143))]), oo 145 (.app 69 15 128 [.int .i64 0, .int .i64 0, .int .i64 0, .int .i64 0, .string ⟨#[]⟩, .int .i64 0, .int .i64 0, .int .i64 0, .int .i64 0, .int .i64 0, .int .i64 0, .int .i64 0, .int .i64 0, .bool false, .int .i64 0] (.t 142) (.t 144)), om 6 145]))))))))))))))
 (.reg false [om 35 9, oo 36 (.bin .add (.t 35) (ki 1)), om 9 36]))))))
 (.seq (.reg false [om 146 6, oo 147 (.call (kf 32) [(.t 146)]), om 148 147, og 149 148 true (.call (kf 29) []), oo 150 (.pick (.t 148) (.t 149) (kb false)), om 4 150])
 .ret)))))))
abbrev n_windroselaw34_HistoryHolds : Nat := 8
theorem F_windroselaw34_HistoryHolds : Fun Tryz.prog n_windroselaw34_HistoryHolds 151 c_windroselaw34_HistoryHolds [.t 4] := ⟨⟨Tryz.f8, _, Tryz.func8, by kernel_rfl, rfl, rfl, by kernel_rfl, by kernel_rfl⟩⟩
def c_windroseref02_Ints : C :=
 (.seq (.reg false [oo 4 (.mv (kb false))])
 (.seq (.seq (.reg false [om 6 0, oo 7 (.len (.t 6)), om 8 1, oo 9 (.len (.t 8)), oo 10 (.bin .neq (.t 7) (.t 9))])
 (.cond (.t 10)
 (.seq (.reg false [oo 4 (.mv (kb false))])
 .ret)
 .skip))
 (.seq (.seq (.reg false [oo 5 (.mv (ki 0))])
 (.block 0 (.loop (.seq (.seq (.reg false [om 11 5, om 12 0, oo 13 (.len (.t 12)), oo 14 (.bin .lss (.t 11) (.t 13))])
 (.cond (.t 14)
 .skip
 (.exit 0)))
 (.seq (.block 1 (.seq (.reg true [om 17 0, om 18 5, oo 19 (.ia 1 (.t 17) (.t 18)), oo 20 (.ld false 1 (.t 19)), om 21 1, om 22 5, oo 23 (.ia 1 (.t 21) (.t 22)), oo 24 (.ld false 1 (.t 23)), oo 25 (.bin .neq (.t 20) (.t 24))])
 (.cond (.t 25)
 (.seq (.reg false [oo 4 (.mv (kb false))])
 .ret)
 .skip)))
 (.reg false [om 15 5, oo 16 (.bin .add (.t 15) (ki 1)), om 5 16]))))))
 (.seq (.reg false [oo 4 (.mv (kb true))])
 .ret))))
abbrev n_windroseref02_Ints : Nat := 34
theorem F_windroseref02_Ints : Fun Tryz.prog n_windroseref02_Ints 26 c_windroseref02_Ints [.t 4] := ⟨⟨Tryz.f34, _, Tryz.func34, by kernel_rfl, rfl, rfl, by kernel_rfl, by kernel_rfl⟩⟩
end Go.Proofs.YtpdcpdngckpgbaaGreat.A
end
section
namespace Go.Proofs.YtpdcpdngckpgbaaGreat.A
open Go Go.Proofs.YtpdcpdngckpgbaaGreatAbs
structure Evt where
 client : Int
 id : Int
 group : Int
 op : Opn
 bg : Int
 en : Int
 ans : Ans
instance : Inhabited Evt := ⟨⟨0, 0, 0, default, 0, 0, default⟩⟩
@[go_sem] def Evt.c (x : Evt) : Nat → CV
 | 0 => .v (.int .i64 x.client)
 | 1 => .v (.int .i64 x.id)
 | 2 => .v (.int .i64 x.group)
 | 3 => .v (.int .i64 x.op.kind)
 | 4 => .v (.string x.op.ser)
 | 5 => .v (.int .i64 x.op.smp.t)
 | 6 => .v (.int .i64 x.op.smp.v)
 | 7 => .v (.int .i64 x.op.frm)
 | 8 => .v (.int .i64 x.op.to)
 | 9 => .v (.int .i64 x.op.tot)
 | 10 => .v (.int .i64 x.bg)
 | 11 => .v (.int .i64 x.en)
 | 12 => .v (.int .i64 x.ans.code)
 | 13 => .v (.bool x.ans.has)
 | _ => .v (.int .i64 x.ans.n)
abbrev evL (l : List Evt) : Pt := immP 15 Evt.c l
def entE (e : Evt) : Ent := ⟨1, e.client, e.id, e.op⟩
def in31 (n : Int) (lo : Int) : Bool := decide (lo ≤ n) && decide (n ≤ 2147483647)
def evOne (e : Evt) : Bool := in31 e.client 1 && in31 e.id 1 && (decide (0 ≤ e.group) && decide (e.group ≤ 7)) && in31 e.bg 1 && (decide (e.en = 0) || in31 e.en e.bg) && opOk e.op
def evBad (a b : Evt) : Bool := decide (a.client = b.client) && (decide (a.id = b.id) || decide (b.bg < max a.bg a.en))
def evPair (o e : Evt) : Bool := if e.id < o.id then evBad e o else evBad o e
def chkAt (l : List Evt) (i : Nat) : Bool := evOne (l.getD i default) && (List.range i).all fun k => !evPair (l.getD k default) (l.getD i default)
def chkS (l : List Evt) : Bool := (List.range l.length).all (chkAt l)
def refBad (o e : Evt) : Bool := decide (o.client = e.client) && (decide (o.id = e.id) || decide (e.id < o.id) && (decide (o.bg < e.bg) || decide (o.bg < e.en)))
theorem pair_ref (o e : Evt) : evPair o e = (refBad o e || refBad e o) := by
 unfold evPair evBad refBad
 rw [Bool.eq_iff_iff]
 split <;> simp only [Bool.or_eq_true, Bool.and_eq_true, decide_eq_true_eq] <;> omega
theorem all_range {n : Nat} {p : Nat → Bool} : (List.range n).all p = true ↔ ∀ i, i < n → p i = true := by
 rw [List.all_eq_true]
 exact ⟨fun h i hi => h i (List.mem_range.2 hi), fun h i hi => h i (List.mem_range.1 hi)⟩
theorem chk_iff (l : List Evt) : chkS l = true ↔ (∀ i, i < l.length → evOne (l.getD i default) = true) ∧ ∀ i k, k < i → i < l.length → evPair (l.getD k default) (l.getD i default) = false := by
 unfold chkS
 rw [all_range]
 simp only [chkAt, Bool.and_eq_true, all_range, Bool.not_eq_true']
 exact ⟨fun h => ⟨fun i hi => (h i hi).1, fun i k hk hi => (h i hi).2 k hk⟩, fun h i hi => ⟨h.1 i hi, fun k hk => h.2 i k hk hi⟩⟩
def evAt (l : List Evt) (i : Int) : Evt := l.getD i.toNat default
def ofS (l : List Evt) (g : Int) : List Int := ((List.range l.length).filter fun i => decide ((l.getD i default).group = g)).map fun (i : Nat) => (i : Int)
theorem mem_of {l : List Evt} {g i : Int} : i ∈ ofS l g ↔ (0 ≤ i ∧ i < l.length) ∧ (evAt l i).group = g := by
 unfold ofS evAt
 simp only [List.mem_map, List.mem_filter, List.mem_range, decide_eq_true_eq]
 constructor
 ·rintro ⟨k, ⟨h1, h2⟩, rfl⟩
  exact ⟨⟨by omega, by omega⟩, by simpa using h2⟩
 ·rintro ⟨⟨h1, h2⟩, h3⟩
  exact ⟨i.toNat, ⟨by omega, h3⟩, by omega⟩
theorem of_len (l : List Evt) (g : Int) : (ofS l g).length ≤ l.length := by
 unfold ofS
 rw [List.length_map]
 exact Nat.le_trans (List.length_filter_le ..) (by rw [List.length_range]; exact Nat.le_refl _)
def aheadE (x y : Evt) : Bool := decide (0 < x.en) && decide (x.en < y.bg)
def mayS (l : List Evt) (left : List Int) (i : Int) : Bool := left.all fun k => !aheadE (evAt l k) (evAt l i)
def overS (l : List Evt) (left : List Int) : Bool := left.all fun k => !decide (0 < (evAt l k).en)
def woS (left : List Int) (i : Int) : List Int := left.filter fun k => !decide (k = i)
def fitsA (e : Evt) (a : Ans) : Bool := !(decide (0 < e.en) && !decide (a = e.ans))
def nextS (l : List Evt) (s : Shf) (i : Int) : Shf := (DoS s (entE (evAt l i))).1
def toldI (l : List Evt) (s : Shf) (i : Int) : Bool := fitsA (evAt l i) (DoS s (entE (evAt l i))).2.1
def shf0 : Shf := ⟨[], [], 0⟩
def explL (l : List Evt) : List Int → List Int → Shf → Bool
 | [], left, _ => overS l left
 | i :: is, left, s => decide (i ∈ left) && mayS l left i && toldI l s i && explL l is (woS left i) (nextS l s i)
def toldL (l : List Evt) : List Int → Shf → Bool
 | [], _ => true
 | i :: is, s => toldI l s i && toldL l is (nextS l s i)
structure OrdP (l : List Evt) (left order : List Int) : Prop where
 mem : ∀ i ∈ order, i ∈ left
 nd : order.Nodup
 pw : order.Pairwise fun a b => aheadE (evAt l b) (evAt l a) = false
 all : ∀ k ∈ left, k ∉ order → ¬ 0 < (evAt l k).en
theorem may_iff {l : List Evt} {left : List Int} {i : Int} : mayS l left i = true ↔ ∀ k ∈ left, aheadE (evAt l k) (evAt l i) = false := by
 unfold mayS
 rw [List.all_eq_true]
 simp only [Bool.not_eq_true']
theorem over_iff {l : List Evt} {left : List Int} : overS l left = true ↔ ∀ k ∈ left, ¬ 0 < (evAt l k).en := by
 unfold overS
 rw [List.all_eq_true]
 simp only [Bool.not_eq_true', decide_eq_false_iff_not]
theorem mem_wo {left : List Int} {i k : Int} : k ∈ woS left i ↔ k ∈ left ∧ k ≠ i := by
 unfold woS
 simp only [List.mem_filter, Bool.not_eq_true', decide_eq_false_iff_not, ne_eq]
theorem expl_iff {l : List Evt} : ∀ {order left : List Int} {s : Shf}, (∀ i ∈ left, aheadE (evAt l i) (evAt l i) = false) → (explL l order left s = true ↔ OrdP l left order ∧ toldL l order s = true)
 | [], left, s, h => by
  rw [explL, toldL, over_iff]
  exact ⟨fun h => ⟨⟨fun i hi => absurd hi List.not_mem_nil, List.nodup_nil, List.Pairwise.nil, fun k hk _ => h k hk⟩, rfl⟩, fun h k hk => h.1.all k hk List.not_mem_nil⟩
 | i :: is, left, s, h => by
  rw [explL, toldL]
  simp only [Bool.and_eq_true, decide_eq_true_eq]
  rw [expl_iff (order := is) (left := woS left i) (fun k hk => h k (mem_wo.1 hk).1), may_iff]
  constructor
  ·rintro ⟨⟨⟨h1, h2⟩, h3⟩, h4, h5⟩
   refine ⟨⟨fun k hk => ?_, ?_, ?_, fun k hk hn => ?_⟩, h3, h5⟩
   ·rcases List.mem_cons.1 hk with rfl | hk
    ·exact h1
    ·exact (mem_wo.1 (h4.mem k hk)).1
   ·rw [List.nodup_cons]
    exact ⟨fun hi => (mem_wo.1 (h4.mem i hi)).2 rfl, h4.nd⟩
   ·rw [List.pairwise_cons]
    exact ⟨fun k hk => h2 k (mem_wo.1 (h4.mem k hk)).1, h4.pw⟩
   ·exact h4.all k (mem_wo.2 ⟨hk, fun e => hn (e ▸ List.mem_cons_self)⟩) fun hk' => hn (List.mem_cons_of_mem _ hk')
  ·rintro ⟨h1, h2, h3⟩
   have hnd := List.nodup_cons.1 h1.nd
   have hpw := List.pairwise_cons.1 h1.pw
   refine ⟨⟨⟨h1.mem i List.mem_cons_self, fun k hk => ?_⟩, h2⟩, ⟨fun k hk => mem_wo.2 ⟨h1.mem k (List.mem_cons_of_mem _ hk), fun e => hnd.1 (e ▸ hk)⟩, hnd.2, hpw.2, fun k hk hn => ?_⟩, h3⟩
   ·by_cases e : k = i
    ·subst e; exact h k hk
    ·by_cases hm : k ∈ is
     ·exact hpw.1 k hm
     ·have := h1.all k hk (fun hc => (List.mem_cons.1 hc).elim e hm)
      unfold aheadE
      rw [decide_eq_false this, Bool.false_and]
   ·exact h1.all k (mem_wo.1 hk).1 fun hc => (List.mem_cons.1 hc).elim (mem_wo.1 hk).2 hn
theorem pw_getD {α : Type} [Inhabited α] {R : α → α → Prop} {l : List α} : l.Pairwise R ↔ ∀ i k, k < i → i < l.length → R (l.getD k default) (l.getD i default) := by
 rw [List.pairwise_iff_getElem]
 constructor
 ·intro h i k hk hi
  rw [gd_get hi, gd_get (show k < l.length by omega)]
  exact h k i _ _ hk
 ·intro h k i hk hi hki
  have := h i k hki hi
  rwa [gd_get hi, gd_get hk] at this
theorem one_ahead {l : List Evt} (h : chkS l = true) {i : Int} (h0 : 0 ≤ i) (h1 : i < l.length) : aheadE (evAt l i) (evAt l i) = false := by
 have := ((chk_iff l).1 h).1 i.toNat (by omega)
 unfold evAt
 simp only [evOne, in31, Bool.and_eq_true, Bool.or_eq_true, decide_eq_true_eq] at this
 unfold aheadE
 rw [Bool.and_eq_false_iff, decide_eq_false_iff_not, decide_eq_false_iff_not]
 omega
end Go.Proofs.YtpdcpdngckpgbaaGreat.A
end
section
namespace Go.Proofs.YtpdcpdngckpgbaaGreat.A
open Go Go.Proofs.YtpdcpdngckpgbaaGreatAbs
def byteAt (n : Int) (i : Nat) : UInt8 := UInt8.ofNat (n.fdiv (2 ^ (8 * i)) % 256).toNat
def w8 (n : Int) : List UInt8 := (List.range 8).map (byteAt n)
def dnW (d : Dn) : List UInt8 := w8 d.client ++ (w8 d.id ++ (w8 d.ans.code ++ (w8 (if d.ans.has = true then 1 else 0) ++ w8 d.ans.n)))
def smW (y : Smp) : List UInt8 := w8 y.t ++ w8 y.v
def lnW (x : Lin) : List UInt8 := w8 x.smps.length ++ (w8 x.ser.size ++ (bs x.ser ++ x.smps.flatMap smW))
def markL (left : List Int) (s : Shf) : List UInt8 := UInt8.ofNat (left.length % 256) :: (left.flatMap w8 ++ (w8 s.floor ++ (s.dones.flatMap dnW ++ s.lines.flatMap lnW)))
def markS (left : List Int) (s : Shf) : ByteArray := mkS (markL left s)
def hasK (d : List ByteArray) (k : ByteArray) : Bool := d.any fun x => decide (x = k)
theorem hasK_iff {d : List ByteArray} {k : ByteArray} : hasK d k = true ↔ k ∈ d := by
 unfold hasK
 rw [List.any_eq_true]
 simp only [decide_eq_true_eq, exists_eq_right]
def putK (d : List ByteArray) (k : ByteArray) : List ByteArray := if hasK d k = true then d else d ++ [k]
abbrev Fnd := Option (List Int) × List ByteArray
def tryL (l : List Evt) (rec : List Int → Shf → List ByteArray → Fnd) (left : List Int) (s : Shf) : List Int → List ByteArray → Fnd
 | [], d => (none, d)
 | i :: is, d =>
  if (mayS l left i && toldI l s i) = true then
   match rec (woS left i) (nextS l s i) d with
   | (some r, d') => (some (i :: r), d')
   | (none, d') => tryL l rec left s is d'
  else tryL l rec left s is d
def tryS (l : List Evt) : Nat → List Int → Shf → List ByteArray → Fnd
 | 0, _, _, d => (some [], d)
 | n + 1, left, s, d =>
  if overS l left = true then (some [], d)
  else if hasK d (markS left s) = true then (none, d)
  else match tryL l (tryS l n) left s left d with
   | (some r, d') => (some r, d')
   | (none, d') => (none, putK d' (markS left s))
theorem wo_len {left : List Int} {i : Int} (h : i ∈ left) : (woS left i).length < left.length := by
 unfold woS
 have h1 := List.length_filter_le (fun k => !decide (k = i)) left
 rcases Nat.lt_or_ge ((left.filter fun k => !decide (k = i)).length) left.length with h2 | h2
 ·exact h2
 ·exfalso
  have h3 := List.length_filter_eq_length_iff.1 (Nat.le_antisymm h1 h2) i h
  simp at h3
theorem tryL_sound {l : List Evt} {rec : List Int → Shf → List ByteArray → Fnd} {left : List Int} {s : Shf} (hr : ∀ i ∈ left, ∀ d r d', rec (woS left i) (nextS l s i) d = (some r, d') → explL l r (woS left i) (nextS l s i) = true) :
  ∀ (is : List Int) (d : List ByteArray), (∀ i ∈ is, i ∈ left) → ∀ r d', tryL l rec left s is d = (some r, d') → explL l r left s = true
 | [], d, _, r, d', h => by simp [tryL] at h
 | i :: is, d, hm, r, d', h => by
  rw [tryL] at h
  split at h
  ·rename_i hc
   split at h
   ·rename_i r1 d1 h1
    injection h with h _
    injection h with h
    subst h
    rw [Bool.and_eq_true] at hc
    have hi := hm i List.mem_cons_self
    rw [explL, hr i hi d r1 d1 h1, hc.1, hc.2, decide_eq_true hi]
    rfl
   ·exact tryL_sound hr is _ (fun k hk => hm k (List.mem_cons_of_mem _ hk)) r d' h
  ·exact tryL_sound hr is _ (fun k hk => hm k (List.mem_cons_of_mem _ hk)) r d' h
theorem tryS_sound {l : List Evt} : ∀ (n : Nat) {left : List Int} {s : Shf} {d : List ByteArray} {r : List Int} {d' : List ByteArray}, left.length < n → tryS l n left s d = (some r, d') → explL l r left s = true
 | 0, _, _, _, _, _, h, _ => absurd h (Nat.not_lt_zero _)
 | n + 1, left, s, d, r, d', hn, h => by
  rw [tryS] at h
  split at h
  ·rename_i ho
   injection h with h _
   injection h with h
   subst h
   exact ho
  ·split at h
   ·cases h
   ·split at h
    ·rename_i r1 d1 h1
     injection h with h _
     injection h with h
     subst h
     refine tryL_sound (fun i hi d r d' h => tryS_sound n ?_ h) left d (fun i hi => hi) r1 d1 h1
     have := wo_len hi
     omega
    ·cases h
def firstS (f : Int → Option (List Int)) : List Int → Option (List Int)
 | [] => none
 | i :: is => match f i with
  | some r => some r
  | none => firstS f is
def srchS (l : List Evt) : Nat → List Int → Shf → Option (List Int)
 | 0, _, _ => some []
 | n + 1, left, s => if overS l left = true then some [] else firstS (fun i => if (mayS l left i && toldI l s i) = true then (srchS l n (woS left i) (nextS l s i)).map (i :: ·) else none) left
theorem firstS_none {f : Int → Option (List Int)} : ∀ {is : List Int}, firstS f is = none → ∀ i ∈ is, f i = none
 | [], _, i, h => absurd h List.not_mem_nil
 | j :: is, h, i, hi => by
  rw [firstS] at h
  split at h
  ·cases h
  ·rename_i hj
   rcases List.mem_cons.1 hi with rfl | hi
   ·exact hj
   ·exact firstS_none h i hi
theorem srch_some {l : List Evt} : ∀ (n : Nat) {left : List Int} {s : Shf} (order : List Int), left.length < n → explL l order left s = true → srchS l n left s ≠ none
 | 0, _, _, _, h, _ => absurd h (Nat.not_lt_zero _)
 | n + 1, left, s, order, hn, h => by
  rw [srchS]
  split
  ·simp
  ·rename_i ho
   cases order with
   | nil => rw [explL] at h; exact absurd h ho
   | cons i is =>
    rw [explL] at h
    simp only [Bool.and_eq_true, decide_eq_true_eq] at h
    obtain ⟨⟨⟨h1, h2⟩, h3⟩, h4⟩ := h
    intro hf
    have := firstS_none hf i h1
    rw [h2, h3, Bool.and_true, if_pos rfl] at this
    have hw := wo_len h1
    exact srch_some n is (by omega) h4 (Option.map_eq_none_iff.1 this)
theorem srch_fuel {l : List Evt} : ∀ (n m : Nat) {left : List Int} {s : Shf}, left.length < n → left.length < m → srchS l n left s = srchS l m left s
 | 0, _, _, _, h, _ => absurd h (Nat.not_lt_zero _)
 | _ + 1, 0, _, _, _, h => absurd h (Nat.not_lt_zero _)
 | n + 1, m + 1, left, s, hn, hm => by
  rw [srchS, srchS]
  have : ∀ is : List Int, (∀ i ∈ is, i ∈ left) → firstS (fun i => if (mayS l left i && toldI l s i) = true then (srchS l n (woS left i) (nextS l s i)).map (i :: ·) else none) is = firstS (fun i => if (mayS l left i && toldI l s i) = true then (srchS l m (woS left i) (nextS l s i)).map (i :: ·) else none) is := by
   intro is
   induction is with
   | nil => intro _; rfl
   | cons i is ih =>
    intro hi
    have hw := wo_len (hi i List.mem_cons_self)
    rw [firstS, firstS, srch_fuel n m (by omega) (by omega), ih fun k hk => hi k (List.mem_cons_of_mem _ hk)]
  rw [this left fun i hi => hi]
structure Memo (l : List Evt) (R : List Int → Shf → Prop) : Prop where
 inj : ∀ {left s left' s'}, R left s → R left' s' → markS left s = markS left' s' → left = left' ∧ s = s'
 next : ∀ {left s i}, R left s → i ∈ left → R (woS left i) (nextS l s i)
def deadOk (l : List Evt) (R : List Int → Shf → Prop) (d : List ByteArray) : Prop := ∀ left s, R left s → markS left s ∈ d → srchS l (left.length + 1) left s = none
theorem tryL_eq {l : List Evt} {R : List Int → Shf → Prop} {left : List Int} {s : Shf} {n : Nat} (hn : left.length < n + 1)
  (hr : ∀ i ∈ left, ∀ d, deadOk l R d → (tryS l n (woS left i) (nextS l s i) d).1 = srchS l n (woS left i) (nextS l s i) ∧ deadOk l R (tryS l n (woS left i) (nextS l s i) d).2) :
  ∀ (is : List Int) (d : List ByteArray), (∀ i ∈ is, i ∈ left) → deadOk l R d → (tryL l (tryS l n) left s is d).1 = firstS (fun i => if (mayS l left i && toldI l s i) = true then (srchS l n (woS left i) (nextS l s i)).map (i :: ·) else none) is ∧ deadOk l R (tryL l (tryS l n) left s is d).2
 | [], d, _, hd => ⟨rfl, hd⟩
 | i :: is, d, hm, hd => by
  have hms : ∀ k ∈ is, k ∈ left := fun k hk => hm k (List.mem_cons_of_mem _ hk)
  rw [tryL, firstS]
  split
  ·obtain ⟨h1, h2⟩ := hr i (hm i List.mem_cons_self) d hd
   generalize tryS l n (woS left i) (nextS l s i) d = W at h1 h2
   obtain ⟨o, d'⟩ := W
   cases o with
   | some r => rw [← h1]; exact ⟨rfl, h2⟩
   | none => rw [← h1]; exact tryL_eq hn hr is d' hms h2
  ·exact tryL_eq hn hr is d hms hd
theorem try_eq {l : List Evt} {R : List Int → Shf → Prop} (hR : Memo l R) : ∀ (n : Nat) {left : List Int} {s : Shf} (d : List ByteArray), left.length < n → R left s → deadOk l R d → (tryS l n left s d).1 = srchS l n left s ∧ deadOk l R (tryS l n left s d).2
 | 0, _, _, _, h, _, _ => absurd h (Nat.not_lt_zero _)
 | n + 1, left, s, d, hn, hRs, hd => by
  rw [tryS, srchS]
  split
  ·exact ⟨rfl, hd⟩
  ·rename_i ho
   have hs : srchS l (left.length + 1) left s = srchS l (n + 1) left s := srch_fuel _ _ (by omega) hn
   have hse : srchS l (n + 1) left s = firstS (fun i => if (mayS l left i && toldI l s i) = true then (srchS l n (woS left i) (nextS l s i)).map (i :: ·) else none) left := by rw [srchS, if_neg ho]
   split
   ·rename_i hk
    have := hd left s hRs (hasK_iff.1 hk)
    rw [hs, hse] at this
    exact ⟨this.symm, hd⟩
   ·have hL := tryL_eq (R := R) (s := s) hn (fun i hi d hd => try_eq hR n d (by have := wo_len hi; omega) (hR.next hRs hi) hd) left d (fun i hi => hi) hd
    generalize tryL l (tryS l n) left s left d = W at hL
    obtain ⟨o, d'⟩ := W
    obtain ⟨h1, h2⟩ := hL
    simp only at h1 h2
    cases o with
    | some r => rw [← h1]; exact ⟨rfl, h2⟩
    | none =>
     rw [← h1]
     refine ⟨rfl, fun left' s' hR' hk => ?_⟩
     simp only [putK] at hk
     have : markS left' s' ∈ d' ∨ markS left' s' = markS left s := by
      split at hk
      ·exact .inl hk
      ·rcases List.mem_append.1 hk with hk | hk
       ·exact .inl hk
       ·exact .inr (by simpa using hk)
     rcases this with hk | hk
     ·exact h2 left' s' hR' hk
     ·obtain ⟨rfl, rfl⟩ := hR.inj hR' hRs hk
      rw [hs, hse, ← h1]
end Go.Proofs.YtpdcpdngckpgbaaGreat.A
end
section
namespace Go.Proofs.YtpdcpdngckpgbaaGreat.A
open Go Go.Proofs.YtpdcpdngckpgbaaGreatAbs
def i64R (n : Int) : Prop := -9223372036854775808 ≤ n ∧ n ≤ 9223372036854775807
theorem byteAt_inj {n m : Int} {i : Nat} (h : byteAt n i = byteAt m i) : n / (2 ^ (8 * i)) % 256 = m / (2 ^ (8 * i)) % 256 := by
 have h := congrArg UInt8.toNat h
 unfold byteAt at h
 have hp : (0 : Int) ≤ 2 ^ (8 * i) := Int.pow_nonneg (by decide)
 rw [UInt8.toNat_ofNat', UInt8.toNat_ofNat', Int.fdiv_eq_ediv_of_nonneg _ hp, Int.fdiv_eq_ediv_of_nonneg _ hp] at h
 generalize n / (2 ^ (8 * i)) = a at h ⊢
 generalize m / (2 ^ (8 * i)) = b at h ⊢
 omega
theorem w8_inj {n m : Int} (hn : i64R n) (hm : i64R m) (h : w8 n = w8 m) : n = m := by
 have hb : ∀ i, i < 8 → n / (2 ^ (8 * i)) % 256 = m / (2 ^ (8 * i)) % 256 := fun i hi => byteAt_inj (List.map_inj_left.1 h i (List.mem_range.2 hi))
 have h0 := hb 0 (by decide)
 have h1 := hb 1 (by decide)
 have h2 := hb 2 (by decide)
 have h3 := hb 3 (by decide)
 have h4 := hb 4 (by decide)
 have h5 := hb 5 (by decide)
 have h6 := hb 6 (by decide)
 have h7 := hb 7 (by decide)
 unfold i64R at hn hm
 simp only [Nat.mul_zero, Nat.mul_one, Nat.reduceMul, Int.reducePow] at h0 h1 h2 h3 h4 h5 h6 h7
 omega
theorem w8_len (n : Int) : (w8 n).length = 8 := by simp [w8]
theorem w8_app {n m : Int} {X Y : List UInt8} (h : w8 n ++ X = w8 m ++ Y) : w8 n = w8 m ∧ X = Y := List.append_inj h (by rw [w8_len, w8_len])
def ansR (a : Ans) : Prop := i64R a.code ∧ i64R a.n
structure rngS (s : Shf) : Prop where
 fl : i64R s.floor
 dn : ∀ d ∈ s.dones, i64R d.client ∧ i64R d.id ∧ ansR d.ans
 ln : ∀ x ∈ s.lines, i64R x.smps.length ∧ i64R x.ser.size ∧ ∀ y ∈ x.smps, i64R y.t ∧ i64R y.v
theorem dnW_inj {d d' : Dn} (h : i64R d.client ∧ i64R d.id ∧ ansR d.ans) (h' : i64R d'.client ∧ i64R d'.id ∧ ansR d'.ans) {X Y : List UInt8} (e : dnW d ++ X = dnW d' ++ Y) : d = d' ∧ X = Y := by
 simp only [dnW, List.append_assoc] at e
 obtain ⟨e1, e⟩ := w8_app e
 obtain ⟨e2, e⟩ := w8_app e
 obtain ⟨e3, e⟩ := w8_app e
 obtain ⟨e4, e⟩ := w8_app e
 obtain ⟨e5, e⟩ := w8_app e
 refine ⟨?_, e⟩
 rw [dn_ext, ans_ext]
 refine ⟨w8_inj h.1 h'.1 e1, w8_inj h.2.1 h'.2.1 e2, w8_inj h.2.2.1 h'.2.2.1 e3, ?_, w8_inj h.2.2.2 h'.2.2.2 e5⟩
 have := w8_inj (by split <;> simp [i64R]) (by split <;> simp [i64R]) e4
 revert this
 cases d.ans.has <;> cases d'.ans.has <;> simp
theorem dns_inj : ∀ {l l' : List Dn}, l.length = l'.length → (∀ d ∈ l, i64R d.client ∧ i64R d.id ∧ ansR d.ans) → (∀ d ∈ l', i64R d.client ∧ i64R d.id ∧ ansR d.ans) → ∀ {X Y : List UInt8}, l.flatMap dnW ++ X = l'.flatMap dnW ++ Y → l = l' ∧ X = Y
 | [], [], _, _, _, X, Y, e => ⟨rfl, by simpa using e⟩
 | [], _ :: _, h, _, _, _, _, _ => by simp at h
 | _ :: _, [], h, _, _, _, _, _ => by simp at h
 | d :: l, d' :: l', h, h1, h2, X, Y, e => by
  simp only [List.flatMap_cons, List.append_assoc] at e
  obtain ⟨q, e1⟩ := dnW_inj (h1 d List.mem_cons_self) (h2 d' List.mem_cons_self) e
  obtain ⟨q2, e2⟩ := dns_inj (by simpa using h) (fun x hx => h1 x (List.mem_cons_of_mem _ hx)) (fun x hx => h2 x (List.mem_cons_of_mem _ hx)) e1
  exact ⟨by rw [q, q2], e2⟩
theorem sms_inj : ∀ {l l' : List Smp}, l.length = l'.length → (∀ y ∈ l, i64R y.t ∧ i64R y.v) → (∀ y ∈ l', i64R y.t ∧ i64R y.v) → ∀ {X Y : List UInt8}, l.flatMap smW ++ X = l'.flatMap smW ++ Y → l = l' ∧ X = Y
 | [], [], _, _, _, X, Y, e => ⟨rfl, by simpa using e⟩
 | [], _ :: _, h, _, _, _, _, _ => by simp at h
 | _ :: _, [], h, _, _, _, _, _ => by simp at h
 | d :: l, d' :: l', h, h1, h2, X, Y, e => by
  simp only [List.flatMap_cons, smW, List.append_assoc] at e
  obtain ⟨e1, e⟩ := w8_app e
  obtain ⟨e2, e⟩ := w8_app e
  have a := h1 d List.mem_cons_self
  have b := h2 d' List.mem_cons_self
  have : d = d' := by
   cases d; cases d'
   simp only [Smp.mk.injEq]
   exact ⟨w8_inj a.1 b.1 e1, w8_inj a.2 b.2 e2⟩
  obtain ⟨q2, e3⟩ := sms_inj (by simpa using h) (fun x hx => h1 x (List.mem_cons_of_mem _ hx)) (fun x hx => h2 x (List.mem_cons_of_mem _ hx)) e
  exact ⟨by rw [this, q2], e3⟩
theorem w8_ne (n : Int) (X : List UInt8) : w8 n ++ X ≠ [] := fun h => by
 have := congrArg List.length h
 rw [List.length_append, w8_len] at this
 simp at this
theorem lns_inj : ∀ {l l' : List Lin}, (∀ x ∈ l, i64R x.smps.length ∧ i64R x.ser.size ∧ ∀ y ∈ x.smps, i64R y.t ∧ i64R y.v) → (∀ x ∈ l', i64R x.smps.length ∧ i64R x.ser.size ∧ ∀ y ∈ x.smps, i64R y.t ∧ i64R y.v) → l.flatMap lnW = l'.flatMap lnW → l = l'
 | [], [], _, _, _ => rfl
 | [], d :: l, _, _, e => by
  simp only [List.flatMap_cons, List.flatMap_nil, lnW, List.append_assoc] at e
  exact absurd e.symm (w8_ne _ _)
 | d :: l, [], _, _, e => by
  simp only [List.flatMap_cons, List.flatMap_nil, lnW, List.append_assoc] at e
  exact absurd e (w8_ne _ _)
 | d :: l, d' :: l', h1, h2, e => by
  simp only [List.flatMap_cons, lnW, List.append_assoc] at e
  obtain ⟨e1, e⟩ := w8_app e
  obtain ⟨e2, e⟩ := w8_app e
  have a := h1 d List.mem_cons_self
  have b := h2 d' List.mem_cons_self
  have n1 := w8_inj a.1 b.1 e1
  have n2 := w8_inj a.2.1 b.2.1 e2
  obtain ⟨e3, e⟩ := List.append_inj e (by rw [bs_len, bs_len]; omega)
  obtain ⟨e4, e⟩ := sms_inj (by omega) a.2.2 b.2.2 e
  have : d = d' := lin_ext.2 ⟨bs_inj e3, e4⟩
  rw [this, lns_inj (fun x hx => h1 x (List.mem_cons_of_mem _ hx)) (fun x hx => h2 x (List.mem_cons_of_mem _ hx)) e]
theorem ints_inj : ∀ {l l' : List Int}, l.length = l'.length → (∀ y ∈ l, i64R y) → (∀ y ∈ l', i64R y) → ∀ {X Y : List UInt8}, l.flatMap w8 ++ X = l'.flatMap w8 ++ Y → l = l' ∧ X = Y
 | [], [], _, _, _, X, Y, e => ⟨rfl, by simpa using e⟩
 | [], _ :: _, h, _, _, _, _, _ => by simp at h
 | _ :: _, [], h, _, _, _, _, _ => by simp at h
 | d :: l, d' :: l', h, h1, h2, X, Y, e => by
  simp only [List.flatMap_cons, List.append_assoc] at e
  obtain ⟨e1, e⟩ := w8_app e
  have := w8_inj (h1 d List.mem_cons_self) (h2 d' List.mem_cons_self) e1
  obtain ⟨q2, e3⟩ := ints_inj (by simpa using h) (fun x hx => h1 x (List.mem_cons_of_mem _ hx)) (fun x hx => h2 x (List.mem_cons_of_mem _ hx)) e
  exact ⟨by rw [this, q2], e3⟩
theorem mark_inj {left left' : List Int} {s s' : Shf} (h1 : left.length < 256) (h1' : left'.length < 256) (hd : left = left' → s.dones.length = s'.dones.length) (hl : ∀ i ∈ left, i64R i) (hl' : ∀ i ∈ left', i64R i) (hs : rngS s) (hs' : rngS s') (e : markS left s = markS left' s') : left = left' ∧ s = s' := by
 unfold markS at e
 have e := congrArg bs e
 rw [bs_mk, bs_mk] at e
 unfold markL at e
 injection e with e1 e
 have e1 := congrArg UInt8.toNat e1
 rw [UInt8.toNat_ofNat', UInt8.toNat_ofNat'] at e1
 obtain ⟨q, u⟩ := ints_inj (by omega) hl hl' e
 obtain ⟨e2, u⟩ := w8_app u
 obtain ⟨e3, u⟩ := dns_inj (hd q) hs.dn hs'.dn u
 exact ⟨q, shf_ext.2 ⟨lns_inj hs.ln hs'.ln u, e3, w8_inj hs.fl hs'.fl e2⟩⟩
end Go.Proofs.YtpdcpdngckpgbaaGreat.A
end
section
namespace Go.Proofs.YtpdcpdngckpgbaaGreat.A
open Go Go.Proofs.YtpdcpdngckpgbaaGreatAbs
theorem nd_len : ∀ {a b : List Int}, a.Nodup → (∀ x ∈ a, x ∈ b) → a.length ≤ b.length
 | [], b, _, _ => Nat.zero_le _
 | x :: a, b, hn, h => by
  have hn := List.nodup_cons.1 hn
  have h1 := nd_len (b := woS b x) hn.2 fun y hy => mem_wo.2 ⟨h y (List.mem_cons_of_mem _ hy), fun e => hn.1 (e ▸ hy)⟩
  have h2 := wo_len (h x List.mem_cons_self)
  rw [List.length_cons]
  omega
theorem i64R_of {n : Int} (h1 : -9223372036854775808 ≤ n) (h2 : n ≤ 9223372036854775807) : i64R n := ⟨h1, h2⟩
theorem i64s {n : Int} (h : 0 ≤ n ∧ n ≤ 20) : i64R n := ⟨by omega, by omega⟩
theorem putS_code (l : List Smp) (s : Smp) : i64R (putS l s).2 := by
 unfold putS
 split
 ·exact i64s (n := 1) (by decide)
 split
 ·exact i64s (n := 1) (by decide)
 split
 ·show i64R (if l.getD (atS l s.t) default = s then 7 else 8)
  split
  ·exact i64s (by decide)
  ·exact i64s (by decide)
 split
 ·exact i64s (n := 6) (by decide)
 ·exact i64s (n := 0) (by decide)
theorem getS_v (l : List Smp) (t : Int) : i64R (getS l t).1.v := by
 unfold getS
 split
 ·rename_i h
  have := (sm_parts h.2 (hit_lt h.1)).1
  exact i64R_of (by simp only; omega) (by simp only; omega)
 ·exact i64s (n := 0) (by decide)
theorem totS_v (k : Int) (l : List Smp) : i64R (totS k l).1 := by
 unfold totS
 split
 ·exact i64s (n := 0) (by decide)
 ·rename_i h
  have hk : smsOk l = true := by
   cases e : smsOk l with
   | true => rfl
   | false => exact absurd (.inl e) h
  have hl := smsOk_len hk
  have b1 := sum_bound hk (Nat.le_refl l.length)
  have b2 := least_bound hk (Nat.le_refl l.length)
  have b3 := most_bound hk (Nat.le_refl l.length)
  have b4 := grown_bound hk (Nat.le_refl l.length)
  split
  ·exact i64R_of (by simp only; omega) (by simp only; omega)
  split
  ·exact i64R_of (by simp only; omega) (by simp only; omega)
  split
  ·exact i64R_of (by simp only; omega) (by simp only; omega)
  split
  ·exact i64R_of (by simp only; omega) (by simp only; omega)
  split
  ·exact i64s (n := 0) (by decide)
  ·rename_i h2
   have h3 := sm_rise hk (show 0 < l.length - 1 by omega) (show l.length - 1 < l.length by omega)
   have h5 := Int.tdiv_nonneg (a := grownN l l.length * 60) (b := (l.getD (l.length - 1) default).t - (l.getD 0 default).t) (by omega) (by omega)
   have h6 := Int.tdiv_le_self (a := grownN l l.length * 60) ((l.getD (l.length - 1) default).t - (l.getD 0 default).t) (by omega)
   exact i64R_of (by simp only; omega) (by simp only; omega)
theorem lit_R (c : Int) (b : Bool) (hc : i64R c) : ansR ⟨c, b, 0⟩ := ⟨hc, i64s (n := 0) (by decide)⟩
theorem doOp_R (s : Shf) (o : Opn) : ansR (doOp s o).2 := by
 unfold doOp
 split
 ·exact lit_R 1 _ (i64s (by decide))
 split
 ·unfold writeS
  split
  ·exact lit_R 9 _ (i64s (by decide))
  split
  ·exact lit_R 6 _ (i64s (by decide))
  ·dsimp only
   split
   ·exact lit_R 0 _ (i64s (by decide))
   ·exact lit_R _ _ (putS_code _ _)
 split
 ·unfold trimSh
  split
  ·exact lit_R 9 _ (i64s (by decide))
  ·exact lit_R 0 _ (i64s (by decide))
 ·unfold lookS
  split
  ·exact ⟨i64s (n := 0) (by decide), getS_v _ _⟩
  ·exact ⟨i64s (n := 0) (by decide), totS_v _ _⟩
theorem done_cases {l : List Dn} (hu : upD l) (h8 : l.length ≤ 8) (d : Dn) :
  ((doneS l d).length = l.length ∧ (∀ c, (∃ x ∈ doneS l d, x.client = c) ↔ ∃ x ∈ l, x.client = c) ∧ ∃ x ∈ l, x.client = d.client) ∨
  (l.length < 8 ∧ (doneS l d).length = l.length + 1 ∧ ∀ c, (∃ x ∈ doneS l d, x.client = c) ↔ (c = d.client ∨ ∃ x ∈ l, x.client = c)) ∨
  (l.length = 8 ∧ (doneS l d).length = 8) := by
 obtain ⟨A, B, h1, h2, h3, h4⟩ := dn_split hu d.client
 subst h1
 have hi := insD_len (A ++ B) d
 have hev := evN_lt (insD (A ++ B) d) d.client (insD (A ++ B) d).length
 unfold doneS
 rcases h4 with ⟨hh, y, B', rfl, hy, hB⟩ | ⟨hh, hB⟩
 ·left
  rw [if_pos hh, h2, set_mid]
  refine ⟨by simp, fun c => ?_, y, by simp, hy⟩
  constructor
  ·rintro ⟨x, hx, rfl⟩
   rcases List.mem_append.1 hx with hx | hx
   ·exact ⟨x, by simp [hx], rfl⟩
   ·rcases List.mem_cons.1 hx with rfl | hx
    ·exact ⟨y, by simp, hy⟩
    ·exact ⟨x, by simp [hx], rfl⟩
  ·rintro ⟨x, hx, rfl⟩
   rcases List.mem_append.1 hx with hx | hx
   ·exact ⟨x, by simp [hx], rfl⟩
   ·rcases List.mem_cons.1 hx with rfl | hx
    ·exact ⟨d, by simp, hy.symm⟩
    ·exact ⟨x, by simp [hx], rfl⟩
 ·rw [if_neg (by rw [hh]; simp)]
  have e1 : (A ++ B).take A.length = A := by simp
  have e2 : (A ++ B).drop A.length = B := by simp
  have hin : insD (A ++ B) d = A ++ d :: B := by unfold insD; rw [h2, e1, e2]
  by_cases hl : (A ++ B).length < 8
  ·right; left
   rw [if_pos (by omega)]
   refine ⟨hl, hi, fun c => ?_⟩
   rw [hin]
   constructor
   ·rintro ⟨x, hx, rfl⟩
    rcases List.mem_append.1 hx with hx | hx
    ·exact .inr ⟨x, by simp [hx], rfl⟩
    ·rcases List.mem_cons.1 hx with rfl | hx
     ·exact .inl rfl
     ·exact .inr ⟨x, by simp [hx], rfl⟩
   ·rintro (rfl | ⟨x, hx, rfl⟩)
    ·exact ⟨d, by simp, rfl⟩
    ·rcases List.mem_append.1 hx with hx | hx
     ·exact ⟨x, by simp [hx], rfl⟩
     ·exact ⟨x, by simp [hx], rfl⟩
  ·right; right
   rw [if_neg (by omega)]
   refine ⟨by omega, ?_⟩
   rw [List.length_append, List.length_take, List.length_drop]
   omega
structure stK (l : List Evt) (m : Nat) (order : List Int) (s : Shf) : Prop where
 p : shP s
 sz : serSz m s
 an : ∀ d ∈ s.dones, ansR d.ans
 lt : s.dones.length < 8 → ∀ c, (∃ d ∈ s.dones, d.client = c) ↔ ∃ i ∈ order, (evAt l i).client = c
 full : s.dones.length = 8 → ∃ C : List Int, C.Nodup ∧ C.length = 8 ∧ ∀ c ∈ C, ∃ i ∈ order, (evAt l i).client = c
theorem stK0 (l : List Evt) (m : Nat) : stK l m [] shf0 where
 p := zP
 sz := fun x hx => by cases hx
 an := fun x hx => by cases hx
 lt := fun _ c => ⟨fun ⟨d, hd, _⟩ => (by cases hd), fun ⟨i, hi, _⟩ => (by cases hi)⟩
 full := fun h => by cases h
theorem stK_step {l : List Evt} {m : Nat} {order : List Int} {s : Shf} (h : stK l m order s) {i : Int} (hc : 1 ≤ (evAt l i).client ∧ (evAt l i).client ≤ 2147483647) (hid : 1 ≤ (evAt l i).id ∧ (evAt l i).id ≤ 2147483647) (hsz : (evAt l i).op.ser.size ≤ m) : stK l m (order ++ [i]) (nextS l s i) := by
 have hP := (Do_eq h.p (entE (evAt l i))).2
 have hZ := Do_sz h.p h.sz (entE (evAt l i)) hsz
 have mono : ∀ c, (∃ k ∈ order, (evAt l k).client = c) → ∃ k ∈ order ++ [i], (evAt l k).client = c := fun c ⟨k, hk, e⟩ => ⟨k, List.mem_append_left _ hk, e⟩
 have app : ∀ c, (∃ k ∈ order ++ [i], (evAt l k).client = c) ↔ (c = (evAt l i).client ∨ ∃ k ∈ order, (evAt l k).client = c) := by
  intro c
  constructor
  ·rintro ⟨k, hk, rfl⟩
   rcases List.mem_append.1 hk with hk | hk
   ·exact .inr ⟨k, hk, rfl⟩
   ·rw [List.mem_singleton] at hk; subst hk; exact .inl rfl
  ·rintro (rfl | ⟨k, hk, rfl⟩)
   ·exact ⟨i, by simp, rfl⟩
   ·exact ⟨k, by simp [hk], rfl⟩
 have hfull : s.dones.length = 8 → ∃ C : List Int, C.Nodup ∧ C.length = 8 ∧ ∀ c ∈ C, ∃ k ∈ order ++ [i], (evAt l k).client = c := fun h8 => by
  obtain ⟨C, c1, c2, c3⟩ := h.full h8
  exact ⟨C, c1, c2, fun c hc => mono c (c3 c hc)⟩
 unfold nextS at *
 revert hP hZ
 rw [DoS, if_neg (by
  rintro (hh | hh | hh)
  ·rw [(shOk_iff s).2 h.p] at hh; cases hh
  ·exact hh ⟨by simp only [entE]; omega, by simp only [entE]; omega⟩
  ·exact hh ⟨by simp only [entE]; omega, by simp only [entE]; omega⟩)]
 by_cases hm : metI s.dones (entE (evAt l i)).client (entE (evAt l i)).id < s.dones.length
 ·rw [if_pos hm]
  intro hP hZ
  refine ⟨hP, hZ, h.an, fun h8 c => ?_, hfull⟩
  have hin : ∃ d ∈ s.dones, d.client = (evAt l i).client := by
   have := List.findIdx_getElem (w := hm)
   simp only [Bool.and_eq_true, decide_eq_true_eq] at this
   exact ⟨_, List.getElem_mem hm, this.1⟩
  rw [app, h.lt h8 c]
  constructor
  ·exact .inr
  ·rintro (rfl | hh)
   ·exact (h.lt h8 _).1 hin
   ·exact hh
 ·rw [if_neg hm, if_pos (by simp only [entE]; omega), doOp_dones]
  intro hP hZ
  have hup := hP.ud
  have hcs := done_cases h.p.ud h.p.dl (d := ⟨(entE (evAt l i)).client, (entE (evAt l i)).id, (doOp s (entE (evAt l i)).op).2⟩)
  have hdo := (done_ok h.p.ud h.p.dl h.p.dn (d := ⟨(entE (evAt l i)).client, (entE (evAt l i)).id, (doOp s (entE (evAt l i)).op).2⟩) ⟨hc.1, hc.2, hid.1, hid.2⟩).2.2
  refine ⟨hP, hZ, fun d hd => ?_, ?_, ?_⟩
  ·rcases (hdo d hd).2 with rfl | hd
   ·exact doOp_R _ _
   ·exact h.an d hd
  ·intro h8 c
   rcases hcs with ⟨k1, k2, k3⟩ | ⟨k1, k2, k3⟩ | ⟨k1, k2⟩
   ·rw [app]
    refine (k2 c).trans ((h.lt (by simpa [k1] using h8) c).trans ⟨.inr, ?_⟩)
    rintro (rfl | hh)
    ·exact (h.lt (by simpa [k1] using h8) _).1 k3
    ·exact hh
   ·rw [app]
    exact (k3 c).trans (or_congr Iff.rfl (h.lt k1 c))
   ·simp only at h8
    omega
  ·intro h8
   rcases hcs with ⟨k1, k2, k3⟩ | ⟨k1, k2, k3⟩ | ⟨k1, k2⟩
   ·exact hfull (by simp only at h8; omega)
   ·refine ⟨(doneS s.dones ⟨(entE (evAt l i)).client, (entE (evAt l i)).id, (doOp s (entE (evAt l i)).op).2⟩).map (·.client), ?_, ?_, fun c hc => ?_⟩
    ·rw [List.Nodup, List.pairwise_map]
     exact hup.imp fun hh => by omega
    ·rw [List.length_map]
     exact h8
    ·rw [app]
     obtain ⟨x, hx, rfl⟩ := List.mem_map.1 hc
     exact ((k3 x.client).1 ⟨x, hx, rfl⟩).imp id (h.lt k1 _).1
   ·exact hfull k1
theorem stK_len {l : List Evt} {m : Nat} {o o' : List Int} {s s' : Shf} (h : stK l m o s) (h' : stK l m o' s') (ho : ∀ i, i ∈ o ↔ i ∈ o') : s.dones.length = s'.dones.length := by
 have ex : ∀ c, (∃ i ∈ o, (evAt l i).client = c) ↔ ∃ i ∈ o', (evAt l i).client = c := fun c => ⟨fun ⟨i, hi, e⟩ => ⟨i, (ho i).1 hi, e⟩, fun ⟨i, hi, e⟩ => ⟨i, (ho i).2 hi, e⟩⟩
 have nd : ∀ {t : Shf}, shP t → (t.dones.map (·.client)).Nodup := fun ht => by
  rw [List.Nodup, List.pairwise_map]
  exact ht.ud.imp fun hh => by omega
 have sub : ∀ {t t' : Shf} {a a' : List Int}, stK l m a t → stK l m a' t' → (∀ c, (∃ i ∈ a, (evAt l i).client = c) → ∃ i ∈ a', (evAt l i).client = c) → t'.dones.length < 8 → t.dones.length ≤ t'.dones.length := by
  intro t t' a a' ht ht' hs h8
  by_cases e : t.dones.length < 8
  ·have := nd_len (b := t'.dones.map (·.client)) (nd ht.p) fun c hc => by
    obtain ⟨x, hx, rfl⟩ := List.mem_map.1 hc
    obtain ⟨y, hy, e⟩ := (ht'.lt h8 _).2 (hs _ ((ht.lt e _).1 ⟨x, hx, rfl⟩))
    exact List.mem_map.2 ⟨y, hy, e⟩
   rwa [List.length_map, List.length_map] at this
  ·have e8 : t.dones.length = 8 := by have := ht.p.dl; omega
   obtain ⟨C, c1, c2, c3⟩ := ht.full e8
   have := nd_len (b := t'.dones.map (·.client)) c1 fun c hc => by
    obtain ⟨y, hy, e⟩ := (ht'.lt h8 _).2 (hs _ (c3 c hc))
    exact List.mem_map.2 ⟨y, hy, e⟩
   rw [List.length_map] at this
   omega
 have d1 := h.p.dl
 have d2 := h'.p.dl
 by_cases e : s'.dones.length < 8
 ·have := sub h h' (fun c => (ex c).1) e
  have := sub h' h (fun c => (ex c).2) (by omega)
  omega
 ·by_cases e' : s.dones.length < 8
  ·have := sub h' h (fun c => (ex c).2) e'
   omega
  ·omega
theorem rng_of {s : Shf} (h : shP s) {m : Nat} (hm : m ≤ 2000) (hz : serSz m s) (ha : ∀ d ∈ s.dones, ansR d.ans) : rngS s where
 fl := i64R_of (by have := h.f0; omega) (by have := h.f1; omega)
 dn := fun d hd => by
  obtain ⟨a, b, c, e⟩ := h.dn d hd
  exact ⟨i64R_of (by omega) (by omega), i64R_of (by omega) (by omega), ha d hd⟩
 ln := fun x hx => by
  obtain ⟨a, b, c, e⟩ := h.ln x hx
  have h1 := smsOk_len c
  have h2 := hz x hx
  refine ⟨i64R_of (by omega) (by omega), i64R_of (by omega) (by omega), fun y hy => ?_⟩
  have := ((smsOk_iff _).1 c).2.1 y hy
  simp only [smOk, Bool.and_eq_true, decide_eq_true_eq] at this
  exact ⟨i64R_of (by omega) (by omega), i64R_of (by omega) (by omega)⟩
def leftS (l : List Evt) (g : Int) (order : List Int) : List Int := (ofS l g).filter fun k => !decide (k ∈ order)
theorem mem_left {l : List Evt} {g k : Int} {order : List Int} : k ∈ leftS l g order ↔ k ∈ ofS l g ∧ k ∉ order := by
 unfold leftS
 simp only [List.mem_filter, Bool.not_eq_true', decide_eq_false_iff_not]
theorem left_nil (l : List Evt) (g : Int) : leftS l g [] = ofS l g := by
 unfold leftS
 rw [List.filter_eq_self]
 intro k _
 simp
theorem left_wo (l : List Evt) (g i : Int) (order : List Int) : woS (leftS l g order) i = leftS l g (order ++ [i]) := by
 unfold woS leftS
 rw [List.filter_filter]
 congr 1
 funext k
 rw [Bool.eq_iff_iff]
 simp only [Bool.and_eq_true, Bool.not_eq_true', decide_eq_false_iff_not, List.mem_append, List.mem_singleton, not_or]
 exact And.comm
structure Met (l : List Evt) (m : Nat) (g : Int) (order left : List Int) (s : Shf) : Prop where
 sub : ∀ i ∈ order, i ∈ ofS l g
 eq : left = leftS l g order
 st : stK l m order s
theorem met_next {l : List Evt} {m : Nat} (hsz : ∀ e ∈ l, e.op.ser.size ≤ m) (hc : chkS l = true) {g : Int} {order left : List Int} {s : Shf} (h : Met l m g order left s) {i : Int} (hi : i ∈ left) : Met l m g (order ++ [i]) (woS left i) (nextS l s i) := by
 obtain ⟨h1, rfl, h3⟩ := h
 have hm := (mem_left.1 hi).1
 obtain ⟨⟨a, b⟩, c⟩ := mem_of.1 hm
 have hl : i.toNat < l.length := by omega
 have h1e := ((chk_iff l).1 hc).1 i.toNat hl
 simp only [evOne, in31, Bool.and_eq_true, decide_eq_true_eq] at h1e
 refine ⟨fun k hk => ?_, left_wo l g i order, stK_step h3 ⟨h1e.1.1.1.1.1.1, h1e.1.1.1.1.1.2⟩ ⟨h1e.1.1.1.1.2.1, h1e.1.1.1.1.2.2⟩ ?_⟩
 ·rcases List.mem_append.1 hk with hk | hk
  ·exact h1 k hk
  ·rw [List.mem_singleton] at hk; subst hk; exact hm
 ·unfold evAt
  rw [gd_get hl]
  exact hsz _ (List.getElem_mem hl)
theorem memo_ok {l : List Evt} {m : Nat} (hm : m ≤ 2000) (hl : l.length < 256) (hsz : ∀ e ∈ l, e.op.ser.size ≤ m) (hc : chkS l = true) (g : Int) : Memo l fun left s => ∃ order, Met l m g order left s where
 inj := by
  rintro left s left' s' ⟨o, h1, h2, h3⟩ ⟨o', h1', h2', h3'⟩ e
  have len : ∀ o : List Int, (leftS l g o).length < 256 := fun o => Nat.lt_of_le_of_lt (List.length_filter_le ..) (Nat.lt_of_le_of_lt (of_len l g) hl)
  have rng : ∀ o : List Int, ∀ i ∈ leftS l g o, i64R i := fun o i hi => by
   obtain ⟨⟨a, b⟩, _⟩ := mem_of.1 (mem_left.1 hi).1
   exact i64R_of (by omega) (by omega)
  refine mark_inj (by rw [h2]; exact len o) (by rw [h2']; exact len o') (fun he => ?_) (by rw [h2]; exact rng o) (by rw [h2']; exact rng o') (rng_of h3.p hm h3.sz h3.an) (rng_of h3'.p hm h3'.sz h3'.an) e
  refine stK_len h3 h3' fun i => ?_
  rw [h2, h2'] at he
  have hx := congrArg (fun L => i ∈ L) he
  simp only [mem_left, eq_iff_iff] at hx
  constructor
  ·intro hi
   refine Classical.byContradiction fun hn => ?_
   exact (hx.2 ⟨h1 i hi, hn⟩).2 hi
  ·intro hi
   refine Classical.byContradiction fun hn => ?_
   exact (hx.1 ⟨h1' i hi, hn⟩).2 hi
 next := fun ⟨o, h⟩ hi => ⟨_, met_next hsz hc h hi⟩
end Go.Proofs.YtpdcpdngckpgbaaGreat.A
end
section
namespace Go.Proofs.YtpdcpdngckpgbaaGreat.A
open Go Go.Proofs.YtpdcpdngckpgbaaGreatAbs
theorem told_app (l : List Evt) (i : Int) : ∀ (o : List Int) (s : Shf), toldL l (o ++ [i]) s = (toldL l o s && toldI l (o.foldl (nextS l) s) i)
 | [], s => by simp [toldL]
 | k :: o, s => by
  rw [List.cons_append, toldL, toldL, told_app l i o, List.foldl_cons, Bool.and_assoc]
def findS (l : List Evt) (g : Int) : List Int × Int :=
 if chkS l = false then ([], 1)
 else if 14 < (ofS l g).length then ([], 4)
 else match (tryS l ((ofS l g).length + 1) (ofS l g) shf0 []).1 with
  | some r => (r, 0)
  | none => ([], 5)
def rightS (l : List Evt) : Bool := (List.range 8).all fun g => (findS l (g : Nat)).2 == 0
theorem met0 {l : List Evt} (m : Nat) (g : Int) : Met l m g [] (ofS l g) shf0 := ⟨fun i hi => (by cases hi), (left_nil l g).symm, stK0 l m⟩
theorem find_srch {l : List Evt} {m : Nat} (hm : m ≤ 2000) (hl : l.length < 256) (hsz : ∀ e ∈ l, e.op.ser.size ≤ m) (hc : chkS l = true) (g : Int) : (tryS l ((ofS l g).length + 1) (ofS l g) shf0 []).1 = srchS l ((ofS l g).length + 1) (ofS l g) shf0 :=
 (try_eq (memo_ok hm hl hsz hc g) _ [] (by omega) ⟨[], met0 m g⟩ (fun _ _ _ h => by cases h)).1
theorem find_some {l : List Evt} {m : Nat} (hm : m ≤ 2000) (hl : l.length < 256) (hsz : ∀ e ∈ l, e.op.ser.size ≤ m) (hc : chkS l = true) {g : Int} (h14 : (ofS l g).length ≤ 14) {order : List Int} (h : explL l order (ofS l g) shf0 = true) : (findS l g).2 = 0 := by
 unfold findS
 rw [hc, if_neg (by simp), if_neg (by omega), find_srch hm hl hsz hc]
 have := srch_some ((ofS l g).length + 1) order (by omega) h
 cases e : srchS l ((ofS l g).length + 1) (ofS l g) shf0 with
 | some r => rfl
 | none => exact absurd e this
end Go.Proofs.YtpdcpdngckpgbaaGreat.A
end
section
namespace Go.Proofs.YtpdcpdngckpgbaaGreat.A
open Go Go.Proofs.YtpdcpdngckpgbaaGreatAbs
def look : List (Int × Int) → Int → Int
 | [], _ => 0
 | p :: m, c => if c = p.1 then p.2 else look m c
def putM : List (Int × Int) → Int → Int → List (Int × Int)
 | [], k, v => [(k, v)]
 | p :: m, k, v => if k = p.1 then (k, v) :: m else p :: putM m k v
theorem look_put (k v c : Int) : ∀ m : List (Int × Int), look (putM m k v) c = if c = k then v else look m c
 | [] => rfl
 | p :: m => by
  rw [putM]
  split
  ·rename_i h
   subst h
   rw [look, look]
   split <;> rfl
  ·rw [look, look, look_put k v c m]
   by_cases h1 : c = p.1
   ·subst h1
    rw [if_pos rfl, if_pos rfl, if_neg (fun h => by rename_i h2; exact h2 h.symm)]
   ·rw [if_neg h1, if_neg h1]
structure HSt where
 s : Shf
 evs : List Evt
 last : List (Int × Int)
 ends : List (Int × Int)
def skipH (st : HSt) (i : Nat) (e : Ent) (x : Int × Int) : Bool :=
 !opOk e.op || decide (300 < e.op.ser.size) || decide (e.client < 1) || decide (5 < e.client) || decide (100 * ((i : Int) + 1) - x.1 < 1) || decide (100 * ((i : Int) + 1) - x.1 < look st.ends e.client)
def newH (st : HSt) (i : Nat) (e : Ent) (x : Int × Int) : Evt :=
 ⟨e.client, look st.last e.client + 1, 0, e.op, 100 * ((i : Int) + 1) - x.1, if x.2 % 8 = 7 then 0 else 100 * ((i : Int) + 1) + x.2, if x.2 % 8 = 7 then ⟨0, false, 0⟩ else (DoS st.s ⟨e.epoch, e.client, look st.last e.client + 1, e.op⟩).2.1⟩
def stepH (st : HSt) (i : Nat) (e : Ent) (x : Int × Int) : HSt :=
 if skipH st i e x = true then st
 else ⟨(DoS st.s ⟨e.epoch, e.client, look st.last e.client + 1, e.op⟩).1, st.evs ++ [newH st i e x], putM st.last e.client (look st.last e.client + 1),
  if x.2 % 8 = 7 then putM (putM st.ends e.client (100 * ((i : Int) + 1) + x.2)) e.client (100 * ((i : Int) + 1) - x.1) else putM st.ends e.client (100 * ((i : Int) + 1) + x.2)⟩
def ordN (n : Nat) : List Int := (List.range n).map fun (k : Nat) => (k : Int)
theorem ordN_succ (n : Nat) : ordN (n + 1) = ordN n ++ [(n : Int)] := by simp [ordN, List.range_succ]
theorem mem_ordN {n : Nat} {i : Int} : i ∈ ordN n ↔ 0 ≤ i ∧ i < n := by
 unfold ordN
 simp only [List.mem_map, List.mem_range]
 exact ⟨fun ⟨k, h, e⟩ => by omega, fun h => ⟨i.toNat, by omega, by omega⟩⟩
theorem told_congr {l l' : List Evt} : ∀ {o : List Int} {s : Shf}, (∀ i ∈ o, evAt l i = evAt l' i) → toldL l o s = toldL l' o s ∧ o.foldl (nextS l) s = o.foldl (nextS l') s
 | [], _, _ => ⟨rfl, rfl⟩
 | i :: o, s, h => by
  have hi := h i List.mem_cons_self
  have h1 : toldI l s i = toldI l' s i := by unfold toldI; rw [hi]
  have h2 : nextS l s i = nextS l' s i := by unfold nextS; rw [hi]
  rw [toldL, toldL, List.foldl_cons, List.foldl_cons, h1, h2]
  obtain ⟨a, b⟩ := told_congr (o := o) (s := nextS l' s i) fun k hk => h k (List.mem_cons_of_mem _ hk)
  exact ⟨by rw [a], b⟩
theorem evAt_app {l : List Evt} {e : Evt} {i : Int} (h : i ∈ ordN l.length) : evAt (l ++ [e]) i = evAt l i := by
 obtain ⟨a, b⟩ := mem_ordN.1 h
 exact gd_appL l [e] (by omega)
theorem evAt_last (l : List Evt) (e : Evt) : evAt (l ++ [e]) (l.length : Nat) = e := gd_app0 l [] e
structure HI (i : Nat) (st : HSt) : Prop where
 one : ∀ e ∈ st.evs, evOne e = true ∧ e.group = 0 ∧ e.bg ≤ 100 * (i : Int) ∧ e.op.ser.size ≤ 300
 cl : ∀ e ∈ st.evs, e.id ≤ look st.last e.client ∧ e.bg ≤ look st.ends e.client ∧ e.en ≤ look st.ends e.client
 la : ∀ c, 0 ≤ look st.last c ∧ look st.last c ≤ i
 len : st.evs.length ≤ i
 pw : st.evs.Pairwise fun a b => evPair a b = false ∧ aheadE b a = false
 told : toldL st.evs (ordN st.evs.length) shf0 = true
 fd : st.s = (ordN st.evs.length).foldl (nextS st.evs) shf0
 p : shP st.s
 sz : serSz 300 st.s
def HSt0 : HSt := ⟨shf0, [], [], []⟩
theorem HI0 : HI 0 HSt0 where
 one := fun e he => by cases he
 cl := fun e he => by cases he
 la := fun c => ⟨Int.le_refl _, Int.le_refl _⟩
 len := Nat.le_refl _
 pw := List.Pairwise.nil
 told := rfl
 fd := rfl
 p := zP
 sz := fun x hx => by cases hx
theorem HI_mono {i : Nat} {st : HSt} (h : HI i st) : HI (i + 1) st :=
 { h with one := fun e he => ⟨(h.one e he).1, (h.one e he).2.1, by have := (h.one e he).2.2.1; omega, (h.one e he).2.2.2⟩, la := fun c => ⟨(h.la c).1, by have := (h.la c).2; omega⟩, len := by have := h.len; omega }
theorem DoS_code {s : Shf} (h : shP s) {e : Ent} (hc : 1 ≤ e.client ∧ e.client ≤ 2147483647) (hi : 1 ≤ e.id ∧ e.id ≤ 2147483647) : (DoS s e).2.2 = 0 := by
 rw [DoS, if_neg (by
  rintro (hh | hh | hh)
  ·rw [(shOk_iff s).2 h] at hh; cases hh
  ·exact hh ⟨by omega, by omega⟩
  ·exact hh ⟨by omega, by omega⟩)]
 split
 ·rfl
 ·split <;> rfl
theorem HI_step {i : Nat} {st : HSt} (h : HI i st) (hi : i < 11) (e : Ent) (x : Int × Int) (hx : (0 ≤ x.1 ∧ x.1 ≤ 255) ∧ 0 ≤ x.2 ∧ x.2 ≤ 255) : HI (i + 1) (stepH st i e x) := by
 unfold stepH
 split
 ·exact HI_mono h
 rename_i hsk
 have hsk : opOk e.op = true ∧ e.op.ser.size ≤ 300 ∧ 1 ≤ e.client ∧ e.client ≤ 5 ∧ 1 ≤ 100 * ((i : Int) + 1) - x.1 ∧ look st.ends e.client ≤ 100 * ((i : Int) + 1) - x.1 := by
  unfold skipH at hsk
  simp only [Bool.or_eq_true, Bool.not_eq_true', decide_eq_true_eq, not_or, Bool.not_eq_false] at hsk
  obtain ⟨⟨⟨⟨⟨a1, a2⟩, a3⟩, a4⟩, a5⟩, a6⟩ := hsk
  exact ⟨a1, by omega, by omega, by omega, by omega, by omega⟩
 obtain ⟨k1, k2, k3, k4, k5, k6⟩ := hsk
 have hla := h.la e.client
 have hDo : DoS st.s ⟨e.epoch, e.client, look st.last e.client + 1, e.op⟩ = DoS st.s (entE (newH st i e x)) := rfl
 have hP := (Do_eq h.p (entE (newH st i e x))).2
 have hZ := Do_sz h.p h.sz (entE (newH st i e x)) k2
 have hb : (newH st i e x).bg = 100 * ((i : Int) + 1) - x.1 := rfl
 have hen : (newH st i e x).en = 0 ∨ 100 * ((i : Int) + 1) ≤ (newH st i e x).en ∧ (newH st i e x).en ≤ 100 * ((i : Int) + 1) + x.2 := by
  unfold newH
  dsimp only
  split
  ·exact .inl rfl
  ·right; omega
 have hE : ∀ c, look (if x.2 % 8 = 7 then putM (putM st.ends e.client (100 * ((i : Int) + 1) + x.2)) e.client (100 * ((i : Int) + 1) - x.1) else putM st.ends e.client (100 * ((i : Int) + 1) + x.2)) c = if c = e.client then (if x.2 % 8 = 7 then 100 * ((i : Int) + 1) - x.1 else 100 * ((i : Int) + 1) + x.2) else look st.ends c := by
  intro c
  split
  ·rw [look_put, look_put]
   split <;> rfl
  ·rw [look_put]
 have hcong := told_congr (l := st.evs ++ [newH st i e x]) (l' := st.evs) (o := ordN st.evs.length) (s := shf0) fun k hk => evAt_app hk
 have hone : evOne (newH st i e x) = true := by
  unfold evOne in31
  simp only [Bool.and_eq_true, Bool.or_eq_true, decide_eq_true_eq]
  have e1 : (newH st i e x).client = e.client := rfl
  have e2 : (newH st i e x).id = look st.last e.client + 1 := rfl
  have e3 : (newH st i e x).group = 0 := rfl
  have e4 : (newH st i e x).op = e.op := rfl
  rw [e1, e2, e3, e4, hb]
  refine ⟨⟨⟨⟨⟨⟨by omega, by omega⟩, by omega, by omega⟩, by omega, by omega⟩, by omega, by omega⟩, ?_⟩, k1⟩
  rcases hen with hen | hen
  ·exact .inl hen
  ·right; omega
 refine ⟨?_, ?_, ?_, ?_, ?_, ?_, ?_, ?_, ?_⟩
 ·intro y hy
  rcases List.mem_append.1 hy with hy | hy
  ·exact (HI_mono h).one y hy
  ·rw [List.mem_singleton] at hy
   subst hy
   exact ⟨hone, rfl, by rw [hb]; omega, k2⟩
 ·intro y hy
  simp only [look_put, hE]
  rcases List.mem_append.1 hy with hy | hy
  ·have := h.cl y hy
   split
   ·rename_i hc
    rw [hc] at this
    refine ⟨by omega, ?_, ?_⟩ <;> split <;> omega
   ·exact this
  ·rw [List.mem_singleton] at hy
   subst hy
   rw [if_pos (show (newH st i e x).client = e.client from rfl), if_pos (show (newH st i e x).client = e.client from rfl), hb]
   refine ⟨Int.le_refl _, ?_, ?_⟩
   ·split <;> omega
   ·unfold newH
    dsimp only
    split <;> omega
 ·intro c
  simp only [look_put]
  have := h.la c
  split <;> omega
 ·have := h.len
  simp only [List.length_append, List.length_cons, List.length_nil]
  omega
 ·rw [List.pairwise_append]
  refine ⟨h.pw, List.pairwise_singleton _ _, fun a ha b hb' => ?_⟩
  rw [List.mem_singleton] at hb'
  subst hb'
  have h1 := h.one a ha
  have h2 := h.cl a ha
  constructor
  ·rw [pair_ref]
   unfold refBad
   rw [Bool.eq_false_iff]
   simp only [ne_eq, Bool.or_eq_true, Bool.and_eq_true, decide_eq_true_eq]
   have e1 : (newH st i e x).client = e.client := rfl
   have e2 : (newH st i e x).id = look st.last e.client + 1 := rfl
   rw [e1, e2, hb]
   rintro (⟨c, d⟩ | ⟨c, d⟩)
   ·rw [c] at h2; omega
   ·rw [← c] at h2; omega
  ·unfold aheadE
   rw [Bool.and_eq_false_iff, decide_eq_false_iff_not, decide_eq_false_iff_not]
   omega
 ·simp only [List.length_append, List.length_cons, List.length_nil, Nat.zero_add]
  rw [ordN_succ, told_app, hcong.1, hcong.2, h.told, Bool.true_and, ← h.fd]
  unfold toldI
  rw [evAt_last, ← hDo]
  unfold fitsA newH
  dsimp only
  split <;> simp
 ·simp only [List.length_append, List.length_cons, List.length_nil, Nat.zero_add]
  rw [ordN_succ, List.foldl_append, hcong.2, ← h.fd, List.foldl_cons, List.foldl_nil]
  unfold nextS
  rw [evAt_last]
  rfl
 ·exact hP
 ·exact hZ
theorem of_zero {l : List Evt} (h : ∀ e ∈ l, e.group = 0) : ofS l 0 = ordN l.length := by
 unfold ofS ordN
 congr 1
 rw [List.filter_eq_self]
 intro i hi
 rw [decide_eq_true_eq, gd_get (List.mem_range.1 hi)]
 exact h _ (List.getElem_mem _)
theorem of_other {l : List Evt} (h : ∀ e ∈ l, e.group = 0) {g : Int} (hg : g ≠ 0) : ofS l g = [] := by
 unfold ofS
 rw [List.map_eq_nil_iff, List.filter_eq_nil_iff]
 intro i hi
 rw [decide_eq_true_eq, gd_get (List.mem_range.1 hi), h _ (List.getElem_mem _)]
 exact fun e => hg e.symm
theorem holds_right {n : Nat} {st : HSt} (h : HI n st) (hn : n ≤ 11) : rightS st.evs = true := by
 have hlen := h.len
 have h0 : ∀ e ∈ st.evs, e.group = 0 := fun e he => (h.one e he).2.1
 have hchk : chkS st.evs = true := by
  rw [chk_iff]
  refine ⟨fun i hi => ?_, fun i k hk hi => (pw_getD.1 h.pw i k hk hi).1⟩
  rw [gd_get hi]
  exact (h.one _ (List.getElem_mem hi)).1
 unfold rightS
 rw [all_range]
 intro g _
 rw [beq_iff_eq]
 by_cases hg : g = 0
 ·subst hg
  refine find_some (m := 300) (by decide) (by omega) (fun e he => (h.one e he).2.2.2) hchk (order := ordN st.evs.length) ?_ ?_
  ·rw [show ((0 : Nat) : Int) = 0 from rfl, of_zero h0]
   simp [ordN]
   omega
  ·rw [show ((0 : Nat) : Int) = 0 from rfl, of_zero h0, expl_iff fun k hk => one_ahead hchk (mem_ordN.1 hk).1 (mem_ordN.1 hk).2]
   refine ⟨⟨fun i hi => hi, ?_, ?_, fun k hk hk' => absurd hk hk'⟩, h.told⟩
   ·unfold ordN
    rw [List.Nodup, List.pairwise_map]
    exact List.nodup_range.imp fun h => by omega
   ·rw [pw_getD]
    intro i k hk hi
    have hi' : i < st.evs.length := by simpa [ordN] using hi
    have e1 : (ordN st.evs.length).getD i default = (i : Int) := by rw [gd_get hi]; simp [ordN]
    have e2 : (ordN st.evs.length).getD k default = (k : Int) := by rw [gd_get (by omega)]; simp [ordN]
    rw [e1, e2]
    exact (pw_getD.1 h.pw i k hk hi').2
 ·have hnil := of_other h0 (g := (g : Nat)) (by omega)
  unfold findS
  rw [hchk, hnil]
  rfl
end Go.Proofs.YtpdcpdngckpgbaaGreat.A
end
section
namespace Go.Proofs.YtpdcpdngckpgbaaGreat.A
open Go Go.Proofs Go.Proofs.YtpdcpdngckpgbaaGreatAbs
@[go_sem] def intC (x : Int) (_ : Nat) : CV := .v (.int .i64 x)
abbrev intsL (l : List Int) : Pt := immP 1 intC l
abbrev intsR (t : Nat) (v : Nat) (l : List Int) (f : Bool) : Blk := .rows t 1 v (rowsL 1 intC l) f
theorem int_row (l : List Int) (x : Int) : rowsL 1 intC l ++ [[AV.c (CV.v (Value.int IntKind.i64 x))]] = rowsL 1 intC (l ++ [x]) := rowsL_app1 l x
theorem end_ints {n : Nat} (ws : List Int) (e : Nat → SV) (X : List Blk) (v : Nat) (f : Bool) (r b : Nat) (h4 : e r = .p (.one (.arr 1 b v 0 ws.length))) (hX : X[b]? = some (intsR 3 v ws f)) : FinK n 0 [.t r] (.p (intsL ws)) [] .ret ⟨e, X⟩ := by
 refine finQ (.inr rfl) (gh_freeze (b := b) (l := rowsL 1 intC ws) hX (rowsL_closed ws)) (qs := [.one (.c (.imm 1 ws.length fun i j => toC (((rowsL 1 intC ws).getD (0 + i) []).getD j default)))]) (cnd := True) ?_ trivial (subS_p (subP_one (frz_sub ws))) (by simp only [go_sem])
 simp only [go_sem, h4, Nat.zero_add]
theorem ne_dec {α : Type} [Inhabited α] [DecidableEq α] {l m : List α} {k : Nat} (h : l.getD k default ≠ m.getD k default) : l ≠ m := fun e => h (by rw [e])
set_option maxRecDepth 20000 in
theorem Ints_rc (l m : List Int) (hl : l.length ≤ 140737488355328) (M : List Blk) : CallR Tryz.prog M n_windroseref02_Ints [intsL l, intsL m] (.b (decide (l = m))) M := by
 refine callP F_windroseref02_Ints (Nat.le_of_ble_eq_true rfl) (by simp only [go_sem]) (by simp only [go_sem]) ?_ M
 simp only [c_windroseref02_Ints, go_sem]
 refine ⟨fun hc => ?_, fun hc => ?_⟩
 ·rw [decide_eq_false]
  rintro rfl
  simp at hc
 have hlm : l.length = m.length := by simp at hc; omega
 refine V_loop (ι := Nat) (J := fun k => k ≤ l.length ∧ ∀ i, i < k → l.getD i default = m.getD i default) (env := fun i => [(0, .p (intsL l)), (1, .p (intsL m)), (5, .i i)]) (mem := fun _ => []) (μ := fun k => l.length - k) 0 ⟨Nat.zero_le _, fun j hj => by omega⟩ (into0 (by simp only [go_sem])) ?_
 rintro k ⟨hk, hok⟩
 simp only [go_sem]
 refine ⟨fun h1 => ?_, fun h1 => ?_⟩
 ·refine ⟨by omega, by omega, fun hc => ?_, fun hc => ⟨k + 1, ⟨by omega, fun j hj => ?_⟩, by omega, into0 ?_⟩⟩
  ·rw [decide_eq_false (ne_dec (k := k) (by simpa using hc))]
  ·by_cases e : j = k
   ·subst e; simpa using hc
   ·exact hok j (by omega)
  ·simp only [go_sem, w64s (show k < 9223372036854775807 by omega)]
 ·have e : l = m := getD_ext hlm fun i hi => hok i (by omega)
  rw [decide_eq_true e]
abbrev evtCells (x : Evt) : List AV := [.c (.v (.int .i64 x.client)), .c (.v (.int .i64 x.id)), .c (.v (.int .i64 x.group)), .c (.v (.int .i64 x.op.kind)), .c (.v (.string x.op.ser)), .c (.v (.int .i64 x.op.smp.t)), .c (.v (.int .i64 x.op.smp.v)), .c (.v (.int .i64 x.op.frm)), .c (.v (.int .i64 x.op.to)), .c (.v (.int .i64 x.op.tot)), .c (.v (.int .i64 x.bg)), .c (.v (.int .i64 x.en)), .c (.v (.int .i64 x.ans.code)), .c (.v (.bool x.ans.has)), .c (.v (.int .i64 x.ans.n))]
abbrev evtA (x : Evt) : Pt := .agg (evtCells x)
abbrev evtB (v : Nat) (x : Evt) : Blk := .rows 69 15 v [evtCells x] true
theorem decI (x y : Int) : (x == y) = decide (x = y) := by rw [Bool.eq_iff_iff]; simp
theorem hin_rc (n lo hi : Int) (M : List Blk) : CallR Tryz.prog M n_history_in [.i n, .i lo, .i hi] (.b (decide (lo ≤ n) && decide (n ≤ hi))) M := by
 refine callP F_history_in (Nat.le_of_ble_eq_true rfl) (by simp only [go_sem]) (by simp only [go_sem]) ?_ M
 simp only [c_history_in, go_sem]
set_option maxRecDepth 20000 in
theorem hone_rc (e : Evt) (hs : e.op.ser.size ≤ 2000) (M : List Blk) : CallR Tryz.prog M n_history_one [evtA e] (.b (evOne e)) M := by
 refine callPG F_history_one (Nat.le_of_ble_eq_true rfl) (by simp only [go_sem]) ?_ M
 refine run_seqV ?_
 simp only [go_sem]
 refine run_seqV ?_
 simp only [go_sem]
 refine call0 (hin_rc e.client 1 2147483647) ?_
 simp only [go_sem]
 refine callg0 (fun _ => hin_rc e.id 1 2147483647) ?_
 simp only [go_sem]
 refine callg0 (fun _ => hin_rc e.group 0 7) ?_
 simp only [go_sem]
 refine callg0 (fun _ => hin_rc e.bg 1 2147483647) ?_
 simp only [go_sem]
 refine callg0 (fun _ => hin_rc e.en e.bg 2147483647) ?_
 simp only [go_sem]
 refine callg0 (fun _ => CheckOp_rc e.op hs) ?_
 simp only [go_sem]
 refine run_ret (endB (evOne e) _ _ 2 ?_)
 simp only [go_sem]
 unfold evOne in31
 rw [decI]
 cases opOk e.op <;> simp
theorem hentry_rc (e : Evt) (M : List Blk) : CallR Tryz.prog M n_history_entry [evtA e] (.p (entA (entE e))) M := by
 refine callPG F_history_entry (Nat.le_of_ble_eq_true rfl) (by simp only [go_sem]) ?_ M
 refine run_seqV ?_
 simp only [go_sem]
 refine V_sound ?_
 simp only [go_sem]
 exact fin0 (.inr rfl) (qs := [entA (entE e)]) (cnd := True) (by simp only [go_sem]; rfl) trivial (SubS.refl _) (by simp only [go_sem, opRow])
theorem of_take {l : List Evt} {g : Int} {k : Nat} (hk : k < l.length) : ofS (l.take (k + 1)) g = ofS (l.take k) g ++ if (l.getD k default).group = g then [(k : Int)] else [] := by
 have h1 : ∀ n, n ≤ l.length → ofS (l.take n) g = ((List.range n).filter fun i => decide ((l.getD i default).group = g)).map fun (i : Nat) => (i : Int) := by
  intro n hn
  unfold ofS
  rw [List.length_take, Nat.min_eq_left hn]
  congr 1
  refine List.filter_congr fun i hi => ?_
  have := List.mem_range.1 hi
  rw [List.getD_eq_getElem?_getD, List.getElem?_take, if_pos this, List.getD_eq_getElem?_getD]
 rw [h1 _ hk, h1 _ (by omega), List.range_succ, List.filter_append, List.map_append]
 congr 1
 rw [List.filter_cons]
 by_cases h : (l.getD k default).group = g
 ·rw [if_pos h, decide_eq_true h]; rfl
 ·rw [if_neg h, decide_eq_false h]; rfl
set_option maxRecDepth 20000 in
theorem hOf_rc (l : List Evt) (hl : l.length ≤ 100) (g : Int) (M : List Blk) : CallR Tryz.prog M n_history_Of [evL l, .i g] (.p (intsL (ofS l g))) M := by
 refine callPG F_history_Of (Nat.le_of_ble_eq_true rfl) (by simp only [go_sem]) ?_ M
 refine run_seqV ?_
 simp only [go_sem]
 refine run_seqV ?_
 simp only [go_sem]
 refine run_seqV ?_
 simp only [go_sem]
 refine run_gh (gh_born 5 3 1 (by simp only [go_sem])) ?_
 simp only [List.cons_append, List.nil_append, List.length_cons, List.length_nil, Nat.zero_add]
 refine R_loop (ι := Nat × Nat × Bool) (J := fun p => p.1 ≤ l.length)
  (env := fun p => [(1, .i g), (5, .p (.one (.arr 1 0 p.2.1 0 (ofS (l.take p.1) g).length))), (8, .p (evL l)), (9, .i l.length), (10, .i p.1)])
  (mem := fun p => [intsR 3 p.2.1 (ofS (l.take p.1) g) p.2.2])
  (μ := fun p => l.length - p.1) (0, 0, true) (Nat.zero_le _) ⟨[], rfl, Nat.zero_le _, ?_, ?_⟩ ?_
 ·simp only [go_sem, List.take_zero]
  rfl
 ·simp only [go_sem, ltB]
  exact fun r hr => (rowsL_row r hr).2 _
 rintro ⟨k, v, f⟩ hk
 simp only at hk
 refine run_seqV ?_
 simp only [go_sem]
 refine run_seqV ?_
 simp only [go_sem]
 refine ⟨fun h1 => ?_, fun h1 => ?_⟩
 ·have e3 : IntKind.i64.wrap ((k : Int) + 1) = ((k + 1 : Nat) : Int) := w64s (by omega)
  have hst := of_take (g := g) h1
  have hle : (ofS (l.take k) g).length ≤ 100 := Nat.le_trans (of_len _ _) (by rw [List.length_take]; omega)
  generalize ofS (l.take k) g = ws at hst hle
  refine V_sound ?_
  simp only [go_sem, int_row, rowsL_len, e3]
  refine ⟨⟨by omega, h1⟩, fun hc => ?_, fun hc => ?_⟩
  ·rw [if_pos hc] at hst
   refine ⟨by omega, (k + 1, v + 1, false), h1, by simp only []; omega, [_, _], by simp only [hst]; rfl, Nat.zero_le _, ?_, ?_⟩
   ·simp only [go_sem, hst, List.length_append, List.length_cons, List.length_nil, Nat.zero_add]
   ·simp only [go_sem, ltB]
    exact fun r hr => (rowsL_row r hr).2 _
  ·rw [if_neg hc, List.append_nil] at hst
   refine ⟨(k + 1, v, f), h1, by simp only []; omega, [_], by simp only [hst]; rfl, Nat.zero_le _, ?_, ?_⟩
   ·simp only [go_sem, hst]
   ·simp only [go_sem, ltB]
    exact fun r hr => (rowsL_row r hr).2 _
 ·have hkl : k = l.length := by omega
  subst hkl
  rw [List.take_length]
  refine V_sound ?_
  simp only [go_sem]
  exact end_ints (ofS l g) _ _ v f 4 0 (by simp only [go_sem]) rfl
theorem chk_f {l : List Evt} {k : Nat} (hk : k < l.length) (h : chkAt l k = false) : chkS l = false := by rw [chkS, all_f hk h]
theorem chkAt_f {l : List Evt} {j k : Nat} (hj : j < k) (h : evPair (l.getD j default) (l.getD k default) = true) : chkAt l k = false := by
 rw [chkAt, all_f hj (by rw [h]; rfl), Bool.and_false]
theorem badE (a b : Evt) : (a.client == b.client && (a.id == b.id || decide (b.bg < if a.bg < a.en then a.en else a.bg))) = evBad a b := by
 rw [evBad, decI, decI]
 congr 3
 rw [Int.max_def]
 rw [eq_iff_iff]
 split <;> split <;> omega
set_option maxRecDepth 20000 in
theorem hCheck_rc (l : List Evt) (hl : l.length ≤ 100) (hs : ∀ e ∈ l, e.op.ser.size ≤ 2000) (M : List Blk) : CallR Tryz.prog M n_history_Check [evL l] (.i (if chkS l then 0 else 1)) M := by
 refine callPG F_history_Check (Nat.le_of_ble_eq_true rfl) (by simp only [go_sem]) ?_ M
 refine run_seqV ?_
 simp only [go_sem]
 refine run_seqV ?_
 simp only [go_sem]
 refine R_loop (ι := Nat) (J := fun k => k ≤ l.length ∧ ∀ i, i < k → chkAt l i = true)
  (env := fun k => [(0, .p (evL l)), (9, .p (evL l)), (10, .i l.length), (11, .i k)])
  (mem := fun _ => []) (μ := fun k => l.length - k) 0 ⟨Nat.zero_le _, fun j hj => absurd hj (Nat.not_lt_zero _)⟩ ⟨[], rfl, Nat.zero_le _, ?_, ?_⟩ ?_
 ·simp only [go_sem]
 ·intro x hx; cases hx
 rintro k ⟨hk, hok⟩
 refine run_seqV ?_
 simp only [go_sem]
 refine run_seqV ?_
 simp only [go_sem]
 refine ⟨fun h1 => ?_, fun h1 => ?_⟩
 ·have e3 : IntKind.i64.wrap ((k : Int) + 1) = ((k + 1 : Nat) : Int) := w64s (by omega)
  have hsz : (l.getD k default).op.ser.size ≤ 2000 := by rw [gd_get h1]; exact hs _ (List.getElem_mem h1)
  refine run_seq ?_
  refine run_block ?_
  refine run_seqV ?_
  simp only [go_sem]
  refine ⟨⟨by omega, h1⟩, run_seqV ?_⟩
  simp only [go_sem]
  refine call0 (hone_rc (l.getD k default) hsz) ?_
  simp only [go_sem]
  refine ⟨fun hc => ?_, fun hc => ?_⟩
  ·rw [chk_f h1 (by unfold chkAt; rw [show evOne (l.getD k default) = false by simpa using hc]; rfl)]
   exact fin0 (.inr rfl) (qs := [.i 1]) (cnd := True) (by simp only [go_sem]) trivial (SubS.refl _) (by simp only [go_sem])
  have hone : evOne (l.getD k default) = true := by simpa using hc
  refine run_seqV ?_
  simp only [go_sem]
  refine ⟨⟨by omega, by omega⟩, run_block ?_⟩
  refine R_loop (ι := Nat) (J := fun j => j ≤ k ∧ ∀ i, i < j → evPair (l.getD i default) (l.getD k default) = false)
   (env := fun j => [(0, .p (evL l)), (4, .p (.one (.ptr 0 0 0 0))), (9, .p (evL l)), (10, .i l.length), (11, .i k), (21, .p (.one (.c (.imm 15 k fun i j => Evt.c (l.getD (0 + i) default) j)))), (22, .i k), (23, .i j)])
   (mem := fun _ => [evtB 0 (l.getD k default)]) (μ := fun j => k - j) 0 ⟨Nat.zero_le _, fun j hj => absurd hj (Nat.not_lt_zero _)⟩ ⟨[], rfl, Nat.zero_le _, ?_, ?_⟩ ?_
  ·simp only [go_sem]
   trace_state
  ·simp only [go_sem, ltB]
  rintro j ⟨hj, hpr⟩
  refine run_seqV ?_
  simp only [go_sem]
  refine run_seqV ?_
  simp only [go_sem]
  refine ⟨fun h2 => ?_, fun h2 => ?_⟩
  ·have e4 : IntKind.i64.wrap ((j : Int) + 1) = ((j + 1 : Nat) : Int) := w64s (by omega)
   refine run_seq ?_
   refine run_block ?_
   refine run_seqV ?_
   simp only [go_sem, Nat.zero_add]
   refine ⟨⟨by omega, by omega⟩, run_seqV ?_⟩
   simp only [go_sem]
   refine ⟨rfl, run_seqV ?_⟩
   simp only [go_sem]
   have hbad : evPair (l.getD j default) (l.getD k default) = true → chkS l = false := fun h => chk_f h1 (chkAt_f (by omega) h)
   have hnext : evPair (l.getD j default) (l.getD k default) = false → ∀ i, i < j + 1 → evPair (l.getD i default) (l.getD k default) = false := fun h i hi => by
    by_cases e : i = j
    ·subst e; exact h
    ·exact hpr i (by omega)
   refine ⟨fun hc => ?_, fun hc => ?_⟩
   ·rw [evPair, if_pos hc] at hbad hnext
    refine V_sound ?_
    simp only [go_sem, badE]
    refine ⟨fun hd => ?_, fun hd => ?_⟩
    ·rw [hbad hd]
     exact fin0 (.inr rfl) (qs := [.i 1]) (cnd := True) (by simp only [go_sem]) trivial (SubS.refl _) (by simp only [go_sem])
    ·refine V_sound ?_
     simp only [go_sem, e4]
     refine ⟨j + 1, ⟨by omega, hnext hd⟩, by omega, [_, _, _], rfl, Nat.zero_le _, ?_, ?_⟩
     ·simp only [go_sem]
     ·simp only [go_sem, ltB]
   ·rw [evPair, if_neg hc] at hbad hnext
    refine V_sound ?_
    simp only [go_sem, badE]
    refine ⟨fun hd => ?_, fun hd => ?_⟩
    ·rw [hbad hd]
     exact fin0 (.inr rfl) (qs := [.i 1]) (cnd := True) (by simp only [go_sem]) trivial (SubS.refl _) (by simp only [go_sem])
    ·refine V_sound ?_
     simp only [go_sem, e4]
     refine ⟨j + 1, ⟨by omega, hnext hd⟩, by omega, [_, _, _], rfl, Nat.zero_le _, ?_, ?_⟩
     ·simp only [go_sem]
     ·simp only [go_sem, ltB]
  ·have hkj : j = k := by omega
   subst hkj
   refine V_sound ?_
   simp only [go_sem, e3]
   refine ⟨j + 1, ⟨h1, fun i hi => ?_⟩, by omega, [_], rfl, Nat.zero_le _, ?_, ?_⟩
   ·by_cases e : i = j
    ·subst e
     rw [chkAt, hone, Bool.true_and, all_range]
     intro q hq
     rw [hpr q hq]; rfl
    ·exact hok i (by omega)
   ·simp only [go_sem]
   ·intro x hx; cases hx
 ·have hkl : k = l.length := by omega
  subst hkl
  rw [show chkS l = true from all_range.2 hok]
  refine V_sound ?_
  simp only [go_sem]
  exact fin0 (.inr rfl) (qs := [.i 0]) (cnd := True) (by simp only [go_sem]) trivial (SubS.refl _) (by simp only [go_sem])
end Go.Proofs.YtpdcpdngckpgbaaGreat.A
end
section
namespace Go.Proofs.YtpdcpdngckpgbaaGreat.A
open Go Go.Proofs Go.Proofs.YtpdcpdngckpgbaaGreatAbs
set_option maxRecDepth 20000 in
theorem idxI_rc {p : Int → Bool} (fn k : Nat) (caps : Nat → AV) (hcaps : ∀ i, i < k → ltA 0 (caps i)) (l : List Int) (hl : l.length ≤ 140737488355328)
  (h : ∀ i, i < l.length → ∀ M, CallR Tryz.prog M fn ([.i (l.getD i default)] ++ capsL caps 0 k) (.b (p (l.getD i default))) M) (M : List Blk) :
  CallR Tryz.prog M n_slices_IndexFunc_int_int [intsL l, .one (.fn fn k caps)] (.i (if l.findIdx p < l.length then (l.findIdx p : Int) else -1)) M := by
 refine callP F_slices_IndexFunc_int_int (Nat.le_of_ble_eq_true rfl) (by simp only [go_sem]; exact hcaps) (by simp only [go_sem]) ?_ M
 simp only [c_slices_IndexFunc_int_int, go_sem]
 refine V_loop (ι := Nat) (J := fun k => k ≤ l.length ∧ ∀ i, i < k → p (l.getD i default) = false) (env := fun i => [(0, .p (intsL l)), (1, .p (.one (.fn fn k caps))), (7, .i l.length), (8, .i i)]) (mem := fun _ => []) (μ := fun k => l.length - k) 0 ⟨Nat.zero_le _, fun i hi => absurd hi (Nat.not_lt_zero _)⟩ (into0 (by simp only [go_sem]; exact hcaps)) ?_
 rintro i ⟨hk, hne⟩
 simp only [go_sem]
 refine ⟨fun h1 => ⟨by omega, ?_⟩, fun h1 => ?_⟩
 ·refine call0 (h i h1) ?_
  simp only [go_sem]
  refine ⟨fun hc => ?_, fun hc => ⟨i + 1, ⟨by omega, fun j hj => ?_⟩, by omega, into0 ?_⟩⟩
  ·have : l.findIdx p = i := by
    rw [List.findIdx_eq h1]
    refine ⟨by rwa [getD_get h1] at hc, fun j hj => ?_⟩
    have := hne j hj
    rwa [getD_get (show j < l.length by omega)] at this
   rw [this, if_pos h1]
  ·by_cases e : j = i
   ·subst e; exact hc
   ·exact hne j (by omega)
  ·simp only [go_sem, w64s (show i < 9223372036854775807 by omega)]
   exact hcaps
 ·rw [if_neg]
  have : l.findIdx p = l.length := by
   rw [List.findIdx_eq_length]
   intro y hy
   obtain ⟨j, hj, rfl⟩ := List.mem_iff_getElem.1 hy
   have := hne j (by omega)
   rwa [getD_get hj] at this
  omega
theorem any_idx {α : Type} (l : List α) (p : α → Bool) : decide (0 ≤ (if l.findIdx p < l.length then (l.findIdx p : Int) else -1)) = l.any p := by
 rw [Bool.eq_iff_iff, decide_eq_true_eq, List.any_eq_true]
 split
 ·rename_i h
  exact ⟨fun _ => ⟨_, List.getElem_mem h, List.findIdx_getElem (w := h)⟩, fun _ => by omega⟩
 ·rename_i h
  constructor
  ·intro h2; omega
  ·rintro ⟨x, hx, hp⟩
   exact absurd (List.findIdx_lt_length_of_exists ⟨x, hx, hp⟩) h
theorem cfI_rc {p : Int → Bool} (fn k : Nat) (caps : Nat → AV) (hcaps : ∀ i, i < k → ltA 0 (caps i)) (l : List Int) (hl : l.length ≤ 140737488355328)
  (h : ∀ i, i < l.length → ∀ M, CallR Tryz.prog M fn ([.i (l.getD i default)] ++ capsL caps 0 k) (.b (p (l.getD i default))) M) (M : List Blk) :
  CallR Tryz.prog M n_slices_ContainsFunc_int_int [intsL l, .one (.fn fn k caps)] (.b (l.any p)) M := by
 refine callP F_slices_ContainsFunc_int_int (Nat.le_of_ble_eq_true rfl) (by simp only [go_sem]; exact hcaps) (by simp only [go_sem]) ?_ M
 simp only [c_slices_ContainsFunc_int_int, go_sem]
 refine call0 (idxI_rc fn k caps hcaps l hl h) ?_
 simp only [go_sem, any_idx]
theorem snap_cell {M : List Blk} {b t : Nat} {x : CV} (hb : M[b]? = some (.rows t 1 0 [[.c x]] true)) : Snap M (.ptr b 0 0 0) (.ip 1 fun _ => x) :=
 .ptr b 0 0 0 1 t 1 [[.c x]] true _ hb Nat.zero_lt_one (Nat.le_refl 1) Nat.zero_lt_one fun k hk => by
  obtain rfl : k = 0 := by omega
  exact .same _ trivial
def mayF (l : List Evt) (i : Int) (j : Nat) : AV := if j = 0 then .ip 1 (fun _ => immL 15 Evt.c l) else .ip 1 (fun _ => .v (.int .i64 i))
theorem may1_rc (l : List Evt) (k i : Int) (hk : 0 ≤ k ∧ k < l.length) (hi : 0 ≤ i ∧ i < l.length) (M : List Blk) : CallR Tryz.prog M n_history_may_1 [.i k, .one (.ip 1 fun _ => immL 15 Evt.c l), .one (.ip 1 fun _ => .v (.int .i64 i))] (.b (aheadE (evAt l k) (evAt l i))) M := by
 refine callP F_history_may_1 (Nat.le_of_ble_eq_true rfl) (by simp only [go_sem]) (by simp only [go_sem]) ?_ M
 simp only [c_history_may_1, go_sem]
 exact ⟨hk, fun _ => hk, fun _ => hi, rfl⟩
set_option maxRecDepth 20000 in
theorem may_rc (l : List Evt) (left : List Int) (hl : left.length ≤ 1000) (hm : ∀ k ∈ left, 0 ≤ k ∧ k < l.length) (i : Int) (hi : 0 ≤ i ∧ i < l.length) (M : List Blk) : CallR Tryz.prog M n_history_may [evL l, intsL left, .i i] (.b (mayS l left i)) M := by
 refine callPG F_history_may (Nat.le_of_ble_eq_true rfl) (by simp only [go_sem]) ?_ M
 refine run_seqV ?_
 simp only [go_sem]
 refine run_seqV ?_
 simp only [go_sem]
 have hc := cfI_rc n_history_may_1 2 (mayF l i) (fun j hj => by unfold mayF; split <;> trivial) left (by omega) (p := fun k => aheadE (evAt l k) (evAt l i)) (fun j hj M => may1_rc l _ i (hm _ (by rw [gd_get hj]; exact List.getElem_mem hj)) hi M) []
 refine callL hc ⟨Snap.same _ trivial, Snap.fn _ _ _ _ fun j hj => ?_, trivial⟩ (by simp only [go_sem]) ?_
 ·have : j = 0 ∨ j = 1 := by omega
  rcases this with rfl | rfl
  ·exact snap_cell rfl
  ·exact snap_cell rfl
 simp only [go_sem]
 refine run_ret (endB (mayS l left i) _ _ 6 ?_)
 simp only [go_sem]
 rw [mayS, List.not_any_eq_all_not]
def overF (l : List Evt) (_ : Nat) : AV := .ip 1 fun _ => immL 15 Evt.c l
theorem over1_rc (l : List Evt) (k : Int) (hk : 0 ≤ k ∧ k < l.length) (M : List Blk) : CallR Tryz.prog M n_history_over_1 [.i k, .one (.ip 1 fun _ => immL 15 Evt.c l)] (.b (decide (0 < (evAt l k).en))) M := by
 refine callP F_history_over_1 (Nat.le_of_ble_eq_true rfl) (by simp only [go_sem]) (by simp only [go_sem]) ?_ M
 simp only [c_history_over_1, go_sem]
 exact ⟨hk, rfl⟩
set_option maxRecDepth 20000 in
theorem over_rc (l : List Evt) (left : List Int) (hl : left.length ≤ 1000) (hm : ∀ k ∈ left, 0 ≤ k ∧ k < l.length) (M : List Blk) : CallR Tryz.prog M n_history_over [evL l, intsL left] (.b (overS l left)) M := by
 refine callPG F_history_over (Nat.le_of_ble_eq_true rfl) (by simp only [go_sem]) ?_ M
 refine run_seqV ?_
 simp only [go_sem]
 refine run_seqV ?_
 simp only [go_sem]
 have hc := cfI_rc n_history_over_1 1 (overF l) (fun j hj => trivial) left (by omega) (p := fun k => decide (0 < (evAt l k).en)) (fun j hj M => over1_rc l _ (hm _ (by rw [gd_get hj]; exact List.getElem_mem hj)) M) []
 refine callL hc ⟨Snap.same _ trivial, Snap.fn _ _ _ _ fun j hj => ?_, trivial⟩ (by simp only [go_sem]) ?_
 ·obtain rfl : j = 0 := by omega
  exact snap_cell rfl
 simp only [go_sem]
 refine run_ret (endB (overS l left) _ _ 4 ?_)
 simp only [go_sem]
 rw [overS, List.not_any_eq_all_not]
end Go.Proofs.YtpdcpdngckpgbaaGreat.A
end
section
namespace Go.Proofs.YtpdcpdngckpgbaaGreat.A
open Go Go.Proofs Go.Proofs.YtpdcpdngckpgbaaGreatAbs
theorem wo1_rc (x k : Int) (M : List Blk) : CallR Tryz.prog M n_history_without_1 [.i k, .one (.ip 1 fun _ => .v (.int .i64 x))] (.b (decide (k = x))) M := by
 refine callP F_history_without_1 (Nat.le_of_ble_eq_true rfl) (by simp only [go_sem]) (by simp only [go_sem]) ?_ M
 simp only [c_history_without_1, go_sem, decI]
abbrev boxI (x : Int) : Blk := .rows 3 1 0 [[.c (.v (.int .i64 x))]] true
abbrev woF : Pt := .one (.fn n_history_without_1 1 fun k => [AV.ptr 0 0 0 0].getD k default)
set_option maxRecDepth 20000 in
theorem delI_rc (l : List Int) (hl : l.length ≤ 1000) (x : Int) : CallR Tryz.prog [boxI x, intsR 3 1 l false] n_slices_DeleteFunc_int_int [.one (.arr 1 1 1 0 l.length), woF] (.p (.one (.arr 1 1 1 0 (woS l x).length))) [boxI x, intsR 3 1 (woS l x) false] := by
 have hB : ∀ X : List Int, ∀ y ∈ [boxI x, intsR 3 1 X false], ltB 2 y := fun X y hy => by
  simp only [List.mem_cons, List.not_mem_nil, or_false] at hy
  rcases hy with rfl | rfl
  ·simp only [go_sem, ltB]
  ·exact rowsL_ltB _ _ _ _ _
 refine callR_intro F_slices_DeleteFunc_int_int (by simp) ?_
 refine run_seqV ?_
 simp only [c_slices_DeleteFunc_int_int, go_sem]
 refine run_seqV ?_
 simp only [go_sem]
 have hsn : ∀ j, j < 1 → Snap [boxI x, intsR 3 1 l false] ([AV.ptr 0 0 0 0].getD j default) (.ip 1 fun _ => .v (.int .i64 x)) := fun j hj => by
  obtain rfl : j = 0 := by omega
  exact snap_cell rfl
 have hlt : ∀ j, j < 1 → ltA 2 ([AV.ptr 0 0 0 0].getD j default) := fun j hj => by
  obtain rfl : j = 0 := by omega
  simp only [go_sem]
 have hI : CallR Tryz.prog [boxI x, intsR 3 1 l false] n_slices_IndexFunc_int_int [.one (.arr 1 1 1 0 l.length), woF] (.i (if l.findIdx (fun k => decide (k = x)) < l.length then (l.findIdx (fun k => decide (k = x)) : Int) else -1)) [boxI x, intsR 3 1 l false] :=
  callR_lend (idxI_rc (p := fun k => decide (k = x)) n_history_without_1 1 (fun _ => .ip 1 fun _ => .v (.int .i64 x)) (fun _ _ => trivial) l (by omega) (fun i hi M => wo1_rc x _ M) []) ⟨snapL (c := intC) l rfl, Snap.fn _ _ _ _ fun j hj => hsn j hj, trivial⟩ (by simp only [go_sem])
 refine call1 hI (by simp only [go_sem]) (fun h => Bool.noConfusion h) ?_
 simp only [go_sem]
 refine run_seqV ?_
 by_cases hat : l.findIdx (fun k => decide (k = x)) < l.length
 case neg =>
  rw [if_neg hat]
  have hd : woS l x = l := filter_idx hat
  rw [hd]
  simp only [go_sem]
  refine fin_own (.inr rfl) (Gh.refl _) [] (cnd := True) rfl trivial rfl (leS_of rfl) (Nat.le_refl _) ?_ (hB _)
  simp only [go_sem]
 rw [if_pos hat]
 simp only [go_sem]
 obtain ⟨q, hq⟩ : ∃ q, q = l.findIdx (fun k => decide (k = x)) := ⟨_, rfl⟩
 have hat1 : woS (l.take (l.findIdx (fun k => decide (k = x)) + 1)) x = l.take (l.findIdx (fun k => decide (k = x))) := filter_at hat
 rw [← hq] at hat hat1 ⊢
 have e1 : IntKind.i64.wrap ((q : Int) + 1) = ((q + 1 : Nat) : Int) := w64s (by omega)
 refine run_seqV ?_
 simp only [go_sem, e1]
 have hFa : ∀ (z : List Int) (y : Int), woS (z ++ [y]) x = woS z x ++ (if y = x then [] else [y]) := fun z y => by
  unfold woS
  rw [List.filter_append, List.filter_cons]
  by_cases h : y = x <;> simp [h]
 refine R_loop (ι := Nat × List Int) (J := fun d => d.1 ≤ l.length ∧ (woS (l.take d.1) x).length < d.1 ∧ d.2.length = l.length ∧ d.2.take (woS (l.take d.1) x).length = woS (l.take d.1) x ∧ d.2.drop d.1 = l.drop d.1)
  (env := fun d => [(0, .p (.one (.arr 1 1 1 0 l.length))), (1, .p woF), (5, .i (woS (l.take d.1) x).length), (6, .i d.1)])
  (mem := fun d => [boxI x, intsR 3 1 d.2 false]) (μ := fun d => l.length - d.1) (q + 1, l) ⟨hat, ?_, rfl, ?_, rfl⟩ ⟨[], rfl, Nat.le_refl _, ?_, hB _⟩ ?_
 ·rw [hat1, List.length_take]; omega
 ·rw [hat1, List.length_take, Nat.min_eq_left (by omega)]
 ·simp only [go_sem, hat1, List.length_take, Nat.min_eq_left (Nat.le_of_lt hat)]
  exact hlt
 rintro ⟨j, cur⟩ ⟨hj, hij, hcl2, htk, hdr⟩
 simp only at hj hij hcl2 htk hdr
 refine run_seqV ?_
 simp only [go_sem, rowsL_len, hcl2]
 obtain ⟨i, hi⟩ : ∃ i, i = (woS (l.take j) x).length := ⟨_, rfl⟩
 rw [← hi] at hij htk ⊢
 have e2 : IntKind.i64.wrap ((i : Int) + 1) = ((i + 1 : Nat) : Int) := w64s (by omega)
 have e3 : IntKind.i64.wrap ((j : Int) + 1) = ((j + 1 : Nat) : Int) := w64s (by omega)
 refine ⟨fun h1 => ?_, fun h1 => ?_⟩
 ·have hx : cur.getD j default = l.getD j default := by
   have a := drop_getD (d := (default : Int)) (l := cur) (k := j) (by omega)
   have b := drop_getD (d := (default : Int)) (l := l) (k := j) h1
   rw [a, b] at hdr
   exact (List.cons.inj hdr).1
  have hdr' : cur.drop (j + 1) = l.drop (j + 1) := by
   have := congrArg List.tail hdr
   simpa using this
  have hrow : (rowsL 1 intC cur).getD j [] = [.c (.v (.int .i64 (l.getD j default)))] := by rw [rowsL_getD (by omega), hx]; rfl
  have htj : l.take (j + 1) = l.take j ++ [l.getD j default] := take_succ_getD default h1
  refine run_seq ?_
  refine run_block ?_
  refine run_seqV ?_
  simp only [go_sem, rowsL_len, hcl2, hrow]
  generalize l.getD j default = y at hx hrow htj ⊢
  refine ⟨by omega, by omega, run_seqV ?_⟩
  simp only [go_sem]
  refine callL (wo1_rc x y []) ⟨Snap.same _ trivial, snap_cell rfl, trivial⟩ (by simp only [go_sem]) ?_
  simp only [go_sem]
  have hrl : (rowsL 1 intC cur).getD i [] = [.c (.v (.int .i64 (cur.getD i default)))] := by rw [rowsL_getD (by omega)]; rfl
  have hset : (rowsL 1 intC cur).set i [.c (.v (.int .i64 y))] = rowsL 1 intC (cur.set i y) := rowsL_set cur i y
  refine V_sound ?_
  simp only [go_sem, rowsL_len, hcl2, e2, hrl, hset]
  refine ⟨fun hc => ?_, fun hc => ?_⟩
  ·have hc : ¬ y = x := by simpa using hc
   have hn : woS (l.take (j + 1)) x = woS (l.take j) x ++ [y] := by rw [htj, hFa, if_neg hc]
   have hi' : (woS (l.take (j + 1)) x).length = i + 1 := by rw [hn, List.length_append, ← hi]; rfl
   refine ⟨⟨by omega, by omega⟩, by omega, V_sound ?_⟩
   simp only [go_sem, e3]
   refine ⟨(j + 1, cur.set i y), ⟨h1, by show (woS (l.take (j + 1)) x).length < j + 1; rw [hi']; omega, by simp only [List.length_set]; exact hcl2, ?_, ?_⟩, by simp only []; omega, [], rfl, Nat.le_refl _, ?_, hB _⟩
   ·show (cur.set i y).take (woS (l.take (j + 1)) x).length = woS (l.take (j + 1)) x
    rw [hi', hn, ← htk, take_succ_getD default (by rw [List.length_set]; omega), List.take_set_of_le (Nat.le_refl _), getD_set_self (by omega)]
   ·simp only []
    rw [List.drop_set_of_lt (by omega)]; exact hdr'
   ·simp only [go_sem, hi']
    exact hlt
  ·have hc : y = x := by simpa using hc
   have hn : woS (l.take (j + 1)) x = woS (l.take j) x := by rw [htj, hFa, if_pos hc, List.append_nil]
   refine V_sound ?_
   simp only [go_sem, e3]
   refine ⟨(j + 1, cur), ⟨h1, by show (woS (l.take (j + 1)) x).length < j + 1; rw [hn, ← hi]; omega, hcl2, by simp only [hn]; rw [← hi]; exact htk, hdr'⟩, by simp only []; omega, [], rfl, Nat.le_refl _, ?_, hB _⟩
   simp only [go_sem, hn, ← hi]
   exact hlt
 ·have hjn : j = l.length := by omega
  subst hjn
  rw [List.take_length] at hi htk
  refine V_sound ?_
  have hil : (i = l.length ∧ ¬ (i : Int) = 0) = False := by simp only [eq_iff_iff, iff_false]; omega
  simp only [go_sem, rowsL_len, hcl2, hil, if_false, ← hi]
  refine ⟨by omega, by omega, by omega, fin_own (.inr rfl) (gh_trunc (b := 1) i rfl) [] (cnd := True) rfl trivial ?_ (leS_of ?_) (Nat.le_refl _) ?_ (hB _)⟩
  ·have hti : (List.take i (rowsL 1 intC cur)).length = i := by rw [List.length_take, rowsL_len]; omega
   simp only [List.append_nil]
   rw [List.append_assoc, List.take_left' hti, rowsL_take, htk]
   rfl
  ·rw [hi]; rfl
  ·simp only [go_sem]
set_option maxRecDepth 20000 in
theorem without_rc (l : List Int) (hl : l.length ≤ 1000) (x : Int) (M : List Blk) : CallR Tryz.prog M n_history_without [intsL l, .i x] (.p (intsL (woS l x))) M := by
 refine callPG F_history_without (Nat.le_of_ble_eq_true rfl) (by simp only [go_sem]) ?_ M
 refine run_seqV ?_
 simp only [go_sem]
 refine run_seqV ?_
 simp only [go_sem]
 refine call1 (cloneO_rc (c := intC) F_slices_Clone_int_int l (by omega) (by simp only [go_sem, ltB])) (by simp only [go_sem]) (fun h => Bool.noConfusion h) ?_
 simp only [go_sem]
 refine call1 (delI_rc l hl x) (by simp only [go_sem]) (fun h => Bool.noConfusion h) ?_
 simp only [go_sem]
 exact run_ret (end_ints (woS l x) _ _ 1 false 4 1 (by simp only [go_sem]) rfl)
end Go.Proofs.YtpdcpdngckpgbaaGreat.A
end
section
namespace Go.Proofs.YtpdcpdngckpgbaaGreat.A
open Go Go.Proofs Go.Proofs.YtpdcpdngckpgbaaGreatAbs
end Go.Proofs.YtpdcpdngckpgbaaGreat.A
end
section
namespace Go.Proofs.YtpdcpdngckpgbaaGreat.A
open Go Go.Proofs Go.Proofs.YtpdcpdngckpgbaaGreatAbs
end Go.Proofs.YtpdcpdngckpgbaaGreat.A
end
section
namespace Go.Proofs.YtpdcpdngckpgbaaGreat.A
open Go Go.Proofs Go.Proofs.YtpdcpdngckpgbaaGreatAbs
theorem ansNe (a b : Ans) : (!(a.code == b.code) || (!(a.has == b.has) || !(a.n == b.n))) = !decide (a = b) := by
 rw [← ans_eq, Bool.not_and, Bool.not_and]
theorem fitE (l : List Evt) (i : Int) (a : Ans) : (decide (0 < (l.getD i.toNat default).en) && (!(a.code == (l.getD i.toNat default).ans.code) || (!(a.has == (l.getD i.toNat default).ans.has) || !(a.n == (l.getD i.toNat default).ans.n)))) = !fitsA (evAt l i) a := by
 rw [ansNe, fitsA, Bool.not_not]
 rfl
end Go.Proofs.YtpdcpdngckpgbaaGreat.A
end
section
namespace Go.Proofs.YtpdcpdngckpgbaaGreat.A
open Go Go.Proofs Go.Proofs.YtpdcpdngckpgbaaGreatAbs
theorem wo_range {l : List Evt} {left : List Int} (h : ∀ i ∈ left, 0 ≤ i ∧ i < l.length) (x : Int) : ∀ i ∈ woS left x, 0 ≤ i ∧ i < l.length := fun i hi => h i (mem_wo.1 hi).1
theorem ev_sz {l : List Evt} {m : Nat} (hs : ∀ e ∈ l, e.op.ser.size ≤ m) {i : Int} (hi : 0 ≤ i ∧ i < l.length) : (entE (evAt l i)).op.ser.size ≤ m := by
 show (l.getD i.toNat default).op.ser.size ≤ m
 rw [gd_get (by omega)]
 exact hs _ (List.getElem_mem (by omega))
end Go.Proofs.YtpdcpdngckpgbaaGreat.A
end
section
namespace Go.Proofs.YtpdcpdngckpgbaaGreatAbs
open Go Go.RowKit
def rowT (acc : List (List Nat)) (o : Oper) : List Nat := ((o.after.toList.filter (Region.binds .any)).flatMap fun e => e.on :: acc.getD e.on []).eraseDups
def tabA (ops : List Oper) (acc : List (List Nat)) : List (List Nat) := ops.foldl (fun acc o => acc ++ [rowT acc o]) acc
theorem tabA_pre : ∀ (ops : List Oper) (acc : List (List Nat)), ∃ t, tabA ops acc = acc ++ t
 | [], acc => ⟨[], (List.append_nil _).symm⟩
 | o :: ops, acc => by
  obtain ⟨t, h⟩ := tabA_pre ops (acc ++ [rowT acc o])
  exact ⟨rowT acc o :: t, by show tabA ops _ = _; rw [h, List.append_assoc]; rfl⟩
theorem tabA_row : ∀ (ops : List Oper) (acc : List (List Nat)) (i : Nat) (o : Oper), ops[i]? = some o → ∃ acc', (tabA ops acc).getD (acc.length + i) [] = rowT acc' o ∧ acc'.length = acc.length + i ∧ ∃ t, tabA ops acc = acc' ++ t
 | [], acc, i, o, h => by simp at h
 | p :: ops, acc, 0, o, h => by
  injection h with h
  subst h
  obtain ⟨t, ht⟩ := tabA_pre ops (acc ++ [rowT acc p])
  refine ⟨acc, ?_, rfl, [rowT acc p] ++ t, by show tabA ops _ = _; rw [ht, List.append_assoc]⟩
  show (tabA ops _).getD _ _ = _
  rw [ht, List.append_assoc, Nat.add_zero, List.getD_eq_getElem?_getD, List.getElem?_append_right (Nat.le_refl _), Nat.sub_self]
  rfl
 | p :: ops, acc, i + 1, o, h => by
  obtain ⟨acc', h1, h2, h3⟩ := tabA_row ops (acc ++ [rowT acc p]) i o h
  rw [List.length_append, List.length_cons, List.length_nil, Nat.zero_add, Nat.add_assoc, Nat.add_comm 1 i] at h1 h2
  exact ⟨acc', h1, h2, h3⟩
theorem tabT_row {ops : List Oper} {i : Nat} {o : Oper} (h : ops[i]? = some o) {k : Nat} : k ∈ (tabT ops).getD i [] ↔ ∃ e ∈ o.after.toList, Region.binds .any e = true ∧ (k = e.on ∨ e.on < i ∧ k ∈ (tabT ops).getD e.on []) := by
 obtain ⟨acc, h1, h2, t, h3⟩ := tabA_row ops [] i o h
 simp only [List.length_nil, Nat.zero_add] at h1 h2
 have h1 : (tabT ops).getD i [] = rowT acc o := h1
 have h3 : tabT ops = acc ++ t := h3
 have hg : ∀ m, m < i → (tabT ops).getD m [] = acc.getD m [] := fun m hm => by rw [h3, List.getD_eq_getElem?_getD, List.getD_eq_getElem?_getD, List.getElem?_append_left (by omega)]
 have hn : ∀ m, ¬ m < i → acc.getD m [] = [] := fun m hm => by rw [List.getD_eq_getElem?_getD, List.getElem?_eq_none (by omega)]; rfl
 rw [h1, rowT, List.mem_eraseDups, List.mem_flatMap]
 constructor
 ·rintro ⟨e, he, hk⟩
  obtain ⟨he1, he2⟩ := List.mem_filter.1 he
  refine ⟨e, he1, he2, ?_⟩
  rcases List.mem_cons.1 hk with hk | hk
  ·exact .inl hk
  ·by_cases hm : e.on < i
   ·exact .inr ⟨hm, by rwa [hg _ hm]⟩
   ·rw [hn _ hm] at hk; cases hk
 ·rintro ⟨e, he1, he2, hk⟩
  refine ⟨e, List.mem_filter.2 ⟨he1, he2⟩, List.mem_cons.2 ?_⟩
  rcases hk with hk | ⟨hm, hk⟩
  ·exact .inl hk
  ·exact .inr (by rwa [hg _ hm] at hk)
theorem tabT_trans {ops : List Oper} : ∀ (i : Nat), i < ops.length → ∀ {k j : Nat}, k ∈ (tabT ops).getD i [] → j ∈ (tabT ops).getD k [] → (∀ (i : Nat) (o : Oper), ops[i]? = some o → ∀ e ∈ o.after.toList, Region.binds .any e = true → e.on < i) → j ∈ (tabT ops).getD i [] := by
 intro i
 induction i using Nat.strongRecOn with
 | _ i ih =>
  intro hi k j hk hj hlt
  have ho := List.getElem?_eq_getElem hi
  rw [tabT_row ho] at hk ⊢
  obtain ⟨e, he, hb, hk⟩ := hk
  have hm := hlt i _ ho e he hb
  rcases hk with rfl | ⟨_, hk⟩
  ·exact ⟨e, he, hb, .inr ⟨hm, hj⟩⟩
  ·exact ⟨e, he, hb, .inr ⟨hm, ih e.on hm (by omega) hk hj hlt⟩⟩
def reach (nc : List (List Nat)) : Nat → Nat → Nat → Bool
 | 0, _, _ => false
 | f + 1, i, k => (nc.getD i []).any fun m => m == k || reach nc f m k
def clTab (ols : List OpL) : List (List Nat) := (List.range ols.length).map fun i => (List.range i).filter fun k => reach (ncTab ols) ols.length i k
theorem ncTab_get {ols : List OpL} {i k : Nat} (h : k ∈ (ncTab ols).getD i []) : i < ols.length ∧ k < i ∧ ∀ x y, ols[i]? = some x → ols[k]? = some y → commOk y x = false := by
 by_cases hi : i < ols.length
 ·rw [ncTab, List.getD_eq_getElem?_getD, List.getElem?_map, List.getElem?_range hi] at h
  simp only [Option.map_some, Option.getD_some] at h
  obtain ⟨h1, h2⟩ := List.mem_filter.1 h
  refine ⟨hi, List.mem_range.1 h1, fun x y hx hy => ?_⟩
  rw [hx, hy] at h2
  simpa using h2
 ·rw [ncTab, List.getD_eq_getElem?_getD, List.getElem?_eq_none (by simpa using hi)] at h
  cases h
theorem reach_tab {ops : Array Oper} {ols : List OpL} (hl : ols.length = ops.size) (hok : okDraw ops ols (tabT ops.toList) = true) : ∀ (f i k : Nat), i < ols.length → reach (ncTab ols) f i k = true → k ∈ (tabT ops.toList).getD i []
 | 0, _, _, _, h => by cases h
 | f + 1, i, k, hi, h => by
  rw [reach, List.any_eq_true] at h
  obtain ⟨m, hm, h⟩ := h
  obtain ⟨_, hmi, hno⟩ := ncTab_get hm
  have hil : i < ops.size := by omega
  have row : ∀ i, i < ops.size → ∃ o x, ops[i]? = some o ∧ ols[i]? = some x ∧ okAt ops ols (tabT ops.toList) i o x = true := fun i hil => by
   have h1 := List.all_eq_true.1 hok i (List.mem_range.2 hil)
   rw [Array.getElem?_eq_getElem hil, List.getElem?_eq_getElem (by omega)] at h1
   exact ⟨_, _, Array.getElem?_eq_getElem hil, List.getElem?_eq_getElem (by omega), h1⟩
  have hlt : ∀ (i : Nat) (o : Oper), ops.toList[i]? = some o → ∀ e ∈ o.after.toList, Region.binds .any e = true → e.on < i := by
   intro i o ho e he hb
   have hil : i < ops.size := by
    have := (List.getElem?_eq_some_iff.1 ho).1
    simpa using this
   obtain ⟨o', x, ho', _, h1⟩ := row i hil
   simp only [okAt, Bool.and_eq_true] at h1
   have : o' = o := by
    rw [Array.getElem?_toList] at ho
    rw [ho] at ho'
    injection ho' with ho'
    exact ho'.symm
   subst this
   have h2 := List.all_eq_true.1 h1.1.1 e he
   rw [hb] at h2
   simpa using h2
  have hmT : m ∈ (tabT ops.toList).getD i [] := by
   obtain ⟨o, x, ho, hx, h1⟩ := row i hil
   simp only [okAt, Bool.and_eq_true] at h1
   have h2 := List.all_eq_true.1 h1.2 m (List.mem_range.2 hmi)
   simp only [Bool.or_eq_true] at h2
   rcases h2 with h2 | h2
   ·simpa using h2
   ·have hy := List.getElem?_eq_getElem (show m < ols.length by omega)
    rw [hy] at h2
    have h3 : commOk ols[m] x = true := h2
    rw [hno x _ hx hy] at h3
    cases h3
  rw [Bool.or_eq_true, beq_iff_eq] at h
  rcases h with rfl | h
  ·exact hmT
  ·exact tabT_trans i (by simpa using hil) hmT (reach_tab hl hok f m k (by omega) h) hlt
section
variable {P : Program} {n m : Nat} {e : Nat → SV} {M : List Blk} {K : Exit → St → Prop}
theorem run_regT0 {ols : List OpL} {xs : List XOp} {s : St} (he : xs.map (·.op) = ols) (hp : pairsX (clTab ols) xs = true) (h : runX P xs s (K .normal)) : Run P n m (.reg true ols) s K := by
 intro code hc I σ M w0 a w hm hs
 obtain ⟨id, ops, rfl, hls, hd⟩ := compC_reg hc
 obtain ⟨hmx, hok⟩ := hd rfl
 refine wp_region_any hmx ?_
 have hlen : xs.length = ops.size := by have := compLs_length hls; rw [← he] at this; simpa using this
 have hol : ols.length = ops.size := by rw [← he, List.length_map, hlen]
 refine any_soundX (xs := xs) (rem := xs.zipIdx.map fun p => (p.2, p.1)) (T := tabT ops.toList) hm.2 (okDraw_tab hok) (fun i k x y hx hy hki => ?_) (K := K .normal) (fun s a w h1 h2 => ⟨s, h1, h2⟩) ops.size _ s a _ (by simp [hlen]) ?_ ?_ ?_ (by simp) ?_ ?_ hs.drew
 ·rcases pairsX_spec hp hx hy hki with h3 | h3
  ·left
   have hil : i < ols.length := by rw [hol, ← hlen]; exact (List.getElem?_eq_some_iff.1 hx).1
   rw [clTab, List.getD_eq_getElem?_getD, List.getElem?_map, List.getElem?_range hil] at h3
   simp only [Option.map_some, Option.getD_some, List.contains_iff_mem] at h3
   rw [List.contains_iff_mem]
   exact reach_tab hol hok _ i k hil (List.mem_filter.1 h3).2
  ·exact .inr h3
 ·subst he
  intro p hp
  obtain ⟨q, hq, rfl⟩ := List.mem_map.1 hp
  have hq' : xs[q.2]? = some q.1 := List.mem_zipIdx_iff_getElem?.1 (show (q.1, q.2) ∈ xs.zipIdx from hq)
  obtain ⟨o, ho, hco⟩ := compLs_get hls q.2 q.1.op (by rw [List.getElem?_map, hq']; rfl)
  exact ⟨hq', o, by simpa using ho, hco⟩
 ·rw [List.pairwise_map]
  refine List.pairwise_iff_getElem.2 (fun i j hi hj hij => ?_)
  simp only [List.getElem_zipIdx]
  omega
 ·intro i hi
  have h0 : (Array.replicate ops.size false).getD i true = false := by simp [hi]
  refine ⟨fun _ => ?_, fun _ => h0⟩
  have hi' : i < xs.length := by omega
  refine ⟨xs[i], List.mem_map.2 ⟨(xs[i], i), ?_, rfl⟩⟩
  exact List.mem_zipIdx_iff_getElem?.2 (List.getElem?_eq_getElem hi')
 ·intro j o hj hl
  simp at hl
  by_cases h : j < ops.size
  ·simp [h] at hl
  ·simp [h] at hl
 ·have e0 : (xs.zipIdx.map fun p => (p.2, p.1)).map (·.2) = xs := by
   apply List.ext_getElem?
   intro i
   simp [List.getElem?_zipIdx]
   cases xs[i]? <;> rfl
  rw [e0]
  exact h
theorem run_regT {ols : List OpL} {c : C} (k : Nat) (h : evX P (clTab ols) ols M.length [] e (M ++ List.replicate k (.rows 0 0 0 [] true)) (fun s => Run P n m c s K)) : Run P n m (.seq (.reg true ols) c) ⟨e, M⟩ K := by
 refine run_gh (gh_res k) (run_seq ?_)
 obtain ⟨xs, h1, h2⟩ := evX_sound h
 obtain ⟨h3, h4⟩ := runX_pure h2
 exact run_regT0 h1 (by simpa using h3) h4
theorem run_regTe {ols : List OpL} (k : Nat) (h : evX P (clTab ols) ols M.length [] e (M ++ List.replicate k (.rows 0 0 0 [] true)) (K .normal)) : Run P n m (.reg true ols) ⟨e, M⟩ K := by
 refine run_gh (gh_res k) ?_
 obtain ⟨xs, h1, h2⟩ := evX_sound h
 obtain ⟨h3, h4⟩ := runX_pure h2
 exact run_regT0 h1 (by simpa using h3) h4
def OpsS (P : Program) (n m : Nat) (ols : List OpL) (s : St) (K : St → Prop) : Prop :=
 ∀ (ops : Array Oper) (l : List Oper) (k : Nat) (I : Im) (σ : List Plc) (M : List Blk) (w0 : World) (Q : Exit → Act → World → Prop) (a : Act) (w : World), σ.length = m → GI P I → (∀ s a w, Sim n I σ M w0 s a w → K s → Q .normal a w) → (∀ j, j < l.length → l[j]? = ops[k + j]?) → compLs P n ops l = some ols → Sim n I σ M w0 s a w → wpOps P ops Q (List.range' k l.length) a w
theorem opsS_ops {ols : List OpL} {s : St} {K : St → Prop} (h : runOps P false ols s K) : OpsS P n m ols s K := fun ops l k I σ M w0 Q a w _ hG hQ hl hc hs => ops_sound hG hQ l k ols s a w hl hc h hs
theorem opsS_gh {ols : List OpL} {s s' : St} {K : St → Prop} (hg : Gh n m s s') (h : OpsS P n m ols s' K) : OpsS P n m ols s K := fun ops l k I σ M w0 Q a w hm hG hQ hl hc hs => h ops l k I σ M w0 Q a w hm hG hQ hl hc (hg I σ M w0 a w hm hs)
theorem opsS_cut : ∀ (t : Nat) {ols : List OpL} {s : St} {K : St → Prop}, runOps P false (ols.take t) s (fun s' => OpsS P n m (ols.drop t) s' K) → OpsS P n m ols s K
 | 0, ols, s, K, h => h
 | t + 1, [], s, K, h => h
 | t + 1, x :: xs, s, K, h => fun ops l k I σ M w0 Q a w hm hG hQ hl hc hs => by
  obtain ⟨r, M', h1, h2⟩ := h
  cases l with
  | nil => injection hc with hc; cases hc
  | cons o l =>
   simp only [compLs, Option.bind_eq_some_iff, Option.map_eq_some_iff] at hc
   obtain ⟨x', hx, xs', hxs, hxe⟩ := hc
   injection hxe with e1 e2
   subst e1 e2
   have h0 : ops[k]? = some o := by have := hl 0 (by simp); simpa using this.symm
   rw [List.length_cons, List.range'_succ, wpOps_cons]
   refine wpOp_of h0 (sim_step hG hx hs h1 (fun v w' hS => ?_))
   exact opsS_cut t h2 ops l (k + 1) I σ M w0 Q _ _ hm hG hQ (fun j hj => by have := hl (j + 1) (by simp; omega); simpa [Nat.add_assoc, Nat.add_comm 1 j] using this) hxs hS
theorem opsS_ev {ols : List OpL} {e : Nat → SV} {M : List Blk} {K : St → Prop} (t : Nat) (h : ev P false (ols.take t) e M (fun s' => OpsS P n m (ols.drop t) s' K)) : OpsS P n m ols ⟨e, M⟩ K := opsS_cut t (ev_sound h)
theorem opsS_end {ols : List OpL} {e : Nat → SV} {M : List Blk} {K : St → Prop} (h : ev P false ols e M K) : OpsS P n m ols ⟨e, M⟩ K := opsS_ops (ev_sound h)
theorem run_S {ols : List OpL} {c : C} {s : St} (h : OpsS P n m ols s (fun s => Run P n m c s K)) : Run P n m (.seq (.reg false ols) c) s K := by
 refine run_seq ?_
 intro code hc I σ M w0 a w hm hs
 obtain ⟨id, ops, rfl, hls, hd⟩ := compC_reg hc
 refine wp_region ?_
 have := h ops ops.toList 0 I σ M w0 (fun e a' w' => ∃ s', Sim n I σ M w0 s' a' w' ∧ andThen (fun s' => Run P n m c s' K) K e s') a w hm.1 hm.2 (fun s a w h1 h2 => ⟨s, h1, h2⟩) (fun j hj => by simp) hls hs
 rw [List.range_eq_range']
 simpa using this
end
end Go.Proofs.YtpdcpdngckpgbaaGreatAbs
end
section
namespace Go.Proofs.YtpdcpdngckpgbaaGreat.A
open Go Go.Proofs Go.Proofs.YtpdcpdngckpgbaaGreatAbs
theorem byteAt_int (n : Int) (k : Nat) : IntKind.u8.wrap (n.fdiv (2 ^ (8 * k))) = ((byteAt n k).toNat : Int) := by
 unfold byteAt
 rw [UInt8.toNat_ofNat', IntKind.wrap_u8]
 generalize n.fdiv (2 ^ (8 * k)) = x
 omega
theorem w8_take {n : Int} {k : Nat} (hk : k < 8) : (w8 n).take (k + 1) = (w8 n).take k ++ [byteAt n k] := by
 rw [take_succ_getD default (by rw [w8_len]; exact hk)]
 congr 2
 rw [gd_get (by rw [w8_len]; exact hk)]
 simp [w8]
abbrev byR (v : Nat) (L : List UInt8) (f : Bool) : Blk := .rows 5 1 v (byteRows L) f
set_option maxRecDepth 20000 in
theorem word_rc {M : List Blk} {b v : Nat} {f : Bool} {L : List UInt8} (hb : M[b]? = some (byR v L f)) (hL : L.length ≤ 100000000) (n : Int) : CallR Tryz.prog M n_history_word [.one (.arr 1 b v 0 L.length), .i n] (.p (.one (.arr 1 b (v + 8) 0 (L ++ w8 n).length))) (M.set b (byR (v + 8) (L ++ w8 n) false)) := by
 refine callR_wf fun hMB => ?_
 have hbl : b < M.length := getElem?_lt hb
 have hB : ∀ (v : Nat) (X : List UInt8) (f : Bool), ∀ x ∈ M.set b (byR v X f), ltB (M.set b (byR v X f)).length x := fun v X f => ltM_set hMB (lt_byteRows _ _)
 refine callR_intro F_history_word (by simp) ?_
 refine run_seqV ?_
 simp only [c_history_word, go_sem]
 refine run_seqV ?_
 simp only [go_sem]
 refine R_loop (ι := Nat × Bool) (J := fun p => p.1 ≤ 8)
  (env := fun p => [(0, .p (.one (.arr 1 b (v + p.1) 0 (L ++ (w8 n).take p.1).length))), (1, .i n), (6, .i p.1)])
  (mem := fun p => M.set b (byR (v + p.1) (L ++ (w8 n).take p.1) p.2)) (μ := fun p => 8 - p.1) (0, f) (Nat.zero_le _) ⟨[], ?_, ?_, ?_, hB _ _ _⟩ ?_
 ·simp only [Nat.add_zero, List.take_zero, List.append_nil]
  exact (set_self hb).symm
 ·rw [List.length_set]; exact Nat.le_refl _
 ·simp only [go_sem, List.length_set, Nat.add_zero, List.take_zero, List.append_nil]
  exact hbl
 rintro ⟨k, f'⟩ hk
 simp only at hk
 refine run_seqV ?_
 simp only [go_sem]
 refine run_seqV ?_
 simp only [go_sem]
 refine ⟨fun h1 => ?_, fun h1 => ?_⟩
 ·have hk8 : k < 8 := by omega
  have e3 : IntKind.i64.wrap ((k : Int) + 1) = ((k + 1 : Nat) : Int) := w64s (by omega)
  have e8 : IntKind.i64.wrap (8 * (k : Int)) = ((8 * k : Nat) : Int) := by rw [w64 (by omega) (by omega)]; omega
  have em : min (8 * k) 64 = 8 * k := by omega
  refine V_sound ?_
  simp only [go_sem, e8, em, e3, Int.toNat_natCast, byteAt_int, gb hbl, gl2, sl2, ga, sa, List.length_set, hbl]
  have htl : ((w8 n).take k).length = k := by rw [List.length_take, w8_len]; omega
  refine ⟨by omega, by rw [List.length_append, htl]; omega, (k + 1, false), hk8, by simp only []; omega, [_], by rw [List.set_set, List.append_assoc, ← w8_take hk8, Nat.add_assoc], ?_, ?_, hB _ _ _⟩
  ·rw [List.length_set]; exact Nat.le_refl _
  ·simp only [go_sem, List.length_set, w8_take hk8, List.length_append, List.length_cons, List.length_nil, Nat.add_assoc, Nat.zero_add]
   exact hbl
 ·have hk8 : k = 8 := by omega
  subst hk8
  have ht8 : (w8 n).take 8 = w8 n := List.take_of_length_le (by rw [w8_len]; exact Nat.le_refl _)
  rw [ht8]
  refine V_sound ?_
  simp only [go_sem]
  refine fin_own (.inr rfl) (gh_trunc (b := b) (L ++ w8 n).length (gb hbl)) [] (cnd := True) rfl trivial ?_ (leS_of rfl) ?_ ?_ (hB _ _ _)
  ·simp only [List.set_set, List.append_nil, byteRows_take]
  ·rw [List.length_set]; exact Nat.le_refl _
  ·simp only [go_sem, List.length_set]
   exact hbl
theorem fm_len {α : Type} {f : α → List UInt8} {c : Nat} : ∀ {l : List α}, (∀ x ∈ l, (f x).length ≤ c) → (l.flatMap f).length ≤ c * l.length
 | [], _ => Nat.zero_le _
 | x :: l, h => by
  have h1 := h x List.mem_cons_self
  have h2 := fm_len (l := l) (f := f) (c := c) fun y hy => h y (List.mem_cons_of_mem _ hy)
  rw [List.flatMap_cons, List.length_append, List.length_cons, Nat.mul_succ]
  omega
theorem fm_take {α : Type} [Inhabited α] (f : α → List UInt8) {l : List α} {k : Nat} (hk : k < l.length) : (l.take (k + 1)).flatMap f = (l.take k).flatMap f ++ f (l.getD k default) := by
 rw [take_succ_getD default hk, List.flatMap_append]
 simp
theorem dnW_len (d : Dn) : (dnW d).length = 40 := by simp [dnW, w8_len]
theorem smW_len (y : Smp) : (smW y).length = 16 := by simp [smW, w8_len]
theorem lnW_len {x : Lin} (h1 : x.ser.size ≤ 2000) (h2 : x.smps.length ≤ 1000) : (lnW x).length ≤ 18016 := by
 have h3 := fm_len (l := x.smps) (f := smW) (c := 16) fun y _ => by rw [smW_len]; exact Nat.le_refl _
 simp only [lnW, List.length_append, w8_len, bs_len]
 omega
def head8 (n : Nat) : UInt8 := UInt8.ofNat (n % 256)
theorem head8_int (n : Nat) : IntKind.u8.wrap (n : Int) = ((head8 n).toNat : Int) := by
 unfold head8
 rw [UInt8.toNat_ofNat', IntKind.wrap_u8]
 omega
def mkA (left : List Int) (k : Nat) : List UInt8 := head8 left.length :: (left.take k).flatMap w8
def mkB (left : List Int) (s : Shf) (k : Nat) : List UInt8 := mkA left left.length ++ w8 s.floor ++ (s.dones.take k).flatMap dnW
def mkC (left : List Int) (s : Shf) (k : Nat) : List UInt8 := mkB left s s.dones.length ++ (s.lines.take k).flatMap lnW
theorem mkA_len (left : List Int) {k : Nat} (hk : k ≤ left.length) : (mkA left k).length ≤ 1 + 8 * left.length := by
 have := fm_len (l := left.take k) (f := w8) (c := 8) fun y _ => by rw [w8_len]; exact Nat.le_refl _
 rw [List.length_take] at this
 unfold mkA
 rw [List.length_cons]
 omega
theorem mkB_len (left : List Int) (s : Shf) {k : Nat} (hk : k ≤ s.dones.length) : (mkB left s k).length ≤ 9 + 8 * left.length + 40 * s.dones.length := by
 have h1 := mkA_len left (Nat.le_refl left.length)
 have := fm_len (l := s.dones.take k) (f := dnW) (c := 40) fun y _ => by rw [dnW_len]; exact Nat.le_refl _
 rw [List.length_take] at this
 unfold mkB
 rw [List.length_append, List.length_append, w8_len]
 omega
theorem mkC_len (left : List Int) (s : Shf) (hser : ∀ i, i < s.lines.length → (s.lines.getD i default).ser.size ≤ 2000) (hsmp : ∀ i, i < s.lines.length → (s.lines.getD i default).smps.length ≤ 1000) {k : Nat} (hk : k ≤ s.lines.length) : (mkC left s k).length ≤ 9 + 8 * left.length + 40 * s.dones.length + 18016 * s.lines.length := by
 have h1 := mkB_len left s (Nat.le_refl s.dones.length)
 have := fm_len (l := s.lines.take k) (f := lnW) (c := 18016) fun y hy => by
  obtain ⟨j, hj, rfl⟩ := List.mem_iff_getElem.1 (List.mem_of_mem_take hy)
  have a := hser j hj
  have b := hsmp j hj
  rw [gd_get hj] at a b
  exact lnW_len a b
 rw [List.length_take] at this
 unfold mkC
 rw [List.length_append]
 omega
set_option maxRecDepth 20000 in
theorem mark_rc (left : List Int) (hl : left.length ≤ 1000) (s : Shf) (hz : zShf s) (M : List Blk) : CallR Tryz.prog M n_history_mark [intsL left, shfA s] (.s (markS left s)) M := by
 refine callPG F_history_mark (Nat.le_of_ble_eq_true rfl) (by simp only [go_sem]) ?_ M
 obtain ⟨hll, hdl, hser, hsmp⟩ := hz
 have hB : ∀ (v : Nat) (L : List UInt8) (f : Bool), ∀ x ∈ [shfB s, byR v L f], ltB 2 x := fun v L f x hx => by
  simp only [List.mem_cons, List.not_mem_nil, or_false] at hx
  rcases hx with rfl | rfl
  ·simp only [go_sem, ltB]
  ·exact lt_byteRows _ _
 refine run_seqV ?_
 simp only [go_sem]
 refine run_seqV ?_
 simp only [go_sem, head8_int]
 have hrow : [[AV.c (CV.v (Value.int IntKind.u8 ((head8 left.length).toNat : Int)))]] = byteRows (mkA left 0) := rfl
 rw [hrow]
 refine run_seqV ?_
 simp only [go_sem]
 have hw : ∀ {N : List Blk} {v : Nat} {L : List UInt8} {f : Bool} (n : Int), L.length ≤ 100000000 → N[1]? = some (byR v L f) → CallR Tryz.prog N n_history_word [.one (.arr 1 1 v 0 L.length), .i n] (.p (.one (.arr 1 1 (v + 8) 0 (L ++ w8 n).length))) (N.set 1 (byR (v + 8) (L ++ w8 n) false)) := fun n hL h => word_rc h hL n
 refine R_loop (ι := Nat × Nat × Bool) (J := fun p => p.1 ≤ left.length)
  (env := fun p => [(3, .p (.one (.ptr 0 0 0 0))), (5, .p (.one (.arr 1 1 p.2.1 0 (mkA left p.1).length))), (19, .p (intsL left)), (20, .i left.length), (21, .i p.1)])
  (mem := fun p => [shfB s, byR p.2.1 (mkA left p.1) p.2.2]) (μ := fun p => left.length - p.1) (0, 0, true) (Nat.zero_le _) ⟨[], rfl, Nat.zero_le _, ?_, hB _ _ _⟩ ?_
 ·simp only [go_sem]
  rfl
 rintro ⟨k, v, f⟩ hk
 simp only at hk
 refine run_seqV ?_
 simp only [go_sem]
 refine run_seqV ?_
 simp only [go_sem]
 refine ⟨fun h1 => ?_, fun h1 => ?_⟩
 ·have e3 : IntKind.i64.wrap ((k : Int) + 1) = ((k + 1 : Nat) : Int) := w64s (by omega)
  have hst : mkA left (k + 1) = mkA left k ++ w8 (left.getD k default) := by unfold mkA; rw [fm_take w8 h1]; rfl
  have hle := mkA_len left hk
  generalize mkA left k = L at hst hle ⊢
  refine V_sound ?_
  simp only [go_sem]
  refine ⟨⟨by omega, h1⟩, call1 (hw (left.getD k default) (by omega) rfl) (by simp only [go_sem]) (fun h => Bool.noConfusion h) ?_⟩
  simp only [go_sem, e3]
  refine ⟨(k + 1, v + 8, false), h1, by simp only []; omega, [], by simp only [hst]; rfl, Nat.zero_le _, ?_, hB _ _ _⟩
  simp only [go_sem, hst]
 have hkl : k = left.length := by omega
 subst hkl
 clear h1 hk
 refine run_seqV ?_
 simp only [go_sem]
 have hle := mkA_len left (Nat.le_refl left.length)
 refine call1 (hw s.floor (by omega) rfl) (by simp only [go_sem]) (fun h => Bool.noConfusion h) ?_
 simp only [go_sem]
 have hb0 : mkA left left.length ++ w8 s.floor = mkB left s 0 := by unfold mkB; simp
 rw [hb0]
 generalize v + 8 = v0
 refine run_seqV ?_
 simp only [go_sem]
 refine R_loop (ι := Nat × Nat × Bool) (J := fun p => p.1 ≤ s.dones.length)
  (env := fun p => [(3, .p (.one (.ptr 0 0 0 0))), (5, .p (.one (.arr 1 1 p.2.1 0 (mkB left s p.1).length))), (34, .p (dnL s.dones)), (35, .i s.dones.length), (36, .i p.1)])
  (mem := fun p => [shfB s, byR p.2.1 (mkB left s p.1) p.2.2]) (μ := fun p => s.dones.length - p.1) (0, v0, false) (Nat.zero_le _) ⟨[], rfl, Nat.zero_le _, ?_, hB _ _ _⟩ ?_
 ·simp only [go_sem]
 rintro ⟨k, v, f⟩ hk
 simp only at hk
 refine run_seqV ?_
 simp only [go_sem]
 refine run_seqV ?_
 simp only [go_sem]
 refine ⟨fun h1 => ?_, fun h1 => ?_⟩
 ·have e3 : IntKind.i64.wrap ((k : Int) + 1) = ((k + 1 : Nat) : Int) := w64s (by omega)
  have hst : mkB left s (k + 1) = mkB left s k ++ dnW (s.dones.getD k default) := by unfold mkB; rw [fm_take dnW h1, ← List.append_assoc]
  have hle := mkB_len left s hk
  generalize mkB left s k = L at hst hle ⊢
  refine run_seq ?_
  refine run_block ?_
  refine run_seqV ?_
  simp only [go_sem]
  refine ⟨⟨by omega, h1⟩, run_seqV ?_⟩
  simp only [go_sem]
  refine run_seqV ?_
  simp only [go_sem]
  refine ⟨fun hc => ?_, fun hc => ?_⟩
  ·refine run_regTe 0 ?_
   simp only [go_sem, List.replicate_zero, List.append_nil]
   generalize s.dones.getD k default = d at hst hc ⊢
   refine callxf 3 [1] [(1, byR (v + 8) (L ++ w8 d.client) false)] (by simp) (fun N hN => hw d.client (by omega) (hN 1 (by simp))) ?_
   simp only [apL, go_sem]
   refine callxf 3 [1] [(1, byR (v + 8 + 8) (L ++ w8 d.client ++ w8 d.id) false)] (by simp) (fun N hN => hw d.id (by simp only [List.length_append, w8_len]; omega) (hN 1 (by simp))) ?_
   simp only [apL, go_sem]
   refine callxf 3 [1] [(1, byR (v + 8 + 8 + 8) (L ++ w8 d.client ++ w8 d.id ++ w8 d.ans.code) false)] (by simp) (fun N hN => hw d.ans.code (by simp only [List.length_append, w8_len]; omega) (hN 1 (by simp))) ?_
   simp only [apL, go_sem]
   refine callxf 3 [1] [(1, byR (v + 8 + 8 + 8 + 8) (L ++ w8 d.client ++ w8 d.id ++ w8 d.ans.code ++ w8 1) false)] (by simp) (fun N hN => hw 1 (by simp only [List.length_append, w8_len]; omega) (hN 1 (by simp))) ?_
   simp only [apL, go_sem]
   refine callxf 3 [1] [(1, byR (v + 8 + 8 + 8 + 8 + 8) (L ++ w8 d.client ++ w8 d.id ++ w8 d.ans.code ++ w8 1 ++ w8 d.ans.n) false)] (by simp) (fun N hN => hw d.ans.n (by simp only [List.length_append, w8_len]; omega) (hN 1 (by simp))) ?_
   simp only [apL, go_sem]
   have hL : L ++ w8 d.client ++ w8 d.id ++ w8 d.ans.code ++ w8 1 ++ w8 d.ans.n = mkB left s (k + 1) := by
    rw [hst, dnW, hc]
    simp only [List.append_assoc]
    rfl
   rw [hL]
   refine ⟨rfl, V_sound ?_⟩
   simp only [go_sem, e3]
   refine ⟨(k + 1, v + 8 + 8 + 8 + 8 + 8, false), h1, by simp only []; omega, [_], rfl, Nat.zero_le _, ?_, hB _ _ _⟩
   simp only [go_sem]
  ·refine run_regTe 0 ?_
   simp only [go_sem, List.replicate_zero, List.append_nil]
   generalize s.dones.getD k default = d at hst hc ⊢
   refine callxf 3 [1] [(1, byR (v + 8) (L ++ w8 d.client) false)] (by simp) (fun N hN => hw d.client (by omega) (hN 1 (by simp))) ?_
   simp only [apL, go_sem]
   refine callxf 3 [1] [(1, byR (v + 8 + 8) (L ++ w8 d.client ++ w8 d.id) false)] (by simp) (fun N hN => hw d.id (by simp only [List.length_append, w8_len]; omega) (hN 1 (by simp))) ?_
   simp only [apL, go_sem]
   refine callxf 3 [1] [(1, byR (v + 8 + 8 + 8) (L ++ w8 d.client ++ w8 d.id ++ w8 d.ans.code) false)] (by simp) (fun N hN => hw d.ans.code (by simp only [List.length_append, w8_len]; omega) (hN 1 (by simp))) ?_
   simp only [apL, go_sem]
   refine callxf 3 [1] [(1, byR (v + 8 + 8 + 8 + 8) (L ++ w8 d.client ++ w8 d.id ++ w8 d.ans.code ++ w8 0) false)] (by simp) (fun N hN => hw 0 (by simp only [List.length_append, w8_len]; omega) (hN 1 (by simp))) ?_
   simp only [apL, go_sem]
   refine callxf 3 [1] [(1, byR (v + 8 + 8 + 8 + 8 + 8) (L ++ w8 d.client ++ w8 d.id ++ w8 d.ans.code ++ w8 0 ++ w8 d.ans.n) false)] (by simp) (fun N hN => hw d.ans.n (by simp only [List.length_append, w8_len]; omega) (hN 1 (by simp))) ?_
   simp only [apL, go_sem]
   have hL : L ++ w8 d.client ++ w8 d.id ++ w8 d.ans.code ++ w8 0 ++ w8 d.ans.n = mkB left s (k + 1) := by
    rw [hst, dnW, hc]
    simp only [List.append_assoc]
    rfl
   rw [hL]
   refine ⟨rfl, V_sound ?_⟩
   simp only [go_sem, e3]
   refine ⟨(k + 1, v + 8 + 8 + 8 + 8 + 8, false), h1, by simp only []; omega, [_], rfl, Nat.zero_le _, ?_, hB _ _ _⟩
   simp only [go_sem]
 have hkl : k = s.dones.length := by omega
 subst hkl
 clear h1 hk
 have hc0 : mkB left s s.dones.length = mkC left s 0 := by unfold mkC; simp
 rw [hc0]
 generalize v = v1
 refine run_seqV ?_
 simp only [go_sem]
 refine R_loop (ι := Nat × Nat × Bool) (J := fun p => p.1 ≤ s.lines.length)
  (env := fun p => [(5, .p (.one (.arr 1 1 p.2.1 0 (mkC left s p.1).length))), (62, .p (linL s.lines)), (63, .i s.lines.length), (64, .i p.1)])
  (mem := fun p => [shfB s, byR p.2.1 (mkC left s p.1) p.2.2]) (μ := fun p => s.lines.length - p.1) (0, v1, f) (Nat.zero_le _) ⟨[], rfl, Nat.zero_le _, ?_, hB _ _ _⟩ ?_
 ·simp only [go_sem]
 rintro ⟨k, v, f⟩ hk
 simp only at hk
 refine run_seqV ?_
 simp only [go_sem]
 refine run_seqV ?_
 simp only [go_sem]
 refine ⟨fun h1 => ?_, fun h1 => ?_⟩
 ·have e3 : IntKind.i64.wrap ((k : Int) + 1) = ((k + 1 : Nat) : Int) := w64s (by omega)
  have hst : mkC left s (k + 1) = mkC left s k ++ lnW (s.lines.getD k default) := by unfold mkC; rw [fm_take lnW h1, ← List.append_assoc]
  have hle := mkC_len left s hser hsmp hk
  generalize mkC left s k = L at hst hle ⊢
  have hx1 := hser k h1
  have hx2 := hsmp k h1
  refine run_seq ?_
  refine run_block ?_
  refine run_seqV ?_
  simp only [go_sem]
  refine ⟨⟨by omega, h1⟩, ?_⟩
  generalize s.lines.getD k default = x at hst hx1 hx2 ⊢
  refine run_regT 0 ?_
  simp only [go_sem, List.replicate_zero, List.append_nil]
  refine callxf 3 [1] [(1, byR (v + 8) (L ++ w8 x.smps.length) false)] (by simp) (fun N hN => hw _ (by omega) (hN 1 (by simp))) ?_
  simp only [apL, go_sem]
  refine callxf 3 [1] [(1, byR (v + 8 + 8) (L ++ w8 x.smps.length ++ w8 x.ser.size) false)] (by simp) (fun N hN => hw _ (by simp only [List.length_append, w8_len]; omega) (hN 1 (by simp))) ?_
  simp only [apL, go_sem]
  have hmap : ∀ (A : List UInt8) (t : ByteArray), byteRows A ++ (bs t).map byteRow = byteRows (A ++ bs t) := fun A t => byteRow_map A (bs t)
  refine ⟨by simp only [List.length_append, w8_len]; omega, rfl, run_seqV ?_⟩
  simp only [go_sem, hmap]
  have hlb : (L ++ w8 x.smps.length ++ w8 x.ser.size).length + x.ser.size = (L ++ w8 x.smps.length ++ w8 x.ser.size ++ bs x.ser).length := by rw [List.length_append (bs := bs x.ser), bs_len]
  simp only [hlb]
  have hle2 : (L ++ w8 x.smps.length ++ w8 x.ser.size ++ bs x.ser).length ≤ L.length + 3000 := by simp only [List.length_append, w8_len, bs_len]; omega
  have hst2 : mkC left s (k + 1) = L ++ w8 x.smps.length ++ w8 x.ser.size ++ bs x.ser ++ x.smps.flatMap smW := by rw [hst, lnW]; simp only [List.append_assoc]
  clear hst hlb
  generalize L ++ w8 x.smps.length ++ w8 x.ser.size ++ bs x.ser = Q at hle2 hst2 ⊢
  generalize v + 8 + 8 + 1 = v2
  refine run_block ?_
  refine R_loop (ι := Nat × Nat × Bool) (J := fun p => p.1 ≤ x.smps.length)
   (env := fun p => [(5, .p (.one (.arr 1 1 p.2.1 0 (Q ++ (x.smps.take p.1).flatMap smW).length))), (62, .p (linL s.lines)), (63, .i s.lines.length), (64, .i k), (81, .p (smpL x.smps)), (82, .i x.smps.length), (83, .i p.1)])
   (mem := fun p => [shfB s, byR p.2.1 (Q ++ (x.smps.take p.1).flatMap smW) p.2.2]) (μ := fun p => x.smps.length - p.1) (0, v2, false) (Nat.zero_le _) ⟨[_], by simp only [List.take_zero, List.flatMap_nil, List.append_nil]; rfl, Nat.zero_le _, ?_, hB _ _ _⟩ ?_
  ·simp only [go_sem, List.take_zero, List.flatMap_nil, List.append_nil]
  rintro ⟨j, v, f⟩ hj
  simp only at hj
  refine run_seqV ?_
  simp only [go_sem]
  refine run_seqV ?_
  simp only [go_sem]
  refine ⟨fun h2 => ?_, fun h2 => ?_⟩
  ·have e4 : IntKind.i64.wrap ((j : Int) + 1) = ((j + 1 : Nat) : Int) := w64s (by omega)
   have hst3 : Q ++ (x.smps.take (j + 1)).flatMap smW = Q ++ (x.smps.take j).flatMap smW ++ smW (x.smps.getD j default) := by rw [fm_take smW h2, ← List.append_assoc]
   have hle3 : (Q ++ (x.smps.take j).flatMap smW).length ≤ Q.length + 16000 := by
    have := fm_len (l := x.smps.take j) (f := smW) (c := 16) fun y _ => by rw [smW_len]; exact Nat.le_refl _
    rw [List.length_take] at this
    rw [List.length_append]
    omega
   generalize Q ++ (x.smps.take j).flatMap smW = R at hst3 hle3 ⊢
   refine run_seq ?_
   refine run_block ?_
   refine run_seqV ?_
   simp only [go_sem]
   refine ⟨⟨by omega, h2⟩, ?_⟩
   generalize x.smps.getD j default = y at hst3 ⊢
   refine run_regTe 0 ?_
   simp only [go_sem, List.replicate_zero, List.append_nil]
   refine callxf 3 [1] [(1, byR (v + 8) (R ++ w8 y.t) false)] (by simp) (fun N hN => hw _ (by omega) (hN 1 (by simp))) ?_
   simp only [apL, go_sem]
   refine callxf 3 [1] [(1, byR (v + 8 + 8) (R ++ w8 y.t ++ w8 y.v) false)] (by simp) (fun N hN => hw _ (by simp only [List.length_append, w8_len]; omega) (hN 1 (by simp))) ?_
   simp only [apL, go_sem]
   refine ⟨rfl, V_sound ?_⟩
   have hst4 : R ++ w8 y.t ++ w8 y.v = Q ++ (x.smps.take (j + 1)).flatMap smW := by rw [hst3, smW, List.append_assoc]
   simp only [go_sem, e4, hst4]
   refine ⟨(j + 1, v + 8 + 8, false), h2, by simp only []; omega, [_], rfl, Nat.zero_le _, ?_, hB _ _ _⟩
   simp only [go_sem]
  ·have hjl : j = x.smps.length := by omega
   subst hjl
   rw [List.take_length, ← hst2]
   refine V_sound ?_
   simp only [go_sem, e3]
   refine ⟨(k + 1, v, f), h1, by simp only []; omega, [], rfl, Nat.zero_le _, ?_, hB _ _ _⟩
   simp only [go_sem]
 have hkl : k = s.lines.length := by omega
 subst hkl
 clear h1 hk
 refine run_seqV ?_
 simp only [go_sem]
 have hm : mkC left s s.lines.length = markL left s := by
  unfold mkC mkB mkA markL
  rw [List.take_length, List.take_length, List.take_length]
  simp only [List.cons_append, List.append_assoc]
  rfl
 refine run_ret (fin0 (.inr rfl) (qs := [.s (markS left s)]) (cnd := True) ?_ trivial (SubS.refl _) (by simp only [go_sem]))
 simp only [go_sem, hm]
 rfl
end Go.Proofs.YtpdcpdngckpgbaaGreat.A
end
section
namespace Go.Proofs.YtpdcpdngckpgbaaGreat.A
open Go Go.Proofs Go.Proofs.YtpdcpdngckpgbaaGreatAbs
def dm (D : List ByteArray) : List (Value × Value) := D.map fun k => (.string k, .bool true)
abbrev mapB (D : List ByteArray) : Blk := .mp (dm D)
theorem beqB (a b : ByteArray) : (a == b) = decide (a = b) := by
 by_cases h : a = b
 ·subst h
  rw [decide_eq_true rfl]
  exact (beq_self_eq_true a.data : (a.data == a.data) = true)
 ·rw [decide_eq_false h]
  have : (a.data == b.data) = false := beq_eq_false_iff_ne.2 fun e => h (bs_inj (congrArg Array.toList e))
  exact this
theorem dm_find (k : ByteArray) : ∀ D : List ByteArray, mfind (dm D) (.string k) = if hasK D k = true then some (.bool true) else none
 | [] => rfl
 | a :: D => by
  show (bif keyEq (.string k) (.string a) then some (.bool true) else mfind (dm D) (.string k)) = _
  rw [dm_find k D]
  show (bif (k == a) then _ else _) = if (decide (a = k) || hasK D k) = true then _ else _
  rw [beqB]
  by_cases h : k = a
  ·subst h; simp
  ·rw [decide_eq_false h, decide_eq_false (fun e => h e.symm)]; rfl
theorem dm_put (k : ByteArray) : ∀ D : List ByteArray, mput (dm D) (.string k) (.bool true) = dm (putK D k)
 | [] => rfl
 | a :: D => by
  show (bif keyEq (.string k) (.string a) then (.string k, .bool true) :: dm D else (.string a, .bool true) :: mput (dm D) (.string k) (.bool true)) = _
  rw [dm_put k D]
  show (bif (k == a) then _ else _) = dm (if (decide (a = k) || hasK D k) = true then a :: D else a :: D ++ [k])
  rw [beqB]
  by_cases h : k = a
  ·subst h; simp [dm]
  ·rw [decide_eq_false h, decide_eq_false (fun e => h e.symm), Bool.false_or]
   unfold putK
   split <;> rfl
theorem dm_like (k : ByteArray) (D : List ByteArray) : (dm D).all (fun q => keyLike (.string k) q.1) = true := by
 rw [List.all_eq_true]
 intro q hq
 obtain ⟨a, _, rfl⟩ := List.mem_map.1 hq
 rfl
theorem dm_get (k : ByteArray) (D : List ByteArray) : (mfind (dm D) (.string k)).getD (.bool false) = .bool (hasK D k) := by
 rw [dm_find]
 cases hasK D k <;> rfl
theorem keyS (k : ByteArray) : keyV true (.string k) = true := rfl
@[go_sem] theorem ltA_mp (n b v : Nat) : ltA n (.mp b v) = (b < n) := rfl
def resT (o : Option (List Int)) : SV := .tup [intsL (o.getD []), .b o.isSome]
theorem end_none {n m : Nat} {e : Nat → SV} {D : List ByteArray} {X : List Blk} (hm : m ≤ 1) (h8 : e 8 = .p (.one (.c (.v (.slice none 0 0))))) (h9 : e 9 = .b false) : FinK n m [.t 8, .t 9] (resT none) [mapB D] .ret ⟨e, mapB D :: X⟩ := by
 refine fin_m (.inr rfl) (Gh.refl _) X (qs := [.one (.c (.v (.slice none 0 0))), .b false]) (cnd := True) ?_ trivial rfl (subS_tupL ⟨subP_one (nil_sub (α := Int)), SubP.refl _, trivial⟩) hm (by simp only [resT, go_sem]) (by simp only [go_sem, ltB])
 simp only [go_sem, h8, h9]
theorem end_some0 {n m : Nat} {e : Nat → SV} {D : List ByteArray} {X : List Blk} (hm : m ≤ 1) (h8 : e 8 = .p (.one (.c (.v (.slice none 0 0))))) (h9 : e 9 = .b true) : FinK n m [.t 8, .t 9] (resT (some [])) [mapB D] .ret ⟨e, mapB D :: X⟩ := by
 refine fin_m (.inr rfl) (Gh.refl _) X (qs := [.one (.c (.v (.slice none 0 0))), .b true]) (cnd := True) ?_ trivial rfl (subS_tupL ⟨subP_one (nil_sub (α := Int)), SubP.refl _, trivial⟩) hm (by simp only [resT, go_sem]) (by simp only [go_sem, ltB])
 simp only [go_sem, h8, h9]
theorem end_some {n m : Nat} {e : Nat → SV} {D : List ByteArray} {X : List Blk} {ws : List Int} {c v : Nat} {f : Bool} (hm : m ≤ 1) (h8 : e 8 = .p (.one (.arr 1 (c + 1) v 0 ws.length))) (h9 : e 9 = .b true) (hX : X[c]? = some (intsR 3 v ws f)) : FinK n m [.t 8, .t 9] (resT (some ws)) [mapB D] .ret ⟨e, mapB D :: X⟩ := by
 refine fin_m (.inr rfl) (gh_freeze (b := c + 1) (l := rowsL 1 intC ws) (by rw [List.getElem?_cons_succ]; exact hX) (rowsL_closed ws)) ((X.map (frzB (c + 1) v (rowsL 1 intC ws))).set c .dead) (qs := [.one (.c (.imm 1 ws.length fun i j => toC (((rowsL 1 intC ws).getD (0 + i) []).getD j default))), .b true]) (cnd := True) ?_ trivial rfl (subS_tupL ⟨subP_one (frz_sub ws), SubP.refl _, trivial⟩) hm (by simp only [resT, go_sem]) (by simp only [go_sem, ltB])
 simp only [go_sem, h8, h9, Nat.zero_add]
theorem expl_len {l : List Evt} : ∀ {o left : List Int} {s : Shf}, explL l o left s = true → o.length ≤ left.length
 | [], _, _, _ => Nat.zero_le _
 | i :: is, left, s, h => by
  rw [explL] at h
  simp only [Bool.and_eq_true, decide_eq_true_eq] at h
  have h1 := expl_len h.2
  have h2 := wo_len h.1.1.1
  rw [List.length_cons]
  omega
theorem try_at {l : List Evt} {left : List Int} {x : Shf} {D D2 : List ByteArray} {r : SV} (h : CallR Tryz.prog [mapB D] n_history_try [evL l, intsL left, shfA x, .one (.mp 0 0)] r [mapB D2]) (N : List Blk) (hN : N[0]? = some (mapB D)) : CallR Tryz.prog N n_history_try [evL l, intsL left, shfA x, .one (.mp 0 0)] r (N.set 0 (mapB D2)) := by
 cases N with
 | nil => cases hN
 | cons B T =>
  injection hN with hN
  subst hN
  exact callR_frame h rfl (by simp only [go_sem]) (by simp only [go_sem, ltB]) T
set_option maxRecDepth 20000 in
theorem try_rc (l : List Evt) (hl : l.length ≤ 100) (hs : ∀ e ∈ l, e.op.ser.size ≤ 2000) : ∀ (n : Nat) (left : List Int) (s : Shf) (D : List ByteArray), left.length < n → (∀ i ∈ left, 0 ≤ i ∧ i < l.length) → left.length ≤ l.length → shP s → serSz 2000 s →
  CallR Tryz.prog [mapB D] n_history_try [evL l, intsL left, shfA s, .one (.mp 0 0)] (resT (tryS l n left s D).1) [mapB (tryS l n left s D).2]
 | 0, _, _, _, h, _, _, _, _ => absurd h (Nat.not_lt_zero _)
 | n + 1, left, s, D, hn, hrl, hll, hP, hZ => by
  refine callR_intro F_history_try (by simp) ?_
  refine run_seqV ?_
  simp only [c_history_try, go_sem]
  refine run_seqV ?_
  simp only [go_sem]
  refine call0 (over_rc l left (by omega) hrl) ?_
  simp only [go_sem]
  rw [tryS]
  refine ⟨fun hc => ?_, fun hc => ?_⟩
  ·rw [if_pos hc]
   exact end_some0 (Nat.le_refl _) (by simp only [go_sem]) (by simp only [go_sem])
  rw [if_neg (by rw [hc]; simp)]
  refine run_seqV ?_
  simp only [go_sem]
  refine call0 (mark_rc left (by omega) s (shP_z hP hZ)) ?_
  simp only [go_sem]
  refine run_seqV ?_
  simp only [go_sem, dm_get, dm_like, keyS]
  refine ⟨fun hc => ?_, fun hc => ?_⟩
  ·rw [if_pos hc]
   exact end_none (Nat.le_refl _) (by simp only [go_sem]) (by simp only [go_sem])
  rw [if_neg (by rw [hc]; simp)]
  generalize hkey : markS left s = key
  have hB : ∀ (D : List ByteArray), ∀ x ∈ [mapB D, shfB s], ltB 2 x := fun D x hx => by
   simp only [List.mem_cons, List.not_mem_nil, or_false] at hx
   rcases hx with rfl | rfl
   ·trivial
   ·simp only [go_sem, ltB]
  refine run_seqV ?_
  simp only [go_sem]
  refine R_loop (ι := Nat × List ByteArray) (J := fun p => p.1 ≤ left.length ∧ tryL l (tryS l n) left s left D = tryL l (tryS l n) left s (left.drop p.1) p.2)
   (env := fun p => [(0, .p (evL l)), (1, .p (intsL left)), (3, .p (.one (.mp 0 0))), (6, .p (.one (.ptr 1 0 0 0))), (10, .s key), (27, .p (intsL left)), (28, .i left.length), (29, .i p.1)])
   (mem := fun p => [mapB p.2, shfB s]) (μ := fun p => left.length - p.1) (0, D) ⟨Nat.zero_le _, rfl⟩ ⟨[], rfl, Nat.le_of_ble_eq_true rfl, ?_, hB _⟩ ?_
  ·simp only [go_sem]
  rintro ⟨k, D'⟩ ⟨hk, heq⟩
  simp only at hk heq
  rw [heq]
  refine run_seqV ?_
  simp only [go_sem]
  refine run_seqV ?_
  simp only [go_sem]
  refine ⟨fun h1 => ?_, fun h1 => ?_⟩
  ·have e3 : IntKind.i64.wrap ((k : Int) + 1) = ((k + 1 : Nat) : Int) := w64s (by omega)
   have hb : 0 ≤ (k : Int) ∧ k < left.length := ⟨by omega, h1⟩
   have hdr : left.drop k = left.getD k default :: left.drop (k + 1) := drop_getD default h1
   have him : left.getD k default ∈ left := by rw [gd_get h1]; exact List.getElem_mem h1
   rw [hdr, tryL] at heq ⊢
   refine run_seq ?_
   refine run_block ?_
   refine run_seqV ?_
   simp only [go_sem]
   refine ⟨hb, ?_⟩
   generalize left.getD k default = i at heq him ⊢
   refine run_seqV ?_
   simp only [go_sem]
   refine call0 (may_rc l left (by omega) hrl i (hrl i him)) ?_
   simp only [go_sem]
   refine ⟨fun hc => ?_, fun hc => ?_⟩
   ·have hmf : mayS l left i = false := by rwa [Bool.not_eq_true'] at hc
    rw [hmf, Bool.false_and, if_neg (by simp)] at heq ⊢
    refine V_sound ?_
    simp only [go_sem, e3]
    refine ⟨(k + 1, D'), ⟨h1, rfl⟩, by simp only []; omega, [], rfl, Nat.le_of_ble_eq_true rfl, ?_, hB _⟩
    simp only [go_sem]
   have hmt : mayS l left i = true := by rwa [Bool.not_eq_false'] at hc
   have hin := hrl i him
   have hd := fun M => Do_rc s (shP_z hP hZ) (entE (evAt l i)) (ev_sz hs hin) (ev_ok hP _) M
   have hP' := (Do_eq hP (entE (evAt l i))).2
   have hZ' := Do_sz hP hZ (entE (evAt l i)) (ev_sz hs hin)
   rw [hmt, Bool.true_and] at heq ⊢
   have hnx : nextS l s i = (DoS s (entE (evAt l i))).1 := rfl
   have htl : toldI l s i = fitsA (evAt l i) (DoS s (entE (evAt l i))).2.1 := rfl
   rw [hnx, htl] at heq ⊢
   generalize DoS s (entE (evAt l i)) = W at hd hP' hZ' heq ⊢
   obtain ⟨x, a, c⟩ := W
   simp only at hP' hZ' heq ⊢
   refine run_seqV ?_
   simp only [go_sem]
   refine ⟨hin, callx0 (hentry_rc (evAt l i)) ?_⟩
   simp only [go_sem]
   refine callx0 hd ?_
   simp only [go_sem]
   refine ⟨rfl, run_seqV ?_⟩
   simp only [go_sem]
   rw [fitE]
   refine ⟨hin, fun _ => hin, fun hf => ?_, fun hf => ?_⟩
   ·have hff : fitsA (evAt l i) a = false := by rwa [Bool.not_eq_true'] at hf
    rw [hff, if_neg (by simp)] at heq ⊢
    refine V_sound ?_
    simp only [go_sem, e3]
    refine ⟨(k + 1, D'), ⟨h1, rfl⟩, by simp only []; omega, [_, _], rfl, Nat.le_of_ble_eq_true rfl, ?_, hB _⟩
    simp only [go_sem]
   have hft : fitsA (evAt l i) a = true := by rwa [Bool.not_eq_false'] at hf
   rw [hft, if_pos rfl] at heq ⊢
   have hw := wo_len him
   have ih := try_rc l hl hs n (woS left i) x D' (by omega) (wo_range hrl i) (by omega) hP' hZ'
   generalize hV : tryS l n (woS left i) x D' = V at heq ih ⊢
   obtain ⟨o, D2⟩ := V
   simp only at ih heq ⊢
   refine run_regT 0 ?_
   simp only [go_sem, List.replicate_zero, List.append_nil]
   refine callx0 (without_rc left (by omega) i) ?_
   simp only [go_sem]
   refine callxf 4 [0] [(0, mapB D2)] (by simp) (fun N hN => try_at ih N (hN 0 (by simp))) ?_
   simp only [apL, resT, go_sem]
   refine ⟨rfl, run_seqV ?_⟩
   simp only [go_sem]
   cases o with
   | some r =>
    have hr := expl_len (tryS_sound n (by omega) hV)
    have hrow := imm_rowsL' (c := intC) (sz := 1) r
    simp only [go_sem] at hrow
    refine V_sound ?_
    simp only [go_sem, Option.getD_some, Option.isSome_some, hrow]
    refine ⟨by omega, ?_⟩
    exact end_some (c := 3) (v := 1) (f := false) (ws := i :: r) (Nat.le_refl _) (by simp only [go_sem, List.length_cons, Nat.add_comm]) (by simp only [go_sem]) rfl
   | none =>
    refine V_sound ?_
    simp only [go_sem, Option.isSome_none]
    refine V_sound ?_
    simp only [go_sem, e3]
    refine ⟨(k + 1, D2), ⟨h1, rfl⟩, by simp only []; omega, [_, _], rfl, Nat.le_of_ble_eq_true rfl, ?_, hB _⟩
    simp only [go_sem]
  ·have hkl : k = left.length := by omega
   subst hkl
   rw [List.drop_length, tryL] at heq ⊢
   refine run_seqV ?_
   simp only [go_sem, dm_put, dm_like, keyS]
   refine V_sound ?_
   simp only [go_sem]
   exact end_none (Nat.le_refl _) (by simp only [go_sem]) (by simp only [go_sem])
end Go.Proofs.YtpdcpdngckpgbaaGreat.A
end
section
namespace Go.Proofs.YtpdcpdngckpgbaaGreat.A
open Go Go.Proofs Go.Proofs.YtpdcpdngckpgbaaGreatAbs
theorem end_find {n : Nat} {e : Nat → SV} {X : List Blk} (c : Int) (h4 : e 4 = .p (.one (.c (.v (.slice none 0 0))))) (h5 : e 5 = .i c) : FinK n 0 [.t 4, .t 5] (.tup [intsL [], .i c]) [] .ret ⟨e, X⟩ := by
 refine fin0 (.inr rfl) (qs := [.one (.c (.v (.slice none 0 0))), .i c]) (cnd := True) ?_ trivial (subS_tupL ⟨subP_one (nil_sub (α := Int)), SubP.refl _, trivial⟩) (by simp only [go_sem])
 simp only [go_sem, h4, h5]
theorem shf_nil_sub : SubP (.agg [.c (.v (.slice none 0 0)), .c (.v (.slice none 0 0)), .c (.v (.int .i64 0))]) (shfA shf0) := subP_aggL ⟨nil_sub (α := Lin), nil_sub (α := Dn), SubA.refl _, trivial⟩
set_option maxRecDepth 20000 in
theorem Find_rc (l : List Evt) (hl : l.length ≤ 100) (hs : ∀ e ∈ l, e.op.ser.size ≤ 2000) (g : Int) (M : List Blk) : CallR Tryz.prog M n_history_Find [evL l, .i g] (.tup [intsL (findS l g).1, .i (findS l g).2]) M := by
 refine callPG F_history_Find (Nat.le_of_ble_eq_true rfl) (by simp only [go_sem]) ?_ M
 refine run_seqV ?_
 simp only [go_sem]
 refine run_seqV ?_
 simp only [go_sem]
 refine call0 (hCheck_rc l hl hs) ?_
 simp only [go_sem]
 unfold findS
 cases hchk : chkS l with
 | false =>
  refine ⟨fun _ => ?_, fun h => by cases h⟩
  exact end_find 1 (by simp only [go_sem]) (by simp only [go_sem])
 | true =>
 refine ⟨fun h => absurd rfl h, fun _ => ?_⟩
 rw [if_neg (show ¬ (true = false) by simp)]
 have hol := of_len l g
 refine run_seqV ?_
 simp only [go_sem]
 refine call0 (hOf_rc l hl g) ?_
 simp only [go_sem]
 refine run_seqV ?_
 simp only [go_sem]
 refine ⟨fun hc => ?_, fun hc => ?_⟩
 ·rw [if_pos (by omega)]
  exact end_find 4 (by simp only [go_sem]) (by simp only [go_sem])
 rw [if_neg (by omega)]
 have ht := try_rc l hl hs ((ofS l g).length + 1) (ofS l g) shf0 [] (by omega) (fun i hi => (mem_of.1 hi).1) hol zP (fun x hx => by cases hx)
 generalize tryS l ((ofS l g).length + 1) (ofS l g) shf0 [] = W at ht ⊢
 obtain ⟨o, D⟩ := W
 simp only at ht ⊢
 refine run_seqV ?_
 simp only [go_sem]
 refine callS ht ⟨SubP.refl _, SubP.refl _, shf_nil_sub, SubP.refl _, trivial⟩ (fun h => Bool.noConfusion h) ?_
 simp only [resT, go_sem]
 cases o with
 | none =>
  refine V_sound ?_
  simp only [go_sem, Option.isSome_none]
  exact end_find 5 (by simp only [go_sem]) (by simp only [go_sem])
 | some r =>
  refine V_sound ?_
  simp only [go_sem, Option.isSome_some, Option.getD_some]
  exact fin0 (.inr rfl) (qs := [intsL r, .i 0]) (cnd := True) (by simp only [go_sem]) trivial (SubS.refl _) (by simp only [go_sem])
set_option maxRecDepth 20000 in
theorem Right_rc (l : List Evt) (hl : l.length ≤ 100) (hs : ∀ e ∈ l, e.op.ser.size ≤ 2000) (M : List Blk) : CallR Tryz.prog M n_history_Right [evL l] (.b (rightS l)) M := by
 refine callP F_history_Right (Nat.le_of_ble_eq_true rfl) (by simp only [go_sem]) (by simp only [go_sem]) ?_ M
 simp only [c_history_Right, go_sem]
 refine V_loop (ι := Nat) (J := fun k => k ≤ 8 ∧ ∀ i, i < k → ((findS l (i : Nat)).2 == 0) = true) (env := fun i => [(0, .p (evL l)), (6, .i i)]) (mem := fun _ => []) (μ := fun k => 8 - k) 0 ⟨Nat.zero_le _, fun i hi => absurd hi (Nat.not_lt_zero _)⟩ (into0 (by simp only [go_sem])) ?_
 rintro k ⟨hk, hok⟩
 simp only [go_sem]
 refine ⟨fun h1 => ?_, fun h1 => ?_⟩
 ·refine call0 (Find_rc l hl hs (k : Nat)) ?_
  simp only [go_sem]
  refine ⟨fun hc => ?_, fun hc => ⟨k + 1, ⟨by omega, fun i hi => ?_⟩, by omega, into0 ?_⟩⟩
  ·rw [rightS, all_f (show k < 8 by omega) (by simpa using hc)]
  ·by_cases e : i = k
   ·subst e; simpa using hc
   ·simpa using hok i (by omega)
  ·simp only [go_sem, w64s (show k < 9223372036854775807 by omega)]
 ·have hk8 : k = 8 := by omega
  subst hk8
  rw [rightS, all_range.2 hok]
end Go.Proofs.YtpdcpdngckpgbaaGreat.A
end
section
namespace Go.Proofs.YtpdcpdngckpgbaaGreat.A
open Go Go.Proofs Go.Proofs.YtpdcpdngckpgbaaGreatAbs
def aw34w : Evt := ⟨1, 1, 0, ⟨1, mkS [97], ⟨5, 7⟩, 0, 0, 0⟩, 1, 2, ⟨0, true, 0⟩⟩
def aw34r (b : Bool) (n : Int) : Evt := ⟨2, 1, 0, ⟨4, mkS [97], ⟨0, 0⟩, 5, 0, 0⟩, 3, 4, ⟨0, b, n⟩⟩
theorem aw34_1 : findS [aw34w, aw34r false 0] 0 = ([], 5) := by kernel_rfl
theorem aw34_2 : findS [aw34w, aw34r true 7] 0 = ([0, 1], 0) := by kernel_rfl
theorem aw34_3 : rightS [aw34w, aw34r true 7] = true := by kernel_rfl
theorem aw34_sz (b : Bool) (n : Int) : ∀ e ∈ [aw34w, aw34r b n], e.op.ser.size ≤ 2000 := by
 intro e he
 simp only [List.mem_cons, List.not_mem_nil, or_false] at he
 have : (mkS [97]).size ≤ 2000 := by decide
 rcases he with rfl | rfl
 ·exact this
 ·exact this
set_option maxRecDepth 20000 in
theorem awake34_rc (M : List Blk) : CallR Tryz.prog M n_windroselaw34_awake [] (.b true) M := by
 refine callPG F_windroselaw34_awake (Nat.le_of_ble_eq_true rfl) (by simp only [go_sem]) ?_ M
 have f1 := Find_rc [aw34w, aw34r false 0] (by decide) (aw34_sz _ _) 0 
 have f2 := Find_rc [aw34w, aw34r true 7] (by decide) (aw34_sz _ _) 0
 have f3 := Right_rc [aw34w, aw34r true 7] (by decide) (aw34_sz _ _)
 rw [aw34_1] at f1
 rw [aw34_2] at f2
 rw [aw34_3] at f3
 refine run_seqV ?_
 simp only [go_sem]
 refine run_seqV ?_
 simp only [go_sem]
 refine run_seqV ?_
 simp only [go_sem]
 refine run_S (opsS_ev 3 ?_)
 simp only [go_sem]
 refine opsS_gh (gh_freeze (b := 2) (l := rowsL 15 Evt.c [aw34w, aw34r false 0]) rfl (rowsL_closed _)) ?_
 refine opsS_end ?_
 simp only [go_sem, rowsL_len]
 refine callS (f1 _) ⟨subP_one (frz_sub' (c := Evt.c) (sz := 15) [aw34w, aw34r false 0]), SubP.refl _, trivial⟩ (fun h => Bool.noConfusion h) ?_
 simp only [go_sem]
 refine run_seqV ?_
 simp only [go_sem]
 refine run_S (opsS_ev 3 ?_)
 simp only [go_sem]
 refine opsS_gh (gh_freeze (b := 3) (l := rowsL 15 Evt.c [aw34w, aw34r true 7]) rfl (rowsL_closed _)) ?_
 refine opsS_end ?_
 simp only [go_sem, rowsL_len]
 refine callS (f2 _) ⟨subP_one (frz_sub' (c := Evt.c) (sz := 15) [aw34w, aw34r true 7]), SubP.refl _, trivial⟩ (fun h => Bool.noConfusion h) ?_
 simp only [go_sem]
 refine run_seqV ?_
 simp only [go_sem]
 have hi : CallR Tryz.prog [] n_windroseref02_Ints [intsL [0, 1], intsL [0, 1]] (.b true) [] := by
  have := Ints_rc [0, 1] [0, 1] (by decide) []
  rwa [decide_eq_true rfl] at this
 refine callLg (fun _ => hi) (fun _ => ⟨Snap.same _ trivial, snapL (c := intC) (sz := 1) [0, 1] (b := 4) rfl, trivial⟩) (by simp only [go_sem]) ?_
 simp only [go_sem]
 refine callLg (fun _ => f3 []) (fun _ => ⟨snapL (c := Evt.c) (sz := 15) [aw34w, aw34r true 7] (b := 5) rfl, trivial⟩) (by simp only [go_sem]) ?_
 simp only [go_sem]
 exact run_ret (endB true _ _ 0 (by simp only [go_sem]))
end Go.Proofs.YtpdcpdngckpgbaaGreat.A
end
section
namespace Go.Proofs.YtpdcpdngckpgbaaGreat.A
open Go Go.Proofs Go.Proofs.YtpdcpdngckpgbaaGreatAbs
theorem wlenH {n b : Nat} (h : n * b ≤ 140737488351232) (hb : 0 < b) : n ≤ 140737488355328 := by
 have := Nat.le_mul_of_pos_right n hb
 omega
end Go.Proofs.YtpdcpdngckpgbaaGreat.A
end
section
namespace Go.Proofs.YtpdcpdngckpgbaaGreat.A
open Go Go.Proofs Go.Proofs.YtpdcpdngckpgbaaGreatAbs
end Go.Proofs.YtpdcpdngckpgbaaGreat.A
end
section
namespace Go.Proofs.YtpdcpdngckpgbaaGreat.A
open Go Go.Proofs Go.Proofs.YtpdcpdngckpgbaaGreatAbs
end Go.Proofs.YtpdcpdngckpgbaaGreat.A
end
