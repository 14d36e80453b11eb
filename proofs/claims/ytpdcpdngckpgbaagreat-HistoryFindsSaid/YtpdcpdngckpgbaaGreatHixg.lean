/- Part 7 of the texts on which the row stands: HiJ, HiK, HiL, HiM, AbsTr, HiN, HiO, HiQ, HiR, HiS, HiT, HiU. Conditions: none. -/
import Derived.Test.YtpdcpdngckpgbaaGreatHixf
import Derived.KernelRfl
set_option linter.unusedVariables false
set_option linter.unusedSimpArgs false
section
namespace Go.Proofs.YtpdcpdngckpgbaaGreat.A
open Go Go.Proofs Go.Proofs.YtpdcpdngckpgbaaGreatAbs
theorem rmay_f {l : List Evt} {k : Nat} (hk : k < l.length) (h : rmayAt l k = false) : rmayS l = false := by rw [rmayS, all_f hk h]
theorem oneR (e : Evt) : (decide (e.client < 1) || decide (2147483647 < e.client) || decide (e.id < 1) || decide (2147483647 < e.id) || decide (e.group < 0) || decide (7 < e.group) || decide (e.bg < 1) || decide (2147483647 < e.bg) || decide (e.en < 0) || decide (2147483647 < e.en) || decide (0 < e.en) && decide (e.en < e.bg) || !opOk e.op) = !evOne e := by
 unfold evOne in31
 rw [Bool.eq_iff_iff]
 simp only [Bool.or_eq_true, Bool.and_eq_true, Bool.not_eq_true', Bool.and_eq_false_iff, Bool.or_eq_false_iff, decide_eq_true_eq, decide_eq_false_iff_not]
 cases opOk e.op <;> simp <;> omega
theorem refE (a e : Evt) (j k : Nat) : (((j : Int) != (k : Int)) && (a.client == e.client) && ((a.id == e.id) || decide (e.id < a.id) && (decide (a.bg < e.bg) || decide (a.bg < e.en)))) = !(j == k || !refBad a e) := by
 unfold refBad
 rw [decI, decI, Bool.eq_iff_iff]
 simp only [Bool.or_eq_true, Bool.and_eq_true, Bool.not_eq_true', Bool.or_eq_false_iff, Bool.not_eq_false', bne_iff_ne, ne_eq, beq_eq_false_iff_ne, decide_eq_true_eq]
 constructor
 ·rintro ⟨⟨h1, h2⟩, h3⟩; exact ⟨by omega, h2, h3⟩
 ·rintro ⟨h1, h2, h3⟩; exact ⟨⟨by omega, h2⟩, h3⟩
set_option maxRecDepth 20000 in
theorem rMay34_rc (l : List Evt) (hl : l.length ≤ 100) (hs : ∀ e ∈ l, e.op.ser.size ≤ 2000) (M : List Blk) : CallR Tryz.prog M n_windroseref34_May [evL l] (.b (rmayS l)) M := by
 refine callPG F_windroseref34_May (Nat.le_of_ble_eq_true rfl) (by simp only [go_sem]) ?_ M
 refine run_seqV ?_
 simp only [go_sem]
 refine run_seqV ?_
 simp only [go_sem]
 refine run_seqV ?_
 simp only [go_sem]
 refine R_loop (ι := Nat) (J := fun k => k ≤ l.length ∧ ∀ i, i < k → rmayAt l i = true)
  (env := fun k => [(0, .p (evL l)), (3, .i 2147483647), (4, .i k)])
  (mem := fun _ => []) (μ := fun k => l.length - k) 0 ⟨Nat.zero_le _, fun j hj => absurd hj (Nat.not_lt_zero _)⟩ ⟨[], rfl, Nat.zero_le _, ?_, ?_⟩ ?_
 ·simp only [go_sem]
 ·intro x hx; cases hx
 rintro k ⟨hk, hok⟩
 refine run_seqV ?_
 simp only [go_sem]
 refine ⟨fun h1 => ?_, fun h1 => ?_⟩
 ·have e3 : IntKind.i64.wrap ((k : Int) + 1) = ((k + 1 : Nat) : Int) := w64s (by omega)
  have hsz : (l.getD k default).op.ser.size ≤ 2000 := by rw [gd_get h1]; exact hs _ (List.getElem_mem h1)
  refine run_seq ?_
  refine run_block ?_
  refine run_seqV ?_
  simp only [go_sem]
  refine ⟨⟨by omega, h1⟩, run_seqV ?_⟩
  simp only [go_sem]
  refine callg0 (fun _ => rOp_rc (l.getD k default).op hsz) ?_
  simp only [go_sem]
  rw [oneR]
  refine ⟨fun hc => ?_, fun hc => ?_⟩
  ·rw [rmay_f h1 (by unfold rmayAt; rw [show evOne (l.getD k default) = false by simpa using hc]; rfl)]
   exact endB false _ _ 2 (by simp only [go_sem])
  have hone : evOne (l.getD k default) = true := by simpa using hc
  refine run_seqV ?_
  simp only [go_sem]
  refine run_block ?_
  refine R_loop (ι := Nat) (J := fun j => j ≤ l.length ∧ ∀ i, i < j → (i == k || !refBad (l.getD i default) (l.getD k default)) = true)
   (env := fun j => [(0, .p (evL l)), (3, .i 2147483647), (4, .i k), (5, .p (.one (.ptr 0 0 0 0))), (6, .i j)])
   (mem := fun _ => [evtB 0 (l.getD k default)]) (μ := fun j => l.length - j) 0 ⟨Nat.zero_le _, fun j hj => absurd hj (Nat.not_lt_zero _)⟩ ⟨[], rfl, Nat.zero_le _, ?_, ?_⟩ ?_
  ·simp only [go_sem]
  ·simp only [go_sem, ltB]
  rintro j ⟨hj, hpr⟩
  refine run_seqV ?_
  simp only [go_sem]
  refine ⟨fun h2 => ?_, fun h2 => ?_⟩
  ·have e4 : IntKind.i64.wrap ((j : Int) + 1) = ((j + 1 : Nat) : Int) := w64s (by omega)
   refine run_seq ?_
   refine run_block ?_
   refine run_seqV ?_
   simp only [go_sem]
   have hb : 0 ≤ (j : Int) ∧ j < l.length := ⟨by omega, h2⟩
   refine ⟨fun _ => hb, fun _ => hb, fun _ => hb, fun _ => hb, fun _ => hb, V_sound ?_⟩
   simp only [go_sem]
   rw [refE]
   refine ⟨fun hc => ?_, fun hc => ?_⟩
   ·rw [rmay_f h1 (by unfold rmayAt; rw [all_f h2 (by simpa using hc), Bool.and_false])]
    exact endB false _ _ 2 (by simp only [go_sem])
   ·refine V_sound ?_
    simp only [go_sem, e4]
    refine ⟨j + 1, ⟨by omega, fun i hi => ?_⟩, by omega, [], rfl, Nat.zero_le _, ?_, ?_⟩
    ·by_cases e : i = j
     ·subst e; rwa [Bool.not_eq_false'] at hc
     ·exact hpr i (by omega)
    ·simp only [go_sem]
    ·simp only [go_sem, ltB]
  ·have hkj : j = l.length := by omega
   subst hkj
   refine V_sound ?_
   simp only [go_sem, e3]
   refine ⟨k + 1, ⟨h1, fun i hi => ?_⟩, by omega, [_], rfl, Nat.zero_le _, ?_, ?_⟩
   ·by_cases e : i = k
    ·subst e
     rw [rmayAt, hone, Bool.true_and, all_range]
     exact hpr
    ·exact hok i (by omega)
   ·simp only [go_sem]
   ·intro x hx; cases hx
 ·have hkl : k = l.length := by omega
  subst hkl
  rw [show rmayS l = true from all_range.2 hok]
  refine V_sound ?_
  simp only [go_sem]
  exact endB true _ _ 2 (by simp only [go_sem])
theorem rEntry34_rc (e : Evt) (M : List Blk) : CallR Tryz.prog M n_windroseref34_Entry [evtA e] (.p (entA (entE e))) M := by
 refine callPG F_windroseref34_Entry (Nat.le_of_ble_eq_true rfl) (by simp only [go_sem]) ?_ M
 refine run_seqV ?_
 simp only [go_sem]
 refine V_sound ?_
 simp only [go_sem]
 exact fin0 (.inr rfl) (qs := [entA (entE e)]) (cnd := True) (by simp only [go_sem]; rfl) trivial (SubS.refl _) (by simp only [go_sem, opRow])
theorem in34_rc (l : List Int) (hl : l.length ≤ 1000) (x : Int) (M : List Blk) : CallR Tryz.prog M n_windroseref34_in [intsL l, .i x] (.b (decide (x ∈ l))) M := by
 refine callP F_windroseref34_in (Nat.le_of_ble_eq_true rfl) (by simp only [go_sem]) (by simp only [go_sem]) ?_ M
 simp only [c_windroseref34_in, go_sem]
 refine V_loop (ι := Nat) (J := fun k => k ≤ l.length ∧ ∀ i, i < k → l.getD i default ≠ x) (env := fun i => [(0, .p (intsL l)), (1, .i x), (5, .i i)]) (mem := fun _ => []) (μ := fun k => l.length - k) 0 ⟨Nat.zero_le _, fun i hi => absurd hi (Nat.not_lt_zero _)⟩ (into0 (by simp only [go_sem])) ?_
 rintro i ⟨hk, hne⟩
 simp only [go_sem]
 refine ⟨fun h1 => ⟨by omega, fun hc => ?_, fun hc => ⟨i + 1, ⟨by omega, fun j hj => ?_⟩, by omega, into0 ?_⟩⟩, fun h1 => ?_⟩
 ·rw [decide_eq_true]
  rw [← hc, gd_get h1]
  exact List.getElem_mem h1
 ·by_cases e : j = i
  ·subst e; exact hc
  ·exact hne j (by omega)
 ·simp only [go_sem, w64s (show i < 9223372036854775807 by omega)]
 ·rw [decide_eq_false]
  intro hx
  obtain ⟨j, hj, rfl⟩ := List.mem_iff_getElem.1 hx
  exact hne j (by omega) (gd_get hj)
end Go.Proofs.YtpdcpdngckpgbaaGreat.A
end
section
namespace Go.Proofs.YtpdcpdngckpgbaaGreat.A
open Go Go.Proofs Go.Proofs.YtpdcpdngckpgbaaGreatAbs
theorem ord_f {l : List Evt} {g : Int} {o : List Int} {j : Nat} (hj : j < o.length) (h : ordAt l g o j = false) : ordS l g o = false := by rw [ordS, all_f hj h, Bool.false_and]
theorem ord_f2 {l : List Evt} {g : Int} {o : List Int} {j : Nat} (hj : j < l.length) (h : ordEnd l g o j = false) : ordS l g o = false := by rw [ordS, all_f hj h, Bool.and_false]
theorem le_takeI {l : List Int} {k : Nat} (h : k ≤ l.length) : lePt (.one (.c (.imm 1 k fun i j => .v (.int .i64 (l.getD i default))))) (intsL (l.take k)) := by
 rw [lePt_imm]
 refine ⟨by rw [List.length_take]; omega, .inr ⟨rfl, fun i hi j hj => ?_⟩⟩
 show CV.v (.int .i64 _) = CV.v (.int .i64 ((l.take k).getD i default))
 rw [List.getD_eq_getElem?_getD, List.getD_eq_getElem?_getD, List.getElem?_take, if_pos hi]
set_option maxRecDepth 20000 in
theorem rOrd_rc (l : List Evt) (hl : l.length ≤ 100) (g : Int) (o : List Int) (ho : o.length ≤ 1000) (M : List Blk) : CallR Tryz.prog M n_windroseref34_Ordered [evL l, .i g, intsL o] (.b (ordS l g o)) M := by
 refine callPG F_windroseref34_Ordered (Nat.le_of_ble_eq_true rfl) (by simp only [go_sem]) ?_ M
 have hfin : ordS l g o = false → ∀ (e : Nat → SV) (X : List Blk), e 6 = .b false → FinK 112 0 [.t 6] (.b (ordS l g o)) [] .ret ⟨e, X⟩ := fun h e X h6 => by rw [h]; exact endB false e X 6 h6
 refine run_seqV ?_
 simp only [go_sem]
 refine run_seqV ?_
 simp only [go_sem]
 refine R_loop (ι := Nat) (J := fun k => k ≤ o.length ∧ ∀ i, i < k → ordAt l g o i = true)
  (env := fun k => [(0, .p (evL l)), (1, .i g), (2, .p (intsL o)), (7, .i k)])
  (mem := fun _ => []) (μ := fun k => o.length - k) 0 ⟨Nat.zero_le _, fun j hj => absurd hj (Nat.not_lt_zero _)⟩ ⟨[], rfl, Nat.zero_le _, ?_, ?_⟩ ?_
 ·simp only [go_sem]
 ·intro x hx; cases hx
 rintro k ⟨hk, hok⟩
 refine run_seqV ?_
 simp only [go_sem]
 refine ⟨fun h1 => ?_, fun h1 => ?_⟩
 ·have e3 : IntKind.i64.wrap ((k : Int) + 1) = ((k + 1 : Nat) : Int) := w64s (by omega)
  have hb : 0 ≤ (k : Int) ∧ k < o.length := ⟨by omega, h1⟩
  refine run_seq ?_
  refine run_block ?_
  refine run_seqV ?_
  simp only [go_sem, Nat.zero_add]
  refine ⟨hb, fun _ => hb, fun _ => hb, fun h => ?_, fun _ => ⟨by omega, by omega⟩, fun _ => hb, callg1 (fun _ => in34_rc (o.take k) (by rw [List.length_take]; omega) (o.getD k default) []) (fun _ => ⟨le_takeI (by omega), rfl, trivial⟩) ?_⟩
  ·simp only [Bool.and_eq_true, Bool.not_eq_true', decide_eq_false_iff_not] at h
   omega
  simp only [go_sem]
  have key : (decide (o.getD k default < 0) || decide ((l.length : Int) ≤ o.getD k default) || (l.getD (o.getD k default).toNat default).group != g || decide (o.getD k default ∈ o.take k)) = !((decide (0 ≤ o.getD k default) && decide (o.getD k default < l.length)) && decide ((evAt l (o.getD k default)).group = g) && !decide (o.getD k default ∈ o.take k)) := by
   rw [Bool.eq_iff_iff]
   simp only [Bool.or_eq_true, Bool.and_eq_true, Bool.not_eq_true', Bool.and_eq_false_iff, Bool.not_eq_false', bne_iff_ne, ne_eq, decide_eq_true_eq, decide_eq_false_iff_not]
   unfold evAt
   by_cases h : o.getD k default < 0 <;> by_cases h' : (l.length : Int) ≤ o.getD k default <;> simp [h, h'] <;> omega
  rw [key]
  refine ⟨fun hc => ?_, fun hc => ?_⟩
  ·exact hfin (ord_f h1 (by rw [ordAt, show ((decide (0 ≤ o.getD k default) && decide (o.getD k default < l.length)) && decide ((evAt l (o.getD k default)).group = g) && !decide (o.getD k default ∈ o.take k)) = false by rwa [Bool.not_eq_true'] at hc]; rfl)) _ _ (by simp only [go_sem])
  have hok1 : ((decide (0 ≤ o.getD k default) && decide (o.getD k default < l.length)) && decide ((evAt l (o.getD k default)).group = g) && !decide (o.getD k default ∈ o.take k)) = true := by rwa [Bool.not_eq_false'] at hc
  have hin : 0 ≤ o.getD k default ∧ o.getD k default < l.length := by
   simp only [Bool.and_eq_true, decide_eq_true_eq] at hok1
   exact hok1.1.1
  refine run_seqV ?_
  simp only [go_sem]
  refine run_block ?_
  refine R_loop (ι := Nat) (J := fun j => j ≤ k ∧ ∀ i, i < j → (!aheadE (evAt l (o.getD k default)) (evAt l (o.getD i default))) = true)
   (env := fun j => [(0, .p (evL l)), (1, .i g), (2, .p (intsL o)), (7, .i k), (8, .i j)])
   (mem := fun _ => []) (μ := fun j => k - j) 0 ⟨Nat.zero_le _, fun j hj => absurd hj (Nat.not_lt_zero _)⟩ ⟨[], rfl, Nat.zero_le _, ?_, ?_⟩ ?_
  ·simp only [go_sem]
  ·intro x hx; cases hx
  rintro j ⟨hj, hpr⟩
  refine run_seqV ?_
  simp only [go_sem]
  refine ⟨fun h2 => ?_, fun h2 => ?_⟩
  ·have e4 : IntKind.i64.wrap ((j : Int) + 1) = ((j + 1 : Nat) : Int) := w64s (by omega)
   have hbj : 0 ≤ (j : Int) ∧ j < o.length := ⟨by omega, by omega⟩
   have hinj : 0 ≤ o.getD j default ∧ o.getD j default < l.length := by
    have := hok j (by omega)
    rw [ordAt] at this
    simp only [Bool.and_eq_true, decide_eq_true_eq] at this
    exact this.1.1.1
   refine run_seq ?_
   refine run_block ?_
   refine run_seqV ?_
   simp only [go_sem]
   refine ⟨hb, hin, fun _ => hb, fun _ => hin, fun _ => hbj, fun _ => hinj, V_sound ?_⟩
   simp only [go_sem]
   have key : (decide (0 < (l.getD (o.getD k default).toNat default).en) && decide ((l.getD (o.getD k default).toNat default).en < (l.getD (o.getD j default).toNat default).bg)) = aheadE (evAt l (o.getD k default)) (evAt l (o.getD j default)) := rfl
   rw [key]
   refine ⟨fun hc => ?_, fun hc => ?_⟩
   ·exact hfin (ord_f h1 (by rw [ordAt, all_f h2 (by rw [hc]; rfl), Bool.and_false])) _ _ (by simp only [go_sem])
   ·refine V_sound ?_
    simp only [go_sem, e4]
    refine ⟨j + 1, ⟨by omega, fun i hi => ?_⟩, by omega, [], rfl, Nat.zero_le _, ?_, ?_⟩
    ·by_cases e : i = j
     ·subst e; rw [hc]; rfl
     ·exact hpr i (by omega)
    ·simp only [go_sem]
    ·intro x hx; cases hx
  ·have hkj : j = k := by omega
   subst hkj
   refine V_sound ?_
   simp only [go_sem, e3]
   refine ⟨j + 1, ⟨h1, fun i hi => ?_⟩, by omega, [], rfl, Nat.zero_le _, ?_, ?_⟩
   ·by_cases e : i = j
    ·subst e
     rw [ordAt, hok1, Bool.true_and, all_range]
     exact hpr
    ·exact hok i (by omega)
   ·simp only [go_sem]
   ·intro x hx; cases hx
 ·have hkl : k = o.length := by omega
  subst hkl
  refine run_seqV ?_
  simp only [go_sem]
  refine R_loop (ι := Nat) (J := fun k => k ≤ l.length ∧ ∀ i, i < k → ordEnd l g o i = true)
   (env := fun k => [(0, .p (evL l)), (1, .i g), (2, .p (intsL o)), (9, .i k)])
   (mem := fun _ => []) (μ := fun k => l.length - k) 0 ⟨Nat.zero_le _, fun j hj => absurd hj (Nat.not_lt_zero _)⟩ ⟨[], rfl, Nat.zero_le _, ?_, ?_⟩ ?_
  ·simp only [go_sem]
  ·intro x hx; cases hx
  rintro k ⟨hk, hend⟩
  refine run_seqV ?_
  simp only [go_sem]
  refine ⟨fun h1 => ?_, fun h1 => ?_⟩
  ·have e3 : IntKind.i64.wrap ((k : Int) + 1) = ((k + 1 : Nat) : Int) := w64s (by omega)
   have hb : 0 ≤ (k : Int) ∧ k < l.length := ⟨by omega, h1⟩
   refine run_seq ?_
   refine run_block ?_
   refine run_seqV ?_
   simp only [go_sem]
   refine ⟨hb, fun _ => hb, callg0 (fun _ => in34_rc o ho (k : Nat)) ?_⟩
   simp only [go_sem]
   refine V_sound ?_
   simp only [go_sem, decI]
   have key : (decide ((l.getD k default).group = g) && decide (0 < (l.getD k default).en) && !decide ((k : Int) ∈ o)) = !ordEnd l g o k := by rw [ordEnd, Bool.not_not]
   rw [key]
   refine ⟨fun hc => ?_, fun hc => ?_⟩
   ·exact hfin (ord_f2 h1 (by rwa [Bool.not_eq_true'] at hc)) _ _ (by simp only [go_sem])
   ·refine V_sound ?_
    simp only [go_sem, e3]
    refine ⟨k + 1, ⟨by omega, fun i hi => ?_⟩, by omega, [], rfl, Nat.zero_le _, ?_, ?_⟩
    ·by_cases e : i = k
     ·subst e; rwa [Bool.not_eq_false'] at hc
     ·exact hend i (by omega)
    ·simp only [go_sem]
    ·intro x hx; cases hx
  ·have hkl : k = l.length := by omega
   subst hkl
   rw [show ordS l g o = true by rw [ordS, all_range.2 hok, all_range.2 hend]; rfl]
   refine V_sound ?_
   simp only [go_sem]
   exact endB true _ _ 6 (by simp only [go_sem])
end Go.Proofs.YtpdcpdngckpgbaaGreat.A
end
section
namespace Go.Proofs.YtpdcpdngckpgbaaGreat.A
open Go Go.Proofs Go.Proofs.YtpdcpdngckpgbaaGreatAbs
theorem fold_ok {l : List Evt} {m : Nat} (hs : ∀ e ∈ l, e.op.ser.size ≤ m) : ∀ (o : List Int), (∀ i ∈ o, 0 ≤ i ∧ i < l.length) → ∀ s, shP s → serSz m s → shP (o.foldl (nextS l) s) ∧ serSz m (o.foldl (nextS l) s)
 | [], _, s, h1, h2 => ⟨h1, h2⟩
 | i :: o, ho, s, h1, h2 => by
  have hi := ho i List.mem_cons_self
  refine fold_ok hs o (fun k hk => ho k (List.mem_cons_of_mem _ hk)) (nextS l s i) (Do_eq h1 _).2 (Do_sz h1 h2 _ ?_)
  show (l.getD i.toNat default).op.ser.size ≤ m
  rw [gd_get (by omega)]
  exact hs _ (List.getElem_mem (by omega))
theorem told_take {l : List Evt} {o : List Int} {k : Nat} (hk : k < o.length) : toldL l (o.take (k + 1)) shf0 = (toldL l (o.take k) shf0 && toldI l ((o.take k).foldl (nextS l) shf0) (o.getD k default)) := by
 rw [take_succ_getD default hk, told_app]
theorem told_f {l : List Evt} : ∀ {o : List Int} {k : Nat} {s : Shf}, toldL l (o.take k) s = false → toldL l o s = false
 | [], k, s, h => by rw [List.take_nil] at h; exact h
 | i :: o, 0, s, h => by cases h
 | i :: o, k + 1, s, h => by
  rw [List.take_succ_cons, toldL] at h
  rw [toldL]
  rw [Bool.and_eq_false_iff] at h ⊢
  exact h.imp id told_f
theorem ansNe (a b : Ans) : (!(a.code == b.code) || (!(a.has == b.has) || !(a.n == b.n))) = !decide (a = b) := by
 rw [← ans_eq, Bool.not_and, Bool.not_and]
theorem fitE (l : List Evt) (i : Int) (a : Ans) : (decide (0 < (l.getD i.toNat default).en) && (!(a.code == (l.getD i.toNat default).ans.code) || (!(a.has == (l.getD i.toNat default).ans.has) || !(a.n == (l.getD i.toNat default).ans.n)))) = !fitsA (evAt l i) a := by
 rw [ansNe, fitsA, Bool.not_not]
 rfl
set_option maxRecDepth 20000 in
theorem rTold_rc (l : List Evt) (hl : l.length ≤ 100) (hs : ∀ e ∈ l, e.op.ser.size ≤ 2000) (o : List Int) (hol : o.length ≤ 1000) (ho : ∀ i ∈ o, 0 ≤ i ∧ i < l.length) (M : List Blk) : CallR Tryz.prog M n_windroseref34_Told [evL l, intsL o] (.b (toldL l o shf0)) M := by
 refine callPG F_windroseref34_Told (Nat.le_of_ble_eq_true rfl) (by simp only [go_sem]) ?_ M
 refine run_seqV ?_
 simp only [go_sem]
 refine run_seqV ?_
 simp only [go_sem]
 refine run_seqV ?_
 simp only [go_sem]
 refine run_gh (gh_sub_cell (b := 0) (i := 0) (j := 0) _ _ rfl rfl rfl (nil_sub (sz := 2) (c := Lin.c))) ?_
 refine run_gh (gh_sub_cell (b := 0) (i := 0) (j := 1) _ _ rfl rfl rfl (nil_sub (sz := 5) (c := Dn.c))) ?_
 refine R_loop (ι := Nat) (J := fun k => k ≤ o.length ∧ toldL l (o.take k) shf0 = true)
  (env := fun k => [(0, .p (evL l)), (1, .p (intsL o)), (5, .p (.one (.ptr 0 0 0 0))), (6, .i k)])
  (mem := fun k => [shfB ((o.take k).foldl (nextS l) shf0)])
  (μ := fun k => o.length - k) 0 ⟨Nat.zero_le _, rfl⟩ ⟨[], ?_, Nat.zero_le _, ?_, ?_⟩ ?_
 ·rfl
 ·simp only [go_sem]
 ·simp only [go_sem, ltB]
 rintro k ⟨hk, htk⟩
 refine run_seqV ?_
 simp only [go_sem]
 refine ⟨fun h1 => ?_, fun h1 => ?_⟩
 ·have e3 : IntKind.i64.wrap ((k : Int) + 1) = ((k + 1 : Nat) : Int) := w64s (by omega)
  have hb : 0 ≤ (k : Int) ∧ k < o.length := ⟨by omega, h1⟩
  have hin := ho (o.getD k default) (by rw [gd_get h1]; exact List.getElem_mem h1)
  have hst : (o.take (k + 1)).foldl (nextS l) shf0 = nextS l ((o.take k).foldl (nextS l) shf0) (o.getD k default) := by rw [take_succ_getD default h1, List.foldl_append]; rfl
  have htt := told_take (l := l) h1
  obtain ⟨hP, hZ⟩ := fold_ok hs (o.take k) (fun i hi => ho i (List.mem_of_mem_take hi)) shf0 zP (fun x hx => by cases hx)
  have hd := fun M => rDo_rc ((o.take k).foldl (nextS l) shf0) (shP_z hP hZ) (entE (evAt l (o.getD k default))) (by
   show (l.getD (o.getD k default).toNat default).op.ser.size ≤ 2000
   rw [gd_get (by omega)]
   exact hs _ (List.getElem_mem (by omega))) M
  rw [(Do_eq hP _).1] at hd
  rw [htk, Bool.true_and] at htt
  generalize (o.take k).foldl (nextS l) shf0 = s at hP hZ hd hst htt ⊢
  unfold toldI at htt
  have hnx : nextS l s (o.getD k default) = (DoS s (entE (evAt l (o.getD k default)))).1 := rfl
  rw [hnx] at hst
  generalize DoS s (entE (evAt l (o.getD k default))) = W at hst htt hd
  obtain ⟨x, a, c⟩ := W
  refine run_seq ?_
  refine run_block ?_
  refine run_seqV ?_
  simp only [go_sem]
  refine ⟨hb, hin, callx0 (rEntry34_rc (evAt l (o.getD k default))) ?_⟩
  simp only [go_sem]
  refine callx0 hd ?_
  simp only [go_sem]
  refine ⟨rfl, run_seqV ?_⟩
  simp only [go_sem]
  rw [fitE]
  refine ⟨hb, hin, fun _ => hb, fun _ => hin, fun hc => ?_, fun hc => ?_⟩
  ·rw [show toldL l o shf0 = false from told_f (htt.trans (by rwa [Bool.not_eq_true'] at hc))]
   exact endB false _ _ 4 (by simp only [go_sem])
  ·refine V_sound ?_
   simp only [go_sem]
   refine V_sound ?_
   simp only [go_sem, e3]
   refine ⟨k + 1, ⟨h1, htt.trans (by rwa [Bool.not_eq_false'] at hc)⟩, by omega, [_, _], by rw [hst]; rfl, Nat.zero_le _, ?_, ?_⟩
   ·simp only [go_sem]
   ·simp only [go_sem, ltB]
 ·have hkl : k = o.length := by omega
  subst hkl
  rw [List.take_length] at htk
  rw [htk]
  refine V_sound ?_
  simp only [go_sem]
  exact endB true _ _ 4 (by simp only [go_sem])
set_option maxRecDepth 20000 in
theorem rExpl34_rc (l : List Evt) (hl : l.length ≤ 100) (hs : ∀ e ∈ l, e.op.ser.size ≤ 2000) (o : List Int) (hol : o.length ≤ 1000) (M : List Blk) : CallR Tryz.prog M n_windroseref34_Explains [evL l, intsL o] (.b (rexplS l o)) M := by
 refine callPG F_windroseref34_Explains (Nat.le_of_ble_eq_true rfl) (by simp only [go_sem]) ?_ M
 refine run_seqV ?_
 simp only [go_sem]
 refine run_seqV ?_
 simp only [go_sem]
 refine call0 (rMay34_rc l hl hs) ?_
 simp only [go_sem]
 unfold rexplS
 rw [← rmay_eq]
 cases hm : rmayS l with
 | false =>
  simp only [go_sem]
  exact endB false _ _ 4 (by simp only [go_sem])
 | true =>
 have hchk : chkS l = true := by rw [← rmay_eq]; exact hm
 simp only [go_sem]
 cases o with
 | nil =>
  refine run_seqV ?_
  simp only [go_sem]
  refine R_loop (ι := Nat) (J := fun k => k ≤ l.length ∧ ∀ i, i < k → (!decide (0 < (l.getD i default).en)) = true)
   (env := fun k => [(0, .p (evL l)), (5, .i k)])
   (mem := fun _ => []) (μ := fun k => l.length - k) 0 ⟨Nat.zero_le _, fun j hj => absurd hj (Nat.not_lt_zero _)⟩ ⟨[], rfl, Nat.zero_le _, ?_, ?_⟩ ?_
  ·simp only [go_sem]
  ·intro x hx; cases hx
  rintro k ⟨hk, hen⟩
  refine run_seqV ?_
  simp only [go_sem]
  refine ⟨fun h1 => ?_, fun h1 => ?_⟩
  ·have e3 : IntKind.i64.wrap ((k : Int) + 1) = ((k + 1 : Nat) : Int) := w64s (by omega)
   refine V_sound ?_
   simp only [go_sem]
   refine ⟨⟨by omega, h1⟩, fun hc => ?_, fun hc => ?_⟩
   ·rw [show (l.all fun e => !decide (0 < e.en)) = false from all_no h1 (by rw [decide_eq_true hc]; rfl)]
    exact endB false _ _ 4 (by simp only [go_sem])
   ·simp only [go_sem, e3]
    refine ⟨k + 1, ⟨by omega, fun i hi => ?_⟩, by omega, [], rfl, Nat.zero_le _, ?_, ?_⟩
    ·by_cases e : i = k
     ·subst e; rw [decide_eq_false hc]; rfl
     ·exact hen i (by omega)
    ·simp only [go_sem]
    ·intro x hx; cases hx
  ·have hkl : k = l.length := by omega
   subst hkl
   rw [show (l.all fun e => !decide (0 < e.en)) = true from all_yes hen]
   exact endB true _ _ 4 (by simp only [go_sem])
 | cons i is =>
  refine run_seqV ?_
  simp only [go_sem, List.length_cons]
  refine ⟨fun h => absurd h (by omega), fun _ => run_seqV ?_⟩
  simp only [go_sem, List.length_cons, List.getD_cons_zero]
  have hp : (0 : Int) < ((is.length + 1 : Nat) : Int) := by omega
  refine ⟨hp, fun _ => hp, fun _ => hp, fun h => by simpa using h, callg0 (fun _ => rOrd_rc l hl (evAt l i).group (i :: is) hol) ?_⟩
  simp only [go_sem]
  refine callg0 (fun h => rTold_rc l hl hs (i :: is) hol fun k hk => ?_) ?_
  ·rw [Bool.and_eq_true] at h
   exact (mem_of.1 (((ord_iff l _ _).1 h.2).mem k hk)).1
  simp only [go_sem]
  refine run_ret (endB _ _ _ 4 ?_)
  simp only [go_sem, Bool.and_assoc]
end Go.Proofs.YtpdcpdngckpgbaaGreat.A
end
section
namespace Go.Proofs.YtpdcpdngckpgbaaGreat.A
open Go Go.Proofs Go.Proofs.YtpdcpdngckpgbaaGreatAbs
theorem expl1_rc (e : Evt) (M : List Blk) : CallR Tryz.prog M n_history_Explains_1 [.agg (cellsUp (Evt.c e) 0 15)] (.b (decide (0 < e.en))) M := by
 refine callPG F_history_Explains_1 (Nat.le_of_ble_eq_true rfl) (by simp only [go_sem]) ?_ M
 refine run_seqV ?_
 simp only [go_sem]
 refine V_sound ?_
 simp only [go_sem]
 exact endB _ _ _ 2 (by simp only [go_sem])
set_option maxRecDepth 20000 in
theorem cfE_rc (l : List Evt) (hl : l.length ≤ 100) (M : List Blk) : CallR Tryz.prog M n_slices_ContainsFunc_api_Event_api_Event [evL l, .one (.fn n_history_Explains_1 0 fun _ => default)] (.b (l.any fun e => decide (0 < e.en))) M := by
 refine callP F_slices_ContainsFunc_api_Event_api_Event (Nat.le_of_ble_eq_true rfl) (by simp only [go_sem]) (by simp only [go_sem]) ?_ M
 simp only [c_slices_ContainsFunc_api_Event_api_Event, go_sem]
 refine call0 (idx_rc (P := Tryz.prog) (c := Evt.c) (p := fun e => decide (0 < e.en)) F_slices_IndexFunc_api_Event_api_Event n_history_Explains_1 0 (fun _ => default) (fun i hi => absurd hi (Nat.not_lt_zero _)) l (by omega) (fun i hi M => expl1_rc (l.getD i default) M)) ?_
 simp only [go_sem, any_idx]
theorem wo_range {l : List Evt} {left : List Int} (h : ∀ i ∈ left, 0 ≤ i ∧ i < l.length) (x : Int) : ∀ i ∈ woS left x, 0 ≤ i ∧ i < l.length := fun i hi => h i (mem_wo.1 hi).1
theorem wo_le (left : List Int) (x : Int) : (woS left x).length ≤ left.length := List.length_filter_le ..
theorem ev_sz {l : List Evt} {m : Nat} (hs : ∀ e ∈ l, e.op.ser.size ≤ m) {i : Int} (hi : 0 ≤ i ∧ i < l.length) : (entE (evAt l i)).op.ser.size ≤ m := by
 show (l.getD i.toNat default).op.ser.size ≤ m
 rw [gd_get (by omega)]
 exact hs _ (List.getElem_mem (by omega))
set_option maxRecDepth 20000 in
theorem hExpl_rc (l : List Evt) (hl : l.length ≤ 100) (hs : ∀ e ∈ l, e.op.ser.size ≤ 2000) (o : List Int) (hol : o.length ≤ 1000) (M : List Blk) : CallR Tryz.prog M n_history_Explains [evL l, intsL o] (.b (explS l o)) M := by
 refine callPG F_history_Explains (Nat.le_of_ble_eq_true rfl) (by simp only [go_sem]) ?_ M
 refine run_seqV ?_
 simp only [go_sem]
 refine run_seqV ?_
 simp only [go_sem]
 refine call0 (hCheck_rc l hl hs) ?_
 simp only [go_sem]
 rw [ifne]
 cases hchk : chkS l with
 | false =>
  have : explS l o = false := by cases o <;> simp [explS, hchk]
  rw [this]
  simp only [go_sem]
  exact endB false _ _ 4 (by simp only [go_sem])
 | true =>
 simp only [go_sem]
 cases o with
 | nil =>
  refine run_seqV ?_
  simp only [go_sem]
  refine call0 (cfE_rc l hl) ?_
  simp only [go_sem]
  refine endB _ _ _ 4 ?_
  simp only [go_sem]
  rw [explS, hchk, Bool.true_and, List.not_any_eq_all_not]
 | cons i0 is =>
  refine run_seqV ?_
  simp only [go_sem, List.length_cons]
  refine ⟨fun h => absurd h (by omega), fun _ => run_seqV ?_⟩
  simp only [go_sem, List.length_cons, List.getD_cons_zero]
  rw [w64 (n := (l.length : Int) - 1) (by omega) (by omega)]
  refine ⟨by omega, call0 (hin_rc i0 0 ((l.length : Int) - 1)) ?_⟩
  simp only [go_sem]
  refine ⟨fun hc => ?_, fun hc => ?_⟩
  ·have : explS l (i0 :: is) = false := by
    rw [explS, show (decide (0 ≤ i0) && decide (i0 < (l.length : Int))) = false by
     rw [Bool.eq_false_iff]
     intro h
     simp at h hc
     omega, Bool.and_false, Bool.false_and]
   rw [this]
   exact endB false _ _ 4 (by simp only [go_sem])
  have hin : 0 ≤ i0 ∧ i0 < l.length := by
   simp at hc
   omega
  have hex : explS l (i0 :: is) = explL l (i0 :: is) (ofS l (evAt l i0).group) shf0 := by
   rw [explS, hchk, decide_eq_true hin.1, decide_eq_true hin.2]; rfl
  rw [hex]
  refine run_seqV ?_
  simp only [go_sem, List.length_cons, List.getD_cons_zero]
  refine ⟨by omega, hin, call0 (hOf_rc l hl (evAt l i0).group) ?_⟩
  simp only [go_sem]
  refine run_seqV ?_
  simp only [go_sem]
  refine run_seqV ?_
  simp only [go_sem]
  refine run_gh (gh_sub_cell (b := 0) (i := 0) (j := 0) _ _ rfl rfl rfl (nil_sub (sz := 2) (c := Lin.c))) ?_
  refine run_gh (gh_sub_cell (b := 0) (i := 0) (j := 1) _ _ rfl rfl rfl (nil_sub (sz := 5) (c := Dn.c))) ?_
  have hlen : is.length + 1 = (i0 :: is).length := rfl
  rw [hlen]
  generalize (i0 :: is) = o at hol ⊢
  have hr0 : (∀ i ∈ ofS l (evAt l i0).group, 0 ≤ i ∧ i < l.length) := fun i hi => (mem_of.1 hi).1
  have hl0 := of_len l (evAt l i0).group
  generalize ofS l (evAt l i0).group = left0 at hr0 hl0 ⊢
  refine R_loop (ι := Nat × List Int × Shf) (J := fun p => p.1 ≤ o.length ∧ explL l o left0 shf0 = explL l (o.drop p.1) p.2.1 p.2.2 ∧ (∀ i ∈ p.2.1, 0 ≤ i ∧ i < l.length) ∧ p.2.1.length ≤ l.length ∧ shP p.2.2 ∧ serSz 2000 p.2.2)
   (env := fun p => [(0, .p (evL l)), (5, .p (intsL p.2.1)), (6, .p (.one (.ptr 0 0 0 0))), (38, .p (intsL o)), (39, .i o.length), (40, .i p.1)])
   (mem := fun p => [shfB p.2.2])
   (μ := fun p => o.length - p.1) (0, left0, shf0) ⟨Nat.zero_le _, rfl, hr0, hl0, zP, fun x hx => by cases hx⟩ ⟨[], rfl, Nat.zero_le _, ?_, ?_⟩ ?_
  ·simp only [go_sem]
   trace_state
  ·simp only [go_sem, ltB]
  rintro ⟨k, left, s⟩ ⟨hk, heq, hrl, hll, hP, hZ⟩
  simp only at hk heq hrl hll hP hZ
  rw [heq]
  refine run_seqV ?_
  simp only [go_sem]
  refine run_seqV ?_
  simp only [go_sem]
  refine ⟨fun h1 => ?_, fun h1 => ?_⟩
  ·have e3 : IntKind.i64.wrap ((k : Int) + 1) = ((k + 1 : Nat) : Int) := w64s (by omega)
   have hb : 0 ≤ (k : Int) ∧ k < o.length := ⟨by omega, h1⟩
   have hdr : o.drop k = o.getD k default :: o.drop (k + 1) := drop_getD default h1
   rw [hdr, explL] at heq ⊢
   refine run_seq ?_
   refine run_block ?_
   refine run_seqV ?_
   simp only [go_sem]
   refine ⟨hb, ?_⟩
   generalize o.getD k default = i at heq ⊢
   refine run_seqV ?_
   simp only [go_sem]
   refine call0 (ContI_rc left (by omega) i) ?_
   simp only [go_sem]
   refine callg0 (fun h => may_rc l left (by omega) hrl i (hrl i (by simpa using h))) ?_
   simp only [go_sem]
   refine ⟨fun hc => ?_, fun hc => ?_⟩
   ·rw [show (decide (i ∈ left) && mayS l left i) = false by rw [← Bool.not_eq_true', Bool.not_and]; exact hc, Bool.false_and, Bool.false_and]
    exact endB false _ _ 4 (by simp only [go_sem])
   have hc2 : (decide (i ∈ left) && mayS l left i) = true := by rw [← Bool.not_eq_false', Bool.not_and]; exact hc
   have hin : 0 ≤ i ∧ i < l.length := hrl i (by rw [Bool.and_eq_true, decide_eq_true_eq] at hc2; exact hc2.1)
   have hd := fun M => Do_rc s (shP_z hP hZ) (entE (evAt l i)) (ev_sz hs hin) (ev_ok hP _) M
   have hP' := (Do_eq hP (entE (evAt l i))).2
   have hZ' := Do_sz hP hZ (entE (evAt l i)) (ev_sz hs hin)
   rw [hc2, Bool.true_and]
   have hnx : nextS l s i = (DoS s (entE (evAt l i))).1 := rfl
   have htl : toldI l s i = fitsA (evAt l i) (DoS s (entE (evAt l i))).2.1 := rfl
   rw [hnx, htl]
   generalize DoS s (entE (evAt l i)) = W at hd hP' hZ' ⊢
   obtain ⟨x, a, c⟩ := W
   simp only at hP' hZ' ⊢
   refine run_seqV ?_
   simp only [go_sem]
   refine ⟨hin, callx0 (hentry_rc (evAt l i)) ?_⟩
   simp only [go_sem]
   refine callx0 hd ?_
   simp only [go_sem]
   refine ⟨rfl, run_seqV ?_⟩
   simp only [go_sem]
   rw [fitE]
   refine ⟨hin, fun _ => hin, fun hf => ?_, fun hf => ?_⟩
   ·rw [show fitsA (evAt l i) a = false by rwa [Bool.not_eq_true'] at hf, Bool.false_and]
    exact endB false _ _ 4 (by simp only [go_sem])
   rw [Bool.not_eq_false'] at hf
   refine V_sound ?_
   simp only [go_sem]
   refine call0 (without_rc left (by omega) i) ?_
   simp only [go_sem]
   refine V_sound ?_
   simp only [go_sem, e3]
   have hwl := wo_le left i
   refine ⟨(k + 1, woS left i, x), ⟨h1, by rw [hf, Bool.true_and], wo_range hrl i, by simp only []; omega, hP', hZ'⟩, by simp only []; omega, [_, _], rfl, Nat.zero_le _, ?_, ?_⟩
   ·simp only [go_sem]
   ·simp only [go_sem, ltB]
  ·have hkl : k = o.length := by omega
   subst hkl
   rw [List.drop_length, explL]
   refine run_seqV ?_
   simp only [go_sem]
   refine call0 (over_rc l left (by omega) hrl) ?_
   simp only [go_sem]
   exact run_ret (endB _ _ _ 4 (by simp only [go_sem]))
end Go.Proofs.YtpdcpdngckpgbaaGreat.A
end
section
namespace Go.Proofs.YtpdcpdngckpgbaaGreatAbs
open Go Go.RowKit
def rowT (acc : List (List Nat)) (o : Oper) : List Nat := ((o.after.toList.filter (Region.binds .any)).flatMap fun e => e.on :: acc.getD e.on []).eraseDups
def tabA (ops : List Oper) (acc : List (List Nat)) : List (List Nat) := ops.foldl (fun acc o => acc ++ [rowT acc o]) acc
theorem tabA_pre : ∀ (ops : List Oper) (acc : List (List Nat)), ∃ t, tabA ops acc = acc ++ t
 | [], acc => ⟨[], (List.append_nil _).symm⟩
 | o :: ops, acc => by
  obtain ⟨t, h⟩ := tabA_pre ops (acc ++ [rowT acc o])
  exact ⟨rowT acc o :: t, by show tabA ops _ = _; rw [h, List.append_assoc]; rfl⟩
theorem tabA_row : ∀ (ops : List Oper) (acc : List (List Nat)) (i : Nat) (o : Oper), ops[i]? = some o → ∃ acc', (tabA ops acc).getD (acc.length + i) [] = rowT acc' o ∧ acc'.length = acc.length + i ∧ ∃ t, tabA ops acc = acc' ++ t
 | [], acc, i, o, h => by simp at h
 | p :: ops, acc, 0, o, h => by
  injection h with h
  subst h
  obtain ⟨t, ht⟩ := tabA_pre ops (acc ++ [rowT acc p])
  refine ⟨acc, ?_, rfl, [rowT acc p] ++ t, by show tabA ops _ = _; rw [ht, List.append_assoc]⟩
  show (tabA ops _).getD _ _ = _
  rw [ht, List.append_assoc, Nat.add_zero, List.getD_eq_getElem?_getD, List.getElem?_append_right (Nat.le_refl _), Nat.sub_self]
  rfl
 | p :: ops, acc, i + 1, o, h => by
  obtain ⟨acc', h1, h2, h3⟩ := tabA_row ops (acc ++ [rowT acc p]) i o h
  rw [List.length_append, List.length_cons, List.length_nil, Nat.zero_add, Nat.add_assoc, Nat.add_comm 1 i] at h1 h2
  exact ⟨acc', h1, h2, h3⟩
theorem tabT_row {ops : List Oper} {i : Nat} {o : Oper} (h : ops[i]? = some o) {k : Nat} : k ∈ (tabT ops).getD i [] ↔ ∃ e ∈ o.after.toList, Region.binds .any e = true ∧ (k = e.on ∨ e.on < i ∧ k ∈ (tabT ops).getD e.on []) := by
 obtain ⟨acc, h1, h2, t, h3⟩ := tabA_row ops [] i o h
 simp only [List.length_nil, Nat.zero_add] at h1 h2
 have h1 : (tabT ops).getD i [] = rowT acc o := h1
 have h3 : tabT ops = acc ++ t := h3
 have hg : ∀ m, m < i → (tabT ops).getD m [] = acc.getD m [] := fun m hm => by rw [h3, List.getD_eq_getElem?_getD, List.getD_eq_getElem?_getD, List.getElem?_append_left (by omega)]
 have hn : ∀ m, ¬ m < i → acc.getD m [] = [] := fun m hm => by rw [List.getD_eq_getElem?_getD, List.getElem?_eq_none (by omega)]; rfl
 rw [h1, rowT, List.mem_eraseDups, List.mem_flatMap]
 constructor
 ·rintro ⟨e, he, hk⟩
  obtain ⟨he1, he2⟩ := List.mem_filter.1 he
  refine ⟨e, he1, he2, ?_⟩
  rcases List.mem_cons.1 hk with hk | hk
  ·exact .inl hk
  ·by_cases hm : e.on < i
   ·exact .inr ⟨hm, by rwa [hg _ hm]⟩
   ·rw [hn _ hm] at hk; cases hk
 ·rintro ⟨e, he1, he2, hk⟩
  refine ⟨e, List.mem_filter.2 ⟨he1, he2⟩, List.mem_cons.2 ?_⟩
  rcases hk with hk | ⟨hm, hk⟩
  ·exact .inl hk
  ·exact .inr (by rwa [hg _ hm] at hk)
theorem tabT_trans {ops : List Oper} : ∀ (i : Nat), i < ops.length → ∀ {k j : Nat}, k ∈ (tabT ops).getD i [] → j ∈ (tabT ops).getD k [] → (∀ (i : Nat) (o : Oper), ops[i]? = some o → ∀ e ∈ o.after.toList, Region.binds .any e = true → e.on < i) → j ∈ (tabT ops).getD i [] := by
 intro i
 induction i using Nat.strongRecOn with
 | _ i ih =>
  intro hi k j hk hj hlt
  have ho := List.getElem?_eq_getElem hi
  rw [tabT_row ho] at hk ⊢
  obtain ⟨e, he, hb, hk⟩ := hk
  have hm := hlt i _ ho e he hb
  rcases hk with rfl | ⟨_, hk⟩
  ·exact ⟨e, he, hb, .inr ⟨hm, hj⟩⟩
  ·exact ⟨e, he, hb, .inr ⟨hm, ih e.on hm (by omega) hk hj hlt⟩⟩
def reach (nc : List (List Nat)) : Nat → Nat → Nat → Bool
 | 0, _, _ => false
 | f + 1, i, k => (nc.getD i []).any fun m => m == k || reach nc f m k
def clTab (ols : List OpL) : List (List Nat) := (List.range ols.length).map fun i => (List.range i).filter fun k => reach (ncTab ols) ols.length i k
theorem ncTab_get {ols : List OpL} {i k : Nat} (h : k ∈ (ncTab ols).getD i []) : i < ols.length ∧ k < i ∧ ∀ x y, ols[i]? = some x → ols[k]? = some y → commOk y x = false := by
 by_cases hi : i < ols.length
 ·rw [ncTab, List.getD_eq_getElem?_getD, List.getElem?_map, List.getElem?_range hi] at h
  simp only [Option.map_some, Option.getD_some] at h
  obtain ⟨h1, h2⟩ := List.mem_filter.1 h
  refine ⟨hi, List.mem_range.1 h1, fun x y hx hy => ?_⟩
  rw [hx, hy] at h2
  simpa using h2
 ·rw [ncTab, List.getD_eq_getElem?_getD, List.getElem?_eq_none (by simpa using hi)] at h
  cases h
theorem reach_tab {ops : Array Oper} {ols : List OpL} (hl : ols.length = ops.size) (hok : okDraw ops ols (tabT ops.toList) = true) : ∀ (f i k : Nat), i < ols.length → reach (ncTab ols) f i k = true → k ∈ (tabT ops.toList).getD i []
 | 0, _, _, _, h => by cases h
 | f + 1, i, k, hi, h => by
  rw [reach, List.any_eq_true] at h
  obtain ⟨m, hm, h⟩ := h
  obtain ⟨_, hmi, hno⟩ := ncTab_get hm
  have hil : i < ops.size := by omega
  have row : ∀ i, i < ops.size → ∃ o x, ops[i]? = some o ∧ ols[i]? = some x ∧ okAt ops ols (tabT ops.toList) i o x = true := fun i hil => by
   have h1 := List.all_eq_true.1 hok i (List.mem_range.2 hil)
   rw [Array.getElem?_eq_getElem hil, List.getElem?_eq_getElem (by omega)] at h1
   exact ⟨_, _, Array.getElem?_eq_getElem hil, List.getElem?_eq_getElem (by omega), h1⟩
  have hlt : ∀ (i : Nat) (o : Oper), ops.toList[i]? = some o → ∀ e ∈ o.after.toList, Region.binds .any e = true → e.on < i := by
   intro i o ho e he hb
   have hil : i < ops.size := by
    have := (List.getElem?_eq_some_iff.1 ho).1
    simpa using this
   obtain ⟨o', x, ho', _, h1⟩ := row i hil
   simp only [okAt, Bool.and_eq_true] at h1
   have : o' = o := by
    rw [Array.getElem?_toList] at ho
    rw [ho] at ho'
    injection ho' with ho'
    exact ho'.symm
   subst this
   have h2 := List.all_eq_true.1 h1.1.1 e he
   rw [hb] at h2
   simpa using h2
  have hmT : m ∈ (tabT ops.toList).getD i [] := by
   obtain ⟨o, x, ho, hx, h1⟩ := row i hil
   simp only [okAt, Bool.and_eq_true] at h1
   have h2 := List.all_eq_true.1 h1.2 m (List.mem_range.2 hmi)
   simp only [Bool.or_eq_true] at h2
   rcases h2 with h2 | h2
   ·simpa using h2
   ·have hy := List.getElem?_eq_getElem (show m < ols.length by omega)
    rw [hy] at h2
    have h3 : commOk ols[m] x = true := h2
    rw [hno x _ hx hy] at h3
    cases h3
  rw [Bool.or_eq_true, beq_iff_eq] at h
  rcases h with rfl | h
  ·exact hmT
  ·exact tabT_trans i (by simpa using hil) hmT (reach_tab hl hok f m k (by omega) h) hlt
section
variable {P : Program} {n m : Nat} {e : Nat → SV} {M : List Blk} {K : Exit → St → Prop}
theorem run_regT0 {ols : List OpL} {xs : List XOp} {s : St} (he : xs.map (·.op) = ols) (hp : pairsX (clTab ols) xs = true) (h : runX P xs s (K .normal)) : Run P n m (.reg true ols) s K := by
 intro code hc I σ M w0 a w hm hs
 obtain ⟨id, ops, rfl, hls, hd⟩ := compC_reg hc
 obtain ⟨hmx, hok⟩ := hd rfl
 refine wp_region_any hmx ?_
 have hlen : xs.length = ops.size := by have := compLs_length hls; rw [← he] at this; simpa using this
 have hol : ols.length = ops.size := by rw [← he, List.length_map, hlen]
 refine any_soundX (xs := xs) (rem := xs.zipIdx.map fun p => (p.2, p.1)) (T := tabT ops.toList) hm.2 (okDraw_tab hok) (fun i k x y hx hy hki => ?_) (K := K .normal) (fun s a w h1 h2 => ⟨s, h1, h2⟩) ops.size _ s a _ (by simp [hlen]) ?_ ?_ ?_ (by simp) ?_ ?_ hs.drew
 ·rcases pairsX_spec hp hx hy hki with h3 | h3
  ·left
   have hil : i < ols.length := by rw [hol, ← hlen]; exact (List.getElem?_eq_some_iff.1 hx).1
   rw [clTab, List.getD_eq_getElem?_getD, List.getElem?_map, List.getElem?_range hil] at h3
   simp only [Option.map_some, Option.getD_some, List.contains_iff_mem] at h3
   rw [List.contains_iff_mem]
   exact reach_tab hol hok _ i k hil (List.mem_filter.1 h3).2
  ·exact .inr h3
 ·subst he
  intro p hp
  obtain ⟨q, hq, rfl⟩ := List.mem_map.1 hp
  have hq' : xs[q.2]? = some q.1 := List.mem_zipIdx_iff_getElem?.1 (show (q.1, q.2) ∈ xs.zipIdx from hq)
  obtain ⟨o, ho, hco⟩ := compLs_get hls q.2 q.1.op (by rw [List.getElem?_map, hq']; rfl)
  exact ⟨hq', o, by simpa using ho, hco⟩
 ·rw [List.pairwise_map]
  refine List.pairwise_iff_getElem.2 (fun i j hi hj hij => ?_)
  simp only [List.getElem_zipIdx]
  omega
 ·intro i hi
  have h0 : (Array.replicate ops.size false).getD i true = false := by simp [hi]
  refine ⟨fun _ => ?_, fun _ => h0⟩
  have hi' : i < xs.length := by omega
  refine ⟨xs[i], List.mem_map.2 ⟨(xs[i], i), ?_, rfl⟩⟩
  exact List.mem_zipIdx_iff_getElem?.2 (List.getElem?_eq_getElem hi')
 ·intro j o hj hl
  simp at hl
  by_cases h : j < ops.size
  ·simp [h] at hl
  ·simp [h] at hl
 ·have e0 : (xs.zipIdx.map fun p => (p.2, p.1)).map (·.2) = xs := by
   apply List.ext_getElem?
   intro i
   simp [List.getElem?_zipIdx]
   cases xs[i]? <;> rfl
  rw [e0]
  exact h
theorem run_regT {ols : List OpL} {c : C} (k : Nat) (h : evX P (clTab ols) ols M.length [] e (M ++ List.replicate k (.rows 0 0 0 [] true)) (fun s => Run P n m c s K)) : Run P n m (.seq (.reg true ols) c) ⟨e, M⟩ K := by
 refine run_gh (gh_res k) (run_seq ?_)
 obtain ⟨xs, h1, h2⟩ := evX_sound h
 obtain ⟨h3, h4⟩ := runX_pure h2
 exact run_regT0 h1 (by simpa using h3) h4
theorem run_regTe {ols : List OpL} (k : Nat) (h : evX P (clTab ols) ols M.length [] e (M ++ List.replicate k (.rows 0 0 0 [] true)) (K .normal)) : Run P n m (.reg true ols) ⟨e, M⟩ K := by
 refine run_gh (gh_res k) ?_
 obtain ⟨xs, h1, h2⟩ := evX_sound h
 obtain ⟨h3, h4⟩ := runX_pure h2
 exact run_regT0 h1 (by simpa using h3) h4
def OpsS (P : Program) (n m : Nat) (ols : List OpL) (s : St) (K : St → Prop) : Prop :=
 ∀ (ops : Array Oper) (l : List Oper) (k : Nat) (I : Im) (σ : List Plc) (M : List Blk) (w0 : World) (Q : Exit → Act → World → Prop) (a : Act) (w : World), σ.length = m → GI P I → (∀ s a w, Sim n I σ M w0 s a w → K s → Q .normal a w) → (∀ j, j < l.length → l[j]? = ops[k + j]?) → compLs P n ops l = some ols → Sim n I σ M w0 s a w → wpOps P ops Q (List.range' k l.length) a w
theorem opsS_ops {ols : List OpL} {s : St} {K : St → Prop} (h : runOps P false ols s K) : OpsS P n m ols s K := fun ops l k I σ M w0 Q a w _ hG hQ hl hc hs => ops_sound hG hQ l k ols s a w hl hc h hs
theorem opsS_gh {ols : List OpL} {s s' : St} {K : St → Prop} (hg : Gh n m s s') (h : OpsS P n m ols s' K) : OpsS P n m ols s K := fun ops l k I σ M w0 Q a w hm hG hQ hl hc hs => h ops l k I σ M w0 Q a w hm hG hQ hl hc (hg I σ M w0 a w hm hs)
theorem opsS_cut : ∀ (t : Nat) {ols : List OpL} {s : St} {K : St → Prop}, runOps P false (ols.take t) s (fun s' => OpsS P n m (ols.drop t) s' K) → OpsS P n m ols s K
 | 0, ols, s, K, h => h
 | t + 1, [], s, K, h => h
 | t + 1, x :: xs, s, K, h => fun ops l k I σ M w0 Q a w hm hG hQ hl hc hs => by
  obtain ⟨r, M', h1, h2⟩ := h
  cases l with
  | nil => injection hc with hc; cases hc
  | cons o l =>
   simp only [compLs, Option.bind_eq_some_iff, Option.map_eq_some_iff] at hc
   obtain ⟨x', hx, xs', hxs, hxe⟩ := hc
   injection hxe with e1 e2
   subst e1 e2
   have h0 : ops[k]? = some o := by have := hl 0 (by simp); simpa using this.symm
   rw [List.length_cons, List.range'_succ, wpOps_cons]
   refine wpOp_of h0 (sim_step hG hx hs h1 (fun v w' hS => ?_))
   exact opsS_cut t h2 ops l (k + 1) I σ M w0 Q _ _ hm hG hQ (fun j hj => by have := hl (j + 1) (by simp; omega); simpa [Nat.add_assoc, Nat.add_comm 1 j] using this) hxs hS
theorem opsS_ev {ols : List OpL} {e : Nat → SV} {M : List Blk} {K : St → Prop} (t : Nat) (h : ev P false (ols.take t) e M (fun s' => OpsS P n m (ols.drop t) s' K)) : OpsS P n m ols ⟨e, M⟩ K := opsS_cut t (ev_sound h)
theorem opsS_end {ols : List OpL} {e : Nat → SV} {M : List Blk} {K : St → Prop} (h : ev P false ols e M K) : OpsS P n m ols ⟨e, M⟩ K := opsS_ops (ev_sound h)
theorem run_S {ols : List OpL} {c : C} {s : St} (h : OpsS P n m ols s (fun s => Run P n m c s K)) : Run P n m (.seq (.reg false ols) c) s K := by
 refine run_seq ?_
 intro code hc I σ M w0 a w hm hs
 obtain ⟨id, ops, rfl, hls, hd⟩ := compC_reg hc
 refine wp_region ?_
 have := h ops ops.toList 0 I σ M w0 (fun e a' w' => ∃ s', Sim n I σ M w0 s' a' w' ∧ andThen (fun s' => Run P n m c s' K) K e s') a w hm.1 hm.2 (fun s a w h1 h2 => ⟨s, h1, h2⟩) (fun j hj => by simp) hls hs
 rw [List.range_eq_range']
 simpa using this
end
end Go.Proofs.YtpdcpdngckpgbaaGreatAbs
end
section
namespace Go.Proofs.YtpdcpdngckpgbaaGreat.A
open Go Go.Proofs Go.Proofs.YtpdcpdngckpgbaaGreatAbs
theorem byteAt_int (n : Int) (k : Nat) : IntKind.u8.wrap (n.fdiv (2 ^ (8 * k))) = ((byteAt n k).toNat : Int) := by
 unfold byteAt
 rw [UInt8.toNat_ofNat', IntKind.wrap_u8]
 generalize n.fdiv (2 ^ (8 * k)) = x
 omega
theorem w8_take {n : Int} {k : Nat} (hk : k < 8) : (w8 n).take (k + 1) = (w8 n).take k ++ [byteAt n k] := by
 rw [take_succ_getD default (by rw [w8_len]; exact hk)]
 congr 2
 rw [gd_get (by rw [w8_len]; exact hk)]
 simp [w8]
abbrev byR (v : Nat) (L : List UInt8) (f : Bool) : Blk := .rows 5 1 v (byteRows L) f
set_option maxRecDepth 20000 in
theorem word_rc {M : List Blk} {b v : Nat} {f : Bool} {L : List UInt8} (hb : M[b]? = some (byR v L f)) (hL : L.length ≤ 100000000) (n : Int) : CallR Tryz.prog M n_history_word [.one (.arr 1 b v 0 L.length), .i n] (.p (.one (.arr 1 b (v + 8) 0 (L ++ w8 n).length))) (M.set b (byR (v + 8) (L ++ w8 n) false)) := by
 refine callR_wf fun hMB => ?_
 have hbl : b < M.length := getElem?_lt hb
 have hB : ∀ (v : Nat) (X : List UInt8) (f : Bool), ∀ x ∈ M.set b (byR v X f), ltB (M.set b (byR v X f)).length x := fun v X f => ltM_set hMB (lt_byteRows _ _)
 refine callR_intro F_history_word (by simp) ?_
 refine run_seqV ?_
 simp only [c_history_word, go_sem]
 refine run_seqV ?_
 simp only [go_sem]
 refine R_loop (ι := Nat × Bool) (J := fun p => p.1 ≤ 8)
  (env := fun p => [(0, .p (.one (.arr 1 b (v + p.1) 0 (L ++ (w8 n).take p.1).length))), (1, .i n), (6, .i p.1)])
  (mem := fun p => M.set b (byR (v + p.1) (L ++ (w8 n).take p.1) p.2)) (μ := fun p => 8 - p.1) (0, f) (Nat.zero_le _) ⟨[], ?_, ?_, ?_, hB _ _ _⟩ ?_
 ·simp only [Nat.add_zero, List.take_zero, List.append_nil]
  exact (set_self hb).symm
 ·rw [List.length_set]; exact Nat.le_refl _
 ·simp only [go_sem, List.length_set, Nat.add_zero, List.take_zero, List.append_nil]
  exact hbl
 rintro ⟨k, f'⟩ hk
 simp only at hk
 refine run_seqV ?_
 simp only [go_sem]
 refine run_seqV ?_
 simp only [go_sem]
 refine ⟨fun h1 => ?_, fun h1 => ?_⟩
 ·have hk8 : k < 8 := by omega
  have e3 : IntKind.i64.wrap ((k : Int) + 1) = ((k + 1 : Nat) : Int) := w64s (by omega)
  have e8 : IntKind.i64.wrap (8 * (k : Int)) = ((8 * k : Nat) : Int) := by rw [w64 (by omega) (by omega)]; omega
  have em : min (8 * k) 64 = 8 * k := by omega
  refine V_sound ?_
  simp only [go_sem, e8, em, e3, Int.toNat_natCast, byteAt_int, gb hbl, gl2, sl2, ga, sa, List.length_set, hbl]
  have htl : ((w8 n).take k).length = k := by rw [List.length_take, w8_len]; omega
  refine ⟨by omega, by rw [List.length_append, htl]; omega, (k + 1, false), hk8, by simp only []; omega, [_], by rw [List.set_set, List.append_assoc, ← w8_take hk8, Nat.add_assoc], ?_, ?_, hB _ _ _⟩
  ·rw [List.length_set]; exact Nat.le_refl _
  ·simp only [go_sem, List.length_set, w8_take hk8, List.length_append, List.length_cons, List.length_nil, Nat.add_assoc, Nat.zero_add]
   exact hbl
 ·have hk8 : k = 8 := by omega
  subst hk8
  have ht8 : (w8 n).take 8 = w8 n := List.take_of_length_le (by rw [w8_len]; exact Nat.le_refl _)
  rw [ht8]
  refine V_sound ?_
  simp only [go_sem]
  refine fin_own (.inr rfl) (gh_trunc (b := b) (L ++ w8 n).length (gb hbl)) [] (cnd := True) rfl trivial ?_ (leS_of rfl) ?_ ?_ (hB _ _ _)
  ·simp only [List.set_set, List.append_nil, byteRows_take]
  ·rw [List.length_set]; exact Nat.le_refl _
  ·simp only [go_sem, List.length_set]
   exact hbl
theorem fm_len {α : Type} {f : α → List UInt8} {c : Nat} : ∀ {l : List α}, (∀ x ∈ l, (f x).length ≤ c) → (l.flatMap f).length ≤ c * l.length
 | [], _ => Nat.zero_le _
 | x :: l, h => by
  have h1 := h x List.mem_cons_self
  have h2 := fm_len (l := l) (f := f) (c := c) fun y hy => h y (List.mem_cons_of_mem _ hy)
  rw [List.flatMap_cons, List.length_append, List.length_cons, Nat.mul_succ]
  omega
theorem fm_take {α : Type} [Inhabited α] (f : α → List UInt8) {l : List α} {k : Nat} (hk : k < l.length) : (l.take (k + 1)).flatMap f = (l.take k).flatMap f ++ f (l.getD k default) := by
 rw [take_succ_getD default hk, List.flatMap_append]
 simp
theorem dnW_len (d : Dn) : (dnW d).length = 40 := by simp [dnW, w8_len]
theorem smW_len (y : Smp) : (smW y).length = 16 := by simp [smW, w8_len]
theorem lnW_len {x : Lin} (h1 : x.ser.size ≤ 2000) (h2 : x.smps.length ≤ 1000) : (lnW x).length ≤ 18016 := by
 have h3 := fm_len (l := x.smps) (f := smW) (c := 16) fun y _ => by rw [smW_len]; exact Nat.le_refl _
 simp only [lnW, List.length_append, w8_len, bs_len]
 omega
def head8 (n : Nat) : UInt8 := UInt8.ofNat (n % 256)
theorem head8_int (n : Nat) : IntKind.u8.wrap (n : Int) = ((head8 n).toNat : Int) := by
 unfold head8
 rw [UInt8.toNat_ofNat', IntKind.wrap_u8]
 omega
def mkA (left : List Int) (k : Nat) : List UInt8 := head8 left.length :: (left.take k).flatMap w8
def mkB (left : List Int) (s : Shf) (k : Nat) : List UInt8 := mkA left left.length ++ w8 s.floor ++ (s.dones.take k).flatMap dnW
def mkC (left : List Int) (s : Shf) (k : Nat) : List UInt8 := mkB left s s.dones.length ++ (s.lines.take k).flatMap lnW
theorem mkA_len (left : List Int) {k : Nat} (hk : k ≤ left.length) : (mkA left k).length ≤ 1 + 8 * left.length := by
 have := fm_len (l := left.take k) (f := w8) (c := 8) fun y _ => by rw [w8_len]; exact Nat.le_refl _
 rw [List.length_take] at this
 unfold mkA
 rw [List.length_cons]
 omega
theorem mkB_len (left : List Int) (s : Shf) {k : Nat} (hk : k ≤ s.dones.length) : (mkB left s k).length ≤ 9 + 8 * left.length + 40 * s.dones.length := by
 have h1 := mkA_len left (Nat.le_refl left.length)
 have := fm_len (l := s.dones.take k) (f := dnW) (c := 40) fun y _ => by rw [dnW_len]; exact Nat.le_refl _
 rw [List.length_take] at this
 unfold mkB
 rw [List.length_append, List.length_append, w8_len]
 omega
theorem mkC_len (left : List Int) (s : Shf) (hser : ∀ i, i < s.lines.length → (s.lines.getD i default).ser.size ≤ 2000) (hsmp : ∀ i, i < s.lines.length → (s.lines.getD i default).smps.length ≤ 1000) {k : Nat} (hk : k ≤ s.lines.length) : (mkC left s k).length ≤ 9 + 8 * left.length + 40 * s.dones.length + 18016 * s.lines.length := by
 have h1 := mkB_len left s (Nat.le_refl s.dones.length)
 have := fm_len (l := s.lines.take k) (f := lnW) (c := 18016) fun y hy => by
  obtain ⟨j, hj, rfl⟩ := List.mem_iff_getElem.1 (List.mem_of_mem_take hy)
  have a := hser j hj
  have b := hsmp j hj
  rw [gd_get hj] at a b
  exact lnW_len a b
 rw [List.length_take] at this
 unfold mkC
 rw [List.length_append]
 omega
set_option maxRecDepth 20000 in
theorem mark_rc (left : List Int) (hl : left.length ≤ 1000) (s : Shf) (hz : zShf s) (M : List Blk) : CallR Tryz.prog M n_history_mark [intsL left, shfA s] (.s (markS left s)) M := by
 refine callPG F_history_mark (Nat.le_of_ble_eq_true rfl) (by simp only [go_sem]) ?_ M
 obtain ⟨hll, hdl, hser, hsmp⟩ := hz
 have hB : ∀ (v : Nat) (L : List UInt8) (f : Bool), ∀ x ∈ [shfB s, byR v L f], ltB 2 x := fun v L f x hx => by
  simp only [List.mem_cons, List.not_mem_nil, or_false] at hx
  rcases hx with rfl | rfl
  ·simp only [go_sem, ltB]
  ·exact lt_byteRows _ _
 refine run_seqV ?_
 simp only [go_sem]
 refine run_seqV ?_
 simp only [go_sem, head8_int]
 have hrow : [[AV.c (CV.v (Value.int IntKind.u8 ((head8 left.length).toNat : Int)))]] = byteRows (mkA left 0) := rfl
 rw [hrow]
 refine run_seqV ?_
 simp only [go_sem]
 have hw : ∀ {N : List Blk} {v : Nat} {L : List UInt8} {f : Bool} (n : Int), L.length ≤ 100000000 → N[1]? = some (byR v L f) → CallR Tryz.prog N n_history_word [.one (.arr 1 1 v 0 L.length), .i n] (.p (.one (.arr 1 1 (v + 8) 0 (L ++ w8 n).length))) (N.set 1 (byR (v + 8) (L ++ w8 n) false)) := fun n hL h => word_rc h hL n
 refine R_loop (ι := Nat × Nat × Bool) (J := fun p => p.1 ≤ left.length)
  (env := fun p => [(3, .p (.one (.ptr 0 0 0 0))), (5, .p (.one (.arr 1 1 p.2.1 0 (mkA left p.1).length))), (19, .p (intsL left)), (20, .i left.length), (21, .i p.1)])
  (mem := fun p => [shfB s, byR p.2.1 (mkA left p.1) p.2.2]) (μ := fun p => left.length - p.1) (0, 0, true) (Nat.zero_le _) ⟨[], rfl, Nat.zero_le _, ?_, hB _ _ _⟩ ?_
 ·simp only [go_sem]
  rfl
 rintro ⟨k, v, f⟩ hk
 simp only at hk
 refine run_seqV ?_
 simp only [go_sem]
 refine run_seqV ?_
 simp only [go_sem]
 refine ⟨fun h1 => ?_, fun h1 => ?_⟩
 ·have e3 : IntKind.i64.wrap ((k : Int) + 1) = ((k + 1 : Nat) : Int) := w64s (by omega)
  have hst : mkA left (k + 1) = mkA left k ++ w8 (left.getD k default) := by unfold mkA; rw [fm_take w8 h1]; rfl
  have hle := mkA_len left hk
  generalize mkA left k = L at hst hle ⊢
  refine V_sound ?_
  simp only [go_sem]
  refine ⟨⟨by omega, h1⟩, call1 (hw (left.getD k default) (by omega) rfl) (by simp only [go_sem]) (fun h => Bool.noConfusion h) ?_⟩
  simp only [go_sem, e3]
  refine ⟨(k + 1, v + 8, false), h1, by simp only []; omega, [], by simp only [hst]; rfl, Nat.zero_le _, ?_, hB _ _ _⟩
  simp only [go_sem, hst]
 have hkl : k = left.length := by omega
 subst hkl
 clear h1 hk
 refine run_seqV ?_
 simp only [go_sem]
 have hle := mkA_len left (Nat.le_refl left.length)
 refine call1 (hw s.floor (by omega) rfl) (by simp only [go_sem]) (fun h => Bool.noConfusion h) ?_
 simp only [go_sem]
 have hb0 : mkA left left.length ++ w8 s.floor = mkB left s 0 := by unfold mkB; simp
 rw [hb0]
 generalize v + 8 = v0
 refine run_seqV ?_
 simp only [go_sem]
 refine R_loop (ι := Nat × Nat × Bool) (J := fun p => p.1 ≤ s.dones.length)
  (env := fun p => [(3, .p (.one (.ptr 0 0 0 0))), (5, .p (.one (.arr 1 1 p.2.1 0 (mkB left s p.1).length))), (34, .p (dnL s.dones)), (35, .i s.dones.length), (36, .i p.1)])
  (mem := fun p => [shfB s, byR p.2.1 (mkB left s p.1) p.2.2]) (μ := fun p => s.dones.length - p.1) (0, v0, false) (Nat.zero_le _) ⟨[], rfl, Nat.zero_le _, ?_, hB _ _ _⟩ ?_
 ·simp only [go_sem]
 rintro ⟨k, v, f⟩ hk
 simp only at hk
 refine run_seqV ?_
 simp only [go_sem]
 refine run_seqV ?_
 simp only [go_sem]
 refine ⟨fun h1 => ?_, fun h1 => ?_⟩
 ·have e3 : IntKind.i64.wrap ((k : Int) + 1) = ((k + 1 : Nat) : Int) := w64s (by omega)
  have hst : mkB left s (k + 1) = mkB left s k ++ dnW (s.dones.getD k default) := by unfold mkB; rw [fm_take dnW h1, ← List.append_assoc]
  have hle := mkB_len left s hk
  generalize mkB left s k = L at hst hle ⊢
  refine run_seq ?_
  refine run_block ?_
  refine run_seqV ?_
  simp only [go_sem]
  refine ⟨⟨by omega, h1⟩, run_seqV ?_⟩
  simp only [go_sem]
  refine run_seqV ?_
  simp only [go_sem]
  refine ⟨fun hc => ?_, fun hc => ?_⟩
  ·refine run_regTe 0 ?_
   simp only [go_sem, List.replicate_zero, List.append_nil]
   generalize s.dones.getD k default = d at hst hc ⊢
   refine callxf 3 [1] [(1, byR (v + 8) (L ++ w8 d.client) false)] (by simp) (fun N hN => hw d.client (by omega) (hN 1 (by simp))) ?_
   simp only [apL, go_sem]
   refine callxf 3 [1] [(1, byR (v + 8 + 8) (L ++ w8 d.client ++ w8 d.id) false)] (by simp) (fun N hN => hw d.id (by simp only [List.length_append, w8_len]; omega) (hN 1 (by simp))) ?_
   simp only [apL, go_sem]
   refine callxf 3 [1] [(1, byR (v + 8 + 8 + 8) (L ++ w8 d.client ++ w8 d.id ++ w8 d.ans.code) false)] (by simp) (fun N hN => hw d.ans.code (by simp only [List.length_append, w8_len]; omega) (hN 1 (by simp))) ?_
   simp only [apL, go_sem]
   refine callxf 3 [1] [(1, byR (v + 8 + 8 + 8 + 8) (L ++ w8 d.client ++ w8 d.id ++ w8 d.ans.code ++ w8 1) false)] (by simp) (fun N hN => hw 1 (by simp only [List.length_append, w8_len]; omega) (hN 1 (by simp))) ?_
   simp only [apL, go_sem]
   refine callxf 3 [1] [(1, byR (v + 8 + 8 + 8 + 8 + 8) (L ++ w8 d.client ++ w8 d.id ++ w8 d.ans.code ++ w8 1 ++ w8 d.ans.n) false)] (by simp) (fun N hN => hw d.ans.n (by simp only [List.length_append, w8_len]; omega) (hN 1 (by simp))) ?_
   simp only [apL, go_sem]
   have hL : L ++ w8 d.client ++ w8 d.id ++ w8 d.ans.code ++ w8 1 ++ w8 d.ans.n = mkB left s (k + 1) := by
    rw [hst, dnW, hc]
    simp only [List.append_assoc]
    rfl
   rw [hL]
   refine ⟨rfl, V_sound ?_⟩
   simp only [go_sem, e3]
   refine ⟨(k + 1, v + 8 + 8 + 8 + 8 + 8, false), h1, by simp only []; omega, [_], rfl, Nat.zero_le _, ?_, hB _ _ _⟩
   simp only [go_sem]
  ·refine run_regTe 0 ?_
   simp only [go_sem, List.replicate_zero, List.append_nil]
   generalize s.dones.getD k default = d at hst hc ⊢
   refine callxf 3 [1] [(1, byR (v + 8) (L ++ w8 d.client) false)] (by simp) (fun N hN => hw d.client (by omega) (hN 1 (by simp))) ?_
   simp only [apL, go_sem]
   refine callxf 3 [1] [(1, byR (v + 8 + 8) (L ++ w8 d.client ++ w8 d.id) false)] (by simp) (fun N hN => hw d.id (by simp only [List.length_append, w8_len]; omega) (hN 1 (by simp))) ?_
   simp only [apL, go_sem]
   refine callxf 3 [1] [(1, byR (v + 8 + 8 + 8) (L ++ w8 d.client ++ w8 d.id ++ w8 d.ans.code) false)] (by simp) (fun N hN => hw d.ans.code (by simp only [List.length_append, w8_len]; omega) (hN 1 (by simp))) ?_
   simp only [apL, go_sem]
   refine callxf 3 [1] [(1, byR (v + 8 + 8 + 8 + 8) (L ++ w8 d.client ++ w8 d.id ++ w8 d.ans.code ++ w8 0) false)] (by simp) (fun N hN => hw 0 (by simp only [List.length_append, w8_len]; omega) (hN 1 (by simp))) ?_
   simp only [apL, go_sem]
   refine callxf 3 [1] [(1, byR (v + 8 + 8 + 8 + 8 + 8) (L ++ w8 d.client ++ w8 d.id ++ w8 d.ans.code ++ w8 0 ++ w8 d.ans.n) false)] (by simp) (fun N hN => hw d.ans.n (by simp only [List.length_append, w8_len]; omega) (hN 1 (by simp))) ?_
   simp only [apL, go_sem]
   have hL : L ++ w8 d.client ++ w8 d.id ++ w8 d.ans.code ++ w8 0 ++ w8 d.ans.n = mkB left s (k + 1) := by
    rw [hst, dnW, hc]
    simp only [List.append_assoc]
    rfl
   rw [hL]
   refine ⟨rfl, V_sound ?_⟩
   simp only [go_sem, e3]
   refine ⟨(k + 1, v + 8 + 8 + 8 + 8 + 8, false), h1, by simp only []; omega, [_], rfl, Nat.zero_le _, ?_, hB _ _ _⟩
   simp only [go_sem]
 have hkl : k = s.dones.length := by omega
 subst hkl
 clear h1 hk
 have hc0 : mkB left s s.dones.length = mkC left s 0 := by unfold mkC; simp
 rw [hc0]
 generalize v = v1
 refine run_seqV ?_
 simp only [go_sem]
 refine R_loop (ι := Nat × Nat × Bool) (J := fun p => p.1 ≤ s.lines.length)
  (env := fun p => [(5, .p (.one (.arr 1 1 p.2.1 0 (mkC left s p.1).length))), (62, .p (linL s.lines)), (63, .i s.lines.length), (64, .i p.1)])
  (mem := fun p => [shfB s, byR p.2.1 (mkC left s p.1) p.2.2]) (μ := fun p => s.lines.length - p.1) (0, v1, f) (Nat.zero_le _) ⟨[], rfl, Nat.zero_le _, ?_, hB _ _ _⟩ ?_
 ·simp only [go_sem]
 rintro ⟨k, v, f⟩ hk
 simp only at hk
 refine run_seqV ?_
 simp only [go_sem]
 refine run_seqV ?_
 simp only [go_sem]
 refine ⟨fun h1 => ?_, fun h1 => ?_⟩
 ·have e3 : IntKind.i64.wrap ((k : Int) + 1) = ((k + 1 : Nat) : Int) := w64s (by omega)
  have hst : mkC left s (k + 1) = mkC left s k ++ lnW (s.lines.getD k default) := by unfold mkC; rw [fm_take lnW h1, ← List.append_assoc]
  have hle := mkC_len left s hser hsmp hk
  generalize mkC left s k = L at hst hle ⊢
  have hx1 := hser k h1
  have hx2 := hsmp k h1
  refine run_seq ?_
  refine run_block ?_
  refine run_seqV ?_
  simp only [go_sem]
  refine ⟨⟨by omega, h1⟩, ?_⟩
  generalize s.lines.getD k default = x at hst hx1 hx2 ⊢
  refine run_regT 0 ?_
  simp only [go_sem, List.replicate_zero, List.append_nil]
  refine callxf 3 [1] [(1, byR (v + 8) (L ++ w8 x.smps.length) false)] (by simp) (fun N hN => hw _ (by omega) (hN 1 (by simp))) ?_
  simp only [apL, go_sem]
  refine callxf 3 [1] [(1, byR (v + 8 + 8) (L ++ w8 x.smps.length ++ w8 x.ser.size) false)] (by simp) (fun N hN => hw _ (by simp only [List.length_append, w8_len]; omega) (hN 1 (by simp))) ?_
  simp only [apL, go_sem]
  have hmap : ∀ (A : List UInt8) (t : ByteArray), byteRows A ++ (bs t).map byteRow = byteRows (A ++ bs t) := fun A t => byteRow_map A (bs t)
  refine ⟨by simp only [List.length_append, w8_len]; omega, rfl, run_seqV ?_⟩
  simp only [go_sem, hmap]
  have hlb : (L ++ w8 x.smps.length ++ w8 x.ser.size).length + x.ser.size = (L ++ w8 x.smps.length ++ w8 x.ser.size ++ bs x.ser).length := by rw [List.length_append (bs := bs x.ser), bs_len]
  simp only [hlb]
  have hle2 : (L ++ w8 x.smps.length ++ w8 x.ser.size ++ bs x.ser).length ≤ L.length + 3000 := by simp only [List.length_append, w8_len, bs_len]; omega
  have hst2 : mkC left s (k + 1) = L ++ w8 x.smps.length ++ w8 x.ser.size ++ bs x.ser ++ x.smps.flatMap smW := by rw [hst, lnW]; simp only [List.append_assoc]
  clear hst hlb
  generalize L ++ w8 x.smps.length ++ w8 x.ser.size ++ bs x.ser = Q at hle2 hst2 ⊢
  generalize v + 8 + 8 + 1 = v2
  refine run_block ?_
  refine R_loop (ι := Nat × Nat × Bool) (J := fun p => p.1 ≤ x.smps.length)
   (env := fun p => [(5, .p (.one (.arr 1 1 p.2.1 0 (Q ++ (x.smps.take p.1).flatMap smW).length))), (62, .p (linL s.lines)), (63, .i s.lines.length), (64, .i k), (81, .p (smpL x.smps)), (82, .i x.smps.length), (83, .i p.1)])
   (mem := fun p => [shfB s, byR p.2.1 (Q ++ (x.smps.take p.1).flatMap smW) p.2.2]) (μ := fun p => x.smps.length - p.1) (0, v2, false) (Nat.zero_le _) ⟨[_], by simp only [List.take_zero, List.flatMap_nil, List.append_nil]; rfl, Nat.zero_le _, ?_, hB _ _ _⟩ ?_
  ·simp only [go_sem, List.take_zero, List.flatMap_nil, List.append_nil]
  rintro ⟨j, v, f⟩ hj
  simp only at hj
  refine run_seqV ?_
  simp only [go_sem]
  refine run_seqV ?_
  simp only [go_sem]
  refine ⟨fun h2 => ?_, fun h2 => ?_⟩
  ·have e4 : IntKind.i64.wrap ((j : Int) + 1) = ((j + 1 : Nat) : Int) := w64s (by omega)
   have hst3 : Q ++ (x.smps.take (j + 1)).flatMap smW = Q ++ (x.smps.take j).flatMap smW ++ smW (x.smps.getD j default) := by rw [fm_take smW h2, ← List.append_assoc]
   have hle3 : (Q ++ (x.smps.take j).flatMap smW).length ≤ Q.length + 16000 := by
    have := fm_len (l := x.smps.take j) (f := smW) (c := 16) fun y _ => by rw [smW_len]; exact Nat.le_refl _
    rw [List.length_take] at this
    rw [List.length_append]
    omega
   generalize Q ++ (x.smps.take j).flatMap smW = R at hst3 hle3 ⊢
   refine run_seq ?_
   refine run_block ?_
   refine run_seqV ?_
   simp only [go_sem]
   refine ⟨⟨by omega, h2⟩, ?_⟩
   generalize x.smps.getD j default = y at hst3 ⊢
   refine run_regTe 0 ?_
   simp only [go_sem, List.replicate_zero, List.append_nil]
   refine callxf 3 [1] [(1, byR (v + 8) (R ++ w8 y.t) false)] (by simp) (fun N hN => hw _ (by omega) (hN 1 (by simp))) ?_
   simp only [apL, go_sem]
   refine callxf 3 [1] [(1, byR (v + 8 + 8) (R ++ w8 y.t ++ w8 y.v) false)] (by simp) (fun N hN => hw _ (by simp only [List.length_append, w8_len]; omega) (hN 1 (by simp))) ?_
   simp only [apL, go_sem]
   refine ⟨rfl, V_sound ?_⟩
   have hst4 : R ++ w8 y.t ++ w8 y.v = Q ++ (x.smps.take (j + 1)).flatMap smW := by rw [hst3, smW, List.append_assoc]
   simp only [go_sem, e4, hst4]
   refine ⟨(j + 1, v + 8 + 8, false), h2, by simp only []; omega, [_], rfl, Nat.zero_le _, ?_, hB _ _ _⟩
   simp only [go_sem]
  ·have hjl : j = x.smps.length := by omega
   subst hjl
   rw [List.take_length, ← hst2]
   refine V_sound ?_
   simp only [go_sem, e3]
   refine ⟨(k + 1, v, f), h1, by simp only []; omega, [], rfl, Nat.zero_le _, ?_, hB _ _ _⟩
   simp only [go_sem]
 have hkl : k = s.lines.length := by omega
 subst hkl
 clear h1 hk
 refine run_seqV ?_
 simp only [go_sem]
 have hm : mkC left s s.lines.length = markL left s := by
  unfold mkC mkB mkA markL
  rw [List.take_length, List.take_length, List.take_length]
  simp only [List.cons_append, List.append_assoc]
  rfl
 refine run_ret (fin0 (.inr rfl) (qs := [.s (markS left s)]) (cnd := True) ?_ trivial (SubS.refl _) (by simp only [go_sem]))
 simp only [go_sem, hm]
 rfl
end Go.Proofs.YtpdcpdngckpgbaaGreat.A
end
section
namespace Go.Proofs.YtpdcpdngckpgbaaGreat.A
open Go Go.Proofs Go.Proofs.YtpdcpdngckpgbaaGreatAbs
def dm (D : List ByteArray) : List (Value × Value) := D.map fun k => (.string k, .bool true)
abbrev mapB (D : List ByteArray) : Blk := .mp (dm D)
theorem beqB (a b : ByteArray) : (a == b) = decide (a = b) := by
 by_cases h : a = b
 ·subst h
  rw [decide_eq_true rfl]
  exact (beq_self_eq_true a.data : (a.data == a.data) = true)
 ·rw [decide_eq_false h]
  have : (a.data == b.data) = false := beq_eq_false_iff_ne.2 fun e => h (bs_inj (congrArg Array.toList e))
  exact this
theorem dm_find (k : ByteArray) : ∀ D : List ByteArray, mfind (dm D) (.string k) = if hasK D k = true then some (.bool true) else none
 | [] => rfl
 | a :: D => by
  show (bif keyEq (.string k) (.string a) then some (.bool true) else mfind (dm D) (.string k)) = _
  rw [dm_find k D]
  show (bif (k == a) then _ else _) = if (decide (a = k) || hasK D k) = true then _ else _
  rw [beqB]
  by_cases h : k = a
  ·subst h; simp
  ·rw [decide_eq_false h, decide_eq_false (fun e => h e.symm)]; rfl
theorem dm_put (k : ByteArray) : ∀ D : List ByteArray, mput (dm D) (.string k) (.bool true) = dm (putK D k)
 | [] => rfl
 | a :: D => by
  show (bif keyEq (.string k) (.string a) then (.string k, .bool true) :: dm D else (.string a, .bool true) :: mput (dm D) (.string k) (.bool true)) = _
  rw [dm_put k D]
  show (bif (k == a) then _ else _) = dm (if (decide (a = k) || hasK D k) = true then a :: D else a :: D ++ [k])
  rw [beqB]
  by_cases h : k = a
  ·subst h; simp [dm]
  ·rw [decide_eq_false h, decide_eq_false (fun e => h e.symm), Bool.false_or]
   unfold putK
   split <;> rfl
theorem dm_like (k : ByteArray) (D : List ByteArray) : (dm D).all (fun q => keyLike (.string k) q.1) = true := by
 rw [List.all_eq_true]
 intro q hq
 obtain ⟨a, _, rfl⟩ := List.mem_map.1 hq
 rfl
theorem dm_get (k : ByteArray) (D : List ByteArray) : (mfind (dm D) (.string k)).getD (.bool false) = .bool (hasK D k) := by
 rw [dm_find]
 cases hasK D k <;> rfl
theorem keyS (k : ByteArray) : keyV true (.string k) = true := rfl
@[go_sem] theorem ltA_mp (n b v : Nat) : ltA n (.mp b v) = (b < n) := rfl
def resT (o : Option (List Int)) : SV := .tup [intsL (o.getD []), .b o.isSome]
theorem end_none {n m : Nat} {e : Nat → SV} {D : List ByteArray} {X : List Blk} (hm : m ≤ 1) (h8 : e 8 = .p (.one (.c (.v (.slice none 0 0))))) (h9 : e 9 = .b false) : FinK n m [.t 8, .t 9] (resT none) [mapB D] .ret ⟨e, mapB D :: X⟩ := by
 refine fin_m (.inr rfl) (Gh.refl _) X (qs := [.one (.c (.v (.slice none 0 0))), .b false]) (cnd := True) ?_ trivial rfl (subS_tupL ⟨subP_one (nil_sub (α := Int)), SubP.refl _, trivial⟩) hm (by simp only [resT, go_sem]) (by simp only [go_sem, ltB])
 simp only [go_sem, h8, h9]
theorem end_some0 {n m : Nat} {e : Nat → SV} {D : List ByteArray} {X : List Blk} (hm : m ≤ 1) (h8 : e 8 = .p (.one (.c (.v (.slice none 0 0))))) (h9 : e 9 = .b true) : FinK n m [.t 8, .t 9] (resT (some [])) [mapB D] .ret ⟨e, mapB D :: X⟩ := by
 refine fin_m (.inr rfl) (Gh.refl _) X (qs := [.one (.c (.v (.slice none 0 0))), .b true]) (cnd := True) ?_ trivial rfl (subS_tupL ⟨subP_one (nil_sub (α := Int)), SubP.refl _, trivial⟩) hm (by simp only [resT, go_sem]) (by simp only [go_sem, ltB])
 simp only [go_sem, h8, h9]
theorem end_some {n m : Nat} {e : Nat → SV} {D : List ByteArray} {X : List Blk} {ws : List Int} {c v : Nat} {f : Bool} (hm : m ≤ 1) (h8 : e 8 = .p (.one (.arr 1 (c + 1) v 0 ws.length))) (h9 : e 9 = .b true) (hX : X[c]? = some (intsR 3 v ws f)) : FinK n m [.t 8, .t 9] (resT (some ws)) [mapB D] .ret ⟨e, mapB D :: X⟩ := by
 refine fin_m (.inr rfl) (gh_freeze (b := c + 1) (l := rowsL 1 intC ws) (by rw [List.getElem?_cons_succ]; exact hX) (rowsL_closed ws)) ((X.map (frzB (c + 1) v (rowsL 1 intC ws))).set c .dead) (qs := [.one (.c (.imm 1 ws.length fun i j => toC (((rowsL 1 intC ws).getD (0 + i) []).getD j default))), .b true]) (cnd := True) ?_ trivial rfl (subS_tupL ⟨subP_one (frz_sub ws), SubP.refl _, trivial⟩) hm (by simp only [resT, go_sem]) (by simp only [go_sem, ltB])
 simp only [go_sem, h8, h9, Nat.zero_add]
theorem expl_len {l : List Evt} : ∀ {o left : List Int} {s : Shf}, explL l o left s = true → o.length ≤ left.length
 | [], _, _, _ => Nat.zero_le _
 | i :: is, left, s, h => by
  rw [explL] at h
  simp only [Bool.and_eq_true, decide_eq_true_eq] at h
  have h1 := expl_len h.2
  have h2 := wo_len h.1.1.1
  rw [List.length_cons]
  omega
theorem try_at {l : List Evt} {left : List Int} {x : Shf} {D D2 : List ByteArray} {r : SV} (h : CallR Tryz.prog [mapB D] n_history_try [evL l, intsL left, shfA x, .one (.mp 0 0)] r [mapB D2]) (N : List Blk) (hN : N[0]? = some (mapB D)) : CallR Tryz.prog N n_history_try [evL l, intsL left, shfA x, .one (.mp 0 0)] r (N.set 0 (mapB D2)) := by
 cases N with
 | nil => cases hN
 | cons B T =>
  injection hN with hN
  subst hN
  exact callR_frame h rfl (by simp only [go_sem]) (by simp only [go_sem, ltB]) T
set_option maxRecDepth 20000 in
theorem try_rc (l : List Evt) (hl : l.length ≤ 100) (hs : ∀ e ∈ l, e.op.ser.size ≤ 2000) : ∀ (n : Nat) (left : List Int) (s : Shf) (D : List ByteArray), left.length < n → (∀ i ∈ left, 0 ≤ i ∧ i < l.length) → left.length ≤ l.length → shP s → serSz 2000 s →
  CallR Tryz.prog [mapB D] n_history_try [evL l, intsL left, shfA s, .one (.mp 0 0)] (resT (tryS l n left s D).1) [mapB (tryS l n left s D).2]
 | 0, _, _, _, h, _, _, _, _ => absurd h (Nat.not_lt_zero _)
 | n + 1, left, s, D, hn, hrl, hll, hP, hZ => by
  refine callR_intro F_history_try (by simp) ?_
  refine run_seqV ?_
  simp only [c_history_try, go_sem]
  refine run_seqV ?_
  simp only [go_sem]
  refine call0 (over_rc l left (by omega) hrl) ?_
  simp only [go_sem]
  rw [tryS]
  refine ⟨fun hc => ?_, fun hc => ?_⟩
  ·rw [if_pos hc]
   exact end_some0 (Nat.le_refl _) (by simp only [go_sem]) (by simp only [go_sem])
  rw [if_neg (by rw [hc]; simp)]
  refine run_seqV ?_
  simp only [go_sem]
  refine call0 (mark_rc left (by omega) s (shP_z hP hZ)) ?_
  simp only [go_sem]
  refine run_seqV ?_
  simp only [go_sem, dm_get, dm_like, keyS]
  refine ⟨fun hc => ?_, fun hc => ?_⟩
  ·rw [if_pos hc]
   exact end_none (Nat.le_refl _) (by simp only [go_sem]) (by simp only [go_sem])
  rw [if_neg (by rw [hc]; simp)]
  generalize hkey : markS left s = key
  have hB : ∀ (D : List ByteArray), ∀ x ∈ [mapB D, shfB s], ltB 2 x := fun D x hx => by
   simp only [List.mem_cons, List.not_mem_nil, or_false] at hx
   rcases hx with rfl | rfl
   ·trivial
   ·simp only [go_sem, ltB]
  refine run_seqV ?_
  simp only [go_sem]
  refine R_loop (ι := Nat × List ByteArray) (J := fun p => p.1 ≤ left.length ∧ tryL l (tryS l n) left s left D = tryL l (tryS l n) left s (left.drop p.1) p.2)
   (env := fun p => [(0, .p (evL l)), (1, .p (intsL left)), (3, .p (.one (.mp 0 0))), (6, .p (.one (.ptr 1 0 0 0))), (10, .s key), (27, .p (intsL left)), (28, .i left.length), (29, .i p.1)])
   (mem := fun p => [mapB p.2, shfB s]) (μ := fun p => left.length - p.1) (0, D) ⟨Nat.zero_le _, rfl⟩ ⟨[], rfl, Nat.le_of_ble_eq_true rfl, ?_, hB _⟩ ?_
  ·simp only [go_sem]
  rintro ⟨k, D'⟩ ⟨hk, heq⟩
  simp only at hk heq
  rw [heq]
  refine run_seqV ?_
  simp only [go_sem]
  refine run_seqV ?_
  simp only [go_sem]
  refine ⟨fun h1 => ?_, fun h1 => ?_⟩
  ·have e3 : IntKind.i64.wrap ((k : Int) + 1) = ((k + 1 : Nat) : Int) := w64s (by omega)
   have hb : 0 ≤ (k : Int) ∧ k < left.length := ⟨by omega, h1⟩
   have hdr : left.drop k = left.getD k default :: left.drop (k + 1) := drop_getD default h1
   have him : left.getD k default ∈ left := by rw [gd_get h1]; exact List.getElem_mem h1
   rw [hdr, tryL] at heq ⊢
   refine run_seq ?_
   refine run_block ?_
   refine run_seqV ?_
   simp only [go_sem]
   refine ⟨hb, ?_⟩
   generalize left.getD k default = i at heq him ⊢
   refine run_seqV ?_
   simp only [go_sem]
   refine call0 (may_rc l left (by omega) hrl i (hrl i him)) ?_
   simp only [go_sem]
   refine ⟨fun hc => ?_, fun hc => ?_⟩
   ·have hmf : mayS l left i = false := by rwa [Bool.not_eq_true'] at hc
    rw [hmf, Bool.false_and, if_neg (by simp)] at heq ⊢
    refine V_sound ?_
    simp only [go_sem, e3]
    refine ⟨(k + 1, D'), ⟨h1, rfl⟩, by simp only []; omega, [], rfl, Nat.le_of_ble_eq_true rfl, ?_, hB _⟩
    simp only [go_sem]
   have hmt : mayS l left i = true := by rwa [Bool.not_eq_false'] at hc
   have hin := hrl i him
   have hd := fun M => Do_rc s (shP_z hP hZ) (entE (evAt l i)) (ev_sz hs hin) (ev_ok hP _) M
   have hP' := (Do_eq hP (entE (evAt l i))).2
   have hZ' := Do_sz hP hZ (entE (evAt l i)) (ev_sz hs hin)
   rw [hmt, Bool.true_and] at heq ⊢
   have hnx : nextS l s i = (DoS s (entE (evAt l i))).1 := rfl
   have htl : toldI l s i = fitsA (evAt l i) (DoS s (entE (evAt l i))).2.1 := rfl
   rw [hnx, htl] at heq ⊢
   generalize DoS s (entE (evAt l i)) = W at hd hP' hZ' heq ⊢
   obtain ⟨x, a, c⟩ := W
   simp only at hP' hZ' heq ⊢
   refine run_seqV ?_
   simp only [go_sem]
   refine ⟨hin, callx0 (hentry_rc (evAt l i)) ?_⟩
   simp only [go_sem]
   refine callx0 hd ?_
   simp only [go_sem]
   refine ⟨rfl, run_seqV ?_⟩
   simp only [go_sem]
   rw [fitE]
   refine ⟨hin, fun _ => hin, fun hf => ?_, fun hf => ?_⟩
   ·have hff : fitsA (evAt l i) a = false := by rwa [Bool.not_eq_true'] at hf
    rw [hff, if_neg (by simp)] at heq ⊢
    refine V_sound ?_
    simp only [go_sem, e3]
    refine ⟨(k + 1, D'), ⟨h1, rfl⟩, by simp only []; omega, [_, _], rfl, Nat.le_of_ble_eq_true rfl, ?_, hB _⟩
    simp only [go_sem]
   have hft : fitsA (evAt l i) a = true := by rwa [Bool.not_eq_false'] at hf
   rw [hft, if_pos rfl] at heq ⊢
   have hw := wo_len him
   have ih := try_rc l hl hs n (woS left i) x D' (by omega) (wo_range hrl i) (by omega) hP' hZ'
   generalize hV : tryS l n (woS left i) x D' = V at heq ih ⊢
   obtain ⟨o, D2⟩ := V
   simp only at ih heq ⊢
   refine run_regT 0 ?_
   simp only [go_sem, List.replicate_zero, List.append_nil]
   refine callx0 (without_rc left (by omega) i) ?_
   simp only [go_sem]
   refine callxf 4 [0] [(0, mapB D2)] (by simp) (fun N hN => try_at ih N (hN 0 (by simp))) ?_
   simp only [apL, resT, go_sem]
   refine ⟨rfl, run_seqV ?_⟩
   simp only [go_sem]
   cases o with
   | some r =>
    have hr := expl_len (tryS_sound n (by omega) hV)
    have hrow := imm_rowsL' (c := intC) (sz := 1) r
    simp only [go_sem] at hrow
    refine V_sound ?_
    simp only [go_sem, Option.getD_some, Option.isSome_some, hrow]
    refine ⟨by omega, ?_⟩
    exact end_some (c := 3) (v := 1) (f := false) (ws := i :: r) (Nat.le_refl _) (by simp only [go_sem, List.length_cons, Nat.add_comm]) (by simp only [go_sem]) rfl
   | none =>
    refine V_sound ?_
    simp only [go_sem, Option.isSome_none]
    refine V_sound ?_
    simp only [go_sem, e3]
    refine ⟨(k + 1, D2), ⟨h1, rfl⟩, by simp only []; omega, [_, _], rfl, Nat.le_of_ble_eq_true rfl, ?_, hB _⟩
    simp only [go_sem]
  ·have hkl : k = left.length := by omega
   subst hkl
   rw [List.drop_length, tryL] at heq ⊢
   refine run_seqV ?_
   simp only [go_sem, dm_put, dm_like, keyS]
   refine V_sound ?_
   simp only [go_sem]
   exact end_none (Nat.le_refl _) (by simp only [go_sem]) (by simp only [go_sem])
end Go.Proofs.YtpdcpdngckpgbaaGreat.A
end
section
namespace Go.Proofs.YtpdcpdngckpgbaaGreat.A
open Go Go.Proofs Go.Proofs.YtpdcpdngckpgbaaGreatAbs
theorem end_find {n : Nat} {e : Nat → SV} {X : List Blk} (c : Int) (h4 : e 4 = .p (.one (.c (.v (.slice none 0 0))))) (h5 : e 5 = .i c) : FinK n 0 [.t 4, .t 5] (.tup [intsL [], .i c]) [] .ret ⟨e, X⟩ := by
 refine fin0 (.inr rfl) (qs := [.one (.c (.v (.slice none 0 0))), .i c]) (cnd := True) ?_ trivial (subS_tupL ⟨subP_one (nil_sub (α := Int)), SubP.refl _, trivial⟩) (by simp only [go_sem])
 simp only [go_sem, h4, h5]
theorem shf_nil_sub : SubP (.agg [.c (.v (.slice none 0 0)), .c (.v (.slice none 0 0)), .c (.v (.int .i64 0))]) (shfA shf0) := subP_aggL ⟨nil_sub (α := Lin), nil_sub (α := Dn), SubA.refl _, trivial⟩
set_option maxRecDepth 20000 in
theorem Find_rc (l : List Evt) (hl : l.length ≤ 100) (hs : ∀ e ∈ l, e.op.ser.size ≤ 2000) (g : Int) (M : List Blk) : CallR Tryz.prog M n_history_Find [evL l, .i g] (.tup [intsL (findS l g).1, .i (findS l g).2]) M := by
 refine callPG F_history_Find (Nat.le_of_ble_eq_true rfl) (by simp only [go_sem]) ?_ M
 refine run_seqV ?_
 simp only [go_sem]
 refine run_seqV ?_
 simp only [go_sem]
 refine call0 (hCheck_rc l hl hs) ?_
 simp only [go_sem]
 unfold findS
 cases hchk : chkS l with
 | false =>
  refine ⟨fun _ => ?_, fun h => by cases h⟩
  exact end_find 1 (by simp only [go_sem]) (by simp only [go_sem])
 | true =>
 refine ⟨fun h => absurd rfl h, fun _ => ?_⟩
 rw [if_neg (show ¬ (true = false) by simp)]
 have hol := of_len l g
 refine run_seqV ?_
 simp only [go_sem]
 refine call0 (hOf_rc l hl g) ?_
 simp only [go_sem]
 refine run_seqV ?_
 simp only [go_sem]
 refine ⟨fun hc => ?_, fun hc => ?_⟩
 ·rw [if_pos (by omega)]
  exact end_find 4 (by simp only [go_sem]) (by simp only [go_sem])
 rw [if_neg (by omega)]
 have ht := try_rc l hl hs ((ofS l g).length + 1) (ofS l g) shf0 [] (by omega) (fun i hi => (mem_of.1 hi).1) hol zP (fun x hx => by cases hx)
 generalize tryS l ((ofS l g).length + 1) (ofS l g) shf0 [] = W at ht ⊢
 obtain ⟨o, D⟩ := W
 simp only at ht ⊢
 refine run_seqV ?_
 simp only [go_sem]
 refine callS ht ⟨SubP.refl _, SubP.refl _, shf_nil_sub, SubP.refl _, trivial⟩ (fun h => Bool.noConfusion h) ?_
 simp only [resT, go_sem]
 cases o with
 | none =>
  refine V_sound ?_
  simp only [go_sem, Option.isSome_none]
  exact end_find 5 (by simp only [go_sem]) (by simp only [go_sem])
 | some r =>
  refine V_sound ?_
  simp only [go_sem, Option.isSome_some, Option.getD_some]
  exact fin0 (.inr rfl) (qs := [intsL r, .i 0]) (cnd := True) (by simp only [go_sem]) trivial (SubS.refl _) (by simp only [go_sem])
set_option maxRecDepth 20000 in
theorem Right_rc (l : List Evt) (hl : l.length ≤ 100) (hs : ∀ e ∈ l, e.op.ser.size ≤ 2000) (M : List Blk) : CallR Tryz.prog M n_history_Right [evL l] (.b (rightS l)) M := by
 refine callP F_history_Right (Nat.le_of_ble_eq_true rfl) (by simp only [go_sem]) (by simp only [go_sem]) ?_ M
 simp only [c_history_Right, go_sem]
 refine V_loop (ι := Nat) (J := fun k => k ≤ 8 ∧ ∀ i, i < k → ((findS l (i : Nat)).2 == 0) = true) (env := fun i => [(0, .p (evL l)), (6, .i i)]) (mem := fun _ => []) (μ := fun k => 8 - k) 0 ⟨Nat.zero_le _, fun i hi => absurd hi (Nat.not_lt_zero _)⟩ (into0 (by simp only [go_sem])) ?_
 rintro k ⟨hk, hok⟩
 simp only [go_sem]
 refine ⟨fun h1 => ?_, fun h1 => ?_⟩
 ·refine call0 (Find_rc l hl hs (k : Nat)) ?_
  simp only [go_sem]
  refine ⟨fun hc => ?_, fun hc => ⟨k + 1, ⟨by omega, fun i hi => ?_⟩, by omega, into0 ?_⟩⟩
  ·rw [rightS, all_f (show k < 8 by omega) (by simpa using hc)]
  ·by_cases e : i = k
   ·subst e; simpa using hc
   ·simpa using hok i (by omega)
  ·simp only [go_sem, w64s (show k < 9223372036854775807 by omega)]
 ·have hk8 : k = 8 := by omega
  subst hk8
  rw [rightS, all_range.2 hok]
def light34B (l : List Evt) : Bool := decide (l.length ≤ 20) && l.all fun e => decide (e.op.ser.size ≤ 300)
set_option maxRecDepth 20000 in
theorem light34_rc (l : List Evt) (hl : l.length ≤ 140737488355328) (M : List Blk) : CallR Tryz.prog M n_windroselaw34_light [evL l] (.b (light34B l)) M := by
 refine callP F_windroselaw34_light (Nat.le_of_ble_eq_true rfl) (by simp only [go_sem]) (by simp only [go_sem]) ?_ M
 simp only [c_windroselaw34_light, go_sem]
 refine V_loop (ι := Nat) (J := fun k => k ≤ l.length ∧ k ≤ 20 ∧ ∀ i, i < k → decide ((l.getD i default).op.ser.size ≤ 300) = true) (env := fun i => [(0, .p (evL l)), (3, .i i)]) (mem := fun _ => []) (μ := fun k => l.length - k) 0 ⟨Nat.zero_le _, Nat.zero_le _, fun i hi => absurd hi (Nat.not_lt_zero _)⟩ (into0 (by simp only [go_sem])) ?_
 rintro k ⟨hk, hk2, hok⟩
 simp only [go_sem]
 refine ⟨fun h1 => ?_, fun h1 => ?_⟩
 ·have h1 : k < l.length ∧ k < 20 := by
   simp only [Bool.and_eq_true, decide_eq_true_eq] at h1
   omega
  refine ⟨by omega, fun hc => ?_, fun hc => ⟨k + 1, ⟨by omega, by omega, fun i hi => ?_⟩, by omega, into0 ?_⟩⟩
  ·rw [light34B, all_no h1.1 (by rw [decide_eq_false]; omega), Bool.and_false]
  ·by_cases e : i = k
   ·subst e; omega
   ·simpa using hok i (by omega)
  ·simp only [go_sem, w64s (show k < 9223372036854775807 by omega)]
 ·rw [light34B]
  by_cases h20 : l.length ≤ 20
  ·have hkl : k = l.length := by
    simp only [Bool.and_eq_false_iff, decide_eq_false_iff_not] at h1
    omega
   subst hkl
   rw [show (l.all fun e => decide (e.op.ser.size ≤ 300)) = true from all_yes hok, Bool.and_true, decide_eq_decide]
   omega
  ·rw [decide_eq_false (show ¬ l.length ≤ 20 from h20), Bool.false_and, decide_eq_false (by omega)]
end Go.Proofs.YtpdcpdngckpgbaaGreat.A
end
section
namespace Go.Proofs.YtpdcpdngckpgbaaGreat.A
open Go Go.Proofs Go.Proofs.YtpdcpdngckpgbaaGreatAbs
def aw34w : Evt := ⟨1, 1, 0, ⟨1, mkS [97], ⟨5, 7⟩, 0, 0, 0⟩, 1, 2, ⟨0, true, 0⟩⟩
def aw34r (b : Bool) (n : Int) : Evt := ⟨2, 1, 0, ⟨4, mkS [97], ⟨0, 0⟩, 5, 0, 0⟩, 3, 4, ⟨0, b, n⟩⟩
theorem aw34_1 : findS [aw34w, aw34r false 0] 0 = ([], 5) := by kernel_rfl
theorem aw34_2 : findS [aw34w, aw34r true 7] 0 = ([0, 1], 0) := by kernel_rfl
theorem aw34_3 : rightS [aw34w, aw34r true 7] = true := by kernel_rfl
theorem aw34_sz (b : Bool) (n : Int) : ∀ e ∈ [aw34w, aw34r b n], e.op.ser.size ≤ 2000 := by
 intro e he
 simp only [List.mem_cons, List.not_mem_nil, or_false] at he
 have : (mkS [97]).size ≤ 2000 := by decide
 rcases he with rfl | rfl
 ·exact this
 ·exact this
set_option maxRecDepth 20000 in
theorem awake34_rc (M : List Blk) : CallR Tryz.prog M n_windroselaw34_awake [] (.b true) M := by
 refine callPG F_windroselaw34_awake (Nat.le_of_ble_eq_true rfl) (by simp only [go_sem]) ?_ M
 have f1 := Find_rc [aw34w, aw34r false 0] (by decide) (aw34_sz _ _) 0 
 have f2 := Find_rc [aw34w, aw34r true 7] (by decide) (aw34_sz _ _) 0
 have f3 := Right_rc [aw34w, aw34r true 7] (by decide) (aw34_sz _ _)
 rw [aw34_1] at f1
 rw [aw34_2] at f2
 rw [aw34_3] at f3
 refine run_seqV ?_
 simp only [go_sem]
 refine run_seqV ?_
 simp only [go_sem]
 refine run_seqV ?_
 simp only [go_sem]
 refine run_S (opsS_ev 3 ?_)
 simp only [go_sem]
 refine opsS_gh (gh_freeze (b := 2) (l := rowsL 15 Evt.c [aw34w, aw34r false 0]) rfl (rowsL_closed _)) ?_
 refine opsS_end ?_
 simp only [go_sem, rowsL_len]
 refine callS (f1 _) ⟨subP_one (frz_sub' (c := Evt.c) (sz := 15) [aw34w, aw34r false 0]), SubP.refl _, trivial⟩ (fun h => Bool.noConfusion h) ?_
 simp only [go_sem]
 refine run_seqV ?_
 simp only [go_sem]
 refine run_S (opsS_ev 3 ?_)
 simp only [go_sem]
 refine opsS_gh (gh_freeze (b := 3) (l := rowsL 15 Evt.c [aw34w, aw34r true 7]) rfl (rowsL_closed _)) ?_
 refine opsS_end ?_
 simp only [go_sem, rowsL_len]
 refine callS (f2 _) ⟨subP_one (frz_sub' (c := Evt.c) (sz := 15) [aw34w, aw34r true 7]), SubP.refl _, trivial⟩ (fun h => Bool.noConfusion h) ?_
 simp only [go_sem]
 refine run_seqV ?_
 simp only [go_sem]
 have hi : CallR Tryz.prog [] n_windroseref02_Ints [intsL [0, 1], intsL [0, 1]] (.b true) [] := by
  have := Ints_rc [0, 1] [0, 1] (by decide) []
  rwa [decide_eq_true rfl] at this
 refine callLg (fun _ => hi) (fun _ => ⟨Snap.same _ trivial, snapL (c := intC) (sz := 1) [0, 1] (b := 4) rfl, trivial⟩) (by simp only [go_sem]) ?_
 simp only [go_sem]
 refine callLg (fun _ => f3 []) (fun _ => ⟨snapL (c := Evt.c) (sz := 15) [aw34w, aw34r true 7] (b := 5) rfl, trivial⟩) (by simp only [go_sem]) ?_
 simp only [go_sem]
 exact run_ret (endB true _ _ 0 (by simp only [go_sem]))
end Go.Proofs.YtpdcpdngckpgbaaGreat.A
end
section
namespace Go.Proofs.YtpdcpdngckpgbaaGreat.A
open Go Go.Proofs Go.Proofs.YtpdcpdngckpgbaaGreatAbs
theorem light34_z {l : List Evt} (h : light34B l = true) : l.length ≤ 20 ∧ ∀ e ∈ l, e.op.ser.size ≤ 300 := by
 unfold light34B at h
 rw [Bool.and_eq_true, decide_eq_true_eq, List.all_eq_true] at h
 exact ⟨h.1, fun e he => by simpa using h.2 e he⟩
theorem wlenH {n b : Nat} (h : n * b ≤ 140737488351232) (hb : 0 < b) : n ≤ 140737488355328 := by
 have := Nat.le_mul_of_pos_right n hb
 omega
set_option maxRecDepth 20000 in
theorem HistoryExplains_rc (l : List Evt) (hl : l.length ≤ 140737488355328) (o : List Int) (ho : o.length ≤ 140737488355328) (M : List Blk) : CallR Tryz.prog M n_windroselaw34_HistoryExplains [evL l, intsL o] (.b true) M := by
 refine callPG F_windroselaw34_HistoryExplains (Nat.le_of_ble_eq_true rfl) (by simp only [go_sem]) ?_ M
 refine run_seqV ?_
 simp only [go_sem]
 refine run_seqV ?_
 simp only [go_sem]
 refine call0 (light34_rc l hl) ?_
 simp only [go_sem]
 refine ⟨fun hc => ?_, fun hc => ?_⟩
 ·refine call0 awake34_rc ?_
  simp only [go_sem]
  exact endB true _ _ 4 (by simp only [go_sem])
 have hc' : light34B l = true ∧ o.length ≤ 30 := by
  simp at hc
  exact ⟨hc.1, by omega⟩
 obtain ⟨h1, h2⟩ := hc'
 obtain ⟨l20, l300⟩ := light34_z h1
 have hs : ∀ e ∈ l, e.op.ser.size ≤ 2000 := fun e he => Nat.le_trans (l300 e he) (by decide)
 have hr := rExpl34_rc l (by omega) hs o (by omega)
 rw [rexpl_eq] at hr
 refine run_seqV ?_
 simp only [go_sem]
 refine call0 (hExpl_rc l (by omega) hs o (by omega)) ?_
 simp only [go_sem]
 refine call0 hr ?_
 simp only [go_sem]
 refine callg0 (fun _ => awake34_rc) ?_
 simp only [go_sem]
 exact run_ret (endB true _ _ 4 (by simp only [go_sem]))
set_option maxRecDepth 20000 in
theorem HistoryFound_rc (l : List Evt) (hl : l.length ≤ 140737488355328) (g : Int) (M : List Blk) : CallR Tryz.prog M n_windroselaw34_HistoryFound [evL l, .i g] (.b true) M := by
 refine callPG F_windroselaw34_HistoryFound (Nat.le_of_ble_eq_true rfl) (by simp only [go_sem]) ?_ M
 refine run_seqV ?_
 simp only [go_sem]
 refine run_seqV ?_
 simp only [go_sem]
 refine call0 (light34_rc l hl) ?_
 simp only [go_sem]
 refine callg0 (fun h M => rMay34_rc l (by have := (light34_z (by simpa using h)).1; omega) (fun e he => Nat.le_trans ((light34_z (by simpa using h)).2 e he) (by decide)) M) ?_
 simp only [go_sem]
 refine ⟨fun hc => ?_, fun hc => ?_⟩
 ·refine call0 awake34_rc ?_
  simp only [go_sem]
  exact endB true _ _ 4 (by simp only [go_sem])
 have hc' : light34B l = true ∧ rmayS l = true := by
  simp at hc
  exact hc
 obtain ⟨h1, h2⟩ := hc'
 obtain ⟨l20, l300⟩ := light34_z h1
 have hs : ∀ e ∈ l, e.op.ser.size ≤ 2000 := fun e he => Nat.le_trans (l300 e he) (by decide)
 have hchk : chkS l = true := by rw [← rmay_eq]; exact h2
 refine run_seqV ?_
 simp only [go_sem]
 refine run_seqV ?_
 simp only [go_sem]
 refine R_loop (ι := Nat) (J := fun k => k ≤ l.length)
  (env := fun k => [(0, .p (evL l)), (1, .i g), (5, .i (ofS (l.take k) g).length), (6, .i k)])
  (mem := fun _ => []) (μ := fun k => l.length - k) 0 (Nat.zero_le _) ⟨[], rfl, Nat.zero_le _, ?_, ?_⟩ ?_
 ·simp only [go_sem, List.take_zero]
  rfl
 ·intro x hx; cases hx
 rintro k hk
 refine run_seqV ?_
 simp only [go_sem]
 refine ⟨fun h3 => ?_, fun h3 => ?_⟩
 ·have e3 : IntKind.i64.wrap ((k : Int) + 1) = ((k + 1 : Nat) : Int) := w64s (by omega)
  have hst := of_take (g := g) h3
  have hle : (ofS (l.take k) g).length ≤ 20 := Nat.le_trans (of_len _ _) (by rw [List.length_take]; omega)
  generalize ofS (l.take k) g = ws at hst hle ⊢
  have e5 : IntKind.i64.wrap ((ws.length : Int) + 1) = ((ws.length + 1 : Nat) : Int) := w64s (by omega)
  refine V_sound ?_
  simp only [go_sem, e3, e5]
  refine ⟨⟨by omega, h3⟩, fun hc => ⟨k + 1, h3, by omega, [], rfl, Nat.zero_le _, ?_, fun x hx => by cases hx⟩, fun hc => ⟨k + 1, h3, by omega, [], rfl, Nat.zero_le _, ?_, fun x hx => by cases hx⟩⟩
  ·rw [if_pos hc] at hst
   simp only [go_sem, hst, List.length_append, List.length_cons, List.length_nil]
  ·rw [if_neg hc, List.append_nil] at hst
   simp only [go_sem, hst]
 have hkl : k = l.length := by omega
 subst hkl
 rw [List.take_length]
 refine run_seqV ?_
 simp only [go_sem]
 refine call0 (Find_rc l (by omega) hs g) ?_
 simp only [go_sem]
 have hft := find_told hchk (g := g)
 have hfd : findS l g = if 14 < (ofS l g).length then (([], 4) : List Int × Int) else match (tryS l ((ofS l g).length + 1) (ofS l g) shf0 []).1 with
  | some r => (r, 0)
  | none => ([], 5) := by unfold findS; rw [hchk, if_neg (by simp)]; rfl
 by_cases h14 : 14 < (ofS l g).length
 ·rw [if_pos h14] at hfd
  rw [hfd]
  refine run_seqV ?_
  simp only [go_sem]
  refine ⟨fun _ => ?_, fun h => absurd h (by omega)⟩
  refine callg0 (fun _ => awake34_rc) ?_
  simp only [go_sem]
  exact endB true _ _ 4 (by simp only [go_sem])
 rw [if_neg h14] at hfd
 cases hW : (tryS l ((ofS l g).length + 1) (ofS l g) shf0 []).1 with
 | none =>
  rw [hW] at hfd
  simp only at hfd
  rw [hfd]
  refine run_seqV ?_
  simp only [go_sem]
  refine ⟨fun h => absurd h (by omega), fun _ => ?_⟩
  refine run_seqV ?_
  simp only [go_sem]
  refine callg0 (fun _ => awake34_rc) ?_
  simp only [go_sem]
  exact endB true _ _ 4 (by simp only [go_sem])
 | some r =>
  rw [hW] at hfd
  simp only at hfd
  rw [hfd] at hft ⊢
  obtain ⟨o1, o2⟩ := hft rfl
  refine run_seqV ?_
  simp only [go_sem]
  refine ⟨fun h => absurd h (by omega), fun _ => ?_⟩
  refine run_seqV ?_
  simp only [go_sem]
  have hrm : ∀ i ∈ r, 0 ≤ i ∧ i < l.length := fun i hi => (mem_of.1 (((ord_iff l g r).1 o1).mem i hi)).1
  have hrl : r.length ≤ 100 := by
   have := nd_len ((ord_iff l g r).1 o1).nd ((ord_iff l g r).1 o1).mem
   have := of_len l g
   omega
  have hO := rOrd_rc l (by omega) g r (by omega)
  have hT := rTold_rc l (by omega) hs r (by omega) hrm
  simp only at o1 o2
  rw [o1] at hO
  rw [o2] at hT
  refine run_seqV ?_
  simp only [go_sem]
  refine call0 hO ?_
  simp only [go_sem]
  refine callg0 (fun _ => hT) ?_
  simp only [go_sem]
  refine callg0 (fun _ => awake34_rc) ?_
  simp only [go_sem]
  exact run_ret (endB true _ _ 4 (by simp only [go_sem]))
end Go.Proofs.YtpdcpdngckpgbaaGreat.A
end
section
namespace Go.Proofs.YtpdcpdngckpgbaaGreat.A
open Go Go.Proofs Go.Proofs.YtpdcpdngckpgbaaGreatAbs
def inE (l : List Evt) (i : Int) : Bool := decide (0 ≤ i) && decide (i < l.length)
def stE (l : List Evt) (o : List Int) : List Ent := (o.filter (inE l)).map fun i => entE (evAt l i)
theorem stE_take {l : List Evt} {o : List Int} {k : Nat} (hk : k < o.length) : stE l (o.take (k + 1)) = stE l (o.take k) ++ if inE l (o.getD k default) = true then [entE (evAt l (o.getD k default))] else [] := by
 unfold stE
 rw [filter_take (inE l) o hk, List.map_append]
 congr 1
 split <;> rfl
theorem stE_len (l : List Evt) (o : List Int) : (stE l o).length ≤ o.length := by
 unfold stE
 rw [List.length_map]
 exact List.length_filter_le ..
theorem stE_sz {l : List Evt} {m : Nat} (hs : ∀ e ∈ l, e.op.ser.size ≤ m) (o : List Int) : ∀ e ∈ stE l o, e.op.ser.size ≤ m := by
 intro e he
 obtain ⟨i, hi, rfl⟩ := List.mem_map.1 he
 have := (List.mem_filter.1 hi).2
 unfold inE at this
 rw [Bool.and_eq_true, decide_eq_true_eq, decide_eq_true_eq] at this
 exact ev_sz hs this
theorem foldPH (l : List Ent) (h : ∀ e ∈ l, e.op.ser.size ≤ 2000) : shP (foldS l) ∧ serSz 2000 (foldS l) := ⟨(foldS_eq l).2, foldS_sz l h⟩
theorem FoldH_rc {l : List Ent} (hl : l.length ≤ 1000) (hs : ∀ e ∈ l, e.op.ser.size ≤ 2000) (M : List Blk) : CallR Tryz.prog M n_shelf_Fold [entL l] (.p (shfA (foldS l))) M := by
 have ht : ∀ k, ∀ e ∈ l.take k, e.op.ser.size ≤ 2000 := fun k e he => hs e (List.mem_of_mem_take he)
 exact Fold_sh_rc l hl (fun k _ => shP_z (foldPH _ (ht k)).1 (foldPH _ (ht k)).2) (fun k hk => by rw [gd_get hk]; exact hs _ (List.getElem_mem hk)) (fun k _ => ev_ok (foldPH _ (ht k)).1 _) M
theorem rFoldH_rc {l : List Ent} (hl : l.length ≤ 1000) (hs : ∀ e ∈ l, e.op.ser.size ≤ 2000) (M : List Blk) : CallR Tryz.prog M n_windroseref14_Fold [entL l] (.p (shfA (foldS l))) M := by
 have ht : ∀ k, ∀ e ∈ l.take k, e.op.ser.size ≤ 2000 := fun k e he => hs e (List.mem_of_mem_take he)
 rw [← (foldS_eq l).1]
 refine rFold_rc l hl (fun k _ => ?_) (fun k hk => by rw [gd_get hk]; exact hs _ (List.getElem_mem hk)) M
 rw [(foldS_eq _).1]
 exact shP_z (foldPH _ (ht k)).1 (foldPH _ (ht k)).2
abbrev enH (v : Nat) (l : List Ent) (f : Bool) : Blk := .rows 80 10 v (rowsL 10 Ent.c l) f
abbrev zShB : Blk := .rows 77 3 0 [[.c (.v (.slice none 0 0)), .c (.v (.slice none 0 0)), .c (.v (.int .i64 0))]] true
set_option maxRecDepth 20000 in
theorem State_rc (l : List Evt) (hl : l.length ≤ 100) (hs : ∀ e ∈ l, e.op.ser.size ≤ 2000) (o : List Int) (ho : o.length ≤ 1000) (M : List Blk) : CallR Tryz.prog M n_history_State [evL l, intsL o] (.p (shfA (foldS (stE l o)))) M := by
 refine callPG F_history_State (Nat.le_of_ble_eq_true rfl) (by simp only [go_sem]) ?_ M
 refine run_seqV ?_
 simp only [go_sem]
 refine run_seqV ?_
 simp only [go_sem]
 refine run_seqV ?_
 simp only [go_sem]
 refine run_gh (gh_born 5 80 10 (by simp only [go_sem])) ?_
 simp only [List.cons_append, List.nil_append, List.length_cons, List.length_nil, Nat.zero_add]
 refine R_loop (ι := Nat × Nat × Bool) (J := fun p => p.1 ≤ o.length)
  (env := fun p => [(0, .p (evL l)), (4, .p (.one (.ptr 0 0 0 0))), (5, .p (.one (.arr 10 1 p.2.1 0 (stE l (o.take p.1)).length))), (8, .p (intsL o)), (9, .i o.length), (10, .i p.1)])
  (mem := fun p => [zShB, enH p.2.1 (stE l (o.take p.1)) p.2.2])
  (μ := fun p => o.length - p.1) (0, 0, true) (Nat.zero_le _) ⟨[], rfl, Nat.zero_le _, ?_, ?_⟩ ?_
 ·simp only [go_sem, List.take_zero]
  rfl
 ·simp only [go_sem, ltB]
  exact fun r hr => (rowsL_row r hr).2 _
 rintro ⟨k, v, f⟩ hk
 simp only at hk
 refine run_seqV ?_
 simp only [go_sem]
 refine run_seqV ?_
 simp only [go_sem]
 refine ⟨fun h1 => ?_, fun h1 => ?_⟩
 ·have e3 : IntKind.i64.wrap ((k : Int) + 1) = ((k + 1 : Nat) : Int) := w64s (by omega)
  have hst := stE_take (l := l) h1
  have hle : (stE l (o.take k)).length ≤ 1000 := Nat.le_trans (stE_len _ _) (by rw [List.length_take]; omega)
  generalize stE l (o.take k) = ws at hst hle ⊢
  refine run_seq ?_
  refine run_block ?_
  refine run_seqV ?_
  simp only [go_sem]
  refine ⟨⟨by omega, h1⟩, ?_⟩
  generalize o.getD k default = i at hst ⊢
  refine run_seqV ?_
  simp only [go_sem]
  rw [w64 (n := (l.length : Int) - 1) (by omega) (by omega)]
  refine call0 (hin_rc i 0 ((l.length : Int) - 1)) ?_
  simp only [go_sem]
  refine V_sound ?_
  simp only [go_sem]
  have hie : (decide (0 ≤ i) && decide (i ≤ (l.length : Int) - 1)) = inE l i := by
   unfold inE
   congr 1
   rw [decide_eq_decide]
   omega
  rw [hie]
  refine ⟨fun hc => ?_, fun hc => ?_⟩
  ·have hin : 0 ≤ i ∧ i < l.length := by
    unfold inE at hc
    rwa [Bool.and_eq_true, decide_eq_true_eq, decide_eq_true_eq] at hc
   rw [if_pos hc] at hst
   refine ⟨hin, call0 (hentry_rc (evAt l i)) ?_⟩
   simp only [go_sem]
   have hrow : rowsL 10 Ent.c ws ++ [entCells (entE (evAt l i))] = rowsL 10 Ent.c (stE l (o.take (k + 1))) := by rw [hst]; exact rowsL_app1 ws (entE (evAt l i))
   simp only [go_sem, rowsL_len, hrow]
   have hsl : (stE l (o.take (k + 1))).length = ws.length + 1 := by rw [hst, List.length_append]; rfl
   refine ⟨rfl, by omega, V_sound ?_⟩
   simp only [go_sem, e3]
   refine ⟨(k + 1, v + 1, false), h1, by simp only []; omega, [_], rfl, Nat.zero_le _, ?_, ?_⟩
   ·simp only [go_sem, hsl]
   ·simp only [go_sem, ltB]
    exact fun r hr => (rowsL_row r hr).2 _
  ·rw [if_neg (by rw [hc]; simp), List.append_nil] at hst
   refine V_sound ?_
   simp only [go_sem, e3]
   refine ⟨(k + 1, v, f), h1, by simp only []; omega, [], by simp only [hst]; rfl, Nat.zero_le _, ?_, ?_⟩
   ·simp only [go_sem, hst]
   ·simp only [go_sem, ltB]
    exact fun r hr => (rowsL_row r hr).2 _
 ·have hkl : k = o.length := by omega
  subst hkl
  rw [List.take_length]
  refine run_gh (gh_freeze (b := 1) (l := rowsL 10 Ent.c (stE l o)) rfl (rowsL_closed _)) ?_
  refine run_seqV ?_
  simp only [go_sem, rowsL_len]
  have hsz := stE_sz hs o
  have hln := stE_len l o
  refine callS (FoldH_rc (by omega) hsz _) ⟨subP_one (frz_sub' (stE l o)), trivial⟩ (fun h => Bool.noConfusion h) ?_
  simp only [go_sem]
  exact run_ret (fin0 (.inr rfl) (qs := [shfA (foldS (stE l o))]) (cnd := True) (by simp only [go_sem]) trivial (SubS.refl _) (by simp only [go_sem]))
set_option maxRecDepth 20000 in
theorem HistoryChecks_rc (l : List Evt) (hl : l.length ≤ 140737488355328) (g : Int) (o : List Int) (ho : o.length ≤ 140737488355328) (M : List Blk) : CallR Tryz.prog M n_windroselaw34_HistoryChecks [evL l, .i g, intsL o] (.b true) M := by
 refine callPG F_windroselaw34_HistoryChecks (Nat.le_of_ble_eq_true rfl) (by simp only [go_sem]) ?_ M
 refine run_seqV ?_
 simp only [go_sem]
 refine run_seqV ?_
 simp only [go_sem]
 refine call0 (light34_rc l hl) ?_
 simp only [go_sem]
 refine ⟨fun hc => ?_, fun hc => ?_⟩
 ·refine call0 awake34_rc ?_
  simp only [go_sem]
  exact endB true _ _ 6 (by simp only [go_sem])
 have hc' : light34B l = true ∧ o.length ≤ 30 := by
  simp at hc
  exact ⟨hc.1, by omega⟩
 obtain ⟨h1, h2⟩ := hc'
 obtain ⟨l20, l300⟩ := light34_z h1
 have hs : ∀ e ∈ l, e.op.ser.size ≤ 2000 := fun e he => Nat.le_trans (l300 e he) (by decide)
 refine run_seqV ?_
 simp only [go_sem]
 refine run_seqV ?_
 simp only [go_sem]
 refine R_loop (ι := Nat × Nat × Bool) (J := fun p => p.1 ≤ l.length)
  (env := fun p => [(0, .p (evL l)), (1, .i g), (2, .p (intsL o)), (7, .p (.one (.arr 1 0 p.2.1 0 (ofS (l.take p.1) g).length))), (8, .i p.1)])
  (mem := fun p => [intsR 3 p.2.1 (ofS (l.take p.1) g) p.2.2])
  (μ := fun p => l.length - p.1) (0, 0, true) (Nat.zero_le _) ⟨[], rfl, Nat.zero_le _, ?_, ?_⟩ ?_
 ·simp only [go_sem, List.take_zero]
  rfl
 ·simp only [go_sem, ltB]
  exact fun r hr => (rowsL_row r hr).2 _
 rintro ⟨k, v, f⟩ hk
 simp only at hk
 refine run_seqV ?_
 simp only [go_sem]
 refine ⟨fun h3 => ?_, fun h3 => ?_⟩
 ·have e3 : IntKind.i64.wrap ((k : Int) + 1) = ((k + 1 : Nat) : Int) := w64s (by omega)
  have hst := of_take (g := g) h3
  have hle : (ofS (l.take k) g).length ≤ 100 := Nat.le_trans (of_len _ _) (by rw [List.length_take]; omega)
  generalize ofS (l.take k) g = ws at hst hle
  refine V_sound ?_
  simp only [go_sem, int_row, rowsL_len, e3]
  refine ⟨⟨by omega, h3⟩, fun hc => ?_, fun hc => ?_⟩
  ·rw [if_pos hc] at hst
   refine ⟨by omega, (k + 1, v + 1, false), h3, by simp only []; omega, [_], by simp only [hst]; rfl, Nat.zero_le _, ?_, ?_⟩
   ·simp only [go_sem, hst, List.length_append, List.length_cons, List.length_nil, Nat.zero_add]
   ·simp only [go_sem, ltB]
    exact fun r hr => (rowsL_row r hr).2 _
  ·rw [if_neg hc, List.append_nil] at hst
   refine ⟨(k + 1, v, f), h3, by simp only []; omega, [], by simp only [hst]; rfl, Nat.zero_le _, ?_, ?_⟩
   ·simp only [go_sem, hst]
   ·simp only [go_sem, ltB]
    exact fun r hr => (rowsL_row r hr).2 _
 have hkl : k = l.length := by omega
 subst hkl
 rw [List.take_length]
 clear h3 hk
 refine run_gh (gh_freeze (b := 0) (l := rowsL 1 intC (ofS l g)) rfl (rowsL_closed _)) ?_
 refine run_gh (gh_sub (P := Tryz.prog) 7 (s' := .p (intsL (ofS l g))) ?_) ?_
 ·simp only [go_sem, rowsL_len]
  exact subS_p (subP_one (frz_sub' (ofS l g)))
 refine run_seqV ?_
 simp only [go_sem, rowsL_len]
 refine run_seqV ?_
 simp only [go_sem, rowsL_len]
 refine R_loop (ι := Nat × Nat × Bool) (J := fun p => p.1 ≤ o.length)
  (env := fun p => [(0, .p (evL l)), (1, .i g), (2, .p (intsL o)), (7, .p (intsL (ofS l g))), (9, .p (.one (.arr 10 1 p.2.1 0 (stE l (o.take p.1)).length))), (10, .i p.1)])
  (mem := fun p => [.dead, enH p.2.1 (stE l (o.take p.1)) p.2.2])
  (μ := fun p => o.length - p.1) (0, 0, true) (Nat.zero_le _) ⟨[], rfl, Nat.zero_le _, ?_, ?_⟩ ?_
 ·simp only [go_sem, List.take_zero]
  rfl
 ·simp only [go_sem, ltB]
  exact fun r hr => (rowsL_row r hr).2 _
 rintro ⟨k, v, f⟩ hk
 simp only at hk
 refine run_seqV ?_
 simp only [go_sem]
 refine ⟨fun h3 => ?_, fun h3 => ?_⟩
 ·have e3 : IntKind.i64.wrap ((k : Int) + 1) = ((k + 1 : Nat) : Int) := w64s (by omega)
  have hst := stE_take (l := l) h3
  have hle : (stE l (o.take k)).length ≤ 1000 := Nat.le_trans (stE_len _ _) (by rw [List.length_take]; omega)
  have hb : 0 ≤ (k : Int) ∧ k < o.length := ⟨by omega, h3⟩
  generalize stE l (o.take k) = ws at hst hle ⊢
  refine run_seq ?_
  refine run_block ?_
  refine run_seqV ?_
  simp only [go_sem]
  refine ⟨hb, fun _ => hb, ?_⟩
  refine V_sound ?_
  simp only [go_sem]
  have hie : (decide (0 ≤ o.getD k default) && decide (o.getD k default < (l.length : Int))) = inE l (o.getD k default) := rfl
  rw [hie]
  refine ⟨fun hc => ?_, fun hc => ?_⟩
  ·have hin : 0 ≤ o.getD k default ∧ o.getD k default < l.length := by
    unfold inE at hc
    rwa [Bool.and_eq_true, decide_eq_true_eq, decide_eq_true_eq] at hc
   rw [if_pos hc] at hst
   refine ⟨hb, hin, call0 (rEntry34_rc (evAt l (o.getD k default))) ?_⟩
   have hrow : rowsL 10 Ent.c ws ++ [entCells (entE (evAt l (o.getD k default)))] = rowsL 10 Ent.c (stE l (o.take (k + 1))) := by rw [hst]; exact rowsL_app1 ws (entE (evAt l (o.getD k default)))
   simp only [go_sem, rowsL_len, hrow]
   have hsl : (stE l (o.take (k + 1))).length = ws.length + 1 := by rw [hst, List.length_append]; rfl
   refine ⟨rfl, by omega, V_sound ?_⟩
   simp only [go_sem, e3]
   refine ⟨(k + 1, v + 1, false), h3, by simp only []; omega, [_], rfl, Nat.zero_le _, ?_, ?_⟩
   ·simp only [go_sem, hsl]
   ·simp only [go_sem, ltB]
    exact fun r hr => (rowsL_row r hr).2 _
  ·rw [if_neg (by rw [hc]; simp), List.append_nil] at hst
   refine V_sound ?_
   simp only [go_sem, e3]
   refine ⟨(k + 1, v, f), h3, by simp only []; omega, [], by simp only [hst]; rfl, Nat.zero_le _, ?_, ?_⟩
   ·simp only [go_sem, hst]
   ·simp only [go_sem, ltB]
    exact fun r hr => (rowsL_row r hr).2 _
 have hkl : k = o.length := by omega
 subst hkl
 rw [List.take_length]
 refine run_gh (gh_freeze (b := 1) (l := rowsL 10 Ent.c (stE l o)) rfl (rowsL_closed _)) ?_
 refine run_gh (gh_sub (P := Tryz.prog) 9 (s' := .p (entL (stE l o))) ?_) ?_
 ·simp only [go_sem, rowsL_len]
  exact subS_p (subP_one (frz_sub' (stE l o)))
 have hsz := stE_sz hs o
 have hln := stE_len l o
 have hoL := of_len l g
 have hSm := rssame_rc (foldS (stE l o)) (foldS (stE l o)) (shP_z (foldPH _ hsz).1 (foldPH _ hsz).2)
 rw [decide_eq_true rfl] at hSm
 have hIn := Ints_rc (ofS l g) (ofS l g) (by omega)
 rw [decide_eq_true rfl] at hIn
 refine run_seqV ?_
 simp only [go_sem, rowsL_len]
 refine call0 (hCheck_rc l (by omega) hs) ?_
 simp only [go_sem]
 refine call0 (rMay34_rc l (by omega) hs) ?_
 simp only [go_sem]
 rw [rmay_eq]
 have hX : (((if chkS l = true then (0 : Int) else 1) == 0) == chkS l) = true := by cases chkS l <;> rfl
 rw [hX]
 refine callg0 (fun _ => hOf_rc l (by omega) g) ?_
 simp only [go_sem]
 refine callg0 (fun _ => hIn) ?_
 simp only [go_sem]
 refine callg0 (fun _ => State_rc l (by omega) hs o (by omega)) ?_
 simp only [go_sem]
 refine callg0 (fun _ => rFoldH_rc (by omega) hsz) ?_
 simp only [go_sem]
 refine callg0 (fun _ => hSm) ?_
 simp only [go_sem]
 refine callg0 (fun _ => awake34_rc) ?_
 simp only [go_sem]
 exact run_ret (endB true _ _ 6 (by simp only [go_sem]))
end Go.Proofs.YtpdcpdngckpgbaaGreat.A
end
section
namespace Go.Proofs.YtpdcpdngckpgbaaGreat.A
open Go Go.Proofs Go.Proofs.YtpdcpdngckpgbaaGreatAbs
theorem of_split (l : List Evt) (g : Int) : ∀ (d k : Nat), k + d = l.length → ∃ T, ofS l g = ofS (l.take k) g ++ T
 | 0, k, h => ⟨[], by rw [List.take_of_length_le (by omega), List.append_nil]⟩
 | d + 1, k, h => by
  obtain ⟨T, hT⟩ := of_split l g d (k + 1) (by omega)
  rw [of_take (by omega), List.append_assoc] at hT
  exact ⟨_, hT⟩
theorem firstS_app {f : Int → Option (List Int)} {B : List Int} : ∀ {A : List Int}, firstS f (A ++ B) = match firstS f A with
  | some r => some r
  | none => firstS f B
 | [] => rfl
 | i :: A => by
  rw [List.cons_append, firstS, firstS, firstS_app]
  cases f i <;> rfl
set_option maxRecDepth 20000 in
theorem Next_rc (l : List Evt) (hl : l.length ≤ 100) (hs : ∀ e ∈ l, e.op.ser.size ≤ 2000) (g : Int) : ∀ (n : Nat) (order : List Int), (∀ i ∈ order, i ∈ ofS l g) → order.Nodup → (ofS l g).length < order.length + n → ∀ M, CallR Tryz.prog M n_windroseref34_Next [evL l, .i g, intsL order] (resT (rNext l g n order)) M
 | 0, order, hm, hd, h => by
  have := nd_len hd hm
  omega
 | n + 1, order, hm, hd, hn => by
  intro M
  have hol := nd_len hd hm
  have hof := of_len l g
  have hin : ∀ i ∈ order, 0 ≤ i ∧ i < l.length := fun i hi => (mem_of.1 (hm i hi)).1
  have hT := rTold_rc l hl hs order (by omega) hin
  refine callPG F_windroseref34_Next (Nat.le_of_ble_eq_true rfl) (by simp only [go_sem]) ?_ M
  refine run_seqV ?_
  simp only [go_sem]
  refine run_seqV ?_
  simp only [go_sem]
  refine call0 (rOrd_rc l hl g order (by omega)) ?_
  simp only [go_sem]
  refine callg0 (fun _ => hT) ?_
  simp only [go_sem]
  rw [rNext]
  refine ⟨fun hc => ?_, fun hc => ?_⟩
  ·rw [if_pos hc]
   exact fin0 (.inr rfl) (qs := [intsL order, .b true]) (cnd := True) (by simp only [go_sem]) trivial (SubS.refl _) (by simp only [resT, go_sem])
  rw [if_neg (by rw [hc]; simp)]
  refine run_seqV ?_
  simp only [go_sem]
  refine call0 hT ?_
  simp only [go_sem]
  have hnone : ∀ (e : Nat → SV) (X : List Blk), e 6 = .p (.one (.c (.v (.slice none 0 0)))) → e 7 = .b false → FinK 58 0 [.t 6, .t 7] (resT none) [] .ret ⟨e, X⟩ := fun e X h6 h7 => by
   refine fin0 (.inr rfl) (qs := [.one (.c (.v (.slice none 0 0))), .b false]) (cnd := True) ?_ trivial (subS_tupL ⟨subP_one (nil_sub (α := Int)), SubP.refl _, trivial⟩) (by simp only [resT, go_sem])
   simp only [go_sem, h6, h7]
  refine ⟨fun ht => ?_, fun ht => ?_⟩
  ·rw [if_pos (by rwa [Bool.not_eq_true'] at ht)]
   exact hnone _ _ (by simp only [go_sem]) (by simp only [go_sem])
  rw [if_neg (by rw [Bool.not_eq_false'] at ht; rw [ht]; simp)]
  generalize hF : (fun i => if i ∈ order then none else rNext l g n (order ++ [i])) = F
  refine run_seqV ?_
  simp only [go_sem]
  refine R_loop (ι := Nat) (J := fun k => k ≤ l.length ∧ firstS F (ofS (l.take k) g) = none)
   (env := fun k => [(0, .p (evL l)), (1, .i g), (2, .p (intsL order)), (8, .i k)])
   (mem := fun _ => []) (μ := fun k => l.length - k) 0 ⟨Nat.zero_le _, rfl⟩ ⟨[], rfl, Nat.zero_le _, ?_, ?_⟩ ?_
  ·simp only [go_sem]
  ·intro x hx; cases hx
  rintro k ⟨hk, hno⟩
  refine run_seqV ?_
  simp only [go_sem]
  refine ⟨fun h1 => ?_, fun h1 => ?_⟩
  ·have e3 : IntKind.i64.wrap ((k : Int) + 1) = ((k + 1 : Nat) : Int) := w64s (by omega)
   have hst := of_take (g := g) h1
   obtain ⟨T, hTl⟩ := of_split l g (l.length - (k + 1)) (k + 1) (by omega)
   refine run_seq ?_
   refine run_block ?_
   refine run_seqV ?_
   simp only [go_sem]
   refine ⟨⟨by omega, h1⟩, callg0 (fun _ => in34_rc order (by omega) (k : Nat)) ?_⟩
   simp only [go_sem, decI]
   refine run_cond (t := decide ((l.getD k default).group = g) && !decide ((k : Int) ∈ order)) (by simp only [go_sem]) (fun hc => ?_) (fun hc => ?_)
   ·rw [Bool.and_eq_true, decide_eq_true_eq, Bool.not_eq_true', decide_eq_false_iff_not] at hc
    obtain ⟨hg, hnk⟩ := hc
    have hkm : (k : Int) ∈ ofS l g := mem_of.2 ⟨⟨by omega, by omega⟩, by unfold evAt; simpa using hg⟩
    have hFk : F k = rNext l g n (order ++ [(k : Int)]) := by rw [← hF]; exact if_neg hnk
    have ih := Next_rc l hl hs g n (order ++ [(k : Int)]) (fun i hi => by
     rcases List.mem_append.1 hi with hi | hi
     ·exact hm i hi
     ·rw [List.mem_singleton] at hi; subst hi; exact hkm) (by
     rw [List.Nodup, List.pairwise_append]
     refine ⟨hd, List.pairwise_singleton _ _, fun a ha b hb => ?_⟩
     rw [List.mem_singleton] at hb
     subst hb
     rintro rfl
     exact hnk ha) (by rw [List.length_append, List.length_cons, List.length_nil]; omega)
    rw [← hFk] at ih
    have hrow := imm_rowsL' (c := intC) (sz := 1) order
    simp only [go_sem] at hrow
    refine run_S (opsS_ev 8 ?_)
    have hL : order.length + 1 = (order ++ [(k : Int)]).length := by rw [List.length_append]; rfl
    simp only [go_sem, hrow, rowsL_len, int_row, hL]
    refine ⟨by omega, by omega, opsS_gh (gh_freeze (b := 0) (l := rowsL 1 intC (order ++ [(k : Int)])) rfl (rowsL_closed _)) (opsS_end ?_)⟩
    simp only [go_sem, rowsL_len]
    refine callS (ih _) ⟨SubP.refl _, SubP.refl _, subP_one (frz_sub' (order ++ [(k : Int)])), trivial⟩ (fun h => Bool.noConfusion h) ?_
    have hex : firstS F (ofS (l.take (k + 1)) g) = F k := by
     rw [hst, firstS_app, hno, if_pos hg]
     show firstS F [(k : Int)] = F k
     rw [firstS]
     cases F k <;> rfl
    cases hFr : F k with
    | some r =>
     rw [hFr] at hex
     have hres : firstS F (ofS l g) = some r := by rw [hTl, firstS_app, hex]
     rw [hres]
     simp only [resT, go_sem, Option.getD_some, Option.isSome_some]
     refine run_seqV ?_
     simp only [go_sem]
     refine V_sound ?_
     simp only [go_sem]
     exact fin0 (.inr rfl) (qs := [intsL r, .b true]) (cnd := True) (by simp only [go_sem]) trivial (SubS.refl _) (by simp only [go_sem])
    | none =>
     rw [hFr] at hex
     simp only [resT, go_sem, Option.getD_none, Option.isSome_none]
     refine run_seqV ?_
     simp only [go_sem]
     refine V_sound ?_
     simp only [go_sem]
     refine V_sound ?_
     simp only [go_sem, e3]
     refine ⟨k + 1, ⟨h1, hex⟩, by omega, [_, _], rfl, Nat.zero_le _, ?_, fun x hx => by cases hx⟩
     simp only [go_sem]
   ·have hno' : firstS F (ofS (l.take (k + 1)) g) = none := by
     rw [hst, firstS_app, hno]
     by_cases hg : (l.getD k default).group = g
     ·rw [if_pos hg]
      have hik : (k : Int) ∈ order := by
       rw [decide_eq_true hg, Bool.true_and, Bool.not_eq_false', decide_eq_true_eq] at hc
       exact hc
      show firstS F [(k : Int)] = none
      rw [firstS, ← hF]
      simp [hik, firstS]
     ·rw [if_neg hg]; rfl
    refine V_sound ?_
    simp only [go_sem]
    refine V_sound ?_
    simp only [go_sem, e3]
    refine ⟨k + 1, ⟨h1, hno'⟩, by omega, [], rfl, Nat.zero_le _, ?_, fun x hx => by cases hx⟩
    simp only [go_sem]
  ·have hkl : k = l.length := by omega
   subst hkl
   rw [List.take_length] at hno
   rw [hno]
   refine V_sound ?_
   simp only [go_sem]
   exact hnone _ _ (by simp only [go_sem]) (by simp only [go_sem])
def nxQ (l : List Evt) (k : Nat) : Bool := (List.range k).all fun g => (rNext l (g : Nat) (l.length + 1) []).isSome
theorem nxQ_succ (l : List Evt) (k : Nat) : nxQ l (k + 1) = (nxQ l k && (rNext l (k : Nat) (l.length + 1) []).isSome) := by
 unfold nxQ
 rw [List.range_succ, List.all_append]
 simp
theorem nxQ_0 (l : List Evt) : nxQ l 0 = true := rfl
theorem right_next {l : List Evt} {m : Nat} (hm : m ≤ 2000) (hl : l.length ≤ 14) (hsz : ∀ e ∈ l, e.op.ser.size ≤ m) (hc : chkS l = true) : rightS l = nxQ l 8 := by
 unfold rightS nxQ
 congr 1
 funext g
 rw [find_next hm hl hsz hc]
 cases rNext l (g : Nat) (l.length + 1) [] <;> rfl
set_option maxRecDepth 20000 in
theorem HistoryFinds_rc (l : List Evt) (hl : l.length ≤ 140737488355328) (g : Int) (M : List Blk) : CallR Tryz.prog M n_windroselaw34_HistoryFinds [evL l, .i g] (.b true) M := by
 refine callPG F_windroselaw34_HistoryFinds (Nat.le_of_ble_eq_true rfl) (by simp only [go_sem]) ?_ M
 refine run_seqV ?_
 simp only [go_sem]
 refine run_seqV ?_
 simp only [go_sem]
 refine call0 (light34_rc l hl) ?_
 simp only [go_sem]
 refine ⟨fun hc => ?_, fun hc => ?_⟩
 ·refine call0 awake34_rc ?_
  simp only [go_sem]
  exact endB true _ _ 4 (by simp only [go_sem])
 have hc' : light34B l = true ∧ l.length ≤ 5 := by
  simp at hc
  exact ⟨hc.1, by omega⟩
 obtain ⟨h1, h2⟩ := hc'
 obtain ⟨l20, l300⟩ := light34_z h1
 have hs : ∀ e ∈ l, e.op.ser.size ≤ 2000 := fun e he => Nat.le_trans (l300 e he) (by decide)
 clear hc
 refine run_seqV ?_
 simp only [go_sem]
 refine call0 (Find_rc l (by omega) hs g) ?_
 simp only [go_sem]
 refine run_seqV ?_
 simp only [go_sem]
 refine call0 (rMay34_rc l (by omega) hs) ?_
 simp only [go_sem]
 rw [rmay_eq]
 cases hchk : chkS l with
 | false =>
  have hf : ∀ g, findS l g = ([], 1) := fun g => by unfold findS; rw [hchk, if_pos rfl]
  have hR := Right_rc l (by omega) hs
  rw [show rightS l = false by rw [rightS, all_f (show 0 < 8 by decide) (by rw [hf]; rfl)]] at hR
  rw [hf]
  simp only [go_sem]
  refine callg0 (fun _ => hR) ?_
  simp only [go_sem]
  refine callg0 (fun _ => awake34_rc) ?_
  simp only [go_sem]
  exact endB true _ _ 4 (by simp only [go_sem])
 | true =>
 have hN := fun g M => Next_rc l (by omega) hs g (l.length + 1) [] (fun i hi => by cases hi) List.nodup_nil (by have := of_len l g; simp only [List.length_nil]; omega) M
 have hfn := fun g => find_next (m := 2000) (by decide) (by omega) hs hchk g
 have hrt := right_next (m := 2000) (by decide) (by omega) hs hchk
 simp only [go_sem]
 refine run_seqV ?_
 simp only [go_sem]
 refine callS (hN g _) ⟨SubP.refl _, SubP.refl _, subP_one (nil_sub (α := Int)), trivial⟩ (fun h => Bool.noConfusion h) ?_
 have hfg : findS l g = ((rNext l g (l.length + 1) []).getD [], if (rNext l g (l.length + 1) []).isSome = true then 0 else 5) := by
  rw [hfn g]
  cases rNext l g (l.length + 1) [] <;> rfl
 have hlW : ((rNext l g (l.length + 1) []).getD []).length ≤ 1000 := by
  cases hr : rNext l g (l.length + 1) [] with
  | none => exact Nat.zero_le _
  | some r =>
   have h1 := (ord_iff l g r).1 (rNext_ext hr).1
   have h2 := nd_len h1.nd h1.mem
   have h3 := of_len l g
   show r.length ≤ 1000
   omega
 have hR := Right_rc l (by omega) hs
 rw [hrt] at hR
 rw [hfg]
 generalize rNext l g (l.length + 1) [] = W at hlW ⊢
 simp only [resT, go_sem]
 refine run_seqV ?_
 simp only [go_sem]
 refine run_seqV ?_
 simp only [go_sem]
 refine R_loop (ι := Nat) (J := fun k => k ≤ 8)
  (env := fun k => [(0, .p (evL l)), (5, .p (intsL (W.getD []))), (6, .i (if W.isSome = true then 0 else 5)), (7, .p (intsL (W.getD []))), (8, .b W.isSome), (9, .b (nxQ l k)), (10, .i k)])
  (mem := fun _ => []) (μ := fun k => 8 - k) 0 (Nat.zero_le _) ⟨[], rfl, Nat.zero_le _, ?_, ?_⟩ ?_
 ·simp only [go_sem, nxQ_0]
 ·intro x hx; cases hx
 rintro k hk
 refine run_seqV ?_
 simp only [go_sem]
 refine ⟨fun h3 => ?_, fun h3 => ?_⟩
 ·have e3 : IntKind.i64.wrap ((k : Int) + 1) = ((k + 1 : Nat) : Int) := w64s (by omega)
  refine run_seq ?_
  refine run_block ?_
  refine run_seqV ?_
  simp only [go_sem]
  refine callS (hN (k : Nat) _) ⟨SubP.refl _, SubP.refl _, subP_one (nil_sub (α := Int)), trivial⟩ (fun h => Bool.noConfusion h) ?_
  simp only [resT, go_sem]
  refine V_sound ?_
  simp only [go_sem]
  refine V_sound ?_
  simp only [go_sem, e3]
  refine ⟨k + 1, by omega, by omega, [], rfl, Nat.zero_le _, ?_, fun x hx => by cases hx⟩
  simp only [go_sem, nxQ_succ]
 have hk8 : k = 8 := by omega
 subst hk8
 have hIn := Ints_rc (W.getD []) (W.getD []) (by omega)
 rw [decide_eq_true rfl] at hIn
 generalize nxQ l 8 = Q at hR ⊢
 refine run_seqV ?_
 simp only [go_sem]
 have hX : (((if W.isSome = true then (0 : Int) else 5) == 0) == W.isSome && (W.isSome || (if W.isSome = true then (0 : Int) else 5) == 5)) = true := by cases W <;> rfl
 rw [hX]
 refine callg0 (fun _ => hIn) ?_
 simp only [go_sem]
 refine callg0 (fun _ => hR) ?_
 simp only [go_sem]
 refine callg0 (fun _ => awake34_rc) ?_
 simp only [go_sem]
 exact run_ret (endB true _ _ 4 (by simp only [go_sem]))
end Go.Proofs.YtpdcpdngckpgbaaGreat.A
end
