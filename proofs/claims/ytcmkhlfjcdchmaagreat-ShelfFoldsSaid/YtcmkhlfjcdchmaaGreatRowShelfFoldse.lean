/- Part 5 of the texts on which the row stands: ShD, LbA, LbB, Shelf, LbE, LbH, LbD, LbI, LbJ, LbC, LbM, LbF, LbG, LbK, LbP, LbN, LbL, LbO, ShE, ShF, ShG, ShH, AbsMe, ShI. Conditions: none. -/
import Derived.Test.YtcmkhlfjcdchmaaGreatRowShelfFoldsd
import Derived.Shelf.Strings.Builder1
import Derived.Shelf.Small.Bits
import Derived.Shelf.Small.Strs
import Derived.Shelf.Strconv.Itoa0
import Derived.Shelf.Strings.Search1
import Derived.Shelf.Strings.Search2
import Derived.Shelf.Strings.Cut
import Derived.Shelf.LaysM
import Derived.Shelf.Strings.Shaped
import Derived.Test.YtcmkhlfjcdchmaaGreatProg
set_option linter.unusedVariables false
set_option linter.unusedSimpArgs false
section
namespace Go.Proofs.YtcmkhlfjcdchmaaGreat.A
open Go Go.Proofs.YtcmkhlfjcdchmaaGreatAbs
theorem sm_parts {l : List Smp} (h : smsOk l = true) {i : Nat} (hi : i < l.length) : (0 ≤ (l.getD i default).t ∧ (l.getD i default).t ≤ 1099511627776 ∧ -1099511627776 ≤ (l.getD i default).v ∧ (l.getD i default).v ≤ 1099511627776) ∧ (0 < i → (l.getD (i - 1) default).t < (l.getD i default).t) := by
  unfold smsOk at h
  have h2 := List.all_eq_true.1 (Bool.and_eq_true_iff.1 h).2 i (List.mem_range.2 hi)
  unfold smAt smOk at h2
  simp only [Bool.and_eq_true, Bool.or_eq_true, decide_eq_true_eq, beq_iff_eq] at h2
  refine ⟨by omega, fun h0 => ?_⟩
  rcases h2.2 with e | e
  · omega
  · exact e
theorem sm_rise {l : List Smp} (h : smsOk l = true) {i : Nat} : ∀ {j : Nat}, i < j → j < l.length → (l.getD i default).t < (l.getD j default).t
  | 0, hij, hj => by omega
  | j + 1, hij, hj => by
    have h1 := (sm_parts h hj).2 (by omega)
    rw [Nat.add_sub_cancel] at h1
    by_cases e : i = j
    · subst e; exact h1
    · exact Int.lt_trans (sm_rise h (show i < j by omega) (by omega)) h1
def vN (l : List Smp) (k : Nat) : Int := (l.getD k default).v
def sumN (l : List Smp) : Nat → Int
  | 0 => 0
  | k + 1 => sumN l k + vN l k
def leastN (l : List Smp) : Nat → Int
  | 0 => 0
  | k + 1 => if k = 0 then vN l k else if vN l k < leastN l k then vN l k else leastN l k
def mostN (l : List Smp) : Nat → Int
  | 0 => 0
  | k + 1 => if k = 0 then vN l k else if mostN l k < vN l k then vN l k else mostN l k
def grownN (l : List Smp) : Nat → Int
  | 0 => 0
  | k + 1 => if k = 0 then 0 else if vN l (k - 1) ≤ vN l k then grownN l k + vN l k - vN l (k - 1) else if 0 < vN l k then grownN l k + vN l k else grownN l k
theorem v_bound {l : List Smp} (h : smsOk l = true) {k : Nat} (hk : k < l.length) : -1099511627776 ≤ vN l k ∧ vN l k ≤ 1099511627776 := by
  have := (sm_parts h hk).1; unfold vN; omega
theorem sum_bound {l : List Smp} (h : smsOk l = true) : ∀ {k : Nat}, k ≤ l.length → -(1099511627776 * (k : Int)) ≤ sumN l k ∧ sumN l k ≤ 1099511627776 * (k : Int)
  | 0, hk => by simp [sumN]
  | k + 1, hk => by
    have := v_bound h (show k < l.length by omega)
    have := sum_bound h (show k ≤ l.length by omega)
    rw [sumN]; omega
theorem least_bound {l : List Smp} (h : smsOk l = true) : ∀ {k : Nat}, k ≤ l.length → -1099511627776 ≤ leastN l k ∧ leastN l k ≤ 1099511627776
  | 0, hk => by simp [leastN]
  | k + 1, hk => by
    have := v_bound h (show k < l.length by omega)
    have := least_bound h (show k ≤ l.length by omega)
    rw [leastN]; split <;> (try split) <;> omega
theorem most_bound {l : List Smp} (h : smsOk l = true) : ∀ {k : Nat}, k ≤ l.length → -1099511627776 ≤ mostN l k ∧ mostN l k ≤ 1099511627776
  | 0, hk => by simp [mostN]
  | k + 1, hk => by
    have := v_bound h (show k < l.length by omega)
    have := most_bound h (show k ≤ l.length by omega)
    rw [mostN]; split <;> (try split) <;> omega
theorem grown_bound {l : List Smp} (h : smsOk l = true) : ∀ {k : Nat}, k ≤ l.length → 0 ≤ grownN l k ∧ grownN l k ≤ 2199023255552 * (k : Int)
  | 0, hk => by simp [grownN]
  | k + 1, hk => by
    have := v_bound h (show k < l.length by omega)
    have := grown_bound h (show k ≤ l.length by omega)
    rw [grownN]
    split
    · omega
    · have := v_bound h (show k - 1 < l.length by omega)
      split
      · omega
      · split <;> omega
def totS (kind : Int) (l : List Smp) : Int × Bool :=
  if smsOk l = false ∨ kind < 1 ∨ 5 < kind then (0, false) else if kind = 1 then (sumN l l.length, true) else if kind = 4 then (l.length, true) else if kind = 2 then (leastN l l.length, decide (0 < l.length)) else if kind = 3 then (mostN l l.length, decide (0 < l.length))
  else if l.length < 2 then (0, false) else ((grownN l l.length * 60).tdiv ((l.getD (l.length - 1) default).t - (l.getD 0 default).t), true)
def fldS (kind a b : Int) : Int × Bool := if kind = 1 ∨ kind = 4 then (a + b, true) else if kind = 2 then (if b < a then b else a, true) else if kind = 3 then (if a < b then b else a, true) else (0, false)
set_option maxRecDepth 20000 in
theorem Fold_rc (kind a b : Int) (ha : -9007199254740992 ≤ a ∧ a ≤ 9007199254740992) (hb : -9007199254740992 ≤ b ∧ b ≤ 9007199254740992) (M : List Blk) : CallR Tryz.prog M n_total_Fold [.i kind, .i a, .i b] (.tup [.i (fldS kind a b).1, .b (fldS kind a b).2]) M := by
  refine callP F_total_Fold (Nat.le_of_ble_eq_true rfl) (by simp only [go_sem]) (by simp only [go_sem]) ?_ M
  simp only [c_total_Fold, go_sem]
  have h1 : ((if b < a then b else a) < -9007199254740992) = False := by simp only [eq_iff_iff, iff_false]; split <;> omega
  have h2 : (9007199254740992 < (if a < b then b else a)) = False := by simp only [eq_iff_iff, iff_false]; split <;> omega
  have e : IntKind.i64.wrap (a + b) = a + b := w64 (by omega) (by omega)
  simp only [h1, h2, e, decide_false, go_sem, fldS]
  grind
set_option maxRecDepth 20000 in
theorem rate_rc (l : List Smp) (hk : smsOk l = true) (M : List Blk) : CallR Tryz.prog M n_total_rate [smpL l] (if l.length < 2 then .tup [.i 0, .b false] else .tup [.i ((grownN l l.length * 60).tdiv ((l.getD (l.length - 1) default).t - (l.getD 0 default).t)), .b true]) M := by
  refine callP F_total_rate (Nat.le_of_ble_eq_true rfl) (by simp only [go_sem]) (by split <;> simp only [go_sem]) ?_ M
  have h64 := smsOk_len hk
  simp only [c_total_rate, go_sem]
  refine ⟨fun hc => ?_, fun hc => ?_⟩
  · rw [if_pos (by omega)]; simp only [go_sem]
  rw [if_neg (by omega)]
  refine V_loop (ι := Nat) (J := fun k => 1 ≤ k ∧ k ≤ l.length) (env := fun k => [(0, .p (smpL l)), (4, .i (grownN l k)), (5, .i k)]) (mem := fun _ => []) (μ := fun k => l.length - k) 1 ⟨Nat.le_refl _, by omega⟩ (into0 (by simp only [go_sem, grownN])) ?_
  rintro k ⟨hk1, hkl⟩
  have e1 : IntKind.i64.wrap ((k : Int) - 1) = ((k - 1 : Nat) : Int) := w64p (by omega) (by omega)
  have e2 : IntKind.i64.wrap ((k : Int) + 1) = ((k + 1 : Nat) : Int) := w64s (by omega)
  have e5 : IntKind.i64.wrap ((l.length : Int) - 1) = ((l.length - 1 : Nat) : Int) := w64p (by omega) (by omega)
  have b0 := grown_bound hk hkl
  simp only [go_sem, e1, e2, e5]
  have bl := sm_parts hk (show l.length - 1 < l.length by omega)
  have bf := sm_parts hk (show 0 < l.length by omega)
  have br := sm_rise hk (show 0 < l.length - 1 by omega) (by omega)
  have e6 : IntKind.i64.wrap ((l.getD (l.length - 1) default).t - (l.getD 0 default).t) = (l.getD (l.length - 1) default).t - (l.getD 0 default).t := w64 (by omega) (by omega)
  refine ⟨fun h1 => ?_, fun h1 => ⟨by omega, by omega, by rw [e6]; omega, ?_⟩⟩
  · have bv := v_bound hk h1
    have bp := v_bound hk (show k - 1 < l.length by omega)
    have e3 : IntKind.i64.wrap ((l.getD k default).v - (l.getD (k - 1) default).v) = vN l k - vN l (k - 1) := w64 (by unfold vN at *; omega) (by unfold vN at *; omega)
    rw [e3]
    refine ⟨by omega, by omega, fun hc => ⟨k + 1, by omega, by omega, into0 ?_⟩, fun hc => ⟨by omega, k + 1, by omega, by omega, into0 ?_⟩⟩
    · have hg : grownN l (k + 1) = IntKind.i64.wrap (grownN l k + (vN l k - vN l (k - 1))) := by
        rw [w64 (by omega) (by omega), grownN, if_neg (by omega), if_pos (by omega)]; omega
      simp only [go_sem, hg]
    · have hm : (if (0 : Int) < (l.getD k default).v then (l.getD k default).v else 0) = if 0 < vN l k then vN l k else 0 := rfl
      have hg : grownN l (k + 1) = IntKind.i64.wrap (grownN l k + (if 0 < vN l k then vN l k else 0)) := by
        rw [w64 (by split <;> omega) (by split <;> omega), grownN, if_neg (by omega), if_neg (by omega)]
        split <;> omega
      simp only [go_sem, hg, hm]
  · have hkl' : k = l.length := by omega
    subst hkl'
    rw [e6]
    have hg : IntKind.i64.wrap (grownN l l.length * 60) = grownN l l.length * 60 := w64 (by omega) (by omega)
    rw [hg, w64]
    · have := Int.tdiv_nonneg (a := grownN l l.length * 60) (b := (l.getD (l.length - 1) default).t - (l.getD 0 default).t) (by omega) (by omega)
      omega
    · have := Int.tdiv_le_self (b := (l.getD (l.length - 1) default).t - (l.getD 0 default).t) (a := grownN l l.length * 60) (by omega)
      omega
def accN (kind : Int) (l : List Smp) (k : Nat) : Int := if kind = 1 then sumN l k else if kind = 2 then leastN l k else mostN l k
theorem acc_bound {l : List Smp} (h : smsOk l = true) (kind : Int) {k : Nat} (hk : k ≤ l.length) : -70368744177664 ≤ accN kind l k ∧ accN kind l k ≤ 70368744177664 := by
  have h64 := smsOk_len h
  have a := sum_bound h hk
  have b := least_bound h hk
  have c := most_bound h hk
  unfold accN
  split
  · omega
  · split <;> omega
set_option maxRecDepth 20000 in
theorem Of_rc (kind : Int) (l : List Smp) (hl : l.length ≤ 140737488355328) (M : List Blk) : CallR Tryz.prog M n_total_Of [.i kind, smpL l] (.tup [.i (totS kind l).1, .b (totS kind l).2]) M := by
  refine callP F_total_Of (Nat.le_of_ble_eq_true rfl) (by simp only [go_sem]) (by simp only [go_sem]) ?_ M
  simp only [c_total_Of, go_sem]
  refine call0 (bCheck_rc l hl) ?_
  simp only [go_sem]
  cases hk : smsOk l with
  | false => simp only [totS, hk, go_sem]
  | true =>
    have h64 := smsOk_len hk
    simp only [go_sem]
    refine ⟨fun hc => ?_, fun hc => ?_⟩
    · simp only [Bool.or_eq_true, decide_eq_true_eq] at hc
      rw [totS, if_pos (.inr (by omega))]
      simp only [go_sem]
    simp only [Bool.or_eq_false_iff, decide_eq_false_iff_not] at hc
    have hts : totS kind l = if kind = 1 then (sumN l l.length, true) else if kind = 4 then (l.length, true) else if kind = 2 then (leastN l l.length, decide (0 < l.length)) else if kind = 3 then (mostN l l.length, decide (0 < l.length)) else if l.length < 2 then (0, false) else ((grownN l l.length * 60).tdiv ((l.getD (l.length - 1) default).t - (l.getD 0 default).t), true) := by
      rw [totS, if_neg (by rw [hk]; simp; omega)]
    rw [hts]
    refine ⟨fun h4 => ?_, fun h4 => ⟨fun h5 => ?_, fun h5 => ?_⟩⟩
    · rw [if_neg (by omega), if_pos h4]
      simp only [go_sem]
    · rw [if_neg (by omega), if_neg h4, if_neg (by omega), if_neg (by omega)]
      refine call0 (rate_rc l hk) ?_
      split <;> simp only [go_sem]
    rw [if_neg h4]
    refine V_loop (ι := Nat) (J := fun k => k ≤ l.length) (env := fun k => [(0, .i kind), (1, .p (smpL l)), (6, .i (accN kind l k)), (31, .p (smpL l)), (32, .i l.length), (33, .i k)]) (mem := fun _ => []) (μ := fun k => l.length - k) 0 (Nat.zero_le _) (into0 (by
      have : accN kind l 0 = 0 := by unfold accN sumN leastN mostN; split <;> (try split) <;> rfl
      simp only [go_sem, this])) ?_
    rintro k hkl
    have e2 : IntKind.i64.wrap ((k : Int) + 1) = ((k + 1 : Nat) : Int) := w64s (by omega)
    have ab := acc_bound hk kind hkl
    simp only [go_sem, e2]
    refine ⟨fun h1 => ⟨by omega, fun h0 => ⟨k + 1, h1, by omega, into0 ?_⟩, fun h0 => ?_⟩, fun h1 => ?_⟩
    · have h0' : k = 0 := by omega
      subst h0'
      have hv : accN kind l (0 + 1) = (l.getD 0 default).v := by
        unfold accN
        simp only [sumN, leastN, mostN, if_true, Int.zero_add]
        split <;> (try split) <;> rfl
      simp only [go_sem, hv]
    · have bv := v_bound hk h1
      have h0' : ¬ k = 0 := fun e => h0 (by rw [e]; rfl)
      refine call0 (Fold_rc kind (accN kind l k) (l.getD k default).v (by omega) (by unfold vN at bv; omega)) ?_
      have hf : (fldS kind (accN kind l k) (l.getD k default).v).1 = accN kind l (k + 1) := by
        unfold fldS accN
        by_cases k1 : kind = 1
        · subst k1; simp only [true_or, if_true, sumN]; rfl
        · rw [if_neg (by omega), if_neg k1, if_neg k1]
          by_cases k2 : kind = 2
          · rw [if_pos k2, if_pos k2, if_pos k2, leastN, if_neg h0']; rfl
          · rw [if_neg k2, if_neg k2, if_neg k2, if_pos (by omega), mostN, if_neg h0']; rfl
      simp only [go_sem, hf]
      exact ⟨k + 1, h1, by omega, into0 (by simp only [go_sem, e2])⟩
    · have hkl' : k = l.length := by omega
      subst hkl'
      unfold accN
      by_cases k1 : kind = 1
      · subst k1; simp only [if_true, beq_self_eq_true, Bool.true_or, and_self]
      · have e1 : (kind == 1) = false := by simpa using k1
        rw [if_neg k1, if_neg k1, e1, Bool.false_or]
        by_cases k2 : kind = 2
        · rw [if_pos k2, if_pos k2]
          exact ⟨rfl, by simp⟩
        · rw [if_neg k2, if_neg k2, if_pos (by omega)]
          exact ⟨rfl, by simp⟩
set_option maxRecDepth 100000 in
theorem rOf_rc (kind : Int) (l : List Smp) (hl : l.length ≤ 140737488355328) (M : List Blk) : CallR Tryz.prog M n_windroseref13_Of [.i kind, smpL l] (.tup [.i (totS kind l).1, .b (totS kind l).2]) M := by
  refine callP F_windroseref13_Of (Nat.le_of_ble_eq_true rfl) (by simp only [go_sem]) (by simp only [go_sem]) ?_ M
  simp only [c_windroseref13_Of, go_sem]
  refine call0 (rMay_rc l hl) ?_
  simp only [go_sem]
  cases hk : smsOk l with
  | false => simp only [totS, hk, go_sem]
  | true =>
    have h64 := smsOk_len hk
    simp only [go_sem]
    refine ⟨fun hc => ?_, fun hc => ?_⟩
    · simp only [Bool.or_eq_true, decide_eq_true_eq] at hc
      rw [totS, if_pos (.inr (by omega))]
      simp only [go_sem]
    simp only [Bool.or_eq_false_iff, decide_eq_false_iff_not] at hc
    have hts : totS kind l = if kind = 1 then (sumN l l.length, true) else if kind = 4 then (l.length, true) else if kind = 2 then (leastN l l.length, decide (0 < l.length)) else if kind = 3 then (mostN l l.length, decide (0 < l.length)) else if l.length < 2 then (0, false) else ((grownN l l.length * 60).tdiv ((l.getD (l.length - 1) default).t - (l.getD 0 default).t), true) := by
      rw [totS, if_neg (by rw [hk]; simp; omega)]
    rw [hts]
    refine R_loop (ι := Nat) (J := fun k => k ≤ l.length) (env := fun k => [(0, .i kind), (1, .p (smpL l)), (6, .i l.length), (7, .i (sumN l k)), (8, .i (leastN l k)), (9, .i (mostN l k)), (10, .i (grownN l k)), (11, .i k)]) (mem := fun _ => []) (μ := fun k => l.length - k) 0 (Nat.zero_le _) (into0 (by simp only [go_sem, sumN, leastN, mostN, grownN])) ?_
    rintro k hkl
    refine run_seqV ?_
    simp only [go_sem]
    refine ⟨fun h1 => ?_, fun h1 => ?_⟩
    · refine run_seq ?_
      refine run_block ?_
      refine run_seqV ?_
      simp only [go_sem]
      have bv := v_bound hk h1
      have e2 : IntKind.i64.wrap ((k : Int) + 1) = ((k + 1 : Nat) : Int) := w64s (by omega)
      have b1 := sum_bound hk hkl
      have b4 := grown_bound hk hkl
      have hv : (l.getD k default).v = vN l k := rfl
      have hsum : IntKind.i64.wrap (sumN l k + vN l k) = sumN l (k + 1) := by
        rw [sumN]; exact w64 (by omega) (by omega)
      have hz : ((k : Int) == 0) = (k == 0) := by
        rw [Bool.eq_iff_iff]; simp
      refine ⟨by omega, run_seqV ?_⟩
      simp only [go_sem, hv, hsum]
      refine run_join [(0, .i kind), (1, .p (smpL l)), (6, .i l.length), (7, .i (sumN l (k + 1))), (8, .i (leastN l (k + 1))), (9, .i (mostN l k)), (10, .i (grownN l k)), (11, .i k), (12, .i (vN l k))] [] (V_sound ?_) ?_
      · simp only [go_sem, hz]
        refine ⟨fun hc => into0 ?_, fun hc => into0 ?_⟩
        · have : leastN l (k + 1) = vN l k := by
            simp only [Bool.or_eq_true, decide_eq_true_eq, beq_iff_eq] at hc
            rw [leastN]; split
            · rfl
            · rw [if_pos (by omega)]
          simp only [go_sem, this]
        · have : leastN l (k + 1) = leastN l k := by
            simp only [Bool.or_eq_false_iff, decide_eq_false_iff_not, beq_eq_false_iff_ne, ne_eq] at hc
            rw [leastN, if_neg hc.1, if_neg hc.2]
          simp only [go_sem, this]
      refine run_join [(0, .i kind), (1, .p (smpL l)), (6, .i l.length), (7, .i (sumN l (k + 1))), (8, .i (leastN l (k + 1))), (9, .i (mostN l (k + 1))), (10, .i (grownN l k)), (11, .i k), (12, .i (vN l k))] [] (V_sound ?_) ?_
      · simp only [go_sem, hz]
        refine ⟨fun hc => into0 ?_, fun hc => into0 ?_⟩
        · have : mostN l (k + 1) = vN l k := by
            simp only [Bool.or_eq_true, decide_eq_true_eq, beq_iff_eq] at hc
            rw [mostN]; split
            · rfl
            · rw [if_pos (by omega)]
          simp only [go_sem, this]
        · have : mostN l (k + 1) = mostN l k := by
            simp only [Bool.or_eq_false_iff, decide_eq_false_iff_not, beq_eq_false_iff_ne, ne_eq] at hc
            rw [mostN, if_neg hc.1, if_neg hc.2]
          simp only [go_sem, this]
      refine V_sound ?_
      simp only [go_sem]
      by_cases h0 : k = 0
      · subst h0
        have hd : decide ((0 : Int) < ((0 : Nat) : Int)) = false := rfl
        have hg : grownN l (0 + 1) = grownN l 0 := by rw [grownN]; rfl
        simp only [hd, go_sem]
        refine V_sound ?_
        simp only [go_sem, e2]
        exact ⟨0 + 1, h1, by omega, into0 (by simp only [go_sem, hg]; rfl)⟩
      · have ep : (0 < (k : Int)) = True := eq_true (by omega)
        have ep' : (0 < k) = True := eq_true (by omega)
        have e1 : IntKind.i64.wrap ((k : Int) - 1) = ((k - 1 : Nat) : Int) := w64p (by omega) (by omega)
        have bp := v_bound hk (show k - 1 < l.length by omega)
        have hv1 : (l.getD (k - 1) default).v = vN l (k - 1) := rfl
        simp only [ep, ep', e1, hv1, go_sem, decide_true]
        refine ⟨by omega, fun hc => ⟨by omega, V_sound ?_⟩, fun hc => ⟨fun hd => V_sound ?_, fun hd => V_sound ?_⟩⟩
        · have hg : grownN l (k + 1) = IntKind.i64.wrap (IntKind.i64.wrap (grownN l k + vN l k) - vN l (k - 1)) := by
            rw [w64 (n := grownN l k + vN l k) (by omega) (by omega), w64 (by omega) (by omega), grownN, if_neg h0, if_pos hc]
          simp only [go_sem, e2]
          exact ⟨k + 1, h1, by omega, into0 (by simp only [go_sem, hg])⟩
        · have hg : grownN l (k + 1) = IntKind.i64.wrap (grownN l k + vN l k) := by
            rw [w64 (by omega) (by omega), grownN, if_neg h0, if_neg hc, if_pos hd]
          simp only [go_sem, e2]
          exact ⟨k + 1, h1, by omega, into0 (by simp only [go_sem, hg])⟩
        · have hg : grownN l (k + 1) = grownN l k := by
            rw [grownN, if_neg h0, if_neg hc, if_neg hd]
          simp only [go_sem, e2]
          exact ⟨k + 1, h1, by omega, into0 (by simp only [go_sem, hg])⟩
    · have hkl' : k = l.length := by omega
      subst hkl'
      refine ⟨fun k1 => ?_, fun k1 => ⟨fun k4 => ?_, fun k4 => ⟨fun k2 => ?_, fun k2 => ⟨fun k3 => ?_, fun k3 => ⟨fun h2 => ?_, fun h2 => ?_⟩⟩⟩⟩⟩
      · simp only [if_pos k1, go_sem]
      · simp only [if_neg k1, if_pos k4, go_sem]
      · simp only [if_neg k1, if_neg k4, if_pos k2, go_sem]
        simp
      · simp only [if_neg k1, if_neg k4, if_neg k2, if_pos k3, go_sem]
        simp
      · have h2' : l.length < 2 := by omega
        simp only [if_neg k1, if_neg k4, if_neg k2, if_neg k3, if_pos h2', go_sem]
      · have h2' : ¬ l.length < 2 := by omega
        have bl := sm_parts hk (show l.length - 1 < l.length by omega)
        have bf := sm_parts hk (show 0 < l.length by omega)
        have br := sm_rise hk (show 0 < l.length - 1 by omega) (by omega)
        have b4 := grown_bound hk (Nat.le_refl l.length)
        have e6 : IntKind.i64.wrap ((l.getD (l.length - 1) default).t - (l.getD 0 default).t) = (l.getD (l.length - 1) default).t - (l.getD 0 default).t := w64 (by omega) (by omega)
        have e5 : IntKind.i64.wrap ((l.length : Int) - 1) = ((l.length - 1 : Nat) : Int) := w64p (by omega) (by omega)
        have hg : IntKind.i64.wrap (grownN l l.length * 60) = grownN l l.length * 60 := w64 (by omega) (by omega)
        simp only [if_neg k1, if_neg k4, if_neg k2, if_neg k3, if_neg h2', go_sem, e5, e6, hg]
        refine ⟨by omega, by omega, by omega, ?_⟩
        rw [w64]
        · have := Int.tdiv_nonneg (a := grownN l l.length * 60) (b := (l.getD (l.length - 1) default).t - (l.getD 0 default).t) (by omega) (by omega)
          omega
        · have := Int.tdiv_le_self (b := (l.getD (l.length - 1) default).t - (l.getD 0 default).t) (a := grownN l l.length * 60) (by omega)
          omega
end Go.Proofs.YtcmkhlfjcdchmaaGreat.A
end
section
namespace Go.Proofs.YtcmkhlfjcdchmaaGreat.A
open Go Go.Proofs.YtcmkhlfjcdchmaaGreatAbs
structure Lb where
  name : ByteArray
  value : ByteArray
instance : Inhabited Lb := ⟨⟨mkS [], mkS []⟩⟩
@[go_sem] def Lb.c (x : Lb) : Nat → CV
  | 0 => .v (.string x.name)
  | _ => .v (.string x.value)
abbrev lbCV (l : List Lb) : CV := .imm 2 l.length fun i j => (l.getD i default).c j
abbrev lbL (l : List Lb) : Pt := .one (.c (lbCV l))
structure Ser where
  name : ByteArray
  labels : List Lb
instance : Inhabited Ser := ⟨⟨mkS [], []⟩⟩
@[go_sem] def Ser.c (x : Ser) : Nat → CV
  | 0 => .v (.string x.name)
  | _ => lbCV x.labels
abbrev serA (s : Ser) : Pt := .agg [.c (.v (.string s.name)), .c (lbCV s.labels)]
def inR (lo hi : Nat) (c : UInt8) : Bool := decide (lo ≤ c.toNat) && decide (c.toNat ≤ hi)
def nmOk (s : ByteArray) : Bool := decide (1 ≤ s.size) && decide (s.size ≤ 16) && (bs s).all (inR 97 122)
def vlOk (s : ByteArray) : Bool := decide (s.size ≤ 16) && (bs s).all (inR 32 126)
theorem inR_t {lo hi : Nat} {c : UInt8} : inR lo hi c = true ↔ lo ≤ c.toNat ∧ c.toNat ≤ hi := by simp [inR]
theorem inR_f {lo hi : Nat} {c : UInt8} : inR lo hi c = false ↔ c.toNat < lo ∨ hi < c.toNat := by
  simp only [inR, Bool.and_eq_false_iff, decide_eq_false_iff_not]; omega
/-- All bytes of a text are of a range: as loops find it. -/
theorem all_in {s : ByteArray} {lo hi k : Nat} (hk : ¬ k < s.size) (h : ∀ j, j < k → inR lo hi ((bs s).getD j 0) = true) : (bs s).all (inR lo hi) = true :=
  all_true (d := 0) (fun j hj => h j (by rw [bs_len] at hj; omega))
theorem all_out {s : ByteArray} {lo hi k : Nat} (hk : k < s.size) (h : ((bs s).getD k 0).toNat < lo ∨ hi < ((bs s).getD k 0).toNat) : (bs s).all (inR lo hi) = false :=
  all_false (d := 0) (by rw [bs_len]; exact hk) (inR_f.2 h)
theorem rName_rc (s : ByteArray) (hs : s.size < 9223372036854775807) (M : List Blk) : CallR Tryz.prog M n_windroseref03_Name [.s s] (.b (nmOk s)) M := by
  refine callP F_windroseref03_Name (Nat.le_of_ble_eq_true rfl) (by simp only [go_sem]) (by simp only [go_sem]) ?_ M
  simp only [c_windroseref03_Name, go_sem]
  refine V_loop (ι := Nat) (J := fun k => k ≤ s.size ∧ ∀ j, j < k → inR 97 122 ((bs s).getD j 0) = true) (env := fun k => [(0, .s s), (3, .i k)]) (mem := fun _ => []) (μ := fun k => s.size - k) 0 ⟨Nat.zero_le _, fun j hj => by omega⟩ (into0 (by simp only [go_sem])) ?_
  rintro k ⟨hk, hok⟩
  simp only [go_sem]
  refine ⟨fun h1 => ⟨by omega, fun _ => by omega, fun hc => ?_, fun hc => ⟨k + 1, ⟨by omega, fun j hj => ?_⟩, by omega, into0 ?_⟩⟩, fun h1 => ?_⟩
  · simp only [Bool.or_eq_true, decide_eq_true_eq] at hc
    rw [nmOk, all_out h1 (by omega), Bool.and_false]
  · by_cases e : j = k
    · subst e
      simp only [Bool.or_eq_false_iff, decide_eq_false_iff_not] at hc
      exact inR_t.2 (by omega)
    · exact hok j (by omega)
  · simp only [go_sem, w64s (show k < 9223372036854775807 by omega)]
  · rw [nmOk, all_in h1 hok, Bool.and_true]
    simp only [Bool.and_eq_decide, decide_eq_decide, decide_eq_true_eq]
    omega
theorem rVal_rc (s : ByteArray) (hs : s.size < 9223372036854775807) (M : List Blk) : CallR Tryz.prog M n_windroseref03_Val [.s s] (.b (vlOk s)) M := by
  refine callP F_windroseref03_Val (Nat.le_of_ble_eq_true rfl) (by simp only [go_sem]) (by simp only [go_sem]) ?_ M
  simp only [c_windroseref03_Val, go_sem]
  refine V_loop (ι := Nat) (J := fun k => k ≤ s.size ∧ ∀ j, j < k → inR 32 126 ((bs s).getD j 0) = true) (env := fun k => [(0, .s s), (3, .i k)]) (mem := fun _ => []) (μ := fun k => s.size - k) 0 ⟨Nat.zero_le _, fun j hj => by omega⟩ (into0 (by simp only [go_sem])) ?_
  rintro k ⟨hk, hok⟩
  simp only [go_sem]
  refine ⟨fun h1 => ⟨by omega, fun _ => by omega, fun hc => ?_, fun hc => ⟨k + 1, ⟨by omega, fun j hj => ?_⟩, by omega, into0 ?_⟩⟩, fun h1 => ?_⟩
  · simp only [Bool.or_eq_true, decide_eq_true_eq] at hc
    rw [vlOk, all_out h1 (by omega), Bool.and_false]
  · by_cases e : j = k
    · subst e
      simp only [Bool.or_eq_false_iff, decide_eq_false_iff_not] at hc
      exact inR_t.2 (by omega)
    · exact hok j (by omega)
  · simp only [go_sem, w64s (show k < 9223372036854775807 by omega)]
  · rw [vlOk, all_in h1 hok, Bool.and_true]
    simp only [decide_eq_decide]
    omega
theorem value_rc (s : ByteArray) (hs : s.size < 9223372036854775807) (M : List Blk) : CallR Tryz.prog M n_label_value [.s s] (.b (vlOk s)) M := by
  refine callP F_label_value (Nat.le_of_ble_eq_true rfl) (by simp only [go_sem]) (by simp only [go_sem]) ?_ M
  simp only [c_label_value, go_sem]
  refine V_loop (ι := Nat) (J := fun k => k ≤ s.size ∧ ∀ j, j < k → inR 32 126 ((bs s).getD j 0) = true) (env := fun k => [(0, .s s), (5, .i s.size), (6, .i k)]) (mem := fun _ => []) (μ := fun k => s.size - k) 0 ⟨Nat.zero_le _, fun j hj => by omega⟩ (into0 (by simp only [go_sem])) ?_
  rintro k ⟨hk, hok⟩
  simp only [go_sem]
  refine ⟨fun h1 => ⟨by omega, fun _ => by omega, fun hc => ?_, fun hc => ⟨k + 1, ⟨by omega, fun j hj => ?_⟩, by omega, into0 ?_⟩⟩, fun h1 => ?_⟩
  · simp only [Bool.or_eq_true, decide_eq_true_eq] at hc
    rw [vlOk, all_out h1 (by omega), Bool.and_false]
  · by_cases e : j = k
    · subst e
      simp only [Bool.or_eq_false_iff, decide_eq_false_iff_not] at hc
      exact inR_t.2 (by omega)
    · exact hok j (by omega)
  · simp only [go_sem, w64s (show k < 9223372036854775807 by omega)]
  · rw [vlOk, all_in h1 hok, Bool.and_true]
    simp only [decide_eq_decide]
    omega
theorem name_rc (s : ByteArray) (hs : s.size < 9223372036854775807) (M : List Blk) : CallR Tryz.prog M n_label_name [.s s] (.b (nmOk s)) M := by
  refine callP F_label_name (Nat.le_of_ble_eq_true rfl) (by simp only [go_sem]) (by simp only [go_sem]) ?_ M
  simp only [c_label_name, go_sem]
  refine ⟨fun hc => ?_, fun hc => ?_⟩
  · simp only [Bool.or_eq_true, decide_eq_true_eq] at hc
    rcases hc with rfl | hc
    · rfl
    · rw [nmOk, decide_eq_false (show ¬ s.size ≤ 16 by omega), Bool.and_false, Bool.false_and]
  have hz : 1 ≤ s.size ∧ s.size ≤ 16 := by
    simp only [Bool.or_eq_false_iff, decide_eq_false_iff_not] at hc
    refine ⟨Nat.pos_of_ne_zero fun h => hc.1 (bs_inj (List.eq_nil_of_length_eq_zero (by rw [bs_len, h]))), by omega⟩
  refine V_loop (ι := Nat) (J := fun k => k ≤ s.size ∧ ∀ j, j < k → inR 97 122 ((bs s).getD j 0) = true) (env := fun k => [(13, .p (.one (.ptr 0 0 0 0)))]) (mem := fun k => [.sit s k]) (μ := fun k => s.size - k) 0 ⟨Nat.zero_le _, fun j hj => by omega⟩ ⟨[], by simp only [go_sem], Nat.zero_le _, by simp only [go_sem], by simp only [go_sem, ltB]⟩ ?_
  rintro k ⟨hk, hok⟩
  simp only [go_sem]
  by_cases h1 : k < s.size
  · rw [if_pos h1]
    simp only [go_sem]
    by_cases ha : ((bs s).getD k 0).toNat < 128
    · rw [dec_ascii h1 ha]
      simp only [go_sem]
      refine ⟨fun hc => ?_, fun hc => ⟨k + 1, ⟨by omega, fun j hj => ?_⟩, by omega, [], by simp only [go_sem], Nat.zero_le _, by simp only [go_sem], by simp only [go_sem, ltB]⟩⟩
      · simp only [Bool.or_eq_true, decide_eq_true_eq] at hc
        rw [nmOk, all_out h1 (by omega), Bool.and_false]
      · by_cases e : j = k
        · subst e
          simp only [Bool.or_eq_false_iff, decide_eq_false_iff_not] at hc
          exact inR_t.2 (by omega)
        · exact hok j (by omega)
    · have hd := dec_high h1 (by omega)
      refine ⟨fun hc => ?_, fun hc => ?_⟩
      · rw [nmOk, all_out h1 (by omega), Bool.and_false]
      · exfalso
        simp only [Bool.or_eq_false_iff, decide_eq_false_iff_not] at hc
        omega
  · rw [if_neg h1]
    simp only [go_sem]
    rw [nmOk, all_in h1 hok, decide_eq_true hz.1, decide_eq_true hz.2]
    rfl
end Go.Proofs.YtcmkhlfjcdchmaaGreat.A
end
section
namespace Go.Proofs.YtcmkhlfjcdchmaaGreat.A
open Go Go.Proofs.YtcmkhlfjcdchmaaGreatAbs
def zS (s : ByteArray) : Prop := s.size ≤ 140737488355328
structure zSer (s : Ser) : Prop where
  name : zS s.name
  len : s.labels.length ≤ 140737488355328
  lb : ∀ i, i < s.labels.length → zS (s.labels.getD i default).name ∧ zS (s.labels.getD i default).value
def lbOk (l : List Lb) (i : Nat) : Bool := nmOk (l.getD i default).name && vlOk (l.getD i default).value && (i == 0 || sLt (l.getD (i - 1) default).name (l.getD i default).name)
def serOk (s : Ser) : Bool := nmOk s.name && decide (s.labels.length ≤ 4) && (List.range s.labels.length).all (lbOk s.labels)
theorem zlt {s : ByteArray} (h : zS s) : s.size < 9223372036854775807 := by unfold zS at h; omega
theorem serOk_f {s : Ser} {k : Nat} (hk : k < s.labels.length) (h : lbOk s.labels k = false) : serOk s = false := by
  have : (List.range s.labels.length).all (lbOk s.labels) = false := by
    rw [List.all_eq_false]
    exact ⟨k, List.mem_range.2 hk, by simp [h]⟩
  rw [serOk, this, Bool.and_false]
theorem serOk_t {s : Ser} (h : ∀ i, i < s.labels.length → lbOk s.labels i = true) : serOk s = (nmOk s.name && decide (s.labels.length ≤ 4)) := by
  have : (List.range s.labels.length).all (lbOk s.labels) = true := by
    rw [List.all_eq_true]
    exact fun i hi => h i (List.mem_range.1 hi)
  rw [serOk, this, Bool.and_true]
theorem leS_lt (a b : ByteArray) : (sLt a b || decide (a = b)) = !sLt b a := by
  cases h : sLt a b with
  | true => rw [sLt_asymm h]; rfl
  | false =>
    cases k : sLt b a with
    | true => have := sLt_ne k; simp [Ne.symm this]
    | false => simp [sLt_total h k]
theorem wpred {k : Nat} (h0 : 0 < k) (hk : k ≤ 140737488355328) : IntKind.i64.wrap ((k : Int) - 1) = ((k - 1 : Nat) : Int) := w64p h0 (by omega)
theorem lbOk_key (l : List Lb) {k : Nat} (hk : k ≤ 140737488355328) : (!nmOk (l.getD k default).name || !vlOk (l.getD k default).value || decide (0 < (k : Int)) && !sLt (l.getD (IntKind.i64.wrap ((k : Int) - 1)).toNat default).name (l.getD k default).name) = !lbOk l k := by
  unfold lbOk
  by_cases h0 : k = 0
  · subst h0; simp
  · rw [wpred (by omega) hk, Int.toNat_natCast]
    have : decide (0 < (k : Int)) = true := decide_eq_true (by omega)
    have e : (k == 0) = false := by simpa using h0
    simp only [this, e, Bool.true_and, Bool.false_or, Bool.not_and]
theorem Check_rc (s : Ser) (hs : zSer s) (M : List Blk) : CallR Tryz.prog M n_label_Check [serA s] (.i (if serOk s then 0 else 1)) M := by
  refine callP F_label_Check (Nat.le_of_ble_eq_true rfl) (by simp only [go_sem]) (by simp only [go_sem]) ?_ M
  simp only [c_label_Check, go_sem]
  refine call0 (name_rc s.name (zlt hs.name)) ?_
  simp only [go_sem]
  refine ⟨fun hc => ?_, fun hc => ?_⟩
  · rw [if_neg]
    simp only [Bool.or_eq_true, Bool.not_eq_true', decide_eq_true_eq] at hc
    simp only [serOk, Bool.and_eq_true, decide_eq_true_eq, not_and]
    intro h1 h2
    rw [h1.1] at hc
    have := hs.len
    simp at hc
    omega
  have hn : nmOk s.name = true ∧ s.labels.length ≤ 4 := by
    simp only [Bool.or_eq_false_iff, Bool.not_eq_false', decide_eq_false_iff_not] at hc
    exact ⟨hc.1, by omega⟩
  refine V_loop (ι := Nat) (J := fun k => k ≤ s.labels.length ∧ ∀ i, i < k → lbOk s.labels i = true) (env := fun k => [(1, .p (.one (.ptr 0 0 0 0))), (16, .p (lbL s.labels)), (17, .i s.labels.length), (18, .i k)])
    (mem := fun _ => [.rows 99 2 0 [[.c (.v (.string s.name)), .c (lbCV s.labels)]] true]) (μ := fun k => s.labels.length - k) 0 ⟨Nat.zero_le _, fun j hj => by omega⟩ ⟨[], by simp only [go_sem], Nat.zero_le _, by simp only [go_sem], by simp only [go_sem, ltB]⟩ ?_
  rintro k ⟨hk, hok⟩
  simp only [go_sem]
  refine ⟨fun h1 => ⟨by omega, ?_⟩, fun h1 => ?_⟩
  · have hz := hs.lb k h1
    refine call0 (name_rc _ (zlt hz.1)) ?_
    simp only [go_sem]
    refine callg0 (fun _ => value_rc _ (zlt hz.2)) ?_
    simp only [go_sem, leS_lt]
    have hl := hs.len
    rw [lbOk_key _ (by omega)]
    refine ⟨fun hc => ?_, fun hc => ?_, fun hc => ⟨k + 1, ⟨by omega, fun j hj => ?_⟩, by omega, ?_⟩⟩
    · simp at hc
      rw [wpred (by omega) (by omega)]
      omega
    · rw [serOk_f h1 (by simpa using hc)]
      rfl
    · by_cases e : j = k
      · subst e; simpa using hc
      · exact hok j (by omega)
    · refine ⟨_, by simp only [go_sem]; rfl, Nat.zero_le _, ?_, by simp only [go_sem, ltB]⟩
      simp only [go_sem, w64s (show k < 9223372036854775807 by omega)]
  · rw [serOk_t (fun i hi => hok i (by omega)), hn.1, decide_eq_true hn.2]
    rfl
theorem May_rc (s : Ser) (hs : zSer s) (M : List Blk) : CallR Tryz.prog M n_windroseref03_May [serA s] (.b (serOk s)) M := by
  refine callP F_windroseref03_May (Nat.le_of_ble_eq_true rfl) (by simp only [go_sem]) (by simp only [go_sem]) ?_ M
  simp only [c_windroseref03_May, go_sem]
  have hl := hs.len
  refine V_loop (ι := Nat) (J := fun k => k ≤ s.labels.length ∧ ∀ i, i < k → lbOk s.labels i = true) (env := fun k => [(1, .p (.one (.ptr 0 0 0 0))), (3, .i k)])
    (mem := fun _ => [.rows 99 2 0 [[.c (.v (.string s.name)), .c (lbCV s.labels)]] true]) (μ := fun k => s.labels.length - k) 0 ⟨Nat.zero_le _, fun j hj => by omega⟩ ⟨[], by simp only [go_sem], Nat.zero_le _, by simp only [go_sem], by simp only [go_sem, ltB]⟩ ?_
  rintro k ⟨hk, hok⟩
  simp only [go_sem]
  refine ⟨fun h1 => ⟨by omega, ?_⟩, fun h1 => ?_⟩
  · have hz := hs.lb k h1
    refine call0 (rName_rc _ (zlt hz.1)) ?_
    simp only [go_sem]
    refine ⟨fun _ => by omega, callg0 (fun _ => rVal_rc _ (zlt hz.2)) ?_⟩
    simp only [go_sem]
    rw [lbOk_key _ (by omega)]
    refine ⟨fun hc => ?_, fun _ => by omega, fun hc => ?_, fun hc => ⟨k + 1, ⟨by omega, fun j hj => ?_⟩, by omega, ?_⟩⟩
    · simp at hc
      rw [wpred (by omega) (by omega)]
      omega
    · rw [serOk_f h1 (by simpa using hc)]
    · by_cases e : j = k
      · subst e; simpa using hc
      · exact hok j (by omega)
    · refine ⟨_, by simp only [go_sem]; rfl, Nat.zero_le _, ?_, by simp only [go_sem, ltB]⟩
      simp only [go_sem, w64s (show k < 9223372036854775807 by omega)]
  · refine call0 (rName_rc s.name (zlt hs.name)) ?_
    simp only [go_sem]
    rw [serOk_t (fun i hi => hok i (by omega))]
    congr 1
    simp only [decide_eq_decide]
    omega
end Go.Proofs.YtcmkhlfjcdchmaaGreat.A
end
section
namespace Go.Proofs
open Go.Shelf
def Tryz.lays169_ren : Go.Shelf.Ren := ⟨fun | 169 => 127 | n => n, fun | 70 => 144 | 9 => 9 | 0 => 0 | 72 => 147 | 37 => 145 | 127 => 168 | 3 => 3 | 5 => 5 | n => n, fun | n => n⟩
theorem Tryz.lays169 : Go.Proofs.Lays.n169 Tryz.prog Tryz.lays169_ren := {
  mixed := by kernel_rfl
  f169 := Tryz.func127.trans (congrArg some (by kernel_rfl))
  t0 := Tryz.underlying0
  a0 := Tryz.isAgg0
  z0 := Tryz.sizeOf0
  v0 := Tryz.zeroValue0
  t3 := Tryz.underlying3
  a3 := Tryz.isAgg3
  z3 := Tryz.sizeOf3
  v3 := Tryz.zeroValue3
  t9 := Tryz.underlying9
  a9 := Tryz.isAgg9
  z9 := Tryz.sizeOf9
  v9 := Tryz.zeroValue9
  t37 := Tryz.underlying145
  a37 := Tryz.isAgg145
  z37 := Tryz.sizeOf145
  v37 := Tryz.zeroValue145
  t70 := Tryz.underlying144
  a70 := Tryz.isAgg144
  z70 := Tryz.sizeOf144
  v70 := Tryz.zeroValue144
  t72 := Tryz.underlying147
  a72 := Tryz.isAgg147
  z72 := Tryz.sizeOf147
  v72 := Tryz.zeroValue147
  t127 := Tryz.underlying168
  a127 := Tryz.isAgg168
  z127 := Tryz.sizeOf168
  v127 := Tryz.zeroValue168 }
theorem Tryz.Builder_Extra_169 : Builder.Extra Tryz.prog Tryz.lays169_ren := {
  sizeBuilder := by kernel_rfl
  liesBuilder := by kernel_rfl
  t5 := Tryz.underlying5
  a5 := Tryz.isAgg5
  z5 := Tryz.sizeOf5
  v5 := Tryz.zeroValue5
  infoByte := by kernel_rfl
  cellsByte := by kernel_rfl
  sizeByte := by kernel_rfl
  neB5 := by decide }
open Go.RowKit in
/-- (*strings.Builder).String: "String returns the accumulated string.": OF A BUILDER THAT HOLDS AT LEAST ONE BYTE. ✋ THE MODEL FREEZES THOSE BYTES IN THE BUFFER (unsafe.String): a later write INTO them ends the model's run without an answer; a later append BEHIND them goes on. The statement's order of evaluation is drawn: one draw. (LAID: no walk: one application.) -/
theorem Tryz.Builder_String (B b : Nat) (l : List UInt8) (w : World) (h : Lib.IsBuilder 147 5 B b (Lib.byteCells l) w) (h0 : l ≠ []) :
    Calls Tryz.prog 127 #[.pointer (some ⟨b, 0, none⟩)] w fun e w' => e = .returned (.string ⟨l.toArray⟩) ∧ Below B w w' := Any.Builder_String Tryz.lays169 Tryz.Builder_Extra_169 B b l w h h0
open Go.RowKit in
/-- (*strings.Builder).String OF A BUILDER THAT HOLDS NO BYTE: the empty string. (Its buffer is nil, or a row of which it has taken nothing yet; where that row has NO capacity the model lays one new block for unsafe.SliceData's 'some address'.) One draw. (LAID: no walk: one application.) -/
theorem Tryz.Builder_String_empty (B b : Nat) (w : World) (h : Lib.IsBuilder 147 5 B b [] w) (hBw : B ≤ w.heap.size) :
    Calls Tryz.prog 127 #[.pointer (some ⟨b, 0, none⟩)] w fun e w' => e = .returned (.string ⟨#[]⟩) ∧ Below B w w' := Any.Builder_String_empty Tryz.lays169 Tryz.Builder_Extra_169 B b w h hBw
open Go.RowKit in
/-- (*strings.Builder).String: "String returns the accumulated string.": WHATEVER THE BUILDER HOLDS. (LAID: no walk: one application.) -/
theorem Tryz.Builder_String_any (B b : Nat) (l : List UInt8) (w : World) (h : Lib.IsBuilder 147 5 B b (Lib.byteCells l) w) (hBw : B ≤ w.heap.size) :
    Calls Tryz.prog 127 #[.pointer (some ⟨b, 0, none⟩)] w fun e w' => e = .returned (.string ⟨l.toArray⟩) ∧ Below B w w' := Any.Builder_String_any Tryz.lays169 Tryz.Builder_Extra_169 B b l w h hBw
def Tryz.lays128_ren : Go.Shelf.Ren := ⟨fun | 128 => 164 | n => n, fun | 51 => 181 | 3 => 3 | 4 => 4 | 46 => 134 | 5 => 5 | 9 => 9 | n => n, fun | n => n⟩
theorem Tryz.lays128 : Go.Proofs.Lays.n128 Tryz.prog Tryz.lays128_ren := {
  mixed := by kernel_rfl
  f128 := Tryz.func164.trans (congrArg some (by kernel_rfl))
  t3 := Tryz.underlying3
  a3 := Tryz.isAgg3
  z3 := Tryz.sizeOf3
  v3 := Tryz.zeroValue3
  t4 := Tryz.underlying4
  a4 := Tryz.isAgg4
  z4 := Tryz.sizeOf4
  v4 := Tryz.zeroValue4
  t5 := Tryz.underlying5
  a5 := Tryz.isAgg5
  z5 := Tryz.sizeOf5
  v5 := Tryz.zeroValue5
  t9 := Tryz.underlying9
  a9 := Tryz.isAgg9
  z9 := Tryz.sizeOf9
  v9 := Tryz.zeroValue9
  t46 := Tryz.underlying134
  a46 := Tryz.isAgg134
  z46 := Tryz.sizeOf134
  v46 := Tryz.zeroValue134
  t51 := Tryz.underlying181
  a51 := Tryz.isAgg181
  z51 := Tryz.sizeOf181
  v51 := Tryz.zeroValue181 }
/-- bits.Len32: "Len32 returns the minimum number of bits required to represent x; the result is 0 for x == 0.": IT RETURNS 'Lib.bitLen x'; the world is as it was. ('h0', 'h1': x is a uint32.) (LAID: no walk: one application.) -/
theorem Tryz.bits_Len32 (x : Int) (w : World) (h0 : 0 ≤ x) (h1 : x ≤ 4294967295) :
    Calls Tryz.prog 164 #[.int .u32 x] w fun e w' => e = .returned (.int .i64 (Lib.bitLen x.toNat)) ∧ w' = w := Any.bits_Len32 Tryz.lays128 x w h0 h1
def Tryz.lays125_ren : Go.Shelf.Ren := ⟨fun | 125 => 143 | 128 => 164 | 129 => 165 | n => n, fun | 46 => 134 | 3 => 3 | 51 => 181 | 53 => 183 | 4 => 4 | 5 => 5 | 9 => 9 | n => n, fun | n => n⟩
theorem Tryz.lays125 : Go.Proofs.Lays.n125 Tryz.prog Tryz.lays125_ren := {
  mixed := by kernel_rfl
  f125 := Tryz.func143.trans (congrArg some (by kernel_rfl))
  f128 := Tryz.func164.trans (congrArg some (by kernel_rfl))
  f129 := Tryz.func165.trans (congrArg some (by kernel_rfl))
  t3 := Tryz.underlying3
  a3 := Tryz.isAgg3
  z3 := Tryz.sizeOf3
  v3 := Tryz.zeroValue3
  t4 := Tryz.underlying4
  a4 := Tryz.isAgg4
  z4 := Tryz.sizeOf4
  v4 := Tryz.zeroValue4
  t5 := Tryz.underlying5
  a5 := Tryz.isAgg5
  z5 := Tryz.sizeOf5
  v5 := Tryz.zeroValue5
  t9 := Tryz.underlying9
  a9 := Tryz.isAgg9
  z9 := Tryz.sizeOf9
  v9 := Tryz.zeroValue9
  t46 := Tryz.underlying134
  a46 := Tryz.isAgg134
  z46 := Tryz.sizeOf134
  v46 := Tryz.zeroValue134
  t51 := Tryz.underlying181
  a51 := Tryz.isAgg181
  z51 := Tryz.sizeOf181
  v51 := Tryz.zeroValue181
  t53 := Tryz.underlying183
  a53 := Tryz.isAgg183
  z53 := Tryz.sizeOf183
  v53 := Tryz.zeroValue183 }
/-- bits.Len: "Len returns the minimum number of bits required to represent x; the result is 0 for x == 0.": IT RETURNS 'Lib.bitLen x'; the world is as it was. (A uint has 64 bits in the model.) ITS CALLEE bits.Len64 IS MET BY ITS OWN CONTRACT OFF THE SHELF (lay that first). (LAID: no walk: one application.) -/
theorem Tryz.bits_Len (x : Int) (w : World) (h0 : 0 ≤ x) (h1 : x ≤ 18446744073709551615) :
    Calls Tryz.prog 143 #[.int .u64 x] w fun e w' => e = .returned (.int .i64 (Lib.bitLen x.toNat)) ∧ w' = w := Any.bits_Len Tryz.lays125 x w h0 h1
def Tryz.lays213_ren : Go.Shelf.Ren := ⟨fun | 213 => 144 | 265 => 166 | n => n, fun | 9 => 9 | 3 => 3 | n => n, fun | n => n⟩
theorem Tryz.lays213 : Go.Proofs.Lays.n213 Tryz.prog Tryz.lays213_ren := {
  mixed := by kernel_rfl
  f213 := Tryz.func144.trans (congrArg some (by kernel_rfl))
  f265 := Tryz.func166.trans (congrArg some (by kernel_rfl))
  t3 := Tryz.underlying3
  a3 := Tryz.isAgg3
  z3 := Tryz.sizeOf3
  v3 := Tryz.zeroValue3
  t9 := Tryz.underlying9
  a9 := Tryz.isAgg9
  z9 := Tryz.sizeOf9
  v9 := Tryz.zeroValue9 }
open Go.RowKit in
/-- internal/bytealg.CompareString (what strings.Compare calls): IT RETURNS 'Lib.compareBytes a b'; the world is as it was. (LAID: no walk: one application.) -/
theorem Tryz.bytealg_CompareString (a b : ByteArray) (w : World) :
    Calls Tryz.prog 144 #[.string a, .string b] w fun e w' => e = .returned (.int .i64 (Lib.compareBytes a.data.toList b.data.toList)) ∧ w' = w := Any.bytealg_CompareString Tryz.lays213 a b w
def Tryz.lays106_ren : Go.Shelf.Ren := ⟨fun | 106 => 122 | 213 => 144 | 265 => 166 | n => n, fun | 9 => 9 | 3 => 3 | n => n, fun | n => n⟩
theorem Tryz.lays106 : Go.Proofs.Lays.n106 Tryz.prog Tryz.lays106_ren := {
  mixed := by kernel_rfl
  f106 := Tryz.func122.trans (congrArg some (by kernel_rfl))
  f213 := Tryz.func144.trans (congrArg some (by kernel_rfl))
  f265 := Tryz.func166.trans (congrArg some (by kernel_rfl))
  t3 := Tryz.underlying3
  a3 := Tryz.isAgg3
  z3 := Tryz.sizeOf3
  v3 := Tryz.zeroValue3
  t9 := Tryz.underlying9
  a9 := Tryz.isAgg9
  z9 := Tryz.sizeOf9
  v9 := Tryz.zeroValue9 }
open Go.RowKit in
/-- strings.Compare: "Compare returns an integer comparing two strings lexicographically. The result will be 0 if a == b, -1 if a < b, and +1 if a > b.": IT RETURNS 'Lib.compareBytes a b'; the world is as it was. (LAID: no walk: one application.) -/
theorem Tryz.strings_Compare (a b : ByteArray) (w : World) :
    Calls Tryz.prog 122 #[.string a, .string b] w fun e w' => e = .returned (.int .i64 (Lib.compareBytes a.data.toList b.data.toList)) ∧ w' = w := Any.strings_Compare Tryz.lays106 a b w
def Tryz.lays129_ren : Go.Shelf.Ren := ⟨fun | 129 => 165 | n => n, fun | 53 => 183 | 3 => 3 | 4 => 4 | 46 => 134 | 5 => 5 | 9 => 9 | n => n, fun | n => n⟩
theorem Tryz.lays129 : Go.Proofs.Lays.n129 Tryz.prog Tryz.lays129_ren := {
  mixed := by kernel_rfl
  f129 := Tryz.func165.trans (congrArg some (by kernel_rfl))
  t3 := Tryz.underlying3
  a3 := Tryz.isAgg3
  z3 := Tryz.sizeOf3
  v3 := Tryz.zeroValue3
  t4 := Tryz.underlying4
  a4 := Tryz.isAgg4
  z4 := Tryz.sizeOf4
  v4 := Tryz.zeroValue4
  t5 := Tryz.underlying5
  a5 := Tryz.isAgg5
  z5 := Tryz.sizeOf5
  v5 := Tryz.zeroValue5
  t9 := Tryz.underlying9
  a9 := Tryz.isAgg9
  z9 := Tryz.sizeOf9
  v9 := Tryz.zeroValue9
  t46 := Tryz.underlying134
  a46 := Tryz.isAgg134
  z46 := Tryz.sizeOf134
  v46 := Tryz.zeroValue134
  t53 := Tryz.underlying183
  a53 := Tryz.isAgg183
  z53 := Tryz.sizeOf183
  v53 := Tryz.zeroValue183 }
/-- bits.Len64: "Len64 returns the minimum number of bits required to represent x; the result is 0 for x == 0.": IT RETURNS 'Lib.bitLen x'; the world is as it was. ('h0', 'h1': x is a uint64.) (LAID: no walk: one application.) -/
theorem Tryz.bits_Len64 (x : Int) (w : World) (h0 : 0 ≤ x) (h1 : x ≤ 18446744073709551615) :
    Calls Tryz.prog 165 #[.int .u64 x] w fun e w' => e = .returned (.int .i64 (Lib.bitLen x.toNat)) ∧ w' = w := Any.bits_Len64 Tryz.lays129 x w h0 h1
def Tryz.lays217_ren : Go.Shelf.Ren := ⟨fun | 217 => 171 | 266 => 181 | n => n, fun | 9 => 9 | 5 => 5 | 3 => 3 | n => n, fun | n => n⟩
theorem Tryz.lays217 : Go.Proofs.Lays.n217 Tryz.prog Tryz.lays217_ren := {
  mixed := by kernel_rfl
  f217 := Tryz.func171.trans (congrArg some (by kernel_rfl))
  f266 := Tryz.func181.trans (congrArg some (by kernel_rfl))
  t3 := Tryz.underlying3
  a3 := Tryz.isAgg3
  z3 := Tryz.sizeOf3
  v3 := Tryz.zeroValue3
  t5 := Tryz.underlying5
  a5 := Tryz.isAgg5
  z5 := Tryz.sizeOf5
  v5 := Tryz.zeroValue5
  t9 := Tryz.underlying9
  a9 := Tryz.isAgg9
  z9 := Tryz.sizeOf9
  v9 := Tryz.zeroValue9 }
open Go.RowKit Go.Lib in
/-- internal/stringslite.IndexByte (what strings.IndexByte calls): IT RETURNS 'Lib.indexByte s c'; the world is as it was. (LAID: no walk: one application.) -/
theorem Tryz.stringslite_IndexByte (s : ByteArray) (c : Int) (w : World) :
    Calls Tryz.prog 171 #[.string s, .int .u8 c] w fun e w' => e = .returned (.int .i64 (Lib.indexByte s.data.toList c.toNat.toUInt8)) ∧ w' = w := Any.stringslite_IndexByte Tryz.lays217 s c w
def Tryz.lays224_ren : Go.Shelf.Ren := ⟨fun | 224 => 173 | n => n, fun | 3 => 3 | n => n, fun | n => n⟩
theorem Tryz.lays224 : Go.Proofs.Lays.n224 Tryz.prog Tryz.lays224_ren := {
  mixed := by kernel_rfl
  f224 := Tryz.func173.trans (congrArg some (by kernel_rfl))
  t3 := Tryz.underlying3
  a3 := Tryz.isAgg3
  z3 := Tryz.sizeOf3
  v3 := Tryz.zeroValue3 }
open Go.RowKit Go.Lib in
/-- internal/bytealg.Cutover: "Cutover reports the number of failures of IndexByte we should tolerate before switching over to Index. n is the number of bytes processed so far.": on amd64: (n + 16) / 8. (LAID: no walk: one application.) -/
theorem Tryz.bytealg_Cutover (n : Int) (h0 : 0 ≤ n) (h1 : n < 4611686018427387904) (w : World) :
    Calls Tryz.prog 173 #[.int .i64 n] w fun e w' => e = .returned (.int .i64 ((n + 16) / 8)) ∧ w' = w := Any.bytealg_Cutover Tryz.lays224 n h0 h1 w
def Tryz.lays314_ren : Go.Shelf.Ren := ⟨fun | 314 => 182 | n => n, fun | 9 => 9 | 51 => 181 | 3 => 3 | 4 => 4 | 5 => 5 | 46 => 134 | n => n, fun | n => n⟩
theorem Tryz.lays314 : Go.Proofs.Lays.n314 Tryz.prog Tryz.lays314_ren := {
  mixed := by kernel_rfl
  f314 := Tryz.func182.trans (congrArg some (by kernel_rfl))
  t3 := Tryz.underlying3
  a3 := Tryz.isAgg3
  z3 := Tryz.sizeOf3
  v3 := Tryz.zeroValue3
  t4 := Tryz.underlying4
  a4 := Tryz.isAgg4
  z4 := Tryz.sizeOf4
  v4 := Tryz.zeroValue4
  t5 := Tryz.underlying5
  a5 := Tryz.isAgg5
  z5 := Tryz.sizeOf5
  v5 := Tryz.zeroValue5
  t9 := Tryz.underlying9
  a9 := Tryz.isAgg9
  z9 := Tryz.sizeOf9
  v9 := Tryz.zeroValue9
  t46 := Tryz.underlying134
  a46 := Tryz.isAgg134
  z46 := Tryz.sizeOf134
  v46 := Tryz.zeroValue134
  t51 := Tryz.underlying181
  a51 := Tryz.isAgg181
  z51 := Tryz.sizeOf181
  v51 := Tryz.zeroValue181 }
open Go.RowKit Go.Lib in
/-- hashStr: "returns the hash and the appropriate multiplicative factor for use in Rabin-Karp algorithm": THE HASH OF ALL OF sep, AND 16777619 ^ len(sep), both in uint32. (LAID: no walk: one application.) -/
theorem Tryz.bytealg_hashStr (sep : ByteArray) (hs : sep.size < 4294967281) (w : World) :
    Calls Tryz.prog 182 #[.string sep] w fun e w' => e = .returned (.tuple #[.int .u32 (RK.H sep.data.toList % 4294967296), .int .u32 (16777619 ^ sep.size % 4294967296)]) ∧ w' = w := Any.bytealg_hashStr Tryz.lays314 sep hs w
def Tryz.lays267_ren : Go.Shelf.Ren := ⟨fun | 267 => 174 | 314 => 182 | n => n, fun | 9 => 9 | 3 => 3 | 146 => 196 | 51 => 181 | 4 => 4 | 5 => 5 | 46 => 134 | n => n, fun | n => n⟩
theorem Tryz.lays267 : Go.Proofs.Lays.n267 Tryz.prog Tryz.lays267_ren := {
  mixed := by kernel_rfl
  f267 := Tryz.func174.trans (congrArg some (by kernel_rfl))
  f314 := Tryz.func182.trans (congrArg some (by kernel_rfl))
  t3 := Tryz.underlying3
  a3 := Tryz.isAgg3
  z3 := Tryz.sizeOf3
  v3 := Tryz.zeroValue3
  t4 := Tryz.underlying4
  a4 := Tryz.isAgg4
  z4 := Tryz.sizeOf4
  v4 := Tryz.zeroValue4
  t5 := Tryz.underlying5
  a5 := Tryz.isAgg5
  z5 := Tryz.sizeOf5
  v5 := Tryz.zeroValue5
  t9 := Tryz.underlying9
  a9 := Tryz.isAgg9
  z9 := Tryz.sizeOf9
  v9 := Tryz.zeroValue9
  t46 := Tryz.underlying134
  a46 := Tryz.isAgg134
  z46 := Tryz.sizeOf134
  v46 := Tryz.zeroValue134
  t51 := Tryz.underlying181
  a51 := Tryz.isAgg181
  z51 := Tryz.sizeOf181
  v51 := Tryz.zeroValue181
  t146 := Tryz.underlying196
  a146 := Tryz.isAgg196
  z146 := Tryz.sizeOf196
  v146 := Tryz.zeroValue196 }
open Go.RowKit Go.Lib in
theorem Tryz.bytealg_IndexRabinKarp (s sep : ByteArray) (h1 : 1 ≤ sep.size) (h2 : sep.size ≤ s.size) (hs : s.size < 4294967281) (w : World) :
    Calls Tryz.prog 174 #[.string s, .string sep] w fun e w' => e = .returned (.int .i64 (Lib.index s.data.toList sep.data.toList)) ∧ w' = w := Any.bytealg_IndexRabinKarp Tryz.lays267 s sep h1 h2 hs w
def Tryz.lays219_ren : Go.Shelf.Ren := ⟨fun | 219 => 155 | 217 => 171 | 225 => 172 | 224 => 173 | 267 => 174 | 266 => 181 | 314 => 182 | n => n, fun | 9 => 9 | 3 => 3 | 4 => 4 | 5 => 5 | 46 => 134 | 146 => 196 | 51 => 181 | n => n, fun | 1 => 0 | n => n⟩
theorem Tryz.lays219 : Go.Proofs.Lays.n219 Tryz.prog Tryz.lays219_ren := {
  mixed := by kernel_rfl
  f217 := Tryz.func171.trans (congrArg some (by kernel_rfl))
  f219 := Tryz.func155.trans (congrArg some (by kernel_rfl))
  f224 := Tryz.func173.trans (congrArg some (by kernel_rfl))
  f225 := Tryz.func172.trans (congrArg some (by kernel_rfl))
  f266 := Tryz.func181.trans (congrArg some (by kernel_rfl))
  f267 := Tryz.func174.trans (congrArg some (by kernel_rfl))
  f314 := Tryz.func182.trans (congrArg some (by kernel_rfl))
  t3 := Tryz.underlying3
  a3 := Tryz.isAgg3
  z3 := Tryz.sizeOf3
  v3 := Tryz.zeroValue3
  t4 := Tryz.underlying4
  a4 := Tryz.isAgg4
  z4 := Tryz.sizeOf4
  v4 := Tryz.zeroValue4
  t5 := Tryz.underlying5
  a5 := Tryz.isAgg5
  z5 := Tryz.sizeOf5
  v5 := Tryz.zeroValue5
  t9 := Tryz.underlying9
  a9 := Tryz.isAgg9
  z9 := Tryz.sizeOf9
  v9 := Tryz.zeroValue9
  t46 := Tryz.underlying134
  a46 := Tryz.isAgg134
  z46 := Tryz.sizeOf134
  v46 := Tryz.zeroValue134
  t51 := Tryz.underlying181
  a51 := Tryz.isAgg181
  z51 := Tryz.sizeOf181
  v51 := Tryz.zeroValue181
  t146 := Tryz.underlying196
  a146 := Tryz.isAgg196
  z146 := Tryz.sizeOf196
  v146 := Tryz.zeroValue196
  g1 := by kernel_rfl }
open Go.RowKit Go.Lib in
/-- internal/stringslite.Index (what strings.Index calls) AT A substr OF ONE BYTE c: IT RETURNS 'Lib.indexByte s c'; the world is as it was. (LAID: no walk: one application.) -/
theorem Tryz.stringslite_Index_one (s : ByteArray) (c : UInt8) (w : World) :
    Calls Tryz.prog 155 #[.string s, .string ⟨#[c]⟩] w fun e w' => e = .returned (.int .i64 (Lib.indexByte s.data.toList c)) ∧ w' = w := Any.stringslite_Index_one Tryz.lays219 s c w
open Go.RowKit Go.Lib in
/-- internal/stringslite.Index (what strings.Index calls) AT A substr OF WHATEVER LENGTH: IT RETURNS 'Lib.index s substr'; the world is as it was. 'm': what internal/bytealg.MaxLen holds: whatever. (LAID: no walk: one application.) -/
theorem Tryz.stringslite_Index (s sub : ByteArray) (m : Int) (w : World) (hs : s.size < 4294967281) (hm : w.cell? ⟨0, 0, none⟩ = some (.int .i64 m)) :
    Calls Tryz.prog 155 #[.string s, .string sub] w fun e w' => e = .returned (.int .i64 (Lib.index s.data.toList sub.data.toList)) ∧ w' = w := Any.stringslite_Index Tryz.lays219 s sub m w hs hm
def Tryz.lays220_ren : Go.Shelf.Ren := ⟨fun | 220 => 141 | 219 => 155 | 217 => 171 | 225 => 172 | 224 => 173 | 267 => 174 | 266 => 181 | 314 => 182 | n => n, fun | 9 => 9 | 4 => 4 | 3 => 3 | 5 => 5 | 46 => 134 | 146 => 196 | 51 => 181 | n => n, fun | 1 => 0 | n => n⟩
theorem Tryz.lays220 : Go.Proofs.Lays.n220 Tryz.prog Tryz.lays220_ren := {
  mixed := by kernel_rfl
  f217 := Tryz.func171.trans (congrArg some (by kernel_rfl))
  f219 := Tryz.func155.trans (congrArg some (by kernel_rfl))
  f220 := Tryz.func141.trans (congrArg some (by kernel_rfl))
  f224 := Tryz.func173.trans (congrArg some (by kernel_rfl))
  f225 := Tryz.func172.trans (congrArg some (by kernel_rfl))
  f266 := Tryz.func181.trans (congrArg some (by kernel_rfl))
  f267 := Tryz.func174.trans (congrArg some (by kernel_rfl))
  f314 := Tryz.func182.trans (congrArg some (by kernel_rfl))
  t3 := Tryz.underlying3
  a3 := Tryz.isAgg3
  z3 := Tryz.sizeOf3
  v3 := Tryz.zeroValue3
  t4 := Tryz.underlying4
  a4 := Tryz.isAgg4
  z4 := Tryz.sizeOf4
  v4 := Tryz.zeroValue4
  t5 := Tryz.underlying5
  a5 := Tryz.isAgg5
  z5 := Tryz.sizeOf5
  v5 := Tryz.zeroValue5
  t9 := Tryz.underlying9
  a9 := Tryz.isAgg9
  z9 := Tryz.sizeOf9
  v9 := Tryz.zeroValue9
  t46 := Tryz.underlying134
  a46 := Tryz.isAgg134
  z46 := Tryz.sizeOf134
  v46 := Tryz.zeroValue134
  t51 := Tryz.underlying181
  a51 := Tryz.isAgg181
  z51 := Tryz.sizeOf181
  v51 := Tryz.zeroValue181
  t146 := Tryz.underlying196
  a146 := Tryz.isAgg196
  z146 := Tryz.sizeOf196
  v146 := Tryz.zeroValue196
  g1 := by kernel_rfl }
open Go.RowKit Go.Lib in
/-- internal/stringslite.Cut (what strings.Cut calls): IT RETURNS 'Lib.cut s sep'; the world is as it was but for the count of draws. (LAID: no walk: one application.) -/
theorem Tryz.stringslite_Cut (s sep : ByteArray) (m : Int) (w : World) (hs : s.size < 4294967281) (hm : w.cell? ⟨0, 0, none⟩ = some (.int .i64 m)) :
    Calls Tryz.prog 141 #[.string s, .string sep] w fun e w' => e = .returned (.tuple #[.string ⟨(Lib.cut s.data.toList sep.data.toList).1.toArray⟩, .string ⟨(Lib.cut s.data.toList sep.data.toList).2.1.toArray⟩, .bool (Lib.cut s.data.toList sep.data.toList).2.2]) ∧ ∃ n, w' = w.drewN n := Any.stringslite_Cut Tryz.lays220 s sep m w hs hm
def Tryz.lays145_ren : Go.Shelf.Ren := ⟨fun | 145 => 118 | 220 => 141 | 219 => 155 | 217 => 171 | 225 => 172 | 224 => 173 | 267 => 174 | 266 => 181 | 314 => 182 | n => n, fun | 9 => 9 | 4 => 4 | 59 => 137 | 3 => 3 | 5 => 5 | 46 => 134 | 146 => 196 | 51 => 181 | n => n, fun | 1 => 0 | n => n⟩
theorem Tryz.lays145 : Go.Proofs.Lays.n145 Tryz.prog Tryz.lays145_ren := {
  mixed := by kernel_rfl
  f145 := Tryz.func118.trans (congrArg some (by kernel_rfl))
  f217 := Tryz.func171.trans (congrArg some (by kernel_rfl))
  f219 := Tryz.func155.trans (congrArg some (by kernel_rfl))
  f220 := Tryz.func141.trans (congrArg some (by kernel_rfl))
  f224 := Tryz.func173.trans (congrArg some (by kernel_rfl))
  f225 := Tryz.func172.trans (congrArg some (by kernel_rfl))
  f266 := Tryz.func181.trans (congrArg some (by kernel_rfl))
  f267 := Tryz.func174.trans (congrArg some (by kernel_rfl))
  f314 := Tryz.func182.trans (congrArg some (by kernel_rfl))
  t3 := Tryz.underlying3
  a3 := Tryz.isAgg3
  z3 := Tryz.sizeOf3
  v3 := Tryz.zeroValue3
  t4 := Tryz.underlying4
  a4 := Tryz.isAgg4
  z4 := Tryz.sizeOf4
  v4 := Tryz.zeroValue4
  t5 := Tryz.underlying5
  a5 := Tryz.isAgg5
  z5 := Tryz.sizeOf5
  v5 := Tryz.zeroValue5
  t9 := Tryz.underlying9
  a9 := Tryz.isAgg9
  z9 := Tryz.sizeOf9
  v9 := Tryz.zeroValue9
  t46 := Tryz.underlying134
  a46 := Tryz.isAgg134
  z46 := Tryz.sizeOf134
  v46 := Tryz.zeroValue134
  t51 := Tryz.underlying181
  a51 := Tryz.isAgg181
  z51 := Tryz.sizeOf181
  v51 := Tryz.zeroValue181
  t59 := Tryz.underlying137
  a59 := Tryz.isAgg137
  z59 := Tryz.sizeOf137
  v59 := Tryz.zeroValue137
  t146 := Tryz.underlying196
  a146 := Tryz.isAgg196
  z146 := Tryz.sizeOf196
  v146 := Tryz.zeroValue196
  g1 := by kernel_rfl }
open Go.RowKit Go.Lib in
/-- strings.Cut: "Cut slices s around the first instance of sep, returning the text before and after sep. The found result reports whether sep appears in s. If sep does not appear in s, cut returns s, "", false.": IT RETURNS 'Lib.cut s sep'; the world is as it was but for the count of draws. (LAID: no walk: one application.) -/
theorem Tryz.strings_Cut (s sep : ByteArray) (m : Int) (w : World) (hs : s.size < 4294967281) (hm : w.cell? ⟨0, 0, none⟩ = some (.int .i64 m)) :
    Calls Tryz.prog 118 #[.string s, .string sep] w fun e w' => e = .returned (.tuple #[.string ⟨(Lib.cut s.data.toList sep.data.toList).1.toArray⟩, .string ⟨(Lib.cut s.data.toList sep.data.toList).2.1.toArray⟩, .bool (Lib.cut s.data.toList sep.data.toList).2.2]) ∧ ∃ n, w' = w.drewN n := Any.strings_Cut Tryz.lays145 s sep m w hs hm
def Tryz.laysM219_ren : Go.Shelf.Ren := ⟨fun | 219 => 155 | 217 => 171 | 225 => 172 | 224 => 173 | 267 => 174 | 266 => 181 | 314 => 182 | n => n, fun | 9 => 9 | 3 => 3 | 4 => 4 | 5 => 5 | 46 => 134 | 146 => 196 | 51 => 181 | n => n, fun | 1 => 0 | n => n⟩
theorem Tryz.laysM219 : Go.Proofs.LaysM.n219 Tryz.prog Tryz.laysM219_ren := {
  mixed := by kernel_rfl
  f217 := Tryz.func171.trans (congrArg some (by kernel_rfl))
  f219 := Tryz.func155.trans (congrArg some (by kernel_rfl))
  f224 := Tryz.func173.trans (congrArg some (by kernel_rfl))
  f225 := Tryz.func172.trans (congrArg some (by kernel_rfl))
  f266 := Tryz.func181.trans (congrArg some (by kernel_rfl))
  f267 := Tryz.func174.trans (congrArg some (by kernel_rfl))
  f314 := Tryz.func182.trans (congrArg some (by kernel_rfl))
  t3 := Tryz.underlying3
  a3 := Tryz.isAgg3
  z3 := Tryz.sizeOf3
  v3 := Tryz.zeroValue3
  t4 := Tryz.underlying4
  a4 := Tryz.isAgg4
  z4 := Tryz.sizeOf4
  v4 := Tryz.zeroValue4
  t5 := Tryz.underlying5
  a5 := Tryz.isAgg5
  z5 := Tryz.sizeOf5
  v5 := Tryz.zeroValue5
  t9 := Tryz.underlying9
  a9 := Tryz.isAgg9
  z9 := Tryz.sizeOf9
  v9 := Tryz.zeroValue9
  t46 := Tryz.underlying134
  a46 := Tryz.isAgg134
  z46 := Tryz.sizeOf134
  v46 := Tryz.zeroValue134
  t51 := Tryz.underlying181
  a51 := Tryz.isAgg181
  z51 := Tryz.sizeOf181
  v51 := Tryz.zeroValue181
  t146 := Tryz.underlying196
  a146 := Tryz.isAgg196
  z146 := Tryz.sizeOf196
  v146 := Tryz.zeroValue196
  g1 := by kernel_rfl
  i3 := by kernel_rfl
  i4 := by kernel_rfl
  i5 := by kernel_rfl
  i9 := by kernel_rfl
  i46 := by kernel_rfl
  i51 := by kernel_rfl
  i146 := by kernel_rfl
  m1 := by kernel_rfl
  s1_3 := fun w h => Go.Proofs.cell_of_shapedOpen_int (zero := #[.int .i64 0]) (t := 3) h (of_decide_eq_true (by kernel_rfl)) (by kernel_rfl) rfl (by kernel_rfl) (by kernel_rfl) Tryz.underlying3 }
open Go.RowKit Go.Lib in
theorem Tryz.stringslite_Index_shaped (s sub : ByteArray) (w : World) (h : w.ShapedOpen Tryz.prog) (hs : s.size < 4294967281) :
    Calls Tryz.prog 155 #[.string s, .string sub] w fun e w' => e = .returned (.int .i64 (Lib.index s.data.toList sub.data.toList)) ∧ w' = w := Any.stringslite_Index_shaped Tryz.laysM219 s sub w h hs
def Tryz.laysM220_ren : Go.Shelf.Ren := ⟨fun | 220 => 141 | 219 => 155 | 217 => 171 | 225 => 172 | 224 => 173 | 267 => 174 | 266 => 181 | 314 => 182 | n => n, fun | 9 => 9 | 4 => 4 | 3 => 3 | 5 => 5 | 46 => 134 | 146 => 196 | 51 => 181 | n => n, fun | 1 => 0 | n => n⟩
theorem Tryz.laysM220 : Go.Proofs.LaysM.n220 Tryz.prog Tryz.laysM220_ren := {
  mixed := by kernel_rfl
  f217 := Tryz.func171.trans (congrArg some (by kernel_rfl))
  f219 := Tryz.func155.trans (congrArg some (by kernel_rfl))
  f220 := Tryz.func141.trans (congrArg some (by kernel_rfl))
  f224 := Tryz.func173.trans (congrArg some (by kernel_rfl))
  f225 := Tryz.func172.trans (congrArg some (by kernel_rfl))
  f266 := Tryz.func181.trans (congrArg some (by kernel_rfl))
  f267 := Tryz.func174.trans (congrArg some (by kernel_rfl))
  f314 := Tryz.func182.trans (congrArg some (by kernel_rfl))
  t3 := Tryz.underlying3
  a3 := Tryz.isAgg3
  z3 := Tryz.sizeOf3
  v3 := Tryz.zeroValue3
  t4 := Tryz.underlying4
  a4 := Tryz.isAgg4
  z4 := Tryz.sizeOf4
  v4 := Tryz.zeroValue4
  t5 := Tryz.underlying5
  a5 := Tryz.isAgg5
  z5 := Tryz.sizeOf5
  v5 := Tryz.zeroValue5
  t9 := Tryz.underlying9
  a9 := Tryz.isAgg9
  z9 := Tryz.sizeOf9
  v9 := Tryz.zeroValue9
  t46 := Tryz.underlying134
  a46 := Tryz.isAgg134
  z46 := Tryz.sizeOf134
  v46 := Tryz.zeroValue134
  t51 := Tryz.underlying181
  a51 := Tryz.isAgg181
  z51 := Tryz.sizeOf181
  v51 := Tryz.zeroValue181
  t146 := Tryz.underlying196
  a146 := Tryz.isAgg196
  z146 := Tryz.sizeOf196
  v146 := Tryz.zeroValue196
  g1 := by kernel_rfl
  i3 := by kernel_rfl
  i4 := by kernel_rfl
  i5 := by kernel_rfl
  i9 := by kernel_rfl
  i46 := by kernel_rfl
  i51 := by kernel_rfl
  i146 := by kernel_rfl
  m1 := by kernel_rfl
  s1_3 := fun w h => Go.Proofs.cell_of_shapedOpen_int (zero := #[.int .i64 0]) (t := 3) h (of_decide_eq_true (by kernel_rfl)) (by kernel_rfl) rfl (by kernel_rfl) (by kernel_rfl) Tryz.underlying3 }
open Go.RowKit Go.Lib in
theorem Tryz.stringslite_Cut_shaped (s sep : ByteArray) (w : World) (h : w.ShapedOpen Tryz.prog) (hs : s.size < 4294967281) :
    Calls Tryz.prog 141 #[.string s, .string sep] w fun e w' => e = .returned (.tuple #[.string ⟨(Lib.cut s.data.toList sep.data.toList).1.toArray⟩, .string ⟨(Lib.cut s.data.toList sep.data.toList).2.1.toArray⟩, .bool (Lib.cut s.data.toList sep.data.toList).2.2]) ∧ ∃ n, w' = w.drewN n := Any.stringslite_Cut_shaped Tryz.laysM220 s sep w h hs
def Tryz.laysM145_ren : Go.Shelf.Ren := ⟨fun | 145 => 118 | 220 => 141 | 219 => 155 | 217 => 171 | 225 => 172 | 224 => 173 | 267 => 174 | 266 => 181 | 314 => 182 | n => n, fun | 9 => 9 | 4 => 4 | 59 => 137 | 3 => 3 | 5 => 5 | 46 => 134 | 146 => 196 | 51 => 181 | n => n, fun | 1 => 0 | n => n⟩
theorem Tryz.laysM145 : Go.Proofs.LaysM.n145 Tryz.prog Tryz.laysM145_ren := {
  mixed := by kernel_rfl
  f145 := Tryz.func118.trans (congrArg some (by kernel_rfl))
  f217 := Tryz.func171.trans (congrArg some (by kernel_rfl))
  f219 := Tryz.func155.trans (congrArg some (by kernel_rfl))
  f220 := Tryz.func141.trans (congrArg some (by kernel_rfl))
  f224 := Tryz.func173.trans (congrArg some (by kernel_rfl))
  f225 := Tryz.func172.trans (congrArg some (by kernel_rfl))
  f266 := Tryz.func181.trans (congrArg some (by kernel_rfl))
  f267 := Tryz.func174.trans (congrArg some (by kernel_rfl))
  f314 := Tryz.func182.trans (congrArg some (by kernel_rfl))
  t3 := Tryz.underlying3
  a3 := Tryz.isAgg3
  z3 := Tryz.sizeOf3
  v3 := Tryz.zeroValue3
  t4 := Tryz.underlying4
  a4 := Tryz.isAgg4
  z4 := Tryz.sizeOf4
  v4 := Tryz.zeroValue4
  t5 := Tryz.underlying5
  a5 := Tryz.isAgg5
  z5 := Tryz.sizeOf5
  v5 := Tryz.zeroValue5
  t9 := Tryz.underlying9
  a9 := Tryz.isAgg9
  z9 := Tryz.sizeOf9
  v9 := Tryz.zeroValue9
  t46 := Tryz.underlying134
  a46 := Tryz.isAgg134
  z46 := Tryz.sizeOf134
  v46 := Tryz.zeroValue134
  t51 := Tryz.underlying181
  a51 := Tryz.isAgg181
  z51 := Tryz.sizeOf181
  v51 := Tryz.zeroValue181
  t59 := Tryz.underlying137
  a59 := Tryz.isAgg137
  z59 := Tryz.sizeOf137
  v59 := Tryz.zeroValue137
  t146 := Tryz.underlying196
  a146 := Tryz.isAgg196
  z146 := Tryz.sizeOf196
  v146 := Tryz.zeroValue196
  g1 := by kernel_rfl
  i3 := by kernel_rfl
  i4 := by kernel_rfl
  i5 := by kernel_rfl
  i9 := by kernel_rfl
  i46 := by kernel_rfl
  i51 := by kernel_rfl
  i59 := by kernel_rfl
  i146 := by kernel_rfl
  m1 := by kernel_rfl
  s1_3 := fun w h => Go.Proofs.cell_of_shapedOpen_int (zero := #[.int .i64 0]) (t := 3) h (of_decide_eq_true (by kernel_rfl)) (by kernel_rfl) rfl (by kernel_rfl) (by kernel_rfl) Tryz.underlying3 }
open Go.RowKit Go.Lib in
theorem Tryz.strings_Cut_shaped (s sep : ByteArray) (w : World) (h : w.ShapedOpen Tryz.prog) (hs : s.size < 4294967281) :
    Calls Tryz.prog 118 #[.string s, .string sep] w fun e w' => e = .returned (.tuple #[.string ⟨(Lib.cut s.data.toList sep.data.toList).1.toArray⟩, .string ⟨(Lib.cut s.data.toList sep.data.toList).2.1.toArray⟩, .bool (Lib.cut s.data.toList sep.data.toList).2.2]) ∧ ∃ n, w' = w.drewN n := Any.strings_Cut_shaped Tryz.laysM145 s sep w h hs
end Go.Proofs
end
section
namespace Go.Proofs.YtcmkhlfjcdchmaaGreat.A
open Go Go.Proofs Go.Proofs.YtcmkhlfjcdchmaaGreatAbs Go.RowKit Go.Shelf
set_option maxHeartbeats 1000000 in
set_option maxRecDepth 100000 in
theorem bld_used (b : Nat) (w : World) (h0 : w.cell? ⟨b, 0, none⟩ = some (.pointer (some ⟨b, 0, none⟩))) :
    Calls Tryz.prog 147 #[.pointer (some ⟨b, 0, none⟩)] w fun e w' => e = .returned (.tuple #[]) ∧ w' = w := by
  obtain ⟨j, hj, _⟩ := Option.map_eq_some_iff.1 (show (Tryz.prog.info? 147).map (·.size) = some 2 by kernel_rfl)
  have mixed : Tryz.prog.follows .mixedOrders = true := by kernel_rfl
  go_enter Tryz.func147, Tryz.ntmps147
  go_wp2
  rw [Lib.run_neq_ptr_same w _ Tryz.underlying144 hj]
  go_wp2
  go_end0
  exact ⟨rfl, rfl⟩
set_option maxHeartbeats 1000000 in
set_option maxRecDepth 100000 in
theorem bld_fresh (b : Nat) (w : World) (h0 : w.cell? ⟨b, 0, none⟩ = some (.pointer none)) (hsh : w.shape? b = some (147, 2)) (hfz : w.frozen? ⟨b, 0, none⟩ = false) :
    Calls Tryz.prog 147 #[.pointer (some ⟨b, 0, none⟩)] w fun e w' => e = .returned (.tuple #[]) ∧ w' = w.setCell ⟨b, 0, none⟩ (.pointer (some ⟨b, 0, none⟩)) := by
  obtain ⟨j, hj, hjs⟩ := Option.map_eq_some_iff.1 (show (Tryz.prog.info? 147).map (·.size) = some 2 by kernel_rfl)
  have mixed : Tryz.prog.follows .mixedOrders = true := by kernel_rfl
  go_enter Tryz.func147, Tryz.ntmps147
  go_wp2
  rw [Lib.run_to_unsafe w ⟨b, 0, none⟩ Tryz.underlying144 Tryz.underlying184 hj (by rw [hjs]; decide) hsh (Nat.zero_lt_succ 1)]
  simp only [Result.andThen]
  rw [Oper.upon_value]
  go_wp2
  rw [run_callFunc_extern Tryz.func167 (by kernel_rfl) (by kernel_rfl) (by kernel_rfl) (e := Extern.AbiNoEscape.same) (by kernel_rfl)]
  rw [Lib.run_noEscape]
  simp only [Result.andThen]
  rw [Oper.upon_value]
  go_wp2
  rw [Lib.run_from_unsafe w ⟨b, 0, none⟩ Tryz.underlying184 Tryz.underlying144 hj hsh (by kernel_rfl)]
  simp only [Result.andThen]
  rw [Oper.upon_value]
  go_wp2
  go_end0
  exact ⟨rfl, rfl⟩
theorem copy_rc {M : List Blk} {b ver : Nat} {x y : AV} (hb : M[b]? = some (.rows 147 2 ver [[x, y]] true)) (hx : x = .c (.v (.pointer none)) ∨ x = .ptr b ver 0 0) :
    CallR Tryz.prog M 147 [.one (.ptr b ver 0 0)] (.tup []) (M.set b (.rows 147 2 ver [[.ptr b ver 0 0, y]] true)) := by
  intro I σ w vals hG hm hvl hvr
  obtain ⟨v, rfl⟩ : ∃ v, vals = #[v] := ⟨vals[0]'(by simp at hvl; omega), by apply Array.ext <;> simp_all⟩
  have hv : RelA I σ (.ptr b ver 0 0) v := hvr 0 _ v rfl rfl
  obtain ⟨p, g, cs, hp, hg, hps, rfl, hh, hs, hlc, hrl, hcs⟩ := mem_ptr hm hb hv (by simp)
  have hcap : p.cap = 1 := (hm.blk b _ p hb hp).1 rfl
  obtain ⟨x0, hx0, hxr⟩ := hcs 0 _ rfl 0 _ rfl
  have hcell : w.cell? ⟨g, 0, none⟩ = some x0 := by rw [Lib.cell_of_heap hh]; simpa using hx0
  have hE : Go.Proofs.YtcmkhlfjcdchmaaGreatAbs.Enters Tryz.prog 147 := enters_fun Tryz.func147 (by kernel_rfl) rfl
  simp only [Nat.zero_mul, Nat.zero_add] at hv ⊢
  have hr : RelS I σ (.tup []) (.tuple #[]) := ⟨_, rfl, rfl, fun k q x hq hx => by cases hq⟩
  rcases hx with rfl | rfl
  · obtain ⟨rfl, _⟩ := hxr
    refine .inl ⟨hE, (bld_fresh g w hcell ?_ ?_).mono ?_⟩
    · unfold World.shape?
      rw [hh]
      simp only [hs, hcap]
    · unfold World.frozen?
      simp only [hh]
      rfl
    · rintro e w' ⟨rfl, rfl⟩
      exact ⟨_, rfl, I, σ, hr, by simpa [fillL] using evo_set1 hm hb (i := 0) (j := 0) rfl (by omega) hp hg hv⟩
  · obtain ⟨h1, q, hq, h2, hq2⟩ := hxr
    obtain rfl : p = q := by rw [hp] at hq; injection hq
    obtain ⟨p', hp', m1, m2, m3⟩ := mem_rows hm hb
    obtain rfl : p = p' := by rw [hp] at hp'; injection hp'
    obtain ⟨g', hg', rfl⟩ := hq2 m2
    obtain rfl : g = g' := by rw [hg] at hg'; injection hg'
    simp only [Nat.zero_mul, Nat.zero_add] at hcell
    refine .inl ⟨hE, (bld_used g w hcell).mono ?_⟩
    rintro e w' ⟨rfl, rfl⟩
    refine ⟨_, rfl, I, σ, hr, ?_⟩
    rw [set_self hb]
    exact Evo.refl hm
set_option maxHeartbeats 1000000 in
set_option maxRecDepth 100000 in
theorem bld_string (b g cap : Nat) (l : List UInt8) (p : Value) (cur : Array Value) (w : World) (h0 : l ≠ []) (hbk : w.heap[b]? = some (.cells #[p, .slice (some ⟨g, 0, none⟩) l.length cap] 147 (0, 0)))
    (hg : w.heap[g]? = some (.cells cur 5 (0, 0))) (hc : l.length ≤ cap) (hcm : cap ≤ maxLen) (hs : cur.size = cap) (hcell : ∀ (j : Nat) (x : UInt8), l[j]? = some x → w.cell? ⟨g, j, none⟩ = some (.int .u8 x.toNat)) :
    Calls Tryz.prog 127 #[.pointer (some ⟨b, 0, none⟩)] w fun e w' => e = .returned (.string ⟨l.toArray⟩) ∧ w' = w.drew.freeze ⟨g, 0, none⟩ l.length := by
  have hl0 : l.length ≠ 0 := by simpa using h0
  have c1 : w.drew.cell? ⟨b, 1, none⟩ = some (.slice (some ⟨g, 0, none⟩) l.length cap) := by
    have : w.drew.heap[b]? = some (.cells #[p, .slice (some ⟨g, 0, none⟩) l.length cap] 147 (0, 0)) := hbk
    rw [Lib.cell_of_heap this]; rfl
  have hSD : (Builtin.unsafeSliceData_ #[145] 168 #[.slice (some ⟨g, 0, none⟩) l.length cap]).run Tryz.prog w.drew = .ok (.pointer (some ⟨g, 0, none⟩)) w.drew :=
    Lib.run_unsafeSliceData_row _ _ _ _ _ _ (by omega)
  have hUS : (Builtin.unsafeString_ #[168, 3] 9 #[.pointer (some ⟨g, 0, none⟩), .int .i64 l.length]).run Tryz.prog w.drew = .ok (.string ⟨l.toArray⟩) (w.drew.freeze ⟨g, 0, none⟩ l.length) := by
    refine Lib.run_unsafeString_row w.drew 168 3 9 5 Tryz.underlying168 (by kernel_rfl) g cur.size (by have hg' : w.drew.heap[g]? = some (.cells cur 5 (0, 0)) := hg; simp [World.shape?, hg']) l h0 (by omega) (by unfold maxLen at hcm; omega) ?_
    intro j x hx
    have e : (⟨g, 0, none⟩ : Addr).add j = ⟨g, j, none⟩ := by simp [Addr.add]; exact fun h => h.symm
    rw [e]
    exact hcell j x hx
  have mixed : Tryz.prog.follows .mixedOrders = true := by kernel_rfl
  go_enter Tryz.func127, Tryz.ntmps127
  go_wp2
  go_region
  all_goals (go_wp2; go_ret; exact ⟨rfl, rfl⟩)
theorem String_rc {M : List Blk} {b ver c v : Nat} {a : AV} {l : List UInt8} {f : Bool} (hb : M[b]? = some (.rows 147 2 ver [[a, .arr 1 c v 0 l.length]] true)) (hc : M[c]? = some (.rows 5 1 v (l.map byteRow) f)) (h0 : l ≠ []) :
    CallR Tryz.prog M 127 [.one (.ptr b ver 0 0)] (.s ⟨l.toArray⟩) (M.set c .dead) := by
  intro I σ w vals hG hm hvl hvr
  obtain ⟨u, rfl⟩ : ∃ v, vals = #[v] := ⟨vals[0]'(by simp at hvl; omega), by apply Array.ext <;> simp_all⟩
  have hv : RelA I σ (.ptr b ver 0 0) u := hvr 0 _ u rfl rfl
  obtain ⟨p, g, cs, hp, hg, hps, rfl, hh, hs, hlc, hrl, hcs⟩ := mem_ptr hm hb hv (by simp)
  have hcap : p.cap = 1 := (hm.blk b _ p hb hp).1 rfl
  obtain ⟨x0, hx0, hxr⟩ := hcs 0 _ rfl 0 _ rfl
  obtain ⟨x1, hx1, hyr⟩ := hcs 0 _ rfl 1 _ rfl
  have hE : Go.Proofs.YtcmkhlfjcdchmaaGreatAbs.Enters Tryz.prog 127 := enters_fun Tryz.func127 (by kernel_rfl) rfl
  obtain ⟨h1, q, hq, h2, hq2⟩ := hyr
  obtain ⟨q', hq', m1, m2, m3, m4, m5, m6⟩ := mem_rows hm hc
  obtain rfl : q = q' := by rw [hq] at hq'; injection hq'
  obtain ⟨m7, m8, rfl⟩ := hq2 m2
  have hll : l.length ≠ 0 := by simpa using h0
  rw [List.length_map] at m3
  obtain ⟨g2, hg2⟩ : ∃ g2, q.blk = some g2 := by
    cases e : q.blk with
    | none => rw [e] at m6; simp only at m6; omega
    | some g => exact ⟨g, rfl⟩
  rw [hg2] at m6
  obtain ⟨cs2, hh2, hs2, m9, hcs2⟩ := m6
  have hcse : cs = #[x0, .slice (some ⟨g2, 0, none⟩) l.length q.cap] := by
    apply Array.ext_getElem?
    intro k
    match k with
    | 0 => simpa using hx0
    | 1 => simpa [hg2] using hx1
    | k + 2 => rw [Array.getElem?_eq_none (by omega)]; simp
  rw [hcse] at hh
  simp only [Nat.zero_mul, Nat.zero_add]
  refine .inl ⟨hE, (bld_string g g2 q.cap l x0 cs2 w h0 hh hh2 m3 m4 (by omega) (fun j x hx => ?_)).mono ?_⟩
  · rw [Lib.cell_of_heap hh2]
    obtain ⟨y, hy, hyr⟩ := hcs2 j (byteRow x) (by rw [List.getElem?_map, hx]; rfl) 0 _ rfl
    obtain ⟨rfl, _⟩ := hyr
    simpa using hy
  · rintro e w' ⟨rfl, rfl⟩
    have e : w.drew.freeze ⟨g2, 0, none⟩ l.length = { w.drew with heap := (w.drew.freeze ⟨g2, 0, none⟩ l.length).heap } := by
      unfold World.freeze; rw [if_neg hll]
    refine ⟨_, rfl, I, σ, ⟨rfl, rfl⟩, evo_kill hm hc hq hg2 ?_ ?_ ?_ ?_ ?_⟩
    · unfold World.freeze; rw [if_neg hll]; rfl
    · unfold World.freeze; rw [if_neg hll]; rfl
    · unfold World.freeze; rw [if_neg hll]; rfl
    · unfold World.freeze; rw [if_neg hll]; exact Array.size_modify
    · intro k hk
      unfold World.freeze; rw [if_neg hll]
      simp only []
      rw [Array.getElem?_modify, if_neg (fun e => hk e.symm)]
      rfl
end Go.Proofs.YtcmkhlfjcdchmaaGreat.A
end
section
namespace Go.Proofs.YtcmkhlfjcdchmaaGreat.A
open Go Go.Proofs Go.Proofs.YtcmkhlfjcdchmaaGreatAbs
/-- What stands ahead of the closing quote, and what behind it. -/
def quo : List UInt8 → Option (List UInt8 × List UInt8)
  | [] => none
  | [c] => if c = 34 then some ([], []) else none
  | c :: d :: r => if c = 34 then some ([], d :: r) else if c = 92 then (if d = 34 ∨ d = 92 then (quo r).map (fun p => (d :: p.1, p.2)) else none) else (quo (d :: r)).map (fun p => (c :: p.1, p.2))
theorem quo_q (r : List UInt8) : quo (34 :: r) = some ([], r) := by cases r <;> simp [quo]
theorem quo_c {c : UInt8} (h1 : c ≠ 34) (h2 : c ≠ 92) (r : List UInt8) : quo (c :: r) = (quo r).map (fun p => (c :: p.1, p.2)) := by
  cases r <;> simp [quo, h1, h2]
theorem quo_b {d : UInt8} (h : d = 34 ∨ d = 92) (r : List UInt8) : quo (92 :: d :: r) = (quo r).map (fun p => (d :: p.1, p.2)) := by simp [quo, h]
theorem quo_bn {d : UInt8} (h : ¬ (d = 34 ∨ d = 92)) (r : List UInt8) : quo (92 :: d :: r) = none := by simp [quo, h]
def quotS (s : ByteArray) : ByteArray × ByteArray × Bool := match quo (bs s) with
  | some (a, r) => (mkS a, mkS r, true)
  | none => (mkS [], mkS [], false)
theorem rowsBytes_map : ∀ l : List UInt8, rowsBytes (l.map byteRow) = some l
  | [] => rfl
  | x :: l => by
    simp only [List.map_cons, byteRow, rowsBytes, rowsBytes_map l, Option.map_some, Int.toNat_natCast]
    rw [UInt8.ofNat_toNat]
def byteRows (l : List UInt8) : List (List AV) := l.map byteRow
@[go_sem] theorem byteRows_len (l : List UInt8) : (byteRows l).length = l.length := List.length_map ..
@[go_sem] theorem byteRows_take (l : List UInt8) : (byteRows l).take l.length = byteRows l := List.take_of_length_le (by rw [byteRows_len]; exact Nat.le_refl _)
@[go_sem] theorem byteRows_bytes (l : List UInt8) : rowsBytes (byteRows l) = some l := rowsBytes_map l
@[go_sem] theorem byteRows_app (l : List UInt8) (x : UInt8) : byteRows l ++ [[.c (.v (.int .u8 x.toNat))]] = byteRows (l ++ [x]) := by simp [byteRows, byteRow]
theorem lt_byteRows (n : Nat) (l : List UInt8) : ∀ r ∈ byteRows l, ∀ a ∈ r, ltA n a := by
  intro r hr a ha
  obtain ⟨x, _, rfl⟩ := List.mem_map.1 hr
  obtain rfl := List.mem_singleton.1 ha
  trivial
set_option maxRecDepth 20000 in
theorem quoted_rc (s : ByteArray) (hs : s.size ≤ 140737488355328) (M : List Blk) : CallR Tryz.prog M n_label_quoted [.s s] (.tup [.s (quotS s).1, .s (quotS s).2.1, .b (quotS s).2.2]) M := by
  refine callP F_label_quoted (Nat.le_of_ble_eq_true rfl) (by simp only [go_sem]) (by simp only [go_sem]) ?_ M
  simp only [c_label_quoted, go_sem]
  refine run_gh (gh_born 5 5 1 (by simp only [go_sem])) ?_
  refine V_loop (ι := Nat × Nat × Bool × List UInt8) (J := fun p => p.1 ≤ s.size ∧ p.2.2.2.length ≤ p.1 ∧ quo (bs s) = (quo ((bs s).drop p.1)).map (fun q => (p.2.2.2 ++ q.1, q.2)))
    (env := fun p => [(0, .s s), (5, .p (.one (.arr 1 0 p.2.1 0 p.2.2.2.length))), (6, .i p.1)])
    (mem := fun p => [.rows 5 1 p.2.1 (byteRows p.2.2.2) p.2.2.1]) (μ := fun p => s.size - p.1) (0, 0, true, []) ⟨Nat.zero_le _, Nat.le_refl _, by simp⟩ ?_ ?_
  · exact ⟨[], by simp only [go_sem]; rfl, Nat.zero_le _, by simp only [go_sem], by simp only [go_sem, ltB]; exact lt_byteRows _ _⟩
  rintro ⟨i, ver, f, acc⟩ ⟨hi, hacc, hq⟩
  simp only [go_sem] at hi hacc hq ⊢
  refine ⟨fun h1 => ?_, fun h1 => ?_⟩
  · have e1 : IntKind.i64.wrap ((i : Int) + 1) = ((i + 1 : Nat) : Int) := w64s (by omega)
    have hl : i < (bs s).length := by rw [bs_len]; exact h1
    rw [drop_getD 0 hl] at hq
    simp only [e1, Int.toNat_natCast]
    have hdr : ∀ k, ((bs s).drop k).length = s.size - k := fun k => by rw [List.length_drop, bs_len]
    generalize hc0 : (bs s).getD i 0 = c at hq ⊢
    refine ⟨by omega, fun hc => ?_, fun hc => ⟨fun hb => ?_, fun hb => ?_⟩⟩
    · have hc : c = 34 := UInt8.toNat_inj.1 (by show c.toNat = 34; omega)
      subst hc
      rw [quo_q] at hq
      refine ⟨by omega, ?_⟩
      simp only [quotS, hq, Option.map_some, List.append_nil]
      refine ⟨trivial, bs_inj ?_, trivial⟩
      rw [bs_extract, List.take_of_length_le (by rw [hdr]; exact Nat.le_refl _)]
      rfl
    · have hb : c = 92 := UInt8.toNat_inj.1 (by show c.toNat = 92; omega)
      subst hb
      by_cases hend : i + 1 = s.size
      · have hd : (bs s).drop (i + 1) = [] := List.eq_nil_of_length_eq_zero (by rw [hdr]; omega)
        rw [hd] at hq
        have hq' : quo (bs s) = none := by rw [hq]; rfl
        have eb : ((((i + 1 : Nat) : Int)) == (s.size : Int)) = true := by rw [beq_iff_eq]; omega
        simp only [eb, quotS, hq']
        refine ⟨fun h => absurd h (by decide), fun h => absurd h (by simp), fun _ => ⟨trivial, trivial, trivial⟩, fun h => absurd h (by simp)⟩
      · have eb : ((((i + 1 : Nat) : Int)) == (s.size : Int)) = false := by rw [beq_eq_false_iff_ne]; omega
        rw [drop_getD 0 (show i + 1 < (bs s).length by rw [bs_len]; omega)] at hq
        generalize (bs s).getD (i + 1) 0 = d at hq ⊢
        simp only [eb, Bool.false_or, Bool.not_false, Bool.true_and]
        refine ⟨fun _ => by omega, fun _ => by omega, fun h => ?_, fun h => ⟨by omega, by omega, ?_⟩⟩
        · have hd : ¬ (d = 34 ∨ d = 92) := by
            rintro (rfl | rfl) <;> exact absurd h (by decide)
          rw [quo_bn hd] at hq
          simp only [quotS, hq, Option.map_none]
          exact ⟨trivial, trivial, trivial⟩
        · have hd : d = 34 ∨ d = 92 := by
            simp only [Bool.and_eq_false_iff, bne_eq_false_iff_eq] at h
            rcases h with h | h
            · exact .inl (UInt8.toNat_inj.1 (by show d.toNat = 34; omega))
            · exact .inr (UInt8.toNat_inj.1 (by show d.toNat = 92; omega))
          rw [quo_b hd] at hq
          refine ⟨(i + 1 + 1, ver + 1, false, acc ++ [d]), ⟨by simp only []; omega, by simp; omega, ?_⟩, by simp only []; omega, [.rows 5 1 0 [[AV.c (CV.v (Value.int IntKind.u8 d.toNat))]] true], ?_, Nat.zero_le _, ?_, ?_⟩
          · rw [hq, Option.map_map]
            congr 1
            funext q
            simp
          · simp only [go_sem]
          · have e2 : IntKind.i64.wrap (((i + 1 : Nat) : Int) + 1) = ((i + 1 + 1 : Nat) : Int) := w64s (by omega)
            simp only [go_sem, e2, List.length_append]
          · simp only [go_sem, ltB]; exact lt_byteRows _ _
    · have hb' : c ≠ 92 := fun e => hb (by rw [e]; rfl)
      have hc' : c ≠ 34 := fun e => hc (by rw [e]; rfl)
      rw [quo_c hc' hb'] at hq
      refine ⟨by omega, by omega, (i + 1, ver + 1, false, acc ++ [c]), ⟨by simp only []; omega, by simp; omega, ?_⟩, by simp only []; omega, [.rows 5 1 0 [[AV.c (CV.v (Value.int IntKind.u8 c.toNat))]] true], ?_, Nat.zero_le _, ?_, ?_⟩
      · rw [hq, Option.map_map]
        congr 1
        funext q
        simp
      · simp only [go_sem]
      · simp only [go_sem, e1, List.length_append]
      · simp only [go_sem, ltB]; exact lt_byteRows _ _
  · have hd : (bs s).drop i = [] := List.eq_nil_of_length_eq_zero (by rw [List.length_drop, bs_len]; omega)
    rw [hd] at hq
    have hq' : quo (bs s) = none := by rw [hq]; rfl
    simp only [quotS, hq']
    exact ⟨trivial, trivial, trivial⟩
end Go.Proofs.YtcmkhlfjcdchmaaGreat.A
end
section
namespace Go.Proofs.YtcmkhlfjcdchmaaGreat.A
open Go Go.Proofs Go.Proofs.YtcmkhlfjcdchmaaGreatAbs
def cutS (s sep : ByteArray) : ByteArray × ByteArray × Bool := (mkS (Lib.cut (bs s) (bs sep)).1, mkS (Lib.cut (bs s) (bs sep)).2.1, (Lib.cut (bs s) (bs sep)).2.2)
theorem Cut_rc (s sep : ByteArray) (hs : s.size < 4294967281) (M : List Blk) : CallR Tryz.prog M 118 [.s s, .s sep] (.tup [.s (cutS s sep).1, .s (cutS s sep).2.1, .b (cutS s sep).2.2]) M := by
  refine callR_lib (xs := [.string s, .string sep]) (v := .tuple #[.string (cutS s sep).1, .string (cutS s sep).2.1, .bool (cutS s sep).2.2]) (enters_fun Tryz.func118 (by kernel_rfl) rfl) (fun I σ => ?_) (fun I w hG hI => ?_) M
  · refine ⟨_, rfl, rfl, fun k q x hq hx => ?_⟩
    match k, hq, hx with
    | 0, hq, hx => injection hq with hq; injection hx with hx; subst hq; subst hx; exact ⟨rfl, rfl⟩
    | 1, hq, hx => injection hq with hq; injection hx with hx; subst hq; subst hx; exact ⟨rfl, rfl⟩
    | 2, hq, hx => injection hq with hq; injection hx with hx; subst hq; subst hx; exact ⟨rfl, rfl⟩
  · obtain ⟨m, hm⟩ := hG 0 (by kernel_rfl)
    exact Tryz.strings_Cut s sep m w hs (hI _ _ hm)
def cmpS (a b : ByteArray) : Int := if sLt a b then -1 else if sLt b a then 1 else 0
theorem compare_lt : ∀ a b : List UInt8, Lib.compareBytes a b = if a < b then -1 else if b < a then 1 else 0
  | [], [] => by simp [Lib.compareBytes, List.lt_irrefl]
  | [], b :: y => by simp [Lib.compareBytes]
  | a :: x, [] => by simp [Lib.compareBytes]
  | a :: x, b :: y => by
    rw [Lib.compareBytes, compare_lt x y]
    simp only [List.cons_lt_cons_iff]
    by_cases h1 : a < b
    · simp [h1]
    · by_cases h2 : b < a
      · have : ¬ a = b := fun e => by subst e; exact h1 h2
        have h3 : ¬ b = a := fun e => this e.symm
        simp [h1, h2, this]
      · have : a = b := UInt8.le_antisymm (UInt8.not_lt.1 h2) (UInt8.not_lt.1 h1)
        subst this
        simp [h1]
theorem Compare_rc (a b : ByteArray) (M : List Blk) : CallR Tryz.prog M 122 [.s a, .s b] (.i (cmpS a b)) M := by
  refine callR_lib (r := .i (cmpS a b)) (xs := [.string a, .string b]) (v := .int .i64 (cmpS a b)) (enters_fun Tryz.func122 (by kernel_rfl) rfl) (fun I σ => ⟨rfl, rfl⟩) (fun I w hG hI => ?_) M
  refine (Tryz.strings_Compare a b w).mono ?_
  rintro e w' ⟨rfl, rfl⟩
  refine ⟨?_, 0, rfl⟩
  have : Lib.compareBytes a.data.toList b.data.toList = cmpS a b := by
    rw [compare_lt]
    simp only [cmpS, sLt, decide_eq_true_eq]
    rfl
  rw [this]
theorem BitsLen_rc (x : Int) (h0 : 0 ≤ x) (h1 : x ≤ 18446744073709551615) (M : List Blk) : CallR Tryz.prog M 143 [.one (.c (.v (.int .u64 x)))] (.i (Lib.bitLen x.toNat : Nat)) M := by
  refine callR_lib (r := .i (Lib.bitLen x.toNat : Nat)) (xs := [.int .u64 x]) (v := .int .i64 (Lib.bitLen x.toNat : Nat)) (enters_fun Tryz.func143 (by kernel_rfl) rfl) (fun I σ => ⟨rfl, rfl⟩) (fun I w hG hI => ?_) M
  refine (Tryz.bits_Len x w h0 h1).mono ?_
  rintro e w' ⟨rfl, rfl⟩
  exact ⟨rfl, 0, rfl⟩
end Go.Proofs.YtcmkhlfjcdchmaaGreat.A
end
section
namespace Go.Proofs.YtcmkhlfjcdchmaaGreat.A
open Go Go.Proofs Go.Proofs.YtcmkhlfjcdchmaaGreatAbs
theorem Parse1_rc (x y : Lb) (M : List Blk) : CallR Tryz.prog M n_label_Parse_1 [.agg [.c (.v (.string x.name)), .c (.v (.string x.value))], .agg [.c (.v (.string y.name)), .c (.v (.string y.value))]] (.i (cmpS x.name y.name)) M := by
  refine callP F_label_Parse_1 (Nat.le_of_ble_eq_true rfl) (by simp only [go_sem]) (by simp only [go_sem]) ?_ M
  simp only [c_label_Parse_1, go_sem]
  refine call0 (Compare_rc _ _) ?_
  simp only [go_sem]
def lbRow (x : Lb) : List AV := [.c (.v (.string x.name)), .c (.v (.string x.value))]
def lbRows (l : List Lb) : List (List AV) := l.map lbRow
@[go_sem] theorem lbRows_len (l : List Lb) : (lbRows l).length = l.length := List.length_map ..
theorem lt_lbRows (n : Nat) (l : List Lb) : ∀ r ∈ lbRows l, r.length = 2 ∧ ∀ a ∈ r, ltA n a := by
  intro r hr
  obtain ⟨x, _, rfl⟩ := List.mem_map.1 hr
  refine ⟨rfl, fun a ha => ?_⟩
  rcases List.mem_cons.1 ha with rfl | ha
  · trivial
  · obtain rfl := List.mem_singleton.1 ha; trivial
def ltLb (x y : Lb) : Bool := sLt x.name y.name
/-- The labels in their order. -/
def sortLb (l : List Lb) : List Lb := sortTo ltLb default l l.length
def cmpRow (x y : List AV) : Int := match x, y with
  | [.c (.v (.string a)), _], [.c (.v (.string b)), _] => cmpS a b
  | _, _ => 0
theorem cmpS_neg (a b : ByteArray) : decide (cmpS a b < 0) = sLt a b := by
  unfold cmpS
  cases h : sLt a b with
  | true => simp
  | false =>
    cases k : sLt b a <;> simp
theorem sort_rows (l : List Lb) : sortTo (fun x y => decide (cmpRow x y < 0)) [] (lbRows l) l.length = lbRows (sortLb l) := by
  unfold lbRows sortLb
  exact sortTo_map (lt := ltLb) (f := lbRow) (fun x y => cmpS_neg _ _) (Nat.le_refl _)
variable {M : List Blk} {b v : Nat} {l : List Lb} {f : Bool}
abbrev cmpF : Pt := .one (.fn n_label_Parse_1 0 fun _ => default)
theorem isort (hb : M[b]? = some (.rows 128 2 v (lbRows l) f)) (hn : l.length ≤ 12) (hMB : ∀ x ∈ M, ltB M.length x) :
    CallR Tryz.prog M n_slices_insertionSortCmpFunc_api_Label [.one (.arr 2 b v 0 l.length), .i 0, .i l.length, cmpF] (.tup []) (M.set b (.rows 128 2 v (lbRows (sortLb l)) f)) := by
  have hbl : b < M.length := getElem?_lt hb
  by_cases h0 : l.length = 0
  · obtain rfl : l = [] := List.eq_nil_of_length_eq_zero h0
    refine callR_intro F_slices_insertionSortCmpFunc_api_Label (by simp) ?_
    refine V_sound ?_
    simp only [c_slices_insertionSortCmpFunc_api_Label, go_sem]
    have e1 : IntKind.i64.wrap ((0 : Int) + 1) = ((1 : Nat) : Int) := by decide
    refine V_loop (ι := Unit) (J := fun _ => True) (env := fun _ => [(2, .i 0), (8, .i 1)]) (mem := fun _ => M) (μ := fun _ => 0) () trivial ⟨[], (List.append_nil _).symm, Nat.le_refl _, ?_, hMB⟩ ?_
    · simp only [go_sem, e1, List.length_nil, Int.natCast_zero]
    rintro ⟨⟩ _
    simp only [go_sem]
    refine fin_own (.inl rfl) (Gh.refl _) [] (qs := []) (cnd := True) rfl trivial (by rw [List.append_nil]; exact (set_self hb).symm) ?_ ?_ ?_ ?_
    · show leS (SV.tup []) (SV.tup []); rw [leS_self]; trivial
    · rw [List.length_set]; exact Nat.le_refl _
    · simp only [go_sem]
    · rw [show sortLb [] = [] from rfl, set_self hb]; exact hMB
  have := isort_rc (b := b) (P := Tryz.prog) F_slices_insertionSortCmpFunc_api_Label (by decide) hb (by rw [lbRows_len]; omega) (by rw [lbRows_len]; omega) (fun r hr => lt_lbRows 0 l r hr) hMB n_label_Parse_1 0 (fun _ => default) cmpRow (fun i hi => absurd hi (Nat.not_lt_zero _)) (fun x hx y hy M => ?_)
  · rw [lbRows_len, sort_rows] at this
    exact this
  · obtain ⟨x, _, rfl⟩ := List.mem_map.1 hx
    obtain ⟨y, _, rfl⟩ := List.mem_map.1 hy
    exact Parse1_rc x y M
theorem ltB_lbRows (n v : Nat) (l : List Lb) (f : Bool) : ltB n (.rows 128 2 v (lbRows l) f) := fun r hr => (lt_lbRows n l r hr).2
theorem ltB_setRows (hMB : ∀ x ∈ M, ltB M.length x) : ∀ x ∈ M.set b (.rows 128 2 v (lbRows l) f), ltB (M.set b (.rows 128 2 v (lbRows l) f)).length x := by
  intro x hx
  rw [List.length_set]
  rcases List.mem_or_eq_of_mem_set hx with hx | rfl
  · exact hMB x hx
  · exact ltB_lbRows _ _ _ _
set_option maxRecDepth 20000 in
theorem pdq_rc (hb : M[b]? = some (.rows 128 2 v (lbRows l) f)) (hn : l.length ≤ 12) (hMB : ∀ x ∈ M, ltB M.length x) (lim : Int) :
    CallR Tryz.prog M n_slices_pdqsortCmpFunc_api_Label [.one (.arr 2 b v 0 l.length), .i 0, .i l.length, .i lim, cmpF] (.tup []) (M.set b (.rows 128 2 v (lbRows (sortLb l)) f)) := by
  have hbl : b < M.length := getElem?_lt hb
  refine callR_intro F_slices_pdqsortCmpFunc_api_Label (by simp) ?_
  refine V_sound ?_
  obtain ⟨R, hR⟩ : ∃ R, c_slices_pdqsortCmpFunc_api_Label = (.seq (.reg false [⟨some 10, .mv (kb true), none⟩])
 (.seq (.reg false [⟨some 11, .mv (kb true), none⟩])
 (.block 0 (.loop (.block 1 (.seq (.reg false [⟨some 21, .mv (.t 2), none⟩, ⟨some 22, .mv (.t 1), none⟩, ⟨some 23, .bin .sub (.t 21) (.t 22), none⟩, ⟨some 12, .mv (.t 23), none⟩])
 (.seq (.seq (.reg false [⟨some 24, .mv (.t 12), none⟩, ⟨some 25, .bin .leq (.t 24) (ki 12), none⟩])
 (.cond (.t 25)
 (.seq (.reg false [⟨some 26, .mv (.t 0), none⟩, ⟨some 27, .mv (.t 1), none⟩, ⟨some 28, .mv (.t 2), none⟩, ⟨some 29, .mv (.t 4), none⟩, ⟨some 30, .call (kf n_slices_insertionSortCmpFunc_api_Label) [(.t 26), (.t 27), (.t 28), (.t 29)], none⟩])
 .ret)
 .skip)) R))))))) := ⟨_, rfl⟩
  rw [hR]
  simp only [go_sem]
  refine V_loop (ι := Unit) (J := fun _ => True) (env := fun _ => [(0, .p (.one (.arr 2 b v 0 l.length))), (1, .i 0), (2, .i l.length), (4, .p cmpF)]) (mem := fun _ => M) (μ := fun _ => 0) () trivial ⟨[], (List.append_nil _).symm, Nat.le_refl _, ?_, hMB⟩ ?_
  · simp only [go_sem]
    exact hbl
  rintro ⟨⟩ _
  have e1 : IntKind.i64.wrap ((l.length : Int) - 0) = (l.length : Int) := w64 (by omega) (by omega)
  have e2 : (l.length : Int) ≤ 12 := by omega
  simp only [go_sem, e1, e2]
  refine call1 (isort hb hn hMB) (by simp only [go_sem]) (fun h => Bool.noConfusion h) ?_
  simp only [go_sem]
  refine fin_own (.inr rfl) (Gh.refl _) [] (qs := []) (cnd := True) rfl trivial (List.append_nil _).symm ?_ ?_ ?_ ?_
  · show leS (SV.tup []) (SV.tup []); rw [leS_self]; trivial
  · rw [List.length_set]; exact Nat.le_refl _
  · simp only [go_sem]
  · exact ltB_setRows hMB
set_option maxRecDepth 20000 in
theorem Sort_rc (hb : M[b]? = some (.rows 128 2 v (lbRows l) f)) (hn : l.length ≤ 12) (hMB : ∀ x ∈ M, ltB M.length x) :
    CallR Tryz.prog M n_slices_SortFunc_api_Label_api_Label [.one (.arr 2 b v 0 l.length), cmpF] (.tup []) (M.set b (.rows 128 2 v (lbRows (sortLb l)) f)) := by
  have hbl : b < M.length := getElem?_lt hb
  refine callR_intro F_slices_SortFunc_api_Label_api_Label (by simp) ?_
  refine V_sound ?_
  have e1 : IntKind.u64.wrap (l.length : Int) = (l.length : Int) := by rw [IntKind.wrap_u64]; omega
  simp only [c_slices_SortFunc_api_Label_api_Label, go_sem, hb, e1]
  refine call0 (BitsLen_rc _ (by omega) (by omega)) ?_
  simp only [go_sem, hb]
  refine call1 (pdq_rc hb hn hMB _) (by simp only [go_sem]; rfl) (fun h => Bool.noConfusion h) ?_
  simp only [go_sem]
  refine fin_own (.inl rfl) (Gh.refl _) [] (qs := []) (cnd := True) rfl trivial (List.append_nil _).symm ?_ ?_ ?_ ?_
  · show leS (SV.tup []) (SV.tup []); rw [leS_self]; trivial
  · rw [List.length_set]; exact Nat.le_refl _
  · simp only [go_sem]
  · exact ltB_setRows hMB
end Go.Proofs.YtcmkhlfjcdchmaaGreat.A
end
section
namespace Go.Proofs.YtcmkhlfjcdchmaaGreat.A
open Go Go.Proofs Go.Proofs.YtcmkhlfjcdchmaaGreatAbs
/-- The labels behind an opening brace. -/
def parG : Nat → List UInt8 → List Lb → Option (List Lb)
  | 0, _, _ => none
  | n + 1, rest, ls =>
    if (Lib.cut rest [61, 34]).2.2 = false then none else
    match quo (Lib.cut rest [61, 34]).2.1 with
    | none => none
    | some (_, []) => none
    | some (a, x :: t) => if ls.length = 4 then none else if x = 44 then parG n t (ls ++ [⟨mkS (Lib.cut rest [61, 34]).1, mkS a⟩]) else if x = 125 ∧ t = [] then some (ls ++ [⟨mkS (Lib.cut rest [61, 34]).1, mkS a⟩]) else none
def parAll (s : List UInt8) : Option (List Lb) := if (Lib.cut s [123]).2.2 then parG 5 (Lib.cut s [123]).2.1 [] else some []
def parS (s : ByteArray) : Option Ser := (parAll (bs s)).bind fun ls => if serOk ⟨mkS (Lib.cut (bs s) [123]).1, sortLb ls⟩ then some ⟨mkS (Lib.cut (bs s) [123]).1, sortLb ls⟩ else none
def parR (s : ByteArray) : SV := match parS s with
  | some x => .tup [serA x, .i 0]
  | none => .tup [serA ⟨mkS [], []⟩, .i 2]
theorem cut_len (s sep : List UInt8) : (Lib.cut s sep).1.length ≤ s.length ∧ (Lib.cut s sep).2.1.length ≤ s.length := by
  unfold Lib.cut
  split
  · exact ⟨by rw [List.length_take]; omega, by rw [List.length_drop]; omega⟩
  · exact ⟨Nat.le_refl _, Nat.zero_le _⟩
theorem quo_len : ∀ {l a r : List UInt8}, quo l = some (a, r) → a.length + r.length < l.length
  | [], a, r, h => by cases h
  | [c], a, r, h => by
    simp only [quo] at h
    split at h
    · cases h; simp
    · cases h
  | c :: d :: l, a, r, h => by
    simp only [quo] at h
    split at h
    · cases h; simp
    · split at h
      · split at h
        · obtain ⟨⟨a', r'⟩, h1, h2⟩ := Option.map_eq_some_iff.1 h
          cases h2
          have := quo_len h1
          simp only [List.length_cons] at this ⊢
          omega
        · cases h
      · obtain ⟨⟨a', r'⟩, h1, h2⟩ := Option.map_eq_some_iff.1 h
        cases h2
        have := quo_len h1
        simp only [List.length_cons] at this ⊢
        omega
theorem sub_ser (n : ByteArray) (l : List Lb) (c : Nat → Nat → CV) (h : ∀ i, i < l.length → ∀ j, j < 2 → c i j = (l.getD i default).c j) : SubP (.agg [.c (.v (.string n)), .c (.imm 2 l.length c)]) (serA ⟨n, l⟩) := subP_agg2 (SubA.refl _) (subA_imm h)
theorem sub_zero : SubP (.agg [.c (.v (.string ⟨#[]⟩)), .c (.v (.slice none 0 0))]) (serA ⟨mkS [], []⟩) := subP_agg2 (SubA.refl _) (subA_nil 2 _)
theorem lbRows_get (l : List Lb) {i j : Nat} (hi : i < l.length) (hj : j < 2) : toC (((lbRows l).getD (0 + i) []).getD j default) = (l.getD i default).c j := by
  have : (lbRows l).getD (0 + i) [] = lbRow (l.getD i default) := by
    rw [Nat.zero_add, List.getD_eq_getElem?_getD, List.getD_eq_getElem?_getD, lbRows, List.getElem?_map, List.getElem?_eq_getElem hi]; rfl
  rw [this]
  match j, hj with
  | 0, _ => rfl
  | 1, _ => rfl
set_option maxRecDepth 20000 in
theorem Parse_rc (s : ByteArray) (hs : s.size < 4294967281) (M : List Blk) : CallR Tryz.prog M n_label_Parse [.s s] (parR s) M := by
  refine callPS F_label_Parse (Nat.le_of_ble_eq_true rfl) (by simp only [go_sem]) (by unfold parR; split <;> simp only [go_sem]) ?_ M
  refine run_seqV ?_
  simp only [go_sem]
  refine run_seqV ?_
  simp only [go_sem]
  refine call0 (Cut_rc s (mkS [123]) hs) ?_
  simp only [go_sem]
  refine run_seqV ?_
  simp only [go_sem]
  refine run_gh (gh_born_cell (b := 1) (i := 0) (j := 1) rfl rfl rfl 128 2) ?_
  refine run_seqV ?_
  simp only [go_sem]
  obtain ⟨nm, hnm⟩ : ∃ nm, nm = (cutS s (mkS [123])).1 := ⟨_, rfl⟩
  have hns : nm.size ≤ s.size := by
    have := (cut_len (bs s) [123]).1
    rw [hnm]
    show (mkS (Lib.cut (bs s) [123]).1).size ≤ s.size
    rw [mk_size, ← bs_len]
    exact this
  rw [← hnm]
  refine R_loop (ι := Nat × Bool × List Lb × ByteArray × Bool) (J := fun p => p.2.2.2.1.size ≤ s.size ∧ p.2.2.1.length ≤ 4 ∧ (∀ y ∈ p.2.2.1, zS y.name ∧ zS y.value) ∧ (if p.2.2.2.2 then parG (5 - p.2.2.1.length) (bs p.2.2.2.1) p.2.2.1 else some p.2.2.1) = parAll (bs s))
    (env := fun p => [(2, .p (.one (.ptr 0 0 0 0))), (5, .s p.2.2.2.1), (7, .p (.one (.ptr 1 0 0 0))), (8, .b p.2.2.2.2)])
    (mem := fun p => [.rows 99 2 0 [[.c (.v (.string ⟨#[]⟩)), .c (.v (.slice none 0 0))]] true, .rows 99 2 0 [[.c (.v (.string nm)), .arr 2 2 p.1 0 p.2.2.1.length]] true, .rows 128 2 p.1 (lbRows p.2.2.1) p.2.1])
    (μ := fun p => 5 - p.2.2.1.length) (0, true, [], (cutS s (mkS [123])).2.1, (cutS s (mkS [123])).2.2) ⟨?_, Nat.zero_le _, by simp, ?_⟩ ⟨[], ?_, Nat.zero_le _, ?_, ?_⟩ ?_
  · have := (cut_len (bs s) [123]).2
    show (mkS (Lib.cut (bs s) [123]).2.1).size ≤ s.size
    rw [mk_size, ← bs_len]
    exact this
  · rfl
  · simp only [go_sem, fillL, lbRows]
  · simp only [go_sem]
  · simp only [go_sem, ltB]
    exact fun r hr => (lt_lbRows 3 _ r hr).2
  rintro ⟨v, f, ls, rest, ok⟩ ⟨hrest, hls, hz, hpar⟩
  simp only at hrest hls hz hpar
  refine run_seqV ?_
  cases ok with
  | false =>
    simp only [Bool.false_eq_true, if_false] at hpar
    simp only [go_sem]
    refine run_seqV ?_
    simp only [go_sem]
    have hlen : (sortLb ls).length = ls.length := sortTo_length
    have hzs : ∀ y ∈ sortLb ls, zS y.name ∧ zS y.value := sortTo_mem hz (Nat.le_refl _)
    refine call1 (Sort_rc (b := 2) (v := v) (l := ls) (f := f) rfl (by omega) ?_) (by simp only [go_sem]) (fun h => Bool.noConfusion h) ?_
    · simp only [go_sem, ltB]
      exact fun r hr => (lt_lbRows 3 _ r hr).2
    simp only [go_sem]
    refine run_gh (gh_freeze (b := 2) rfl ?_) ?_
    · intro r hr a ha
      obtain ⟨y, _, rfl⟩ := List.mem_map.1 hr
      rcases List.mem_cons.1 ha with rfl | ha
      · exact ⟨_, rfl⟩
      · obtain rfl := List.mem_singleton.1 ha; exact ⟨_, rfl⟩
    refine run_seqV ?_
    simp only [go_sem, hlen]
    have hsub : ∀ c : Nat → Nat → CV, (∀ i, i < ls.length → ∀ j, j < 2 → c i j = ((sortLb ls).getD i default).c j) → SubP (.agg [.c (.v (.string nm)), .c (.imm 2 ls.length c)]) (serA ⟨nm, sortLb ls⟩) := by
      intro c h
      have := sub_ser nm (sortLb ls) c (by rw [hlen]; exact h)
      rw [hlen] at this
      exact this
    have hgt : ∀ i, i < ls.length → ∀ j, j < 2 → toC (((lbRows (sortLb ls)).getD i []).getD j default) = ((sortLb ls).getD i default).c j := by
      intro i hi j hj
      have := lbRows_get (sortLb ls) (i := i) (by rw [hlen]; exact hi) hj
      rw [Nat.zero_add] at this
      exact this
    have hx : zSer ⟨nm, sortLb ls⟩ := by
      refine ⟨by unfold zS; simp only; omega, by simp only [hlen]; omega, fun i hi => hzs _ ?_⟩
      rw [List.getD_eq_getElem?_getD, List.getElem?_eq_getElem hi]
      exact List.getElem_mem _
    refine call0 (fun M => (Check_rc ⟨nm, sortLb ls⟩ hx M).sub ⟨hsub _ hgt, trivial⟩) ?_
    simp only [go_sem]
    have hnm' : nm = mkS (Lib.cut (bs s) [123]).1 := hnm
    by_cases hok : serOk ⟨nm, sortLb ls⟩ = true
    · rw [if_pos hok]
      have hR : parR s = .tup [serA ⟨nm, sortLb ls⟩, .i 0] := by
        unfold parR parS
        rw [← hpar, Option.bind_some, ← hnm', if_pos hok]
      rw [hR]
      refine ⟨fun h => absurd h (by decide), fun _ => V_sound ?_⟩
      simp only [go_sem]
      exact subS_tup2 (hsub _ hgt) (SubP.refl _)
    · rw [if_neg hok]
      have hR : parR s = .tup [serA ⟨mkS [], []⟩, .i 2] := by
        unfold parR parS
        rw [← hpar, Option.bind_some, ← hnm', if_neg hok]
      rw [hR]
      refine ⟨fun _ => subS_tup2 sub_zero (SubP.refl _), fun h => absurd h (by decide)⟩
  | true =>
    simp only [go_sem]
    refine run_block ?_
    refine run_seqV ?_
    simp only [go_sem]
    refine call0 (Cut_rc rest (mkS [61, 34]) (by omega)) ?_
    obtain ⟨⟨kk, rr, fd⟩, hc⟩ : ∃ c, c = Lib.cut (bs rest) [61, 34] := ⟨_, rfl⟩
    have hcs : cutS rest (mkS [61, 34]) = (mkS kk, mkS rr, fd) := by
      show (mkS (Lib.cut (bs rest) [61, 34]).1, mkS (Lib.cut (bs rest) [61, 34]).2.1, (Lib.cut (bs rest) [61, 34]).2.2) = _
      rw [← hc]
    have hcl := cut_len (bs rest) [61, 34]
    obtain ⟨n, hn⟩ : ∃ n, 5 - ls.length = n + 1 := ⟨4 - ls.length, by omega⟩
    simp only [if_true, hn, parG, ← hc] at hpar hcl
    rw [bs_len] at hcl
    rw [hcs]
    have herr : parAll (bs s) = none → SubS (.tup [.agg [.c (.v (.string ⟨#[]⟩)), .c (.v (.slice none 0 0))], .i 2]) (parR s) := by
      intro h
      have : parR s = .tup [serA ⟨mkS [], []⟩, .i 2] := by unfold parR parS; rw [h]; rfl
      rw [this]
      exact subS_tup2 sub_zero (SubP.refl _)
    simp only [go_sem]
    refine run_seqV ?_
    simp only [go_sem]
    refine call0 (quoted_rc (mkS rr) (by rw [mk_size]; omega)) ?_
    cases fd with
    | false =>
      have hp : parAll (bs s) = none := by rw [← hpar]; rfl
      simp only [go_sem]
      refine run_seqV ?_
      simp only [go_sem]
      exact ⟨fun _ => herr hp, fun h => absurd h (by simp)⟩
    | true =>
      simp only [Bool.true_eq_false, if_false] at hpar
      cases hq : quo rr with
      | none =>
        rw [hq] at hpar
        have hqs : quotS (mkS rr) = (mkS [], mkS [], false) := by unfold quotS; rw [bs_mk, hq]
        rw [hqs]
        simp only [go_sem]
        refine run_seqV ?_
        simp only [go_sem]
        exact ⟨fun _ => herr hpar.symm, fun h => absurd h (by simp)⟩
      | some at_ =>
        obtain ⟨aa, tt⟩ := at_
        rw [hq] at hpar
        have hqs : quotS (mkS rr) = (mkS aa, mkS tt, true) := by unfold quotS; rw [bs_mk, hq]
        rw [hqs]
        simp only [go_sem]
        refine run_seqV ?_
        cases tt with
        | nil =>
          simp only [go_sem]
          exact ⟨fun _ => herr hpar.symm, fun h => absurd h (by simp)⟩
        | cons x t =>
          simp only [go_sem] at hpar ⊢
          have hne : decide (mkS (x :: t) = mkS []) = false := by
            rw [decide_eq_false_iff_not]
            intro e
            have := congrArg bs e
            rw [bs_mk, bs_mk] at this
            cases this
          have hql := quo_len hq
          rw [List.length_cons] at hql
          by_cases h4 : ls.length = 4
          · rw [if_pos h4] at hpar
            refine ⟨fun _ => herr hpar.symm, fun h => ?_⟩
            exfalso
            rw [h4] at h
            simp at h
          rw [if_neg h4] at hpar
          refine ⟨fun h => ?_, fun _ => ?_⟩
          · exfalso
            rw [hne] at h
            simp at h
            omega
          refine run_seqV ?_
          simp only [go_sem]
          refine ⟨by omega, ?_⟩
          refine run_seqV ?_
          simp only [go_sem]
          have hrow : lbRows ls ++ [[.c (.v (.string (mkS kk))), .c (.v (.string (mkS aa)))]] = lbRows (ls ++ [⟨mkS kk, mkS aa⟩]) := by simp [lbRows, lbRow]
          have hext : (mkS (x :: t)).extract (Int.toNat 1) (mkS (x :: t)).size = mkS t := bs_inj (by rw [bs_extract, bs_mk, bs_mk, mk_size]; simp)
          have hz' : ∀ y ∈ ls ++ [⟨mkS kk, mkS aa⟩], zS y.name ∧ zS y.value := by
            intro y hy
            rcases List.mem_append.1 hy with hy | hy
            · exact hz y hy
            · obtain rfl := List.mem_singleton.1 hy
              unfold zS
              rw [mk_size, mk_size]
              omega
          have hn' : 5 - (ls ++ [(⟨mkS kk, mkS aa⟩ : Lb)]).length = n := by simp only [List.length_append, List.length_cons, List.length_nil]; omega
          have hl' : (ls ++ [(⟨mkS kk, mkS aa⟩ : Lb)]).length ≤ 4 := by simp only [List.length_append, List.length_cons, List.length_nil]; omega
          by_cases hx : x = 44
          · subst hx
            rw [if_pos rfl] at hpar
            refine ⟨by simp, fun h => absurd h (by simp), fun _ => V_sound ?_⟩
            simp only [go_sem, hext, hrow]
            refine ⟨by simp; omega, (v + 1, false, ls ++ [⟨mkS kk, mkS aa⟩], mkS t, true), ⟨?_, hl', hz', ?_⟩, by simp only []; omega, [.rows 128 2 0 [[.c (.v (.string (mkS kk))), .c (.v (.string (mkS aa)))]] true], by simp only [List.length_append, List.length_cons, List.length_nil, List.cons_append, List.nil_append], Nat.zero_le _, ?_, ?_⟩
            · simp only [mk_size]; omega
            · simp only [if_true, hn', bs_mk]; exact hpar
            · simp only [go_sem, List.length_append]
              exact ⟨hext, rfl⟩
            · simp only [go_sem, ltB]
              exact fun r hr => (lt_lbRows 3 _ r hr).2
          · rw [if_neg hx] at hpar
            have hx' : ((x.toNat : Int) == 44) = false := by
              rw [beq_eq_false_iff_ne]
              exact fun e => hx (UInt8.toNat_inj.1 (by show x.toNat = 44; omega))
            by_cases hy : x = 125 ∧ t = []
            · rw [if_pos hy] at hpar
              obtain ⟨rfl, rfl⟩ := hy
              refine ⟨by simp, fun h => absurd h (by simp), fun _ => V_sound ?_⟩
              simp only [go_sem, hext, hrow, hx']
              refine ⟨by simp, (v + 1, false, ls ++ [⟨mkS kk, mkS aa⟩], mkS [], false), ⟨?_, hl', hz', ?_⟩, by simp only []; omega, [.rows 128 2 0 [[.c (.v (.string (mkS kk))), .c (.v (.string (mkS aa)))]] true], by simp only [List.length_append, List.length_cons, List.length_nil, List.cons_append, List.nil_append], Nat.zero_le _, ?_, ?_⟩
              · simp only [mk_size]; exact Nat.zero_le _
              · simp only [Bool.false_eq_true, if_false]; exact hpar
              · simp only [go_sem, List.length_append]
                exact hext
              · simp only [go_sem, ltB]
                exact fun r hr => (lt_lbRows 3 _ r hr).2
            · rw [if_neg hy] at hpar
              have hd : decide (mkS (x :: t) = mkS [125]) = false := by
                rw [decide_eq_false_iff_not]
                intro e
                have := congrArg bs e
                rw [bs_mk, bs_mk] at this
                cases this
                exact hy ⟨rfl, rfl⟩
              refine ⟨by simp, fun _ => herr hpar.symm, fun h => ?_⟩
              exfalso
              rw [hx', hd] at h
              simp at h
end Go.Proofs.YtcmkhlfjcdchmaaGreat.A
end
section
namespace Go.Proofs.YtcmkhlfjcdchmaaGreat.A
open Go Go.Proofs.YtcmkhlfjcdchmaaGreatAbs
instance : DecidableEq Lb := fun a b => if h : a.name = b.name ∧ a.value = b.value then isTrue (by cases a; cases b; simp_all) else isFalse (fun e => h (by rw [e]; exact ⟨rfl, rfl⟩))
instance : DecidableEq Ser := fun a b => if h : a.name = b.name ∧ a.labels = b.labels then isTrue (by cases a; cases b; simp_all) else isFalse (fun e => h (by rw [e]; exact ⟨rfl, rfl⟩))
def lightS (s : Ser) : Nat → Option Nat
  | 0 => some s.name.size
  | i + 1 => (lightS s i).bind fun n => if 3000 < n ∨ 3000 < (s.labels.getD i default).name.size ∨ 3000 < (s.labels.getD i default).value.size then none else some (n + (s.labels.getD i default).name.size + (s.labels.getD i default).value.size)
def lightB (s : Ser) : Bool := match lightS s (min s.labels.length 30) with
  | some n => decide (n ≤ 6000) && decide (s.labels.length ≤ 30)
  | none => false
theorem lightS_none {s : Ser} {i : Nat} (h : lightS s i = none) : ∀ j, i ≤ j → lightS s j = none := by
  intro j hj
  induction j with
  | zero => have : i = 0 := by omega
            subst this; exact h
  | succ j ih =>
    by_cases e : i = j + 1
    · rw [← e]; exact h
    · rw [lightS, ih (by omega)]; rfl
/-- What the law's light lets in. -/
structure LightP (s : Ser) : Prop where
  name : s.name.size ≤ 6000
  len : s.labels.length ≤ 30
  lb : ∀ i, i < s.labels.length → (s.labels.getD i default).name.size ≤ 3000 ∧ (s.labels.getD i default).value.size ≤ 3000
theorem lightS_some {s : Ser} : ∀ {i n : Nat}, lightS s i = some n → s.name.size ≤ n ∧ ∀ j, j < i → (s.labels.getD j default).name.size ≤ 3000 ∧ (s.labels.getD j default).value.size ≤ 3000
  | 0, n, h => by injection h with h; exact ⟨by omega, fun j hj => by omega⟩
  | i + 1, n, h => by
    rw [lightS, Option.bind_eq_some_iff] at h
    obtain ⟨m, hm, h⟩ := h
    obtain ⟨h1, h2⟩ := lightS_some hm
    split at h
    · cases h
    · injection h with h
      refine ⟨by omega, fun j hj => ?_⟩
      by_cases e : j = i
      · subst e; omega
      · exact h2 j (by omega)
theorem lightB_p {s : Ser} (h : lightB s = true) : LightP s := by
  unfold lightB at h
  split at h
  · rename_i n hn
    simp only [Bool.and_eq_true, decide_eq_true_eq] at h
    obtain ⟨h1, h2⟩ := lightS_some hn
    exact ⟨by omega, h.2, fun i hi => h2 i (by omega)⟩
  · cases h
theorem lb_ext {x y : Lb} (h1 : x.name = y.name) (h2 : x.value = y.value) : x = y := by cases x; cases y; simp_all
theorem eqLb (x y : Lb) : (decide (x.name = y.name) && (decide (x.value = y.value) && true)) = decide (x = y) := by
  by_cases h : x = y
  · subst h; simp
  · rw [decide_eq_false h]
    by_cases h1 : x.name = y.name
    · have : ¬ x.value = y.value := fun h2 => h (lb_ext h1 h2)
      simp [this]
    · simp [h1]
theorem neLb (x y : Lb) : (!decide (x.name = y.name) || !decide (x.value = y.value)) = !decide (x = y) := by
  rw [← eqLb, Bool.and_true, Bool.not_and]
/-- Lists that are alike place by place. -/
theorem list_eq {α : Type} {a b : List α} {d : α} (hl : a.length = b.length) (h : ∀ j, j < a.length → a.getD j d = b.getD j d) : a = b := by
  refine List.ext_getElem hl (fun i h1 h2 => ?_)
  have := h i h1
  rwa [getD_get h1, getD_get h2] at this
/-- The value that a series has of a name. -/
def valOf (l : List Lb) (name : ByteArray) : ByteArray := match l.find? (fun x => decide (x.name = name)) with
  | some x => x.value
  | none => mkS []
theorem valOf_at {l : List Lb} {name : ByteArray} {k : Nat} (hk : k < l.length) (h : ∀ i, i < k → (l.getD i default).name ≠ name) (he : (l.getD k default).name = name) : valOf l name = (l.getD k default).value := by
  unfold valOf
  have : l.find? (fun x => decide (x.name = name)) = some (l.getD k default) := by
    rw [List.find?_eq_some_iff_getElem]
    refine ⟨decide_eq_true he, k, hk, (getD_get hk).symm, fun j hj => ?_⟩
    have := h j hj
    rw [getD_get (by omega)] at this
    simpa using this
  rw [this]
theorem valOf_none {l : List Lb} {name : ByteArray} (h : ∀ i, i < l.length → (l.getD i default).name ≠ name) : valOf l name = mkS [] := by
  unfold valOf
  have : l.find? (fun x => decide (x.name = name)) = none := by
    rw [List.find?_eq_none]
    intro x hx
    obtain ⟨i, hi, rfl⟩ := (mem_getD (d := default)).1 hx
    simpa using h i hi
  rw [this]
def untilS (s : ByteArray) (c : Int) : Nat → Nat → Nat
  | 0, at_ => at_
  | n + 1, at_ => if at_ < s.size ∧ (((bs s).getD at_ 0).toNat : Int) ≠ c then untilS s c n (at_ + 1) else at_
theorem until_rc (s : ByteArray) (hs : zS s) (at_ : Nat) (c : Int) (hat : at_ ≤ 140737488355328) (M : List Blk) : CallR Tryz.prog M n_windroseref03_until [.s s, .i at_, .one (.c (.v (.int .u8 c)))] (.i (untilS s c (s.size - at_) at_)) M := by
  refine callP F_windroseref03_until (Nat.le_of_ble_eq_true rfl) (by simp only [go_sem]) (by simp only [go_sem]) ?_ M
  simp only [c_windroseref03_until, go_sem]
  refine V_loop (ι := Nat) (J := fun k => at_ ≤ k ∧ k ≤ 140737488355328 ∧ untilS s c (s.size - k) k = untilS s c (s.size - at_) at_) (env := fun k => [(0, .s s), (1, .i k), (2, .p (.one (.c (.v (.int .u8 c)))))])
    (mem := fun _ => []) (μ := fun k => s.size - k) at_ ⟨Nat.le_refl _, hat, rfl⟩ (into0 (by simp only [go_sem])) ?_
  rintro k ⟨hk, hkb, hu⟩
  simp only [go_sem]
  have hz : s.size ≤ 140737488355328 := hs
  refine ⟨fun h => by omega, fun h1 => ?_, fun h1 => ?_⟩
  · simp only [Bool.and_eq_true, decide_eq_true_eq, bne_iff_ne, ne_eq] at h1
    refine ⟨k + 1, ⟨by omega, by omega, ?_⟩, by omega, into0 ?_⟩
    · rw [← hu, show s.size - k = (s.size - (k + 1)) + 1 by omega, untilS, if_pos h1]
    · simp only [go_sem, w64s (show k < 9223372036854775807 by omega)]
  · rw [← hu]
    have h1 : ¬ (k < s.size ∧ (((bs s).getD k 0).toNat : Int) ≠ c) := by
      rintro ⟨a, b⟩
      rw [decide_eq_true a] at h1
      simp at h1
      exact b h1
    cases hn : s.size - k with
    | zero => rfl
    | succ n => rw [untilS, if_neg h1]
end Go.Proofs.YtcmkhlfjcdchmaaGreat.A
end
section
namespace Go.Proofs.YtcmkhlfjcdchmaaGreat.A
open Go Go.Proofs Go.Proofs.YtcmkhlfjcdchmaaGreatAbs
def fAt (l : List UInt8) (c : UInt8) : Nat := l.findIdx (· == c)
theorem until_f (s : ByteArray) (c : UInt8) : ∀ (n at_ : Nat), n = s.size - at_ → at_ ≤ s.size → untilS s c.toNat n at_ = at_ + fAt ((bs s).drop at_) c
  | 0, at_, hn, ha => by
    have : (bs s).drop at_ = [] := List.eq_nil_of_length_eq_zero (by rw [List.length_drop, bs_len]; omega)
    rw [untilS, this]; rfl
  | n + 1, at_, hn, ha => by
    have hl : at_ < (bs s).length := by rw [bs_len]; omega
    rw [untilS, drop_getD 0 hl, fAt, List.findIdx_cons]
    by_cases h : (bs s).getD at_ 0 = c
    · rw [if_neg (by rw [h]; simp), h]
      simp
    · have h' : ¬ (((bs s).getD at_ 0).toNat : Int) = (c.toNat : Int) := fun e => h (UInt8.toNat_inj.1 (by omega))
      rw [if_pos ⟨by omega, h'⟩, until_f s c n (at_ + 1) (by omega) (by omega)]
      have : ((bs s).getD at_ 0 == c) = false := by simpa using h
      rw [this]
      show _ = at_ + (fAt _ c + 1)
      omega
/-- Where a label goes. -/
def posL (n : ByteArray) : List Lb → Nat
  | [] => 0
  | y :: l => if sLt y.name n then posL n l + 1 else 0
def insLb (ls : List Lb) (x : Lb) : List Lb := ls.take (posL x.name ls) ++ [x] ++ ls.drop (posL x.name ls)
def refG : Nat → List UInt8 → List Lb → Option (List Lb)
  | 0, _, _ => none
  | n + 1, rest, ls =>
    match rest.drop (fAt rest 61 + 1) with
    | [] => none
    | q :: r => if q ≠ 34 then none else if ls.length = 4 then none else
      match quo r with
      | none => none
      | some (_, []) => none
      | some (a, x :: t) => if x = 44 then refG n t (insLb ls ⟨mkS (rest.take (fAt rest 61)), mkS a⟩) else if x = 125 ∧ t = [] then some (insLb ls ⟨mkS (rest.take (fAt rest 61)), mkS a⟩) else none
def refAll (s : List UInt8) : Option (List Lb) := if fAt s 123 < s.length then refG 5 (s.drop (fAt s 123 + 1)) [] else some []
def refS (s : ByteArray) : Option Ser := (refAll (bs s)).bind fun ls => if serOk ⟨mkS ((bs s).take (fAt (bs s) 123)), ls⟩ then some ⟨mkS ((bs s).take (fAt (bs s) 123)), ls⟩ else none
def refR (s : ByteArray) : SV := match refS s with
  | some x => .tup [serA x, .b true]
  | none => .tup [serA ⟨mkS [], []⟩, .b false]
theorem take_range (ls : List Lb) {k : Nat} (hk : k ≤ ls.length) : ls.take k = (List.range k).map fun i => ls.getD i default := by
  refine List.ext_getElem (by simp; omega) (fun i h1 h2 => ?_)
  simp at h1
  simp [List.getD_eq_getElem?_getD, List.getElem?_eq_getElem (show i < ls.length by omega)]
theorem drop_range (ls : List Lb) (k : Nat) : ls.drop k = (List.range (ls.length - k)).map fun i => ls.getD (k + i) default := by
  refine List.ext_getElem (by simp) (fun i h1 h2 => ?_)
  simp at h1
  simp [List.getD_eq_getElem?_getD, List.getElem?_eq_getElem (show k + i < ls.length by omega)]
theorem posL_le (n : ByteArray) : ∀ l : List Lb, posL n l ≤ l.length
  | [] => Nat.le_refl _
  | y :: l => by
    rw [posL]
    have := posL_le n l
    split <;> simp <;> omega
theorem insLb_len (ls : List Lb) (x : Lb) : (insLb ls x).length = ls.length + 1 := by
  have := posL_le x.name ls
  simp only [insLb, List.length_append, List.length_take, List.length_drop, List.length_singleton]
  omega
theorem posL_is {n : ByteArray} : ∀ {l : List Lb} {k : Nat}, k ≤ l.length → (∀ i, i < k → sLt (l.getD i default).name n = true) → (k < l.length → sLt (l.getD k default).name n = false) → posL n l = k
  | [], k, hk, _, _ => by simp at hk; rw [posL, hk]
  | y :: l, 0, _, _, h => by
    have := h (by simp)
    rw [posL]
    rw [List.getD_cons_zero] at this
    rw [this]; rfl
  | y :: l, k + 1, hk, h1, h2 => by
    have h0 := h1 0 (by omega)
    rw [List.getD_cons_zero] at h0
    rw [posL, if_pos h0, posL_is (k := k) (by simpa using hk) (fun i hi => by have := h1 (i + 1) (by omega); rwa [List.getD_cons_succ] at this) (fun hi => by have := h2 (by simpa using hi); rwa [List.getD_cons_succ] at this)]
theorem fAt_le (l : List UInt8) (c : UInt8) : fAt l c ≤ l.length := List.findIdx_le_length
set_option maxRecDepth 20000 in
theorem rParse_rc (s : ByteArray) (hs : s.size ≤ 2000) (M : List Blk) : CallR Tryz.prog M n_windroseref03_Parse [.s s] (refR s) M := by
  refine callPS F_windroseref03_Parse (Nat.le_of_ble_eq_true rfl) (by simp only [go_sem]) (by unfold refR; split <;> simp only [go_sem]) ?_ M
  have hz : zS s := by unfold zS; omega
  have herr : refS s = none → SubS (.tup [.agg [.c (.v (.string ⟨#[]⟩)), .c (.v (.slice none 0 0))], .b false]) (refR s) := by
    intro h
    have : refR s = .tup [serA ⟨mkS [], []⟩, .b false] := by unfold refR; rw [h]
    rw [this]
    exact subS_tup2 sub_zero (SubP.refl _)
  obtain ⟨at0, hat⟩ : ∃ k, k = fAt (bs s) 123 := ⟨_, rfl⟩
  have hat_le : at0 ≤ s.size := by have := fAt_le (bs s) 123; rw [bs_len] at this; omega
  have hun : untilS s 123 (s.size - 0) 0 = at0 := by
    have := until_f s 123 (s.size - 0) 0 rfl (Nat.zero_le _)
    rw [show (((123 : UInt8).toNat : Nat) : Int) = 123 from rfl] at this
    rw [this, hat, Nat.zero_add]; rfl
  refine run_seqV ?_
  simp only [go_sem]
  refine run_seqV ?_
  simp only [go_sem]
  have hu := until_rc s hz 0 123 (by omega)
  rw [hun] at hu
  refine call0 hu ?_
  simp only [go_sem]
  refine run_seqV ?_
  simp only [go_sem]
  refine ⟨by omega, ?_⟩
  obtain ⟨nm, hnm⟩ : ∃ nm, nm = s.extract 0 at0 := ⟨_, rfl⟩
  have hnm' : nm = mkS ((bs s).take at0) := bs_inj (by rw [hnm, bs_extract, List.drop_zero, Nat.sub_zero]; rfl)
  rw [← hnm]
  refine run_gh (gh_sub_cell (b := 1) (i := 0) (j := 1) (.c (.v (.slice none 0 0))) (.c (lbCV [])) rfl rfl rfl (subA_nil 2 _)) ?_
  refine run_seqV ?_
  simp only [go_sem]
  refine R_loop (ι := Nat × List Lb) (J := fun p => p.1 ≤ s.size ∧ p.2.length ≤ 4 ∧ (∀ y ∈ p.2, zS y.name ∧ zS y.value) ∧ (if p.1 < s.size then refG (5 - p.2.length) ((bs s).drop (p.1 + 1)) p.2 else some p.2) = refAll (bs s))
    (env := fun p => [(0, .s s), (2, .p (.one (.ptr 0 0 0 0))), (4, .i p.1), (5, .p (.one (.ptr 1 0 0 0)))])
    (mem := fun p => [.rows 99 2 0 [[.c (.v (.string ⟨#[]⟩)), .c (.v (.slice none 0 0))]] true, .rows 99 2 0 [[.c (.v (.string nm)), .c (lbCV p.2)]] true])
    (μ := fun p => 5 - p.2.length) (at0, []) ⟨hat_le, Nat.zero_le _, by simp, ?_⟩ ⟨[], ?_, Nat.zero_le _, ?_, ?_⟩ ?_
  · unfold refAll
    rw [← hat, bs_len]
    rfl
  · simp only [go_sem, fillL]
  · simp only [go_sem]
  · simp only [go_sem, ltB]
  rintro ⟨at_, ls⟩ ⟨hat1, hls, hzl, hpar⟩
  simp only at hat1 hls hzl hpar
  refine run_seqV ?_
  simp only [go_sem]
  refine ⟨fun h1 => ?_, fun h1 => ?_⟩
  · rw [if_pos h1] at hpar
    have e1 : IntKind.i64.wrap ((at_ : Int) + 1) = ((at_ + 1 : Nat) : Int) := w64s (by omega)
    refine run_block ?_
    refine run_seqV ?_
    simp only [go_sem, e1]
    refine run_seqV ?_
    simp only [go_sem]
    obtain ⟨rest, hrest⟩ : ∃ r, r = (bs s).drop (at_ + 1) := ⟨_, rfl⟩
    obtain ⟨i, hi⟩ : ∃ i, i = fAt rest 61 := ⟨_, rfl⟩
    have hrl : rest.length = s.size - (at_ + 1) := by rw [hrest, List.length_drop, bs_len]
    have hile : i ≤ rest.length := by rw [hi]; exact fAt_le _ _
    have hun2 : untilS s 61 (s.size - (at_ + 1)) (at_ + 1) = at_ + 1 + i := by
      have := until_f s 61 (s.size - (at_ + 1)) (at_ + 1) rfl (by omega)
      rw [show (((61 : UInt8).toNat : Nat) : Int) = 61 from rfl] at this
      rw [this, hi, hrest]
    have hu := until_rc s hz (at_ + 1) 61 (by omega)
    rw [hun2] at hu
    refine call0 hu ?_
    simp only [go_sem]
    obtain ⟨n, hn⟩ : ∃ n, 5 - ls.length = n + 1 := ⟨4 - ls.length, by omega⟩
    rw [hn, ← hrest, refG, ← hi] at hpar
    have hdr : rest.drop (i + 1) = (bs s).drop (at_ + 1 + i + 1) := by rw [hrest, List.drop_drop]; congr 1
    obtain ⟨eq, heq⟩ : ∃ e, e = at_ + 1 + i := ⟨_, rfl⟩
    rw [hdr, ← heq] at hpar
    rw [← heq]
    have e2 : IntKind.i64.wrap ((eq : Int) + 1) = ((eq + 1 : Nat) : Int) := w64s (by omega)
    have herr' : refAll (bs s) = none → SubS (.tup [.agg [.c (.v (.string ⟨#[]⟩)), .c (.v (.slice none 0 0))], .b false]) (refR s) := fun h => herr (by unfold refS; rw [h]; rfl)
    refine run_seqV ?_
    simp only [go_sem, e2, Int.toNat_natCast]
    by_cases h2 : s.size ≤ eq + 1
    · have hd : (bs s).drop (eq + 1) = [] := List.eq_nil_of_length_eq_zero (by rw [List.length_drop, bs_len]; omega)
      rw [hd] at hpar
      refine ⟨fun h => ?_, fun _ => herr' hpar.symm, fun h => ?_⟩
      · rw [decide_eq_true h2] at h; cases h
      · rw [decide_eq_true h2] at h; simp at h
    · rw [drop_getD 0 (show eq + 1 < (bs s).length by rw [bs_len]; omega)] at hpar
      have hd2 : decide (s.size ≤ eq + 1) = false := decide_eq_false h2
      generalize (bs s).getD (eq + 1) 0 = q at hpar ⊢
      simp only [hd2]
      by_cases hq : q = 34
      case neg =>
        simp only [if_pos (show q ≠ 34 from hq)] at hpar
        refine ⟨fun _ => by omega, fun _ => herr' hpar.symm, fun h => ?_⟩
        exfalso
        simp only [Bool.false_or, Bool.or_eq_false_iff, bne_eq_false_iff_eq] at h
        exact hq (UInt8.toNat_inj.1 (by show q.toNat = 34; omega))
      subst hq
      simp only [ne_eq, not_true_eq_false, if_false] at hpar
      by_cases h4 : ls.length = 4
      · rw [if_pos h4] at hpar
        refine ⟨fun _ => by omega, fun _ => herr' hpar.symm, fun h => ?_⟩
        rw [h4] at h
        simp at h
      rw [if_neg h4] at hpar
      refine ⟨fun _ => by omega, fun h => ?_, fun _ => ?_⟩
      · exfalso
        simp at h
        omega
      refine run_seqV ?_
      simp only [go_sem, Int.toNat_natCast]
      refine ⟨by omega, ?_⟩
      obtain ⟨kk, hkk⟩ : ∃ k, k = s.extract (at_ + 1) eq := ⟨_, rfl⟩
      have hkk' : kk = mkS (rest.take i) := bs_inj (by rw [hkk, bs_extract, ← hrest, heq, Nat.add_sub_cancel_left]; rfl)
      rw [← hkk]
      rw [← hkk'] at hpar
      refine run_seqV ?_
      have e3 : IntKind.i64.wrap ((eq : Int) + 2) = ((eq + 1 + 1 : Nat) : Int) := by rw [w64 (by omega) (by omega)]; omega
      simp only [go_sem, e3]
      refine run_seqV ?_
      simp only [go_sem]
      obtain ⟨pos, hpos⟩ : ∃ p, p = eq + 1 + 1 := ⟨_, rfl⟩
      rw [← hpos] at hpar ⊢
      have hkz : zS kk := by unfold zS; rw [hkk', mk_size, List.length_take]; omega
      refine R_loop (ι := Nat × List UInt8) (J := fun p => p.1 ≤ s.size ∧ p.2.length ≤ p.1 ∧ quo ((bs s).drop pos) = (quo ((bs s).drop p.1)).map (fun q => (p.2 ++ q.1, q.2)))
        (env := fun p => [(0, .s s), (2, .p (.one (.ptr 0 0 0 0))), (4, .i p.1), (5, .p (.one (.ptr 1 0 0 0))), (8, .p (.one (.ptr 2 0 0 0)))])
        (mem := fun p => [.rows 99 2 0 [[.c (.v (.string ⟨#[]⟩)), .c (.v (.slice none 0 0))]] true, .rows 99 2 0 [[.c (.v (.string nm)), .c (lbCV ls)]] true, .rows 128 2 0 [[.c (.v (.string kk)), .c (.v (.string (mkS p.2)))]] true])
        (μ := fun p => s.size - p.1) (pos, []) ⟨by simp only; omega, Nat.zero_le _, by simp⟩ ⟨[], by simp only [go_sem], Nat.zero_le _, by simp only [go_sem], by simp only [go_sem, ltB]⟩ ?_
      rintro ⟨p, acc⟩ ⟨hp, hacc, hquo⟩
      simp only at hp hacc hquo
      refine run_seqV ?_
      simp only [go_sem]
      have e4 : IntKind.i64.wrap ((p : Int) + 1) = ((p + 1 : Nat) : Int) := w64s (by omega)
      refine ⟨fun _ => by omega, fun hc => ?_, fun hc => ?_⟩
      · simp only [Bool.and_eq_true, decide_eq_true_eq] at hc
        obtain ⟨hps, hc34⟩ := hc
        rw [drop_getD 0 (show p < (bs s).length by rw [bs_len]; omega)] at hquo
        refine run_block ?_
        refine run_seqV ?_
        simp only [go_sem, e4, Int.toNat_natCast]
        generalize hc0 : (bs s).getD p 0 = c at hc34 hquo ⊢
        have hc34' : c ≠ 34 := fun e => by rw [e] at hc34; exact absurd hc34 (by decide)
        refine ⟨by omega, fun hc => ?_, fun hc => ?_⟩
        · have hc : c = 92 := UInt8.toNat_inj.1 (by show c.toNat = 92; omega)
          subst hc
          have hq0 : quo ((bs s).drop pos) = none → refAll (bs s) = none := by
            intro h
            rw [h] at hpar
            exact hpar.symm
          by_cases hend : p + 1 = s.size
          · have hd : (bs s).drop (p + 1) = [] := List.eq_nil_of_length_eq_zero (by rw [List.length_drop, bs_len]; omega)
            rw [hd] at hquo
            have eb : ((((p + 1 : Nat) : Int)) == (s.size : Int)) = true := by rw [beq_iff_eq]; omega
            simp only [eb]
            refine ⟨fun h => absurd h (by decide), fun h => absurd h (by simp), fun _ => herr' (hq0 (by rw [hquo]; rfl)), fun h => absurd h (by simp)⟩
          · have eb : ((((p + 1 : Nat) : Int)) == (s.size : Int)) = false := by rw [beq_eq_false_iff_ne]; omega
            have hex : s.extract (p + 1) (p + 1 + 1) = mkS [(bs s).getD (p + 1) 0] := bs_inj (by
              rw [bs_extract, drop_getD 0 (by rw [bs_len]; omega), Nat.add_sub_cancel_left]
              rfl)
            have e5 : IntKind.i64.wrap (((p + 1 : Nat) : Int) + 1) = ((p + 1 + 1 : Nat) : Int) := w64s (by omega)
            rw [drop_getD 0 (show p + 1 < (bs s).length by rw [bs_len]; omega)] at hquo
            generalize (bs s).getD (p + 1) 0 = d at hquo hex ⊢
            simp only [eb, Bool.false_or, Bool.not_false, Bool.true_and]
            refine ⟨fun _ => by omega, fun _ => by omega, fun h => ?_, fun h => ?_⟩
            · have hd : ¬ (d = 34 ∨ d = 92) := by
                rintro (rfl | rfl) <;> exact absurd h (by decide)
              rw [quo_bn hd] at hquo
              exact herr' (hq0 (by rw [hquo]; rfl))
            · have hd : d = 34 ∨ d = 92 := by
                simp only [Bool.and_eq_false_iff, bne_eq_false_iff_eq] at h
                rcases h with h | h
                · exact .inl (UInt8.toNat_inj.1 (by show d.toNat = 34; omega))
                · exact .inr (UInt8.toNat_inj.1 (by show d.toNat = 92; omega))
              rw [quo_b hd] at hquo
              refine run_seqV ?_
              simp only [go_sem, e5, Int.toNat_natCast, hex, mk_append, mk_size, List.length_cons, List.length_nil]
              refine ⟨by omega, by omega, ?_⟩
              refine V_sound ?_
              simp only [go_sem, e5]
              refine ⟨(p + 1 + 1, acc ++ [d]), ⟨by simp only; omega, by simp; omega, ?_⟩, by simp only; omega, [], by simp only [go_sem], Nat.zero_le _, ?_, by simp only [go_sem, ltB]⟩
              · rw [hquo, Option.map_map]
                congr 1
                funext q
                simp
              · simp only [go_sem]
        · have hb' : c ≠ 92 := fun e => hc (by rw [e]; rfl)
          rw [quo_c hc34' hb'] at hquo
          have hex : s.extract p (p + 1) = mkS [c] := bs_inj (by
            rw [bs_extract, drop_getD 0 (by rw [bs_len]; omega), Nat.add_sub_cancel_left, hc0]
            rfl)
          refine run_seqV ?_
          simp only [go_sem, e4, Int.toNat_natCast, hex, mk_append, mk_size, List.length_cons, List.length_nil]
          refine ⟨by omega, by omega, ?_⟩
          refine V_sound ?_
          simp only [go_sem, e4]
          refine ⟨(p + 1, acc ++ [c]), ⟨by simp only; omega, by simp; omega, ?_⟩, by simp only; omega, [], by simp only [go_sem], Nat.zero_le _, ?_, by simp only [go_sem, ltB]⟩
          · rw [hquo, Option.map_map]
            congr 1
            funext q
            simp
          · simp only [go_sem]
      · have e5 : IntKind.i64.wrap ((p : Int) + 1) = ((p + 1 : Nat) : Int) := e4
        refine run_seqV ?_
        simp only [go_sem, e4]
        refine run_seqV ?_
        simp only [go_sem]
        have hq0 : quo ((bs s).drop pos) = none → refAll (bs s) = none := by
          intro h
          rw [h] at hpar
          exact hpar.symm
        by_cases hps : p < s.size
        case neg =>
          have hd : (bs s).drop p = [] := List.eq_nil_of_length_eq_zero (by rw [List.length_drop, bs_len]; omega)
          rw [hd] at hquo
          have eb : decide (s.size ≤ p + 1) = true := decide_eq_true (by omega)
          simp only [eb]
          refine ⟨fun h => absurd h (by decide), fun h => absurd h (by simp), fun _ => herr' (hq0 (by rw [hquo]; rfl)), fun h => absurd h (by simp)⟩
        have hc34 : (bs s).getD p 0 = 34 := by
          simp only [Bool.and_eq_false_iff, decide_eq_false_iff_not, bne_eq_false_iff_eq] at hc
          rcases hc with hc | hc
          · exact absurd hps hc
          · exact UInt8.toNat_inj.1 (by show ((bs s).getD p 0).toNat = 34; omega)
        rw [drop_getD 0 (show p < (bs s).length by rw [bs_len]; omega), hc34, quo_q, Option.map_some, List.append_nil] at hquo
        rw [hquo] at hpar
        by_cases hend : s.size ≤ p + 1
        · have hd : (bs s).drop (p + 1) = [] := List.eq_nil_of_length_eq_zero (by rw [List.length_drop, bs_len]; omega)
          rw [hd] at hpar
          have eb : decide (s.size ≤ p + 1) = true := decide_eq_true hend
          simp only [eb]
          refine ⟨fun h => absurd h (by decide), fun h => absurd h (by simp), fun _ => herr' hpar.symm, fun h => absurd h (by simp)⟩
        have eb : decide (s.size ≤ p + 1) = false := decide_eq_false hend
        have hext : s.extract (p + 1) s.size = mkS ((bs s).drop (p + 1)) := bs_inj (by
          rw [bs_extract, List.take_of_length_le (by rw [List.length_drop, bs_len]; exact Nat.le_refl _)]
          rfl)
        rw [hext]
        rw [drop_getD 0 (show p + 1 < (bs s).length by rw [bs_len]; omega)] at hpar ⊢
        simp only [eb]
        have hx0 : (bs s).getD (p + 1) 0 = (bs s).getD (p + 1) 0 := rfl
        generalize hxe : (bs s).getD (p + 1) 0 = x at hpar ⊢
        obtain ⟨t, ht⟩ : ∃ t, t = (bs s).drop (p + 1 + 1) := ⟨_, rfl⟩
        rw [← ht] at hpar ⊢
        have hdec : decide (mkS (x :: t) = mkS [125]) = decide (x = 125 ∧ t = []) := by
          rw [decide_eq_decide]
          constructor
          · intro e
            have := congrArg bs e
            rw [bs_mk, bs_mk] at this
            cases this
            exact ⟨rfl, rfl⟩
          · rintro ⟨rfl, rfl⟩
            rfl
        simp only at hpar
        refine ⟨fun _ => by omega, fun _ => by omega, fun h => ?_, fun h => ?_⟩
        · have hx1 : ¬ x = 44 := by
            rintro rfl
            exact absurd h (by simp)
          have hx2 : ¬ (x = 125 ∧ t = []) := by
            intro e
            rw [show decide (mkS (x :: t) = { data := #[125] }) = true from hdec.trans (decide_eq_true e)] at h
            simp at h
          rw [if_neg hx1, if_neg hx2] at hpar
          exact herr' hpar.symm
        have hgo : x = 44 ∨ (x = 125 ∧ t = []) := by
          simp only [Bool.false_or, Bool.and_eq_false_iff, bne_eq_false_iff_eq, Bool.not_eq_false'] at h
          rcases h with h | h
          · exact .inl (UInt8.toNat_inj.1 (by show x.toNat = 44; omega))
          · exact .inr (of_decide_eq_true (hdec.symm.trans h))
        refine run_seqV ?_
        simp only [go_sem]
        refine run_seqV ?_
        simp only [go_sem]
        refine R_loop (ι := Nat) (J := fun k => k ≤ ls.length ∧ ∀ i, i < k → sLt (ls.getD i default).name kk = true)
          (env := fun k => [(0, .s s), (2, .p (.one (.ptr 0 0 0 0))), (4, .i (p + 1 : Nat)), (5, .p (.one (.ptr 1 0 0 0))), (8, .p (.one (.ptr 2 0 0 0))), (9, .i k)])
          (mem := fun _ => [.rows 99 2 0 [[.c (.v (.string ⟨#[]⟩)), .c (.v (.slice none 0 0))]] true, .rows 99 2 0 [[.c (.v (.string nm)), .c (lbCV ls)]] true, .rows 128 2 0 [[.c (.v (.string kk)), .c (.v (.string (mkS acc)))]] true])
          (μ := fun k => ls.length - k) 0 ⟨Nat.zero_le _, fun i hi => absurd hi (Nat.not_lt_zero _)⟩ ⟨[], by simp only [go_sem], Nat.zero_le _, by simp only [go_sem], by simp only [go_sem, ltB]⟩ ?_
        rintro k ⟨hk, hlt⟩
        refine run_seqV ?_
        simp only [go_sem]
        refine ⟨fun _ => by omega, fun h2 => ?_, fun h2 => ?_⟩
        · simp only [Bool.and_eq_true, decide_eq_true_eq] at h2
          refine V_sound ?_
          simp only [go_sem]
          refine ⟨k + 1, ⟨by omega, fun i hi => ?_⟩, by omega, [], by simp only [go_sem], Nat.zero_le _, ?_, by simp only [go_sem, ltB]⟩
          · by_cases hik : i = k
            · subst hik; exact h2.2
            · exact hlt i (by omega)
          · simp only [go_sem, w64s (show k < 9223372036854775807 by omega)]
        have hpl : posL kk ls = k := posL_is hk hlt (fun hkl => by
          rw [decide_eq_true hkl, Bool.true_and] at h2
          exact h2)
        refine run_seqV ?_
        simp only [go_sem, List.length_map, List.length_range, List.length_append, List.length_cons, List.length_nil]
        refine ⟨by omega, by omega, by omega, by omega, by omega, by rfl, ?_⟩
        obtain ⟨nl, hnl⟩ : ∃ nl, nl = insLb ls ⟨kk, mkS acc⟩ := ⟨_, rfl⟩
        have hrows : (List.map (fun i => [AV.c (CV.v (Value.string (ls.getD i default).name)), AV.c (CV.v (Value.string (ls.getD i default).value))]) (List.range k) ++ [[AV.c (CV.v (Value.string kk)), AV.c (CV.v (Value.string (mkS acc)))]] ++ List.map (fun i => [AV.c (CV.v (Value.string (ls.getD (k + i) default).name)), AV.c (CV.v (Value.string (ls.getD (k + i) default).value))]) (List.range (ls.length - k))) = lbRows nl := by
          rw [hnl, insLb, show posL (Lb.mk kk (mkS acc)).name ls = k from hpl, take_range ls hk, drop_range ls k, lbRows, List.map_append, List.map_append, List.map_map, List.map_map]
          rfl
        have hnll : k + 1 + (ls.length - k) = nl.length := by rw [hnl, insLb_len]; omega
        rw [hrows, hnll]
        have hcl : closedRows (lbRows nl) := by
          intro r hr a ha
          obtain ⟨y, _, rfl⟩ := List.mem_map.1 hr
          rcases List.mem_cons.1 ha with rfl | ha
          · exact ⟨_, rfl⟩
          · obtain rfl := List.mem_singleton.1 ha; exact ⟨_, rfl⟩
        refine run_gh (gh_freeze (b := 3) (l := lbRows nl) rfl hcl) ?_
        have hM : (List.map (frzB 3 4 (lbRows nl)) [(Blk.rows 99 2 0 [[AV.c (CV.v (Value.string ⟨#[]⟩)), AV.c (CV.v (Value.slice none 0 0))]] true), (Blk.rows 99 2 0 [[AV.c (CV.v (Value.string nm)), AV.arr 2 3 4 0 nl.length]] true), (Blk.rows 128 2 0 [[AV.c (CV.v (Value.string kk)), AV.c (CV.v (Value.string (mkS acc)))]] true), (Blk.rows 128 2 4 (lbRows nl) false), (Blk.rows 128 2 1 [[AV.c (CV.v (Value.string kk)), AV.c (CV.v (Value.string (mkS acc)))]] true)]).set 3 .dead
            = [(Blk.rows 99 2 0 [[AV.c (CV.v (Value.string ⟨#[]⟩)), AV.c (CV.v (Value.slice none 0 0))]] true), (Blk.rows 99 2 0 [[AV.c (CV.v (Value.string nm)), AV.c (CV.imm 2 nl.length fun i j => toC (((lbRows nl).getD (0 + i) []).getD j default))]] true), (Blk.rows 128 2 0 [[AV.c (CV.v (Value.string kk)), AV.c (CV.v (Value.string (mkS acc)))]] true), .dead, (Blk.rows 128 2 1 [[AV.c (CV.v (Value.string kk)), AV.c (CV.v (Value.string (mkS acc)))]] true)] := by
          have : 0 + nl.length ≤ (lbRows nl).length := by rw [lbRows_len]; omega
          simp only [List.map_cons, List.map_nil, List.set_cons_succ, List.set_cons_zero, frzB, frzA, this, and_self, if_true]
        rw [hM]
        refine run_gh (gh_sub_cell (b := 1) (i := 0) (j := 1) _ (.c (lbCV nl)) rfl rfl rfl (subA_imm fun i hi j hj => lbRows_get nl hi hj)) ?_
        refine V_sound ?_
        simp only [go_sem, fillL]
        have hnl4 : nl.length = ls.length + 1 := by rw [hnl, insLb_len]
        have hnz : ∀ y ∈ nl, zS y.name ∧ zS y.value := by
          intro y hy
          rw [hnl, insLb] at hy
          rcases List.mem_append.1 hy with hy | hy
          · rcases List.mem_append.1 hy with hy | hy
            · exact hzl y (List.mem_of_mem_take hy)
            · obtain rfl := List.mem_singleton.1 hy
              exact ⟨hkz, by unfold zS; simp only [mk_size]; omega⟩
          · exact hzl y (List.mem_of_mem_drop hy)
        rw [← hnl] at hpar
        refine ⟨by omega, fun h => ?_, fun h => ?_⟩
        · have hx : x = 125 := UInt8.toNat_inj.1 (by rw [← hxe]; show ((bs s).getD (p + 1) 0).toNat = 125; omega)
          have ht0 : x = 125 ∧ t = [] := hgo.resolve_left (fun e => by rw [hx] at e; exact absurd e (by decide))
          rw [if_neg (show ¬ x = 44 by rw [hx]; decide), if_pos ht0] at hpar
          refine ⟨(s.size, nl), ⟨Nat.le_refl _, by simp only; omega, hnz, ?_⟩, by simp only; omega, [(Blk.rows 128 2 0 [[AV.c (CV.v (Value.string kk)), AV.c (CV.v (Value.string (mkS acc)))]] true), .dead, (Blk.rows 128 2 1 [[AV.c (CV.v (Value.string kk)), AV.c (CV.v (Value.string (mkS acc)))]] true)], rfl, Nat.zero_le _, ?_, ?_⟩
          · rw [if_neg (Nat.lt_irrefl _)]; exact hpar
          · simp only [go_sem]
          · simp only [go_sem, ltB]
        · have hx : x = 44 := by
            rcases hgo with hx | hx
            · exact hx
            · exact absurd (show (((bs s).getD (p + 1) 0).toNat : Int) = 125 by rw [hxe, hx.1]; rfl) h
          rw [if_pos hx] at hpar
          refine ⟨(p + 1, nl), ⟨by simp only; omega, by simp only; omega, hnz, ?_⟩, by simp only; omega, [(Blk.rows 128 2 0 [[AV.c (CV.v (Value.string kk)), AV.c (CV.v (Value.string (mkS acc)))]] true), .dead, (Blk.rows 128 2 1 [[AV.c (CV.v (Value.string kk)), AV.c (CV.v (Value.string (mkS acc)))]] true)], rfl, Nat.zero_le _, ?_, ?_⟩
          · rw [if_pos (show p + 1 < s.size by omega), ← ht, show 5 - nl.length = n by omega]; exact hpar
          · simp only [go_sem]
          · simp only [go_sem, ltB]
  · rw [if_neg h1] at hpar
    have hx : zSer ⟨nm, ls⟩ := by
      refine ⟨by unfold zS; simp only; rw [hnm', mk_size, List.length_take, bs_len]; omega, by simp only; omega, fun i hi => hzl _ ?_⟩
      rw [List.getD_eq_getElem?_getD, List.getElem?_eq_getElem hi]
      exact List.getElem_mem _
    refine run_seqV ?_
    simp only [go_sem]
    refine call0 (May_rc ⟨nm, ls⟩ hx) ?_
    simp only [go_sem]
    by_cases hok : serOk ⟨nm, ls⟩ = true
    · have hR : refR s = .tup [serA ⟨nm, ls⟩, .b true] := by
        unfold refR refS
        rw [← hpar, Option.bind_some, ← hat, ← hnm', if_pos hok]
      rw [hR, hok]
      refine ⟨fun h => absurd h (by decide), fun _ => V_sound ?_⟩
      simp only [go_sem]
      exact SubS.refl _
    · refine ⟨fun _ => herr ?_, fun h => absurd h (by simp [hok])⟩
      unfold refS
      rw [← hpar, Option.bind_some, ← hat, ← hnm', if_neg hok]
end Go.Proofs.YtcmkhlfjcdchmaaGreat.A
end
section
namespace Go.Proofs.YtcmkhlfjcdchmaaGreat.A
open Go Go.Proofs Go.Proofs.YtcmkhlfjcdchmaaGreatAbs
def IsB (M : List Blk) (b c : Nat) (l : List UInt8) : Prop := ∃ a v f, (a = .c (.v (.pointer none)) ∨ a = .ptr b 0 0 0) ∧ M[b]? = some (.rows 147 2 0 [[a, .arr 1 c v 0 l.length]] true) ∧ M[c]? = some (.rows 5 1 v (l.map byteRow) f)
/-- The builder behind k writes. -/
def bR (b c v : Nat) (n : Nat) : Blk := .rows 147 2 0 [[.ptr b 0 0 0, .arr 1 c v 0 n]] true
def bY (v : Nat) (l : List UInt8) : Blk := .rows 5 1 v (l.map byteRow) false
abbrev nilI : Pt := .one (.c (.v .nilIface))
theorem gb {M : List Blk} {b : Nat} {X : Blk} (h : b < M.length) : (M.set b X)[b]? = some X := by rw [List.getElem?_set, if_pos rfl, if_pos h]
theorem gn {M : List Blk} {b c : Nat} {X : Blk} (h : b ≠ c) : (M.set b X)[c]? = M[c]? := by rw [List.getElem?_set, if_neg h]
theorem ga {M D : List Blk} {b : Nat} (h : b < M.length) : (M ++ D)[b]? = M[b]? := List.getElem?_append_left h
theorem gl {M : List Blk} {X : Blk} : (M ++ [X])[M.length]? = some X := by rw [List.getElem?_append_right (Nat.le_refl _), Nat.sub_self]; rfl
theorem sa {M D : List Blk} {b : Nat} {X : Blk} (h : b < M.length) : (M ++ D).set b X = M.set b X ++ D := List.set_append_left _ _ h
theorem gl2 {M : List Blk} {X Y : Blk} {b : Nat} : (M.set b Y ++ [X])[M.length]? = some X := by rw [List.getElem?_append_right (by simp), List.length_set, Nat.sub_self]; rfl
theorem leS_of {s s' : SV} (h : s = s') : leS s s' := by rw [h, leS_self]; trivial
theorem byteRow_map1 (l : List UInt8) (x : UInt8) : l.map byteRow ++ [[.c (.v (.int .u8 x.toNat))]] = (l ++ [x]).map byteRow := by rw [List.map_append]; rfl
theorem byteRow_map (l k : List UInt8) : l.map byteRow ++ k.map byteRow = (l ++ k).map byteRow := (List.map_append ..).symm
theorem ltB_set {M : List Blk} {b : Nat} {X : Blk} {n : Nat} (h : ∀ x ∈ M, ltB n x) (hX : ltB n X) : ∀ x ∈ M.set b X, ltB n x := fun x hx => by
  rcases List.mem_or_eq_of_mem_set hx with hx | rfl
  · exact h x hx
  · exact hX
theorem ltB_bY (n v : Nat) (l : List UInt8) : ltB n (bY v l) := by
  intro r hr a ha
  obtain ⟨x, _, rfl⟩ := List.mem_map.1 hr
  obtain rfl := List.mem_singleton.1 ha
  trivial
theorem ltB_bR {n b c v k : Nat} (h1 : b < n) (h2 : c < n) : ltB n (bR b c v k) := by
  intro r hr a ha
  obtain rfl := List.mem_singleton.1 hr
  rcases List.mem_cons.1 ha with rfl | ha
  · exact h1
  · obtain rfl := List.mem_singleton.1 ha
    exact h2
theorem set2 {M : List Blk} {b c : Nat} (h : b ≠ c) (X Y Z : Blk) : (((M.set b X).set c Y).set b Z) = (M.set b Z).set c Y := by
  rw [List.set_comm _ _ (fun e => h e.symm), List.set_set]
set_option maxRecDepth 20000 in
theorem WriteString_rc {M : List Blk} {b c v : Nat} {a : AV} {l : List UInt8} {f : Bool} (hbc : b ≠ c) (ha : a = .c (.v (.pointer none)) ∨ a = .ptr b 0 0 0) (hb : M[b]? = some (.rows 147 2 0 [[a, .arr 1 c v 0 l.length]] true)) (hc : M[c]? = some (.rows 5 1 v (l.map byteRow) f)) (hMB : ∀ x ∈ M, ltB M.length x) (s : ByteArray) (hs : l.length + s.size ≤ 140737488355328) :
    CallR Tryz.prog M 124 [.one (.ptr b 0 0 0), .s s] (.tup [.i s.size, nilI]) ((M.set b (bR b c (v + 1) (l.length + s.size))).set c (bY (v + 1) (l ++ bs s))) := by
  have hbl : b < M.length := getElem?_lt hb
  have hcl : c < M.length := getElem?_lt hc
  refine callR_intro F_strings_Builder_WriteString (by simp) ?_
  refine V_sound ?_
  simp only [c_strings_Builder_WriteString, go_sem]
  refine call1 (copy_rc hb ha) (by simp only [go_sem]) (fun h => Bool.noConfusion h) ?_
  simp only [go_sem, gb hbl, gn hbc, hc, hbl, List.length_map, byteRow_map, gb (show c < (M.set b (.rows 147 2 0 [[AV.ptr b 0 0 0, AV.arr 1 c v 0 l.length]] true)).length by rw [List.length_set]; exact hcl), gn (fun e => hbc e.symm : c ≠ b)]
  refine ⟨hs, fin_own (.inr rfl) (Gh.refl _) [] (cnd := True) rfl trivial ?_ ?_ ?_ ?_ ?_⟩
  · rw [List.append_nil]
    exact set2 hbc _ _ _
  · exact leS_of rfl
  · rw [List.length_set, List.length_set]; exact Nat.le_refl _
  · simp only [go_sem]
  · rw [List.length_set, List.length_set]
    exact ltB_set (ltB_set hMB (ltB_bR hbl hcl)) (ltB_bY _ _ _)
set_option maxRecDepth 20000 in
theorem WriteByte_rc {M : List Blk} {b c v : Nat} {a : AV} {l : List UInt8} {f : Bool} (hbc : b ≠ c) (ha : a = .c (.v (.pointer none)) ∨ a = .ptr b 0 0 0) (hb : M[b]? = some (.rows 147 2 0 [[a, .arr 1 c v 0 l.length]] true)) (hc : M[c]? = some (.rows 5 1 v (l.map byteRow) f)) (hMB : ∀ x ∈ M, ltB M.length x) (x : UInt8) (hs : l.length + 1 ≤ 140737488355328) :
    CallR Tryz.prog M 125 [.one (.ptr b 0 0 0), .one (.c (.v (.int .u8 x.toNat)))] (.p nilI) ((M.set b (bR b c (v + 1) (l.length + 1))).set c (bY (v + 1) (l ++ [x]))) := by
  have hbl : b < M.length := getElem?_lt hb
  have hcl : c < M.length := getElem?_lt hc
  refine callR_intro F_strings_Builder_WriteByte (by simp) ?_
  refine V_sound ?_
  simp only [c_strings_Builder_WriteByte, go_sem]
  refine call1 (copy_rc hb ha) (by simp only [go_sem]) (fun h => Bool.noConfusion h) ?_
  have hbc' : c ≠ b := fun e => hbc e.symm
  simp only [go_sem, gb hbl, gn hbc, gn hbc', hc, List.length_map, byteRow_map1, gl2, ga, sa, gb, List.length_set, hbl, hcl]
  refine ⟨by omega, fin_own (.inr rfl) (Gh.refl _) [_] (cnd := True) rfl trivial (congrArg (· ++ [_]) (set2 hbc _ _ _)) ?_ ?_ ?_ ?_⟩
  · exact leS_of rfl
  · rw [List.length_set, List.length_set]; exact Nat.le_refl _
  · exact trivial
  · rw [List.length_set, List.length_set]
    exact ltB_set (ltB_set hMB (ltB_bR hbl hcl)) (ltB_bY _ _ _)
set_option maxRecDepth 20000 in
theorem AppendRune_rc {M : List Blk} {c v : Nat} {l : List UInt8} {f : Bool} (hc : M[c]? = some (.rows 5 1 v (l.map byteRow) f)) (hMB : ∀ x ∈ M, ltB M.length x) (x : UInt8) (hx : x.toNat < 128) (hs : l.length + 1 ≤ 140737488355328) :
    CallR Tryz.prog M 148 [.one (.arr 1 c v 0 l.length), .one (.c (.v (.int .i32 x.toNat)))] (.p (.one (.arr 1 c (v + 1) 0 (l.length + 1)))) (M.set c (bY (v + 1) (l ++ [x]))) := by
  have hcl : c < M.length := getElem?_lt hc
  refine callR_intro F_utf8_AppendRune (by simp) ?_
  refine V_sound ?_
  have e1 : IntKind.u32.wrap (x.toNat : Int) = x.toNat := by rw [IntKind.wrap_u32]; omega
  have e2 : IntKind.u8.wrap (x.toNat : Int) = x.toNat := by rw [IntKind.wrap_u8]; omega
  simp only [c_utf8_AppendRune, go_sem, e1, e2, gl, ga, sa, gb, hc, hcl, List.length_map, byteRow_map1]
  refine ⟨fun _ => ⟨by omega, fin_own (.inr rfl) (Gh.refl _) [_] (cnd := True) rfl trivial rfl ?_ ?_ ?_ ?_⟩, fun h => absurd h (by omega)⟩
  · exact leS_of rfl
  · rw [List.length_set]; exact Nat.le_refl _
  · rw [List.length_set]; exact hcl
  · rw [List.length_set]
    exact ltB_set hMB (ltB_bY _ _ _)
set_option maxRecDepth 20000 in
theorem WriteRune_rc {M : List Blk} {b c v : Nat} {a : AV} {l : List UInt8} {f : Bool} (hbc : b ≠ c) (ha : a = .c (.v (.pointer none)) ∨ a = .ptr b 0 0 0) (hb : M[b]? = some (.rows 147 2 0 [[a, .arr 1 c v 0 l.length]] true)) (hc : M[c]? = some (.rows 5 1 v (l.map byteRow) f)) (hMB : ∀ x ∈ M, ltB M.length x) (x : UInt8) (hx : x.toNat < 128) (hs : l.length + 1 ≤ 140737488355328) :
    CallR Tryz.prog M 126 [.one (.ptr b 0 0 0), .one (.c (.v (.int .i32 x.toNat)))] (.tup [.i 1, nilI]) ((M.set b (bR b c (v + 1) (l.length + 1))).set c (bY (v + 1) (l ++ [x]))) := by
  have hbl : b < M.length := getElem?_lt hb
  have hcl : c < M.length := getElem?_lt hc
  have hbc' : c ≠ b := fun e => hbc e.symm
  refine callR_intro F_strings_Builder_WriteRune (by simp) ?_
  refine V_sound ?_
  simp only [c_strings_Builder_WriteRune, go_sem]
  refine call1 (copy_rc hb ha) (by simp only [go_sem]) (fun h => Bool.noConfusion h) ?_
  simp only [go_sem, gb hbl, gn hbc, gn hbc', hc, List.length_map, byteRow_map1, gl2, ga, sa, gb, List.length_set, hbl, hcl]
  refine call1 (AppendRune_rc (by rw [gn hbc]; exact hc) (by rw [List.length_set]; exact ltB_set hMB (ltB_bR (v := v) (k := l.length) hbl hcl)) x hx hs) (by simp only [go_sem]) (fun h => Bool.noConfusion h) ?_
  simp only [go_sem, gb hbl, gn hbc, gn hbc', hc, List.length_map, byteRow_map1, gl2, ga, sa, gb, List.length_set, hbl, hcl, bY]
  have e : IntKind.i64.wrap (((l.length + 1 : Nat) : Int) - l.length) = 1 := by rw [w64 (by omega) (by omega)]; omega
  rw [e]
  refine fin_own (.inr rfl) (Gh.refl _) [] (cnd := True) rfl trivial (by rw [List.append_nil]; exact set2 hbc _ _ _) ?_ ?_ ?_ ?_
  · exact leS_of rfl
  · rw [List.length_set, List.length_set]; exact Nat.le_refl _
  · simp only [go_sem]
  · rw [List.length_set, List.length_set]
    exact ltB_set (ltB_set hMB (ltB_bR hbl hcl)) (ltB_bY _ _ _)
end Go.Proofs.YtcmkhlfjcdchmaaGreat.A
end
section
namespace Go.Proofs.YtcmkhlfjcdchmaaGreat.A
open Go Go.Proofs Go.Proofs.YtcmkhlfjcdchmaaGreatAbs
def esc1 (x : UInt8) : List UInt8 := if x = 34 ∨ x = 92 then [92, x] else [x]
def esc (l : List UInt8) : List UInt8 := l.flatMap esc1
def labT (k : Nat) (x : Lb) : List UInt8 := (if k = 0 then [123] else [44]) ++ (bs x.name ++ [61, 34]) ++ esc (bs x.value) ++ [34]
def textP (s : Ser) : Nat → List UInt8
  | 0 => bs s.name
  | k + 1 => textP s k ++ labT k (s.labels.getD k default)
def prT (s : Ser) : ByteArray := if serOk s then (if s.labels.length = 0 then s.name else mkS (textP s s.labels.length ++ [125])) else mkS []
theorem esc_len (l : List UInt8) : (esc l).length ≤ 2 * l.length := by
  induction l with
  | nil => simp [esc]
  | cons x l ih =>
    have : (esc1 x).length ≤ 2 := by unfold esc1; split <;> simp
    simp only [esc, List.flatMap_cons, List.length_append, List.length_cons] at ih ⊢
    omega
theorem serOk_parts {s : Ser} (h : serOk s = true) : nmOk s.name = true ∧ s.labels.length ≤ 4 ∧ ∀ k, k < s.labels.length → lbOk s.labels k = true := by
  simp only [serOk, Bool.and_eq_true, decide_eq_true_eq, List.all_eq_true, List.mem_range] at h
  exact ⟨h.1.1, h.1.2, h.2⟩
theorem lbOk_parts {l : List Lb} {k : Nat} (h : lbOk l k = true) : nmOk (l.getD k default).name = true ∧ vlOk (l.getD k default).value = true := by
  simp only [lbOk, Bool.and_eq_true] at h
  exact h.1
theorem nm_len {s : ByteArray} (h : nmOk s = true) : s.size ≤ 16 := by
  simp only [nmOk, Bool.and_eq_true, decide_eq_true_eq] at h
  exact h.1.2
theorem vl_parts {s : ByteArray} (h : vlOk s = true) : s.size ≤ 16 ∧ ∀ k, k < s.size → 32 ≤ ((bs s).getD k 0).toNat ∧ ((bs s).getD k 0).toNat ≤ 126 := by
  simp only [vlOk, Bool.and_eq_true, decide_eq_true_eq, List.all_eq_true] at h
  refine ⟨h.1, fun k hk => inR_t.1 (h.2 _ ?_)⟩
  rw [List.getD_eq_getElem?_getD, List.getElem?_eq_getElem (by rw [bs_len]; exact hk)]
  exact List.getElem_mem _
theorem textP_len {s : Ser} (h : serOk s = true) : ∀ k, k ≤ s.labels.length → (textP s k).length ≤ 16 + k * 60
  | 0, _ => by rw [textP, bs_len]; have := nm_len (serOk_parts h).1; omega
  | k + 1, hk => by
    have ih := textP_len h k (by omega)
    have hl := lbOk_parts ((serOk_parts h).2.2 k (by omega))
    have h1 := nm_len hl.1
    have h2 := (vl_parts hl.2).1
    have h3 := esc_len (bs (s.labels.getD k default).value)
    rw [bs_len] at h3
    rw [textP, labT, List.length_append, List.length_append, List.length_append, List.length_append, List.length_append, bs_len]
    have : (if k = 0 then [123] else [44] : List UInt8).length = 1 := by split <;> rfl
    simp only [this, List.length_cons, List.length_nil]
    omega
theorem ltB_rowS (n t : Nat) (x y : CV) : ltB n (.rows t 2 0 [[.c x, .c y]] true) := by
  intro r hr a ha
  obtain rfl := List.mem_singleton.1 hr
  rcases List.mem_cons.1 ha with rfl | ha
  · trivial
  · obtain rfl := List.mem_singleton.1 ha; trivial
/-- The builder's memory. -/
abbrev pM (s : Ser) (v : Nat) (l : List UInt8) : List Blk := [.rows 99 2 0 [[.c (.v (.string s.name)), .c (lbCV s.labels)]] true, bR 1 2 v l.length, bY v l]
theorem pM_lt (s : Ser) (v : Nat) (l : List UInt8) (D : List Blk) (hD : ∀ x ∈ D, ltB (3 + D.length) x) : ∀ x ∈ pM s v l ++ D, ltB (pM s v l ++ D).length x := by
  have e : (pM s v l ++ D).length = 3 + D.length := by simp [pM]; omega
  rw [e]
  intro x hx
  rcases List.mem_append.1 hx with hx | hx
  · simp only [pM, List.mem_cons, List.not_mem_nil, or_false] at hx
    rcases hx with rfl | rfl | rfl
    · exact ltB_rowS _ _ _ _
    · exact ltB_bR (by omega) (by omega)
    · exact ltB_bY _ _ _
  · exact hD x hx
theorem wb (s : Ser) {v : Nat} {l : List UInt8} {D : List Blk} (hD : ∀ x ∈ D, ltB (3 + D.length) x) (x : UInt8) (hn : l.length + 1 ≤ 140737488355328) : CallR Tryz.prog (pM s v l ++ D) 125 [.one (.ptr 1 0 0 0), .one (.c (.v (.int .u8 x.toNat)))] (.p nilI) (pM s (v + 1) (l ++ [x]) ++ D) := by
  have := WriteByte_rc (M := pM s v l ++ D) (b := 1) (c := 2) (v := v) (l := l) (by decide) (.inr rfl) rfl rfl (pM_lt s v l D hD) x hn
  have e : (l ++ [x]).length = l.length + 1 := by simp
  simpa only [pM, e, List.cons_append, List.nil_append, List.set_cons_succ, List.set_cons_zero] using this
theorem ws (s : Ser) {v : Nat} {l : List UInt8} {D : List Blk} (hD : ∀ x ∈ D, ltB (3 + D.length) x) (x : ByteArray) (hn : l.length + x.size ≤ 140737488355328) : CallR Tryz.prog (pM s v l ++ D) 124 [.one (.ptr 1 0 0 0), .s x] (.tup [.i x.size, nilI]) (pM s (v + 1) (l ++ bs x) ++ D) := by
  have := WriteString_rc (M := pM s v l ++ D) (b := 1) (c := 2) (v := v) (l := l) (by decide) (.inr rfl) rfl rfl (pM_lt s v l D hD) x hn
  have e : (l ++ bs x).length = l.length + x.size := by simp [bs_len]
  simpa only [pM, e, List.cons_append, List.nil_append, List.set_cons_succ, List.set_cons_zero] using this
theorem wr (s : Ser) {v : Nat} {l : List UInt8} {D : List Blk} (hD : ∀ x ∈ D, ltB (3 + D.length) x) (x : UInt8) (hx : x.toNat < 128) (hn : l.length + 1 ≤ 140737488355328) : CallR Tryz.prog (pM s v l ++ D) 126 [.one (.ptr 1 0 0 0), .one (.c (.v (.int .i32 x.toNat)))] (.tup [.i 1, nilI]) (pM s (v + 1) (l ++ [x]) ++ D) := by
  have := WriteRune_rc (M := pM s v l ++ D) (b := 1) (c := 2) (v := v) (l := l) (by decide) (.inr rfl) rfl rfl (pM_lt s v l D hD) x hx hn
  have e : (l ++ [x]).length = l.length + 1 := by simp
  simpa only [pM, e, List.cons_append, List.nil_append, List.set_cons_succ, List.set_cons_zero] using this
theorem ltB_1 {t : Nat} {x y : CV} : ∀ z ∈ [Blk.rows t 2 0 [[.c x, .c y]] true], ltB (3 + 1) z := by
  intro z hz
  obtain rfl := List.mem_singleton.1 hz
  exact ltB_rowS _ _ _ _
theorem ltB_2 {t : Nat} {x y : CV} {u : ByteArray} {p : Nat} : ∀ z ∈ [Blk.rows t 2 0 [[.c x, .c y]] true, .sit u p], ltB (3 + 2) z := by
  intro z hz
  rcases List.mem_cons.1 hz with rfl | hz
  · exact ltB_rowS _ _ _ _
  · obtain rfl := List.mem_singleton.1 hz
    trivial
set_option maxRecDepth 20000 in
theorem Print_rc (s : Ser) (hs : zSer s) (M : List Blk) : CallR Tryz.prog M n_label_Print [serA s] (.tup [.s (prT s), .i (if serOk s then 0 else 1)]) M := by
  refine callP F_label_Print (Nat.le_of_ble_eq_true rfl) (by simp only [go_sem]) (by simp only [go_sem]) ?_ M
  simp only [c_label_Print, go_sem]
  refine call0 (Check_rc s hs) ?_
  by_cases hok : serOk s = true
  · simp only [hok, if_true, go_sem]
    obtain ⟨hk1, hk2, hk3⟩ := serOk_parts hok
    refine fun _ => ⟨fun h0 => ?_, fun h0 => ?_⟩
    · rw [prT, if_pos hok, if_pos (by omega)]
    refine call1 (callR_ghost (fun I σ w hm => ⟨_, _, evo_born_cell hm (b := 1) (i := 0) (j := 1) rfl rfl rfl 5 1⟩) (WriteString_rc (b := 1) (c := 2) (v := 0) (l := []) (f := true) (by decide) (.inl rfl) rfl rfl ?_ s.name ?_)) (by simp only [go_sem]) (fun h => Bool.noConfusion h) ?_
    · simp only [go_sem, ltB, fillL]
    · have := nm_len hk1
      simp only [List.length_nil]
      omega
    simp only [go_sem]
    refine V_loop (ι := Nat × Nat) (J := fun p => p.1 ≤ s.labels.length) (env := fun p => [(5, .p (.one (.ptr 1 0 0 0))), (25, .p (lbL s.labels)), (26, .i s.labels.length), (27, .i p.1)])
      (mem := fun p => pM s p.2 (textP s p.1)) (μ := fun p => s.labels.length - p.1) (0, 1) (Nat.zero_le _) ⟨[], ?_, Nat.zero_le _, by simp only [go_sem, pM], ?_⟩ ?_
    · simp only [go_sem, pM, textP, bs_len, List.length_nil, Nat.zero_add]
    · have := pM_lt s 1 (textP s 0) [] (by simp)
      simpa using this
    rintro ⟨k, v⟩ hk
    simp only [go_sem] at hk ⊢
    refine ⟨fun h1 => ⟨by omega, ⟨by split <;> omega, by split <;> simp <;> omega⟩, ?_⟩, fun h1 => ?_⟩
    · have hl := lbOk_parts (hk3 k h1)
      have hnl := nm_len hl.1
      have hvl := vl_parts hl.2
      have htl := textP_len hok k hk
      have ec : [123, 44].getD (if (1 : Int) < (k : Int) then 1 else (k : Int)).toNat (0 : UInt8) = (if k = 0 then 123 else 44) := by
        rcases k with _ | _ | k
        · rfl
        · rfl
        · rw [if_pos (by omega), if_neg (by omega)]; rfl
      rw [ec]
      have hxt : textP s (k + 1) = textP s k ++ labT k (s.labels.getD k default) := rfl
      generalize s.labels.getD k default = x at hl hnl hvl hxt ⊢
      obtain ⟨sep, hsep⟩ : ∃ sep : UInt8, sep = if k = 0 then 123 else 44 := ⟨_, rfl⟩
      rw [← hsep]
      refine call1 (wb s ltB_1 sep (by omega)) (by simp only [go_sem]) (fun h => Bool.noConfusion h) ?_
      simp only [go_sem]
      have hw := ws s (v := v + 1) (l := textP s k ++ [sep]) (D := [.rows 128 2 0 [[.c (.v (.string x.name)), .c (.v (.string x.value))]] true]) ltB_1 (x.name ++ mkS [61, 34]) (by
        simp only [List.length_append, ByteArray.size_append, mk_size, List.length_cons, List.length_nil]; omega)
      refine ⟨by show x.name.size + 2 ≤ _; omega, ?_⟩
      refine call1 hw (by simp only [go_sem]) (fun h => Bool.noConfusion h) ?_
      simp only [go_sem]
      obtain ⟨l0, hl0⟩ : ∃ l0, l0 = textP s k ++ [sep] ++ bs (x.name ++ mkS [61, 34]) := ⟨_, rfl⟩
      have hl0n : l0.length ≤ 40 + k * 60 := by
        rw [hl0]
        simp only [List.length_append, bs_len, ByteArray.size_append, mk_size, List.length_cons, List.length_nil]; omega
      rw [← hl0]
      refine V_loop (ι := Nat × Nat) (J := fun p => p.1 ≤ x.value.size) (env := fun p => [(5, .p (.one (.ptr 1 0 0 0))), (25, .p (lbL s.labels)), (26, .i s.labels.length), (27, .i k), (42, .p (.one (.ptr 4 0 0 0)))])
        (mem := fun p => pM s p.2 (l0 ++ esc ((bs x.value).take p.1)) ++ [.rows 128 2 0 [[.c (.v (.string x.name)), .c (.v (.string x.value))]] true, .sit x.value p.1]) (μ := fun p => x.value.size - p.1) (0, v + 1 + 1) (Nat.zero_le _) ⟨[], ?_, Nat.zero_le _, by simp only [go_sem, pM], pM_lt s _ _ _ ltB_2⟩ ?_
      · simp only [go_sem, esc, List.flatMap_nil]
      rintro ⟨j, u⟩ hj
      simp only [go_sem] at hj ⊢
      by_cases hjs : j < x.value.size
      · have hch := hvl.2 j hjs
        simp only [if_pos hjs, dec_ascii hjs (show ((bs x.value).getD j 0).toNat < 128 by omega), go_sem]
        have hesc : esc ((bs x.value).take (j + 1)) = esc ((bs x.value).take j) ++ esc1 ((bs x.value).getD j 0) := by
          rw [take_succ_getD 0 (by rw [bs_len]; exact hjs)]
          simp [esc]
        have hel := esc_len ((bs x.value).take j)
        rw [List.length_take, bs_len] at hel
        have hn : (l0 ++ esc ((bs x.value).take j)).length ≤ 300 := by rw [List.length_append]; omega
        generalize (bs x.value).getD j 0 = ch at hch hesc ⊢
        refine ⟨fun hc => ?_, fun hc => ?_⟩
        · have hc' : ch = 34 ∨ ch = 92 := by
            simp only [Bool.or_eq_true, beq_iff_eq] at hc
            rcases hc with hc | hc
            · exact .inl (UInt8.toNat_inj.1 (by show ch.toNat = 34; omega))
            · exact .inr (UInt8.toNat_inj.1 (by show ch.toNat = 92; omega))
          rw [esc1, if_pos hc'] at hesc
          have hw1 := wb s (v := u) (l := l0 ++ esc ((bs x.value).take j)) (D := [.rows 128 2 0 [[.c (.v (.string x.name)), .c (.v (.string x.value))]] true, .sit x.value (j + 1)]) ltB_2 92 (by omega)
          refine call1 hw1 (by simp only [go_sem]; rfl) (fun h => Bool.noConfusion h) ?_
          simp only [go_sem]
          have hw2 := wr s (v := u + 1) (l := l0 ++ esc ((bs x.value).take j) ++ [92]) (D := [.rows 128 2 0 [[.c (.v (.string x.name)), .c (.v (.string x.value))]] true, .sit x.value (j + 1)]) ltB_2 ch (by omega) (by rw [List.length_append]; simp only [List.length_cons, List.length_nil]; omega)
          refine call1 hw2 (by simp only [go_sem]) (fun h => Bool.noConfusion h) ?_
          simp only [go_sem]
          refine ⟨(j + 1, u + 1 + 1), by simp only []; omega, by simp only []; omega, [], ?_, Nat.zero_le _, by simp only [go_sem, pM], pM_lt s _ _ _ ltB_2⟩
          simp only [hesc, List.append_nil, List.append_assoc, List.cons_append, List.nil_append]
        · have hc' : ¬ (ch = 34 ∨ ch = 92) := by
            intro h
            apply Bool.false_ne_true
            rw [← hc]
            rcases h with rfl | rfl <;> rfl
          rw [esc1, if_neg hc'] at hesc
          have hw2 := wr s (v := u) (l := l0 ++ esc ((bs x.value).take j)) (D := [.rows 128 2 0 [[.c (.v (.string x.name)), .c (.v (.string x.value))]] true, .sit x.value (j + 1)]) ltB_2 ch (by omega) (by omega)
          refine call1 hw2 (by simp only [go_sem]) (fun h => Bool.noConfusion h) ?_
          simp only [go_sem]
          refine ⟨(j + 1, u + 1), by simp only []; omega, by simp only []; omega, [], ?_, Nat.zero_le _, by simp only [go_sem, pM], pM_lt s _ _ _ ltB_2⟩
          simp only [hesc, List.append_nil, List.append_assoc, List.cons_append, List.nil_append]
      · have ej : j = x.value.size := by omega
        subst ej
        simp only [if_neg hjs, go_sem]
        have hel := esc_len ((bs x.value).take x.value.size)
        rw [List.length_take, bs_len] at hel
        have hw1 := wb s (v := u) (l := l0 ++ esc ((bs x.value).take x.value.size)) (D := [.rows 128 2 0 [[.c (.v (.string x.name)), .c (.v (.string x.value))]] true, .sit x.value x.value.size]) ltB_2 34 (by rw [List.length_append]; omega)
        refine call1 hw1 (by simp only [go_sem]; rfl) (fun h => Bool.noConfusion h) ?_
        simp only [go_sem]
        refine ⟨(k + 1, u + 1), by simp only []; omega, by simp only []; omega, [.rows 128 2 0 [[.c (.v (.string x.name)), .c (.v (.string x.value))]] true, .sit x.value x.value.size], ?_, Nat.zero_le _, ?_, by simpa using pM_lt s (u + 1) (textP s (k + 1)) [] (by simp)⟩
        · have ht : l0 ++ esc ((bs x.value).take x.value.size) ++ [34] = textP s (k + 1) := by
            rw [hxt, hl0, labT, List.take_of_length_le (by rw [bs_len]; exact Nat.le_refl _), bs_append, bs_mk, hsep]
            split <;> (simp; rfl)
          simp only [ht, List.cons_append, List.nil_append]
        · simp only [go_sem, pM, w64s (show k < 9223372036854775807 by omega)]
    · have e : k = s.labels.length := by omega
      subst e
      have htl := textP_len hok _ (Nat.le_refl _)
      have hw := wb s (v := v) (l := textP s s.labels.length) (D := []) (by simp) 125 (by omega)
      refine call1 hw (by simp only [go_sem]; rfl) (fun h => Bool.noConfusion h) ?_
      simp only [go_sem]
      have hst := String_rc (M := pM s (v + 1) (textP s s.labels.length ++ [125])) (b := 1) (c := 2) (l := textP s s.labels.length ++ [125]) rfl rfl (by simp)
      refine call1 hst (by simp only [go_sem]) (fun h => Bool.noConfusion h) ?_
      simp only [go_sem]
      rw [prT, if_pos hok, if_neg (by omega)]
  · simp only [hok, go_sem]
    refine ⟨fun _ => by rw [prT, if_neg hok], fun h => absurd h (by decide)⟩
end Go.Proofs.YtcmkhlfjcdchmaaGreat.A
end
section
namespace Go.Proofs.YtcmkhlfjcdchmaaGreat.A
open Go Go.Proofs Go.Proofs.YtcmkhlfjcdchmaaGreatAbs
def textR (s : Ser) : ByteArray := mkS (textP s s.labels.length ++ (if 0 < s.labels.length then [125] else []))
theorem app_mk (l : List UInt8) (s : ByteArray) : mkS l ++ s = mkS (l ++ bs s) := bs_inj (by rw [bs_append]; rfl)
theorem textR_prT {s : Ser} (h : serOk s = true) : textR s = prT s := by
  rw [textR, prT, if_pos h]
  by_cases h0 : s.labels.length = 0
  · rw [if_neg (by omega), if_pos h0, h0, List.append_nil, textP, mk_bs]
  · rw [if_pos (by omega), if_neg h0]
set_option maxRecDepth 20000 in
theorem Text_rc (s : Ser) (hok : serOk s = true) (M : List Blk) : CallR Tryz.prog M n_windroseref03_Text [serA s] (.s (textR s)) M := by
  obtain ⟨hk1, hk2, hk3⟩ := serOk_parts hok
  refine callPS F_windroseref03_Text (Nat.le_of_ble_eq_true rfl) (by simp only [go_sem]) (by simp only [go_sem]) ?_ M
  refine run_seqV ?_
  simp only [go_sem]
  refine run_seqV ?_
  simp only [go_sem]
  refine run_seqV ?_
  simp only [go_sem]
  refine R_loop (ι := Nat) (J := fun k => k ≤ s.labels.length) (env := fun k => [(1, .p (.one (.ptr 0 0 0 0))), (3, .s (mkS (textP s k))), (4, .i k)])
    (mem := fun _ => [.rows 99 2 0 [[.c (.v (.string s.name)), .c (lbCV s.labels)]] true]) (μ := fun k => s.labels.length - k) 0 (Nat.zero_le _) ⟨[], by simp only [go_sem], Nat.zero_le _, by simp only [go_sem, textP]; exact (mk_bs _).symm, by simp only [go_sem, ltB]⟩ ?_
  intro k hk
  refine run_seqV ?_
  simp only [go_sem]
  refine ⟨fun h1 => ?_, fun h1 => ?_⟩
  · have hl := lbOk_parts (hk3 k h1)
    have hnl := nm_len hl.1
    have hvl := vl_parts hl.2
    have htl := textP_len hok k hk
    have hxt : textP s (k + 1) = textP s k ++ labT k (s.labels.getD k default) := rfl
    refine run_seq ?_
    refine run_block ?_
    refine run_seqV ?_
    simp only [go_sem, mk_append, mk_size]
    refine ⟨fun h0 => ?_, fun h0 => ?_⟩
    · have hlab : labT k (s.labels.getD k default) = [123] ++ (bs (s.labels.getD k default).name ++ [61, 34]) ++ esc (bs (s.labels.getD k default).value) ++ [34] := by rw [labT, if_pos (by omega)]
      refine ⟨by omega, ?_⟩
      refine run_seqV ?_
      simp only [go_sem, app_mk, mk_append, mk_size, List.length_append, List.length_cons, List.length_nil, bs_len]
      refine ⟨by omega, by omega, by omega, ?_⟩
      refine run_seqV ?_
      simp only [go_sem]
      refine ⟨by omega, ?_⟩
      obtain ⟨x, hx⟩ : ∃ x, x = s.labels.getD k default := ⟨_, rfl⟩
      simp only [← hx] at hnl hvl hlab hxt ⊢
      obtain ⟨l0, hl0⟩ : ∃ l0, l0 = textP s k ++ [123] ++ bs x.name ++ bs (mkS [61, 34]) := ⟨_, rfl⟩
      have hl0n : l0.length ≤ 40 + k * 60 := by
        rw [hl0]
        simp only [List.length_append, bs_len, mk_size, List.length_cons, List.length_nil]; omega
      simp only [← hl0]
      refine run_seqV ?_
      simp only [go_sem]
      refine R_loop (ι := Nat) (J := fun j => j ≤ x.value.size) (env := fun j => [(1, .p (.one (.ptr 0 0 0 0))), (3, .s (mkS (l0 ++ esc ((bs x.value).take j)))), (4, .i k), (5, .s x.value), (6, .i j)])
        (mem := fun _ => [.rows 99 2 0 [[.c (.v (.string s.name)), .c (lbCV s.labels)]] true]) (μ := fun j => x.value.size - j) 0 (Nat.zero_le _) ⟨[], by simp only [go_sem], Nat.zero_le _, by simp only [go_sem, esc, List.flatMap_nil], by simp only [go_sem, ltB]⟩ ?_
      intro j hj
      refine run_seqV ?_
      simp only [go_sem]
      have hesc : ∀ (hjs : j < x.value.size), esc ((bs x.value).take (j + 1)) = esc ((bs x.value).take j) ++ esc1 ((bs x.value).getD j 0) := by
        intro hjs
        rw [take_succ_getD 0 (by rw [bs_len]; exact hjs)]
        simp [esc]
      have hel := esc_len ((bs x.value).take j)
      rw [List.length_take, bs_len] at hel
      have hn : (l0 ++ esc ((bs x.value).take j)).length ≤ 300 := by rw [List.length_append]; omega
      have e1 : IntKind.i64.wrap ((j : Int) + 1) = ((j + 1 : Nat) : Int) := w64s (by omega)
      have e2 : IntKind.i64.wrap ((k : Int) + 1) = ((k + 1 : Nat) : Int) := w64s (by omega)
      refine ⟨fun hjs => ?_, fun hjs => ?_⟩
      · have hex : x.value.extract j (j + 1) = mkS [(bs x.value).getD j 0] := bs_inj (by
          rw [bs_extract, drop_getD 0 (by rw [bs_len]; exact hjs), Nat.add_sub_cancel_left]
          rfl)
        have hesc := hesc hjs
        refine run_seq ?_
        refine run_block ?_
        refine run_seqV ?_
        simp only [go_sem, mk_append, mk_size]
        generalize (bs x.value).getD j 0 = ch at hesc hex ⊢
        refine ⟨by omega, fun _ => by omega, fun hc => ?_, fun hc => ?_⟩
        · have hc' : ch = 34 ∨ ch = 92 := by
            simp only [Bool.or_eq_true, beq_iff_eq] at hc
            rcases hc with hc | hc
            · exact .inl (UInt8.toNat_inj.1 (by show ch.toNat = 34; omega))
            · exact .inr (UInt8.toNat_inj.1 (by show ch.toNat = 92; omega))
          rw [esc1, if_pos hc'] at hesc
          refine ⟨by omega, V_sound ?_⟩
          simp only [go_sem, e1, Int.toNat_natCast, hex, mk_append, mk_size, List.length_append, List.length_cons, List.length_nil]
          rw [List.length_append] at hn
          refine ⟨by omega, by omega, V_sound ?_⟩
          simp only [go_sem, e1]
          refine ⟨j + 1, by omega, by omega, [], by simp only [go_sem], Nat.zero_le _, ?_, by simp only [go_sem, ltB]⟩
          simp only [go_sem, hesc, List.append_assoc]
        · have hc' : ¬ (ch = 34 ∨ ch = 92) := by
            intro h
            apply Bool.false_ne_true
            rw [← hc]
            rcases h with rfl | rfl <;> rfl
          rw [esc1, if_neg hc'] at hesc
          refine V_sound ?_
          simp only [go_sem, e1, Int.toNat_natCast, hex, mk_append, mk_size, List.length_append, List.length_cons, List.length_nil]
          rw [List.length_append] at hn
          refine ⟨by omega, by omega, V_sound ?_⟩
          simp only [go_sem, e1]
          refine ⟨j + 1, by omega, by omega, [], by simp only [go_sem], Nat.zero_le _, ?_, by simp only [go_sem, ltB]⟩
          simp only [go_sem, hesc, List.append_assoc]
      · have ej : j = x.value.size := by omega
        subst ej
        refine V_sound ?_
        simp only [go_sem, mk_append, mk_size]
        refine ⟨by omega, V_sound ?_⟩
        simp only [go_sem, e2]
        refine ⟨k + 1, by omega, by omega, [], by simp only [go_sem], Nat.zero_le _, ?_, by simp only [go_sem, ltB]⟩
        have ht : l0 ++ esc ((bs x.value).take x.value.size) ++ [34] = textP s (k + 1) := by
          have e : bs (mkS [61, 34]) = [61, 34] := rfl
          rw [hxt, hlab, hl0, List.take_of_length_le (by rw [bs_len]; exact Nat.le_refl _), e]
          simp
        rw [ht]
        simp only [go_sem]
    · have hlab : labT k (s.labels.getD k default) = [44] ++ (bs (s.labels.getD k default).name ++ [61, 34]) ++ esc (bs (s.labels.getD k default).value) ++ [34] := by rw [labT, if_neg (by omega)]
      refine ⟨by omega, ?_⟩
      refine run_seqV ?_
      simp only [go_sem, app_mk, mk_append, mk_size, List.length_append, List.length_cons, List.length_nil, bs_len]
      refine ⟨by omega, by omega, by omega, ?_⟩
      refine run_seqV ?_
      simp only [go_sem]
      refine ⟨by omega, ?_⟩
      obtain ⟨x, hx⟩ : ∃ x, x = s.labels.getD k default := ⟨_, rfl⟩
      simp only [← hx] at hnl hvl hlab hxt ⊢
      obtain ⟨l0, hl0⟩ : ∃ l0, l0 = textP s k ++ [44] ++ bs x.name ++ bs (mkS [61, 34]) := ⟨_, rfl⟩
      have hl0n : l0.length ≤ 40 + k * 60 := by
        rw [hl0]
        simp only [List.length_append, bs_len, mk_size, List.length_cons, List.length_nil]; omega
      simp only [← hl0]
      refine run_seqV ?_
      simp only [go_sem]
      refine R_loop (ι := Nat) (J := fun j => j ≤ x.value.size) (env := fun j => [(1, .p (.one (.ptr 0 0 0 0))), (3, .s (mkS (l0 ++ esc ((bs x.value).take j)))), (4, .i k), (5, .s x.value), (6, .i j)])
        (mem := fun _ => [.rows 99 2 0 [[.c (.v (.string s.name)), .c (lbCV s.labels)]] true]) (μ := fun j => x.value.size - j) 0 (Nat.zero_le _) ⟨[], by simp only [go_sem], Nat.zero_le _, by simp only [go_sem, esc, List.flatMap_nil], by simp only [go_sem, ltB]⟩ ?_
      intro j hj
      refine run_seqV ?_
      simp only [go_sem]
      have hesc : ∀ (hjs : j < x.value.size), esc ((bs x.value).take (j + 1)) = esc ((bs x.value).take j) ++ esc1 ((bs x.value).getD j 0) := by
        intro hjs
        rw [take_succ_getD 0 (by rw [bs_len]; exact hjs)]
        simp [esc]
      have hel := esc_len ((bs x.value).take j)
      rw [List.length_take, bs_len] at hel
      have hn : (l0 ++ esc ((bs x.value).take j)).length ≤ 300 := by rw [List.length_append]; omega
      have e1 : IntKind.i64.wrap ((j : Int) + 1) = ((j + 1 : Nat) : Int) := w64s (by omega)
      have e2 : IntKind.i64.wrap ((k : Int) + 1) = ((k + 1 : Nat) : Int) := w64s (by omega)
      refine ⟨fun hjs => ?_, fun hjs => ?_⟩
      · have hex : x.value.extract j (j + 1) = mkS [(bs x.value).getD j 0] := bs_inj (by
          rw [bs_extract, drop_getD 0 (by rw [bs_len]; exact hjs), Nat.add_sub_cancel_left]
          rfl)
        have hesc := hesc hjs
        refine run_seq ?_
        refine run_block ?_
        refine run_seqV ?_
        simp only [go_sem, mk_append, mk_size]
        generalize (bs x.value).getD j 0 = ch at hesc hex ⊢
        refine ⟨by omega, fun _ => by omega, fun hc => ?_, fun hc => ?_⟩
        · have hc' : ch = 34 ∨ ch = 92 := by
            simp only [Bool.or_eq_true, beq_iff_eq] at hc
            rcases hc with hc | hc
            · exact .inl (UInt8.toNat_inj.1 (by show ch.toNat = 34; omega))
            · exact .inr (UInt8.toNat_inj.1 (by show ch.toNat = 92; omega))
          rw [esc1, if_pos hc'] at hesc
          refine ⟨by omega, V_sound ?_⟩
          simp only [go_sem, e1, Int.toNat_natCast, hex, mk_append, mk_size, List.length_append, List.length_cons, List.length_nil]
          rw [List.length_append] at hn
          refine ⟨by omega, by omega, V_sound ?_⟩
          simp only [go_sem, e1]
          refine ⟨j + 1, by omega, by omega, [], by simp only [go_sem], Nat.zero_le _, ?_, by simp only [go_sem, ltB]⟩
          simp only [go_sem, hesc, List.append_assoc]
        · have hc' : ¬ (ch = 34 ∨ ch = 92) := by
            intro h
            apply Bool.false_ne_true
            rw [← hc]
            rcases h with rfl | rfl <;> rfl
          rw [esc1, if_neg hc'] at hesc
          refine V_sound ?_
          simp only [go_sem, e1, Int.toNat_natCast, hex, mk_append, mk_size, List.length_append, List.length_cons, List.length_nil]
          rw [List.length_append] at hn
          refine ⟨by omega, by omega, V_sound ?_⟩
          simp only [go_sem, e1]
          refine ⟨j + 1, by omega, by omega, [], by simp only [go_sem], Nat.zero_le _, ?_, by simp only [go_sem, ltB]⟩
          simp only [go_sem, hesc, List.append_assoc]
      · have ej : j = x.value.size := by omega
        subst ej
        refine V_sound ?_
        simp only [go_sem, mk_append, mk_size]
        refine ⟨by omega, V_sound ?_⟩
        simp only [go_sem, e2]
        refine ⟨k + 1, by omega, by omega, [], by simp only [go_sem], Nat.zero_le _, ?_, by simp only [go_sem, ltB]⟩
        have ht : l0 ++ esc ((bs x.value).take x.value.size) ++ [34] = textP s (k + 1) := by
          have e : bs (mkS [61, 34]) = [61, 34] := rfl
          rw [hxt, hlab, hl0, List.take_of_length_le (by rw [bs_len]; exact Nat.le_refl _), e]
          simp
        rw [ht]
        simp only [go_sem]
  · have e : k = s.labels.length := by omega
    subst e
    have htl := textP_len hok _ (Nat.le_refl _)
    refine V_sound ?_
    simp only [go_sem, mk_append, mk_size]
    unfold textR
    by_cases h0 : 0 < s.labels.length
    · rw [if_pos h0]
      exact ⟨fun _ => ⟨by omega, SubS.refl _⟩, fun h => absurd h (by omega)⟩
    · rw [if_neg h0, List.append_nil]
      exact ⟨fun h => absurd h (by omega), fun _ => SubS.refl _⟩
end Go.Proofs.YtcmkhlfjcdchmaaGreat.A
end
section
namespace Go.Proofs.YtcmkhlfjcdchmaaGreat.A
open Go Go.Proofs Go.Proofs.YtcmkhlfjcdchmaaGreatAbs
def lb1 (x : Lb) : List UInt8 := bs x.name ++ (61 :: 34 :: (esc (bs x.value) ++ [34]))
def tailT : List Lb → List UInt8
  | [] => [125]
  | x :: l => 44 :: (lb1 x ++ tailT l)
theorem cut_at {p r sep : List UInt8} {c : UInt8} {q : List UInt8} (hsep : sep = c :: q) (hp : ∀ x ∈ p, x ≠ c) : Lib.cut (p ++ (sep ++ r)) sep = (p, r, true) := by
  have hi : Lib.index (p ++ (sep ++ r)) sep = p.length := by
    refine Lib.index_first (by simp) ?_ (fun j hj => ?_)
    · unfold Lib.occAt
      rw [List.drop_left]
      simp
    · unfold Lib.occAt
      rw [List.drop_append_of_le_length (by omega), List.drop_eq_getElem_cons hj, hsep]
      simp only [List.cons_append, List.isPrefixOf]
      rw [Bool.and_eq_false_iff]
      refine .inl ?_
      rw [beq_eq_false_iff_ne]
      exact fun e => hp _ (List.getElem_mem hj) e.symm
  unfold Lib.cut
  rw [hi, if_pos (by omega), Int.toNat_natCast, List.take_left, ← List.drop_drop, List.drop_left, List.drop_left]
theorem cut_no {p sep : List UInt8} {c : UInt8} {q : List UInt8} (hsep : sep = c :: q) (hp : ∀ x ∈ p, x ≠ c) : Lib.cut p sep = (p, [], false) := by
  have hi : Lib.index p sep = -1 := by
    refine Lib.index_none (fun j hj => ?_)
    unfold Lib.occAt
    by_cases hjl : j < p.length
    · rw [List.drop_eq_getElem_cons hjl, hsep]
      simp only [List.isPrefixOf]
      rw [Bool.and_eq_false_iff]
      refine .inl ?_
      rw [beq_eq_false_iff_ne]
      exact fun e => hp _ (List.getElem_mem hjl) e.symm
    · rw [List.drop_eq_nil_of_le (by omega), hsep]
      rfl
  unfold Lib.cut
  rw [hi, if_neg (by decide)]
theorem quo_esc (r : List UInt8) : ∀ v : List UInt8, quo (esc v ++ 34 :: r) = some (v, r)
  | [] => quo_q r
  | c :: v => by
    have e : esc (c :: v) = esc1 c ++ esc v := by simp [esc]
    rw [e, esc1]
    by_cases h : c = 34 ∨ c = 92
    · rw [if_pos h]
      show quo (92 :: c :: (esc v ++ 34 :: r)) = _
      rw [quo_b h, quo_esc r v]
      rfl
    · rw [if_neg h]
      show quo (c :: (esc v ++ 34 :: r)) = _
      rw [quo_c (fun e => h (.inl e)) (fun e => h (.inr e)), quo_esc r v]
      rfl
theorem nm_no {s : ByteArray} (h : nmOk s = true) {c : UInt8} (hc : c.toNat < 97 ∨ 122 < c.toNat) : ∀ x ∈ bs s, x ≠ c := by
  simp only [nmOk, Bool.and_eq_true, List.all_eq_true] at h
  intro x hx e
  have := inR_t.1 (h.2 x hx)
  subst e
  omega
theorem parG_lbs : ∀ (l : List Lb) (x : Lb) (n : Nat) (ls : List Lb), l.length < n → ls.length + 1 + l.length ≤ 4 → nmOk x.name = true → (∀ y ∈ l, nmOk y.name = true) → parG n (lb1 x ++ tailT l) ls = some (ls ++ x :: l)
  | l, x, 0, ls, h1, h2, h3, h4 => absurd h1 (Nat.not_lt_zero _)
  | l, x, n + 1, ls, h1, h2, h3, h4 => by
    have hc : Lib.cut (lb1 x ++ tailT l) [61, 34] = (bs x.name, esc (bs x.value) ++ 34 :: tailT l, true) := by
      have := cut_at (p := bs x.name) (r := esc (bs x.value) ++ 34 :: tailT l) (sep := [61, 34]) rfl (nm_no h3 (.inl (by decide)))
      rw [← this]
      congr 1
      simp [lb1]
    have hx : (⟨mkS (bs x.name), mkS (bs x.value)⟩ : Lb) = x := by rw [mk_bs, mk_bs]
    rw [parG, hc]
    simp only [Bool.true_eq_false, if_false, quo_esc, hx]
    cases l with
    | nil =>
      rw [tailT]
      simp only [if_neg (show ¬ ls.length = 4 by simp at h2; omega), if_neg (show ¬ ((125 : UInt8) = 44) by decide), and_self, if_true]
      rw [hx]
    | cons y l =>
      rw [tailT]
      rw [List.length_cons] at h1 h2
      simp only [if_neg (show ¬ ls.length = 4 by omega), if_true]
      rw [hx, parG_lbs l y n (ls ++ [x]) (by omega) (by rw [List.length_append]; simp only [List.length_cons, List.length_nil]; omega) (h4 y (List.mem_cons_self ..)) (fun z hz => h4 z (List.mem_cons_of_mem _ hz)), List.append_assoc]
      rfl
theorem sort_id {l : List Lb} (h : ∀ k, k + 1 < l.length → ltLb (l.getD (k + 1) default) (l.getD k default) = false) : ∀ n, n ≤ l.length → sortTo ltLb default l n = l
  | 0, _ => rfl
  | n + 1, hn => by
    rw [sortTo, sort_id h n (by omega)]
    cases n with
    | zero => rfl
    | succ n => rw [sink, h n (by omega)]; rfl
theorem sortLb_id {s : Ser} (h : serOk s = true) : sortLb s.labels = s.labels := by
  refine sort_id (fun k hk => ?_) _ (Nat.le_refl _)
  have := (serOk_parts h).2.2 (k + 1) hk
  simp only [lbOk, Bool.and_eq_true, Bool.or_eq_true, Nat.add_sub_cancel] at this
  rcases this.2 with h | h
  · simp at h
  · exact sLt_asymm h
theorem textP_tail (s : Ser) : ∀ (a b : List Lb), s.labels = a ++ b → a ≠ [] → textP s a.length ++ tailT b = textP s s.labels.length ++ [125]
  | a, [], h, _ => by rw [h, List.append_nil]; rfl
  | a, y :: b, h, ha => by
    have h' : s.labels = (a ++ [y]) ++ b := by rw [h]; simp
    rw [← textP_tail s (a ++ [y]) b h' (by simp)]
    have hy : s.labels.getD a.length default = y := by rw [h, List.getD_eq_getElem?_getD, List.getElem?_append_right (Nat.le_refl _)]; simp
    have hne : a.length ≠ 0 := fun e => ha (List.eq_nil_of_length_eq_zero e)
    rw [List.length_append, List.length_singleton, textP, labT, hy, if_neg hne, tailT, lb1]
    simp
theorem text_all {s : Ser} {x : Lb} {l : List Lb} (h : s.labels = x :: l) : textP s s.labels.length ++ [125] = bs s.name ++ ([123] ++ (lb1 x ++ tailT l)) := by
  rw [← textP_tail s [x] l h (by simp)]
  rw [List.length_singleton, textP, textP, labT, if_pos rfl, h, lb1]
  simp
theorem parS_prT {s : Ser} (h : serOk s = true) : parS (prT s) = some s := by
  obtain ⟨h1, h2, h3⟩ := serOk_parts h
  have hno := nm_no h1 (c := 123) (.inr (by decide))
  have key : parAll (bs (prT s)) = some s.labels ∧ (Lib.cut (bs (prT s)) [123]).1 = bs s.name := by
    rw [prT, if_pos h]
    by_cases h0 : s.labels.length = 0
    · rw [if_pos h0]
      have hl : s.labels = [] := List.eq_nil_of_length_eq_zero h0
      unfold parAll
      rw [cut_no (sep := [123]) rfl hno, hl]
      exact ⟨rfl, rfl⟩
    · rw [if_neg h0]
      obtain ⟨x, l, hl⟩ : ∃ x l, s.labels = x :: l := by
        cases hs : s.labels with
        | nil => rw [hs] at h0; exact absurd rfl h0
        | cons x l => exact ⟨x, l, rfl⟩
      rw [show bs (mkS (textP s s.labels.length ++ [125])) = textP s s.labels.length ++ [125] from rfl, text_all hl]
      unfold parAll
      rw [cut_at (sep := [123]) rfl hno]
      have hnm : ∀ y ∈ s.labels, nmOk y.name = true := by
        intro y hy
        obtain ⟨i, hi, rfl⟩ := List.mem_iff_getElem.1 hy
        have := (lbOk_parts (h3 i hi)).1
        rwa [getD_get hi] at this
      have hlen : s.labels.length = l.length + 1 := by rw [hl]; rfl
      refine ⟨?_, rfl⟩
      rw [if_pos rfl, parG_lbs l x 5 [] (by omega) (by simp only [List.length_nil]; omega) (hnm x (by rw [hl]; exact List.mem_cons_self ..)) (fun y hy => hnm y (by rw [hl]; exact List.mem_cons_of_mem _ hy)), hl]
      rfl
  have he : (⟨mkS (Lib.cut (bs (prT s)) [123]).1, sortLb s.labels⟩ : Ser) = s := by
    rw [key.2, sortLb_id h, mk_bs]
  unfold parS
  rw [key.1, Option.bind_some, he, if_pos h]
end Go.Proofs.YtcmkhlfjcdchmaaGreat.A
end
section
namespace Go.Proofs.YtcmkhlfjcdchmaaGreat.A
open Go Go.Proofs Go.Proofs.YtcmkhlfjcdchmaaGreatAbs
def nms (l : List Lb) : List ByteArray := l.map Lb.name
/-- Each ahead of each. -/
def upL (l : List Lb) : Prop := l.Pairwise fun x y => sLt x.name y.name = true
theorem sink_perm {l : List Lb} : ∀ {j : Nat}, j < l.length → (sink ltLb default l j).Perm l := by
  intro j
  induction j generalizing l with
  | zero => intro _; exact List.Perm.refl _
  | succ j ih =>
    intro hj
    rw [sink]
    split
    · refine (ih (by simp; omega)).trans ?_
      rw [getD_get hj, getD_get (show j < l.length by omega)]
      exact List.set_set_perm hj (by omega)
    · exact List.Perm.refl _
theorem sortTo_perm {l : List Lb} : ∀ {i : Nat}, i ≤ l.length → (sortTo ltLb default l i).Perm l
  | 0, _ => List.Perm.refl _
  | i + 1, hi => by
    rw [sortTo]
    exact (sink_perm (by rw [sortTo_length]; omega)).trans (sortTo_perm (by omega))
theorem sortLb_perm (l : List Lb) : (sortLb l).Perm l := sortTo_perm (Nat.le_refl _)
theorem insLb_perm (l : List Lb) (x : Lb) : (insLb l x).Perm (x :: l) := by
  unfold insLb
  rw [List.append_assoc]
  refine List.perm_append_comm_assoc .. |>.trans ?_
  rw [List.take_append_drop]
  exact List.Perm.refl _
theorem foldIns_perm : ∀ (new acc : List Lb), (new.foldl insLb acc).Perm (acc ++ new)
  | [], acc => by rw [List.append_nil]; exact List.Perm.refl _
  | x :: new, acc => by
    rw [List.foldl_cons]
    refine (foldIns_perm new (insLb acc x)).trans ?_
    refine ((insLb_perm acc x).append_right new).trans ?_
    rw [List.cons_append]
    exact (List.perm_middle).symm
/-- An element goes down past what is behind it. -/
theorem sink_at (A S : List Lb) (x : Lb) (hA : ∀ y ∈ A, ltLb x y = false) : ∀ (n : Nat) (B : List Lb) (S : List Lb), B.length = n → (∀ y ∈ B, ltLb x y = true) → sink ltLb default (A ++ B ++ x :: S) (A.length + B.length) = A ++ x :: B ++ S
  | 0, B, S, hn, hB => by
    obtain rfl := List.eq_nil_of_length_eq_zero hn
    rw [List.append_nil, List.length_nil, Nat.add_zero]
    rcases List.eq_nil_or_concat A with rfl | ⟨A', z, rfl⟩
    · simp [sink]
    · have hz := hA z (by simp)
      rw [List.concat_eq_append]
      have e1 : (A' ++ [z]).length = A'.length + 1 := by simp
      have g1 : (A' ++ [z] ++ x :: S).getD (A'.length + 1) default = x := by
        rw [List.getD_eq_getElem?_getD, List.getElem?_append_right (by simp)]; simp
      have g2 : (A' ++ [z] ++ x :: S).getD A'.length default = z := by
        rw [List.getD_eq_getElem?_getD, List.append_assoc, List.getElem?_append_right (Nat.le_refl _)]; simp
      rw [e1, sink, g1, g2, hz]
      simp
  | n + 1, B, S, hn, hB => by
    rcases List.eq_nil_or_concat B with rfl | ⟨B', z, rfl⟩
    · cases hn
    · rw [List.concat_eq_append] at hn hB ⊢
      have hz := hB z (by simp)
      have e1 : A.length + (B' ++ [z]).length = (A.length + B'.length) + 1 := by simp; omega
      have e2 : A ++ (B' ++ [z]) ++ x :: S = (A ++ B') ++ z :: x :: S := by simp
      have g1 : ((A ++ B') ++ z :: x :: S).getD (A.length + B'.length + 1) default = x := by
        rw [List.getD_eq_getElem?_getD, List.getElem?_append_right (by simp <;> omega)]; simp
      have g2 : ((A ++ B') ++ z :: x :: S).getD (A.length + B'.length) default = z := by
        rw [List.getD_eq_getElem?_getD, List.getElem?_append_right (by simp)]; simp
      have e3 : (((A ++ B') ++ z :: x :: S).set (A.length + B'.length + 1) z).set (A.length + B'.length) x = A ++ B' ++ x :: (z :: S) := by
        rw [List.set_append_right _ _ (by simp <;> omega), List.set_append_right _ _ (by simp)]
        simp
      rw [e1, e2, sink, g1, g2, hz, if_pos rfl, e3, sink_at A S x hA n B' (z :: S) (by simpa using hn) (fun y hy => hB y (by simp [hy]))]
      simp
theorem posL_take {n : ByteArray} : ∀ {l : List Lb}, ∀ y ∈ l.take (posL n l), sLt y.name n = true
  | [], y, hy => by simp at hy
  | z :: l, y, hy => by
    rw [posL] at hy
    split at hy
    · rename_i h
      rw [List.take_succ_cons] at hy
      rcases List.mem_cons.1 hy with rfl | hy
      · exact h
      · exact posL_take y hy
    · simp at hy
theorem posL_drop {n : ByteArray} : ∀ {l : List Lb}, upL l → (∀ y ∈ l, y.name ≠ n) → ∀ y ∈ l.drop (posL n l), sLt n y.name = true
  | [], _, _, y, hy => by simp at hy
  | z :: l, hu, hne, y, hy => by
    rw [posL] at hy
    have hu' := List.pairwise_cons.1 hu
    split at hy
    · rw [List.drop_succ_cons] at hy
      exact posL_drop hu'.2 (fun y hy => hne y (List.mem_cons_of_mem _ hy)) y hy
    · rename_i h
      have hz : sLt n z.name = true := by
        cases hh : sLt n z.name with
        | true => rfl
        | false => exact absurd (sLt_total (by simpa using h) hh) (hne z (List.mem_cons_self ..))
      rw [List.drop_zero] at hy
      rcases List.mem_cons.1 hy with rfl | hy
      · exact hz
      · exact sLt_trans hz (hu'.1 y hy)
theorem insLb_up {l : List Lb} {x : Lb} (hu : upL l) (hne : ∀ y ∈ l, y.name ≠ x.name) : upL (insLb l x) := by
  unfold insLb upL
  have hd := posL_drop hu hne
  have ht := posL_take (n := x.name) (l := l)
  have hsp : (l.take (posL x.name l) ++ l.drop (posL x.name l)).Pairwise fun x y => sLt x.name y.name = true := by rw [List.take_append_drop]; exact hu
  rw [List.pairwise_append] at hsp
  rw [List.append_assoc, List.pairwise_append]
  refine ⟨hsp.1, List.pairwise_cons.2 ⟨fun y hy => hd y hy, hsp.2.1⟩, fun a ha b hb => ?_⟩
  rcases List.mem_cons.1 hb with rfl | hb
  · exact ht a ha
  · exact hsp.2.2 a ha b hb
/-- The insertion sort puts each where the document puts it. -/
theorem sort_fold : ∀ (i : Nat) (l : List Lb), i ≤ l.length → (nms l).Nodup → sortTo ltLb default l i = (l.take i).foldl insLb [] ++ l.drop i ∧ upL ((l.take i).foldl insLb [])
  | 0, l, _, _ => ⟨by simp [sortTo], by simp [upL]⟩
  | i + 1, l, hi, hn => by
    obtain ⟨h1, h2⟩ := sort_fold i l (by omega) hn
    obtain ⟨F, hF⟩ : ∃ F, F = (l.take i).foldl insLb [] := ⟨_, rfl⟩
    rw [← hF] at h1 h2
    have hFp : F.Perm (l.take i) := by rw [hF]; simpa using foldIns_perm (l.take i) []
    have hFl : F.length = i := by rw [hFp.length_eq, List.length_take]; omega
    obtain ⟨x, hx⟩ : ∃ x, x = l.getD i default := ⟨_, rfl⟩
    have htk : l.take (i + 1) = l.take i ++ [x] := by rw [hx]; exact take_succ_getD default (by omega)
    have hdr : l.drop i = x :: l.drop (i + 1) := by rw [hx]; exact drop_getD default (by omega)
    have hne : ∀ y ∈ F, y.name ≠ x.name := by
      intro y hy e
      have hy' := hFp.mem_iff.1 hy
      have hnn : (nms (l.take (i + 1) ++ l.drop (i + 1))).Nodup := by rw [List.take_append_drop]; exact hn
      rw [htk, nms, List.map_append, List.map_append, List.append_assoc] at hnn
      have := (List.nodup_append.1 hnn).2.2 y.name (List.mem_map_of_mem hy') x.name (by simp)
      exact this e
    have hA := posL_take (n := x.name) (l := F)
    have hB := posL_drop h2 hne
    rw [htk, List.foldl_append, List.foldl_cons, List.foldl_nil, ← hF]
    refine ⟨?_, insLb_up h2 hne⟩
    rw [sortTo, h1, hdr]
    have hsp : F ++ x :: l.drop (i + 1) = F.take (posL x.name F) ++ F.drop (posL x.name F) ++ x :: l.drop (i + 1) := by rw [List.take_append_drop]
    have hln : i = (F.take (posL x.name F)).length + (F.drop (posL x.name F)).length := by rw [← List.length_append, List.take_append_drop, hFl]
    rw [hsp]
    have := sink_at (F.take (posL x.name F)) [] x (fun y hy => sLt_asymm (hA y hy)) _ (F.drop (posL x.name F)) (l.drop (i + 1)) rfl (fun y hy => hB y hy)
    rw [← hln] at this
    rw [this, insLb]
    simp
theorem sort_same {l : List Lb} (h : (nms l).Nodup) : sortLb l = l.foldl insLb [] := by
  have := (sort_fold l.length l (Nat.le_refl _) h).1
  rw [List.take_length, List.drop_length, List.append_nil] at this
  exact this
theorem ok_nodup {s : Ser} (h : serOk s = true) : (nms s.labels).Nodup := by
  have hl := (serOk_parts h).2.2
  have key : ∀ j, j < s.labels.length → ∀ i, i < j → sLt (s.labels.getD i default).name (s.labels.getD j default).name = true := by
    intro j
    induction j with
    | zero => intro _ i hi; omega
    | succ j ih =>
      intro hj i hi
      have := hl (j + 1) hj
      simp only [lbOk, Bool.and_eq_true, Bool.or_eq_true, Nat.add_sub_cancel] at this
      have h1 : sLt (s.labels.getD j default).name (s.labels.getD (j + 1) default).name = true := by
        rcases this.2 with h | h
        · simp at h
        · exact h
      by_cases e : i = j
      · subst e; exact h1
      · exact sLt_trans (ih (by omega) i (by omega)) h1
  unfold nms List.Nodup
  rw [List.pairwise_map, List.pairwise_iff_getElem]
  intro i j hi hj hij
  have := key j hj i hij
  rw [getD_get hi, getD_get hj] at this
  exact sLt_ne this
theorem ok_same (nm : ByteArray) (new : List Lb) (h : serOk ⟨nm, sortLb new⟩ = true ∨ serOk ⟨nm, new.foldl insLb []⟩ = true) : sortLb new = new.foldl insLb [] := by
  apply sort_same
  rcases h with h | h
  · have := ok_nodup h
    exact ((sortLb_perm new).map Lb.name).nodup_iff.1 this
  · have := ok_nodup h
    have hp : (new.foldl insLb []).Perm new := by simpa using foldIns_perm new []
    exact (hp.map Lb.name).nodup_iff.1 this
end Go.Proofs.YtcmkhlfjcdchmaaGreat.A
end
section
namespace Go.Proofs.YtcmkhlfjcdchmaaGreat.A
open Go Go.Proofs Go.Proofs.YtcmkhlfjcdchmaaGreatAbs
def awSer : Ser := ⟨mkS [99, 112, 117], [⟨mkS [104, 111, 115, 116], mkS [98]⟩, ⟨mkS [122, 111, 110, 101], mkS [97]⟩]⟩
def awIn : ByteArray := mkS [99, 112, 117, 123, 122, 111, 110, 101, 61, 34, 97, 34, 44, 104, 111, 115, 116, 61, 34, 98, 34, 125]
def awOut : ByteArray := mkS [99, 112, 117, 123, 104, 111, 115, 116, 61, 34, 98, 34, 44, 122, 111, 110, 101, 61, 34, 97, 34, 125]
theorem aw_par : parS awIn = some awSer := by kernel_rfl
theorem aw_ok : serOk awSer = true := by kernel_rfl
theorem aw_prT : prT awSer = awOut := by kernel_rfl
theorem ok_zSer {s : Ser} (h : serOk s = true) : zSer s := by
  obtain ⟨h1, h2, h3⟩ := serOk_parts h
  refine ⟨?_, by omega, fun i hi => ?_⟩
  · have := nm_len h1
    unfold zS; omega
  · have := lbOk_parts (h3 i hi)
    have a := nm_len this.1
    have b := (vl_parts this.2).1
    unfold zS
    omega
theorem prT_size (s : Ser) : (prT s).size ≤ 400 := by
  rw [prT]
  split
  · rename_i h
    obtain ⟨h1, h2, h3⟩ := serOk_parts h
    have := nm_len h1
    have h4 := textP_len h _ (Nat.le_refl _)
    split
    · omega
    · rw [mk_size, List.length_append, List.length_singleton]
      omega
  · rw [mk_size]; simp
theorem not_ok {s : Ser} (h : serOk s = false) : prT s = mkS [] := by rw [prT, h]; rfl
theorem prT_inj {a b : Ser} (ha : serOk a = true) (hb : serOk b = true) : decide (prT a = prT b) = decide (a = b) := by
  rw [decide_eq_decide]
  refine ⟨fun h => ?_, fun h => by rw [h]⟩
  have := parS_prT ha
  rw [h, parS_prT hb] at this
  exact (Option.some.inj this).symm
theorem zSer_wf {s : Ser} {k : Nat} (h : (WPair WStr (WSlice k (fun x : Lb => (WPair WStr WStr) (x.name, x.value)))) (s.name, s.labels)) (hk : 1 ≤ k) : zSer s := by
  obtain ⟨h1, h2, h3⟩ := h
  have e : s.labels.length ≤ s.labels.length * k := Nat.le_mul_of_pos_right _ hk
  refine ⟨Nat.le_trans h1 (by decide), Nat.le_trans e (Nat.le_trans h2 (by decide)), fun i hi => ?_⟩
  have := h3 (s.labels.getD i default) (by rw [List.getD_eq_getElem?_getD, List.getElem?_eq_getElem hi]; exact List.getElem_mem _)
  exact ⟨Nat.le_trans this.1 (by decide), Nat.le_trans this.2 (by decide)⟩
end Go.Proofs.YtcmkhlfjcdchmaaGreat.A
end
section
namespace Go.Proofs.YtcmkhlfjcdchmaaGreat.A
open Go Go.Proofs Go.Proofs.YtcmkhlfjcdchmaaGreatAbs
def segR : Nat → Nat → List UInt8 → Option (List Lb)
  | 0, _, _ => none
  | n + 1, m, rest =>
    match rest.drop (fAt rest 61 + 1) with
    | [] => none
    | q :: r => if q ≠ 34 then none else if m = 4 then none else
      match quo r with
      | none => none
      | some (_, []) => none
      | some (a, x :: t) => if x = 44 then (segR n (m + 1) t).map (fun new => ⟨mkS (rest.take (fAt rest 61)), mkS a⟩ :: new) else if x = 125 ∧ t = [] then some [⟨mkS (rest.take (fAt rest 61)), mkS a⟩] else none
def segP : Nat → Nat → List UInt8 → Option (List Lb)
  | 0, _, _ => none
  | n + 1, m, rest =>
    if (Lib.cut rest [61, 34]).2.2 = false then none else
    match quo (Lib.cut rest [61, 34]).2.1 with
    | none => none
    | some (_, []) => none
    | some (a, x :: t) => if m = 4 then none else if x = 44 then (segP n (m + 1) t).map (fun new => ⟨mkS (Lib.cut rest [61, 34]).1, mkS a⟩ :: new) else if x = 125 ∧ t = [] then some [⟨mkS (Lib.cut rest [61, 34]).1, mkS a⟩] else none
theorem refG_seg : ∀ (n : Nat) (rest : List UInt8) (ls : List Lb), refG n rest ls = (segR n ls.length rest).map fun new => new.foldl insLb ls
  | 0, rest, ls => rfl
  | n + 1, rest, ls => by
    rw [refG, segR]
    cases rest.drop (fAt rest 61 + 1) with
    | nil => rfl
    | cons q r =>
      simp only
      by_cases hq : q ≠ 34
      · simp only [if_pos hq, Option.map_none]
      · simp only [if_neg hq]
        by_cases h4 : ls.length = 4
        · simp only [if_pos h4, Option.map_none]
        · simp only [if_neg h4]
          cases quo r with
          | none => rfl
          | some p =>
            obtain ⟨a, t⟩ := p
            cases t with
            | nil => rfl
            | cons x t =>
              simp only
              by_cases hx : x = 44
              · simp only [if_pos hx]
                rw [refG_seg n t, insLb_len, Option.map_map]
                rfl
              · simp only [if_neg hx]
                by_cases hy : x = 125 ∧ t = []
                · simp only [if_pos hy, Option.map_some]
                  rfl
                · simp only [if_neg hy, Option.map_none]
theorem parG_seg : ∀ (n : Nat) (rest : List UInt8) (ls : List Lb), parG n rest ls = (segP n ls.length rest).map fun new => ls ++ new
  | 0, rest, ls => rfl
  | n + 1, rest, ls => by
    rw [parG, segP]
    by_cases hc : (Lib.cut rest [61, 34]).2.2 = false
    · simp only [if_pos hc, Option.map_none]
    · simp only [if_neg hc]
      cases quo (Lib.cut rest [61, 34]).2.1 with
      | none => rfl
      | some p =>
        obtain ⟨a, t⟩ := p
        cases t with
        | nil => rfl
        | cons x t =>
          simp only
          by_cases h4 : ls.length = 4
          · simp only [if_pos h4, Option.map_none]
          · simp only [if_neg h4]
            by_cases hx : x = 44
            · simp only [if_pos hx]
              rw [parG_seg n t, List.length_append, List.length_singleton, Option.map_map]
              congr 1
              funext new
              simp
            · simp only [if_neg hx]
              by_cases hy : x = 125 ∧ t = []
              · simp only [if_pos hy, Option.map_some]
              · simp only [if_neg hy, Option.map_none]
theorem fAt_split {l : List UInt8} {c : UInt8} (h : fAt l c < l.length) : l = l.take (fAt l c) ++ c :: l.drop (fAt l c + 1) := by
  have hc : l[fAt l c] = c := by
    have := List.findIdx_getElem (p := (· == c)) (xs := l) (w := h)
    exact eq_of_beq this
  have := List.take_append_drop (fAt l c) l
  rw [List.drop_eq_getElem_cons h, hc] at this
  exact this.symm
theorem fAt_no {l : List UInt8} {c : UInt8} : ∀ x ∈ l.take (fAt l c), x ≠ c := by
  intro x hx e
  obtain ⟨i, hi, rfl⟩ := List.mem_iff_getElem.1 hx
  rw [List.length_take] at hi
  rw [List.getElem_take] at e
  have := List.not_of_lt_findIdx (p := (· == c)) (xs := l) (i := i) (by show i < fAt l c; omega)
  rw [e] at this
  simp at this
theorem fAt_at {p r : List UInt8} {c : UInt8} (hp : ∀ x ∈ p, x ≠ c) : fAt (p ++ c :: r) c = p.length := by
  induction p with
  | nil => simp [fAt, List.findIdx_cons]
  | cons x p ih =>
    have hx := hp x (List.mem_cons_self ..)
    have := ih (fun y hy => hp y (List.mem_cons_of_mem _ hy))
    rw [List.cons_append, fAt, List.findIdx_cons, show (x == c) = false by simpa using hx]
    show fAt (p ++ c :: r) c + 1 = _
    rw [this]; rfl
theorem cut_true {s sep k r : List UInt8} (h : Lib.cut s sep = (k, r, true)) : s = k ++ sep ++ r := by
  unfold Lib.cut at h
  split at h
  · rename_i h0
    rcases Lib.index_spec s sep with ⟨h1, _⟩ | ⟨i, h1, h2, h3, _⟩
    · rw [h1] at h0; exact absurd h0 (by decide)
    · rw [h1, Int.toNat_natCast] at h
      simp only [Prod.mk.injEq, and_true] at h
      obtain ⟨rfl, rfl⟩ := h
      unfold Lib.occAt at h3
      obtain ⟨t, ht⟩ := List.isPrefixOf_iff_prefix.1 h3
      rw [← List.drop_drop, ← ht, List.drop_left, List.append_assoc, ht, List.take_append_drop]
  · simp at h
theorem segRP : ∀ (n m : Nat) (rest : List UInt8) (new : List Lb), segR n m rest = some new → segP n m rest = some new
  | 0, m, rest, new, h => by cases h
  | n + 1, m, rest, new, h => by
    rw [segR] at h
    obtain ⟨d, hd⟩ : ∃ d, d = rest.drop (fAt rest 61 + 1) := ⟨_, rfl⟩
    rw [← hd] at h
    cases d with
    | nil => cases h
    | cons q r =>
      simp only at h
      by_cases hq : q = 34
      case neg => rw [if_pos hq] at h; cases h
      rw [if_neg (by simp [hq])] at h
      have hl : fAt rest 61 < rest.length := by
        have : (rest.drop (fAt rest 61 + 1)).length ≠ 0 := by rw [← hd]; simp
        rw [List.length_drop] at this
        omega
      have hsp := fAt_split hl
      rw [← hd, hq] at hsp
      have hc : Lib.cut rest [61, 34] = (rest.take (fAt rest 61), r, true) := by
        have := cut_at (p := rest.take (fAt rest 61)) (r := r) (sep := [61, 34]) rfl fAt_no
        rw [← this]
        congr 1
      rw [segP, hc]
      simp only [Bool.true_eq_false, if_false]
      by_cases h4 : m = 4
      · rw [if_pos h4] at h; cases h
      rw [if_neg h4] at h
      cases hqu : quo r with
      | none => rw [hqu] at h; cases h
      | some p =>
        rw [hqu] at h
        obtain ⟨a, t⟩ := p
        cases t with
        | nil => cases h
        | cons x t =>
          simp only [if_neg h4] at h ⊢
          by_cases hx : x = 44
          · rw [if_pos hx] at h ⊢
            obtain ⟨new', h1, h2⟩ := Option.map_eq_some_iff.1 h
            rw [segRP n (m + 1) t new' h1, Option.map_some, h2]
          · rw [if_neg hx] at h ⊢
            exact h
theorem segPR : ∀ (n m : Nat) (rest : List UInt8) (new : List Lb), segP n m rest = some new → (∀ y ∈ new, nmOk y.name = true) → segR n m rest = some new
  | 0, m, rest, new, h, _ => by cases h
  | n + 1, m, rest, new, h, hok => by
    rw [segP] at h
    obtain ⟨⟨k, r, fd⟩, hc⟩ : ∃ c, c = Lib.cut rest [61, 34] := ⟨_, rfl⟩
    rw [← hc] at h
    cases fd with
    | false => cases h
    | true =>
      simp only [Bool.true_eq_false, if_false] at h
      cases hqu : quo r with
      | none => rw [hqu] at h; cases h
      | some p =>
        rw [hqu] at h
        obtain ⟨a, t⟩ := p
        cases t with
        | nil => cases h
        | cons x t =>
          simp only at h
          by_cases h4 : m = 4
          · rw [if_pos h4] at h; cases h
          rw [if_neg h4] at h
          have hhead : ∃ tl, new = ⟨mkS k, mkS a⟩ :: tl := by
            by_cases hx : x = 44
            · rw [if_pos hx] at h
              obtain ⟨new', h1, h2⟩ := Option.map_eq_some_iff.1 h
              exact ⟨new', h2.symm⟩
            · rw [if_neg hx] at h
              split at h
              · exact ⟨[], (Option.some.inj h).symm⟩
              · cases h
          obtain ⟨tl, rfl⟩ := hhead
          have hnm := hok _ (List.mem_cons_self ..)
          have hno : ∀ y ∈ k, y ≠ 61 := nm_no (s := mkS k) hnm (.inl (by decide))
          have hs := cut_true hc.symm
          have hs' : rest = k ++ 61 :: (34 :: r) := by rw [hs]; simp
          have hf : fAt rest 61 = k.length := by rw [hs']; exact fAt_at hno
          have htk : rest.take (fAt rest 61) = k := by rw [hf, hs', List.take_left]
          have hdr : rest.drop (fAt rest 61 + 1) = 34 :: r := by rw [hf, hs', ← List.drop_drop, List.drop_left]; rfl
          rw [segR, hdr, htk]
          simp only [ne_eq, not_true_eq_false, if_false, if_neg h4, hqu]
          by_cases hx : x = 44
          · rw [if_pos hx] at h ⊢
            obtain ⟨new', h1, h2⟩ := Option.map_eq_some_iff.1 h
            obtain rfl : new' = tl := by injection h2
            rw [segPR n (m + 1) t new' h1 (fun y hy => hok y (List.mem_cons_of_mem _ hy))]
            rfl
          · rw [if_neg hx] at h ⊢
            exact h
theorem ok_names {nm : ByteArray} {new : List Lb} (h : serOk ⟨nm, sortLb new⟩ = true) : ∀ y ∈ new, nmOk y.name = true := by
  intro y hy
  have hy' := (sortLb_perm new).mem_iff.2 hy
  obtain ⟨i, hi, rfl⟩ := List.mem_iff_getElem.1 hy'
  have := (lbOk_parts ((serOk_parts h).2.2 i hi)).1
  rwa [show (Ser.mk nm (sortLb new)).labels = sortLb new from rfl, getD_get hi] at this
theorem parse_same (s : ByteArray) : parS s = refS s := by
  have hcut : Lib.cut (bs s) [123] = ((bs s).take (fAt (bs s) 123), (bs s).drop (fAt (bs s) 123 + 1), decide (fAt (bs s) 123 < (bs s).length)) := by
    by_cases h : fAt (bs s) 123 < (bs s).length
    · have hsp := fAt_split h
      have := cut_at (p := (bs s).take (fAt (bs s) 123)) (r := (bs s).drop (fAt (bs s) 123 + 1)) (sep := [123]) rfl fAt_no
      rw [decide_eq_true h, ← this]
      congr 1
    · have hl : (bs s).take (fAt (bs s) 123) = bs s := List.take_of_length_le (by omega)
      have := cut_no (p := bs s) (sep := [123]) rfl (by have := fAt_no (l := bs s) (c := 123); rwa [hl] at this)
      rw [decide_eq_false h, this, hl, List.drop_eq_nil_of_le (by omega)]
  unfold parS refS parAll refAll
  rw [hcut]
  obtain ⟨nm, hnm⟩ : ∃ nm, nm = mkS ((bs s).take (fAt (bs s) 123)) := ⟨_, rfl⟩
  simp only [← hnm, decide_eq_true_eq]
  by_cases h : fAt (bs s) 123 < (bs s).length
  case neg => rw [if_neg h, if_neg h]; rfl
  rw [if_pos h, if_pos h, parG_seg, refG_seg]
  obtain ⟨rest, hrest⟩ : ∃ r, r = (bs s).drop (fAt (bs s) 123 + 1) := ⟨_, rfl⟩
  rw [← hrest, List.length_nil]
  cases hR : segR 5 0 rest with
  | some new =>
    rw [segRP 5 0 rest new hR]
    simp only [Option.map_some, Option.bind_some, List.nil_append]
    by_cases hk : serOk ⟨nm, sortLb new⟩ = true ∨ serOk ⟨nm, new.foldl insLb []⟩ = true
    · rw [ok_same nm new hk]
    · rw [if_neg (fun e => hk (.inl e)), if_neg (fun e => hk (.inr e))]
  | none =>
    cases hP : segP 5 0 rest with
    | none => rfl
    | some new =>
      simp only [Option.map_some, Option.map_none, Option.bind_some, Option.bind_none, List.nil_append]
      rw [if_neg]
      intro hk
      have := segPR 5 0 rest new hP (ok_names hk)
      rw [this] at hR
      cases hR
theorem parS_ok {s : ByteArray} {x : Ser} (h : parS s = some x) : serOk x = true := by
  unfold parS at h
  obtain ⟨ls, _, h2⟩ := Option.bind_eq_some_iff.1 h
  split at h2
  · rename_i hk
    cases h2
    exact hk
  · cases h2
end Go.Proofs.YtcmkhlfjcdchmaaGreat.A
end
section
namespace Go.Proofs.YtcmkhlfjcdchmaaGreat.A
open Go Go.Proofs.YtcmkhlfjcdchmaaGreatAbs
structure Opn where
  kind : Int
  ser : ByteArray
  smp : Smp
  frm : Int
  to : Int
  tot : Int
instance : Inhabited Opn := ⟨⟨0, mkS [], ⟨0, 0⟩, 0, 0, 0⟩⟩
@[go_sem] def Opn.c (x : Opn) : Nat → CV
  | 0 => .v (.int .i64 x.kind)
  | 1 => .v (.string x.ser)
  | 2 => .v (.int .i64 x.smp.t)
  | 3 => .v (.int .i64 x.smp.v)
  | 4 => .v (.int .i64 x.frm)
  | 5 => .v (.int .i64 x.to)
  | _ => .v (.int .i64 x.tot)
abbrev opnA (x : Opn) : Pt := .agg [.c (.v (.int .i64 x.kind)), .c (.v (.string x.ser)), .c (.v (.int .i64 x.smp.t)), .c (.v (.int .i64 x.smp.v)), .c (.v (.int .i64 x.frm)), .c (.v (.int .i64 x.to)), .c (.v (.int .i64 x.tot))]
/-- Is a text a series'? -/
def serT (s : ByteArray) : Bool := match parS s with
  | some x => decide (prT x = s)
  | none => false
theorem serT_some {s : ByteArray} {x : Ser} (h : parS s = some x) : serT s = decide (prT x = s) := by rw [serT, h]
theorem serT_none {s : ByteArray} (h : parS s = none) : serT s = false := by rw [serT, h]
def zSer0 : Ser := ⟨mkS [], []⟩
theorem zSer0_z : zSer zSer0 := ⟨by unfold zS; exact Nat.zero_le _, Nat.zero_le _, fun i hi => absurd hi (Nat.not_lt_zero _)⟩
theorem series_rc (s : ByteArray) (hs : s.size ≤ 2000) (M : List Blk) : CallR Tryz.prog M n_shelf_series [.s s] (.b (serT s)) M := by
  refine callP F_shelf_series (Nat.le_of_ble_eq_true rfl) (by simp only [go_sem]) (by simp only [go_sem]) ?_ M
  simp only [c_shelf_series, go_sem]
  have hp := Parse_rc s (by omega)
  rw [parR] at hp
  cases hx : parS s with
  | none =>
    rw [hx] at hp
    refine call0 hp ?_
    simp only [go_sem]
    refine call0 (Print_rc zSer0 zSer0_z) ?_
    simp only [go_sem, serT_none hx]
  | some x =>
    rw [hx] at hp
    refine call0 hp ?_
    simp only [go_sem]
    refine call0 (Print_rc x (ok_zSer (parS_ok hx))) ?_
    simp only [go_sem, serT_some hx]
theorem rseries_rc (s : ByteArray) (hs : s.size ≤ 2000) (M : List Blk) : CallR Tryz.prog M n_windroseref14_series [.s s] (.b (serT s)) M := by
  refine callP F_windroseref14_series (Nat.le_of_ble_eq_true rfl) (by simp only [go_sem]) (by simp only [go_sem]) ?_ M
  simp only [c_windroseref14_series, go_sem]
  have hr := rParse_rc s hs
  rw [refR, ← parse_same] at hr
  cases hx : parS s with
  | none =>
    rw [hx] at hr
    refine call0 hr ?_
    simp only [go_sem]
    refine callg0 (r := .s (mkS [])) (fun h => Bool.noConfusion h) ?_
    simp only [go_sem, serT_none hx]
  | some x =>
    rw [hx] at hr
    refine call0 hr ?_
    simp only [go_sem]
    refine callg0 (fun _ => Text_rc x (parS_ok hx)) ?_
    rw [textR_prT (parS_ok hx)]
    simp only [go_sem, serT_some hx]
theorem in_rc (n lo hi : Int) (M : List Blk) : CallR Tryz.prog M n_shelf_in [.i n, .i lo, .i hi] (.b (decide (lo ≤ n) && decide (n ≤ hi))) M := by
  refine callP F_shelf_in (Nat.le_of_ble_eq_true rfl) (by simp only [go_sem]) (by simp only [go_sem]) ?_ M
  simp only [c_shelf_in, go_sem]
def opOk (o : Opn) : Bool :=
  if o.kind = 1 then serT o.ser && smOk o.smp && decide (o.frm = 0) && decide (o.to = 0) && decide (o.tot = 0)
  else if o.kind = 2 then decide (o.ser = mkS []) && decide (o.smp = zSmp) && decide (0 ≤ o.frm) && decide (o.frm ≤ 1099511627776) && decide (o.to = 0) && decide (o.tot = 0)
  else if o.kind = 3 then serT o.ser && decide (o.smp = zSmp) && decide (1 ≤ o.tot) && decide (o.tot ≤ 5)
  else if o.kind = 4 then serT o.ser && decide (o.smp = zSmp) && decide (o.to = 0) && decide (o.tot = 0)
  else false
theorem opn_ext {x y : Opn} : x = y ↔ x.kind = y.kind ∧ x.ser = y.ser ∧ x.smp.t = y.smp.t ∧ x.smp.v = y.smp.v ∧ x.frm = y.frm ∧ x.to = y.to ∧ x.tot = y.tot := by
  obtain ⟨a, b, ⟨c, d⟩, e, f, g⟩ := x
  obtain ⟨a', b', ⟨c', d'⟩, e', f', g'⟩ := y
  simp only [Opn.mk.injEq, Smp.mk.injEq]
  constructor
  · rintro ⟨h1, h2, ⟨h3, h4⟩, h5, h6, h7⟩; exact ⟨h1, h2, h3, h4, h5, h6, h7⟩
  · rintro ⟨h1, h2, h3, h4, h5, h6, h7⟩; exact ⟨h1, h2, ⟨h3, h4⟩, h5, h6, h7⟩
instance : DecidableEq Opn := fun a b => decidable_of_iff' _ opn_ext
theorem opn_beq (x y : Opn) : (x.kind == y.kind && (decide (x.ser = y.ser) && (x.smp.t == y.smp.t && (x.smp.v == y.smp.v && (x.frm == y.frm && (x.to == y.to && x.tot == y.tot)))))) = decide (x = y) := by
  rw [Bool.eq_iff_iff]
  simp only [Bool.and_eq_true, decide_eq_true_eq, beq_iff_eq, opn_ext]
def tailOp : C :=
 (.seq (.seq (.reg false [⟨some 70, .mv (.t 4), none⟩, ⟨some 71, .un .not (.t 70), none⟩, ⟨some 72, .mv (.t 71), none⟩, ⟨some 73, .ld true 7 (.t 1), some (72, false)⟩, ⟨some 74, .ld true 7 (.t 3), some (72, false)⟩, ⟨some 75, .eqa [1, 2, 1, 1, 1, 1, 1] true (.t 73) (.t 74), some (72, false)⟩, ⟨some 76, .pick (.t 72) (kb true) (.t 75), none⟩])
 (.cond (.t 76)
 (.seq (.reg false [⟨some 2, .mv (ki 1), none⟩])
 .ret)
 .skip))
 (.seq (.reg false [⟨some 2, .mv (ki 0), none⟩])
 .ret))
def opRow (x : Opn) : List AV := [.c (.v (.int .i64 x.kind)), .c (.v (.string x.ser)), .c (.v (.int .i64 x.smp.t)), .c (.v (.int .i64 x.smp.v)), .c (.v (.int .i64 x.frm)), .c (.v (.int .i64 x.to)), .c (.v (.int .i64 x.tot))]
set_option maxRecDepth 20000 in
theorem opTail (o b : Opn) (X : Bool) (e : Nat → SV) (D : List Blk) (R : Bool) (hR : R = (X && decide (o = b))) (h1 : e 1 = .p (.one (.ptr 0 0 0 0))) (h3 : e 3 = .p (.one (.ptr 1 0 0 0))) (h4 : e 4 = .b X) :
    Run Tryz.prog 77 0 tailOp ⟨e, .rows 35 7 0 [opRow o] true :: .rows 35 7 0 [opRow b] true :: D⟩ (FinK 77 0 [.t 2] (.i (if R then 0 else 1)) []) := by
  refine V_sound ?_
  simp only [tailOp, opRow, go_sem, h1, h3, h4, opn_beq]
  subst hR
  cases X with
  | false =>
    simp only [go_sem]
    exact fin0 (.inr rfl) rfl trivial (SubS.refl _) (by simp only [go_sem])
  | true =>
    simp only [go_sem]
    refine ⟨fun hc => ?_, fun hc => ?_⟩
    · rw [if_neg (show ¬ o = b by simpa using hc)]
      exact fin0 (.inr rfl) rfl trivial (SubS.refl _) (by simp only [go_sem])
    · rw [if_pos (show o = b by simpa using hc)]
      exact fin0 (.inr rfl) rfl trivial (SubS.refl _) (by simp only [go_sem])
set_option maxRecDepth 20000 in
theorem CheckOp_rc (o : Opn) (hs : o.ser.size ≤ 2000) (M : List Blk) : CallR Tryz.prog M n_shelf_CheckOp [opnA o] (.i (if opOk o then 0 else 1)) M := by
  refine callPG F_shelf_CheckOp (Nat.le_of_ble_eq_true rfl) (by simp only [go_sem]) ?_ M
  refine run_seqV ?_
  simp only [go_sem]
  refine run_seqV ?_
  simp only [go_sem]
  refine run_seqV ?_
  simp only [go_sem]
  refine callg0 (fun _ => series_rc o.ser hs) ?_
  simp only [go_sem]
  obtain ⟨kind, ser, smp, frm, to, tot⟩ := o
  simp only at hs ⊢
  have hsm : ∀ a b : Smp, a = b ↔ a.t = b.t ∧ a.v = b.v := fun a b => by cases a; cases b; simp
  by_cases k1 : kind = 1
  · subst k1
    cases hser : serT ser with
    | false =>
      refine run_seqV ?_
      simp only [go_sem, hser]
      refine ⟨rfl, ops_end ?_⟩
      simp only [go_sem]
      refine ops_end ?_
      simp only [go_sem]
      refine opTail ⟨1, ser, smp, frm, to, tot⟩ ⟨1, ser, smp, 0, 0, 0⟩ false _ _ _ ?_ ?_ ?_ ?_
      · simp only [opOk, hser, go_sem]
      all_goals simp only [go_sem]
    | true =>
      refine run_seqV ?_
      simp only [go_sem, hser]
      refine ⟨rfl, callLg (fun _ => bCheck_rc [smp] (Nat.le_of_ble_eq_true rfl) []) (fun _ => ⟨snapL [smp] rfl, trivial⟩) (by simp only [go_sem]) ?_⟩
      simp only [go_sem, smsOk_one]
      refine opTail ⟨1, ser, smp, frm, to, tot⟩ ⟨1, ser, smp, 0, 0, 0⟩ (smOk smp) _ _ _ ?_ ?_ ?_ ?_
      · rw [Bool.eq_iff_iff]
        simp [opOk, hser, opn_ext]
        grind
      · simp only [go_sem]
      · simp only [go_sem]
      · simp only [go_sem]
        cases smOk smp <;> rfl
  by_cases k2 : kind = 2
  · subst k2
    refine run_seqV ?_
    simp only [go_sem]
    refine call0 (in_rc frm 0 1099511627776) ?_
    simp only [go_sem]
    refine opTail ⟨2, ser, smp, frm, to, tot⟩ ⟨2, mkS [], ⟨0, 0⟩, frm, 0, 0⟩ (decide (0 ≤ frm) && decide (frm ≤ 1099511627776)) _ _ _ ?_ ?_ ?_ ?_
    · rw [Bool.eq_iff_iff]
      simp [opOk, opn_ext, hsm, zSmp]
      grind
    all_goals simp only [go_sem]
  have e2 : (kind == 2) = false := by simpa using k2
  by_cases k3 : kind = 3
  · subst k3
    cases hser : serT ser with
    | false =>
      refine run_seqV ?_
      simp only [go_sem, hser]
      refine ⟨rfl, callg0 (fun _ => in_rc tot 1 5) ?_⟩
      simp only [go_sem]
      refine opTail ⟨3, ser, smp, frm, to, tot⟩ ⟨3, ser, ⟨0, 0⟩, frm, to, tot⟩ false _ _ _ ?_ ?_ ?_ ?_
      · simp [opOk, hser]
      all_goals simp only [go_sem]
    | true =>
      refine run_seqV ?_
      simp only [go_sem, hser]
      refine ⟨rfl, callg0 (fun _ => in_rc tot 1 5) ?_⟩
      simp only [go_sem]
      refine opTail ⟨3, ser, smp, frm, to, tot⟩ ⟨3, ser, ⟨0, 0⟩, frm, to, tot⟩ (decide (1 ≤ tot) && decide (tot ≤ 5)) _ _ _ ?_ ?_ ?_ ?_
      · rw [Bool.eq_iff_iff]
        simp [opOk, hser, opn_ext, hsm, zSmp]
        grind
      all_goals simp only [go_sem]
  by_cases k4 : kind = 4
  · subst k4
    refine run_seqV ?_
    simp only [go_sem]
    refine ⟨rfl, opTail ⟨4, ser, smp, frm, to, tot⟩ ⟨4, ser, ⟨0, 0⟩, frm, 0, 0⟩ (serT ser) _ _ _ ?_ ?_ ?_ ?_⟩
    · rw [Bool.eq_iff_iff]
      simp [opOk, opn_ext, hsm, zSmp]
      grind
    all_goals simp only [go_sem]
  refine run_seqV ?_
  simp only [go_sem, k1, k2, k3, k4]
  refine opTail ⟨kind, ser, smp, frm, to, tot⟩ ⟨kind, mkS [], ⟨0, 0⟩, 0, 0, 0⟩ false _ _ _ ?_ ?_ ?_ ?_
  · simp [opOk, k1, k2, k3, k4]
  all_goals simp only [go_sem]
end Go.Proofs.YtcmkhlfjcdchmaaGreat.A
end
section
namespace Go.Proofs.YtcmkhlfjcdchmaaGreat.A
open Go Go.Proofs.YtcmkhlfjcdchmaaGreatAbs
theorem subS_b {x y : Bool} (h : x = y) : SubS (.b x) (.b y) := by rw [h]; exact SubS.refl _
theorem subS_i {x y : Int} (h : x = y) : SubS (.i x) (.i y) := by rw [h]; exact SubS.refl _
set_option maxRecDepth 20000 in
theorem rOp_rc (o : Opn) (hs : o.ser.size ≤ 2000) (M : List Blk) : CallR Tryz.prog M n_windroseref14_Op [opnA o] (.b (opOk o)) M := by
  refine callPG F_windroseref14_Op (Nat.le_of_ble_eq_true rfl) (by simp only [go_sem]) ?_ M
  have hsm : ∀ a b : Smp, a = b ↔ a.t = b.t ∧ a.v = b.v := fun a b => by cases a; cases b; simp
  obtain ⟨kind, ser, smp, frm, to, tot⟩ := o
  simp only at hs ⊢
  refine run_seqV ?_
  simp only [go_sem]
  refine run_seqV ?_
  by_cases k2 : kind = 2
  · subst k2
    simp only [go_sem]
    refine fin0 (.inr rfl) rfl trivial ?_ (by simp only [go_sem])
    simp only [go_sem, mkRes]
    refine subS_b ?_
    rw [Bool.eq_iff_iff]
    simp [opOk, hsm, zSmp]
    grind
  simp only [go_sem, k2]
  refine run_seqV ?_
  simp only [go_sem]
  refine call0 (rseries_rc ser hs) ?_
  simp only [go_sem]
  cases hser : serT ser with
  | false =>
    simp only [go_sem]
    have : opOk ⟨kind, ser, smp, frm, to, tot⟩ = false := by simp [opOk, hser, k2]
    rw [this]
    exact fin0 (.inr rfl) rfl trivial (SubS.refl _) (by simp only [go_sem])
  | true =>
    simp only [go_sem]
    refine run_seqV ?_
    by_cases k1 : kind = 1
    · subst k1
      simp only [go_sem]
      refine ⟨fun hc => ?_, fun hc => ?_⟩
      · simp only [hc]
        refine callLg (fun _ => rMay_rc [smp] (Nat.le_of_ble_eq_true rfl) []) (fun _ => ⟨snapL [smp] rfl, trivial⟩) (by simp only [go_sem]) ?_
        simp only [go_sem, smsOk_one]
        refine fin0 (.inr rfl) rfl trivial ?_ (by simp only [go_sem])
        simp only [go_sem, mkRes]
        refine subS_b ?_
        simp [opOk, hser]
        simp at hc
        simp [hc]
      · simp only [hc, go_sem]
        refine ops_end ?_
        simp only [go_sem]
        refine fin0 (.inr rfl) rfl trivial ?_ (by simp only [go_sem])
        simp only [go_sem, mkRes]
        refine subS_b ?_
        simp [opOk, hser]
        simp at hc
        grind
    by_cases k3 : kind = 3
    · subst k3
      simp only [go_sem]
      refine fin0 (.inr rfl) rfl trivial ?_ (by simp only [go_sem])
      simp only [go_sem, mkRes]
      refine subS_b ?_
      rw [Bool.eq_iff_iff]
      simp [opOk, hser, hsm, zSmp]
      try grind
    by_cases k4 : kind = 4
    · subst k4
      simp only [go_sem]
      refine fin0 (.inr rfl) rfl trivial ?_ (by simp only [go_sem])
      simp only [go_sem, mkRes]
      refine subS_b ?_
      rw [Bool.eq_iff_iff]
      simp [opOk, hser, hsm, zSmp]
      try grind
    simp only [go_sem, k1, k3, k4]
    refine V_sound ?_
    simp only [go_sem]
    have : opOk ⟨kind, ser, smp, frm, to, tot⟩ = false := by simp [opOk, k1, k2, k3, k4]
    rw [this]
    exact fin0 (.inr rfl) rfl trivial (SubS.refl _) (by simp only [go_sem])
end Go.Proofs.YtcmkhlfjcdchmaaGreat.A
end
section
namespace Go.Proofs.YtcmkhlfjcdchmaaGreat.A
open Go Go.Proofs.YtcmkhlfjcdchmaaGreatAbs
structure Ans where
  code : Int
  has : Bool
  n : Int
instance : Inhabited Ans := ⟨⟨0, false, 0⟩⟩
structure Dn where
  client : Int
  id : Int
  ans : Ans
instance : Inhabited Dn := ⟨⟨0, 0, ⟨0, false, 0⟩⟩⟩
@[go_sem] def Dn.c (x : Dn) : Nat → CV
  | 0 => .v (.int .i64 x.client)
  | 1 => .v (.int .i64 x.id)
  | 2 => .v (.int .i64 x.ans.code)
  | 3 => .v (.bool x.ans.has)
  | _ => .v (.int .i64 x.ans.n)
structure Lin where
  ser : ByteArray
  smps : List Smp
instance : Inhabited Lin := ⟨⟨mkS [], []⟩⟩
@[go_sem] def Lin.c (x : Lin) : Nat → CV
  | 0 => .v (.string x.ser)
  | _ => smpCV x.smps
structure Shf where
  lines : List Lin
  dones : List Dn
  floor : Int
instance : Inhabited Shf := ⟨⟨[], [], 0⟩⟩
abbrev linL (l : List Lin) : Pt := immP 2 Lin.c l
abbrev dnL (l : List Dn) : Pt := immP 5 Dn.c l
abbrev shfA (s : Shf) : Pt := .agg [.c (immL 2 Lin.c s.lines), .c (immL 5 Dn.c s.dones), .c (.v (.int .i64 s.floor))]
@[go_sem] def Shf.c (x : Shf) : Nat → CV
  | 0 => immL 2 Lin.c x.lines
  | 1 => immL 5 Dn.c x.dones
  | _ => .v (.int .i64 x.floor)
/-- A shelf that is not too great to be looked at. -/
structure zShf (s : Shf) : Prop where
  ll : s.lines.length ≤ 1000
  dl : s.dones.length ≤ 1000
  ser : ∀ i, i < s.lines.length → (s.lines.getD i default).ser.size ≤ 2000
  smp : ∀ i, i < s.lines.length → (s.lines.getD i default).smps.length ≤ 1000
def lnAt (l : List Lin) (f : Int) (i : Nat) : Bool := serT (l.getD i default).ser && (i == 0 || sLt (l.getD (i - 1) default).ser (l.getD i default).ser) && decide (0 < (l.getD i default).smps.length) && smsOk (l.getD i default).smps && decide (f ≤ ((l.getD i default).smps.getD 0 default).t)
def dnAt (l : List Dn) (i : Nat) : Bool := decide (1 ≤ (l.getD i default).client) && decide ((l.getD i default).client ≤ 2147483647) && decide (1 ≤ (l.getD i default).id) && decide ((l.getD i default).id ≤ 2147483647) && (i == 0 || decide ((l.getD (i - 1) default).client < (l.getD i default).client))
def shOk (s : Shf) : Bool := decide (s.lines.length ≤ 16) && decide (s.dones.length ≤ 8) && decide (0 ≤ s.floor) && decide (s.floor ≤ 1099511627776) && (List.range s.lines.length).all (lnAt s.lines s.floor) && (List.range s.dones.length).all (dnAt s.dones)
theorem leS_lt' (a b : ByteArray) : (sLt a b || decide (a = b)) = !sLt b a := leS_lt a b
theorem ifne (b : Bool) : ((if b = true then (0 : Int) else 1) != 0) = !b := by cases b <;> rfl
theorem lnAt_key (l : List Lin) (f : Int) {k : Nat} (hk : k ≤ 140737488355328) : (!serT (l.getD k default).ser || decide (0 < (k : Int)) && (sLt (l.getD k default).ser (l.getD (IntKind.i64.wrap ((k : Int) - 1)).toNat default).ser || decide ((l.getD k default).ser = (l.getD (IntKind.i64.wrap ((k : Int) - 1)).toNat default).ser)) || ((l.getD k default).smps.length : Int) == 0 || (if smsOk (l.getD k default).smps = true then (0 : Int) else 1) != 0 || decide (((l.getD k default).smps.getD 0 default).t < f)) = !lnAt l f k := by
  unfold lnAt
  rw [ifne, leS_lt]
  have e1 : ((((l.getD k default).smps.length : Nat) : Int) == 0) = !decide (0 < (l.getD k default).smps.length) := by
    rw [Bool.eq_iff_iff]; simp
  have e2 : decide (((l.getD k default).smps.getD 0 default).t < f) = !decide (f ≤ ((l.getD k default).smps.getD 0 default).t) := by
    rw [Bool.eq_iff_iff]; simp
  rw [e1, e2]
  by_cases h0 : k = 0
  · subst h0
    have : decide ((0 : Int) < ((0 : Nat) : Int)) = false := rfl
    rw [this]
    simp only [Bool.false_and, Bool.or_false, beq_self_eq_true, Bool.true_or, Bool.and_true, Bool.not_and]
  · rw [wpr (by omega) hk, decide_eq_true (show (0 : Int) < (k : Int) by omega)]
    have e : (k == 0) = false := by simpa using h0
    simp only [e, Bool.true_and, Bool.false_or, Bool.not_and]
theorem dnAt_key (l : List Dn) {k : Nat} (hk : k ≤ 140737488355328) : (!decide (1 ≤ (l.getD k default).client) || !decide ((l.getD k default).client ≤ 2147483647) || (!decide (1 ≤ (l.getD k default).id) || !decide ((l.getD k default).id ≤ 2147483647)) || decide (0 < (k : Int)) && decide ((l.getD k default).client ≤ (l.getD (IntKind.i64.wrap ((k : Int) - 1)).toNat default).client)) = !dnAt l k := by
  unfold dnAt
  rw [Bool.eq_iff_iff]
  by_cases h0 : k = 0
  · subst h0
    simp
    omega
  · rw [wpr (by omega) hk]
    have e : (k == 0) = false := by simpa using h0
    simp only [e, Bool.false_or, Bool.or_eq_true, Bool.and_eq_true, Bool.not_eq_true', Bool.and_eq_false_iff, Bool.or_eq_false_iff, decide_eq_true_eq, decide_eq_false_iff_not]
    omega
theorem shOk_f1 {s : Shf} {k : Nat} (hk : k < s.lines.length) (h : lnAt s.lines s.floor k = false) : shOk s = false := by rw [shOk, all_f hk h]; simp
theorem shOk_f2 {s : Shf} {k : Nat} (hk : k < s.dones.length) (h : dnAt s.dones k = false) : shOk s = false := by rw [shOk, all_f hk h]; simp
set_option maxRecDepth 20000 in
theorem sCheck_rc (s : Shf) (hz : zShf s) (M : List Blk) : CallR Tryz.prog M n_shelf_Check [shfA s] (.i (if shOk s then 0 else 1)) M := by
  refine callPG F_shelf_Check (Nat.le_of_ble_eq_true rfl) (by simp only [go_sem]) ?_ M
  obtain ⟨lines, dones, floor⟩ := s
  obtain ⟨hll, hdl, hser, hsmp⟩ := hz
  simp only at hll hdl hser hsmp ⊢
  have hbad : ∀ (e : Nat → SV) (X : List Blk), shOk ⟨lines, dones, floor⟩ = false → e 2 = .i 1 → FinK 109 0 [.t 2] (.i (if shOk ⟨lines, dones, floor⟩ then 0 else 1)) [] .ret ⟨e, X⟩ := by
    intro e X h h2
    rw [h]
    exact fin0 (.inr rfl) (qs := [.i 1]) (cnd := True) (by simp only [go_sem, h2]) trivial (SubS.refl _) (by simp only [go_sem])
  refine run_seqV ?_
  simp only [go_sem]
  refine run_seqV ?_
  simp only [go_sem]
  refine callg0 (fun _ => in_rc floor 0 1099511627776) ?_
  simp only [go_sem]
  refine ⟨fun hc => hbad _ _ ?_ (by simp only [go_sem]), fun hc => ?_⟩
  · cases h : shOk ⟨lines, dones, floor⟩ with
    | false => rfl
    | true =>
      exfalso
      simp only [shOk, Bool.and_eq_true, decide_eq_true_eq] at h
      simp only [Bool.or_eq_true, decide_eq_true_eq, Bool.not_eq_true', decide_eq_false_iff_not] at hc
      omega
  refine run_seqV ?_
  simp only [go_sem]
  refine V_loop (ι := Nat) (J := fun k => k ≤ lines.length ∧ ∀ i, i < k → lnAt lines floor i = true) (env := fun k => [(1, .p (.one (.ptr 0 0 0 0))), (24, .p (linL lines)), (25, .i lines.length), (26, .i k)]) (mem := fun _ => [.rows 29 3 0 [[.c (immL 2 Lin.c lines), .c (immL 5 Dn.c dones), .c (.v (.int .i64 floor))]] true]) (μ := fun k => lines.length - k) 0 ⟨Nat.zero_le _, fun j hj => by omega⟩ ⟨[], by simp only [go_sem], Nat.zero_le _, by simp only [go_sem], by simp only [go_sem, ltB]⟩ ?_
  rintro k ⟨hk, hok⟩
  simp only [go_sem]
  refine ⟨fun h1 => ⟨by omega, ?_⟩, fun h1 => ?_⟩
  · refine call0 (series_rc _ (hser k h1)) ?_
    simp only [go_sem]
    have hs1 := hsmp k h1
    refine ⟨fun hc => ?_, callg0 (fun _ => bCheck_rc _ (by omega)) ?_⟩
    · have := (Bool.and_eq_true_iff.1 hc).2
      rw [w64p (by simpa using this) (by omega)]
      omega
    simp only [go_sem]
    refine ⟨fun hc => ?_, ?_⟩
    · have hc := (Bool.and_eq_true_iff.1 (Bool.and_eq_true_iff.1 hc).1).2
      rw [Bool.not_eq_true', beq_eq_false_iff_ne] at hc
      omega
    rw [lnAt_key _ _ (by omega)]
    refine ⟨fun hc => hbad _ _ (shOk_f1 h1 (by simpa using hc)) (by simp only [go_sem]), fun hc => ⟨k + 1, ⟨by omega, fun j hj => ?_⟩, by omega, ?_⟩⟩
    · by_cases e : j = k
      · subst e; simpa using hc
      · exact hok j (by omega)
    · refine ⟨_, by simp only [go_sem]; rfl, Nat.zero_le _, ?_, by simp only [go_sem, ltB]⟩
      simp only [go_sem, w64s (show k < 9223372036854775807 by omega)]
  · refine run_seqV ?_
    simp only [go_sem]
    refine V_loop (ι := Nat) (J := fun k => k ≤ dones.length ∧ ∀ i, i < k → dnAt dones i = true) (env := fun k => [(1, .p (.one (.ptr 0 0 0 0))), (75, .p (dnL dones)), (76, .i dones.length), (77, .i k)]) (mem := fun _ => [.rows 29 3 0 [[.c (immL 2 Lin.c lines), .c (immL 5 Dn.c dones), .c (.v (.int .i64 floor))]] true]) (μ := fun k => dones.length - k) 0 ⟨Nat.zero_le _, fun j hj => by omega⟩ ⟨[], by simp only [go_sem], Nat.zero_le _, by simp only [go_sem], by simp only [go_sem, ltB]⟩ ?_
    rintro j ⟨hj, hokd⟩
    simp only [go_sem]
    refine ⟨fun h2 => ⟨by omega, ?_⟩, fun h2 => ?_⟩
    · refine call0 (in_rc _ _ _) ?_
      simp only [go_sem]
      refine callg0 (fun _ => in_rc _ _ _) ?_
      simp only [go_sem]
      rw [dnAt_key _ (by omega)]
      refine ⟨fun hc => ?_, fun hc => hbad _ _ (shOk_f2 h2 (by simpa using hc)) (by simp only [go_sem]), fun hc => ⟨j + 1, ⟨by omega, fun i hi => ?_⟩, by omega, ?_⟩⟩
      · have := (Bool.and_eq_true_iff.1 hc).2
        rw [w64p (by simpa using this) (by omega)]
        omega
      · by_cases e : i = j
        · subst e; simpa using hc
        · exact hokd i (by omega)
      · refine ⟨_, by simp only [go_sem]; rfl, Nat.zero_le _, ?_, by simp only [go_sem, ltB]⟩
        simp only [go_sem, w64s (show j < 9223372036854775807 by omega)]
    · have hok' : shOk ⟨lines, dones, floor⟩ = true := by
        simp only [Bool.or_eq_false_iff, decide_eq_false_iff_not, Bool.not_eq_false', decide_eq_true_eq] at hc
        simp only [shOk, Bool.and_eq_true, decide_eq_true_eq]
        exact ⟨⟨by omega, all_t (fun i hi => hok i (by omega))⟩, all_t (fun i hi => hokd i (by omega))⟩
      rw [hok']
      refine V_sound ?_
      simp only [go_sem]
      exact fin0 (.inr rfl) rfl trivial (SubS.refl _) (by simp only [go_sem])
end Go.Proofs.YtcmkhlfjcdchmaaGreat.A
end
section
namespace Go.Proofs.YtcmkhlfjcdchmaaGreat.A
open Go Go.Proofs.YtcmkhlfjcdchmaaGreatAbs
theorem trim_len {l : List Smp} {f : Int} (h : smsOk l = true) (h0 : 0 < l.length) : ((rtrimS l f).length = l.length) = (f ≤ (l.getD 0 default).t) := by
  rw [eq_iff_iff, rtrimS, List.length_filter_eq_length_iff]
  refine ⟨fun hx => by simpa using hx (l.getD 0 default) (getD_mem _ h0), fun hx x hm => ?_⟩
  obtain ⟨i, hi, rfl⟩ := (mem_getD (d := (default : Smp))).1 hm
  by_cases e : i = 0
  · subst e; simpa using hx
  · have := sm_rise h (show 0 < i by omega) hi
    simp only [decide_eq_true_eq]
    omega
theorem lnAt_key3 (l : List Lin) (f : Int) {k : Nat} (hk : k ≤ 140737488355328) : (!serT (l.getD k default).ser || decide (0 < (k : Int)) && !sLt (l.getD (IntKind.i64.wrap ((k : Int) - 1)).toNat default).ser (l.getD k default).ser || ((l.getD k default).smps.length : Int) == 0 || !smsOk (l.getD k default).smps || ((rtrimS (l.getD k default).smps f).length : Int) != ((l.getD k default).smps.length : Int)) = !lnAt l f k := by
  rw [← lnAt_key l f hk, ifne, leS_lt]
  cases hs : smsOk (l.getD k default).smps with
  | false => simp only [Bool.not_false, Bool.or_true, Bool.true_or]
  | true =>
    by_cases h0 : 0 < (l.getD k default).smps.length
    · have : (((rtrimS (l.getD k default).smps f).length : Int) != ((l.getD k default).smps.length : Int)) = decide (((l.getD k default).smps.getD 0 default).t < f) := by
        have e := trim_len (f := f) hs h0
        rw [Bool.eq_iff_iff]
        simp only [bne_iff_ne, ne_eq, Int.natCast_inj, e, decide_eq_true_eq, Int.not_le]
      rw [this]
    · have : (((l.getD k default).smps.length : Int) == 0) = true := by
        rw [beq_iff_eq]; omega
      rw [this]
      simp only [Bool.or_true, Bool.true_or]
theorem dnAt_key3 (l : List Dn) {k : Nat} (hk : k ≤ 140737488355328) : (decide ((l.getD k default).client < 1) || decide (2147483648 ≤ (l.getD k default).client) || decide ((l.getD k default).id < 1) || decide (2147483648 ≤ (l.getD k default).id) || decide (0 < (k : Int)) && decide ((l.getD k default).client ≤ (l.getD (IntKind.i64.wrap ((k : Int) - 1)).toNat default).client)) = !dnAt l k := by
  rw [← dnAt_key l hk, Bool.eq_iff_iff]
  simp only [Bool.or_eq_true, Bool.and_eq_true, Bool.not_eq_true', decide_eq_true_eq, decide_eq_false_iff_not]
  omega
set_option maxRecDepth 20000 in
theorem rsMay_rc (s : Shf) (hz : zShf s) (M : List Blk) : CallR Tryz.prog M n_windroseref14_May [shfA s] (.b (shOk s)) M := by
  refine callPG F_windroseref14_May (Nat.le_of_ble_eq_true rfl) (by simp only [go_sem]) ?_ M
  obtain ⟨lines, dones, floor⟩ := s
  obtain ⟨hll, hdl, hser, hsmp⟩ := hz
  simp only at hll hdl hser hsmp ⊢
  have hbad : ∀ (e : Nat → SV) (X : List Blk), shOk ⟨lines, dones, floor⟩ = false → e 2 = .b false → FinK 129 0 [.t 2] (.b (shOk ⟨lines, dones, floor⟩)) [] .ret ⟨e, X⟩ := by
    intro e X h h2
    rw [h]
    exact fin0 (.inr rfl) (qs := [.b false]) (cnd := True) (by simp only [go_sem, h2]) trivial (SubS.refl _) (by simp only [go_sem])
  have hgood : ∀ (e : Nat → SV) (X : List Blk) (b : Bool), shOk ⟨lines, dones, floor⟩ = b → e 2 = .b b → FinK 129 0 [.t 2] (.b (shOk ⟨lines, dones, floor⟩)) [] .ret ⟨e, X⟩ := by
    intro e X b h h2
    rw [h]
    exact fin0 (.inr rfl) (qs := [.b b]) (cnd := True) (by simp only [go_sem, h2]) trivial (SubS.refl _) (by simp only [go_sem])
  refine run_seqV ?_
  simp only [go_sem]
  refine run_seqV ?_
  simp only [go_sem]
  refine V_loop (ι := Nat) (J := fun k => k ≤ lines.length ∧ ∀ i, i < k → lnAt lines floor i = true) (env := fun k => [(1, .p (.one (.ptr 0 0 0 0))), (3, .i k)]) (mem := fun _ => [.rows 29 3 0 [[.c (immL 2 Lin.c lines), .c (immL 5 Dn.c dones), .c (.v (.int .i64 floor))]] true]) (μ := fun k => lines.length - k) 0 ⟨Nat.zero_le _, fun j hj => by omega⟩ ⟨[], by simp only [go_sem], Nat.zero_le _, by simp only [go_sem], by simp only [go_sem, ltB]⟩ ?_
  rintro k ⟨hk, hok⟩
  simp only [go_sem]
  refine ⟨fun h1 => ⟨by omega, ?_⟩, fun h1 => ?_⟩
  · refine call0 (rseries_rc _ (hser k h1)) ?_
    simp only [go_sem]
    have hs1 := hsmp k h1
    have hs1' : (lines.getD k default).smps.length ≤ 140737488355328 := by omega
    refine ⟨fun hc => ?_, callg0 (fun _ => rMay_rc _ hs1') ?_⟩
    · have := (Bool.and_eq_true_iff.1 hc).2
      rw [w64p (by simpa using this) (by omega)]
      omega
    simp only [go_sem]
    refine callg0 (fun _ => rTrim_rc _ (by omega) floor) ?_
    simp only [go_sem]
    rw [lnAt_key3 _ _ (by omega)]
    refine ⟨fun hc => hbad _ _ (shOk_f1 h1 (by simpa using hc)) (by simp only [go_sem]), fun hc => ⟨k + 1, ⟨by omega, fun j hj => ?_⟩, by omega, ?_⟩⟩
    · by_cases e : j = k
      · subst e; simpa using hc
      · exact hok j (by omega)
    · refine ⟨_, by simp only [go_sem]; rfl, Nat.zero_le _, ?_, by simp only [go_sem, ltB]⟩
      simp only [go_sem, w64s (show k < 9223372036854775807 by omega)]
  · refine run_seqV ?_
    simp only [go_sem]
    refine V_loop (ι := Nat) (J := fun k => k ≤ dones.length ∧ ∀ i, i < k → dnAt dones i = true) (env := fun k => [(1, .p (.one (.ptr 0 0 0 0))), (5, .i k)]) (mem := fun _ => [.rows 29 3 0 [[.c (immL 2 Lin.c lines), .c (immL 5 Dn.c dones), .c (.v (.int .i64 floor))]] true]) (μ := fun k => dones.length - k) 0 ⟨Nat.zero_le _, fun j hj => by omega⟩ ⟨[], by simp only [go_sem], Nat.zero_le _, by simp only [go_sem], by simp only [go_sem, ltB]⟩ ?_
    rintro j ⟨hj, hokd⟩
    simp only [go_sem]
    refine ⟨fun h2 => ⟨by omega, ?_⟩, fun h2 => ?_⟩
    · rw [dnAt_key3 _ (by omega)]
      refine ⟨fun hc => ?_, fun hc => hbad _ _ (shOk_f2 h2 (by simpa using hc)) (by simp only [go_sem]), fun hc => ⟨j + 1, ⟨by omega, fun i hi => ?_⟩, by omega, ?_⟩⟩
      · have := (Bool.and_eq_true_iff.1 hc).2
        rw [w64p (by simpa using this) (by omega)]
        omega
      · by_cases e : i = j
        · subst e; simpa using hc
        · exact hokd i (by omega)
      · refine ⟨_, by simp only [go_sem]; rfl, Nat.zero_le _, ?_, by simp only [go_sem, ltB]⟩
        simp only [go_sem, w64s (show j < 9223372036854775807 by omega)]
    · refine V_sound ?_
      simp only [go_sem]
      have hfin : shOk ⟨lines, dones, floor⟩ = (decide ((lines.length : Int) ≤ 16) && decide ((dones.length : Int) ≤ 8) && decide (0 ≤ floor) && decide (floor ≤ 1099511627776)) := by
        have a1 : (List.range lines.length).all (lnAt lines floor) = true := all_t (fun i hi => hok i (by omega))
        have a2 : (List.range dones.length).all (dnAt dones) = true := all_t (fun i hi => hokd i (by omega))
        rw [Bool.eq_iff_iff]
        simp only [shOk, a1, a2, Bool.and_eq_true, decide_eq_true_eq, Bool.and_true]
        omega
      exact hgood _ _ _ hfin (by simp only [go_sem])
end Go.Proofs.YtcmkhlfjcdchmaaGreat.A
end
section
namespace Go.Proofs.YtcmkhlfjcdchmaaGreatAbs
open Go Go.RowKit
section
variable {M l : List Blk} {k : Nat} {X : Blk}
theorem mget : (M ++ l)[M.length + k]? = l[k]? := by rw [List.getElem?_append_right (Nat.le_add_right _ _), Nat.add_sub_cancel_left]
theorem mget0 : (M ++ l)[M.length]? = l[0]? := by rw [List.getElem?_append_right (Nat.le_refl _), Nat.sub_self]
theorem mset : (M ++ l).set (M.length + k) X = M ++ l.set k X := by rw [List.set_append_right _ _ (Nat.le_add_right _ _), Nat.add_sub_cancel_left]
theorem mset0 : (M ++ l).set M.length X = M ++ l.set 0 X := by rw [List.set_append_right _ _ (Nat.le_refl _), Nat.sub_self]
end
/-- What a block holds is forgotten. -/
theorem gh_kill {n m : Nat} {e : Nat → SV} {M : List Blk} (b : Nat) : Gh n m ⟨e, M⟩ ⟨e, M.set b .dead⟩ := by
  rintro I0 σ0 M0 w0 a w hm0 ⟨I, σ, hev, he, h1, h2⟩
  have hm := hev.mem
  by_cases hb : b < M.length
  · have hx : M[b]? = some M[b] := List.getElem?_eq_getElem hb
    have hp : σ[b]? = some (σ[b]'(by rw [hm.len]; exact hb)) := List.getElem?_eq_getElem (by rw [hm.len]; exact hb)
    obtain ⟨m1, m2⟩ := hm.retell hx hp (x' := .dead) (fun h => by cases h) trivial
    exact ⟨I, σ, hev.retell m1 m2, he, h1, h2⟩
  · rw [List.set_eq_of_length_le (by omega)]
    exact ⟨I, σ, hev, he, h1, h2⟩
theorem fin_m {n : Nat} {rvs : List RV} {r : SV} {M' : List Blk} {s s1 : St} {ex : Exit} {m : Nat} (hex : ex = .normal ∨ ex = .ret) (h : Gh n m s s1) (D : List Blk) {qs : List Pt} {cnd : Prop} (h1 : resL s1.env s1.M rvs = some (qs, cnd)) (h2 : cnd) (h3 : s1.M = M' ++ D) (h4 : SubS (mkRes qs) r) (h5 : m ≤ M'.length) (h6 : ltS M'.length r) (h7 : ∀ x ∈ M', ltB M'.length x) : FinK n m rvs r M' ex s := fin_sub hex h D h1 h2 h3 h4 h5 h6 h7
def res0 : Blk := .rows 0 0 0 [] true
/-- A function that makes rows out of nothing of the caller's: the rows come to a place that is kept for them. -/
theorem callR_place {P : Program} {f : Nat} {ps : List Pt} {sz v len t : Nat} {l : List (List AV)} {fl : Bool} (h : CallR P [] f ps (.p (.one (.arr sz 0 v 0 len))) [.rows t sz v l fl]) (hcl : closedRows l) (hps : ∀ q ∈ ps, ltP 0 q) (hlen : len ≤ l.length) (n : Nat) (N : List Blk) (hN : N[n]? = some (.rows 0 0 0 [] true)) :
    CallR P N f ps (.p (.one (.arr sz n 1 0 len))) (N.set n (.rows t sz 1 l fl)) := by
  intro I σ w vals hG hm hvl hvr
  have hm0 : Mem I [] [] w := ⟨rfl, fun b x p h => by simp at h, fun b b' x x' p p' g h => by simp at h, fun b x p g h => by simp at h, hm.imm⟩
  have hno : ∀ g, ¬ Has ([] : List Plc) [] g := by rintro g ⟨b, x, p, h, _⟩; simp at h
  refine Comes.mono (h I [] w vals hG hm0 hvl (fun k q x hq hx => ?_)) ?_
  · have := RelP_take (n := 0) (hps q (List.mem_of_getElem? hq)) (hvr k q x hq hx)
    simpa using this
  · rintro y w' ⟨I', σ', hr, hev⟩
    obtain ⟨p1, rfl⟩ : ∃ p1, σ' = [p1] := by
      have := hev.mem.len
      match σ', this with
      | [p], _ => exact ⟨p, rfl⟩
    have hnl : n < N.length := (List.getElem?_eq_some_iff.1 hN).1
    have hnσ : n < σ.length := by rw [hm.len]; exact hnl
    obtain ⟨k0, k1, k2, k3, k4, k5, k6⟩ := hm.blk n _ _ hN (List.getElem?_eq_getElem hnσ)
    generalize hp0 : σ[n] = p0 at k0 k1 k2 k3 k4 k5 k6
    obtain ⟨q0, q1, q2, q3, q4, q5, q6⟩ := hev.mem.blk 0 _ _ rfl rfl
    obtain ⟨y1, pr, hpr, hpv, hq⟩ := hr
    obtain rfl : p1 = pr := by simpa using hpr
    obtain ⟨e1, e2, e3⟩ := hq q2
    have hk : Keep (fun _ => False) w w' := hev.keep.mono (fun k _ h => hno k h)
    have hm1 := hm.keep hk (fun _ _ h => h) (fun _ _ _ h => h)
    have hfr : ∀ ad x, I' ad = some x → I ad = some x ∨ w.heap.size ≤ ad.block := by
      intro ad x hx
      rcases hev.fresh ad x hx with h | h | h
      · exact .inl h
      · exact .inr h
      · exact absurd h (hno _)
    have hg1 : ∀ g, p1.blk = some g → w.heap.size ≤ g := fun g hg => by
      rcases hev.own g ⟨0, _, p1, rfl, rfl, rfl, hg⟩ with h | h
      · exact absurd h (hno g)
      · exact h
    obtain ⟨p2, hp2⟩ : ∃ p2 : Plc, p2 = ⟨p1.blk, p1.cap, 1, p1.sz⟩ := ⟨_, rfl⟩
    have hsn : (σ.set n p2)[n]? = some p2 := by rw [List.getElem?_set, if_pos rfl, if_pos hnσ]
    have hso : ∀ b, b ≠ n → (σ.set n p2)[b]? = σ[b]? := fun b hb => by rw [List.getElem?_set, if_neg (fun e => hb e.symm)]
    have hMn : (N.set n (.rows t sz 1 l fl))[n]? = some (.rows t sz 1 l fl) := by rw [List.getElem?_set, if_pos rfl, if_pos hnl]
    have hMo : ∀ b, b ≠ n → (N.set n (.rows t sz 1 l fl))[b]? = N[b]? := fun b hb => by rw [List.getElem?_set, if_neg (fun e => hb e.symm)]
    have hxP : ExtP σ (σ.set n p2) := by
      intro b p hp
      by_cases hb : b = n
      · subst hb
        refine ⟨p2, hsn, ?_, fun e => ?_⟩
        · rw [List.getElem?_eq_getElem hnσ, hp0] at hp
          injection hp with hp; subst hp; rw [k2]; exact Nat.zero_le _
        · rw [List.getElem?_eq_getElem hnσ, hp0] at hp
          injection hp with hp; subst hp; rw [k2, hp2] at e; cases e
      · exact ⟨p, by rw [hso b hb]; exact hp, Nat.le_refl _, fun _ => rfl⟩
    refine ⟨I', σ.set n p2, ⟨y1, p2, hsn, by rw [hp2]; exact Nat.le_refl _, fun _ => ⟨by rw [hp2]; exact e1, by rw [hp2]; exact e2, by rw [hp2]; exact e3⟩⟩, ⟨hev.extI, hxP, ⟨by rw [List.length_set, List.length_set]; exact hm.len, ?_, ?_, ?_, hev.mem.imm⟩, hk.mono (fun k _ h => h.elim), ?_, fun ad x hx => ?_⟩⟩
    · intro b x p hx hp
      by_cases hb : b = n
      · subst hb
        rw [hMn] at hx; rw [hsn] at hp
        injection hx with hx; injection hp with hp
        subst hx; subst hp
        rw [hp2]
        refine ⟨q0, q1, rfl, q3, q4, q5, ?_⟩
        cases hb : p1.blk with
        | none => rw [hb] at q6; exact q6
        | some g =>
          rw [hb] at q6
          obtain ⟨cs, c1, c2, c3, c4⟩ := q6
          refine ⟨cs, c1, c2, c3, fun i r hr j a ha => ?_⟩
          obtain ⟨z, z1, z2⟩ := c4 i r hr j a ha
          obtain ⟨cv, rfl⟩ := hcl r (List.mem_of_getElem? hr) a (List.mem_of_getElem? ha)
          exact ⟨z, z1, z2⟩
      · rw [hMo b hb] at hx; rw [hso b hb] at hp
        exact RelB_mono hev.extI hxP (fun _ _ _ => rfl) (hm1.blk b x p hx hp)
    · intro b b' x x' p p' g hx hx' hl hl' hp hp' hg hg'
      by_cases hb : b = n
      · by_cases hb' : b' = n
        · rw [hb, hb']
        · exfalso
          subst hb
          rw [hsn] at hp; injection hp with hp; subst hp
          rw [hMo b' hb'] at hx'; rw [hso b' hb'] at hp'
          have h1 := RelB_lt (hm.blk b' x' p' hx' hp') hl' hg'
          have h2 := hg1 g (by rw [hp2] at hg; exact hg)
          omega
      · by_cases hb' : b' = n
        · exfalso
          subst hb'
          rw [hsn] at hp'; injection hp' with hp'; subst hp'
          rw [hMo b hb] at hx; rw [hso b hb] at hp
          have h1 := RelB_lt (hm.blk b x p hx hp) hl hg
          have h2 := hg1 g (by rw [hp2] at hg'; exact hg')
          omega
        · rw [hMo b hb] at hx; rw [hso b hb] at hp; rw [hMo b' hb'] at hx'; rw [hso b' hb'] at hp'
          exact hm.inj b b' x x' p p' g hx hx' hl hl' hp hp' hg hg'
    · intro b x p g hx hlv hp hg ad had
      by_cases hb : b = n
      · subst hb
        rw [hsn] at hp; injection hp with hp; subst hp
        exact hev.mem.ap 0 _ p1 g rfl rfl rfl (by rw [hp2] at hg; exact hg) ad had
      · rw [hMo b hb] at hx; rw [hso b hb] at hp
        cases hI : I' ad with
        | none => rfl
        | some y =>
          exfalso
          rcases hfr ad y hI with h1 | h1
          · rw [hm.ap b x p g hx hlv hp hg ad had] at h1
            cases h1
          · have := RelB_lt (hm.blk b x p hx hp) hlv hg
            omega
    · rintro g ⟨b, x, p, hx, hlv, hp, hg⟩
      by_cases hb : b = n
      · subst hb
        rw [hsn] at hp; injection hp with hp; subst hp
        exact .inr (hg1 g (by rw [hp2] at hg; exact hg))
      · rw [hMo b hb] at hx; rw [hso b hb] at hp
        exact .inl ⟨b, x, p, hx, hlv, hp, hg⟩
    · rcases hfr ad x hx with h1 | h1
      · exact .inl h1
      · exact .inr (.inl h1)
/-- What is told of memory speaks of its own places alone. -/
theorem RelA_lt {I : Im} {σ : List Plc} : ∀ {a : AV} {y : Value}, RelA I σ a y → ltA σ.length a := by
  intro a
  induction a with
  | c x => intro y _; trivial
  | ptr b ver i j => rintro y ⟨_, p, hp, _⟩; exact (List.getElem?_eq_some_iff.1 hp).1
  | arr sz b ver off len => rintro y ⟨_, p, hp, _⟩; exact (List.getElem?_eq_some_iff.1 hp).1
  | ip n c => intro y _; trivial
  | fn f k caps ih => rintro y ⟨cs, e, hs, h⟩; exact fun i hi => ih i (h i cs[i] (Array.getElem?_eq_getElem (by omega)))
theorem Mem.wf {I : Im} {σ : List Plc} {M : List Blk} {w : World} (hm : Mem I σ M w) : ∀ x ∈ M, ltB M.length x := by
  intro x hx
  obtain ⟨b, hb, rfl⟩ := List.mem_iff_getElem.1 hx
  have hbσ : b < σ.length := by rw [hm.len]; exact hb
  have h := hm.blk b _ _ (List.getElem?_eq_getElem hb) (List.getElem?_eq_getElem hbσ)
  cases hX : M[b] with
  | dead => trivial
  | sit s pos => trivial
  | rows t sz ver l f =>
    rw [hX] at h
    obtain ⟨_, _, _, h4, _, h6, h7⟩ := h
    intro r hr a ha
    obtain ⟨i, hi, rfl⟩ := List.mem_iff_getElem.1 hr
    obtain ⟨j, hj, rfl⟩ := List.mem_iff_getElem.1 ha
    generalize σ[b] = p at h4 h7
    cases hp : p.blk with
    | none => rw [hp] at h7; omega
    | some g =>
      rw [hp] at h7
      obtain ⟨cs, _, _, _, h8⟩ := h7
      obtain ⟨z, _, hz⟩ := h8 i _ (List.getElem?_eq_getElem hi) j _ (List.getElem?_eq_getElem hj)
      rw [← hm.len]
      exact RelA_lt hz
theorem callR_wf {P : Program} {M M' : List Blk} {f : Nat} {ps : List Pt} {r : SV} (h : (∀ x ∈ M, ltB M.length x) → CallR P M f ps r M') : CallR P M f ps r M' := fun I σ w vals hG hm => h hm.wf I σ w vals hG hm
/-- Which pairs of a region may not be turned by what kinds they are of. -/
def ncTab (ols : List OpL) : List (List Nat) := (List.range ols.length).map fun i => (List.range i).filter fun k => match ols[k]?, ols[i]? with | some y, some x => !commOk y x | _, _ => true
theorem okDraw_tab {ops : Array Oper} {ols : List OpL} {T : List (List Nat)} (h : okDraw ops ols T = true) : okTab ops T = true := by
  unfold okDraw at h
  unfold okTab
  rw [List.all_eq_true] at h ⊢
  intro i hi
  have := h i hi
  cases ho : ops[i]? with
  | none => rw [ho] at this; cases this
  | some o =>
    cases hx : ols[i]? with
    | none => rw [ho, hx] at this; cases this
    | some x =>
      rw [ho, hx] at this
      simp only [okAt, Bool.and_eq_true] at this
      simp only [Bool.and_eq_true]
      exact this.1
section
variable {P : Program} {n m : Nat} {e : Nat → SV} {M : List Blk} {K : Exit → St → Prop}
theorem run_regX0 {ols : List OpL} {xs : List XOp} {s : St} (he : xs.map (·.op) = ols) (hp : pairsX (ncTab ols) xs = true) (h : runX P xs s (K .normal)) : Run P n m (.reg true ols) s K := by
  intro code hc I σ M w0 a w hm hs
  obtain ⟨id, ops, rfl, hls, hd⟩ := compC_reg hc
  obtain ⟨hmx, hok⟩ := hd rfl
  refine wp_region_any hmx ?_
  have hlen : xs.length = ops.size := by have := compLs_length hls; rw [← he] at this; simpa using this
  refine any_soundX (xs := xs) (rem := xs.zipIdx.map fun p => (p.2, p.1)) (T := tabT ops.toList) hm.2 (okDraw_tab hok) (fun i k x y hx hy hki => ?_) (K := K .normal) (fun s a w h1 h2 => ⟨s, h1, h2⟩) ops.size _ s a _ (by simp [hlen]) ?_ ?_ ?_ (by simp) ?_ ?_ hs.drew
  · have hil : i < ops.size := by rw [← hlen]; exact (List.getElem?_eq_some_iff.1 hx).1
    have h1 := List.all_eq_true.1 hok i (List.mem_range.2 hil)
    have hox : ols[i]? = some x.op := by rw [← he, List.getElem?_map, hx]; rfl
    have hoy : ols[k]? = some y.op := by rw [← he, List.getElem?_map, hy]; rfl
    rw [Array.getElem?_eq_getElem hil, hox] at h1
    simp only [okAt, Bool.and_eq_true] at h1
    have h2 := List.all_eq_true.1 h1.2 k (List.mem_range.2 hki)
    rw [hoy] at h2
    simp only [Bool.or_eq_true] at h2
    rcases h2 with h2 | h2
    · exact .inl h2
    · rcases pairsX_spec hp hx hy hki with h3 | h3
      · exfalso
        have hol : i < ols.length := (List.getElem?_eq_some_iff.1 hox).1
        rw [ncTab, List.getD_eq_getElem?_getD, List.getElem?_map, List.getElem?_range hol] at h3
        simp [hox, hoy, h2] at h3
      · exact .inr h3
  · subst he
    intro p hp
    obtain ⟨q, hq, rfl⟩ := List.mem_map.1 hp
    have hq' : xs[q.2]? = some q.1 := List.mem_zipIdx_iff_getElem?.1 (show (q.1, q.2) ∈ xs.zipIdx from hq)
    obtain ⟨o, ho, hco⟩ := compLs_get hls q.2 q.1.op (by rw [List.getElem?_map, hq']; rfl)
    exact ⟨hq', o, by simpa using ho, hco⟩
  · rw [List.pairwise_map]
    refine List.pairwise_iff_getElem.2 (fun i j hi hj hij => ?_)
    simp only [List.getElem_zipIdx]
    omega
  · intro i hi
    have h0 : (Array.replicate ops.size false).getD i true = false := by simp [hi]
    refine ⟨fun _ => ?_, fun _ => h0⟩
    have hi' : i < xs.length := by omega
    refine ⟨xs[i], List.mem_map.2 ⟨(xs[i], i), ?_, rfl⟩⟩
    exact List.mem_zipIdx_iff_getElem?.2 (List.getElem?_eq_getElem hi')
  · intro j o hj hl
    simp at hl
    by_cases h : j < ops.size
    · simp [h] at hl
    · simp [h] at hl
  · have e0 : (xs.zipIdx.map fun p => (p.2, p.1)).map (·.2) = xs := by
      apply List.ext_getElem?
      intro i
      simp [List.getElem?_zipIdx]
      cases xs[i]? <;> rfl
    rw [e0]
    exact h
/-- A region of open order in which calls make new rows: k places are kept for them. -/
theorem run_regX {ols : List OpL} {c : C} (k : Nat) (h : evX P (ncTab ols) ols M.length [] e (M ++ List.replicate k (.rows 0 0 0 [] true)) (fun s => Run P n m c s K)) : Run P n m (.seq (.reg true ols) c) ⟨e, M⟩ K := by
  refine run_gh (gh_res k) (run_seq ?_)
  obtain ⟨xs, h1, h2⟩ := evX_sound h
  obtain ⟨h3, h4⟩ := runX_pure h2
  exact run_regX0 h1 (by simpa using h3) h4
theorem callxn {T : List (List Nat)} {f : Nat} {ps : List Pt} {x : XOp} {os : List OpL} {acc : List XOp} {K : St → Prop} {r : SV} {X : Blk} (hM : M[x.n]? = some (.rows 0 0 0 [] true)) (h : ∀ N : List Blk, N[x.n]? = some (.rows 0 0 0 [] true) → CallR P N f ps r (N.set x.n X))
    (hK : evX P T os (x.n + 1) (acc ++ [⟨x.op, [x.n], true, x.n⟩]) (put e x.op.dst r) (M.set x.n X) K) : CallX P T M f ps x os acc e K := .inr ⟨r, [x.n], [(x.n, X)], fun q hq => by obtain rfl := List.mem_singleton.1 hq; exact List.mem_singleton.2 rfl, fun N hN => h N ((hN x.n (List.mem_singleton.2 rfl)).trans hM), evX_sound hK⟩
/-- A call in a region of open order: which blocks it looks at, and which it writes. -/
theorem callxf {T : List (List Nat)} {f : Nat} {ps : List Pt} {x : XOp} {os : List OpL} {acc : List XOp} {K : St → Prop} {r : SV} (n' : Nat) (F : List Nat) (fs : List (Nat × Blk)) (hF : ∀ q ∈ fs, q.1 ∈ F) (h : ∀ N : List Blk, (∀ b ∈ F, N[b]? = M[b]?) → CallR P N f ps r (apL fs N))
    (hK : evX P T os n' (acc ++ [⟨x.op, F, !fs.isEmpty, x.n⟩]) (put e x.op.dst r) (apL fs M) K) : CallX P T M f ps x os acc e K := .inr ⟨r, F, fs, hF, h, evX_sound hK⟩
end
/-- The places of a region, told from a number on. -/
def unshift (q : Nat) (x : XOp) : XOp := ⟨x.op, x.F.map (· - q), x.w, x.n - q⟩
theorem pairs_un (q : Nat) {T : List (List Nat)} {xs : List XOp} (h : pairsX T (xs.map (unshift q)) = true) (hq : ∀ x ∈ xs, ∀ b ∈ x.F, q ≤ b) : pairsX T xs = true := by
  unfold pairsX at h ⊢
  rw [List.all_eq_true] at h ⊢
  intro i hi
  have hi' := h i (by simpa using hi)
  rw [List.all_eq_true] at hi' ⊢
  intro k hk
  have h1 := hi' k hk
  simp only [Bool.or_eq_true] at h1 ⊢
  rcases h1 with h1 | h1
  · exact .inl h1
  · right
    simp only [List.getElem?_map] at h1
    cases hx : xs[i]? with
    | none => rw [hx] at h1; cases hy : xs[k]? <;> rw [hy] at h1 <;> cases h1
    | some x =>
      cases hy : xs[k]? with
      | none => rw [hx, hy] at h1; cases h1
      | some y =>
        rw [hx, hy] at h1
        simp only [Option.map_some] at h1
        have hxq := hq x (List.mem_of_getElem? hx)
        have hyq := hq y (List.mem_of_getElem? hy)
        unfold commX at h1 ⊢
        simp only [Bool.and_eq_true, Bool.or_eq_true] at h1 ⊢
        refine ⟨h1.1, h1.2.imp id (fun h2 => ?_)⟩
        rw [List.all_eq_true] at h2 ⊢
        intro b hb
        have h3 := h2 (b - q) (List.mem_map.2 ⟨b, hb, rfl⟩)
        simp only [unshift, Bool.not_eq_true'] at h3
        simp only [Bool.not_eq_true']
        cases hc : x.F.contains b with
        | false => rfl
        | true =>
          exfalso
          have : (x.F.map (· - q)).contains (b - q) = true := by
            rw [List.contains_iff_mem]
            exact List.mem_map.2 ⟨b, List.contains_iff_mem.1 hc, rfl⟩
          rw [this] at h3
          cases h3
end Go.Proofs.YtcmkhlfjcdchmaaGreatAbs
end
section
namespace Go.Proofs.YtcmkhlfjcdchmaaGreat.A
open Go Go.Proofs.YtcmkhlfjcdchmaaGreatAbs
theorem line1_rc (x : Lin) (k : ByteArray) (M : List Blk) : CallR Tryz.prog M n_shelf_line_1 [.agg [.c (.v (.string x.ser)), .c (smpCV x.smps)], .s k] (.i (cmpS x.ser k)) M := by
  refine callP F_shelf_line_1 (Nat.le_of_ble_eq_true rfl) (by simp only [go_sem]) (by simp only [go_sem]) ?_ M
  simp only [c_shelf_line_1, go_sem]
  refine call0 (Compare_rc _ _) ?_
  simp only [go_sem]
def atL (l : List Lin) (k : ByteArray) : Nat := bsF (fun i => decide (cmpS (l.getD i default).ser k < 0)) 0 l.length
def hitL (l : List Lin) (k : ByteArray) : Bool := decide (atL l k < l.length) && (cmpS (l.getD (atL l k) default).ser k == 0)
theorem atL_le (l : List Lin) (k : ByteArray) : atL l k ≤ l.length := (bsF_le l.length 0 l.length (by omega) (Nat.zero_le _)).2
theorem hitL_lt {l : List Lin} {k : ByteArray} (h : hitL l k = true) : atL l k < l.length := by
  unfold hitL at h
  exact of_decide_eq_true (Bool.and_eq_true_iff.1 h).1
theorem line_rc (s : Shf) (hl : s.lines.length ≤ 140737488355328) (k : ByteArray) (M : List Blk) : CallR Tryz.prog M n_shelf_line [shfA s, .s k] (.tup [.i (atL s.lines k : Nat), .b (hitL s.lines k)]) M := by
  refine callP F_shelf_line (Nat.le_of_ble_eq_true rfl) (by simp only [go_sem]) (by simp only [go_sem]) ?_ M
  simp only [c_shelf_line, go_sem]
  refine call0 (fun M => bs_rc F_slices_BinarySearchFunc_api_Line_api_Line_string s.lines.length (by omega) (fun i j => (s.lines.getD i default).c j) (.s k) n_shelf_line_1 0 (fun _ => default) (fun i => cmpS (s.lines.getD i default).ser k) (by simp only [go_sem]) (fun i hi => absurd hi (Nat.not_lt_zero _)) (fun i hi M => line1_rc (s.lines.getD i default) k M) M) ?_
  simp only [go_sem]
  exact ⟨rfl, rfl⟩
/-- A shelf in memory of its own: its lines in the block b, its dones in the block c. -/
abbrev ownA (b vb ll c vc dl : Nat) (f : Int) : Pt := .agg [.arr 2 b vb 0 ll, .arr 5 c vc 0 dl, .c (.v (.int .i64 f))]
abbrev lnR (v : Nat) (l : List Lin) (f : Bool) : Blk := .rows 49 2 v (rowsL 2 Lin.c l) f
abbrev dnR (v : Nat) (l : List Dn) (f : Bool) : Blk := .rows 45 5 v (rowsL 5 Dn.c l) f
theorem cloneAt {α : Type} [Inhabited α] {f t sz by_ : Nat} {z : List Value} {c : α → Nat → CV} (hF : Fun Tryz.prog f 8 (cloneC t sz by_ z) [.t 2]) (l : List α) (hl : l.length * by_ ≤ 140737488355328) {n : Nat} (N : List Blk) (hN : N[n]? = some (.rows 0 0 0 [] true)) :
    CallR Tryz.prog N f [immP sz c l] (.p (.one (.arr sz n 1 0 l.length))) (N.set n (.rows t sz 1 (rowsL sz c l) false)) :=
  callR_place (v := 1) (cloneO_rc hF l hl (M := []) (by simp)) (rowsL_closed l) (by simp only [go_sem]) (by rw [rowsL_len]; exact Nat.le_refl _) n N hN
set_option maxRecDepth 20000 in
theorem own_rc (s : Shf) (hz : zShf s) {M : List Blk} (hMB : ∀ x ∈ M, ltB M.length x) : CallR Tryz.prog M n_shelf_own [shfA s] (.p (ownA (M.length + 2) 1 s.lines.length (M.length + 3) 1 s.dones.length s.floor)) (M ++ [.dead, .rows 29 3 0 [[.arr 2 (M.length + 2) 1 0 s.lines.length, .arr 5 (M.length + 3) 1 0 s.dones.length, .c (.v (.int .i64 s.floor))]] true, lnR 1 s.lines false, dnR 1 s.dones false]) := by
  refine callR_intro F_shelf_own (by simp) ?_
  obtain ⟨lines, dones, floor⟩ := s
  obtain ⟨hll, hdl, hser, hsmp⟩ := hz
  simp only at hll hdl hser hsmp ⊢
  refine run_seqV ?_
  simp only [go_sem, mget, mget0, mset, mset0, List.append_assoc, List.length_append, List.length_cons, List.length_nil, Nat.zero_add]
  refine run_regX 2 ?_
  simp only [go_sem, mget, mget0, mset, mset0, List.append_assoc, List.length_append, List.length_cons, List.length_nil, Nat.zero_add, List.replicate_succ, List.replicate_zero]
  have mS := fun (l : List Blk) (k : Nat) (X : Blk) => mset (M := M) (l := l) (k := k) (X := X)
  refine callxn (by simp only [go_sem, mget]) (fun N hN => cloneAt F_slices_Clone_api_Line_api_Line lines (by omega) N hN) ?_
  simp only [go_sem, mget, mget0, mset, mset0, Nat.add_assoc, Nat.reduceAdd]
  refine callxn (by simp only [go_sem, mget]) (fun N hN => cloneAt F_slices_Clone_api_Done_api_Done dones (by omega) N hN) ?_
  simp only [go_sem, mget, mget0, mset, mset0, Nat.add_assoc, Nat.reduceAdd]
  refine ⟨pairs_un M.length ?_ ?_, ?_⟩
  · simp only [unshift, List.map_cons, List.map_nil, Nat.add_sub_cancel_left, Nat.sub_self]
    rfl
  · simp
  refine run_seqV ?_
  simp only [go_sem, mget, mget0, mset, mset0]
  have hBL : ∀ x ∈ M ++ [Blk.rows 29 3 0 [[.arr 2 (M.length + 2) 1 0 lines.length, .arr 5 (M.length + 3) 1 0 dones.length, .c (.v (.int .i64 floor))]] true, .rows 29 3 0 [[.c (.v (.slice none 0 0)), .c (.v (.slice none 0 0)), .c (.v (.int .i64 0))]] true, lnR 1 lines false, dnR 1 dones false], ltB (M ++ [Blk.rows 29 3 0 [[.arr 2 (M.length + 2) 1 0 lines.length, .arr 5 (M.length + 3) 1 0 dones.length, .c (.v (.int .i64 floor))]] true, .rows 29 3 0 [[.c (.v (.slice none 0 0)), .c (.v (.slice none 0 0)), .c (.v (.int .i64 0))]] true, lnR 1 lines false, dnR 1 dones false]).length x := by
    refine ltM_app hMB ?_
    intro x hx
    simp only [List.mem_cons, List.not_mem_nil, or_false] at hx
    rcases hx with rfl | rfl | rfl | rfl
    · simp only [go_sem, ltB, List.length_cons, List.length_nil]
    · simp only [go_sem, ltB]
    · exact rowsL_ltB _ _ _ _ _
    · exact rowsL_ltB _ _ _ _ _
  refine R_loop (ι := Nat) (J := fun k => k ≤ lines.length)
    (env := fun k => [(1, .p (.one (.ptr M.length 0 0 0))), (2, .p (.one (.ptr (M.length + 1) 0 0 0))), (14, .p (.one (.arr 2 (M.length + 2) 1 0 lines.length))), (15, .i lines.length), (16, .i k)])
    (mem := fun _ => M ++ [.rows 29 3 0 [[.arr 2 (M.length + 2) 1 0 lines.length, .arr 5 (M.length + 3) 1 0 dones.length, .c (.v (.int .i64 floor))]] true, .rows 29 3 0 [[.c (.v (.slice none 0 0)), .c (.v (.slice none 0 0)), .c (.v (.int .i64 0))]] true, lnR 1 lines false, dnR 1 dones false])
    (μ := fun k => lines.length - k) 0 (Nat.zero_le _) ⟨[], ?_, ?_, ?_, ?_⟩ ?_
  · simp only [List.append_nil]
  · rw [List.length_append]; omega
  · simp only [go_sem, List.length_append, List.length_cons, List.length_nil]
    omega
  · exact hBL
  rintro k hk
  refine run_seqV ?_
  simp only [go_sem]
  refine run_seqV ?_
  simp only [go_sem]
  refine ⟨fun h1 => ?_, fun h1 => ?_⟩
  · refine run_seq ?_
    refine run_block ?_
    refine run_seqV ?_
    simp only [go_sem, mget, mget0, mset, mset0, List.append_assoc, List.length_append, List.length_cons, List.length_nil, Nat.zero_add, Nat.add_assoc, Nat.reduceAdd]
    have hrow := rowsL_getD (sz := 2) (c := Lin.c) h1
    have hset := rowsL_set (sz := 2) (c := Lin.c) lines k (lines.getD k default)
    have hsame : lines.set k (lines.getD k default) = lines := set_self (getD_some h1)
    rw [hsame] at hset
    have hs1 := hsmp k h1
    simp only [hrow, go_sem]
    simp only [go_sem] at hset
    refine ⟨by omega, h1, ?_⟩
    refine V_sound ?_
    simp only [go_sem, mget, mget0, mset, mset0]
    refine call0 (clone_rc (c := Smp.c) F_slices_Clone_api_Sample_api_Sample (lines.getD k default).smps (by omega)) ?_
    simp only [go_sem, mget, mget0, mset, mset0, hrow, hset]
    refine ⟨by omega, h1, h1, V_sound ?_⟩
    simp only [go_sem, w64s (show k < 9223372036854775807 by omega)]
    refine ⟨k + 1, h1, by omega, [_], by simp only [List.append_assoc, List.cons_append, List.nil_append]; rfl, ?_, ?_, ?_⟩
    · rw [List.length_append]; omega
    · simp only [go_sem, List.length_append, List.length_cons, List.length_nil]
      omega
    · exact hBL
  · refine V_sound ?_
    simp only [go_sem, mget, mget0, mset, mset0]
    refine fin_m (.inr rfl) (gh_kill M.length) [] (qs := [ownA (M.length + 2) 1 lines.length (M.length + 3) 1 dones.length floor]) (cnd := True) ?_ trivial ?_ (SubS.refl _) ?_ ?_ ?_
    · simp only [go_sem, mget, mget0, mset, mset0]
    · simp only [mset0, go_sem]
    · rw [List.length_append]; omega
    · simp only [go_sem, List.length_append, List.length_cons, List.length_nil]
    · refine ltM_app hMB ?_
      intro x hx
      simp only [List.mem_cons, List.not_mem_nil, or_false] at hx
      rcases hx with rfl | rfl | rfl | rfl
      · trivial
      · simp only [go_sem, ltB, List.length_cons, List.length_nil]
      · exact rowsL_ltB _ _ _ _ _
      · exact rowsL_ltB _ _ _ _ _
end Go.Proofs.YtcmkhlfjcdchmaaGreat.A
end
