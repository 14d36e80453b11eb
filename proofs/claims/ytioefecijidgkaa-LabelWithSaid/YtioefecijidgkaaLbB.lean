/- The walks of label.Check, the document's May and Same, and the law's light. -/
import Derived.Test.YtioefecijidgkaaLbA
set_option linter.unusedVariables false
set_option linter.unusedSimpArgs false
namespace Go.Proofs.Ytioefecijidgkaa.A
open Go Go.Proofs.YtioefecijidgkaaAbs
def zS (s : ByteArray) : Prop := s.size ≤ 140737488355328
structure zSer (s : Ser) : Prop where
  name : zS s.name
  len : s.labels.length ≤ 140737488355328
  lb : ∀ i, i < s.labels.length → zS (s.labels.getD i default).name ∧ zS (s.labels.getD i default).value
def lbOk (l : List Lb) (i : Nat) : Bool := nmOk (l.getD i default).name && vlOk (l.getD i default).value && (i == 0 || sLt (l.getD (i - 1) default).name (l.getD i default).name)
def serOk (s : Ser) : Bool := nmOk s.name && decide (s.labels.length ≤ 4) && (List.range s.labels.length).all (lbOk s.labels)
theorem zlt {s : ByteArray} (h : zS s) : s.size < 9223372036854775807 := by unfold zS at h; omega
theorem serOk_f {s : Ser} {k : Nat} (hk : k < s.labels.length) (h : lbOk s.labels k = false) : serOk s = false := by
  have : (List.range s.labels.length).all (lbOk s.labels) = false := by
    rw [List.all_eq_false]
    exact ⟨k, List.mem_range.2 hk, by simp [h]⟩
  rw [serOk, this, Bool.and_false]
theorem serOk_t {s : Ser} (h : ∀ i, i < s.labels.length → lbOk s.labels i = true) : serOk s = (nmOk s.name && decide (s.labels.length ≤ 4)) := by
  have : (List.range s.labels.length).all (lbOk s.labels) = true := by
    rw [List.all_eq_true]
    exact fun i hi => h i (List.mem_range.1 hi)
  rw [serOk, this, Bool.and_true]
theorem leS_lt (a b : ByteArray) : (sLt a b || decide (a = b)) = !sLt b a := by
  cases h : sLt a b with
  | true => rw [sLt_asymm h]; rfl
  | false =>
    cases k : sLt b a with
    | true => have := sLt_ne k; simp [Ne.symm this]
    | false => simp [sLt_total h k]
theorem wpred {k : Nat} (h0 : 0 < k) (hk : k ≤ 140737488355328) : IntKind.i64.wrap ((k : Int) - 1) = ((k - 1 : Nat) : Int) := w64p h0 (by omega)
theorem lbOk_key (l : List Lb) {k : Nat} (hk : k ≤ 140737488355328) : (!nmOk (l.getD k default).name || !vlOk (l.getD k default).value || decide (0 < (k : Int)) && !sLt (l.getD (IntKind.i64.wrap ((k : Int) - 1)).toNat default).name (l.getD k default).name) = !lbOk l k := by
  unfold lbOk
  by_cases h0 : k = 0
  · subst h0; simp
  · rw [wpred (by omega) hk, Int.toNat_natCast]
    have : decide (0 < (k : Int)) = true := decide_eq_true (by omega)
    have e : (k == 0) = false := by simpa using h0
    simp only [this, e, Bool.true_and, Bool.false_or, Bool.not_and]
theorem Check_rc (s : Ser) (hs : zSer s) (M : List Blk) : CallR Try.prog M n_label_Check [serA s] (.i (if serOk s then 0 else 1)) M := by
  refine callP F_label_Check (Nat.le_of_ble_eq_true rfl) (by simp only [go_sem]) (by simp only [go_sem]) ?_ M
  simp only [c_label_Check, go_sem]
  refine call0 (name_rc s.name (zlt hs.name)) ?_
  simp only [go_sem]
  refine ⟨fun hc => ?_, fun hc => ?_⟩
  · rw [if_neg]
    simp only [Bool.or_eq_true, Bool.not_eq_true', decide_eq_true_eq] at hc
    simp only [serOk, Bool.and_eq_true, decide_eq_true_eq, not_and]
    intro h1 h2
    rw [h1.1] at hc
    have := hs.len
    simp at hc
    omega
  have hn : nmOk s.name = true ∧ s.labels.length ≤ 4 := by
    simp only [Bool.or_eq_false_iff, Bool.not_eq_false', decide_eq_false_iff_not] at hc
    exact ⟨hc.1, by omega⟩
  refine V_loop (ι := Nat) (J := fun k => k ≤ s.labels.length ∧ ∀ i, i < k → lbOk s.labels i = true) (env := fun k => [(1, .p (.one (.ptr 0 0 0 0))), (16, .p (lbL s.labels)), (17, .i s.labels.length), (18, .i k)])
    (mem := fun _ => [.rows 24 2 0 [[.c (.v (.string s.name)), .c (lbCV s.labels)]] true]) (μ := fun k => s.labels.length - k) 0 ⟨Nat.zero_le _, fun j hj => by omega⟩ ⟨[], by simp only [go_sem], Nat.zero_le _, by simp only [go_sem], by simp only [go_sem, ltB]⟩ ?_
  rintro k ⟨hk, hok⟩
  simp only [go_sem]
  refine ⟨fun h1 => ⟨by omega, ?_⟩, fun h1 => ?_⟩
  · have hz := hs.lb k h1
    refine call0 (name_rc _ (zlt hz.1)) ?_
    simp only [go_sem]
    refine callg0 (fun _ => value_rc _ (zlt hz.2)) ?_
    simp only [go_sem, leS_lt]
    have hl := hs.len
    rw [lbOk_key _ (by omega)]
    refine ⟨fun hc => ?_, fun hc => ?_, fun hc => ⟨k + 1, ⟨by omega, fun j hj => ?_⟩, by omega, ?_⟩⟩
    · simp at hc
      rw [wpred (by omega) (by omega)]
      omega
    · rw [serOk_f h1 (by simpa using hc)]
      rfl
    · by_cases e : j = k
      · subst e; simpa using hc
      · exact hok j (by omega)
    · refine ⟨_, by simp only [go_sem]; rfl, Nat.zero_le _, ?_, by simp only [go_sem, ltB]⟩
      simp only [go_sem, w64s (show k < 9223372036854775807 by omega)]
  · rw [serOk_t (fun i hi => hok i (by omega)), hn.1, decide_eq_true hn.2]
    rfl
theorem May_rc (s : Ser) (hs : zSer s) (M : List Blk) : CallR Try.prog M n_windroseref03_May [serA s] (.b (serOk s)) M := by
  refine callP F_windroseref03_May (Nat.le_of_ble_eq_true rfl) (by simp only [go_sem]) (by simp only [go_sem]) ?_ M
  simp only [c_windroseref03_May, go_sem]
  have hl := hs.len
  refine V_loop (ι := Nat) (J := fun k => k ≤ s.labels.length ∧ ∀ i, i < k → lbOk s.labels i = true) (env := fun k => [(1, .p (.one (.ptr 0 0 0 0))), (3, .i k)])
    (mem := fun _ => [.rows 24 2 0 [[.c (.v (.string s.name)), .c (lbCV s.labels)]] true]) (μ := fun k => s.labels.length - k) 0 ⟨Nat.zero_le _, fun j hj => by omega⟩ ⟨[], by simp only [go_sem], Nat.zero_le _, by simp only [go_sem], by simp only [go_sem, ltB]⟩ ?_
  rintro k ⟨hk, hok⟩
  simp only [go_sem]
  refine ⟨fun h1 => ⟨by omega, ?_⟩, fun h1 => ?_⟩
  · have hz := hs.lb k h1
    refine call0 (rName_rc _ (zlt hz.1)) ?_
    simp only [go_sem]
    refine ⟨fun _ => by omega, callg0 (fun _ => rVal_rc _ (zlt hz.2)) ?_⟩
    simp only [go_sem]
    rw [lbOk_key _ (by omega)]
    refine ⟨fun hc => ?_, fun _ => by omega, fun hc => ?_, fun hc => ⟨k + 1, ⟨by omega, fun j hj => ?_⟩, by omega, ?_⟩⟩
    · simp at hc
      rw [wpred (by omega) (by omega)]
      omega
    · rw [serOk_f h1 (by simpa using hc)]
    · by_cases e : j = k
      · subst e; simpa using hc
      · exact hok j (by omega)
    · refine ⟨_, by simp only [go_sem]; rfl, Nat.zero_le _, ?_, by simp only [go_sem, ltB]⟩
      simp only [go_sem, w64s (show k < 9223372036854775807 by omega)]
  · refine call0 (rName_rc s.name (zlt hs.name)) ?_
    simp only [go_sem]
    rw [serOk_t (fun i hi => hok i (by omega))]
    congr 1
    simp only [decide_eq_decide]
    omega
end Go.Proofs.Ytioefecijidgkaa.A
