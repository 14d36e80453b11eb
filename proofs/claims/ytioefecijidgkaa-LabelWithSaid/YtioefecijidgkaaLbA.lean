/- The walks of label's and the document's tests of names, values and series: what they come to. -/
import Derived.Test.YtioefecijidgkaaCdLabel
import Derived.Test.YtioefecijidgkaaAbsStr
set_option linter.unusedVariables false
set_option linter.unusedSimpArgs false
namespace Go.Proofs.Ytioefecijidgkaa.A
open Go Go.Proofs.YtioefecijidgkaaAbs
structure Lb where
  name : ByteArray
  value : ByteArray
instance : Inhabited Lb := ⟨⟨mkS [], mkS []⟩⟩
@[go_sem] def Lb.c (x : Lb) : Nat → CV
  | 0 => .v (.string x.name)
  | _ => .v (.string x.value)
abbrev lbCV (l : List Lb) : CV := .imm 2 l.length fun i j => (l.getD i default).c j
abbrev lbL (l : List Lb) : Pt := .one (.c (lbCV l))
structure Ser where
  name : ByteArray
  labels : List Lb
instance : Inhabited Ser := ⟨⟨mkS [], []⟩⟩
@[go_sem] def Ser.c (x : Ser) : Nat → CV
  | 0 => .v (.string x.name)
  | _ => lbCV x.labels
abbrev serA (s : Ser) : Pt := .agg [.c (.v (.string s.name)), .c (lbCV s.labels)]
def inR (lo hi : Nat) (c : UInt8) : Bool := decide (lo ≤ c.toNat) && decide (c.toNat ≤ hi)
def nmOk (s : ByteArray) : Bool := decide (1 ≤ s.size) && decide (s.size ≤ 16) && (bs s).all (inR 97 122)
def vlOk (s : ByteArray) : Bool := decide (s.size ≤ 16) && (bs s).all (inR 32 126)
theorem inR_t {lo hi : Nat} {c : UInt8} : inR lo hi c = true ↔ lo ≤ c.toNat ∧ c.toNat ≤ hi := by simp [inR]
theorem inR_f {lo hi : Nat} {c : UInt8} : inR lo hi c = false ↔ c.toNat < lo ∨ hi < c.toNat := by
  simp only [inR, Bool.and_eq_false_iff, decide_eq_false_iff_not]; omega
/-- All bytes of a text are of a range: as loops find it. -/
theorem all_in {s : ByteArray} {lo hi k : Nat} (hk : ¬ k < s.size) (h : ∀ j, j < k → inR lo hi ((bs s).getD j 0) = true) : (bs s).all (inR lo hi) = true :=
  all_true (d := 0) (fun j hj => h j (by rw [bs_len] at hj; omega))
theorem all_out {s : ByteArray} {lo hi k : Nat} (hk : k < s.size) (h : ((bs s).getD k 0).toNat < lo ∨ hi < ((bs s).getD k 0).toNat) : (bs s).all (inR lo hi) = false :=
  all_false (d := 0) (by rw [bs_len]; exact hk) (inR_f.2 h)
theorem rName_rc (s : ByteArray) (hs : s.size < 9223372036854775807) (M : List Blk) : CallR Try.prog M n_windroseref03_Name [.s s] (.b (nmOk s)) M := by
  refine callP F_windroseref03_Name (Nat.le_of_ble_eq_true rfl) (by simp only [go_sem]) (by simp only [go_sem]) ?_ M
  simp only [c_windroseref03_Name, go_sem]
  refine V_loop (ι := Nat) (J := fun k => k ≤ s.size ∧ ∀ j, j < k → inR 97 122 ((bs s).getD j 0) = true) (env := fun k => [(0, .s s), (3, .i k)]) (mem := fun _ => []) (μ := fun k => s.size - k) 0 ⟨Nat.zero_le _, fun j hj => by omega⟩ (into0 (by simp only [go_sem])) ?_
  rintro k ⟨hk, hok⟩
  simp only [go_sem]
  refine ⟨fun h1 => ⟨by omega, fun _ => by omega, fun hc => ?_, fun hc => ⟨k + 1, ⟨by omega, fun j hj => ?_⟩, by omega, into0 ?_⟩⟩, fun h1 => ?_⟩
  · simp only [Bool.or_eq_true, decide_eq_true_eq] at hc
    rw [nmOk, all_out h1 (by omega), Bool.and_false]
  · by_cases e : j = k
    · subst e
      simp only [Bool.or_eq_false_iff, decide_eq_false_iff_not] at hc
      exact inR_t.2 (by omega)
    · exact hok j (by omega)
  · simp only [go_sem, w64s (show k < 9223372036854775807 by omega)]
  · rw [nmOk, all_in h1 hok, Bool.and_true]
    simp only [Bool.and_eq_decide, decide_eq_decide, decide_eq_true_eq]
    omega
theorem rVal_rc (s : ByteArray) (hs : s.size < 9223372036854775807) (M : List Blk) : CallR Try.prog M n_windroseref03_Val [.s s] (.b (vlOk s)) M := by
  refine callP F_windroseref03_Val (Nat.le_of_ble_eq_true rfl) (by simp only [go_sem]) (by simp only [go_sem]) ?_ M
  simp only [c_windroseref03_Val, go_sem]
  refine V_loop (ι := Nat) (J := fun k => k ≤ s.size ∧ ∀ j, j < k → inR 32 126 ((bs s).getD j 0) = true) (env := fun k => [(0, .s s), (3, .i k)]) (mem := fun _ => []) (μ := fun k => s.size - k) 0 ⟨Nat.zero_le _, fun j hj => by omega⟩ (into0 (by simp only [go_sem])) ?_
  rintro k ⟨hk, hok⟩
  simp only [go_sem]
  refine ⟨fun h1 => ⟨by omega, fun _ => by omega, fun hc => ?_, fun hc => ⟨k + 1, ⟨by omega, fun j hj => ?_⟩, by omega, into0 ?_⟩⟩, fun h1 => ?_⟩
  · simp only [Bool.or_eq_true, decide_eq_true_eq] at hc
    rw [vlOk, all_out h1 (by omega), Bool.and_false]
  · by_cases e : j = k
    · subst e
      simp only [Bool.or_eq_false_iff, decide_eq_false_iff_not] at hc
      exact inR_t.2 (by omega)
    · exact hok j (by omega)
  · simp only [go_sem, w64s (show k < 9223372036854775807 by omega)]
  · rw [vlOk, all_in h1 hok, Bool.and_true]
    simp only [decide_eq_decide]
    omega
theorem value_rc (s : ByteArray) (hs : s.size < 9223372036854775807) (M : List Blk) : CallR Try.prog M n_label_value [.s s] (.b (vlOk s)) M := by
  refine callP F_label_value (Nat.le_of_ble_eq_true rfl) (by simp only [go_sem]) (by simp only [go_sem]) ?_ M
  simp only [c_label_value, go_sem]
  refine V_loop (ι := Nat) (J := fun k => k ≤ s.size ∧ ∀ j, j < k → inR 32 126 ((bs s).getD j 0) = true) (env := fun k => [(0, .s s), (5, .i s.size), (6, .i k)]) (mem := fun _ => []) (μ := fun k => s.size - k) 0 ⟨Nat.zero_le _, fun j hj => by omega⟩ (into0 (by simp only [go_sem])) ?_
  rintro k ⟨hk, hok⟩
  simp only [go_sem]
  refine ⟨fun h1 => ⟨by omega, fun _ => by omega, fun hc => ?_, fun hc => ⟨k + 1, ⟨by omega, fun j hj => ?_⟩, by omega, into0 ?_⟩⟩, fun h1 => ?_⟩
  · simp only [Bool.or_eq_true, decide_eq_true_eq] at hc
    rw [vlOk, all_out h1 (by omega), Bool.and_false]
  · by_cases e : j = k
    · subst e
      simp only [Bool.or_eq_false_iff, decide_eq_false_iff_not] at hc
      exact inR_t.2 (by omega)
    · exact hok j (by omega)
  · simp only [go_sem, w64s (show k < 9223372036854775807 by omega)]
  · rw [vlOk, all_in h1 hok, Bool.and_true]
    simp only [decide_eq_decide]
    omega
theorem name_rc (s : ByteArray) (hs : s.size < 9223372036854775807) (M : List Blk) : CallR Try.prog M n_label_name [.s s] (.b (nmOk s)) M := by
  refine callP F_label_name (Nat.le_of_ble_eq_true rfl) (by simp only [go_sem]) (by simp only [go_sem]) ?_ M
  simp only [c_label_name, go_sem]
  refine ⟨fun hc => ?_, fun hc => ?_⟩
  · simp only [Bool.or_eq_true, decide_eq_true_eq] at hc
    rcases hc with rfl | hc
    · rfl
    · rw [nmOk, decide_eq_false (show ¬ s.size ≤ 16 by omega), Bool.and_false, Bool.false_and]
  have hz : 1 ≤ s.size ∧ s.size ≤ 16 := by
    simp only [Bool.or_eq_false_iff, decide_eq_false_iff_not] at hc
    refine ⟨Nat.pos_of_ne_zero fun h => hc.1 (bs_inj (List.eq_nil_of_length_eq_zero (by rw [bs_len, h]))), by omega⟩
  refine V_loop (ι := Nat) (J := fun k => k ≤ s.size ∧ ∀ j, j < k → inR 97 122 ((bs s).getD j 0) = true) (env := fun k => [(13, .p (.one (.ptr 0 0 0 0)))]) (mem := fun k => [.sit s k]) (μ := fun k => s.size - k) 0 ⟨Nat.zero_le _, fun j hj => by omega⟩ ⟨[], by simp only [go_sem], Nat.zero_le _, by simp only [go_sem], by simp only [go_sem, ltB]⟩ ?_
  rintro k ⟨hk, hok⟩
  simp only [go_sem]
  by_cases h1 : k < s.size
  · rw [if_pos h1]
    simp only [go_sem]
    by_cases ha : ((bs s).getD k 0).toNat < 128
    · rw [dec_ascii h1 ha]
      simp only [go_sem]
      refine ⟨fun hc => ?_, fun hc => ⟨k + 1, ⟨by omega, fun j hj => ?_⟩, by omega, [], by simp only [go_sem], Nat.zero_le _, by simp only [go_sem], by simp only [go_sem, ltB]⟩⟩
      · simp only [Bool.or_eq_true, decide_eq_true_eq] at hc
        rw [nmOk, all_out h1 (by omega), Bool.and_false]
      · by_cases e : j = k
        · subst e
          simp only [Bool.or_eq_false_iff, decide_eq_false_iff_not] at hc
          exact inR_t.2 (by omega)
        · exact hok j (by omega)
    · have hd := dec_high h1 (by omega)
      refine ⟨fun hc => ?_, fun hc => ?_⟩
      · rw [nmOk, all_out h1 (by omega), Bool.and_false]
      · exfalso
        simp only [Bool.or_eq_false_iff, decide_eq_false_iff_not] at hc
        omega
  · rw [if_neg h1]
    simp only [go_sem]
    rw [nmOk, all_in h1 hok, decide_eq_true hz.1, decide_eq_true hz.2]
    rfl
end Go.Proofs.Ytioefecijidgkaa.A
