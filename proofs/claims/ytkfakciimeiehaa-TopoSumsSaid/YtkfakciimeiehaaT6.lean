/- The walks of slices.Index and slices.Contains at int. -/
import Derived.Test.YtkfakciimeiehaaT5
set_option linter.unusedVariables false
set_option linter.unusedSimpArgs false
namespace Go.Proofs.Ytkfakciimeiehaa.A
open Go Go.Proofs.YtkfakciimeiehaaAbs
abbrev inL (l : List Int) : Pt := .one (.c (.imm 1 l.length fun i _ => .v (.int .i64 (l.getD i 0))))
theorem Index_rc (l : List Int) (hn : l.length < 4611686018427387904) (x : Int) (M : List Blk) : CallR Try.prog M n_slices_Index_int_int [inL l, .i x] (.i (if l.findIdx (· == x) < l.length then ((l.findIdx (· == x) : Nat) : Int) else -1)) M := by
  refine callP F_slices_Index_int_int (Nat.le_of_ble_eq_true rfl) (by simp only [go_sem]) (by simp only [go_sem]) ?_ M
  simp only [c_slices_Index_int_int, go_sem]
  refine V_loop (ι := Nat) (J := fun k => k ≤ l.length ∧ ∀ j, j < k → l.getD j 0 ≠ x) (env := fun k => [(0, .p (inL l)), (1, .i x), (6, .p (inL l)), (7, .i l.length), (8, .i k)]) (mem := fun _ => []) (μ := fun k => l.length - k) 0 (by simp) (into0 (by simp only [go_sem])) ?_
  rintro k ⟨hk, hne⟩
  simp only [go_sem]
  refine ⟨fun h1 => ⟨by omega, fun he => ?_, fun he => ⟨k + 1, ⟨by omega, fun j hj => ?_⟩, by omega, into0 ?_⟩⟩, fun h1 => ?_⟩
  · have : l.findIdx (· == x) = k := by
      rw [List.findIdx_eq h1]
      refine ⟨by simpa [List.getD_eq_getElem?_getD, h1] using he.symm, fun j hj => ?_⟩
      simpa [List.getD_eq_getElem?_getD, show j < l.length by omega] using hne j hj
    rw [this, if_pos h1]
  · by_cases hjk : j = k
    · subst hjk; exact fun e => he e.symm
    · exact hne j (by omega)
  · simp only [go_sem, w64s (show k < 9223372036854775807 by omega)]
  · rw [if_neg]
    have : l.findIdx (· == x) = l.length := by
      rw [List.findIdx_eq_length]
      intro y hy
      obtain ⟨j, hj, rfl⟩ := List.mem_iff_getElem.1 hy
      simpa [List.getD_eq_getElem?_getD, hj] using hne j (by omega)
    omega
theorem Contains_rc (l : List Int) (hn : l.length < 4611686018427387904) (x : Int) (M : List Blk) : CallR Try.prog M n_slices_Contains_int_int [inL l, .i x] (.b (decide (l.findIdx (· == x) < l.length))) M := by
  refine callP F_slices_Contains_int_int (Nat.le_of_ble_eq_true rfl) (by simp only [go_sem]) (by simp only [go_sem]) ?_ M
  simp only [c_slices_Contains_int_int, go_sem]
  refine call0 (Index_rc l hn x) ?_
  simp only [go_sem]
  split <;> simp_all
  all_goals omega
end Go.Proofs.Ytkfakciimeiehaa.A
