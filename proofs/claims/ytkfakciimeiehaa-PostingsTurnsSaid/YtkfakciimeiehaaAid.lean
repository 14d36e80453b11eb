/- Small general laws on numbers, lists and limits, for the plain proofs. No program in sight. -/
import Derived.Test.YtkfakciimeiehaaLim
import Derived.Test.YtkfakciimeiehaaWLast
import Derived.Test.YtkfakciimeiehaaWMore
set_option linter.unusedVariables false
set_option linter.unusedSimpArgs false
namespace Go.Proofs.YtkfakciimeiehaaAid
open Go Go.RowKit Go.Proofs.YtkfakciimeiehaaW.PrintWords Go.Proofs.YtkfakciimeiehaaW.PrintLast Go.Proofs.YtkfakciimeiehaaW.PrintMore Go.Proofs.YtkfakciimeiehaaLim

theorem w64 {x : Int} (h0 : -9223372036854775808 ≤ x) (h1 : x ≤ 9223372036854775807) : wrap64 x = x := by
  unfold wrap64
  omega
theorem w64_succ {i n : Nat} (h : i < n) (hn : n ≤ 9223372036854775807) : wrap64 ((i : Int) + 1) = ((i + 1 : Nat) : Int) := by
  rw [w64 (by omega) (by omega)]
  omega
theorem w64_pred {i n : Nat} (h0 : 0 < i) (h : i ≤ n) (hn : n ≤ 9223372036854775807) : wrap64 ((i : Int) - 1) = ((i - 1 : Nat) : Int) := by
  rw [w64 (by omega) (by omega)]
  omega
theorem lim_of {α : Type} {g : Nat → Option α} (hg : ∀ k, LeO (g k) (g (k + 1))) {k : Nat} {r : α} (h : g k = some r) : Lim g = some r := lim_eq (Ev.of hg h)
theorem mn_eq (a b : Int) : mn a b = min a b := by
  unfold mn
  omega
theorem mx_eq (a b : Int) : mx a b = max a b := by
  unfold mx
  omega
/-- What stands at the head of what is left. -/
theorem drop_cons {α : Type} {l t : List α} {x : α} {i : Nat} (h : l.drop i = x :: t) : i < l.length ∧ l.drop (i + 1) = t ∧ (∀ z, l.getD i z = x) ∧ l[i]? = some x := by
  have hi : i < l.length := by
    by_cases h' : i < l.length
    · exact h'
    · rw [List.drop_eq_nil_of_le (by omega)] at h
      cases h
  rw [List.drop_eq_getElem_cons hi] at h
  injection h with h1 h2
  exact ⟨hi, h2, fun z => by rw [List.getD_eq_getElem?_getD, List.getElem?_eq_getElem hi, h1]; rfl, by rw [List.getElem?_eq_getElem hi, h1]⟩
theorem drop_nil {α : Type} {l : List α} {i : Nat} (h : l.drop i = []) : l.length ≤ i := by
  by_cases h' : l.length ≤ i
  · exact h'
  · have := congrArg List.length h
    simp at this
    omega
theorem getD_of_lt {α : Type} {l : List α} {i : Nat} (h : i < l.length) (z : α) : l.getD i z = l[i] := by
  rw [List.getD_eq_getElem?_getD, List.getElem?_eq_getElem h]
  rfl
theorem rd_nat (xs : List Int) (i : Nat) : rd xs (i : Int) = xs.getD i 0 := rfl
theorem drop_len {α : Type} {l t : List α} {i : Nat} (h : l.drop i = t) : t.length = l.length - i := by
  rw [← h, List.length_drop]
end Go.Proofs.YtkfakciimeiehaaAid
