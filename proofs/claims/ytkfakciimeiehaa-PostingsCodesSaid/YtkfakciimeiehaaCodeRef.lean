/- Layer 19: lists checked and compared, as the functions printed for the codes do it. -/
import Derived.Test.YtkfakciimeiehaaLCodeA
set_option linter.unusedVariables false
set_option linter.unusedSimpArgs false
namespace Go.Proofs.Ytkfakciimeiehaa.CodeBase
open Go Go.RowKit Go.Proofs.YtkfakciimeiehaaW.PrintWords Go.Proofs.YtkfakciimeiehaaW.PrintLast Go.Proofs.YtkfakciimeiehaaW.PrintMore Go.Proofs.YtkfakciimeiehaaLim Go.Proofs.YtkfakciimeiehaaAid Go.Proofs.Ytkfakciimeiehaa.PostBase
open Go.Proofs.Ytkfakciimeiehaa.PCode

theorem check_loop19 (l : List Int) (hl : l.length ≤ 4096) : ∀ (t : List Int) (i : Nat) (p : Int), l.drop i = t → i ≤ l.length → -1 ≤ p → (i = 0 → p = -1) → (0 < i → p = rd l ((i - 1 : Nat) : Int) ∧ 0 ≤ p) →
    postings_Check.l0L l l (l.length : Int) (i : Int) = some (if okFrom p t = true then 0 else 1) := by
  intro t
  induction t with
  | nil =>
    intro i p h hi _ _ _
    have := drop_nil h
    rw [postings_Check.l0L_eq, if_neg (by omega)]
    rfl
  | cons x t ih =>
    intro i p h hi hp h0 h1
    have hlt := (drop_cons h).1
    rw [postings_Check.l0L_eq, if_pos (by omega), if_pos (by omega), if_pos (by omega), rd_drop h, w64_succ hlt (by omega)]
    have hi1 : rd l ((i + 1 - 1 : Nat) : Int) = x := by rw [show i + 1 - 1 = i from by omega, rd_drop h]
    unfold okFrom
    by_cases c1 : x < 0
    · rw [if_pos c1, if_neg]
      rw [decide_eq_false (by omega)]
      simp
    rw [if_neg c1]
    by_cases c2 : x > 2147483647
    · rw [if_pos c2, if_neg]
      rw [decide_eq_false (p := x ≤ 2147483647) (by omega)]
      simp
    rw [if_neg c2, decide_eq_true (p := x ≤ 2147483647) (by omega), Bool.true_and]
    have nx := ih (i + 1) x (drop_cons h).2.1 (by omega) (by omega) (by omega) (fun _ => ⟨hi1.symm, by omega⟩)
    by_cases c3 : i = 0
    · rw [if_neg (by omega), nx, decide_eq_true (by have := h0 c3; omega), Bool.true_and]
    · obtain ⟨e, hp0⟩ := h1 (by omega)
      rw [if_pos (by omega), w64_pred (n := 4096) (by omega) (by omega) (by omega), if_pos (by omega), if_pos (by omega), ← e]
      by_cases c4 : x ≤ p
      · rw [if_pos c4, if_neg]
        rw [decide_eq_false (by omega)]
        simp
      · rw [if_neg c4, nx, decide_eq_true (by omega), Bool.true_and]

theorem check19 (l : List Int) : postings_Check.fL l = some (if soundB l = true then 0 else 1) := by
  rw [postings_Check.fL_eq]
  unfold soundB
  by_cases hl : l.length ≤ 4096
  · rw [if_neg (by omega), decide_eq_true hl, Bool.true_and, show (0 : Int) = ((0 : Nat) : Int) from rfl]
    exact check_loop19 l hl l 0 (-1) rfl (by omega) (by omega) (fun _ => rfl) (fun h => by omega)
  · rw [if_pos (by omega), decide_eq_false hl, if_neg (by simp)]
theorem awake19 : windroselaw19_awake.fL = some true := lim_of windroselaw19_awake.mono (k := 60) (by decide +kernel)

/-! ### whether lists are one -/
theorem ints_loop (a b : List Int) (hl : a.length = b.length) (hb : a.length ≤ 9223372036854775807) : ∀ (s t : List Int) (i : Nat), a.drop i = s → b.drop i = t → windroseref02_Ints.l0L a b (i : Int) = some (decide (s = t)) := by
  intro s
  induction s with
  | nil =>
    intro t i hs ht
    have h1 := drop_nil hs
    have : t = [] := by rw [← ht]; exact List.drop_eq_nil_of_le (by omega)
    subst this
    rw [windroseref02_Ints.l0L_eq, if_neg (by omega)]
    simp
  | cons x s ih =>
    intro t i hs ht
    have hlt := (drop_cons hs).1
    cases t with
    | nil => have := drop_nil ht; omega
    | cons y t =>
      rw [windroseref02_Ints.l0L_eq, if_pos (by omega), if_pos (by omega), if_pos (by omega), rd_drop hs, rd_drop ht, w64_succ hlt hb]
      by_cases e : x = y
      · rw [if_pos e, ih t (i + 1) (drop_cons hs).2.1 (drop_cons ht).2.1]
        simp [e]
      · rw [if_neg e]
        simp [e]
theorem ints (a b : List Int) (hb : a.length ≤ 9223372036854775807) : windroseref02_Ints.fL a b = some (decide (a = b)) := by
  rw [windroseref02_Ints.fL_eq]
  by_cases hl : a.length = b.length
  · rw [if_pos (by omega)]
    exact ints_loop a b hl hb a b 0 rfl rfl
  · rw [if_neg (by omega), decide_eq_false (fun e => hl (by rw [e]))]

/-! ### which lists may be -/
theorem may_loop19 (l : List Int) (hl : l.length ≤ 9223372036854775807) : ∀ (t : List Int) (i : Nat) (p : Int), l.drop i = t → i ≤ l.length → -1 ≤ p → (i = 0 → p = -1) → (0 < i → p = rd l ((i - 1 : Nat) : Int) ∧ 0 ≤ p) →
    windroseref19_May.l0L l (i : Int) = some (decide ((l.length : Int) ≤ 4096) && okFrom p t) := by
  intro t
  induction t with
  | nil =>
    intro i p h hi _ _ _
    have := drop_nil h
    rw [windroseref19_May.l0L_eq, if_neg (by omega)]
    simp [okFrom]
  | cons x t ih =>
    intro i p h hi hp h0 h1
    have hlt := (drop_cons h).1
    rw [windroseref19_May.l0L_eq, if_pos (by omega), if_pos (by omega), rd_drop h, w64_succ hlt (by omega)]
    have hi1 : rd l ((i + 1 - 1 : Nat) : Int) = x := by rw [show i + 1 - 1 = i from by omega, rd_drop h]
    unfold okFrom
    by_cases c1 : x < 0
    · rw [if_pos c1, decide_eq_false (show ¬ p < x by omega)]
      simp
    rw [if_neg c1]
    by_cases c2 : x ≥ 2147483648
    · rw [if_pos c2, decide_eq_false (show ¬ x ≤ 2147483647 by omega)]
      simp
    rw [if_neg c2, decide_eq_true (show x ≤ 2147483647 by omega), Bool.true_and]
    have nx := ih (i + 1) x (drop_cons h).2.1 (by omega) (by omega) (by omega) (fun _ => ⟨hi1.symm, by omega⟩)
    by_cases c3 : i = 0
    · rw [if_neg (by omega), nx, decide_eq_true (show p < x by have := h0 c3; omega), Bool.true_and]
    · obtain ⟨e, hp0⟩ := h1 (by omega)
      rw [if_pos (by omega), w64_pred (n := l.length) (by omega) (by omega) (by omega), if_pos (by omega), if_pos (by omega), ← e]
      by_cases c4 : p ≥ x
      · rw [if_pos c4, decide_eq_false (show ¬ p < x by omega)]
        simp
      · rw [if_neg c4, nx, decide_eq_true (show p < x by omega), Bool.true_and]
theorem may19 (l : List Int) (hl : l.length ≤ 9223372036854775807) : windroseref19_May.fL l = some (soundB l) := by
  rw [windroseref19_May.fL_eq, show (0 : Int) = ((0 : Nat) : Int) from rfl, may_loop19 l hl l 0 (-1) rfl (by omega) (by omega) (fun _ => rfl) (fun h => by omega)]
  unfold soundB
  congr 2
  rw [decide_eq_decide]
  omega

end Go.Proofs.Ytkfakciimeiehaa.CodeBase
