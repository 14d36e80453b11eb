/- For every kind and every two totals the program folds them as the document says (To2): the plain law. -/
import Derived.Test.YtkfakciimeiehaaTotalRef
import Derived.Test.YtkfakciimeiehaaOpens
namespace Go.Proofs.Ytkfakciimeiehaa.Pure
open Go Go.RowKit Go.Proofs.Ytkfakciimeiehaa.PTotal Go.Proofs.YtkfakciimeiehaaW.PrintWords Go.Proofs.YtkfakciimeiehaaW.PrintLast Go.Proofs.YtkfakciimeiehaaW.PrintMore Go.Proofs.YtkfakciimeiehaaOpens Go.Proofs.YtkfakciimeiehaaLim Go.Proofs.YtkfakciimeiehaaAid Go.Proofs.Ytkfakciimeiehaa.TotalBase

theorem folds_out (kind a b : Int) : windroselaw13_TotalFolds.j0L kind a b 0 false true = some true := by
  rw [windroselaw13_TotalFolds.j0L_eq, if_pos rfl, if_neg (by simp), if_pos rfl, awake]
  rfl
theorem folds_in {kind a b : Int} (x73 : Bool) (n : Int) (h1 : 1 ≤ kind) (h4 : kind ≤ 4)
    (hx : x73 = decide ((kind = 2 ∧ a < b) ∨ (kind = 3 ∧ a > b))) (hn : n = if kind = 4 then a + b else Two kind a b) :
    windroselaw13_TotalFolds.j1L kind a b n true (a + b) x73 = some true := by
  rw [windroselaw13_TotalFolds.j1L_eq, awake]
  simp only [Option.bind_some, if_true]
  unfold Two at hn
  subst hx
  by_cases hc : (kind = 2 ∧ a < b) ∨ (kind = 3 ∧ a > b)
  · rw [if_pos (by simpa using hc), if_pos]
    rcases hc with hc | hc
    · rw [if_neg (by omega), if_neg (by omega), if_pos hc.1] at hn; omega
    · rw [if_neg (by omega), if_neg (by omega), if_neg (by omega)] at hn; omega
  · rw [if_neg (by simpa using hc)]
    by_cases h2 : kind = 2
    · rw [if_pos h2, if_pos]
      rw [if_neg (by omega), if_neg (by omega), if_pos h2] at hn; omega
    rw [if_neg h2]
    by_cases h3 : kind = 3
    · rw [if_pos h3, if_pos]
      rw [if_neg (by omega), if_neg (by omega), if_neg h2] at hn; omega
    rw [if_neg h3, if_pos]
    by_cases hk : kind = 4
    · rw [if_pos hk] at hn; exact hn
    · rw [if_neg hk, if_pos (by omega)] at hn; exact hn

theorem TotalFolds : windroselaw13_TotalFolds.Pure := by
  intro kind a b _ _ _
  refine rounds_of_lim (show windroselaw13_TotalFolds.fL kind a b = some true from ?_)
  rw [windroselaw13_TotalFolds.fL_eq]
  by_cases h : 1 ≤ kind ∧ kind ≤ 4 ∧ -9007199254740992 ≤ a ∧ a ≤ 9007199254740992 ∧ -9007199254740992 ≤ b ∧ b ≤ 9007199254740992
  · obtain ⟨h1, h4, ha, ha', hb, hb'⟩ := h
    rw [fold_ok h1 h4 ha ha' hb hb']
    rw [Option.bind_some, if_neg (by omega), if_neg (by omega), if_neg (by omega), if_neg (by omega), if_neg (by omega), decide_eq_false (by omega), windroselaw13_TotalFolds.j0L_eq, if_neg (by simp), w64 (by omega) (by omega)]
    by_cases h2 : kind = 2
    · rw [if_pos h2]
      by_cases hc : a < b
      · rw [if_pos hc]
        exact folds_in _ _ h1 h4 (by simp [h2, hc]) rfl
      · rw [if_neg hc, if_neg (by omega)]
        exact folds_in _ _ h1 h4 (by simp [h2, hc]) rfl
    · rw [if_neg h2]
      by_cases h3 : kind = 3
      · rw [if_pos h3]
        exact folds_in _ _ h1 h4 (by simp [h3]) rfl
      · rw [if_neg h3]
        exact folds_in _ _ h1 h4 (by simp [h2, h3]) rfl
  · rw [fold_no h]
    rw [Option.bind_some]
    have out := folds_out kind a b
    by_cases c1 : a > 9007199254740992
    · rw [if_pos c1]; exact out
    rw [if_neg c1]
    by_cases c2 : a < -9007199254740992
    · rw [if_pos c2]; exact out
    rw [if_neg c2]
    by_cases c3 : b > 9007199254740992
    · rw [if_pos c3]; exact out
    rw [if_neg c3]
    by_cases c4 : b < -9007199254740992
    · rw [if_pos c4]; exact out
    rw [if_neg c4]
    by_cases c5 : kind < 1
    · rw [if_pos c5]; exact out
    rw [if_neg c5, decide_eq_true (by omega)]; exact out
end Go.Proofs.Ytkfakciimeiehaa.Pure
