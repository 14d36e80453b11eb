/- Which lists may be, any with one more, without one, and what it has (Ps1, Ps2): the plain law. -/
import Derived.Test.YtkfakciimeiehaaTurnAll
import Derived.Test.YtkfakciimeiehaaOpens
namespace Go.Proofs.Ytkfakciimeiehaa.Pure
open Go Go.RowKit Go.Proofs.Ytkfakciimeiehaa.PTurn Go.Proofs.YtkfakciimeiehaaW.PrintWords Go.Proofs.YtkfakciimeiehaaW.PrintLast Go.Proofs.YtkfakciimeiehaaW.PrintMore Go.Proofs.YtkfakciimeiehaaOpens Go.Proofs.YtkfakciimeiehaaLim Go.Proofs.YtkfakciimeiehaaAid Go.Proofs.Ytkfakciimeiehaa.PostBase Go.Proofs.Ytkfakciimeiehaa.TurnBase
open Go.Proofs.Ytkfakciimeiehaa.PPost (insAt delAt addP removeP sound_len)

theorem turns_out (l : List Int) (n : Int) : windroselaw19_PostingsTurns.j0L l n true = some true := by
  rw [windroselaw19_PostingsTurns.j0L_eq, if_pos rfl, TurnBase.awake19]
  rfl
theorem turns_in (l : List Int) (n : Int) (hl : l.length ≤ 4100) : windroselaw19_PostingsTurns.j0L l n false = some true := by
  have ha : (addP l n).1.length ≤ 9223372036854775807 := by
    unfold addP
    by_cases h : soundB l = true ∧ 0 ≤ n ∧ n ≤ 2147483647
    · rw [if_pos h]
      by_cases h1 : n ∈ l
      · rw [if_pos h1]; show l.length ≤ _; omega
      · rw [if_neg h1]
        by_cases h2 : l.length = 4096
        · rw [if_pos h2]; show l.length ≤ _; omega
        · rw [if_neg h2]
          show (insAt _ _ _).length ≤ _
          unfold insAt
          rw [List.length_append, List.length_take, List.length_cons, List.length_drop]
          omega
    · rw [if_neg h]
      simp
  have hr : (removeP l n).1.length ≤ 9223372036854775807 := by
    unfold removeP
    by_cases h : soundB l = true
    · rw [if_pos h]
      by_cases h1 : n ∈ l
      · rw [if_pos h1]
        show (delAt _ _).length ≤ _
        unfold delAt
        rw [List.length_append, List.length_take, List.length_drop]
        omega
      · rw [if_neg h1]; show l.length ≤ _; omega
    · rw [if_neg h]
      simp
  rw [windroselaw19_PostingsTurns.j0L_eq, if_neg (by simp), show Go.Proofs.Ytkfakciimeiehaa.PPost.postings_Add.f l n = some (addP l n) from rfl, Option.bind_some, show Go.Proofs.Ytkfakciimeiehaa.PPost.postings_Remove.f l n = some (removeP l n) from rfl, Option.bind_some,
    add_ref l n (by omega), Option.bind_some, remove_ref l n (by omega), Option.bind_some, TurnBase.check19, Option.bind_some, TurnBase.may19 l (by omega), Option.bind_some, if_pos (by by_cases h : soundB l = true <;> simp [h]), if_pos rfl, TurnBase.ints _ _ ha, Option.bind_some, if_pos (by simp), if_pos rfl, TurnBase.ints _ _ hr, Option.bind_some, if_pos (by simp),
    hasp19, Option.bind_some, TurnBase.has19 l n (by omega), Option.bind_some, if_pos (by simp), rank19, Option.bind_some, rank_ref l n (by omega), Option.bind_some, if_pos rfl, TurnBase.awake19]
  rfl
theorem PostingsTurns : ∀ (l0 : List Int) (a1 : Int), (WSlice 8 (WInt .i64)) l0 → WInt .i64 a1 → ∃ k, windroselaw19_PostingsTurns.f k l0 a1 = some true := by
  intro l n _ _
  refine rounds_of_lim (show windroselaw19_PostingsTurns.fL l n = some true from ?_)
  rw [windroselaw19_PostingsTurns.fL_eq]
  by_cases h : (l.length : Int) > 4100
  · rw [decide_eq_true h, if_pos (by omega), if_neg (by omega)]
    exact turns_out l n
  rw [decide_eq_false h]
  have hin := turns_in l n (by omega)
  by_cases h1 : (l.length : Int) > 300
  · rw [if_pos h1]
    by_cases h2 : (l.length : Int) < 4096
    · rw [if_pos h2]
      exact turns_out l n
    · rw [if_neg h2]
      exact hin
  · rw [if_neg h1]
    exact hin
end Go.Proofs.Ytkfakciimeiehaa.Pure
