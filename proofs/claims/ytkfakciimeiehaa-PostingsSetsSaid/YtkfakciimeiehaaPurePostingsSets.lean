/- What is in all lists, in one, and in one but not in another, of any lists, is what the document tells (Ps1): the plain law. -/
import Derived.Test.YtkfakciimeiehaaPostOr
import Derived.Test.YtkfakciimeiehaaOpens
namespace Go.Proofs.Ytkfakciimeiehaa.Pure
open Go Go.RowKit Go.Proofs.Ytkfakciimeiehaa.PPost Go.Proofs.YtkfakciimeiehaaW.PrintWords Go.Proofs.YtkfakciimeiehaaW.PrintLast Go.Proofs.YtkfakciimeiehaaW.PrintMore Go.Proofs.YtkfakciimeiehaaOpens Go.Proofs.YtkfakciimeiehaaLim Go.Proofs.YtkfakciimeiehaaAid Go.Proofs.Ytkfakciimeiehaa.PostBase

theorem sets_out (l : List (List Int)) (a b : List Int) : windroselaw19_PostingsSets.j0L l a b true = some true := by
  rw [windroselaw19_PostingsSets.j0L_eq, if_pos rfl, awake19]
  rfl
theorem sets_loop (l : List (List Int)) (a b : List Int) (hl : l.length ≤ 8) (ha : a.length ≤ 400) (hb : b.length ≤ 400) : ∀ (t : List (List Int)) (i : Nat), l.drop i = t → i ≤ l.length → (∀ c ∈ l.take i, c.length ≤ 200) →
    windroselaw19_PostingsSets.l0L l a b (i : Int) = some true := by
  intro t
  induction t with
  | nil =>
    intro i h hi hp
    have := drop_nil h
    obtain rfl : i = l.length := by omega
    rw [List.take_length] at hp
    have hall : ∀ c ∈ l, c.length ≤ 4096 := fun c hc => by have := hp c hc; omega
    have hall2 : ∀ c ∈ l, c.length ≤ 9223372036854775807 := fun c hc => by have := hp c hc; omega
    have hal : (andP l).length ≤ 9223372036854775807 := by
      cases l with
      | nil => simp [andP]
      | cons c l =>
        have := List.length_filter_le (fun x => l.all (fun l => decide (x ∈ sndP l))) (sndP c)
        have := (snd_all c).1
        show ((sndP c).filter _).length ≤ _
        omega
    have hol : (orP l).length ≤ 9223372036854775807 := by unfold orP; rw [List.length_take]; omega
    have hwl : (withoutP a b).length ≤ 9223372036854775807 := by
      have := List.length_filter_le (fun x => decide (x ∉ sndP b)) (sndP a)
      have := (snd_all a).1
      unfold withoutP
      omega
    rw [windroselaw19_PostingsSets.l0L_eq, if_neg (by omega), and19 l (by omega), Option.bind_some, and_ref l (by omega) hall, Option.bind_some, ints _ _ hal, Option.bind_some, if_pos (by simp), or19 l (by omega), Option.bind_some,
      or_ref l (by omega) hall2, Option.bind_some, ints _ _ hol, Option.bind_some, if_pos (by simp), show postings_Without.f a b = some (withoutP a b) from rfl, Option.bind_some, without_ref a b (by omega) (by omega), Option.bind_some, ints _ _ hwl, Option.bind_some, if_pos (by simp), awake19]
    rfl
  | cons c t ih =>
    intro i h hi hp
    have hlt := (drop_cons h).1
    rw [windroselaw19_PostingsSets.l0L_eq, if_pos (by omega), if_pos (by omega), rdL_drop h, w64_succ hlt (by omega)]
    by_cases hc : (c.length : Int) > 200
    · rw [if_pos hc, awake19]
      rfl
    · rw [if_neg hc]
      refine ih (i + 1) (drop_cons h).2.1 (by omega) fun d hd => ?_
      rw [List.take_add_one, (drop_cons h).2.2.2] at hd
      rcases List.mem_append.1 hd with hd | hd
      · exact hp d hd
      · simp at hd
        subst hd
        omega

theorem PostingsSets : ∀ (l0 : List (List Int)) (l1 : List Int) (l2 : List Int), (WSlice 24 (WSlice 8 (WInt .i64))) l0 → (WSlice 8 (WInt .i64)) l1 → (WSlice 8 (WInt .i64)) l2 → ∃ k, windroselaw19_PostingsSets.f k l0 l1 l2 = some true := by
  intro l a b _ _ _
  refine rounds_of_lim (show windroselaw19_PostingsSets.fL l a b = some true from ?_)
  rw [windroselaw19_PostingsSets.fL_eq]
  have out := sets_out l a b
  by_cases h1 : (l.length : Int) > 8
  · rw [if_pos h1]; exact out
  rw [if_neg h1]
  by_cases h2 : (a.length : Int) > 400
  · rw [if_pos h2]; exact out
  rw [if_neg h2]
  by_cases h3 : (b.length : Int) > 400
  · rw [decide_eq_true h3]; exact out
  rw [decide_eq_false h3, windroselaw19_PostingsSets.j0L_eq, if_neg (by simp)]
  exact sets_loop l a b (by omega) (by omega) (by omega) l 0 rfl (by omega) (by simp)
end Go.Proofs.Ytkfakciimeiehaa.Pure
