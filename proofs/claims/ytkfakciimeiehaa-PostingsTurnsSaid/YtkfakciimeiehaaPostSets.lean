/- Layer 19: what is in one list and not in another one, what is in all: plain laws on rising lists. -/
import Derived.Test.YtkfakciimeiehaaPostBase
set_option linter.unusedVariables false
set_option linter.unusedSimpArgs false
namespace Go.Proofs.Ytkfakciimeiehaa.PostBase
open Go Go.RowKit Go.Proofs.YtkfakciimeiehaaW.PrintWords Go.Proofs.YtkfakciimeiehaaW.PrintLast Go.Proofs.YtkfakciimeiehaaW.PrintMore Go.Proofs.YtkfakciimeiehaaLim Go.Proofs.YtkfakciimeiehaaAid Go.Proofs.Ytkfakciimeiehaa.PPost

/-- The first number, 0 if there is none; and whether there is one. -/
def hdP (xs : List Int) : Int := xs.headD 0
def isP (xs : List Int) : Bool := !xs.isEmpty

/-- What is in a list, and not in another one. -/
def withoutP (a b : List Int) : List Int := (sndP a).filter (fun x => decide (x ∉ sndP b))
/-- What is in all lists. -/
def andP : List (List Int) → List Int
  | [] => []
  | a :: t => (sndP a).filter (fun x => t.all (fun l => decide (x ∈ sndP l)))

/-- What a walker over ys stands at, having been sought for the first k of xs, one by one. -/
def wsP (xs ys : List Int) (k : Nat) : List Int := if k = 0 then ys else ys.filter (fun y => decide (xs.getD (k - 1) 0 ≤ y))
theorem wsP_sorted {xs ys : List Int} (hy : ys.Pairwise (· < ·)) (k : Nat) : (wsP xs ys k).Pairwise (· < ·) := by
  unfold wsP
  split
  · exact hy
  · exact hy.sublist List.filter_sublist
theorem wsP_len (xs ys : List Int) (k : Nat) : (wsP xs ys k).length ≤ ys.length := by
  unfold wsP
  split
  · exact Nat.le_refl _
  · exact List.length_filter_le _ _
theorem wsP_step {xs ys : List Int} (hx : xs.Pairwise (· < ·)) (hy : ys.Pairwise (· < ·)) {k : Nat} (hk : k < xs.length) : (wsP xs ys k).drop (lb (wsP xs ys k) xs[k]) = wsP xs ys (k + 1) := by
  rw [← split_drop (lb_split xs[k] (wsP_sorted hy k))]
  have e : wsP xs ys (k + 1) = ys.filter (fun y => decide (xs[k] ≤ y)) := by
    unfold wsP
    rw [if_neg (by omega), show k + 1 - 1 = k from by omega, getD_of_lt hk]
  rw [e]
  unfold wsP
  by_cases h0 : k = 0
  · rw [if_pos h0]
  · rw [if_neg h0, List.filter_filter]
    congr 1
    funext y
    rw [getD_of_lt (show k - 1 < xs.length by omega)]
    have := pw_lt hx hk (show k - 1 < k by omega)
    by_cases c : xs[k] ≤ y
    · rw [decide_eq_true c, decide_eq_true (show xs[k - 1] ≤ y by omega)]; rfl
    · rw [decide_eq_false c]; rfl
/-- Whether a number is there is told by the first one from it on. -/
theorem mem_first {ys : List Int} (hy : ys.Pairwise (· < ·)) (t : Int) : t ∈ ys ↔ isP (ys.filter (fun y => decide (t ≤ y))) = true ∧ hdP (ys.filter (fun y => decide (t ≤ y))) = t := by
  have hm : t ∈ ys ↔ t ∈ ys.filter (fun y => decide (t ≤ y)) := by simp [List.mem_filter]
  have hs := hy.sublist (List.filter_sublist (p := fun y => decide (t ≤ y)))
  have hge : ∀ z ∈ ys.filter (fun y => decide (t ≤ y)), t ≤ z := by
    intro z hz
    have := (List.mem_filter.1 hz).2
    simpa using this
  rw [hm]
  generalize ys.filter (fun y => decide (t ≤ y)) = zs at hs hge ⊢
  cases zs with
  | nil => simp [isP]
  | cons z zs =>
    constructor
    · intro h
      refine ⟨rfl, ?_⟩
      rcases List.mem_cons.1 h with h | h
      · exact h.symm
      · have h1 := (List.pairwise_cons.1 hs).1 t h
        have h2 := hge z (by simp)
        omega
    · rintro ⟨_, h⟩
      have h' : z = t := h
      simp [h']
theorem wsP_succ {xs : List Int} (ys : List Int) {k : Nat} (hk : k < xs.length) : wsP xs ys (k + 1) = ys.filter (fun y => decide (xs[k] ≤ y)) := by
  unfold wsP
  rw [if_neg (by omega), show k + 1 - 1 = k from by omega, getD_of_lt hk]
theorem take_filter {xs : List Int} (q : Int → Bool) {k : Nat} (hk : k < xs.length) : (xs.take (k + 1)).filter q = (xs.take k).filter q ++ (if q xs[k] = true then [xs[k]] else []) := by
  rw [List.take_succ_eq_append_getElem hk, List.filter_append]
  congr 1
  by_cases h : q xs[k] = true
  · rw [if_pos h, List.filter_cons_of_pos h]; rfl
  · rw [if_neg h, List.filter_cons_of_neg h]; rfl
end Go.Proofs.Ytkfakciimeiehaa.PostBase
