/- Layer 19: which lists may be, and where a number stands in a rising list: plain laws. -/
import Derived.Test.YtkfakciimeiehaaAid
import Derived.Test.YtkfakciimeiehaaLPostA
set_option linter.unusedVariables false
set_option linter.unusedSimpArgs false
namespace Go.Proofs.Ytkfakciimeiehaa.PostBase
open Go Go.RowKit Go.Proofs.YtkfakciimeiehaaW.PrintWords Go.Proofs.YtkfakciimeiehaaW.PrintLast Go.Proofs.YtkfakciimeiehaaW.PrintMore Go.Proofs.YtkfakciimeiehaaLim Go.Proofs.YtkfakciimeiehaaAid Go.Proofs.Ytkfakciimeiehaa.PPost

theorem rd_drop {l t : List Int} {x : Int} {i : Nat} (h : l.drop i = x :: t) : rd l (i : Int) = x := (drop_cons h).2.2.1 _
theorem rd_get {l : List Int} {i : Nat} (h : i < l.length) : rd l (i : Int) = l[i] := by
  rw [rd_nat, getD_of_lt h]

/-- May numbers follow one that is p? -/
def okFrom : Int → List Int → Bool
  | _, [] => true
  | p, x :: t => decide (p < x) && (decide (x ≤ 2147483647) && okFrom x t)
def soundB (l : List Int) : Bool := decide (l.length ≤ 4096) && okFrom (-1) l
/-- A list, or the empty one, if it may not be. -/
def sndP (l : List Int) : List Int := if soundB l = true then l else []

theorem check_loop19 (l : List Int) (hl : l.length ≤ 4096) : ∀ (t : List Int) (i : Nat) (p : Int), l.drop i = t → i ≤ l.length → -1 ≤ p → (i = 0 → p = -1) → (0 < i → p = rd l ((i - 1 : Nat) : Int) ∧ 0 ≤ p) →
    postings_Check.l0L l l (l.length : Int) (i : Int) = some (if okFrom p t = true then 0 else 1) := by
  intro t
  induction t with
  | nil =>
    intro i p h hi _ _ _
    have := drop_nil h
    rw [postings_Check.l0L_eq, if_neg (by omega)]
    rfl
  | cons x t ih =>
    intro i p h hi hp h0 h1
    have hlt := (drop_cons h).1
    rw [postings_Check.l0L_eq, if_pos (by omega), if_pos (by omega), if_pos (by omega), rd_drop h, w64_succ hlt (by omega)]
    have hi1 : rd l ((i + 1 - 1 : Nat) : Int) = x := by rw [show i + 1 - 1 = i from by omega, rd_drop h]
    unfold okFrom
    by_cases c1 : x < 0
    · rw [if_pos c1, if_neg]
      rw [decide_eq_false (by omega)]
      simp
    rw [if_neg c1]
    by_cases c2 : x > 2147483647
    · rw [if_pos c2, if_neg]
      rw [decide_eq_false (p := x ≤ 2147483647) (by omega)]
      simp
    rw [if_neg c2, decide_eq_true (p := x ≤ 2147483647) (by omega), Bool.true_and]
    have nx := ih (i + 1) x (drop_cons h).2.1 (by omega) (by omega) (by omega) (fun _ => ⟨hi1.symm, by omega⟩)
    by_cases c3 : i = 0
    · rw [if_neg (by omega), nx, decide_eq_true (by have := h0 c3; omega), Bool.true_and]
    · obtain ⟨e, hp0⟩ := h1 (by omega)
      rw [if_pos (by omega), w64_pred (n := 4096) (by omega) (by omega) (by omega), if_pos (by omega), if_pos (by omega), ← e]
      by_cases c4 : x ≤ p
      · rw [if_pos c4, if_neg]
        rw [decide_eq_false (by omega)]
        simp
      · rw [if_neg c4, nx, decide_eq_true (by omega), Bool.true_and]

theorem check19 (l : List Int) : postings_Check.fL l = some (if soundB l = true then 0 else 1) := by
  rw [postings_Check.fL_eq]
  unfold soundB
  by_cases hl : l.length ≤ 4096
  · rw [if_neg (by omega), decide_eq_true hl, Bool.true_and, show (0 : Int) = ((0 : Nat) : Int) from rfl]
    exact check_loop19 l hl l 0 (-1) rfl (by omega) (by omega) (fun _ => rfl) (fun h => by omega)
  · rw [if_pos (by omega), decide_eq_false hl, if_neg (by simp)]
theorem sound19 (l : List Int) : postings_sound.fL l = some (sndP l) := by
  rw [postings_sound.fL_eq, check19, Option.bind_some]
  unfold sndP
  by_cases h : soundB l = true
  · rw [if_pos h, if_pos rfl, if_pos h]
  · rw [if_neg h, if_neg (by omega), if_neg h]

theorem okFrom_all : ∀ {l : List Int} {p : Int}, okFrom p l = true → (∀ x ∈ l, p < x ∧ x ≤ 2147483647) ∧ l.Pairwise (· < ·)
  | [], _, _ => ⟨by simp, List.Pairwise.nil⟩
  | x :: t, p, h => by
    simp only [okFrom, Bool.and_eq_true, decide_eq_true_eq] at h
    obtain ⟨h1, h2, h3⟩ := h
    obtain ⟨ha, hp⟩ := okFrom_all h3
    refine ⟨fun y hy => ?_, List.Pairwise.cons (fun y hy => (ha y hy).1) hp⟩
    rcases List.mem_cons.1 hy with rfl | hy
    · exact ⟨h1, h2⟩
    · have := ha y hy
      omega
/-- What is so of a list that may be. -/
theorem snd_all (l : List Int) : (sndP l).length ≤ 4096 ∧ (∀ x ∈ sndP l, 0 ≤ x ∧ x ≤ 2147483647) ∧ (sndP l).Pairwise (· < ·) := by
  unfold sndP
  by_cases h : soundB l = true
  · rw [if_pos h]
    simp only [soundB, Bool.and_eq_true, decide_eq_true_eq] at h
    obtain ⟨ha, hp⟩ := okFrom_all h.2
    exact ⟨h.1, fun x hx => by have := ha x hx; omega, hp⟩
  · rw [if_neg h]
    exact ⟨by simp, by simp, List.Pairwise.nil⟩

/-! ### where a number stands -/
def lb (xs : List Int) (t : Int) : Nat := xs.countP (fun x => decide (x < t))
/-- All ahead of place i are below t, none from there on. -/
def Split (xs : List Int) (t : Int) (i : Nat) : Prop := i ≤ xs.length ∧ (∀ j (h : j < xs.length), j < i → xs[j] < t) ∧ (∀ j (h : j < xs.length), i ≤ j → t ≤ xs[j])
theorem split_lb {xs : List Int} {t : Int} {i : Nat} (h : Split xs t i) : lb xs t = i := by
  obtain ⟨hi, h1, h2⟩ := h
  unfold lb
  conv => lhs; rw [← List.take_append_drop i xs]
  rw [List.countP_append]
  have e1 : (xs.take i).countP (fun x => decide (x < t)) = (xs.take i).length := by
    rw [List.countP_eq_length]
    intro x hx
    obtain ⟨j, hj, rfl⟩ := List.getElem_of_mem hx
    rw [List.length_take] at hj
    rw [List.getElem_take]
    simpa using h1 j (by omega) (by omega)
  have e2 : (xs.drop i).countP (fun x => decide (x < t)) = 0 := by
    rw [List.countP_eq_zero]
    intro x hx
    obtain ⟨j, hj, rfl⟩ := List.getElem_of_mem hx
    rw [List.length_drop] at hj
    rw [List.getElem_drop]
    simpa using h2 (i + j) (by omega) (by omega)
  rw [e1, e2, List.length_take]
  omega
theorem split_drop {xs : List Int} {t : Int} {i : Nat} (h : Split xs t i) : xs.filter (fun x => decide (t ≤ x)) = xs.drop i := by
  obtain ⟨hi, h1, h2⟩ := h
  conv => lhs; rw [← List.take_append_drop i xs]
  rw [List.filter_append]
  have e1 : (xs.take i).filter (fun x => decide (t ≤ x)) = [] := by
    rw [List.filter_eq_nil_iff]
    intro x hx
    obtain ⟨j, hj, rfl⟩ := List.getElem_of_mem hx
    rw [List.length_take] at hj
    rw [List.getElem_take]
    have := h1 j (by omega) (by omega)
    simp
    omega
  have e2 : (xs.drop i).filter (fun x => decide (t ≤ x)) = xs.drop i := by
    rw [List.filter_eq_self]
    intro x hx
    obtain ⟨j, hj, rfl⟩ := List.getElem_of_mem hx
    rw [List.length_drop] at hj
    rw [List.getElem_drop]
    simpa using h2 (i + j) (by omega) (by omega)
  rw [e1, e2, List.nil_append]
theorem pw_lt {xs : List Int} (h : xs.Pairwise (· < ·)) {i j : Nat} (hj : j < xs.length) (hij : i < j) : xs[i]'(by omega) < xs[j] := List.pairwise_iff_getElem.1 h i j (by omega) hj hij
theorem split_mem {xs : List Int} {t : Int} {i : Nat} (hs : xs.Pairwise (· < ·)) (h : Split xs t i) : t ∈ xs ↔ ∃ hi : i < xs.length, xs[i] = t := by
  constructor
  · intro hm
    obtain ⟨j, hj, e⟩ := List.getElem_of_mem hm
    have hij : i ≤ j := by
      rcases Nat.lt_or_ge j i with c | c
      · have := h.2.1 j hj c
        omega
      · exact c
    refine ⟨by omega, ?_⟩
    rcases Nat.lt_or_ge i j with c | c
    · have := pw_lt hs hj c
      have := h.2.2 i (by omega) (Nat.le_refl _)
      omega
    · obtain rfl : i = j := by omega
      exact e
  · rintro ⟨hi, e⟩
    rw [← e]
    exact List.getElem_mem hi

theorem less_int (a b : Int) : cmp_Less_int.f a b = some (decide (a < b)) := by
  simp [cmp_Less_int.f, cmp_isNaN_int.f]
theorem u64_id {x : Int} (h0 : 0 ≤ x) (h1 : x ≤ 9223372036854775807) : IntKind.u64.wrap x = x := by
  simp [IntKind.wrap, IntKind.bits, IntKind.signed, IntKind.min, IntKind.max]
  omega
theorem half {i j : Nat} (h : i + j ≤ 4611686018427387904) : wrap64 ((IntKind.u64.wrap (wrap64 ((i : Int) + (j : Int)))) / 2) = (((i + j) / 2 : Nat) : Int) := by
  rw [w64 (x := (i : Int) + j) (by omega) (by omega), u64_id (by omega) (by omega), w64 (by omega) (by omega)]
  omega

theorem bs_loop (xs : List Int) (t : Int) (hs : xs.Pairwise (· < ·)) (hn : xs.length ≤ 2305843009213693951) : ∀ (d i j : Nat), j - i ≤ d → i ≤ j → j ≤ xs.length →
    (∀ m (h : m < xs.length), m < i → xs[m] < t) → (∀ m (h : m < xs.length), j ≤ m → t ≤ xs[m]) → slices_BinarySearch_int_int.l0L xs t (xs.length : Int) (i : Int) (j : Int) = some ((lb xs t : Int), decide (t ∈ xs)) := by
  intro d
  induction d with
  | zero =>
    intro i j hd hij hj h1 h2
    obtain rfl : i = j := by omega
    have hsp : Split xs t i := ⟨hj, h1, h2⟩
    rw [slices_BinarySearch_int_int.l0L_eq, if_neg (by omega), split_lb hsp]
    by_cases hi : i < xs.length
    · rw [if_pos (by omega), if_pos (by omega), if_pos (by omega), rd_get hi]
      by_cases e : xs[i] = t
      · rw [if_pos e, decide_eq_true ((split_mem hs hsp).2 ⟨hi, e⟩)]
      · rw [if_neg e, decide_eq_false (fun hm => e ((split_mem hs hsp).1 hm).2)]
        simp [slices_isNaN_int.f]
    · rw [if_neg (by omega), decide_eq_false (fun hm => hi ((split_mem hs hsp).1 hm).1)]
  | succ d ih =>
    intro i j hd hij hj h1 h2
    rcases Nat.eq_or_lt_of_le hij with e | hlt
    · exact ih i j (by omega) hij hj h1 h2
    · rw [slices_BinarySearch_int_int.l0L_eq, if_pos (by omega), half (by omega), if_pos (by omega), if_pos (by omega), less_int, Option.bind_some, rd_get (show (i + j) / 2 < xs.length by omega), w64_succ (n := xs.length) (by omega) (by omega)]
      by_cases c : xs[(i + j) / 2]'(by omega) < t
      · rw [if_pos (by simpa using c)]
        refine ih _ _ (by omega) (by omega) hj (fun m hm hmi => ?_) h2
        rcases Nat.lt_or_ge m ((i + j) / 2) with c' | c'
        · have := pw_lt hs (show (i + j) / 2 < xs.length by omega) c'
          omega
        · obtain rfl : m = (i + j) / 2 := by omega
          exact c
      · rw [if_neg (by simpa using c)]
        refine ih _ _ (by omega) (by omega) (by omega) h1 (fun m hm hmi => ?_)
        rcases Nat.lt_or_ge ((i + j) / 2) m with c' | c'
        · have := pw_lt hs hm c'
          omega
        · obtain rfl : m = (i + j) / 2 := by omega
          omega
theorem bs19 {xs : List Int} (t : Int) (hs : xs.Pairwise (· < ·)) (hn : xs.length ≤ 2305843009213693951) : slices_BinarySearch_int_int.fL xs t = some ((lb xs t : Int), decide (t ∈ xs)) := by
  rw [slices_BinarySearch_int_int.fL_eq]
  exact bs_loop xs t hs hn xs.length 0 xs.length (by omega) (by omega) (by omega) (fun m _ h => by omega) (fun m h h' => by omega)

/-- In a rising list a number's place is there. -/
theorem lb_split {xs : List Int} (t : Int) (hs : xs.Pairwise (· < ·)) : Split xs t (lb xs t) := by
  induction xs with
  | nil => exact ⟨by simp [lb], fun j h => by simp at h, fun j h => by simp at h⟩
  | cons x xs ih =>
    obtain ⟨hx, hs'⟩ := List.pairwise_cons.1 hs
    have h := ih hs'
    unfold lb at h ⊢
    rw [List.countP_cons]
    by_cases c : x < t
    · rw [if_pos (by simpa using c)]
      refine ⟨by have := h.1; simp; omega, fun j hj hji => ?_, fun j hj hji => ?_⟩
      · cases j with
        | zero => exact c
        | succ j => exact h.2.1 j (by simpa using hj) (by omega)
      · cases j with
        | zero => omega
        | succ j => exact h.2.2 j (by simpa using hj) (by omega)
    · rw [if_neg (by simpa using c)]
      have e0 : xs.countP (fun x => decide (x < t)) = 0 := by
        rw [List.countP_eq_zero]
        intro y hy
        have := hx y hy
        simp
        omega
      rw [e0]
      refine ⟨by simp, fun j hj hji => by omega, fun j hj _ => ?_⟩
      cases j with
      | zero => simp; omega
      | succ j =>
        have := hx (xs[j]'(by simpa using hj)) (List.getElem_mem _)
        simp
        omega
/-- It is enough to look up to a place at which there is none below t. -/
theorem lb_take {xs : List Int} {t : Int} (hs : xs.Pairwise (· < ·)) (m : Nat) (hm : m = xs.length ∨ ∃ k, m = k + 1 ∧ ∃ h : k < xs.length, t ≤ xs[k]) : lb (xs.take m) t = lb xs t := by
  rcases hm with rfl | ⟨k, rfl, hk, hx⟩
  · rw [List.take_length]
  · have hs' : (xs.take (k + 1)).Pairwise (· < ·) := hs.sublist (List.take_sublist _ _)
    have h := lb_split t hs'
    refine (split_lb (i := lb (xs.take (k + 1)) t) ⟨?_, fun j hj hji => ?_, fun j hj hji => ?_⟩).symm
    · have := h.1
      rw [List.length_take] at this
      omega
    · have hl := h.1
      rw [List.length_take] at hl
      have := h.2.1 j (by rw [List.length_take]; omega) hji
      rwa [List.getElem_take] at this
    · rcases Nat.lt_or_ge j (k + 1) with c | c
      · have := h.2.2 j (by rw [List.length_take]; omega) hji
        rwa [List.getElem_take] at this
      · have := pw_lt hs hj (show k < j by omega)
        omega
end Go.Proofs.Ytkfakciimeiehaa.PostBase
