/- Layer 19: the laws of sets, of what the program's sets are. No program in sight but the sets' definitions. -/
import Derived.Test.YtkfakciimeiehaaPostOr
set_option linter.unusedVariables false
set_option linter.unusedSimpArgs false
namespace Go.Proofs.Ytkfakciimeiehaa.PostBase
open Go Go.RowKit Go.Proofs.YtkfakciimeiehaaW.PrintWords Go.Proofs.YtkfakciimeiehaaW.PrintLast Go.Proofs.YtkfakciimeiehaaW.PrintMore Go.Proofs.YtkfakciimeiehaaLim Go.Proofs.YtkfakciimeiehaaAid Go.Proofs.Ytkfakciimeiehaa.PPost

theorem okFrom_of : ∀ {l : List Int} {p : Int}, l.Pairwise (· < ·) → (∀ x ∈ l, p < x ∧ x ≤ 2147483647) → okFrom p l = true
  | [], _, _, _ => rfl
  | x :: t, p, h, ha => by
    obtain ⟨h1, h2⟩ := List.pairwise_cons.1 h
    obtain ⟨a1, a2⟩ := ha x (by simp)
    simp only [okFrom, Bool.and_eq_true, decide_eq_true_eq]
    exact ⟨a1, a2, okFrom_of h2 fun y hy => ⟨h1 y hy, (ha y (by simp [hy])).2⟩⟩
/-- A list that may be, of n numbers at most. -/
def SL (n : Nat) (l : List Int) : Prop := l.length ≤ n ∧ (∀ x ∈ l, 0 ≤ x ∧ x ≤ 2147483647) ∧ l.Pairwise (· < ·)
theorem SL.snd {n : Nat} {l : List Int} (h : SL n l) (hn : n ≤ 4096) : sndP l = l := by
  unfold sndP
  rw [if_pos]
  simp only [soundB, Bool.and_eq_true, decide_eq_true_eq]
  exact ⟨by have := h.1; omega, okFrom_of h.2.2 fun x hx => by have := h.2.1 x hx; omega⟩
theorem snd_SL {n : Nat} {l : List Int} (h : l.length ≤ n) : SL n (sndP l) := by
  refine ⟨?_, (snd_all l).2⟩
  unfold sndP
  split
  · exact h
  · simp
theorem SL.filter {n : Nat} {l : List Int} (h : SL n l) (f : Int → Bool) : SL n (l.filter f) :=
  ⟨Nat.le_trans (List.length_filter_le _ _) h.1, fun x hx => h.2.1 x (List.mem_filter.1 hx).1, h.2.2.sublist List.filter_sublist⟩
theorem without_SL {n : Nat} {a : List Int} (b : List Int) (h : a.length ≤ n) : SL n (withoutP a b) := (snd_SL h).filter _
theorem without_mem (a b : List Int) (x : Int) : x ∈ withoutP a b ↔ x ∈ sndP a ∧ x ∉ sndP b := by
  unfold withoutP
  rw [List.mem_filter, decide_eq_true_eq]
theorem or_two (a b : List Int) (ha : a.length ≤ 300) (hb : b.length ≤ 300) : SL 600 (orP [a, b]) ∧ ∀ x, x ∈ orP [a, b] ↔ x ∈ sndP a ∨ x ∈ sndP b := by
  have h1 := snd_SL ha
  have h2 := snd_SL hb
  obtain ⟨g1, g2, g3⟩ := putsP_all (sndP a) [] List.Pairwise.nil
  obtain ⟨k1, k2, k3⟩ := putsP_all (sndP b) (putsP [] (sndP a)) g1
  have e : orP [a, b] = putsP (putsP [] (sndP a)) (sndP b) := by
    show (putsP (putsP [] (sndP a)) (sndP b)).take 4096 = _
    have := h1.1
    have := h2.1
    simp only [List.length_nil] at g3
    exact List.take_of_length_le (by omega)
  have hm : ∀ x, x ∈ orP [a, b] ↔ x ∈ sndP a ∨ x ∈ sndP b := by
    intro x
    rw [e, k2, g2]
    simp
  refine ⟨⟨?_, fun x hx => ?_, e ▸ k1⟩, hm⟩
  · have := h1.1
    have := h2.1
    simp only [List.length_nil] at g3
    rw [e]
    omega
  · rcases (hm x).1 hx with h | h
    · exact h1.2.1 x h
    · exact h2.2.1 x h
theorem and_two (a b : List Int) (ha : a.length ≤ 600) : SL 600 (andP [a, b]) ∧ ((andP [a, b]).length ≤ a.length) ∧ ∀ x, x ∈ andP [a, b] ↔ x ∈ sndP a ∧ x ∈ sndP b := by
  refine ⟨(snd_SL ha).filter _, ?_, fun x => ?_⟩
  · exact Nat.le_trans (List.length_filter_le _ _) (snd_SL (Nat.le_refl _)).1
  · rw [andP_mem (by simp)]
    simp
theorem law_without (a b c : List Int) (ha : a.length ≤ 300) (hb : b.length ≤ 300) (hc : c.length ≤ 300) : withoutP (withoutP a b) c = withoutP a (orP [b, c]) := by
  obtain ⟨o1, o2⟩ := or_two b c hb hc
  have w1 := without_SL b ha
  refine sorted_ext (without_SL c w1.1).2.2 (without_SL _ ha).2.2 fun x => ?_
  rw [without_mem, without_mem, w1.snd (by omega), o1.snd (by omega), without_mem, o2]
  constructor
  · rintro ⟨⟨h1, h2⟩, h3⟩
    exact ⟨h1, fun h => h.elim h2 h3⟩
  · rintro ⟨h1, h2⟩
    exact ⟨⟨h1, fun h => h2 (.inl h)⟩, fun h => h2 (.inr h)⟩
theorem law_and (a b c : List Int) (ha : a.length ≤ 300) (hb : b.length ≤ 300) (hc : c.length ≤ 300) : andP [orP [a, b], c] = orP [andP [a, c], andP [b, c]] := by
  obtain ⟨o1, o2⟩ := or_two a b ha hb
  obtain ⟨p1, p2, p3⟩ := and_two a c (by omega)
  obtain ⟨q1, q2, q3⟩ := and_two b c (by omega)
  obtain ⟨r1, _, r3⟩ := and_two (orP [a, b]) c o1.1
  obtain ⟨s1, s2⟩ := or_two (andP [a, c]) (andP [b, c]) (by omega) (by omega)
  refine sorted_ext r1.2.2 s1.2.2 fun x => ?_
  rw [r3, s2, o1.snd (by omega), p1.snd (by omega), q1.snd (by omega), o2, p3, q3]
  constructor
  · rintro ⟨h | h, h3⟩
    · exact .inl ⟨h, h3⟩
    · exact .inr ⟨h, h3⟩
  · rintro (⟨h, h3⟩ | ⟨h, h3⟩)
    · exact ⟨.inl h, h3⟩
    · exact ⟨.inr h, h3⟩
theorem law_comm (a b : List Int) (ha : a.length ≤ 300) (hb : b.length ≤ 300) : andP [a, b] = andP [b, a] := by
  obtain ⟨p1, p2, p3⟩ := and_two a b (by omega)
  obtain ⟨q1, q2, q3⟩ := and_two b a (by omega)
  exact sorted_ext p1.2.2 q1.2.2 fun x => by rw [p3, q3, and_comm]
end Go.Proofs.Ytkfakciimeiehaa.PostBase
