/- Layer 19: lists checked, compared and put together, as the functions printed for the turns do it. -/
import Derived.Test.YtkfakciimeiehaaLTurn
set_option linter.unusedVariables false
set_option linter.unusedSimpArgs false
namespace Go.Proofs.Ytkfakciimeiehaa.TurnBase
open Go Go.RowKit Go.Proofs.YtkfakciimeiehaaW.PrintWords Go.Proofs.YtkfakciimeiehaaW.PrintLast Go.Proofs.YtkfakciimeiehaaW.PrintMore Go.Proofs.YtkfakciimeiehaaLim Go.Proofs.YtkfakciimeiehaaAid Go.Proofs.Ytkfakciimeiehaa.PostBase
open Go.Proofs.Ytkfakciimeiehaa.PTurn

theorem check_loop19 (l : List Int) (hl : l.length ≤ 4096) : ∀ (t : List Int) (i : Nat) (p : Int), l.drop i = t → i ≤ l.length → -1 ≤ p → (i = 0 → p = -1) → (0 < i → p = rd l ((i - 1 : Nat) : Int) ∧ 0 ≤ p) →
    postings_Check.l0L l l (l.length : Int) (i : Int) = some (if okFrom p t = true then 0 else 1) := by
  intro t
  induction t with
  | nil =>
    intro i p h hi _ _ _
    have := drop_nil h
    rw [postings_Check.l0L_eq, if_neg (by omega)]
    rfl
  | cons x t ih =>
    intro i p h hi hp h0 h1
    have hlt := (drop_cons h).1
    rw [postings_Check.l0L_eq, if_pos (by omega), if_pos (by omega), if_pos (by omega), rd_drop h, w64_succ hlt (by omega)]
    have hi1 : rd l ((i + 1 - 1 : Nat) : Int) = x := by rw [show i + 1 - 1 = i from by omega, rd_drop h]
    unfold okFrom
    by_cases c1 : x < 0
    · rw [if_pos c1, if_neg]
      rw [decide_eq_false (by omega)]
      simp
    rw [if_neg c1]
    by_cases c2 : x > 2147483647
    · rw [if_pos c2, if_neg]
      rw [decide_eq_false (p := x ≤ 2147483647) (by omega)]
      simp
    rw [if_neg c2, decide_eq_true (p := x ≤ 2147483647) (by omega), Bool.true_and]
    have nx := ih (i + 1) x (drop_cons h).2.1 (by omega) (by omega) (by omega) (fun _ => ⟨hi1.symm, by omega⟩)
    by_cases c3 : i = 0
    · rw [if_neg (by omega), nx, decide_eq_true (by have := h0 c3; omega), Bool.true_and]
    · obtain ⟨e, hp0⟩ := h1 (by omega)
      rw [if_pos (by omega), w64_pred (n := 4096) (by omega) (by omega) (by omega), if_pos (by omega), if_pos (by omega), ← e]
      by_cases c4 : x ≤ p
      · rw [if_pos c4, if_neg]
        rw [decide_eq_false (by omega)]
        simp
      · rw [if_neg c4, nx, decide_eq_true (by omega), Bool.true_and]

theorem check19 (l : List Int) : postings_Check.fL l = some (if soundB l = true then 0 else 1) := by
  rw [postings_Check.fL_eq]
  unfold soundB
  by_cases hl : l.length ≤ 4096
  · rw [if_neg (by omega), decide_eq_true hl, Bool.true_and, show (0 : Int) = ((0 : Nat) : Int) from rfl]
    exact check_loop19 l hl l 0 (-1) rfl (by omega) (by omega) (fun _ => rfl) (fun h => by omega)
  · rw [if_pos (by omega), decide_eq_false hl, if_neg (by simp)]
theorem sound19 (l : List Int) : postings_sound.fL l = some (sndP l) := by
  rw [postings_sound.fL_eq, check19, Option.bind_some]
  unfold sndP
  by_cases h : soundB l = true
  · rw [if_pos h, if_pos rfl, if_pos h]
  · rw [if_neg h, if_neg (by omega), if_neg h]

theorem less_int (a b : Int) : cmp_Less_int.f a b = some (decide (a < b)) := by
  simp [cmp_Less_int.f, cmp_isNaN_int.f]
theorem bs_loop (xs : List Int) (t : Int) (hs : xs.Pairwise (· < ·)) (hn : xs.length ≤ 2305843009213693951) : ∀ (d i j : Nat), j - i ≤ d → i ≤ j → j ≤ xs.length →
    (∀ m (h : m < xs.length), m < i → xs[m] < t) → (∀ m (h : m < xs.length), j ≤ m → t ≤ xs[m]) → slices_BinarySearch_int_int.l0L xs t (xs.length : Int) (i : Int) (j : Int) = some ((lb xs t : Int), decide (t ∈ xs)) := by
  intro d
  induction d with
  | zero =>
    intro i j hd hij hj h1 h2
    obtain rfl : i = j := by omega
    have hsp : Split xs t i := ⟨hj, h1, h2⟩
    rw [slices_BinarySearch_int_int.l0L_eq, if_neg (by omega), split_lb hsp]
    by_cases hi : i < xs.length
    · rw [if_pos (by omega), if_pos (by omega), if_pos (by omega), rd_get hi]
      by_cases e : xs[i] = t
      · rw [if_pos e, decide_eq_true ((split_mem hs hsp).2 ⟨hi, e⟩)]
      · rw [if_neg e, decide_eq_false (fun hm => e ((split_mem hs hsp).1 hm).2)]
        simp [slices_isNaN_int.f]
    · rw [if_neg (by omega), decide_eq_false (fun hm => hi ((split_mem hs hsp).1 hm).1)]
  | succ d ih =>
    intro i j hd hij hj h1 h2
    rcases Nat.eq_or_lt_of_le hij with e | hlt
    · exact ih i j (by omega) hij hj h1 h2
    · rw [slices_BinarySearch_int_int.l0L_eq, if_pos (by omega), half (by omega), if_pos (by omega), if_pos (by omega), less_int, Option.bind_some, rd_get (show (i + j) / 2 < xs.length by omega), w64_succ (n := xs.length) (by omega) (by omega)]
      by_cases c : xs[(i + j) / 2]'(by omega) < t
      · rw [if_pos (by simpa using c)]
        refine ih _ _ (by omega) (by omega) hj (fun m hm hmi => ?_) h2
        rcases Nat.lt_or_ge m ((i + j) / 2) with c' | c'
        · have := pw_lt hs (show (i + j) / 2 < xs.length by omega) c'
          omega
        · obtain rfl : m = (i + j) / 2 := by omega
          exact c
      · rw [if_neg (by simpa using c)]
        refine ih _ _ (by omega) (by omega) (by omega) h1 (fun m hm hmi => ?_)
        rcases Nat.lt_or_ge ((i + j) / 2) m with c' | c'
        · have := pw_lt hs hm c'
          omega
        · obtain rfl : m = (i + j) / 2 := by omega
          omega
theorem bs19 {xs : List Int} (t : Int) (hs : xs.Pairwise (· < ·)) (hn : xs.length ≤ 2305843009213693951) : slices_BinarySearch_int_int.fL xs t = some ((lb xs t : Int), decide (t ∈ xs)) := by
  rw [slices_BinarySearch_int_int.fL_eq]
  exact bs_loop xs t hs hn xs.length 0 xs.length (by omega) (by omega) (by omega) (fun m _ h => by omega) (fun m h h' => by omega)

theorem awake19 : windroselaw19_awake.fL = some true := lim_of windroselaw19_awake.mono (k := 60) (by decide +kernel)

/-! ### whether lists are one -/
theorem ints_loop (a b : List Int) (hl : a.length = b.length) (hb : a.length ≤ 9223372036854775807) : ∀ (s t : List Int) (i : Nat), a.drop i = s → b.drop i = t → windroseref02_Ints.l0L a b (i : Int) = some (decide (s = t)) := by
  intro s
  induction s with
  | nil =>
    intro t i hs ht
    have h1 := drop_nil hs
    have : t = [] := by rw [← ht]; exact List.drop_eq_nil_of_le (by omega)
    subst this
    rw [windroseref02_Ints.l0L_eq, if_neg (by omega)]
    simp
  | cons x s ih =>
    intro t i hs ht
    have hlt := (drop_cons hs).1
    cases t with
    | nil => have := drop_nil ht; omega
    | cons y t =>
      rw [windroseref02_Ints.l0L_eq, if_pos (by omega), if_pos (by omega), if_pos (by omega), rd_drop hs, rd_drop ht, w64_succ hlt hb]
      by_cases e : x = y
      · rw [if_pos e, ih t (i + 1) (drop_cons hs).2.1 (drop_cons ht).2.1]
        simp [e]
      · rw [if_neg e]
        simp [e]
theorem ints (a b : List Int) (hb : a.length ≤ 9223372036854775807) : windroseref02_Ints.fL a b = some (decide (a = b)) := by
  rw [windroseref02_Ints.fL_eq]
  by_cases hl : a.length = b.length
  · rw [if_pos (by omega)]
    exact ints_loop a b hl hb a b 0 rfl rfl
  · rw [if_neg (by omega), decide_eq_false (fun e => hl (by rw [e]))]

/-! ### which lists may be -/
theorem may_loop19 (l : List Int) (hl : l.length ≤ 9223372036854775807) : ∀ (t : List Int) (i : Nat) (p : Int), l.drop i = t → i ≤ l.length → -1 ≤ p → (i = 0 → p = -1) → (0 < i → p = rd l ((i - 1 : Nat) : Int) ∧ 0 ≤ p) →
    windroseref19_May.l0L l (i : Int) = some (decide ((l.length : Int) ≤ 4096) && okFrom p t) := by
  intro t
  induction t with
  | nil =>
    intro i p h hi _ _ _
    have := drop_nil h
    rw [windroseref19_May.l0L_eq, if_neg (by omega)]
    simp [okFrom]
  | cons x t ih =>
    intro i p h hi hp h0 h1
    have hlt := (drop_cons h).1
    rw [windroseref19_May.l0L_eq, if_pos (by omega), if_pos (by omega), rd_drop h, w64_succ hlt (by omega)]
    have hi1 : rd l ((i + 1 - 1 : Nat) : Int) = x := by rw [show i + 1 - 1 = i from by omega, rd_drop h]
    unfold okFrom
    by_cases c1 : x < 0
    · rw [if_pos c1, decide_eq_false (show ¬ p < x by omega)]
      simp
    rw [if_neg c1]
    by_cases c2 : x ≥ 2147483648
    · rw [if_pos c2, decide_eq_false (show ¬ x ≤ 2147483647 by omega)]
      simp
    rw [if_neg c2, decide_eq_true (show x ≤ 2147483647 by omega), Bool.true_and]
    have nx := ih (i + 1) x (drop_cons h).2.1 (by omega) (by omega) (by omega) (fun _ => ⟨hi1.symm, by omega⟩)
    by_cases c3 : i = 0
    · rw [if_neg (by omega), nx, decide_eq_true (show p < x by have := h0 c3; omega), Bool.true_and]
    · obtain ⟨e, hp0⟩ := h1 (by omega)
      rw [if_pos (by omega), w64_pred (n := l.length) (by omega) (by omega) (by omega), if_pos (by omega), if_pos (by omega), ← e]
      by_cases c4 : p ≥ x
      · rw [if_pos c4, decide_eq_false (show ¬ p < x by omega)]
        simp
      · rw [if_neg c4, nx, decide_eq_true (show p < x by omega), Bool.true_and]
theorem may19 (l : List Int) (hl : l.length ≤ 9223372036854775807) : windroseref19_May.fL l = some (soundB l) := by
  rw [windroseref19_May.fL_eq, show (0 : Int) = ((0 : Nat) : Int) from rfl, may_loop19 l hl l 0 (-1) rfl (by omega) (by omega) (fun _ => rfl) (fun h => by omega)]
  unfold soundB
  congr 2
  rw [decide_eq_decide]
  omega

/-! ### whether a number is there -/
theorem has_loop (l : List Int) (x : Int) (hl : l.length ≤ 9223372036854775807) : ∀ (t : List Int) (i : Nat), l.drop i = t → windroseref19_Has.l0L l x (i : Int) = some (decide (x ∈ t)) := by
  intro t
  induction t with
  | nil =>
    intro i h
    have := drop_nil h
    rw [windroseref19_Has.l0L_eq, if_neg (by omega)]
    simp
  | cons y t ih =>
    intro i h
    have hlt := (drop_cons h).1
    rw [windroseref19_Has.l0L_eq, if_pos (by omega), if_pos (by omega), rd_drop h, w64_succ hlt hl]
    by_cases e : y = x
    · rw [if_pos e]; simp [e]
    · rw [if_neg e, ih (i + 1) (drop_cons h).2.1]
      congr 1
      rw [decide_eq_decide, List.mem_cons]
      exact ⟨Or.inr, fun h => h.resolve_left (fun e' => e e'.symm)⟩
theorem has19 (l : List Int) (x : Int) (hl : l.length ≤ 9223372036854775807) : windroseref19_Has.fL l x = some (decide (x ∈ sndP l)) := by
  rw [windroseref19_Has.fL_eq, may19 l hl, Option.bind_some]
  unfold sndP
  by_cases h : soundB l = true
  · rw [if_pos h, if_pos h]
    exact has_loop l x hl l 0 rfl
  · rw [if_neg h, if_neg h]
    simp

/-! ### what is in one, and not in another one -/
theorem without_loop (a b : List Int) (ha : soundB a = true) (hal : a.length ≤ 4096) (hb : b.length ≤ 9223372036854775807) : ∀ (t : List Int) (i : Nat) (os : List Int), a.drop i = t → os.length ≤ i → i ≤ a.length →
    windroseref19_Without.l0L a b os (i : Int) = some (os ++ t.filter (fun x => decide (x ∉ sndP b))) := by
  intro t
  induction t with
  | nil =>
    intro i os h _ _
    have := drop_nil h
    rw [windroseref19_Without.l0L_eq, if_neg (by omega), windroseref19_Without.j1L_eq, if_neg (by simp)]
    simp
  | cons x t ih =>
    intro i os h ho hi
    have hlt := (drop_cons h).1
    rw [windroseref19_Without.l0L_eq, if_pos (by omega), may19 a (by omega), Option.bind_some, windroseref19_Without.j1L_eq, if_pos ha, if_pos (by omega), if_pos (by omega), rd_drop h, has19 b x hb, Option.bind_some, w64_succ hlt (by omega)]
    by_cases c : x ∈ sndP b
    · rw [if_pos (by simpa using c), ih (i + 1) os (drop_cons h).2.1 (by omega) (by omega), List.filter_cons_of_neg (by simpa using c)]
    · rw [if_neg (by simpa using c), if_pos (by omega), ih (i + 1) _ (drop_cons h).2.1 (by simp; omega) (by omega), List.filter_cons_of_pos (by simpa using c), List.append_assoc]
      rfl
theorem without_ref (a b : List Int) (ha : a.length ≤ 9223372036854775807) (hb : b.length ≤ 9223372036854775807) : windroseref19_Without.fL a b = some (withoutP a b) := by
  rw [windroseref19_Without.fL_eq]
  unfold withoutP sndP
  by_cases h : soundB a = true
  · have hal : a.length ≤ 4096 := by
      simp only [soundB, Bool.and_eq_true, decide_eq_true_eq] at h
      exact h.1
    rw [if_pos h]
    exact without_loop a b h hal hb a 0 [] rfl (by simp) (by omega)
  · rw [if_neg h, windroseref19_Without.l0L_eq]
    by_cases h0 : (0 : Int) < (a.length : Int)
    · rw [if_pos h0, may19 a ha, Option.bind_some, windroseref19_Without.j1L_eq, if_neg h]
      rfl
    · rw [if_neg h0, windroseref19_Without.j1L_eq, if_neg (by simp)]
      rfl

/-! ### one more put in -/
def insP (n : Int) : List Int → List Int
  | [] => [n]
  | x :: t => if n ≤ x then n :: (x :: t).filter (fun y => decide (y ≠ n)) else x :: insP n t
theorem insP_mem (n : Int) : ∀ (t : List Int) (x : Int), x ∈ insP n t ↔ x = n ∨ x ∈ t
  | [], x => by simp [insP]
  | y :: t, x => by
    unfold insP
    by_cases c : n ≤ y
    · rw [if_pos c, List.mem_cons, List.mem_filter]
      by_cases e : x = n
      · simp [e]
      · simp [e]
    · rw [if_neg c, List.mem_cons, insP_mem n t x, List.mem_cons]
      constructor
      · rintro (h | h | h)
        · exact Or.inr (Or.inl h)
        · exact Or.inl h
        · exact Or.inr (Or.inr h)
      · rintro (h | h | h)
        · exact Or.inr (Or.inl h)
        · exact Or.inl h
        · exact Or.inr (Or.inr h)
theorem insP_sorted (n : Int) : ∀ {t : List Int}, t.Pairwise (· < ·) → (insP n t).Pairwise (· < ·)
  | [], _ => by simp [insP]
  | y :: t, h => by
    obtain ⟨h1, h2⟩ := List.pairwise_cons.1 h
    unfold insP
    by_cases c : n ≤ y
    · rw [if_pos c]
      refine List.pairwise_cons.2 ⟨fun z hz => ?_, h.sublist List.filter_sublist⟩
      obtain ⟨hz1, hz2⟩ := List.mem_filter.1 hz
      have hz3 : z ≠ n := by simpa using hz2
      rcases List.mem_cons.1 hz1 with rfl | hz1
      · omega
      · have := h1 z hz1
        omega
    · rw [if_neg c]
      refine List.pairwise_cons.2 ⟨fun z hz => ?_, insP_sorted n h2⟩
      rcases (insP_mem n t z).1 hz with rfl | hz
      · omega
      · exact h1 z hz
theorem insP_len (n : Int) : ∀ (t : List Int), (insP n t).length ≤ t.length + 1
  | [] => by simp [insP]
  | y :: t => by
    unfold insP
    by_cases c : n ≤ y
    · rw [if_pos c]
      have := List.length_filter_le (fun z => decide (z ≠ n)) (y :: t)
      simp only [List.length_cons] at this ⊢
      omega
    · rw [if_neg c]
      have := insP_len n t
      simp only [List.length_cons]
      omega

theorem put_done (l : List Int) (n : Int) (hl : l.length ≤ 10000000) : ∀ (t : List Int) (i : Nat) (os : List Int), l.drop i = t → os.length ≤ i + 1 → i ≤ l.length →
    windroseref19_put.l0L l n os true (i : Int) = some (os ++ t.filter (fun y => decide (y ≠ n))) := by
  intro t
  induction t with
  | nil =>
    intro i os h ho hi
    have := drop_nil h
    rw [windroseref19_put.l0L_eq, if_neg (by omega), if_pos rfl]
    simp
  | cons x t ih =>
    intro i os h ho hi
    have hlt := (drop_cons h).1
    rw [windroseref19_put.l0L_eq, if_pos (by omega), if_pos rfl, windroseref19_put.j1L_eq, if_neg (by simp), if_pos (by omega), if_pos (by omega), rd_drop h, w64_succ hlt (by omega)]
    by_cases c : x = n
    · rw [if_pos c, ih (i + 1) os (drop_cons h).2.1 (by omega) (by omega), List.filter_cons, if_neg (by simpa using c)]
    · rw [if_neg c, if_pos (by omega), ih (i + 1) _ (drop_cons h).2.1 (by first | (simp; done) | (simp; omega)) (by omega), List.filter_cons, if_pos (by simpa using c), List.append_assoc]
      rfl
theorem put_loop (l : List Int) (n : Int) (hl : l.length ≤ 10000000) : ∀ (t : List Int) (i : Nat) (os : List Int), l.drop i = t → os.length ≤ i → i ≤ l.length →
    windroseref19_put.l0L l n os false (i : Int) = some (os ++ insP n t) := by
  intro t
  induction t with
  | nil =>
    intro i os h ho hi
    have := drop_nil h
    rw [windroseref19_put.l0L_eq, if_neg (by omega), if_neg (by simp), if_pos (by omega)]
    rfl
  | cons x t ih =>
    intro i os h ho hi
    have hlt := (drop_cons h).1
    rw [windroseref19_put.l0L_eq, if_pos (by omega), if_neg (by simp), if_pos (by omega), rd_drop h, windroseref19_put.j1L_eq, rd_drop h, w64_succ hlt (by omega)]
    unfold insP
    by_cases c : n ≤ x
    · rw [if_pos (by simpa using c), if_pos (by omega), Option.bind_some, if_pos (by omega), if_pos (by omega), if_pos c]
      by_cases e : x = n
      · rw [if_pos e, put_done l n hl t (i + 1) _ (drop_cons h).2.1 (by first | (simp; done) | (simp; omega)) (by omega), List.filter_cons, if_neg (by simpa using e), List.append_assoc]
        rfl
      · rw [if_neg e, if_pos (by first | (simp; done) | (simp; omega)), put_done l n hl t (i + 1) _ (drop_cons h).2.1 (by first | (simp; done) | (simp; omega)) (by omega), List.filter_cons, if_pos (by simpa using e), List.append_assoc, List.append_assoc]
        rfl
    · rw [if_neg (by simpa using c), if_pos (by omega), if_pos (by omega), if_neg (by omega), if_pos (by omega), if_neg c, ih (i + 1) _ (drop_cons h).2.1 (by first | (simp; done) | (simp; omega)) (by omega), List.append_assoc]
      rfl
theorem put19 (l : List Int) (n : Int) (hl : l.length ≤ 10000000) : windroseref19_put.fL l n = some (insP n l) := by
  rw [windroseref19_put.fL_eq]
  exact put_loop l n hl l 0 [] rfl (by simp) (by omega)

end Go.Proofs.Ytkfakciimeiehaa.TurnBase
