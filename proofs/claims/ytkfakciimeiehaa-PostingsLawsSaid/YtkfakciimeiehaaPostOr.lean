/- Layer 19: what is in one of the lists: the program's merging and the document's putting tell the same. -/
import Derived.Test.YtkfakciimeiehaaPostRef
set_option linter.unusedVariables false
set_option linter.unusedSimpArgs false
namespace Go.Proofs.Ytkfakciimeiehaa.PostBase
open Go Go.RowKit Go.Proofs.YtkfakciimeiehaaW.PrintWords Go.Proofs.YtkfakciimeiehaaW.PrintLast Go.Proofs.YtkfakciimeiehaaW.PrintMore Go.Proofs.YtkfakciimeiehaaLim Go.Proofs.YtkfakciimeiehaaAid Go.Proofs.Ytkfakciimeiehaa.PPost

/-! ### two lists merged -/
theorem rd_zero {x : Int} {t : List Int} : rd (x :: t) 0 = x := rfl
theorem merged19 : ∀ (N : Nat) (a b os : List Int), a.length + b.length ≤ N → a.Pairwise (· < ·) → b.Pairwise (· < ·) → os.length + N ≤ 10000000000 →
    ∃ u, postings_merged.l0L a b os = some (os ++ u) ∧ u.Pairwise (· < ·) ∧ (∀ x, x ∈ u ↔ x ∈ a ∨ x ∈ b) ∧ u.length ≤ a.length + b.length := by
  intro N
  induction N with
  | zero =>
    intro a b os hN ha hb ho
    have h1 : a = [] := List.eq_nil_of_length_eq_zero (by omega)
    have h2 : b = [] := List.eq_nil_of_length_eq_zero (by omega)
    subst h1
    subst h2
    refine ⟨[], ?_, List.Pairwise.nil, by simp, by simp⟩
    rw [postings_merged.l0L_eq, if_neg (by simp), postings_merged.j1L_eq, if_neg (by simp), List.append_nil]
  | succ N ih =>
    intro a b os hN ha hb ho
    cases a with
    | nil =>
      cases b with
      | nil =>
        refine ⟨[], ?_, List.Pairwise.nil, by simp, by simp⟩
        rw [postings_merged.l0L_eq, if_neg (by simp), postings_merged.j1L_eq, if_neg (by simp), List.append_nil]
      | cons y b =>
        obtain ⟨hb1, hb2⟩ := List.pairwise_cons.1 hb
        simp only [List.length_cons, List.length_nil] at hN
        obtain ⟨u, e, h1, h2, h3⟩ := ih [] b (os ++ [y]) (by first | (simp; done) | (simp; omega)) List.Pairwise.nil hb2 (by first | (simp; done) | (simp; omega))
        refine ⟨y :: u, ?_, List.pairwise_cons.2 ⟨fun z hz => hb1 z (by simpa using (h2 z).1 hz), h1⟩, fun x => by simp only [List.mem_cons, h2]; simp, by simp at h3 ⊢; omega⟩
        rw [postings_merged.l0L_eq, if_neg (by simp), postings_merged.j1L_eq, if_pos (by simp), if_neg (by first | (simp; done) | (simp; omega)), if_neg (by simp), postings_merged.j2L_eq, if_neg (by simp), if_pos (by simp), if_pos (by first | (simp; done) | (simp; omega)), if_pos (by omega), if_pos (by first | (simp; done) | (simp; omega)), rd_zero]
        show postings_merged.l0L [] b (os ++ [y]) = _
        rw [e, List.append_assoc]
        rfl
    | cons x a =>
      obtain ⟨ha1, ha2⟩ := List.pairwise_cons.1 ha
      cases b with
      | nil =>
        simp only [List.length_cons, List.length_nil] at hN
        obtain ⟨u, e, h1, h2, h3⟩ := ih a [] (os ++ [x]) (by first | (simp; done) | (simp; omega)) ha2 List.Pairwise.nil (by first | (simp; done) | (simp; omega))
        refine ⟨x :: u, ?_, List.pairwise_cons.2 ⟨fun z hz => ha1 z (by simpa using (h2 z).1 hz), h1⟩, fun z => by simp only [List.mem_cons, h2]; simp, by simp at h3 ⊢; omega⟩
        rw [postings_merged.l0L_eq, if_pos (by first | (simp; done) | (simp; omega)), postings_merged.j1L_eq, if_pos rfl, if_pos (by simp), postings_merged.j2L_eq, if_pos rfl, if_pos (by first | (simp; done) | (simp; omega)), if_pos (by omega), if_pos (by first | (simp; done) | (simp; omega)), rd_zero]
        show postings_merged.l0L a [] (os ++ [x]) = _
        rw [e, List.append_assoc]
        rfl
      | cons y b =>
        obtain ⟨hb1, hb2⟩ := List.pairwise_cons.1 hb
        simp only [List.length_cons] at hN
        rw [postings_merged.l0L_eq, if_pos (by first | (simp; done) | (simp; omega)), postings_merged.j1L_eq, if_pos rfl, if_neg (by first | (simp; done) | (simp; omega)), if_pos (by first | (simp; done) | (simp; omega)), if_pos (by first | (simp; done) | (simp; omega)), if_pos (by first | (simp; done) | (simp; omega)), rd_zero, rd_zero, postings_merged.j2L_eq]
        by_cases c : x < y
        · obtain ⟨u, e, h1, h2, h3⟩ := ih a (y :: b) (os ++ [x]) (by first | (simp; done) | (simp; omega)) ha2 hb (by first | (simp; done) | (simp; omega))
          refine ⟨x :: u, ?_, List.pairwise_cons.2 ⟨fun z hz => ?_, h1⟩, fun z => by simp only [List.mem_cons, h2]; exact or_assoc.symm, by simp at h3 ⊢; omega⟩
          · rw [if_pos (by simpa using c), if_pos (by first | (simp; done) | (simp; omega)), if_pos (by omega), if_pos (by first | (simp; done) | (simp; omega)), rd_zero]
            show postings_merged.l0L a (y :: b) (os ++ [x]) = _
            rw [e, List.append_assoc]
            rfl
          · rcases (h2 z).1 hz with h | h
            · exact ha1 z h
            · rcases List.mem_cons.1 h with rfl | h
              · exact c
              · have := hb1 z h
                omega
        · rw [if_neg (by simpa using c), if_neg (by first | (simp; done) | (simp; omega)), if_pos (by first | (simp; done) | (simp; omega)), if_pos (by first | (simp; done) | (simp; omega)), rd_zero, rd_zero]
          by_cases c' : y < x
          · obtain ⟨u, e, h1, h2, h3⟩ := ih (x :: a) b (os ++ [y]) (by first | (simp; done) | (simp; omega)) ha hb2 (by first | (simp; done) | (simp; omega))
            refine ⟨y :: u, ?_, List.pairwise_cons.2 ⟨fun z hz => ?_, h1⟩, fun z => by simp only [List.mem_cons, h2]; constructor <;> (intro h; rcases h with h | h | h <;> simp_all), by simp at h3 ⊢; omega⟩
            · rw [if_pos c', if_pos (by omega), if_pos (by first | (simp; done) | (simp; omega))]
              show postings_merged.l0L (x :: a) b (os ++ [y]) = _
              rw [e, List.append_assoc]
              rfl
            · rcases (h2 z).1 hz with h | h
              · rcases List.mem_cons.1 h with rfl | h
                · exact c'
                · have := ha1 z h
                  omega
              · exact hb1 z h
          · obtain rfl : x = y := by omega
            obtain ⟨u, e, h1, h2, h3⟩ := ih a b (os ++ [x]) (by omega) ha2 hb2 (by first | (simp; done) | (simp; omega))
            refine ⟨x :: u, ?_, List.pairwise_cons.2 ⟨fun z hz => ?_, h1⟩, fun z => by simp only [List.mem_cons, h2]; by_cases e' : z = x <;> simp [e'], by simp; omega⟩
            · rw [if_neg c', if_pos (by omega), if_pos (by first | (simp; done) | (simp; omega)), if_pos (by first | (simp; done) | (simp; omega))]
              show postings_merged.l0L a b (os ++ [x]) = _
              rw [e, List.append_assoc]
              rfl
            · rcases (h2 z).1 hz with h | h
              · exact ha1 z h
              · exact hb1 z h

/-! ### one more put in -/
def insP (n : Int) : List Int → List Int
  | [] => [n]
  | x :: t => if n ≤ x then n :: (x :: t).filter (fun y => decide (y ≠ n)) else x :: insP n t
theorem insP_mem (n : Int) : ∀ (t : List Int) (x : Int), x ∈ insP n t ↔ x = n ∨ x ∈ t
  | [], x => by simp [insP]
  | y :: t, x => by
    unfold insP
    by_cases c : n ≤ y
    · rw [if_pos c, List.mem_cons, List.mem_filter]
      by_cases e : x = n
      · simp [e]
      · simp [e]
    · rw [if_neg c, List.mem_cons, insP_mem n t x, List.mem_cons]
      constructor
      · rintro (h | h | h)
        · exact Or.inr (Or.inl h)
        · exact Or.inl h
        · exact Or.inr (Or.inr h)
      · rintro (h | h | h)
        · exact Or.inr (Or.inl h)
        · exact Or.inl h
        · exact Or.inr (Or.inr h)
theorem insP_sorted (n : Int) : ∀ {t : List Int}, t.Pairwise (· < ·) → (insP n t).Pairwise (· < ·)
  | [], _ => by simp [insP]
  | y :: t, h => by
    obtain ⟨h1, h2⟩ := List.pairwise_cons.1 h
    unfold insP
    by_cases c : n ≤ y
    · rw [if_pos c]
      refine List.pairwise_cons.2 ⟨fun z hz => ?_, h.sublist List.filter_sublist⟩
      obtain ⟨hz1, hz2⟩ := List.mem_filter.1 hz
      have hz3 : z ≠ n := by simpa using hz2
      rcases List.mem_cons.1 hz1 with rfl | hz1
      · omega
      · have := h1 z hz1
        omega
    · rw [if_neg c]
      refine List.pairwise_cons.2 ⟨fun z hz => ?_, insP_sorted n h2⟩
      rcases (insP_mem n t z).1 hz with rfl | hz
      · omega
      · exact h1 z hz
theorem insP_len (n : Int) : ∀ (t : List Int), (insP n t).length ≤ t.length + 1
  | [] => by simp [insP]
  | y :: t => by
    unfold insP
    by_cases c : n ≤ y
    · rw [if_pos c]
      have := List.length_filter_le (fun z => decide (z ≠ n)) (y :: t)
      simp only [List.length_cons] at this ⊢
      omega
    · rw [if_neg c]
      have := insP_len n t
      simp only [List.length_cons]
      omega

theorem put_done (l : List Int) (n : Int) (hl : l.length ≤ 10000000) : ∀ (t : List Int) (i : Nat) (os : List Int), l.drop i = t → os.length ≤ i + 1 → i ≤ l.length →
    windroseref19_put.l0L l n os true (i : Int) = some (os ++ t.filter (fun y => decide (y ≠ n))) := by
  intro t
  induction t with
  | nil =>
    intro i os h ho hi
    have := drop_nil h
    rw [windroseref19_put.l0L_eq, if_neg (by omega), if_pos rfl]
    simp
  | cons x t ih =>
    intro i os h ho hi
    have hlt := (drop_cons h).1
    rw [windroseref19_put.l0L_eq, if_pos (by omega), if_pos rfl, windroseref19_put.j1L_eq, if_neg (by simp), if_pos (by omega), if_pos (by omega), rd_drop h, w64_succ hlt (by omega)]
    by_cases c : x = n
    · rw [if_pos c, ih (i + 1) os (drop_cons h).2.1 (by omega) (by omega), List.filter_cons, if_neg (by simpa using c)]
    · rw [if_neg c, if_pos (by omega), ih (i + 1) _ (drop_cons h).2.1 (by first | (simp; done) | (simp; omega)) (by omega), List.filter_cons, if_pos (by simpa using c), List.append_assoc]
      rfl
theorem put_loop (l : List Int) (n : Int) (hl : l.length ≤ 10000000) : ∀ (t : List Int) (i : Nat) (os : List Int), l.drop i = t → os.length ≤ i → i ≤ l.length →
    windroseref19_put.l0L l n os false (i : Int) = some (os ++ insP n t) := by
  intro t
  induction t with
  | nil =>
    intro i os h ho hi
    have := drop_nil h
    rw [windroseref19_put.l0L_eq, if_neg (by omega), if_neg (by simp), if_pos (by omega)]
    rfl
  | cons x t ih =>
    intro i os h ho hi
    have hlt := (drop_cons h).1
    rw [windroseref19_put.l0L_eq, if_pos (by omega), if_neg (by simp), if_pos (by omega), rd_drop h, windroseref19_put.j1L_eq, rd_drop h, w64_succ hlt (by omega)]
    unfold insP
    by_cases c : n ≤ x
    · rw [if_pos (by simpa using c), if_pos (by omega), Option.bind_some, if_pos (by omega), if_pos (by omega), if_pos c]
      by_cases e : x = n
      · rw [if_pos e, put_done l n hl t (i + 1) _ (drop_cons h).2.1 (by first | (simp; done) | (simp; omega)) (by omega), List.filter_cons, if_neg (by simpa using e), List.append_assoc]
        rfl
      · rw [if_neg e, if_pos (by first | (simp; done) | (simp; omega)), put_done l n hl t (i + 1) _ (drop_cons h).2.1 (by first | (simp; done) | (simp; omega)) (by omega), List.filter_cons, if_pos (by simpa using e), List.append_assoc, List.append_assoc]
        rfl
    · rw [if_neg (by simpa using c), if_pos (by omega), if_pos (by omega), if_neg (by omega), if_pos (by omega), if_neg c, ih (i + 1) _ (drop_cons h).2.1 (by first | (simp; done) | (simp; omega)) (by omega), List.append_assoc]
      rfl
theorem put19 (l : List Int) (n : Int) (hl : l.length ≤ 10000000) : windroseref19_put.fL l n = some (insP n l) := by
  rw [windroseref19_put.fL_eq]
  exact put_loop l n hl l 0 [] rfl (by simp) (by omega)

/-! ### all lists -/
/-- Numbers put in, one by one. -/
def putsP (os : List Int) (t : List Int) : List Int := t.foldl (fun o x => insP x o) os
theorem putsP_all : ∀ (t os : List Int), os.Pairwise (· < ·) → (putsP os t).Pairwise (· < ·) ∧ (∀ x, x ∈ putsP os t ↔ x ∈ os ∨ x ∈ t) ∧ (putsP os t).length ≤ os.length + t.length
  | [], os, h => ⟨h, by simp [putsP], by simp [putsP]⟩
  | y :: t, os, h => by
    obtain ⟨h1, h2, h3⟩ := putsP_all t (insP y os) (insP_sorted y h)
    have h4 := insP_len y os
    refine ⟨h1, fun x => ?_, ?_⟩
    · rw [show putsP os (y :: t) = putsP (insP y os) t from rfl, h2, insP_mem, List.mem_cons]
      constructor
      · rintro ((h | h) | h)
        · exact Or.inr (Or.inl h)
        · exact Or.inl h
        · exact Or.inr (Or.inr h)
      · rintro (h | h | h)
        · exact Or.inl (Or.inr h)
        · exact Or.inl (Or.inl h)
        · exact Or.inr h
    · show (putsP (insP y os) t).length ≤ _
      simp only [List.length_cons]
      omega
/-- What is in one of the lists. -/
def unionP (os : List Int) (l : List (List Int)) : List Int := l.foldl (fun o b => putsP o (sndP b)) os
theorem unionP_all : ∀ (l : List (List Int)) (os : List Int), os.Pairwise (· < ·) → (unionP os l).Pairwise (· < ·) ∧ (∀ x, x ∈ unionP os l ↔ x ∈ os ∨ ∃ b ∈ l, x ∈ sndP b)
  | [], os, h => ⟨h, by simp [unionP]⟩
  | b :: l, os, h => by
    obtain ⟨g1, g2, _⟩ := putsP_all (sndP b) os h
    obtain ⟨h1, h2⟩ := unionP_all l (putsP os (sndP b)) g1
    refine ⟨h1, fun x => ?_⟩
    rw [show unionP os (b :: l) = unionP (putsP os (sndP b)) l from rfl, h2, g2]
    constructor
    · rintro ((h | h) | ⟨c, hc, h⟩)
      · exact Or.inl h
      · exact Or.inr ⟨b, by simp, h⟩
      · exact Or.inr ⟨c, by simp [hc], h⟩
    · rintro (h | ⟨c, hc, h⟩)
      · exact Or.inl (Or.inl h)
      · rcases List.mem_cons.1 hc with rfl | hc
        · exact Or.inl (Or.inr h)
        · exact Or.inr ⟨c, hc, h⟩
def orP (l : List (List Int)) : List Int := (unionP [] l).take 4096

theorem or_in (l : List (List Int)) (b : List Int) (i : Nat) (hb : l[i]? = some b) (hs : soundB b = true) (hl : l.length ≤ 1000) : ∀ (t : List Int) (k : Nat) (os : List Int), b.drop k = t → os.length ≤ i * 4096 + k → k ≤ b.length →
    windroseref19_Or.l1L l os (i : Int) (k : Int) = windroseref19_Or.l0L l (putsP os t) ((i + 1 : Nat) : Int) := by
  have hi : i < l.length := (List.getElem?_eq_some_iff.1 hb).1
  have hr : rd_L1 l (i : Int) = b := by rw [rdL l hi]; exact (List.getElem?_eq_some_iff.1 hb).2
  have hbl : b.length ≤ 4096 := by
    simp only [soundB, Bool.and_eq_true, decide_eq_true_eq] at hs
    exact hs.1
  intro t
  induction t with
  | nil =>
    intro k os h ho hk
    have := drop_nil h
    rw [windroseref19_Or.l1L_eq, if_pos (by omega), if_pos (by omega), hr, if_neg (by omega), w64_succ hi (by omega)]
    rfl
  | cons x t ih =>
    intro k os h ho hk
    have hlt := (drop_cons h).1
    rw [windroseref19_Or.l1L_eq, if_pos (by omega), if_pos (by omega), hr, if_pos (by omega), may19 b (by omega), Option.bind_some, if_pos hs, if_pos (by omega), rd_drop h, put19 os x (by omega), Option.bind_some, w64_succ hlt (by omega),
      ih (k + 1) _ (drop_cons h).2.1 (by have := insP_len x os; omega) (by omega)]
    rfl
theorem or_out (l : List (List Int)) (hl : l.length ≤ 1000) (hall : ∀ b ∈ l, b.length ≤ 9223372036854775807) : ∀ (t : List (List Int)) (i : Nat) (os : List Int), l.drop i = t → os.Pairwise (· < ·) → os.length ≤ i * 4096 → i ≤ l.length →
    windroseref19_Or.l0L l os (i : Int) = some ((unionP os t).take 4096) := by
  intro t
  induction t with
  | nil =>
    intro i os h hp ho hi
    have := drop_nil h
    rw [windroseref19_Or.l0L_eq, if_neg (by omega)]
    show _ = some (os.take 4096)
    by_cases c : os.length > 4096
    · rw [if_pos (by omega), if_pos (by omega)]
      rw [show ((4096:Int).toNat) = 4096 by decide +kernel]
    · rw [if_neg (by omega), List.take_of_length_le (by omega)]
  | cons b t ih =>
    intro i os h hp ho hi
    have hlt := (drop_cons h).1
    have hbm := (drop_cons h).2.2.2
    have hbl := hall b (List.mem_of_getElem? hbm)
    obtain ⟨g1, _, g3⟩ := putsP_all (sndP b) os hp
    have hsl := (snd_all b).1
    rw [windroseref19_Or.l0L_eq, if_pos (by omega)]
    by_cases hs : soundB b = true
    · have e : sndP b = b := by unfold sndP; rw [if_pos hs]
      rw [show (0 : Int) = ((0 : Nat) : Int) from rfl, or_in l b i hbm hs hl b 0 os rfl (Nat.le_trans ho (Nat.le_add_right _ _)) (Nat.zero_le _), ih (i + 1) _ (drop_cons h).2.1 (by rw [e] at g1; exact g1) (by rw [e] at g3 hsl; omega) (by omega)]
      show _ = some ((unionP (putsP os (sndP b)) t).take 4096)
      rw [e]
    · have e : sndP b = [] := by unfold sndP; rw [if_neg hs]
      rw [windroseref19_Or.l1L_eq, if_pos (by omega), if_pos (by omega), rdL_drop h]
      have hn := ih (i + 1) os (drop_cons h).2.1 hp (Nat.le_trans ho (Nat.mul_le_mul_right _ (Nat.le_succ i))) hlt
      have hu : unionP os (b :: t) = unionP os t := by
        show unionP (putsP os (sndP b)) t = _
        rw [e]
        rfl
      rw [hu, w64_succ hlt (by omega), hn, may19 b hbl, Option.bind_some, if_neg hs]
      split <;> rfl
theorem or_ref (l : List (List Int)) (hl : l.length ≤ 1000) (hall : ∀ b ∈ l, b.length ≤ 9223372036854775807) : windroseref19_Or.fL l = some (orP l) := by
  rw [windroseref19_Or.fL_eq]
  exact or_out l hl hall l 0 [] rfl List.Pairwise.nil (by simp) (by omega)

theorem orp_loop (l : List (List Int)) (hl : l.length ≤ 1000) : ∀ (t : List (List Int)) (i : Nat) (os : List Int), l.drop i = t → os.Pairwise (· < ·) → os.length ≤ i * 4096 → i ≤ l.length →
    postings_Or.l0L os l (l.length : Int) (i : Int) = some ((unionP os t).take 4096) := by
  intro t
  induction t with
  | nil =>
    intro i os h hp ho hi
    have := drop_nil h
    have e : mn 4096 (os.length : Int) = ((min 4096 os.length : Nat) : Int) := by rw [mn_eq]; omega
    rw [postings_Or.l0L_eq, if_neg (by omega), e, if_pos (by omega), if_pos (by omega), Int.toNat_natCast]
    have hc : slices_Clone_int_int.f (os.take (min 4096 os.length)) = some (os.take (min 4096 os.length)) := by
      unfold slices_Clone_int_int.f
      rw [Option.bind_some, if_pos (by rw [List.length_take]; simp; omega)]
      rfl
    rw [hc, Option.bind_some]
    show _ = some (os.take 4096)
    refine congrArg some ?_
    rcases Nat.le_total 4096 os.length with c | c
    · rw [Nat.min_eq_left c]
    · rw [Nat.min_eq_right c, List.take_length, List.take_of_length_le c]
  | cons b t ih =>
    intro i os h hp ho hi
    have hlt := (drop_cons h).1
    obtain ⟨g1, g2, g3⟩ := putsP_all (sndP b) os hp
    have hsb := snd_all b
    obtain ⟨u, hu, u1, u2, u3⟩ := merged19 (os.length + (sndP b).length) os (sndP b) [] (Nat.le_refl _) hp hsb.2.2 (by simp; have := hsb.1; omega)
    have e : u = putsP os (sndP b) := sorted_ext u1 g1 fun x => by rw [u2, g2]
    rw [postings_Or.l0L_eq, if_pos (by omega), if_pos (by omega), if_pos (by omega), rdL_drop h, sound19, Option.bind_some, postings_merged.fL_eq, hu, Option.bind_some, List.nil_append, w64_succ hlt (by omega), e,
      ih (i + 1) _ (drop_cons h).2.1 g1 (by have := hsb.1; omega) (by omega)]
    rfl
theorem or19 (l : List (List Int)) (hl : l.length ≤ 1000) : postings_Or.fL l = some (orP l) := by
  rw [postings_Or.fL_eq]
  exact orp_loop l hl l 0 [] rfl List.Pairwise.nil (by simp) (by omega)
end Go.Proofs.Ytkfakciimeiehaa.PostBase
