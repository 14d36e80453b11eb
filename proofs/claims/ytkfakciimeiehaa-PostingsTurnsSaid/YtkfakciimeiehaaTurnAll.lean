/- Layer 19: one more, without one, how many are below: what the document tells, as the program does. -/
import Derived.Test.YtkfakciimeiehaaTurnRef
set_option linter.unusedVariables false
set_option linter.unusedSimpArgs false
namespace Go.Proofs.Ytkfakciimeiehaa.TurnBase
open Go Go.RowKit Go.Proofs.YtkfakciimeiehaaW.PrintWords Go.Proofs.YtkfakciimeiehaaW.PrintLast Go.Proofs.YtkfakciimeiehaaW.PrintMore Go.Proofs.YtkfakciimeiehaaLim Go.Proofs.YtkfakciimeiehaaAid Go.Proofs.Ytkfakciimeiehaa.PostBase
open Go.Proofs.Ytkfakciimeiehaa.PPost (insAt delAt addP removeP sound_len)
open Go.Proofs.Ytkfakciimeiehaa.PTurn

theorem lb_cons (x t : Int) (xs : List Int) : lb (x :: xs) t = if x < t then lb xs t + 1 else lb xs t := by
  unfold lb
  rw [List.countP_cons]
  by_cases h : x < t <;> simp [h]
theorem lb_zero {t : Int} : ∀ {xs : List Int}, (∀ x ∈ xs, t ≤ x) → lb xs t = 0
  | [], _ => rfl
  | x :: xs, h => by
    rw [lb_cons, if_neg (by have := h x (by simp); omega)]
    exact lb_zero fun y hy => h y (by simp [hy])
theorem filter_all {n : Int} {xs : List Int} (h : n ∉ xs) : xs.filter (fun y => decide (y ≠ n)) = xs :=
  List.filter_eq_self.2 fun y hy => by simp; rintro rfl; exact h hy
theorem ins_at (n : Int) : ∀ {l : List Int}, l.Pairwise (· < ·) → n ∉ l → insP n l = insAt l (lb l n) n
  | [], _, _ => rfl
  | x :: t, h, hn => by
    obtain ⟨h1, h2⟩ := List.pairwise_cons.1 h
    unfold insP
    by_cases c : n ≤ x
    · rw [if_pos c, filter_all hn, lb_zero (fun y hy => by
        rcases List.mem_cons.1 hy with rfl | hy
        · exact c
        · have := h1 y hy
          omega)]
      rfl
    · rw [if_neg c, ins_at n h2 (fun g => hn (by simp [g])), lb_cons, if_pos (by omega)]
      rfl
theorem del_at (n : Int) : ∀ {l : List Int}, l.Pairwise (· < ·) → n ∈ l → delAt l (lb l n) = l.filter (fun y => decide (y ≠ n))
  | [], _, hn => by simp at hn
  | x :: t, h, hn => by
    obtain ⟨h1, h2⟩ := List.pairwise_cons.1 h
    by_cases c : x = n
    · subst c
      have hx : x ∉ t := fun g => by have := h1 x g; omega
      rw [lb_zero (fun y hy => by
        rcases List.mem_cons.1 hy with rfl | hy
        · omega
        · have := h1 y hy
          omega), List.filter_cons, if_neg (by simp), filter_all hx]
      rfl
    · have hn' : n ∈ t := (List.mem_cons.1 hn).resolve_left (fun e => c e.symm)
      have := h1 n hn'
      rw [lb_cons, if_pos (by omega), List.filter_cons, if_pos (by simpa using c), ← del_at n h2 hn']
      rfl
theorem snd_eq {l : List Int} (h : soundB l = true) : sndP l = l := by unfold sndP; rw [if_pos h]
theorem add_ref (l : List Int) (n : Int) (hl : l.length ≤ 5000) : windroseref19_Add.fL l n = some (addP l n) := by
  rw [windroseref19_Add.fL_eq, may19 l (by omega), Option.bind_some]
  have out : windroseref19_Add.j0L l n true = some ([], 1) := by rw [windroseref19_Add.j0L_eq, if_pos rfl]
  unfold addP
  by_cases h : soundB l = true
  · rw [if_pos h]
    by_cases h1 : n < 0
    · rw [if_pos h1, out, if_neg (by omega)]
    rw [if_neg h1]
    by_cases h2 : n ≥ 2147483648
    · rw [decide_eq_true h2, out, if_neg (by omega)]
    have hc : soundB l = true ∧ 0 ≤ n ∧ n ≤ 2147483647 := ⟨h, by omega, by omega⟩
    rw [decide_eq_false h2, if_pos hc, windroseref19_Add.j0L_eq, if_neg (by simp), has19 l n (by omega), Option.bind_some, snd_eq h]
    by_cases h3 : n ∈ l
    · rw [if_pos (by simpa using h3), if_pos h3]
    rw [if_neg (by simpa using h3), if_neg h3]
    by_cases h4 : l.length = 4096
    · rw [if_pos (by omega), if_pos h4]
    · rw [if_neg (by omega), if_neg h4, put19 l n (by omega), Option.bind_some, ins_at n (sound_len h).2 h3]
  · rw [if_neg h, out, if_neg (fun g => h g.1)]
theorem snd_one {l : List Int} {n : Int} (h : soundB l = true) (hn : n ∈ l) : sndP [n] = [n] := by
  have h' := h
  simp only [soundB, Bool.and_eq_true, decide_eq_true_eq] at h'
  obtain ⟨ha, _⟩ := okFrom_all h'.2
  have := ha n hn
  unfold sndP
  rw [if_pos]
  simp [soundB, okFrom]
  omega
theorem remove_ref (l : List Int) (n : Int) (hl : l.length ≤ 5000) : windroseref19_Remove.fL l n = some (removeP l n) := by
  rw [windroseref19_Remove.fL_eq, may19 l (by omega), Option.bind_some]
  unfold removeP
  by_cases h : soundB l = true
  · rw [if_pos h, if_pos h, has19 l n (by omega), Option.bind_some, snd_eq h]
    by_cases h3 : n ∈ l
    · rw [if_pos (by simpa using h3), if_pos h3, without_ref l [n] (by omega) (by simp), Option.bind_some, del_at n (sound_len h).2 h3]
      unfold withoutP
      rw [snd_eq h, snd_one h h3]
      simp
    · rw [if_neg (by simpa using h3), if_neg h3]
  · rw [if_neg h, if_neg h]
theorem rank_loop (l : List Int) (n : Int) (hl : l.length ≤ 5000) (h : soundB l = true) : ∀ (t : List Int) (i k : Nat), l.drop i = t → k ≤ i → windroseref19_Rank.l0L l n (k : Int) (i : Int) = some (((k + lb t n : Nat)) : Int) := by
  intro t
  induction t with
  | nil =>
    intro i k hd hk
    have := drop_nil hd
    rw [windroseref19_Rank.l0L_eq, if_neg (by omega), windroseref19_Rank.j1L_eq, if_neg (by simp)]
    rfl
  | cons x t ih =>
    intro i k hd hk
    have hlt := (drop_cons hd).1
    rw [windroseref19_Rank.l0L_eq, if_pos (by omega), may19 l (by omega), Option.bind_some, h, windroseref19_Rank.j1L_eq, if_pos rfl, if_pos (by omega), if_pos (by omega), rd_drop hd, w64_succ hlt (by omega), w64_succ (n := 5000) (by omega) (by omega), lb_cons]
    by_cases c : x < n
    · rw [if_pos c, if_pos c, ih (i + 1) (k + 1) (drop_cons hd).2.1 (by omega), show k + 1 + lb t n = k + (lb t n + 1) by omega]
    · rw [if_neg c, if_neg c, ih (i + 1) k (drop_cons hd).2.1 (by omega)]
theorem rank_ref (l : List Int) (n : Int) (hl : l.length ≤ 5000) : windroseref19_Rank.fL l n = some ((lb (sndP l) n : Nat) : Int) := by
  rw [windroseref19_Rank.fL_eq]
  by_cases h : soundB l = true
  · rw [snd_eq h]
    have := rank_loop l n hl h l 0 0 rfl (by omega)
    rw [Nat.zero_add] at this
    exact this
  · have e : sndP l = [] := by unfold sndP; rw [if_neg h]
    have hb := Bool.eq_false_iff.2 h
    have hj : windroseref19_Rank.j1L l n 0 0 false = some 0 := by rw [windroseref19_Rank.j1L_eq, if_neg (by simp)]
    rw [e, windroseref19_Rank.l0L_eq]
    by_cases c : (0 : Int) < (l.length : Int)
    · rw [if_pos c, may19 l (by omega), Option.bind_some, hb, hj]
      rfl
    · rw [if_neg c, hj]
      rfl
theorem rank19 (l : List Int) (n : Int) : postings_Rank.fL l n = some ((lb (sndP l) n : Nat) : Int) := by
  have := snd_all l
  rw [postings_Rank.fL_eq, sound19, Option.bind_some, bs19 n this.2.2 (by omega), Option.bind_some]
theorem hasp19 (l : List Int) (n : Int) : postings_Has.fL l n = some (decide (n ∈ sndP l)) := by
  have := snd_all l
  rw [postings_Has.fL_eq, sound19, Option.bind_some, bs19 n this.2.2 (by omega), Option.bind_some]
end Go.Proofs.Ytkfakciimeiehaa.TurnBase
