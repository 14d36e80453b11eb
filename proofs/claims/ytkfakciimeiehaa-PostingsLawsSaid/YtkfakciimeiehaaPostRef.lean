/- Layer 19: what the document's answers and the program's Or come to, in plain lists. -/
import Derived.Test.YtkfakciimeiehaaPostAnd
import Derived.Test.YtkfakciimeiehaaLPostB
set_option linter.unusedVariables false
set_option linter.unusedSimpArgs false
namespace Go.Proofs.Ytkfakciimeiehaa.PostBase
open Go Go.RowKit Go.Proofs.YtkfakciimeiehaaW.PrintWords Go.Proofs.YtkfakciimeiehaaW.PrintLast Go.Proofs.YtkfakciimeiehaaW.PrintMore Go.Proofs.YtkfakciimeiehaaLim Go.Proofs.YtkfakciimeiehaaAid Go.Proofs.Ytkfakciimeiehaa.PPost

theorem awake19 : windroselaw19_awake.fL = some true := lim_of windroselaw19_awake.mono (k := 60) (by decide +kernel)

/-! ### whether lists are one -/
theorem ints_loop (a b : List Int) (hl : a.length = b.length) (hb : a.length ≤ 9223372036854775807) : ∀ (s t : List Int) (i : Nat), a.drop i = s → b.drop i = t → windroseref02_Ints.l0L a b (i : Int) = some (decide (s = t)) := by
  intro s
  induction s with
  | nil =>
    intro t i hs ht
    have h1 := drop_nil hs
    have : t = [] := by rw [← ht]; exact List.drop_eq_nil_of_le (by omega)
    subst this
    rw [windroseref02_Ints.l0L_eq, if_neg (by omega)]
    simp
  | cons x s ih =>
    intro t i hs ht
    have hlt := (drop_cons hs).1
    cases t with
    | nil => have := drop_nil ht; omega
    | cons y t =>
      rw [windroseref02_Ints.l0L_eq, if_pos (by omega), if_pos (by omega), if_pos (by omega), rd_drop hs, rd_drop ht, w64_succ hlt hb]
      by_cases e : x = y
      · rw [if_pos e, ih t (i + 1) (drop_cons hs).2.1 (drop_cons ht).2.1]
        simp [e]
      · rw [if_neg e]
        simp [e]
theorem ints (a b : List Int) (hb : a.length ≤ 9223372036854775807) : windroseref02_Ints.fL a b = some (decide (a = b)) := by
  rw [windroseref02_Ints.fL_eq]
  by_cases hl : a.length = b.length
  · rw [if_pos (by omega)]
    exact ints_loop a b hl hb a b 0 rfl rfl
  · rw [if_neg (by omega), decide_eq_false (fun e => hl (by rw [e]))]

/-! ### which lists may be -/
theorem may_loop19 (l : List Int) (hl : l.length ≤ 9223372036854775807) : ∀ (t : List Int) (i : Nat) (p : Int), l.drop i = t → i ≤ l.length → -1 ≤ p → (i = 0 → p = -1) → (0 < i → p = rd l ((i - 1 : Nat) : Int) ∧ 0 ≤ p) →
    windroseref19_May.l0L l (i : Int) = some (decide ((l.length : Int) ≤ 4096) && okFrom p t) := by
  intro t
  induction t with
  | nil =>
    intro i p h hi _ _ _
    have := drop_nil h
    rw [windroseref19_May.l0L_eq, if_neg (by omega)]
    simp [okFrom]
  | cons x t ih =>
    intro i p h hi hp h0 h1
    have hlt := (drop_cons h).1
    rw [windroseref19_May.l0L_eq, if_pos (by omega), if_pos (by omega), rd_drop h, w64_succ hlt (by omega)]
    have hi1 : rd l ((i + 1 - 1 : Nat) : Int) = x := by rw [show i + 1 - 1 = i from by omega, rd_drop h]
    unfold okFrom
    by_cases c1 : x < 0
    · rw [if_pos c1, decide_eq_false (show ¬ p < x by omega)]
      simp
    rw [if_neg c1]
    by_cases c2 : x ≥ 2147483648
    · rw [if_pos c2, decide_eq_false (show ¬ x ≤ 2147483647 by omega)]
      simp
    rw [if_neg c2, decide_eq_true (show x ≤ 2147483647 by omega), Bool.true_and]
    have nx := ih (i + 1) x (drop_cons h).2.1 (by omega) (by omega) (by omega) (fun _ => ⟨hi1.symm, by omega⟩)
    by_cases c3 : i = 0
    · rw [if_neg (by omega), nx, decide_eq_true (show p < x by have := h0 c3; omega), Bool.true_and]
    · obtain ⟨e, hp0⟩ := h1 (by omega)
      rw [if_pos (by omega), w64_pred (n := l.length) (by omega) (by omega) (by omega), if_pos (by omega), if_pos (by omega), ← e]
      by_cases c4 : p ≥ x
      · rw [if_pos c4, decide_eq_false (show ¬ p < x by omega)]
        simp
      · rw [if_neg c4, nx, decide_eq_true (show p < x by omega), Bool.true_and]
theorem may19 (l : List Int) (hl : l.length ≤ 9223372036854775807) : windroseref19_May.fL l = some (soundB l) := by
  rw [windroseref19_May.fL_eq, show (0 : Int) = ((0 : Nat) : Int) from rfl, may_loop19 l hl l 0 (-1) rfl (by omega) (by omega) (fun _ => rfl) (fun h => by omega)]
  unfold soundB
  congr 2
  rw [decide_eq_decide]
  omega

/-! ### whether a number is there -/
theorem has_loop (l : List Int) (x : Int) (hl : l.length ≤ 9223372036854775807) : ∀ (t : List Int) (i : Nat), l.drop i = t → windroseref19_Has.l0L l x (i : Int) = some (decide (x ∈ t)) := by
  intro t
  induction t with
  | nil =>
    intro i h
    have := drop_nil h
    rw [windroseref19_Has.l0L_eq, if_neg (by omega)]
    simp
  | cons y t ih =>
    intro i h
    have hlt := (drop_cons h).1
    rw [windroseref19_Has.l0L_eq, if_pos (by omega), if_pos (by omega), rd_drop h, w64_succ hlt hl]
    by_cases e : y = x
    · rw [if_pos e]; simp [e]
    · rw [if_neg e, ih (i + 1) (drop_cons h).2.1]
      congr 1
      rw [decide_eq_decide, List.mem_cons]
      exact ⟨Or.inr, fun h => h.resolve_left (fun e' => e e'.symm)⟩
theorem has19 (l : List Int) (x : Int) (hl : l.length ≤ 9223372036854775807) : windroseref19_Has.fL l x = some (decide (x ∈ sndP l)) := by
  rw [windroseref19_Has.fL_eq, may19 l hl, Option.bind_some]
  unfold sndP
  by_cases h : soundB l = true
  · rw [if_pos h, if_pos h]
    exact has_loop l x hl l 0 rfl
  · rw [if_neg h, if_neg h]
    simp

/-! ### what is in one, and not in another one -/
theorem without_loop (a b : List Int) (ha : soundB a = true) (hal : a.length ≤ 4096) (hb : b.length ≤ 9223372036854775807) : ∀ (t : List Int) (i : Nat) (os : List Int), a.drop i = t → os.length ≤ i → i ≤ a.length →
    windroseref19_Without.l0L a b os (i : Int) = some (os ++ t.filter (fun x => decide (x ∉ sndP b))) := by
  intro t
  induction t with
  | nil =>
    intro i os h _ _
    have := drop_nil h
    rw [windroseref19_Without.l0L_eq, if_neg (by omega), windroseref19_Without.j1L_eq, if_neg (by simp)]
    simp
  | cons x t ih =>
    intro i os h ho hi
    have hlt := (drop_cons h).1
    rw [windroseref19_Without.l0L_eq, if_pos (by omega), may19 a (by omega), Option.bind_some, windroseref19_Without.j1L_eq, if_pos ha, if_pos (by omega), if_pos (by omega), rd_drop h, has19 b x hb, Option.bind_some, w64_succ hlt (by omega)]
    by_cases c : x ∈ sndP b
    · rw [if_pos (by simpa using c), ih (i + 1) os (drop_cons h).2.1 (by omega) (by omega), List.filter_cons_of_neg (by simpa using c)]
    · rw [if_neg (by simpa using c), if_pos (by omega), ih (i + 1) _ (drop_cons h).2.1 (by simp; omega) (by omega), List.filter_cons_of_pos (by simpa using c), List.append_assoc]
      rfl
theorem without_ref (a b : List Int) (ha : a.length ≤ 9223372036854775807) (hb : b.length ≤ 9223372036854775807) : windroseref19_Without.fL a b = some (withoutP a b) := by
  rw [windroseref19_Without.fL_eq]
  unfold withoutP sndP
  by_cases h : soundB a = true
  · have hal : a.length ≤ 4096 := by
      simp only [soundB, Bool.and_eq_true, decide_eq_true_eq] at h
      exact h.1
    rw [if_pos h]
    exact without_loop a b h hal hb a 0 [] rfl (by simp) (by omega)
  · rw [if_neg h, windroseref19_Without.l0L_eq]
    by_cases h0 : (0 : Int) < (a.length : Int)
    · rw [if_pos h0, may19 a ha, Option.bind_some, windroseref19_Without.j1L_eq, if_neg h]
      rfl
    · rw [if_neg h0, windroseref19_Without.j1L_eq, if_neg (by simp)]
      rfl

/-! ### what is in all -/
theorem rdL (l : List (List Int)) {i : Nat} (hi : i < l.length) : rd_L1 l (i : Int) = l[i] := by
  unfold rd_L1
  rw [Int.toNat_natCast, getD_of_lt hi]
theorem rdL_drop {l t : List (List Int)} {x : List Int} {i : Nat} (h : l.drop i = x :: t) : rd_L1 l (i : Int) = x := (drop_cons h).2.2.1 _
theorem and_in (l : List (List Int)) (a : List Int) (ha : l[0]? = some a) (hl : l.length ≤ 9223372036854775807) (hall : ∀ b ∈ l, b.length ≤ 4096) (os : List Int) {i : Nat} {x : Int} (hi : i < a.length) (hx : a[i] = x) (hos : os.length ≤ 10000) :
    ∀ (t : List (List Int)) (k : Nat) (all : Bool), l.drop k = t →
      windroseref19_And.l1L l os (i : Int) all (k : Int) = if (all && t.all (fun b => decide (x ∈ sndP b))) = true then windroseref19_And.l0L l (os ++ [x]) ((i + 1 : Nat) : Int) else windroseref19_And.l0L l os ((i + 1 : Nat) : Int) := by
  have hpos : 0 < l.length := (List.getElem?_eq_some_iff.1 ha).1
  have ham : a ∈ l := List.mem_of_getElem? ha
  have hr0 : rd_L1 l 0 = a := by
    have := rdL l hpos
    rw [show ((0 : Nat) : Int) = 0 from rfl] at this
    rw [this]
    exact (List.getElem?_eq_some_iff.1 ha).2
  have hax := hall a ham
  intro t
  induction t with
  | nil =>
    intro k all h
    have := drop_nil h
    rw [windroseref19_And.l1L_eq, if_neg (by omega), hr0, rd_get hi, hx, w64_succ hi (by omega)]
    cases all with
    | true => rw [if_pos rfl, if_pos (by omega), if_pos (by omega), if_pos (by omega), if_pos (by omega), if_pos (by simp)]
    | false => rw [if_neg (by simp), if_neg (by simp)]
  | cons b t ih =>
    intro k all h
    have hlt := (drop_cons h).1
    have hbm : b ∈ l := List.mem_of_getElem? (drop_cons h).2.2.2
    rw [windroseref19_And.l1L_eq, if_pos (by omega), hr0, rd_get hi, hx, rdL_drop h, w64_succ hlt hl]
    cases all with
    | true =>
      rw [if_pos rfl, if_pos (by omega), if_pos (by omega), if_pos (by omega), if_pos (by omega), has19 b x (by have := hall b hbm; omega), Option.bind_some, ih (k + 1) _ (drop_cons h).2.1]
      simp
    | false =>
      rw [if_neg (by simp), ih (k + 1) false (drop_cons h).2.1]
      simp
theorem and_out (l : List (List Int)) (a : List Int) (ha : l[0]? = some a) (hl : l.length ≤ 9223372036854775807) (hall : ∀ b ∈ l, b.length ≤ 4096) : ∀ (t : List Int) (i : Nat) (os : List Int), a.drop i = t → os.length ≤ i → i ≤ a.length →
    windroseref19_And.l0L l os (i : Int) = some (os ++ t.filter (fun x => l.all (fun b => decide (x ∈ sndP b)))) := by
  have hpos : 0 < l.length := (List.getElem?_eq_some_iff.1 ha).1
  have ham : a ∈ l := List.mem_of_getElem? ha
  have hr0 : rd_L1 l 0 = a := by
    have := rdL l hpos
    rw [show ((0 : Nat) : Int) = 0 from rfl] at this
    rw [this]
    exact (List.getElem?_eq_some_iff.1 ha).2
  have hax := hall a ham
  intro t
  induction t with
  | nil =>
    intro i os h ho hi
    have := drop_nil h
    rw [windroseref19_And.l0L_eq, if_pos (by omega), if_pos (by omega), hr0, decide_eq_false (by omega), windroseref19_And.j1L_eq, if_neg (by simp)]
    simp
  | cons x t ih =>
    intro i os h ho hi
    have hlt := (drop_cons h).1
    have hx : a[i] = x := by have := (drop_cons h).2.2.2; rw [List.getElem?_eq_getElem hlt] at this; injection this
    rw [windroseref19_And.l0L_eq, if_pos (by omega), if_pos (by omega), hr0, decide_eq_true (by omega), windroseref19_And.j1L_eq, if_pos rfl, show (0 : Int) = ((0 : Nat) : Int) from rfl,
      and_in l a ha hl hall os hlt hx (by omega) l 0 true rfl, Bool.true_and]
    by_cases c : l.all (fun b => decide (x ∈ sndP b)) = true
    · rw [if_pos c, ih (i + 1) _ (drop_cons h).2.1 (by simp; omega) (by omega), List.filter_cons, if_pos c, List.append_assoc]
      rfl
    · rw [if_neg c, ih (i + 1) os (drop_cons h).2.1 (by omega) (by omega), List.filter_cons, if_neg c]
theorem and_ref (l : List (List Int)) (hl : l.length ≤ 9223372036854775807) (hall : ∀ b ∈ l, b.length ≤ 4096) : windroseref19_And.fL l = some (andP l) := by
  rw [windroseref19_And.fL_eq]
  cases l with
  | nil => rw [windroseref19_And.l0L_eq, if_neg (by simp), windroseref19_And.j1L_eq, if_neg (by simp)]; rfl
  | cons a t =>
    rw [show (0 : Int) = ((0 : Nat) : Int) from rfl, and_out (a :: t) a rfl hl hall a 0 [] rfl (by simp) (by omega), List.nil_append]
    congr 1
    show _ = (sndP a).filter (fun x => t.all (fun l => decide (x ∈ sndP l)))
    by_cases h : soundB a = true
    · have e : sndP a = a := by unfold sndP; rw [if_pos h]
      rw [e]
      refine List.filter_congr fun x hx => ?_
      simp only [List.all_cons]
      rw [e, decide_eq_true hx, Bool.true_and]
    · have e : sndP a = [] := by unfold sndP; rw [if_neg h]
      rw [e]
      rw [List.filter_eq_nil_iff.2 fun x hx => ?_]
      · rfl
      · simp only [List.all_cons]
        rw [e]
        simp
end Go.Proofs.Ytkfakciimeiehaa.PostBase
