/- What topo.weigh computes, in plain words: rising choices, each with the bounded sum of what its nodes weigh. -/
import Derived.Test.YtkfakciimeiehaaT3
set_option linter.unusedVariables false
set_option linter.unusedSimpArgs false
namespace Go.Proofs.Ytkfakciimeiehaa.A
open Go Go.Proofs.YtkfakciimeiehaaAbs
/-! ### What is weighed, in plain words -/
def one (is : Nd → Bool) (of : Nd → Int) (k : Int) (x : Nd) : Int := if is x && (of x == k) && x.inn then x.weight else 0
def tot (is : Nd → Bool) (of : Nd → Int) (l : List Nd) (k : Int) : Int := (l.map (one is of k)).sum
def wOk (l : List Nd) : Prop := ∀ x ∈ l, 0 ≤ x.weight ∧ x.weight ≤ 65536
structure Wei (is : Nd → Bool) (of : Nd → Int) (seen : List Nd) (out : List Ch) : Prop where
  up : ∀ i j, i < j → j < out.length → (out.getD i (0, 0)).1 < (out.getD j (0, 0)).1
  keys : ∀ k, (∃ c ∈ out, c.1 = k) ↔ ∃ x ∈ seen, is x = true ∧ of x = k
  wts : ∀ c ∈ out, c.2 = min 65536 (tot is of seen c.1)
theorem sum_zero {α : Type} : ∀ l : List α, (l.map fun _ => (0 : Int)).sum = 0
  | [] => rfl
  | a :: l => by simp [sum_zero l]
theorem one_nn {is : Nd → Bool} {of : Nd → Int} {k : Int} {x : Nd} (h : 0 ≤ x.weight) : 0 ≤ one is of k x := by unfold one; split <;> omega
theorem tot_nn {is : Nd → Bool} {of : Nd → Int} {k : Int} : ∀ {l : List Nd}, wOk l → 0 ≤ tot is of l k
  | [], _ => by simp [tot]
  | x :: l, h => by
    have h1 := one_nn (is := is) (of := of) (k := k) (h x (by simp)).1
    have h2 := tot_nn (is := is) (of := of) (k := k) (l := l) (fun y hy => h y (by simp [hy]))
    simp only [tot, List.map_cons, List.sum_cons] at h2 ⊢
    omega
theorem tot_snoc {is : Nd → Bool} {of : Nd → Int} {k : Int} (l : List Nd) (x : Nd) : tot is of (l ++ [x]) k = tot is of l k + one is of k x := by simp [tot]
theorem getD_get {α : Type} {l : List α} {i : Nat} {d : α} (h : i < l.length) : l.getD i d = l[i] := by simp [List.getD_eq_getElem?_getD, h]
theorem mem_getD {α : Type} {l : List α} {d x : α} : x ∈ l ↔ ∃ i, i < l.length ∧ l.getD i d = x := by
  rw [List.mem_iff_getElem]
  exact ⟨fun ⟨i, h, e⟩ => ⟨i, h, by rw [getD_get h]; exact e⟩, fun ⟨i, h, e⟩ => ⟨i, h, by rw [getD_get h] at e; exact e⟩⟩
theorem getD_mem {α : Type} {l : List α} {i : Nat} (d : α) (h : i < l.length) : l.getD i d ∈ l := mem_getD.2 ⟨i, h, rfl⟩
/-- Where the halving ends, among rising numbers. -/
theorem chAt_spec {out : List Ch} (up : ∀ i j, i < j → j < out.length → (out.getD i (0, 0)).1 < (out.getD j (0, 0)).1) (k : Int) :
    (∀ i, i < chAt out k → (out.getD i (0, 0)).1 < k) ∧ ∀ i, chAt out k ≤ i → i < out.length → k ≤ (out.getD i (0, 0)).1 := by
  have hc : ∀ a : Int, decide (cmpI a k < 0) = decide (a < k) := by
    intro a
    unfold cmpI
    by_cases h1 : a < k
    · simp [h1]
    · by_cases h2 : k < a <;> simp [h1, h2]
  have h := bsF_lt (lt := fun i => decide (cmpI (out.getD i (0, 0)).1 k < 0)) out.length 0 out.length (by omega) (by omega) (fun a b _ hab hb h => by
    rw [hc] at h ⊢
    have h := of_decide_eq_true h
    by_cases e : a = b
    · subst e; exact decide_eq_true h
    · have := up a b (by omega) hb
      exact decide_eq_true (by omega))
  refine ⟨fun i hi => ?_, fun i h1 h2 => ?_⟩
  · have := h.1 i (Nat.zero_le _) hi
    rw [hc] at this
    exact of_decide_eq_true this
  · have := h.2 i h1 h2
    rw [hc] at this
    have := of_decide_eq_false this
    omega
theorem chIn_iff {out : List Ch} (up : ∀ i j, i < j → j < out.length → (out.getD i (0, 0)).1 < (out.getD j (0, 0)).1) (k : Int) : chIn out k = true ↔ ∃ c ∈ out, c.1 = k := by
  have hs := chAt_spec up k
  have h0 : ∀ a : Int, (cmpI a k == 0) = decide (a = k) := by
    intro a
    unfold cmpI
    by_cases h1 : a < k
    · simp [h1]; omega
    · by_cases h2 : k < a
      · simp [h1, h2]; omega
      · have : a = k := by omega
        simp [this]
  unfold chIn
  rw [h0]
  simp only [Bool.and_eq_true, decide_eq_true_eq]
  constructor
  · rintro ⟨h1, h2⟩
    exact ⟨_, mem_getD.2 ⟨chAt out k, h1, rfl⟩, h2⟩
  · rintro ⟨c, hc, rfl⟩
    obtain ⟨i, hi, rfl⟩ := (mem_getD (d := (0, 0))).1 hc
    have h1 : ¬ i < chAt out (out.getD i (0, 0)).1 := fun h => by have := hs.1 i h; omega
    have hlt : chAt out (out.getD i (0, 0)).1 < out.length := by omega
    refine ⟨hlt, ?_⟩
    by_cases e : chAt out (out.getD i (0, 0)).1 = i
    · rw [e]
    · have := hs.2 _ (Nat.le_refl _) hlt
      have := up (chAt out (out.getD i (0, 0)).1) i (by omega) hi
      omega
theorem wPut_get {out : List Ch} {k : Int} (h : chIn out k = false) (i : Nat) : (wPut out k).getD i (0, 0) = if i < chAt out k then out.getD i (0, 0) else if i = chAt out k then (k, 0) else out.getD (i - 1) (0, 0) := by
  have hle := chAt_le out k
  rw [wPut, h]
  simp only [Bool.false_eq_true, if_false, List.getD_eq_getElem?_getD]
  by_cases h1 : i < chAt out k
  · rw [if_pos h1, List.getElem?_append_left (by simp; omega), List.getElem?_take, if_pos h1]
  · rw [if_neg h1, List.getElem?_append_right (by simp; omega)]
    simp only [List.length_take, Nat.min_eq_left hle]
    by_cases h2 : i = chAt out k
    · subst h2; simp
    · rw [if_neg h2, show i - chAt out k = (i - 1 - chAt out k) + 1 by omega, List.getElem?_cons_succ, List.getElem?_drop, show chAt out k + (i - 1 - chAt out k) = i - 1 by omega]
theorem wPut_up {out : List Ch} (up : ∀ i j, i < j → j < out.length → (out.getD i (0, 0)).1 < (out.getD j (0, 0)).1) (k : Int) : ∀ i j, i < j → j < (wPut out k).length → ((wPut out k).getD i (0, 0)).1 < ((wPut out k).getD j (0, 0)).1 := by
  cases h : chIn out k with
  | true => rw [show wPut out k = out by rw [wPut, h]; rfl]; exact up
  | false =>
    intro i j hij hj
    rw [wPut_len, h] at hj
    simp only [Bool.false_eq_true, if_false] at hj
    have hs := chAt_spec up k
    have hne : ∀ i, i < out.length → (out.getD i (0, 0)).1 ≠ k := by
      intro i hi e
      have := (chIn_iff up k).2 ⟨_, mem_getD.2 ⟨i, hi, rfl⟩, e⟩
      rw [h] at this; cases this
    have hle := chAt_le out k
    rw [wPut_get h, wPut_get h]
    by_cases h1 : i < chAt out k
    · rw [if_pos h1]
      by_cases h2 : j < chAt out k
      · rw [if_pos h2]; exact up i j hij (by omega)
      · rw [if_neg h2]
        by_cases h3 : j = chAt out k
        · rw [if_pos h3]; exact hs.1 i h1
        · rw [if_neg h3]
          have a1 := hs.1 i h1
          have a2 := hs.2 (j - 1) (by omega) (by omega)
          omega
    · rw [if_neg h1, if_neg (show ¬ j < chAt out k by omega), if_neg (show ¬ j = chAt out k by omega)]
      by_cases h2 : i = chAt out k
      · rw [if_pos h2]
        have a2 := hs.2 (j - 1) (by omega) (by omega)
        have a3 := hne (j - 1) (by omega)
        simp only []
        omega
      · rw [if_neg h2]
        exact up (i - 1) (j - 1) (by omega) (by omega)
theorem wPut_mem {out : List Ch} {k : Int} (h : chIn out k = false) (c : Ch) : c ∈ wPut out k ↔ c = (k, 0) ∨ c ∈ out := by
  rw [wPut, h]
  simp only [Bool.false_eq_true, if_false, List.mem_append, List.mem_cons]
  constructor
  · rintro (h1 | h1 | h1)
    · exact .inr (List.mem_of_mem_take h1)
    · exact .inl h1
    · exact .inr (List.mem_of_mem_drop h1)
  · rintro (h1 | h1)
    · exact .inr (.inl h1)
    · rw [← List.take_append_drop (chAt out k) out, List.mem_append] at h1
      rcases h1 with h1 | h1
      · exact .inl h1
      · exact .inr (.inr h1)
/-- What stands at the place, once it is put. -/
theorem wPut_at {out : List Ch} (up : ∀ i j, i < j → j < out.length → (out.getD i (0, 0)).1 < (out.getD j (0, 0)).1) (k : Int) : chAt out k < (wPut out k).length ∧ ((wPut out k).getD (chAt out k) (0, 0)).1 = k := by
  have hle := chAt_le out k
  cases h : chIn out k with
  | true =>
    have e : wPut out k = out := by rw [wPut, h]; rfl
    rw [e]
    have h2 := h
    unfold chIn at h2
    simp only [Bool.and_eq_true, decide_eq_true_eq, beq_iff_eq] at h2
    refine ⟨h2.1, ?_⟩
    have := h2.2
    unfold cmpI at this
    split at this
    · omega
    · split at this
      · omega
      · omega
  | false =>
    rw [wPut_len, h, wPut_get h, if_neg (Nat.lt_irrefl _), if_pos rfl]
    exact ⟨by simp only [Bool.false_eq_true, if_false]; omega, rfl⟩
theorem wei_step {is : Nd → Bool} {of : Nd → Int} {seen : List Nd} {out : List Ch} (hw : wOk seen) (h : Wei is of seen out) {x : Nd} (hx : 0 ≤ x.weight ∧ x.weight ≤ 65536) : Wei is of (seen ++ [x]) (wStep is of out x) := by
  have hkey : ∀ k, (∃ y ∈ seen ++ [x], is y = true ∧ of y = k) ↔ (∃ y ∈ seen, is y = true ∧ of y = k) ∨ (is x = true ∧ of x = k) := by
    intro k
    simp only [List.mem_append, List.mem_singleton]
    constructor
    · rintro ⟨y, hy | rfl, h1⟩
      · exact .inl ⟨y, hy, h1⟩
      · exact .inr h1
    · rintro (⟨y, hy, h1⟩ | h1)
      · exact ⟨y, .inl hy, h1⟩
      · exact ⟨x, .inr rfl, h1⟩
  by_cases hi : is x = true
  case neg =>
    have e : wStep is of out x = out := by rw [wStep, if_neg hi]
    rw [e]
    refine ⟨h.up, fun k => ?_, fun c hc => ?_⟩
    · rw [hkey, ← h.keys]; simp [hi]
    · rw [tot_snoc, show one is of c.1 x = 0 by simp [one, hi], Int.add_zero]; exact h.wts c hc
  -- what is put
  have hput : Wei is of seen (wPut out (of x)) → True := fun _ => trivial
  have hup := wPut_up h.up (of x)
  have hat := wPut_at h.up (of x)
  have hmem : ∀ c ∈ wPut out (of x), c.2 = min 65536 (tot is of seen c.1) := by
    intro c hc
    cases hin : chIn out (of x) with
    | true => rw [show wPut out (of x) = out by rw [wPut, hin]; rfl] at hc; exact h.wts c hc
    | false =>
      rcases (wPut_mem hin c).1 hc with rfl | hc
      · have : tot is of seen (of x) = 0 := by
          have hno : ¬ ∃ y ∈ seen, is y = true ∧ of y = of x := by
            rw [← h.keys]
            intro hh
            have := (chIn_iff h.up (of x)).2 hh
            rw [hin] at this; cases this
          have : ∀ y ∈ seen, one is of (of x) y = 0 := by
            intro y hy
            unfold one
            rw [if_neg]
            simp only [Bool.and_eq_true, beq_iff_eq]
            rintro ⟨⟨h1, h2⟩, _⟩
            exact hno ⟨y, hy, h1, h2⟩
          unfold tot
          rw [List.map_congr_left this]
          exact sum_zero _
        simp only []
        rw [this]
        rfl
      · exact h.wts c hc
  have hkeys : ∀ k, (∃ c ∈ wPut out (of x), c.1 = k) ↔ (∃ y ∈ seen, is y = true ∧ of y = k) ∨ of x = k := by
    intro k
    rw [← h.keys]
    cases hin : chIn out (of x) with
    | true =>
      rw [show wPut out (of x) = out by rw [wPut, hin]; rfl]
      constructor
      · exact .inl
      · rintro (h1 | rfl)
        · exact h1
        · exact (chIn_iff h.up _).1 hin
    | false =>
      constructor
      · rintro ⟨c, hc, rfl⟩
        rcases (wPut_mem hin c).1 hc with rfl | hc
        · exact .inr rfl
        · exact .inl ⟨c, hc, rfl⟩
      · rintro (⟨c, hc, rfl⟩ | rfl)
        · exact ⟨c, (wPut_mem hin c).2 (.inr hc), rfl⟩
        · exact ⟨_, (wPut_mem hin _).2 (.inl rfl), rfl⟩
  have hwn := tot_nn (is := is) (of := of) (k := of x) hw
  have estep : wStep is of out x = if x.inn then wAdd (wPut out (of x)) (chAt out (of x)) x.weight else wPut out (of x) := by rw [wStep, if_pos hi]
  rw [estep]
  generalize wPut out (of x) = out' at hup hat hmem hkeys ⊢
  generalize chAt out (of x) = i at hat ⊢
  cases hinn : x.inn with
  | false =>
    simp only [Bool.false_eq_true, if_false]
    refine ⟨hup, fun k => by rw [hkeys, hkey]; simp [hi], fun c hc => ?_⟩
    rw [tot_snoc, show one is of c.1 x = 0 by simp [one, hinn], Int.add_zero]; exact hmem c hc
  | true =>
    simp only [if_true]
    have e1 : ∀ j, ((wAdd out' i x.weight).getD j (0, 0)).1 = (out'.getD j (0, 0)).1 := by
      intro j
      unfold wAdd
      simp only [List.getD_eq_getElem?_getD, List.getElem?_set]
      by_cases hj : i = j
      · subst hj; simp [hat.1]
      · simp [hj]
    have el : (wAdd out' i x.weight).length = out'.length := by simp [wAdd]
    refine ⟨fun a b hab hb => by rw [e1, e1]; exact hup a b hab (by omega), fun k => ?_, fun c hc => ?_⟩
    · rw [hkey]
      have : (∃ c ∈ wAdd out' i x.weight, c.1 = k) ↔ ∃ c ∈ out', c.1 = k := by
        constructor
        · rintro ⟨c, hc, rfl⟩
          obtain ⟨j, hj, rfl⟩ := (mem_getD (d := (0, 0))).1 hc
          exact ⟨_, mem_getD.2 ⟨j, by omega, rfl⟩, (e1 j).symm⟩
        · rintro ⟨c, hc, rfl⟩
          obtain ⟨j, hj, rfl⟩ := (mem_getD (d := (0, 0))).1 hc
          exact ⟨_, mem_getD.2 ⟨j, by omega, rfl⟩, e1 j⟩
      rw [this, hkeys]; simp [hi]
    · obtain ⟨j, hj, rfl⟩ := (mem_getD (d := (0, 0))).1 hc
      have hj' : j < out'.length := by omega
      have hm := hmem _ (mem_getD (d := (0, 0)).2 ⟨j, hj', rfl⟩)
      rw [tot_snoc, e1]
      by_cases hij : j = i
      · subst hij
        have : (wAdd out' j x.weight).getD j (0, 0) = ((out'.getD j (0, 0)).1, min 65536 ((out'.getD j (0, 0)).2 + x.weight)) := by
          simp [wAdd, List.getD_eq_getElem?_getD, hj']
        rw [this]
        simp only []
        rw [hm, hat.2, show one is of (of x) x = x.weight by simp [one, hi, hinn]]
        omega
      · have : (wAdd out' i x.weight).getD j (0, 0) = out'.getD j (0, 0) := by
          simp [wAdd, List.getD_eq_getElem?_getD, List.getElem?_set, show ¬ i = j from fun e => hij e.symm]
        rw [this, hm]
        have hne : (out'.getD j (0, 0)).1 ≠ of x := by
          intro e
          rcases Nat.lt_or_gt_of_ne hij with h1 | h1
          · have := hup j i h1 hat.1; omega
          · have := hup i j h1 hj'; omega
        rw [show one is of (out'.getD j (0, 0)).1 x = 0 by unfold one; rw [if_neg]; simp only [Bool.and_eq_true, beq_iff_eq]; rintro ⟨⟨_, e⟩, _⟩; exact hne e.symm, Int.add_zero]
theorem wei_fold {is : Nd → Bool} {of : Nd → Int} : ∀ {l seen : List Nd} {out : List Ch}, wOk seen → wOk l → Wei is of seen out → Wei is of (seen ++ l) (l.foldl (wStep is of) out)
  | [], seen, out, _, _, h => by simpa using h
  | x :: l, seen, out, h1, h2, h => by
    rw [List.foldl_cons, show seen ++ x :: l = (seen ++ [x]) ++ l by simp]
    refine wei_fold (fun y hy => ?_) (fun y hy => h2 y (by simp [hy])) (wei_step h1 h (h2 x (by simp)))
    rcases List.mem_append.1 hy with hy | hy
    · exact h1 y hy
    · rw [List.mem_singleton] at hy; rw [hy]; exact h2 x (by simp)
theorem okL_w {l : List Nd} (h : okL l = true) : wOk l := by
  intro x hx
  obtain ⟨i, hi, rfl⟩ := (mem_getD (d := default)).1 hx
  simp only [okL, Bool.and_eq_true, List.all_eq_true, List.mem_range] at h
  have := h.2 i hi
  unfold okN at this
  simp [-List.getD_eq_getElem?_getD] at this
  omega
theorem wei_all {is : Nd → Bool} {of : Nd → Int} {l : List Nd} (h : okL l = true) : Wei is of l (weighS is of l) := by
  rw [weighS, if_pos h, wUp]
  have := wei_fold (is := is) (of := of) (seen := []) (l := l) (out := []) (fun x hx => by simp at hx) (okL_w h) ⟨fun i j _ hj => by simp at hj, fun k => by simp, fun c hc => by simp at hc⟩
  simpa using this
/-! ### Sums -/
theorem sum_keys {is : Nd → Bool} {of : Nd → Int} {x : Nd} : ∀ {ks : List Int}, ks.Nodup → (is x = true → of x ∈ ks) → (ks.map fun k => one is of k x).sum = if is x && x.inn then x.weight else 0
  | [], _, h => by
    by_cases hi : is x = true
    · exact absurd (h hi) (by simp)
    · simp [hi]
  | k :: ks, hn, h => by
    have hn' := List.nodup_cons.1 hn
    rw [List.map_cons, List.sum_cons]
    by_cases hk : is x = true ∧ of x = k
    · have : ∀ k' ∈ ks, one is of k' x = 0 := by
        intro k' hk'
        unfold one
        rw [if_neg]
        simp only [Bool.and_eq_true, beq_iff_eq]
        rintro ⟨⟨_, e⟩, _⟩
        rw [hk.2] at e
        subst e
        exact hn'.1 hk'
      rw [List.map_congr_left this]
      rw [sum_zero]
      simp [one, hk.1, hk.2]
    · have ih := sum_keys (is := is) (of := of) (x := x) hn'.2 (fun hi => by
        rcases List.mem_cons.1 (h hi) with e | e
        · exact absurd ⟨hi, e⟩ hk
        · exact e)
      rw [ih]
      have : one is of k x = 0 := by
        unfold one
        rw [if_neg]
        simp only [Bool.and_eq_true, beq_iff_eq]
        rintro ⟨⟨h1, h2⟩, _⟩
        exact hk ⟨h1, h2⟩
      omega
theorem sum_tot {is : Nd → Bool} {of : Nd → Int} {ks : List Int} (hn : ks.Nodup) : ∀ {l : List Nd}, (∀ x ∈ l, is x = true → of x ∈ ks) → (ks.map (tot is of l)).sum = (l.map fun x => if is x && x.inn then x.weight else 0).sum
  | [], _ => by
    clear hn
    simp only [tot, List.map_nil, List.sum_nil]
    exact sum_zero ks
  | x :: l, h => by
    have ih := sum_tot hn (l := l) (fun y hy => h y (by simp [hy]))
    have h1 := sum_keys (is := is) (of := of) (x := x) hn (h x (by simp))
    have e : (ks.map (tot is of (x :: l))).sum = (ks.map fun k => one is of k x).sum + (ks.map (tot is of l)).sum := by
      clear ih h1 hn h
      induction ks with
      | nil => rfl
      | cons k ks ih =>
        simp only [List.map_cons, List.sum_cons]
        rw [ih]
        simp only [tot, List.map_cons, List.sum_cons]
        omega
    rw [e, h1, ih, List.map_cons, List.sum_cons]
theorem min_sum : ∀ {gs : List Int}, (∀ g ∈ gs, 0 ≤ g) → 0 ≤ gs.sum ∧ 0 ≤ (gs.map (min 65536)).sum ∧ min 65536 gs.sum ≤ (gs.map (min 65536)).sum ∧ (gs.sum < 65536 → (gs.map (min 65536)).sum = gs.sum) ∧ ((gs.map (min 65536)).sum < 65536 → (gs.map (min 65536)).sum = gs.sum)
  | [], _ => ⟨by decide, by decide, by decide, fun _ => rfl, fun _ => rfl⟩
  | g :: gs, h => by
    have ih := min_sum (gs := gs) (fun x hx => h x (by simp [hx]))
    have h0 := h g (by simp)
    simp only [List.map_cons, List.sum_cons]
    obtain ⟨a, b, c, d, e⟩ := ih
    refine ⟨by omega, by omega, by omega, fun hh => ?_, fun hh => ?_⟩
    · have := d (by omega); omega
    · have := e (by omega); omega
theorem up_nodup {out : List Ch} (up : ∀ i j, i < j → j < out.length → (out.getD i (0, 0)).1 < (out.getD j (0, 0)).1) : (out.map (·.1)).Nodup := by
  unfold List.Nodup
  rw [List.pairwise_iff_getElem]
  intro i j hi hj hij he
  simp only [List.length_map] at hi hj
  have := up i j hij hj
  rw [getD_get (by omega), getD_get hj] at this
  simp only [List.getElem_map] at he
  omega
/-- What choices weigh together. -/
theorem wei_sum {is : Nd → Bool} {of : Nd → Int} {l : List Nd} {out : List Ch} (h : Wei is of l out) : (out.map (·.2)).sum = (((out.map (·.1)).map (tot is of l)).map (min 65536)).sum ∧ ((out.map (·.1)).map (tot is of l)).sum = (l.map fun x => if is x && x.inn then x.weight else 0).sum := by
  refine ⟨?_, sum_tot (up_nodup h.up) (fun x hx hi => ?_)⟩
  · rw [List.map_map, List.map_map]
    congr 1
    refine List.map_congr_left fun c hc => h.wts c hc
  · obtain ⟨c, hc, e⟩ := (h.keys (of x)).2 ⟨x, hx, hi, rfl⟩
    exact List.mem_map.2 ⟨c, hc, e⟩
theorem zone_racks {l : List Nd} (hok : okL l = true) {c : Ch} (hc : c ∈ weighS (fun _ => true) Nd.zone l) :
    c.2 ≤ ((weighS (fun x => x.zone == c.1) Nd.rack l).map (·.2)).sum ∧ (c.2 < 65536 → ((weighS (fun x => x.zone == c.1) Nd.rack l).map (·.2)).sum = c.2) := by
  have hz := wei_all (is := fun _ => true) (of := Nd.zone) hok
  have hr := wei_all (is := fun x => x.zone == c.1) (of := Nd.rack) hok
  have h1 := hz.wts c hc
  obtain ⟨h2, h3⟩ := wei_sum hr
  have e : tot (fun _ => true) Nd.zone l c.1 = (l.map fun x => if (x.zone == c.1) && x.inn then x.weight else 0).sum := by
    unfold tot one
    simp
  have hm := min_sum (gs := ((weighS (fun x => x.zone == c.1) Nd.rack l).map (·.1)).map (tot (fun x => x.zone == c.1) Nd.rack l)) (fun g hg => by
    obtain ⟨k, _, rfl⟩ := List.mem_map.1 hg
    exact tot_nn (okL_w hok))
  rw [h2, h1, e, ← h3]
  omega
theorem all_zones {l : List Nd} (hok : okL l = true) : 65536 ≤ ((weighS (fun _ => true) Nd.id l).map (·.2)).sum ∨ ((weighS (fun _ => true) Nd.zone l).map (·.2)).sum = ((weighS (fun _ => true) Nd.id l).map (·.2)).sum := by
  have hz := wei_sum (wei_all (is := fun _ => true) (of := Nd.zone) hok)
  have hi := wei_sum (wei_all (is := fun _ => true) (of := Nd.id) hok)
  have mz := min_sum (gs := ((weighS (fun _ => true) Nd.zone l).map (·.1)).map (tot (fun _ => true) Nd.zone l)) (fun g hg => by
    obtain ⟨k, _, rfl⟩ := List.mem_map.1 hg
    exact tot_nn (okL_w hok))
  have mi := min_sum (gs := ((weighS (fun _ => true) Nd.id l).map (·.1)).map (tot (fun _ => true) Nd.id l)) (fun g hg => by
    obtain ⟨k, _, rfl⟩ := List.mem_map.1 hg
    exact tot_nn (okL_w hok))
  have e : ((weighS (fun _ => true) Nd.zone l).map (·.1) |>.map (tot (fun _ => true) Nd.zone l)).sum = ((weighS (fun _ => true) Nd.id l).map (·.1) |>.map (tot (fun _ => true) Nd.id l)).sum := by rw [hz.2, hi.2]
  rw [hz.1, hi.1]
  omega
theorem ids_up {l : List Nd} (hok : okL l = true) : ∀ i j, i < j → j < l.length → (l.getD i default).id < (l.getD j default).id := by
  simp only [okL, Bool.and_eq_true, List.all_eq_true, List.mem_range] at hok
  have step : ∀ j, 0 < j → j < l.length → (l.getD (j - 1) default).id < (l.getD j default).id := by
    intro j h0 hj
    have := hok.2 j hj
    unfold okN at this
    simp [-List.getD_eq_getElem?_getD] at this
    omega
  intro i j hij hj
  induction j with
  | zero => omega
  | succ j ih =>
    have h1 := step (j + 1) (by omega) hj
    simp only [Nat.add_sub_cancel] at h1
    by_cases e : i = j
    · subst e; exact h1
    · have := ih (by omega) (by omega); omega
/-- Nodes of unlike numbers: as many choices. -/
theorem leaves_len {l : List Nd} (hok : okL l = true) : (weighS (fun _ => true) Nd.id l).length = l.length := by
  have hup := ids_up hok
  have hw := okL_w hok
  rw [weighS, if_pos hok]
  have key : ∀ (n : Nat), n ≤ l.length → (wUp (fun _ => true) Nd.id (l.take n)).length = n := by
    intro n
    induction n with
    | zero => intro _; simp [wUp]
    | succ n ih =>
      intro hn
      have h1 := ih (by omega)
      have hwei := wei_fold (is := fun _ => true) (of := Nd.id) (seen := []) (l := l.take n) (out := []) (fun x hx => by simp at hx) (fun x hx => hw x (List.mem_of_mem_take hx)) ⟨fun i j _ hj => by simp at hj, fun k => by simp, fun c hc => by simp at hc⟩
      have e : wUp (fun _ => true) Nd.id (l.take (n + 1)) = wStep (fun _ => true) Nd.id (wUp (fun _ => true) Nd.id (l.take n)) (l.getD n default) := by
        rw [List.take_add_one, List.getElem?_eq_getElem (by omega), wUp, Option.toList_some, List.foldl_append, getD_get (by omega)]
        simp [wUp]
      rw [e]
      have hno : chIn (wUp (fun _ => true) Nd.id (l.take n)) (l.getD n default).id = false := by
        cases hc : chIn (wUp (fun _ => true) Nd.id (l.take n)) (l.getD n default).id with
        | false => rfl
        | true =>
          exfalso
          obtain ⟨c, hc1, hc2⟩ := (chIn_iff hwei.up _).1 hc
          obtain ⟨x, hx, _, hx2⟩ := (hwei.keys _).1 ⟨c, hc1, hc2⟩
          simp only [List.nil_append] at hx
          obtain ⟨i, hi, rfl⟩ := (mem_getD (d := default)).1 hx
          simp only [List.length_take] at hi
          have := hup i n (by omega) (by omega)
          have e2 : (l.take n).getD i default = l.getD i default := by
            simp [List.getD_eq_getElem?_getD, List.getElem?_take, show i < n by omega]
          rw [e2] at hx2
          omega
      have hl := wPut_len (wUp (fun _ => true) Nd.id (l.take n)) (l.getD n default).id
      rw [hno] at hl
      simp only [Bool.false_eq_true, if_false] at hl
      unfold wStep wAdd
      simp only [if_true]
      split
      · rw [List.length_set, hl, h1]
      · rw [hl, h1]
  have := key l.length (Nat.le_refl _)
  rwa [List.take_length] at this
end Go.Proofs.Ytkfakciimeiehaa.A
