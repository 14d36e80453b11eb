/- Layer 19: And is what is in all lists: the plain law of the loops. -/
import Derived.Test.YtkfakciimeiehaaEAnd
set_option linter.unusedVariables false
set_option linter.unusedSimpArgs false
namespace Go.Proofs.Ytkfakciimeiehaa.PostBase
open Go Go.RowKit Go.Proofs.YtkfakciimeiehaaW.PrintWords Go.Proofs.YtkfakciimeiehaaW.PrintLast Go.Proofs.YtkfakciimeiehaaW.PrintMore Go.Proofs.YtkfakciimeiehaaLim Go.Proofs.YtkfakciimeiehaaAid Go.Proofs.Ytkfakciimeiehaa.PPost

/-- Rising lists of the same numbers are one. -/
theorem sorted_ext : ∀ {xs ys : List Int}, xs.Pairwise (· < ·) → ys.Pairwise (· < ·) → (∀ x, x ∈ xs ↔ x ∈ ys) → xs = ys
  | [], [], _, _, _ => rfl
  | [], y :: ys, _, _, h => by have := (h y).2 (by simp); simp at this
  | x :: xs, [], _, _, h => by have := (h x).1 (by simp); simp at this
  | x :: xs, y :: ys, hx, hy, h => by
    obtain ⟨hx1, hx2⟩ := List.pairwise_cons.1 hx
    obtain ⟨hy1, hy2⟩ := List.pairwise_cons.1 hy
    have e : x = y := by
      have h1 := (h x).1 (by simp)
      have h2 := (h y).2 (by simp)
      rcases List.mem_cons.1 h1 with e | h1
      · exact e
      · rcases List.mem_cons.1 h2 with e | h2
        · exact e.symm
        · have := hy1 x h1
          have := hx1 y h2
          omega
    subst e
    rw [sorted_ext hx2 hy2 fun z => ?_]
    have hz := h z
    simp only [List.mem_cons] at hz
    constructor
    · intro hm
      rcases hz.1 (Or.inr hm) with e | hm'
      · have := hx1 z hm
        omega
      · exact hm'
    · intro hm
      rcases hz.2 (Or.inr hm) with e | hm'
      · have := hy1 z hm
        omega
      · exact hm'

noncomputable def andOutL (n : Int) (ok : Bool) (wss : List (List Int)) (os : List Int) : Option (List Int) := Lim (fun k => andOut k n ok wss os)
noncomputable def andInL (n : Int) (wss : List (List Int)) (os : List Int) (j : Nat) : Option (List Int) := Lim (fun k => andIn k n wss os j)
theorem andOutL_eq (n : Int) (ok : Bool) (wss : List (List Int)) (os : List Int) : andOutL n ok wss os = if ok = true then andInL n wss os 0 else some os :=
  (lim_succ _).trans ((congrArg Lim (show (fun k => andOut (k + 1) n ok wss os) = (fun k => if ok = true then andIn k n wss os 0 else some os) from by funext k; simp only [andOut])).trans (limIte rfl (limSome _)))
theorem andInL_eq (n : Int) (wss : List (List Int)) (os : List Int) (j : Nat) : andInL n wss os j =
    if j < wss.length then
      if isP (seekP n (wss.getD j [])) = true then
        if n < hdP (seekP n (wss.getD j [])) then andOutL (hdP (seekP n (wss.getD j []))) true (wss.set j (seekP n (wss.getD j []))) os
        else andInL n (wss.set j (seekP n (wss.getD j []))) os (j + 1)
      else some os
    else if os.length ≤ 100000 then andOutL (hdP (wss.getD 0 []).tail) (isP (wss.getD 0 []).tail) (wss.set 0 (wss.getD 0 []).tail) (os ++ [n]) else none :=
  (lim_succ _).trans ((congrArg Lim (show (fun k => andIn (k + 1) n wss os j) = (fun k =>
    if j < wss.length then
      if isP (seekP n (wss.getD j [])) = true then
        if n < hdP (seekP n (wss.getD j [])) then andOut k (hdP (seekP n (wss.getD j []))) true (wss.set j (seekP n (wss.getD j []))) os
        else andIn k n (wss.set j (seekP n (wss.getD j []))) os (j + 1)
      else some os
    else if os.length ≤ 100000 then andOut k (hdP (wss.getD 0 []).tail) (isP (wss.getD 0 []).tail) (wss.set 0 (wss.getD 0 []).tail) (os ++ [n]) else none) from by funext k; simp only [andIn])).trans
    (limIte (limIte (limIte rfl rfl) (limSome _)) (limIte rfl limNone)))

theorem seek_filter {xs : List Int} (hs : xs.Pairwise (· < ·)) (t : Int) : seekP t xs = xs.filter (fun x => decide (t ≤ x)) := (split_drop (lb_split t hs)).symm

/-- The walkers stand where nothing from n on has been passed. -/
def Keeps (ls wss : List (List Int)) (n : Int) : Prop := wss.length = ls.length ∧ ∀ (i : Nat) (a b : List Int), ls[i]? = some a → wss[i]? = some b → b.Pairwise (· < ·) ∧ b.filter (fun x => decide (n ≤ x)) = a.filter (fun x => decide (n ≤ x))

theorem keeps_raise {ls wss : List (List Int)} {n n' : Int} (h : Keeps ls wss n) (hn : n ≤ n') : Keeps ls wss n' := by
  refine ⟨h.1, fun i a b ha hb => ⟨(h.2 i a b ha hb).1, ?_⟩⟩
  have e := congrArg (List.filter (fun x => decide (n' ≤ x))) (h.2 i a b ha hb).2
  rw [List.filter_filter, List.filter_filter] at e
  have f : ∀ c : List Int, c.filter (fun x => decide (n' ≤ x) && decide (n ≤ x)) = c.filter (fun x => decide (n' ≤ x)) := by
    intro c
    congr 1
    funext x
    by_cases c : n' ≤ x
    · rw [decide_eq_true c, decide_eq_true (show n ≤ x by omega)]; rfl
    · rw [decide_eq_false c]; rfl
  rwa [f, f] at e
theorem keeps_set {ls wss : List (List Int)} {n : Int} (h : Keeps ls wss n) {j : Nat} {b : List Int} (hb : ∀ a, ls[j]? = some a → b.Pairwise (· < ·) ∧ b.filter (fun x => decide (n ≤ x)) = a.filter (fun x => decide (n ≤ x))) : Keeps ls (wss.set j b) n := by
  refine ⟨by rw [List.length_set]; exact h.1, fun i a c ha hc => ?_⟩
  by_cases hij : i = j
  · subst hij
    have hlt : i < wss.length := by rw [h.1]; exact (List.getElem?_eq_some_iff.1 ha).1
    rw [List.getElem?_set_self hlt] at hc
    injection hc with hc
    subst hc
    exact hb a ha
  · rw [List.getElem?_set_ne (by omega)] at hc
    exact h.2 i a c ha hc

section
variable {ls : List (List Int)} (hne : ls ≠ []) (hs : ∀ a ∈ ls, a.Pairwise (· < ·) ∧ (∀ x ∈ a, 0 ≤ x ∧ x ≤ 2147483647) ∧ a.length ≤ 4096)
variable {C : List Int} (hC : C.Pairwise (· < ·)) (hm : ∀ x, x ∈ C ↔ ∀ a ∈ ls, x ∈ a)
include hne hs hC hm

theorem C_len : C.length ≤ 4096 := by
  cases ls with
  | nil => exact absurd rfl hne
  | cons a ls =>
    have h1 : C = a.filter (fun x => decide (x ∈ C)) := by
      refine sorted_ext hC ((hs a (by simp)).1.sublist List.filter_sublist) fun x => ?_
      rw [List.mem_filter]
      constructor
      · intro h; exact ⟨(hm x).1 h a (by simp), by simpa using h⟩
      · intro h; simpa using h.2
    have := (hs a (by simp)).2.2
    rw [h1]
    have := List.length_filter_le (fun x => decide (x ∈ C)) a
    omega

/-- From a number on: both loops tell what is in all lists. -/
theorem and_loops : ∀ (N : Nat) (n : Int) (wss : List (List Int)) (os : List Int), (2147483648 - n).toNat ≤ N → (∃ a ∈ ls, n ∈ a) → Keeps ls wss n → os = C.filter (fun x => decide (x < n)) →
    ∀ (d j : Nat), ls.length - j ≤ d → j ≤ ls.length → (∀ (i : Nat) (a b : List Int), i < j → ls[i]? = some a → wss[i]? = some b → n ∈ a ∧ b = a.filter (fun x => decide (n ≤ x))) → andInL n wss os j = some C := by
  intro N
  induction N with
  | zero =>
    intro n wss os hN hin
    obtain ⟨a, ha, hna⟩ := hin
    have := (hs a ha).2.1 n hna
    omega
  | succ N ihN =>
    intro n wss os hN hin hK hos d
    induction d generalizing wss with
    | zero =>
      intro j hd hj hpre
      obtain rfl : j = ls.length := by omega
      -- all walkers stand at n
      have hlw : wss.length = ls.length := hK.1
      have hol : os.length ≤ 100000 := by
        have h1 := C_len hne hs hC hm
        rw [hos]
        have := List.length_filter_le (fun x => decide (x < n)) C
        omega
      rw [andInL_eq, if_neg (by omega), if_pos hol]
      have hcom : ∀ a ∈ ls, n ∈ a := by
        intro a ha
        obtain ⟨i, hi⟩ := List.getElem?_of_mem ha
        have hlt := (List.getElem?_eq_some_iff.1 hi).1
        exact (hpre i a _ hlt hi (List.getElem?_eq_getElem (by omega))).1
      have hpos : 0 < ls.length := List.length_pos_iff.2 hne
      obtain ⟨a0, ha0⟩ : ∃ a, ls[0]? = some a := ⟨ls[0], List.getElem?_eq_getElem hpos⟩
      have ha0m : a0 ∈ ls := List.mem_of_getElem? ha0
      obtain ⟨b0, hb0⟩ : ∃ b, wss[0]? = some b := ⟨wss[0]'(by omega), List.getElem?_eq_getElem (by omega)⟩
      have hb0e := (hpre 0 a0 b0 hpos ha0 hb0).2
      rw [show wss.getD 0 [] = b0 by rw [List.getD_eq_getElem?_getD, hb0]; rfl]
      have hsa := (hs a0 ha0m).1
      have hna := hcom a0 ha0m
      have hbs : b0.Pairwise (· < ·) := by rw [hb0e]; exact hsa.sublist List.filter_sublist
      have hbm : ∀ x, x ∈ b0 ↔ x ∈ a0 ∧ n ≤ x := by intro x; rw [hb0e, List.mem_filter]; simp
      -- b0 is n and what is above it
      obtain ⟨rest, hrest⟩ : ∃ rest, b0 = n :: rest := by
        cases b0 with
        | nil => have := (hbm n).2 ⟨hna, Int.le_refl _⟩; simp at this
        | cons y rest =>
          have h1 := (hbm n).2 ⟨hna, Int.le_refl _⟩
          have h2 := ((hbm y).1 (by simp)).2
          rcases List.mem_cons.1 h1 with e | h1
          · exact ⟨rest, by rw [e]⟩
          · have := (List.pairwise_cons.1 hbs).1 n h1
            omega
      subst hrest
      obtain ⟨hr1, hr2⟩ := List.pairwise_cons.1 hbs
      have hrm : ∀ x, x ∈ rest ↔ x ∈ a0 ∧ n < x := by
        intro x
        have := hbm x
        simp only [List.mem_cons] at this
        constructor
        · intro h
          have h1 := hr1 x h
          exact ⟨(this.1 (Or.inr h)).1, h1⟩
        · rintro ⟨h1, h2⟩
          rcases this.2 ⟨h1, by omega⟩ with e | h
          · omega
          · exact h
      have hosn : (os ++ [n]).Pairwise (· < ·) := by
        rw [List.pairwise_append]
        refine ⟨by rw [hos]; exact hC.sublist List.filter_sublist, by simp, fun x hx y hy => ?_⟩
        rw [List.mem_singleton] at hy
        subst hy
        rw [hos, List.mem_filter] at hx
        simpa using hx.2
      have hosm : ∀ x, x ∈ os ++ [n] ↔ (x ∈ C ∧ x ≤ n) := by
        intro x
        rw [List.mem_append, List.mem_singleton, hos, List.mem_filter]
        have hnC : n ∈ C := (hm n).2 hcom
        constructor
        · rintro (⟨h1, h2⟩ | rfl)
          · have : x < n := by simpa using h2
            exact ⟨h1, by omega⟩
          · exact ⟨hnC, Int.le_refl _⟩
        · rintro ⟨h1, h2⟩
          by_cases e : x = n
          · exact Or.inr e
          · exact Or.inl ⟨h1, by simp; omega⟩
      simp only [List.tail_cons]
      rw [andOutL_eq]
      cases rest with
      | nil =>
        rw [show isP ([] : List Int) = false from rfl, if_neg (by simp)]
        congr 1
        refine sorted_ext hosn hC fun x => ?_
        rw [hosm]
        refine ⟨fun h => h.1, fun h => ⟨h, ?_⟩⟩
        rcases Int.lt_or_le n x with c | c
        · have := (hrm x).2 ⟨(hm x).1 h a0 ha0m, c⟩
          simp at this
        · exact c
      | cons y rest =>
        rw [show isP (y :: rest) = true from rfl, if_pos rfl, show hdP (y :: rest) = y from rfl]
        have hny : n < y := hr1 y (by simp)
        have hya : y ∈ a0 := ((hrm y).1 (by simp)).1
        refine ihN y _ _ (by omega) ⟨a0, ha0m, hya⟩ ?_ ?_ ls.length 0 (by omega) (by omega) (fun i a b h => by omega)
        · refine keeps_set (keeps_raise hK (by omega)) fun a ha => ?_
          rw [ha0] at ha
          injection ha with ha
          subst ha
          refine ⟨hr2, sorted_ext (hr2.sublist List.filter_sublist) (hsa.sublist List.filter_sublist) fun x => ?_⟩
          rw [List.mem_filter, List.mem_filter, hrm]
          constructor
          · rintro ⟨⟨h1, _⟩, h2⟩; exact ⟨h1, h2⟩
          · rintro ⟨h1, h2⟩
            have : y ≤ x := by simpa using h2
            exact ⟨⟨h1, by omega⟩, h2⟩
        · refine sorted_ext hosn (hC.sublist List.filter_sublist) fun x => ?_
          rw [hosm, List.mem_filter]
          constructor
          · rintro ⟨h1, h2⟩; exact ⟨h1, by simp; omega⟩
          · rintro ⟨h1, h2⟩
            refine ⟨h1, ?_⟩
            have h3 : x < y := by simpa using h2
            rcases Int.lt_or_le n x with c | c
            · have h4 := (hrm x).2 ⟨(hm x).1 h1 a0 ha0m, c⟩
              rcases List.mem_cons.1 h4 with e | h4
              · omega
              · have := (List.pairwise_cons.1 hr2).1 x h4
                omega
            · exact c
    | succ d ihd =>
      intro j hd hj hpre
      rcases Nat.eq_or_lt_of_le hj with e | hlt
      · exact ihd wss hK j (by omega) hj hpre
      · have hlw : wss.length = ls.length := hK.1
        obtain ⟨a, ha⟩ : ∃ a, ls[j]? = some a := ⟨ls[j], List.getElem?_eq_getElem hlt⟩
        have ham : a ∈ ls := List.mem_of_getElem? ha
        obtain ⟨b, hb⟩ : ∃ b, wss[j]? = some b := ⟨wss[j]'(by omega), List.getElem?_eq_getElem (by omega)⟩
        obtain ⟨hbs, hbf⟩ := hK.2 j a b ha hb
        have hsa := (hs a ham).1
        rw [andInL_eq, if_pos (by omega), show wss.getD j [] = b by rw [List.getD_eq_getElem?_getD, hb]; rfl, seek_filter hbs, hbf]
        obtain ⟨zs, hzs⟩ : ∃ zs, zs = a.filter (fun x => decide (n ≤ x)) := ⟨_, rfl⟩
        rw [← hzs]
        have hzm : ∀ x, x ∈ zs ↔ x ∈ a ∧ n ≤ x := by intro x; rw [hzs, List.mem_filter]; simp
        have hzp : zs.Pairwise (· < ·) := by rw [hzs]; exact hsa.sublist List.filter_sublist
        have hzz : zs.filter (fun x => decide (n ≤ x)) = a.filter (fun x => decide (n ≤ x)) := by
          rw [← hzs, List.filter_eq_self]
          intro x hx
          simpa using ((hzm x).1 hx).2
        have hset : Keeps ls (wss.set j zs) n := keeps_set hK fun a' ha' => by
          rw [ha] at ha'
          injection ha' with ha'
          subst ha'
          exact ⟨hzp, hzz⟩
        cases zs with
        | nil =>
          rw [show isP ([] : List Int) = false from rfl, if_neg (by simp)]
          congr 1
          rw [hos]
          refine sorted_ext (hC.sublist List.filter_sublist) hC fun x => ?_
          rw [List.mem_filter]
          refine ⟨fun h => h.1, fun h => ⟨h, ?_⟩⟩
          rcases Int.lt_or_le x n with c | c
          · simpa using c
          · have := (hzm x).2 ⟨(hm x).1 h a ham, c⟩
            simp at this
        | cons z zs =>
          rw [show isP (z :: zs) = true from rfl, if_pos rfl, show hdP (z :: zs) = z from rfl]
          have hza := (hzm z).1 (by simp)
          by_cases c : n < z
          · rw [if_pos c, andOutL_eq, if_pos rfl]
            refine ihN z _ _ (by omega) ⟨a, ham, hza.1⟩ (keeps_raise hset (by omega)) ?_ ls.length 0 (by omega) (by omega) (fun i a b h => by omega)
            rw [hos]
            refine sorted_ext (hC.sublist List.filter_sublist) (hC.sublist List.filter_sublist) fun x => ?_
            rw [List.mem_filter, List.mem_filter]
            constructor
            · rintro ⟨h1, h2⟩
              have : x < n := by simpa using h2
              exact ⟨h1, by simp; omega⟩
            · rintro ⟨h1, h2⟩
              have h3 : x < z := by simpa using h2
              refine ⟨h1, ?_⟩
              rcases Int.lt_or_le x n with c' | c'
              · simpa using c'
              · have h4 := (hzm x).2 ⟨(hm x).1 h1 a ham, c'⟩
                rcases List.mem_cons.1 h4 with e | h4
                · omega
                · have := (List.pairwise_cons.1 hzp).1 x h4
                  omega
          · rw [if_neg c]
            obtain rfl : z = n := by omega
            refine ihd _ hset (j + 1) (by omega) (by omega) fun i a' b' hi ha' hb' => ?_
            by_cases hij : i = j
            · subst hij
              rw [ha] at ha'
              injection ha' with ha'
              subst ha'
              rw [List.getElem?_set_self (by omega)] at hb'
              injection hb' with hb'
              exact ⟨hza.1, by rw [← hb', hzs]⟩
            · rw [List.getElem?_set_ne (by omega)] at hb'
              exact hpre i a' b' (by omega) ha' hb'
end

theorem andP_sorted (l : List (List Int)) : (andP l).Pairwise (· < ·) := by
  cases l with
  | nil => exact List.Pairwise.nil
  | cons a t => exact (snd_all a).2.2.sublist List.filter_sublist
theorem andP_mem {l : List (List Int)} (hne : l ≠ []) (x : Int) : x ∈ andP l ↔ ∀ a ∈ l.map sndP, x ∈ a := by
  cases l with
  | nil => exact absurd rfl hne
  | cons a t =>
    simp only [andP, List.mem_filter, List.map_cons, List.mem_cons, List.all_eq_true, decide_eq_true_eq]
    constructor
    · rintro ⟨h1, h2⟩ b (rfl | hb)
      · exact h1
      · obtain ⟨c, hc, rfl⟩ := List.mem_map.1 hb
        exact h2 c hc
    · intro h
      exact ⟨h _ (Or.inl rfl), fun b hb => h _ (Or.inr (List.mem_map.2 ⟨b, hb, rfl⟩))⟩

/-- What the program's And tells. -/
theorem and19 (l : List (List Int)) (hl : l.length ≤ 1000000) : postings_And.fL l = some (andP l) := by
  unfold postings_And.fL postings_And.f
  by_cases hne : l = []
  · subst hne
    simp only [if_true]
    exact lim_some _
  · simp only [if_neg hne, if_pos hl]
    show andOutL _ _ _ _ = _
    rw [andOutL_eq]
    have hls : l.map sndP ≠ [] := by simpa using hne
    have hs : ∀ a ∈ l.map sndP, a.Pairwise (· < ·) ∧ (∀ x ∈ a, 0 ≤ x ∧ x ≤ 2147483647) ∧ a.length ≤ 4096 := by
      intro a ha
      obtain ⟨b, _, rfl⟩ := List.mem_map.1 ha
      exact ⟨(snd_all b).2.2, (snd_all b).2.1, (snd_all b).1⟩
    have hpos : 0 < (l.map sndP).length := List.length_pos_iff.2 hls
    obtain ⟨a0, ha0⟩ : ∃ a, (l.map sndP)[0]? = some a := ⟨(l.map sndP)[0], List.getElem?_eq_getElem hpos⟩
    have ha0m : a0 ∈ l.map sndP := List.mem_of_getElem? ha0
    rw [show (l.map sndP).getD 0 [] = a0 by rw [List.getD_eq_getElem?_getD, ha0]; rfl]
    cases a0 with
    | nil =>
      rw [show isP ([] : List Int) = false from rfl, if_neg (by simp)]
      congr 1
      refine sorted_ext List.Pairwise.nil (andP_sorted l) fun x => ⟨fun h => by simp at h, fun h => ?_⟩
      exact (andP_mem hne x).1 h [] ha0m
    | cons n rest =>
      rw [show isP (n :: rest) = true from rfl, if_pos rfl, show hdP (n :: rest) = n from rfl]
      refine and_loops hls hs (andP_sorted l) (andP_mem hne) (2147483648 - n).toNat n (l.map sndP) [] (Nat.le_refl _) ⟨_, ha0m, by simp⟩ ⟨rfl, fun i a b ha hb => ?_⟩ ?_ (l.map sndP).length 0 (by omega) (by omega) (fun i a b h => by omega)
      · rw [ha] at hb
        injection hb with hb
        subst hb
        exact ⟨(hs a (List.mem_of_getElem? ha)).1, rfl⟩
      · refine (List.filter_eq_nil_iff.2 fun x hx => ?_).symm
        have h1 := (andP_mem hne x).1 hx _ ha0m
        have h2 := (hs _ ha0m).1
        simp only [decide_eq_true_eq]
        rcases List.mem_cons.1 h1 with e | h1
        · omega
        · have := (List.pairwise_cons.1 h2).1 x h1
          omega
end Go.Proofs.Ytkfakciimeiehaa.PostBase
