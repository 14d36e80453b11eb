/- Plain law: what is printed is read again. -/
import Derived.Test.YtioefecijidgkaaLbJ
import Derived.Test.YtioefecijidgkaaLbK
set_option linter.unusedVariables false
set_option linter.unusedSimpArgs false
namespace Go.Proofs.Ytioefecijidgkaa.A
open Go Go.Proofs Go.Proofs.YtioefecijidgkaaAbs
def lb1 (x : Lb) : List UInt8 := bs x.name ++ (61 :: 34 :: (esc (bs x.value) ++ [34]))
def tailT : List Lb → List UInt8
  | [] => [125]
  | x :: l => 44 :: (lb1 x ++ tailT l)
theorem cut_at {p r sep : List UInt8} {c : UInt8} {q : List UInt8} (hsep : sep = c :: q) (hp : ∀ x ∈ p, x ≠ c) : Lib.cut (p ++ (sep ++ r)) sep = (p, r, true) := by
  have hi : Lib.index (p ++ (sep ++ r)) sep = p.length := by
    refine Lib.index_first (by simp) ?_ (fun j hj => ?_)
    · unfold Lib.occAt
      rw [List.drop_left]
      simp
    · unfold Lib.occAt
      rw [List.drop_append_of_le_length (by omega), List.drop_eq_getElem_cons hj, hsep]
      simp only [List.cons_append, List.isPrefixOf]
      rw [Bool.and_eq_false_iff]
      refine .inl ?_
      rw [beq_eq_false_iff_ne]
      exact fun e => hp _ (List.getElem_mem hj) e.symm
  unfold Lib.cut
  rw [hi, if_pos (by omega), Int.toNat_natCast, List.take_left, ← List.drop_drop, List.drop_left, List.drop_left]
theorem cut_no {p sep : List UInt8} {c : UInt8} {q : List UInt8} (hsep : sep = c :: q) (hp : ∀ x ∈ p, x ≠ c) : Lib.cut p sep = (p, [], false) := by
  have hi : Lib.index p sep = -1 := by
    refine Lib.index_none (fun j hj => ?_)
    unfold Lib.occAt
    by_cases hjl : j < p.length
    · rw [List.drop_eq_getElem_cons hjl, hsep]
      simp only [List.isPrefixOf]
      rw [Bool.and_eq_false_iff]
      refine .inl ?_
      rw [beq_eq_false_iff_ne]
      exact fun e => hp _ (List.getElem_mem hjl) e.symm
    · rw [List.drop_eq_nil_of_le (by omega), hsep]
      rfl
  unfold Lib.cut
  rw [hi, if_neg (by decide)]
theorem quo_esc (r : List UInt8) : ∀ v : List UInt8, quo (esc v ++ 34 :: r) = some (v, r)
  | [] => quo_q r
  | c :: v => by
    have e : esc (c :: v) = esc1 c ++ esc v := by simp [esc]
    rw [e, esc1]
    by_cases h : c = 34 ∨ c = 92
    · rw [if_pos h]
      show quo (92 :: c :: (esc v ++ 34 :: r)) = _
      rw [quo_b h, quo_esc r v]
      rfl
    · rw [if_neg h]
      show quo (c :: (esc v ++ 34 :: r)) = _
      rw [quo_c (fun e => h (.inl e)) (fun e => h (.inr e)), quo_esc r v]
      rfl
theorem nm_no {s : ByteArray} (h : nmOk s = true) {c : UInt8} (hc : c.toNat < 97 ∨ 122 < c.toNat) : ∀ x ∈ bs s, x ≠ c := by
  simp only [nmOk, Bool.and_eq_true, List.all_eq_true] at h
  intro x hx e
  have := inR_t.1 (h.2 x hx)
  subst e
  omega
theorem parG_lbs : ∀ (l : List Lb) (x : Lb) (n : Nat) (ls : List Lb), l.length < n → ls.length + 1 + l.length ≤ 4 → nmOk x.name = true → (∀ y ∈ l, nmOk y.name = true) → parG n (lb1 x ++ tailT l) ls = some (ls ++ x :: l)
  | l, x, 0, ls, h1, h2, h3, h4 => absurd h1 (Nat.not_lt_zero _)
  | l, x, n + 1, ls, h1, h2, h3, h4 => by
    have hc : Lib.cut (lb1 x ++ tailT l) [61, 34] = (bs x.name, esc (bs x.value) ++ 34 :: tailT l, true) := by
      have := cut_at (p := bs x.name) (r := esc (bs x.value) ++ 34 :: tailT l) (sep := [61, 34]) rfl (nm_no h3 (.inl (by decide)))
      rw [← this]
      congr 1
      simp [lb1]
    have hx : (⟨mkS (bs x.name), mkS (bs x.value)⟩ : Lb) = x := by rw [mk_bs, mk_bs]
    rw [parG, hc]
    simp only [Bool.true_eq_false, if_false, quo_esc, hx]
    cases l with
    | nil =>
      rw [tailT]
      simp only [if_neg (show ¬ ls.length = 4 by simp at h2; omega), if_neg (show ¬ ((125 : UInt8) = 44) by decide), and_self, if_true]
      rw [hx]
    | cons y l =>
      rw [tailT]
      rw [List.length_cons] at h1 h2
      simp only [if_neg (show ¬ ls.length = 4 by omega), if_true]
      rw [hx, parG_lbs l y n (ls ++ [x]) (by omega) (by rw [List.length_append]; simp only [List.length_cons, List.length_nil]; omega) (h4 y (List.mem_cons_self ..)) (fun z hz => h4 z (List.mem_cons_of_mem _ hz)), List.append_assoc]
      rfl
theorem sort_id {l : List Lb} (h : ∀ k, k + 1 < l.length → ltLb (l.getD (k + 1) default) (l.getD k default) = false) : ∀ n, n ≤ l.length → sortTo ltLb default l n = l
  | 0, _ => rfl
  | n + 1, hn => by
    rw [sortTo, sort_id h n (by omega)]
    cases n with
    | zero => rfl
    | succ n => rw [sink, h n (by omega)]; rfl
theorem sortLb_id {s : Ser} (h : serOk s = true) : sortLb s.labels = s.labels := by
  refine sort_id (fun k hk => ?_) _ (Nat.le_refl _)
  have := (serOk_parts h).2.2 (k + 1) hk
  simp only [lbOk, Bool.and_eq_true, Bool.or_eq_true, Nat.add_sub_cancel] at this
  rcases this.2 with h | h
  · simp at h
  · exact sLt_asymm h
theorem textP_tail (s : Ser) : ∀ (a b : List Lb), s.labels = a ++ b → a ≠ [] → textP s a.length ++ tailT b = textP s s.labels.length ++ [125]
  | a, [], h, _ => by rw [h, List.append_nil]; rfl
  | a, y :: b, h, ha => by
    have h' : s.labels = (a ++ [y]) ++ b := by rw [h]; simp
    rw [← textP_tail s (a ++ [y]) b h' (by simp)]
    have hy : s.labels.getD a.length default = y := by rw [h, List.getD_eq_getElem?_getD, List.getElem?_append_right (Nat.le_refl _)]; simp
    have hne : a.length ≠ 0 := fun e => ha (List.eq_nil_of_length_eq_zero e)
    rw [List.length_append, List.length_singleton, textP, labT, hy, if_neg hne, tailT, lb1]
    simp
theorem text_all {s : Ser} {x : Lb} {l : List Lb} (h : s.labels = x :: l) : textP s s.labels.length ++ [125] = bs s.name ++ ([123] ++ (lb1 x ++ tailT l)) := by
  rw [← textP_tail s [x] l h (by simp)]
  rw [List.length_singleton, textP, textP, labT, if_pos rfl, h, lb1]
  simp
theorem parS_prT {s : Ser} (h : serOk s = true) : parS (prT s) = some s := by
  obtain ⟨h1, h2, h3⟩ := serOk_parts h
  have hno := nm_no h1 (c := 123) (.inr (by decide))
  have key : parAll (bs (prT s)) = some s.labels ∧ (Lib.cut (bs (prT s)) [123]).1 = bs s.name := by
    rw [prT, if_pos h]
    by_cases h0 : s.labels.length = 0
    · rw [if_pos h0]
      have hl : s.labels = [] := List.eq_nil_of_length_eq_zero h0
      unfold parAll
      rw [cut_no (sep := [123]) rfl hno, hl]
      exact ⟨rfl, rfl⟩
    · rw [if_neg h0]
      obtain ⟨x, l, hl⟩ : ∃ x l, s.labels = x :: l := by
        cases hs : s.labels with
        | nil => rw [hs] at h0; exact absurd rfl h0
        | cons x l => exact ⟨x, l, rfl⟩
      rw [show bs (mkS (textP s s.labels.length ++ [125])) = textP s s.labels.length ++ [125] from rfl, text_all hl]
      unfold parAll
      rw [cut_at (sep := [123]) rfl hno]
      have hnm : ∀ y ∈ s.labels, nmOk y.name = true := by
        intro y hy
        obtain ⟨i, hi, rfl⟩ := List.mem_iff_getElem.1 hy
        have := (lbOk_parts (h3 i hi)).1
        rwa [getD_get hi] at this
      have hlen : s.labels.length = l.length + 1 := by rw [hl]; rfl
      refine ⟨?_, rfl⟩
      rw [if_pos rfl, parG_lbs l x 5 [] (by omega) (by simp only [List.length_nil]; omega) (hnm x (by rw [hl]; exact List.mem_cons_self ..)) (fun y hy => hnm y (by rw [hl]; exact List.mem_cons_of_mem _ hy)), hl]
      rfl
  have he : (⟨mkS (Lib.cut (bs (prT s)) [123]).1, sortLb s.labels⟩ : Ser) = s := by
    rw [key.2, sortLb_id h, mk_bs]
  unfold parS
  rw [key.1, Option.bind_some, he, if_pos h]
end Go.Proofs.Ytioefecijidgkaa.A
