/- Plain law: the two readings of a text come to the same series: the order of labels. -/
import Derived.Test.YtioefecijidgkaaLbM
import Derived.Test.YtioefecijidgkaaLbP
set_option linter.unusedVariables false
set_option linter.unusedSimpArgs false
namespace Go.Proofs.Ytioefecijidgkaa.A
open Go Go.Proofs Go.Proofs.YtioefecijidgkaaAbs
def nms (l : List Lb) : List ByteArray := l.map Lb.name
/-- Each ahead of each. -/
def upL (l : List Lb) : Prop := l.Pairwise fun x y => sLt x.name y.name = true
theorem sink_perm {l : List Lb} : ∀ {j : Nat}, j < l.length → (sink ltLb default l j).Perm l := by
  intro j
  induction j generalizing l with
  | zero => intro _; exact List.Perm.refl _
  | succ j ih =>
    intro hj
    rw [sink]
    split
    · refine (ih (by simp; omega)).trans ?_
      rw [getD_get hj, getD_get (show j < l.length by omega)]
      exact List.set_set_perm hj (by omega)
    · exact List.Perm.refl _
theorem sortTo_perm {l : List Lb} : ∀ {i : Nat}, i ≤ l.length → (sortTo ltLb default l i).Perm l
  | 0, _ => List.Perm.refl _
  | i + 1, hi => by
    rw [sortTo]
    exact (sink_perm (by rw [sortTo_length]; omega)).trans (sortTo_perm (by omega))
theorem sortLb_perm (l : List Lb) : (sortLb l).Perm l := sortTo_perm (Nat.le_refl _)
theorem insLb_perm (l : List Lb) (x : Lb) : (insLb l x).Perm (x :: l) := by
  unfold insLb
  rw [List.append_assoc]
  refine List.perm_append_comm_assoc .. |>.trans ?_
  rw [List.take_append_drop]
  exact List.Perm.refl _
theorem foldIns_perm : ∀ (new acc : List Lb), (new.foldl insLb acc).Perm (acc ++ new)
  | [], acc => by rw [List.append_nil]; exact List.Perm.refl _
  | x :: new, acc => by
    rw [List.foldl_cons]
    refine (foldIns_perm new (insLb acc x)).trans ?_
    refine ((insLb_perm acc x).append_right new).trans ?_
    rw [List.cons_append]
    exact (List.perm_middle).symm
/-- An element goes down past what is behind it. -/
theorem sink_at (A S : List Lb) (x : Lb) (hA : ∀ y ∈ A, ltLb x y = false) : ∀ (n : Nat) (B : List Lb) (S : List Lb), B.length = n → (∀ y ∈ B, ltLb x y = true) → sink ltLb default (A ++ B ++ x :: S) (A.length + B.length) = A ++ x :: B ++ S
  | 0, B, S, hn, hB => by
    obtain rfl := List.eq_nil_of_length_eq_zero hn
    rw [List.append_nil, List.length_nil, Nat.add_zero]
    rcases List.eq_nil_or_concat A with rfl | ⟨A', z, rfl⟩
    · simp [sink]
    · have hz := hA z (by simp)
      rw [List.concat_eq_append]
      have e1 : (A' ++ [z]).length = A'.length + 1 := by simp
      have g1 : (A' ++ [z] ++ x :: S).getD (A'.length + 1) default = x := by
        rw [List.getD_eq_getElem?_getD, List.getElem?_append_right (by simp)]; simp
      have g2 : (A' ++ [z] ++ x :: S).getD A'.length default = z := by
        rw [List.getD_eq_getElem?_getD, List.append_assoc, List.getElem?_append_right (Nat.le_refl _)]; simp
      rw [e1, sink, g1, g2, hz]
      simp
  | n + 1, B, S, hn, hB => by
    rcases List.eq_nil_or_concat B with rfl | ⟨B', z, rfl⟩
    · cases hn
    · rw [List.concat_eq_append] at hn hB ⊢
      have hz := hB z (by simp)
      have e1 : A.length + (B' ++ [z]).length = (A.length + B'.length) + 1 := by simp; omega
      have e2 : A ++ (B' ++ [z]) ++ x :: S = (A ++ B') ++ z :: x :: S := by simp
      have g1 : ((A ++ B') ++ z :: x :: S).getD (A.length + B'.length + 1) default = x := by
        rw [List.getD_eq_getElem?_getD, List.getElem?_append_right (by simp <;> omega)]; simp
      have g2 : ((A ++ B') ++ z :: x :: S).getD (A.length + B'.length) default = z := by
        rw [List.getD_eq_getElem?_getD, List.getElem?_append_right (by simp)]; simp
      have e3 : (((A ++ B') ++ z :: x :: S).set (A.length + B'.length + 1) z).set (A.length + B'.length) x = A ++ B' ++ x :: (z :: S) := by
        rw [List.set_append_right _ _ (by simp <;> omega), List.set_append_right _ _ (by simp)]
        simp
      rw [e1, e2, sink, g1, g2, hz, if_pos rfl, e3, sink_at A S x hA n B' (z :: S) (by simpa using hn) (fun y hy => hB y (by simp [hy]))]
      simp
theorem posL_take {n : ByteArray} : ∀ {l : List Lb}, ∀ y ∈ l.take (posL n l), sLt y.name n = true
  | [], y, hy => by simp at hy
  | z :: l, y, hy => by
    rw [posL] at hy
    split at hy
    · rename_i h
      rw [List.take_succ_cons] at hy
      rcases List.mem_cons.1 hy with rfl | hy
      · exact h
      · exact posL_take y hy
    · simp at hy
theorem posL_drop {n : ByteArray} : ∀ {l : List Lb}, upL l → (∀ y ∈ l, y.name ≠ n) → ∀ y ∈ l.drop (posL n l), sLt n y.name = true
  | [], _, _, y, hy => by simp at hy
  | z :: l, hu, hne, y, hy => by
    rw [posL] at hy
    have hu' := List.pairwise_cons.1 hu
    split at hy
    · rw [List.drop_succ_cons] at hy
      exact posL_drop hu'.2 (fun y hy => hne y (List.mem_cons_of_mem _ hy)) y hy
    · rename_i h
      have hz : sLt n z.name = true := by
        cases hh : sLt n z.name with
        | true => rfl
        | false => exact absurd (sLt_total (by simpa using h) hh) (hne z (List.mem_cons_self ..))
      rw [List.drop_zero] at hy
      rcases List.mem_cons.1 hy with rfl | hy
      · exact hz
      · exact sLt_trans hz (hu'.1 y hy)
theorem insLb_up {l : List Lb} {x : Lb} (hu : upL l) (hne : ∀ y ∈ l, y.name ≠ x.name) : upL (insLb l x) := by
  unfold insLb upL
  have hd := posL_drop hu hne
  have ht := posL_take (n := x.name) (l := l)
  have hsp : (l.take (posL x.name l) ++ l.drop (posL x.name l)).Pairwise fun x y => sLt x.name y.name = true := by rw [List.take_append_drop]; exact hu
  rw [List.pairwise_append] at hsp
  rw [List.append_assoc, List.pairwise_append]
  refine ⟨hsp.1, List.pairwise_cons.2 ⟨fun y hy => hd y hy, hsp.2.1⟩, fun a ha b hb => ?_⟩
  rcases List.mem_cons.1 hb with rfl | hb
  · exact ht a ha
  · exact hsp.2.2 a ha b hb
/-- The insertion sort puts each where the document puts it. -/
theorem sort_fold : ∀ (i : Nat) (l : List Lb), i ≤ l.length → (nms l).Nodup → sortTo ltLb default l i = (l.take i).foldl insLb [] ++ l.drop i ∧ upL ((l.take i).foldl insLb [])
  | 0, l, _, _ => ⟨by simp [sortTo], by simp [upL]⟩
  | i + 1, l, hi, hn => by
    obtain ⟨h1, h2⟩ := sort_fold i l (by omega) hn
    obtain ⟨F, hF⟩ : ∃ F, F = (l.take i).foldl insLb [] := ⟨_, rfl⟩
    rw [← hF] at h1 h2
    have hFp : F.Perm (l.take i) := by rw [hF]; simpa using foldIns_perm (l.take i) []
    have hFl : F.length = i := by rw [hFp.length_eq, List.length_take]; omega
    obtain ⟨x, hx⟩ : ∃ x, x = l.getD i default := ⟨_, rfl⟩
    have htk : l.take (i + 1) = l.take i ++ [x] := by rw [hx]; exact take_succ_getD default (by omega)
    have hdr : l.drop i = x :: l.drop (i + 1) := by rw [hx]; exact drop_getD default (by omega)
    have hne : ∀ y ∈ F, y.name ≠ x.name := by
      intro y hy e
      have hy' := hFp.mem_iff.1 hy
      have hnn : (nms (l.take (i + 1) ++ l.drop (i + 1))).Nodup := by rw [List.take_append_drop]; exact hn
      rw [htk, nms, List.map_append, List.map_append, List.append_assoc] at hnn
      have := (List.nodup_append.1 hnn).2.2 y.name (List.mem_map_of_mem hy') x.name (by simp)
      exact this e
    have hA := posL_take (n := x.name) (l := F)
    have hB := posL_drop h2 hne
    rw [htk, List.foldl_append, List.foldl_cons, List.foldl_nil, ← hF]
    refine ⟨?_, insLb_up h2 hne⟩
    rw [sortTo, h1, hdr]
    have hsp : F ++ x :: l.drop (i + 1) = F.take (posL x.name F) ++ F.drop (posL x.name F) ++ x :: l.drop (i + 1) := by rw [List.take_append_drop]
    have hln : i = (F.take (posL x.name F)).length + (F.drop (posL x.name F)).length := by rw [← List.length_append, List.take_append_drop, hFl]
    rw [hsp]
    have := sink_at (F.take (posL x.name F)) [] x (fun y hy => sLt_asymm (hA y hy)) _ (F.drop (posL x.name F)) (l.drop (i + 1)) rfl (fun y hy => hB y hy)
    rw [← hln] at this
    rw [this, insLb]
    simp
theorem sort_same {l : List Lb} (h : (nms l).Nodup) : sortLb l = l.foldl insLb [] := by
  have := (sort_fold l.length l (Nat.le_refl _) h).1
  rw [List.take_length, List.drop_length, List.append_nil] at this
  exact this
theorem ok_nodup {s : Ser} (h : serOk s = true) : (nms s.labels).Nodup := by
  have hl := (serOk_parts h).2.2
  have key : ∀ j, j < s.labels.length → ∀ i, i < j → sLt (s.labels.getD i default).name (s.labels.getD j default).name = true := by
    intro j
    induction j with
    | zero => intro _ i hi; omega
    | succ j ih =>
      intro hj i hi
      have := hl (j + 1) hj
      simp only [lbOk, Bool.and_eq_true, Bool.or_eq_true, Nat.add_sub_cancel] at this
      have h1 : sLt (s.labels.getD j default).name (s.labels.getD (j + 1) default).name = true := by
        rcases this.2 with h | h
        · simp at h
        · exact h
      by_cases e : i = j
      · subst e; exact h1
      · exact sLt_trans (ih (by omega) i (by omega)) h1
  unfold nms List.Nodup
  rw [List.pairwise_map, List.pairwise_iff_getElem]
  intro i j hi hj hij
  have := key j hj i hij
  rw [getD_get hi, getD_get hj] at this
  exact sLt_ne this
theorem ok_same (nm : ByteArray) (new : List Lb) (h : serOk ⟨nm, sortLb new⟩ = true ∨ serOk ⟨nm, new.foldl insLb []⟩ = true) : sortLb new = new.foldl insLb [] := by
  apply sort_same
  rcases h with h | h
  · have := ok_nodup h
    exact ((sortLb_perm new).map Lb.name).nodup_iff.1 this
  · have := ok_nodup h
    have hp : (new.foldl insLb []).Perm new := by simpa using foldIns_perm new []
    exact (hp.map Lb.name).nodup_iff.1 this
end Go.Proofs.Ytioefecijidgkaa.A
