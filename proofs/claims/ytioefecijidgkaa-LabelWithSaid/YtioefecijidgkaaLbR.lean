/- slices.IndexFunc, slices.BinarySearchFunc at labels, and With's two closures. -/
import Derived.Test.YtioefecijidgkaaLbQ
import Derived.Test.YtioefecijidgkaaLbL
import Derived.Test.YtioefecijidgkaaAbsBs
set_option linter.unusedVariables false
set_option linter.unusedSimpArgs false
namespace Go.Proofs.Ytioefecijidgkaa.A
open Go Go.Proofs Go.Proofs.YtioefecijidgkaaAbs
abbrev nmF (name : ByteArray) : Pt := .one (.fn n_label_With_1 1 fun _ => .ip 1 fun _ => .v (.string name))
theorem With1_rc (x : Lb) (name : ByteArray) (M : List Blk) : CallR Try.prog M n_label_With_1 [.agg [.c (.v (.string x.name)), .c (.v (.string x.value))], .one (.ip 1 fun _ => .v (.string name))] (.b (decide (x.name = name))) M := by
  refine callP F_label_With_1 (Nat.le_of_ble_eq_true rfl) (by simp only [go_sem]) (by simp only [go_sem]) ?_ M
  simp only [c_label_With_1, go_sem]
theorem With2_rc (x : Lb) (name : ByteArray) (M : List Blk) : CallR Try.prog M n_label_With_2 [.agg [.c (.v (.string x.name)), .c (.v (.string x.value))], .s name] (.i (cmpS x.name name)) M := by
  refine callP F_label_With_2 (Nat.le_of_ble_eq_true rfl) (by simp only [go_sem]) (by simp only [go_sem]) ?_ M
  simp only [c_label_With_2, go_sem]
  refine call0 (Compare_rc _ _) ?_
  simp only [go_sem]
def atL (l : List Lb) (name : ByteArray) : Nat := l.findIdx fun x => decide (x.name = name)
theorem IndexFunc_rc (l : List Lb) (hl : l.length ≤ 100) (name : ByteArray) (M : List Blk) : CallR Try.prog M n_slices_IndexFunc_api_Label_api_Label [lbL l, nmF name] (.i (if atL l name < l.length then (atL l name : Int) else -1)) M := by
  refine callP F_slices_IndexFunc_api_Label_api_Label (Nat.le_of_ble_eq_true rfl) (by simp only [go_sem]) (by simp only [go_sem]) ?_ M
  simp only [c_slices_IndexFunc_api_Label_api_Label, go_sem]
  refine V_loop (ι := Nat) (J := fun k => k ≤ l.length ∧ ∀ i, i < k → (l.getD i default).name ≠ name) (env := fun k => [(0, .p (lbL l)), (1, .p (nmF name)), (7, .i l.length), (8, .i k)]) (mem := fun _ => []) (μ := fun k => l.length - k) 0 ⟨Nat.zero_le _, fun i hi => absurd hi (Nat.not_lt_zero _)⟩ (into0 (by simp only [go_sem])) ?_
  rintro k ⟨hk, hne⟩
  simp only [go_sem]
  refine ⟨fun h1 => ⟨by omega, ?_⟩, fun h1 => ?_⟩
  · refine call0 (fun M => With1_rc (l.getD k default) name M) ?_
    simp only [go_sem]
    refine ⟨fun hc => ?_, fun hc => ⟨k + 1, ⟨by omega, fun i hi => ?_⟩, by omega, into0 ?_⟩⟩
    · have : atL l name = k := by
        rw [atL, List.findIdx_eq h1]
        refine ⟨by simpa [List.getD_eq_getElem?_getD, h1] using hc, fun i hi => ?_⟩
        simpa [List.getD_eq_getElem?_getD, show i < l.length by omega] using hne i hi
      rw [this, if_pos h1]
    · by_cases e : i = k
      · subst e; exact hc
      · exact hne i (by omega)
    · simp only [go_sem, w64s (show k < 9223372036854775807 by omega)]
  · rw [if_neg]
    have : atL l name = l.length := by
      rw [atL, List.findIdx_eq_length]
      intro y hy
      obtain ⟨j, hj, rfl⟩ := List.mem_iff_getElem.1 hy
      simpa [List.getD_eq_getElem?_getD, hj] using hne j (by omega)
    omega
def bsAt (l : List Lb) (name : ByteArray) : Nat := bsF (fun i => decide (cmpS (l.getD i default).name name < 0)) 0 l.length
theorem Bs_rc (l : List Lb) (hl : l.length ≤ 100) (name : ByteArray) (M : List Blk) : CallR Try.prog M n_slices_BinarySearchFunc_api_Label_api_Label_string [lbL l, .s name, .one (.fn n_label_With_2 0 fun _ => default)]
    (.tup [.i (bsAt l name : Nat), .b (decide (bsAt l name < l.length) && (cmpS (l.getD (bsAt l name) default).name name == 0))]) M :=
  bs_rc F_slices_BinarySearchFunc_api_Label_api_Label_string l.length (by omega) (fun i j => (l.getD i default).c j) (.s name) n_label_With_2 0 (fun _ => default) (fun i => cmpS (l.getD i default).name name) (by simp only [go_sem]) (fun i hi => absurd hi (Nat.not_lt_zero _)) (fun i hi M => With2_rc (l.getD i default) name M) M
theorem sl2 {M : List Blk} {X Y Z : Blk} {c : Nat} : (M.set c X ++ [Y]).set M.length Z = M.set c X ++ [Z] := by
  rw [List.set_append_right _ _ (by simp), List.length_set, Nat.sub_self]; rfl
def delL (l : List Lb) (name : ByteArray) : List Lb := l.filter fun x => !decide (x.name = name)
def zLb : Lb := ⟨mkS [], mkS []⟩
def delZ (l : List Lb) (name : ByteArray) : List Lb := delL l name ++ List.replicate (l.length - (delL l name).length) zLb
theorem lb_snap (l : List Lb) {M : List Blk} {c v : Nat} {f : Bool} (hc : M[c]? = some (.rows 83 2 v (lbRows l) f)) : SnapP M (.one (.arr 2 c v 0 l.length)) (lbL l) := by
  refine Snap.arr 2 c v 0 l.length 83 (lbRows l) f _ hc (by rw [lbRows_len]; omega) (fun i hi j hj => ?_)
  have : (lbRows l).getD (0 + i) [] = lbRow (l.getD i default) := by
    rw [Nat.zero_add, List.getD_eq_getElem?_getD, List.getD_eq_getElem?_getD, lbRows, List.getElem?_map, List.getElem?_eq_getElem hi]; rfl
  rw [this]
  match j, hj with
  | 0, _ => exact Snap.same _ trivial
  | 1, _ => exact Snap.same _ trivial
set_option maxRecDepth 20000 in
theorem DeleteFunc_rc {M : List Blk} {c v : Nat} {f : Bool} {l : List Lb} (hc : M[c]? = some (.rows 83 2 v (lbRows l) f)) (hl : l.length ≤ 100) (hMB : ∀ x ∈ M, ltB M.length x) (name : ByteArray) :
    CallR Try.prog M n_slices_DeleteFunc_api_Label_api_Label [.one (.arr 2 c v 0 l.length), nmF name] (.p (.one (.arr 2 c v 0 (delL l name).length))) (M.set c (.rows 83 2 v (lbRows (delZ l name)) f)) := by
  have hcl : c < M.length := getElem?_lt hc
  refine callR_intro F_slices_DeleteFunc_api_Label_api_Label (by simp) ?_
  refine run_seqV ?_
  simp only [go_sem]
  refine run_seqV ?_
  simp only [go_sem]
  have hI : CallR Try.prog M n_slices_IndexFunc_api_Label_api_Label [.one (.arr 2 c v 0 l.length), nmF name] (.i (if atL l name < l.length then (atL l name : Int) else -1)) M := callR_lend (IndexFunc_rc l hl name []) ⟨lb_snap l hc, Snap.same _ (fun i hi => trivial), trivial⟩ (by simp only [go_sem])
  refine call1 hI (by simp only [go_sem]) (fun h => Bool.noConfusion h) ?_
  simp only [go_sem]
  refine run_seqV ?_
  by_cases hat : atL l name < l.length
  case neg =>
    rw [if_neg hat]
    have hd : delL l name = l := by
      unfold delL
      rw [List.filter_eq_self]
      intro x hx
      have : atL l name = l.length := by have : atL l name ≤ l.length := List.findIdx_le_length; omega
      unfold atL at this
      rw [List.findIdx_eq_length] at this
      rw [this x hx]; rfl
    have hz : delZ l name = l := by rw [delZ, hd, Nat.sub_self, List.replicate_zero, List.append_nil]
    rw [hd, hz, set_self hc]
    simp only [go_sem]
    refine fin_own (.inr rfl) (Gh.refl _) [] (cnd := True) rfl trivial (List.append_nil _).symm ?_ ?_ ?_ ?_
    · exact leS_of rfl
    · exact Nat.le_refl _
    · simp only [go_sem]; exact hcl
    · exact hMB
  rw [if_pos hat]
  simp only [go_sem]
  obtain ⟨n, hn⟩ : ∃ n, n = l.length := ⟨_, rfl⟩
  have e1 : IntKind.i64.wrap ((atL l name : Int) + 1) = ((atL l name + 1 : Nat) : Int) := w64s (by omega)
  have hat1 : delL (l.take (atL l name + 1)) name = l.take (atL l name) := by
    rw [take_succ_getD default hat, delL, List.filter_append]
    have h1 : (l.getD (atL l name) default).name = name := by
      have := List.findIdx_getElem (p := fun x : Lb => decide (x.name = name)) (xs := l) (w := hat)
      rw [getD_get hat]
      exact of_decide_eq_true this
    have h2 : (l.take (atL l name)).filter (fun x => !decide (x.name = name)) = l.take (atL l name) := by
      rw [List.filter_eq_self]
      intro x hx
      obtain ⟨i, hi, rfl⟩ := List.mem_iff_getElem.1 hx
      rw [List.length_take] at hi
      rw [List.getElem_take]
      have := List.not_of_lt_findIdx (p := fun x : Lb => decide (x.name = name)) (xs := l) (i := i) (by show i < atL l name; omega)
      simpa using this
    rw [h2, List.filter_cons]
    simp only [h1, decide_true, Bool.not_true, Bool.false_eq_true, if_false, List.filter_nil, List.append_nil]
  refine run_seqV ?_
  simp only [go_sem, e1]
  refine R_loop (ι := Nat × List Lb) (J := fun p => p.1 ≤ l.length ∧ (delL (l.take p.1) name).length < p.1 ∧ p.2.length = l.length ∧ p.2.take (delL (l.take p.1) name).length = delL (l.take p.1) name ∧ p.2.drop p.1 = l.drop p.1)
    (env := fun p => [(0, .p (.one (.arr 2 c v 0 l.length))), (1, .p (nmF name)), (5, .i (delL (l.take p.1) name).length), (6, .i p.1)])
    (mem := fun p => M.set c (.rows 83 2 v (lbRows p.2) f)) (μ := fun p => l.length - p.1) (atL l name + 1, l) ⟨hat, ?_, rfl, ?_, rfl⟩ ⟨[], ?_, ?_, ?_, ?_⟩ ?_
  · rw [hat1, List.length_take]; omega
  · rw [hat1, List.length_take, Nat.min_eq_left (by omega)]
  · rw [List.append_nil, set_self hc]
  · rw [List.length_set]; exact Nat.le_refl _
  · simp only [go_sem, hat1, List.length_take, List.length_set, Nat.min_eq_left (Nat.le_of_lt hat)]
    exact hcl
  · exact ltB_setRows hMB
  rintro ⟨j, cur⟩ ⟨hj, hij, hcl2, htk, hdr⟩
  simp only at hj hij hcl2 htk hdr
  refine run_seqV ?_
  simp only [go_sem, gb hcl, lbRows_len, hcl2]
  obtain ⟨i, hi⟩ : ∃ i, i = (delL (l.take j) name).length := ⟨_, rfl⟩
  rw [← hi] at hij htk ⊢
  have e2 : IntKind.i64.wrap ((i : Int) + 1) = ((i + 1 : Nat) : Int) := w64s (by omega)
  have e3 : IntKind.i64.wrap ((j : Int) + 1) = ((j + 1 : Nat) : Int) := w64s (by omega)
  refine ⟨fun h1 => ?_, fun h1 => ?_⟩
  · have hx : cur.getD j default = l.getD j default := by
      have a := drop_getD (d := (default : Lb)) (l := cur) (k := j) (by omega)
      have b := drop_getD (d := (default : Lb)) (l := l) (k := j) h1
      rw [a, b] at hdr
      exact (List.cons.inj hdr).1
    have hdr' : cur.drop (j + 1) = l.drop (j + 1) := by
      have := congrArg List.tail hdr
      simpa using this
    have hrow : (lbRows cur).getD j [] = lbRow (l.getD j default) := by
      rw [← hx, List.getD_eq_getElem?_getD, List.getD_eq_getElem?_getD, lbRows, List.getElem?_map, List.getElem?_eq_getElem (show j < cur.length by omega)]; rfl
    have htj : l.take (j + 1) = l.take j ++ [l.getD j default] := take_succ_getD default h1
    refine run_seq ?_
    refine run_block ?_
    refine run_seqV ?_
    simp only [go_sem, gb hcl, lbRows_len, hcl2, hrow, List.length_set, lbRow, gl2, sl2]
    generalize l.getD j default = x at hx hrow htj ⊢
    refine ⟨by omega, by omega, ?_⟩
    refine run_seqV ?_
    simp only [go_sem, gl2]
    refine call0 (fun M => With1_rc x name M) ?_
    simp only [go_sem]
    by_cases hxn : x.name = name
    · have hi' : i = (delL (l.take (j + 1)) name).length := by
        rw [hi, htj, delL, delL, List.filter_append, List.filter_cons]
        simp only [hxn, decide_true, Bool.not_true, Bool.false_eq_true, if_false, List.filter_nil, List.append_nil]
      refine V_sound ?_
      simp only [go_sem, hxn, decide_true, Bool.not_true]
      refine V_sound ?_
      simp only [go_sem, e3]
      refine ⟨(j + 1, cur), ⟨h1, by rw [← hi']; omega, hcl2, by rw [← hi']; rw [htk, htj, delL, delL, List.filter_append, List.filter_cons]; simp only [hxn, decide_true, Bool.not_true, Bool.false_eq_true, if_false, List.filter_nil, List.append_nil], hdr'⟩, by simp only []; omega, [_], rfl, by rw [List.length_set]; exact Nat.le_refl _, ?_, ltB_setRows hMB⟩
      simp only [go_sem, List.length_set, ← hi']
      exact hcl
    · have hdx : delL (l.take (j + 1)) name = delL (l.take j) name ++ [x] := by
        rw [htj, delL, List.filter_append, List.filter_cons]
        simp [hxn, delL]
      have hi' : (delL (l.take (j + 1)) name).length = i + 1 := by rw [hdx, List.length_append, ← hi]; rfl
      refine V_sound ?_
      simp only [go_sem, hxn, decide_false, Bool.not_false, gl2, ga, sa, gb, hcl, List.length_set, lbRows_len, hcl2, List.set_set, e2]
      have hrl : (lbRows cur).getD i [] = lbRow (cur.getD i default) := by
        rw [List.getD_eq_getElem?_getD, List.getD_eq_getElem?_getD, lbRows, List.getElem?_map, List.getElem?_eq_getElem (show i < cur.length by omega)]; rfl
      have hset : (lbRows cur).set i ((((lbRows cur).getD i []).set 0 (.c (.v (.string x.name)))).set 1 (.c (.v (.string x.value)))) = lbRows (cur.set i x) := by
        rw [hrl, lbRows, lbRows, List.map_set]
        rfl
      refine ⟨by omega, ⟨by omega, by rw [hrl]; exact Nat.le_refl _⟩, V_sound ?_⟩
      simp only [go_sem, e3, hset]
      refine ⟨(j + 1, cur.set i x), ⟨h1, by rw [hi']; omega, by simp only [List.length_set]; exact hcl2, ?_, ?_⟩, by simp only []; omega, [_], rfl, by rw [List.length_set]; exact Nat.le_refl _, ?_, ltB_setRows hMB⟩
      · rw [hi', hdx, ← htk, take_succ_getD default (by rw [List.length_set]; omega), List.take_set_of_le (Nat.le_refl _)]
        congr 1
        rw [List.getD_eq_getElem?_getD, List.getElem?_set, if_pos rfl, if_pos (by omega)]
        rfl
      · rw [List.drop_set_of_lt (by omega)]; exact hdr'
      simp only [go_sem, List.length_set, hi']
      exact hcl
  · have hjn : j = l.length := by omega
    subst hjn
    rw [List.take_length] at hi htk
    refine V_sound ?_
    have hil : ¬ (i = l.length ∧ ¬ (i : Int) = 0) := by omega
    simp only [go_sem, gb hcl, lbRows_len, hcl2, List.length_set, hcl, if_neg hil, List.set_set]
    have hrows : List.take i (lbRows cur) ++ List.replicate (l.length - i) [AV.c (CV.v (Value.string ⟨#[]⟩)), AV.c (CV.v (Value.string ⟨#[]⟩))] ++ List.drop (i + (l.length - i)) (lbRows cur) = lbRows (delZ l name) := by
      rw [List.drop_eq_nil_of_le (by rw [lbRows_len]; omega), List.append_nil, delZ, ← hi, ← htk, lbRows, lbRows, List.map_append, List.map_take, List.map_replicate]
      rfl
    rw [hrows, ← hi]
    refine ⟨by omega, by omega, ⟨by omega, .inl (by omega)⟩, fin_own (.inr rfl) (Gh.refl _) [] (cnd := True) rfl trivial (List.append_nil _).symm ?_ ?_ ?_ ?_⟩
    · exact leS_of rfl
    · rw [List.length_set]; exact Nat.le_refl _
    · simp only [go_sem, List.length_set]
      exact hcl
    · exact ltB_setRows hMB
end Go.Proofs.Ytioefecijidgkaa.A
