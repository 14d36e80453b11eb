/- slices.SortFunc at labels: the walk, at no more than 12 of them. -/
import Derived.Test.YtioefecijidgkaaLbD
import Derived.Test.YtioefecijidgkaaAbsSort
set_option linter.unusedVariables false
set_option linter.unusedSimpArgs false
namespace Go.Proofs.Ytioefecijidgkaa.A
open Go Go.Proofs Go.Proofs.YtioefecijidgkaaAbs
theorem Parse1_rc (x y : Lb) (M : List Blk) : CallR Try.prog M n_label_Parse_1 [.agg [.c (.v (.string x.name)), .c (.v (.string x.value))], .agg [.c (.v (.string y.name)), .c (.v (.string y.value))]] (.i (cmpS x.name y.name)) M := by
  refine callP F_label_Parse_1 (Nat.le_of_ble_eq_true rfl) (by simp only [go_sem]) (by simp only [go_sem]) ?_ M
  simp only [c_label_Parse_1, go_sem]
  refine call0 (Compare_rc _ _) ?_
  simp only [go_sem]
def lbRow (x : Lb) : List AV := [.c (.v (.string x.name)), .c (.v (.string x.value))]
def lbRows (l : List Lb) : List (List AV) := l.map lbRow
@[go_sem] theorem lbRows_len (l : List Lb) : (lbRows l).length = l.length := List.length_map ..
theorem lt_lbRows (n : Nat) (l : List Lb) : ∀ r ∈ lbRows l, r.length = 2 ∧ ∀ a ∈ r, ltA n a := by
  intro r hr
  obtain ⟨x, _, rfl⟩ := List.mem_map.1 hr
  refine ⟨rfl, fun a ha => ?_⟩
  rcases List.mem_cons.1 ha with rfl | ha
  · trivial
  · obtain rfl := List.mem_singleton.1 ha; trivial
def ltLb (x y : Lb) : Bool := sLt x.name y.name
/-- The labels in their order. -/
def sortLb (l : List Lb) : List Lb := sortTo ltLb default l l.length
def cmpRow (x y : List AV) : Int := match x, y with
  | [.c (.v (.string a)), _], [.c (.v (.string b)), _] => cmpS a b
  | _, _ => 0
theorem cmpS_neg (a b : ByteArray) : decide (cmpS a b < 0) = sLt a b := by
  unfold cmpS
  cases h : sLt a b with
  | true => simp
  | false =>
    cases k : sLt b a <;> simp
theorem sort_rows (l : List Lb) : sortTo (fun x y => decide (cmpRow x y < 0)) [] (lbRows l) l.length = lbRows (sortLb l) := by
  unfold lbRows sortLb
  exact sortTo_map (lt := ltLb) (f := lbRow) (fun x y => cmpS_neg _ _) (Nat.le_refl _)
variable {M : List Blk} {b v : Nat} {l : List Lb} {f : Bool}
abbrev cmpF : Pt := .one (.fn n_label_Parse_1 0 fun _ => default)
theorem isort (hb : M[b]? = some (.rows 83 2 v (lbRows l) f)) (hn : l.length ≤ 12) (hMB : ∀ x ∈ M, ltB M.length x) :
    CallR Try.prog M n_slices_insertionSortCmpFunc_api_Label [.one (.arr 2 b v 0 l.length), .i 0, .i l.length, cmpF] (.tup []) (M.set b (.rows 83 2 v (lbRows (sortLb l)) f)) := by
  have hbl : b < M.length := getElem?_lt hb
  by_cases h0 : l.length = 0
  · obtain rfl : l = [] := List.eq_nil_of_length_eq_zero h0
    refine callR_intro F_slices_insertionSortCmpFunc_api_Label (by simp) ?_
    refine V_sound ?_
    simp only [c_slices_insertionSortCmpFunc_api_Label, go_sem]
    have e1 : IntKind.i64.wrap ((0 : Int) + 1) = ((1 : Nat) : Int) := by decide
    refine V_loop (ι := Unit) (J := fun _ => True) (env := fun _ => [(2, .i 0), (8, .i 1)]) (mem := fun _ => M) (μ := fun _ => 0) () trivial ⟨[], (List.append_nil _).symm, Nat.le_refl _, ?_, hMB⟩ ?_
    · simp only [go_sem, e1, List.length_nil, Int.natCast_zero]
    rintro ⟨⟩ _
    simp only [go_sem]
    refine fin_own (.inl rfl) (Gh.refl _) [] (qs := []) (cnd := True) rfl trivial (by rw [List.append_nil]; exact (set_self hb).symm) ?_ ?_ ?_ ?_
    · show leS (SV.tup []) (SV.tup []); rw [leS_self]; trivial
    · rw [List.length_set]; exact Nat.le_refl _
    · simp only [go_sem]
    · rw [show sortLb [] = [] from rfl, set_self hb]; exact hMB
  have := isort_rc (b := b) (P := Try.prog) F_slices_insertionSortCmpFunc_api_Label (by decide) hb (by rw [lbRows_len]; omega) (by rw [lbRows_len]; omega) (fun r hr => lt_lbRows 0 l r hr) hMB n_label_Parse_1 0 (fun _ => default) cmpRow (fun i hi => absurd hi (Nat.not_lt_zero _)) (fun x hx y hy M => ?_)
  · rw [lbRows_len, sort_rows] at this
    exact this
  · obtain ⟨x, _, rfl⟩ := List.mem_map.1 hx
    obtain ⟨y, _, rfl⟩ := List.mem_map.1 hy
    exact Parse1_rc x y M
theorem ltB_lbRows (n v : Nat) (l : List Lb) (f : Bool) : ltB n (.rows 83 2 v (lbRows l) f) := fun r hr => (lt_lbRows n l r hr).2
theorem ltB_setRows (hMB : ∀ x ∈ M, ltB M.length x) : ∀ x ∈ M.set b (.rows 83 2 v (lbRows l) f), ltB (M.set b (.rows 83 2 v (lbRows l) f)).length x := by
  intro x hx
  rw [List.length_set]
  rcases List.mem_or_eq_of_mem_set hx with hx | rfl
  · exact hMB x hx
  · exact ltB_lbRows _ _ _ _
set_option maxRecDepth 20000 in
theorem pdq_rc (hb : M[b]? = some (.rows 83 2 v (lbRows l) f)) (hn : l.length ≤ 12) (hMB : ∀ x ∈ M, ltB M.length x) (lim : Int) :
    CallR Try.prog M n_slices_pdqsortCmpFunc_api_Label [.one (.arr 2 b v 0 l.length), .i 0, .i l.length, .i lim, cmpF] (.tup []) (M.set b (.rows 83 2 v (lbRows (sortLb l)) f)) := by
  have hbl : b < M.length := getElem?_lt hb
  refine callR_intro F_slices_pdqsortCmpFunc_api_Label (by simp) ?_
  refine V_sound ?_
  obtain ⟨R, hR⟩ : ∃ R, c_slices_pdqsortCmpFunc_api_Label = (.seq (.reg false [⟨some 10, .mv (kb true), none⟩])
 (.seq (.reg false [⟨some 11, .mv (kb true), none⟩])
 (.block 0 (.loop (.block 1 (.seq (.reg false [⟨some 21, .mv (.t 2), none⟩, ⟨some 22, .mv (.t 1), none⟩, ⟨some 23, .bin .sub (.t 21) (.t 22), none⟩, ⟨some 12, .mv (.t 23), none⟩])
 (.seq (.seq (.reg false [⟨some 24, .mv (.t 12), none⟩, ⟨some 25, .bin .leq (.t 24) (ki 12), none⟩])
 (.cond (.t 25)
 (.seq (.reg false [⟨some 26, .mv (.t 0), none⟩, ⟨some 27, .mv (.t 1), none⟩, ⟨some 28, .mv (.t 2), none⟩, ⟨some 29, .mv (.t 4), none⟩, ⟨some 30, .call (kf n_slices_insertionSortCmpFunc_api_Label) [(.t 26), (.t 27), (.t 28), (.t 29)], none⟩])
 .ret)
 .skip)) R))))))) := ⟨_, rfl⟩
  rw [hR]
  simp only [go_sem]
  refine V_loop (ι := Unit) (J := fun _ => True) (env := fun _ => [(0, .p (.one (.arr 2 b v 0 l.length))), (1, .i 0), (2, .i l.length), (4, .p cmpF)]) (mem := fun _ => M) (μ := fun _ => 0) () trivial ⟨[], (List.append_nil _).symm, Nat.le_refl _, ?_, hMB⟩ ?_
  · simp only [go_sem]
    exact hbl
  rintro ⟨⟩ _
  have e1 : IntKind.i64.wrap ((l.length : Int) - 0) = (l.length : Int) := w64 (by omega) (by omega)
  have e2 : (l.length : Int) ≤ 12 := by omega
  simp only [go_sem, e1, e2]
  refine call1 (isort hb hn hMB) (by simp only [go_sem]) (fun h => Bool.noConfusion h) ?_
  simp only [go_sem]
  refine fin_own (.inr rfl) (Gh.refl _) [] (qs := []) (cnd := True) rfl trivial (List.append_nil _).symm ?_ ?_ ?_ ?_
  · show leS (SV.tup []) (SV.tup []); rw [leS_self]; trivial
  · rw [List.length_set]; exact Nat.le_refl _
  · simp only [go_sem]
  · exact ltB_setRows hMB
set_option maxRecDepth 20000 in
theorem Sort_rc (hb : M[b]? = some (.rows 83 2 v (lbRows l) f)) (hn : l.length ≤ 12) (hMB : ∀ x ∈ M, ltB M.length x) :
    CallR Try.prog M n_slices_SortFunc_api_Label_api_Label [.one (.arr 2 b v 0 l.length), cmpF] (.tup []) (M.set b (.rows 83 2 v (lbRows (sortLb l)) f)) := by
  have hbl : b < M.length := getElem?_lt hb
  refine callR_intro F_slices_SortFunc_api_Label_api_Label (by simp) ?_
  refine V_sound ?_
  have e1 : IntKind.u64.wrap (l.length : Int) = (l.length : Int) := by rw [IntKind.wrap_u64]; omega
  simp only [c_slices_SortFunc_api_Label_api_Label, go_sem, hb, e1]
  refine call0 (BitsLen_rc _ (by omega) (by omega)) ?_
  simp only [go_sem, hb]
  refine call1 (pdq_rc hb hn hMB _) (by simp only [go_sem]; rfl) (fun h => Bool.noConfusion h) ?_
  simp only [go_sem]
  refine fin_own (.inl rfl) (Gh.refl _) [] (qs := []) (cnd := True) rfl trivial (List.append_nil _).symm ?_ ?_ ?_ ?_
  · show leS (SV.tup []) (SV.tup []); rw [leS_self]; trivial
  · rw [List.length_set]; exact Nat.le_refl _
  · simp only [go_sem]
  · exact ltB_setRows hMB
end Go.Proofs.Ytioefecijidgkaa.A
