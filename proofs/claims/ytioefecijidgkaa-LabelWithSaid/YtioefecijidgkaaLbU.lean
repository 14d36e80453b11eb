/- Plain law: the two ways of giving a label its value. The law LabelWith. -/
import Derived.Test.YtioefecijidgkaaLbT
import Derived.Test.YtioefecijidgkaaLbN
set_option linter.unusedVariables false
set_option linter.unusedSimpArgs false
namespace Go.Proofs.Ytioefecijidgkaa.A
open Go Go.Proofs Go.Proofs.YtioefecijidgkaaAbs
variable {name value : ByteArray}
theorem w_true : ∀ (l acc : List Lb), l.foldl (wStep name value) (acc, true) = (acc ++ delL l name, true)
  | [], acc => by simp [delL]
  | x :: l, acc => by
    rw [List.foldl_cons]
    by_cases h : x.name = name
    · rw [show wStep name value (acc, true) x = (acc, true) by simp [wStep, h], w_true l]
      simp [delL, h]
    · rw [show wStep name value (acc, true) x = (acc ++ [x], true) by simp [wStep, h], w_true l]
      simp [delL, h]
def pW (name value : ByteArray) : List Lb → List Lb
  | [] => [⟨name, value⟩]
  | x :: l => if sLt x.name name then x :: pW name value l else ⟨name, value⟩ :: delL (x :: l) name
def finW (name value : ByteArray) (p : List Lb × Bool) : List Lb := if p.2 then p.1 else p.1 ++ [⟨name, value⟩]
theorem w_false : ∀ (l acc : List Lb), finW name value (l.foldl (wStep name value) (acc, false)) = acc ++ pW name value l
  | [], acc => by simp [finW, pW]
  | x :: l, acc => by
    rw [List.foldl_cons, pW]
    by_cases h : sLt x.name name = true
    · have hne := sLt_ne h
      rw [show wStep name value (acc, false) x = (acc ++ [x], false) by simp [wStep, h, hne], w_false l, if_pos h]
      simp
    · have h' : sLt x.name name = false := by simpa using h
      rw [if_neg h]
      by_cases hn : x.name = name
      · rw [show wStep name value (acc, false) x = (acc ++ [⟨name, value⟩], true) by simp [wStep, h', hn, sLt_irrefl], w_true]
        simp [finW, delL, hn]
      · rw [show wStep name value (acc, false) x = (acc ++ [⟨name, value⟩] ++ [x], true) by simp [wStep, h', hn], w_true]
        simp [finW, delL, hn]
theorem ok_up {s : Ser} (h : serOk s = true) : upL s.labels := by
  have hl := (serOk_parts h).2.2
  have key : ∀ j, j < s.labels.length → ∀ i, i < j → sLt (s.labels.getD i default).name (s.labels.getD j default).name = true := by
    intro j
    induction j with
    | zero => intro _ i hi; omega
    | succ j ih =>
      intro hj i hi
      have := hl (j + 1) hj
      simp only [lbOk, Bool.and_eq_true, Bool.or_eq_true, Nat.add_sub_cancel] at this
      have h1 : sLt (s.labels.getD j default).name (s.labels.getD (j + 1) default).name = true := by
        rcases this.2 with h | h
        · simp at h
        · exact h
      by_cases e : i = j
      · subst e; exact h1
      · exact sLt_trans (ih (by omega) i (by omega)) h1
  unfold upL
  rw [List.pairwise_iff_getElem]
  intro i j hi hj hij
  have := key j hj i hij
  rwa [getD_get hi, getD_get hj] at this
theorem del_up {l : List Lb} (h : upL l) : upL (delL l name) := List.Pairwise.filter _ h
theorem bs_pos {d : List Lb} (h : upL d) : bsAt d name = posL name d := by
  have hle : bsAt d name ≤ d.length := (bsF_le d.length 0 d.length (by omega) (Nat.zero_le _)).2
  have hs := bsF_lt (lt := fun i => decide (cmpS (d.getD i default).name name < 0)) d.length 0 d.length (by omega) (by omega) (fun a b _ hab hb hh => by
    rw [cmpS_neg] at hh ⊢
    by_cases e : a = b
    · subst e; exact hh
    · have := (List.pairwise_iff_getElem.1 h) a b (by omega) hb (by omega)
      rw [getD_get (by omega)] at hh ⊢
      exact sLt_trans this hh)
  exact (posL_is hle (fun i hi => by have := hs.1 i (Nat.zero_le _) hi; rwa [cmpS_neg] at this) (fun hi => by have := hs.2 _ (Nat.le_refl _) hi; rwa [cmpS_neg] at this)).symm
theorem pW_ins : ∀ {l : List Lb}, upL l → pW name value l = (delL l name).take (posL name (delL l name)) ++ ⟨name, value⟩ :: (delL l name).drop (posL name (delL l name))
  | [], _ => by simp [pW, delL]
  | x :: l, h => by
    have hu := List.pairwise_cons.1 h
    rw [pW]
    by_cases hx : sLt x.name name = true
    · have hne := sLt_ne hx
      have hd : delL (x :: l) name = x :: delL l name := by simp [delL, hne]
      rw [if_pos hx, hd, posL, if_pos hx, pW_ins hu.2]
      simp
    · rw [if_neg hx]
      have h0 : posL name (delL (x :: l) name) = 0 := by
        cases hd : delL (x :: l) name with
        | nil => rfl
        | cons y t =>
          have hy : y ∈ x :: l := (List.mem_filter.1 (show y ∈ delL (x :: l) name by rw [hd]; exact List.mem_cons_self ..)).1
          rw [posL, if_neg]
          intro hyn
          rcases List.mem_cons.1 hy with rfl | hy
          · exact hx hyn
          · exact hx (sLt_trans (hu.1 y hy) hyn)
      rw [h0]
      simp
theorem ref_new {s : Ser} (h : serOk s = true) : refW s name value = ⟨s.name, newL s.labels name value⟩ := by
  have hu := ok_up h
  unfold refW newL wAll
  by_cases hv : value = mkS []
  · rw [decide_eq_true hv, w_true, if_pos hv]
    simp
  · rw [decide_eq_false hv, if_neg hv]
    have := w_false (name := name) (value := value) s.labels []
    unfold finW at this
    rw [this, List.nil_append, pW_ins hu, insB, bs_pos (del_up hu)]
theorem new_val {l : List Lb} : valOf (newL l name value) name = value := by
  have hd : ∀ y ∈ delL l name, y.name ≠ name := fun y hy => by
    have := (List.mem_filter.1 hy).2
    simpa using this
  unfold newL valOf
  by_cases hv : value = mkS []
  · rw [if_pos hv, List.find?_eq_none.2 (fun y hy => by simpa using hd y hy), hv]
  · rw [if_neg hv, insB, List.find?_append, List.find?_eq_none.2 (fun y hy => by simpa using hd y (List.mem_of_mem_take hy))]
    simp
set_option maxRecDepth 20000 in
theorem LabelWith_rc (s : Ser) (hs : zSer s) (name value : ByteArray) (hn : zS name) (hv : zS value) (M : List Blk) : CallR Try.prog M n_windroselaw03_LabelWith [serA s, .s name, .s value] (.b true) M := by
  refine callP F_windroselaw03_LabelWith (Nat.le_of_ble_eq_true rfl) (by simp only [go_sem]) (by simp only [go_sem]) ?_ M
  simp only [c_windroselaw03_LabelWith, go_sem]
  refine call0 (light_rc s hs) ?_
  simp only [go_sem]
  refine ⟨fun _ => ?_, fun hl => ?_⟩
  · refine call0 awake_rc ?_
    simp only [go_sem]
  have hw := With_rc s hs name value hn hv
  unfold withR at hw
  by_cases hok : (serOk s && nmOk name && vlOk value) = true
  case neg =>
    rw [if_neg hok] at hw
    refine call0 hw ?_
    simp only [go_sem]
    refine call0 (May_rc s hs) ?_
    simp only [go_sem]
    refine callg0 (fun _ => rName_rc name (zlt hn)) ?_
    simp only [go_sem]
    refine callg0 (fun _ => rVal_rc value (zlt hv)) ?_
    simp only [go_sem]
    refine ⟨fun _ => ?_, fun h => ?_⟩
    · refine callg0 (r := .b true) (fun _ M => ((rSame_rc ⟨mkS [], []⟩ ⟨mkS [], []⟩ ⟨by unfold zS; exact Nat.zero_le _, Nat.zero_le _, fun i hi => absurd hi (Nat.not_lt_zero _)⟩ M).sub ⟨SubP.refl _, sub_zero, trivial⟩)) ?_
      simp only [go_sem]
      refine callg0 (fun _ => awake_rc) ?_
      simp only [go_sem]
    · exfalso
      apply hok
      simp only [Bool.or_eq_false_iff, Bool.not_eq_false'] at h
      rw [h.1.1, h.1.2, h.2]; rfl
  rw [if_pos hok] at hw
  have hok' := hok
  simp only [Bool.and_eq_true] at hok
  obtain ⟨⟨hks, hkn⟩, hkv⟩ := hok
  have hl4 := (serOk_parts hks).2.1
  have hrw := rWith_rc s (by omega) name value
  rw [ref_new hks] at hrw
  by_cases h4 : 4 < (newL s.labels name value).length
  · rw [if_pos h4] at hw
    refine call0 hw ?_
    simp only [go_sem]
    refine call0 (May_rc s hs) ?_
    simp only [go_sem, hks]
    refine callg0 (fun _ => rName_rc name (zlt hn)) ?_
    simp only [go_sem, hkn]
    refine callg0 (fun _ => rVal_rc value (zlt hv)) ?_
    simp only [go_sem, hkv]
    refine call0 hrw ?_
    simp only [go_sem]
    refine ⟨fun _ => ?_, fun h => absurd h (by omega)⟩
    refine callg0 (r := .b true) (fun _ M => ((rSame_rc ⟨mkS [], []⟩ ⟨mkS [], []⟩ ⟨by unfold zS; exact Nat.zero_le _, Nat.zero_le _, fun i hi => absurd hi (Nat.not_lt_zero _)⟩ M).sub ⟨SubP.refl _, sub_zero, trivial⟩)) ?_
    simp only [go_sem]
    refine callg0 (fun _ => awake_rc) ?_
    simp only [go_sem]
  · rw [if_neg h4] at hw
    refine call0 hw ?_
    simp only [go_sem]
    refine call0 (May_rc s hs) ?_
    simp only [go_sem, hks]
    refine callg0 (fun _ => rName_rc name (zlt hn)) ?_
    simp only [go_sem, hkn]
    refine callg0 (fun _ => rVal_rc value (zlt hv)) ?_
    simp only [go_sem, hkv]
    refine call0 hrw ?_
    simp only [go_sem]
    have hmem : ∀ y ∈ newL s.labels name value, zS y.name ∧ zS y.value := by
      have hd : ∀ y ∈ delL s.labels name, zS y.name ∧ zS y.value := fun y hy => by
        obtain ⟨j, hj, rfl⟩ := List.mem_iff_getElem.1 (List.mem_filter.1 hy).1
        have := hs.lb j hj
        rwa [getD_get hj] at this
      intro y hy
      unfold newL at hy
      split at hy
      · exact hd y hy
      · rw [insB] at hy
        rcases List.mem_append.1 hy with hy | hy
        · exact hd y (List.mem_of_mem_take hy)
        · rcases List.mem_cons.1 hy with rfl | hy
          · exact ⟨hn, hv⟩
          · exact hd y (List.mem_of_mem_drop hy)
    have hx : zSer ⟨s.name, newL s.labels name value⟩ := by
      refine ⟨hs.name, by simp only; omega, fun j hj => hmem _ ?_⟩
      rw [List.getD_eq_getElem?_getD, List.getElem?_eq_getElem hj]
      exact List.getElem_mem _
    refine ⟨fun h => absurd h (by omega), fun _ => ?_⟩
    refine callg0 (fun _ => rSame_rc ⟨s.name, newL s.labels name value⟩ ⟨s.name, newL s.labels name value⟩ hx) ?_
    simp only [go_sem]
    refine callg0 (fun _ => Value_rc ⟨s.name, newL s.labels name value⟩ hx name) ?_
    simp only [go_sem, new_val]
    refine callg0 (fun _ => awake_rc) ?_
    simp only [go_sem]
end Go.Proofs.Ytioefecijidgkaa.A
