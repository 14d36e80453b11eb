/- label.With: the walk. -/
import Derived.Test.YtioefecijidgkaaLbS
set_option linter.unusedVariables false
set_option linter.unusedSimpArgs false
namespace Go.Proofs.Ytioefecijidgkaa.A
open Go Go.Proofs Go.Proofs.YtioefecijidgkaaAbs
theorem ovl_lb : Ovl Try.prog 87 2 := ⟨⟨_, 22, 4, 83, Try.func87, by kernel_rfl, by kernel_rfl, by kernel_rfl, by kernel_rfl, by kernel_rfl, by kernel_rfl⟩⟩
def insB (d : List Lb) (name value : ByteArray) : List Lb := d.take (bsAt d name) ++ ⟨name, value⟩ :: d.drop (bsAt d name)
def newL (l : List Lb) (name value : ByteArray) : List Lb := if value = mkS [] then delL l name else insB (delL l name) name value
def withR (s : Ser) (name value : ByteArray) : SV :=
  if (serOk s && nmOk name && vlOk value) = true then (if 4 < (newL s.labels name value).length then .tup [serA ⟨mkS [], []⟩, .i 6] else .tup [serA ⟨s.name, newL s.labels name value⟩, .i 0]) else .tup [serA ⟨mkS [], []⟩, .i 1]
theorem subP_fn1 {f : Nat} {caps caps' : Nat → AV} (h : SubA (caps 0) (caps' 0)) : SubP (.one (.fn f 1 caps)) (.one (.fn f 1 caps')) := by
  rintro I σ y ⟨cs, rfl, hn, hc⟩
  refine ⟨cs, rfl, hn, fun k x hx => ?_⟩
  have hk : k < cs.size := by
    rcases Nat.lt_or_ge k cs.size with h | h
    · exact h
    · rw [Array.getElem?_eq_none h] at hx; cases hx
  obtain rfl : k = 0 := by omega
  exact h I σ x (hc 0 x hx)
theorem call2 {P : Program} {d : Bool} {dst : Option Nat} {os : List OpL} {K : St → Prop} {M M' : List Blk} {f : Nat} {ps ps' : List Pt} {r : SV} {e : Nat → SV} (h : CallR P M f ps' r M') (hl : SubL ps ps') (hd : d = true → M' = M) (hK : ev P d os (put e dst r) M' K) : Call1 P M f ps d dst os e K := ⟨r, M', h.sub hl, hd, ev_sound hK⟩
theorem delL_len (l : List Lb) (name : ByteArray) : (delL l name).length ≤ l.length := List.length_filter_le ..
set_option maxRecDepth 20000 in
theorem With_rc (s : Ser) (hs : zSer s) (name value : ByteArray) (hn : zS name) (hv : zS value) (M : List Blk) : CallR Try.prog M n_label_With [serA s, .s name, .s value] (withR s name value) M := by
  refine callPS F_label_With (Nat.le_of_ble_eq_true rfl) (by simp only [go_sem]) (by unfold withR; split <;> (try split) <;> simp only [go_sem]) ?_ M
  refine run_seqV ?_
  simp only [go_sem]
  refine run_gh (gh_freeze (b := 1) rfl (by intro r hr a ha; simp at hr; subst hr; simp at ha; subst ha; exact ⟨_, rfl⟩)) ?_
  refine run_seqV ?_
  simp only [go_sem]
  refine call0 (Check_rc s hs) ?_
  simp only [go_sem]
  refine callg0 (fun _ => name_rc name (zlt hn)) ?_
  simp only [go_sem]
  refine callg0 (fun _ => value_rc value (zlt hv)) ?_
  simp only [go_sem]
  by_cases hok : (serOk s && nmOk name && vlOk value) = true
  case neg =>
    have hR : withR s name value = .tup [serA ⟨mkS [], []⟩, .i 1] := by unfold withR; rw [if_neg hok]
    rw [hR]
    refine ⟨fun _ => subS_tup2 sub_zero (SubP.refl _), fun h => ?_⟩
    exfalso
    apply hok
    simp only [Bool.or_eq_false_iff, Bool.not_eq_false'] at h
    obtain ⟨⟨h1, h2⟩, h3⟩ := h
    cases hk : serOk s with
    | true => rw [h2, h3]; rfl
    | false => rw [hk] at h1; exact absurd h1 (by decide)
  have hok' := hok
  simp only [Bool.and_eq_true] at hok
  obtain ⟨⟨hks, hkn⟩, hkv⟩ := hok
  have hl4 := (serOk_parts hks).2.1
  refine ⟨fun h => ?_, fun _ => ?_⟩
  · exfalso
    rw [hks, hkn, hkv] at h
    exact absurd h (by decide)
  refine run_seqV ?_
  simp only [go_sem]
  refine call1 (Clone_rc s.labels (by omega) ?_) (by simp only [go_sem]) (fun h => Bool.noConfusion h) ?_
  · simp only [go_sem, ltB]
  simp only [go_sem]
  refine call2 (DeleteFunc_rc (c := 3) (l := s.labels) rfl (by omega) ?_ name) ⟨SubP.refl _, subP_fn1 ?_, trivial⟩ (fun h => Bool.noConfusion h) ?_
  · simp only [go_sem, ltB]
    exact fun r hr => (lt_lbRows _ _ r hr).2
  · rintro I σ y ⟨ad, rfl, h⟩
    refine ⟨ad, rfl, fun k hk => ?_⟩
    obtain ⟨x, hx, hr⟩ := h k hk
    obtain rfl : k = 0 := by omega
    exact ⟨x, hx, hr⟩
  simp only [go_sem]
  have hdl := delL_len s.labels name
  obtain ⟨d, hd⟩ : ∃ d, d = delL s.labels name := ⟨_, rfl⟩
  rw [← hd] at hdl
  simp only [← hd]
  have htk : (lbRows (delZ s.labels name)).take d.length = lbRows d := by
    rw [delZ, ← hd, lbRows, lbRows, List.map_append, List.take_left' (by simp)]
  refine run_gh (gh_trunc (b := 3) d.length rfl) ?_
  rw [htk]
  have hnl : newL s.labels name value = if value = mkS [] then d else insB d name value := by rw [newL, ← hd]
  unfold withR
  rw [if_pos hok', hnl]
  refine run_seqV ?_
  simp only [go_sem]
  refine ⟨fun hv0 => ?_, fun hv0 => ?_⟩
  · have hv0' : ¬ value = mkS [] := by simpa using hv0
    rw [if_neg hv0']
    refine call1 (callR_lend (Bs_rc d (by omega) name []) (ps := [.one (.arr 2 3 (cV s.labels) 0 d.length), .s name, .one (.fn n_label_With_2 0 fun _ => default)]) ⟨lb_snap d (f := false) rfl, Snap.same _ trivial, Snap.same _ (fun i hi => absurd hi (Nat.not_lt_zero _)), trivial⟩ (by simp only [go_sem])) (by simp only [go_sem]) (fun h => Bool.noConfusion h) ?_
    simp only [go_sem]
    have hb : bsAt d name ≤ d.length := (bsF_le d.length 0 d.length (by omega) (Nat.zero_le _)).2
    have hrow : (lbRows d).take (bsAt d name) ++ lbRow ⟨name, value⟩ :: (lbRows d).drop (bsAt d name) = lbRows (insB d name value) := by
      rw [insB, lbRows, lbRows, List.map_append, List.map_cons, List.map_take, List.map_drop]
    have hil : (insB d name value).length = d.length + 1 := by
      simp only [insB, List.length_append, List.length_cons, List.length_take, List.length_drop]; omega
    have hins := ins_rc (M := [.rows 24 2 0 [[AV.c (CV.v (Value.string s.name)), AV.arr 2 3 (cV s.labels) 0 d.length]] true, .dead, .rows 24 2 0 [[AV.c (CV.v (Value.string ⟨#[]⟩)), AV.c (CV.v (Value.slice none 0 0))]] true, .rows 83 2 (cV s.labels) (lbRows d) false, .rows 83 2 0 [[AV.c (CV.v (Value.string name)), AV.c (CV.v (Value.string value))]] true]) (b := 3) (c := 4) (i := bsAt d name) (l := lbRows d) (row := lbRow ⟨name, value⟩) F_slices_Insert_api_Label_api_Label ovl_lb (by decide) (by decide) rfl rfl (by rw [lbRows_len]; exact hb) (by rw [lbRows_len]; omega) (by rw [lbRows_len]; omega) (by
        simp only [go_sem, ltB]
        exact fun r hr => (lt_lbRows _ _ r hr).2)
    rw [hrow, lbRows_len] at hins
    refine call1 hins (by simp only [go_sem]) (fun h => Bool.noConfusion h) ?_
    rw [← hil]
    simp only [go_sem]
    refine run_seqV ?_
    simp only [go_sem, lbRows_len]
    refine ⟨fun h4 => ?_, fun h4 => ?_⟩
    · rw [if_pos (show 4 < (insB d name value).length by omega)]
      exact subS_tup2 sub_zero (SubP.refl _)
    · rw [if_neg (show ¬ 4 < (insB d name value).length by omega)]
      refine run_gh (gh_freeze (b := 3) (l := lbRows (insB d name value)) rfl (lb_closed _)) ?_
      refine V_sound ?_
      simp only [go_sem, lbRows_len, Nat.le_refl]
      have := sub_ser s.name (insB d name value) (fun i j => toC (((lbRows (insB d name value)).getD i []).getD j default)) (fun i hi j hj => by have := lbRows_get _ hi hj; rwa [Nat.zero_add] at this)
      exact subS_tup2 this (SubP.refl _)
  · have hv0' : value = mkS [] := by simpa using hv0
    rw [if_pos hv0']
    refine run_seqV ?_
    simp only [go_sem, lbRows_len]
    refine ⟨fun h4 => ?_, fun h4 => ?_⟩
    · rw [if_pos (show 4 < (d).length by omega)]
      exact subS_tup2 sub_zero (SubP.refl _)
    · rw [if_neg (show ¬ 4 < (d).length by omega)]
      refine run_gh (gh_freeze (b := 3) (l := lbRows (d)) rfl (lb_closed _)) ?_
      refine V_sound ?_
      simp only [go_sem, lbRows_len, Nat.le_refl]
      have := sub_ser s.name (d) (fun i j => toC (((lbRows (d)).getD i []).getD j default)) (fun i hi j hj => by have := lbRows_get _ hi hj; rwa [Nat.zero_add] at this)
      exact subS_tup2 this (SubP.refl _)
end Go.Proofs.Ytioefecijidgkaa.A
