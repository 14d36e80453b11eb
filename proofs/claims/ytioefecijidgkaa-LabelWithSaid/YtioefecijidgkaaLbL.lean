/- The laws LabelPrints and LabelApart. -/
import Derived.Test.YtioefecijidgkaaLbP
import Derived.Test.YtioefecijidgkaaLbC
import Derived.Test.YtioefecijidgkaaAbsOp
set_option linter.unusedVariables false
set_option linter.unusedSimpArgs false
namespace Go.Proofs.Ytioefecijidgkaa.A
open Go Go.Proofs Go.Proofs.YtioefecijidgkaaAbs
def awSer : Ser := ⟨mkS [99, 112, 117], [⟨mkS [104, 111, 115, 116], mkS [98]⟩, ⟨mkS [122, 111, 110, 101], mkS [97]⟩]⟩
def awIn : ByteArray := mkS [99, 112, 117, 123, 122, 111, 110, 101, 61, 34, 97, 34, 44, 104, 111, 115, 116, 61, 34, 98, 34, 125]
def awOut : ByteArray := mkS [99, 112, 117, 123, 104, 111, 115, 116, 61, 34, 98, 34, 44, 122, 111, 110, 101, 61, 34, 97, 34, 125]
theorem aw_par : parS awIn = some awSer := by kernel_rfl
theorem aw_ok : serOk awSer = true := by kernel_rfl
theorem aw_prT : prT awSer = awOut := by kernel_rfl
theorem ok_zSer {s : Ser} (h : serOk s = true) : zSer s := by
  obtain ⟨h1, h2, h3⟩ := serOk_parts h
  refine ⟨?_, by omega, fun i hi => ?_⟩
  · have := nm_len h1
    unfold zS; omega
  · have := lbOk_parts (h3 i hi)
    have a := nm_len this.1
    have b := (vl_parts this.2).1
    unfold zS
    omega
set_option maxRecDepth 20000 in
theorem awake_rc (M : List Blk) : CallR Try.prog M n_windroselaw03_awake [] (.b true) M := by
  refine callPS F_windroselaw03_awake (Nat.le_of_ble_eq_true rfl) (by simp only [go_sem]) (by simp only [go_sem]) (V_sound ?_) M
  simp only [c_windroselaw03_awake, go_sem]
  have hp := Parse_rc awIn (by decide)
  rw [parR, aw_par] at hp
  refine call0 hp ?_
  simp only [go_sem]
  have hq := Print_rc awSer (ok_zSer aw_ok)
  rw [aw_prT, if_pos aw_ok] at hq
  refine call0 hq ?_
  simp only [go_sem]
  show SubS (.b (decide (awOut = awOut))) (.b true)
  rw [decide_eq_true rfl]
  exact SubS.refl _
theorem prT_size (s : Ser) : (prT s).size ≤ 400 := by
  rw [prT]
  split
  · rename_i h
    obtain ⟨h1, h2, h3⟩ := serOk_parts h
    have := nm_len h1
    have h4 := textP_len h _ (Nat.le_refl _)
    split
    · omega
    · rw [mk_size, List.length_append, List.length_singleton]
      omega
  · rw [mk_size]; simp
theorem not_ok {s : Ser} (h : serOk s = false) : prT s = mkS [] := by rw [prT, h]; rfl
set_option maxRecDepth 20000 in
theorem LabelPrints_rc (s : Ser) (hs : zSer s) (M : List Blk) : CallR Try.prog M n_windroselaw03_LabelPrints [serA s] (.b true) M := by
  refine callP F_windroselaw03_LabelPrints (Nat.le_of_ble_eq_true rfl) (by simp only [go_sem]) (by simp only [go_sem]) ?_ M
  simp only [c_windroselaw03_LabelPrints, go_sem]
  refine call0 (light_rc s hs) ?_
  simp only [go_sem]
  refine ⟨fun _ => ?_, fun hl => ?_⟩
  · refine call0 awake_rc ?_
    simp only [go_sem]
  refine call0 (Print_rc s hs) ?_
  cases hok : serOk s with
  | false =>
    simp only [Bool.false_eq_true, if_false, go_sem]
    refine call0 (Check_rc s hs) ?_
    simp only [hok, Bool.false_eq_true, if_false, go_sem]
    refine call0 (May_rc s hs) ?_
    simp only [hok, go_sem]
    refine call0 (May_rc s hs) ?_
    simp only [hok, not_ok hok, go_sem]
    refine callg0 (fun _ => awake_rc) ?_
    simp only [go_sem]
  | true =>
    simp only [if_true, go_sem]
    refine call0 (Check_rc s hs) ?_
    simp only [hok, if_true, go_sem]
    refine call0 (May_rc s hs) ?_
    simp only [hok, go_sem]
    refine call0 (May_rc s hs) ?_
    simp only [hok, go_sem]
    have hp := Parse_rc (prT s) (by have := prT_size s; omega)
    rw [parR, parS_prT hok] at hp
    refine call0 hp ?_
    simp only [go_sem]
    refine callg0 (fun _ => Text_rc s hok) ?_
    rw [textR_prT hok]
    simp only [go_sem]
    refine callg0 (fun _ => rSame_rc s s (ok_zSer hok)) ?_
    simp only [go_sem]
    refine callg0 (fun _ => awake_rc) ?_
    simp only [go_sem]
theorem prT_inj {a b : Ser} (ha : serOk a = true) (hb : serOk b = true) : decide (prT a = prT b) = decide (a = b) := by
  rw [decide_eq_decide]
  refine ⟨fun h => ?_, fun h => by rw [h]⟩
  have := parS_prT ha
  rw [h, parS_prT hb] at this
  exact (Option.some.inj this).symm
set_option maxRecDepth 20000 in
theorem LabelApart_rc (a b : Ser) (ha : zSer a) (hb : zSer b) (M : List Blk) : CallR Try.prog M n_windroselaw03_LabelApart [serA a, serA b] (.b true) M := by
  refine callP F_windroselaw03_LabelApart (Nat.le_of_ble_eq_true rfl) (by simp only [go_sem]) (by simp only [go_sem]) ?_ M
  simp only [c_windroselaw03_LabelApart, go_sem]
  refine call0 (light_rc a ha) ?_
  simp only [go_sem]
  refine callg0 (fun _ => light_rc b hb) ?_
  simp only [go_sem]
  refine callg0 (fun _ => May_rc a ha) ?_
  simp only [go_sem]
  refine callg0 (fun _ => May_rc b hb) ?_
  simp only [go_sem]
  refine ⟨fun _ => ?_, fun h => ?_⟩
  · refine call0 awake_rc ?_
    simp only [go_sem]
  simp only [Bool.or_eq_false_iff, Bool.not_eq_false'] at h
  obtain ⟨⟨⟨_, _⟩, oa⟩, ob⟩ := h
  refine call0 (Print_rc a ha) ?_
  simp only [oa, if_true, go_sem]
  refine call0 (Print_rc b hb) ?_
  simp only [ob, if_true, go_sem]
  refine call0 (rSame_rc a b ha) ?_
  simp only [go_sem, prT_inj oa ob]
  refine callg0 (fun _ => Same_rc a b ha) ?_
  simp only [go_sem]
  refine callg0 (fun _ => awake_rc) ?_
  simp only [go_sem]
theorem zSer_wf {s : Ser} {k : Nat} (h : (WPair WStr (WSlice k (fun x : Lb => (WPair WStr WStr) (x.name, x.value)))) (s.name, s.labels)) (hk : 1 ≤ k) : zSer s := by
  obtain ⟨h1, h2, h3⟩ := h
  have e : s.labels.length ≤ s.labels.length * k := Nat.le_mul_of_pos_right _ hk
  refine ⟨Nat.le_trans h1 (by decide), Nat.le_trans e (Nat.le_trans h2 (by decide)), fun i hi => ?_⟩
  have := h3 (s.labels.getD i default) (by rw [List.getD_eq_getElem?_getD, List.getElem?_eq_getElem hi]; exact List.getElem_mem _)
  exact ⟨Nat.le_trans this.1 (by decide), Nat.le_trans this.2 (by decide)⟩
end Go.Proofs.Ytioefecijidgkaa.A
