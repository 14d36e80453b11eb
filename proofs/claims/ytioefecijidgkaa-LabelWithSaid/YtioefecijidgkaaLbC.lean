/- The walks of the law's light, of series' likeness. -/
import Derived.Test.YtioefecijidgkaaLbB
set_option linter.unusedVariables false
set_option linter.unusedSimpArgs false
namespace Go.Proofs.Ytioefecijidgkaa.A
open Go Go.Proofs.YtioefecijidgkaaAbs
instance : DecidableEq Lb := fun a b => if h : a.name = b.name ∧ a.value = b.value then isTrue (by cases a; cases b; simp_all) else isFalse (fun e => h (by rw [e]; exact ⟨rfl, rfl⟩))
instance : DecidableEq Ser := fun a b => if h : a.name = b.name ∧ a.labels = b.labels then isTrue (by cases a; cases b; simp_all) else isFalse (fun e => h (by rw [e]; exact ⟨rfl, rfl⟩))
def lightS (s : Ser) : Nat → Option Nat
  | 0 => some s.name.size
  | i + 1 => (lightS s i).bind fun n => if 3000 < n ∨ 3000 < (s.labels.getD i default).name.size ∨ 3000 < (s.labels.getD i default).value.size then none else some (n + (s.labels.getD i default).name.size + (s.labels.getD i default).value.size)
def lightB (s : Ser) : Bool := match lightS s (min s.labels.length 30) with
  | some n => decide (n ≤ 6000) && decide (s.labels.length ≤ 30)
  | none => false
theorem lightS_none {s : Ser} {i : Nat} (h : lightS s i = none) : ∀ j, i ≤ j → lightS s j = none := by
  intro j hj
  induction j with
  | zero => have : i = 0 := by omega
            subst this; exact h
  | succ j ih =>
    by_cases e : i = j + 1
    · rw [← e]; exact h
    · rw [lightS, ih (by omega)]; rfl
set_option maxRecDepth 20000 in
theorem light_rc (s : Ser) (hs : zSer s) (M : List Blk) : CallR Try.prog M n_windroselaw03_light [serA s] (.b (lightB s)) M := by
  refine callP F_windroselaw03_light (Nat.le_of_ble_eq_true rfl) (by simp only [go_sem]) (by simp only [go_sem]) ?_ M
  simp only [c_windroselaw03_light, go_sem]
  have hl := hs.len
  refine V_loop (ι := Nat × Nat) (J := fun p => p.1 ≤ min s.labels.length 30 ∧ lightS s p.1 = some p.2 ∧ p.2 ≤ 1000000000000000) (env := fun p => [(1, .p (.one (.ptr 0 0 0 0))), (3, .i p.2), (4, .i p.1)])
    (mem := fun _ => [.rows 24 2 0 [[.c (.v (.string s.name)), .c (lbCV s.labels)]] true]) (μ := fun p => s.labels.length - p.1) (0, s.name.size) ⟨Nat.zero_le _, rfl, by have := hs.name; unfold zS at this; simp only []; omega⟩ ⟨[], by simp only [go_sem], Nat.zero_le _, by simp only [go_sem], by simp only [go_sem, ltB]⟩ ?_
  rintro ⟨k, n⟩ ⟨hk, hn, hb⟩
  simp only [go_sem] at hk hn hb ⊢
  refine ⟨fun h1 => ?_, fun h1 => ?_⟩
  · simp only [Bool.and_eq_true, decide_eq_true_eq] at h1
    have hstep : lightS s (k + 1) = if 3000 < n ∨ 3000 < (s.labels.getD k default).name.size ∨ 3000 < (s.labels.getD k default).value.size then none else some (n + (s.labels.getD k default).name.size + (s.labels.getD k default).value.size) := by rw [lightS, hn]; rfl
    refine ⟨fun _ => by omega, fun _ => by omega, fun hc => ?_, fun hc => ⟨by omega, by omega, (k + 1, n + (s.labels.getD k default).name.size + (s.labels.getD k default).value.size), ⟨by simp only []; omega, ?_, ?_⟩, by simp only []; omega, ?_⟩⟩
    · simp only [Bool.or_eq_true, decide_eq_true_eq] at hc
      rw [lightB, lightS_none (i := k + 1) (by rw [hstep, if_pos (by omega)]) _ (by omega)]
    · simp only [Bool.or_eq_false_iff, decide_eq_false_iff_not] at hc
      simp only []
      rw [hstep, if_neg (by omega)]
    · simp only [Bool.or_eq_false_iff, decide_eq_false_iff_not] at hc
      simp only []
      omega
    · simp only [Bool.or_eq_false_iff, decide_eq_false_iff_not] at hc
      refine ⟨[], by simp only [go_sem], Nat.zero_le _, ?_, by simp only [go_sem, ltB]⟩
      simp only [go_sem, w64s (show k < 9223372036854775807 by omega)]
      rw [w64 (n := (n : Int) + _) (by omega) (by omega), w64 (by omega) (by omega)]
      omega
  · simp only [Bool.and_eq_false_iff, decide_eq_false_iff_not] at h1
    rw [lightB, show min s.labels.length 30 = k by omega, hn]
    simp only []
    congr 1 <;> (simp only [decide_eq_decide]; omega)
/-- What the law's light lets in. -/
structure LightP (s : Ser) : Prop where
  name : s.name.size ≤ 6000
  len : s.labels.length ≤ 30
  lb : ∀ i, i < s.labels.length → (s.labels.getD i default).name.size ≤ 3000 ∧ (s.labels.getD i default).value.size ≤ 3000
theorem lightS_some {s : Ser} : ∀ {i n : Nat}, lightS s i = some n → s.name.size ≤ n ∧ ∀ j, j < i → (s.labels.getD j default).name.size ≤ 3000 ∧ (s.labels.getD j default).value.size ≤ 3000
  | 0, n, h => by injection h with h; exact ⟨by omega, fun j hj => by omega⟩
  | i + 1, n, h => by
    rw [lightS, Option.bind_eq_some_iff] at h
    obtain ⟨m, hm, h⟩ := h
    obtain ⟨h1, h2⟩ := lightS_some hm
    split at h
    · cases h
    · injection h with h
      refine ⟨by omega, fun j hj => ?_⟩
      by_cases e : j = i
      · subst e; omega
      · exact h2 j (by omega)
theorem lightB_p {s : Ser} (h : lightB s = true) : LightP s := by
  unfold lightB at h
  split at h
  · rename_i n hn
    simp only [Bool.and_eq_true, decide_eq_true_eq] at h
    obtain ⟨h1, h2⟩ := lightS_some hn
    exact ⟨by omega, h.2, fun i hi => h2 i (by omega)⟩
  · cases h
theorem lb_ext {x y : Lb} (h1 : x.name = y.name) (h2 : x.value = y.value) : x = y := by cases x; cases y; simp_all
theorem eqLb (x y : Lb) : (decide (x.name = y.name) && (decide (x.value = y.value) && true)) = decide (x = y) := by
  by_cases h : x = y
  · subst h; simp
  · rw [decide_eq_false h]
    by_cases h1 : x.name = y.name
    · have : ¬ x.value = y.value := fun h2 => h (lb_ext h1 h2)
      simp [this]
    · simp [h1]
theorem neLb (x y : Lb) : (!decide (x.name = y.name) || !decide (x.value = y.value)) = !decide (x = y) := by
  rw [← eqLb, Bool.and_true, Bool.not_and]
/-- Lists that are alike place by place. -/
theorem list_eq {α : Type} {a b : List α} {d : α} (hl : a.length = b.length) (h : ∀ j, j < a.length → a.getD j d = b.getD j d) : a = b := by
  refine List.ext_getElem hl (fun i h1 h2 => ?_)
  have := h i h1
  rwa [getD_get h1, getD_get h2] at this
theorem rSame_rc (a b : Ser) (ha : zSer a) (M : List Blk) : CallR Try.prog M n_windroseref03_Same [serA a, serA b] (.b (decide (a = b))) M := by
  refine callP F_windroseref03_Same (Nat.le_of_ble_eq_true rfl) (by simp only [go_sem]) (by simp only [go_sem]) ?_ M
  simp only [c_windroseref03_Same, go_sem]
  have hl := ha.len
  refine ⟨fun hc => ?_, fun hc => ?_⟩
  · rw [decide_eq_false]
    rintro rfl
    simp at hc
  simp only [Bool.or_eq_false_iff, Bool.not_eq_false', decide_eq_true_eq, bne_eq_false_iff_eq, Int.ofNat_inj] at hc
  refine V_loop (ι := Nat) (J := fun k => k ≤ a.labels.length ∧ ∀ i, i < k → a.labels.getD i default = b.labels.getD i default) (env := fun k => [(2, .p (.one (.ptr 0 0 0 0))), (3, .p (.one (.ptr 1 0 0 0))), (5, .i k)])
    (mem := fun _ => [.rows 24 2 0 [[.c (.v (.string a.name)), .c (lbCV a.labels)]] true, .rows 24 2 0 [[.c (.v (.string b.name)), .c (lbCV b.labels)]] true]) (μ := fun k => a.labels.length - k) 0 ⟨Nat.zero_le _, fun j hj => by omega⟩ ⟨[], by simp only [go_sem], Nat.zero_le _, by simp only [go_sem], by simp only [go_sem, ltB]⟩ ?_
  rintro k ⟨hk, hok⟩
  simp only [go_sem, neLb]
  refine ⟨fun h1 => ⟨by omega, by omega, fun hn => ?_, fun hn => ⟨k + 1, ⟨by omega, fun j hj => ?_⟩, by omega, ?_⟩⟩, fun h1 => ?_⟩
  · rw [decide_eq_false]
    rintro rfl
    simp at hn
  · by_cases e : j = k
    · subst e; simpa using hn
    · exact hok j (by omega)
  · refine ⟨[], by simp only [go_sem], Nat.zero_le _, ?_, by simp only [go_sem, ltB]⟩
    simp only [go_sem, w64s (show k < 9223372036854775807 by omega)]
  · rw [decide_eq_true]
    have := list_eq (a := a.labels) (b := b.labels) hc.2 (fun j hj => hok j (by omega))
    have h0 := hc.1
    cases a; cases b
    simp_all
theorem EqualLb_rc (a b : List Lb) (ha : a.length ≤ 140737488355328) (M : List Blk) : CallR Try.prog M n_slices_Equal_api_Label_api_Label [lbL a, lbL b] (.b (decide (a = b))) M := by
  refine callP F_slices_Equal_api_Label_api_Label (Nat.le_of_ble_eq_true rfl) (by simp only [go_sem]) (by simp only [go_sem]) ?_ M
  simp only [c_slices_Equal_api_Label_api_Label, go_sem]
  refine ⟨fun hc => ?_, fun hc => ?_⟩
  · rw [decide_eq_false]
    rintro rfl
    simp at hc
  simp only [bne_eq_false_iff_eq, Int.ofNat_inj] at hc
  refine V_loop (ι := Nat) (J := fun k => k ≤ a.length ∧ ∀ i, i < k → a.getD i default = b.getD i default) (env := fun k => [(0, .p (lbL a)), (1, .p (lbL b)), (12, .i a.length), (13, .i k)])
    (mem := fun _ => []) (μ := fun k => a.length - k) 0 ⟨Nat.zero_le _, fun j hj => by omega⟩ (into0 (by simp only [go_sem])) ?_
  rintro k ⟨hk, hok⟩
  simp only [go_sem, neLb]
  refine ⟨fun h1 => ⟨by omega, by omega, fun hn => ?_, fun hn => ⟨k + 1, ⟨by omega, fun j hj => ?_⟩, by omega, into0 ?_⟩⟩, fun h1 => ?_⟩
  · rw [decide_eq_false]
    rintro rfl
    simp at hn
  · by_cases e : j = k
    · subst e; simpa using hn
    · exact hok j (by omega)
  · simp only [go_sem, w64s (show k < 9223372036854775807 by omega)]
  · rw [decide_eq_true]
    exact list_eq (d := default) hc (fun j hj => hok j (by omega))
theorem Same_rc (a b : Ser) (ha : zSer a) (M : List Blk) : CallR Try.prog M n_label_Same [serA a, serA b] (.b (decide (a = b))) M := by
  refine callP F_label_Same (Nat.le_of_ble_eq_true rfl) (by simp only [go_sem]) (by simp only [go_sem]) ?_ M
  simp only [c_label_Same, go_sem]
  refine callg0 (fun _ => EqualLb_rc _ _ ha.len) ?_
  simp only [go_sem]
  cases a; cases b
  simp
/-- The value that a series has of a name. -/
def valOf (l : List Lb) (name : ByteArray) : ByteArray := match l.find? (fun x => decide (x.name = name)) with
  | some x => x.value
  | none => mkS []
theorem valOf_at {l : List Lb} {name : ByteArray} {k : Nat} (hk : k < l.length) (h : ∀ i, i < k → (l.getD i default).name ≠ name) (he : (l.getD k default).name = name) : valOf l name = (l.getD k default).value := by
  unfold valOf
  have : l.find? (fun x => decide (x.name = name)) = some (l.getD k default) := by
    rw [List.find?_eq_some_iff_getElem]
    refine ⟨decide_eq_true he, k, hk, (getD_get hk).symm, fun j hj => ?_⟩
    have := h j hj
    rw [getD_get (by omega)] at this
    simpa using this
  rw [this]
theorem valOf_none {l : List Lb} {name : ByteArray} (h : ∀ i, i < l.length → (l.getD i default).name ≠ name) : valOf l name = mkS [] := by
  unfold valOf
  have : l.find? (fun x => decide (x.name = name)) = none := by
    rw [List.find?_eq_none]
    intro x hx
    obtain ⟨i, hi, rfl⟩ := (mem_getD (d := default)).1 hx
    simpa using h i hi
  rw [this]
theorem Value_rc (s : Ser) (hs : zSer s) (name : ByteArray) (M : List Blk) : CallR Try.prog M n_label_Value [serA s, .s name] (.s (valOf s.labels name)) M := by
  refine callP F_label_Value (Nat.le_of_ble_eq_true rfl) (by simp only [go_sem]) (by simp only [go_sem]) ?_ M
  simp only [c_label_Value, go_sem]
  have hl := hs.len
  refine V_loop (ι := Nat) (J := fun k => k ≤ s.labels.length ∧ ∀ i, i < k → (s.labels.getD i default).name ≠ name) (env := fun k => [(1, .s name), (8, .p (lbL s.labels)), (9, .i s.labels.length), (10, .i k)])
    (mem := fun _ => []) (μ := fun k => s.labels.length - k) 0 ⟨Nat.zero_le _, fun j hj => by omega⟩ (into0 (by simp only [go_sem])) ?_
  rintro k ⟨hk, hok⟩
  simp only [go_sem]
  refine ⟨fun h1 => ⟨by omega, fun hn => ?_, fun hn => ⟨k + 1, ⟨by omega, fun j hj => ?_⟩, by omega, into0 ?_⟩⟩, fun h1 => ?_⟩
  · rw [valOf_at h1 hok hn]
  · by_cases e : j = k
    · subst e; exact hn
    · exact hok j (by omega)
  · simp only [go_sem, w64s (show k < 9223372036854775807 by omega)]
  · rw [valOf_none (fun i hi => hok i (by omega))]
def untilS (s : ByteArray) (c : Int) : Nat → Nat → Nat
  | 0, at_ => at_
  | n + 1, at_ => if at_ < s.size ∧ (((bs s).getD at_ 0).toNat : Int) ≠ c then untilS s c n (at_ + 1) else at_
theorem until_rc (s : ByteArray) (hs : zS s) (at_ : Nat) (c : Int) (hat : at_ ≤ 140737488355328) (M : List Blk) : CallR Try.prog M n_windroseref03_until [.s s, .i at_, .one (.c (.v (.int .u8 c)))] (.i (untilS s c (s.size - at_) at_)) M := by
  refine callP F_windroseref03_until (Nat.le_of_ble_eq_true rfl) (by simp only [go_sem]) (by simp only [go_sem]) ?_ M
  simp only [c_windroseref03_until, go_sem]
  refine V_loop (ι := Nat) (J := fun k => at_ ≤ k ∧ k ≤ 140737488355328 ∧ untilS s c (s.size - k) k = untilS s c (s.size - at_) at_) (env := fun k => [(0, .s s), (1, .i k), (2, .p (.one (.c (.v (.int .u8 c)))))])
    (mem := fun _ => []) (μ := fun k => s.size - k) at_ ⟨Nat.le_refl _, hat, rfl⟩ (into0 (by simp only [go_sem])) ?_
  rintro k ⟨hk, hkb, hu⟩
  simp only [go_sem]
  have hz : s.size ≤ 140737488355328 := hs
  refine ⟨fun h => by omega, fun h1 => ?_, fun h1 => ?_⟩
  · simp only [Bool.and_eq_true, decide_eq_true_eq, bne_iff_ne, ne_eq] at h1
    refine ⟨k + 1, ⟨by omega, by omega, ?_⟩, by omega, into0 ?_⟩
    · rw [← hu, show s.size - k = (s.size - (k + 1)) + 1 by omega, untilS, if_pos h1]
    · simp only [go_sem, w64s (show k < 9223372036854775807 by omega)]
  · rw [← hu]
    have h1 : ¬ (k < s.size ∧ (((bs s).getD k 0).toNat : Int) ≠ c) := by
      rintro ⟨a, b⟩
      rw [decide_eq_true a] at h1
      simp at h1
      exact b h1
    cases hn : s.size - k with
    | zero => rfl
    | succ n => rw [untilS, if_neg h1]
end Go.Proofs.Ytioefecijidgkaa.A
