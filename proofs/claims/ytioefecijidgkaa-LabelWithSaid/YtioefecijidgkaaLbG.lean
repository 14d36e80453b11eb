/- label.Print: the walk. -/
import Derived.Test.YtioefecijidgkaaLbF
import Derived.Test.YtioefecijidgkaaLbB
set_option linter.unusedVariables false
set_option linter.unusedSimpArgs false
namespace Go.Proofs.Ytioefecijidgkaa.A
open Go Go.Proofs Go.Proofs.YtioefecijidgkaaAbs
def esc1 (x : UInt8) : List UInt8 := if x = 34 ∨ x = 92 then [92, x] else [x]
def esc (l : List UInt8) : List UInt8 := l.flatMap esc1
def labT (k : Nat) (x : Lb) : List UInt8 := (if k = 0 then [123] else [44]) ++ (bs x.name ++ [61, 34]) ++ esc (bs x.value) ++ [34]
def textP (s : Ser) : Nat → List UInt8
  | 0 => bs s.name
  | k + 1 => textP s k ++ labT k (s.labels.getD k default)
def prT (s : Ser) : ByteArray := if serOk s then (if s.labels.length = 0 then s.name else mkS (textP s s.labels.length ++ [125])) else mkS []
theorem esc_len (l : List UInt8) : (esc l).length ≤ 2 * l.length := by
  induction l with
  | nil => simp [esc]
  | cons x l ih =>
    have : (esc1 x).length ≤ 2 := by unfold esc1; split <;> simp
    simp only [esc, List.flatMap_cons, List.length_append, List.length_cons] at ih ⊢
    omega
theorem serOk_parts {s : Ser} (h : serOk s = true) : nmOk s.name = true ∧ s.labels.length ≤ 4 ∧ ∀ k, k < s.labels.length → lbOk s.labels k = true := by
  simp only [serOk, Bool.and_eq_true, decide_eq_true_eq, List.all_eq_true, List.mem_range] at h
  exact ⟨h.1.1, h.1.2, h.2⟩
theorem lbOk_parts {l : List Lb} {k : Nat} (h : lbOk l k = true) : nmOk (l.getD k default).name = true ∧ vlOk (l.getD k default).value = true := by
  simp only [lbOk, Bool.and_eq_true] at h
  exact h.1
theorem nm_len {s : ByteArray} (h : nmOk s = true) : s.size ≤ 16 := by
  simp only [nmOk, Bool.and_eq_true, decide_eq_true_eq] at h
  exact h.1.2
theorem vl_parts {s : ByteArray} (h : vlOk s = true) : s.size ≤ 16 ∧ ∀ k, k < s.size → 32 ≤ ((bs s).getD k 0).toNat ∧ ((bs s).getD k 0).toNat ≤ 126 := by
  simp only [vlOk, Bool.and_eq_true, decide_eq_true_eq, List.all_eq_true] at h
  refine ⟨h.1, fun k hk => inR_t.1 (h.2 _ ?_)⟩
  rw [List.getD_eq_getElem?_getD, List.getElem?_eq_getElem (by rw [bs_len]; exact hk)]
  exact List.getElem_mem _
theorem textP_len {s : Ser} (h : serOk s = true) : ∀ k, k ≤ s.labels.length → (textP s k).length ≤ 16 + k * 60
  | 0, _ => by rw [textP, bs_len]; have := nm_len (serOk_parts h).1; omega
  | k + 1, hk => by
    have ih := textP_len h k (by omega)
    have hl := lbOk_parts ((serOk_parts h).2.2 k (by omega))
    have h1 := nm_len hl.1
    have h2 := (vl_parts hl.2).1
    have h3 := esc_len (bs (s.labels.getD k default).value)
    rw [bs_len] at h3
    rw [textP, labT, List.length_append, List.length_append, List.length_append, List.length_append, List.length_append, bs_len]
    have : (if k = 0 then [123] else [44] : List UInt8).length = 1 := by split <;> rfl
    simp only [this, List.length_cons, List.length_nil]
    omega
theorem ltB_rowS (n t : Nat) (x y : CV) : ltB n (.rows t 2 0 [[.c x, .c y]] true) := by
  intro r hr a ha
  obtain rfl := List.mem_singleton.1 hr
  rcases List.mem_cons.1 ha with rfl | ha
  · trivial
  · obtain rfl := List.mem_singleton.1 ha; trivial
/-- The builder's memory. -/
abbrev pM (s : Ser) (v : Nat) (l : List UInt8) : List Blk := [.rows 24 2 0 [[.c (.v (.string s.name)), .c (lbCV s.labels)]] true, bR 1 2 v l.length, bY v l]
theorem pM_lt (s : Ser) (v : Nat) (l : List UInt8) (D : List Blk) (hD : ∀ x ∈ D, ltB (3 + D.length) x) : ∀ x ∈ pM s v l ++ D, ltB (pM s v l ++ D).length x := by
  have e : (pM s v l ++ D).length = 3 + D.length := by simp [pM]; omega
  rw [e]
  intro x hx
  rcases List.mem_append.1 hx with hx | hx
  · simp only [pM, List.mem_cons, List.not_mem_nil, or_false] at hx
    rcases hx with rfl | rfl | rfl
    · exact ltB_rowS _ _ _ _
    · exact ltB_bR (by omega) (by omega)
    · exact ltB_bY _ _ _
  · exact hD x hx
theorem wb (s : Ser) {v : Nat} {l : List UInt8} {D : List Blk} (hD : ∀ x ∈ D, ltB (3 + D.length) x) (x : UInt8) (hn : l.length + 1 ≤ 140737488355328) : CallR Try.prog (pM s v l ++ D) 42 [.one (.ptr 1 0 0 0), .one (.c (.v (.int .u8 x.toNat)))] (.p nilI) (pM s (v + 1) (l ++ [x]) ++ D) := by
  have := WriteByte_rc (M := pM s v l ++ D) (b := 1) (c := 2) (v := v) (l := l) (by decide) (.inr rfl) rfl rfl (pM_lt s v l D hD) x hn
  have e : (l ++ [x]).length = l.length + 1 := by simp
  simpa only [pM, e, List.cons_append, List.nil_append, List.set_cons_succ, List.set_cons_zero] using this
theorem ws (s : Ser) {v : Nat} {l : List UInt8} {D : List Blk} (hD : ∀ x ∈ D, ltB (3 + D.length) x) (x : ByteArray) (hn : l.length + x.size ≤ 140737488355328) : CallR Try.prog (pM s v l ++ D) 41 [.one (.ptr 1 0 0 0), .s x] (.tup [.i x.size, nilI]) (pM s (v + 1) (l ++ bs x) ++ D) := by
  have := WriteString_rc (M := pM s v l ++ D) (b := 1) (c := 2) (v := v) (l := l) (by decide) (.inr rfl) rfl rfl (pM_lt s v l D hD) x hn
  have e : (l ++ bs x).length = l.length + x.size := by simp [bs_len]
  simpa only [pM, e, List.cons_append, List.nil_append, List.set_cons_succ, List.set_cons_zero] using this
theorem wr (s : Ser) {v : Nat} {l : List UInt8} {D : List Blk} (hD : ∀ x ∈ D, ltB (3 + D.length) x) (x : UInt8) (hx : x.toNat < 128) (hn : l.length + 1 ≤ 140737488355328) : CallR Try.prog (pM s v l ++ D) 43 [.one (.ptr 1 0 0 0), .one (.c (.v (.int .i32 x.toNat)))] (.tup [.i 1, nilI]) (pM s (v + 1) (l ++ [x]) ++ D) := by
  have := WriteRune_rc (M := pM s v l ++ D) (b := 1) (c := 2) (v := v) (l := l) (by decide) (.inr rfl) rfl rfl (pM_lt s v l D hD) x hx hn
  have e : (l ++ [x]).length = l.length + 1 := by simp
  simpa only [pM, e, List.cons_append, List.nil_append, List.set_cons_succ, List.set_cons_zero] using this
theorem ltB_1 {t : Nat} {x y : CV} : ∀ z ∈ [Blk.rows t 2 0 [[.c x, .c y]] true], ltB (3 + 1) z := by
  intro z hz
  obtain rfl := List.mem_singleton.1 hz
  exact ltB_rowS _ _ _ _
theorem ltB_2 {t : Nat} {x y : CV} {u : ByteArray} {p : Nat} : ∀ z ∈ [Blk.rows t 2 0 [[.c x, .c y]] true, .sit u p], ltB (3 + 2) z := by
  intro z hz
  rcases List.mem_cons.1 hz with rfl | hz
  · exact ltB_rowS _ _ _ _
  · obtain rfl := List.mem_singleton.1 hz
    trivial
set_option maxRecDepth 20000 in
theorem Print_rc (s : Ser) (hs : zSer s) (M : List Blk) : CallR Try.prog M n_label_Print [serA s] (.tup [.s (prT s), .i (if serOk s then 0 else 1)]) M := by
  refine callP F_label_Print (Nat.le_of_ble_eq_true rfl) (by simp only [go_sem]) (by simp only [go_sem]) ?_ M
  simp only [c_label_Print, go_sem]
  refine call0 (Check_rc s hs) ?_
  by_cases hok : serOk s = true
  · simp only [hok, if_true, go_sem]
    obtain ⟨hk1, hk2, hk3⟩ := serOk_parts hok
    refine fun _ => ⟨fun h0 => ?_, fun h0 => ?_⟩
    · rw [prT, if_pos hok, if_pos (by omega)]
    refine call1 (callR_ghost (fun I σ w hm => ⟨_, _, evo_born_cell hm (b := 1) (i := 0) (j := 1) rfl rfl rfl 5 1⟩) (WriteString_rc (b := 1) (c := 2) (v := 0) (l := []) (f := true) (by decide) (.inl rfl) rfl rfl ?_ s.name ?_)) (by simp only [go_sem]) (fun h => Bool.noConfusion h) ?_
    · simp only [go_sem, ltB, fillL]
    · have := nm_len hk1
      simp only [List.length_nil]
      omega
    simp only [go_sem]
    refine V_loop (ι := Nat × Nat) (J := fun p => p.1 ≤ s.labels.length) (env := fun p => [(5, .p (.one (.ptr 1 0 0 0))), (25, .p (lbL s.labels)), (26, .i s.labels.length), (27, .i p.1)])
      (mem := fun p => pM s p.2 (textP s p.1)) (μ := fun p => s.labels.length - p.1) (0, 1) (Nat.zero_le _) ⟨[], ?_, Nat.zero_le _, by simp only [go_sem, pM], ?_⟩ ?_
    · simp only [go_sem, pM, textP, bs_len, List.length_nil, Nat.zero_add]
    · have := pM_lt s 1 (textP s 0) [] (by simp)
      simpa using this
    rintro ⟨k, v⟩ hk
    simp only [go_sem] at hk ⊢
    refine ⟨fun h1 => ⟨by omega, ⟨by split <;> omega, by split <;> simp <;> omega⟩, ?_⟩, fun h1 => ?_⟩
    · have hl := lbOk_parts (hk3 k h1)
      have hnl := nm_len hl.1
      have hvl := vl_parts hl.2
      have htl := textP_len hok k hk
      have ec : [123, 44].getD (if (1 : Int) < (k : Int) then 1 else (k : Int)).toNat (0 : UInt8) = (if k = 0 then 123 else 44) := by
        rcases k with _ | _ | k
        · rfl
        · rfl
        · rw [if_pos (by omega), if_neg (by omega)]; rfl
      rw [ec]
      have hxt : textP s (k + 1) = textP s k ++ labT k (s.labels.getD k default) := rfl
      generalize s.labels.getD k default = x at hl hnl hvl hxt ⊢
      obtain ⟨sep, hsep⟩ : ∃ sep : UInt8, sep = if k = 0 then 123 else 44 := ⟨_, rfl⟩
      rw [← hsep]
      refine call1 (wb s ltB_1 sep (by omega)) (by simp only [go_sem]) (fun h => Bool.noConfusion h) ?_
      simp only [go_sem]
      have hw := ws s (v := v + 1) (l := textP s k ++ [sep]) (D := [.rows 83 2 0 [[.c (.v (.string x.name)), .c (.v (.string x.value))]] true]) ltB_1 (x.name ++ mkS [61, 34]) (by
        simp only [List.length_append, ByteArray.size_append, mk_size, List.length_cons, List.length_nil]; omega)
      refine ⟨by show x.name.size + 2 ≤ _; omega, ?_⟩
      refine call1 hw (by simp only [go_sem]) (fun h => Bool.noConfusion h) ?_
      simp only [go_sem]
      obtain ⟨l0, hl0⟩ : ∃ l0, l0 = textP s k ++ [sep] ++ bs (x.name ++ mkS [61, 34]) := ⟨_, rfl⟩
      have hl0n : l0.length ≤ 40 + k * 60 := by
        rw [hl0]
        simp only [List.length_append, bs_len, ByteArray.size_append, mk_size, List.length_cons, List.length_nil]; omega
      rw [← hl0]
      refine V_loop (ι := Nat × Nat) (J := fun p => p.1 ≤ x.value.size) (env := fun p => [(5, .p (.one (.ptr 1 0 0 0))), (25, .p (lbL s.labels)), (26, .i s.labels.length), (27, .i k), (42, .p (.one (.ptr 4 0 0 0)))])
        (mem := fun p => pM s p.2 (l0 ++ esc ((bs x.value).take p.1)) ++ [.rows 83 2 0 [[.c (.v (.string x.name)), .c (.v (.string x.value))]] true, .sit x.value p.1]) (μ := fun p => x.value.size - p.1) (0, v + 1 + 1) (Nat.zero_le _) ⟨[], ?_, Nat.zero_le _, by simp only [go_sem, pM], pM_lt s _ _ _ ltB_2⟩ ?_
      · simp only [go_sem, esc, List.flatMap_nil]
      rintro ⟨j, u⟩ hj
      simp only [go_sem] at hj ⊢
      by_cases hjs : j < x.value.size
      · have hch := hvl.2 j hjs
        simp only [if_pos hjs, dec_ascii hjs (show ((bs x.value).getD j 0).toNat < 128 by omega), go_sem]
        have hesc : esc ((bs x.value).take (j + 1)) = esc ((bs x.value).take j) ++ esc1 ((bs x.value).getD j 0) := by
          rw [take_succ_getD 0 (by rw [bs_len]; exact hjs)]
          simp [esc]
        have hel := esc_len ((bs x.value).take j)
        rw [List.length_take, bs_len] at hel
        have hn : (l0 ++ esc ((bs x.value).take j)).length ≤ 300 := by rw [List.length_append]; omega
        generalize (bs x.value).getD j 0 = ch at hch hesc ⊢
        refine ⟨fun hc => ?_, fun hc => ?_⟩
        · have hc' : ch = 34 ∨ ch = 92 := by
            simp only [Bool.or_eq_true, beq_iff_eq] at hc
            rcases hc with hc | hc
            · exact .inl (UInt8.toNat_inj.1 (by show ch.toNat = 34; omega))
            · exact .inr (UInt8.toNat_inj.1 (by show ch.toNat = 92; omega))
          rw [esc1, if_pos hc'] at hesc
          have hw1 := wb s (v := u) (l := l0 ++ esc ((bs x.value).take j)) (D := [.rows 83 2 0 [[.c (.v (.string x.name)), .c (.v (.string x.value))]] true, .sit x.value (j + 1)]) ltB_2 92 (by omega)
          refine call1 hw1 (by simp only [go_sem]; rfl) (fun h => Bool.noConfusion h) ?_
          simp only [go_sem]
          have hw2 := wr s (v := u + 1) (l := l0 ++ esc ((bs x.value).take j) ++ [92]) (D := [.rows 83 2 0 [[.c (.v (.string x.name)), .c (.v (.string x.value))]] true, .sit x.value (j + 1)]) ltB_2 ch (by omega) (by rw [List.length_append]; simp only [List.length_cons, List.length_nil]; omega)
          refine call1 hw2 (by simp only [go_sem]) (fun h => Bool.noConfusion h) ?_
          simp only [go_sem]
          refine ⟨(j + 1, u + 1 + 1), by simp only []; omega, by simp only []; omega, [], ?_, Nat.zero_le _, by simp only [go_sem, pM], pM_lt s _ _ _ ltB_2⟩
          simp only [hesc, List.append_nil, List.append_assoc, List.cons_append, List.nil_append]
        · have hc' : ¬ (ch = 34 ∨ ch = 92) := by
            intro h
            apply Bool.false_ne_true
            rw [← hc]
            rcases h with rfl | rfl <;> rfl
          rw [esc1, if_neg hc'] at hesc
          have hw2 := wr s (v := u) (l := l0 ++ esc ((bs x.value).take j)) (D := [.rows 83 2 0 [[.c (.v (.string x.name)), .c (.v (.string x.value))]] true, .sit x.value (j + 1)]) ltB_2 ch (by omega) (by omega)
          refine call1 hw2 (by simp only [go_sem]) (fun h => Bool.noConfusion h) ?_
          simp only [go_sem]
          refine ⟨(j + 1, u + 1), by simp only []; omega, by simp only []; omega, [], ?_, Nat.zero_le _, by simp only [go_sem, pM], pM_lt s _ _ _ ltB_2⟩
          simp only [hesc, List.append_nil, List.append_assoc, List.cons_append, List.nil_append]
      · have ej : j = x.value.size := by omega
        subst ej
        simp only [if_neg hjs, go_sem]
        have hel := esc_len ((bs x.value).take x.value.size)
        rw [List.length_take, bs_len] at hel
        have hw1 := wb s (v := u) (l := l0 ++ esc ((bs x.value).take x.value.size)) (D := [.rows 83 2 0 [[.c (.v (.string x.name)), .c (.v (.string x.value))]] true, .sit x.value x.value.size]) ltB_2 34 (by rw [List.length_append]; omega)
        refine call1 hw1 (by simp only [go_sem]; rfl) (fun h => Bool.noConfusion h) ?_
        simp only [go_sem]
        refine ⟨(k + 1, u + 1), by simp only []; omega, by simp only []; omega, [.rows 83 2 0 [[.c (.v (.string x.name)), .c (.v (.string x.value))]] true, .sit x.value x.value.size], ?_, Nat.zero_le _, ?_, by simpa using pM_lt s (u + 1) (textP s (k + 1)) [] (by simp)⟩
        · have ht : l0 ++ esc ((bs x.value).take x.value.size) ++ [34] = textP s (k + 1) := by
            rw [hxt, hl0, labT, List.take_of_length_le (by rw [bs_len]; exact Nat.le_refl _), bs_append, bs_mk, hsep]
            split <;> (simp; rfl)
          simp only [ht, List.cons_append, List.nil_append]
        · simp only [go_sem, pM, w64s (show k < 9223372036854775807 by omega)]
    · have e : k = s.labels.length := by omega
      subst e
      have htl := textP_len hok _ (Nat.le_refl _)
      have hw := wb s (v := v) (l := textP s s.labels.length) (D := []) (by simp) 125 (by omega)
      refine call1 hw (by simp only [go_sem]; rfl) (fun h => Bool.noConfusion h) ?_
      simp only [go_sem]
      have hst := String_rc (M := pM s (v + 1) (textP s s.labels.length ++ [125])) (b := 1) (c := 2) (l := textP s s.labels.length ++ [125]) rfl rfl (by simp)
      refine call1 hst (by simp only [go_sem]) (fun h => Bool.noConfusion h) ?_
      simp only [go_sem]
      rw [prT, if_pos hok, if_neg (by omega)]
  · simp only [hok, go_sem]
    refine ⟨fun _ => by rw [prT, if_neg hok], fun h => absurd h (by decide)⟩
end Go.Proofs.Ytioefecijidgkaa.A
