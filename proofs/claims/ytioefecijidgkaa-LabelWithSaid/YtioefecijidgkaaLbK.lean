/- The document's Text: the walk. -/
import Derived.Test.YtioefecijidgkaaLbG
set_option linter.unusedVariables false
set_option linter.unusedSimpArgs false
namespace Go.Proofs.Ytioefecijidgkaa.A
open Go Go.Proofs Go.Proofs.YtioefecijidgkaaAbs
def textR (s : Ser) : ByteArray := mkS (textP s s.labels.length ++ (if 0 < s.labels.length then [125] else []))
theorem app_mk (l : List UInt8) (s : ByteArray) : mkS l ++ s = mkS (l ++ bs s) := bs_inj (by rw [bs_append]; rfl)
theorem textR_prT {s : Ser} (h : serOk s = true) : textR s = prT s := by
  rw [textR, prT, if_pos h]
  by_cases h0 : s.labels.length = 0
  · rw [if_neg (by omega), if_pos h0, h0, List.append_nil, textP, mk_bs]
  · rw [if_pos (by omega), if_neg h0]
set_option maxRecDepth 20000 in
theorem Text_rc (s : Ser) (hok : serOk s = true) (M : List Blk) : CallR Try.prog M n_windroseref03_Text [serA s] (.s (textR s)) M := by
  obtain ⟨hk1, hk2, hk3⟩ := serOk_parts hok
  refine callPS F_windroseref03_Text (Nat.le_of_ble_eq_true rfl) (by simp only [go_sem]) (by simp only [go_sem]) ?_ M
  refine run_seqV ?_
  simp only [go_sem]
  refine run_seqV ?_
  simp only [go_sem]
  refine run_seqV ?_
  simp only [go_sem]
  refine R_loop (ι := Nat) (J := fun k => k ≤ s.labels.length) (env := fun k => [(1, .p (.one (.ptr 0 0 0 0))), (3, .s (mkS (textP s k))), (4, .i k)])
    (mem := fun _ => [.rows 24 2 0 [[.c (.v (.string s.name)), .c (lbCV s.labels)]] true]) (μ := fun k => s.labels.length - k) 0 (Nat.zero_le _) ⟨[], by simp only [go_sem], Nat.zero_le _, by simp only [go_sem, textP]; exact (mk_bs _).symm, by simp only [go_sem, ltB]⟩ ?_
  intro k hk
  refine run_seqV ?_
  simp only [go_sem]
  refine ⟨fun h1 => ?_, fun h1 => ?_⟩
  · have hl := lbOk_parts (hk3 k h1)
    have hnl := nm_len hl.1
    have hvl := vl_parts hl.2
    have htl := textP_len hok k hk
    have hxt : textP s (k + 1) = textP s k ++ labT k (s.labels.getD k default) := rfl
    refine run_seq ?_
    refine run_block ?_
    refine run_seqV ?_
    simp only [go_sem, mk_append, mk_size]
    refine ⟨fun h0 => ?_, fun h0 => ?_⟩
    · have hlab : labT k (s.labels.getD k default) = [123] ++ (bs (s.labels.getD k default).name ++ [61, 34]) ++ esc (bs (s.labels.getD k default).value) ++ [34] := by rw [labT, if_pos (by omega)]
      refine ⟨by omega, ?_⟩
      refine run_seqV ?_
      simp only [go_sem, app_mk, mk_append, mk_size, List.length_append, List.length_cons, List.length_nil, bs_len]
      refine ⟨by omega, by omega, by omega, ?_⟩
      refine run_seqV ?_
      simp only [go_sem]
      refine ⟨by omega, ?_⟩
      obtain ⟨x, hx⟩ : ∃ x, x = s.labels.getD k default := ⟨_, rfl⟩
      simp only [← hx] at hnl hvl hlab hxt ⊢
      obtain ⟨l0, hl0⟩ : ∃ l0, l0 = textP s k ++ [123] ++ bs x.name ++ bs (mkS [61, 34]) := ⟨_, rfl⟩
      have hl0n : l0.length ≤ 40 + k * 60 := by
        rw [hl0]
        simp only [List.length_append, bs_len, mk_size, List.length_cons, List.length_nil]; omega
      simp only [← hl0]
      refine run_seqV ?_
      simp only [go_sem]
      refine R_loop (ι := Nat) (J := fun j => j ≤ x.value.size) (env := fun j => [(1, .p (.one (.ptr 0 0 0 0))), (3, .s (mkS (l0 ++ esc ((bs x.value).take j)))), (4, .i k), (5, .s x.value), (6, .i j)])
        (mem := fun _ => [.rows 24 2 0 [[.c (.v (.string s.name)), .c (lbCV s.labels)]] true]) (μ := fun j => x.value.size - j) 0 (Nat.zero_le _) ⟨[], by simp only [go_sem], Nat.zero_le _, by simp only [go_sem, esc, List.flatMap_nil], by simp only [go_sem, ltB]⟩ ?_
      intro j hj
      refine run_seqV ?_
      simp only [go_sem]
      have hesc : ∀ (hjs : j < x.value.size), esc ((bs x.value).take (j + 1)) = esc ((bs x.value).take j) ++ esc1 ((bs x.value).getD j 0) := by
        intro hjs
        rw [take_succ_getD 0 (by rw [bs_len]; exact hjs)]
        simp [esc]
      have hel := esc_len ((bs x.value).take j)
      rw [List.length_take, bs_len] at hel
      have hn : (l0 ++ esc ((bs x.value).take j)).length ≤ 300 := by rw [List.length_append]; omega
      have e1 : IntKind.i64.wrap ((j : Int) + 1) = ((j + 1 : Nat) : Int) := w64s (by omega)
      have e2 : IntKind.i64.wrap ((k : Int) + 1) = ((k + 1 : Nat) : Int) := w64s (by omega)
      refine ⟨fun hjs => ?_, fun hjs => ?_⟩
      · have hex : x.value.extract j (j + 1) = mkS [(bs x.value).getD j 0] := bs_inj (by
          rw [bs_extract, drop_getD 0 (by rw [bs_len]; exact hjs), Nat.add_sub_cancel_left]
          rfl)
        have hesc := hesc hjs
        refine run_seq ?_
        refine run_block ?_
        refine run_seqV ?_
        simp only [go_sem, mk_append, mk_size]
        generalize (bs x.value).getD j 0 = ch at hesc hex ⊢
        refine ⟨by omega, fun _ => by omega, fun hc => ?_, fun hc => ?_⟩
        · have hc' : ch = 34 ∨ ch = 92 := by
            simp only [Bool.or_eq_true, beq_iff_eq] at hc
            rcases hc with hc | hc
            · exact .inl (UInt8.toNat_inj.1 (by show ch.toNat = 34; omega))
            · exact .inr (UInt8.toNat_inj.1 (by show ch.toNat = 92; omega))
          rw [esc1, if_pos hc'] at hesc
          refine ⟨by omega, V_sound ?_⟩
          simp only [go_sem, e1, Int.toNat_natCast, hex, mk_append, mk_size, List.length_append, List.length_cons, List.length_nil]
          rw [List.length_append] at hn
          refine ⟨by omega, by omega, V_sound ?_⟩
          simp only [go_sem, e1]
          refine ⟨j + 1, by omega, by omega, [], by simp only [go_sem], Nat.zero_le _, ?_, by simp only [go_sem, ltB]⟩
          simp only [go_sem, hesc, List.append_assoc]
        · have hc' : ¬ (ch = 34 ∨ ch = 92) := by
            intro h
            apply Bool.false_ne_true
            rw [← hc]
            rcases h with rfl | rfl <;> rfl
          rw [esc1, if_neg hc'] at hesc
          refine V_sound ?_
          simp only [go_sem, e1, Int.toNat_natCast, hex, mk_append, mk_size, List.length_append, List.length_cons, List.length_nil]
          rw [List.length_append] at hn
          refine ⟨by omega, by omega, V_sound ?_⟩
          simp only [go_sem, e1]
          refine ⟨j + 1, by omega, by omega, [], by simp only [go_sem], Nat.zero_le _, ?_, by simp only [go_sem, ltB]⟩
          simp only [go_sem, hesc, List.append_assoc]
      · have ej : j = x.value.size := by omega
        subst ej
        refine V_sound ?_
        simp only [go_sem, mk_append, mk_size]
        refine ⟨by omega, V_sound ?_⟩
        simp only [go_sem, e2]
        refine ⟨k + 1, by omega, by omega, [], by simp only [go_sem], Nat.zero_le _, ?_, by simp only [go_sem, ltB]⟩
        have ht : l0 ++ esc ((bs x.value).take x.value.size) ++ [34] = textP s (k + 1) := by
          have e : bs (mkS [61, 34]) = [61, 34] := rfl
          rw [hxt, hlab, hl0, List.take_of_length_le (by rw [bs_len]; exact Nat.le_refl _), e]
          simp
        rw [ht]
        simp only [go_sem]
    · have hlab : labT k (s.labels.getD k default) = [44] ++ (bs (s.labels.getD k default).name ++ [61, 34]) ++ esc (bs (s.labels.getD k default).value) ++ [34] := by rw [labT, if_neg (by omega)]
      refine ⟨by omega, ?_⟩
      refine run_seqV ?_
      simp only [go_sem, app_mk, mk_append, mk_size, List.length_append, List.length_cons, List.length_nil, bs_len]
      refine ⟨by omega, by omega, by omega, ?_⟩
      refine run_seqV ?_
      simp only [go_sem]
      refine ⟨by omega, ?_⟩
      obtain ⟨x, hx⟩ : ∃ x, x = s.labels.getD k default := ⟨_, rfl⟩
      simp only [← hx] at hnl hvl hlab hxt ⊢
      obtain ⟨l0, hl0⟩ : ∃ l0, l0 = textP s k ++ [44] ++ bs x.name ++ bs (mkS [61, 34]) := ⟨_, rfl⟩
      have hl0n : l0.length ≤ 40 + k * 60 := by
        rw [hl0]
        simp only [List.length_append, bs_len, mk_size, List.length_cons, List.length_nil]; omega
      simp only [← hl0]
      refine run_seqV ?_
      simp only [go_sem]
      refine R_loop (ι := Nat) (J := fun j => j ≤ x.value.size) (env := fun j => [(1, .p (.one (.ptr 0 0 0 0))), (3, .s (mkS (l0 ++ esc ((bs x.value).take j)))), (4, .i k), (5, .s x.value), (6, .i j)])
        (mem := fun _ => [.rows 24 2 0 [[.c (.v (.string s.name)), .c (lbCV s.labels)]] true]) (μ := fun j => x.value.size - j) 0 (Nat.zero_le _) ⟨[], by simp only [go_sem], Nat.zero_le _, by simp only [go_sem, esc, List.flatMap_nil], by simp only [go_sem, ltB]⟩ ?_
      intro j hj
      refine run_seqV ?_
      simp only [go_sem]
      have hesc : ∀ (hjs : j < x.value.size), esc ((bs x.value).take (j + 1)) = esc ((bs x.value).take j) ++ esc1 ((bs x.value).getD j 0) := by
        intro hjs
        rw [take_succ_getD 0 (by rw [bs_len]; exact hjs)]
        simp [esc]
      have hel := esc_len ((bs x.value).take j)
      rw [List.length_take, bs_len] at hel
      have hn : (l0 ++ esc ((bs x.value).take j)).length ≤ 300 := by rw [List.length_append]; omega
      have e1 : IntKind.i64.wrap ((j : Int) + 1) = ((j + 1 : Nat) : Int) := w64s (by omega)
      have e2 : IntKind.i64.wrap ((k : Int) + 1) = ((k + 1 : Nat) : Int) := w64s (by omega)
      refine ⟨fun hjs => ?_, fun hjs => ?_⟩
      · have hex : x.value.extract j (j + 1) = mkS [(bs x.value).getD j 0] := bs_inj (by
          rw [bs_extract, drop_getD 0 (by rw [bs_len]; exact hjs), Nat.add_sub_cancel_left]
          rfl)
        have hesc := hesc hjs
        refine run_seq ?_
        refine run_block ?_
        refine run_seqV ?_
        simp only [go_sem, mk_append, mk_size]
        generalize (bs x.value).getD j 0 = ch at hesc hex ⊢
        refine ⟨by omega, fun _ => by omega, fun hc => ?_, fun hc => ?_⟩
        · have hc' : ch = 34 ∨ ch = 92 := by
            simp only [Bool.or_eq_true, beq_iff_eq] at hc
            rcases hc with hc | hc
            · exact .inl (UInt8.toNat_inj.1 (by show ch.toNat = 34; omega))
            · exact .inr (UInt8.toNat_inj.1 (by show ch.toNat = 92; omega))
          rw [esc1, if_pos hc'] at hesc
          refine ⟨by omega, V_sound ?_⟩
          simp only [go_sem, e1, Int.toNat_natCast, hex, mk_append, mk_size, List.length_append, List.length_cons, List.length_nil]
          rw [List.length_append] at hn
          refine ⟨by omega, by omega, V_sound ?_⟩
          simp only [go_sem, e1]
          refine ⟨j + 1, by omega, by omega, [], by simp only [go_sem], Nat.zero_le _, ?_, by simp only [go_sem, ltB]⟩
          simp only [go_sem, hesc, List.append_assoc]
        · have hc' : ¬ (ch = 34 ∨ ch = 92) := by
            intro h
            apply Bool.false_ne_true
            rw [← hc]
            rcases h with rfl | rfl <;> rfl
          rw [esc1, if_neg hc'] at hesc
          refine V_sound ?_
          simp only [go_sem, e1, Int.toNat_natCast, hex, mk_append, mk_size, List.length_append, List.length_cons, List.length_nil]
          rw [List.length_append] at hn
          refine ⟨by omega, by omega, V_sound ?_⟩
          simp only [go_sem, e1]
          refine ⟨j + 1, by omega, by omega, [], by simp only [go_sem], Nat.zero_le _, ?_, by simp only [go_sem, ltB]⟩
          simp only [go_sem, hesc, List.append_assoc]
      · have ej : j = x.value.size := by omega
        subst ej
        refine V_sound ?_
        simp only [go_sem, mk_append, mk_size]
        refine ⟨by omega, V_sound ?_⟩
        simp only [go_sem, e2]
        refine ⟨k + 1, by omega, by omega, [], by simp only [go_sem], Nat.zero_le _, ?_, by simp only [go_sem, ltB]⟩
        have ht : l0 ++ esc ((bs x.value).take x.value.size) ++ [34] = textP s (k + 1) := by
          have e : bs (mkS [61, 34]) = [61, 34] := rfl
          rw [hxt, hlab, hl0, List.take_of_length_le (by rw [bs_len]; exact Nat.le_refl _), e]
          simp
        rw [ht]
        simp only [go_sem]
  · have e : k = s.labels.length := by omega
    subst e
    have htl := textP_len hok _ (Nat.le_refl _)
    refine V_sound ?_
    simp only [go_sem, mk_append, mk_size]
    unfold textR
    by_cases h0 : 0 < s.labels.length
    · rw [if_pos h0]
      exact ⟨fun _ => ⟨by omega, SubS.refl _⟩, fun h => absurd h (by omega)⟩
    · rw [if_neg h0, List.append_nil]
      exact ⟨fun h => absurd h (by omega), fun _ => SubS.refl _⟩
end Go.Proofs.Ytioefecijidgkaa.A
