/- label.quoted: the walk. -/
import Derived.Test.YtioefecijidgkaaLbA
import Derived.Test.YtioefecijidgkaaAbsFr
set_option linter.unusedVariables false
set_option linter.unusedSimpArgs false
namespace Go.Proofs.Ytioefecijidgkaa.A
open Go Go.Proofs Go.Proofs.YtioefecijidgkaaAbs
/-- What stands ahead of the closing quote, and what behind it. -/
def quo : List UInt8 → Option (List UInt8 × List UInt8)
  | [] => none
  | [c] => if c = 34 then some ([], []) else none
  | c :: d :: r => if c = 34 then some ([], d :: r) else if c = 92 then (if d = 34 ∨ d = 92 then (quo r).map (fun p => (d :: p.1, p.2)) else none) else (quo (d :: r)).map (fun p => (c :: p.1, p.2))
theorem quo_q (r : List UInt8) : quo (34 :: r) = some ([], r) := by cases r <;> simp [quo]
theorem quo_c {c : UInt8} (h1 : c ≠ 34) (h2 : c ≠ 92) (r : List UInt8) : quo (c :: r) = (quo r).map (fun p => (c :: p.1, p.2)) := by
  cases r <;> simp [quo, h1, h2]
theorem quo_b {d : UInt8} (h : d = 34 ∨ d = 92) (r : List UInt8) : quo (92 :: d :: r) = (quo r).map (fun p => (d :: p.1, p.2)) := by simp [quo, h]
theorem quo_bn {d : UInt8} (h : ¬ (d = 34 ∨ d = 92)) (r : List UInt8) : quo (92 :: d :: r) = none := by simp [quo, h]
def quotS (s : ByteArray) : ByteArray × ByteArray × Bool := match quo (bs s) with
  | some (a, r) => (mkS a, mkS r, true)
  | none => (mkS [], mkS [], false)
theorem rowsBytes_map : ∀ l : List UInt8, rowsBytes (l.map byteRow) = some l
  | [] => rfl
  | x :: l => by
    simp only [List.map_cons, byteRow, rowsBytes, rowsBytes_map l, Option.map_some, Int.toNat_natCast]
    rw [UInt8.ofNat_toNat]
def byteRows (l : List UInt8) : List (List AV) := l.map byteRow
@[go_sem] theorem byteRows_len (l : List UInt8) : (byteRows l).length = l.length := List.length_map ..
@[go_sem] theorem byteRows_take (l : List UInt8) : (byteRows l).take l.length = byteRows l := List.take_of_length_le (by rw [byteRows_len]; exact Nat.le_refl _)
@[go_sem] theorem byteRows_bytes (l : List UInt8) : rowsBytes (byteRows l) = some l := rowsBytes_map l
@[go_sem] theorem byteRows_app (l : List UInt8) (x : UInt8) : byteRows l ++ [[.c (.v (.int .u8 x.toNat))]] = byteRows (l ++ [x]) := by simp [byteRows, byteRow]
theorem lt_byteRows (n : Nat) (l : List UInt8) : ∀ r ∈ byteRows l, ∀ a ∈ r, ltA n a := by
  intro r hr a ha
  obtain ⟨x, _, rfl⟩ := List.mem_map.1 hr
  obtain rfl := List.mem_singleton.1 ha
  trivial
set_option maxRecDepth 20000 in
theorem quoted_rc (s : ByteArray) (hs : s.size ≤ 140737488355328) (M : List Blk) : CallR Try.prog M n_label_quoted [.s s] (.tup [.s (quotS s).1, .s (quotS s).2.1, .b (quotS s).2.2]) M := by
  refine callP F_label_quoted (Nat.le_of_ble_eq_true rfl) (by simp only [go_sem]) (by simp only [go_sem]) ?_ M
  simp only [c_label_quoted, go_sem]
  refine run_gh (gh_born 5 5 1 (by simp only [go_sem])) ?_
  refine V_loop (ι := Nat × Nat × Bool × List UInt8) (J := fun p => p.1 ≤ s.size ∧ p.2.2.2.length ≤ p.1 ∧ quo (bs s) = (quo ((bs s).drop p.1)).map (fun q => (p.2.2.2 ++ q.1, q.2)))
    (env := fun p => [(0, .s s), (5, .p (.one (.arr 1 0 p.2.1 0 p.2.2.2.length))), (6, .i p.1)])
    (mem := fun p => [.rows 5 1 p.2.1 (byteRows p.2.2.2) p.2.2.1]) (μ := fun p => s.size - p.1) (0, 0, true, []) ⟨Nat.zero_le _, Nat.le_refl _, by simp⟩ ?_ ?_
  · exact ⟨[], by simp only [go_sem]; rfl, Nat.zero_le _, by simp only [go_sem], by simp only [go_sem, ltB]; exact lt_byteRows _ _⟩
  rintro ⟨i, ver, f, acc⟩ ⟨hi, hacc, hq⟩
  simp only [go_sem] at hi hacc hq ⊢
  refine ⟨fun h1 => ?_, fun h1 => ?_⟩
  · have e1 : IntKind.i64.wrap ((i : Int) + 1) = ((i + 1 : Nat) : Int) := w64s (by omega)
    have hl : i < (bs s).length := by rw [bs_len]; exact h1
    rw [drop_getD 0 hl] at hq
    simp only [e1, Int.toNat_natCast]
    have hdr : ∀ k, ((bs s).drop k).length = s.size - k := fun k => by rw [List.length_drop, bs_len]
    generalize hc0 : (bs s).getD i 0 = c at hq ⊢
    refine ⟨by omega, fun hc => ?_, fun hc => ⟨fun hb => ?_, fun hb => ?_⟩⟩
    · have hc : c = 34 := UInt8.toNat_inj.1 (by show c.toNat = 34; omega)
      subst hc
      rw [quo_q] at hq
      refine ⟨by omega, ?_⟩
      simp only [quotS, hq, Option.map_some, List.append_nil]
      refine ⟨trivial, bs_inj ?_, trivial⟩
      rw [bs_extract, List.take_of_length_le (by rw [hdr]; exact Nat.le_refl _)]
      rfl
    · have hb : c = 92 := UInt8.toNat_inj.1 (by show c.toNat = 92; omega)
      subst hb
      by_cases hend : i + 1 = s.size
      · have hd : (bs s).drop (i + 1) = [] := List.eq_nil_of_length_eq_zero (by rw [hdr]; omega)
        rw [hd] at hq
        have hq' : quo (bs s) = none := by rw [hq]; rfl
        have eb : ((((i + 1 : Nat) : Int)) == (s.size : Int)) = true := by rw [beq_iff_eq]; omega
        simp only [eb, quotS, hq']
        refine ⟨fun h => absurd h (by decide), fun h => absurd h (by simp), fun _ => ⟨trivial, trivial, trivial⟩, fun h => absurd h (by simp)⟩
      · have eb : ((((i + 1 : Nat) : Int)) == (s.size : Int)) = false := by rw [beq_eq_false_iff_ne]; omega
        rw [drop_getD 0 (show i + 1 < (bs s).length by rw [bs_len]; omega)] at hq
        generalize (bs s).getD (i + 1) 0 = d at hq ⊢
        simp only [eb, Bool.false_or, Bool.not_false, Bool.true_and]
        refine ⟨fun _ => by omega, fun _ => by omega, fun h => ?_, fun h => ⟨by omega, by omega, ?_⟩⟩
        · have hd : ¬ (d = 34 ∨ d = 92) := by
            rintro (rfl | rfl) <;> exact absurd h (by decide)
          rw [quo_bn hd] at hq
          simp only [quotS, hq, Option.map_none]
          exact ⟨trivial, trivial, trivial⟩
        · have hd : d = 34 ∨ d = 92 := by
            simp only [Bool.and_eq_false_iff, bne_eq_false_iff_eq] at h
            rcases h with h | h
            · exact .inl (UInt8.toNat_inj.1 (by show d.toNat = 34; omega))
            · exact .inr (UInt8.toNat_inj.1 (by show d.toNat = 92; omega))
          rw [quo_b hd] at hq
          refine ⟨(i + 1 + 1, ver + 1, false, acc ++ [d]), ⟨by simp only []; omega, by simp; omega, ?_⟩, by simp only []; omega, [.rows 5 1 0 [[AV.c (CV.v (Value.int IntKind.u8 d.toNat))]] true], ?_, Nat.zero_le _, ?_, ?_⟩
          · rw [hq, Option.map_map]
            congr 1
            funext q
            simp
          · simp only [go_sem]
          · have e2 : IntKind.i64.wrap (((i + 1 : Nat) : Int) + 1) = ((i + 1 + 1 : Nat) : Int) := w64s (by omega)
            simp only [go_sem, e2, List.length_append]
          · simp only [go_sem, ltB]; exact lt_byteRows _ _
    · have hb' : c ≠ 92 := fun e => hb (by rw [e]; rfl)
      have hc' : c ≠ 34 := fun e => hc (by rw [e]; rfl)
      rw [quo_c hc' hb'] at hq
      refine ⟨by omega, by omega, (i + 1, ver + 1, false, acc ++ [c]), ⟨by simp only []; omega, by simp; omega, ?_⟩, by simp only []; omega, [.rows 5 1 0 [[AV.c (CV.v (Value.int IntKind.u8 c.toNat))]] true], ?_, Nat.zero_le _, ?_, ?_⟩
      · rw [hq, Option.map_map]
        congr 1
        funext q
        simp
      · simp only [go_sem]
      · simp only [go_sem, e1, List.length_append]
      · simp only [go_sem, ltB]; exact lt_byteRows _ _
  · have hd : (bs s).drop i = [] := List.eq_nil_of_length_eq_zero (by rw [List.length_drop, bs_len]; omega)
    rw [hd] at hq
    have hq' : quo (bs s) = none := by rw [hq]; rfl
    simp only [quotS, hq']
    exact ⟨trivial, trivial, trivial⟩
end Go.Proofs.Ytioefecijidgkaa.A
