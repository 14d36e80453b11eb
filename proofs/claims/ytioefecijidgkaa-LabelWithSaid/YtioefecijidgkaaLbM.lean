/- The document's Parse: the walk. -/
import Derived.Test.YtioefecijidgkaaLbJ
import Derived.Test.YtioefecijidgkaaLbC
import Derived.Test.YtioefecijidgkaaAbsBl2
set_option linter.unusedVariables false
set_option linter.unusedSimpArgs false
namespace Go.Proofs.Ytioefecijidgkaa.A
open Go Go.Proofs Go.Proofs.YtioefecijidgkaaAbs
def fAt (l : List UInt8) (c : UInt8) : Nat := l.findIdx (· == c)
theorem until_f (s : ByteArray) (c : UInt8) : ∀ (n at_ : Nat), n = s.size - at_ → at_ ≤ s.size → untilS s c.toNat n at_ = at_ + fAt ((bs s).drop at_) c
  | 0, at_, hn, ha => by
    have : (bs s).drop at_ = [] := List.eq_nil_of_length_eq_zero (by rw [List.length_drop, bs_len]; omega)
    rw [untilS, this]; rfl
  | n + 1, at_, hn, ha => by
    have hl : at_ < (bs s).length := by rw [bs_len]; omega
    rw [untilS, drop_getD 0 hl, fAt, List.findIdx_cons]
    by_cases h : (bs s).getD at_ 0 = c
    · rw [if_neg (by rw [h]; simp), h]
      simp
    · have h' : ¬ (((bs s).getD at_ 0).toNat : Int) = (c.toNat : Int) := fun e => h (UInt8.toNat_inj.1 (by omega))
      rw [if_pos ⟨by omega, h'⟩, until_f s c n (at_ + 1) (by omega) (by omega)]
      have : ((bs s).getD at_ 0 == c) = false := by simpa using h
      rw [this]
      show _ = at_ + (fAt _ c + 1)
      omega
/-- Where a label goes. -/
def posL (n : ByteArray) : List Lb → Nat
  | [] => 0
  | y :: l => if sLt y.name n then posL n l + 1 else 0
def insLb (ls : List Lb) (x : Lb) : List Lb := ls.take (posL x.name ls) ++ [x] ++ ls.drop (posL x.name ls)
def refG : Nat → List UInt8 → List Lb → Option (List Lb)
  | 0, _, _ => none
  | n + 1, rest, ls =>
    match rest.drop (fAt rest 61 + 1) with
    | [] => none
    | q :: r => if q ≠ 34 then none else if ls.length = 4 then none else
      match quo r with
      | none => none
      | some (_, []) => none
      | some (a, x :: t) => if x = 44 then refG n t (insLb ls ⟨mkS (rest.take (fAt rest 61)), mkS a⟩) else if x = 125 ∧ t = [] then some (insLb ls ⟨mkS (rest.take (fAt rest 61)), mkS a⟩) else none
def refAll (s : List UInt8) : Option (List Lb) := if fAt s 123 < s.length then refG 5 (s.drop (fAt s 123 + 1)) [] else some []
def refS (s : ByteArray) : Option Ser := (refAll (bs s)).bind fun ls => if serOk ⟨mkS ((bs s).take (fAt (bs s) 123)), ls⟩ then some ⟨mkS ((bs s).take (fAt (bs s) 123)), ls⟩ else none
def refR (s : ByteArray) : SV := match refS s with
  | some x => .tup [serA x, .b true]
  | none => .tup [serA ⟨mkS [], []⟩, .b false]
theorem take_range (ls : List Lb) {k : Nat} (hk : k ≤ ls.length) : ls.take k = (List.range k).map fun i => ls.getD i default := by
  refine List.ext_getElem (by simp; omega) (fun i h1 h2 => ?_)
  simp at h1
  simp [List.getD_eq_getElem?_getD, List.getElem?_eq_getElem (show i < ls.length by omega)]
theorem drop_range (ls : List Lb) (k : Nat) : ls.drop k = (List.range (ls.length - k)).map fun i => ls.getD (k + i) default := by
  refine List.ext_getElem (by simp) (fun i h1 h2 => ?_)
  simp at h1
  simp [List.getD_eq_getElem?_getD, List.getElem?_eq_getElem (show k + i < ls.length by omega)]
theorem posL_le (n : ByteArray) : ∀ l : List Lb, posL n l ≤ l.length
  | [] => Nat.le_refl _
  | y :: l => by
    rw [posL]
    have := posL_le n l
    split <;> simp <;> omega
theorem insLb_len (ls : List Lb) (x : Lb) : (insLb ls x).length = ls.length + 1 := by
  have := posL_le x.name ls
  simp only [insLb, List.length_append, List.length_take, List.length_drop, List.length_singleton]
  omega
theorem posL_is {n : ByteArray} : ∀ {l : List Lb} {k : Nat}, k ≤ l.length → (∀ i, i < k → sLt (l.getD i default).name n = true) → (k < l.length → sLt (l.getD k default).name n = false) → posL n l = k
  | [], k, hk, _, _ => by simp at hk; rw [posL, hk]
  | y :: l, 0, _, _, h => by
    have := h (by simp)
    rw [posL]
    rw [List.getD_cons_zero] at this
    rw [this]; rfl
  | y :: l, k + 1, hk, h1, h2 => by
    have h0 := h1 0 (by omega)
    rw [List.getD_cons_zero] at h0
    rw [posL, if_pos h0, posL_is (k := k) (by simpa using hk) (fun i hi => by have := h1 (i + 1) (by omega); rwa [List.getD_cons_succ] at this) (fun hi => by have := h2 (by simpa using hi); rwa [List.getD_cons_succ] at this)]
theorem fAt_le (l : List UInt8) (c : UInt8) : fAt l c ≤ l.length := List.findIdx_le_length
set_option maxRecDepth 20000 in
theorem rParse_rc (s : ByteArray) (hs : s.size ≤ 2000) (M : List Blk) : CallR Try.prog M n_windroseref03_Parse [.s s] (refR s) M := by
  refine callPS F_windroseref03_Parse (Nat.le_of_ble_eq_true rfl) (by simp only [go_sem]) (by unfold refR; split <;> simp only [go_sem]) ?_ M
  have hz : zS s := by unfold zS; omega
  have herr : refS s = none → SubS (.tup [.agg [.c (.v (.string ⟨#[]⟩)), .c (.v (.slice none 0 0))], .b false]) (refR s) := by
    intro h
    have : refR s = .tup [serA ⟨mkS [], []⟩, .b false] := by unfold refR; rw [h]
    rw [this]
    exact subS_tup2 sub_zero (SubP.refl _)
  obtain ⟨at0, hat⟩ : ∃ k, k = fAt (bs s) 123 := ⟨_, rfl⟩
  have hat_le : at0 ≤ s.size := by have := fAt_le (bs s) 123; rw [bs_len] at this; omega
  have hun : untilS s 123 (s.size - 0) 0 = at0 := by
    have := until_f s 123 (s.size - 0) 0 rfl (Nat.zero_le _)
    rw [show (((123 : UInt8).toNat : Nat) : Int) = 123 from rfl] at this
    rw [this, hat, Nat.zero_add]; rfl
  refine run_seqV ?_
  simp only [go_sem]
  refine run_seqV ?_
  simp only [go_sem]
  have hu := until_rc s hz 0 123 (by omega)
  rw [hun] at hu
  refine call0 hu ?_
  simp only [go_sem]
  refine run_seqV ?_
  simp only [go_sem]
  refine ⟨by omega, ?_⟩
  obtain ⟨nm, hnm⟩ : ∃ nm, nm = s.extract 0 at0 := ⟨_, rfl⟩
  have hnm' : nm = mkS ((bs s).take at0) := bs_inj (by rw [hnm, bs_extract, List.drop_zero, Nat.sub_zero]; rfl)
  rw [← hnm]
  refine run_gh (gh_sub_cell (b := 1) (i := 0) (j := 1) (.c (.v (.slice none 0 0))) (.c (lbCV [])) rfl rfl rfl (subA_nil 2 _)) ?_
  refine run_seqV ?_
  simp only [go_sem]
  refine R_loop (ι := Nat × List Lb) (J := fun p => p.1 ≤ s.size ∧ p.2.length ≤ 4 ∧ (∀ y ∈ p.2, zS y.name ∧ zS y.value) ∧ (if p.1 < s.size then refG (5 - p.2.length) ((bs s).drop (p.1 + 1)) p.2 else some p.2) = refAll (bs s))
    (env := fun p => [(0, .s s), (2, .p (.one (.ptr 0 0 0 0))), (4, .i p.1), (5, .p (.one (.ptr 1 0 0 0)))])
    (mem := fun p => [.rows 24 2 0 [[.c (.v (.string ⟨#[]⟩)), .c (.v (.slice none 0 0))]] true, .rows 24 2 0 [[.c (.v (.string nm)), .c (lbCV p.2)]] true])
    (μ := fun p => 5 - p.2.length) (at0, []) ⟨hat_le, Nat.zero_le _, by simp, ?_⟩ ⟨[], ?_, Nat.zero_le _, ?_, ?_⟩ ?_
  · unfold refAll
    rw [← hat, bs_len]
    rfl
  · simp only [go_sem, fillL]
  · simp only [go_sem]
  · simp only [go_sem, ltB]
  rintro ⟨at_, ls⟩ ⟨hat1, hls, hzl, hpar⟩
  simp only at hat1 hls hzl hpar
  refine run_seqV ?_
  simp only [go_sem]
  refine ⟨fun h1 => ?_, fun h1 => ?_⟩
  · rw [if_pos h1] at hpar
    have e1 : IntKind.i64.wrap ((at_ : Int) + 1) = ((at_ + 1 : Nat) : Int) := w64s (by omega)
    refine run_block ?_
    refine run_seqV ?_
    simp only [go_sem, e1]
    refine run_seqV ?_
    simp only [go_sem]
    obtain ⟨rest, hrest⟩ : ∃ r, r = (bs s).drop (at_ + 1) := ⟨_, rfl⟩
    obtain ⟨i, hi⟩ : ∃ i, i = fAt rest 61 := ⟨_, rfl⟩
    have hrl : rest.length = s.size - (at_ + 1) := by rw [hrest, List.length_drop, bs_len]
    have hile : i ≤ rest.length := by rw [hi]; exact fAt_le _ _
    have hun2 : untilS s 61 (s.size - (at_ + 1)) (at_ + 1) = at_ + 1 + i := by
      have := until_f s 61 (s.size - (at_ + 1)) (at_ + 1) rfl (by omega)
      rw [show (((61 : UInt8).toNat : Nat) : Int) = 61 from rfl] at this
      rw [this, hi, hrest]
    have hu := until_rc s hz (at_ + 1) 61 (by omega)
    rw [hun2] at hu
    refine call0 hu ?_
    simp only [go_sem]
    obtain ⟨n, hn⟩ : ∃ n, 5 - ls.length = n + 1 := ⟨4 - ls.length, by omega⟩
    rw [hn, ← hrest, refG, ← hi] at hpar
    have hdr : rest.drop (i + 1) = (bs s).drop (at_ + 1 + i + 1) := by rw [hrest, List.drop_drop]; congr 1
    obtain ⟨eq, heq⟩ : ∃ e, e = at_ + 1 + i := ⟨_, rfl⟩
    rw [hdr, ← heq] at hpar
    rw [← heq]
    have e2 : IntKind.i64.wrap ((eq : Int) + 1) = ((eq + 1 : Nat) : Int) := w64s (by omega)
    have herr' : refAll (bs s) = none → SubS (.tup [.agg [.c (.v (.string ⟨#[]⟩)), .c (.v (.slice none 0 0))], .b false]) (refR s) := fun h => herr (by unfold refS; rw [h]; rfl)
    refine run_seqV ?_
    simp only [go_sem, e2, Int.toNat_natCast]
    by_cases h2 : s.size ≤ eq + 1
    · have hd : (bs s).drop (eq + 1) = [] := List.eq_nil_of_length_eq_zero (by rw [List.length_drop, bs_len]; omega)
      rw [hd] at hpar
      refine ⟨fun h => ?_, fun _ => herr' hpar.symm, fun h => ?_⟩
      · rw [decide_eq_true h2] at h; cases h
      · rw [decide_eq_true h2] at h; simp at h
    · rw [drop_getD 0 (show eq + 1 < (bs s).length by rw [bs_len]; omega)] at hpar
      have hd2 : decide (s.size ≤ eq + 1) = false := decide_eq_false h2
      generalize (bs s).getD (eq + 1) 0 = q at hpar ⊢
      simp only [hd2]
      by_cases hq : q = 34
      case neg =>
        simp only [if_pos (show q ≠ 34 from hq)] at hpar
        refine ⟨fun _ => by omega, fun _ => herr' hpar.symm, fun h => ?_⟩
        exfalso
        simp only [Bool.false_or, Bool.or_eq_false_iff, bne_eq_false_iff_eq] at h
        exact hq (UInt8.toNat_inj.1 (by show q.toNat = 34; omega))
      subst hq
      simp only [ne_eq, not_true_eq_false, if_false] at hpar
      by_cases h4 : ls.length = 4
      · rw [if_pos h4] at hpar
        refine ⟨fun _ => by omega, fun _ => herr' hpar.symm, fun h => ?_⟩
        rw [h4] at h
        simp at h
      rw [if_neg h4] at hpar
      refine ⟨fun _ => by omega, fun h => ?_, fun _ => ?_⟩
      · exfalso
        simp at h
        omega
      refine run_seqV ?_
      simp only [go_sem, Int.toNat_natCast]
      refine ⟨by omega, ?_⟩
      obtain ⟨kk, hkk⟩ : ∃ k, k = s.extract (at_ + 1) eq := ⟨_, rfl⟩
      have hkk' : kk = mkS (rest.take i) := bs_inj (by rw [hkk, bs_extract, ← hrest, heq, Nat.add_sub_cancel_left]; rfl)
      rw [← hkk]
      rw [← hkk'] at hpar
      refine run_seqV ?_
      have e3 : IntKind.i64.wrap ((eq : Int) + 2) = ((eq + 1 + 1 : Nat) : Int) := by rw [w64 (by omega) (by omega)]; omega
      simp only [go_sem, e3]
      refine run_seqV ?_
      simp only [go_sem]
      obtain ⟨pos, hpos⟩ : ∃ p, p = eq + 1 + 1 := ⟨_, rfl⟩
      rw [← hpos] at hpar ⊢
      have hkz : zS kk := by unfold zS; rw [hkk', mk_size, List.length_take]; omega
      refine R_loop (ι := Nat × List UInt8) (J := fun p => p.1 ≤ s.size ∧ p.2.length ≤ p.1 ∧ quo ((bs s).drop pos) = (quo ((bs s).drop p.1)).map (fun q => (p.2 ++ q.1, q.2)))
        (env := fun p => [(0, .s s), (2, .p (.one (.ptr 0 0 0 0))), (4, .i p.1), (5, .p (.one (.ptr 1 0 0 0))), (8, .p (.one (.ptr 2 0 0 0)))])
        (mem := fun p => [.rows 24 2 0 [[.c (.v (.string ⟨#[]⟩)), .c (.v (.slice none 0 0))]] true, .rows 24 2 0 [[.c (.v (.string nm)), .c (lbCV ls)]] true, .rows 83 2 0 [[.c (.v (.string kk)), .c (.v (.string (mkS p.2)))]] true])
        (μ := fun p => s.size - p.1) (pos, []) ⟨by simp only; omega, Nat.zero_le _, by simp⟩ ⟨[], by simp only [go_sem], Nat.zero_le _, by simp only [go_sem], by simp only [go_sem, ltB]⟩ ?_
      rintro ⟨p, acc⟩ ⟨hp, hacc, hquo⟩
      simp only at hp hacc hquo
      refine run_seqV ?_
      simp only [go_sem]
      have e4 : IntKind.i64.wrap ((p : Int) + 1) = ((p + 1 : Nat) : Int) := w64s (by omega)
      refine ⟨fun _ => by omega, fun hc => ?_, fun hc => ?_⟩
      · simp only [Bool.and_eq_true, decide_eq_true_eq] at hc
        obtain ⟨hps, hc34⟩ := hc
        rw [drop_getD 0 (show p < (bs s).length by rw [bs_len]; omega)] at hquo
        refine run_block ?_
        refine run_seqV ?_
        simp only [go_sem, e4, Int.toNat_natCast]
        generalize hc0 : (bs s).getD p 0 = c at hc34 hquo ⊢
        have hc34' : c ≠ 34 := fun e => by rw [e] at hc34; exact absurd hc34 (by decide)
        refine ⟨by omega, fun hc => ?_, fun hc => ?_⟩
        · have hc : c = 92 := UInt8.toNat_inj.1 (by show c.toNat = 92; omega)
          subst hc
          have hq0 : quo ((bs s).drop pos) = none → refAll (bs s) = none := by
            intro h
            rw [h] at hpar
            exact hpar.symm
          by_cases hend : p + 1 = s.size
          · have hd : (bs s).drop (p + 1) = [] := List.eq_nil_of_length_eq_zero (by rw [List.length_drop, bs_len]; omega)
            rw [hd] at hquo
            have eb : ((((p + 1 : Nat) : Int)) == (s.size : Int)) = true := by rw [beq_iff_eq]; omega
            simp only [eb]
            refine ⟨fun h => absurd h (by decide), fun h => absurd h (by simp), fun _ => herr' (hq0 (by rw [hquo]; rfl)), fun h => absurd h (by simp)⟩
          · have eb : ((((p + 1 : Nat) : Int)) == (s.size : Int)) = false := by rw [beq_eq_false_iff_ne]; omega
            have hex : s.extract (p + 1) (p + 1 + 1) = mkS [(bs s).getD (p + 1) 0] := bs_inj (by
              rw [bs_extract, drop_getD 0 (by rw [bs_len]; omega), Nat.add_sub_cancel_left]
              rfl)
            have e5 : IntKind.i64.wrap (((p + 1 : Nat) : Int) + 1) = ((p + 1 + 1 : Nat) : Int) := w64s (by omega)
            rw [drop_getD 0 (show p + 1 < (bs s).length by rw [bs_len]; omega)] at hquo
            generalize (bs s).getD (p + 1) 0 = d at hquo hex ⊢
            simp only [eb, Bool.false_or, Bool.not_false, Bool.true_and]
            refine ⟨fun _ => by omega, fun _ => by omega, fun h => ?_, fun h => ?_⟩
            · have hd : ¬ (d = 34 ∨ d = 92) := by
                rintro (rfl | rfl) <;> exact absurd h (by decide)
              rw [quo_bn hd] at hquo
              exact herr' (hq0 (by rw [hquo]; rfl))
            · have hd : d = 34 ∨ d = 92 := by
                simp only [Bool.and_eq_false_iff, bne_eq_false_iff_eq] at h
                rcases h with h | h
                · exact .inl (UInt8.toNat_inj.1 (by show d.toNat = 34; omega))
                · exact .inr (UInt8.toNat_inj.1 (by show d.toNat = 92; omega))
              rw [quo_b hd] at hquo
              refine run_seqV ?_
              simp only [go_sem, e5, Int.toNat_natCast, hex, mk_append, mk_size, List.length_cons, List.length_nil]
              refine ⟨by omega, by omega, ?_⟩
              refine V_sound ?_
              simp only [go_sem, e5]
              refine ⟨(p + 1 + 1, acc ++ [d]), ⟨by simp only; omega, by simp; omega, ?_⟩, by simp only; omega, [], by simp only [go_sem], Nat.zero_le _, ?_, by simp only [go_sem, ltB]⟩
              · rw [hquo, Option.map_map]
                congr 1
                funext q
                simp
              · simp only [go_sem]
        · have hb' : c ≠ 92 := fun e => hc (by rw [e]; rfl)
          rw [quo_c hc34' hb'] at hquo
          have hex : s.extract p (p + 1) = mkS [c] := bs_inj (by
            rw [bs_extract, drop_getD 0 (by rw [bs_len]; omega), Nat.add_sub_cancel_left, hc0]
            rfl)
          refine run_seqV ?_
          simp only [go_sem, e4, Int.toNat_natCast, hex, mk_append, mk_size, List.length_cons, List.length_nil]
          refine ⟨by omega, by omega, ?_⟩
          refine V_sound ?_
          simp only [go_sem, e4]
          refine ⟨(p + 1, acc ++ [c]), ⟨by simp only; omega, by simp; omega, ?_⟩, by simp only; omega, [], by simp only [go_sem], Nat.zero_le _, ?_, by simp only [go_sem, ltB]⟩
          · rw [hquo, Option.map_map]
            congr 1
            funext q
            simp
          · simp only [go_sem]
      · have e5 : IntKind.i64.wrap ((p : Int) + 1) = ((p + 1 : Nat) : Int) := e4
        refine run_seqV ?_
        simp only [go_sem, e4]
        refine run_seqV ?_
        simp only [go_sem]
        have hq0 : quo ((bs s).drop pos) = none → refAll (bs s) = none := by
          intro h
          rw [h] at hpar
          exact hpar.symm
        by_cases hps : p < s.size
        case neg =>
          have hd : (bs s).drop p = [] := List.eq_nil_of_length_eq_zero (by rw [List.length_drop, bs_len]; omega)
          rw [hd] at hquo
          have eb : decide (s.size ≤ p + 1) = true := decide_eq_true (by omega)
          simp only [eb]
          refine ⟨fun h => absurd h (by decide), fun h => absurd h (by simp), fun _ => herr' (hq0 (by rw [hquo]; rfl)), fun h => absurd h (by simp)⟩
        have hc34 : (bs s).getD p 0 = 34 := by
          simp only [Bool.and_eq_false_iff, decide_eq_false_iff_not, bne_eq_false_iff_eq] at hc
          rcases hc with hc | hc
          · exact absurd hps hc
          · exact UInt8.toNat_inj.1 (by show ((bs s).getD p 0).toNat = 34; omega)
        rw [drop_getD 0 (show p < (bs s).length by rw [bs_len]; omega), hc34, quo_q, Option.map_some, List.append_nil] at hquo
        rw [hquo] at hpar
        by_cases hend : s.size ≤ p + 1
        · have hd : (bs s).drop (p + 1) = [] := List.eq_nil_of_length_eq_zero (by rw [List.length_drop, bs_len]; omega)
          rw [hd] at hpar
          have eb : decide (s.size ≤ p + 1) = true := decide_eq_true hend
          simp only [eb]
          refine ⟨fun h => absurd h (by decide), fun h => absurd h (by simp), fun _ => herr' hpar.symm, fun h => absurd h (by simp)⟩
        have eb : decide (s.size ≤ p + 1) = false := decide_eq_false hend
        have hext : s.extract (p + 1) s.size = mkS ((bs s).drop (p + 1)) := bs_inj (by
          rw [bs_extract, List.take_of_length_le (by rw [List.length_drop, bs_len]; exact Nat.le_refl _)]
          rfl)
        rw [hext]
        rw [drop_getD 0 (show p + 1 < (bs s).length by rw [bs_len]; omega)] at hpar ⊢
        simp only [eb]
        have hx0 : (bs s).getD (p + 1) 0 = (bs s).getD (p + 1) 0 := rfl
        generalize hxe : (bs s).getD (p + 1) 0 = x at hpar ⊢
        obtain ⟨t, ht⟩ : ∃ t, t = (bs s).drop (p + 1 + 1) := ⟨_, rfl⟩
        rw [← ht] at hpar ⊢
        have hdec : decide (mkS (x :: t) = mkS [125]) = decide (x = 125 ∧ t = []) := by
          rw [decide_eq_decide]
          constructor
          · intro e
            have := congrArg bs e
            rw [bs_mk, bs_mk] at this
            cases this
            exact ⟨rfl, rfl⟩
          · rintro ⟨rfl, rfl⟩
            rfl
        simp only at hpar
        refine ⟨fun _ => by omega, fun _ => by omega, fun h => ?_, fun h => ?_⟩
        · have hx1 : ¬ x = 44 := by
            rintro rfl
            exact absurd h (by simp)
          have hx2 : ¬ (x = 125 ∧ t = []) := by
            intro e
            rw [show decide (mkS (x :: t) = { data := #[125] }) = true from hdec.trans (decide_eq_true e)] at h
            simp at h
          rw [if_neg hx1, if_neg hx2] at hpar
          exact herr' hpar.symm
        have hgo : x = 44 ∨ (x = 125 ∧ t = []) := by
          simp only [Bool.false_or, Bool.and_eq_false_iff, bne_eq_false_iff_eq, Bool.not_eq_false'] at h
          rcases h with h | h
          · exact .inl (UInt8.toNat_inj.1 (by show x.toNat = 44; omega))
          · exact .inr (of_decide_eq_true (hdec.symm.trans h))
        refine run_seqV ?_
        simp only [go_sem]
        refine run_seqV ?_
        simp only [go_sem]
        refine R_loop (ι := Nat) (J := fun k => k ≤ ls.length ∧ ∀ i, i < k → sLt (ls.getD i default).name kk = true)
          (env := fun k => [(0, .s s), (2, .p (.one (.ptr 0 0 0 0))), (4, .i (p + 1 : Nat)), (5, .p (.one (.ptr 1 0 0 0))), (8, .p (.one (.ptr 2 0 0 0))), (9, .i k)])
          (mem := fun _ => [.rows 24 2 0 [[.c (.v (.string ⟨#[]⟩)), .c (.v (.slice none 0 0))]] true, .rows 24 2 0 [[.c (.v (.string nm)), .c (lbCV ls)]] true, .rows 83 2 0 [[.c (.v (.string kk)), .c (.v (.string (mkS acc)))]] true])
          (μ := fun k => ls.length - k) 0 ⟨Nat.zero_le _, fun i hi => absurd hi (Nat.not_lt_zero _)⟩ ⟨[], by simp only [go_sem], Nat.zero_le _, by simp only [go_sem], by simp only [go_sem, ltB]⟩ ?_
        rintro k ⟨hk, hlt⟩
        refine run_seqV ?_
        simp only [go_sem]
        refine ⟨fun _ => by omega, fun h2 => ?_, fun h2 => ?_⟩
        · simp only [Bool.and_eq_true, decide_eq_true_eq] at h2
          refine V_sound ?_
          simp only [go_sem]
          refine ⟨k + 1, ⟨by omega, fun i hi => ?_⟩, by omega, [], by simp only [go_sem], Nat.zero_le _, ?_, by simp only [go_sem, ltB]⟩
          · by_cases hik : i = k
            · subst hik; exact h2.2
            · exact hlt i (by omega)
          · simp only [go_sem, w64s (show k < 9223372036854775807 by omega)]
        have hpl : posL kk ls = k := posL_is hk hlt (fun hkl => by
          rw [decide_eq_true hkl, Bool.true_and] at h2
          exact h2)
        refine run_seqV ?_
        simp only [go_sem, List.length_map, List.length_range, List.length_append, List.length_cons, List.length_nil]
        refine ⟨by omega, by omega, by omega, by omega, by omega, by rfl, ?_⟩
        obtain ⟨nl, hnl⟩ : ∃ nl, nl = insLb ls ⟨kk, mkS acc⟩ := ⟨_, rfl⟩
        have hrows : (List.map (fun i => [AV.c (CV.v (Value.string (ls.getD i default).name)), AV.c (CV.v (Value.string (ls.getD i default).value))]) (List.range k) ++ [[AV.c (CV.v (Value.string kk)), AV.c (CV.v (Value.string (mkS acc)))]] ++ List.map (fun i => [AV.c (CV.v (Value.string (ls.getD (k + i) default).name)), AV.c (CV.v (Value.string (ls.getD (k + i) default).value))]) (List.range (ls.length - k))) = lbRows nl := by
          rw [hnl, insLb, show posL (Lb.mk kk (mkS acc)).name ls = k from hpl, take_range ls hk, drop_range ls k, lbRows, List.map_append, List.map_append, List.map_map, List.map_map]
          rfl
        have hnll : k + 1 + (ls.length - k) = nl.length := by rw [hnl, insLb_len]; omega
        rw [hrows, hnll]
        have hcl : closedRows (lbRows nl) := by
          intro r hr a ha
          obtain ⟨y, _, rfl⟩ := List.mem_map.1 hr
          rcases List.mem_cons.1 ha with rfl | ha
          · exact ⟨_, rfl⟩
          · obtain rfl := List.mem_singleton.1 ha; exact ⟨_, rfl⟩
        refine run_gh (gh_freeze (b := 3) (l := lbRows nl) rfl hcl) ?_
        have hM : (List.map (frzB 3 4 (lbRows nl)) [(Blk.rows 24 2 0 [[AV.c (CV.v (Value.string ⟨#[]⟩)), AV.c (CV.v (Value.slice none 0 0))]] true), (Blk.rows 24 2 0 [[AV.c (CV.v (Value.string nm)), AV.arr 2 3 4 0 nl.length]] true), (Blk.rows 83 2 0 [[AV.c (CV.v (Value.string kk)), AV.c (CV.v (Value.string (mkS acc)))]] true), (Blk.rows 83 2 4 (lbRows nl) false), (Blk.rows 83 2 1 [[AV.c (CV.v (Value.string kk)), AV.c (CV.v (Value.string (mkS acc)))]] true)]).set 3 .dead
            = [(Blk.rows 24 2 0 [[AV.c (CV.v (Value.string ⟨#[]⟩)), AV.c (CV.v (Value.slice none 0 0))]] true), (Blk.rows 24 2 0 [[AV.c (CV.v (Value.string nm)), AV.c (CV.imm 2 nl.length fun i j => toC (((lbRows nl).getD (0 + i) []).getD j default))]] true), (Blk.rows 83 2 0 [[AV.c (CV.v (Value.string kk)), AV.c (CV.v (Value.string (mkS acc)))]] true), .dead, (Blk.rows 83 2 1 [[AV.c (CV.v (Value.string kk)), AV.c (CV.v (Value.string (mkS acc)))]] true)] := by
          have : 0 + nl.length ≤ (lbRows nl).length := by rw [lbRows_len]; omega
          simp only [List.map_cons, List.map_nil, List.set_cons_succ, List.set_cons_zero, frzB, frzA, this, and_self, if_true]
        rw [hM]
        refine run_gh (gh_sub_cell (b := 1) (i := 0) (j := 1) _ (.c (lbCV nl)) rfl rfl rfl (subA_imm fun i hi j hj => lbRows_get nl hi hj)) ?_
        refine V_sound ?_
        simp only [go_sem, fillL]
        have hnl4 : nl.length = ls.length + 1 := by rw [hnl, insLb_len]
        have hnz : ∀ y ∈ nl, zS y.name ∧ zS y.value := by
          intro y hy
          rw [hnl, insLb] at hy
          rcases List.mem_append.1 hy with hy | hy
          · rcases List.mem_append.1 hy with hy | hy
            · exact hzl y (List.mem_of_mem_take hy)
            · obtain rfl := List.mem_singleton.1 hy
              exact ⟨hkz, by unfold zS; simp only [mk_size]; omega⟩
          · exact hzl y (List.mem_of_mem_drop hy)
        rw [← hnl] at hpar
        refine ⟨by omega, fun h => ?_, fun h => ?_⟩
        · have hx : x = 125 := UInt8.toNat_inj.1 (by rw [← hxe]; show ((bs s).getD (p + 1) 0).toNat = 125; omega)
          have ht0 : x = 125 ∧ t = [] := hgo.resolve_left (fun e => by rw [hx] at e; exact absurd e (by decide))
          rw [if_neg (show ¬ x = 44 by rw [hx]; decide), if_pos ht0] at hpar
          refine ⟨(s.size, nl), ⟨Nat.le_refl _, by simp only; omega, hnz, ?_⟩, by simp only; omega, [(Blk.rows 83 2 0 [[AV.c (CV.v (Value.string kk)), AV.c (CV.v (Value.string (mkS acc)))]] true), .dead, (Blk.rows 83 2 1 [[AV.c (CV.v (Value.string kk)), AV.c (CV.v (Value.string (mkS acc)))]] true)], rfl, Nat.zero_le _, ?_, ?_⟩
          · rw [if_neg (Nat.lt_irrefl _)]; exact hpar
          · simp only [go_sem]
          · simp only [go_sem, ltB]
        · have hx : x = 44 := by
            rcases hgo with hx | hx
            · exact hx
            · exact absurd (show (((bs s).getD (p + 1) 0).toNat : Int) = 125 by rw [hxe, hx.1]; rfl) h
          rw [if_pos hx] at hpar
          refine ⟨(p + 1, nl), ⟨by simp only; omega, by simp only; omega, hnz, ?_⟩, by simp only; omega, [(Blk.rows 83 2 0 [[AV.c (CV.v (Value.string kk)), AV.c (CV.v (Value.string (mkS acc)))]] true), .dead, (Blk.rows 83 2 1 [[AV.c (CV.v (Value.string kk)), AV.c (CV.v (Value.string (mkS acc)))]] true)], rfl, Nat.zero_le _, ?_, ?_⟩
          · rw [if_pos (show p + 1 < s.size by omega), ← ht, show 5 - nl.length = n by omega]; exact hpar
          · simp only [go_sem]
          · simp only [go_sem, ltB]
  · rw [if_neg h1] at hpar
    have hx : zSer ⟨nm, ls⟩ := by
      refine ⟨by unfold zS; simp only; rw [hnm', mk_size, List.length_take, bs_len]; omega, by simp only; omega, fun i hi => hzl _ ?_⟩
      rw [List.getD_eq_getElem?_getD, List.getElem?_eq_getElem hi]
      exact List.getElem_mem _
    refine run_seqV ?_
    simp only [go_sem]
    refine call0 (May_rc ⟨nm, ls⟩ hx) ?_
    simp only [go_sem]
    by_cases hok : serOk ⟨nm, ls⟩ = true
    · have hR : refR s = .tup [serA ⟨nm, ls⟩, .b true] := by
        unfold refR refS
        rw [← hpar, Option.bind_some, ← hat, ← hnm', if_pos hok]
      rw [hR, hok]
      refine ⟨fun h => absurd h (by decide), fun _ => V_sound ?_⟩
      simp only [go_sem]
      exact SubS.refl _
    · refine ⟨fun _ => herr ?_, fun h => absurd h (by simp [hok])⟩
      unfold refS
      rw [← hpar, Option.bind_some, ← hat, ← hnm', if_neg hok]
end Go.Proofs.Ytioefecijidgkaa.A
