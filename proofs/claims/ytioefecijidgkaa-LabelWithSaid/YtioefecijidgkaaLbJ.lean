/- label.Parse: the walk. -/
import Derived.Test.YtioefecijidgkaaLbB
import Derived.Test.YtioefecijidgkaaLbE
import Derived.Test.YtioefecijidgkaaLbH
import Derived.Test.YtioefecijidgkaaLbI
set_option linter.unusedVariables false
set_option linter.unusedSimpArgs false
namespace Go.Proofs.Ytioefecijidgkaa.A
open Go Go.Proofs Go.Proofs.YtioefecijidgkaaAbs
/-- The labels behind an opening brace. -/
def parG : Nat → List UInt8 → List Lb → Option (List Lb)
  | 0, _, _ => none
  | n + 1, rest, ls =>
    if (Lib.cut rest [61, 34]).2.2 = false then none else
    match quo (Lib.cut rest [61, 34]).2.1 with
    | none => none
    | some (_, []) => none
    | some (a, x :: t) => if ls.length = 4 then none else if x = 44 then parG n t (ls ++ [⟨mkS (Lib.cut rest [61, 34]).1, mkS a⟩]) else if x = 125 ∧ t = [] then some (ls ++ [⟨mkS (Lib.cut rest [61, 34]).1, mkS a⟩]) else none
def parAll (s : List UInt8) : Option (List Lb) := if (Lib.cut s [123]).2.2 then parG 5 (Lib.cut s [123]).2.1 [] else some []
def parS (s : ByteArray) : Option Ser := (parAll (bs s)).bind fun ls => if serOk ⟨mkS (Lib.cut (bs s) [123]).1, sortLb ls⟩ then some ⟨mkS (Lib.cut (bs s) [123]).1, sortLb ls⟩ else none
def parR (s : ByteArray) : SV := match parS s with
  | some x => .tup [serA x, .i 0]
  | none => .tup [serA ⟨mkS [], []⟩, .i 2]
theorem cut_len (s sep : List UInt8) : (Lib.cut s sep).1.length ≤ s.length ∧ (Lib.cut s sep).2.1.length ≤ s.length := by
  unfold Lib.cut
  split
  · exact ⟨by rw [List.length_take]; omega, by rw [List.length_drop]; omega⟩
  · exact ⟨Nat.le_refl _, Nat.zero_le _⟩
theorem quo_len : ∀ {l a r : List UInt8}, quo l = some (a, r) → a.length + r.length < l.length
  | [], a, r, h => by cases h
  | [c], a, r, h => by
    simp only [quo] at h
    split at h
    · cases h; simp
    · cases h
  | c :: d :: l, a, r, h => by
    simp only [quo] at h
    split at h
    · cases h; simp
    · split at h
      · split at h
        · obtain ⟨⟨a', r'⟩, h1, h2⟩ := Option.map_eq_some_iff.1 h
          cases h2
          have := quo_len h1
          simp only [List.length_cons] at this ⊢
          omega
        · cases h
      · obtain ⟨⟨a', r'⟩, h1, h2⟩ := Option.map_eq_some_iff.1 h
        cases h2
        have := quo_len h1
        simp only [List.length_cons] at this ⊢
        omega
theorem sub_ser (n : ByteArray) (l : List Lb) (c : Nat → Nat → CV) (h : ∀ i, i < l.length → ∀ j, j < 2 → c i j = (l.getD i default).c j) : SubP (.agg [.c (.v (.string n)), .c (.imm 2 l.length c)]) (serA ⟨n, l⟩) := subP_agg2 (SubA.refl _) (subA_imm h)
theorem sub_zero : SubP (.agg [.c (.v (.string ⟨#[]⟩)), .c (.v (.slice none 0 0))]) (serA ⟨mkS [], []⟩) := subP_agg2 (SubA.refl _) (subA_nil 2 _)
theorem lbRows_get (l : List Lb) {i j : Nat} (hi : i < l.length) (hj : j < 2) : toC (((lbRows l).getD (0 + i) []).getD j default) = (l.getD i default).c j := by
  have : (lbRows l).getD (0 + i) [] = lbRow (l.getD i default) := by
    rw [Nat.zero_add, List.getD_eq_getElem?_getD, List.getD_eq_getElem?_getD, lbRows, List.getElem?_map, List.getElem?_eq_getElem hi]; rfl
  rw [this]
  match j, hj with
  | 0, _ => rfl
  | 1, _ => rfl
set_option maxRecDepth 20000 in
theorem Parse_rc (s : ByteArray) (hs : s.size < 4294967281) (M : List Blk) : CallR Try.prog M n_label_Parse [.s s] (parR s) M := by
  refine callPS F_label_Parse (Nat.le_of_ble_eq_true rfl) (by simp only [go_sem]) (by unfold parR; split <;> simp only [go_sem]) ?_ M
  refine run_seqV ?_
  simp only [go_sem]
  refine run_seqV ?_
  simp only [go_sem]
  refine call0 (Cut_rc s (mkS [123]) hs) ?_
  simp only [go_sem]
  refine run_seqV ?_
  simp only [go_sem]
  refine run_gh (gh_born_cell (b := 1) (i := 0) (j := 1) rfl rfl rfl 83 2) ?_
  refine run_seqV ?_
  simp only [go_sem]
  obtain ⟨nm, hnm⟩ : ∃ nm, nm = (cutS s (mkS [123])).1 := ⟨_, rfl⟩
  have hns : nm.size ≤ s.size := by
    have := (cut_len (bs s) [123]).1
    rw [hnm]
    show (mkS (Lib.cut (bs s) [123]).1).size ≤ s.size
    rw [mk_size, ← bs_len]
    exact this
  rw [← hnm]
  refine R_loop (ι := Nat × Bool × List Lb × ByteArray × Bool) (J := fun p => p.2.2.2.1.size ≤ s.size ∧ p.2.2.1.length ≤ 4 ∧ (∀ y ∈ p.2.2.1, zS y.name ∧ zS y.value) ∧ (if p.2.2.2.2 then parG (5 - p.2.2.1.length) (bs p.2.2.2.1) p.2.2.1 else some p.2.2.1) = parAll (bs s))
    (env := fun p => [(2, .p (.one (.ptr 0 0 0 0))), (5, .s p.2.2.2.1), (7, .p (.one (.ptr 1 0 0 0))), (8, .b p.2.2.2.2)])
    (mem := fun p => [.rows 24 2 0 [[.c (.v (.string ⟨#[]⟩)), .c (.v (.slice none 0 0))]] true, .rows 24 2 0 [[.c (.v (.string nm)), .arr 2 2 p.1 0 p.2.2.1.length]] true, .rows 83 2 p.1 (lbRows p.2.2.1) p.2.1])
    (μ := fun p => 5 - p.2.2.1.length) (0, true, [], (cutS s (mkS [123])).2.1, (cutS s (mkS [123])).2.2) ⟨?_, Nat.zero_le _, by simp, ?_⟩ ⟨[], ?_, Nat.zero_le _, ?_, ?_⟩ ?_
  · have := (cut_len (bs s) [123]).2
    show (mkS (Lib.cut (bs s) [123]).2.1).size ≤ s.size
    rw [mk_size, ← bs_len]
    exact this
  · rfl
  · simp only [go_sem, fillL, lbRows]
  · simp only [go_sem]
  · simp only [go_sem, ltB]
    exact fun r hr => (lt_lbRows 3 _ r hr).2
  rintro ⟨v, f, ls, rest, ok⟩ ⟨hrest, hls, hz, hpar⟩
  simp only at hrest hls hz hpar
  refine run_seqV ?_
  cases ok with
  | false =>
    simp only [Bool.false_eq_true, if_false] at hpar
    simp only [go_sem]
    refine run_seqV ?_
    simp only [go_sem]
    have hlen : (sortLb ls).length = ls.length := sortTo_length
    have hzs : ∀ y ∈ sortLb ls, zS y.name ∧ zS y.value := sortTo_mem hz (Nat.le_refl _)
    refine call1 (Sort_rc (b := 2) (v := v) (l := ls) (f := f) rfl (by omega) ?_) (by simp only [go_sem]) (fun h => Bool.noConfusion h) ?_
    · simp only [go_sem, ltB]
      exact fun r hr => (lt_lbRows 3 _ r hr).2
    simp only [go_sem]
    refine run_gh (gh_freeze (b := 2) rfl ?_) ?_
    · intro r hr a ha
      obtain ⟨y, _, rfl⟩ := List.mem_map.1 hr
      rcases List.mem_cons.1 ha with rfl | ha
      · exact ⟨_, rfl⟩
      · obtain rfl := List.mem_singleton.1 ha; exact ⟨_, rfl⟩
    refine run_seqV ?_
    simp only [go_sem, hlen]
    have hsub : ∀ c : Nat → Nat → CV, (∀ i, i < ls.length → ∀ j, j < 2 → c i j = ((sortLb ls).getD i default).c j) → SubP (.agg [.c (.v (.string nm)), .c (.imm 2 ls.length c)]) (serA ⟨nm, sortLb ls⟩) := by
      intro c h
      have := sub_ser nm (sortLb ls) c (by rw [hlen]; exact h)
      rw [hlen] at this
      exact this
    have hgt : ∀ i, i < ls.length → ∀ j, j < 2 → toC (((lbRows (sortLb ls)).getD i []).getD j default) = ((sortLb ls).getD i default).c j := by
      intro i hi j hj
      have := lbRows_get (sortLb ls) (i := i) (by rw [hlen]; exact hi) hj
      rw [Nat.zero_add] at this
      exact this
    have hx : zSer ⟨nm, sortLb ls⟩ := by
      refine ⟨by unfold zS; simp only; omega, by simp only [hlen]; omega, fun i hi => hzs _ ?_⟩
      rw [List.getD_eq_getElem?_getD, List.getElem?_eq_getElem hi]
      exact List.getElem_mem _
    refine call0 (fun M => (Check_rc ⟨nm, sortLb ls⟩ hx M).sub ⟨hsub _ hgt, trivial⟩) ?_
    simp only [go_sem]
    have hnm' : nm = mkS (Lib.cut (bs s) [123]).1 := hnm
    by_cases hok : serOk ⟨nm, sortLb ls⟩ = true
    · rw [if_pos hok]
      have hR : parR s = .tup [serA ⟨nm, sortLb ls⟩, .i 0] := by
        unfold parR parS
        rw [← hpar, Option.bind_some, ← hnm', if_pos hok]
      rw [hR]
      refine ⟨fun h => absurd h (by decide), fun _ => V_sound ?_⟩
      simp only [go_sem]
      exact subS_tup2 (hsub _ hgt) (SubP.refl _)
    · rw [if_neg hok]
      have hR : parR s = .tup [serA ⟨mkS [], []⟩, .i 2] := by
        unfold parR parS
        rw [← hpar, Option.bind_some, ← hnm', if_neg hok]
      rw [hR]
      refine ⟨fun _ => subS_tup2 sub_zero (SubP.refl _), fun h => absurd h (by decide)⟩
  | true =>
    simp only [go_sem]
    refine run_block ?_
    refine run_seqV ?_
    simp only [go_sem]
    refine call0 (Cut_rc rest (mkS [61, 34]) (by omega)) ?_
    obtain ⟨⟨kk, rr, fd⟩, hc⟩ : ∃ c, c = Lib.cut (bs rest) [61, 34] := ⟨_, rfl⟩
    have hcs : cutS rest (mkS [61, 34]) = (mkS kk, mkS rr, fd) := by
      show (mkS (Lib.cut (bs rest) [61, 34]).1, mkS (Lib.cut (bs rest) [61, 34]).2.1, (Lib.cut (bs rest) [61, 34]).2.2) = _
      rw [← hc]
    have hcl := cut_len (bs rest) [61, 34]
    obtain ⟨n, hn⟩ : ∃ n, 5 - ls.length = n + 1 := ⟨4 - ls.length, by omega⟩
    simp only [if_true, hn, parG, ← hc] at hpar hcl
    rw [bs_len] at hcl
    rw [hcs]
    have herr : parAll (bs s) = none → SubS (.tup [.agg [.c (.v (.string ⟨#[]⟩)), .c (.v (.slice none 0 0))], .i 2]) (parR s) := by
      intro h
      have : parR s = .tup [serA ⟨mkS [], []⟩, .i 2] := by unfold parR parS; rw [h]; rfl
      rw [this]
      exact subS_tup2 sub_zero (SubP.refl _)
    simp only [go_sem]
    refine run_seqV ?_
    simp only [go_sem]
    refine call0 (quoted_rc (mkS rr) (by rw [mk_size]; omega)) ?_
    cases fd with
    | false =>
      have hp : parAll (bs s) = none := by rw [← hpar]; rfl
      simp only [go_sem]
      refine run_seqV ?_
      simp only [go_sem]
      exact ⟨fun _ => herr hp, fun h => absurd h (by simp)⟩
    | true =>
      simp only [Bool.true_eq_false, if_false] at hpar
      cases hq : quo rr with
      | none =>
        rw [hq] at hpar
        have hqs : quotS (mkS rr) = (mkS [], mkS [], false) := by unfold quotS; rw [bs_mk, hq]
        rw [hqs]
        simp only [go_sem]
        refine run_seqV ?_
        simp only [go_sem]
        exact ⟨fun _ => herr hpar.symm, fun h => absurd h (by simp)⟩
      | some at_ =>
        obtain ⟨aa, tt⟩ := at_
        rw [hq] at hpar
        have hqs : quotS (mkS rr) = (mkS aa, mkS tt, true) := by unfold quotS; rw [bs_mk, hq]
        rw [hqs]
        simp only [go_sem]
        refine run_seqV ?_
        cases tt with
        | nil =>
          simp only [go_sem]
          exact ⟨fun _ => herr hpar.symm, fun h => absurd h (by simp)⟩
        | cons x t =>
          simp only [go_sem] at hpar ⊢
          have hne : decide (mkS (x :: t) = mkS []) = false := by
            rw [decide_eq_false_iff_not]
            intro e
            have := congrArg bs e
            rw [bs_mk, bs_mk] at this
            cases this
          have hql := quo_len hq
          rw [List.length_cons] at hql
          by_cases h4 : ls.length = 4
          · rw [if_pos h4] at hpar
            refine ⟨fun _ => herr hpar.symm, fun h => ?_⟩
            exfalso
            rw [h4] at h
            simp at h
          rw [if_neg h4] at hpar
          refine ⟨fun h => ?_, fun _ => ?_⟩
          · exfalso
            rw [hne] at h
            simp at h
            omega
          refine run_seqV ?_
          simp only [go_sem]
          refine ⟨by omega, ?_⟩
          refine run_seqV ?_
          simp only [go_sem]
          have hrow : lbRows ls ++ [[.c (.v (.string (mkS kk))), .c (.v (.string (mkS aa)))]] = lbRows (ls ++ [⟨mkS kk, mkS aa⟩]) := by simp [lbRows, lbRow]
          have hext : (mkS (x :: t)).extract (Int.toNat 1) (mkS (x :: t)).size = mkS t := bs_inj (by rw [bs_extract, bs_mk, bs_mk, mk_size]; simp)
          have hz' : ∀ y ∈ ls ++ [⟨mkS kk, mkS aa⟩], zS y.name ∧ zS y.value := by
            intro y hy
            rcases List.mem_append.1 hy with hy | hy
            · exact hz y hy
            · obtain rfl := List.mem_singleton.1 hy
              unfold zS
              rw [mk_size, mk_size]
              omega
          have hn' : 5 - (ls ++ [(⟨mkS kk, mkS aa⟩ : Lb)]).length = n := by simp only [List.length_append, List.length_cons, List.length_nil]; omega
          have hl' : (ls ++ [(⟨mkS kk, mkS aa⟩ : Lb)]).length ≤ 4 := by simp only [List.length_append, List.length_cons, List.length_nil]; omega
          by_cases hx : x = 44
          · subst hx
            rw [if_pos rfl] at hpar
            refine ⟨by simp, fun h => absurd h (by simp), fun _ => V_sound ?_⟩
            simp only [go_sem, hext, hrow]
            refine ⟨by simp; omega, (v + 1, false, ls ++ [⟨mkS kk, mkS aa⟩], mkS t, true), ⟨?_, hl', hz', ?_⟩, by simp only []; omega, [.rows 83 2 0 [[.c (.v (.string (mkS kk))), .c (.v (.string (mkS aa)))]] true], by simp only [List.length_append, List.length_cons, List.length_nil, List.cons_append, List.nil_append], Nat.zero_le _, ?_, ?_⟩
            · simp only [mk_size]; omega
            · simp only [if_true, hn', bs_mk]; exact hpar
            · simp only [go_sem, List.length_append]
              exact ⟨hext, rfl⟩
            · simp only [go_sem, ltB]
              exact fun r hr => (lt_lbRows 3 _ r hr).2
          · rw [if_neg hx] at hpar
            have hx' : ((x.toNat : Int) == 44) = false := by
              rw [beq_eq_false_iff_ne]
              exact fun e => hx (UInt8.toNat_inj.1 (by show x.toNat = 44; omega))
            by_cases hy : x = 125 ∧ t = []
            · rw [if_pos hy] at hpar
              obtain ⟨rfl, rfl⟩ := hy
              refine ⟨by simp, fun h => absurd h (by simp), fun _ => V_sound ?_⟩
              simp only [go_sem, hext, hrow, hx']
              refine ⟨by simp, (v + 1, false, ls ++ [⟨mkS kk, mkS aa⟩], mkS [], false), ⟨?_, hl', hz', ?_⟩, by simp only []; omega, [.rows 83 2 0 [[.c (.v (.string (mkS kk))), .c (.v (.string (mkS aa)))]] true], by simp only [List.length_append, List.length_cons, List.length_nil, List.cons_append, List.nil_append], Nat.zero_le _, ?_, ?_⟩
              · simp only [mk_size]; exact Nat.zero_le _
              · simp only [Bool.false_eq_true, if_false]; exact hpar
              · simp only [go_sem, List.length_append]
                exact hext
              · simp only [go_sem, ltB]
                exact fun r hr => (lt_lbRows 3 _ r hr).2
            · rw [if_neg hy] at hpar
              have hd : decide (mkS (x :: t) = mkS [125]) = false := by
                rw [decide_eq_false_iff_not]
                intro e
                have := congrArg bs e
                rw [bs_mk, bs_mk] at this
                cases this
                exact hy ⟨rfl, rfl⟩
              refine ⟨by simp, fun _ => herr hpar.symm, fun h => ?_⟩
              exfalso
              rw [hx', hd] at h
              simp at h
end Go.Proofs.Ytioefecijidgkaa.A
