/- slices.SortFunc at a short row of the call's own, at whatever element, with whatever comparing function. -/
import Derived.Test.YtioefecijidgkaaAbsFr
import Derived.Test.YtioefecijidgkaaAbsIns
set_option linter.unusedVariables false
set_option linter.unusedSimpArgs false
namespace Go.Proofs.YtioefecijidgkaaAbs
open Go Go.RowKit
def isC (sz : Nat) : C :=
 (.seq (.reg false [⟨some 10, .mv (.t 1), none⟩, ⟨some 11, .bin .add (.t 10) (ki 1), none⟩, ⟨some 8, .mv (.t 11), none⟩])
 (.block 0 (.loop (.seq (.seq (.reg false [⟨some 12, .mv (.t 8), none⟩, ⟨some 13, .mv (.t 2), none⟩, ⟨some 14, .bin .lss (.t 12) (.t 13), none⟩])
 (.cond (.t 14)
 .skip
 (.exit 0)))
 (.seq (.block 1 (.seq (.reg false [⟨some 17, .mv (.t 8), none⟩, ⟨some 9, .mv (.t 17), none⟩])
 (.block 2 (.loop (.seq (.seq (.reg true [⟨some 18, .mv (.t 9), none⟩, ⟨some 19, .mv (.t 1), none⟩, ⟨some 20, .bin .gtr (.t 18) (.t 19), none⟩, ⟨some 21, .mv (.t 20), none⟩, ⟨some 22, .mv (.t 3), some (21, true)⟩, ⟨some 23, .mv (.t 0), some (21, true)⟩, ⟨some 24, .mv (.t 9), some (21, true)⟩, ⟨some 25, .ia sz (.t 23) (.t 24), some (21, true)⟩, ⟨some 26, .ld true sz (.t 25), some (21, true)⟩, ⟨some 27, .mv (.t 0), some (21, true)⟩, ⟨some 28, .mv (.t 9), some (21, true)⟩, ⟨some 29, .bin .sub (.t 28) (ki 1), some (21, true)⟩, ⟨some 30, .ia sz (.t 27) (.t 29), some (21, true)⟩, ⟨some 31, .ld true sz (.t 30), some (21, true)⟩, ⟨some 32, .call (.t 22) [(.t 26), (.t 31)], some (21, true)⟩, ⟨some 33, .bin .lss (.t 32) (ki 0), some (21, true)⟩, ⟨some 34, .pick (.t 21) (.t 33) (kb false), none⟩])
 (.cond (.t 34)
 .skip
 (.exit 2)))
 (.seq (.block 3 (.reg true [⟨some 37, .mv (.t 0), none⟩, ⟨some 38, .mv (.t 9), none⟩, ⟨some 39, .mv (.t 0), none⟩, ⟨some 40, .mv (.t 9), none⟩, ⟨some 41, .bin .sub (.t 40) (ki 1), none⟩, ⟨some 42, .mv (.t 0), none⟩, ⟨some 43, .mv (.t 9), none⟩, ⟨some 44, .bin .sub (.t 43) (ki 1), none⟩, ⟨some 45, .ia sz (.t 42) (.t 44), none⟩, ⟨some 46, .ld true sz (.t 45), none⟩, ⟨some 47, .mv (.t 0), none⟩, ⟨some 48, .mv (.t 9), none⟩, ⟨some 49, .ia sz (.t 47) (.t 48), none⟩, ⟨some 50, .ld true sz (.t 49), none⟩, ⟨some 51, .ia sz (.t 37) (.t 38), none⟩, ⟨none, .st sz (.t 51) (.t 46), none⟩, ⟨some 52, .ia sz (.t 39) (.t 41), none⟩, ⟨none, .st sz (.t 52) (.t 50), none⟩]))
 (.reg false [⟨some 35, .mv (.t 9), none⟩, ⟨some 36, .bin .sub (.t 35) (ki 1), none⟩, ⟨some 9, .mv (.t 36), none⟩])))))))
 (.reg false [⟨some 15, .mv (.t 8), none⟩, ⟨some 16, .bin .add (.t 15) (ki 1), none⟩, ⟨some 8, .mv (.t 16), none⟩]))))))
/-- An element goes down to its place. -/
def sink {α : Type} (lt : α → α → Bool) (d : α) (l : List α) : Nat → List α
  | 0 => l
  | j + 1 => if lt (l.getD (j + 1) d) (l.getD j d) then sink lt d ((l.set (j + 1) (l.getD j d)).set j (l.getD (j + 1) d)) j else l
def sortTo {α : Type} (lt : α → α → Bool) (d : α) (l : List α) : Nat → List α
  | 0 => l
  | i + 1 => sink lt d (sortTo lt d l i) i
theorem sink_length {α : Type} {lt : α → α → Bool} {d : α} : ∀ {j : Nat} {l : List α}, (sink lt d l j).length = l.length
  | 0, l => rfl
  | j + 1, l => by
    rw [sink]
    split
    · rw [sink_length]; simp
    · rfl
theorem sortTo_length {α : Type} {lt : α → α → Bool} {d : α} {l : List α} : ∀ {i : Nat}, (sortTo lt d l i).length = l.length
  | 0 => rfl
  | i + 1 => by rw [sortTo, sink_length, sortTo_length]
theorem sink_mem {α : Type} {lt : α → α → Bool} {d : α} {p : α → Prop} : ∀ {j : Nat} {l : List α}, j < l.length → (∀ x ∈ l, p x) → ∀ x ∈ sink lt d l j, p x
  | 0, l, _, h => h
  | j + 1, l, hj, h => by
    rw [sink]
    split
    · refine sink_mem (by simp; omega) (fun x hx => ?_)
      have g : ∀ i, i < l.length → p (l.getD i d) := fun i hi => h _ (by rw [List.getD_eq_getElem?_getD, List.getElem?_eq_getElem hi]; exact List.getElem_mem hi)
      rcases List.mem_or_eq_of_mem_set hx with hx | rfl
      · rcases List.mem_or_eq_of_mem_set hx with hx | rfl
        · exact h x hx
        · exact g j (by omega)
      · exact g (j + 1) hj
    · exact h
theorem sortTo_mem {α : Type} {lt : α → α → Bool} {d : α} {p : α → Prop} {l : List α} (h : ∀ x ∈ l, p x) : ∀ {i : Nat}, i ≤ l.length → ∀ x ∈ sortTo lt d l i, p x
  | 0, _ => h
  | i + 1, hi => by rw [sortTo]; exact sink_mem (by rw [sortTo_length]; omega) (sortTo_mem h (by omega))
theorem sink_map {α β : Type} {lt : α → α → Bool} {lt' : β → β → Bool} {d : α} {d' : β} {f : α → β} (hlt : ∀ x y, lt' (f x) (f y) = lt x y) : ∀ {j : Nat} {l : List α}, j < l.length → sink lt' d' (l.map f) j = (sink lt d l j).map f
  | 0, l, _ => rfl
  | j + 1, l, hj => by
    have g : ∀ i, i < l.length → (l.map f).getD i d' = f (l.getD i d) := fun i hi => by simp [List.getD_eq_getElem?_getD, hi]
    rw [sink, sink, g _ hj, g j (by omega), hlt]
    split
    · rw [← sink_map hlt (by simp; omega)]
      congr 1
      rw [List.map_set, List.map_set]
    · rfl
theorem sortTo_map {α β : Type} {lt : α → α → Bool} {lt' : β → β → Bool} {d : α} {d' : β} {f : α → β} (hlt : ∀ x y, lt' (f x) (f y) = lt x y) {l : List α} : ∀ {i : Nat}, i ≤ l.length → sortTo lt' d' (l.map f) i = (sortTo lt d l i).map f
  | 0, _ => rfl
  | i + 1, hi => by
    rw [sortTo, sortTo, sortTo_map hlt (by omega)]
    exact sink_map hlt (by rw [sortTo_length]; omega)
variable {P : Program} {f sz : Nat}
theorem fillL_all {l x : List AV} (h : l.length = x.length) : fillL l 0 x = x := by
  refine List.ext_getElem? (fun j => ?_)
  rw [fillL_get _ _ _ _ (by omega)]
  split
  · rw [Nat.sub_zero]
  · rw [List.getElem?_eq_none (by omega), List.getElem?_eq_none (by omega)]
set_option maxRecDepth 20000 in
theorem isort_rc (hF : Fun P f 53 (isC sz) []) (hsz : 0 < sz) {M : List Blk} {b t ver : Nat} {l : List (List AV)} {fb : Bool} (hb : M[b]? = some (.rows t sz ver l fb)) (hn : l.length ≤ 1000) (h0 : 0 < l.length) (hrow : ∀ r ∈ l, r.length = sz ∧ ∀ a ∈ r, ltA 0 a) (hMB : ∀ x ∈ M, ltB M.length x)
    (fn k : Nat) (caps : Nat → AV) (cmp : List AV → List AV → Int) (hcaps : ∀ i, i < k → ltA 0 (caps i))
    (h : ∀ x ∈ l, ∀ y ∈ l, ∀ M, CallR P M fn ([.agg x, .agg y] ++ capsL caps 0 k) (.i (cmp x y)) M) :
    CallR P M f [.one (.arr sz b ver 0 l.length), .i 0, .i l.length, .one (.fn fn k caps)] (.tup []) (M.set b (.rows t sz ver (sortTo (fun x y => decide (cmp x y < 0)) [] l l.length) fb)) := by
  have hbl : b < M.length := getElem?_lt hb
  refine callR_intro hF (by simp) ?_
  refine V_sound ?_
  simp only [isC, go_sem]
  have hlow : ∀ {n : Nat} {a : AV}, ltA 0 a → ltA n a := by
    intro n a
    induction a with
    | c x => exact fun h => h
    | ptr b v i j => intro h; exact absurd h (Nat.not_lt_zero _)
    | arr sz b v i j => intro h; exact absurd h (Nat.not_lt_zero _)
    | ip m c => exact fun h => h
    | fn f k caps ih => exact fun h i hi => ih i (h i hi)
  have hMB' : ∀ l' : List (List AV), (∀ r ∈ l', r.length = sz ∧ ∀ a ∈ r, ltA 0 a) → ∀ x ∈ M.set b (.rows t sz ver l' fb), ltB (M.set b (.rows t sz ver l' fb)).length x := by
    intro l' hl' x hx
    rw [List.length_set]
    rcases List.mem_or_eq_of_mem_set hx with hx | rfl
    · exact hMB x hx
    · exact fun r hr a ha => hlow ((hl' r hr).2 a ha)
  have hget : ∀ x, (M.set b x)[b]? = some x := fun x => by rw [List.getElem?_set, if_pos rfl, if_pos hbl]
  refine V_loop (ι := Nat) (J := fun i => 1 ≤ i ∧ i ≤ l.length) (env := fun i => [(0, .p (.one (.arr sz b ver 0 l.length))), (1, .i 0), (2, .i l.length), (3, .p (.one (.fn fn k caps))), (8, .i i)])
    (mem := fun i => M.set b (.rows t sz ver (sortTo (fun x y => decide (cmp x y < 0)) [] l i) fb)) (μ := fun i => l.length - i) 1 ⟨Nat.le_refl _, h0⟩ ?_ ?_
  · refine ⟨[], ?_, by simp, ?_, hMB' _ (sortTo_mem hrow (by omega))⟩
    · simp only [List.append_nil, sortTo, sink]
      exact (set_self hb).symm
    · simp only [go_sem, List.length_set]
      exact ⟨hbl, fun i hi => hlow (hcaps i hi), by decide⟩
  rintro i ⟨hi1, hi2⟩
  simp only [go_sem]
  refine ⟨fun h1 => ?_, fun h1 => ?_⟩
  · refine V_loop (ι := Nat × List (List AV)) (J := fun p => p.1 ≤ i ∧ p.2.length = l.length ∧ (∀ r ∈ p.2, r ∈ l) ∧ sink (fun x y => decide (cmp x y < 0)) [] p.2 p.1 = sortTo (fun x y => decide (cmp x y < 0)) [] l (i + 1)) (env := fun p => [(0, .p (.one (.arr sz b ver 0 l.length))), (1, .i 0), (2, .i l.length), (3, .p (.one (.fn fn k caps))), (8, .i i), (9, .i p.1)])
      (mem := fun p => M.set b (.rows t sz ver p.2 fb)) (μ := fun p => p.1) (i, sortTo (fun x y => decide (cmp x y < 0)) [] l i) ⟨Nat.le_refl _, sortTo_length, sortTo_mem (fun x hx => hx) (by omega), rfl⟩ ?_ ?_
    · refine ⟨[], by simp, by simp, ?_, hMB' _ (sortTo_mem hrow (by omega))⟩
      simp only [go_sem, List.length_set]
      exact ⟨hbl, fun i hi => hlow (hcaps i hi)⟩
    rintro ⟨j, cur⟩ ⟨hj, hlen, hmem, hs⟩
    simp only at hj hlen hmem hs
    have hg : ∀ j, j < cur.length → (cur.getD j []) ∈ l := fun j h => hmem _ (by rw [List.getD_eq_getElem?_getD, List.getElem?_eq_getElem h]; exact List.getElem_mem h)
    have htk : ∀ j, j < cur.length → List.take sz (cur.getD j []) = cur.getD j [] := fun j h => List.take_of_length_le (Nat.le_of_eq (hrow _ (hg j h)).1)
    have hle : ∀ j, j < cur.length → sz ≤ (cur.getD j []).length := fun j h => Nat.le_of_eq (hrow _ (hg j h)).1.symm
    rcases j with _ | j
    · simp only [go_sem, hget]
      refine callg0 (r := .i 0) (fun h => Bool.noConfusion h) ?_
      have hs' : cur = sortTo (fun x y => decide (cmp x y < 0)) [] l (i + 1) := hs
      simp only [go_sem]
      refine ⟨fun h => absurd h (by decide), fun _ => ⟨i + 1, ⟨by omega, by omega⟩, by omega, [], by rw [hs', List.append_nil], by rw [List.length_set]; exact Nat.le_refl _, ?_, hMB' _ (sortTo_mem hrow (by omega))⟩⟩
      simp only [go_sem, List.length_set]
      exact ⟨hbl, fun i hi => hlow (hcaps i hi), w64s (by omega)⟩
    · have e1 : IntKind.i64.wrap (((j + 1 : Nat) : Int) - 1) = (j : Int) := by rw [w64p (by omega) (by omega)]; rfl
      have e2 : (0 : Int) < ((j + 1 : Nat) : Int) := by omega
      simp only [go_sem, hget, e1, e2, Int.toNat_natCast]
      refine ⟨⟨by omega, by omega, hsz⟩, ⟨by omega, hle _ (by omega)⟩, ⟨by omega, by omega, hsz⟩, ⟨by omega, hle _ (by omega)⟩, ?_⟩
      rw [htk _ (by omega), htk _ (by omega)]
      refine callg0 (r := .i (cmp (cur.getD (j + 1) []) (cur.getD j []))) (fun _ => h _ (hg _ (by omega)) _ (hg _ (by omega))) ?_
      simp only [go_sem, hget, e1, e2, Int.toNat_natCast, List.set_set]
      rw [htk _ (by omega), htk _ (by omega)]
      have hf : ∀ a b, a < cur.length → b < cur.length → fillL (cur.getD a []) 0 (cur.getD b []) = cur.getD b [] := fun a b h1 h2 => fillL_all ((hrow _ (hg a h1)).1.trans (hrow _ (hg b h2)).1.symm)
      have hne : (cur.set (j + 1) (cur.getD j [])).getD j [] = cur.getD j [] := by
        rw [List.getD_eq_getElem?_getD, List.getD_eq_getElem?_getD, List.getElem?_set, if_neg (by omega)]
      rw [hf _ _ (by omega) (by omega), hne, hf _ _ (by omega) (by omega)]
      refine ⟨fun hc => ⟨⟨by omega, by omega, hsz⟩, ⟨by omega, hle _ (by omega)⟩, ⟨by omega, by omega, hsz⟩, ⟨by omega, hle _ (by omega)⟩, ⟨by omega, by omega, hsz⟩, ⟨by omega, hle _ (by omega), (hrow _ (hg _ (by omega))).1⟩, ⟨by omega, by omega, hsz⟩, ⟨by rw [List.length_set]; omega, hle _ (by omega), (hrow _ (hg _ (by omega))).1⟩, ?_⟩, fun hc => ?_⟩
      · have hs' : sink (fun x y => decide (cmp x y < 0)) [] ((cur.set (j + 1) (cur.getD j [])).set j (cur.getD (j + 1) [])) j = sortTo (fun x y => decide (cmp x y < 0)) [] l (i + 1) := by
          rw [← hs, sink, if_pos (decide_eq_true hc)]
        have hm' : ∀ r ∈ (cur.set (j + 1) (cur.getD j [])).set j (cur.getD (j + 1) []), r ∈ l := by
          intro r hr
          rcases List.mem_or_eq_of_mem_set hr with hr | rfl
          · rcases List.mem_or_eq_of_mem_set hr with hr | rfl
            · exact hmem r hr
            · exact hg _ (by omega)
          · exact hg _ (by omega)
        refine ⟨(j, _), ⟨by simp only []; omega, by simp [hlen], hm', hs'⟩, by simp only []; omega, [], by rw [List.append_nil], by rw [List.length_set]; exact Nat.le_refl _, ?_, hMB' _ (fun r hr => hrow r (hm' r hr))⟩
        simp only [go_sem, List.length_set]
        exact ⟨hbl, fun i hi => hlow (hcaps i hi)⟩
      · have hs' : cur = sortTo (fun x y => decide (cmp x y < 0)) [] l (i + 1) := by
          rw [← hs, sink, if_neg (by simp only [decide_eq_true_eq]; exact hc)]
        refine ⟨i + 1, ⟨by omega, by omega⟩, by omega, [], by rw [← hs', List.append_nil], by rw [List.length_set]; exact Nat.le_refl _, ?_, hMB' _ (sortTo_mem hrow (by omega))⟩
        simp only [go_sem, List.length_set]
        exact ⟨hbl, fun i hi => hlow (hcaps i hi), w64s (by omega)⟩
  · have e : i = l.length := by omega
    subst e
    refine fin_own (.inl rfl) (Gh.refl _) [] (qs := []) (cnd := True) ?_ trivial ?_ ?_ ?_ ?_ ?_
    · rfl
    · simp only [List.append_nil]
    · show leS (SV.tup []) (SV.tup []); rw [leS_self]; trivial
    · rw [List.length_set]; exact Nat.le_refl _
    · simp only [go_sem]
    · exact hMB' _ (sortTo_mem hrow (Nat.le_refl _))
end Go.Proofs.YtioefecijidgkaaAbs
