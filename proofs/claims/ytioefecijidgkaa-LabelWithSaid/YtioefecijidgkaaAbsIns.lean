/- slices.Insert of one element, slices.overlaps: at whatever element. -/
import Derived.Test.YtioefecijidgkaaAbs19
import Derived.Lib.Overlaps
set_option linter.unusedVariables false
set_option linter.unusedSimpArgs false
namespace Go.Proofs.YtioefecijidgkaaAbs
open Go Go.RowKit
structure Ovl (P : Program) (f sz : Nat) : Prop where
  ex : ∃ fn tS tR el, P.funcs[f]? = some fn ∧ (fn.name == "runtime.NumGoroutine") = false ∧ fn.body.isNone = true ∧ Extern.findNext fn = none ∧ Extern.find fn = some (Extern.SlicesOverlaps.overlaps #[tS, tS] #[tR]) ∧ elemT P tS = some el ∧ sizeT P el = some sz
theorem ovl_rc {P : Program} {f sz : Nat} (h : Ovl P f sz) {M : List Blk} {b c tb tc vb vc lb lc ob oc : Nat} {l l' : List (List AV)} {fb fc : Bool} (hsz : 0 < sz) (hl : 0 < l'.length) (hbc : b ≠ c) (hb : M[b]? = some (.rows tb sz vb l fb)) (hc : M[c]? = some (.rows tc sz vc l' fc)) :
    CallR P M f [.one (.arr sz b vb ob lb), .one (.arr sz c vc oc lc)] (.b false) M := by
  obtain ⟨fn, tS, tR, el, hf, hname, hbody, hn, he, ht, hz⟩ := h.ex
  intro I σ w vals hG hm hvl hvr
  refine .inr ⟨.bool false, w, ?_, I, σ, ⟨rfl, rfl⟩, Evo.refl hm⟩
  obtain ⟨x, y, rfl⟩ : ∃ x y, vals = #[x, y] := by
    match vals, hvl with
    | ⟨[x, y]⟩, _ => exact ⟨x, y, rfl⟩
  obtain ⟨_, p, hp, hpv, hq⟩ := hvr 0 _ x rfl rfl
  obtain ⟨_, q, hq1, hqv, hqq⟩ := hvr 1 _ y rfl rfl
  obtain ⟨p0, hp0, a1, a2, a3, a4, a5, a6⟩ := mem_rows hm hb
  obtain rfl : p = p0 := by rw [hp] at hp0; injection hp0
  obtain ⟨q0, hq0, b1, b2, b3, b4, b5, b6⟩ := mem_rows hm hc
  obtain rfl : q = q0 := by rw [hq1] at hq0; injection hq0
  obtain ⟨e1, e2, e3⟩ := hq a2
  obtain ⟨g1, g2, g3⟩ := hqq b2
  rw [run_callFunc_extern hf hname hbody hn he, e3, g3]
  have key : (Extern.SlicesOverlaps.overlaps #[tS, tS] #[tR] #[.slice (p.blk.map fun g => ⟨g, ob * sz, none⟩) lb (p.cap - ob), .slice (q.blk.map fun g => ⟨g, oc * sz, none⟩) lc (q.cap - oc)]).run P w = .ok (.bool false) w := by
    cases hpb : p.blk with
    | none =>
      show (do let some t := (#[tS, tS] : Array TypeId)[0]? | stuck "slices.overlaps: no parameter types"
               let .slice elem ← underlying t | stuck "slices.overlaps: slice type expected"
               let size ← sizeOf elem
               pure (Value.bool false) : Sem Value).run P w = _
      simp [run_under (elemT_spec ht), run_size hz]
    | some gp =>
      cases hqb : q.blk with
      | none =>
        rw [hqb] at b6
        have b6 : q.cap = 0 := b6
        omega
      | some gq =>
        rw [hpb] at a6
        rw [hqb] at b6
        obtain ⟨cs, hh, hs, _, _⟩ := a6
        obtain ⟨ds, kh, ks, _, _⟩ := b6
        have hne : gp ≠ gq := fun e => hbc (hm.inj b c _ _ p q gp hb hc rfl rfl hp hq1 hpb (by rw [hqb, e]))
        have hk : ds.size ≠ 0 := by
          rw [ks]
          have := Nat.mul_pos (show 0 < q.cap by omega) hsz
          omega
        exact Lib.run_overlaps_apart w tS tR el (elemT_spec ht) sz (fun w => run_size hz) ⟨gp, ob * sz, none⟩ ⟨gq, oc * sz, none⟩ lb (p.cap - ob) lc (q.cap - oc) hne tb tc cs.size ds.size (by simp [World.shape?, hh]) (by simp [World.shape?, kh]) hk (by simp [World.frozen?, hh]) (by simp [World.frozen?, hh])
  rw [key]
  rfl
def insC (t sz by_ : Nat) (z : List Value) (fo fr : Nat) : C :=
 (.seq (.reg false [⟨some 6, .mv (.k (.one (.c (.v (.slice none 0 0))))), none⟩])
 (.seq (.reg false [⟨some 10, .mv (.t 0), none⟩, ⟨some 11, .mv (.t 1), none⟩, ⟨some 12, .slc sz (.t 10) (some (.t 11)) none, none⟩])
 (.seq (.reg false [⟨some 13, .mv (.t 2), none⟩, ⟨some 14, .len (.t 13), none⟩, ⟨some 7, .mv (.t 14), none⟩])
 (.seq (.seq (.reg false [⟨some 15, .mv (.t 7), none⟩, ⟨some 16, .bin .eql (.t 15) (ki 0), none⟩])
 (.cond (.t 16)
 (.seq (.reg false [⟨some 17, .mv (.t 0), none⟩, ⟨some 6, .mv (.t 17), none⟩])
 .ret)
 .skip))
 (.seq (.reg false [⟨some 18, .mv (.t 0), none⟩, ⟨some 19, .len (.t 18), none⟩, ⟨some 8, .mv (.t 19), none⟩])
 (.seq (.seq (.reg false [⟨some 20, .mv (.t 1), none⟩, ⟨some 21, .mv (.t 8), none⟩, ⟨some 22, .bin .eql (.t 20) (.t 21), none⟩])
 (.cond (.t 22)
 (.seq (.reg false [⟨some 23, .mv (.t 0), none⟩, ⟨some 24, .mv (.t 2), none⟩, ⟨some 25, .app t sz by_ z (.t 23) (.t 24), none⟩, ⟨some 6, .mv (.t 25), none⟩])
 .ret)
 .skip))
 (.seq (.seq (.reg false [⟨some 26, .mv (.t 8), none⟩, ⟨some 27, .mv (.t 7), none⟩, ⟨some 28, .bin .add (.t 26) (.t 27), none⟩, ⟨some 29, .mv (.t 0), none⟩, ⟨some 30, .cap (.t 29), none⟩, ⟨some 31, .bin .gtr (.t 28) (.t 30), none⟩])
 (.cond (.t 31)
 (.seq (.reg false [⟨some 32, .mv (.t 0), none⟩, ⟨some 33, .mv (.t 1), none⟩, ⟨some 34, .slc sz (.t 32) none (some (.t 33)), none⟩, ⟨some 35, .mv (.t 8), none⟩, ⟨some 36, .mv (.t 7), none⟩, ⟨some 37, .bin .add (.t 35) (.t 36), none⟩, ⟨some 38, .mv (.t 1), none⟩, ⟨some 39, .bin .sub (.t 37) (.t 38), none⟩, ⟨some 40, .apz t sz by_ z (.t 34) (.t 39), none⟩, ⟨some 9, .mv (.t 40), none⟩])
 (.seq (.reg false [⟨some 41, .mv (.t 9), none⟩, ⟨some 42, .mv (.t 1), none⟩, ⟨some 43, .slc sz (.t 41) (some (.t 42)) none, none⟩, ⟨some 44, .mv (.t 2), none⟩, ⟨some 45, .cpy sz (.t 43) (.t 44), none⟩])
 (.seq (.reg true [⟨some 46, .mv (.t 9), none⟩, ⟨some 47, .mv (.t 1), none⟩, ⟨some 48, .mv (.t 7), none⟩, ⟨some 49, .bin .add (.t 47) (.t 48), none⟩, ⟨some 50, .slc sz (.t 46) (some (.t 49)) none, none⟩, ⟨some 51, .mv (.t 0), none⟩, ⟨some 52, .mv (.t 1), none⟩, ⟨some 53, .slc sz (.t 51) (some (.t 52)) none, none⟩, ⟨some 54, .cpy sz (.t 50) (.t 53), none⟩])
 (.seq (.reg false [⟨some 55, .mv (.t 9), none⟩, ⟨some 6, .mv (.t 55), none⟩])
 .ret))))
 .skip))
 (.seq (.reg false [⟨some 56, .mv (.t 0), none⟩, ⟨some 57, .mv (.t 8), none⟩, ⟨some 58, .mv (.t 7), none⟩, ⟨some 59, .bin .add (.t 57) (.t 58), none⟩, ⟨some 60, .slc sz (.t 56) none (some (.t 59)), none⟩, ⟨some 0, .mv (.t 60), none⟩])
 (.seq (.seq (.reg false [⟨some 61, .mv (.t 2), none⟩, ⟨some 62, .mv (.t 0), none⟩, ⟨some 63, .mv (.t 1), none⟩, ⟨some 64, .mv (.t 7), none⟩, ⟨some 65, .bin .add (.t 63) (.t 64), none⟩, ⟨some 66, .slc sz (.t 62) (some (.t 65)) none, none⟩, ⟨some 67, .call (kf fo) [(.t 61), (.t 66)], none⟩, ⟨some 68, .un .not (.t 67), none⟩])
 (.cond (.t 68)
 (.seq (.reg true [⟨some 69, .mv (.t 0), none⟩, ⟨some 70, .mv (.t 1), none⟩, ⟨some 71, .mv (.t 7), none⟩, ⟨some 72, .bin .add (.t 70) (.t 71), none⟩, ⟨some 73, .slc sz (.t 69) (some (.t 72)) none, none⟩, ⟨some 74, .mv (.t 0), none⟩, ⟨some 75, .mv (.t 1), none⟩, ⟨some 76, .slc sz (.t 74) (some (.t 75)) none, none⟩, ⟨some 77, .cpy sz (.t 73) (.t 76), none⟩])
 (.seq (.reg false [⟨some 78, .mv (.t 0), none⟩, ⟨some 79, .mv (.t 1), none⟩, ⟨some 80, .slc sz (.t 78) (some (.t 79)) none, none⟩, ⟨some 81, .mv (.t 2), none⟩, ⟨some 82, .cpy sz (.t 80) (.t 81), none⟩])
 (.seq (.reg false [⟨some 83, .mv (.t 0), none⟩, ⟨some 6, .mv (.t 83), none⟩])
 .ret)))
 .skip))
 (.seq (.reg false [⟨some 84, .mv (.t 0), none⟩, ⟨some 85, .mv (.t 8), none⟩, ⟨some 86, .slc sz (.t 84) (some (.t 85)) none, none⟩, ⟨some 87, .mv (.t 2), none⟩, ⟨some 88, .cpy sz (.t 86) (.t 87), none⟩])
 (.seq (.reg false [⟨some 89, .mv (.t 0), none⟩, ⟨some 90, .mv (.t 1), none⟩, ⟨some 91, .slc sz (.t 89) (some (.t 90)) none, none⟩, ⟨some 92, .mv (.t 7), none⟩, ⟨some 93, .call (kf fr) [(.t 91), (.t 92)], none⟩])
 (.seq (.reg false [⟨some 94, .mv (.t 0), none⟩, ⟨some 6, .mv (.t 94), none⟩])
 .ret))))))))))))

theorem insA {α : Type} {l Z : List α} {row : α} {i : Nat} (h : i < l.length) (hz : Z.length = l.length + 1 - i) :
    List.take (i + 1) (List.take i (List.take i l ++ Z) ++ [row] ++ List.drop (i + 1) (List.take i l ++ Z)) ++ List.take (l.length + 1 - (i + 1)) (List.take (l.length - i) (List.drop i l)) ++ List.drop (i + 1 + (l.length - i)) (List.take i (List.take i l ++ Z) ++ [row] ++ List.drop (i + 1) (List.take i l ++ Z)) = List.take i l ++ row :: List.drop i l ∧
    (List.take i (List.take i l ++ Z) ++ [row] ++ List.drop (i + 1) (List.take i l ++ Z)).length = l.length + 1 ∧ (List.take i l ++ Z).length = l.length + 1 := by
  have hl1 : (List.take i l).length = i := by rw [List.length_take]; omega
  have e1 : List.take i (List.take i l ++ Z) = List.take i l := List.take_left' hl1
  have hlen : (List.take i l ++ [row] ++ List.drop (i + 1) (List.take i l ++ Z)).length = l.length + 1 := by
    simp only [List.length_append, hl1, List.length_drop, List.length_cons, List.length_nil, hz]; omega
  refine ⟨?_, by rw [e1]; exact hlen, by rw [List.length_append, hl1, hz]; omega⟩
  have e2 : List.take (l.length + 1 - (i + 1)) (List.take (l.length - i) (List.drop i l)) = List.drop i l := by
    rw [List.take_take, List.take_of_length_le]
    rw [List.length_drop]
    omega
  have e3 : List.drop (i + 1 + (l.length - i)) (List.take i l ++ [row] ++ List.drop (i + 1) (List.take i l ++ Z)) = [] := List.drop_of_length_le (by rw [hlen]; omega)
  have e4 : List.take (i + 1) (List.take i l ++ [row] ++ List.drop (i + 1) (List.take i l ++ Z)) = List.take i l ++ [row] := List.take_left' (by rw [List.length_append, hl1]; rfl)
  rw [e1, e2, e3, e4]
  simp
theorem insB {α : Type} {l l' : List α} {row : α} {i : Nat} (h : i < l.length) (hl' : 0 < l'.length) :
    List.take (l.length + 1) (List.take i (List.take (i + 1) (l ++ l') ++ List.take (l.length + 1 - (i + 1)) (List.take (l.length + 1 - i) (List.drop i (l ++ l'))) ++ List.drop (i + 1 + min (l.length + 1 - i) (l.length + 1 - (i + 1))) (l ++ l')) ++ [row] ++ List.drop (i + 1) (List.take (i + 1) (l ++ l') ++ List.take (l.length + 1 - (i + 1)) (List.take (l.length + 1 - i) (List.drop i (l ++ l'))) ++ List.drop (i + 1 + min (l.length + 1 - i) (l.length + 1 - (i + 1))) (l ++ l'))) = List.take i l ++ row :: List.drop i l ∧
    i + 1 ≤ (List.take (i + 1) (l ++ l') ++ List.take (l.length + 1 - (i + 1)) (List.take (l.length + 1 - i) (List.drop i (l ++ l'))) ++ List.drop (i + 1 + min (l.length + 1 - i) (l.length + 1 - (i + 1))) (l ++ l')).length := by
  have hmin : min (l.length + 1 - i) (l.length + 1 - (i + 1)) = l.length - i := by omega
  have e1 : List.take (l.length + 1 - (i + 1)) (List.take (l.length + 1 - i) (List.drop i (l ++ l'))) = List.drop i l := by
    rw [List.take_take, Nat.min_eq_left (by omega), List.drop_append_of_le_length (by omega)]
    exact List.take_left' (by rw [List.length_drop]; omega)
  have e2 : (List.take (i + 1) (l ++ l')).length = i + 1 := by rw [List.length_take, List.length_append]; omega
  rw [hmin, e1]
  have e3 : List.take i (List.take (i + 1) (l ++ l') ++ List.drop i l ++ List.drop (i + 1 + (l.length - i)) (l ++ l')) = List.take i l := by
    rw [List.append_assoc, List.take_append_of_le_length (by omega), List.take_take, Nat.min_eq_left (by omega), List.take_append_of_le_length (by omega)]
  have e4 : List.drop (i + 1) (List.take (i + 1) (l ++ l') ++ List.drop i l ++ List.drop (i + 1 + (l.length - i)) (l ++ l')) = List.drop i l ++ List.drop (i + 1 + (l.length - i)) (l ++ l') := by
    rw [List.append_assoc]
    exact List.drop_left' e2
  rw [e3, e4]
  refine ⟨?_, by simp only [List.length_append] at e2 ⊢; omega⟩
  rw [← List.append_assoc, List.take_left' (by simp only [List.length_append, List.length_take, List.length_drop, List.length_cons, List.length_nil]; omega)]
  simp
section
variable {P : Program} {f t sz by_ fo fr : Nat} {z : List Value}
theorem fin_own {n m : Nat} {rvs : List RV} {r : SV} {M' : List Blk} {s s1 : St} {ex : Exit} (hex : ex = .normal ∨ ex = .ret) (h : Gh n m s s1) (D : List Blk) {qs : List Pt} {cnd : Prop} (h1 : resL s1.env s1.M rvs = some (qs, cnd)) (h2 : cnd) (h3 : s1.M = M' ++ D) (h4 : leS (mkRes qs) r) (h5 : m ≤ M'.length) (h6 : ltS M'.length r) (h7 : ∀ x ∈ M', ltB M'.length x) : FinK n m rvs r M' ex s := by
  rcases hex with rfl | rfl <;> exact ⟨s1, D, qs, cnd, h, h1, h2, h3, h4.sub, h5, h6, h7⟩
set_option maxRecDepth 20000 in
set_option maxHeartbeats 2000000 in
theorem ins_rc (hF : Fun P f 95 (insC t sz by_ z fo fr) [.t 6]) (ho : Ovl P fo sz) (hsz : 0 < sz) {M : List Blk} {b c vb vc tc i : Nat} {l : List (List AV)} {row : List AV} {fb fc : Bool} (hbc : b ≠ c) (hb : M[b]? = some (.rows t sz vb l fb)) (hc : M[c]? = some (.rows tc sz vc [row] fc)) (hi : i ≤ l.length) (hn : l.length < 140737488355328) (hbig : (l.length + 1) * by_ ≤ 140737488355328) (hMB : ∀ x ∈ M, ltB M.length x) :
    CallR P M f [.one (.arr sz b vb 0 l.length), .i i, .one (.arr sz c vc 0 1)] (.p (.one (.arr sz b (vb + 1) 0 (l.length + 1)))) (M.set b (.rows t sz (vb + 1) (l.take i ++ row :: l.drop i) false)) := by
  have hbl : b < M.length := getElem?_lt hb
  have hcl : c < M.length := getElem?_lt hc
  have hB : ∀ r ∈ l, ∀ a ∈ r, ltA M.length a := hMB _ (List.mem_of_getElem? hb)
  have hR : ∀ a ∈ row, ltA M.length a := hMB _ (List.mem_of_getElem? hc) row (by simp)
  have hfin : ∀ x ∈ M.set b (.rows t sz (vb + 1) (l.take i ++ row :: l.drop i) false), ltB (M.set b (.rows t sz (vb + 1) (l.take i ++ row :: l.drop i) false)).length x := by
    intro x hx
    rw [List.length_set]
    rcases List.mem_or_eq_of_mem_set hx with hx | rfl
    · exact hMB x hx
    · intro r hr
      rcases List.mem_append.1 hr with hr | hr
      · exact hB r (List.mem_of_mem_take hr)
      · rcases List.mem_cons.1 hr with rfl | hr
        · exact hR
        · exact hB r (List.mem_of_mem_drop hr)
  refine callR_intro hF (by simp) ?_
  by_cases hin : i = l.length
  · subst hin
    refine V_sound ?_
    simp only [insC, go_sem, hb, hc]
    refine ⟨by omega, hbig, fin_own (.inr rfl) (Gh.refl _) [] (qs := [.one (.arr sz b (vb + 1) 0 (l.length + 1))]) (cnd := True) (by simp only [go_sem]) trivial (by simp only [go_sem]) (by simp only [go_sem]) (by simp only [List.length_set]; exact Nat.le_refl _) (by simp only [go_sem, List.length_set]; exact hbl) (by simpa only [go_sem] using hfin)⟩
  have hlt : i < l.length := by omega
  refine run_open hb (fun l' hl' hlm => ?_)
  obtain ⟨M1, hM1⟩ : ∃ M1, M1 = M.set b (.rows t sz vb (l ++ l') true) := ⟨_, rfl⟩
  have hlen : M1.length = M.length := by rw [hM1, List.length_set]
  have hb1 : M1[b]? = some (.rows t sz vb (l ++ l') true) := by rw [hM1, List.getElem?_set, if_pos rfl, if_pos hbl]
  have hc1 : M1[c]? = some (.rows tc sz vc [row] fc) := by rw [hM1, List.getElem?_set, if_neg hbc, hc]
  have hset : ∀ x, M1.set b x = M.set b x := fun x => by rw [hM1, List.set_set]
  rw [← hM1]
  refine V_sound ?_
  have hin' : ((i : Int) = (l.length : Int)) = False := by simp; omega
  have hlz : ¬ ((i : Int) = (l.length : Int) ∧ ¬ (i : Int) = 0) := by omega
  have hw : IntKind.i64.wrap ((l.length : Int) + 1) = ((l.length + 1 : Nat) : Int) := w64s (by omega)
  have hw2 : IntKind.i64.wrap ((i : Int) + 1) = ((i + 1 : Nat) : Int) := w64s (by omega)
  have hw3 : IntKind.i64.wrap (((l.length + 1 : Nat) : Int) - i) = ((l.length + 1 - i : Nat) : Int) := by rw [w64 (by omega) (by omega)]; omega
  have hin0 : (i = l.length) = False := by simp; omega
  have hin1 : (i = l.length + 1) = False := by simp; omega
  have hadd : i + (l.length + 1 - i) = l.length + 1 := by omega
  have hgA : ∀ x, (M1 ++ [x])[M1.length]? = some x := fun x => by simp
  have hbA : ∀ x, (M1 ++ [x])[b]? = some (.rows t sz vb (l ++ l') true) := fun x => by rw [List.getElem?_append_left (by omega)]; exact hb1
  have hcA : ∀ x, (M1 ++ [x])[c]? = some (.rows tc sz vc [row] fc) := fun x => by rw [List.getElem?_append_left (by omega)]; exact hc1
  have hsA : ∀ x y, (M1 ++ [x]).set M1.length y = M1 ++ [y] := fun x y => by simp
  have htk : [row].take (l.length + 1 - i) = [row] := List.take_of_length_le (by simp; omega)
  have hmin : min 1 (l.length + 1 - i) = 1 := by omega
  have hmin2 : min (l.length - i) (l.length + 1 - (i + 1)) = l.length - i := by omega
  by_cases hl0 : l' = []
  · subst hl0
    simp only [List.append_nil] at hb1 hbA hM1 hlm
    simp only [insC, go_sem, hb1, hc1, hin', hlz, hw, hw2, hw3, hin0, hin1, hadd, hgA, hbA, hcA, hsA, htk, hmin, hmin2]
    obtain ⟨q1, q2, q3⟩ := insA (row := row) (Z := List.replicate (l.length + 1 - i) (List.map (fun v => AV.c (CV.v v)) z)) hlt (by simp)
    rw [q1, q2, q3]
    refine ⟨by omega, by omega, ⟨by omega, by omega, hbig⟩, by omega, by omega, by omega, by omega, by omega, ?_⟩
    refine fin_own (.inr rfl) (gh_move (b := b) (c := M1.length) 6 0 (l.length + 1) (hbA _) (hgA _) (by simp only [go_sem])) [.dead] (qs := [.one (.arr sz b (vb + 1) 0 (l.length + 1))]) (cnd := True) (by simp only [go_sem]) trivial ?_ (by simp only [go_sem]) (by simp only [List.length_set]; exact Nat.le_refl _) (by simp only [go_sem, List.length_set]; exact hbl) hfin
    show ((M1 ++ [_]).set M1.length .dead).set b _ = _
    rw [hsA, List.set_append_left _ _ (by omega), hset]
  · have hll : 0 < l'.length := List.length_pos_iff.2 hl0
    have hroom : ((l ++ l').length < l.length + 1) = False := by simp only [List.length_append, eq_iff_iff, iff_false]; omega
    simp only [insC, go_sem, hb1, hc1, hin', hlz, hw, hw2, hw3, hin0, hin1, hadd, htk, hmin, hmin2, hroom]
    have hgS : ∀ x, (M1.set b x)[b]? = some x := fun x => by rw [List.getElem?_set, if_pos rfl, if_pos (by omega)]
    have hcS : ∀ x, (M1.set b x)[c]? = some (.rows tc sz vc [row] fc) := fun x => by rw [List.getElem?_set, if_neg hbc]; exact hc1
    have hsS : ∀ x y, (M1.set b x).set b y = M1.set b y := fun x y => List.set_set ..
    refine ⟨by omega, ⟨by omega, .inr (by rw [List.length_append]; omega)⟩, by omega, call1 (ovl_rc (ob := 0) (lb := 1) (oc := i + 1) (lc := l.length + 1 - (i + 1)) ho hsz (by rw [List.length_append]; omega) (fun e => hbc e.symm) hc1 hb1) (by simp only [go_sem]) (fun _ => rfl) ?_⟩
    simp only [go_sem, hb1, hc1, hin', hlz, hw, hw2, hw3, hin0, hin1, hadd, htk, hmin, hmin2, hroom, hgS, hcS, hsS]
    obtain ⟨q1, q2⟩ := insB (row := row) hlt hll
    refine ⟨by omega, by omega, ⟨by rw [List.length_append]; omega, by rw [List.length_append]; omega⟩, by omega, q2, ?_⟩
    have hg := fun (e : Nat → SV) => gh_trunc (e := e) (n := 95) (m := M.length) (l.length + 1) (hgS (.rows t sz vb (List.take i (List.take (i + 1) (l ++ l') ++ List.take (l.length + 1 - (i + 1)) (List.take (l.length + 1 - i) (List.drop i (l ++ l'))) ++ List.drop (i + 1 + min (l.length + 1 - i) (l.length + 1 - (i + 1))) (l ++ l')) ++ [row] ++ List.drop (i + 1) (List.take (i + 1) (l ++ l') ++ List.take (l.length + 1 - (i + 1)) (List.take (l.length + 1 - i) (List.drop i (l ++ l'))) ++ List.drop (i + 1 + min (l.length + 1 - i) (l.length + 1 - (i + 1))) (l ++ l'))) true))
    simp only [q1, hsS] at hg
    refine fin_own (.inr rfl) ((hg _).trans (gh_move (b := b) (c := b) 6 0 (l.length + 1) (hgS _) (hgS _) (by simp only [go_sem]))) [] (qs := [.one (.arr sz b (vb + 1) 0 (l.length + 1))]) (cnd := True) (by simp only [go_sem]) trivial ?_ (by simp only [go_sem]) (by simp only [List.length_set]; exact Nat.le_refl _) (by simp only [go_sem, List.length_set]; exact hbl) hfin
    show ((M1.set b _).set b .dead).set b _ = _
    rw [hsS, hsS, hset, List.append_nil]
end
end Go.Proofs.YtioefecijidgkaaAbs
