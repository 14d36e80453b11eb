/- Part 3 of the texts on which the row stands: AbsStr, AbsExt, AbsSort, AbsBld, AbsBl2, CdLabel, LbA, LbB, LbC. Conditions: none. -/
import Derived.Test.YtpdcpdngckpgbaaGreatHhxb
import Derived.Laws.RangeAny
import Derived.Sort.Walk0
import Derived.Lib.IndexMore
import Derived.Deep.Draws
import Derived.Laws.Tables
import Derived.Test.YtpdcpdngckpgbaaGreatProg
set_option linter.unusedVariables false
set_option linter.unusedSimpArgs false
section
namespace Go.Proofs.YtpdcpdngckpgbaaGreatAbs
open Go Go.RowKit
def bs (s : ByteArray) : List UInt8 := s.data.toList
@[go_sem] theorem bs_fold (s : ByteArray) : s.data.toList = bs s := rfl
abbrev mkS (l : List UInt8) : ByteArray := ⟨l.toArray⟩
theorem bs_len (s : ByteArray) : (bs s).length = s.size := Array.length_toList
theorem bs_inj {s t : ByteArray} (h : bs s = bs t) : s = t := by
 cases s; cases t
 simp only [bs, Array.toList_inj] at h
 rw [h]
theorem bs_mk (l : List UInt8) : bs (mkS l) = l := rfl
theorem mk_bs (s : ByteArray) : mkS (bs s) = s := bs_inj rfl
theorem bs_append (s t : ByteArray) : bs (s ++ t) = bs s ++ bs t := by simp [bs]
theorem mk_append (l m : List UInt8) : mkS l ++ mkS m = mkS (l ++ m) := bs_inj (by rw [bs_append, bs_mk, bs_mk, bs_mk])
theorem bs_extract (s : ByteArray) (i j : Nat) : bs (s.extract i j) = ((bs s).drop i).take (j - i) := by
 simp [bs, ByteArray.data_extract]
theorem mk_size (l : List UInt8) : (mkS l).size = l.length := by simp [mkS, ByteArray.size]
@[go_sem] theorem beqS (s t : ByteArray) : (s.toList == t.toList) = decide (s = t) := by
 rw [ByteArray.toList_eq, ByteArray.toList_eq]
 by_cases h : s = t
 ·simp [h]
 ·simp only [h, decide_false, beq_eq_false_iff_ne, ne_eq]
  exact fun e => h (bs_inj e)
def sLt (s t : ByteArray) : Bool := decide (bs s < bs t)
@[go_sem] theorem lssS (s t : ByteArray) : Op.bytesLess s.toList t.toList = sLt s t := by
 rw [ByteArray.toList_eq, ByteArray.toList_eq]
 exact bytesLess_eq _ _
theorem sLt_irrefl (s : ByteArray) : sLt s s = false := by simp [sLt, List.lt_irrefl]
theorem sLt_trans {a b c : ByteArray} (h : sLt a b = true) (k : sLt b c = true) : sLt a c = true := by
 simp only [sLt, decide_eq_true_eq] at *
 exact List.lt_trans h k
theorem sLt_asymm {a b : ByteArray} (h : sLt a b = true) : sLt b a = false := by
 cases k : sLt b a with
 | false => rfl
 | true => have := sLt_trans h k; rw [sLt_irrefl] at this; cases this
theorem sLt_total {a b : ByteArray} (h : sLt a b = false) (k : sLt b a = false) : a = b := by
 simp only [sLt, decide_eq_false_iff_not] at h k
 exact bs_inj (List.le_antisymm (List.not_lt.1 k) (List.not_lt.1 h))
theorem sLt_ne {a b : ByteArray} (h : sLt a b = true) : a ≠ b := fun e => by rw [e, sLt_irrefl] at h; cases h
theorem bs_get {s : ByteArray} {k : Nat} (h : k < s.size) : s[k] = (bs s).getD k 0 := by
 have h2 : k < (bs s).length := by rw [bs_len]; exact h
 rw [List.getD_eq_getElem?_getD, List.getElem?_eq_getElem h2]
 rfl
theorem dec_ascii {s : ByteArray} {k : Nat} (h : k < s.size) (ha : ((bs s).getD k 0).toNat < 128) : Utf8.decode s k = (((bs s).getD k 0).toNat, 1) := by
 have := decode_ascii s k h (by rw [bs_get h]; exact ha)
 rw [bs_get h] at this
 exact this
theorem dec_high {s : ByteArray} {k : Nat} (h : k < s.size) (ha : 128 ≤ ((bs s).getD k 0).toNat) : 128 ≤ (Utf8.decode s k).1 ∧ 1 ≤ (Utf8.decode s k).2 := decode_high s k h (by rw [bs_get h]; exact ha)
theorem all_true {α : Type} {l : List α} {d : α} {p : α → Bool} (h : ∀ j, j < l.length → p (l.getD j d) = true) : l.all p = true := by
 rw [List.all_eq_true]
 intro x hx
 obtain ⟨j, hj, rfl⟩ := List.mem_iff_getElem.1 hx
 have := h j hj
 rwa [List.getD_eq_getElem?_getD, List.getElem?_eq_getElem hj] at this
theorem all_false {α : Type} {l : List α} {d : α} {p : α → Bool} {k : Nat} (hk : k < l.length) (h : p (l.getD k d) = false) : l.all p = false := by
 rw [List.all_eq_false]
 refine ⟨l[k], List.getElem_mem hk, ?_⟩
 rw [List.getD_eq_getElem?_getD, List.getElem?_eq_getElem hk] at h
 simpa using h
theorem getD_get {α : Type} {l : List α} {i : Nat} {d : α} (h : i < l.length) : l.getD i d = l[i] := by simp [List.getD_eq_getElem?_getD, h]
theorem take_succ_getD {α : Type} {l : List α} {k : Nat} (d : α) (h : k < l.length) : l.take (k + 1) = l.take k ++ [l.getD k d] := by
 rw [List.take_add_one, List.getElem?_eq_getElem h, getD_get h]; rfl
theorem drop_getD {α : Type} {l : List α} {k : Nat} (d : α) (h : k < l.length) : l.drop k = l.getD k d :: l.drop (k + 1) := by
 rw [List.drop_eq_getElem_cons h, getD_get h]
end Go.Proofs.YtpdcpdngckpgbaaGreatAbs
end
section
namespace Go.Proofs.YtpdcpdngckpgbaaGreatAbs
open Go Go.RowKit
theorem Mem.sameHeap {I : Im} {σ : List Plc} {M : List Blk} {w w' : World} (h : Mem I σ M w) (he : w'.heap = w.heap) : Mem I σ M w' :=
 ⟨h.len, fun b x p hx hp => RelB_mono (ExtI.refl _) (ExtP.refl _) (fun g _ _ => by rw [he]) (h.blk b x p hx hp), h.inj, h.ap, fun a x hI => (cell_same (by rw [he])).trans (h.imm a x hI)⟩
theorem Evo.drewN {I : Im} {σ : List Plc} {M : List Blk} {w : World} (h : Mem I σ M w) (n : Nat) : Evo I σ M w I σ M (w.drewN n) :=
 ⟨ExtI.refl _, ExtP.refl _, h.sameHeap rfl, ⟨rfl, rfl, rfl, Nat.le_refl _, fun _ _ _ => rfl⟩, fun g hg => .inl hg, fun a x hx => .inl hx⟩
theorem enters_fun {P : Program} {f : Nat} {fn : Func} (h : P.funcs[f]? = some fn) (h1 : (fn.name == "runtime.NumGoroutine") = false) (h2 : fn.body.isSome = true) : Enters P f := ⟨fn, h, h1, h2⟩
def plainPs (xs : List Value) : List Pt := xs.map fun x => .one (.c (.v x))
theorem vals_of {I : Im} {σ : List Plc} {xs : List Value} {vals : Array Value} (hl : vals.size = (plainPs xs).length) (hr : ∀ (k : Nat) (q : Pt) (x : Value), (plainPs xs)[k]? = some q → vals[k]? = some x → RelP I σ q x) : vals = xs.toArray := by
 apply Array.ext
 ·simpa [plainPs] using hl
 ·intro i h1 h2
  have h3 : i < xs.length := by simpa using h2
  have := hr i (.one (.c (.v xs[i]))) vals[i] (by simp [plainPs, h3]) (Array.getElem?_eq_getElem h1)
  obtain ⟨h4, _⟩ := this
  simpa using h4
theorem callR_lib {P : Program} {f : Nat} {xs : List Value} {r : SV} {v : Value} (hE : Enters P f) (hv : ∀ (I : Im) (σ : List Plc), RelS I σ r v)
  (h : ∀ (I : Im) (w : World), GI P I → (∀ a x, I a = some x → w.cell? a = some x) → Calls P f xs.toArray w fun e w' => e = .returned v ∧ ∃ n, w' = w.drewN n) (M : List Blk) : CallR P M f (plainPs xs) r M := by
 intro I σ w vals hG hm hvl hvr
 obtain rfl := vals_of hvl hvr
 refine .inl ⟨hE, (h I w hG hm.imm).mono ?_⟩
 rintro e w' ⟨rfl, n, rfl⟩
 exact ⟨v, rfl, I, σ, hv I σ, Evo.drewN hm n⟩
end Go.Proofs.YtpdcpdngckpgbaaGreatAbs
end
section
namespace Go.Proofs.YtpdcpdngckpgbaaGreatAbs
open Go Go.RowKit
def isC (sz : Nat) : C :=
 (.seq (.reg false [om 10 1, oo 11 (.bin .add (.t 10) (ki 1)), om 8 11])
 (.block 0 (.loop (.seq (.seq (.reg false [om 12 8, om 13 2, oo 14 (.bin .lss (.t 12) (.t 13))])
 (.cond (.t 14)
 .skip
 (.exit 0)))
 (.seq (.block 1 (.seq (.reg false [om 17 8, om 9 17])
 (.block 2 (.loop (.seq (.seq (.reg true [om 18 9, om 19 1, oo 20 (.bin .gtr (.t 18) (.t 19)), om 21 20, og 22 21 true (.mv (.t 3)), og 23 21 true (.mv (.t 0)), og 24 21 true (.mv (.t 9)), og 25 21 true (.ia sz (.t 23) (.t 24)), og 26 21 true (.ld true sz (.t 25)), og 27 21 true (.mv (.t 0)), og 28 21 true (.mv (.t 9)), og 29 21 true (.bin .sub (.t 28) (ki 1)), og 30 21 true (.ia sz (.t 27) (.t 29)), og 31 21 true (.ld true sz (.t 30)), og 32 21 true (.call (.t 22) [(.t 26), (.t 31)]), og 33 21 true (.bin .lss (.t 32) (ki 0)), oo 34 (.pick (.t 21) (.t 33) (kb false))])
 (.cond (.t 34)
 .skip
 (.exit 2)))
 (.seq (.block 3 (.reg true [om 37 0, om 38 9, om 39 0, om 40 9, oo 41 (.bin .sub (.t 40) (ki 1)), om 42 0, om 43 9, oo 44 (.bin .sub (.t 43) (ki 1)), oo 45 (.ia sz (.t 42) (.t 44)), oo 46 (.ld true sz (.t 45)), om 47 0, om 48 9, oo 49 (.ia sz (.t 47) (.t 48)), oo 50 (.ld true sz (.t 49)), oo 51 (.ia sz (.t 37) (.t 38)), on_ (.st sz (.t 51) (.t 46)), oo 52 (.ia sz (.t 39) (.t 41)), on_ (.st sz (.t 52) (.t 50))]))
 (.reg false [om 35 9, oo 36 (.bin .sub (.t 35) (ki 1)), om 9 36])))))))
 (.reg false [om 15 8, oo 16 (.bin .add (.t 15) (ki 1)), om 8 16]))))))
def sink {α : Type} (lt : α → α → Bool) (d : α) (l : List α) : Nat → List α
 | 0 => l
 | j + 1 => if lt (l.getD (j + 1) d) (l.getD j d) then sink lt d ((l.set (j + 1) (l.getD j d)).set j (l.getD (j + 1) d)) j else l
def sortTo {α : Type} (lt : α → α → Bool) (d : α) (l : List α) : Nat → List α
 | 0 => l
 | i + 1 => sink lt d (sortTo lt d l i) i
theorem sink_length {α : Type} {lt : α → α → Bool} {d : α} : ∀ {j : Nat} {l : List α}, (sink lt d l j).length = l.length
 | 0, l => rfl
 | j + 1, l => by
  rw [sink]
  split
  ·rw [sink_length]; simp
  ·rfl
theorem sortTo_length {α : Type} {lt : α → α → Bool} {d : α} {l : List α} : ∀ {i : Nat}, (sortTo lt d l i).length = l.length
 | 0 => rfl
 | i + 1 => by rw [sortTo, sink_length, sortTo_length]
theorem sink_mem {α : Type} {lt : α → α → Bool} {d : α} {p : α → Prop} : ∀ {j : Nat} {l : List α}, j < l.length → (∀ x ∈ l, p x) → ∀ x ∈ sink lt d l j, p x
 | 0, l, _, h => h
 | j + 1, l, hj, h => by
  rw [sink]
  split
  ·refine sink_mem (by simp; omega) (fun x hx => ?_)
   have g : ∀ i, i < l.length → p (l.getD i d) := fun i hi => h _ (by rw [List.getD_eq_getElem?_getD, List.getElem?_eq_getElem hi]; exact List.getElem_mem hi)
   rcases List.mem_or_eq_of_mem_set hx with hx | rfl
   ·rcases List.mem_or_eq_of_mem_set hx with hx | rfl
    ·exact h x hx
    ·exact g j (by omega)
   ·exact g (j + 1) hj
  ·exact h
theorem sortTo_mem {α : Type} {lt : α → α → Bool} {d : α} {p : α → Prop} {l : List α} (h : ∀ x ∈ l, p x) : ∀ {i : Nat}, i ≤ l.length → ∀ x ∈ sortTo lt d l i, p x
 | 0, _ => h
 | i + 1, hi => by rw [sortTo]; exact sink_mem (by rw [sortTo_length]; omega) (sortTo_mem h (by omega))
theorem sink_map {α β : Type} {lt : α → α → Bool} {lt' : β → β → Bool} {d : α} {d' : β} {f : α → β} (hlt : ∀ x y, lt' (f x) (f y) = lt x y) : ∀ {j : Nat} {l : List α}, j < l.length → sink lt' d' (l.map f) j = (sink lt d l j).map f
 | 0, l, _ => rfl
 | j + 1, l, hj => by
  have g : ∀ i, i < l.length → (l.map f).getD i d' = f (l.getD i d) := fun i hi => by simp [List.getD_eq_getElem?_getD, hi]
  rw [sink, sink, g _ hj, g j (by omega), hlt]
  split
  ·rw [← sink_map hlt (by simp; omega)]
   congr 1
   rw [List.map_set, List.map_set]
  ·rfl
theorem sortTo_map {α β : Type} {lt : α → α → Bool} {lt' : β → β → Bool} {d : α} {d' : β} {f : α → β} (hlt : ∀ x y, lt' (f x) (f y) = lt x y) {l : List α} : ∀ {i : Nat}, i ≤ l.length → sortTo lt' d' (l.map f) i = (sortTo lt d l i).map f
 | 0, _ => rfl
 | i + 1, hi => by
  rw [sortTo, sortTo, sortTo_map hlt (by omega)]
  exact sink_map hlt (by rw [sortTo_length]; omega)
variable {P : Program} {f sz : Nat}
theorem fillL_all {l x : List AV} (h : l.length = x.length) : fillL l 0 x = x := by
 refine List.ext_getElem? (fun j => ?_)
 rw [fillL_get _ _ _ _ (by omega)]
 split
 ·rw [Nat.sub_zero]
 ·rw [List.getElem?_eq_none (by omega), List.getElem?_eq_none (by omega)]
set_option maxRecDepth 20000 in
theorem isort_rc (hF : Fun P f 53 (isC sz) []) (hsz : 0 < sz) {M : List Blk} {b t ver : Nat} {l : List (List AV)} {fb : Bool} (hb : M[b]? = some (.rows t sz ver l fb)) (hn : l.length ≤ 1000) (h0 : 0 < l.length) (hrow : ∀ r ∈ l, r.length = sz ∧ ∀ a ∈ r, ltA 0 a) (hMB : ∀ x ∈ M, ltB M.length x)
  (fn k : Nat) (caps : Nat → AV) (cmp : List AV → List AV → Int) (hcaps : ∀ i, i < k → ltA 0 (caps i))
  (h : ∀ x ∈ l, ∀ y ∈ l, ∀ M, CallR P M fn ([.agg x, .agg y] ++ capsL caps 0 k) (.i (cmp x y)) M) :
  CallR P M f [.one (.arr sz b ver 0 l.length), .i 0, .i l.length, .one (.fn fn k caps)] (.tup []) (M.set b (.rows t sz ver (sortTo (fun x y => decide (cmp x y < 0)) [] l l.length) fb)) := by
 have hbl : b < M.length := getElem?_lt hb
 refine callR_intro hF (by simp) ?_
 refine V_sound ?_
 simp only [isC, go_sem]
 have hlow : ∀ {n : Nat} {a : AV}, ltA 0 a → ltA n a := by
  intro n a
  induction a with
  | c x => exact fun h => h
  | ptr b v i j => intro h; exact absurd h (Nat.not_lt_zero _)
  | arr sz b v i j => intro h; exact absurd h (Nat.not_lt_zero _)
  | ip m c => exact fun h => h
  | mp b v => intro h; exact absurd h (Nat.not_lt_zero _)
  | arx sz b v o l => intro h; exact absurd h (Nat.not_lt_zero _)
  | fn f k caps ih => exact fun h i hi => ih i (h i hi)
 have hMB' : ∀ l' : List (List AV), (∀ r ∈ l', r.length = sz ∧ ∀ a ∈ r, ltA 0 a) → ∀ x ∈ M.set b (.rows t sz ver l' fb), ltB (M.set b (.rows t sz ver l' fb)).length x := by
  intro l' hl' x hx
  rw [List.length_set]
  rcases List.mem_or_eq_of_mem_set hx with hx | rfl
  ·exact hMB x hx
  ·exact fun r hr a ha => hlow ((hl' r hr).2 a ha)
 have hget : ∀ x, (M.set b x)[b]? = some x := fun x => by rw [List.getElem?_set, if_pos rfl, if_pos hbl]
 refine V_loop (ι := Nat) (J := fun i => 1 ≤ i ∧ i ≤ l.length) (env := fun i => [(0, .p (.one (.arr sz b ver 0 l.length))), (1, .i 0), (2, .i l.length), (3, .p (.one (.fn fn k caps))), (8, .i i)])
  (mem := fun i => M.set b (.rows t sz ver (sortTo (fun x y => decide (cmp x y < 0)) [] l i) fb)) (μ := fun i => l.length - i) 1 ⟨Nat.le_refl _, h0⟩ ?_ ?_
 ·refine ⟨[], ?_, by simp, ?_, hMB' _ (sortTo_mem hrow (by omega))⟩
  ·simp only [List.append_nil, sortTo, sink]
   exact (set_self hb).symm
  ·simp only [go_sem, List.length_set]
   exact ⟨hbl, fun i hi => hlow (hcaps i hi), by decide⟩
 rintro i ⟨hi1, hi2⟩
 simp only [go_sem]
 refine ⟨fun h1 => ?_, fun h1 => ?_⟩
 ·refine V_loop (ι := Nat × List (List AV)) (J := fun p => p.1 ≤ i ∧ p.2.length = l.length ∧ (∀ r ∈ p.2, r ∈ l) ∧ sink (fun x y => decide (cmp x y < 0)) [] p.2 p.1 = sortTo (fun x y => decide (cmp x y < 0)) [] l (i + 1)) (env := fun p => [(0, .p (.one (.arr sz b ver 0 l.length))), (1, .i 0), (2, .i l.length), (3, .p (.one (.fn fn k caps))), (8, .i i), (9, .i p.1)])
   (mem := fun p => M.set b (.rows t sz ver p.2 fb)) (μ := fun p => p.1) (i, sortTo (fun x y => decide (cmp x y < 0)) [] l i) ⟨Nat.le_refl _, sortTo_length, sortTo_mem (fun x hx => hx) (by omega), rfl⟩ ?_ ?_
  ·refine ⟨[], by simp, by simp, ?_, hMB' _ (sortTo_mem hrow (by omega))⟩
   simp only [go_sem, List.length_set]
   exact ⟨hbl, fun i hi => hlow (hcaps i hi)⟩
  rintro ⟨j, cur⟩ ⟨hj, hlen, hmem, hs⟩
  simp only at hj hlen hmem hs
  have hg : ∀ j, j < cur.length → (cur.getD j []) ∈ l := fun j h => hmem _ (by rw [List.getD_eq_getElem?_getD, List.getElem?_eq_getElem h]; exact List.getElem_mem h)
  have htk : ∀ j, j < cur.length → List.take sz (cur.getD j []) = cur.getD j [] := fun j h => List.take_of_length_le (Nat.le_of_eq (hrow _ (hg j h)).1)
  have hle : ∀ j, j < cur.length → sz ≤ (cur.getD j []).length := fun j h => Nat.le_of_eq (hrow _ (hg j h)).1.symm
  rcases j with _ | j
  ·simp only [go_sem, hget]
   refine callg0 (r := .i 0) (fun h => Bool.noConfusion h) ?_
   have hs' : cur = sortTo (fun x y => decide (cmp x y < 0)) [] l (i + 1) := hs
   simp only [go_sem]
   refine ⟨fun h => absurd h (by decide), fun _ => ⟨i + 1, ⟨by omega, by omega⟩, by omega, [], by rw [hs', List.append_nil], by rw [List.length_set]; exact Nat.le_refl _, ?_, hMB' _ (sortTo_mem hrow (by omega))⟩⟩
   simp only [go_sem, List.length_set]
   exact ⟨hbl, fun i hi => hlow (hcaps i hi), w64s (by omega)⟩
  ·have e1 : IntKind.i64.wrap (((j + 1 : Nat) : Int) - 1) = (j : Int) := by rw [w64p (by omega) (by omega)]; rfl
   have e2 : (0 : Int) < ((j + 1 : Nat) : Int) := by omega
   simp only [go_sem, hget, e1, e2, Int.toNat_natCast]
   refine ⟨⟨by omega, by omega, hsz⟩, ⟨by omega, hle _ (by omega)⟩, ⟨by omega, by omega, hsz⟩, ⟨by omega, hle _ (by omega)⟩, ?_⟩
   rw [htk _ (by omega), htk _ (by omega)]
   refine callg0 (r := .i (cmp (cur.getD (j + 1) []) (cur.getD j []))) (fun _ => h _ (hg _ (by omega)) _ (hg _ (by omega))) ?_
   simp only [go_sem, hget, e1, e2, Int.toNat_natCast, List.set_set]
   rw [htk _ (by omega), htk _ (by omega)]
   have hf : ∀ a b, a < cur.length → b < cur.length → fillL (cur.getD a []) 0 (cur.getD b []) = cur.getD b [] := fun a b h1 h2 => fillL_all ((hrow _ (hg a h1)).1.trans (hrow _ (hg b h2)).1.symm)
   have hne : (cur.set (j + 1) (cur.getD j [])).getD j [] = cur.getD j [] := by
    rw [List.getD_eq_getElem?_getD, List.getD_eq_getElem?_getD, List.getElem?_set, if_neg (by omega)]
   rw [hf _ _ (by omega) (by omega), hne, hf _ _ (by omega) (by omega)]
   refine ⟨fun hc => ⟨⟨by omega, by omega, hsz⟩, ⟨by omega, hle _ (by omega)⟩, ⟨by omega, by omega, hsz⟩, ⟨by omega, hle _ (by omega)⟩, ⟨by omega, by omega, hsz⟩, ⟨by omega, hle _ (by omega), (hrow _ (hg _ (by omega))).1⟩, ⟨by omega, by omega, hsz⟩, ⟨by rw [List.length_set]; omega, hle _ (by omega), (hrow _ (hg _ (by omega))).1⟩, ?_⟩, fun hc => ?_⟩
   ·have hs' : sink (fun x y => decide (cmp x y < 0)) [] ((cur.set (j + 1) (cur.getD j [])).set j (cur.getD (j + 1) [])) j = sortTo (fun x y => decide (cmp x y < 0)) [] l (i + 1) := by
     rw [← hs, sink, if_pos (decide_eq_true hc)]
    have hm' : ∀ r ∈ (cur.set (j + 1) (cur.getD j [])).set j (cur.getD (j + 1) []), r ∈ l := by
     intro r hr
     rcases List.mem_or_eq_of_mem_set hr with hr | rfl
     ·rcases List.mem_or_eq_of_mem_set hr with hr | rfl
      ·exact hmem r hr
      ·exact hg _ (by omega)
     ·exact hg _ (by omega)
    refine ⟨(j, _), ⟨by simp only []; omega, by simp [hlen], hm', hs'⟩, by simp only []; omega, [], by rw [List.append_nil], by rw [List.length_set]; exact Nat.le_refl _, ?_, hMB' _ (fun r hr => hrow r (hm' r hr))⟩
    simp only [go_sem, List.length_set]
    exact ⟨hbl, fun i hi => hlow (hcaps i hi)⟩
   ·have hs' : cur = sortTo (fun x y => decide (cmp x y < 0)) [] l (i + 1) := by
     rw [← hs, sink, if_neg (by simp only [decide_eq_true_eq]; exact hc)]
    refine ⟨i + 1, ⟨by omega, by omega⟩, by omega, [], by rw [← hs', List.append_nil], by rw [List.length_set]; exact Nat.le_refl _, ?_, hMB' _ (sortTo_mem hrow (by omega))⟩
    simp only [go_sem, List.length_set]
    exact ⟨hbl, fun i hi => hlow (hcaps i hi), w64s (by omega)⟩
 ·have e : i = l.length := by omega
  subst e
  refine fin_own (.inl rfl) (Gh.refl _) [] (qs := []) (cnd := True) ?_ trivial ?_ ?_ ?_ ?_ ?_
  ·rfl
  ·simp only [List.append_nil]
  ·show leS (SV.tup []) (SV.tup []); rw [leS_self]; trivial
  ·rw [List.length_set]; exact Nat.le_refl _
  ·simp only [go_sem]
  ·exact hMB' _ (sortTo_mem hrow (Nat.le_refl _))
end Go.Proofs.YtpdcpdngckpgbaaGreatAbs
end
section
namespace Go.Proofs.YtpdcpdngckpgbaaGreatAbs
open Go Go.RowKit
theorem evo_set1 {I : Im} {σ : List Plc} {M : List Blk} {w : World} (hm : Mem I σ M w) {b tb sz' ver' i j : Nat} {l : List (List AV)} {row : List AV} {fb : Bool} (hMb : M[b]? = some (.rows tb sz' ver' l fb)) (hrow : l[i]? = some row) (hj1 : j < sz')
  {p : Plc} {g : Nat} (hp : σ[b]? = some p) (hg : p.blk = some g) {x : AV} {v : Value} (hx : RelA I σ x v) : Evo I σ M w I σ (M.set b (.rows tb sz' ver' (l.set i (fillL row j [x])) fb)) (w.setCell ⟨g, i * sz' + j, none⟩ v) := by
 obtain ⟨p', hp', m1, m2, m3, m4, m5, m6⟩ := mem_rows hm hMb
 obtain rfl : p = p' := by rw [hp] at hp'; injection hp'
 have hi : i < l.length := getElem?_lt hrow
 rw [hg] at m6
 obtain ⟨cs, hh, hs, m7, hcs⟩ := m6
 have hrs : row.length = sz' := m5 i row hrow
 have hle : (i + 1) * sz' ≤ p.cap * sz' := Nat.mul_le_mul_right _ (by omega)
 have hin : i * sz' + j + 1 ≤ cs.size := by rw [hs]; rw [Nat.add_mul] at hle; omega
 obtain ⟨vs, hvs'⟩ : ∃ vs, vs = [v] := ⟨_, rfl⟩
 have hrel : RelL I σ [x] vs := by
  rw [hvs']
  refine ⟨rfl, fun k u y hk hy => ?_⟩
  rcases k with _ | k
  ·cases hk; cases hy; exact hx
  ·cases hk
 have hvl' : vs.length = 1 := by rw [hvs']; rfl
 have hqs : [x].length = 1 := rfl
 obtain ⟨sz, hszz⟩ : ∃ sz, sz = 1 := ⟨_, rfl⟩
 have hj : j + sz ≤ row.length := by omega
 rw [setCell_eq_setRow _ _ _ _ _ _ _ hh]
 obtain ⟨cs', hcs'⟩ : ∃ cs', cs' = cs.setIfInBounds (i * sz' + j) v := ⟨_, rfl⟩
 rw [← hcs']
 have hget : ∀ k, cs'[k]? = if i * sz' + j ≤ k ∧ k < i * sz' + j + sz then vs[k - (i * sz' + j)]? else cs[k]? := by
  intro k
  rw [hcs', Array.getElem?_setIfInBounds, hvs', hszz]
  by_cases h1 : i * sz' + j = k
  ·subst h1
   rw [if_pos rfl, if_pos (by omega), if_pos (by omega), Nat.sub_self]
   rfl
  ·rw [if_neg h1, if_neg (by omega)]
 have hsz : cs'.size = cs.size := by rw [hcs', Array.size_setIfInBounds]
 have hvl' : vs.length = sz := by rw [hvl', hszz]
 have hone : ∀ v ∈ vs, one1 v = true := by
  intro u hu
  rw [hvs'] at hu
  obtain rfl := List.mem_singleton.1 hu
  exact RelA_one hx
 refine ⟨ExtI.refl _, ExtP.refl _, ⟨by simp [hm.len], ?_, ?_, ?_, ?_⟩, Keep.setRow _ _ _ _ ⟨b, _, p, hMb, rfl, hp, hg⟩, fun g' hg' => ?_, fun ad x hx => .inl hx⟩
 ·intro b' y' p' hy' hp'
  rw [List.getElem?_set] at hy'
  by_cases hb : b = b'
  ·subst hb
   rw [if_pos rfl, if_pos (getElem?_lt hMb)] at hy'
   injection hy' with hy'
   subst hy'
   obtain rfl : p = p' := by rw [hp] at hp'; injection hp'
   refine ⟨fun hf => by rw [List.length_set]; exact (hm.blk b _ _ hMb hp).1 hf, m1, m2, by simpa using m3, m4, ?_, ?_⟩
   ·intro i' r' hr'
    rw [List.getElem?_set] at hr'
    by_cases hii : i = i'
    ·subst hii
     rw [if_pos rfl, if_pos hi] at hr'
     injection hr' with hr'
     subst hr'
     rw [fillL_length]
     exact hrs
    ·rw [if_neg hii] at hr'
     exact m5 i' r' hr'
   ·rw [hg]
    refine ⟨cs', setRow_heap w g cs cs' tb _ hh, by rw [hsz, hs], fun k x hk => ?_, ?_⟩
    ·rw [hget] at hk
     split at hk
     ·exact hone x (List.mem_of_getElem? hk)
     ·exact mem_one hm hMb hp hg hh k x hk
    intro i' r' hr' j' u hu
    have hother : ∀ i'' r'', l[i'']? = some r'' → i'' ≠ i → j' < r''.length → cs'[i'' * sz' + j']? = cs[i'' * sz' + j']? := by
     intro i'' r'' hr'' hne hj'
     have hr2 := m5 i'' r'' hr''
     rw [hget, if_neg]
     rintro ⟨h1, h2⟩
     rcases Nat.lt_or_gt_of_ne hne with hlt | hgt
     ·have : (i'' + 1) * sz' ≤ i * sz' := Nat.mul_le_mul_right _ hlt
      rw [Nat.add_mul] at this
      omega
     ·have : (i + 1) * sz' ≤ i'' * sz' := Nat.mul_le_mul_right _ hgt
      rw [Nat.add_mul] at this
      omega
    rw [List.getElem?_set] at hr'
    by_cases hii : i = i'
    ·subst hii
     rw [if_pos rfl, if_pos hi] at hr'
     injection hr' with hr'
     subst hr'
     rw [fillL_get _ _ _ _ (by omega)] at hu
     rw [hget]
     by_cases h1 : j ≤ j' ∧ j' < j + [x].length
     ·rw [if_pos h1] at hu
      rw [if_pos (by omega), show i * sz' + j' - (i * sz' + j) = j' - j by omega]
      have hk : j' - j < vs.length := by omega
      exact ⟨vs[j' - j], List.getElem?_eq_getElem hk, hrel.2 (j' - j) u _ hu (List.getElem?_eq_getElem hk)⟩
     ·rw [if_neg h1] at hu
      rw [if_neg (by omega)]
      exact hcs i row hrow j' u hu
    ·rw [if_neg hii] at hr'
     rw [hother i' r' hr' (fun e => hii e.symm) (getElem?_lt hu)]
     exact hcs i' r' hr' j' u hu
  ·rw [if_neg hb] at hy'
   refine RelB_mono (ExtI.refl _) (ExtP.refl _) (fun g' hl' hg' => setRow_other w g g' cs' (fun e => ?_)) (hm.blk b' y' p' hy' hp')
   subst e
   exact hb (hm.inj b b' _ y' p p' g' hMb hy' rfl hl' hp hp' hg hg')
 ·intro b1 b2 y1 y2 p1 p2 g' h1 h2 l1 l2 q1 q2 e1 e2
  have back : ∀ {b0 : Nat} {y0 : Blk}, (M.set b (.rows tb sz' ver' (l.set i (fillL row j [x])) fb))[b0]? = some y0 → y0.live = true → ∃ z : Blk, M[b0]? = some z ∧ z.live = true := by
   intro b0 y0 h0 l0
   rw [List.getElem?_set] at h0
   by_cases hb : b = b0
   ·subst hb; exact ⟨_, hMb, rfl⟩
   ·rw [if_neg hb] at h0; exact ⟨_, h0, l0⟩
  obtain ⟨z1, k1, k1'⟩ := back h1 l1
  obtain ⟨z2, k2, k2'⟩ := back h2 l2
  exact hm.inj b1 b2 z1 z2 p1 p2 g' k1 k2 k1' k2' q1 q2 e1 e2
 ·intro b0 y0 p0 g0 h0 l0 q0 e0 ad had
  rw [List.getElem?_set] at h0
  by_cases hb : b = b0
  ·subst hb; exact hm.ap b _ p0 g0 hMb rfl q0 e0 ad had
  ·rw [if_neg hb] at h0; exact hm.ap b0 y0 p0 g0 h0 l0 q0 e0 ad had
 ·intro ad v hI
  refine (cell_same (setRow_other w g ad.block cs' (fun e => ?_))).trans (hm.imm ad v hI)
  have := hm.ap b _ p g hMb rfl hp hg ad e
  rw [this] at hI
  cases hI
 ·obtain ⟨b0, y0, p0, h0, l0, q0, e0⟩ := hg'
  rw [List.getElem?_set] at h0
  by_cases hb : b = b0
  ·subst hb; exact .inl ⟨b, _, p0, hMb, rfl, q0, e0⟩
  ·rw [if_neg hb] at h0; exact .inl ⟨b0, y0, p0, h0, l0, q0, e0⟩
theorem setRow_self {w : World} {g : Nat} {cs : Array Value} {t : TypeId} {fr : Nat × Nat} (h : w.heap[g]? = some (.cells cs t fr)) : w.setRow g cs = w := by
 have e : (w.setRow g cs).heap = w.heap := by
  apply Array.ext_getElem?
  intro k
  by_cases hk : k = g
  ·subst hk
   rw [setRow_heap w k cs cs t fr h, h]
  ·exact setRow_other w g k cs hk
 show ({ w with heap := (w.setRow g cs).heap } : World) = w
 rw [e]
theorem evo_born_cell {I : Im} {σ : List Plc} {M : List Blk} {w : World} (hm : Mem I σ M w) {b tb sz' ver' i j : Nat} {l : List (List AV)} {row : List AV} {fb : Bool} (hMb : M[b]? = some (.rows tb sz' ver' l fb)) (hrow : l[i]? = some row) (hj : row[j]? = some (.c (.v (.slice none 0 0)))) (t sz : Nat) :
  Evo I σ M w I (σ ++ [⟨none, 0, 0, sz⟩]) (M.set b (.rows tb sz' ver' (l.set i (fillL row j [.arr sz M.length 0 0 0])) fb) ++ [.rows t sz 0 [] true]) w := by
 have hl : σ.length = M.length := hm.len
 have h0 : Evo I σ M w I (σ ++ [⟨none, 0, 0, sz⟩]) (M ++ [.rows t sz 0 [] true]) w := ⟨ExtI.refl _, ExtP.append σ [⟨none, 0, 0, sz⟩], hm.born t sz, Keep.refl _ _, fun g hg => .inl (Has.born hl hg), fun _ _ h => .inl h⟩
 refine h0.trans ?_
 have hbl : b < M.length := getElem?_lt hMb
 have hMb' : (M ++ [Blk.rows t sz 0 [] true])[b]? = some (.rows tb sz' ver' l fb) := by rw [List.getElem?_append_left hbl]; exact hMb
 obtain ⟨p, hp, m1, m2, m3, m4, m5, m6⟩ := mem_rows h0.mem hMb'
 have hi : i < l.length := getElem?_lt hrow
 have hjs : j < sz' := by rw [← m5 i row hrow]; exact getElem?_lt hj
 obtain ⟨g, hg⟩ : ∃ g, p.blk = some g := by
  cases e : p.blk with
  | none => rw [e] at m6; simp only at m6; omega
  | some g => exact ⟨g, rfl⟩
 rw [hg] at m6
 obtain ⟨cs, hh, hs, m7, hcs⟩ := m6
 obtain ⟨x, hx, hxr⟩ := hcs i row hrow j _ hj
 obtain ⟨rfl, _⟩ := hxr
 have := evo_set1 h0.mem hMb' hrow hjs hp hg (x := .arr sz M.length 0 0 0) (v := .slice none 0 0) (rel_born hl)
 rw [setCell_eq_setRow _ _ _ _ _ _ _ hh, show cs.setIfInBounds (i * sz' + j) (.slice none 0 0) = cs from ?_, setRow_self hh, List.set_append_left _ _ hbl] at this
 ·exact this
 ·apply Array.ext_getElem?
  intro k
  rw [Array.getElem?_setIfInBounds]
  split
  ·rename_i e
   subst e
   rw [if_pos (Array.getElem?_eq_some_iff.1 hx).1, hx]
  ·rfl
theorem evo_kill {I : Im} {σ : List Plc} {M : List Blk} {w w' : World} (hm : Mem I σ M w) {c t sz ver : Nat} {l : List (List AV)} {f : Bool} (hMc : M[c]? = some (.rows t sz ver l f)) {p : Plc} {g : Nat} (hp : σ[c]? = some p) (hg : p.blk = some g)
  (h1 : w'.os = w.os) (h2 : w'.tape = w.tape) (h3 : w'.output = w.output) (h4 : w'.heap.size = w.heap.size) (h5 : ∀ k, k ≠ g → w'.heap[k]? = w.heap[k]?) : Evo I σ M w I σ (M.set c .dead) w' := by
 have back : ∀ {b0 : Nat} {y0 : Blk}, (M.set c .dead)[b0]? = some y0 → y0.live = true → b0 ≠ c ∧ M[b0]? = some y0 := by
  intro b0 y0 h0 l0
  rw [List.getElem?_set] at h0
  by_cases hb : c = b0
  ·subst hb
   rw [if_pos rfl, if_pos (getElem?_lt hMc)] at h0
   injection h0 with h0
   subst h0
   cases l0
  ·rw [if_neg hb] at h0; exact ⟨fun e => hb e.symm, h0⟩
 refine ⟨ExtI.refl _, ExtP.refl _, ⟨by simp [hm.len], fun b x q hx hq => ?_, fun b b' x x' q q' g' k1 k2 l1 l2 => ?_, fun b x q g' k1 l1 => ?_, fun ad x hI => ?_⟩, ⟨h1, h2, h3, Nat.le_of_eq h4.symm, fun k hk hs => h5 k (fun e => hs (e ▸ ⟨c, _, p, hMc, rfl, hp, hg⟩))⟩, ?_, fun ad x h => .inl h⟩
 ·by_cases hl : x.live = true
  ·obtain ⟨hne, hx'⟩ := back hx hl
   refine RelB_mono (ExtI.refl _) (ExtP.refl _) (fun g' _ hg' => h5 g' (fun e => ?_)) (hm.blk b x q hx' hq)
   subst e
   exact hne (hm.inj b c x _ q p g' hx' hMc hl rfl hq hp hg' hg)
  ·cases x with
   | dead => trivial
   | _ => exact absurd rfl hl
 ·exact hm.inj b b' x x' q q' g' (back k1 l1).2 (back k2 l2).2 l1 l2
 ·exact hm.ap b x q g' (back k1 l1).2 l1
 ·refine (cell_same (h5 ad.block (fun e => ?_))).trans (hm.imm ad x hI)
  have := hm.ap c _ p g hMc rfl hp hg ad e
  rw [this] at hI
  cases hI
 ·rintro g' ⟨b0, y0, p0, k1, l0, q0, e0⟩
  exact .inl ⟨b0, y0, p0, (back k1 l0).2, l0, q0, e0⟩
theorem callR_ghost {P : Program} {M M1 M' : List Blk} {f : Nat} {ps : List Pt} {r : SV} (hg : ∀ (I : Im) (σ : List Plc) (w : World), Mem I σ M w → ∃ I' σ', Evo I σ M w I' σ' M1 w) (h : CallR P M1 f ps r M') : CallR P M f ps r M' := by
 intro I σ w vals hG hm hvl hvr
 obtain ⟨I1, σ1, hev⟩ := hg I σ w hm
 refine (h I1 σ1 w vals (hG.ext hev.extI) hev.mem hvl (fun k q x hq hx => RelP_mono hev.extI hev.extP (hvr k q x hq hx))).mono ?_
 rintro v w' ⟨I', σ', hr, hev'⟩
 exact ⟨I', σ', hr, hev.trans hev'⟩
theorem gh_born_cell {n m : Nat} {e : Nat → SV} {M : List Blk} {b tb sz' ver' i j : Nat} {l : List (List AV)} {row : List AV} {fb : Bool} (hMb : M[b]? = some (.rows tb sz' ver' l fb)) (hrow : l[i]? = some row) (hj : row[j]? = some (.c (.v (.slice none 0 0)))) (t sz : Nat) :
  Gh n m ⟨e, M⟩ ⟨e, M.set b (.rows tb sz' ver' (l.set i (fillL row j [.arr sz M.length 0 0 0])) fb) ++ [.rows t sz 0 [] true]⟩ := by
 rintro I0 σ0 M0 w0 a w hm ⟨I, σ, hev, he, h1, h2⟩
 have h := evo_born_cell hev.mem hMb hrow hj t sz
 exact ⟨I, _, hev.trans h, fun k => RelS_mono h.extI h.extP (he k), h1, h2⟩
theorem fin_sub {n m : Nat} {rvs : List RV} {r : SV} {M' : List Blk} {s s1 : St} {ex : Exit} (hex : ex = .normal ∨ ex = .ret) (h : Gh n m s s1) (D : List Blk) {qs : List Pt} {cnd : Prop} (h1 : resL s1.env s1.M rvs = some (qs, cnd)) (h2 : cnd) (h3 : s1.M = M' ++ D) (h4 : SubS (mkRes qs) r) (h5 : m ≤ M'.length) (h6 : ltS M'.length r) (h7 : ∀ x ∈ M', ltB M'.length x) : FinK n m rvs r M' ex s := by
 rcases hex with rfl | rfl <;> exact ⟨s1, D, qs, cnd, h, h1, h2, h3, h4, h5, h6, h7⟩
def SubP (q q' : Pt) : Prop := ∀ I σ y, RelP I σ q y → RelP I σ q' y
def SubA (q q' : AV) : Prop := ∀ I σ y, RelA I σ q y → RelA I σ q' y
theorem SubP.refl (q : Pt) : SubP q q := fun _ _ _ h => h
theorem SubA.refl (q : AV) : SubA q q := fun _ _ _ h => h
theorem subP_one {a a' : AV} (h : SubA a a') : SubP (.one a) (.one a') := fun I σ y hr => h I σ y hr
theorem subP_agg2 {a a' b b' : AV} (h : SubA a a') (h' : SubA b b') : SubP (.agg [a, b]) (.agg [a', b']) := by
 rintro I σ y ⟨cs, rfl, hl, hr⟩
 refine ⟨cs, rfl, hl, fun k u x hu hx => ?_⟩
 match k, hu with
 | 0, hu => cases hu; exact h I σ x (hr 0 a x rfl hx)
 | 1, hu => cases hu; exact h' I σ x (hr 1 b x rfl hx)
theorem subS_p {q q' : Pt} (h : SubP q q') : SubS (.p q) (.p q') := fun I σ y hr => h I σ y hr
theorem subS_tup2 {a a' b b' : Pt} (h : SubP a a') (h' : SubP b b') : SubS (.tup [a, b]) (.tup [a', b']) := by
 rintro I σ y ⟨vs, rfl, hl, hr⟩
 refine ⟨vs, rfl, hl, fun k u x hu hx => ?_⟩
 match k, hu with
 | 0, hu => cases hu; exact h I σ x (hr 0 a x rfl hx)
 | 1, hu => cases hu; exact h' I σ x (hr 1 b x rfl hx)
theorem subA_nil (sz : Nat) (c : Nat → Nat → CV) : SubA (.c (.v (.slice none 0 0))) (.c (.imm sz 0 c)) := by
 rintro I σ y ⟨rfl, _⟩
 exact ⟨none, 0, rfl, Nat.le_refl _, .inl rfl⟩
theorem subA_imm {sz n : Nat} {c c' : Nat → Nat → CV} (h : ∀ i, i < n → ∀ j, j < sz → c i j = c' i j) : SubA (.c (.imm sz n c)) (.c (.imm sz n c')) := by
 rintro I σ y ⟨A, cap, rfl, h1, h2⟩
 refine ⟨A, cap, rfl, h1, h2.imp id ?_⟩
 rintro ⟨ad, ha, hc⟩
 refine ⟨ad, ha, fun i hi j hj => ?_⟩
 obtain ⟨x, hx, hr⟩ := hc i hi j hj
 exact ⟨x, hx, by rw [← h i hi j hj]; exact hr⟩
def SubL : List Pt → List Pt → Prop
 | [], [] => True
 | q :: l, q' :: l' => SubP q q' ∧ SubL l l'
 | _, _ => False
theorem SubL.length : ∀ {l l' : List Pt}, SubL l l' → l.length = l'.length
 | [], [], _ => rfl
 | _ :: _, _ :: _, h => by simp [SubL.length h.2]
theorem SubL.get : ∀ {l l' : List Pt}, SubL l l' → ∀ (k : Nat) (q q' : Pt), l[k]? = some q → l'[k]? = some q' → SubP q q'
 | q :: l, q' :: l', h, 0, p, p', hp, hp' => by cases hp; cases hp'; exact h.1
 | q :: l, q' :: l', h, k + 1, p, p', hp, hp' => SubL.get h.2 k p p' hp hp'
theorem CallR.sub {P : Program} {M M' : List Blk} {f : Nat} {ps ps' : List Pt} {r : SV} (h : CallR P M f ps' r M') (hl : SubL ps ps') : CallR P M f ps r M' := by
 intro I σ w vals hG hm hvl hvr
 refine h I σ w vals hG hm (hvl.trans hl.length) (fun k q' x hq' hx => ?_)
 have hk : k < ps.length := by rw [hl.length]; exact getElem?_lt hq'
 exact hl.get k _ q' (List.getElem?_eq_getElem hk) hq' I σ x (hvr k _ x (List.getElem?_eq_getElem hk) hx)
section
variable {P : Program} {n : Nat}
theorem callPS {f : Nat} {c : C} {rvs : List RV} {ps : List Pt} {r : SV} (hF : Fun P f n c rvs) (hl : ps.length ≤ n) (hps : ∀ q ∈ ps, ltP 0 q) (hr : ltS 0 r) (h : Run P n 0 c ⟨envOf 0 ps, []⟩ (FinP rvs (SubS · r))) (M : List Blk) : CallR P M f ps r M := by
 refine callR_pure (callR_intro (M' := []) hF hl (run_mono (fun ex s hs => ?_) h)) hps M
 have key : (match resL s.env s.M rvs with
  | some (qs, c) => c ∧ SubS (mkRes qs) r
  | none => False) → Fin n 0 rvs r [] s := by
  intro h
  cases hq : resL s.env s.M rvs with
  | none => rw [hq] at h; exact h.elim
  | some x =>
   obtain ⟨qs, c⟩ := x
   rw [hq] at h
   exact ⟨s, s.M, qs, c, Gh.refl s, hq, h.1, rfl, h.2, Nat.le_refl _, hr, fun x hx => by simp at hx⟩
 cases ex with
 | normal => exact key hs
 | ret => exact key hs
 | _ => exact hs.elim
end
theorem R_loop {P : Program} {n m : Nat} {e : Nat → SV} {M : List Blk} {K : Exit → St → Prop} {ι : Type} (J : ι → Prop) (env : ι → List (Nat × SV)) (mem : ι → List Blk) (μ : ι → Nat) {c : C} (i0 : ι) (h0 : J i0) (hs : Into m ⟨e, M⟩ (env i0) (mem i0))
  (h : ∀ i, J i → Run P n m c ⟨envL (env i), mem i⟩ (andThen (fun s' => ∃ j, J j ∧ μ j < μ i ∧ Into m s' (env j) (mem j)) K)) : Run P n m (.loop c) ⟨e, M⟩ K := by
 refine run_loop (ι := { i // J i }) (fun i => ⟨envL (env i.1), mem i.1⟩) (fun i => μ i.1) ⟨i0, h0⟩ hs.gh (fun i => run_mono (fun ex s' hx => ?_) (h i.1 i.2))
 cases ex with
 | normal =>
  obtain ⟨j, h1, h2, h3⟩ := hx
  exact ⟨⟨j, h1⟩, h3.gh, h2⟩
 | _ => exact hx
end Go.Proofs.YtpdcpdngckpgbaaGreatAbs
end
section
namespace Go.Proofs.YtpdcpdngckpgbaaGreatAbs
open Go Go.RowKit
theorem gh_sub_cell {n m : Nat} {e : Nat → SV} {M : List Blk} {b tb sz' ver' i j : Nat} {l : List (List AV)} {row : List AV} {fb : Bool} (x x' : AV) (hMb : M[b]? = some (.rows tb sz' ver' l fb)) (hrow : l[i]? = some row) (hj : row[j]? = some x) (hs : SubA x x') :
  Gh n m ⟨e, M⟩ ⟨e, M.set b (.rows tb sz' ver' (l.set i (fillL row j [x'])) fb)⟩ := by
 rintro I0 σ0 M0 w0 a w hm ⟨I, σ, hev, he, h1, h2⟩
 obtain ⟨p, hp, m1, m2, m3, m4, m5, m6⟩ := mem_rows hev.mem hMb
 have hi : i < l.length := getElem?_lt hrow
 have hjs : j < sz' := by rw [← m5 i row hrow]; exact getElem?_lt hj
 obtain ⟨g, hg⟩ : ∃ g, p.blk = some g := by
  cases e : p.blk with
  | none => rw [e] at m6; simp only at m6; omega
  | some g => exact ⟨g, rfl⟩
 rw [hg] at m6
 obtain ⟨cs, hh, hs', m7, hcs⟩ := m6
 obtain ⟨v, hv, hvr⟩ := hcs i row hrow j _ hj
 have := evo_set1 hev.mem hMb hrow hjs hp hg (hs I σ v hvr)
 rw [setCell_eq_setRow _ _ _ _ _ _ _ hh, show cs.setIfInBounds (i * sz' + j) v = cs from ?_, setRow_self hh] at this
 ·exact ⟨I, σ, hev.trans this, he, h1, h2⟩
 ·apply Array.ext_getElem?
  intro k
  rw [Array.getElem?_setIfInBounds]
  split
  ·rename_i e
   subst e
   rw [if_pos (Array.getElem?_eq_some_iff.1 hv).1, hv]
  ·rfl
end Go.Proofs.YtpdcpdngckpgbaaGreatAbs
end
section
set_option maxRecDepth 100000
namespace Go.Proofs.YtpdcpdngckpgbaaGreat.A
open Go Go.Proofs.YtpdcpdngckpgbaaGreatAbs

def c_label_Parse : C :=
 (.seq (.reg false [oo 2 (.alloc 100 2 [.string ⟨#[]⟩, .slice none 0 0]), oo 3 (.mv (ki 0))])
 (.seq (.reg false [om 15 0, oo 16 (.call (kf 133) [(.t 15), (.k (.one (.c (.v (.string ⟨#[123]⟩)))))]), om 14 16, oo 17 (.ex (.t 14) 0), oo 18 (.ex (.t 14) 1), oo 19 (.ex (.t 14) 2), om 4 17, om 5 18, om 6 19])
 (.seq (.reg false [om 20 4, oo 21 (.bld [.string ⟨#[]⟩, .slice none 0 0] [(0, 1, (.t 20))]), oo 7 (.alloc 100 2 [.string ⟨#[]⟩, .slice none 0 0]), on_ (.st 2 (.t 7) (.t 21))])
 (.seq (.seq (.reg false [om 22 6, om 8 22])
 (.block 0 (.loop (.seq (.seq (.reg false [om 23 8])
 (.cond (.t 23)
 .skip
 (.exit 0)))
 (.block 1 (.seq (.reg false [om 25 5, oo 26 (.call (kf 133) [(.t 25), (.k (.one (.c (.v (.string ⟨#[61, 34]⟩)))))]), om 24 26, oo 27 (.ex (.t 24) 0), oo 28 (.ex (.t 24) 1), oo 29 (.ex (.t 24) 2), om 9 27, om 10 28, om 11 29])
 (.seq (.reg false [om 31 10, oo 32 (.call (kf 134) [(.t 31)]), om 30 32, oo 33 (.ex (.t 30) 0), oo 34 (.ex (.t 30) 1), oo 35 (.ex (.t 30) 2), om 12 33, om 10 34, om 13 35])
 (.seq (.seq (.reg false [om 36 11, oo 37 (.un .not (.t 36)), om 38 37, og 39 38 false (.mv (.t 13)), og 40 38 false (.un .not (.t 39)), oo 41 (.pick (.t 38) (kb true) (.t 40)), om 42 41, og 43 42 false (.mv (.t 10)), og 44 42 false (.bin .eql (.t 43) (.k (.one (.c (.v (.string ⟨#[]⟩)))))), oo 45 (.pick (.t 42) (kb true) (.t 44)), om 46 45, og 47 46 false (.fa 1 (.t 7)), og 48 46 false (.ld false 1 (.t 47)), og 49 46 false (.len (.t 48)), og 50 46 false (.bin .eql (.t 49) (ki 4)), oo 51 (.pick (.t 46) (kb true) (.t 50))])
 (.cond (.t 51)
 (.seq (.reg false [oo 52 (.bld [.string ⟨#[]⟩, .slice none 0 0] []), on_ (.st 2 (.t 2) (.t 52)), oo 3 (.mv (ki 2))])
 .ret)
 .skip))
 (.seq (.reg false [oo 53 (.fa 1 (.t 7)), oo 54 (.ld false 1 (.t 53)), om 55 9, om 56 12, oo 57 (.bld [.string ⟨#[]⟩, .string ⟨#[]⟩] [(0, 1, (.t 55)), (1, 1, (.t 56))]), oo 58 (.bsl 115 2 1 [.string ⟨#[]⟩, .string ⟨#[]⟩] [(0, (.t 57))]), oo 59 (.app 115 2 32 [.string ⟨#[]⟩, .string ⟨#[]⟩] (.t 54) (.t 58)), oo 60 (.fa 1 (.t 7)), on_ (.st 1 (.t 60) (.t 59))])
 (.seq (.seq (.reg false [om 61 10, oo 62 (.ix (.t 61) (ki 0)), oo 63 (.bin .eql (.t 62) (.k (.one (.c (.v (.int .u8 44)))))), om 8 63])
 (.seq (.reg false [om 64 8, oo 65 (.un .not (.t 64)), om 66 65, og 67 66 true (.mv (.t 10)), og 68 66 true (.bin .neq (.t 67) (.k (.one (.c (.v (.string ⟨#[125]⟩)))))), oo 69 (.pick (.t 66) (.t 68) (kb false))])
 (.cond (.t 69)
 (.seq (.reg false [oo 70 (.bld [.string ⟨#[]⟩, .slice none 0 0] []), on_ (.st 2 (.t 2) (.t 70)), oo 3 (.mv (ki 2))])
 .ret)
 .skip)))
 (.reg false [om 71 10, oo 72 (.sls (.t 71) (some (ki 1)) none), om 5 72])))))))))))
 (.seq (.reg false [oo 73 (.fa 1 (.t 7)), oo 74 (.ld false 1 (.t 73)), oo 75 (.call (kf 135) [(.t 74), (kf 136)])])
 (.seq (.seq (.reg false [oo 76 (.ld true 2 (.t 7)), oo 77 (.call (kf 137) [(.t 76)]), oo 78 (.bin .neq (.t 77) (ki 0))])
 (.cond (.t 78)
 (.seq (.reg false [oo 79 (.bld [.string ⟨#[]⟩, .slice none 0 0] []), on_ (.st 2 (.t 2) (.t 79)), oo 3 (.mv (ki 2))])
 .ret)
 .skip))
 (.seq (.reg false [oo 80 (.ld true 2 (.t 7)), on_ (.st 2 (.t 2) (.t 80)), oo 3 (.mv (ki 0))])
 .ret)))))))
abbrev n_label_Parse : Nat := 90
theorem F_label_Parse : Fun Tryz.prog n_label_Parse 81 c_label_Parse [.l true 2 2, .t 3] := ⟨⟨Tryz.f90, _, Tryz.func90, by kernel_rfl, rfl, rfl, by kernel_rfl, by kernel_rfl⟩⟩
def c_label_Print : C :=
 (.seq (.reg false [oo 1 (.box 100 2 (.t 0)), oo 2 (.mv (.k (.one (.c (.v (.string ⟨#[]⟩)))))), oo 3 (.mv (ki 0))])
 (.seq (.seq (.reg false [oo 10 (.ld true 2 (.t 1)), oo 11 (.call (kf 137) [(.t 10)]), om 4 11])
 (.seq (.reg false [om 12 4, oo 13 (.bin .neq (.t 12) (ki 0))])
 (.cond (.t 13)
 (.seq (.reg false [om 14 4, oo 2 (.mv (.k (.one (.c (.v (.string ⟨#[]⟩)))))), om 3 14])
 .ret)
 .skip)))
 (.seq (.seq (.reg false [oo 15 (.fa 1 (.t 1)), oo 16 (.ld false 1 (.t 15)), oo 17 (.len (.t 16)), oo 18 (.bin .eql (.t 17) (ki 0))])
 (.cond (.t 18)
 (.seq (.reg false [oo 19 (.fa 0 (.t 1)), oo 20 (.ld false 1 (.t 19)), om 2 20, oo 3 (.mv (ki 0))])
 .ret)
 .skip))
 (.seq (.reg false [oo 5 (.alloc 190 2 [.pointer none, .slice none 0 0])])
 (.seq (.reg false [oo 21 (.fa 0 (.t 1)), oo 22 (.ld false 1 (.t 21)), oo 23 (.call (kf 138) [(.t 5), (.t 22)])])
 (.seq (.seq (.reg false [oo 24 (.fa 1 (.t 1)), oo 25 (.ld false 1 (.t 24)), oo 26 (.len (.t 25)), oo 27 (.mv (ki 0))])
 (.block 0 (.loop (.seq (.reg false [oo 28 (.bin .lss (.t 27) (.t 26))])
 (.seq (.cond (.t 28)
 .skip
 (.exit 0))
 (.seq (.block 1 (.seq (.reg false [om 29 27, oo 30 (.ia 2 (.t 25) (.t 27)), oo 31 (.ld true 2 (.t 30)), oo 7 (.alloc 115 2 [.string ⟨#[]⟩, .string ⟨#[]⟩]), om 6 29, on_ (.st 2 (.t 7) (.t 31))])
 (.seq (.reg false [om 32 6, oo 33 (.mn (.t 32) (ki 1)), oo 34 (.ix (.k (.one (.c (.v (.string ⟨#[123, 44]⟩))))) (.t 33)), oo 35 (.call (kf 139) [(.t 5), (.t 34)])])
 (.seq (.reg false [oo 36 (.fa 0 (.t 7)), oo 37 (.ld false 1 (.t 36)), oo 38 (.bin .add (.t 37) (.k (.one (.c (.v (.string ⟨#[61, 34]⟩)))))), oo 39 (.call (kf 138) [(.t 5), (.t 38)])])
 (.seq (.seq (.reg false [oo 40 (.fa 1 (.t 7)), oo 41 (.ld false 1 (.t 40)), oo 42 (.rng (.t 41))])
 (.block 2 (.loop (.seq (.reg false [oo 43 (.nxt (.t 42)), oo 44 (.ex (.t 43) 0)])
 (.seq (.cond (.t 44)
 .skip
 (.exit 2))
 (.block 3 (.seq (.reg false [oo 45 (.ex (.t 43) 2), om 9 45])
 (.seq (.seq (.reg false [om 46 9, oo 47 (.bin .eql (.t 46) (.k (.one (.c (.v (.int .i32 34)))))), om 48 47, og 49 48 false (.mv (.t 9)), og 50 48 false (.bin .eql (.t 49) (.k (.one (.c (.v (.int .i32 92)))))), oo 51 (.pick (.t 48) (kb true) (.t 50))])
 (.cond (.t 51)
 (.reg false [oo 52 (.call (kf 139) [(.t 5), (.k (.one (.c (.v (.int .u8 92)))))])])
 .skip))
 (.reg false [om 53 9, oo 54 (.call (kf 140) [(.t 5), (.t 53)])])))))))))
 (.reg false [oo 55 (.call (kf 139) [(.t 5), (.k (.one (.c (.v (.int .u8 34)))))])]))))))
 (.reg false [oo 56 (.bin .add (.t 27) (ki 1)), om 27 56])))))))
 (.seq (.reg false [oo 57 (.call (kf 139) [(.t 5), (.k (.one (.c (.v (.int .u8 125)))))])])
 (.seq (.reg false [oo 58 (.call (kf 141) [(.t 5)]), om 2 58, oo 3 (.mv (ki 0))])
 .ret))))))))
abbrev n_label_Print : Nat := 91
theorem F_label_Print : Fun Tryz.prog n_label_Print 59 c_label_Print [.t 2, .t 3] := ⟨⟨Tryz.f91, _, Tryz.func91, by kernel_rfl, rfl, rfl, by kernel_rfl, by kernel_rfl⟩⟩
def c_label_Check : C :=
 (.seq (.reg false [oo 1 (.box 100 2 (.t 0)), oo 2 (.mv (ki 0))])
 (.seq (.seq (.reg false [oo 5 (.fa 0 (.t 1)), oo 6 (.ld false 1 (.t 5)), oo 7 (.call (kf 178) [(.t 6)]), oo 8 (.un .not (.t 7)), om 9 8, og 10 9 false (.fa 1 (.t 1)), og 11 9 false (.ld false 1 (.t 10)), og 12 9 false (.len (.t 11)), og 13 9 false (.bin .gtr (.t 12) (ki 4)), oo 14 (.pick (.t 9) (kb true) (.t 13))])
 (.cond (.t 14)
 (.seq (.reg false [oo 2 (.mv (ki 1))])
 .ret)
 .skip))
 (.seq (.seq (.reg false [oo 15 (.fa 1 (.t 1)), oo 16 (.ld false 1 (.t 15)), oo 17 (.len (.t 16)), oo 18 (.mv (ki 0))])
 (.block 0 (.loop (.seq (.reg false [oo 19 (.bin .lss (.t 18) (.t 17))])
 (.seq (.cond (.t 19)
 .skip
 (.exit 0))
 (.seq (.block 1 (.seq (.reg false [om 20 18, oo 21 (.ia 2 (.t 16) (.t 18)), oo 22 (.ld true 2 (.t 21)), oo 4 (.alloc 115 2 [.string ⟨#[]⟩, .string ⟨#[]⟩]), om 3 20, on_ (.st 2 (.t 4) (.t 22))])
 (.seq (.reg true [oo 23 (.fa 0 (.t 4)), oo 24 (.ld false 1 (.t 23)), oo 25 (.call (kf 178) [(.t 24)]), oo 26 (.un .not (.t 25)), om 27 26, og 28 27 false (.fa 1 (.t 4)), og 29 27 false (.ld false 1 (.t 28)), og 30 27 false (.call (kf 179) [(.t 29)]), og 31 27 false (.un .not (.t 30)), oo 32 (.pick (.t 27) (kb true) (.t 31)), om 33 32, og 34 33 false (.mv (.t 3)), og 35 33 false (.bin .gtr (.t 34) (ki 0)), og 36 33 false (.mv (.t 35)), og 37 36 true (.fa 0 (.t 4)), og 38 36 true (.ld false 1 (.t 37)), og 39 36 true (.fa 1 (.t 1)), og 40 36 true (.ld false 1 (.t 39)), og 41 36 true (.mv (.t 3)), og 42 36 true (.bin .sub (.t 41) (ki 1)), og 43 36 true (.ia 2 (.t 40) (.t 42)), og 44 36 true (.fa 0 (.t 43)), og 45 36 true (.ld false 1 (.t 44)), og 46 36 true (.bin .leq (.t 38) (.t 45)), og 47 33 false (.pick (.t 36) (.t 46) (kb false)), oo 48 (.pick (.t 33) (kb true) (.t 47))])
 (.cond (.t 48)
 (.seq (.reg false [oo 2 (.mv (ki 1))])
 .ret)
 .skip))))
 (.reg false [oo 49 (.bin .add (.t 18) (ki 1)), om 18 49])))))))
 (.seq (.reg false [oo 2 (.mv (ki 0))])
 .ret))))
abbrev n_label_Check : Nat := 137
theorem F_label_Check : Fun Tryz.prog n_label_Check 50 c_label_Check [.t 2] := ⟨⟨Tryz.f137, _, Tryz.func137, by kernel_rfl, rfl, rfl, by kernel_rfl, by kernel_rfl⟩⟩
def c_windroseref03_Parse : C :=
 (.seq (.reg false [oo 2 (.alloc 100 2 [.string ⟨#[]⟩, .slice none 0 0]), oo 3 (.mv (kb false))])
 (.seq (.reg false [om 10 0, oo 11 (.call (kf 148) [(.t 10), (ki 0), (.k (.one (.c (.v (.int .u8 123)))))]), om 4 11])
 (.seq (.reg false [om 12 0, om 13 4, oo 14 (.sls (.t 12) none (some (.t 13))), oo 15 (.bld [.string ⟨#[]⟩, .slice none 0 0] [(0, 1, (.t 14))]), oo 5 (.alloc 100 2 [.string ⟨#[]⟩, .slice none 0 0]), on_ (.st 2 (.t 5) (.t 15))])
 (.seq (.block 0 (.loop (.seq (.seq (.reg false [om 16 4, om 17 0, oo 18 (.lens (.t 17)), oo 19 (.bin .lss (.t 16) (.t 18))])
 (.cond (.t 19)
 .skip
 (.exit 0)))
 (.block 1 (.seq (.reg false [om 20 4, oo 21 (.bin .add (.t 20) (ki 1)), om 6 21])
 (.seq (.reg false [om 22 0, om 23 6, oo 24 (.call (kf 148) [(.t 22), (.t 23), (.k (.one (.c (.v (.int .u8 61)))))]), om 7 24])
 (.seq (.seq (.reg false [om 25 7, oo 26 (.bin .add (.t 25) (ki 1)), om 27 0, oo 28 (.lens (.t 27)), oo 29 (.bin .geq (.t 26) (.t 28)), om 30 29, og 31 30 false (.mv (.t 0)), og 32 30 false (.mv (.t 7)), og 33 30 false (.bin .add (.t 32) (ki 1)), og 34 30 false (.ix (.t 31) (.t 33)), og 35 30 false (.bin .neq (.t 34) (.k (.one (.c (.v (.int .u8 34)))))), oo 36 (.pick (.t 30) (kb true) (.t 35)), om 37 36, og 38 37 false (.fa 1 (.t 5)), og 39 37 false (.ld false 1 (.t 38)), og 40 37 false (.len (.t 39)), og 41 37 false (.bin .eql (.t 40) (ki 4)), oo 42 (.pick (.t 37) (kb true) (.t 41))])
 (.cond (.t 42)
 (.seq (.reg false [oo 43 (.bld [.string ⟨#[]⟩, .slice none 0 0] []), on_ (.st 2 (.t 2) (.t 43)), oo 3 (.mv (kb false))])
 .ret)
 .skip))
 (.seq (.reg false [om 44 0, om 45 6, om 46 7, oo 47 (.sls (.t 44) (some (.t 45)) (some (.t 46))), oo 48 (.bld [.string ⟨#[]⟩, .string ⟨#[]⟩] [(0, 1, (.t 47))]), oo 8 (.alloc 115 2 [.string ⟨#[]⟩, .string ⟨#[]⟩]), on_ (.st 2 (.t 8) (.t 48))])
 (.seq (.reg false [om 49 7, oo 50 (.bin .add (.t 49) (ki 2)), om 4 50])
 (.seq (.block 2 (.loop (.seq (.seq (.reg false [om 51 4, om 52 0, oo 53 (.lens (.t 52)), oo 54 (.bin .lss (.t 51) (.t 53)), om 55 54, og 56 55 true (.mv (.t 0)), og 57 55 true (.mv (.t 4)), og 58 55 true (.ix (.t 56) (.t 57)), og 59 55 true (.bin .neq (.t 58) (.k (.one (.c (.v (.int .u8 34)))))), oo 60 (.pick (.t 55) (.t 59) (kb false))])
 (.cond (.t 60)
 .skip
 (.exit 2)))
 (.block 3 (.seq (.seq (.reg false [om 61 0, om 62 4, oo 63 (.ix (.t 61) (.t 62)), oo 64 (.bin .eql (.t 63) (.k (.one (.c (.v (.int .u8 92))))))])
 (.cond (.t 64)
 (.seq (.reg false [om 65 4, oo 66 (.bin .add (.t 65) (ki 1)), om 4 66])
 (.seq (.reg false [om 67 4, om 68 0, oo 69 (.lens (.t 68)), oo 70 (.bin .eql (.t 67) (.t 69)), om 71 70, og 72 71 false (.mv (.t 0)), og 73 71 false (.mv (.t 4)), og 74 71 false (.ix (.t 72) (.t 73)), og 75 71 false (.bin .neq (.t 74) (.k (.one (.c (.v (.int .u8 34)))))), og 76 71 false (.mv (.t 75)), og 77 76 true (.mv (.t 0)), og 78 76 true (.mv (.t 4)), og 79 76 true (.ix (.t 77) (.t 78)), og 80 76 true (.bin .neq (.t 79) (.k (.one (.c (.v (.int .u8 92)))))), og 81 71 false (.pick (.t 76) (.t 80) (kb false)), oo 82 (.pick (.t 71) (kb true) (.t 81))])
 (.cond (.t 82)
 (.seq (.reg false [oo 83 (.bld [.string ⟨#[]⟩, .slice none 0 0] []), on_ (.st 2 (.t 2) (.t 83)), oo 3 (.mv (kb false))])
 .ret)
 .skip)))
 .skip))
 (.seq (.reg true [oo 84 (.fa 1 (.t 8)), oo 85 (.ld false 1 (.t 84)), om 86 0, om 87 4, om 88 4, oo 89 (.bin .add (.t 88) (ki 1)), oo 90 (.sls (.t 86) (some (.t 87)) (some (.t 89))), oo 91 (.bin .add (.t 85) (.t 90)), oo 92 (.fa 1 (.t 8)), on_ (.st 1 (.t 92) (.t 91))])
 (.reg false [om 93 4, oo 94 (.bin .add (.t 93) (ki 1)), om 4 94])))))))
 (.seq (.reg false [om 95 4, oo 96 (.bin .add (.t 95) (ki 1)), om 4 96])
 (.seq (.seq (.reg false [om 97 4, om 98 0, oo 99 (.lens (.t 98)), oo 100 (.bin .geq (.t 97) (.t 99)), om 101 100, og 102 101 false (.mv (.t 0)), og 103 101 false (.mv (.t 4)), og 104 101 false (.ix (.t 102) (.t 103)), og 105 101 false (.bin .neq (.t 104) (.k (.one (.c (.v (.int .u8 44)))))), og 106 101 false (.mv (.t 105)), og 107 106 true (.mv (.t 0)), og 108 106 true (.mv (.t 4)), og 109 106 true (.sls (.t 107) (some (.t 108)) none), og 110 106 true (.bin .neq (.t 109) (.k (.one (.c (.v (.string ⟨#[125]⟩)))))), og 111 101 false (.pick (.t 106) (.t 110) (kb false)), oo 112 (.pick (.t 101) (kb true) (.t 111))])
 (.cond (.t 112)
 (.seq (.reg false [oo 113 (.bld [.string ⟨#[]⟩, .slice none 0 0] []), on_ (.st 2 (.t 2) (.t 113)), oo 3 (.mv (kb false))])
 .ret)
 .skip))
 (.seq (.reg false [oo 9 (.mv (ki 0))])
 (.seq (.block 4 (.loop (.seq (.seq (.reg true [om 114 9, oo 115 (.fa 1 (.t 5)), oo 116 (.ld false 1 (.t 115)), oo 117 (.len (.t 116)), oo 118 (.bin .lss (.t 114) (.t 117)), om 119 118, og 120 119 true (.fa 1 (.t 5)), og 121 119 true (.ld false 1 (.t 120)), og 122 119 true (.mv (.t 9)), og 123 119 true (.ia 2 (.t 121) (.t 122)), og 124 119 true (.fa 0 (.t 123)), og 125 119 true (.ld false 1 (.t 124)), og 126 119 true (.fa 0 (.t 8)), og 127 119 true (.ld false 1 (.t 126)), og 128 119 true (.bin .lss (.t 125) (.t 127)), oo 129 (.pick (.t 119) (.t 128) (kb false))])
 (.cond (.t 129)
 .skip
 (.exit 4)))
 (.block 5 (.reg false [om 130 9, oo 131 (.bin .add (.t 130) (ki 1)), om 9 131])))))
 (.seq (.rgx [[], [], [1], [], [2, 1, 3], [0, 4, 2, 1, 3], [], [6], [5, 0, 4, 2, 1, 3, 7, 6], [], [9], [], [10, 9, 11], [8, 5, 0, 4, 2, 1, 3, 7, 6, 12, 10, 9, 11], [0, 1, 2, 3, 4, 5, 6, 7, 8, 9, 10, 11, 12, 13], [14, 0, 1, 2, 3, 4, 5, 6, 7, 8, 9, 10, 11, 12, 13]] [oo 132 (.bsl 115 2 0 [.string ⟨#[]⟩, .string ⟨#[]⟩] []), oo 133 (.fa 1 (.t 5)), oo 134 (.ld false 1 (.t 133)), om 135 9, oo 136 (.slc 2 (.t 134) none (some (.t 135))), oo 137 (.app 115 2 32 [.string ⟨#[]⟩, .string ⟨#[]⟩] (.t 132) (.t 136)), oo 138 (.ld true 2 (.t 8)), oo 139 (.bsl 115 2 1 [.string ⟨#[]⟩, .string ⟨#[]⟩] [(0, (.t 138))]), oo 140 (.app 115 2 32 [.string ⟨#[]⟩, .string ⟨#[]⟩] (.t 137) (.t 139)), oo 141 (.fa 1 (.t 5)), oo 142 (.ld false 1 (.t 141)), om 143 9, oo 144 (.slc 2 (.t 142) (some (.t 143)) none), oo 145 (.app 115 2 32 [.string ⟨#[]⟩, .string ⟨#[]⟩] (.t 140) (.t 144)), oo 146 (.fa 1 (.t 5)), on_ (.st 1 (.t 146) (.t 145))])
 (.seq (.reg false [om 147 0, om 148 4, oo 149 (.ix (.t 147) (.t 148)), oo 150 (.bin .eql (.t 149) (.k (.one (.c (.v (.int .u8 125))))))])
 (.cond (.t 150)
 (.reg false [om 151 0, oo 152 (.lens (.t 151)), om 4 152])
 .skip)))))))))))))))))
 (.seq (.seq (.reg false [oo 153 (.ld true 2 (.t 5)), oo 154 (.call (kf 149) [(.t 153)]), oo 155 (.un .not (.t 154))])
 (.cond (.t 155)
 (.seq (.reg false [oo 156 (.bld [.string ⟨#[]⟩, .slice none 0 0] []), on_ (.st 2 (.t 2) (.t 156)), oo 3 (.mv (kb false))])
 .ret)
 .skip))
 (.seq (.reg false [oo 157 (.ld true 2 (.t 5)), on_ (.st 2 (.t 2) (.t 157)), oo 3 (.mv (kb true))])
 .ret))))))
abbrev n_windroseref03_Parse : Nat := 109
theorem F_windroseref03_Parse : Fun Tryz.prog n_windroseref03_Parse 158 c_windroseref03_Parse [.l true 2 2, .t 3] := ⟨⟨Tryz.f109, _, Tryz.func109, by kernel_rfl, rfl, rfl, by kernel_rfl, by kernel_rfl⟩⟩
def c_windroseref03_Text : C :=
 (.seq (.reg false [oo 1 (.box 100 2 (.t 0)), oo 2 (.mv (.k (.one (.c (.v (.string ⟨#[]⟩))))))])
 (.seq (.reg false [oo 7 (.fa 0 (.t 1)), oo 8 (.ld false 1 (.t 7)), om 3 8])
 (.seq (.seq (.reg false [oo 4 (.mv (ki 0))])
 (.block 0 (.loop (.seq (.seq (.reg false [om 9 4, oo 10 (.fa 1 (.t 1)), oo 11 (.ld false 1 (.t 10)), oo 12 (.len (.t 11)), oo 13 (.bin .lss (.t 9) (.t 12))])
 (.cond (.t 13)
 .skip
 (.exit 0)))
 (.seq (.block 1 (.seq (.seq (.reg false [om 16 4, oo 17 (.bin .eql (.t 16) (ki 0))])
 (.cond (.t 17)
 (.reg false [om 18 3, oo 19 (.bin .add (.t 18) (.k (.one (.c (.v (.string ⟨#[123]⟩)))))), om 3 19])
 (.reg false [om 20 3, oo 21 (.bin .add (.t 20) (.k (.one (.c (.v (.string ⟨#[44]⟩)))))), om 3 21])))
 (.seq (.reg false [om 22 3, oo 23 (.fa 1 (.t 1)), oo 24 (.ld false 1 (.t 23)), om 25 4, oo 26 (.ia 2 (.t 24) (.t 25)), oo 27 (.fa 0 (.t 26)), oo 28 (.ld false 1 (.t 27)), oo 29 (.bin .add (.t 22) (.t 28)), oo 30 (.bin .add (.t 29) (.k (.one (.c (.v (.string ⟨#[61, 34]⟩)))))), om 3 30])
 (.seq (.reg false [oo 31 (.fa 1 (.t 1)), oo 32 (.ld false 1 (.t 31)), om 33 4, oo 34 (.ia 2 (.t 32) (.t 33)), oo 35 (.fa 1 (.t 34)), oo 36 (.ld false 1 (.t 35)), om 5 36])
 (.seq (.seq (.reg false [oo 6 (.mv (ki 0))])
 (.block 2 (.loop (.seq (.seq (.reg false [om 37 6, om 38 5, oo 39 (.lens (.t 38)), oo 40 (.bin .lss (.t 37) (.t 39))])
 (.cond (.t 40)
 .skip
 (.exit 2)))
 (.seq (.block 3 (.seq (.seq (.reg false [om 43 5, om 44 6, oo 45 (.ix (.t 43) (.t 44)), oo 46 (.bin .eql (.t 45) (.k (.one (.c (.v (.int .u8 34)))))), om 47 46, og 48 47 false (.mv (.t 5)), og 49 47 false (.mv (.t 6)), og 50 47 false (.ix (.t 48) (.t 49)), og 51 47 false (.bin .eql (.t 50) (.k (.one (.c (.v (.int .u8 92)))))), oo 52 (.pick (.t 47) (kb true) (.t 51))])
 (.cond (.t 52)
 (.reg false [om 53 3, oo 54 (.bin .add (.t 53) (.k (.one (.c (.v (.string ⟨#[92]⟩)))))), om 3 54])
 .skip))
 (.reg false [om 55 3, om 56 5, om 57 6, om 58 6, oo 59 (.bin .add (.t 58) (ki 1)), oo 60 (.sls (.t 56) (some (.t 57)) (some (.t 59))), oo 61 (.bin .add (.t 55) (.t 60)), om 3 61])))
 (.reg false [om 41 6, oo 42 (.bin .add (.t 41) (ki 1)), om 6 42]))))))
 (.reg false [om 62 3, oo 63 (.bin .add (.t 62) (.k (.one (.c (.v (.string ⟨#[34]⟩)))))), om 3 63]))))))
 (.reg false [om 14 4, oo 15 (.bin .add (.t 14) (ki 1)), om 4 15]))))))
 (.seq (.seq (.reg false [oo 64 (.fa 1 (.t 1)), oo 65 (.ld false 1 (.t 64)), oo 66 (.len (.t 65)), oo 67 (.bin .gtr (.t 66) (ki 0))])
 (.cond (.t 67)
 (.reg false [om 68 3, oo 69 (.bin .add (.t 68) (.k (.one (.c (.v (.string ⟨#[125]⟩)))))), om 3 69])
 .skip))
 (.seq (.reg false [om 70 3, om 2 70])
 .ret)))))
abbrev n_windroseref03_Text : Nat := 110
theorem F_windroseref03_Text : Fun Tryz.prog n_windroseref03_Text 71 c_windroseref03_Text [.t 2] := ⟨⟨Tryz.f110, _, Tryz.func110, by kernel_rfl, rfl, rfl, by kernel_rfl, by kernel_rfl⟩⟩
def c_windroseref03_until : C :=
 (.seq (.reg false [oo 6 (.mv (ki 0))])
 (.seq (.block 0 (.loop (.seq (.seq (.reg false [om 7 1, om 8 0, oo 9 (.lens (.t 8)), oo 10 (.bin .lss (.t 7) (.t 9)), om 11 10, og 12 11 true (.mv (.t 0)), og 13 11 true (.mv (.t 1)), og 14 11 true (.ix (.t 12) (.t 13)), og 15 11 true (.mv (.t 2)), og 16 11 true (.bin .neq (.t 14) (.t 15)), oo 17 (.pick (.t 11) (.t 16) (kb false))])
 (.cond (.t 17)
 .skip
 (.exit 0)))
 (.block 1 (.reg false [om 18 1, oo 19 (.bin .add (.t 18) (ki 1)), om 1 19])))))
 (.seq (.reg false [om 20 1, om 6 20])
 .ret)))
abbrev n_windroseref03_until : Nat := 148
theorem F_windroseref03_until : Fun Tryz.prog n_windroseref03_until 21 c_windroseref03_until [.t 6] := ⟨⟨Tryz.f148, _, Tryz.func148, by kernel_rfl, rfl, rfl, by kernel_rfl, by kernel_rfl⟩⟩
def c_windroseref03_May : C :=
 (.seq (.reg false [oo 1 (.box 100 2 (.t 0)), oo 2 (.mv (kb false))])
 (.seq (.seq (.reg false [oo 3 (.mv (ki 0))])
 (.block 0 (.loop (.seq (.seq (.reg false [om 4 3, oo 5 (.fa 1 (.t 1)), oo 6 (.ld false 1 (.t 5)), oo 7 (.len (.t 6)), oo 8 (.bin .lss (.t 4) (.t 7))])
 (.cond (.t 8)
 .skip
 (.exit 0)))
 (.seq (.block 1 (.seq (.reg true [oo 11 (.fa 1 (.t 1)), oo 12 (.ld false 1 (.t 11)), om 13 3, oo 14 (.ia 2 (.t 12) (.t 13)), oo 15 (.fa 0 (.t 14)), oo 16 (.ld false 1 (.t 15)), oo 17 (.call (kf 187) [(.t 16)]), oo 18 (.un .not (.t 17)), om 19 18, og 20 19 false (.fa 1 (.t 1)), og 21 19 false (.ld false 1 (.t 20)), og 22 19 false (.mv (.t 3)), og 23 19 false (.ia 2 (.t 21) (.t 22)), og 24 19 false (.fa 1 (.t 23)), og 25 19 false (.ld false 1 (.t 24)), og 26 19 false (.call (kf 188) [(.t 25)]), og 27 19 false (.un .not (.t 26)), oo 28 (.pick (.t 19) (kb true) (.t 27)), om 29 28, og 30 29 false (.mv (.t 3)), og 31 29 false (.bin .gtr (.t 30) (ki 0)), og 32 29 false (.mv (.t 31)), og 33 32 true (.fa 1 (.t 1)), og 34 32 true (.ld false 1 (.t 33)), og 35 32 true (.mv (.t 3)), og 36 32 true (.bin .sub (.t 35) (ki 1)), og 37 32 true (.ia 2 (.t 34) (.t 36)), og 38 32 true (.fa 0 (.t 37)), og 39 32 true (.ld false 1 (.t 38)), og 40 32 true (.fa 1 (.t 1)), og 41 32 true (.ld false 1 (.t 40)), og 42 32 true (.mv (.t 3)), og 43 32 true (.ia 2 (.t 41) (.t 42)), og 44 32 true (.fa 0 (.t 43)), og 45 32 true (.ld false 1 (.t 44)), og 46 32 true (.bin .geq (.t 39) (.t 45)), og 47 29 false (.pick (.t 32) (.t 46) (kb false)), oo 48 (.pick (.t 29) (kb true) (.t 47))])
 (.cond (.t 48)
 (.seq (.reg false [oo 2 (.mv (kb false))])
 .ret)
 .skip)))
 (.reg false [om 9 3, oo 10 (.bin .add (.t 9) (ki 1)), om 3 10]))))))
 (.seq (.reg false [oo 49 (.fa 0 (.t 1)), oo 50 (.ld false 1 (.t 49)), oo 51 (.call (kf 187) [(.t 50)]), om 52 51, og 53 52 true (.fa 1 (.t 1)), og 54 52 true (.ld false 1 (.t 53)), og 55 52 true (.len (.t 54)), og 56 52 true (.bin .leq (.t 55) (ki 4)), oo 57 (.pick (.t 52) (.t 56) (kb false)), om 2 57])
 .ret)))
abbrev n_windroseref03_May : Nat := 149
theorem F_windroseref03_May : Fun Tryz.prog n_windroseref03_May 58 c_windroseref03_May [.t 2] := ⟨⟨Tryz.f149, _, Tryz.func149, by kernel_rfl, rfl, rfl, by kernel_rfl, by kernel_rfl⟩⟩
def c_windroseref03_Name : C :=
 (.seq (.reg false [oo 2 (.mv (kb false))])
 (.seq (.seq (.reg false [oo 3 (.mv (ki 0))])
 (.block 0 (.loop (.seq (.seq (.reg false [om 4 3, om 5 0, oo 6 (.lens (.t 5)), oo 7 (.bin .lss (.t 4) (.t 6))])
 (.cond (.t 7)
 .skip
 (.exit 0)))
 (.seq (.block 1 (.seq (.reg false [om 10 0, om 11 3, oo 12 (.ix (.t 10) (.t 11)), oo 13 (.bin .lss (.t 12) (.k (.one (.c (.v (.int .u8 97)))))), om 14 13, og 15 14 false (.mv (.t 0)), og 16 14 false (.mv (.t 3)), og 17 14 false (.ix (.t 15) (.t 16)), og 18 14 false (.bin .gtr (.t 17) (.k (.one (.c (.v (.int .u8 122)))))), oo 19 (.pick (.t 14) (kb true) (.t 18))])
 (.cond (.t 19)
 (.seq (.reg false [oo 2 (.mv (kb false))])
 .ret)
 .skip)))
 (.reg false [om 8 3, oo 9 (.bin .add (.t 8) (ki 1)), om 3 9]))))))
 (.seq (.reg false [om 20 0, oo 21 (.lens (.t 20)), oo 22 (.bin .geq (.t 21) (ki 1)), om 23 22, og 24 23 true (.mv (.t 0)), og 25 23 true (.lens (.t 24)), og 26 23 true (.bin .leq (.t 25) (ki 16)), oo 27 (.pick (.t 23) (.t 26) (kb false)), om 2 27])
 .ret)))
abbrev n_windroseref03_Name : Nat := 187
theorem F_windroseref03_Name : Fun Tryz.prog n_windroseref03_Name 28 c_windroseref03_Name [.t 2] := ⟨⟨Tryz.f187, _, Tryz.func187, by kernel_rfl, rfl, rfl, by kernel_rfl, by kernel_rfl⟩⟩
def c_windroseref03_Val : C :=
 (.seq (.reg false [oo 2 (.mv (kb false))])
 (.seq (.seq (.reg false [oo 3 (.mv (ki 0))])
 (.block 0 (.loop (.seq (.seq (.reg false [om 4 3, om 5 0, oo 6 (.lens (.t 5)), oo 7 (.bin .lss (.t 4) (.t 6))])
 (.cond (.t 7)
 .skip
 (.exit 0)))
 (.seq (.block 1 (.seq (.reg false [om 10 0, om 11 3, oo 12 (.ix (.t 10) (.t 11)), oo 13 (.bin .lss (.t 12) (.k (.one (.c (.v (.int .u8 32)))))), om 14 13, og 15 14 false (.mv (.t 0)), og 16 14 false (.mv (.t 3)), og 17 14 false (.ix (.t 15) (.t 16)), og 18 14 false (.bin .gtr (.t 17) (.k (.one (.c (.v (.int .u8 126)))))), oo 19 (.pick (.t 14) (kb true) (.t 18))])
 (.cond (.t 19)
 (.seq (.reg false [oo 2 (.mv (kb false))])
 .ret)
 .skip)))
 (.reg false [om 8 3, oo 9 (.bin .add (.t 8) (ki 1)), om 3 9]))))))
 (.seq (.reg false [om 20 0, oo 21 (.lens (.t 20)), oo 22 (.bin .leq (.t 21) (ki 16)), om 2 22])
 .ret)))
abbrev n_windroseref03_Val : Nat := 188
theorem F_windroseref03_Val : Fun Tryz.prog n_windroseref03_Val 23 c_windroseref03_Val [.t 2] := ⟨⟨Tryz.f188, _, Tryz.func188, by kernel_rfl, rfl, rfl, by kernel_rfl, by kernel_rfl⟩⟩
def c_label_name : C :=
 (.seq (.reg false [oo 2 (.mv (kb false))])
 (.seq (.seq (.reg false [om 5 0, oo 6 (.bin .eql (.t 5) (.k (.one (.c (.v (.string ⟨#[]⟩)))))), om 7 6, og 8 7 false (.mv (.t 0)), og 9 7 false (.lens (.t 8)), og 10 7 false (.bin .gtr (.t 9) (ki 16)), oo 11 (.pick (.t 7) (kb true) (.t 10))])
 (.cond (.t 11)
 (.seq (.reg false [oo 2 (.mv (kb false))])
 .ret)
 .skip))
 (.seq (.seq (.reg false [om 12 0, oo 13 (.rng (.t 12))])
 (.block 0 (.loop (.seq (.reg false [oo 14 (.nxt (.t 13)), oo 15 (.ex (.t 14) 0)])
 (.seq (.cond (.t 15)
 .skip
 (.exit 0))
 (.block 1 (.seq (.reg false [oo 16 (.ex (.t 14) 2), om 4 16])
 (.seq (.reg false [om 17 4, oo 18 (.bin .lss (.t 17) (.k (.one (.c (.v (.int .i32 97)))))), om 19 18, og 20 19 false (.mv (.t 4)), og 21 19 false (.bin .gtr (.t 20) (.k (.one (.c (.v (.int .i32 122)))))), oo 22 (.pick (.t 19) (kb true) (.t 21))])
 (.cond (.t 22)
 (.seq (.reg false [oo 2 (.mv (kb false))])
 .ret)
 .skip)))))))))
 (.seq (.reg false [oo 2 (.mv (kb true))])
 .ret))))
abbrev n_label_name : Nat := 178
theorem F_label_name : Fun Tryz.prog n_label_name 23 c_label_name [.t 2] := ⟨⟨Tryz.f178, _, Tryz.func178, by kernel_rfl, rfl, rfl, by kernel_rfl, by kernel_rfl⟩⟩
def c_label_value : C :=
 (.seq (.reg false [oo 2 (.mv (kb false))])
 (.seq (.seq (.reg false [om 4 0, oo 5 (.lens (.t 4)), oo 6 (.mv (ki 0))])
 (.block 0 (.loop (.seq (.reg false [oo 7 (.bin .lss (.t 6) (.t 5))])
 (.seq (.cond (.t 7)
 .skip
 (.exit 0))
 (.seq (.block 1 (.seq (.reg false [om 8 6, om 3 8])
 (.seq (.reg false [om 9 0, om 10 3, oo 11 (.ix (.t 9) (.t 10)), oo 12 (.bin .lss (.t 11) (.k (.one (.c (.v (.int .u8 32)))))), om 13 12, og 14 13 false (.mv (.t 0)), og 15 13 false (.mv (.t 3)), og 16 13 false (.ix (.t 14) (.t 15)), og 17 13 false (.bin .gtr (.t 16) (.k (.one (.c (.v (.int .u8 126)))))), oo 18 (.pick (.t 13) (kb true) (.t 17))])
 (.cond (.t 18)
 (.seq (.reg false [oo 2 (.mv (kb false))])
 .ret)
 .skip))))
 (.reg false [oo 19 (.bin .add (.t 6) (ki 1)), om 6 19])))))))
 (.seq (.reg false [om 20 0, oo 21 (.lens (.t 20)), oo 22 (.bin .leq (.t 21) (ki 16)), om 2 22])
 .ret)))
abbrev n_label_value : Nat := 179
theorem F_label_value : Fun Tryz.prog n_label_value 23 c_label_value [.t 2] := ⟨⟨Tryz.f179, _, Tryz.func179, by kernel_rfl, rfl, rfl, by kernel_rfl, by kernel_rfl⟩⟩
def c_label_quoted : C :=
 (.seq (.reg false [oo 2 (.mv (.k (.one (.c (.v (.string ⟨#[]⟩)))))), oo 3 (.mv (.k (.one (.c (.v (.string ⟨#[]⟩)))))), oo 4 (.mv (kb false))])
 (.seq (.reg false [oo 5 (.mv (.k (.one (.c (.v (.slice none 0 0))))))])
 (.seq (.seq (.reg false [oo 6 (.mv (ki 0))])
 (.block 0 (.loop (.seq (.seq (.reg false [om 7 6, om 8 0, oo 9 (.lens (.t 8)), oo 10 (.bin .lss (.t 7) (.t 9))])
 (.cond (.t 10)
 .skip
 (.exit 0)))
 (.seq (.block 1 (.seq (.seq (.reg false [om 13 0, om 14 6, oo 15 (.ix (.t 13) (.t 14))])
 (.block 2 (.seq (.reg false [oo 17 (.bin .eql (.t 15) (.k (.one (.c (.v (.int .u8 34)))))), om 16 17])
 (.cond (.t 16)
 (.seq (.reg true [om 18 5, oo 19 (.b2s (.t 18)), om 20 0, om 21 6, oo 22 (.bin .add (.t 21) (ki 1)), oo 23 (.sls (.t 20) (some (.t 22)) none), om 2 19, om 3 23, oo 4 (.mv (kb true))])
 .ret)
 (.seq (.reg false [oo 25 (.bin .eql (.t 15) (.k (.one (.c (.v (.int .u8 92)))))), om 24 25])
 (.cond (.t 24)
 (.seq (.reg false [om 26 6, oo 27 (.bin .add (.t 26) (ki 1)), om 6 27])
 (.seq (.reg false [om 28 6, om 29 0, oo 30 (.lens (.t 29)), oo 31 (.bin .eql (.t 28) (.t 30)), om 32 31, og 33 32 false (.mv (.t 0)), og 34 32 false (.mv (.t 6)), og 35 32 false (.ix (.t 33) (.t 34)), og 36 32 false (.bin .neq (.t 35) (.k (.one (.c (.v (.int .u8 34)))))), og 37 32 false (.mv (.t 36)), og 38 37 true (.mv (.t 0)), og 39 37 true (.mv (.t 6)), og 40 37 true (.ix (.t 38) (.t 39)), og 41 37 true (.bin .neq (.t 40) (.k (.one (.c (.v (.int .u8 92)))))), og 42 32 false (.pick (.t 37) (.t 41) (kb false)), oo 43 (.pick (.t 32) (kb true) (.t 42))])
 (.cond (.t 43)
 (.seq (.reg false [oo 2 (.mv (.k (.one (.c (.v (.string ⟨#[]⟩)))))), oo 3 (.mv (.k (.one (.c (.v (.string ⟨#[]⟩)))))), oo 4 (.mv (kb false))])
 .ret)
 .skip)))
 .skip))))))
 (.reg false [om 44 5, om 45 0, om 46 6, oo 47 (.ix (.t 45) (.t 46)), oo 48 (.bsl 5 1 1 [.int .u8 0] [(0, (.t 47))]), oo 49 (.app 5 1 1 [.int .u8 0] (.t 44) (.t 48)), om 5 49])))
 (.reg false [om 11 6, oo 12 (.bin .add (.t 11) (ki 1)), om 6 12]))))))
 (.seq (.reg false [oo 2 (.mv (.k (.one (.c (.v (.string ⟨#[]⟩)))))), oo 3 (.mv (.k (.one (.c (.v (.string ⟨#[]⟩)))))), oo 4 (.mv (kb false))])
 .ret))))
abbrev n_label_quoted : Nat := 134
theorem F_label_quoted : Fun Tryz.prog n_label_quoted 50 c_label_quoted [.t 2, .t 3, .t 4] := ⟨⟨Tryz.f134, _, Tryz.func134, by kernel_rfl, rfl, rfl, by kernel_rfl, by kernel_rfl⟩⟩
def c_slices_SortFunc_api_Label_api_Label : C :=
 (.seq (.reg false [om 5 0, oo 6 (.len (.t 5)), om 4 6])
 (.reg false [om 7 0, om 8 4, om 9 4, oo 10 (.cvi .u64 (.t 9)), oo 11 (.call (kf 177) [(.t 10)]), om 12 1, oo 13 (.call (kf 176) [(.t 7), (ki 0), (.t 8), (.t 11), (.t 12)])]))
abbrev n_slices_SortFunc_api_Label_api_Label : Nat := 135
theorem F_slices_SortFunc_api_Label_api_Label : Fun Tryz.prog n_slices_SortFunc_api_Label_api_Label 14 c_slices_SortFunc_api_Label_api_Label [] := ⟨⟨Tryz.f135, _, Tryz.func135, by kernel_rfl, rfl, rfl, by kernel_rfl, by kernel_rfl⟩⟩
def c_label_Parse_1 : C :=
 (.seq (.reg false [oo 2 (.box 115 2 (.t 0)), oo 3 (.box 115 2 (.t 1)), oo 4 (.mv (ki 0))])
 (.seq (.reg false [oo 5 (.fa 0 (.t 2)), oo 6 (.ld false 1 (.t 5)), oo 7 (.fa 0 (.t 3)), oo 8 (.ld false 1 (.t 7)), oo 9 (.call (kf 105) [(.t 6), (.t 8)]), om 4 9])
 .ret))
abbrev n_label_Parse_1 : Nat := 136
theorem F_label_Parse_1 : Fun Tryz.prog n_label_Parse_1 10 c_label_Parse_1 [.t 4] := ⟨⟨Tryz.f136, _, Tryz.func136, by kernel_rfl, rfl, rfl, by kernel_rfl, by kernel_rfl⟩⟩
def c_slices_pdqsortCmpFunc_api_Label : C :=
 (.seq (.reg false [oo 10 (.mv (kb true))])
 (.seq (.reg false [oo 11 (.mv (kb true))])
 (.block 0 (.loop (.block 1 (.seq (.reg false [om 21 2, om 22 1, oo 23 (.bin .sub (.t 21) (.t 22)), om 12 23])
 (.seq (.seq (.reg false [om 24 12, oo 25 (.bin .leq (.t 24) (ki 12))])
 (.cond (.t 25)
 (.seq (.reg false [om 26 0, om 27 1, om 28 2, om 29 4, oo 30 (.call (kf 203) [(.t 26), (.t 27), (.t 28), (.t 29)])])
 .ret)
 .skip))
 (.seq (.seq (.reg false [om 31 3, oo 32 (.bin .eql (.t 31) (ki 0))])
 (.cond (.t 32)
 (.seq (.reg false [om 33 0, om 34 1, om 35 2, om 36 4, oo 37 (.call (kf 204) [(.t 33), (.t 34), (.t 35), (.t 36)])])
 .ret)
 .skip))
 (.seq (.seq (.reg false [om 38 10, oo 39 (.un .not (.t 38))])
 (.cond (.t 39)
 (.seq (.reg false [om 40 0, om 41 1, om 42 2, om 43 4, oo 44 (.call (kf 205) [(.t 40), (.t 41), (.t 42), (.t 43)])])
 (.reg false [om 45 3, oo 46 (.bin .sub (.t 45) (ki 1)), om 3 46]))
 .skip))
 (.seq (.reg false [om 48 0, om 49 1, om 50 2, om 51 4, oo 52 (.call (kf 206) [(.t 48), (.t 49), (.t 50), (.t 51)]), om 47 52, oo 53 (.ex (.t 47) 0), oo 54 (.ex (.t 47) 1), om 13 53, om 14 54])
 (.seq (.seq (.reg false [om 55 14, oo 56 (.bin .eql (.t 55) (ki 2))])
 (.cond (.t 56)
 (.seq (.reg false [om 57 0, om 58 1, om 59 2, om 60 4, oo 61 (.call (kf 207) [(.t 57), (.t 58), (.t 59), (.t 60)])])
 (.seq (.reg false [om 62 2, oo 63 (.bin .sub (.t 62) (ki 1)), om 64 13, om 65 1, oo 66 (.bin .sub (.t 64) (.t 65)), oo 67 (.bin .sub (.t 63) (.t 66)), om 13 67])
 (.reg false [oo 14 (.mv (ki 1))])))
 .skip))
 (.seq (.seq (.reg false [om 68 10, om 69 68, og 70 69 true (.mv (.t 11)), oo 71 (.pick (.t 69) (.t 70) (kb false)), om 72 71, og 73 72 true (.mv (.t 14)), og 74 72 true (.bin .eql (.t 73) (ki 1)), oo 75 (.pick (.t 72) (.t 74) (kb false))])
 (.cond (.t 75)
 (.seq (.reg false [om 76 0, om 77 1, om 78 2, om 79 4, oo 80 (.call (kf 208) [(.t 76), (.t 77), (.t 78), (.t 79)])])
 (.cond (.t 80)
 .ret
 .skip))
 .skip))
 (.seq (.seq (.reg true [om 81 1, oo 82 (.bin .gtr (.t 81) (ki 0)), om 83 82, og 84 83 true (.mv (.t 4)), og 85 83 true (.mv (.t 0)), og 86 83 true (.mv (.t 1)), og 87 83 true (.bin .sub (.t 86) (ki 1)), og 88 83 true (.ia 2 (.t 85) (.t 87)), og 89 83 true (.ld true 2 (.t 88)), og 90 83 true (.mv (.t 0)), og 91 83 true (.mv (.t 13)), og 92 83 true (.ia 2 (.t 90) (.t 91)), og 93 83 true (.ld true 2 (.t 92)), og 94 83 true (.call (.t 84) [(.t 89), (.t 93)]), og 95 83 true (.bin .lss (.t 94) (ki 0)), og 96 83 true (.un .not (.t 95)), oo 97 (.pick (.t 83) (.t 96) (kb false))])
 (.cond (.t 97)
 (.seq (.reg false [om 98 0, om 99 1, om 100 2, om 101 13, om 102 4, oo 103 (.call (kf 209) [(.t 98), (.t 99), (.t 100), (.t 101), (.t 102)]), om 15 103])
 (.seq (.reg false [om 104 15, om 1 104])
 (.exit 1)))
 .skip))
 (.seq (.reg false [om 106 0, om 107 1, om 108 2, om 109 13, om 110 4, oo 111 (.call (kf 210) [(.t 106), (.t 107), (.t 108), (.t 109), (.t 110)]), om 105 111, oo 112 (.ex (.t 105) 0), oo 113 (.ex (.t 105) 1), om 16 112, om 17 113])
 (.seq (.reg false [om 114 17, om 11 114])
 (.seq (.reg false [om 115 16, om 116 1, oo 117 (.bin .sub (.t 115) (.t 116)), om 118 2, om 119 16, oo 120 (.bin .sub (.t 118) (.t 119)), om 18 117, om 19 120])
 (.seq (.reg false [om 121 12, oo 122 (.bin .quo (.t 121) (ki 8)), om 20 122])
 (.seq (.reg false [om 123 18, om 124 19, oo 125 (.bin .lss (.t 123) (.t 124))])
 (.cond (.t 125)
 (.seq (.reg false [om 126 18, om 127 20, oo 128 (.bin .geq (.t 126) (.t 127)), om 10 128])
 (.seq (.reg false [om 129 0, om 130 1, om 131 16, om 132 3, om 133 4, oo 134 (.call (kf 176) [(.t 129), (.t 130), (.t 131), (.t 132), (.t 133)])])
 (.reg false [om 135 16, oo 136 (.bin .add (.t 135) (ki 1)), om 1 136])))
 (.seq (.reg false [om 137 19, om 138 20, oo 139 (.bin .geq (.t 137) (.t 138)), om 10 139])
 (.seq (.reg false [om 140 0, om 141 16, oo 142 (.bin .add (.t 141) (ki 1)), om 143 2, om 144 3, om 145 4, oo 146 (.call (kf 176) [(.t 140), (.t 142), (.t 143), (.t 144), (.t 145)])])
 (.reg false [om 147 16, om 2 147]))))))))))))))))))))))
abbrev n_slices_pdqsortCmpFunc_api_Label : Nat := 176
theorem F_slices_pdqsortCmpFunc_api_Label : Fun Tryz.prog n_slices_pdqsortCmpFunc_api_Label 148 c_slices_pdqsortCmpFunc_api_Label [] := ⟨⟨Tryz.f176, _, Tryz.func176, by kernel_rfl, rfl, rfl, by kernel_rfl, by kernel_rfl⟩⟩
def c_slices_insertionSortCmpFunc_api_Label : C :=
 (.seq (.reg false [om 10 1, oo 11 (.bin .add (.t 10) (ki 1)), om 8 11])
 (.block 0 (.loop (.seq (.seq (.reg false [om 12 8, om 13 2, oo 14 (.bin .lss (.t 12) (.t 13))])
 (.cond (.t 14)
 .skip
 (.exit 0)))
 (.seq (.block 1 (.seq (.reg false [om 17 8, om 9 17])
 (.block 2 (.loop (.seq (.seq (.reg true [om 18 9, om 19 1, oo 20 (.bin .gtr (.t 18) (.t 19)), om 21 20, og 22 21 true (.mv (.t 3)), og 23 21 true (.mv (.t 0)), og 24 21 true (.mv (.t 9)), og 25 21 true (.ia 2 (.t 23) (.t 24)), og 26 21 true (.ld true 2 (.t 25)), og 27 21 true (.mv (.t 0)), og 28 21 true (.mv (.t 9)), og 29 21 true (.bin .sub (.t 28) (ki 1)), og 30 21 true (.ia 2 (.t 27) (.t 29)), og 31 21 true (.ld true 2 (.t 30)), og 32 21 true (.call (.t 22) [(.t 26), (.t 31)]), og 33 21 true (.bin .lss (.t 32) (ki 0)), oo 34 (.pick (.t 21) (.t 33) (kb false))])
 (.cond (.t 34)
 .skip
 (.exit 2)))
 (.seq (.block 3 (.reg true [om 37 0, om 38 9, om 39 0, om 40 9, oo 41 (.bin .sub (.t 40) (ki 1)), om 42 0, om 43 9, oo 44 (.bin .sub (.t 43) (ki 1)), oo 45 (.ia 2 (.t 42) (.t 44)), oo 46 (.ld true 2 (.t 45)), om 47 0, om 48 9, oo 49 (.ia 2 (.t 47) (.t 48)), oo 50 (.ld true 2 (.t 49)), oo 51 (.ia 2 (.t 37) (.t 38)), on_ (.st 2 (.t 51) (.t 46)), oo 52 (.ia 2 (.t 39) (.t 41)), on_ (.st 2 (.t 52) (.t 50))]))
 (.reg false [om 35 9, oo 36 (.bin .sub (.t 35) (ki 1)), om 9 36])))))))
 (.reg false [om 15 8, oo 16 (.bin .add (.t 15) (ki 1)), om 8 16]))))))
abbrev n_slices_insertionSortCmpFunc_api_Label : Nat := 203
theorem F_slices_insertionSortCmpFunc_api_Label : Fun Tryz.prog n_slices_insertionSortCmpFunc_api_Label 53 c_slices_insertionSortCmpFunc_api_Label [] := ⟨⟨Tryz.f203, _, Tryz.func203, by kernel_rfl, rfl, rfl, by kernel_rfl, by kernel_rfl⟩⟩
def c_strings_Builder_WriteString : C :=
 (.seq (.reg false [oo 4 (.mv (ki 0)), oo 5 (.mv (.k (.one (.c (.v (.nilIface))))))])
 (.seq (.reg false [om 6 0, oo 7 (.call (kf 180) [(.t 6)])])
 (.seq (.reg false [om 8 0, om 9 0, oo 10 (.nilck (.t 9)), oo 11 (.fa 1 (.t 10)), oo 12 (.ld false 1 (.t 11)), om 13 1, oo 14 (.aps 5 (.t 12) (.t 13)), oo 15 (.nilck (.t 8)), oo 16 (.fa 1 (.t 15)), on_ (.st 1 (.t 16) (.t 14))])
 (.seq (.reg false [om 17 1, oo 18 (.lens (.t 17)), om 4 18, oo 5 (.mv (.k (.one (.c (.v (.nilIface))))))])
 .ret))))
abbrev n_strings_Builder_WriteString : Nat := 138
theorem F_strings_Builder_WriteString : Fun Tryz.prog n_strings_Builder_WriteString 19 c_strings_Builder_WriteString [.t 4, .t 5] := ⟨⟨Tryz.f138, _, Tryz.func138, by kernel_rfl, rfl, rfl, by kernel_rfl, by kernel_rfl⟩⟩
def c_strings_Builder_WriteByte : C :=
 (.seq (.reg false [oo 4 (.mv (.k (.one (.c (.v (.nilIface))))))])
 (.seq (.reg false [om 5 0, oo 6 (.call (kf 180) [(.t 5)])])
 (.seq (.reg false [om 7 0, om 8 0, oo 9 (.nilck (.t 8)), oo 10 (.fa 1 (.t 9)), oo 11 (.ld false 1 (.t 10)), om 12 1, oo 13 (.bsl 5 1 1 [.int .u8 0] [(0, (.t 12))]), oo 14 (.app 5 1 1 [.int .u8 0] (.t 11) (.t 13)), oo 15 (.nilck (.t 7)), oo 16 (.fa 1 (.t 15)), on_ (.st 1 (.t 16) (.t 14))])
 (.seq (.reg false [oo 4 (.mv (.k (.one (.c (.v (.nilIface))))))])
 .ret))))
abbrev n_strings_Builder_WriteByte : Nat := 139
theorem F_strings_Builder_WriteByte : Fun Tryz.prog n_strings_Builder_WriteByte 17 c_strings_Builder_WriteByte [.t 4] := ⟨⟨Tryz.f139, _, Tryz.func139, by kernel_rfl, rfl, rfl, by kernel_rfl, by kernel_rfl⟩⟩
def c_strings_Builder_WriteRune : C :=
 (.seq (.reg false [oo 4 (.mv (ki 0)), oo 5 (.mv (.k (.one (.c (.v (.nilIface))))))])
 (.seq (.reg false [om 7 0, oo 8 (.call (kf 180) [(.t 7)])])
 (.seq (.reg false [om 9 0, oo 10 (.nilck (.t 9)), oo 11 (.fa 1 (.t 10)), oo 12 (.ld false 1 (.t 11)), oo 13 (.len (.t 12)), om 6 13])
 (.seq (.reg false [om 14 0, om 15 0, oo 16 (.nilck (.t 15)), oo 17 (.fa 1 (.t 16)), oo 18 (.ld false 1 (.t 17)), om 19 1, oo 20 (.call (kf 181) [(.t 18), (.t 19)]), oo 21 (.nilck (.t 14)), oo 22 (.fa 1 (.t 21)), on_ (.st 1 (.t 22) (.t 20))])
 (.seq (.reg false [om 23 0, oo 24 (.nilck (.t 23)), oo 25 (.fa 1 (.t 24)), oo 26 (.ld false 1 (.t 25)), oo 27 (.len (.t 26)), om 28 6, oo 29 (.bin .sub (.t 27) (.t 28)), om 4 29, oo 5 (.mv (.k (.one (.c (.v (.nilIface))))))])
 .ret)))))
abbrev n_strings_Builder_WriteRune : Nat := 140
theorem F_strings_Builder_WriteRune : Fun Tryz.prog n_strings_Builder_WriteRune 30 c_strings_Builder_WriteRune [.t 4, .t 5] := ⟨⟨Tryz.f140, _, Tryz.func140, by kernel_rfl, rfl, rfl, by kernel_rfl, by kernel_rfl⟩⟩
def c_utf8_AppendRune : C :=
 (.seq (.reg false [oo 4 (.mv (.k (.one (.c (.v (.slice none 0 0))))))])
 (.seq (.seq (.reg false [om 5 1, oo 6 (.cvi .u32 (.t 5)), oo 7 (.bin .leq (.t 6) (.k (.one (.c (.v (.int .u32 127))))))])
 (.cond (.t 7)
 (.seq (.reg false [om 8 0, om 9 1, oo 10 (.cvi .u8 (.t 9)), oo 11 (.bsl 5 1 1 [.int .u8 0] [(0, (.t 10))]), oo 12 (.app 5 1 1 [.int .u8 0] (.t 8) (.t 11)), om 4 12])
 .ret)
 .skip))
 (.seq (.reg false [om 13 0, om 14 1, oo 15 (.call (kf 214) [(.t 13), (.t 14)]), om 4 15])
 .ret)))
abbrev n_utf8_AppendRune : Nat := 181
theorem F_utf8_AppendRune : Fun Tryz.prog n_utf8_AppendRune 16 c_utf8_AppendRune [.t 4] := ⟨⟨Tryz.f181, _, Tryz.func181, by kernel_rfl, rfl, rfl, by kernel_rfl, by kernel_rfl⟩⟩
def c_cmp_Compare_int : C :=
 (.seq (.reg false [oo 4 (.mv (ki 0))])
 (.seq (.reg false [om 7 0, oo 8 (.call (kf 186) [(.t 7)]), om 5 8])
 (.seq (.reg false [om 9 1, oo 10 (.call (kf 186) [(.t 9)]), om 6 10])
 (.seq (.seq (.reg false [om 11 5])
 (.cond (.t 11)
 (.seq (.seq (.reg false [om 12 6])
 (.cond (.t 12)
 (.seq (.reg false [oo 4 (.mv (ki 0))])
 .ret)
 .skip))
 (.seq (.reg false [oo 4 (.mv (ki (-1)))])
 .ret))
 .skip))
 (.seq (.seq (.reg false [om 13 6])
 (.cond (.t 13)
 (.seq (.reg false [oo 4 (.mv (ki 1))])
 .ret)
 .skip))
 (.seq (.seq (.reg false [om 14 0, om 15 1, oo 16 (.bin .lss (.t 14) (.t 15))])
 (.cond (.t 16)
 (.seq (.reg false [oo 4 (.mv (ki (-1)))])
 .ret)
 .skip))
 (.seq (.seq (.reg false [om 17 0, om 18 1, oo 19 (.bin .gtr (.t 17) (.t 18))])
 (.cond (.t 19)
 (.seq (.reg false [oo 4 (.mv (ki 1))])
 .ret)
 .skip))
 (.seq (.reg false [oo 4 (.mv (ki 0))])
 .ret))))))))
abbrev n_cmp_Compare_int : Nat := 169
theorem F_cmp_Compare_int : Fun Tryz.prog n_cmp_Compare_int 20 c_cmp_Compare_int [.t 4] := ⟨⟨Tryz.f169, _, Tryz.func169, by kernel_rfl, rfl, rfl, by kernel_rfl, by kernel_rfl⟩⟩
def c_cmp_isNaN_int : C :=
 (.seq (.reg false [oo 2 (.mv (kb false))])
 (.seq (.reg false [om 3 0, om 4 0, oo 5 (.bin .neq (.t 3) (.t 4)), om 2 5])
 .ret))
abbrev n_cmp_isNaN_int : Nat := 186
theorem F_cmp_isNaN_int : Fun Tryz.prog n_cmp_isNaN_int 6 c_cmp_isNaN_int [.t 2] := ⟨⟨Tryz.f186, _, Tryz.func186, by kernel_rfl, rfl, rfl, by kernel_rfl, by kernel_rfl⟩⟩
end Go.Proofs.YtpdcpdngckpgbaaGreat.A
end
section
namespace Go.Proofs.YtpdcpdngckpgbaaGreat.A
open Go Go.Proofs.YtpdcpdngckpgbaaGreatAbs
structure Lb where
 name : ByteArray
 value : ByteArray
instance : Inhabited Lb := ⟨⟨mkS [], mkS []⟩⟩
@[go_sem] def Lb.c (x : Lb) : Nat → CV
 | 0 => .v (.string x.name)
 | _ => .v (.string x.value)
abbrev lbCV (l : List Lb) : CV := .imm 2 l.length fun i j => (l.getD i default).c j
abbrev lbL (l : List Lb) : Pt := .one (.c (lbCV l))
structure Ser where
 name : ByteArray
 labels : List Lb
instance : Inhabited Ser := ⟨⟨mkS [], []⟩⟩
@[go_sem] def Ser.c (x : Ser) : Nat → CV
 | 0 => .v (.string x.name)
 | _ => lbCV x.labels
abbrev serA (s : Ser) : Pt := .agg [.c (.v (.string s.name)), .c (lbCV s.labels)]
def inR (lo hi : Nat) (c : UInt8) : Bool := decide (lo ≤ c.toNat) && decide (c.toNat ≤ hi)
def nmOk (s : ByteArray) : Bool := decide (1 ≤ s.size) && decide (s.size ≤ 16) && (bs s).all (inR 97 122)
def vlOk (s : ByteArray) : Bool := decide (s.size ≤ 16) && (bs s).all (inR 32 126)
theorem inR_t {lo hi : Nat} {c : UInt8} : inR lo hi c = true ↔ lo ≤ c.toNat ∧ c.toNat ≤ hi := by simp [inR]
theorem inR_f {lo hi : Nat} {c : UInt8} : inR lo hi c = false ↔ c.toNat < lo ∨ hi < c.toNat := by
 simp only [inR, Bool.and_eq_false_iff, decide_eq_false_iff_not]; omega
theorem all_in {s : ByteArray} {lo hi k : Nat} (hk : ¬ k < s.size) (h : ∀ j, j < k → inR lo hi ((bs s).getD j 0) = true) : (bs s).all (inR lo hi) = true :=
 all_true (d := 0) (fun j hj => h j (by rw [bs_len] at hj; omega))
theorem all_out {s : ByteArray} {lo hi k : Nat} (hk : k < s.size) (h : ((bs s).getD k 0).toNat < lo ∨ hi < ((bs s).getD k 0).toNat) : (bs s).all (inR lo hi) = false :=
 all_false (d := 0) (by rw [bs_len]; exact hk) (inR_f.2 h)
theorem rName_rc (s : ByteArray) (hs : s.size < 9223372036854775807) (M : List Blk) : CallR Tryz.prog M n_windroseref03_Name [.s s] (.b (nmOk s)) M := by
 refine callP F_windroseref03_Name (Nat.le_of_ble_eq_true rfl) (by simp only [go_sem]) (by simp only [go_sem]) ?_ M
 simp only [c_windroseref03_Name, go_sem]
 refine V_loop (ι := Nat) (J := fun k => k ≤ s.size ∧ ∀ j, j < k → inR 97 122 ((bs s).getD j 0) = true) (env := fun k => [(0, .s s), (3, .i k)]) (mem := fun _ => []) (μ := fun k => s.size - k) 0 ⟨Nat.zero_le _, fun j hj => by omega⟩ (into0 (by simp only [go_sem])) ?_
 rintro k ⟨hk, hok⟩
 simp only [go_sem]
 refine ⟨fun h1 => ⟨by omega, fun _ => by omega, fun hc => ?_, fun hc => ⟨k + 1, ⟨by omega, fun j hj => ?_⟩, by omega, into0 ?_⟩⟩, fun h1 => ?_⟩
 ·simp only [Bool.or_eq_true, decide_eq_true_eq] at hc
  rw [nmOk, all_out h1 (by omega), Bool.and_false]
 ·by_cases e : j = k
  ·subst e
   simp only [Bool.or_eq_false_iff, decide_eq_false_iff_not] at hc
   exact inR_t.2 (by omega)
  ·exact hok j (by omega)
 ·simp only [go_sem, w64s (show k < 9223372036854775807 by omega)]
 ·rw [nmOk, all_in h1 hok, Bool.and_true]
  simp only [Bool.and_eq_decide, decide_eq_decide, decide_eq_true_eq]
  omega
theorem rVal_rc (s : ByteArray) (hs : s.size < 9223372036854775807) (M : List Blk) : CallR Tryz.prog M n_windroseref03_Val [.s s] (.b (vlOk s)) M := by
 refine callP F_windroseref03_Val (Nat.le_of_ble_eq_true rfl) (by simp only [go_sem]) (by simp only [go_sem]) ?_ M
 simp only [c_windroseref03_Val, go_sem]
 refine V_loop (ι := Nat) (J := fun k => k ≤ s.size ∧ ∀ j, j < k → inR 32 126 ((bs s).getD j 0) = true) (env := fun k => [(0, .s s), (3, .i k)]) (mem := fun _ => []) (μ := fun k => s.size - k) 0 ⟨Nat.zero_le _, fun j hj => by omega⟩ (into0 (by simp only [go_sem])) ?_
 rintro k ⟨hk, hok⟩
 simp only [go_sem]
 refine ⟨fun h1 => ⟨by omega, fun _ => by omega, fun hc => ?_, fun hc => ⟨k + 1, ⟨by omega, fun j hj => ?_⟩, by omega, into0 ?_⟩⟩, fun h1 => ?_⟩
 ·simp only [Bool.or_eq_true, decide_eq_true_eq] at hc
  rw [vlOk, all_out h1 (by omega), Bool.and_false]
 ·by_cases e : j = k
  ·subst e
   simp only [Bool.or_eq_false_iff, decide_eq_false_iff_not] at hc
   exact inR_t.2 (by omega)
  ·exact hok j (by omega)
 ·simp only [go_sem, w64s (show k < 9223372036854775807 by omega)]
 ·rw [vlOk, all_in h1 hok, Bool.and_true]
  simp only [decide_eq_decide]
  omega
theorem value_rc (s : ByteArray) (hs : s.size < 9223372036854775807) (M : List Blk) : CallR Tryz.prog M n_label_value [.s s] (.b (vlOk s)) M := by
 refine callP F_label_value (Nat.le_of_ble_eq_true rfl) (by simp only [go_sem]) (by simp only [go_sem]) ?_ M
 simp only [c_label_value, go_sem]
 refine V_loop (ι := Nat) (J := fun k => k ≤ s.size ∧ ∀ j, j < k → inR 32 126 ((bs s).getD j 0) = true) (env := fun k => [(0, .s s), (5, .i s.size), (6, .i k)]) (mem := fun _ => []) (μ := fun k => s.size - k) 0 ⟨Nat.zero_le _, fun j hj => by omega⟩ (into0 (by simp only [go_sem])) ?_
 rintro k ⟨hk, hok⟩
 simp only [go_sem]
 refine ⟨fun h1 => ⟨by omega, fun _ => by omega, fun hc => ?_, fun hc => ⟨k + 1, ⟨by omega, fun j hj => ?_⟩, by omega, into0 ?_⟩⟩, fun h1 => ?_⟩
 ·simp only [Bool.or_eq_true, decide_eq_true_eq] at hc
  rw [vlOk, all_out h1 (by omega), Bool.and_false]
 ·by_cases e : j = k
  ·subst e
   simp only [Bool.or_eq_false_iff, decide_eq_false_iff_not] at hc
   exact inR_t.2 (by omega)
  ·exact hok j (by omega)
 ·simp only [go_sem, w64s (show k < 9223372036854775807 by omega)]
 ·rw [vlOk, all_in h1 hok, Bool.and_true]
  simp only [decide_eq_decide]
  omega
theorem name_rc (s : ByteArray) (hs : s.size < 9223372036854775807) (M : List Blk) : CallR Tryz.prog M n_label_name [.s s] (.b (nmOk s)) M := by
 refine callP F_label_name (Nat.le_of_ble_eq_true rfl) (by simp only [go_sem]) (by simp only [go_sem]) ?_ M
 simp only [c_label_name, go_sem]
 refine ⟨fun hc => ?_, fun hc => ?_⟩
 ·simp only [Bool.or_eq_true, decide_eq_true_eq] at hc
  rcases hc with rfl | hc
  ·rfl
  ·rw [nmOk, decide_eq_false (show ¬ s.size ≤ 16 by omega), Bool.and_false, Bool.false_and]
 have hz : 1 ≤ s.size ∧ s.size ≤ 16 := by
  simp only [Bool.or_eq_false_iff, decide_eq_false_iff_not] at hc
  refine ⟨Nat.pos_of_ne_zero fun h => hc.1 (bs_inj (List.eq_nil_of_length_eq_zero (by rw [bs_len, h]))), by omega⟩
 refine V_loop (ι := Nat) (J := fun k => k ≤ s.size ∧ ∀ j, j < k → inR 97 122 ((bs s).getD j 0) = true) (env := fun k => [(13, .p (.one (.ptr 0 0 0 0)))]) (mem := fun k => [.sit s k]) (μ := fun k => s.size - k) 0 ⟨Nat.zero_le _, fun j hj => by omega⟩ ⟨[], by simp only [go_sem], Nat.zero_le _, by simp only [go_sem], by simp only [go_sem, ltB]⟩ ?_
 rintro k ⟨hk, hok⟩
 simp only [go_sem]
 by_cases h1 : k < s.size
 ·rw [if_pos h1]
  simp only [go_sem]
  by_cases ha : ((bs s).getD k 0).toNat < 128
  ·rw [dec_ascii h1 ha]
   simp only [go_sem]
   refine ⟨fun hc => ?_, fun hc => ⟨k + 1, ⟨by omega, fun j hj => ?_⟩, by omega, [], by simp only [go_sem], Nat.zero_le _, by simp only [go_sem], by simp only [go_sem, ltB]⟩⟩
   ·simp only [Bool.or_eq_true, decide_eq_true_eq] at hc
    rw [nmOk, all_out h1 (by omega), Bool.and_false]
   ·by_cases e : j = k
    ·subst e
     simp only [Bool.or_eq_false_iff, decide_eq_false_iff_not] at hc
     exact inR_t.2 (by omega)
    ·exact hok j (by omega)
  ·have hd := dec_high h1 (by omega)
   refine ⟨fun hc => ?_, fun hc => ?_⟩
   ·rw [nmOk, all_out h1 (by omega), Bool.and_false]
   ·exfalso
    simp only [Bool.or_eq_false_iff, decide_eq_false_iff_not] at hc
    omega
 ·rw [if_neg h1]
  simp only [go_sem]
  rw [nmOk, all_in h1 hok, decide_eq_true hz.1, decide_eq_true hz.2]
  rfl
end Go.Proofs.YtpdcpdngckpgbaaGreat.A
end
section
namespace Go.Proofs.YtpdcpdngckpgbaaGreat.A
open Go Go.Proofs.YtpdcpdngckpgbaaGreatAbs
def zS (s : ByteArray) : Prop := s.size ≤ 140737488355328
structure zSer (s : Ser) : Prop where
 name : zS s.name
 len : s.labels.length ≤ 140737488355328
 lb : ∀ i, i < s.labels.length → zS (s.labels.getD i default).name ∧ zS (s.labels.getD i default).value
def lbOk (l : List Lb) (i : Nat) : Bool := nmOk (l.getD i default).name && vlOk (l.getD i default).value && (i == 0 || sLt (l.getD (i - 1) default).name (l.getD i default).name)
def serOk (s : Ser) : Bool := nmOk s.name && decide (s.labels.length ≤ 4) && (List.range s.labels.length).all (lbOk s.labels)
theorem zlt {s : ByteArray} (h : zS s) : s.size < 9223372036854775807 := by unfold zS at h; omega
theorem serOk_f {s : Ser} {k : Nat} (hk : k < s.labels.length) (h : lbOk s.labels k = false) : serOk s = false := by
 have : (List.range s.labels.length).all (lbOk s.labels) = false := by
  rw [List.all_eq_false]
  exact ⟨k, List.mem_range.2 hk, by simp [h]⟩
 rw [serOk, this, Bool.and_false]
theorem serOk_t {s : Ser} (h : ∀ i, i < s.labels.length → lbOk s.labels i = true) : serOk s = (nmOk s.name && decide (s.labels.length ≤ 4)) := by
 have : (List.range s.labels.length).all (lbOk s.labels) = true := by
  rw [List.all_eq_true]
  exact fun i hi => h i (List.mem_range.1 hi)
 rw [serOk, this, Bool.and_true]
theorem leS_lt (a b : ByteArray) : (sLt a b || decide (a = b)) = !sLt b a := by
 cases h : sLt a b with
 | true => rw [sLt_asymm h]; rfl
 | false =>
  cases k : sLt b a with
  | true => have := sLt_ne k; simp [Ne.symm this]
  | false => simp [sLt_total h k]
theorem wpred {k : Nat} (h0 : 0 < k) (hk : k ≤ 140737488355328) : IntKind.i64.wrap ((k : Int) - 1) = ((k - 1 : Nat) : Int) := w64p h0 (by omega)
theorem lbOk_key (l : List Lb) {k : Nat} (hk : k ≤ 140737488355328) : (!nmOk (l.getD k default).name || !vlOk (l.getD k default).value || decide (0 < (k : Int)) && !sLt (l.getD (IntKind.i64.wrap ((k : Int) - 1)).toNat default).name (l.getD k default).name) = !lbOk l k := by
 unfold lbOk
 by_cases h0 : k = 0
 ·subst h0; simp
 ·rw [wpred (by omega) hk, Int.toNat_natCast]
  have : decide (0 < (k : Int)) = true := decide_eq_true (by omega)
  have e : (k == 0) = false := by simpa using h0
  simp only [this, e, Bool.true_and, Bool.false_or, Bool.not_and]
theorem Check_rc (s : Ser) (hs : zSer s) (M : List Blk) : CallR Tryz.prog M n_label_Check [serA s] (.i (if serOk s then 0 else 1)) M := by
 refine callP F_label_Check (Nat.le_of_ble_eq_true rfl) (by simp only [go_sem]) (by simp only [go_sem]) ?_ M
 simp only [c_label_Check, go_sem]
 refine call0 (name_rc s.name (zlt hs.name)) ?_
 simp only [go_sem]
 refine ⟨fun hc => ?_, fun hc => ?_⟩
 ·rw [if_neg]
  simp only [Bool.or_eq_true, Bool.not_eq_true', decide_eq_true_eq] at hc
  simp only [serOk, Bool.and_eq_true, decide_eq_true_eq, not_and]
  intro h1 h2
  rw [h1.1] at hc
  have := hs.len
  simp at hc
  omega
 have hn : nmOk s.name = true ∧ s.labels.length ≤ 4 := by
  simp only [Bool.or_eq_false_iff, Bool.not_eq_false', decide_eq_false_iff_not] at hc
  exact ⟨hc.1, by omega⟩
 refine V_loop (ι := Nat) (J := fun k => k ≤ s.labels.length ∧ ∀ i, i < k → lbOk s.labels i = true) (env := fun k => [(1, .p (.one (.ptr 0 0 0 0))), (16, .p (lbL s.labels)), (17, .i s.labels.length), (18, .i k)])
  (mem := fun _ => [.rows 100 2 0 [[.c (.v (.string s.name)), .c (lbCV s.labels)]] true]) (μ := fun k => s.labels.length - k) 0 ⟨Nat.zero_le _, fun j hj => by omega⟩ ⟨[], by simp only [go_sem], Nat.zero_le _, by simp only [go_sem], by simp only [go_sem, ltB]⟩ ?_
 rintro k ⟨hk, hok⟩
 simp only [go_sem]
 refine ⟨fun h1 => ⟨by omega, ?_⟩, fun h1 => ?_⟩
 ·have hz := hs.lb k h1
  refine call0 (name_rc _ (zlt hz.1)) ?_
  simp only [go_sem]
  refine callg0 (fun _ => value_rc _ (zlt hz.2)) ?_
  simp only [go_sem, leS_lt]
  have hl := hs.len
  rw [lbOk_key _ (by omega)]
  refine ⟨fun hc => ?_, fun hc => ?_, fun hc => ⟨k + 1, ⟨by omega, fun j hj => ?_⟩, by omega, ?_⟩⟩
  ·simp at hc
   rw [wpred (by omega) (by omega)]
   omega
  ·rw [serOk_f h1 (by simpa using hc)]
   rfl
  ·by_cases e : j = k
   ·subst e; simpa using hc
   ·exact hok j (by omega)
  ·refine ⟨_, by simp only [go_sem]; rfl, Nat.zero_le _, ?_, by simp only [go_sem, ltB]⟩
   simp only [go_sem, w64s (show k < 9223372036854775807 by omega)]
 ·rw [serOk_t (fun i hi => hok i (by omega)), hn.1, decide_eq_true hn.2]
  rfl
theorem May_rc (s : Ser) (hs : zSer s) (M : List Blk) : CallR Tryz.prog M n_windroseref03_May [serA s] (.b (serOk s)) M := by
 refine callP F_windroseref03_May (Nat.le_of_ble_eq_true rfl) (by simp only [go_sem]) (by simp only [go_sem]) ?_ M
 simp only [c_windroseref03_May, go_sem]
 have hl := hs.len
 refine V_loop (ι := Nat) (J := fun k => k ≤ s.labels.length ∧ ∀ i, i < k → lbOk s.labels i = true) (env := fun k => [(1, .p (.one (.ptr 0 0 0 0))), (3, .i k)])
  (mem := fun _ => [.rows 100 2 0 [[.c (.v (.string s.name)), .c (lbCV s.labels)]] true]) (μ := fun k => s.labels.length - k) 0 ⟨Nat.zero_le _, fun j hj => by omega⟩ ⟨[], by simp only [go_sem], Nat.zero_le _, by simp only [go_sem], by simp only [go_sem, ltB]⟩ ?_
 rintro k ⟨hk, hok⟩
 simp only [go_sem]
 refine ⟨fun h1 => ⟨by omega, ?_⟩, fun h1 => ?_⟩
 ·have hz := hs.lb k h1
  refine call0 (rName_rc _ (zlt hz.1)) ?_
  simp only [go_sem]
  refine ⟨fun _ => by omega, callg0 (fun _ => rVal_rc _ (zlt hz.2)) ?_⟩
  simp only [go_sem]
  rw [lbOk_key _ (by omega)]
  refine ⟨fun hc => ?_, fun _ => by omega, fun hc => ?_, fun hc => ⟨k + 1, ⟨by omega, fun j hj => ?_⟩, by omega, ?_⟩⟩
  ·simp at hc
   rw [wpred (by omega) (by omega)]
   omega
  ·rw [serOk_f h1 (by simpa using hc)]
  ·by_cases e : j = k
   ·subst e; simpa using hc
   ·exact hok j (by omega)
  ·refine ⟨_, by simp only [go_sem]; rfl, Nat.zero_le _, ?_, by simp only [go_sem, ltB]⟩
   simp only [go_sem, w64s (show k < 9223372036854775807 by omega)]
 ·refine call0 (rName_rc s.name (zlt hs.name)) ?_
  simp only [go_sem]
  rw [serOk_t (fun i hi => hok i (by omega))]
  congr 1
  simp only [decide_eq_decide]
  omega
end Go.Proofs.YtpdcpdngckpgbaaGreat.A
end
section
namespace Go.Proofs.YtpdcpdngckpgbaaGreat.A
open Go Go.Proofs.YtpdcpdngckpgbaaGreatAbs
instance : DecidableEq Lb := fun a b => if h : a.name = b.name ∧ a.value = b.value then isTrue (by cases a; cases b; simp_all) else isFalse (fun e => h (by rw [e]; exact ⟨rfl, rfl⟩))
instance : DecidableEq Ser := fun a b => if h : a.name = b.name ∧ a.labels = b.labels then isTrue (by cases a; cases b; simp_all) else isFalse (fun e => h (by rw [e]; exact ⟨rfl, rfl⟩))
def untilS (s : ByteArray) (c : Int) : Nat → Nat → Nat
 | 0, at_ => at_
 | n + 1, at_ => if at_ < s.size ∧ (((bs s).getD at_ 0).toNat : Int) ≠ c then untilS s c n (at_ + 1) else at_
theorem until_rc (s : ByteArray) (hs : zS s) (at_ : Nat) (c : Int) (hat : at_ ≤ 140737488355328) (M : List Blk) : CallR Tryz.prog M n_windroseref03_until [.s s, .i at_, .one (.c (.v (.int .u8 c)))] (.i (untilS s c (s.size - at_) at_)) M := by
 refine callP F_windroseref03_until (Nat.le_of_ble_eq_true rfl) (by simp only [go_sem]) (by simp only [go_sem]) ?_ M
 simp only [c_windroseref03_until, go_sem]
 refine V_loop (ι := Nat) (J := fun k => at_ ≤ k ∧ k ≤ 140737488355328 ∧ untilS s c (s.size - k) k = untilS s c (s.size - at_) at_) (env := fun k => [(0, .s s), (1, .i k), (2, .p (.one (.c (.v (.int .u8 c)))))])
  (mem := fun _ => []) (μ := fun k => s.size - k) at_ ⟨Nat.le_refl _, hat, rfl⟩ (into0 (by simp only [go_sem])) ?_
 rintro k ⟨hk, hkb, hu⟩
 simp only [go_sem]
 have hz : s.size ≤ 140737488355328 := hs
 refine ⟨fun h => by omega, fun h1 => ?_, fun h1 => ?_⟩
 ·simp only [Bool.and_eq_true, decide_eq_true_eq, bne_iff_ne, ne_eq] at h1
  refine ⟨k + 1, ⟨by omega, by omega, ?_⟩, by omega, into0 ?_⟩
  ·rw [← hu, show s.size - k = (s.size - (k + 1)) + 1 by omega, untilS, if_pos h1]
  ·simp only [go_sem, w64s (show k < 9223372036854775807 by omega)]
 ·rw [← hu]
  have h1 : ¬ (k < s.size ∧ (((bs s).getD k 0).toNat : Int) ≠ c) := by
   rintro ⟨a, b⟩
   rw [decide_eq_true a] at h1
   simp at h1
   exact b h1
  cases hn : s.size - k with
  | zero => rfl
  | succ n => rw [untilS, if_neg h1]
end Go.Proofs.YtpdcpdngckpgbaaGreat.A
end
