/- The abstract machine: what a call has of its own is lent to a callee that only reads it. -/
import Derived.Test.YtioefecijidgkaaAbs16
set_option linter.unusedVariables false
set_option linter.unusedSimpArgs false
namespace Go.Proofs.YtioefecijidgkaaAbs
open Go Go.RowKit
/-- How a value of one's own looks to whoever only reads it. -/
inductive Snap (M : List Blk) : AV → AV → Prop
  | same (a : AV) : ltA 0 a → Snap M a a
  | arr (sz b ver off len t : Nat) (l : List (List AV)) (fl : Bool) (c : Nat → Nat → CV) : M[b]? = some (.rows t sz ver l fl) → off + len ≤ l.length → (∀ i, i < len → ∀ j, j < sz → Snap M ((l.getD (off + i) []).getD j default) (.c (c i j))) → Snap M (.arr sz b ver off len) (.c (.imm sz len c))
  | ptr (b ver i j n t sz : Nat) (l : List (List AV)) (fl : Bool) (c : Nat → CV) : M[b]? = some (.rows t sz ver l fl) → i < l.length → j + n ≤ (l.getD i []).length → 0 < n → (∀ k, k < n → Snap M ((l.getD i []).getD (j + k) default) (.c (c k))) → Snap M (.ptr b ver i j) (.ip n c)
  | fn (f n : Nat) (caps caps' : Nat → AV) : (∀ k, k < n → Snap M (caps k) (caps' k)) → Snap M (.fn f n caps) (.fn f n caps')
theorem Snap.rel {I : Im} {σ : List Plc} {M : List Blk} {w : World} (hm : Mem I σ M w) {a a' : AV} (h : Snap M a a') : ∀ {y : Value}, RelA I σ a y → RelA (fun ad => w.cell? ad) [] a' y := by
  have hx : ExtI I (fun ad => w.cell? ad) := hm.imm
  induction h with
  | same a ha =>
    intro y hr
    have := RelA_take (n := 0) ha hr
    exact RelA_mono hx (by simpa using ExtP.refl []) (by simpa using this)
  | fn f n caps caps' _ ih =>
    rintro y ⟨cs, e, hs, hr⟩
    refine ⟨cs, e, hs, fun k x hk => ih k ?_ (hr k x hk)⟩
    have := (Array.getElem?_eq_some_iff.1 hk).1
    omega
  | arr sz b ver off len t l fl c hM hle _ ih =>
    rintro y ⟨h1, p, hp, hv, hq⟩
    obtain ⟨k0, k1, k2, k3, k4, k5, k6⟩ := hm.blk b _ p hM hp
    obtain ⟨e1, e2, e3⟩ := hq k2
    refine ⟨_, _, e3, by omega, ?_⟩
    by_cases hl0 : len = 0
    · exact .inl hl0
    · cases hbk : p.blk with
      | none =>
        rw [hbk] at k6
        have k6 : p.cap = 0 := k6
        omega
      | some g =>
        rw [hbk] at k6
        obtain ⟨cs, hh, hs, ho, hcs⟩ := k6
        refine .inr ⟨⟨g, off * sz, none⟩, rfl, fun i hi j hj => ?_⟩
        have hr : l[off + i]? = some (l.getD (off + i) []) := getD_some (by omega)
        have hrs := k5 _ _ hr
        have hu : (l.getD (off + i) [])[j]? = some ((l.getD (off + i) []).getD j default) := getD_some (by omega)
        obtain ⟨x, hx1, hx2⟩ := hcs _ _ hr j _ hu
        refine ⟨x, ?_, ih i hi j hj hx2⟩
        show w.cell? _ = _
        rw [add_mk, cell_of_row w g _ cs t (0, 0) hh, show off * sz + (i * sz + j) = (off + i) * sz + j by rw [Nat.add_mul]; omega]
        exact hx1
  | ptr b ver i j n t sz l fl c hM hi hle hn _ ih =>
    rintro y ⟨h1, p, hp, hv, hq⟩
    obtain ⟨k0, k1, k2, k3, k4, k5, k6⟩ := hm.blk b _ p hM hp
    obtain ⟨g, hg, rfl⟩ := hq k2
    rw [hg] at k6
    obtain ⟨cs, hh, hs, ho, hcs⟩ := k6
    refine ⟨_, rfl, fun k hk => ?_⟩
    have hr : l[i]? = some (l.getD i []) := getD_some (by omega)
    have hu : (l.getD i [])[j + k]? = some ((l.getD i []).getD (j + k) default) := getD_some (by omega)
    obtain ⟨x, hx1, hx2⟩ := hcs _ _ hr (j + k) _ hu
    refine ⟨x, ?_, ih k hk hx2⟩
    show w.cell? _ = _
    rw [add_mk, cell_of_row w g _ cs t (0, 0) hh, k1, show i * sz + j + k = i * sz + (j + k) by omega]
    exact hx1
def SnapP (M : List Blk) : Pt → Pt → Prop
  | .one a, .one a' => Snap M a a'
  | .agg l, .agg l' => l.length = l'.length ∧ ∀ (k : Nat) (a a' : AV), l[k]? = some a → l'[k]? = some a' → Snap M a a'
  | _, _ => False
theorem SnapP.rel {I : Im} {σ : List Plc} {M : List Blk} {w : World} (hm : Mem I σ M w) {q q' : Pt} (h : SnapP M q q') {y : Value} (hr : RelP I σ q y) : RelP (fun ad => w.cell? ad) [] q' y := by
  cases q with
  | one a =>
    cases q' with
    | one a' => exact Snap.rel hm h hr
    | agg l' => exact h.elim
  | agg l =>
    cases q' with
    | one a' => exact h.elim
    | agg l' =>
      obtain ⟨cs, e, h1, h2⟩ := hr
      refine ⟨cs, e, by rw [h1, h.1], fun k a x ha hx => ?_⟩
      have hk : k < l.length := by have := getElem?_lt ha; have := h.1; omega
      exact Snap.rel hm (h.2 k _ a (List.getElem?_eq_getElem hk) ha) (h2 k _ x (List.getElem?_eq_getElem hk) hx)
def SnapL (M : List Blk) : List Pt → List Pt → Prop
  | [], [] => True
  | q :: qs, q' :: qs' => SnapP M q q' ∧ SnapL M qs qs'
  | _, _ => False
theorem SnapL.length {M : List Blk} : ∀ {l l' : List Pt}, SnapL M l l' → l.length = l'.length
  | [], [], _ => rfl
  | q :: qs, q' :: qs', h => by simp [SnapL.length h.2]
theorem SnapL.get {M : List Blk} : ∀ {l l' : List Pt}, SnapL M l l' → ∀ (k : Nat) (q q' : Pt), l[k]? = some q → l'[k]? = some q' → SnapP M q q'
  | q :: qs, q' :: qs', h, 0, x, x', e, e' => by
    injection e with e; injection e' with e'; subst e; subst e'; exact h.1
  | q :: qs, q' :: qs', h, k + 1, x, x', e, e' => SnapL.get h.2 k x x' e e'
def plainA : AV → Prop
  | .c (.v _) => True
  | _ => False
def plainP : Pt → Prop
  | .one a => plainA a
  | .agg l => ∀ a ∈ l, plainA a
def plainS : SV → Prop
  | .p q => plainP q
  | .tup l => ∀ q ∈ l, plainP q
  | _ => False
theorem plainA.rel {I I' : Im} {σ σ' : List Plc} {a : AV} {y : Value} (h : plainA a) (hr : RelA I σ a y) : RelA I' σ' a y := by
  cases a with
  | c x => cases x with
    | v x => exact hr
    | imm _ _ _ => exact h.elim
  | _ => exact h.elim
theorem plainP.rel {I I' : Im} {σ σ' : List Plc} {q : Pt} {y : Value} (h : plainP q) (hr : RelP I σ q y) : RelP I' σ' q y := by
  cases q with
  | one a => exact plainA.rel h hr
  | agg l =>
    obtain ⟨cs, e, h1, h2⟩ := hr
    exact ⟨cs, e, h1, fun k a x ha hx => plainA.rel (h a (List.mem_of_getElem? ha)) (h2 k a x ha hx)⟩
theorem plainS.rel {I I' : Im} {σ σ' : List Plc} {s : SV} {y : Value} (h : plainS s) (hr : RelS I σ s y) : RelS I' σ' s y := by
  cases s with
  | p q => exact plainP.rel h hr
  | tup l =>
    obtain ⟨vs, e, h1, h2⟩ := hr
    exact ⟨vs, e, h1, fun k q x hq hx => plainP.rel (h q (List.mem_of_getElem? hq)) (h2 k q x hq hx)⟩
  | g _ _ => exact h.elim
  | any => exact h.elim
theorem callR_lend {P : Program} {M : List Blk} {f : Nat} {ps ps' : List Pt} {r : SV} (h : CallR P [] f ps' r []) (hs : SnapL M ps ps') (hr : plainS r) : CallR P M f ps r M := by
  intro I σ w vals hG hm hvl hvr
  have hm0 : Mem (fun ad => w.cell? ad) [] [] w := ⟨rfl, fun b x p h => by simp at h, fun b b' x x' p p' g h => by simp at h, fun b x p g h => by simp at h, fun a x h => h⟩
  have hno : ∀ g, ¬ Has ([] : List Plc) [] g := by rintro g ⟨b, x, p, h, _⟩; simp at h
  refine Comes.mono (h _ [] w vals (hG.ext hm.imm) hm0 (by rw [hvl, hs.length]) (fun k q x hq hx => ?_)) ?_
  · have hk : k < ps.length := by have := getElem?_lt hq; have := hs.length; omega
    exact (hs.get k _ q (List.getElem?_eq_getElem hk) hq).rel hm (hvr k _ x (List.getElem?_eq_getElem hk) hx)
  · rintro v w' ⟨I', σ', hrel, hev⟩
    have hk : Keep (fun _ => False) w w' := hev.keep.mono (fun k _ h => hno k h)
    have hm1 := hm.keep hk (fun _ _ h => h) (fun _ _ _ h => h)
    exact ⟨I, σ, hr.rel hrel, ⟨ExtI.refl _, ExtP.refl _, hm1, hk.mono (fun k _ h => h.elim), fun g h => .inl h, fun a x h => .inl h⟩⟩
attribute [go_sem] List.nil_append List.cons_append List.append_nil List.getElem?_cons_zero List.getElem?_cons_succ List.getElem?_nil List.set_cons_zero List.set_cons_succ List.getD_cons_zero List.getD_cons_succ List.map_cons List.map_nil Int.toNat_natCast List.take_succ_cons List.take_zero List.take_nil List.drop_succ_cons List.drop_zero List.drop_nil List.take_length List.replicate_zero List.replicate_succ eq_self and_self Nat.reduceLeDiff Nat.reduceLT Nat.lt_irrefl Nat.le_refl Nat.reduceSub Nat.sub_zero Nat.zero_add Nat.add_zero Nat.lt_add_one Nat.zero_lt_one Int.toNat_zero Int.zero_sub Int.toNat_one Int.reduceToNat Int.natCast_zero Bool.and_true Bool.true_and Bool.or_false Bool.false_or decide_true decide_false decide_eq_true_eq decide_eq_false_iff_not Bool.true_eq_false Bool.false_eq_true not_true_eq_false not_false_eq_true Bool.not_eq_true Bool.not_eq_false Nat.succ_eq_add_one Int.reducePow Nat.reducePow Int.ofNat_lt Int.ofNat_le Int.ofNat_inj srcRows Int.natCast_one beq_self_eq_true Int.reduceBEq Nat.reduceBEq beq_iff_eq beq_eq_false_iff_ne ne_eq List.drop_length bne_iff_ne Nat.sub_self immRows false_implies true_implies gt_iff_lt ge_iff_le Nat.not_lt_zero Int.le_refl Int.reduceLE Int.reduceLT Int.reduceNeg false_and and_false or_true true_or or_false false_or
attribute [go_sem] SnapL SnapP plainS plainP plainA List.mem_cons forall_eq_or_imp List.not_mem_nil false_imp_iff forall_eq
end Go.Proofs.YtioefecijidgkaaAbs
