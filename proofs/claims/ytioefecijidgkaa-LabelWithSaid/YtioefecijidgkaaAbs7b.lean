/- The abstract machine: operations on bytes, on strings' runes, on structs; memory made to measure. -/
import Derived.Test.YtioefecijidgkaaAbs7a
import Derived.Laws.StructEq
set_option linter.unusedVariables false
set_option linter.unusedSimpArgs false
namespace Go.Proofs.YtioefecijidgkaaAbs
open Go Go.RowKit
section
variable {P : Program} {I : Im} {σ : List Plc} {e : Nat → SV} {M M' : List Blk} {w : World} {a : Act} {r : SV} {c : Prop} {dst : Option Tmp} {ty : TypeId} {pos : String} {after : Array Edge} {gd : Option (Nat × Bool)}
theorem leafK_spec {t : TypeId} {k : Nat} (h : leafK P t = some k) : (k = 0 → P.underlying t = some .bool) ∧ (k = 1 → ∃ q, P.underlying t = some (.int q)) ∧ (k = 2 → P.underlying t = some .string) := by
  simp only [leafK, Option.bind_eq_some_iff] at h
  obtain ⟨d, hd, h⟩ := h
  split at h <;> first | (cases h; done) | (injection h with h; subst h; simp [hd])
theorem eqCells_cons {k : Nat} {ks : List Nat} {x y : AV} {l l' : List AV} {b : Bool} (h : eqCells (k :: ks) (x :: l) (y :: l') = some b) : ∃ u b', eq1 k x y = some u ∧ eqCells ks l l' = some b' ∧ b = (u && b') := by
  unfold eqCells at h
  split at h
  · rename_i u b' h1 h2
    injection h with h
    exact ⟨u, b', h1, h2, h.symm⟩
  · cases h
theorem eq1_run {k : Nat} {x y : AV} {u : Bool} {vx vy : Value} {t : TypeId} {d : Nat} (hk : leafK P t = some k) (h : eq1 k x y = some u) (hx : RelA I σ x vx) (hy : RelA I σ y vy) : (Op.equalIn (d + 1) t vx vy).run P w = .ok u w := by
  obtain ⟨k0, k1, k2⟩ := leafK_spec hk
  unfold eq1 at h
  split at h
  · injection h with h
    obtain ⟨rfl, _⟩ := hx
    obtain ⟨rfl, _⟩ := hy
    subst h
    simp [Op.equalIn, run_under (k0 rfl)]
  · split at h
    · rename_i hkk
      injection h with h
      obtain ⟨rfl, _⟩ := hx
      obtain ⟨rfl, _⟩ := hy
      subst h
      obtain ⟨q, hq⟩ := k1 rfl
      simp [Op.equalIn, run_under hq, hkk]
    · cases h
  · injection h with h
    obtain ⟨rfl, _⟩ := hx
    obtain ⟨rfl, _⟩ := hy
    subst h
    rw [← beq_toListBytes]
    simp [Op.equalIn, run_under (k2 rfl)]
  · cases h
theorem eqCells_len : ∀ {ks : List Nat} {l l' : List AV} {b : Bool}, eqCells ks l l' = some b → l.length = ks.length ∧ l'.length = ks.length
  | [], [], [], b, h => ⟨rfl, rfl⟩
  | [], [], _ :: _, b, h => by simp [eqCells] at h
  | [], _ :: _, _, b, h => by simp [eqCells] at h
  | k :: ks, x :: l, y :: l', b, h => by
    obtain ⟨u, b', h1, h2, _⟩ := eqCells_cons h
    have := eqCells_len h2
    simp [this.1, this.2]
  | _ :: _, [], _, b, h => by simp [eqCells] at h
  | _ :: _, _ :: _, [], b, h => by simp [eqCells] at h
theorem eqCells_append : ∀ {ks ks' : List Nat} {l l' : List AV} {b : Bool}, eqCells (ks ++ ks') l l' = some b → ∃ u v, eqCells ks (l.take ks.length) (l'.take ks.length) = some u ∧ eqCells ks' (l.drop ks.length) (l'.drop ks.length) = some v ∧ b = (u && v)
  | [], ks', l, l', b, h => ⟨true, b, by simp [eqCells], by simpa using h, by simp⟩
  | k :: ks, ks', x :: l, y :: l', b, h => by
    obtain ⟨u, b', h1, h2, h3⟩ := eqCells_cons h
    obtain ⟨u2, v, h4, h5, h6⟩ := eqCells_append (ks := ks) h2
    refine ⟨u && u2, v, ?_, by simpa using h5, by rw [h3, h6, Bool.and_assoc]⟩
    simp only [List.length_cons, List.take_succ_cons, eqCells, h1, h4]
  | _ :: _, _, [], _, b, h => by simp [eqCells] at h
  | _ :: _, _, _ :: _, [], b, h => by simp [eqCells] at h
/-- Cells of a type, as a point. -/
def ptl (P : Program) (t : TypeId) (x : List AV) : Pt := if aggT P t = some true then .agg x else .one (x.getD 0 default)
/-- Types whose equality is that of plain cells. -/
def EqOk (P : Program) (I : Im) (σ : List Plc) (w : World) (d : Nat) (g : TypeId → Option (List Nat)) : Prop :=
  ∀ (t : TypeId) (ks : List Nat), g t = some ks → (∃ b, aggT P t = some b ∧ (b = false → ks.length = 1)) ∧ ∀ (x y : List AV) (u : Bool) (vx vy : Value), eqCells ks x y = some u → RelP I σ (ptl P t x) vx → RelP I σ (ptl P t y) vy → (Op.equalIn (d + 1) t vx vy).run P w = .ok u w
theorem fields_run {g : TypeId → Option (List Nat)} {xs ys : Array Value} {d : Nat} {L L' : List AV} (hg : EqOk P I σ w d g) (hl : RelL I σ L xs.toList) (hl' : RelL I σ L' ys.toList) :
    ∀ {fs : List Field} {i : Nat} {ks : List Nat} {b : Bool}, flatG P g i fs = some ks → eqCells ks (L.drop i) (L'.drop i) = some b →
    ∃ r, (forIn fs ((none : Option Bool), ()) fun f __s =>
            if f.name ≠ "_" then do
              let __do_lift ← part f.type xs f.offset
              let __do_lift_1 ← part f.type ys f.offset
              let __do_lift ← Op.equalIn (d + 1) f.type __do_lift __do_lift_1
              if (!__do_lift) = true then pure (ForInStep.done (some false, ())) else pure (ForInStep.yield (none, ()))
            else pure (ForInStep.yield (none, ())) : Sem (Option Bool × Unit)).run P w = .ok r w ∧ r.1.getD true = b
  | [], i, ks, b, hf, he => by
    injection hf with hf
    subst hf
    refine ⟨(none, ()), by simp, ?_⟩
    obtain ⟨h1, h2⟩ := eqCells_len he
    rw [List.eq_nil_of_length_eq_zero h1, List.eq_nil_of_length_eq_zero h2] at he
    simp [eqCells] at he
    simp [he]
  | f :: fs, i, ks, b, hf, he => by
    simp only [flatG, Option.bind_eq_some_iff] at hf
    obtain ⟨k, hk, hf⟩ := hf
    split at hf
    · rename_i hc
      simp only [Option.map_eq_some_iff] at hf
      obtain ⟨ks', hks, rfl⟩ := hf
      simp only [Bool.and_eq_true, bne_iff_ne, ne_eq, beq_iff_eq] at hc
      obtain ⟨⟨⟨hn, ho⟩, hs⟩, hpos⟩ := hc
      have hpos := of_decide_eq_true hpos
      obtain ⟨u, v, hu, hv, rfl⟩ := eqCells_append he
      obtain ⟨⟨gb, hgb, h1⟩, heqs⟩ := hg _ _ hk
      have hlen := eqCells_len hu
      simp only [List.length_take, List.length_drop] at hlen
      have hpart : ∀ {zs : Array Value} {Z : List AV}, RelL I σ Z zs.toList → k.length ≤ Z.length - i → ∃ v, (part f.type zs f.offset).run P w = .ok v w ∧ RelP I σ (ptl P f.type ((Z.drop i).take k.length)) v := by
        intro zs Z hz hle
        · obtain ⟨v, hv1, hv2⟩ := run_part (w := w) (off := f.offset) hgb hs hz (by omega) h1
          refine ⟨v, hv1, ?_⟩
          rw [ho] at hv2
          unfold ptl
          rw [hgb]
          cases gb with
          | true => simpa using hv2
          | false =>
            have hk1 := h1 rfl
            simp only [Option.some.injEq, Bool.false_eq_true, if_false] at hv2 ⊢
            have : ((Z.drop i).take k.length).getD 0 default = Z.getD i default := by
              simp [List.getD_eq_getElem?_getD, List.getElem?_take, hk1]
            rw [this]
            exact hv2
      obtain ⟨vx, hx1, hx2⟩ := hpart hl (by omega)
      obtain ⟨vy, hy1, hy2⟩ := hpart hl' (by omega)
      have heq := heqs _ _ _ _ _ hu hx2 hy2
      rw [List.forIn_cons]
      simp only [ne_eq, hn, not_false_eq_true, if_true, Sem.run_bind, hx1, hy1, heq, Result.andThen_ok]
      cases u with
      | false => exact ⟨(some false, ()), by simp, by simp⟩
      | true =>
        obtain ⟨r, hr, hrb⟩ := fields_run hg hl hl' hks (by rw [List.drop_drop, List.drop_drop] at hv; exact hv)
        refine ⟨r, ?_, by simpa using hrb⟩
        simp only [Bool.not_true, Bool.false_eq_true, if_false, Sem.run_pure, Result.andThen_ok]
        exact hr
    · cases hf
theorem struct_eq {g : TypeId → Option (List Nat)} {t : TypeId} {fs : Array Field} {xs ys : Array Value} {d : Nat} {L L' : List AV} {ks : List Nat} {b : Bool} (hfs : fieldsT P t = some fs) (hst : P.stoodInHeld t = false) (hg : EqOk P I σ w d g) (hl : RelL I σ L xs.toList) (hl' : RelL I σ L' ys.toList)
    (hf : flatG P g 0 fs.toList = some ks) (he : eqCells ks L L' = some b) : (Op.equalIn (d + 2) t (.agg xs) (.agg ys)).run P w = .ok b w := by
  obtain ⟨r1, hr1, hr2⟩ := fields_run hg hl hl' hf (b := b) (by simpa using he)
  unfold Op.equalIn
  simp only [Sem.run_bind, run_under (fieldsT_spec hfs), Result.andThen_ok, program]
  rw [← Array.forIn_toList]
  have e1 : ∀ {α : Type} (f : Program → World → Result α), (Result.ok P w).andThen (fun a w' => f a w') = f P w := fun f => rfl
  have e2 : (Sem.run P program w) = .ok P w := rfl
  simp only [Sem.run, hst, Bool.false_eq_true, if_false, Result.andThen_ok]
  show (Sem.run P (forIn fs.toList ((none : Option Bool), ()) _ >>= _) w) = _
  rw [Sem.run_bind, hr1]
  obtain ⟨r1a, r1b⟩ := r1
  cases r1a <;> simp_all
theorem leaf_eq {t : TypeId} {ks : List Nat} {d : Nat} (h : ((leafK P t).bind fun k => if sizeT P t == some 1 && aggT P t == some false then some [k] else none) = some ks) : (∃ b, aggT P t = some b ∧ (b = false → ks.length = 1)) ∧ ∀ (x y : List AV) (u : Bool) (vx vy : Value), eqCells ks x y = some u → RelP I σ (ptl P t x) vx → RelP I σ (ptl P t y) vy → (Op.equalIn (d + 1) t vx vy).run P w = .ok u w := by
  simp only [Option.bind_eq_some_iff] at h
  obtain ⟨k, hk, h⟩ := h
  split at h
  · rename_i hc
    injection h with h
    subst h
    simp only [Bool.and_eq_true, beq_iff_eq] at hc
    refine ⟨⟨false, hc.2, fun _ => rfl⟩, fun x y u vx vy he hx hy => ?_⟩
    have hl := eqCells_len he
    match x, y, hl with
    | [x], [y], _ =>
      obtain ⟨u', v, h1, h2, rfl⟩ := eqCells_cons he
      simp [eqCells] at h2
      subst h2
      unfold ptl at hx hy
      rw [hc.2] at hx hy
      rw [Bool.and_true]
      exact eq1_run hk h1 hx hy
  · cases h
theorem eqOk_flat : ∀ (n d : Nat), n ≤ d → EqOk P I σ w d (flatT P n)
  | 0, d, _ => fun t ks h => leaf_eq h
  | n + 1, d, hd => by
    intro t ks h
    unfold flatT at h
    split at h
    · rename_i fs hfs
      split at h
      · rename_i hc
        simp only [Bool.and_eq_true, Bool.not_eq_true', beq_iff_eq] at hc
        refine ⟨⟨true, hc.2, fun h => by cases h⟩, fun x y u vx vy he hx hy => ?_⟩
        unfold ptl at hx hy
        rw [hc.2] at hx hy
        obtain ⟨xs, rfl, hx⟩ := hx
        obtain ⟨ys, rfl, hy⟩ := hy
        obtain ⟨d, rfl⟩ : ∃ d', d = d' + 1 := ⟨d - 1, by omega⟩
        exact struct_eq hfs hc.1 (eqOk_flat n d (by omega)) hx hy h he
      · cases h
    · exact leaf_eq h
theorem s_eqa (he : RelE I σ e a) {x y : Operand} {X Y : Opd} (hx : compX x = some X) (hy : compX y = some Y) {op : BinOp} {t u : TypeId} {ks : List Nat} {neg : Bool} (ht : flatS P t = some ks) (hop : op = if neg then .neq else .eql)
    (h : out e M true (.eqa ks neg X Y) = some (r, M', c)) : M' = M ∧ Gives P I σ ⟨dst, .binOp op t x y u, ty, pos, after, gd⟩ a w r := by
  simp only [out] at h
  split at h
  · rename_i l l' h1 h2
    split at h
    · rename_i b hb
      simp only [Option.some.injEq, Prod.mk.injEq] at h
      obtain ⟨rfl, rfl, rfl⟩ := h
      have hvx := vl_rel he hx
      have hvy := vl_rel he hy
      rw [h1] at hvx
      rw [h2] at hvy
      obtain ⟨xs, ex, hrx⟩ := hvx
      obtain ⟨ys, ey, hry⟩ := hvy
      simp only [flatS, Option.bind_eq_some_iff] at ht
      obtain ⟨fs, hfs, ht⟩ := ht
      split at ht
      · rename_i hcd
        simp only [Bool.and_eq_true, Bool.not_eq_true'] at hcd
        have hgd : (eqGuard op t x y (a.eval x) (a.eval y)).run P w = .ok () w := by
          rw [ex, ey]
          unfold eqGuard
          subst hop
          cases neg <;> simp [program, Sem.run, hcd.2]
        have heq : (Op.equal t (a.eval x) (a.eval y)).run P w = .ok b w := by
          rw [ex, ey]
          exact struct_eq (d := 9998) hfs hcd.1 (eqOk_flat 2 9998 (by omega)) hrx hry ht hb
        refine ⟨rfl, .bool (xor neg b), ?_, rfl, rfl⟩
        simp only [execOp]
        refine run_v ?_
        simp only [Sem.run_bind, hgd, Result.andThen_ok]
        subst hop
        cases neg
        · show (binOp .eql t (a.eval x) (a.eval y)).run P w = _
          have : binOp .eql t (a.eval x) (a.eval y) = (do pure (.bool (← Op.equal t (a.eval x) (a.eval y)))) := by rw [ex, ey]; rfl
          rw [this]
          simp [heq]
        · show (binOp .neq t (a.eval x) (a.eval y)).run P w = _
          have : binOp .neq t (a.eval x) (a.eval y) = (do pure (.bool (!(← Op.equal t (a.eval x) (a.eval y))))) := by rw [ex, ey]; rfl
          rw [this]
          simp [heq]
      · cases ht
    · cases h
  · cases h
end
end Go.Proofs.YtioefecijidgkaaAbs
