/- The abstract machine: each operation that writes nothing does what it is told to. -/
import Derived.Test.YtioefecijidgkaaAbs2
set_option linter.unusedVariables false
set_option linter.unusedSimpArgs false
namespace Go.Proofs.YtioefecijidgkaaAbs
open Go Go.RowKit

theorem one1_cell {v : Value} (h : one1 v = true) : v.oneCell' = true := by cases v <;> first | rfl | cases h
theorem add_mk (g o n : Nat) : (⟨g, o, none⟩ : Addr).add n = ⟨g, o + n, none⟩ := by unfold Addr.add; split <;> simp_all
theorem add_add' (ad : Addr) (m n : Nat) : (ad.add m).add n = ad.add (m + n) := by
  unfold Addr.add
  by_cases h1 : m = 0 <;> by_cases h2 : n = 0 <;> simp [h1, h2, Nat.add_assoc]
theorem add_block (ad : Addr) (n : Nat) : (ad.add n).block = ad.block := by unfold Addr.add; split <;> rfl
section
variable {P : Program} {w : World}
theorem run_v {s : Sem Value} {x : Value} {w' : World} (h : s.run P w = .ok x w') : (do pure (Next.value (← s)) : Sem Next).run P w = .ok (.value x) w' := by
  simp only [Sem.run_bind, h, Result.andThen_ok, Sem.run_pure]
theorem run_u {s : Sem Unit} {w' : World} (h : s.run P w = .ok () w') : (do s; pure Next.skip : Sem Next).run P w = .ok .skip w' := by
  simp only [Sem.run_bind, h, Result.andThen_ok, Sem.run_pure]
theorem run_under {t : TypeId} {d : TypeDesc} (h : P.underlying t = some d) : (underlying t).run P w = .ok d w := run_underlying h w
theorem run_tinfo {t : TypeId} {i : TypeInfo} (h : P.info? t = some i) : (typeInfo t).run P w = .ok i w := by
  simp [typeInfo, program, Sem.run, h]
theorem run_size {t : TypeId} {n : Nat} (h : sizeT P t = some n) : (sizeOf t).run P w = .ok n w := by
  simp only [sizeT, Option.map_eq_some_iff] at h
  obtain ⟨i, hi, rfl⟩ := h
  simp only [sizeOf, Sem.run_bind, run_tinfo hi, Result.andThen_ok, Sem.run_pure]
theorem run_isAgg {t : TypeId} {b : Bool} (h : aggT P t = some b) : (isAgg t).run P w = .ok b w := by
  simp only [aggT, Option.map_eq_some_iff] at h
  obtain ⟨d, hd, rfl⟩ := h
  simp only [isAgg, Sem.run_bind, run_under hd, Result.andThen_ok]
  cases d <;> rfl
theorem zeroT_spec {t : TypeId} {z : List Value} (h : zeroT P t = some z) : z.all one1 = true ∧ sizeT P t = some z.length ∧ ∃ v, v.cells.toList = z ∧ ∀ w : World, (zeroValue t).run P w = .ok v w := by
  simp only [zeroT, Option.bind_eq_some_iff] at h
  obtain ⟨i, hi, v, hv, h⟩ := h
  split at h
  · rename_i hc
    injection h with h
    subst h
    simp only [Bool.and_eq_true, beq_iff_eq] at hc
    refine ⟨hc.1, by simp [sizeT, hi, hc.2], v, rfl, fun w => ?_⟩
    simp only [zeroValue, Sem.run_bind, run_tinfo hi, Result.andThen_ok, hv, Sem.run_pure]
  · cases h
theorem elemT_spec {t e : TypeId} (h : elemT P t = some e) : P.underlying t = some (.slice e) := by
  simp only [elemT, Option.bind_eq_some_iff] at h
  obtain ⟨d, hd, h⟩ := h
  split at h
  · injection h with h; subst h; exact hd
  · cases h
theorem fieldsT_spec {t : TypeId} {fs : Array Field} (h : fieldsT P t = some fs) : P.underlying t = some (.struct fs) := by
  simp only [fieldsT, Option.bind_eq_some_iff] at h
  obtain ⟨d, hd, h⟩ := h
  split at h
  · injection h with h; subst h; exact hd
  · cases h
theorem isStrT_spec {t : TypeId} (h : isStrT P t = true) : P.underlying t = some .string := by
  unfold isStrT at h
  split at h
  · assumption
  · cases h
theorem isIntT_spec {t : TypeId} {k : IntKind} (h : isIntT P t = some k) : P.underlying t = some (.int k) := by
  simp only [isIntT, Option.bind_eq_some_iff] at h
  obtain ⟨d, hd, h⟩ := h
  split at h
  · injection h with h; subst h; exact hd
  · cases h
end
/-- A pure step: what the operation yields, nothing else having turned. -/
def Gives (P : Program) (I : Im) (σ : List Plc) (o : Oper) (a : Act) (w : World) (r : SV) : Prop := ∃ v, (execOp a.eval o).run P w = .ok (.value v) w ∧ RelS I σ r v
section
variable {P : Program} {I : Im} {σ : List Plc} {e : Nat → SV} {M M' : List Blk} {w : World} {a : Act} {r : SV} {c : Prop} {dst : Option Tmp} {ty : TypeId} {pos : String} {after : Array Edge} {gd : Option (Nat × Bool)}

theorem s_mv (he : RelE I σ e a) {x : Operand} {y : Opd} (hx : compX x = some y) {op : Op} (hop : op = .move x ∨ op = .assign x) : Gives P I σ ⟨dst, op, ty, pos, after, gd⟩ a w (strip true (raw e y)) := by
  refine ⟨a.eval x, ?_, vl_rel he hx⟩
  rcases hop with rfl | rfl <;> simp [execOp]
theorem s_pick (he : RelE I σ e a) {c0 x y : Operand} {C X Y : Opd} (hc : compX c0 = some C) (hx : compX x = some X) (hy : compX y = some Y)
    (h : out e M true (.pick C X Y) = some (r, M', c)) : M' = M ∧ Gives P I σ ⟨dst, .pick c0 x y, ty, pos, after, gd⟩ a w r := by
  simp only [out] at h
  split at h
  · rename_i t ht
    split at h
    · rename_i bx bY h1 h2
      injection h with h
      injection h with h3 h4
      injection h4 with h4 h5
      subst h3; subst h4
      refine ⟨rfl, .bool (bcond t bx bY), ?_, rfl, rfl⟩
      have e0 := vl_v he hc ht
      have key : (if t = true then a.eval x else a.eval y) = .bool (bcond t bx bY) := by
        cases t with
        | true =>
          rw [if_pos rfl]
          exact vl_v he hx (by simpa [bcond] using h1)
        | false =>
          rw [if_neg (by simp)]
          exact vl_v he hy (by simpa [bcond] using h2)
      simp only [execOp, e0, asBool, Sem.run_bind, Sem.run_pure, Result.andThen_ok, key]
    · cases h
  · cases h
theorem binOp_run {op : BinOp} {x y : Value} {v : Value} {t : TypeId} (h : binV op x y = some (v, c)) (hc : c) : (binOp op t x y).run P w = .ok v w ∧ one1 v = true ∧ ∀ X Y, (eqGuard op t X Y x y).run P w = .ok () w := by
  unfold binV at h
  split at h
  · rename_i k a0 k' b0
    split at h
    · simp only [Option.some.injEq, Prod.mk.injEq] at h
      obtain ⟨rfl, rfl⟩ := h
      exact ⟨by simp [binOp, Op.shift, Int.not_lt.2 hc], rfl, fun X Y => by unfold eqGuard; simp⟩
    · simp only [Option.some.injEq, Prod.mk.injEq] at h
      obtain ⟨rfl, rfl⟩ := h
      exact ⟨by simp [binOp, Op.shift, Int.not_lt.2 hc], rfl, fun X Y => by unfold eqGuard; simp⟩
    split at h
    · rename_i hk
      subst hk
      refine ⟨?_, ?_, fun X Y => by unfold eqGuard; cases op <;> simp⟩
      all_goals (cases op <;> simp only [Option.some.injEq, Prod.mk.injEq, reduceCtorEq] at h)
      all_goals first | (obtain ⟨rfl, rfl⟩ := h) | exact h.elim
      all_goals first | rfl | (simp [binOp, Op.intArith, Op.intCmp, Op.intDiv, Op.intBits, hc]; done) | (have := hc; simp_all [binOp, Op.intDiv])
    · cases h
  · refine ⟨?_, ?_, fun X Y => by unfold eqGuard; cases op <;> simp⟩
    all_goals (cases op <;> simp only [Option.some.injEq, Prod.mk.injEq, reduceCtorEq] at h)
    all_goals first | (obtain ⟨rfl, rfl⟩ := h) | exact h.elim
    all_goals first | rfl | (simp [binOp, Op.stringOp]; done) | (have := hc; have hm : IntKind.i64.max = 9223372036854775807 := (by decide); simp [binOp, Op.stringOp, hm]; try omega)
  · cases h
theorem s_bin (he : RelE I σ e a) {x y : Operand} {X Y : Opd} (hx : compX x = some X) (hy : compX y = some Y) {op : BinOp} {t u : TypeId}
    (h : out e M true (.bin op X Y) = some (r, M', c)) (hc : c) : M' = M ∧ Gives P I σ ⟨dst, .binOp op t x y u, ty, pos, after, gd⟩ a w r := by
  simp only [out] at h
  split at h
  · rename_i va vb h1 h2
    split at h
    · rename_i v c' hb
      simp only [Option.some.injEq, Prod.mk.injEq] at h
      obtain ⟨rfl, rfl, rfl⟩ := h
      obtain ⟨hr, ho, hg⟩ := binOp_run (P := P) (w := w) (t := t) hb hc
      refine ⟨rfl, v, ?_, rfl, ho⟩
      simp only [execOp, vl_v he hx h1, vl_v he hy h2]
      refine run_v ?_
      simp only [Sem.run_bind, hg, Result.andThen_ok, hr]
    · cases h
  · cases h
theorem s_un (he : RelE I σ e a) {x : Operand} {X : Opd} (hx : compX x = some X) {op : UnOp} {t : TypeId}
    (h : out e M true (.un op X) = some (r, M', c)) : M' = M ∧ Gives P I σ ⟨dst, .unOp op t x, ty, pos, after, gd⟩ a w r := by
  simp only [out] at h
  split at h
  · rename_i va h1
    split at h
    · rename_i v hb
      simp only [Option.some.injEq, Prod.mk.injEq] at h
      obtain ⟨rfl, rfl, rfl⟩ := h
      have key : (Op.unary op va).run P w = .ok v w ∧ one1 v = true := by
        unfold unV at hb
        split at hb
        · cases op <;> simp at hb
          subst hb
          exact ⟨by simp [Op.unary, Op.intArith], rfl⟩
        · cases op <;> simp at hb
          subst hb
          exact ⟨by simp [Op.unary], rfl⟩
        · cases hb
      refine ⟨rfl, v, ?_, rfl, key.2⟩
      simp only [execOp, vl_v he hx h1]
      exact run_v key.1
    · cases h
  · cases h
theorem s_cvi (he : RelE I σ e a) {x : Operand} {X : Opd} (hx : compX x = some X) {src dstT : TypeId} {k0 k : IntKind} (h1 : P.underlying src = some (.int k0)) (h2 : P.underlying dstT = some (.int k))
    (h : out e M true (.cvi k X) = some (r, M', c)) : M' = M ∧ Gives P I σ ⟨dst, .convert src dstT x, ty, pos, after, gd⟩ a w r := by
  simp only [out] at h
  split at h
  · rename_i k' n hx1
    simp only [Option.some.injEq, Prod.mk.injEq] at h
    obtain ⟨rfl, rfl, rfl⟩ := h
    refine ⟨rfl, .int k (k.wrap n), ?_, rfl, rfl⟩
    simp only [execOp, vl_v he hx hx1]
    refine run_v ?_
    simp [convert, run_under h1, run_under h2, Conv.intToInt]
  · cases h
theorem s_mkf (he : RelE I σ e a) {f : Nat} {first captured : Array Operand} {cs : List Opd} (hf : first.size = 0) (hx : compXs captured.toList = some cs)
    (h : out e M true (.mkf f cs) = some (r, M', c)) : M' = M ∧ Gives P I σ ⟨dst, .makeFunc (.func f) first captured, ty, pos, after, gd⟩ a w r := by
  simp only [out] at h
  split at h
  · rename_i l hl
    simp only [Option.some.injEq, Prod.mk.injEq] at h
    obtain ⟨rfl, rfl, rfl⟩ := h
    have hr := compXs_rel he hx hl
    obtain rfl : first = #[] := Array.eq_empty_of_size_eq_zero hf
    refine ⟨rfl, .func (.func f) #[] (captured.map a.eval), ?_, captured.map a.eval, rfl, by have := hr.1; simpa using this, fun k x hk => ?_⟩
    · simp [execOp, Instr.makeFunc]
    · have hk' : (captured.toList.map a.eval)[k]? = some x := by rw [← Array.toList_map]; simpa using hk
      have hlt : k < l.length := by rw [← hr.1]; exact (List.getElem?_eq_some_iff.1 hk').1
      have hg : l[k]? = some (l.getD k default) := by rw [List.getD_eq_getElem?_getD, List.getElem?_eq_getElem hlt]; rfl
      exact hr.2 k _ x hg hk'
  · cases h
theorem s_ex (he : RelE I σ e a) {x : Operand} {X : Opd} (hx : compX x = some X) {i : Nat}
    (h : out e M true (.ex X i) = some (r, M', c)) (hc : c) : M' = M ∧ Gives P I σ ⟨dst, .extract x i, ty, pos, after, gd⟩ a w r := by
  simp only [out] at h
  split at h
  · rename_i l hl
    simp only [Option.some.injEq, Prod.mk.injEq] at h
    obtain ⟨rfl, rfl, rfl⟩ := h
    have hr := vl_rel he hx
    rw [hl] at hr
    obtain ⟨vs, hv, hs, hr⟩ := hr
    have hi : i < vs.size := by omega
    refine ⟨rfl, vs[i], ?_, hr i _ _ ?_ (Array.getElem?_eq_getElem hi)⟩
    · simp only [execOp, hv]
      refine run_v ?_
      simp [Instr.extract, hi]
    · rw [List.getD_eq_getElem?_getD, List.getElem?_eq_getElem hc]; rfl
  · cases h
theorem run_part {t : TypeId} {g : Bool} {sz off : Nat} {l : List AV} {cs : Array Value} (hg : aggT P t = some g) (hz : sizeT P t = some sz) (hr : RelL I σ l cs.toList) (hl : off + sz ≤ l.length) (h1 : g = false → sz = 1) :
    ∃ v, (part t cs off).run P w = .ok v w ∧ RelP I σ (if g = true then .agg ((l.drop off).take sz) else .one (l.getD off default)) v := by
  have hsz : cs.size = l.length := by have := hr.1; simpa using this
  cases g with
  | true =>
    refine ⟨.agg (cs.extract off (off + sz)), ?_, _, rfl, ?_, fun k u x hu hx => ?_⟩
    · simp only [part, Sem.run_bind, run_isAgg hg, Result.andThen_ok, if_true, run_size hz, Sem.run_pure]
    · simp; omega
    · simp only [List.getElem?_take, List.getElem?_drop] at hu
      split at hu
      · refine hr.2 (off + k) u x hu ?_
        have hx' : (List.take sz (List.drop off cs.toList))[k]? = some x := by simpa using hx
        rw [List.getElem?_take, List.getElem?_drop] at hx'
        rename_i hk
        rw [if_pos hk] at hx'
        exact hx'
      · cases hu
  | false =>
    have := h1 rfl
    have hlt : off < cs.size := by omega
    refine ⟨cs[off], ?_, ?_⟩
    · simp only [part, Sem.run_bind, run_isAgg hg, Result.andThen_ok, Bool.false_eq_true, if_false, Array.getElem?_eq_getElem hlt, Sem.run_pure]
    · rw [if_neg (by simp)]
      refine hr.2 off _ _ ?_ (by simp [hlt])
      rw [List.getD_eq_getElem?_getD, List.getElem?_eq_getElem (by omega : off < l.length)]; rfl
theorem s_fld (he : RelE I σ e a) {x : Operand} {X : Opd} (hx : compX x = some X) {t : TypeId} {fs : Array Field} {i : Nat} {f : Field} {sz : Nat} {g : Bool} (ht : P.underlying t = some (.struct fs)) (hf : fs[i]? = some f) (hz : sizeT P f.type = some sz) (hg : aggT P f.type = some g)
    (h : out e M true (.fld g f.offset sz X) = some (r, M', c)) (hc : c) : M' = M ∧ Gives P I σ ⟨dst, .field t x i, ty, pos, after, gd⟩ a w r := by
  simp only [out] at h
  split at h
  · rename_i l hl
    simp only [Option.some.injEq, Prod.mk.injEq] at h
    obtain ⟨rfl, rfl, rfl⟩ := h
    have hr := vl_rel he hx
    rw [hl] at hr
    obtain ⟨cs, hv, hr⟩ := hr
    obtain ⟨v, h1, h2⟩ := run_part (P := P) (w := w) hg hz hr hc.1 hc.2
    refine ⟨rfl, v, ?_, h2⟩
    simp only [execOp, hv]
    refine run_v ?_
    simp only [Instr.field, Sem.run_bind, run_under ht, Result.andThen_ok, hf, asAgg, Sem.run_pure, h1]
  · cases h
theorem s_mn (he : RelE I σ e a) {x y : Operand} {X Y : Opd} (hx : compX x = some X) (hy : compX y = some Y) {args : Array Operand} (ha : args.toList = [x, y]) {ts : Array TypeId}
    (h : out e M true (.mn X Y) = some (r, M', c)) : M' = M ∧ Gives P I σ ⟨dst, .call { callee := .builtin .min, args := args, argTypes := ts }, ty, pos, after, gd⟩ a w r := by
  obtain rfl : args = #[x, y] := Array.toList_inj.1 (by simpa using ha)
  simp only [out] at h
  split at h
  · rename_i k p k' q h1 h2
    simp only [Option.some.injEq, Prod.mk.injEq] at h
    obtain ⟨rfl, rfl, rfl⟩ := h
    refine ⟨rfl, _, ?_, rfl, rfl⟩
    simp [execOp, resolve, invoke, builtin, vl_v he hx h1, vl_v he hy h2, Builtin.min_, Builtin.min2, List.foldlM]
  · cases h
theorem s_mx (he : RelE I σ e a) {x y : Operand} {X Y : Opd} (hx : compX x = some X) (hy : compX y = some Y) {args : Array Operand} (ha : args.toList = [x, y]) {ts : Array TypeId}
    (h : out e M true (.mx X Y) = some (r, M', c)) : M' = M ∧ Gives P I σ ⟨dst, .call { callee := .builtin .max, args := args, argTypes := ts }, ty, pos, after, gd⟩ a w r := by
  obtain rfl : args = #[x, y] := Array.toList_inj.1 (by simpa using ha)
  simp only [out] at h
  split at h
  · rename_i k p k' q h1 h2
    simp only [Option.some.injEq, Prod.mk.injEq] at h
    obtain ⟨rfl, rfl, rfl⟩ := h
    refine ⟨rfl, _, ?_, rfl, rfl⟩
    simp [execOp, resolve, invoke, builtin, vl_v he hx h1, vl_v he hy h2, Builtin.max_, Builtin.max2, List.foldlM]
  · cases h
end
end Go.Proofs.YtioefecijidgkaaAbs
