/- The abstract machine: cuts of slices and strings; structs and slices written out. -/
import Derived.Test.YtioefecijidgkaaAbs5
set_option linter.unusedVariables false
set_option linter.unusedSimpArgs false
namespace Go.Proofs.YtioefecijidgkaaAbs
open Go Go.RowKit
section
variable {P : Program} {I : Im} {σ : List Plc} {e : Nat → SV} {M M' : List Blk} {w : World} {a : Act} {r : SV} {c : Prop} {dst : Option Tmp} {ty : TypeId} {pos : String} {after : Array Edge} {gd : Option (Nat × Bool)}
theorem bound_val (he : RelE I σ e a) {lo : Option Operand} {LO : Option Opd} (h : compXo lo = some LO) {d l : Int} (hb : bnd (fun x => strip true (raw e x)) d LO = some l) : (lo.map a.eval = none ∧ l = d) ∨ ∃ k, lo.map a.eval = some (.int k l) := by
  cases lo with
  | none =>
    injection h with h
    subst h
    injection hb with hb
    exact .inl ⟨rfl, hb.symm⟩
  | some x =>
    simp only [compXo, Option.map_eq_some_iff] at h
    obtain ⟨y, hy, rfl⟩ := h
    obtain ⟨k, hk⟩ := vl_int he hy hb
    exact .inr ⟨k, by rw [Option.map_some, hk]⟩
theorem bound_run {k : IntKind} {l : Int} {y : Nat} {code : BoundsCode} (h0 : 0 ≤ l) (h1 : l ≤ y) : (Instr.sliceBound (.int k l) y code).run P w = .ok l.toNat w := by
  simp only [Instr.sliceBound, asIntOf, Sem.run_bind, Sem.run_pure, Result.andThen_ok]
  rw [if_pos ⟨h0, h1⟩]
  simp
theorem bounds_run (he : RelE I σ e a) {lo hi : Option Operand} {LO HI : Option Opd} (hlo : compXo lo = some LO) (hhi : compXo hi = some HI) {len cap : Nat} {l h : Int} {b : Bool}
    (hl : bnd (fun x => strip true (raw e x)) 0 LO = some l) (hh : bnd (fun x => strip true (raw e x)) len HI = some h) (h0 : 0 ≤ l) (h1 : l ≤ h) (h2 : h ≤ cap) :
    (Instr.sliceBounds b len cap (lo.map a.eval) (hi.map a.eval) none).run P w = .ok (l.toNat, h.toNat, cap) w := by
  rcases bound_val he hlo hl with ⟨e1, rfl⟩ | ⟨k1, e1⟩
  · rcases bound_val he hhi hh with ⟨e2, rfl⟩ | ⟨k2, e2⟩
    · simp [e1, e2, Instr.sliceBounds]
    · rw [e1, e2]
      simp only [Instr.sliceBounds, Sem.run_bind, Sem.run_pure, Result.andThen_ok, Option.isSome_none, Bool.false_eq_true, if_false]
      rw [bound_run (by omega) (by omega)]
      simp
  · rcases bound_val he hhi hh with ⟨e2, rfl⟩ | ⟨k2, e2⟩
    · rw [e1, e2]
      simp only [Instr.sliceBounds, Sem.run_bind, Sem.run_pure, Result.andThen_ok, Option.isSome_none, Bool.false_eq_true, if_false]
      rw [bound_run (by omega) (by omega)]
      simp
    · rw [e1, e2]
      simp only [Instr.sliceBounds, Sem.run_bind, Sem.run_pure, Result.andThen_ok, Option.isSome_none, Bool.false_eq_true, if_false]
      rw [bound_run (by omega) (by omega)]
      simp only [Result.andThen_ok]
      rw [bound_run (by omega) (by omega)]
      simp
theorem s_sls (he : RelE I σ e a) {x : Operand} {X : Opd} (hx : compX x = some X) {lo hi : Option Operand} {LO HI : Option Opd} (hlo : compXo lo = some LO) (hhi : compXo hi = some HI) {t : TypeId} (ht : isStrT P t = true)
    (h : out e M true (.sls X LO HI) = some (r, M', c)) (hc : c) : M' = M ∧ Gives P I σ ⟨dst, .slice t x lo hi none, ty, pos, after, gd⟩ a w r := by
  simp only [out] at h
  split at h
  · rename_i s hs
    split at h
    · rename_i l h' hl hh
      simp only [Option.some.injEq, Prod.mk.injEq] at h
      obtain ⟨rfl, rfl, rfl⟩ := h
      obtain ⟨h0, h1, h2⟩ := hc
      refine ⟨rfl, .string (s.extract l.toNat h'.toNat), ?_, rfl, rfl⟩
      simp only [execOp, vl_v he hx hs]
      refine run_v ?_
      simp only [Instr.sliceAt, Instr.slice, Sem.run_bind, run_under (isStrT_spec ht), Result.andThen_ok, Option.map_none, Option.isSome_none, Bool.false_eq_true, if_false]
      rw [bounds_run he hlo hhi hl hh h0 h1 h2]
      simp
    · cases h
  · cases h
theorem s_slc (hm : Mem I σ M w) (he : RelE I σ e a) {x : Operand} {X : Opd} (hx : compX x = some X) {lo hi : Option Operand} {LO HI : Option Opd} (hlo : compXo lo = some LO) (hhi : compXo hi = some HI) {t el : TypeId} {sz : Nat} (ht : elemT P t = some el) (hz : sizeT P el = some sz)
    (h : out e M true (.slc sz X LO HI) = some (r, M', c)) (hc : c) : M' = M ∧ Gives P I σ ⟨dst, .slice t x lo hi none, ty, pos, after, gd⟩ a w r := by
  simp only [out] at h
  split at h
  · rename_i sz' n cf hs
    split at h
    · rename_i l h' hl hh
      simp only [Option.some.injEq, Prod.mk.injEq] at h
      obtain ⟨rfl, rfl, rfl⟩ := h
      obtain ⟨rfl, h0, h1, h2⟩ := hc
      obtain ⟨A, cap, hv, hcap, hr⟩ := vl_one he hx hs
      refine ⟨rfl, .slice (if cap = l.toNat then A else A.map (·.add (l.toNat * sz'))) (h'.toNat - l.toNat) (cap - l.toNat), ?_, _, _, rfl, by omega, ?_⟩
      · simp only [execOp, hv]
        refine run_v ?_
        simp only [Instr.sliceAt, Instr.slice, Sem.run_bind, run_under (elemT_spec ht), Result.andThen_ok, Option.map_none]
        rw [bounds_run he hlo hhi hl hh h0 h1 (by omega)]
        simp only [Result.andThen_ok, run_size hz, Sem.run_pure]
      · by_cases hz0 : h'.toNat - l.toNat = 0
        · exact .inl hz0
        · rcases hr with hr | ⟨ad, rfl, hr⟩
          · omega
          · refine .inr ⟨ad.add (l.toNat * sz'), by rw [if_neg (by omega)]; rfl, fun i hi j hj => ?_⟩
            obtain ⟨x, hx1, hx2⟩ := hr (l.toNat + i) (by omega) j hj
            refine ⟨x, ?_, hx2⟩
            rw [add_add', show l.toNat * sz' + (i * sz' + j) = (l.toNat + i) * sz' + j by rw [Nat.add_mul]; omega]
            exact hx1
    · cases h
  · rename_i sz' b ver off n hs
    split at h
    · rename_i l h' sz2 rs hv hl hh hrow
      simp only [Option.some.injEq, Prod.mk.injEq] at h
      obtain ⟨rfl, rfl, rfl⟩ := h
      obtain ⟨t', ver', fb, hMb, rfl⟩ := rowsAt_spec hrow
      obtain ⟨rfl, rfl, h0, h1, h2⟩ := hc
      obtain ⟨_, p, hp, hpv, hq⟩ := vl_one he hx hs
      obtain ⟨p', hp', q1, q2, q3, q4, q5, q6⟩ := mem_rows hm hMb
      obtain rfl : p = p' := by rw [hp] at hp'; injection hp'
      obtain ⟨e1, e2, e3⟩ := hq q2
      have h2' : h' ≤ ((p.cap - off : Nat) : Int) := by rcases h2 with h2 | h2 <;> omega
      by_cases hlh : l = h' ∧ l ≠ 0
      · rw [if_pos hlh]
        refine ⟨rfl, .slice (if p.cap - off = l.toNat then p.blk.map (fun g => (⟨g, off * sz', none⟩ : Addr)) else (p.blk.map (fun g => (⟨g, off * sz', none⟩ : Addr))).map (·.add (l.toNat * sz'))) 0 (p.cap - off - l.toNat), ?_, _, _, rfl, Nat.zero_le _, .inl rfl⟩
        simp only [execOp, e3]
        refine run_v ?_
        simp only [Instr.sliceAt, Instr.slice, Sem.run_bind, run_under (elemT_spec ht), Result.andThen_ok, Option.map_none]
        rw [bounds_run he hlo hhi hl hh h0 h1 h2']
        have e5 : h'.toNat - l.toNat = 0 := by omega
        simp only [Result.andThen_ok, run_size hz, Sem.run_pure, e5]
      rw [if_neg hlh]
      have h3 : l = 0 ∨ l < ((p.cap - off : Nat) : Int) := by
        by_cases h0' : l = 0
        · exact .inl h0'
        · have : l ≠ h' := fun e => hlh ⟨e, h0'⟩
          exact .inr (by omega)
      have e4 : (if p.cap - off = l.toNat then p.blk.map (fun g => (⟨g, off * sz', none⟩ : Addr)) else (p.blk.map (fun g => (⟨g, off * sz', none⟩ : Addr))).map (·.add (l.toNat * sz'))) = p.blk.map (fun g => (⟨g, (off + l.toNat) * sz', none⟩ : Addr)) := by
        rcases h3 with h3 | h3
        · subst h3
          cases p.blk <;> simp [Addr.add]
        · rw [if_neg (by omega)]
          cases p.blk <;> simp [addr_sub]
      refine ⟨rfl, .slice (p.blk.map (fun g => (⟨g, (off + l.toNat) * sz', none⟩ : Addr))) (h'.toNat - l.toNat) (p.cap - off - l.toNat), ?_, rfl, p, hp, by omega, fun _ => ⟨e1, by omega, by rw [Nat.sub_sub]⟩⟩
      simp only [execOp, e3]
      refine run_v ?_
      simp only [Instr.sliceAt, Instr.slice, Sem.run_bind, run_under (elemT_spec ht), Result.andThen_ok, Option.map_none]
      rw [bounds_run he hlo hhi hl hh h0 h1 h2']
      simp only [Result.andThen_ok, run_size hz, Sem.run_pure, e4]
    · cases h
  · cases h
theorem foldl_list (n : Nat) : ∀ (ys : List (Value × Nat)) (cs : Array Value), (ys.foldl (fun cs (p : Value × Nat) => cs.setIfInBounds (n + p.2) p.1) cs).toList = ys.foldl (fun l (p : Value × Nat) => l.set (n + p.2) p.1) cs.toList
  | [], cs => rfl
  | y :: ys, cs => by
    rw [List.foldl_cons, List.foldl_cons, foldl_list n ys]
    congr 1
    simp
theorem fill_one {y : Value} {cells : Array Value} {off : Nat} : (y.cells.zipIdx.foldl (fun cs (c, j) => cs.setIfInBounds (off + j) c) cells).toList = (y.cells.toList.zipIdx).foldl (fun l (c, j) => l.set (off + j) c) cells.toList := by
  rw [← Array.foldl_toList, Array.toList_zipIdx]
  exact foldl_list off _ _
theorem fillParts_run (he : RelE I σ e a) {fs : Array Field} {pl : Nat → Option (Nat × Nat)} (hpl : ∀ (i : Nat) (f : Field) (sz : Nat), fs[i]? = some f → sizeT P f.type = some sz → pl i = some (f.offset, sz)) :
    ∀ {ps : List (Nat × Operand)} {qs : List (Nat × Nat × Opd)} {l l' : List AV} {cells : Array Value} {c : Prop}, partsS P fs ps = some qs → fillParts (fun x => strip true (raw e x)) l qs = some (l', c) → c → RelL I σ l cells.toList →
      ∃ cells', Instr.fill pl cells (ps.map fun (i, x) => (i, a.eval x)) = some cells' ∧ RelL I σ l' cells'.toList
  | [], qs, l, l', cells, c, hp, hf, hc, hr => by
    injection hp with hp
    subst hp
    simp only [fillParts, Option.some.injEq, Prod.mk.injEq] at hf
    obtain ⟨rfl, rfl⟩ := hf
    exact ⟨cells, rfl, hr⟩
  | (i, x) :: ps, qs, l, l', cells, c, hp, hf, hc, hr => by
    simp only [partsS, Option.bind_eq_some_iff, Option.map_eq_some_iff] at hp
    obtain ⟨f, hfi, sz, hz, X, hX, qs, hq, rfl⟩ := hp
    simp only [fillParts] at hf
    split at hf
    · rename_i q hq2
      simp only [Option.map_eq_some_iff, Prod.mk.injEq, Prod.exists] at hf
      obtain ⟨l1, c1, hf, rfl, rfl⟩ := hf
      obtain ⟨⟨hc1, hc2⟩, hc3⟩ := hc
      have hv := vl_rel he hX
      rw [hq2] at hv
      have hrel := RelP_cells hv
      have hsz : (a.eval x).cells.size = sz := by rw [← Array.length_toList, hrel.1, hc1]
      have hcs : cells.size = l.length := by rw [← Array.length_toList]; exact hr.1
      have hr2 := RelL_fill (off := f.offset) hr hrel
      rw [← fill_one] at hr2
      obtain ⟨cells', h1, h2⟩ := fillParts_run he hpl hq hf hc3 hr2
      refine ⟨cells', ?_, h2⟩
      simp only [List.map_cons, Instr.fill, hpl i f sz hfi hz]
      rw [if_neg (by simp only [hsz, hcs, ne_eq, not_true_eq_false, decide_false, Bool.false_or, decide_eq_true_eq]; omega)]
      exact h1
    · cases hf
theorem mapM_fields {w : World} : ∀ (fs : List Field), (∀ f ∈ fs, ∃ n, sizeT P f.type = some n) → (fs.mapM fun f => do pure (f.offset, ← sizeOf f.type) : Sem (List (Nat × Nat))).run P w = .ok (fs.map fun f => (f.offset, (sizeT P f.type).getD 0)) w
  | [], _ => by simp
  | f :: fs, h => by
    obtain ⟨n, hn⟩ := h f (by simp)
    have ih := mapM_fields (w := w) fs (fun g hg => h g (by simp [hg]))
    rw [List.mapM_cons]
    simp only [Sem.run_bind, run_size hn, Result.andThen_ok, Sem.run_pure, ih, List.map_cons, hn, Option.getD_some]
theorem s_bld (he : RelE I σ e a) {t : TypeId} {parts : Array (Nat × Operand)} {fs : Array Field} {z : List Value} {ps : List (Nat × Nat × Opd)} (ht : P.underlying t = some (.struct fs)) (hzz : zeroT P t = some z) (hall : fs.toList.all (fun f => (sizeT P f.type).isSome) = true) (hp : partsS P fs parts.toList = some ps)
    (h : out e M true (.bld z ps) = some (r, M', c)) (hc : c) : M' = M ∧ Gives P I σ ⟨dst, .build t parts, ty, pos, after, gd⟩ a w r := by
  simp only [out] at h
  split at h
  · rename_i l c' hf
    simp only [Option.some.injEq, Prod.mk.injEq] at h
    obtain ⟨rfl, rfl, rfl⟩ := h
    obtain ⟨h1, h2, v, hv, hrun⟩ := zeroT_spec hzz
    have hsome : ∀ f ∈ fs.toList, ∃ n, sizeT P f.type = some n := fun f hf => Option.isSome_iff_exists.1 (List.all_eq_true.1 hall f hf)
    have hpl : ∀ (i : Nat) (f : Field) (sz : Nat), fs[i]? = some f → sizeT P f.type = some sz → (fs.map fun f => (f.offset, (sizeT P f.type).getD 0))[i]? = some (f.offset, sz) := by
      intro i f sz hi hz
      simp [Array.getElem?_map, hi, hz]
    obtain ⟨cells', e1, e2⟩ := fillParts_run he hpl hp hf hc (cells := v.cells) (by rw [hv]; exact RelL_zc h1)
    refine ⟨rfl, .agg cells', ?_, cells', rfl, e2⟩
    simp only [execOp]
    refine run_v ?_
    have e3 : (fs.mapM fun f => do pure (f.offset, ← sizeOf f.type) : Sem (Array (Nat × Nat))).run P w = .ok (fs.map fun f => (f.offset, (sizeT P f.type).getD 0)) w := by
      rw [Array.mapM_eq_mapM_toList]
      simp only [Sem.run_map, mapM_fields (w := w) fs.toList hsome, Result.andThen_ok]
      congr 1
      apply Array.ext'
      simp
    have e4 : (parts.map fun (i, x) => (i, a.eval x)).toList = parts.toList.map fun (i, x) => (i, a.eval x) := by simp
    simp only [Instr.build, Sem.run_bind, hrun, Result.andThen_ok, run_under ht, e3, e4, e1, Sem.run_pure]
  · cases h
/-- Rows of cells, one behind the other. -/
def RelR (I : Im) (σ : List Plc) (sz : Nat) (l : List (List AV)) (cs : Array Value) : Prop := cs.size = l.length * sz ∧ ∀ (i : Nat) (r : List AV), l[i]? = some r → r.length = sz ∧ ∀ (j : Nat) (u : AV), r[j]? = some u → ∃ x, cs[i * sz + j]? = some x ∧ RelA I σ u x
theorem zip_get (n : Nat) : ∀ (ys : List Value) (l : List Value) (k m : Nat), n + m + ys.length ≤ l.length → ((ys.zipIdx m).foldl (fun l (p : Value × Nat) => l.set (n + p.2) p.1) l)[k]? = if n + m ≤ k ∧ k < n + m + ys.length then ys[k - (n + m)]? else l[k]?
  | [], l, k, m, h => by simp; intro h1 h2; omega
  | y :: ys, l, k, m, h => by
    simp only [List.length_cons] at h
    rw [List.zipIdx_cons, List.foldl_cons, zip_get n ys _ k (m + 1) (by simp; omega)]
    by_cases h1 : n + (m + 1) ≤ k ∧ k < n + (m + 1) + ys.length
    · rw [if_pos h1, if_pos (by simp only [List.length_cons]; omega), show k - (n + m) = (k - (n + (m + 1))) + 1 by omega, List.getElem?_cons_succ]
    · rw [if_neg h1, List.getElem?_set]
      by_cases h2 : n + m = k
      · subst h2
        simp only [if_true]
        rw [if_pos (by omega), if_pos (by simp only [List.length_cons]; omega)]
        simp
      · simp only []
        rw [if_neg h2, if_neg (by simp only [List.length_cons]; omega)]
theorem fillRows_run (he : RelE I σ e a) {sz : Nat} : ∀ {ps : List (Nat × Operand)} {qs : List (Nat × Opd)} {l l' : List (List AV)} {cells : Array Value} {c : Prop}, partsA ps = some qs → fillRows (fun x => strip true (raw e x)) sz l qs = some (l', c) → c → RelR I σ sz l cells →
      ∃ cells', Instr.fill (fun i => some (i * sz, sz)) cells (ps.map fun (i, x) => (i, a.eval x)) = some cells' ∧ RelR I σ sz l' cells' ∧ l'.length = l.length
  | [], qs, l, l', cells, c, hp, hf, hc, hr => by
    injection hp with hp
    subst hp
    simp only [fillRows, Option.some.injEq, Prod.mk.injEq] at hf
    obtain ⟨rfl, rfl⟩ := hf
    exact ⟨cells, rfl, hr, rfl⟩
  | (i, x) :: ps, qs, l, l', cells, c, hp, hf, hc, hr => by
    simp only [partsA, Option.bind_eq_some_iff, Option.map_eq_some_iff] at hp
    obtain ⟨X, hX, qs, hq, rfl⟩ := hp
    simp only [fillRows] at hf
    split at hf
    · rename_i q hq2
      simp only [Option.map_eq_some_iff, Prod.mk.injEq, Prod.exists] at hf
      obtain ⟨l1, c1, hf, rfl, rfl⟩ := hf
      obtain ⟨⟨hc1, hc2⟩, hc3⟩ := hc
      have hv := vl_rel he hX
      rw [hq2] at hv
      have hrel := RelP_cells hv
      have hvl : (a.eval x).cells.toList.length = sz := by rw [hrel.1, hc1]
      have hsz : (a.eval x).cells.size = sz := by rw [← Array.length_toList]; exact hvl
      have hle : (i + 1) * sz ≤ l.length * sz := Nat.mul_le_mul_right _ hc2
      rw [Nat.add_mul, Nat.one_mul] at hle
      have hfit : i * sz + sz ≤ cells.size := by rw [hr.1]; omega
      obtain ⟨cs1, hcs1⟩ : ∃ cs1 : Array Value, cs1 = (a.eval x).cells.zipIdx.foldl (fun cs (c, j) => cs.setIfInBounds (i * sz + j) c) cells := ⟨_, rfl⟩
      have hlist : cs1.toList = ((a.eval x).cells.toList.zipIdx).foldl (fun l (c, j) => l.set (i * sz + j) c) cells.toList := by rw [hcs1]; exact fill_one
      have hget : ∀ k, cs1[k]? = if i * sz ≤ k ∧ k < i * sz + sz then (a.eval x).cells.toList[k - i * sz]? else cells[k]? := by
        intro k
        have := zip_get (i * sz) (a.eval x).cells.toList cells.toList k 0 (by rw [hvl, Array.length_toList]; omega)
        rw [← Array.getElem?_toList, hlist]
        simp only [Nat.add_zero, hvl] at this
        rw [← Array.getElem?_toList]
        exact this
      have hszs : cs1.size = cells.size := by
        rw [← Array.length_toList, hlist]
        have : ∀ (ys : List (Value × Nat)) (l : List Value), (ys.foldl (fun l (p : Value × Nat) => l.set (i * sz + p.2) p.1) l).length = l.length := by
          intro ys
          induction ys with
          | nil => intro l; rfl
          | cons y ys ih => intro l; rw [List.foldl_cons, ih]; simp
        rw [this, Array.length_toList]
      have hr2 : RelR I σ sz (l.set i q.cells) cs1 := by
        refine ⟨by rw [hszs, hr.1]; simp, fun i' r' hr' => ?_⟩
        rw [List.getElem?_set] at hr'
        by_cases hii : i = i'
        · subst hii
          rw [if_pos rfl, if_pos hc2] at hr'
          injection hr' with hr'
          subst hr'
          refine ⟨hc1, fun j u hu => ?_⟩
          have hj : j < (a.eval x).cells.toList.length := by rw [hrel.1]; exact getElem?_lt hu
          refine ⟨(a.eval x).cells.toList[j], ?_, hrel.2 j u _ hu (List.getElem?_eq_getElem hj)⟩
          rw [hget, if_pos (by omega), show i * sz + j - i * sz = j by omega]
          exact List.getElem?_eq_getElem hj
        · rw [if_neg hii] at hr'
          obtain ⟨h1, h2⟩ := hr.2 i' r' hr'
          refine ⟨h1, fun j u hu => ?_⟩
          have hj : j < sz := by rw [← h1]; exact getElem?_lt hu
          rw [hget, if_neg]
          · exact h2 j u hu
          · rintro ⟨g1, g2⟩
            rcases Nat.lt_or_gt_of_ne hii with hlt | hgt
            · have : (i + 1) * sz ≤ i' * sz := Nat.mul_le_mul_right _ hlt
              rw [Nat.add_mul] at this
              omega
            · have : (i' + 1) * sz ≤ i * sz := Nat.mul_le_mul_right _ hgt
              rw [Nat.add_mul] at this
              omega
      obtain ⟨cells', k1, k2, k3⟩ := fillRows_run he hq hf hc3 hr2
      refine ⟨cells', ?_, k2, by rw [k3]; simp⟩
      simp only [List.map_cons, Instr.fill]
      rw [if_neg (by simp only [hsz, ne_eq, not_true_eq_false, decide_false, Bool.false_or, decide_eq_true_eq]; omega), ← hcs1]
      exact k1
    · cases hf
theorem s_bslT (hm : Mem I σ M w) (he : RelE I σ e a) {t el sz len : Nat} {parts : Array (Nat × Operand)} {z : List Value} {ps : List (Nat × Opd)} (ht : elemT P t = some el) (hz : sizeT P el = some sz) (hzz : zeroT P el = some z) (hp : partsA parts.toList = some ps) (hlen : 0 < len) (hsz0 : 0 < sz) (hbig : len * sz ≤ 16777216)
    {l : List (List AV)} {c' : Prop} (hf : fillRows (fun x => strip true (raw e x)) sz (List.replicate len (zc z)) ps = some (l, c')) (hc : c') : NewT P I σ M ⟨dst, .buildSlice t len parts, ty, pos, after, gd⟩ a w el sz l (mkA sz len) := by
  obtain ⟨h1, h2, v, hv, hrun⟩ := zeroT_spec hzz
  have hzl : z.length = sz := by rw [hz] at h2; injection h2 with h2; exact h2.symm
  have hvs : v.cells.size = sz := by rw [← Array.length_toList, hv, hzl]
  have hr0 : RelR I σ sz (List.replicate len (zc z)) ((Array.range (len * sz)).map (v.cells[· % v.cells.size]!)) := by
    refine ⟨by simp, fun i r hr => ?_⟩
    rw [List.getElem?_replicate] at hr
    split at hr
    · rename_i hi
      injection hr with hr
      subst hr
      refine ⟨by simp [zc, hzl], fun j u hu => ?_⟩
      have hj : j < sz := by have := getElem?_lt hu; simpa [zc, hzl] using this
      have hjz : j < z.length := by omega
      have hle : (i + 1) * sz ≤ len * sz := Nat.mul_le_mul_right _ hi
      rw [Nat.add_mul] at hle
      refine ⟨z[j], ?_, ?_⟩
      · have hmod : (i * sz + j) % sz = j := by rw [Nat.mul_comm, Nat.mul_add_mod, Nat.mod_eq_of_lt hj]
        have hjv : j < v.cells.size := by omega
        have hvj : v.cells[j]? = some z[j] := by rw [← Array.getElem?_toList, hv]; exact List.getElem?_eq_getElem hjz
        rw [Array.getElem?_map, Array.getElem?_range, if_pos (by omega)]
        simp only [Option.map_some, hvs, hmod, Option.some.injEq]
        rw [getElem!_pos v.cells j hjv]
        rw [Array.getElem?_eq_getElem hjv] at hvj
        injection hvj
      · exact (RelL_zc (I := I) (σ := σ) h1).2 j u _ hu (List.getElem?_eq_getElem hjz)
    · cases hr
  obtain ⟨cells', k1, k2, k3⟩ := fillRows_run he hp hf hc hr0
  have hll : l.length = len := by rw [k3]; simp
  have hlm : len ≤ 16777216 := Nat.le_trans (Nat.le_mul_of_pos_right _ hsz0) hbig
  refine turns_newT hm (l := l) (cs := cells') k2.1 (by unfold maxLen; omega) k2.2 (v := .slice (some ⟨w.heap.size, 0, none⟩) len len) ?_ ?_
  · simp only [execOp]
    refine run_v ?_
    have e4 : (parts.map fun (i, x) => (i, a.eval x)).toList = parts.toList.map fun (i, x) => (i, a.eval x) := by simp
    have hne : len * sz ≠ 0 := by have := Nat.mul_pos hlen hsz0; omega
    simp only [Instr.buildSlice, Sem.run_bind, run_under (elemT_spec ht), Result.andThen_ok, run_size hz, Sem.run_ite]
    rw [if_neg (by omega)]
    simp only [Sem.run_pure, Result.andThen_ok, if_neg hne, Sem.run_bind, hrun, e4, k1, newRow, newObj, Sem.run]
    rfl
  · intro σ' b ver h
    rw [hll] at h
    exact rel_mkA σ' b ver h
theorem s_bsl (hm : Mem I σ M w) (he : RelE I σ e a) {t el sz len : Nat} {parts : Array (Nat × Operand)} {z : List Value} {ps : List (Nat × Opd)} (ht : elemT P t = some el) (hz : sizeT P el = some sz) (hzz : zeroT P el = some z) (hp : partsA parts.toList = some ps) (hlen : 0 < len) (hsz0 : 0 < sz) (hbig : len * sz ≤ 16777216)
    (h : out e M true (.bsl el sz len z ps) = some (r, M', c)) (hc : c) : Turns P I σ M ⟨dst, .buildSlice t len parts, ty, pos, after, gd⟩ a w r M' := by
  simp only [out] at h
  split at h
  · rename_i l c' hf
    simp only [Option.some.injEq, Prod.mk.injEq] at h
    obtain ⟨rfl, rfl, rfl⟩ := h
    exact (s_bslT hm he ht hz hzz hp hlen hsz0 hbig hf hc).1
  · cases h
end
end Go.Proofs.YtioefecijidgkaaAbs
