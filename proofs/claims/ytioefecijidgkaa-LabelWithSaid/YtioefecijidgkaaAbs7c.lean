/- The abstract machine: bytes put behind bytes; a string of bytes; a string's runes; memory made to measure; bounds looked at. -/
import Derived.Test.YtioefecijidgkaaAbs7b
import Derived.Lib.LazyBuf
import Derived.Deep.AppendSrc
set_option linter.unusedVariables false
set_option linter.unusedSimpArgs false
namespace Go.Proofs.YtioefecijidgkaaAbs
open Go Go.RowKit
section
variable {P : Program} {I : Im} {σ : List Plc} {e : Nat → SV} {M M' : List Blk} {w : World} {a : Act} {r : SV} {c : Prop} {dst : Option Tmp} {ty : TypeId} {pos : String} {after : Array Edge} {gd : Option (Nat × Bool)}
theorem isNilK_eq {Y : Opd} (h : isNilK Y = true) : Y = .k (.one (.c (.v (.slice none 0 0)))) := by
  unfold isNilK at h
  split at h
  · rfl
  · cases h
theorem s_eqb (he : RelE I σ e a) {x y : Operand} {X Y : Opd} (hx : compX x = some X) (hy : compX y = some Y) {op : BinOp} {t u : TypeId} {neg : Bool} (ht : ((isBoolT P t && !isNilK Y) || (isSlT P t && isNilK Y)) = true) (hop : op = if neg then .neq else .eql)
    (h : out e M true (.eqb neg X Y) = some (r, M', c)) (hc : c) : M' = M ∧ Gives P I σ ⟨dst, .binOp op t x y u, ty, pos, after, gd⟩ a w r := by
  cases hk : isNilK Y with
  | false =>
    rw [hk] at ht
    have ht : isBoolT P t = true := by simpa using ht
    have hbt : P.underlying t = some .bool := by
      unfold isBoolT at ht
      split at ht
      · assumption
      · cases ht
    simp only [out, hk, Bool.false_eq_true, if_false] at h
    split at h
    · rename_i a1 b1 h1 h2
      simp only [Option.some.injEq, Prod.mk.injEq] at h
      obtain ⟨rfl, rfl, rfl⟩ := h
      refine ⟨rfl, .bool (xor neg (a1 == b1)), ?_, rfl, rfl⟩
      simp only [execOp, vl_v he hx h1, vl_v he hy h2]
      refine run_v ?_
      have heq : (Op.equal t (.bool a1) (.bool b1)).run P w = .ok (a1 == b1) w := eq1_run (P := P) (I := I) (σ := σ) (w := w) (d := 9999) (k := 0) (x := .c (.v (.bool a1))) (y := .c (.v (.bool b1))) (by simp [leafK, hbt]) rfl ⟨rfl, rfl⟩ ⟨rfl, rfl⟩
      subst hop
      cases neg
      · have : binOp .eql t (.bool a1) (.bool b1) = (do pure (.bool (← Op.equal t (.bool a1) (.bool b1)))) := rfl
        show (do eqGuard .eql t x y (.bool a1) (.bool b1); binOp .eql t (.bool a1) (.bool b1)).run P w = _
        rw [this]
        simp [eqGuard, heq]
      · have : binOp .neq t (.bool a1) (.bool b1) = (do pure (.bool (!(← Op.equal t (.bool a1) (.bool b1))))) := rfl
        show (do eqGuard .neq t x y (.bool a1) (.bool b1); binOp .neq t (.bool a1) (.bool b1)).run P w = _
        rw [this]
        simp [eqGuard, heq]
    · cases h
    · cases h
    · cases h
  | true =>
    rw [hk] at ht
    have ht : isSlT P t = true := by simpa using ht
    obtain ⟨el, hel⟩ : ∃ el, P.underlying t = some (.slice el) := by
      unfold isSlT at ht
      split at ht
      · exact ⟨_, by assumption⟩
      · cases ht
    obtain rfl := isNilK_eq hk
    have hyv : a.eval y = .slice none 0 0 := vl_v he hy (v := .slice none 0 0) rfl
    have key : ∀ (A : Option Addr) (n cap : Nat), a.eval x = .slice A n cap → (execOp a.eval ⟨dst, .binOp op t x y u, ty, pos, after, gd⟩).run P w = .ok (.value (.bool (xor neg A.isNone))) w := by
      intro A n cap hxv
      simp only [execOp, hxv, hyv]
      refine run_v ?_
      subst hop
      cases neg
      · show (do eqGuard .eql t x y (.slice A n cap) (.slice none 0 0); binOp .eql t (.slice A n cap) (.slice none 0 0)).run P w = _
        simp [eqGuard, run_eql_slice_nil w t el A n cap hel]
      · show (do eqGuard .neq t x y (.slice A n cap) (.slice none 0 0); binOp .neq t (.slice A n cap) (.slice none 0 0)).run P w = _
        simp [eqGuard, run_neq_slice_nil w t el A n cap hel]
    simp only [out, isNilK, if_true] at h
    split at h
    · cases h
    · rename_i sz n cc h1
      simp only [Option.some.injEq, Prod.mk.injEq] at h
      obtain ⟨rfl, rfl, rfl⟩ := h
      obtain ⟨A, cap, hxv, _, hA⟩ := vl_one he hx h1
      obtain ⟨ad, rfl, _⟩ := hA.resolve_left (by omega)
      exact ⟨rfl, _, key _ _ _ hxv, by simp, rfl⟩
    · rename_i h1
      simp only [Option.some.injEq, Prod.mk.injEq] at h
      obtain ⟨rfl, rfl, rfl⟩ := h
      have hxv : a.eval x = .slice none 0 0 := vl_v he hx h1
      exact ⟨rfl, _, key _ _ _ hxv, by simp, rfl⟩
    · cases h
theorem bounds3_run (he : RelE I σ e a) {lo hi : Option Operand} {mx : Operand} {LO HI : Option Opd} {MX : Opd} (hlo : compXo lo = some LO) (hhi : compXo hi = some HI) (hmx : compX mx = some MX) {len cap : Nat} {l h m : Int} {b : Bool}
    (hl : bnd (fun x => strip true (raw e x)) 0 LO = some l) (hh : bnd (fun x => strip true (raw e x)) len HI = some h) (hm : intOfS (strip true (raw e MX)) = some m) (hs : HI.isSome = true) (h0 : 0 ≤ l) (h1 : l ≤ h) (h2 : h ≤ m) (h3 : m ≤ cap) :
    (Instr.sliceBounds b len cap (lo.map a.eval) (hi.map a.eval) (some (a.eval mx))).run P w = .ok (l.toNat, h.toNat, m.toNat) w := by
  obtain ⟨km, em⟩ := vl_int he hmx hm
  rw [em]
  have hhi2 : ∃ k, hi.map a.eval = some (.int k h) := by
    rcases bound_val he hhi hh with ⟨e2, rfl⟩ | h
    · cases hi with
      | none => injection hhi with hhi; subst hhi; cases hs
      | some hi => simp at e2
    · exact h
  obtain ⟨k2, e2⟩ := hhi2
  rcases bound_val he hlo hl with ⟨e1, rfl⟩ | ⟨k1, e1⟩
  · rw [e1, e2]
    simp only [Instr.sliceBounds, Sem.run_bind, Sem.run_pure, Result.andThen_ok]
    rw [bound_run (by omega) (by omega)]
    simp only [Result.andThen_ok]
    rw [bound_run (by omega) (by omega)]
    simp
  · rw [e1, e2]
    simp only [Instr.sliceBounds, Sem.run_bind, Sem.run_pure, Result.andThen_ok]
    rw [bound_run (by omega) (by omega)]
    simp only [Result.andThen_ok]
    rw [bound_run (by omega) (by omega)]
    simp only [Result.andThen_ok]
    rw [bound_run (by omega) (by omega)]
    simp
theorem s_s3 (hm : Mem I σ M w) (he : RelE I σ e a) {x : Operand} {X : Opd} (hx : compX x = some X) {lo hi : Option Operand} {mx : Operand} {LO HI : Option Opd} {MX : Opd} (hlo : compXo lo = some LO) (hhi : compXo hi = some HI) (hmx : compX mx = some MX) (hs : HI.isSome = true) {t el : TypeId} {sz : Nat} (ht : elemT P t = some el) (hz : sizeT P el = some sz)
    (h : out e M true (.s3 X LO HI (some MX)) = some (r, M', c)) (hc : c) : M' = M ∧ Gives P I σ ⟨dst, .slice t x lo hi (some mx), ty, pos, after, gd⟩ a w r := by
  simp only [out] at h
  split at h
  · rename_i sz' b ver off n hl0
    split at h
    · rename_i l h' m sz2 rs hv hl hh hm2 hrow
      simp only [Option.some.injEq, Prod.mk.injEq] at h
      obtain ⟨rfl, rfl, rfl⟩ := h
      obtain ⟨t', ver', fb, hMb, rfl⟩ := rowsAt_spec hrow
      obtain ⟨rfl, h0, h1, h2, h3⟩ := hc
      obtain ⟨_, p, hp, hpv, hq⟩ := vl_one he hx hl0
      obtain ⟨p', hp', q1, q2, q3, q4, q5, q6⟩ := mem_rows hm hMb
      obtain rfl : p = p' := by rw [hp] at hp'; injection hp'
      obtain ⟨e1, e2, e3⟩ := hq q2
      refine ⟨rfl, .slice (if m.toNat = l.toNat then p.blk.map (fun g => (⟨g, off * sz', none⟩ : Addr)) else (p.blk.map (fun g => (⟨g, off * sz', none⟩ : Addr))).map (·.add (l.toNat * sz))) (h'.toNat - l.toNat) (m.toNat - l.toNat), ?_, trivial⟩
      · simp only [execOp, e3]
        refine run_v ?_
        simp only [Instr.sliceAt, Instr.slice, Sem.run_bind, run_under (elemT_spec ht), Result.andThen_ok, Option.map_some]
        rw [bounds3_run (b := true) he hlo hhi hmx hl hh hm2 hs h0 h1 h2 (by omega)]
        simp only [Result.andThen_ok, run_size hz, Sem.run_pure]
    · cases h
  · rename_i sz' n cf hl0
    split at h
    · rename_i l h' m hl hh hm2
      simp only [Option.some.injEq, Prod.mk.injEq] at h
      obtain ⟨rfl, rfl, rfl⟩ := h
      obtain ⟨h0, h1, h2, h3⟩ := hc
      obtain ⟨A, cap, hv, hcap, _⟩ := vl_one he hx hl0
      refine ⟨rfl, .slice (if m.toNat = l.toNat then A else A.map (·.add (l.toNat * sz))) (h'.toNat - l.toNat) (m.toNat - l.toNat), ?_, trivial⟩
      · simp only [execOp, hv]
        refine run_v ?_
        simp only [Instr.sliceAt, Instr.slice, Sem.run_bind, run_under (elemT_spec ht), Result.andThen_ok, Option.map_some]
        rw [bounds3_run (b := true) he hlo hhi hmx hl hh hm2 hs h0 h1 h2 (by omega)]
        simp only [Result.andThen_ok, run_size hz, Sem.run_pure]
    · cases h
  · cases h
theorem s_mksT (hm : Mem I σ M w) (he : RelE I σ e a) {x y : Operand} {X Y : Opd} (hx : compX x = some X) (hy : compX y = some Y) (hxy : sameX X Y = true) {t el : TypeId} {i : TypeInfo} {z : List Value} (ht : elemT P t = some el) (hi : P.info? el = some i) (hzz : zeroT P el = some z) (hs0 : 0 < i.size) (hb0 : 0 < i.bytes)
    {k : IntKind} {n : Int} (hl : strip true (raw e X) = .p (.one (.c (.v (.int k n))))) (hc : 0 ≤ n ∧ n.toNat * i.bytes ≤ 140737488355328) : NewT P I σ M ⟨dst, .makeSlice t x y, ty, pos, after, gd⟩ a w el i.size (List.replicate n.toNat (zc z)) (mkA i.size n.toNat) := by
  obtain ⟨h0, hbig⟩ := hc
  obtain ⟨h1, h2, v, hv, hrun⟩ := zeroT_spec hzz
  have hszz : sizeT P el = some i.size := by simp [sizeT, hi]
  have hzl : z.length = i.size := by rw [hszz] at h2; injection h2 with h2; exact h2.symm
  have hvs : v.cells.size = i.size := by rw [← Array.length_toList, hv, hzl]
  have hvx := vl_v he hx hl
  have hvy : ∃ k', a.eval y = .int k' n := by
    unfold sameX at hxy
    split at hxy
    · simp only [beq_iff_eq] at hxy
      subst hxy
      exact ⟨k, vl_v he hy hl⟩
    · rename_i k1 n1 k2 n2
      simp only [beq_iff_eq] at hxy
      subst hxy
      simp only [raw, strip, SV.p.injEq, Pt.one.injEq, AV.c.injEq, CV.v.injEq, Value.int.injEq] at hl
      obtain ⟨rfl, rfl⟩ := hl
      exact ⟨k2, vl_v he hy rfl⟩
    · cases hxy
  obtain ⟨k', hvy⟩ := hvy
  have hF := RelF_zero (I := I) (σ := σ) (n := n.toNat) h1 hv hzl hs0
  obtain ⟨z1, z2⟩ := zeroCells_get (n := n.toNat) hv hzl hs0
  have hlm : n.toNat ≤ n.toNat * i.bytes := Nat.le_mul_of_pos_right _ hb0
  have hw : IntKind.i64.wrap n = n := by rw [IntKind.wrap_i64]; omega
  refine turns_newT hm (l := List.replicate n.toNat (zc z)) (cs := Builtin.zeroCells v.cells n.toNat) (by rw [← Array.length_toList, z1, List.length_replicate]) (by rw [List.length_replicate]; unfold maxLen; omega) (fun i r h => ⟨(hF.2 i r h).1, fun j u hu => by
    obtain ⟨x, hx, hx2⟩ := (hF.2 i r h).2 j u hu
    exact ⟨x, by simpa using hx, hx2⟩⟩) (v := .slice (some ⟨w.heap.size, 0, none⟩) n.toNat n.toNat) ?_ ?_
  · simp only [execOp, hvx, hvy]
    refine run_v ?_
    have h9 : ¬ ((i.bytes : Int) * n > 2 ^ 48) := by
      have : (i.bytes : Int) * n = ((n.toNat * i.bytes : Nat) : Int) := by rw [Int.natCast_mul, Int.toNat_of_nonneg h0, Int.mul_comm]
      rw [this]
      omega
    have hneg : ¬ n < 0 := by omega
    have hzc : Builtin.zeroCells v.cells n.toNat = (Array.range (n.toNat * i.size)).map (v.cells[· % v.cells.size]!) := by rw [Builtin.zeroCells, hvs]
    have hle : ¬ n > n := by omega
    by_cases hn0 : n.toNat = 0
    · have e0 : ∀ f : Nat → Value, Array.map f (Array.range 0) = #[] := fun f => by simp
      have e1 : Builtin.zeroCells v.cells 0 = #[] := by simp [Builtin.zeroCells]
      simp only [Instr.makeSlice, Sem.run_bind, run_under (elemT_spec ht), Result.andThen_ok, asInt, asIntOf, Sem.run_pure, run_tinfo hi, hw, hneg, h9, hle, decide_false, Bool.or_false, Bool.false_eq_true, if_false, run_askRoom, run_size hszz, hn0, Nat.zero_mul, if_true, newRow, newObj, e0, e1, Sem.run]
      rfl
    · have hne : ¬ n.toNat * i.size = 0 := by have := Nat.mul_pos (Nat.pos_of_ne_zero hn0) hs0; omega
      simp only [Instr.makeSlice, Sem.run_bind, run_under (elemT_spec ht), Result.andThen_ok, asInt, asIntOf, Sem.run_pure, run_tinfo hi, hw, hneg, h9, hle, decide_false, Bool.or_false, Bool.false_eq_true, if_false, run_askRoom, run_size hszz, hne, hrun, newRow, newObj, ← hzc, Sem.run]
      rfl
  · intro σ' b ver h
    rw [List.length_replicate] at h
    exact rel_mkA σ' b ver h
theorem s_mks (hm : Mem I σ M w) (he : RelE I σ e a) {x y : Operand} {X Y : Opd} (hx : compX x = some X) (hy : compX y = some Y) (hxy : sameX X Y = true) {t el : TypeId} {i : TypeInfo} {z : List Value} (ht : elemT P t = some el) (hi : P.info? el = some i) (hzz : zeroT P el = some z) (hs0 : 0 < i.size) (hb0 : 0 < i.bytes)
    (h : out e M true (.mks el i.size i.bytes z X) = some (r, M', c)) (hc : c) : Turns P I σ M ⟨dst, .makeSlice t x y, ty, pos, after, gd⟩ a w r M' := by
  simp only [out] at h
  split at h
  · rename_i k n hl
    simp only [Option.some.injEq, Prod.mk.injEq] at h
    obtain ⟨rfl, rfl, rfl⟩ := h
    exact (s_mksT hm he hx hy hxy ht hi hzz hs0 hb0 hl hc).1
  · cases h
/-- A new row that has room to spare. -/
theorem turns_newF {o : Oper} (hm : Mem I σ M w) {t sz cap d : Nat} {l : List (List AV)} {vs : List Value} {cs : Array Value} (hF : RelF I σ sz l vs) (hcs : ∀ (k : Nat) (x : Value), vs[k]? = some x → cs[k]? = some x) (hs : cs.size = cap * sz) (ho : ∀ (k : Nat) (x : Value), cs[k]? = some x → one1 x = true) (hlc : l.length ≤ cap) (hcm : cap ≤ maxLen)
    {w0 : World} (hw0 : w0 = { w with drawn := d }) (hrun : (execOp a.eval o).run P w = .ok (.value (.slice (some ⟨w.heap.size, 0, none⟩) l.length cap)) (w0.alloc (.cells cs t))) : Turns P I σ M o a w (.p (.one (.arr sz M.length 0 0 l.length))) (M ++ [.rows t sz 0 l false]) := by
  subst hw0
  have hm' : Mem I σ M { w with drawn := d } := hm.keep (S := fun _ => False) ⟨rfl, rfl, rfl, Nat.le_refl _, fun _ _ _ => rfl⟩ (fun _ _ h => h) (fun _ _ _ h => h)
  have hext := ExtP.append σ [⟨some w.heap.size, cap, 0, sz⟩]
  refine ⟨_, _, _, hrun, .inl ⟨_, rfl, ?_⟩, hext, hm'.push _ _ _ rfl ⟨fun h => (by cases h), rfl, rfl, hlc, hcm, fun i r h => (hF.2 i r h).1, cs, heap_alloc_new _ _, hs, ho, fun i r h j u hu => ?_⟩, ?_, fun g h => ?_⟩
  · refine ⟨rfl, ⟨some w.heap.size, cap, 0, sz⟩, ?_, Nat.le_refl _, fun _ => ⟨rfl, by simpa using hlc, ?_⟩⟩
    · rw [List.getElem?_append_right (by rw [hm.len]; exact Nat.le_refl _)]
      simp only [hm.len, Nat.sub_self, List.getElem?_cons_zero]
    · simp
  · obtain ⟨x, hx, h2⟩ := (hF.2 i r h).2 j u hu
    exact ⟨x, hcs _ _ hx, RelA_mono (ExtI.refl _) hext h2⟩
  · exact ⟨rfl, rfl, rfl, by simp, fun k hk _ => heap_alloc_old { w with drawn := d } _ hk⟩
  · rcases Has.push hm.len rfl h with h | h
    · exact .inl h
    · exact .inr (by omega)
theorem s_apz (hm : Mem I σ M w) (he : RelE I σ e a) {x y : Operand} {X Y : Opd} (hx : compX x = some X) (hy : compX y = some Y) {args : Array Operand} {ts : Array TypeId} {t u el : TypeId} {i : TypeInfo} {z : List Value} (ha : args.toList = [x, y]) (hts : ts.toList = [t, u]) (ht : elemT P t = some el) (hu : (isIntT P u).isSome = true) (hi : P.info? el = some i) (hzz : zeroT P el = some z) (hs0 : 0 < i.size) (hb0 : 0 < i.bytes)
    (h : out e M true (.apz el i.size i.bytes z X Y) = some (r, M', c)) (hc : c) : Turns P I σ M ⟨dst, .call { callee := .builtin .append, args := args, argTypes := ts }, ty, pos, after, gd⟩ a w r M' := by
  obtain rfl : args = #[x, y] := Array.toList_inj.1 (by simpa using ha)
  obtain rfl : ts = #[t, u] := Array.toList_inj.1 (by simpa using hts)
  simp only [out] at h
  split at h
  · rename_i sz' b ver off len k hl hk
    split at h
    · rename_i t' sz2 ver' l hMb
      simp only [Option.some.injEq, Prod.mk.injEq] at h
      obtain ⟨rfl, rfl, rfl⟩ := h
      obtain ⟨rfl, rfl, rfl, hle, hno, hk0, hbig⟩ := hc
      obtain ⟨kk, hkv⟩ := vl_int he hy hk
      obtain ⟨p, olds, hp, hps, hyv, hF, hone, hfc⟩ := own_src hm hMb (vl_one he hx hl) hs0 hle
      have hcap := (hm.blk b _ p hMb hp).1 rfl
      obtain ⟨kn, hkn⟩ := Option.isSome_iff_exists.1 hu
      obtain ⟨h1, h2, v, hv, hrun⟩ := zeroT_spec hzz
      have hszz : sizeT P el = some i.size := by simp [sizeT, hi]
      have hzl : z.length = i.size := by rw [hszz] at h2; injection h2 with h2; exact h2.symm
      have hz0 : i.zero = some v := by
        have hr2 := hrun w
        simp only [zeroT, hi, Option.bind_some, Option.bind_eq_some_iff] at hzz
        obtain ⟨v2, hv2, _⟩ := hzz
        simp only [zeroValue, Sem.run_bind, run_tinfo hi, Result.andThen_ok, hv2, Sem.run_pure] at hr2
        injection hr2 with hr2
        rw [hv2, hr2]
      have hol : olds.length = len * i.size := by rw [hF.1, List.length_take, List.length_drop]; congr 1; omega
      have hlb : len + k.toNat ≤ (len + k.toNat) * i.bytes := Nat.le_mul_of_pos_right _ hb0
      have hkb : k.toNat * i.bytes ≤ (len + k.toNat) * i.bytes := Nat.mul_le_mul_right _ (by omega)
      have happ := Lib.run_append_grow_zeros (P := P) w t u ty el i v kk kn (elemT_spec ht) (isIntT_spec hkn) hi hz0 (p.blk.map fun g => ⟨g, off * i.size, none⟩) len (p.cap - off) olds (by rw [← hyv]; exact hfc _ (fun _ => rfl)) k.toNat (by omega) hs0 (by omega) (by omega) (by omega) (growslice_fits (by omega) hbig)
      have hkc : (k.toNat : Int) = k := Int.toNat_of_nonneg (by omega)
      rw [hkc] at happ
      have hFz := RelF_zero (I := I) (σ := σ) (n := k.toNat) h1 hv hzl hs0
      have hFF := hF.append hFz
      have hvs : v.cells.size = i.size := by rw [← Array.length_toList, hv, hzl]
      have hll : ((l.drop off).take len ++ List.replicate k.toNat (zc z)).length = len + k.toNat := by rw [List.length_append, List.length_take, List.length_drop, List.length_replicate]; omega
      have hge := grownCap_ge w (len + k.toNat) (p.cap - off) el
      have key := turns_newF (P := P) (a := a) (o := ⟨dst, .call { callee := .builtin .append, args := #[x, y], argTypes := #[t, u] }, ty, pos, after, gd⟩) hm (t := el) (cap := grownCap w (len + k.toNat) (p.cap - off) el) (cs := olds.toArray ++ Builtin.zeroCells v.cells k.toNat ++ Builtin.zeroCells v.cells (grownCap w (len + k.toNat) (p.cap - off) el - (len + k.toNat))) (w0 := w.drew) (d := w.drew.drawn) hFF (fun k x hx => by
          rw [← Array.getElem?_toList]
          simp only [Array.toList_append]
          rw [List.getElem?_append_left (by have := getElem?_lt hx; simpa using this)]
          exact hx) (by simp only [Array.size_append, List.size_toArray, size_zeroCells, hvs, hol]; rw [← Nat.add_mul, ← Nat.add_mul]; congr 1; omega) (fun k x hk => by
          rw [← Array.getElem?_toList] at hk
          have hx := List.mem_of_getElem? hk
          simp only [Array.toList_append] at hx
          rcases List.mem_append.1 hx with hx | hx
          · rcases List.mem_append.1 hx with hx | hx
            · exact hone x hx
            · exact zeroCells_one h1 hv hzl hs0 x hx
          · exact zeroCells_one h1 hv hzl hs0 x hx) (by rw [hll]; exact hge) (grownCap_le_maxLen _ _ _ _ (by unfold maxLen; omega)) rfl (exec_builtin (f := Builtin.append_) (fun _ _ => rfl) (by
            simp only [List.map_toArray, List.map_cons, List.map_nil]
            rw [hkv, hyv, hll]
            exact happ))
      rw [hll] at key
      exact key
    · cases h
  · cases h
theorem RelF_bytes (s : ByteArray) : RelF I σ 1 (s.data.toList.map byteRow) (byteCells s) := by
  refine ⟨by simp [byteCells], fun i r hr => ?_⟩
  simp only [List.getElem?_map, Option.map_eq_some_iff] at hr
  obtain ⟨b, hb, rfl⟩ := hr
  refine ⟨rfl, fun j u hu => ?_⟩
  have hj : j = 0 := by have := getElem?_lt hu; simp [byteRow] at this; exact this
  subst hj
  simp only [byteRow, List.getElem?_cons_zero, Option.some.injEq] at hu
  subst hu
  exact ⟨.int .u8 b.toNat, by simp [byteCells, hb], rfl, rfl⟩
theorem s_aps (hm : Mem I σ M w) (he : RelE I σ e a) {x y : Operand} {X Y : Opd} (hx : compX x = some X) (hy : compX y = some Y) {args : Array Operand} {ts : Array TypeId} {t u el : TypeId} {i : TypeInfo} {z : List Value} (ha : args.toList = [x, y]) (hts : ts.toList = [t, u]) (ht : elemT P t = some el) (hu : isStrT P u = true) (hi : P.info? el = some i) (hzz : zeroT P el = some z) (h1 : i.size = 1) (hb1 : i.bytes = 1)
    (h : out e M true (.aps el X Y) = some (r, M', c)) (hc : c) : Turns P I σ M ⟨dst, .call { callee := .builtin .append, args := args, argTypes := ts }, ty, pos, after, gd⟩ a w r M' := by
  obtain rfl : args = #[x, y] := Array.toList_inj.1 (by simpa using ha)
  obtain rfl : ts = #[t, u] := Array.toList_inj.1 (by simpa using hts)
  simp only [out] at h
  split at h
  · rename_i sz' b ver off len s hl hs
    split at h
    · rename_i t' sz2 ver' l f hMb
      simp only [Option.some.injEq, Prod.mk.injEq] at h
      obtain ⟨rfl, rfl, rfl⟩ := h
      obtain ⟨rfl, rfl, rfl, rfl, rfl, rfl, hbig⟩ := hc
      have hsv := vl_v he hy hs
      have hsrc : Src P 1 u (.string s) s.size (byteCells s) w := Src.ofString w (isStrT_spec hu) s
      have hrs : (s.data.toList.map byteRow).length = s.size := by rw [List.length_map, Array.length_toList]; rfl
      have hone : ∀ v ∈ byteCells s, one1 v = true := fun v hv => by
        obtain ⟨_, _, rfl⟩ := List.mem_map.1 hv
        rfl
      have key := app_end (P := P) (y := y) (dst := dst) (ty := ty) (pos := pos) (after := after) (gd := gd) (b := b) (ver := ver') (l := l) (f := f) (rs := s.data.toList.map byteRow) (m := s.size) (news := byteCells s) (u := u) hm ht hi hzz (by omega) (by rw [h1]; exact hMb) (by rw [h1]; exact vl_one he hx hl) (by rw [h1, hsv]; exact hsrc) (by rw [h1]; exact RelF_bytes s) hrs hone hbig (by rw [hb1]; omega)
      rw [h1] at key
      exact key
    · cases h
  · cases h
theorem rowsBytes_spec : ∀ {rs : List (List AV)} {bs : List UInt8} {vs : List Value}, rowsBytes rs = some bs → RelF I σ 1 rs vs → ∃ ns : List Int, vs = ns.map (.int .u8) ∧ bs = ns.map fun n => UInt8.ofNat n.toNat
  | [], bs, vs, h, hF => by
    injection h with h
    subst h
    have : vs = [] := List.eq_nil_of_length_eq_zero (by rw [hF.1]; rfl)
    subst this
    exact ⟨[], rfl, rfl⟩
  | r :: rs, bs, vs, h, hF => by
    unfold rowsBytes at h
    split at h
    · cases ‹r :: rs = []›
    · rename_i n l hr
      injection hr with hr1 hr2
      subst hr1; subst hr2
      simp only [Option.map_eq_some_iff] at h
      obtain ⟨bs', hb, rfl⟩ := h
      have hl := hF.1
      match vs, hl with
      | [], hl => simp at hl
      | v :: vs, hl =>
        obtain ⟨x, hx, hx2⟩ := (hF.2 0 _ rfl).2 0 _ rfl
        simp only [Nat.zero_mul, Nat.add_zero, List.getElem?_cons_zero, Option.some.injEq] at hx
        subst hx
        obtain ⟨rfl, _⟩ := hx2
        have hF' : RelF I σ 1 rs vs := by
          refine ⟨by simpa using hl, fun i r hr => ?_⟩
          obtain ⟨h1, h2⟩ := hF.2 (i + 1) r (by simpa using hr)
          refine ⟨h1, fun j u hu => ?_⟩
          obtain ⟨x, hx, hx2⟩ := h2 j u hu
          exact ⟨x, by rw [Nat.mul_one] at hx ⊢; rw [show i + 1 + j = (i + j) + 1 by omega, List.getElem?_cons_succ] at hx; exact hx, hx2⟩
        obtain ⟨ns, rfl, rfl⟩ := rowsBytes_spec hb hF'
        exact ⟨n :: ns, rfl, rfl⟩
    · cases h
theorem s_b2s (hm : Mem I σ M w) (he : RelE I σ e a) {x : Operand} {X : Opd} (hx : compX x = some X) {src dt : TypeId} (h1 : bytesT P src = true) (h2 : isStrT P dt = true)
    (h : out e M true (.b2s X) = some (r, M', c)) (hc : c) : M' = M ∧ Gives P I σ ⟨dst, .convert src dt x, ty, pos, after, gd⟩ a w r := by
  obtain ⟨el, hel, hk⟩ : ∃ el, P.underlying src = some (.slice el) ∧ P.underlying el = some (.int .u8) := by
    unfold bytesT at h1
    split at h1
    · rename_i el hel
      split at h1
      · rename_i hk
        exact ⟨el, elemT_spec hel, isIntT_spec hk⟩
      · cases h1
    · cases h1
  simp only [out] at h
  split at h
  · rename_i rs m cy hsrc
    split at h
    · rename_i bs hb
      simp only [Option.some.injEq, Prod.mk.injEq] at h
      obtain ⟨rfl, rfl, rfl⟩ := h
      obtain ⟨A, cap, news, hyv, hrs, hA, hF, hcell, hone⟩ := src_spec hm (by omega) (vl_rel he hx) hsrc hc
      obtain ⟨ns, rfl, rfl⟩ := rowsBytes_spec hb hF
      refine ⟨rfl, .string ⟨(ns.map fun n => UInt8.ofNat n.toNat).toArray⟩, ?_, rfl, rfl⟩
      simp only [execOp, hyv]
      refine run_v ?_
      have hlen : m = ns.length := by have := hF.1; rw [hrs] at this; simpa using this.symm
      have hbs : (Conv.bytesToString (.slice A m cap)).run P w = .ok (.string ⟨(ns.map fun n => UInt8.ofNat n.toNat).toArray⟩) w := by
        cases A with
        | none =>
          have hm0 := hA rfl
          have : ns = [] := List.eq_nil_of_length_eq_zero (by omega)
          subst this
          simp [Conv.bytesToString]
          rfl
        | some ad =>
          have hlc := run_loadCells_list (P := P) w ad (ns.map (.int .u8)) (hcell ad rfl)
          rw [List.length_map, ← hlen] at hlc
          have loop : ∀ (g : Value → ByteArray → Sem (ForInStep ByteArray)), (∀ n s, g (.int .u8 n) s = pure (ForInStep.yield (s.push (UInt8.ofNat n.toNat)))) → ∀ (ns : List Int) (s : ByteArray), (forIn (ns.map (Value.int .u8)) s g : Sem ByteArray).run P w = .ok ⟨s.data ++ (ns.map fun n => UInt8.ofNat n.toNat).toArray⟩ w := by
            intro g hg ns
            induction ns with
            | nil => intro s; simp
            | cons n ns ih =>
              intro s
              simp only [List.map_cons, List.forIn_cons, hg, Sem.run_bind, Sem.run_pure, Result.andThen_ok]
              rw [ih]
              congr 2
              apply Array.ext'
              simp [ByteArray.push]
          simp only [Conv.bytesToString, Sem.run_bind, hlc, Result.andThen_ok]
          rw [← Array.forIn_toList]
          have h6 : (List.map (Value.int .u8) ns).toArray.toList = List.map (Value.int .u8) ns := rfl
          rw [h6, loop _ (fun n s => rfl) ns ByteArray.empty]
          have h7 : ByteArray.empty.data = #[] := rfl
          rw [h7]
          simp
      simp [convert, run_under hel, run_under (isStrT_spec h2), run_under hk, hbs]
    · cases h
  · cases h
theorem s_rng (hm : Mem I σ M w) (he : RelE I σ e a) {x : Operand} {X : Opd} (hx : compX x = some X) {t : TypeId} (ht : isStrT P t = true)
    (h : out e M true (.rng X) = some (r, M', c)) : Turns P I σ M ⟨dst, .range t x, ty, pos, after, gd⟩ a w r M' := by
  simp only [out] at h
  split at h
  · rename_i s hl
    simp only [Option.some.injEq, Prod.mk.injEq] at h
    obtain ⟨rfl, rfl, rfl⟩ := h
    refine ⟨.value (.pointer (some ⟨w.heap.size, 0, none⟩)), σ ++ [⟨some w.heap.size, 0, 0, 0⟩], w.alloc (.stringIter s 0), ?_, .inl ⟨_, rfl, ?_⟩, ExtP.append σ _, hm.push _ _ _ rfl ⟨rfl, _, rfl, heap_alloc_new _ _⟩, Keep.alloc _ _ _, fun g h => ?_⟩
    · simp only [execOp, vl_v he hx hl]
      refine run_v ?_
      simp [Instr.range, run_under (isStrT_spec ht), newObj, Sem.run]
    · refine ⟨rfl, ⟨some w.heap.size, 0, 0, 0⟩, ?_, Nat.le_refl _, fun _ => ⟨w.heap.size, rfl, rfl⟩⟩
      rw [List.getElem?_append_right (by rw [hm.len]; exact Nat.le_refl _)]
      simp only [hm.len, Nat.sub_self, List.getElem?_cons_zero]
    · rcases Has.push hm.len rfl h with h | h
      · exact .inl h
      · exact .inr (by omega)
  · cases h
theorem s_nxt (hm : Mem I σ M w) (he : RelE I σ e a) {x : Operand} {X : Opd} (hx : compX x = some X)
    (h : out e M true (.nxt X) = some (r, M', c)) (hc : c) : Turns P I σ M ⟨dst, .next x true, ty, pos, after, gd⟩ a w r M' := by
  simp only [out] at h
  split at h
  · rename_i b ver i j hl
    split at h
    · rename_i s k hMb
      have hb : b < σ.length := by rw [hm.len]; exact getElem?_lt hMb
      have hp : σ[b]? = some σ[b] := List.getElem?_eq_getElem hb
      obtain ⟨hv0, g, hg, hh⟩ := hm.blk b _ _ hMb hp
      obtain ⟨_, p', hp', hv, hq⟩ := vl_one he hx hl
      obtain rfl : σ[b] = p' := by rw [hp] at hp'; injection hp'
      split at h
      · rename_i hlt
        simp only [Option.some.injEq, Prod.mk.injEq] at h
        obtain ⟨rfl, rfl, rfl⟩ := h
        obtain ⟨rfl, rfl, rfl⟩ := hc
        obtain ⟨g', hg', hy⟩ := hq hv0
        obtain rfl : g = g' := by rw [hg] at hg'; injection hg'
        have hgl : g < w.heap.size := (Array.getElem?_eq_some_iff.1 hh).1
        have hy : a.eval x = .pointer (some ⟨g, 0, none⟩) := by simpa using hy
        have hset : ∀ k', k' ≠ g → (w.heap.setIfInBounds g (.stringIter s (k + (Utf8.decode s k).2)))[k']? = w.heap[k']? := fun k' hk' => by rw [Array.getElem?_setIfInBounds_ne (fun e => hk' e.symm)]
        refine ⟨.value (.tuple #[.bool true, .int .i64 k, .int .i32 (Utf8.decode s k).1]), σ, { w with heap := w.heap.setIfInBounds g (.stringIter s (k + (Utf8.decode s k).2)) }, ?_, .inl ⟨_, rfl, ?_⟩, ExtP.refl _, ⟨by simp [hm.len], ?_, ?_, ?_, ?_⟩, ⟨rfl, rfl, rfl, by simp, fun k' hk' hs => hset k' (fun e => hs ⟨b, _, _, hMb, rfl, hp, by rw [hg, e]⟩)⟩, fun g' hg' => ?_⟩
        · simp only [execOp, hy]
          refine run_v ?_
          simp [Instr.next, getObj, setObj, Sem.run, hh, hlt, goInt]
        · refine ⟨_, rfl, rfl, fun k q x hq hx => ?_⟩
          match k, hq, hx with
          | 0, hq, hx => injection hq with hq; injection hx with hx; subst hq; subst hx; exact ⟨rfl, rfl⟩
          | 1, hq, hx => injection hq with hq; injection hx with hx; subst hq; subst hx; exact ⟨rfl, rfl⟩
          | 2, hq, hx => injection hq with hq; injection hx with hx; subst hq; subst hx; exact ⟨rfl, rfl⟩
          | k + 3, hq, hx => simp at hq
        · intro b' y' p' hy' hp'
          rw [List.getElem?_set] at hy'
          by_cases hbb : b = b'
          · subst hbb
            rw [if_pos rfl, if_pos (getElem?_lt hMb)] at hy'
            injection hy' with hy'
            subst hy'
            obtain rfl : σ[b] = p' := by rw [hp] at hp'; injection hp'
            exact ⟨hv0, g, hg, by simp [hgl]⟩
          · rw [if_neg hbb] at hy'
            refine RelB_mono (ExtI.refl _) (ExtP.refl _) (fun g2 hl2 hg2 => hset g2 (fun e => ?_)) (hm.blk b' y' p' hy' hp')
            exact hbb (hm.inj b b' _ y' _ p' g hMb hy' rfl hl2 hp hp' hg (by rw [hg2, e]))
        · intro b1 b2 y1 y2 p1 p2 g' h1 h2 l1 l2 q1 q2 e1 e2
          have back : ∀ {b0 : Nat} {y0 : Blk}, (M.set b (.sit s (k + (Utf8.decode s k).2)))[b0]? = some y0 → y0.live = true → ∃ z : Blk, M[b0]? = some z ∧ z.live = true := by
            intro b0 y0 h0 l0
            rw [List.getElem?_set] at h0
            by_cases hb : b = b0
            · subst hb; exact ⟨_, hMb, rfl⟩
            · rw [if_neg hb] at h0; exact ⟨_, h0, l0⟩
          obtain ⟨z1, k1, k1'⟩ := back h1 l1
          obtain ⟨z2, k2, k2'⟩ := back h2 l2
          exact hm.inj b1 b2 z1 z2 p1 p2 g' k1 k2 k1' k2' q1 q2 e1 e2
        · intro b0 y0 p0 g0 h0 l0 q0 e0 ad had
          rw [List.getElem?_set] at h0
          by_cases hb : b = b0
          · subst hb; exact hm.ap b _ p0 g0 hMb rfl q0 e0 ad had
          · rw [if_neg hb] at h0; exact hm.ap b0 y0 p0 g0 h0 l0 q0 e0 ad had
        · intro ad x hI
          refine (cell_same (hset ad.block (fun e => ?_))).trans (hm.imm ad x hI)
          have := hm.ap b _ _ g hMb rfl hp hg ad e
          rw [this] at hI
          cases hI
        · obtain ⟨b0, y0, p0, h0, l0, q0, e0⟩ := hg'
          rw [List.getElem?_set] at h0
          by_cases hb : b = b0
          · subst hb
            obtain rfl : σ[b] = p0 := by rw [hp] at q0; injection q0
            exact .inl ⟨b, _, _, hMb, rfl, hp, e0⟩
          · rw [if_neg hb] at h0; exact .inl ⟨b0, y0, p0, h0, l0, q0, e0⟩
      · rename_i hlt
        simp only [Option.some.injEq, Prod.mk.injEq] at h
        obtain ⟨rfl, rfl, rfl⟩ := h
        obtain ⟨rfl, rfl, rfl⟩ := hc
        obtain ⟨g', hg', hy⟩ := hq hv0
        obtain rfl : g = g' := by rw [hg] at hg'; injection hg'
        have hy : a.eval x = .pointer (some ⟨g, 0, none⟩) := by simpa using hy
        refine ⟨.value (.tuple #[.bool false]), σ, w, ?_, .inl ⟨_, rfl, ?_⟩, ExtP.refl _, hm, Keep.refl _ _, fun g h => .inl h⟩
        · simp only [execOp, hy]
          refine run_v ?_
          simp [Instr.next, getObj, Sem.run, hh, hlt]
        · refine ⟨_, rfl, rfl, fun k q x hq hx => ?_⟩
          match k, hq, hx with
          | 0, hq, hx => injection hq with hq; injection hx with hx; subst hq; subst hx; exact ⟨rfl, rfl⟩
          | k + 1, hq, hx => simp at hq
    · cases h
  · cases h
end
end Go.Proofs.YtioefecijidgkaaAbs
