/- The abstract machine: operations on rows that are full, on bytes, on strings' runes, on structs. -/
import Derived.Test.YtioefecijidgkaaAbs7
import Derived.Lib.AppendZerosOnto
set_option linter.unusedVariables false
set_option linter.unusedSimpArgs false
namespace Go.Proofs.YtioefecijidgkaaAbs
open Go Go.RowKit
section
variable {P : Program} {I : Im} {σ : List Plc} {e : Nat → SV} {M M' : List Blk} {w : World} {a : Act} {r : SV} {c : Prop} {dst : Option Tmp} {ty : TypeId} {pos : String} {after : Array Edge} {gd : Option (Nat × Bool)}
theorem s_bsl0T (hm : Mem I σ M w) {t el sz : Nat} {parts : Array (Nat × Operand)} {z : List Value} (ht : elemT P t = some el) (hz : sizeT P el = some sz) (hp : parts.size = 0)
    : NewT P I σ M ⟨dst, .buildSlice t 0 parts, ty, pos, after, gd⟩ a w el sz [] (mkA sz 0) := by
  obtain rfl : parts = #[] := Array.eq_empty_of_size_eq_zero hp
  refine turns_newT hm (l := []) (cs := #[]) (by simp) (by simp) (fun i r h => by simp at h) (v := .slice (some ⟨w.heap.size, 0, none⟩) 0 0) ?_ ?_
  · simp only [execOp]
    refine run_v ?_
    simp only [Instr.buildSlice, Sem.run_bind, run_under (elemT_spec ht), Result.andThen_ok, run_size hz, Sem.run_ite]
    have e0 : ∀ f : Nat → Value, Array.map f (Array.range 0) = #[] := fun f => by simp
    simp [Instr.fill, newRow, newObj, Sem.run]
    exact congrArg (fun x => w.alloc (Obj.cells x el)) (e0 _)
  · exact fun σ' b ver h => rel_mkA σ' b ver h
theorem s_bsl0 (hm : Mem I σ M w) {t el sz : Nat} {parts : Array (Nat × Operand)} {z : List Value} (ht : elemT P t = some el) (hz : sizeT P el = some sz) (hp : parts.size = 0)
    (h : out e M true (.bsl el sz 0 z []) = some (r, M', c)) (hc : c) : Turns P I σ M ⟨dst, .buildSlice t 0 parts, ty, pos, after, gd⟩ a w r M' := by
  simp only [out, fillRows, List.replicate_zero, Option.some.injEq, Prod.mk.injEq] at h
  obtain ⟨rfl, rfl, rfl⟩ := h
  exact (s_bsl0T (z := z) hm ht hz hp).1
theorem s_cap (hm : Mem I σ M w) (he : RelE I σ e a) {x : Operand} {X : Opd} (hx : compX x = some X) {args : Array Operand} {ts : Array TypeId} {t el : TypeId} (ha : args.toList = [x]) (hts : ts.toList = [t]) (ht : elemT P t = some el)
    (h : out e M true (.cap X) = some (r, M', c)) (hc : c) : M' = M ∧ Gives P I σ ⟨dst, .call { callee := .builtin .cap, args := args, argTypes := ts }, ty, pos, after, gd⟩ a w r := by
  obtain rfl : args = #[x] := Array.toList_inj.1 (by simpa using ha)
  obtain rfl : ts = #[t] := Array.toList_inj.1 (by simpa using hts)
  simp only [out] at h
  split at h
  · rename_i sz b ver off len hl
    split at h
    · rename_i t' sz' ver' l hMb
      simp only [Option.some.injEq, Prod.mk.injEq] at h
      obtain ⟨rfl, rfl, rfl⟩ := h
      subst hc
      obtain ⟨_, p, hp, hpv, hq⟩ := vl_one he hx hl
      obtain ⟨p', hp', q1, q2, q3, q4, q5, q6⟩ := mem_rows hm hMb
      obtain rfl : p = p' := by rw [hp] at hp'; injection hp'
      obtain ⟨e1, e2, e3⟩ := hq q2
      have hcap := (hm.blk b _ p hMb hp).1 rfl
      refine ⟨rfl, .int .i64 ((l.length - off : Nat) : Int), exec_builtin (f := Builtin.cap_) (fun _ _ => rfl) ?_, rfl, rfl⟩
      simp [Builtin.cap_, e3, run_under (elemT_spec ht), goInt, hcap]
    · cases h
  · cases h
theorem run_copy_gen {t el : TypeId} {sz : Nat} (ht : elemT P t = some el) (hz : sizeT P el = some sz) {A : Option Addr} {m cap dLen dCap : Nat} {B : Option Addr} {news : List Value} {k : Nat} (hk : k = min m dLen)
    (hnews : ∀ ad, A = some ad → news.length = k * sz ∧ ∀ j u, news[j]? = some u → w.cell? (ad.add j) = some u) (hA : A = none → news = []) {w' : World} (hst : ∀ ad, B = some ad → (storeCells ad news).run P w = .ok () w') (hB : B = none → w' = w) :
    (Builtin.copy_ #[t, t] ty #[.slice B dLen dCap, .slice A m cap]).run P w = .ok (goInt k) w' := by
  have hfc : (Builtin.firstCells sz k (.slice A m cap)).run P w = .ok news.toArray w := by
    cases A with
    | none => rw [hA rfl]; simp [Builtin.firstCells]
    | some ad => exact run_firstCells_some w sz k ad m cap news (hnews ad rfl).1 (hnews ad rfl).2
  have hmin : Nat.min m dLen = k := hk.symm
  cases B with
  | none =>
    rw [hB rfl]
    simp [Builtin.copy_, run_under (elemT_spec ht), run_size hz, Builtin.lenOf, hmin, hfc]
  | some ad => simp [Builtin.copy_, run_under (elemT_spec ht), run_size hz, Builtin.lenOf, hmin, hfc, hst ad rfl]
theorem RelF_take {sz m k : Nat} {rs : List (List AV)} {vs : List Value} (hF : RelF I σ sz rs vs) (hk : k ≤ rs.length) : RelF I σ sz (rs.take k) (vs.take (k * sz)) := by
  have hle : k * sz ≤ rs.length * sz := Nat.mul_le_mul_right _ hk
  have h1 := hF.1
  refine ⟨by rw [List.length_take, List.length_take, Nat.min_eq_left hk]; omega, fun i r hr => ?_⟩
  rw [List.getElem?_take] at hr
  split at hr
  · rename_i hi
    obtain ⟨h2, h3⟩ := hF.2 i r hr
    refine ⟨h2, fun j u hu => ?_⟩
    obtain ⟨x, hx, hx2⟩ := h3 j u hu
    have hj : j < sz := by rw [← h2]; exact getElem?_lt hu
    have h4 : (i + 1) * sz ≤ k * sz := Nat.mul_le_mul_right _ hi
    rw [Nat.add_mul] at h4
    exact ⟨x, by rw [List.getElem?_take, if_pos (by omega)]; exact hx, hx2⟩
  · cases hr
theorem set_self {α : Type} {l : List α} {i : Nat} {x : α} (h : l[i]? = some x) : l.set i x = l := by
  refine List.ext_getElem? (fun k => ?_)
  rw [List.getElem?_set]
  split
  · rename_i hk; subst hk; rw [if_pos (getElem?_lt h)]; exact h.symm
  · rfl
theorem s_cpy (hm : Mem I σ M w) (he : RelE I σ e a) {x y : Operand} {X Y : Opd} (hx : compX x = some X) (hy : compX y = some Y) {args : Array Operand} {ts : Array TypeId} {t el : TypeId} {sz : Nat} (ha : args.toList = [x, y]) (hts : ts.toList = [t, t]) (ht : elemT P t = some el) (hz : sizeT P el = some sz) (hs0 : 0 < sz)
    (h : out e M true (.cpy sz X Y) = some (r, M', c)) (hc : c) : Turns P I σ M ⟨dst, .call { callee := .builtin .copy, args := args, argTypes := ts }, ty, pos, after, gd⟩ a w r M' := by
  obtain rfl : args = #[x, y] := Array.toList_inj.1 (by simpa using ha)
  obtain rfl : ts = #[t, t] := Array.toList_inj.1 (by simpa using hts)
  simp only [out] at h
  split at h
  · rename_i sz' b ver off len hl
    split at h
    · rename_i t' sz2 ver' l f rs m cy hMb hsrc
      simp only [Option.some.injEq, Prod.mk.injEq] at h
      obtain ⟨rfl, rfl, rfl⟩ := h
      obtain ⟨rfl, rfl, rfl, hle, hcy⟩ := hc
      obtain ⟨A, cap, news, hyv, hrs, hA, hF, hcell, hone⟩ := src_spec hm hs0 (vl_rel he hy) hsrc hcy
      obtain ⟨_, p, hp, hpv, hq⟩ := vl_one he hx hl
      obtain ⟨p', hp', q1, q2, q3, q4, q5, q6⟩ := mem_rows hm hMb
      obtain rfl : p = p' := by rw [hp] at hp'; injection hp'
      obtain ⟨e1, e2, e3⟩ := hq q2
      have hkm : min m len ≤ rs.length := by omega
      have hF2 := RelF_take (m := m) hF hkm
      have htk : rs.take len = rs.take (min m len) := by rw [← hrs, Nat.min_comm, List.take_eq_take_min]
      have hnl : (news.take (min m len * sz2)).length = min m len * sz2 := by rw [hF2.1, List.length_take, Nat.min_eq_left hkm]
      have hres : RelS I σ (.p (.one (.c (.v (.int .i64 ((min m len : Nat) : Int)))))) (goInt ((min m len : Nat) : Int)) := ⟨rfl, rfl⟩
      have hA' : A = none → news.take (min m len * sz2) = [] := fun hn => by
        have := hA hn
        have hn0 : news = [] := List.eq_nil_of_length_eq_zero (by rw [hF.1, hrs, this, Nat.zero_mul])
        rw [hn0, List.take_nil]
      have hnews : ∀ ad, A = some ad → (news.take (min m len * sz2)).length = min m len * sz2 ∧ ∀ j u, (news.take (min m len * sz2))[j]? = some u → w.cell? (ad.add j) = some u := fun ad had => ⟨hnl, fun j u hj => by
        rw [List.getElem?_take] at hj
        split at hj
        · exact hcell ad had j u hj
        · cases hj⟩
      cases hb : p.blk with
      | none =>
        rw [hb] at q6 e3
        have q6 : p.cap = 0 := q6
        have hl0 : l = [] := List.eq_nil_of_length_eq_zero (by omega)
        have hk0 : min m len = 0 := by omega
        have hM : M.set b (.rows t' sz2 ver' (l.take off ++ rs.take len ++ l.drop (off + min m len)) f) = M := by
          rw [htk, hk0, hl0]
          simp only [List.take_nil, List.take_zero, List.append_nil, List.drop_nil]
          rw [← hl0]
          exact set_self hMb
        rw [hM]
        refine ⟨_, σ, w, exec_builtin (f := Builtin.copy_) (v := goInt ((min m len : Nat) : Int)) (fun _ _ => rfl) ?_, .inl ⟨_, rfl, hres⟩, ExtP.refl _, hm, Keep.refl _ _, fun g h => .inl h⟩
        simp only [List.map_toArray, List.map_cons, List.map_nil]
        rw [e3, hyv]
        exact run_copy_gen ht hz rfl hnews hA' (fun ad h => by cases h) (fun _ => rfl)
      | some g =>
        rw [hb] at q6 e3
        obtain ⟨cs, hh, hs, ho, hcs⟩ := q6
        have hcapsz : l.length * sz2 ≤ cs.size := by rw [hs]; exact Nat.mul_le_mul_right _ q3
        obtain ⟨k1, k2, k3⟩ := splice_rel (k := off) (m := min m len) q5 hcs hF2 (by rw [List.length_take, Nat.min_eq_left hkm]) hle hcapsz
        have hle2 : (off + min m len) * sz2 ≤ l.length * sz2 := Nat.mul_le_mul_right _ hle
        rw [Nat.add_mul] at hle2
        have hst := run_storeCells_at (P := P) g (off * sz2) t' (news.take (min m len * sz2)) 0 cs w hh (by rw [hnl]; omega) (fun v hv => one1_cell (hone v (List.mem_of_mem_take hv)))
        rw [Nat.add_zero] at hst
        rw [htk]
        refine turns_set hm hMb hp hb hh k1 (splice_one ho (fun v hv => hone v (List.mem_of_mem_take hv))) k2 (fun i r h => (k3 i r h).1) (fun i r h => (k3 i r h).2) (exec_builtin (f := Builtin.copy_) (v := goInt ((min m len : Nat) : Int)) (fun _ _ => rfl) ?_) (.inl ⟨_, rfl, hres⟩)
        simp only [List.map_toArray, List.map_cons, List.map_nil]
        rw [e3, hyv]
        exact run_copy_gen ht hz rfl hnews hA' (fun ad h => by injection h with h; subst h; exact hst) (fun h => by cases h)
    · cases h
  · cases h
theorem zeroCells_get {v : Value} {z : List Value} {sz n : Nat} (hv : v.cells.toList = z) (hzl : z.length = sz) (hs : 0 < sz) : (Builtin.zeroCells v.cells n).toList.length = n * sz ∧ ∀ i, i < n → ∀ j (hj : j < z.length), (Builtin.zeroCells v.cells n).toList[i * sz + j]? = some z[j] := by
  have hvs : v.cells.size = sz := by rw [← Array.length_toList, hv, hzl]
  refine ⟨by simp [Builtin.zeroCells, hvs], fun i hi j hj => ?_⟩
  have hle : (i + 1) * sz ≤ n * sz := Nat.mul_le_mul_right _ hi
  rw [Nat.add_mul] at hle
  have hmod : (i * sz + j) % sz = j := by rw [Nat.mul_comm, Nat.mul_add_mod, Nat.mod_eq_of_lt (by omega)]
  have hjv : j < v.cells.size := by omega
  have hvj : v.cells[j]? = some z[j] := by rw [← Array.getElem?_toList, hv]; exact List.getElem?_eq_getElem hj
  rw [Array.getElem?_toList, Builtin.zeroCells, Array.getElem?_map, Array.getElem?_range, hvs, if_pos (by omega)]
  simp only [Option.map_some, hmod, Option.some.injEq]
  rw [getElem!_pos v.cells j hjv]
  rw [Array.getElem?_eq_getElem hjv] at hvj
  injection hvj
theorem RelF_zero {v : Value} {z : List Value} {sz n : Nat} (h1 : z.all one1 = true) (hv : v.cells.toList = z) (hzl : z.length = sz) (hs : 0 < sz) : RelF I σ sz (List.replicate n (zc z)) (Builtin.zeroCells v.cells n).toList := by
  obtain ⟨k1, k2⟩ := zeroCells_get (n := n) hv hzl hs
  refine ⟨by rw [k1, List.length_replicate], fun i r hr => ?_⟩
  rw [List.getElem?_replicate] at hr
  split at hr
  · rename_i hi
    injection hr with hr
    subst hr
    refine ⟨by simp [zc, hzl], fun j u hu => ?_⟩
    have hj : j < z.length := by have := getElem?_lt hu; simpa [zc] using this
    exact ⟨z[j], k2 i hi j hj, (RelL_zc (I := I) (σ := σ) h1).2 j u _ hu (List.getElem?_eq_getElem hj)⟩
  · cases hr
theorem zeroCells_one {v : Value} {z : List Value} {sz n : Nat} (h1 : z.all one1 = true) (hv : v.cells.toList = z) (hzl : z.length = sz) (hs : 0 < sz) : ∀ u ∈ (Builtin.zeroCells v.cells n).toList, one1 u = true := by
  intro u hu
  obtain ⟨k1, k2⟩ := zeroCells_get (n := n) hv hzl hs
  obtain ⟨k, hk⟩ := List.getElem?_of_mem hu
  have hlt := getElem?_lt hk
  rw [k1] at hlt
  obtain ⟨d1, d2, d3⟩ := divmod hs hlt
  have := k2 (k / sz) d1 (k % sz) (by omega)
  rw [d3, hk] at this
  injection this with this
  subst this
  exact List.all_eq_true.1 h1 _ (List.getElem_mem _)
theorem s_clr (hm : Mem I σ M w) (he : RelE I σ e a) {x : Operand} {X : Opd} (hx : compX x = some X) {args : Array Operand} {ts : Array TypeId} {t el : TypeId} {sz : Nat} {z : List Value} (ha : args.toList = [x]) (hts : ts.toList = [t]) (ht : elemT P t = some el) (hz : sizeT P el = some sz) (hzz : zeroT P el = some z) (hs0 : 0 < sz)
    (h : out e M true (.clr sz z X) = some (r, M', c)) (hc : c) : Turns P I σ M ⟨dst, .call { callee := .builtin .clear, args := args, argTypes := ts }, ty, pos, after, gd⟩ a w r M' := by
  obtain rfl : args = #[x] := Array.toList_inj.1 (by simpa using ha)
  obtain rfl : ts = #[t] := Array.toList_inj.1 (by simpa using hts)
  simp only [out] at h
  split at h
  · rename_i sz' b ver off len hl
    split at h
    · rename_i t' sz2 ver' l f hMb
      simp only [Option.some.injEq, Prod.mk.injEq] at h
      obtain ⟨rfl, rfl, rfl⟩ := h
      obtain ⟨rfl, rfl, rfl, hle⟩ := hc
      obtain ⟨_, p, hp, hpv, hq⟩ := vl_one he hx hl
      obtain ⟨p', hp', q1, q2, q3, q4, q5, q6⟩ := mem_rows hm hMb
      obtain rfl : p = p' := by rw [hp] at hp'; injection hp'
      obtain ⟨e1, e2, e3⟩ := hq q2
      obtain ⟨h1, h2, v, hv, hrun⟩ := zeroT_spec hzz
      have hzl : z.length = sz2 := by rw [hz] at h2; injection h2 with h2; exact h2.symm
      cases hb : p.blk with
      | none =>
        rw [hb] at q6 e3
        have q6 : p.cap = 0 := q6
        have hl0 : l = [] := List.eq_nil_of_length_eq_zero (by omega)
        have hk0 : len = 0 := by omega
        have hM : M.set b (.rows t' sz2 ver' (l.take off ++ List.replicate len (zc z) ++ l.drop (off + len)) f) = M := by
          rw [hk0, hl0]
          simp only [List.take_nil, List.replicate_zero, List.append_nil, List.drop_nil]
          rw [← hl0]
          exact set_self hMb
        rw [hM]
        refine ⟨_, σ, w, exec_builtin (f := Builtin.clear_) (v := .tuple #[]) (fun _ _ => rfl) ?_, .inl ⟨_, rfl, trivial⟩, ExtP.refl _, hm, Keep.refl _ _, fun g h => .inl h⟩
        simp [Builtin.clear_, e3, run_under (elemT_spec ht)]
      | some g =>
        rw [hb] at q6 e3
        obtain ⟨cs, hh, hs, ho, hcs⟩ := q6
        have hcapsz : l.length * sz2 ≤ cs.size := by rw [hs]; exact Nat.mul_le_mul_right _ q3
        have hF := RelF_zero (I := I) (σ := σ) (n := len) h1 hv hzl hs0
        obtain ⟨k1, k2, k3⟩ := splice_rel (k := off) (m := len) q5 hcs hF (by simp) hle hcapsz
        have hle2 : (off + len) * sz2 ≤ l.length * sz2 := Nat.mul_le_mul_right _ hle
        rw [Nat.add_mul] at hle2
        have hzlen := (zeroCells_get (n := len) hv hzl hs0).1
        have hst := run_storeCells_at (P := P) g (off * sz2) t' (Builtin.zeroCells v.cells len).toList 0 cs w hh (by rw [hzlen]; omega) (fun u hu => one1_cell (zeroCells_one h1 hv hzl hs0 u hu))
        rw [Nat.add_zero] at hst
        refine turns_set hm hMb hp hb hh k1 (splice_one ho (zeroCells_one h1 hv hzl hs0)) k2 (fun i r h => (k3 i r h).1) (fun i r h => (k3 i r h).2) (exec_builtin (f := Builtin.clear_) (v := .tuple #[]) (fun _ _ => rfl) ?_) (.inl ⟨_, rfl, trivial⟩)
        simp only [List.map_toArray, List.map_cons, List.map_nil]
        rw [e3]
        cases len with
        | zero =>
          have hz0 : (Builtin.zeroCells v.cells 0).toList = [] := List.eq_nil_of_length_eq_zero (by rw [hzlen, Nat.zero_mul])
          rw [hz0] at hst ⊢
          simp only [storeCells, Sem.run_pure] at hst
          injection hst with _ hst
          simp only [List.append_nil, List.length_nil, Nat.add_zero, List.take_append_drop] at hst ⊢
          simp only [Builtin.clear_, Sem.run_bind]
          simp [run_under (elemT_spec ht), Option.map]
          exact hst
        | succ n => simp [Builtin.clear_, run_under (elemT_spec ht), hrun, hst]
    · cases h
  · rename_i sz' n cf hl
    simp only [Option.some.injEq, Prod.mk.injEq] at h
    obtain ⟨rfl, rfl, rfl⟩ := h
    obtain ⟨A, cap, hv, _⟩ := vl_one he hx hl
    subst hc
    refine ⟨_, σ, w, exec_builtin (f := Builtin.clear_) (v := .tuple #[]) (fun _ _ => rfl) ?_, .inl ⟨_, rfl, trivial⟩, ExtP.refl _, hm, Keep.refl _ _, fun g h => .inl h⟩
    simp only [List.map_toArray, List.map_cons, List.map_nil, hv]
    cases A <;> simp [Builtin.clear_, run_under (elemT_spec ht)]
  · cases h
end
end Go.Proofs.YtioefecijidgkaaAbs
