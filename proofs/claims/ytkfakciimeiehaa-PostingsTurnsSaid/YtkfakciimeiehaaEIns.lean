/- A number put into a row of numbers of the call's own, and taken out of one: slices.Insert and slices.Delete at []int, told of rows. -/
import Derived.Test.YtkfakciimeiehaaPPostx0
import Derived.Shelf.Spec.SlicesInsert
import Derived.Shelf.Spec.SlicesInsertGrow
import Derived.Shelf.Slices.Delete
set_option linter.unusedVariables false
set_option linter.unusedSimpArgs false
namespace Go.Proofs.Ytkfakciimeiehaa.PPost
open Go.RowKit Go.Proofs.YtkfakciimeiehaaW.PrintWords Go.Proofs.YtkfakciimeiehaaW.PrintLast Go.Proofs.YtkfakciimeiehaaW.PrintMore

theorem own_cases {w : World} {base : Nat} {ok : Nat → Prop} {v : Value} {xs : List Int} (h : Kd.R (Kd.int .i64) 3 w base ok v xs) :
    (v = .slice none 0 0 ∧ xs = []) ∨ ∃ g cap cur, v = .slice (some ⟨g, 0, none⟩) xs.length cap ∧ base ≤ g ∧ w.heap[g]? = some (.cells cur 3 (0, 0)) ∧ xs.length ≤ cap ∧ cap ≤ maxLen ∧ cur.size = cap ∧ cur.toList.take xs.length = xs.map (.int .i64) := by
  obtain ⟨_, inner, ⟨hl, hv⟩, hr1, hr2⟩ := h
  have hi : inner = xs.map (.int .i64) := by
    apply List.ext_getElem?
    intro j
    rw [List.getElem?_map]
    by_cases hj : j < xs.length
    · have h2 := hr2 j xs[j] (List.getElem?_eq_getElem hj)
      have h3 : (inner.drop (j * 1)).take 1 = [.int .i64 xs[j]] := h2
      have h4 : ((inner.drop (j * 1)).take 1)[0]? = some (.int .i64 xs[j]) := by rw [h3]; rfl
      rw [List.getElem?_take_of_lt (by omega), List.getElem?_drop] at h4
      rw [List.getElem?_eq_getElem hj]
      simpa using h4
    · have hl' : inner.length = xs.length * 1 := hr1
      rw [List.getElem?_eq_none (by omega), List.getElem?_eq_none (by omega)]
      rfl
  rcases hv with ⟨hv, hn⟩ | ⟨g, cap, cur, hv, hb, hh, h1, h2, h3, h4⟩
  · exact .inl ⟨hv, List.eq_nil_of_length_eq_zero hn⟩
  · refine .inr ⟨g, cap, cur, hv, hb, hh, h1, h2, ?_, ?_⟩
    · have : cur.size = cap * 1 := h3
      omega
    · have : cur.toList.take (xs.length * 1) = inner := h4
      rw [Nat.mul_one] at this
      rw [this, hi]
theorem own_mk {w : World} {base : Nat} {ok : Nat → Prop} {g cap : Nat} {cur : Array Value} {xs : List Int} (hok : ok g) (hb : base ≤ g) (hh : w.heap[g]? = some (.cells cur 3 (0, 0))) (h1 : xs.length ≤ cap) (h2 : cap ≤ maxLen) (h3 : cur.size = cap) (h4 : cur.toList.take xs.length = xs.map (.int .i64)) :
    Kd.R (Kd.int .i64) 3 w base ok (.slice (some ⟨g, 0, none⟩) xs.length cap) xs := by
  refine ⟨fun k hk => ?_, xs.map (.int .i64), ⟨(show (xs.map (Value.int .i64)).length = xs.length * 1 by simp), .inr ⟨g, cap, cur, rfl, hb, hh, h1, h2, ?_, ?_⟩⟩, ?_, fun j p hj => ?_⟩
  · simp [Value.ownBlock] at hk
    exact hk ▸ hok
  · show cur.size = cap * 1
    omega
  · show cur.toList.take (xs.length * 1) = _
    rw [Nat.mul_one, h4]
  · show (xs.map _).length = xs.length * 1
    simp
  · show ((xs.map (Value.int .i64)).drop (j * 1)).take 1 = [.int .i64 p]
    have hlt := (List.getElem?_eq_some_iff.1 hj).1
    rw [Nat.mul_one, ← List.map_drop, List.drop_eq_getElem_cons hlt]
    simp [(List.getElem?_eq_some_iff.1 hj).2]

/-- Cells set, in their array. -/
def putL (cur : Array Value) : Nat → List Value → Array Value
  | _, [] => cur
  | o, v :: r => putL (cur.setIfInBounds o v) (o + 1) r
theorem putL_size : ∀ (vs : List Value) (cur : Array Value) (o : Nat), (putL cur o vs).size = cur.size
  | [], _, _ => rfl
  | v :: r, cur, o => by rw [putL, putL_size r]; simp
theorem putL_get : ∀ (vs : List Value) (cur : Array Value) (o k : Nat), o + vs.length ≤ cur.size → (putL cur o vs)[k]? = if o ≤ k ∧ k < o + vs.length then vs[k - o]? else cur[k]?
  | [], cur, o, k, _ => by
    rw [if_neg (by first | (simp; done) | (simp; omega))]
    rfl
  | v :: r, cur, o, k, h => by
    simp only [List.length_cons] at h ⊢
    rw [putL, putL_get r _ _ _ (by simp; omega)]
    by_cases h1 : o + 1 ≤ k ∧ k < o + 1 + r.length
    · rw [if_pos h1, if_pos (by omega), show k - o = (k - (o + 1)) + 1 by omega, List.getElem?_cons_succ]
    · rw [if_neg h1]
      by_cases h2 : k = o
      · subst h2
        rw [if_pos (by omega), Nat.sub_self, Array.getElem?_setIfInBounds_self_of_lt (by omega)]
        rfl
      · rw [if_neg (by omega), Array.getElem?_setIfInBounds_ne (by omega)]
theorem below_setL {B b : Nat} {a : World} (hb : B ≤ b) : ∀ (vs : List Value) (o : Nat) {w : World}, Below B a w → Below B a (w.setCells b o vs)
  | [], _, _, h => h
  | _ :: r, o, _, h => below_setL hb r (o + 1) (h.setCell hb _)
theorem heap_setCells {b e : Nat} {fz : Nat × Nat} : ∀ (vs : List Value) (o : Nat) (w : World) (cur : Array Value), w.heap[b]? = some (.cells cur e fz) → (w.setCells b o vs).heap[b]? = some (.cells (putL cur o vs) e fz)
  | [], _, _, _, h => h
  | v :: r, o, w, cur, h => by
    refine heap_setCells r (o + 1) _ _ ?_
    simp [World.setCell, Array.getElem?_modify, h]

/-! ### slices.Insert, at one number -/
open Go.Shelf in
def insRen : Ren := ⟨fun x => match x with | 21 => 78 | 27 => 87 | 28 => 88 | 35 => 92 | 39 => 94 | n => n, fun x => match x with | 22 => 31 | 3 => 3 | 4 => 4 | 0 => 0 | n => n, fun x => x⟩
open Go.Shelf in
theorem insLays : Lays2.n21 Try.prog insRen :=
  { mixed := by kernel_rfl, f21 := Try.func78.trans (congrArg some (by kernel_rfl)), f27 := Try.func87.trans (congrArg some (by kernel_rfl)), f28 := Try.func88.trans (congrArg some (by kernel_rfl)),
    f35 := Try.func92.trans (congrArg some (by kernel_rfl)), f39 := Try.func94.trans (congrArg some (by kernel_rfl)), t0 := Try.underlying0, a0 := Try.isAgg0, z0 := Try.sizeOf0, v0 := Try.zeroValue0, t3 := Try.underlying3, a3 := Try.isAgg3, z3 := Try.sizeOf3,
    v3 := Try.zeroValue3, t4 := Try.underlying4, a4 := Try.isAgg4, z4 := Try.sizeOf4, v4 := Try.zeroValue4, t22 := Try.underlying31, a22 := Try.isAgg31, z22 := Try.sizeOf31, v22 := Try.zeroValue31, i3 := by kernel_rfl }
/-- A list with one more at a place. -/
def insAt (xs : List Int) (i : Nat) (x : Int) : List Int := xs.take i ++ x :: xs.drop i
theorem insAt_len {xs : List Int} {i : Nat} {x : Int} (hi : i ≤ xs.length) : (insAt xs i x).length = xs.length + 1 := by
  unfold insAt
  rw [List.length_append, List.length_take, List.length_cons, List.length_drop]
  omega
theorem insAt_get (xs : List Int) (i : Nat) (x : Int) (hi : i ≤ xs.length) (k : Nat) : (insAt xs i x)[k]? = if k < i then xs[k]? else if k = i then some x else xs[k - 1]? := by
  unfold insAt
  by_cases h1 : k < i
  · rw [if_pos h1, List.getElem?_append_left (by rw [List.length_take]; omega), List.getElem?_take_of_lt h1]
  · rw [if_neg h1, List.getElem?_append_right (by rw [List.length_take]; omega), List.length_take, Nat.min_eq_left hi]
    by_cases h2 : k = i
    · subst h2
      rw [if_pos rfl, Nat.sub_self]
      rfl
    · rw [if_neg h2, show k - i = (k - i - 1) + 1 by omega, List.getElem?_cons_succ, List.getElem?_drop, show i + (k - i - 1) = k - 1 by omega]
theorem fin_list {B : Array Value} {xs : List Int} {i : Nat} {x : Int} (hi : i ≤ xs.length) (hB : ∀ k, k ≤ xs.length → B[k]? = ((insAt xs i x)[k]?).map (Value.int .i64)) : B.toList.take (insAt xs i x).length = (insAt xs i x).map (.int .i64) := by
  apply List.ext_getElem?
  intro k
  rw [List.getElem?_map]
  by_cases hk : k < (insAt xs i x).length
  · rw [List.getElem?_take_of_lt hk, Array.getElem?_toList]
    exact hB k (by rw [insAt_len hi] at hk; omega)
  · rw [List.getElem?_eq_none (by rw [List.length_take]; omega), List.getElem?_eq_none (by omega)]
    rfl
theorem shape_blk {w : World} {b e : Nat} {cur : Array Value} {fz : Nat × Nat} (h : w.heap[b]? = some (.cells cur e fz)) : w.shape? b = some (e, cur.size) := by
  simp [World.shape?, h]
theorem vcell {w : World} {vb : Nat} {x : Int} (hvb : w.heap[vb]? = some (.cells #[.int .i64 x] 3 (0, 0))) : ∀ j v, ([Value.int .i64 x] : List Value)[j]? = some v → w.cell? ⟨vb, 0 + j, none⟩ = some v := by
  intro j v hj
  cases j with
  | zero =>
    rw [blk_cell hvb]
    simpa using hj
  | succ j => simp at hj
set_option maxHeartbeats 1000000 in
theorem ins_calls {w : World} {base : Nat} {v : Value} {xs : List Int} (i : Nat) (x : Int) (vb : Nat) (hR : Kd.R (Kd.int .i64) 3 w base (fun _ => True) v xs) (hi : i ≤ xs.length) (hn : xs.length ≤ 1000000) (hbase : base ≤ w.heap.size)
    (hvb : w.heap[vb]? = some (.cells #[.int .i64 x] 3 (0, 0))) (hne : v.ownBlock ≠ some vb) :
    Calls Try.prog 78 #[v, .int .i64 i, .slice (some ⟨vb, 0, none⟩) 1 1] w fun e w' => ∃ v', e = .returned v' ∧ Kd.R (Kd.int .i64) 3 w' base (fun _ => True) v' (insAt xs i x) ∧ Below base w w' := by
  have hil := insAt_len (x := x) hi
  have hget := insAt_get xs i x hi
  have h1v : ∀ v ∈ ([Value.int .i64 x] : List Value), v.oneCell' = true := by simp [Value.oneCell']
  have h1c : ∀ v ∈ xs.map (Value.int .i64), v.oneCell' = true := by
    intro v hv
    obtain ⟨y, _, rfl⟩ := List.mem_map.1 hv
    rfl
  have hbig : (xs.length + 1) * 8 ≤ 140737488355328 := by omega
  have hbw : ∀ W', Below w.heap.size w W' → Below base w W' := fun W' h => ⟨h.os, h.tape, h.output, h.size, fun k hk => h.block k (by omega)⟩
  have hz : (Value.int .i64 0).cells.size = 1 := rfl
  have hml : xs.length + 1 ≤ maxLen := by unfold maxLen; omega
  rcases own_cases hR with ⟨rfl, rfl⟩ | ⟨g, cap, cur, rfl, hg, hh, hc1, hc2, hcs, htk⟩
  · have hi0 : i = 0 := by simpa using hi
    subst hi0
    refine (Any2.slices_Insert_int_end_grow insLays none 0 0 vb 0 1 1 [] [.int .i64 x] w (by omega) (by omega) (by omega) (by omega) rfl rfl (fun _ => rfl) (fun a h => by cases h) (vcell hvb) h1v).mono ?_
    rintro e w' ⟨rfl, rfl⟩
    obtain ⟨G, hG0⟩ : ∃ G, grownCap w (0 + 1) 0 (insRen.t 3) = G := ⟨_, rfl⟩
    have hG : 0 + 1 ≤ G := hG0 ▸ grownCap_ge w (0 + 1) 0 _
    have hG2 : G ≤ maxLen := hG0 ▸ grownCap_le_maxLen w (0 + 1) 0 _ (by unfold maxLen; omega)
    rw [hG0]
    refine ⟨_, rfl, ?_, hbw _ (below_alloc (below_drew (Below.refl _ _)) _)⟩
    have e1 : insAt [] 0 x = [x] := rfl
    rw [e1]
    exact own_mk (xs := [x]) trivial hbase (heap_alloc_new _ _) hG hG2 (by rw [Array.size_append, size_zeroCells, hz]; simp; omega) (by simp)
  · have hcur : ∀ j, j < xs.length → cur[j]? = (xs[j]?).map (Value.int .i64) := by
      intro j hj
      have : (cur.toList.take xs.length)[j]? = (xs.map (Value.int .i64))[j]? := by rw [htk]
      rw [List.getElem?_take_of_lt hj, Array.getElem?_toList, List.getElem?_map] at this
      exact this
    have hcell : ∀ j v, (xs.map (Value.int .i64))[j]? = some v → w.cell? ⟨g, 0 + j, none⟩ = some v := by
      intro j v hj
      have hlt : j < xs.length := by have := (List.getElem?_eq_some_iff.1 hj).1; simpa using this
      rw [List.getElem?_map] at hj
      rw [blk_cell hh, Nat.zero_add, hcur j hlt, hj]
    have hsome : ∀ j, j < cap → (w.cell? ⟨g, 0 + j, none⟩).isSome = true := by
      intro j hj
      rw [blk_cell hh, Nat.zero_add, Array.getElem?_eq_getElem (by omega)]
      rfl
    have hfz : ∀ j, w.frozen? ⟨g, j, none⟩ = false := fun j => blk_frozen hh j
    have hgl : g < w.heap.size := by
      rcases Nat.lt_or_ge g w.heap.size with h | h
      · exact h
      · rw [Array.getElem?_eq_none h] at hh
        cases hh
    have hne' : vb ≠ g := fun e => hne (by simp [Value.ownBlock, e])
    have hcap63 : cap ≤ 9223372036854775807 := by unfold maxLen at hc2; omega
    by_cases hroom : xs.length + 1 ≤ cap
    · by_cases hend : i = xs.length
      · subst hend
        refine (Any2.slices_Insert_int_end_room insLays g 0 xs.length cap vb 0 1 1 [.int .i64 x] w (by omega) hroom hcap63 rfl (fun j hj => by rw [Nat.add_assoc]; exact hsome _ (by omega)) (fun j _ => hfz _) (vcell hvb) h1v).mono ?_
        rintro e w' ⟨rfl, rfl⟩
        refine ⟨_, rfl, ?_, below_setL hg _ _ (Below.refl _ _)⟩
        rw [← hil]
        refine own_mk trivial hg (heap_setCells _ _ _ _ hh) (by omega) hc2 (by rw [putL_size]; exact hcs) (fin_list (Nat.le_refl _) fun k hk => ?_)
        rw [putL_get _ _ _ _ (by simp; omega), hget]
        simp only [List.length_singleton, Nat.zero_add]
        by_cases h1 : k < xs.length
        · rw [if_neg (by omega), if_pos h1, hcur k h1]
        · rw [if_pos (by omega), if_neg h1, if_pos (by omega), show k - xs.length = 0 by omega]
          rfl
      · have hlt : i < xs.length := by omega
        refine (Any2.slices_Insert_int_shift insLays g 0 xs.length cap i vb 0 1 1 (xs.map (Value.int .i64)) [.int .i64 x] w hlt (by omega) hroom hcap63 hne' (by simp) rfl hcell (fun j hj => hsome j (by omega)) (fun j _ => hfz _) (vcell hvb) h1c h1v 3 3 1 cap (by rw [shape_blk hvb]; rfl) (by rw [shape_blk hh, hcs]) (by omega) (blk_frozen hvb 0) (blk_frozen hvb 1)).mono ?_
        rintro e w' ⟨rfl, rfl⟩
        refine ⟨_, rfl, ?_, below_setL hg _ _ (below_setL hg _ _ (below_drew (Below.refl _ _)))⟩
        rw [← hil]
        refine own_mk trivial hg (heap_setCells _ _ _ _ (heap_setCells _ _ _ _ hh)) (by omega) hc2 (by rw [putL_size, putL_size]; exact hcs) (fin_list hi fun k hk => ?_)
        rw [putL_get _ _ _ _ (by rw [putL_size]; simp; omega), putL_get _ _ _ _ (by simp; omega), hget]
        simp only [List.length_singleton, Nat.zero_add, List.length_drop, List.length_map]
        by_cases h1 : k < i
        · rw [if_neg (by omega), if_neg (by omega), if_pos h1, hcur k (by omega)]
        · rw [if_neg h1]
          by_cases h2 : k = i
          · rw [if_pos (by omega), if_pos h2, show k - i = 0 by omega]
            rfl
          · rw [if_neg (by omega), if_pos (by omega), if_neg h2, List.getElem?_drop, List.getElem?_map, show i + (k - (i + 1)) = k - 1 by omega]
    · obtain ⟨G, hG0⟩ : ∃ G, grownCap w (xs.length + 1) cap (insRen.t 3) = G := ⟨_, rfl⟩
      have hG : xs.length + 1 ≤ G := hG0 ▸ grownCap_ge w (xs.length + 1) cap _
      have hG2 : G ≤ maxLen := hG0 ▸ grownCap_le_maxLen w (xs.length + 1) cap _ hml
      by_cases hend : i = xs.length
      · subst hend
        refine (Any2.slices_Insert_int_end_grow insLays (some ⟨g, 0, none⟩) xs.length cap vb 0 1 1 (xs.map (Value.int .i64)) [.int .i64 x] w (by omega) hc1 (by omega) hbig (by simp) rfl (fun h => by cases h) (fun a ha j v hj => by
          obtain rfl := Option.some.inj ha
          rw [add_plain, ← Nat.zero_add j]
          exact hcell j v hj) (vcell hvb) h1v).mono ?_
        rintro e w' ⟨rfl, rfl⟩
        rw [hG0]
        refine ⟨_, rfl, ?_, hbw _ (below_alloc (below_drew (Below.refl _ _)) _)⟩
        rw [← hil]
        refine own_mk trivial hbase (heap_alloc_new _ _) (by omega) hG2 (by rw [Array.size_append, size_zeroCells, hz, hil]; simp; omega) (fin_list (Nat.le_refl _) fun k hk => ?_)
        rw [Array.getElem?_append_left (by simp; omega), hget, List.getElem?_toArray]
        by_cases h1 : k < xs.length
        · rw [if_pos h1, List.getElem?_append_left (by simpa using h1), List.getElem?_map]
        · rw [if_neg h1, if_pos (by omega), List.getElem?_append_right (by simp; omega), List.length_map, show k - xs.length = 0 by omega]
          rfl
      · have hlt : i < xs.length := by omega
        refine (Any2.slices_Insert_int_grow insLays g 0 xs.length cap i vb 0 1 1 (xs.map (Value.int .i64)) [.int .i64 x] w hlt (by omega) hc1 (by omega) hbig (by simp) rfl hcell (vcell hvb) h1c h1v).mono ?_
        rintro e w' ⟨rfl, rfl⟩
        rw [hG0]
        refine ⟨_, rfl, ?_, below_setL hbase _ _ (below_drew (below_setL hbase _ _ (below_drew (hbw _ (below_alloc (Below.refl _ _) _)))))⟩
        rw [← hil]
        have k1 := heap_setCells [Value.int .i64 x] i (w.alloc (.cells (((xs.map (Value.int .i64)).take i).toArray ++ Builtin.zeroCells (Value.int .i64 0).cells (xs.length + 1 - i) ++ Builtin.zeroCells (Value.int .i64 0).cells (G - (xs.length + 1))) (insRen.t 3))).drew _ (heap_alloc_new w _)
        have k2 := heap_setCells ((xs.map (Value.int .i64)).drop i) (i + 1) ((w.alloc (.cells (((xs.map (Value.int .i64)).take i).toArray ++ Builtin.zeroCells (Value.int .i64 0).cells (xs.length + 1 - i) ++ Builtin.zeroCells (Value.int .i64 0).cells (G - (xs.length + 1))) (insRen.t 3))).drew.setCells w.heap.size i [Value.int .i64 x]).drew _ k1
        have hsz : (((xs.map (Value.int .i64)).take i).toArray ++ Builtin.zeroCells (Value.int .i64 0).cells (xs.length + 1 - i) ++ Builtin.zeroCells (Value.int .i64 0).cells (G - (xs.length + 1))).size = G := by
          rw [Array.size_append, Array.size_append, size_zeroCells, size_zeroCells, hz]
          simp
          omega
        obtain ⟨B0, hB0⟩ : ∃ B0, B0 = ((xs.map (Value.int .i64)).take i).toArray ++ Builtin.zeroCells (Value.int .i64 0).cells (xs.length + 1 - i) ++ Builtin.zeroCells (Value.int .i64 0).cells (G - (xs.length + 1)) := ⟨_, rfl⟩
        have hB1 : ∀ k, k < i → B0[k]? = (xs[k]?).map (Value.int .i64) := by
          intro k hk
          rw [hB0, Array.append_assoc, Array.getElem?_append_left (by simp; omega), List.getElem?_toArray, List.getElem?_take_of_lt hk, List.getElem?_map]
        rw [← hB0] at hsz
        rw [hil, ← hB0] 
        rw [← hB0] at k2
        have hil' := hil
        rw [← hil]
        refine own_mk trivial hbase k2 (by omega) hG2 (by rw [putL_size, putL_size]; exact hsz) (fin_list hi fun k hk => ?_)
        rw [putL_get _ _ _ _ (by rw [putL_size]; simp; omega), putL_get _ _ _ _ (by simp; omega), hget]
        simp only [List.length_singleton, List.length_drop, List.length_map]
        by_cases h1 : k < i
        · rw [if_neg (by omega), if_neg (by omega), if_pos h1, hB1 k h1]
        · rw [if_neg h1]
          by_cases h2 : k = i
          · rw [if_neg (by omega), if_pos (by omega), if_pos h2, show k - i = 0 by omega]
            rfl
          · rw [if_pos (by omega), if_neg h2, List.getElem?_drop, List.getElem?_map, show i + (k - (i + 1)) = k - 1 by omega]

/-! ### slices.Delete, of one number -/
open Go.Shelf in
def delRen : Ren := ⟨fun x => match x with | 23 => 79 | n => n, fun x => match x with | 22 => 31 | 3 => 3 | 4 => 4 | 0 => 0 | n => n, fun x => x⟩
open Go.Shelf in
theorem delLays : Lays2.n23 Try.prog delRen :=
  { mixed := by kernel_rfl, f23 := Try.func79.trans (congrArg some (by kernel_rfl)), t0 := Try.underlying0, a0 := Try.isAgg0, z0 := Try.sizeOf0, v0 := Try.zeroValue0, t3 := Try.underlying3, a3 := Try.isAgg3, z3 := Try.sizeOf3,
    v3 := Try.zeroValue3, t4 := Try.underlying4, a4 := Try.isAgg4, z4 := Try.sizeOf4, v4 := Try.zeroValue4, t22 := Try.underlying31, a22 := Try.isAgg31, z22 := Try.sizeOf31, v22 := Try.zeroValue31, i3 := by kernel_rfl }
open Go.Sort in
theorem heap_mapBlock {w : World} {g e : Nat} {fz : Nat × Nat} {cur : Array Value} (f : Array Value → Array Value) (h : w.heap[g]? = some (.cells cur e fz)) : (mapBlock w g f).heap[g]? = some (.cells (f cur) e fz) := by
  simp [mapBlock, Array.getElem?_modify, h, onCells]
open Go.Sort in
theorem below_mapBlock {w : World} {base g : Nat} (f : Array Value → Array Value) (h : base ≤ g) (n : Nat) : Below base w (mapBlock (Sort.ahead w n) g f) := by
  refine ⟨rfl, rfl, rfl, by simp [mapBlock, Sort.ahead], fun k hk => ?_⟩
  simp only [mapBlock, Sort.ahead, Array.getElem?_modify]
  rw [if_neg (by omega)]
/-- A list without what is at a place. -/
def delAt (xs : List Int) (i : Nat) : List Int := xs.take i ++ xs.drop (i + 1)
theorem del_calls {w : World} {base : Nat} {v : Value} {xs : List Int} (i : Nat) (hR : Kd.R (Kd.int .i64) 3 w base (fun _ => True) v xs) (hi : i < xs.length) :
    Calls Try.prog 79 #[v, .int .i64 i, .int .i64 ((i + 1 : Nat) : Int)] w fun e w' => ∃ v', e = .returned v' ∧ Kd.R (Kd.int .i64) 3 w' base (fun _ => True) v' (delAt xs i) ∧ Below base w w' := by
  rcases own_cases hR with ⟨rfl, rfl⟩ | ⟨g, cap, cur, rfl, hg, hh, hc1, hc2, hcs, htk⟩
  · simp at hi
  have hcur : ∀ j, j < xs.length → cur[j]? = (xs[j]?).map (Value.int .i64) := by
    intro j hj
    have : (cur.toList.take xs.length)[j]? = (xs.map (Value.int .i64))[j]? := by rw [htk]
    rw [List.getElem?_take_of_lt hj, Array.getElem?_toList, List.getElem?_map] at this
    exact this
  have hcap63 : cap ≤ 9223372036854775807 := by unfold maxLen at hc2; omega
  have hH : Go.Sort.Holds (Value.int .i64) w g 0 xs.toArray := by
    intro j hj
    have hj' : j < xs.length := by simpa using hj
    refine ⟨?_, blk_frozen hh _⟩
    rw [blk_cell hh, Nat.zero_add, hcur j hj', List.getElem?_eq_getElem hj']
    simp [hj']
  have hdl : (delAt xs i).length = xs.length - 1 := by
    unfold delAt
    rw [List.length_append, List.length_take, List.length_drop]
    omega
  refine (Any.slices_Delete_int delLays g 0 cap i (i + 1) xs w hH hc1 hcap63 (by omega) (by omega)).mono ?_
  rintro e w' ⟨rfl, q, rfl⟩
  rw [show xs.length - (i + 1 - i) = (delAt xs i).length by rw [hdl]; omega]
  refine ⟨_, rfl, own_mk trivial hg (heap_mapBlock _ (show (Go.Sort.ahead w q).heap[g]? = _ from hh)) (by omega) hc2 (by simp [Go.Sort.putCells, hcs]) ?_, below_mapBlock _ hg q⟩
  apply List.ext_getElem?
  intro k
  rw [List.getElem?_map]
  by_cases hk : k < (delAt xs i).length
  · rw [List.getElem?_take_of_lt hk, Array.getElem?_toList, Go.Sort.putCells, Array.getElem?_mapIdx, Array.getElem?_eq_getElem (show k < cur.size by omega), Option.map_some, if_pos (by simp; omega)]
    rw [List.getElem?_eq_getElem hk]
    have hk2 : k < (xs.take i ++ xs.drop (i + 1) ++ List.replicate (i + 1 - i) 0).length := by
      rw [List.length_append]
      have : k < (xs.take i ++ xs.drop (i + 1)).length := hk
      omega
    have e1 : (xs.take i ++ xs.drop (i + 1) ++ List.replicate (i + 1 - i) 0)[k]? = some (delAt xs i)[k] := by
      rw [List.getElem?_append_left (show k < (xs.take i ++ xs.drop (i + 1)).length from hk)]
      exact List.getElem?_eq_getElem hk
    simp only [Nat.sub_zero, Option.map_some, Option.some.injEq, Value.int.injEq, true_and]
    rw [List.getElem!_toArray, List.getElem!_eq_getElem?_getD, e1]
    rfl
  · rw [List.getElem?_eq_none (by rw [List.length_take]; omega), List.getElem?_eq_none (by omega)]
    rfl
end Go.Proofs.Ytkfakciimeiehaa.PPost
