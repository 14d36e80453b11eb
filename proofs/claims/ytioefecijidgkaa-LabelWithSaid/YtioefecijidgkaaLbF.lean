/- strings.Builder: its writes, at a builder whose bytes stand in a row of its own. -/
import Derived.Test.YtioefecijidgkaaLbE
import Derived.Test.YtioefecijidgkaaAbsIns
set_option linter.unusedVariables false
set_option linter.unusedSimpArgs false
namespace Go.Proofs.Ytioefecijidgkaa.A
open Go Go.Proofs Go.Proofs.YtioefecijidgkaaAbs
def IsB (M : List Blk) (b c : Nat) (l : List UInt8) : Prop := ∃ a v f, (a = .c (.v (.pointer none)) ∨ a = .ptr b 0 0 0) ∧ M[b]? = some (.rows 87 2 0 [[a, .arr 1 c v 0 l.length]] true) ∧ M[c]? = some (.rows 5 1 v (l.map byteRow) f)
/-- The builder behind k writes. -/
def bR (b c v : Nat) (n : Nat) : Blk := .rows 87 2 0 [[.ptr b 0 0 0, .arr 1 c v 0 n]] true
def bY (v : Nat) (l : List UInt8) : Blk := .rows 5 1 v (l.map byteRow) false
abbrev nilI : Pt := .one (.c (.v .nilIface))
theorem gb {M : List Blk} {b : Nat} {X : Blk} (h : b < M.length) : (M.set b X)[b]? = some X := by rw [List.getElem?_set, if_pos rfl, if_pos h]
theorem gn {M : List Blk} {b c : Nat} {X : Blk} (h : b ≠ c) : (M.set b X)[c]? = M[c]? := by rw [List.getElem?_set, if_neg h]
theorem ga {M D : List Blk} {b : Nat} (h : b < M.length) : (M ++ D)[b]? = M[b]? := List.getElem?_append_left h
theorem gl {M : List Blk} {X : Blk} : (M ++ [X])[M.length]? = some X := by rw [List.getElem?_append_right (Nat.le_refl _), Nat.sub_self]; rfl
theorem sa {M D : List Blk} {b : Nat} {X : Blk} (h : b < M.length) : (M ++ D).set b X = M.set b X ++ D := List.set_append_left _ _ h
theorem gl2 {M : List Blk} {X Y : Blk} {b : Nat} : (M.set b Y ++ [X])[M.length]? = some X := by rw [List.getElem?_append_right (by simp), List.length_set, Nat.sub_self]; rfl
theorem leS_of {s s' : SV} (h : s = s') : leS s s' := by rw [h, leS_self]; trivial
theorem byteRow_map1 (l : List UInt8) (x : UInt8) : l.map byteRow ++ [[.c (.v (.int .u8 x.toNat))]] = (l ++ [x]).map byteRow := by rw [List.map_append]; rfl
theorem byteRow_map (l k : List UInt8) : l.map byteRow ++ k.map byteRow = (l ++ k).map byteRow := (List.map_append ..).symm
theorem ltB_set {M : List Blk} {b : Nat} {X : Blk} {n : Nat} (h : ∀ x ∈ M, ltB n x) (hX : ltB n X) : ∀ x ∈ M.set b X, ltB n x := fun x hx => by
  rcases List.mem_or_eq_of_mem_set hx with hx | rfl
  · exact h x hx
  · exact hX
theorem ltB_bY (n v : Nat) (l : List UInt8) : ltB n (bY v l) := by
  intro r hr a ha
  obtain ⟨x, _, rfl⟩ := List.mem_map.1 hr
  obtain rfl := List.mem_singleton.1 ha
  trivial
theorem ltB_bR {n b c v k : Nat} (h1 : b < n) (h2 : c < n) : ltB n (bR b c v k) := by
  intro r hr a ha
  obtain rfl := List.mem_singleton.1 hr
  rcases List.mem_cons.1 ha with rfl | ha
  · exact h1
  · obtain rfl := List.mem_singleton.1 ha
    exact h2
theorem set2 {M : List Blk} {b c : Nat} (h : b ≠ c) (X Y Z : Blk) : (((M.set b X).set c Y).set b Z) = (M.set b Z).set c Y := by
  rw [List.set_comm _ _ (fun e => h e.symm), List.set_set]
set_option maxRecDepth 20000 in
theorem WriteString_rc {M : List Blk} {b c v : Nat} {a : AV} {l : List UInt8} {f : Bool} (hbc : b ≠ c) (ha : a = .c (.v (.pointer none)) ∨ a = .ptr b 0 0 0) (hb : M[b]? = some (.rows 87 2 0 [[a, .arr 1 c v 0 l.length]] true)) (hc : M[c]? = some (.rows 5 1 v (l.map byteRow) f)) (hMB : ∀ x ∈ M, ltB M.length x) (s : ByteArray) (hs : l.length + s.size ≤ 140737488355328) :
    CallR Try.prog M 41 [.one (.ptr b 0 0 0), .s s] (.tup [.i s.size, nilI]) ((M.set b (bR b c (v + 1) (l.length + s.size))).set c (bY (v + 1) (l ++ bs s))) := by
  have hbl : b < M.length := getElem?_lt hb
  have hcl : c < M.length := getElem?_lt hc
  refine callR_intro F_strings_Builder_WriteString (by simp) ?_
  refine V_sound ?_
  simp only [c_strings_Builder_WriteString, go_sem]
  refine call1 (copy_rc hb ha) (by simp only [go_sem]) (fun h => Bool.noConfusion h) ?_
  simp only [go_sem, gb hbl, gn hbc, hc, hbl, List.length_map, byteRow_map, gb (show c < (M.set b (.rows 87 2 0 [[AV.ptr b 0 0 0, AV.arr 1 c v 0 l.length]] true)).length by rw [List.length_set]; exact hcl), gn (fun e => hbc e.symm : c ≠ b)]
  refine ⟨hs, fin_own (.inr rfl) (Gh.refl _) [] (cnd := True) rfl trivial ?_ ?_ ?_ ?_ ?_⟩
  · rw [List.append_nil]
    exact set2 hbc _ _ _
  · exact leS_of rfl
  · rw [List.length_set, List.length_set]; exact Nat.le_refl _
  · simp only [go_sem]
  · rw [List.length_set, List.length_set]
    exact ltB_set (ltB_set hMB (ltB_bR hbl hcl)) (ltB_bY _ _ _)
set_option maxRecDepth 20000 in
theorem WriteByte_rc {M : List Blk} {b c v : Nat} {a : AV} {l : List UInt8} {f : Bool} (hbc : b ≠ c) (ha : a = .c (.v (.pointer none)) ∨ a = .ptr b 0 0 0) (hb : M[b]? = some (.rows 87 2 0 [[a, .arr 1 c v 0 l.length]] true)) (hc : M[c]? = some (.rows 5 1 v (l.map byteRow) f)) (hMB : ∀ x ∈ M, ltB M.length x) (x : UInt8) (hs : l.length + 1 ≤ 140737488355328) :
    CallR Try.prog M 42 [.one (.ptr b 0 0 0), .one (.c (.v (.int .u8 x.toNat)))] (.p nilI) ((M.set b (bR b c (v + 1) (l.length + 1))).set c (bY (v + 1) (l ++ [x]))) := by
  have hbl : b < M.length := getElem?_lt hb
  have hcl : c < M.length := getElem?_lt hc
  refine callR_intro F_strings_Builder_WriteByte (by simp) ?_
  refine V_sound ?_
  simp only [c_strings_Builder_WriteByte, go_sem]
  refine call1 (copy_rc hb ha) (by simp only [go_sem]) (fun h => Bool.noConfusion h) ?_
  have hbc' : c ≠ b := fun e => hbc e.symm
  simp only [go_sem, gb hbl, gn hbc, gn hbc', hc, List.length_map, byteRow_map1, gl2, ga, sa, gb, List.length_set, hbl, hcl]
  refine ⟨by omega, fin_own (.inr rfl) (Gh.refl _) [_] (cnd := True) rfl trivial (congrArg (· ++ [_]) (set2 hbc _ _ _)) ?_ ?_ ?_ ?_⟩
  · exact leS_of rfl
  · rw [List.length_set, List.length_set]; exact Nat.le_refl _
  · exact trivial
  · rw [List.length_set, List.length_set]
    exact ltB_set (ltB_set hMB (ltB_bR hbl hcl)) (ltB_bY _ _ _)
set_option maxRecDepth 20000 in
theorem AppendRune_rc {M : List Blk} {c v : Nat} {l : List UInt8} {f : Bool} (hc : M[c]? = some (.rows 5 1 v (l.map byteRow) f)) (hMB : ∀ x ∈ M, ltB M.length x) (x : UInt8) (hx : x.toNat < 128) (hs : l.length + 1 ≤ 140737488355328) :
    CallR Try.prog M 81 [.one (.arr 1 c v 0 l.length), .one (.c (.v (.int .i32 x.toNat)))] (.p (.one (.arr 1 c (v + 1) 0 (l.length + 1)))) (M.set c (bY (v + 1) (l ++ [x]))) := by
  have hcl : c < M.length := getElem?_lt hc
  refine callR_intro F_utf8_AppendRune (by simp) ?_
  refine V_sound ?_
  have e1 : IntKind.u32.wrap (x.toNat : Int) = x.toNat := by rw [IntKind.wrap_u32]; omega
  have e2 : IntKind.u8.wrap (x.toNat : Int) = x.toNat := by rw [IntKind.wrap_u8]; omega
  simp only [c_utf8_AppendRune, go_sem, e1, e2, gl, ga, sa, gb, hc, hcl, List.length_map, byteRow_map1]
  refine ⟨fun _ => ⟨by omega, fin_own (.inr rfl) (Gh.refl _) [_] (cnd := True) rfl trivial rfl ?_ ?_ ?_ ?_⟩, fun h => absurd h (by omega)⟩
  · exact leS_of rfl
  · rw [List.length_set]; exact Nat.le_refl _
  · rw [List.length_set]; exact hcl
  · rw [List.length_set]
    exact ltB_set hMB (ltB_bY _ _ _)
set_option maxRecDepth 20000 in
theorem WriteRune_rc {M : List Blk} {b c v : Nat} {a : AV} {l : List UInt8} {f : Bool} (hbc : b ≠ c) (ha : a = .c (.v (.pointer none)) ∨ a = .ptr b 0 0 0) (hb : M[b]? = some (.rows 87 2 0 [[a, .arr 1 c v 0 l.length]] true)) (hc : M[c]? = some (.rows 5 1 v (l.map byteRow) f)) (hMB : ∀ x ∈ M, ltB M.length x) (x : UInt8) (hx : x.toNat < 128) (hs : l.length + 1 ≤ 140737488355328) :
    CallR Try.prog M 43 [.one (.ptr b 0 0 0), .one (.c (.v (.int .i32 x.toNat)))] (.tup [.i 1, nilI]) ((M.set b (bR b c (v + 1) (l.length + 1))).set c (bY (v + 1) (l ++ [x]))) := by
  have hbl : b < M.length := getElem?_lt hb
  have hcl : c < M.length := getElem?_lt hc
  have hbc' : c ≠ b := fun e => hbc e.symm
  refine callR_intro F_strings_Builder_WriteRune (by simp) ?_
  refine V_sound ?_
  simp only [c_strings_Builder_WriteRune, go_sem]
  refine call1 (copy_rc hb ha) (by simp only [go_sem]) (fun h => Bool.noConfusion h) ?_
  simp only [go_sem, gb hbl, gn hbc, gn hbc', hc, List.length_map, byteRow_map1, gl2, ga, sa, gb, List.length_set, hbl, hcl]
  refine call1 (AppendRune_rc (by rw [gn hbc]; exact hc) (by rw [List.length_set]; exact ltB_set hMB (ltB_bR (v := v) (k := l.length) hbl hcl)) x hx hs) (by simp only [go_sem]) (fun h => Bool.noConfusion h) ?_
  simp only [go_sem, gb hbl, gn hbc, gn hbc', hc, List.length_map, byteRow_map1, gl2, ga, sa, gb, List.length_set, hbl, hcl, bY]
  have e : IntKind.i64.wrap (((l.length + 1 : Nat) : Int) - l.length) = 1 := by rw [w64 (by omega) (by omega)]; omega
  rw [e]
  refine fin_own (.inr rfl) (Gh.refl _) [] (cnd := True) rfl trivial (by rw [List.append_nil]; exact set2 hbc _ _ _) ?_ ?_ ?_ ?_
  · exact leS_of rfl
  · rw [List.length_set, List.length_set]; exact Nat.le_refl _
  · simp only [go_sem]
  · rw [List.length_set, List.length_set]
    exact ltB_set (ltB_set hMB (ltB_bR hbl hcl)) (ltB_bY _ _ _)
end Go.Proofs.Ytioefecijidgkaa.A
