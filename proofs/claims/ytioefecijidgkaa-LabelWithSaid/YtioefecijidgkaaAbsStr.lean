/- The abstract machine: strings, as lists of bytes. No program in sight. -/
import Derived.Test.YtioefecijidgkaaAbs19
import Derived.Laws.RangeAny
import Derived.Sort.Walk0
import Derived.Lib.IndexMore
set_option linter.unusedVariables false
set_option linter.unusedSimpArgs false
namespace Go.Proofs.YtioefecijidgkaaAbs
open Go Go.RowKit
def bs (s : ByteArray) : List UInt8 := s.data.toList
@[go_sem] theorem bs_fold (s : ByteArray) : s.data.toList = bs s := rfl
abbrev mkS (l : List UInt8) : ByteArray := ⟨l.toArray⟩
theorem bs_len (s : ByteArray) : (bs s).length = s.size := Array.length_toList
theorem bs_inj {s t : ByteArray} (h : bs s = bs t) : s = t := by
  cases s; cases t
  simp only [bs, Array.toList_inj] at h
  rw [h]
theorem bs_mk (l : List UInt8) : bs (mkS l) = l := rfl
theorem mk_bs (s : ByteArray) : mkS (bs s) = s := bs_inj rfl
theorem bs_append (s t : ByteArray) : bs (s ++ t) = bs s ++ bs t := by simp [bs]
theorem mk_append (l m : List UInt8) : mkS l ++ mkS m = mkS (l ++ m) := bs_inj (by rw [bs_append, bs_mk, bs_mk, bs_mk])
theorem bs_extract (s : ByteArray) (i j : Nat) : bs (s.extract i j) = ((bs s).drop i).take (j - i) := by
  simp [bs, ByteArray.data_extract]
theorem mk_size (l : List UInt8) : (mkS l).size = l.length := by simp [mkS, ByteArray.size]
theorem eq_mk {s : ByteArray} {l : List UInt8} : s = mkS l ↔ bs s = l := ⟨fun h => by rw [h, bs_mk], fun h => bs_inj h⟩
@[go_sem] theorem beqS (s t : ByteArray) : (s.toList == t.toList) = decide (s = t) := by
  rw [ByteArray.toList_eq, ByteArray.toList_eq]
  by_cases h : s = t
  · simp [h]
  · simp only [h, decide_false, beq_eq_false_iff_ne, ne_eq]
    exact fun e => h (bs_inj e)
def sLt (s t : ByteArray) : Bool := decide (bs s < bs t)
@[go_sem] theorem lssS (s t : ByteArray) : Op.bytesLess s.toList t.toList = sLt s t := by
  rw [ByteArray.toList_eq, ByteArray.toList_eq]
  exact bytesLess_eq _ _
theorem sLt_irrefl (s : ByteArray) : sLt s s = false := by simp [sLt, List.lt_irrefl]
theorem sLt_trans {a b c : ByteArray} (h : sLt a b = true) (k : sLt b c = true) : sLt a c = true := by
  simp only [sLt, decide_eq_true_eq] at *
  exact List.lt_trans h k
theorem sLt_asymm {a b : ByteArray} (h : sLt a b = true) : sLt b a = false := by
  cases k : sLt b a with
  | false => rfl
  | true => have := sLt_trans h k; rw [sLt_irrefl] at this; cases this
theorem sLt_total {a b : ByteArray} (h : sLt a b = false) (k : sLt b a = false) : a = b := by
  simp only [sLt, decide_eq_false_iff_not] at h k
  exact bs_inj (List.le_antisymm (List.not_lt.1 k) (List.not_lt.1 h))
theorem sLt_ne {a b : ByteArray} (h : sLt a b = true) : a ≠ b := fun e => by rw [e, sLt_irrefl] at h; cases h
/-- The byte at a place. -/
theorem bs_get {s : ByteArray} {k : Nat} (h : k < s.size) : s[k] = (bs s).getD k 0 := by
  have h2 : k < (bs s).length := by rw [bs_len]; exact h
  rw [List.getD_eq_getElem?_getD, List.getElem?_eq_getElem h2]
  rfl
theorem dec_ascii {s : ByteArray} {k : Nat} (h : k < s.size) (ha : ((bs s).getD k 0).toNat < 128) : Utf8.decode s k = (((bs s).getD k 0).toNat, 1) := by
  have := decode_ascii s k h (by rw [bs_get h]; exact ha)
  rw [bs_get h] at this
  exact this
theorem dec_high {s : ByteArray} {k : Nat} (h : k < s.size) (ha : 128 ≤ ((bs s).getD k 0).toNat) : 128 ≤ (Utf8.decode s k).1 ∧ 1 ≤ (Utf8.decode s k).2 := decode_high s k h (by rw [bs_get h]; exact ha)
theorem all_true {α : Type} {l : List α} {d : α} {p : α → Bool} (h : ∀ j, j < l.length → p (l.getD j d) = true) : l.all p = true := by
  rw [List.all_eq_true]
  intro x hx
  obtain ⟨j, hj, rfl⟩ := List.mem_iff_getElem.1 hx
  have := h j hj
  rwa [List.getD_eq_getElem?_getD, List.getElem?_eq_getElem hj] at this
theorem all_false {α : Type} {l : List α} {d : α} {p : α → Bool} {k : Nat} (hk : k < l.length) (h : p (l.getD k d) = false) : l.all p = false := by
  rw [List.all_eq_false]
  refine ⟨l[k], List.getElem_mem hk, ?_⟩
  rw [List.getD_eq_getElem?_getD, List.getElem?_eq_getElem hk] at h
  simpa using h
theorem getD_get {α : Type} {l : List α} {i : Nat} {d : α} (h : i < l.length) : l.getD i d = l[i] := by simp [List.getD_eq_getElem?_getD, h]
theorem getD_out {α : Type} {l : List α} {i : Nat} {d : α} (h : l.length ≤ i) : l.getD i d = d := by simp [List.getD_eq_getElem?_getD, h]
theorem getD_mem {α : Type} {l : List α} {i : Nat} (d : α) (h : i < l.length) : l.getD i d ∈ l := by rw [getD_get h]; exact List.getElem_mem h
theorem mem_getD {α : Type} {l : List α} {d x : α} : x ∈ l ↔ ∃ i, i < l.length ∧ l.getD i d = x := by
  rw [List.mem_iff_getElem]
  exact ⟨fun ⟨i, h, e⟩ => ⟨i, h, by rw [getD_get h]; exact e⟩, fun ⟨i, h, e⟩ => ⟨i, h, by rw [getD_get h] at e; exact e⟩⟩
theorem take_succ_getD {α : Type} {l : List α} {k : Nat} (d : α) (h : k < l.length) : l.take (k + 1) = l.take k ++ [l.getD k d] := by
  rw [List.take_add_one, List.getElem?_eq_getElem h, getD_get h]; rfl
theorem drop_getD {α : Type} {l : List α} {k : Nat} (d : α) (h : k < l.length) : l.drop k = l.getD k d :: l.drop (k + 1) := by
  rw [List.drop_eq_getElem_cons h, getD_get h]
end Go.Proofs.YtioefecijidgkaaAbs
