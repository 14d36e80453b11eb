/- Part 4 of the texts on which the row stands: Shelf, LbD, LbE, LbF, LbG, LbH, LbI, LbJ, LbK, LbP, LbL, LbM, LbN, LbO, AbsEl, AbsEq, AbsDel, AbsMe, CdShelf, ShA, ShB, ShC, ShD, ShE, ShF, ShG, ShH, ShI, ShJ, ShK, ShL, ShM, ShN, ShO, ShP, ShQ, ShR, ShS, ShVa, ShT, ShVb, ShVc, ShU, ShW, ShX. Conditions: none. -/
import Derived.Test.YtcmkhlfjcdchmaaPmxc
import Derived.Shelf.Strings.Builder1
import Derived.Shelf.Small.Bits
import Derived.Shelf.Small.Strs
import Derived.Shelf.Strconv.Itoa0
import Derived.Shelf.Strings.Search1
import Derived.Shelf.Strings.Search2
import Derived.Shelf.Strings.Cut
import Derived.Shelf.LaysM
import Derived.Shelf.Strings.Shaped
import Derived.Test.YtcmkhlfjcdchmaaProg
import Derived.KernelRfl
set_option linter.unusedVariables false
set_option linter.unusedSimpArgs false
section
namespace Go.Proofs
open Go.Shelf
def Try.lays125_ren : Go.Shelf.Ren := ⟨fun | 125 => 73 | 128 => 90 | 129 => 91 | n => n, fun | 46 => 132 | 3 => 3 | 51 => 143 | 53 => 145 | 4 => 4 | 5 => 5 | 9 => 9 | n => n, fun | n => n⟩
theorem Try.lays125 : Go.Proofs.Lays.n125 Try.prog Try.lays125_ren := {
  mixed := by kernel_rfl
  f125 := Try.func73.trans (congrArg some (by kernel_rfl))
  f128 := Try.func90.trans (congrArg some (by kernel_rfl))
  f129 := Try.func91.trans (congrArg some (by kernel_rfl))
  t3 := Try.underlying3
  a3 := Try.isAgg3
  z3 := Try.sizeOf3
  v3 := Try.zeroValue3
  t4 := Try.underlying4
  a4 := Try.isAgg4
  z4 := Try.sizeOf4
  v4 := Try.zeroValue4
  t5 := Try.underlying5
  a5 := Try.isAgg5
  z5 := Try.sizeOf5
  v5 := Try.zeroValue5
  t9 := Try.underlying9
  a9 := Try.isAgg9
  z9 := Try.sizeOf9
  v9 := Try.zeroValue9
  t46 := Try.underlying132
  a46 := Try.isAgg132
  z46 := Try.sizeOf132
  v46 := Try.zeroValue132
  t51 := Try.underlying143
  a51 := Try.isAgg143
  z51 := Try.sizeOf143
  v51 := Try.zeroValue143
  t53 := Try.underlying145
  a53 := Try.isAgg145
  z53 := Try.sizeOf145
  v53 := Try.zeroValue145 }
/-- bits.Len: "Len returns the minimum number of bits required to represent x; the result is 0 for x == 0.": IT RETURNS 'Lib.bitLen x'; the world is as it was. (A uint has 64 bits in the model.) ITS CALLEE bits.Len64 IS MET BY ITS OWN CONTRACT OFF THE SHELF (lay that first). (LAID: no walk: one application.) -/
theorem Try.bits_Len (x : Int) (w : World) (h0 : 0 ≤ x) (h1 : x ≤ 18446744073709551615) :
    Calls Try.prog 73 #[.int .u64 x] w fun e w' => e = .returned (.int .i64 (Lib.bitLen x.toNat)) ∧ w' = w := Any.bits_Len Try.lays125 x w h0 h1
def Try.lays106_ren : Go.Shelf.Ren := ⟨fun | 106 => 63 | 213 => 74 | 265 => 92 | n => n, fun | 9 => 9 | 3 => 3 | n => n, fun | n => n⟩
theorem Try.lays106 : Go.Proofs.Lays.n106 Try.prog Try.lays106_ren := {
  mixed := by kernel_rfl
  f106 := Try.func63.trans (congrArg some (by kernel_rfl))
  f213 := Try.func74.trans (congrArg some (by kernel_rfl))
  f265 := Try.func92.trans (congrArg some (by kernel_rfl))
  t3 := Try.underlying3
  a3 := Try.isAgg3
  z3 := Try.sizeOf3
  v3 := Try.zeroValue3
  t9 := Try.underlying9
  a9 := Try.isAgg9
  z9 := Try.sizeOf9
  v9 := Try.zeroValue9 }
open Go.RowKit in
/-- strings.Compare: "Compare returns an integer comparing two strings lexicographically. The result will be 0 if a == b, -1 if a < b, and +1 if a > b.": IT RETURNS 'Lib.compareBytes a b'; the world is as it was. (LAID: no walk: one application.) -/
theorem Try.strings_Compare (a b : ByteArray) (w : World) :
    Calls Try.prog 63 #[.string a, .string b] w fun e w' => e = .returned (.int .i64 (Lib.compareBytes a.data.toList b.data.toList)) ∧ w' = w := Any.strings_Compare Try.lays106 a b w
def Try.lays145_ren : Go.Shelf.Ren := ⟨fun | 145 => 59 | 220 => 71 | 219 => 81 | 217 => 95 | 225 => 96 | 224 => 97 | 267 => 98 | 266 => 104 | 314 => 105 | n => n, fun | 9 => 9 | 4 => 4 | 59 => 108 | 3 => 3 | 5 => 5 | 46 => 132 | 146 => 156 | 51 => 143 | n => n, fun | 1 => 0 | n => n⟩
theorem Try.lays145 : Go.Proofs.Lays.n145 Try.prog Try.lays145_ren := {
  mixed := by kernel_rfl
  f145 := Try.func59.trans (congrArg some (by kernel_rfl))
  f217 := Try.func95.trans (congrArg some (by kernel_rfl))
  f219 := Try.func81.trans (congrArg some (by kernel_rfl))
  f220 := Try.func71.trans (congrArg some (by kernel_rfl))
  f224 := Try.func97.trans (congrArg some (by kernel_rfl))
  f225 := Try.func96.trans (congrArg some (by kernel_rfl))
  f266 := Try.func104.trans (congrArg some (by kernel_rfl))
  f267 := Try.func98.trans (congrArg some (by kernel_rfl))
  f314 := Try.func105.trans (congrArg some (by kernel_rfl))
  t3 := Try.underlying3
  a3 := Try.isAgg3
  z3 := Try.sizeOf3
  v3 := Try.zeroValue3
  t4 := Try.underlying4
  a4 := Try.isAgg4
  z4 := Try.sizeOf4
  v4 := Try.zeroValue4
  t5 := Try.underlying5
  a5 := Try.isAgg5
  z5 := Try.sizeOf5
  v5 := Try.zeroValue5
  t9 := Try.underlying9
  a9 := Try.isAgg9
  z9 := Try.sizeOf9
  v9 := Try.zeroValue9
  t46 := Try.underlying132
  a46 := Try.isAgg132
  z46 := Try.sizeOf132
  v46 := Try.zeroValue132
  t51 := Try.underlying143
  a51 := Try.isAgg143
  z51 := Try.sizeOf143
  v51 := Try.zeroValue143
  t59 := Try.underlying108
  a59 := Try.isAgg108
  z59 := Try.sizeOf108
  v59 := Try.zeroValue108
  t146 := Try.underlying156
  a146 := Try.isAgg156
  z146 := Try.sizeOf156
  v146 := Try.zeroValue156
  g1 := by kernel_rfl }
open Go.RowKit Go.Lib in
/-- strings.Cut: "Cut slices s around the first instance of sep, returning the text before and after sep. The found result reports whether sep appears in s. If sep does not appear in s, cut returns s, "", false.": IT RETURNS 'Lib.cut s sep'; the world is as it was but for the count of draws. (LAID: no walk: one application.) -/
theorem Try.strings_Cut (s sep : ByteArray) (m : Int) (w : World) (hs : s.size < 4294967281) (hm : w.cell? ⟨0, 0, none⟩ = some (.int .i64 m)) :
    Calls Try.prog 59 #[.string s, .string sep] w fun e w' => e = .returned (.tuple #[.string ⟨(Lib.cut s.data.toList sep.data.toList).1.toArray⟩, .string ⟨(Lib.cut s.data.toList sep.data.toList).2.1.toArray⟩, .bool (Lib.cut s.data.toList sep.data.toList).2.2]) ∧ ∃ n, w' = w.drewN n := Any.strings_Cut Try.lays145 s sep m w hs hm
end Go.Proofs
end
section
namespace Go.Proofs.Ytcmkhlfjcdchmaa.A
open Go Go.Proofs Go.Proofs.YtcmkhlfjcdchmaaAbs
def cutS (s sep : ByteArray) : ByteArray × ByteArray × Bool := (mkS (Lib.cut (bs s) (bs sep)).1, mkS (Lib.cut (bs s) (bs sep)).2.1, (Lib.cut (bs s) (bs sep)).2.2)
theorem Cut_rc (s sep : ByteArray) (hs : s.size < 4294967281) (M : List Blk) : CallR Try.prog M 59 [.s s, .s sep] (.tup [.s (cutS s sep).1, .s (cutS s sep).2.1, .b (cutS s sep).2.2]) M := by
  refine callR_lib (xs := [.string s, .string sep]) (v := .tuple #[.string (cutS s sep).1, .string (cutS s sep).2.1, .bool (cutS s sep).2.2]) (enters_fun Try.func59 (by kernel_rfl) rfl) (fun I σ => ?_) (fun I w hG hI => ?_) M
  · refine ⟨_, rfl, rfl, fun k q x hq hx => ?_⟩
    match k, hq, hx with
    | 0, hq, hx => injection hq with hq; injection hx with hx; subst hq; subst hx; exact ⟨rfl, rfl⟩
    | 1, hq, hx => injection hq with hq; injection hx with hx; subst hq; subst hx; exact ⟨rfl, rfl⟩
    | 2, hq, hx => injection hq with hq; injection hx with hx; subst hq; subst hx; exact ⟨rfl, rfl⟩
  · obtain ⟨m, hm⟩ := hG 0 (by kernel_rfl)
    exact Try.strings_Cut s sep m w hs (hI _ _ hm)
def cmpS (a b : ByteArray) : Int := if sLt a b then -1 else if sLt b a then 1 else 0
theorem compare_lt : ∀ a b : List UInt8, Lib.compareBytes a b = if a < b then -1 else if b < a then 1 else 0
  | [], [] => by simp [Lib.compareBytes, List.lt_irrefl]
  | [], b :: y => by simp [Lib.compareBytes]
  | a :: x, [] => by simp [Lib.compareBytes]
  | a :: x, b :: y => by
    rw [Lib.compareBytes, compare_lt x y]
    simp only [List.cons_lt_cons_iff]
    by_cases h1 : a < b
    · simp [h1]
    · by_cases h2 : b < a
      · have : ¬ a = b := fun e => by subst e; exact h1 h2
        have h3 : ¬ b = a := fun e => this e.symm
        simp [h1, h2, this]
      · have : a = b := UInt8.le_antisymm (UInt8.not_lt.1 h2) (UInt8.not_lt.1 h1)
        subst this
        simp [h1]
theorem Compare_rc (a b : ByteArray) (M : List Blk) : CallR Try.prog M 63 [.s a, .s b] (.i (cmpS a b)) M := by
  refine callR_lib (r := .i (cmpS a b)) (xs := [.string a, .string b]) (v := .int .i64 (cmpS a b)) (enters_fun Try.func63 (by kernel_rfl) rfl) (fun I σ => ⟨rfl, rfl⟩) (fun I w hG hI => ?_) M
  refine (Try.strings_Compare a b w).mono ?_
  rintro e w' ⟨rfl, rfl⟩
  refine ⟨?_, 0, rfl⟩
  have : Lib.compareBytes a.data.toList b.data.toList = cmpS a b := by
    rw [compare_lt]
    simp only [cmpS, sLt, decide_eq_true_eq]
    rfl
  rw [this]
theorem BitsLen_rc (x : Int) (h0 : 0 ≤ x) (h1 : x ≤ 18446744073709551615) (M : List Blk) : CallR Try.prog M 73 [.one (.c (.v (.int .u64 x)))] (.i (Lib.bitLen x.toNat : Nat)) M := by
  refine callR_lib (r := .i (Lib.bitLen x.toNat : Nat)) (xs := [.int .u64 x]) (v := .int .i64 (Lib.bitLen x.toNat : Nat)) (enters_fun Try.func73 (by kernel_rfl) rfl) (fun I σ => ⟨rfl, rfl⟩) (fun I w hG hI => ?_) M
  refine (Try.bits_Len x w h0 h1).mono ?_
  rintro e w' ⟨rfl, rfl⟩
  exact ⟨rfl, 0, rfl⟩
end Go.Proofs.Ytcmkhlfjcdchmaa.A
end
section
namespace Go.Proofs.Ytcmkhlfjcdchmaa.A
open Go Go.Proofs Go.Proofs.YtcmkhlfjcdchmaaAbs Go.RowKit Go.Shelf
set_option maxHeartbeats 1000000 in
set_option maxRecDepth 100000 in
theorem bld_used (b : Nat) (w : World) (h0 : w.cell? ⟨b, 0, none⟩ = some (.pointer (some ⟨b, 0, none⟩))) :
    Calls Try.prog 77 #[.pointer (some ⟨b, 0, none⟩)] w fun e w' => e = .returned (.tuple #[]) ∧ w' = w := by
  obtain ⟨j, hj, _⟩ := Option.map_eq_some_iff.1 (show (Try.prog.info? 120).map (·.size) = some 2 by kernel_rfl)
  have mixed : Try.prog.follows .mixedOrders = true := by kernel_rfl
  go_enter Try.func77, Try.ntmps77
  go_wp2
  rw [Lib.run_neq_ptr_same w _ Try.underlying117 hj]
  go_wp2
  go_end0
  exact ⟨rfl, rfl⟩
set_option maxHeartbeats 1000000 in
set_option maxRecDepth 100000 in
theorem bld_fresh (b : Nat) (w : World) (h0 : w.cell? ⟨b, 0, none⟩ = some (.pointer none)) (hsh : w.shape? b = some (120, 2)) (hfz : w.frozen? ⟨b, 0, none⟩ = false) :
    Calls Try.prog 77 #[.pointer (some ⟨b, 0, none⟩)] w fun e w' => e = .returned (.tuple #[]) ∧ w' = w.setCell ⟨b, 0, none⟩ (.pointer (some ⟨b, 0, none⟩)) := by
  obtain ⟨j, hj, hjs⟩ := Option.map_eq_some_iff.1 (show (Try.prog.info? 120).map (·.size) = some 2 by kernel_rfl)
  have mixed : Try.prog.follows .mixedOrders = true := by kernel_rfl
  go_enter Try.func77, Try.ntmps77
  go_wp2
  rw [Lib.run_to_unsafe w ⟨b, 0, none⟩ Try.underlying117 Try.underlying146 hj (by rw [hjs]; decide) hsh (Nat.zero_lt_succ 1)]
  simp only [Result.andThen]
  rw [Oper.upon_value]
  go_wp2
  rw [run_callFunc_extern Try.func93 (by kernel_rfl) (by kernel_rfl) (by kernel_rfl) (e := Extern.AbiNoEscape.same) (by kernel_rfl)]
  rw [Lib.run_noEscape]
  simp only [Result.andThen]
  rw [Oper.upon_value]
  go_wp2
  rw [Lib.run_from_unsafe w ⟨b, 0, none⟩ Try.underlying146 Try.underlying117 hj hsh (by kernel_rfl)]
  simp only [Result.andThen]
  rw [Oper.upon_value]
  go_wp2
  go_end0
  exact ⟨rfl, rfl⟩
theorem copy_rc {M : List Blk} {b ver : Nat} {x y : AV} (hb : M[b]? = some (.rows 120 2 ver [[x, y]] true)) (hx : x = .c (.v (.pointer none)) ∨ x = .ptr b ver 0 0) :
    CallR Try.prog M 77 [.one (.ptr b ver 0 0)] (.tup []) (M.set b (.rows 120 2 ver [[.ptr b ver 0 0, y]] true)) := by
  intro I σ w vals hG hm hvl hvr
  obtain ⟨v, rfl⟩ : ∃ v, vals = #[v] := ⟨vals[0]'(by simp at hvl; omega), by apply Array.ext <;> simp_all⟩
  have hv : RelA I σ (.ptr b ver 0 0) v := hvr 0 _ v rfl rfl
  obtain ⟨p, g, cs, hp, hg, hps, rfl, hh, hs, hlc, hrl, hcs⟩ := mem_ptr hm hb hv (by simp)
  have hcap : p.cap = 1 := (hm.blk b _ p hb hp).1 rfl
  obtain ⟨x0, hx0, hxr⟩ := hcs 0 _ rfl 0 _ rfl
  have hcell : w.cell? ⟨g, 0, none⟩ = some x0 := by rw [Lib.cell_of_heap hh]; simpa using hx0
  have hE : Go.Proofs.YtcmkhlfjcdchmaaAbs.Enters Try.prog 77 := enters_fun Try.func77 (by kernel_rfl) rfl
  simp only [Nat.zero_mul, Nat.zero_add] at hv ⊢
  have hr : RelS I σ (.tup []) (.tuple #[]) := ⟨_, rfl, rfl, fun k q x hq hx => by cases hq⟩
  rcases hx with rfl | rfl
  · obtain ⟨rfl, _⟩ := hxr
    refine .inl ⟨hE, (bld_fresh g w hcell ?_ ?_).mono ?_⟩
    · unfold World.shape?
      rw [hh]
      simp only [hs, hcap]
    · unfold World.frozen?
      simp only [hh]
      rfl
    · rintro e w' ⟨rfl, rfl⟩
      exact ⟨_, rfl, I, σ, hr, by simpa [fillL] using evo_set1 hm hb (i := 0) (j := 0) rfl (by omega) hp hg hv⟩
  · obtain ⟨h1, q, hq, h2, hq2⟩ := hxr
    obtain rfl : p = q := by rw [hp] at hq; injection hq
    obtain ⟨p', hp', m1, m2, m3⟩ := mem_rows hm hb
    obtain rfl : p = p' := by rw [hp] at hp'; injection hp'
    obtain ⟨g', hg', rfl⟩ := hq2 m2
    obtain rfl : g = g' := by rw [hg] at hg'; injection hg'
    simp only [Nat.zero_mul, Nat.zero_add] at hcell
    refine .inl ⟨hE, (bld_used g w hcell).mono ?_⟩
    rintro e w' ⟨rfl, rfl⟩
    refine ⟨_, rfl, I, σ, hr, ?_⟩
    rw [set_self hb]
    exact Evo.refl hm
set_option maxHeartbeats 1000000 in
set_option maxRecDepth 100000 in
theorem bld_string (b g cap : Nat) (l : List UInt8) (p : Value) (cur : Array Value) (w : World) (h0 : l ≠ []) (hbk : w.heap[b]? = some (.cells #[p, .slice (some ⟨g, 0, none⟩) l.length cap] 120 (0, 0)))
    (hg : w.heap[g]? = some (.cells cur 5 (0, 0))) (hc : l.length ≤ cap) (hcm : cap ≤ maxLen) (hs : cur.size = cap) (hcell : ∀ (j : Nat) (x : UInt8), l[j]? = some x → w.cell? ⟨g, j, none⟩ = some (.int .u8 x.toNat)) :
    Calls Try.prog 68 #[.pointer (some ⟨b, 0, none⟩)] w fun e w' => e = .returned (.string ⟨l.toArray⟩) ∧ w' = w.drew.freeze ⟨g, 0, none⟩ l.length := by
  have hl0 : l.length ≠ 0 := by simpa using h0
  have c1 : w.drew.cell? ⟨b, 1, none⟩ = some (.slice (some ⟨g, 0, none⟩) l.length cap) := by
    have : w.drew.heap[b]? = some (.cells #[p, .slice (some ⟨g, 0, none⟩) l.length cap] 120 (0, 0)) := hbk
    rw [Lib.cell_of_heap this]; rfl
  have hSD : (Builtin.unsafeSliceData_ #[118] 134 #[.slice (some ⟨g, 0, none⟩) l.length cap]).run Try.prog w.drew = .ok (.pointer (some ⟨g, 0, none⟩)) w.drew :=
    Lib.run_unsafeSliceData_row _ _ _ _ _ _ (by omega)
  have hUS : (Builtin.unsafeString_ #[134, 3] 9 #[.pointer (some ⟨g, 0, none⟩), .int .i64 l.length]).run Try.prog w.drew = .ok (.string ⟨l.toArray⟩) (w.drew.freeze ⟨g, 0, none⟩ l.length) := by
    refine Lib.run_unsafeString_row w.drew 134 3 9 5 Try.underlying134 (by kernel_rfl) g cur.size (by have hg' : w.drew.heap[g]? = some (.cells cur 5 (0, 0)) := hg; simp [World.shape?, hg']) l h0 (by omega) (by unfold maxLen at hcm; omega) ?_
    intro j x hx
    have e : (⟨g, 0, none⟩ : Addr).add j = ⟨g, j, none⟩ := by simp [Addr.add]; exact fun h => h.symm
    rw [e]
    exact hcell j x hx
  have mixed : Try.prog.follows .mixedOrders = true := by kernel_rfl
  go_enter Try.func68, Try.ntmps68
  go_wp2
  go_region
  all_goals (go_wp2; go_ret; exact ⟨rfl, rfl⟩)
theorem String_rc {M : List Blk} {b ver c v : Nat} {a : AV} {l : List UInt8} {f : Bool} (hb : M[b]? = some (.rows 120 2 ver [[a, .arr 1 c v 0 l.length]] true)) (hc : M[c]? = some (.rows 5 1 v (l.map byteRow) f)) (h0 : l ≠ []) :
    CallR Try.prog M 68 [.one (.ptr b ver 0 0)] (.s ⟨l.toArray⟩) (M.set c .dead) := by
  intro I σ w vals hG hm hvl hvr
  obtain ⟨u, rfl⟩ : ∃ v, vals = #[v] := ⟨vals[0]'(by simp at hvl; omega), by apply Array.ext <;> simp_all⟩
  have hv : RelA I σ (.ptr b ver 0 0) u := hvr 0 _ u rfl rfl
  obtain ⟨p, g, cs, hp, hg, hps, rfl, hh, hs, hlc, hrl, hcs⟩ := mem_ptr hm hb hv (by simp)
  have hcap : p.cap = 1 := (hm.blk b _ p hb hp).1 rfl
  obtain ⟨x0, hx0, hxr⟩ := hcs 0 _ rfl 0 _ rfl
  obtain ⟨x1, hx1, hyr⟩ := hcs 0 _ rfl 1 _ rfl
  have hE : Go.Proofs.YtcmkhlfjcdchmaaAbs.Enters Try.prog 68 := enters_fun Try.func68 (by kernel_rfl) rfl
  obtain ⟨h1, q, hq, h2, hq2⟩ := hyr
  obtain ⟨q', hq', m1, m2, m3, m4, m5, m6⟩ := mem_rows hm hc
  obtain rfl : q = q' := by rw [hq] at hq'; injection hq'
  obtain ⟨m7, m8, rfl⟩ := hq2 m2
  have hll : l.length ≠ 0 := by simpa using h0
  rw [List.length_map] at m3
  obtain ⟨g2, hg2⟩ : ∃ g2, q.blk = some g2 := by
    cases e : q.blk with
    | none => rw [e] at m6; simp only at m6; omega
    | some g => exact ⟨g, rfl⟩
  rw [hg2] at m6
  obtain ⟨cs2, hh2, hs2, m9, hcs2⟩ := m6
  have hcse : cs = #[x0, .slice (some ⟨g2, 0, none⟩) l.length q.cap] := by
    apply Array.ext_getElem?
    intro k
    match k with
    | 0 => simpa using hx0
    | 1 => simpa [hg2] using hx1
    | k + 2 => rw [Array.getElem?_eq_none (by omega)]; simp
  rw [hcse] at hh
  simp only [Nat.zero_mul, Nat.zero_add]
  refine .inl ⟨hE, (bld_string g g2 q.cap l x0 cs2 w h0 hh hh2 m3 m4 (by omega) (fun j x hx => ?_)).mono ?_⟩
  · rw [Lib.cell_of_heap hh2]
    obtain ⟨y, hy, hyr⟩ := hcs2 j (byteRow x) (by rw [List.getElem?_map, hx]; rfl) 0 _ rfl
    obtain ⟨rfl, _⟩ := hyr
    simpa using hy
  · rintro e w' ⟨rfl, rfl⟩
    have e : w.drew.freeze ⟨g2, 0, none⟩ l.length = { w.drew with heap := (w.drew.freeze ⟨g2, 0, none⟩ l.length).heap } := by
      unfold World.freeze; rw [if_neg hll]
    refine ⟨_, rfl, I, σ, ⟨rfl, rfl⟩, evo_kill hm hc hq hg2 ?_ ?_ ?_ ?_ ?_⟩
    · unfold World.freeze; rw [if_neg hll]; rfl
    · unfold World.freeze; rw [if_neg hll]; rfl
    · unfold World.freeze; rw [if_neg hll]; rfl
    · unfold World.freeze; rw [if_neg hll]; exact Array.size_modify
    · intro k hk
      unfold World.freeze; rw [if_neg hll]
      simp only []
      rw [Array.getElem?_modify, if_neg (fun e => hk e.symm)]
      rfl
end Go.Proofs.Ytcmkhlfjcdchmaa.A
end
section
namespace Go.Proofs.Ytcmkhlfjcdchmaa.A
open Go Go.Proofs Go.Proofs.YtcmkhlfjcdchmaaAbs
/-- The builder behind k writes. -/
def bR (b c v : Nat) (n : Nat) : Blk := .rows 120 2 0 [[.ptr b 0 0 0, .arr 1 c v 0 n]] true
def bY (v : Nat) (l : List UInt8) : Blk := .rows 5 1 v (l.map byteRow) false
abbrev nilI : Pt := .one (.c (.v .nilIface))
theorem gb {M : List Blk} {b : Nat} {X : Blk} (h : b < M.length) : (M.set b X)[b]? = some X := by rw [List.getElem?_set, if_pos rfl, if_pos h]
theorem gn {M : List Blk} {b c : Nat} {X : Blk} (h : b ≠ c) : (M.set b X)[c]? = M[c]? := by rw [List.getElem?_set, if_neg h]
theorem ga {M D : List Blk} {b : Nat} (h : b < M.length) : (M ++ D)[b]? = M[b]? := List.getElem?_append_left h
theorem gl {M : List Blk} {X : Blk} : (M ++ [X])[M.length]? = some X := by rw [List.getElem?_append_right (Nat.le_refl _), Nat.sub_self]; rfl
theorem sa {M D : List Blk} {b : Nat} {X : Blk} (h : b < M.length) : (M ++ D).set b X = M.set b X ++ D := List.set_append_left _ _ h
theorem gl2 {M : List Blk} {X Y : Blk} {b : Nat} : (M.set b Y ++ [X])[M.length]? = some X := by rw [List.getElem?_append_right (by simp), List.length_set, Nat.sub_self]; rfl
theorem leS_of {s s' : SV} (h : s = s') : leS s s' := by rw [h, leS_self]; trivial
theorem byteRow_map1 (l : List UInt8) (x : UInt8) : l.map byteRow ++ [[.c (.v (.int .u8 x.toNat))]] = (l ++ [x]).map byteRow := by rw [List.map_append]; rfl
theorem byteRow_map (l k : List UInt8) : l.map byteRow ++ k.map byteRow = (l ++ k).map byteRow := (List.map_append ..).symm
theorem ltB_set {M : List Blk} {b : Nat} {X : Blk} {n : Nat} (h : ∀ x ∈ M, ltB n x) (hX : ltB n X) : ∀ x ∈ M.set b X, ltB n x := fun x hx => by
  rcases List.mem_or_eq_of_mem_set hx with hx | rfl
  · exact h x hx
  · exact hX
theorem ltB_bY (n v : Nat) (l : List UInt8) : ltB n (bY v l) := by
  intro r hr a ha
  obtain ⟨x, _, rfl⟩ := List.mem_map.1 hr
  obtain rfl := List.mem_singleton.1 ha
  trivial
theorem ltB_bR {n b c v k : Nat} (h1 : b < n) (h2 : c < n) : ltB n (bR b c v k) := by
  intro r hr a ha
  obtain rfl := List.mem_singleton.1 hr
  rcases List.mem_cons.1 ha with rfl | ha
  · exact h1
  · obtain rfl := List.mem_singleton.1 ha
    exact h2
theorem set2 {M : List Blk} {b c : Nat} (h : b ≠ c) (X Y Z : Blk) : (((M.set b X).set c Y).set b Z) = (M.set b Z).set c Y := by
  rw [List.set_comm _ _ (fun e => h e.symm), List.set_set]
set_option maxRecDepth 20000 in
theorem WriteString_rc {M : List Blk} {b c v : Nat} {a : AV} {l : List UInt8} {f : Bool} (hbc : b ≠ c) (ha : a = .c (.v (.pointer none)) ∨ a = .ptr b 0 0 0) (hb : M[b]? = some (.rows 120 2 0 [[a, .arr 1 c v 0 l.length]] true)) (hc : M[c]? = some (.rows 5 1 v (l.map byteRow) f)) (hMB : ∀ x ∈ M, ltB M.length x) (s : ByteArray) (hs : l.length + s.size ≤ 140737488355328) :
    CallR Try.prog M 65 [.one (.ptr b 0 0 0), .s s] (.tup [.i s.size, nilI]) ((M.set b (bR b c (v + 1) (l.length + s.size))).set c (bY (v + 1) (l ++ bs s))) := by
  have hbl : b < M.length := getElem?_lt hb
  have hcl : c < M.length := getElem?_lt hc
  refine callR_intro F_strings_Builder_WriteString (by simp) ?_
  refine V_sound ?_
  simp only [c_strings_Builder_WriteString, go_sem]
  refine call1 (copy_rc hb ha) (by simp only [go_sem]) (fun h => Bool.noConfusion h) ?_
  simp only [go_sem, gb hbl, gn hbc, hc, hbl, List.length_map, byteRow_map, gb (show c < (M.set b (.rows 120 2 0 [[AV.ptr b 0 0 0, AV.arr 1 c v 0 l.length]] true)).length by rw [List.length_set]; exact hcl), gn (fun e => hbc e.symm : c ≠ b)]
  refine ⟨hs, fin_own (.inr rfl) (Gh.refl _) [] (cnd := True) rfl trivial ?_ ?_ ?_ ?_ ?_⟩
  · rw [List.append_nil]
    exact set2 hbc _ _ _
  · exact leS_of rfl
  · rw [List.length_set, List.length_set]; exact Nat.le_refl _
  · simp only [go_sem]
  · rw [List.length_set, List.length_set]
    exact ltB_set (ltB_set hMB (ltB_bR hbl hcl)) (ltB_bY _ _ _)
set_option maxRecDepth 20000 in
theorem WriteByte_rc {M : List Blk} {b c v : Nat} {a : AV} {l : List UInt8} {f : Bool} (hbc : b ≠ c) (ha : a = .c (.v (.pointer none)) ∨ a = .ptr b 0 0 0) (hb : M[b]? = some (.rows 120 2 0 [[a, .arr 1 c v 0 l.length]] true)) (hc : M[c]? = some (.rows 5 1 v (l.map byteRow) f)) (hMB : ∀ x ∈ M, ltB M.length x) (x : UInt8) (hs : l.length + 1 ≤ 140737488355328) :
    CallR Try.prog M 66 [.one (.ptr b 0 0 0), .one (.c (.v (.int .u8 x.toNat)))] (.p nilI) ((M.set b (bR b c (v + 1) (l.length + 1))).set c (bY (v + 1) (l ++ [x]))) := by
  have hbl : b < M.length := getElem?_lt hb
  have hcl : c < M.length := getElem?_lt hc
  refine callR_intro F_strings_Builder_WriteByte (by simp) ?_
  refine V_sound ?_
  simp only [c_strings_Builder_WriteByte, go_sem]
  refine call1 (copy_rc hb ha) (by simp only [go_sem]) (fun h => Bool.noConfusion h) ?_
  have hbc' : c ≠ b := fun e => hbc e.symm
  simp only [go_sem, gb hbl, gn hbc, gn hbc', hc, List.length_map, byteRow_map1, gl2, ga, sa, gb, List.length_set, hbl, hcl]
  refine ⟨by omega, fin_own (.inr rfl) (Gh.refl _) [_] (cnd := True) rfl trivial (congrArg (· ++ [_]) (set2 hbc _ _ _)) ?_ ?_ ?_ ?_⟩
  · exact leS_of rfl
  · rw [List.length_set, List.length_set]; exact Nat.le_refl _
  · exact trivial
  · rw [List.length_set, List.length_set]
    exact ltB_set (ltB_set hMB (ltB_bR hbl hcl)) (ltB_bY _ _ _)
set_option maxRecDepth 20000 in
theorem AppendRune_rc {M : List Blk} {c v : Nat} {l : List UInt8} {f : Bool} (hc : M[c]? = some (.rows 5 1 v (l.map byteRow) f)) (hMB : ∀ x ∈ M, ltB M.length x) (x : UInt8) (hx : x.toNat < 128) (hs : l.length + 1 ≤ 140737488355328) :
    CallR Try.prog M 78 [.one (.arr 1 c v 0 l.length), .one (.c (.v (.int .i32 x.toNat)))] (.p (.one (.arr 1 c (v + 1) 0 (l.length + 1)))) (M.set c (bY (v + 1) (l ++ [x]))) := by
  have hcl : c < M.length := getElem?_lt hc
  refine callR_intro F_utf8_AppendRune (by simp) ?_
  refine V_sound ?_
  have e1 : IntKind.u32.wrap (x.toNat : Int) = x.toNat := by rw [IntKind.wrap_u32]; omega
  have e2 : IntKind.u8.wrap (x.toNat : Int) = x.toNat := by rw [IntKind.wrap_u8]; omega
  simp only [c_utf8_AppendRune, go_sem, e1, e2, gl, ga, sa, gb, hc, hcl, List.length_map, byteRow_map1]
  refine ⟨fun _ => ⟨by omega, fin_own (.inr rfl) (Gh.refl _) [_] (cnd := True) rfl trivial rfl ?_ ?_ ?_ ?_⟩, fun h => absurd h (by omega)⟩
  · exact leS_of rfl
  · rw [List.length_set]; exact Nat.le_refl _
  · rw [List.length_set]; exact hcl
  · rw [List.length_set]
    exact ltB_set hMB (ltB_bY _ _ _)
set_option maxRecDepth 20000 in
theorem WriteRune_rc {M : List Blk} {b c v : Nat} {a : AV} {l : List UInt8} {f : Bool} (hbc : b ≠ c) (ha : a = .c (.v (.pointer none)) ∨ a = .ptr b 0 0 0) (hb : M[b]? = some (.rows 120 2 0 [[a, .arr 1 c v 0 l.length]] true)) (hc : M[c]? = some (.rows 5 1 v (l.map byteRow) f)) (hMB : ∀ x ∈ M, ltB M.length x) (x : UInt8) (hx : x.toNat < 128) (hs : l.length + 1 ≤ 140737488355328) :
    CallR Try.prog M 67 [.one (.ptr b 0 0 0), .one (.c (.v (.int .i32 x.toNat)))] (.tup [.i 1, nilI]) ((M.set b (bR b c (v + 1) (l.length + 1))).set c (bY (v + 1) (l ++ [x]))) := by
  have hbl : b < M.length := getElem?_lt hb
  have hcl : c < M.length := getElem?_lt hc
  have hbc' : c ≠ b := fun e => hbc e.symm
  refine callR_intro F_strings_Builder_WriteRune (by simp) ?_
  refine V_sound ?_
  simp only [c_strings_Builder_WriteRune, go_sem]
  refine call1 (copy_rc hb ha) (by simp only [go_sem]) (fun h => Bool.noConfusion h) ?_
  simp only [go_sem, gb hbl, gn hbc, gn hbc', hc, List.length_map, byteRow_map1, gl2, ga, sa, gb, List.length_set, hbl, hcl]
  refine call1 (AppendRune_rc (by rw [gn hbc]; exact hc) (by rw [List.length_set]; exact ltB_set hMB (ltB_bR (v := v) (k := l.length) hbl hcl)) x hx hs) (by simp only [go_sem]) (fun h => Bool.noConfusion h) ?_
  simp only [go_sem, gb hbl, gn hbc, gn hbc', hc, List.length_map, byteRow_map1, gl2, ga, sa, gb, List.length_set, hbl, hcl, bY]
  have e : IntKind.i64.wrap (((l.length + 1 : Nat) : Int) - l.length) = 1 := by rw [w64 (by omega) (by omega)]; omega
  rw [e]
  refine fin_own (.inr rfl) (Gh.refl _) [] (cnd := True) rfl trivial (by rw [List.append_nil]; exact set2 hbc _ _ _) ?_ ?_ ?_ ?_
  · exact leS_of rfl
  · rw [List.length_set, List.length_set]; exact Nat.le_refl _
  · simp only [go_sem]
  · rw [List.length_set, List.length_set]
    exact ltB_set (ltB_set hMB (ltB_bR hbl hcl)) (ltB_bY _ _ _)
end Go.Proofs.Ytcmkhlfjcdchmaa.A
end
section
namespace Go.Proofs.Ytcmkhlfjcdchmaa.A
open Go Go.Proofs Go.Proofs.YtcmkhlfjcdchmaaAbs
def esc1 (x : UInt8) : List UInt8 := if x = 34 ∨ x = 92 then [92, x] else [x]
def esc (l : List UInt8) : List UInt8 := l.flatMap esc1
def labT (k : Nat) (x : Lb) : List UInt8 := (if k = 0 then [123] else [44]) ++ (bs x.name ++ [61, 34]) ++ esc (bs x.value) ++ [34]
def textP (s : Ser) : Nat → List UInt8
  | 0 => bs s.name
  | k + 1 => textP s k ++ labT k (s.labels.getD k default)
def prT (s : Ser) : ByteArray := if serOk s then (if s.labels.length = 0 then s.name else mkS (textP s s.labels.length ++ [125])) else mkS []
theorem esc_len (l : List UInt8) : (esc l).length ≤ 2 * l.length := by
  induction l with
  | nil => simp [esc]
  | cons x l ih =>
    have : (esc1 x).length ≤ 2 := by unfold esc1; split <;> simp
    simp only [esc, List.flatMap_cons, List.length_append, List.length_cons] at ih ⊢
    omega
theorem serOk_parts {s : Ser} (h : serOk s = true) : nmOk s.name = true ∧ s.labels.length ≤ 4 ∧ ∀ k, k < s.labels.length → lbOk s.labels k = true := by
  simp only [serOk, Bool.and_eq_true, decide_eq_true_eq, List.all_eq_true, List.mem_range] at h
  exact ⟨h.1.1, h.1.2, h.2⟩
theorem lbOk_parts {l : List Lb} {k : Nat} (h : lbOk l k = true) : nmOk (l.getD k default).name = true ∧ vlOk (l.getD k default).value = true := by
  simp only [lbOk, Bool.and_eq_true] at h
  exact h.1
theorem nm_len {s : ByteArray} (h : nmOk s = true) : s.size ≤ 16 := by
  simp only [nmOk, Bool.and_eq_true, decide_eq_true_eq] at h
  exact h.1.2
theorem vl_parts {s : ByteArray} (h : vlOk s = true) : s.size ≤ 16 ∧ ∀ k, k < s.size → 32 ≤ ((bs s).getD k 0).toNat ∧ ((bs s).getD k 0).toNat ≤ 126 := by
  simp only [vlOk, Bool.and_eq_true, decide_eq_true_eq, List.all_eq_true] at h
  refine ⟨h.1, fun k hk => inR_t.1 (h.2 _ ?_)⟩
  rw [List.getD_eq_getElem?_getD, List.getElem?_eq_getElem (by rw [bs_len]; exact hk)]
  exact List.getElem_mem _
theorem textP_len {s : Ser} (h : serOk s = true) : ∀ k, k ≤ s.labels.length → (textP s k).length ≤ 16 + k * 60
  | 0, _ => by rw [textP, bs_len]; have := nm_len (serOk_parts h).1; omega
  | k + 1, hk => by
    have ih := textP_len h k (by omega)
    have hl := lbOk_parts ((serOk_parts h).2.2 k (by omega))
    have h1 := nm_len hl.1
    have h2 := (vl_parts hl.2).1
    have h3 := esc_len (bs (s.labels.getD k default).value)
    rw [bs_len] at h3
    rw [textP, labT, List.length_append, List.length_append, List.length_append, List.length_append, List.length_append, bs_len]
    have : (if k = 0 then [123] else [44] : List UInt8).length = 1 := by split <;> rfl
    simp only [this, List.length_cons, List.length_nil]
    omega
theorem ltB_rowS (n t : Nat) (x y : CV) : ltB n (.rows t 2 0 [[.c x, .c y]] true) := by
  intro r hr a ha
  obtain rfl := List.mem_singleton.1 hr
  rcases List.mem_cons.1 ha with rfl | ha
  · trivial
  · obtain rfl := List.mem_singleton.1 ha; trivial
/-- The builder's memory. -/
abbrev pM (s : Ser) (v : Nat) (l : List UInt8) : List Blk := [.rows 97 2 0 [[.c (.v (.string s.name)), .c (lbCV s.labels)]] true, bR 1 2 v l.length, bY v l]
theorem pM_lt (s : Ser) (v : Nat) (l : List UInt8) (D : List Blk) (hD : ∀ x ∈ D, ltB (3 + D.length) x) : ∀ x ∈ pM s v l ++ D, ltB (pM s v l ++ D).length x := by
  have e : (pM s v l ++ D).length = 3 + D.length := by simp [pM]; omega
  rw [e]
  intro x hx
  rcases List.mem_append.1 hx with hx | hx
  · simp only [pM, List.mem_cons, List.not_mem_nil, or_false] at hx
    rcases hx with rfl | rfl | rfl
    · exact ltB_rowS _ _ _ _
    · exact ltB_bR (by omega) (by omega)
    · exact ltB_bY _ _ _
  · exact hD x hx
theorem wb (s : Ser) {v : Nat} {l : List UInt8} {D : List Blk} (hD : ∀ x ∈ D, ltB (3 + D.length) x) (x : UInt8) (hn : l.length + 1 ≤ 140737488355328) : CallR Try.prog (pM s v l ++ D) 66 [.one (.ptr 1 0 0 0), .one (.c (.v (.int .u8 x.toNat)))] (.p nilI) (pM s (v + 1) (l ++ [x]) ++ D) := by
  have := WriteByte_rc (M := pM s v l ++ D) (b := 1) (c := 2) (v := v) (l := l) (by decide) (.inr rfl) rfl rfl (pM_lt s v l D hD) x hn
  have e : (l ++ [x]).length = l.length + 1 := by simp
  simpa only [pM, e, List.cons_append, List.nil_append, List.set_cons_succ, List.set_cons_zero] using this
theorem ws (s : Ser) {v : Nat} {l : List UInt8} {D : List Blk} (hD : ∀ x ∈ D, ltB (3 + D.length) x) (x : ByteArray) (hn : l.length + x.size ≤ 140737488355328) : CallR Try.prog (pM s v l ++ D) 65 [.one (.ptr 1 0 0 0), .s x] (.tup [.i x.size, nilI]) (pM s (v + 1) (l ++ bs x) ++ D) := by
  have := WriteString_rc (M := pM s v l ++ D) (b := 1) (c := 2) (v := v) (l := l) (by decide) (.inr rfl) rfl rfl (pM_lt s v l D hD) x hn
  have e : (l ++ bs x).length = l.length + x.size := by simp [bs_len]
  simpa only [pM, e, List.cons_append, List.nil_append, List.set_cons_succ, List.set_cons_zero] using this
theorem wr (s : Ser) {v : Nat} {l : List UInt8} {D : List Blk} (hD : ∀ x ∈ D, ltB (3 + D.length) x) (x : UInt8) (hx : x.toNat < 128) (hn : l.length + 1 ≤ 140737488355328) : CallR Try.prog (pM s v l ++ D) 67 [.one (.ptr 1 0 0 0), .one (.c (.v (.int .i32 x.toNat)))] (.tup [.i 1, nilI]) (pM s (v + 1) (l ++ [x]) ++ D) := by
  have := WriteRune_rc (M := pM s v l ++ D) (b := 1) (c := 2) (v := v) (l := l) (by decide) (.inr rfl) rfl rfl (pM_lt s v l D hD) x hx hn
  have e : (l ++ [x]).length = l.length + 1 := by simp
  simpa only [pM, e, List.cons_append, List.nil_append, List.set_cons_succ, List.set_cons_zero] using this
theorem ltB_1 {t : Nat} {x y : CV} : ∀ z ∈ [Blk.rows t 2 0 [[.c x, .c y]] true], ltB (3 + 1) z := by
  intro z hz
  obtain rfl := List.mem_singleton.1 hz
  exact ltB_rowS _ _ _ _
theorem ltB_2 {t : Nat} {x y : CV} {u : ByteArray} {p : Nat} : ∀ z ∈ [Blk.rows t 2 0 [[.c x, .c y]] true, .sit u p], ltB (3 + 2) z := by
  intro z hz
  rcases List.mem_cons.1 hz with rfl | hz
  · exact ltB_rowS _ _ _ _
  · obtain rfl := List.mem_singleton.1 hz
    trivial
set_option maxRecDepth 20000 in
theorem Print_rc (s : Ser) (hs : zSer s) (M : List Blk) : CallR Try.prog M n_label_Print [serA s] (.tup [.s (prT s), .i (if serOk s then 0 else 1)]) M := by
  refine callP F_label_Print (Nat.le_of_ble_eq_true rfl) (by simp only [go_sem]) (by simp only [go_sem]) ?_ M
  simp only [c_label_Print, go_sem]
  refine call0 (Check_rc s hs) ?_
  by_cases hok : serOk s = true
  · simp only [hok, if_true, go_sem]
    obtain ⟨hk1, hk2, hk3⟩ := serOk_parts hok
    refine fun _ => ⟨fun h0 => ?_, fun h0 => ?_⟩
    · rw [prT, if_pos hok, if_pos (by omega)]
    refine call1 (callR_ghost (fun I σ w hm => ⟨_, _, evo_born_cell hm (b := 1) (i := 0) (j := 1) rfl rfl rfl 5 1⟩) (WriteString_rc (b := 1) (c := 2) (v := 0) (l := []) (f := true) (by decide) (.inl rfl) rfl rfl ?_ s.name ?_)) (by simp only [go_sem]) (fun h => Bool.noConfusion h) ?_
    · simp only [go_sem, ltB, fillL]
    · have := nm_len hk1
      simp only [List.length_nil]
      omega
    simp only [go_sem]
    refine V_loop (ι := Nat × Nat) (J := fun p => p.1 ≤ s.labels.length) (env := fun p => [(5, .p (.one (.ptr 1 0 0 0))), (25, .p (lbL s.labels)), (26, .i s.labels.length), (27, .i p.1)])
      (mem := fun p => pM s p.2 (textP s p.1)) (μ := fun p => s.labels.length - p.1) (0, 1) (Nat.zero_le _) ⟨[], ?_, Nat.zero_le _, by simp only [go_sem, pM], ?_⟩ ?_
    · simp only [go_sem, pM, textP, bs_len, List.length_nil, Nat.zero_add]
    · have := pM_lt s 1 (textP s 0) [] (by simp)
      simpa using this
    rintro ⟨k, v⟩ hk
    simp only [go_sem] at hk ⊢
    refine ⟨fun h1 => ⟨by omega, ⟨by split <;> omega, by split <;> simp <;> omega⟩, ?_⟩, fun h1 => ?_⟩
    · have hl := lbOk_parts (hk3 k h1)
      have hnl := nm_len hl.1
      have hvl := vl_parts hl.2
      have htl := textP_len hok k hk
      have ec : [123, 44].getD (if (1 : Int) < (k : Int) then 1 else (k : Int)).toNat (0 : UInt8) = (if k = 0 then 123 else 44) := by
        rcases k with _ | _ | k
        · rfl
        · rfl
        · rw [if_pos (by omega), if_neg (by omega)]; rfl
      rw [ec]
      have hxt : textP s (k + 1) = textP s k ++ labT k (s.labels.getD k default) := rfl
      generalize s.labels.getD k default = x at hl hnl hvl hxt ⊢
      obtain ⟨sep, hsep⟩ : ∃ sep : UInt8, sep = if k = 0 then 123 else 44 := ⟨_, rfl⟩
      rw [← hsep]
      refine call1 (wb s ltB_1 sep (by omega)) (by simp only [go_sem]) (fun h => Bool.noConfusion h) ?_
      simp only [go_sem]
      have hw := ws s (v := v + 1) (l := textP s k ++ [sep]) (D := [.rows 112 2 0 [[.c (.v (.string x.name)), .c (.v (.string x.value))]] true]) ltB_1 (x.name ++ mkS [61, 34]) (by
        simp only [List.length_append, ByteArray.size_append, mk_size, List.length_cons, List.length_nil]; omega)
      refine ⟨by show x.name.size + 2 ≤ _; omega, ?_⟩
      refine call1 hw (by simp only [go_sem]) (fun h => Bool.noConfusion h) ?_
      simp only [go_sem]
      obtain ⟨l0, hl0⟩ : ∃ l0, l0 = textP s k ++ [sep] ++ bs (x.name ++ mkS [61, 34]) := ⟨_, rfl⟩
      have hl0n : l0.length ≤ 40 + k * 60 := by
        rw [hl0]
        simp only [List.length_append, bs_len, ByteArray.size_append, mk_size, List.length_cons, List.length_nil]; omega
      rw [← hl0]
      refine V_loop (ι := Nat × Nat) (J := fun p => p.1 ≤ x.value.size) (env := fun p => [(5, .p (.one (.ptr 1 0 0 0))), (25, .p (lbL s.labels)), (26, .i s.labels.length), (27, .i k), (42, .p (.one (.ptr 4 0 0 0)))])
        (mem := fun p => pM s p.2 (l0 ++ esc ((bs x.value).take p.1)) ++ [.rows 112 2 0 [[.c (.v (.string x.name)), .c (.v (.string x.value))]] true, .sit x.value p.1]) (μ := fun p => x.value.size - p.1) (0, v + 1 + 1) (Nat.zero_le _) ⟨[], ?_, Nat.zero_le _, by simp only [go_sem, pM], pM_lt s _ _ _ ltB_2⟩ ?_
      · simp only [go_sem, esc, List.flatMap_nil]
      rintro ⟨j, u⟩ hj
      simp only [go_sem] at hj ⊢
      by_cases hjs : j < x.value.size
      · have hch := hvl.2 j hjs
        simp only [if_pos hjs, dec_ascii hjs (show ((bs x.value).getD j 0).toNat < 128 by omega), go_sem]
        have hesc : esc ((bs x.value).take (j + 1)) = esc ((bs x.value).take j) ++ esc1 ((bs x.value).getD j 0) := by
          rw [take_succ_getD 0 (by rw [bs_len]; exact hjs)]
          simp [esc]
        have hel := esc_len ((bs x.value).take j)
        rw [List.length_take, bs_len] at hel
        have hn : (l0 ++ esc ((bs x.value).take j)).length ≤ 300 := by rw [List.length_append]; omega
        generalize (bs x.value).getD j 0 = ch at hch hesc ⊢
        refine ⟨fun hc => ?_, fun hc => ?_⟩
        · have hc' : ch = 34 ∨ ch = 92 := by
            simp only [Bool.or_eq_true, beq_iff_eq] at hc
            rcases hc with hc | hc
            · exact .inl (UInt8.toNat_inj.1 (by show ch.toNat = 34; omega))
            · exact .inr (UInt8.toNat_inj.1 (by show ch.toNat = 92; omega))
          rw [esc1, if_pos hc'] at hesc
          have hw1 := wb s (v := u) (l := l0 ++ esc ((bs x.value).take j)) (D := [.rows 112 2 0 [[.c (.v (.string x.name)), .c (.v (.string x.value))]] true, .sit x.value (j + 1)]) ltB_2 92 (by omega)
          refine call1 hw1 (by simp only [go_sem]; rfl) (fun h => Bool.noConfusion h) ?_
          simp only [go_sem]
          have hw2 := wr s (v := u + 1) (l := l0 ++ esc ((bs x.value).take j) ++ [92]) (D := [.rows 112 2 0 [[.c (.v (.string x.name)), .c (.v (.string x.value))]] true, .sit x.value (j + 1)]) ltB_2 ch (by omega) (by rw [List.length_append]; simp only [List.length_cons, List.length_nil]; omega)
          refine call1 hw2 (by simp only [go_sem]) (fun h => Bool.noConfusion h) ?_
          simp only [go_sem]
          refine ⟨(j + 1, u + 1 + 1), by simp only []; omega, by simp only []; omega, [], ?_, Nat.zero_le _, by simp only [go_sem, pM], pM_lt s _ _ _ ltB_2⟩
          simp only [hesc, List.append_nil, List.append_assoc, List.cons_append, List.nil_append]
        · have hc' : ¬ (ch = 34 ∨ ch = 92) := by
            intro h
            apply Bool.false_ne_true
            rw [← hc]
            rcases h with rfl | rfl <;> rfl
          rw [esc1, if_neg hc'] at hesc
          have hw2 := wr s (v := u) (l := l0 ++ esc ((bs x.value).take j)) (D := [.rows 112 2 0 [[.c (.v (.string x.name)), .c (.v (.string x.value))]] true, .sit x.value (j + 1)]) ltB_2 ch (by omega) (by omega)
          refine call1 hw2 (by simp only [go_sem]) (fun h => Bool.noConfusion h) ?_
          simp only [go_sem]
          refine ⟨(j + 1, u + 1), by simp only []; omega, by simp only []; omega, [], ?_, Nat.zero_le _, by simp only [go_sem, pM], pM_lt s _ _ _ ltB_2⟩
          simp only [hesc, List.append_nil, List.append_assoc, List.cons_append, List.nil_append]
      · have ej : j = x.value.size := by omega
        subst ej
        simp only [if_neg hjs, go_sem]
        have hel := esc_len ((bs x.value).take x.value.size)
        rw [List.length_take, bs_len] at hel
        have hw1 := wb s (v := u) (l := l0 ++ esc ((bs x.value).take x.value.size)) (D := [.rows 112 2 0 [[.c (.v (.string x.name)), .c (.v (.string x.value))]] true, .sit x.value x.value.size]) ltB_2 34 (by rw [List.length_append]; omega)
        refine call1 hw1 (by simp only [go_sem]; rfl) (fun h => Bool.noConfusion h) ?_
        simp only [go_sem]
        refine ⟨(k + 1, u + 1), by simp only []; omega, by simp only []; omega, [.rows 112 2 0 [[.c (.v (.string x.name)), .c (.v (.string x.value))]] true, .sit x.value x.value.size], ?_, Nat.zero_le _, ?_, by simpa using pM_lt s (u + 1) (textP s (k + 1)) [] (by simp)⟩
        · have ht : l0 ++ esc ((bs x.value).take x.value.size) ++ [34] = textP s (k + 1) := by
            rw [hxt, hl0, labT, List.take_of_length_le (by rw [bs_len]; exact Nat.le_refl _), bs_append, bs_mk, hsep]
            split <;> (simp; rfl)
          simp only [ht, List.cons_append, List.nil_append]
        · simp only [go_sem, pM, w64s (show k < 9223372036854775807 by omega)]
    · have e : k = s.labels.length := by omega
      subst e
      have htl := textP_len hok _ (Nat.le_refl _)
      have hw := wb s (v := v) (l := textP s s.labels.length) (D := []) (by simp) 125 (by omega)
      refine call1 hw (by simp only [go_sem]; rfl) (fun h => Bool.noConfusion h) ?_
      simp only [go_sem]
      have hst := String_rc (M := pM s (v + 1) (textP s s.labels.length ++ [125])) (b := 1) (c := 2) (l := textP s s.labels.length ++ [125]) rfl rfl (by simp)
      refine call1 hst (by simp only [go_sem]) (fun h => Bool.noConfusion h) ?_
      simp only [go_sem]
      rw [prT, if_pos hok, if_neg (by omega)]
  · simp only [hok, go_sem]
    refine ⟨fun _ => by rw [prT, if_neg hok], fun h => absurd h (by decide)⟩
end Go.Proofs.Ytcmkhlfjcdchmaa.A
end
section
namespace Go.Proofs.Ytcmkhlfjcdchmaa.A
open Go Go.Proofs Go.Proofs.YtcmkhlfjcdchmaaAbs
/-- What stands ahead of the closing quote, and what behind it. -/
def quo : List UInt8 → Option (List UInt8 × List UInt8)
  | [] => none
  | [c] => if c = 34 then some ([], []) else none
  | c :: d :: r => if c = 34 then some ([], d :: r) else if c = 92 then (if d = 34 ∨ d = 92 then (quo r).map (fun p => (d :: p.1, p.2)) else none) else (quo (d :: r)).map (fun p => (c :: p.1, p.2))
theorem quo_q (r : List UInt8) : quo (34 :: r) = some ([], r) := by cases r <;> simp [quo]
theorem quo_c {c : UInt8} (h1 : c ≠ 34) (h2 : c ≠ 92) (r : List UInt8) : quo (c :: r) = (quo r).map (fun p => (c :: p.1, p.2)) := by
  cases r <;> simp [quo, h1, h2]
theorem quo_b {d : UInt8} (h : d = 34 ∨ d = 92) (r : List UInt8) : quo (92 :: d :: r) = (quo r).map (fun p => (d :: p.1, p.2)) := by simp [quo, h]
theorem quo_bn {d : UInt8} (h : ¬ (d = 34 ∨ d = 92)) (r : List UInt8) : quo (92 :: d :: r) = none := by simp [quo, h]
def quotS (s : ByteArray) : ByteArray × ByteArray × Bool := match quo (bs s) with
  | some (a, r) => (mkS a, mkS r, true)
  | none => (mkS [], mkS [], false)
theorem rowsBytes_map : ∀ l : List UInt8, rowsBytes (l.map byteRow) = some l
  | [] => rfl
  | x :: l => by
    simp only [List.map_cons, byteRow, rowsBytes, rowsBytes_map l, Option.map_some, Int.toNat_natCast]
    rw [UInt8.ofNat_toNat]
def byteRows (l : List UInt8) : List (List AV) := l.map byteRow
@[go_sem] theorem byteRows_len (l : List UInt8) : (byteRows l).length = l.length := List.length_map ..
@[go_sem] theorem byteRows_take (l : List UInt8) : (byteRows l).take l.length = byteRows l := List.take_of_length_le (by rw [byteRows_len]; exact Nat.le_refl _)
@[go_sem] theorem byteRows_bytes (l : List UInt8) : rowsBytes (byteRows l) = some l := rowsBytes_map l
@[go_sem] theorem byteRows_app (l : List UInt8) (x : UInt8) : byteRows l ++ [[.c (.v (.int .u8 x.toNat))]] = byteRows (l ++ [x]) := by simp [byteRows, byteRow]
theorem lt_byteRows (n : Nat) (l : List UInt8) : ∀ r ∈ byteRows l, ∀ a ∈ r, ltA n a := by
  intro r hr a ha
  obtain ⟨x, _, rfl⟩ := List.mem_map.1 hr
  obtain rfl := List.mem_singleton.1 ha
  trivial
set_option maxRecDepth 20000 in
theorem quoted_rc (s : ByteArray) (hs : s.size ≤ 140737488355328) (M : List Blk) : CallR Try.prog M n_label_quoted [.s s] (.tup [.s (quotS s).1, .s (quotS s).2.1, .b (quotS s).2.2]) M := by
  refine callP F_label_quoted (Nat.le_of_ble_eq_true rfl) (by simp only [go_sem]) (by simp only [go_sem]) ?_ M
  simp only [c_label_quoted, go_sem]
  refine run_gh (gh_born 5 5 1 (by simp only [go_sem])) ?_
  refine V_loop (ι := Nat × Nat × Bool × List UInt8) (J := fun p => p.1 ≤ s.size ∧ p.2.2.2.length ≤ p.1 ∧ quo (bs s) = (quo ((bs s).drop p.1)).map (fun q => (p.2.2.2 ++ q.1, q.2)))
    (env := fun p => [(0, .s s), (5, .p (.one (.arr 1 0 p.2.1 0 p.2.2.2.length))), (6, .i p.1)])
    (mem := fun p => [.rows 5 1 p.2.1 (byteRows p.2.2.2) p.2.2.1]) (μ := fun p => s.size - p.1) (0, 0, true, []) ⟨Nat.zero_le _, Nat.le_refl _, by simp⟩ ?_ ?_
  · exact ⟨[], by simp only [go_sem]; rfl, Nat.zero_le _, by simp only [go_sem], by simp only [go_sem, ltB]; exact lt_byteRows _ _⟩
  rintro ⟨i, ver, f, acc⟩ ⟨hi, hacc, hq⟩
  simp only [go_sem] at hi hacc hq ⊢
  refine ⟨fun h1 => ?_, fun h1 => ?_⟩
  · have e1 : IntKind.i64.wrap ((i : Int) + 1) = ((i + 1 : Nat) : Int) := w64s (by omega)
    have hl : i < (bs s).length := by rw [bs_len]; exact h1
    rw [drop_getD 0 hl] at hq
    simp only [e1, Int.toNat_natCast]
    have hdr : ∀ k, ((bs s).drop k).length = s.size - k := fun k => by rw [List.length_drop, bs_len]
    generalize hc0 : (bs s).getD i 0 = c at hq ⊢
    refine ⟨by omega, fun hc => ?_, fun hc => ⟨fun hb => ?_, fun hb => ?_⟩⟩
    · have hc : c = 34 := UInt8.toNat_inj.1 (by show c.toNat = 34; omega)
      subst hc
      rw [quo_q] at hq
      refine ⟨by omega, ?_⟩
      simp only [quotS, hq, Option.map_some, List.append_nil]
      refine ⟨trivial, bs_inj ?_, trivial⟩
      rw [bs_extract, List.take_of_length_le (by rw [hdr]; exact Nat.le_refl _)]
      rfl
    · have hb : c = 92 := UInt8.toNat_inj.1 (by show c.toNat = 92; omega)
      subst hb
      by_cases hend : i + 1 = s.size
      · have hd : (bs s).drop (i + 1) = [] := List.eq_nil_of_length_eq_zero (by rw [hdr]; omega)
        rw [hd] at hq
        have hq' : quo (bs s) = none := by rw [hq]; rfl
        have eb : ((((i + 1 : Nat) : Int)) == (s.size : Int)) = true := by rw [beq_iff_eq]; omega
        simp only [eb, quotS, hq']
        refine ⟨fun h => absurd h (by decide), fun h => absurd h (by simp), fun _ => ⟨trivial, trivial, trivial⟩, fun h => absurd h (by simp)⟩
      · have eb : ((((i + 1 : Nat) : Int)) == (s.size : Int)) = false := by rw [beq_eq_false_iff_ne]; omega
        rw [drop_getD 0 (show i + 1 < (bs s).length by rw [bs_len]; omega)] at hq
        generalize (bs s).getD (i + 1) 0 = d at hq ⊢
        simp only [eb, Bool.false_or, Bool.not_false, Bool.true_and]
        refine ⟨fun _ => by omega, fun _ => by omega, fun h => ?_, fun h => ⟨by omega, by omega, ?_⟩⟩
        · have hd : ¬ (d = 34 ∨ d = 92) := by
            rintro (rfl | rfl) <;> exact absurd h (by decide)
          rw [quo_bn hd] at hq
          simp only [quotS, hq, Option.map_none]
          exact ⟨trivial, trivial, trivial⟩
        · have hd : d = 34 ∨ d = 92 := by
            simp only [Bool.and_eq_false_iff, bne_eq_false_iff_eq] at h
            rcases h with h | h
            · exact .inl (UInt8.toNat_inj.1 (by show d.toNat = 34; omega))
            · exact .inr (UInt8.toNat_inj.1 (by show d.toNat = 92; omega))
          rw [quo_b hd] at hq
          refine ⟨(i + 1 + 1, ver + 1, false, acc ++ [d]), ⟨by simp only []; omega, by simp; omega, ?_⟩, by simp only []; omega, [.rows 5 1 0 [[AV.c (CV.v (Value.int IntKind.u8 d.toNat))]] true], ?_, Nat.zero_le _, ?_, ?_⟩
          · rw [hq, Option.map_map]
            congr 1
            funext q
            simp
          · simp only [go_sem]
          · have e2 : IntKind.i64.wrap (((i + 1 : Nat) : Int) + 1) = ((i + 1 + 1 : Nat) : Int) := w64s (by omega)
            simp only [go_sem, e2, List.length_append]
          · simp only [go_sem, ltB]; exact lt_byteRows _ _
    · have hb' : c ≠ 92 := fun e => hb (by rw [e]; rfl)
      have hc' : c ≠ 34 := fun e => hc (by rw [e]; rfl)
      rw [quo_c hc' hb'] at hq
      refine ⟨by omega, by omega, (i + 1, ver + 1, false, acc ++ [c]), ⟨by simp only []; omega, by simp; omega, ?_⟩, by simp only []; omega, [.rows 5 1 0 [[AV.c (CV.v (Value.int IntKind.u8 c.toNat))]] true], ?_, Nat.zero_le _, ?_, ?_⟩
      · rw [hq, Option.map_map]
        congr 1
        funext q
        simp
      · simp only [go_sem]
      · simp only [go_sem, e1, List.length_append]
      · simp only [go_sem, ltB]; exact lt_byteRows _ _
  · have hd : (bs s).drop i = [] := List.eq_nil_of_length_eq_zero (by rw [List.length_drop, bs_len]; omega)
    rw [hd] at hq
    have hq' : quo (bs s) = none := by rw [hq]; rfl
    simp only [quotS, hq']
    exact ⟨trivial, trivial, trivial⟩
end Go.Proofs.Ytcmkhlfjcdchmaa.A
end
section
namespace Go.Proofs.Ytcmkhlfjcdchmaa.A
open Go Go.Proofs Go.Proofs.YtcmkhlfjcdchmaaAbs
theorem Parse1_rc (x y : Lb) (M : List Blk) : CallR Try.prog M n_label_Parse_1 [.agg [.c (.v (.string x.name)), .c (.v (.string x.value))], .agg [.c (.v (.string y.name)), .c (.v (.string y.value))]] (.i (cmpS x.name y.name)) M := by
  refine callP F_label_Parse_1 (Nat.le_of_ble_eq_true rfl) (by simp only [go_sem]) (by simp only [go_sem]) ?_ M
  simp only [c_label_Parse_1, go_sem]
  refine call0 (Compare_rc _ _) ?_
  simp only [go_sem]
def lbRow (x : Lb) : List AV := [.c (.v (.string x.name)), .c (.v (.string x.value))]
def lbRows (l : List Lb) : List (List AV) := l.map lbRow
@[go_sem] theorem lbRows_len (l : List Lb) : (lbRows l).length = l.length := List.length_map ..
theorem lt_lbRows (n : Nat) (l : List Lb) : ∀ r ∈ lbRows l, r.length = 2 ∧ ∀ a ∈ r, ltA n a := by
  intro r hr
  obtain ⟨x, _, rfl⟩ := List.mem_map.1 hr
  refine ⟨rfl, fun a ha => ?_⟩
  rcases List.mem_cons.1 ha with rfl | ha
  · trivial
  · obtain rfl := List.mem_singleton.1 ha; trivial
def ltLb (x y : Lb) : Bool := sLt x.name y.name
/-- The labels in their order. -/
def sortLb (l : List Lb) : List Lb := sortTo ltLb default l l.length
def cmpRow (x y : List AV) : Int := match x, y with
  | [.c (.v (.string a)), _], [.c (.v (.string b)), _] => cmpS a b
  | _, _ => 0
theorem cmpS_neg (a b : ByteArray) : decide (cmpS a b < 0) = sLt a b := by
  unfold cmpS
  cases h : sLt a b with
  | true => simp
  | false =>
    cases k : sLt b a <;> simp
theorem sort_rows (l : List Lb) : sortTo (fun x y => decide (cmpRow x y < 0)) [] (lbRows l) l.length = lbRows (sortLb l) := by
  unfold lbRows sortLb
  exact sortTo_map (lt := ltLb) (f := lbRow) (fun x y => cmpS_neg _ _) (Nat.le_refl _)
variable {M : List Blk} {b v : Nat} {l : List Lb} {f : Bool}
abbrev cmpF : Pt := .one (.fn n_label_Parse_1 0 fun _ => default)
theorem isort (hb : M[b]? = some (.rows 112 2 v (lbRows l) f)) (hn : l.length ≤ 12) (hMB : ∀ x ∈ M, ltB M.length x) :
    CallR Try.prog M n_slices_insertionSortCmpFunc_api_Label [.one (.arr 2 b v 0 l.length), .i 0, .i l.length, cmpF] (.tup []) (M.set b (.rows 112 2 v (lbRows (sortLb l)) f)) := by
  have hbl : b < M.length := getElem?_lt hb
  by_cases h0 : l.length = 0
  · obtain rfl : l = [] := List.eq_nil_of_length_eq_zero h0
    refine callR_intro F_slices_insertionSortCmpFunc_api_Label (by simp) ?_
    refine V_sound ?_
    simp only [c_slices_insertionSortCmpFunc_api_Label, go_sem]
    have e1 : IntKind.i64.wrap ((0 : Int) + 1) = ((1 : Nat) : Int) := by decide
    refine V_loop (ι := Unit) (J := fun _ => True) (env := fun _ => [(2, .i 0), (8, .i 1)]) (mem := fun _ => M) (μ := fun _ => 0) () trivial ⟨[], (List.append_nil _).symm, Nat.le_refl _, ?_, hMB⟩ ?_
    · simp only [go_sem, e1, List.length_nil, Int.natCast_zero]
    rintro ⟨⟩ _
    simp only [go_sem]
    refine fin_own (.inl rfl) (Gh.refl _) [] (qs := []) (cnd := True) rfl trivial (by rw [List.append_nil]; exact (set_self hb).symm) ?_ ?_ ?_ ?_
    · show leS (SV.tup []) (SV.tup []); rw [leS_self]; trivial
    · rw [List.length_set]; exact Nat.le_refl _
    · simp only [go_sem]
    · rw [show sortLb [] = [] from rfl, set_self hb]; exact hMB
  have := isort_rc (b := b) (P := Try.prog) F_slices_insertionSortCmpFunc_api_Label (by decide) hb (by rw [lbRows_len]; omega) (by rw [lbRows_len]; omega) (fun r hr => lt_lbRows 0 l r hr) hMB n_label_Parse_1 0 (fun _ => default) cmpRow (fun i hi => absurd hi (Nat.not_lt_zero _)) (fun x hx y hy M => ?_)
  · rw [lbRows_len, sort_rows] at this
    exact this
  · obtain ⟨x, _, rfl⟩ := List.mem_map.1 hx
    obtain ⟨y, _, rfl⟩ := List.mem_map.1 hy
    exact Parse1_rc x y M
theorem ltB_lbRows (n v : Nat) (l : List Lb) (f : Bool) : ltB n (.rows 112 2 v (lbRows l) f) := fun r hr => (lt_lbRows n l r hr).2
theorem ltB_setRows (hMB : ∀ x ∈ M, ltB M.length x) : ∀ x ∈ M.set b (.rows 112 2 v (lbRows l) f), ltB (M.set b (.rows 112 2 v (lbRows l) f)).length x := by
  intro x hx
  rw [List.length_set]
  rcases List.mem_or_eq_of_mem_set hx with hx | rfl
  · exact hMB x hx
  · exact ltB_lbRows _ _ _ _
set_option maxRecDepth 20000 in
theorem pdq_rc (hb : M[b]? = some (.rows 112 2 v (lbRows l) f)) (hn : l.length ≤ 12) (hMB : ∀ x ∈ M, ltB M.length x) (lim : Int) :
    CallR Try.prog M n_slices_pdqsortCmpFunc_api_Label [.one (.arr 2 b v 0 l.length), .i 0, .i l.length, .i lim, cmpF] (.tup []) (M.set b (.rows 112 2 v (lbRows (sortLb l)) f)) := by
  have hbl : b < M.length := getElem?_lt hb
  refine callR_intro F_slices_pdqsortCmpFunc_api_Label (by simp) ?_
  refine V_sound ?_
  obtain ⟨R, hR⟩ : ∃ R, c_slices_pdqsortCmpFunc_api_Label = (.seq (.reg false [⟨some 10, .mv (kb true), none⟩])
 (.seq (.reg false [⟨some 11, .mv (kb true), none⟩])
 (.block 0 (.loop (.block 1 (.seq (.reg false [⟨some 21, .mv (.t 2), none⟩, ⟨some 22, .mv (.t 1), none⟩, ⟨some 23, .bin .sub (.t 21) (.t 22), none⟩, ⟨some 12, .mv (.t 23), none⟩])
 (.seq (.seq (.reg false [⟨some 24, .mv (.t 12), none⟩, ⟨some 25, .bin .leq (.t 24) (ki 12), none⟩])
 (.cond (.t 25)
 (.seq (.reg false [⟨some 26, .mv (.t 0), none⟩, ⟨some 27, .mv (.t 1), none⟩, ⟨some 28, .mv (.t 2), none⟩, ⟨some 29, .mv (.t 4), none⟩, ⟨some 30, .call (kf n_slices_insertionSortCmpFunc_api_Label) [(.t 26), (.t 27), (.t 28), (.t 29)], none⟩])
 .ret)
 .skip)) R))))))) := ⟨_, rfl⟩
  rw [hR]
  simp only [go_sem]
  refine V_loop (ι := Unit) (J := fun _ => True) (env := fun _ => [(0, .p (.one (.arr 2 b v 0 l.length))), (1, .i 0), (2, .i l.length), (4, .p cmpF)]) (mem := fun _ => M) (μ := fun _ => 0) () trivial ⟨[], (List.append_nil _).symm, Nat.le_refl _, ?_, hMB⟩ ?_
  · simp only [go_sem]
    exact hbl
  rintro ⟨⟩ _
  have e1 : IntKind.i64.wrap ((l.length : Int) - 0) = (l.length : Int) := w64 (by omega) (by omega)
  have e2 : (l.length : Int) ≤ 12 := by omega
  simp only [go_sem, e1, e2]
  refine call1 (isort hb hn hMB) (by simp only [go_sem]) (fun h => Bool.noConfusion h) ?_
  simp only [go_sem]
  refine fin_own (.inr rfl) (Gh.refl _) [] (qs := []) (cnd := True) rfl trivial (List.append_nil _).symm ?_ ?_ ?_ ?_
  · show leS (SV.tup []) (SV.tup []); rw [leS_self]; trivial
  · rw [List.length_set]; exact Nat.le_refl _
  · simp only [go_sem]
  · exact ltB_setRows hMB
set_option maxRecDepth 20000 in
theorem Sort_rc (hb : M[b]? = some (.rows 112 2 v (lbRows l) f)) (hn : l.length ≤ 12) (hMB : ∀ x ∈ M, ltB M.length x) :
    CallR Try.prog M n_slices_SortFunc_api_Label_api_Label [.one (.arr 2 b v 0 l.length), cmpF] (.tup []) (M.set b (.rows 112 2 v (lbRows (sortLb l)) f)) := by
  have hbl : b < M.length := getElem?_lt hb
  refine callR_intro F_slices_SortFunc_api_Label_api_Label (by simp) ?_
  refine V_sound ?_
  have e1 : IntKind.u64.wrap (l.length : Int) = (l.length : Int) := by rw [IntKind.wrap_u64]; omega
  simp only [c_slices_SortFunc_api_Label_api_Label, go_sem, hb, e1]
  refine call0 (BitsLen_rc _ (by omega) (by omega)) ?_
  simp only [go_sem, hb]
  refine call1 (pdq_rc hb hn hMB _) (by simp only [go_sem]; rfl) (fun h => Bool.noConfusion h) ?_
  simp only [go_sem]
  refine fin_own (.inl rfl) (Gh.refl _) [] (qs := []) (cnd := True) rfl trivial (List.append_nil _).symm ?_ ?_ ?_ ?_
  · show leS (SV.tup []) (SV.tup []); rw [leS_self]; trivial
  · rw [List.length_set]; exact Nat.le_refl _
  · simp only [go_sem]
  · exact ltB_setRows hMB
end Go.Proofs.Ytcmkhlfjcdchmaa.A
end
section
namespace Go.Proofs.Ytcmkhlfjcdchmaa.A
open Go Go.Proofs Go.Proofs.YtcmkhlfjcdchmaaAbs
/-- The labels behind an opening brace. -/
def parG : Nat → List UInt8 → List Lb → Option (List Lb)
  | 0, _, _ => none
  | n + 1, rest, ls =>
    if (Lib.cut rest [61, 34]).2.2 = false then none else
    match quo (Lib.cut rest [61, 34]).2.1 with
    | none => none
    | some (_, []) => none
    | some (a, x :: t) => if ls.length = 4 then none else if x = 44 then parG n t (ls ++ [⟨mkS (Lib.cut rest [61, 34]).1, mkS a⟩]) else if x = 125 ∧ t = [] then some (ls ++ [⟨mkS (Lib.cut rest [61, 34]).1, mkS a⟩]) else none
def parAll (s : List UInt8) : Option (List Lb) := if (Lib.cut s [123]).2.2 then parG 5 (Lib.cut s [123]).2.1 [] else some []
def parS (s : ByteArray) : Option Ser := (parAll (bs s)).bind fun ls => if serOk ⟨mkS (Lib.cut (bs s) [123]).1, sortLb ls⟩ then some ⟨mkS (Lib.cut (bs s) [123]).1, sortLb ls⟩ else none
def parR (s : ByteArray) : SV := match parS s with
  | some x => .tup [serA x, .i 0]
  | none => .tup [serA ⟨mkS [], []⟩, .i 2]
theorem cut_len (s sep : List UInt8) : (Lib.cut s sep).1.length ≤ s.length ∧ (Lib.cut s sep).2.1.length ≤ s.length := by
  unfold Lib.cut
  split
  · exact ⟨by rw [List.length_take]; omega, by rw [List.length_drop]; omega⟩
  · exact ⟨Nat.le_refl _, Nat.zero_le _⟩
theorem quo_len : ∀ {l a r : List UInt8}, quo l = some (a, r) → a.length + r.length < l.length
  | [], a, r, h => by cases h
  | [c], a, r, h => by
    simp only [quo] at h
    split at h
    · cases h; simp
    · cases h
  | c :: d :: l, a, r, h => by
    simp only [quo] at h
    split at h
    · cases h; simp
    · split at h
      · split at h
        · obtain ⟨⟨a', r'⟩, h1, h2⟩ := Option.map_eq_some_iff.1 h
          cases h2
          have := quo_len h1
          simp only [List.length_cons] at this ⊢
          omega
        · cases h
      · obtain ⟨⟨a', r'⟩, h1, h2⟩ := Option.map_eq_some_iff.1 h
        cases h2
        have := quo_len h1
        simp only [List.length_cons] at this ⊢
        omega
theorem sub_ser (n : ByteArray) (l : List Lb) (c : Nat → Nat → CV) (h : ∀ i, i < l.length → ∀ j, j < 2 → c i j = (l.getD i default).c j) : SubP (.agg [.c (.v (.string n)), .c (.imm 2 l.length c)]) (serA ⟨n, l⟩) := subP_agg2 (SubA.refl _) (subA_imm h)
theorem sub_zero : SubP (.agg [.c (.v (.string ⟨#[]⟩)), .c (.v (.slice none 0 0))]) (serA ⟨mkS [], []⟩) := subP_agg2 (SubA.refl _) (subA_nil 2 _)
theorem lbRows_get (l : List Lb) {i j : Nat} (hi : i < l.length) (hj : j < 2) : toC (((lbRows l).getD (0 + i) []).getD j default) = (l.getD i default).c j := by
  have : (lbRows l).getD (0 + i) [] = lbRow (l.getD i default) := by
    rw [Nat.zero_add, List.getD_eq_getElem?_getD, List.getD_eq_getElem?_getD, lbRows, List.getElem?_map, List.getElem?_eq_getElem hi]; rfl
  rw [this]
  match j, hj with
  | 0, _ => rfl
  | 1, _ => rfl
set_option maxRecDepth 20000 in
theorem Parse_rc (s : ByteArray) (hs : s.size < 4294967281) (M : List Blk) : CallR Try.prog M n_label_Parse [.s s] (parR s) M := by
  refine callPS F_label_Parse (Nat.le_of_ble_eq_true rfl) (by simp only [go_sem]) (by unfold parR; split <;> simp only [go_sem]) ?_ M
  refine run_seqV ?_
  simp only [go_sem]
  refine run_seqV ?_
  simp only [go_sem]
  refine call0 (Cut_rc s (mkS [123]) hs) ?_
  simp only [go_sem]
  refine run_seqV ?_
  simp only [go_sem]
  refine run_gh (gh_born_cell (b := 1) (i := 0) (j := 1) rfl rfl rfl 112 2) ?_
  refine run_seqV ?_
  simp only [go_sem]
  obtain ⟨nm, hnm⟩ : ∃ nm, nm = (cutS s (mkS [123])).1 := ⟨_, rfl⟩
  have hns : nm.size ≤ s.size := by
    have := (cut_len (bs s) [123]).1
    rw [hnm]
    show (mkS (Lib.cut (bs s) [123]).1).size ≤ s.size
    rw [mk_size, ← bs_len]
    exact this
  rw [← hnm]
  refine R_loop (ι := Nat × Bool × List Lb × ByteArray × Bool) (J := fun p => p.2.2.2.1.size ≤ s.size ∧ p.2.2.1.length ≤ 4 ∧ (∀ y ∈ p.2.2.1, zS y.name ∧ zS y.value) ∧ (if p.2.2.2.2 then parG (5 - p.2.2.1.length) (bs p.2.2.2.1) p.2.2.1 else some p.2.2.1) = parAll (bs s))
    (env := fun p => [(2, .p (.one (.ptr 0 0 0 0))), (5, .s p.2.2.2.1), (7, .p (.one (.ptr 1 0 0 0))), (8, .b p.2.2.2.2)])
    (mem := fun p => [.rows 97 2 0 [[.c (.v (.string ⟨#[]⟩)), .c (.v (.slice none 0 0))]] true, .rows 97 2 0 [[.c (.v (.string nm)), .arr 2 2 p.1 0 p.2.2.1.length]] true, .rows 112 2 p.1 (lbRows p.2.2.1) p.2.1])
    (μ := fun p => 5 - p.2.2.1.length) (0, true, [], (cutS s (mkS [123])).2.1, (cutS s (mkS [123])).2.2) ⟨?_, Nat.zero_le _, by simp, ?_⟩ ⟨[], ?_, Nat.zero_le _, ?_, ?_⟩ ?_
  · have := (cut_len (bs s) [123]).2
    show (mkS (Lib.cut (bs s) [123]).2.1).size ≤ s.size
    rw [mk_size, ← bs_len]
    exact this
  · rfl
  · simp only [go_sem, fillL, lbRows]
  · simp only [go_sem]
  · simp only [go_sem, ltB]
    exact fun r hr => (lt_lbRows 3 _ r hr).2
  rintro ⟨v, f, ls, rest, ok⟩ ⟨hrest, hls, hz, hpar⟩
  simp only at hrest hls hz hpar
  refine run_seqV ?_
  cases ok with
  | false =>
    simp only [Bool.false_eq_true, if_false] at hpar
    simp only [go_sem]
    refine run_seqV ?_
    simp only [go_sem]
    have hlen : (sortLb ls).length = ls.length := sortTo_length
    have hzs : ∀ y ∈ sortLb ls, zS y.name ∧ zS y.value := sortTo_mem hz (Nat.le_refl _)
    refine call1 (Sort_rc (b := 2) (v := v) (l := ls) (f := f) rfl (by omega) ?_) (by simp only [go_sem]) (fun h => Bool.noConfusion h) ?_
    · simp only [go_sem, ltB]
      exact fun r hr => (lt_lbRows 3 _ r hr).2
    simp only [go_sem]
    refine run_gh (gh_freeze (b := 2) rfl ?_) ?_
    · intro r hr a ha
      obtain ⟨y, _, rfl⟩ := List.mem_map.1 hr
      rcases List.mem_cons.1 ha with rfl | ha
      · exact ⟨_, rfl⟩
      · obtain rfl := List.mem_singleton.1 ha; exact ⟨_, rfl⟩
    refine run_seqV ?_
    simp only [go_sem, hlen]
    have hsub : ∀ c : Nat → Nat → CV, (∀ i, i < ls.length → ∀ j, j < 2 → c i j = ((sortLb ls).getD i default).c j) → SubP (.agg [.c (.v (.string nm)), .c (.imm 2 ls.length c)]) (serA ⟨nm, sortLb ls⟩) := by
      intro c h
      have := sub_ser nm (sortLb ls) c (by rw [hlen]; exact h)
      rw [hlen] at this
      exact this
    have hgt : ∀ i, i < ls.length → ∀ j, j < 2 → toC (((lbRows (sortLb ls)).getD i []).getD j default) = ((sortLb ls).getD i default).c j := by
      intro i hi j hj
      have := lbRows_get (sortLb ls) (i := i) (by rw [hlen]; exact hi) hj
      rw [Nat.zero_add] at this
      exact this
    have hx : zSer ⟨nm, sortLb ls⟩ := by
      refine ⟨by unfold zS; simp only; omega, by simp only [hlen]; omega, fun i hi => hzs _ ?_⟩
      rw [List.getD_eq_getElem?_getD, List.getElem?_eq_getElem hi]
      exact List.getElem_mem _
    refine call0 (fun M => (Check_rc ⟨nm, sortLb ls⟩ hx M).sub ⟨hsub _ hgt, trivial⟩) ?_
    simp only [go_sem]
    have hnm' : nm = mkS (Lib.cut (bs s) [123]).1 := hnm
    by_cases hok : serOk ⟨nm, sortLb ls⟩ = true
    · rw [if_pos hok]
      have hR : parR s = .tup [serA ⟨nm, sortLb ls⟩, .i 0] := by
        unfold parR parS
        rw [← hpar, Option.bind_some, ← hnm', if_pos hok]
      rw [hR]
      refine ⟨fun h => absurd h (by decide), fun _ => V_sound ?_⟩
      simp only [go_sem]
      exact subS_tup2 (hsub _ hgt) (SubP.refl _)
    · rw [if_neg hok]
      have hR : parR s = .tup [serA ⟨mkS [], []⟩, .i 2] := by
        unfold parR parS
        rw [← hpar, Option.bind_some, ← hnm', if_neg hok]
      rw [hR]
      refine ⟨fun _ => subS_tup2 sub_zero (SubP.refl _), fun h => absurd h (by decide)⟩
  | true =>
    simp only [go_sem]
    refine run_block ?_
    refine run_seqV ?_
    simp only [go_sem]
    refine call0 (Cut_rc rest (mkS [61, 34]) (by omega)) ?_
    obtain ⟨⟨kk, rr, fd⟩, hc⟩ : ∃ c, c = Lib.cut (bs rest) [61, 34] := ⟨_, rfl⟩
    have hcs : cutS rest (mkS [61, 34]) = (mkS kk, mkS rr, fd) := by
      show (mkS (Lib.cut (bs rest) [61, 34]).1, mkS (Lib.cut (bs rest) [61, 34]).2.1, (Lib.cut (bs rest) [61, 34]).2.2) = _
      rw [← hc]
    have hcl := cut_len (bs rest) [61, 34]
    obtain ⟨n, hn⟩ : ∃ n, 5 - ls.length = n + 1 := ⟨4 - ls.length, by omega⟩
    simp only [if_true, hn, parG, ← hc] at hpar hcl
    rw [bs_len] at hcl
    rw [hcs]
    have herr : parAll (bs s) = none → SubS (.tup [.agg [.c (.v (.string ⟨#[]⟩)), .c (.v (.slice none 0 0))], .i 2]) (parR s) := by
      intro h
      have : parR s = .tup [serA ⟨mkS [], []⟩, .i 2] := by unfold parR parS; rw [h]; rfl
      rw [this]
      exact subS_tup2 sub_zero (SubP.refl _)
    simp only [go_sem]
    refine run_seqV ?_
    simp only [go_sem]
    refine call0 (quoted_rc (mkS rr) (by rw [mk_size]; omega)) ?_
    cases fd with
    | false =>
      have hp : parAll (bs s) = none := by rw [← hpar]; rfl
      simp only [go_sem]
      refine run_seqV ?_
      simp only [go_sem]
      exact ⟨fun _ => herr hp, fun h => absurd h (by simp)⟩
    | true =>
      simp only [Bool.true_eq_false, if_false] at hpar
      cases hq : quo rr with
      | none =>
        rw [hq] at hpar
        have hqs : quotS (mkS rr) = (mkS [], mkS [], false) := by unfold quotS; rw [bs_mk, hq]
        rw [hqs]
        simp only [go_sem]
        refine run_seqV ?_
        simp only [go_sem]
        exact ⟨fun _ => herr hpar.symm, fun h => absurd h (by simp)⟩
      | some at_ =>
        obtain ⟨aa, tt⟩ := at_
        rw [hq] at hpar
        have hqs : quotS (mkS rr) = (mkS aa, mkS tt, true) := by unfold quotS; rw [bs_mk, hq]
        rw [hqs]
        simp only [go_sem]
        refine run_seqV ?_
        cases tt with
        | nil =>
          simp only [go_sem]
          exact ⟨fun _ => herr hpar.symm, fun h => absurd h (by simp)⟩
        | cons x t =>
          simp only [go_sem] at hpar ⊢
          have hne : decide (mkS (x :: t) = mkS []) = false := by
            rw [decide_eq_false_iff_not]
            intro e
            have := congrArg bs e
            rw [bs_mk, bs_mk] at this
            cases this
          have hql := quo_len hq
          rw [List.length_cons] at hql
          by_cases h4 : ls.length = 4
          · rw [if_pos h4] at hpar
            refine ⟨fun _ => herr hpar.symm, fun h => ?_⟩
            exfalso
            rw [h4] at h
            simp at h
          rw [if_neg h4] at hpar
          refine ⟨fun h => ?_, fun _ => ?_⟩
          · exfalso
            rw [hne] at h
            simp at h
            omega
          refine run_seqV ?_
          simp only [go_sem]
          refine ⟨by omega, ?_⟩
          refine run_seqV ?_
          simp only [go_sem]
          have hrow : lbRows ls ++ [[.c (.v (.string (mkS kk))), .c (.v (.string (mkS aa)))]] = lbRows (ls ++ [⟨mkS kk, mkS aa⟩]) := by simp [lbRows, lbRow]
          have hext : (mkS (x :: t)).extract (Int.toNat 1) (mkS (x :: t)).size = mkS t := bs_inj (by rw [bs_extract, bs_mk, bs_mk, mk_size]; simp)
          have hz' : ∀ y ∈ ls ++ [⟨mkS kk, mkS aa⟩], zS y.name ∧ zS y.value := by
            intro y hy
            rcases List.mem_append.1 hy with hy | hy
            · exact hz y hy
            · obtain rfl := List.mem_singleton.1 hy
              unfold zS
              rw [mk_size, mk_size]
              omega
          have hn' : 5 - (ls ++ [(⟨mkS kk, mkS aa⟩ : Lb)]).length = n := by simp only [List.length_append, List.length_cons, List.length_nil]; omega
          have hl' : (ls ++ [(⟨mkS kk, mkS aa⟩ : Lb)]).length ≤ 4 := by simp only [List.length_append, List.length_cons, List.length_nil]; omega
          by_cases hx : x = 44
          · subst hx
            rw [if_pos rfl] at hpar
            refine ⟨by simp, fun h => absurd h (by simp), fun _ => V_sound ?_⟩
            simp only [go_sem, hext, hrow]
            refine ⟨by simp; omega, (v + 1, false, ls ++ [⟨mkS kk, mkS aa⟩], mkS t, true), ⟨?_, hl', hz', ?_⟩, by simp only []; omega, [.rows 112 2 0 [[.c (.v (.string (mkS kk))), .c (.v (.string (mkS aa)))]] true], by simp only [List.length_append, List.length_cons, List.length_nil, List.cons_append, List.nil_append], Nat.zero_le _, ?_, ?_⟩
            · simp only [mk_size]; omega
            · simp only [if_true, hn', bs_mk]; exact hpar
            · simp only [go_sem, List.length_append]
              exact ⟨hext, rfl⟩
            · simp only [go_sem, ltB]
              exact fun r hr => (lt_lbRows 3 _ r hr).2
          · rw [if_neg hx] at hpar
            have hx' : ((x.toNat : Int) == 44) = false := by
              rw [beq_eq_false_iff_ne]
              exact fun e => hx (UInt8.toNat_inj.1 (by show x.toNat = 44; omega))
            by_cases hy : x = 125 ∧ t = []
            · rw [if_pos hy] at hpar
              obtain ⟨rfl, rfl⟩ := hy
              refine ⟨by simp, fun h => absurd h (by simp), fun _ => V_sound ?_⟩
              simp only [go_sem, hext, hrow, hx']
              refine ⟨by simp, (v + 1, false, ls ++ [⟨mkS kk, mkS aa⟩], mkS [], false), ⟨?_, hl', hz', ?_⟩, by simp only []; omega, [.rows 112 2 0 [[.c (.v (.string (mkS kk))), .c (.v (.string (mkS aa)))]] true], by simp only [List.length_append, List.length_cons, List.length_nil, List.cons_append, List.nil_append], Nat.zero_le _, ?_, ?_⟩
              · simp only [mk_size]; exact Nat.zero_le _
              · simp only [Bool.false_eq_true, if_false]; exact hpar
              · simp only [go_sem, List.length_append]
                exact hext
              · simp only [go_sem, ltB]
                exact fun r hr => (lt_lbRows 3 _ r hr).2
            · rw [if_neg hy] at hpar
              have hd : decide (mkS (x :: t) = mkS [125]) = false := by
                rw [decide_eq_false_iff_not]
                intro e
                have := congrArg bs e
                rw [bs_mk, bs_mk] at this
                cases this
                exact hy ⟨rfl, rfl⟩
              refine ⟨by simp, fun _ => herr hpar.symm, fun h => ?_⟩
              exfalso
              rw [hx', hd] at h
              simp at h
end Go.Proofs.Ytcmkhlfjcdchmaa.A
end
section
namespace Go.Proofs.Ytcmkhlfjcdchmaa.A
open Go Go.Proofs Go.Proofs.YtcmkhlfjcdchmaaAbs
def textR (s : Ser) : ByteArray := mkS (textP s s.labels.length ++ (if 0 < s.labels.length then [125] else []))
theorem app_mk (l : List UInt8) (s : ByteArray) : mkS l ++ s = mkS (l ++ bs s) := bs_inj (by rw [bs_append]; rfl)
theorem textR_prT {s : Ser} (h : serOk s = true) : textR s = prT s := by
  rw [textR, prT, if_pos h]
  by_cases h0 : s.labels.length = 0
  · rw [if_neg (by omega), if_pos h0, h0, List.append_nil, textP, mk_bs]
  · rw [if_pos (by omega), if_neg h0]
set_option maxRecDepth 20000 in
theorem Text_rc (s : Ser) (hok : serOk s = true) (M : List Blk) : CallR Try.prog M n_windroseref03_Text [serA s] (.s (textR s)) M := by
  obtain ⟨hk1, hk2, hk3⟩ := serOk_parts hok
  refine callPS F_windroseref03_Text (Nat.le_of_ble_eq_true rfl) (by simp only [go_sem]) (by simp only [go_sem]) ?_ M
  refine run_seqV ?_
  simp only [go_sem]
  refine run_seqV ?_
  simp only [go_sem]
  refine run_seqV ?_
  simp only [go_sem]
  refine R_loop (ι := Nat) (J := fun k => k ≤ s.labels.length) (env := fun k => [(1, .p (.one (.ptr 0 0 0 0))), (3, .s (mkS (textP s k))), (4, .i k)])
    (mem := fun _ => [.rows 97 2 0 [[.c (.v (.string s.name)), .c (lbCV s.labels)]] true]) (μ := fun k => s.labels.length - k) 0 (Nat.zero_le _) ⟨[], by simp only [go_sem], Nat.zero_le _, by simp only [go_sem, textP]; exact (mk_bs _).symm, by simp only [go_sem, ltB]⟩ ?_
  intro k hk
  refine run_seqV ?_
  simp only [go_sem]
  refine ⟨fun h1 => ?_, fun h1 => ?_⟩
  · have hl := lbOk_parts (hk3 k h1)
    have hnl := nm_len hl.1
    have hvl := vl_parts hl.2
    have htl := textP_len hok k hk
    have hxt : textP s (k + 1) = textP s k ++ labT k (s.labels.getD k default) := rfl
    refine run_seq ?_
    refine run_block ?_
    refine run_seqV ?_
    simp only [go_sem, mk_append, mk_size]
    refine ⟨fun h0 => ?_, fun h0 => ?_⟩
    · have hlab : labT k (s.labels.getD k default) = [123] ++ (bs (s.labels.getD k default).name ++ [61, 34]) ++ esc (bs (s.labels.getD k default).value) ++ [34] := by rw [labT, if_pos (by omega)]
      refine ⟨by omega, ?_⟩
      refine run_seqV ?_
      simp only [go_sem, app_mk, mk_append, mk_size, List.length_append, List.length_cons, List.length_nil, bs_len]
      refine ⟨by omega, by omega, by omega, ?_⟩
      refine run_seqV ?_
      simp only [go_sem]
      refine ⟨by omega, ?_⟩
      obtain ⟨x, hx⟩ : ∃ x, x = s.labels.getD k default := ⟨_, rfl⟩
      simp only [← hx] at hnl hvl hlab hxt ⊢
      obtain ⟨l0, hl0⟩ : ∃ l0, l0 = textP s k ++ [123] ++ bs x.name ++ bs (mkS [61, 34]) := ⟨_, rfl⟩
      have hl0n : l0.length ≤ 40 + k * 60 := by
        rw [hl0]
        simp only [List.length_append, bs_len, mk_size, List.length_cons, List.length_nil]; omega
      simp only [← hl0]
      refine run_seqV ?_
      simp only [go_sem]
      refine R_loop (ι := Nat) (J := fun j => j ≤ x.value.size) (env := fun j => [(1, .p (.one (.ptr 0 0 0 0))), (3, .s (mkS (l0 ++ esc ((bs x.value).take j)))), (4, .i k), (5, .s x.value), (6, .i j)])
        (mem := fun _ => [.rows 97 2 0 [[.c (.v (.string s.name)), .c (lbCV s.labels)]] true]) (μ := fun j => x.value.size - j) 0 (Nat.zero_le _) ⟨[], by simp only [go_sem], Nat.zero_le _, by simp only [go_sem, esc, List.flatMap_nil], by simp only [go_sem, ltB]⟩ ?_
      intro j hj
      refine run_seqV ?_
      simp only [go_sem]
      have hesc : ∀ (hjs : j < x.value.size), esc ((bs x.value).take (j + 1)) = esc ((bs x.value).take j) ++ esc1 ((bs x.value).getD j 0) := by
        intro hjs
        rw [take_succ_getD 0 (by rw [bs_len]; exact hjs)]
        simp [esc]
      have hel := esc_len ((bs x.value).take j)
      rw [List.length_take, bs_len] at hel
      have hn : (l0 ++ esc ((bs x.value).take j)).length ≤ 300 := by rw [List.length_append]; omega
      have e1 : IntKind.i64.wrap ((j : Int) + 1) = ((j + 1 : Nat) : Int) := w64s (by omega)
      have e2 : IntKind.i64.wrap ((k : Int) + 1) = ((k + 1 : Nat) : Int) := w64s (by omega)
      refine ⟨fun hjs => ?_, fun hjs => ?_⟩
      · have hex : x.value.extract j (j + 1) = mkS [(bs x.value).getD j 0] := bs_inj (by
          rw [bs_extract, drop_getD 0 (by rw [bs_len]; exact hjs), Nat.add_sub_cancel_left]
          rfl)
        have hesc := hesc hjs
        refine run_seq ?_
        refine run_block ?_
        refine run_seqV ?_
        simp only [go_sem, mk_append, mk_size]
        generalize (bs x.value).getD j 0 = ch at hesc hex ⊢
        refine ⟨by omega, fun _ => by omega, fun hc => ?_, fun hc => ?_⟩
        · have hc' : ch = 34 ∨ ch = 92 := by
            simp only [Bool.or_eq_true, beq_iff_eq] at hc
            rcases hc with hc | hc
            · exact .inl (UInt8.toNat_inj.1 (by show ch.toNat = 34; omega))
            · exact .inr (UInt8.toNat_inj.1 (by show ch.toNat = 92; omega))
          rw [esc1, if_pos hc'] at hesc
          refine ⟨by omega, V_sound ?_⟩
          simp only [go_sem, e1, Int.toNat_natCast, hex, mk_append, mk_size, List.length_append, List.length_cons, List.length_nil]
          rw [List.length_append] at hn
          refine ⟨by omega, by omega, V_sound ?_⟩
          simp only [go_sem, e1]
          refine ⟨j + 1, by omega, by omega, [], by simp only [go_sem], Nat.zero_le _, ?_, by simp only [go_sem, ltB]⟩
          simp only [go_sem, hesc, List.append_assoc]
        · have hc' : ¬ (ch = 34 ∨ ch = 92) := by
            intro h
            apply Bool.false_ne_true
            rw [← hc]
            rcases h with rfl | rfl <;> rfl
          rw [esc1, if_neg hc'] at hesc
          refine V_sound ?_
          simp only [go_sem, e1, Int.toNat_natCast, hex, mk_append, mk_size, List.length_append, List.length_cons, List.length_nil]
          rw [List.length_append] at hn
          refine ⟨by omega, by omega, V_sound ?_⟩
          simp only [go_sem, e1]
          refine ⟨j + 1, by omega, by omega, [], by simp only [go_sem], Nat.zero_le _, ?_, by simp only [go_sem, ltB]⟩
          simp only [go_sem, hesc, List.append_assoc]
      · have ej : j = x.value.size := by omega
        subst ej
        refine V_sound ?_
        simp only [go_sem, mk_append, mk_size]
        refine ⟨by omega, V_sound ?_⟩
        simp only [go_sem, e2]
        refine ⟨k + 1, by omega, by omega, [], by simp only [go_sem], Nat.zero_le _, ?_, by simp only [go_sem, ltB]⟩
        have ht : l0 ++ esc ((bs x.value).take x.value.size) ++ [34] = textP s (k + 1) := by
          have e : bs (mkS [61, 34]) = [61, 34] := rfl
          rw [hxt, hlab, hl0, List.take_of_length_le (by rw [bs_len]; exact Nat.le_refl _), e]
          simp
        rw [ht]
        simp only [go_sem]
    · have hlab : labT k (s.labels.getD k default) = [44] ++ (bs (s.labels.getD k default).name ++ [61, 34]) ++ esc (bs (s.labels.getD k default).value) ++ [34] := by rw [labT, if_neg (by omega)]
      refine ⟨by omega, ?_⟩
      refine run_seqV ?_
      simp only [go_sem, app_mk, mk_append, mk_size, List.length_append, List.length_cons, List.length_nil, bs_len]
      refine ⟨by omega, by omega, by omega, ?_⟩
      refine run_seqV ?_
      simp only [go_sem]
      refine ⟨by omega, ?_⟩
      obtain ⟨x, hx⟩ : ∃ x, x = s.labels.getD k default := ⟨_, rfl⟩
      simp only [← hx] at hnl hvl hlab hxt ⊢
      obtain ⟨l0, hl0⟩ : ∃ l0, l0 = textP s k ++ [44] ++ bs x.name ++ bs (mkS [61, 34]) := ⟨_, rfl⟩
      have hl0n : l0.length ≤ 40 + k * 60 := by
        rw [hl0]
        simp only [List.length_append, bs_len, mk_size, List.length_cons, List.length_nil]; omega
      simp only [← hl0]
      refine run_seqV ?_
      simp only [go_sem]
      refine R_loop (ι := Nat) (J := fun j => j ≤ x.value.size) (env := fun j => [(1, .p (.one (.ptr 0 0 0 0))), (3, .s (mkS (l0 ++ esc ((bs x.value).take j)))), (4, .i k), (5, .s x.value), (6, .i j)])
        (mem := fun _ => [.rows 97 2 0 [[.c (.v (.string s.name)), .c (lbCV s.labels)]] true]) (μ := fun j => x.value.size - j) 0 (Nat.zero_le _) ⟨[], by simp only [go_sem], Nat.zero_le _, by simp only [go_sem, esc, List.flatMap_nil], by simp only [go_sem, ltB]⟩ ?_
      intro j hj
      refine run_seqV ?_
      simp only [go_sem]
      have hesc : ∀ (hjs : j < x.value.size), esc ((bs x.value).take (j + 1)) = esc ((bs x.value).take j) ++ esc1 ((bs x.value).getD j 0) := by
        intro hjs
        rw [take_succ_getD 0 (by rw [bs_len]; exact hjs)]
        simp [esc]
      have hel := esc_len ((bs x.value).take j)
      rw [List.length_take, bs_len] at hel
      have hn : (l0 ++ esc ((bs x.value).take j)).length ≤ 300 := by rw [List.length_append]; omega
      have e1 : IntKind.i64.wrap ((j : Int) + 1) = ((j + 1 : Nat) : Int) := w64s (by omega)
      have e2 : IntKind.i64.wrap ((k : Int) + 1) = ((k + 1 : Nat) : Int) := w64s (by omega)
      refine ⟨fun hjs => ?_, fun hjs => ?_⟩
      · have hex : x.value.extract j (j + 1) = mkS [(bs x.value).getD j 0] := bs_inj (by
          rw [bs_extract, drop_getD 0 (by rw [bs_len]; exact hjs), Nat.add_sub_cancel_left]
          rfl)
        have hesc := hesc hjs
        refine run_seq ?_
        refine run_block ?_
        refine run_seqV ?_
        simp only [go_sem, mk_append, mk_size]
        generalize (bs x.value).getD j 0 = ch at hesc hex ⊢
        refine ⟨by omega, fun _ => by omega, fun hc => ?_, fun hc => ?_⟩
        · have hc' : ch = 34 ∨ ch = 92 := by
            simp only [Bool.or_eq_true, beq_iff_eq] at hc
            rcases hc with hc | hc
            · exact .inl (UInt8.toNat_inj.1 (by show ch.toNat = 34; omega))
            · exact .inr (UInt8.toNat_inj.1 (by show ch.toNat = 92; omega))
          rw [esc1, if_pos hc'] at hesc
          refine ⟨by omega, V_sound ?_⟩
          simp only [go_sem, e1, Int.toNat_natCast, hex, mk_append, mk_size, List.length_append, List.length_cons, List.length_nil]
          rw [List.length_append] at hn
          refine ⟨by omega, by omega, V_sound ?_⟩
          simp only [go_sem, e1]
          refine ⟨j + 1, by omega, by omega, [], by simp only [go_sem], Nat.zero_le _, ?_, by simp only [go_sem, ltB]⟩
          simp only [go_sem, hesc, List.append_assoc]
        · have hc' : ¬ (ch = 34 ∨ ch = 92) := by
            intro h
            apply Bool.false_ne_true
            rw [← hc]
            rcases h with rfl | rfl <;> rfl
          rw [esc1, if_neg hc'] at hesc
          refine V_sound ?_
          simp only [go_sem, e1, Int.toNat_natCast, hex, mk_append, mk_size, List.length_append, List.length_cons, List.length_nil]
          rw [List.length_append] at hn
          refine ⟨by omega, by omega, V_sound ?_⟩
          simp only [go_sem, e1]
          refine ⟨j + 1, by omega, by omega, [], by simp only [go_sem], Nat.zero_le _, ?_, by simp only [go_sem, ltB]⟩
          simp only [go_sem, hesc, List.append_assoc]
      · have ej : j = x.value.size := by omega
        subst ej
        refine V_sound ?_
        simp only [go_sem, mk_append, mk_size]
        refine ⟨by omega, V_sound ?_⟩
        simp only [go_sem, e2]
        refine ⟨k + 1, by omega, by omega, [], by simp only [go_sem], Nat.zero_le _, ?_, by simp only [go_sem, ltB]⟩
        have ht : l0 ++ esc ((bs x.value).take x.value.size) ++ [34] = textP s (k + 1) := by
          have e : bs (mkS [61, 34]) = [61, 34] := rfl
          rw [hxt, hlab, hl0, List.take_of_length_le (by rw [bs_len]; exact Nat.le_refl _), e]
          simp
        rw [ht]
        simp only [go_sem]
  · have e : k = s.labels.length := by omega
    subst e
    have htl := textP_len hok _ (Nat.le_refl _)
    refine V_sound ?_
    simp only [go_sem, mk_append, mk_size]
    unfold textR
    by_cases h0 : 0 < s.labels.length
    · rw [if_pos h0]
      exact ⟨fun _ => ⟨by omega, SubS.refl _⟩, fun h => absurd h (by omega)⟩
    · rw [if_neg h0, List.append_nil]
      exact ⟨fun h => absurd h (by omega), fun _ => SubS.refl _⟩
end Go.Proofs.Ytcmkhlfjcdchmaa.A
end
section
namespace Go.Proofs.Ytcmkhlfjcdchmaa.A
open Go Go.Proofs Go.Proofs.YtcmkhlfjcdchmaaAbs
theorem cut_at {p r sep : List UInt8} {c : UInt8} {q : List UInt8} (hsep : sep = c :: q) (hp : ∀ x ∈ p, x ≠ c) : Lib.cut (p ++ (sep ++ r)) sep = (p, r, true) := by
  have hi : Lib.index (p ++ (sep ++ r)) sep = p.length := by
    refine Lib.index_first (by simp) ?_ (fun j hj => ?_)
    · unfold Lib.occAt
      rw [List.drop_left]
      simp
    · unfold Lib.occAt
      rw [List.drop_append_of_le_length (by omega), List.drop_eq_getElem_cons hj, hsep]
      simp only [List.cons_append, List.isPrefixOf]
      rw [Bool.and_eq_false_iff]
      refine .inl ?_
      rw [beq_eq_false_iff_ne]
      exact fun e => hp _ (List.getElem_mem hj) e.symm
  unfold Lib.cut
  rw [hi, if_pos (by omega), Int.toNat_natCast, List.take_left, ← List.drop_drop, List.drop_left, List.drop_left]
theorem cut_no {p sep : List UInt8} {c : UInt8} {q : List UInt8} (hsep : sep = c :: q) (hp : ∀ x ∈ p, x ≠ c) : Lib.cut p sep = (p, [], false) := by
  have hi : Lib.index p sep = -1 := by
    refine Lib.index_none (fun j hj => ?_)
    unfold Lib.occAt
    by_cases hjl : j < p.length
    · rw [List.drop_eq_getElem_cons hjl, hsep]
      simp only [List.isPrefixOf]
      rw [Bool.and_eq_false_iff]
      refine .inl ?_
      rw [beq_eq_false_iff_ne]
      exact fun e => hp _ (List.getElem_mem hjl) e.symm
    · rw [List.drop_eq_nil_of_le (by omega), hsep]
      rfl
  unfold Lib.cut
  rw [hi, if_neg (by decide)]
theorem nm_no {s : ByteArray} (h : nmOk s = true) {c : UInt8} (hc : c.toNat < 97 ∨ 122 < c.toNat) : ∀ x ∈ bs s, x ≠ c := by
  simp only [nmOk, Bool.and_eq_true, List.all_eq_true] at h
  intro x hx e
  have := inR_t.1 (h.2 x hx)
  subst e
  omega
end Go.Proofs.Ytcmkhlfjcdchmaa.A
end
section
namespace Go.Proofs.Ytcmkhlfjcdchmaa.A
open Go Go.Proofs Go.Proofs.YtcmkhlfjcdchmaaAbs
theorem ok_zSer {s : Ser} (h : serOk s = true) : zSer s := by
  obtain ⟨h1, h2, h3⟩ := serOk_parts h
  refine ⟨?_, by omega, fun i hi => ?_⟩
  · have := nm_len h1
    unfold zS; omega
  · have := lbOk_parts (h3 i hi)
    have a := nm_len this.1
    have b := (vl_parts this.2).1
    unfold zS
    omega
end Go.Proofs.Ytcmkhlfjcdchmaa.A
end
section
namespace Go.Proofs.Ytcmkhlfjcdchmaa.A
open Go Go.Proofs Go.Proofs.YtcmkhlfjcdchmaaAbs
def fAt (l : List UInt8) (c : UInt8) : Nat := l.findIdx (· == c)
theorem until_f (s : ByteArray) (c : UInt8) : ∀ (n at_ : Nat), n = s.size - at_ → at_ ≤ s.size → untilS s c.toNat n at_ = at_ + fAt ((bs s).drop at_) c
  | 0, at_, hn, ha => by
    have : (bs s).drop at_ = [] := List.eq_nil_of_length_eq_zero (by rw [List.length_drop, bs_len]; omega)
    rw [untilS, this]; rfl
  | n + 1, at_, hn, ha => by
    have hl : at_ < (bs s).length := by rw [bs_len]; omega
    rw [untilS, drop_getD 0 hl, fAt, List.findIdx_cons]
    by_cases h : (bs s).getD at_ 0 = c
    · rw [if_neg (by rw [h]; simp), h]
      simp
    · have h' : ¬ (((bs s).getD at_ 0).toNat : Int) = (c.toNat : Int) := fun e => h (UInt8.toNat_inj.1 (by omega))
      rw [if_pos ⟨by omega, h'⟩, until_f s c n (at_ + 1) (by omega) (by omega)]
      have : ((bs s).getD at_ 0 == c) = false := by simpa using h
      rw [this]
      show _ = at_ + (fAt _ c + 1)
      omega
/-- Where a label goes. -/
def posL (n : ByteArray) : List Lb → Nat
  | [] => 0
  | y :: l => if sLt y.name n then posL n l + 1 else 0
def insLb (ls : List Lb) (x : Lb) : List Lb := ls.take (posL x.name ls) ++ [x] ++ ls.drop (posL x.name ls)
def refG : Nat → List UInt8 → List Lb → Option (List Lb)
  | 0, _, _ => none
  | n + 1, rest, ls =>
    match rest.drop (fAt rest 61 + 1) with
    | [] => none
    | q :: r => if q ≠ 34 then none else if ls.length = 4 then none else
      match quo r with
      | none => none
      | some (_, []) => none
      | some (a, x :: t) => if x = 44 then refG n t (insLb ls ⟨mkS (rest.take (fAt rest 61)), mkS a⟩) else if x = 125 ∧ t = [] then some (insLb ls ⟨mkS (rest.take (fAt rest 61)), mkS a⟩) else none
def refAll (s : List UInt8) : Option (List Lb) := if fAt s 123 < s.length then refG 5 (s.drop (fAt s 123 + 1)) [] else some []
def refS (s : ByteArray) : Option Ser := (refAll (bs s)).bind fun ls => if serOk ⟨mkS ((bs s).take (fAt (bs s) 123)), ls⟩ then some ⟨mkS ((bs s).take (fAt (bs s) 123)), ls⟩ else none
def refR (s : ByteArray) : SV := match refS s with
  | some x => .tup [serA x, .b true]
  | none => .tup [serA ⟨mkS [], []⟩, .b false]
theorem take_range (ls : List Lb) {k : Nat} (hk : k ≤ ls.length) : ls.take k = (List.range k).map fun i => ls.getD i default := by
  refine List.ext_getElem (by simp; omega) (fun i h1 h2 => ?_)
  simp at h1
  simp [List.getD_eq_getElem?_getD, List.getElem?_eq_getElem (show i < ls.length by omega)]
theorem drop_range (ls : List Lb) (k : Nat) : ls.drop k = (List.range (ls.length - k)).map fun i => ls.getD (k + i) default := by
  refine List.ext_getElem (by simp) (fun i h1 h2 => ?_)
  simp at h1
  simp [List.getD_eq_getElem?_getD, List.getElem?_eq_getElem (show k + i < ls.length by omega)]
theorem posL_le (n : ByteArray) : ∀ l : List Lb, posL n l ≤ l.length
  | [] => Nat.le_refl _
  | y :: l => by
    rw [posL]
    have := posL_le n l
    split <;> simp <;> omega
theorem insLb_len (ls : List Lb) (x : Lb) : (insLb ls x).length = ls.length + 1 := by
  have := posL_le x.name ls
  simp only [insLb, List.length_append, List.length_take, List.length_drop, List.length_singleton]
  omega
theorem posL_is {n : ByteArray} : ∀ {l : List Lb} {k : Nat}, k ≤ l.length → (∀ i, i < k → sLt (l.getD i default).name n = true) → (k < l.length → sLt (l.getD k default).name n = false) → posL n l = k
  | [], k, hk, _, _ => by simp at hk; rw [posL, hk]
  | y :: l, 0, _, _, h => by
    have := h (by simp)
    rw [posL]
    rw [List.getD_cons_zero] at this
    rw [this]; rfl
  | y :: l, k + 1, hk, h1, h2 => by
    have h0 := h1 0 (by omega)
    rw [List.getD_cons_zero] at h0
    rw [posL, if_pos h0, posL_is (k := k) (by simpa using hk) (fun i hi => by have := h1 (i + 1) (by omega); rwa [List.getD_cons_succ] at this) (fun hi => by have := h2 (by simpa using hi); rwa [List.getD_cons_succ] at this)]
theorem fAt_le (l : List UInt8) (c : UInt8) : fAt l c ≤ l.length := List.findIdx_le_length
set_option maxRecDepth 20000 in
theorem rParse_rc (s : ByteArray) (hs : s.size ≤ 2000) (M : List Blk) : CallR Try.prog M n_windroseref03_Parse [.s s] (refR s) M := by
  refine callPS F_windroseref03_Parse (Nat.le_of_ble_eq_true rfl) (by simp only [go_sem]) (by unfold refR; split <;> simp only [go_sem]) ?_ M
  have hz : zS s := by unfold zS; omega
  have herr : refS s = none → SubS (.tup [.agg [.c (.v (.string ⟨#[]⟩)), .c (.v (.slice none 0 0))], .b false]) (refR s) := by
    intro h
    have : refR s = .tup [serA ⟨mkS [], []⟩, .b false] := by unfold refR; rw [h]
    rw [this]
    exact subS_tup2 sub_zero (SubP.refl _)
  obtain ⟨at0, hat⟩ : ∃ k, k = fAt (bs s) 123 := ⟨_, rfl⟩
  have hat_le : at0 ≤ s.size := by have := fAt_le (bs s) 123; rw [bs_len] at this; omega
  have hun : untilS s 123 (s.size - 0) 0 = at0 := by
    have := until_f s 123 (s.size - 0) 0 rfl (Nat.zero_le _)
    rw [show (((123 : UInt8).toNat : Nat) : Int) = 123 from rfl] at this
    rw [this, hat, Nat.zero_add]; rfl
  refine run_seqV ?_
  simp only [go_sem]
  refine run_seqV ?_
  simp only [go_sem]
  have hu := until_rc s hz 0 123 (by omega)
  rw [hun] at hu
  refine call0 hu ?_
  simp only [go_sem]
  refine run_seqV ?_
  simp only [go_sem]
  refine ⟨by omega, ?_⟩
  obtain ⟨nm, hnm⟩ : ∃ nm, nm = s.extract 0 at0 := ⟨_, rfl⟩
  have hnm' : nm = mkS ((bs s).take at0) := bs_inj (by rw [hnm, bs_extract, List.drop_zero, Nat.sub_zero]; rfl)
  rw [← hnm]
  refine run_gh (gh_sub_cell (b := 1) (i := 0) (j := 1) (.c (.v (.slice none 0 0))) (.c (lbCV [])) rfl rfl rfl (subA_nil 2 _)) ?_
  refine run_seqV ?_
  simp only [go_sem]
  refine R_loop (ι := Nat × List Lb) (J := fun p => p.1 ≤ s.size ∧ p.2.length ≤ 4 ∧ (∀ y ∈ p.2, zS y.name ∧ zS y.value) ∧ (if p.1 < s.size then refG (5 - p.2.length) ((bs s).drop (p.1 + 1)) p.2 else some p.2) = refAll (bs s))
    (env := fun p => [(0, .s s), (2, .p (.one (.ptr 0 0 0 0))), (4, .i p.1), (5, .p (.one (.ptr 1 0 0 0)))])
    (mem := fun p => [.rows 97 2 0 [[.c (.v (.string ⟨#[]⟩)), .c (.v (.slice none 0 0))]] true, .rows 97 2 0 [[.c (.v (.string nm)), .c (lbCV p.2)]] true])
    (μ := fun p => 5 - p.2.length) (at0, []) ⟨hat_le, Nat.zero_le _, by simp, ?_⟩ ⟨[], ?_, Nat.zero_le _, ?_, ?_⟩ ?_
  · unfold refAll
    rw [← hat, bs_len]
    rfl
  · simp only [go_sem, fillL]
  · simp only [go_sem]
  · simp only [go_sem, ltB]
  rintro ⟨at_, ls⟩ ⟨hat1, hls, hzl, hpar⟩
  simp only at hat1 hls hzl hpar
  refine run_seqV ?_
  simp only [go_sem]
  refine ⟨fun h1 => ?_, fun h1 => ?_⟩
  · rw [if_pos h1] at hpar
    have e1 : IntKind.i64.wrap ((at_ : Int) + 1) = ((at_ + 1 : Nat) : Int) := w64s (by omega)
    refine run_block ?_
    refine run_seqV ?_
    simp only [go_sem, e1]
    refine run_seqV ?_
    simp only [go_sem]
    obtain ⟨rest, hrest⟩ : ∃ r, r = (bs s).drop (at_ + 1) := ⟨_, rfl⟩
    obtain ⟨i, hi⟩ : ∃ i, i = fAt rest 61 := ⟨_, rfl⟩
    have hrl : rest.length = s.size - (at_ + 1) := by rw [hrest, List.length_drop, bs_len]
    have hile : i ≤ rest.length := by rw [hi]; exact fAt_le _ _
    have hun2 : untilS s 61 (s.size - (at_ + 1)) (at_ + 1) = at_ + 1 + i := by
      have := until_f s 61 (s.size - (at_ + 1)) (at_ + 1) rfl (by omega)
      rw [show (((61 : UInt8).toNat : Nat) : Int) = 61 from rfl] at this
      rw [this, hi, hrest]
    have hu := until_rc s hz (at_ + 1) 61 (by omega)
    rw [hun2] at hu
    refine call0 hu ?_
    simp only [go_sem]
    obtain ⟨n, hn⟩ : ∃ n, 5 - ls.length = n + 1 := ⟨4 - ls.length, by omega⟩
    rw [hn, ← hrest, refG, ← hi] at hpar
    have hdr : rest.drop (i + 1) = (bs s).drop (at_ + 1 + i + 1) := by rw [hrest, List.drop_drop]; congr 1
    obtain ⟨eq, heq⟩ : ∃ e, e = at_ + 1 + i := ⟨_, rfl⟩
    rw [hdr, ← heq] at hpar
    rw [← heq]
    have e2 : IntKind.i64.wrap ((eq : Int) + 1) = ((eq + 1 : Nat) : Int) := w64s (by omega)
    have herr' : refAll (bs s) = none → SubS (.tup [.agg [.c (.v (.string ⟨#[]⟩)), .c (.v (.slice none 0 0))], .b false]) (refR s) := fun h => herr (by unfold refS; rw [h]; rfl)
    refine run_seqV ?_
    simp only [go_sem, e2, Int.toNat_natCast]
    by_cases h2 : s.size ≤ eq + 1
    · have hd : (bs s).drop (eq + 1) = [] := List.eq_nil_of_length_eq_zero (by rw [List.length_drop, bs_len]; omega)
      rw [hd] at hpar
      refine ⟨fun h => ?_, fun _ => herr' hpar.symm, fun h => ?_⟩
      · rw [decide_eq_true h2] at h; cases h
      · rw [decide_eq_true h2] at h; simp at h
    · rw [drop_getD 0 (show eq + 1 < (bs s).length by rw [bs_len]; omega)] at hpar
      have hd2 : decide (s.size ≤ eq + 1) = false := decide_eq_false h2
      generalize (bs s).getD (eq + 1) 0 = q at hpar ⊢
      simp only [hd2]
      by_cases hq : q = 34
      case neg =>
        simp only [if_pos (show q ≠ 34 from hq)] at hpar
        refine ⟨fun _ => by omega, fun _ => herr' hpar.symm, fun h => ?_⟩
        exfalso
        simp only [Bool.false_or, Bool.or_eq_false_iff, bne_eq_false_iff_eq] at h
        exact hq (UInt8.toNat_inj.1 (by show q.toNat = 34; omega))
      subst hq
      simp only [ne_eq, not_true_eq_false, if_false] at hpar
      by_cases h4 : ls.length = 4
      · rw [if_pos h4] at hpar
        refine ⟨fun _ => by omega, fun _ => herr' hpar.symm, fun h => ?_⟩
        rw [h4] at h
        simp at h
      rw [if_neg h4] at hpar
      refine ⟨fun _ => by omega, fun h => ?_, fun _ => ?_⟩
      · exfalso
        simp at h
        omega
      refine run_seqV ?_
      simp only [go_sem, Int.toNat_natCast]
      refine ⟨by omega, ?_⟩
      obtain ⟨kk, hkk⟩ : ∃ k, k = s.extract (at_ + 1) eq := ⟨_, rfl⟩
      have hkk' : kk = mkS (rest.take i) := bs_inj (by rw [hkk, bs_extract, ← hrest, heq, Nat.add_sub_cancel_left]; rfl)
      rw [← hkk]
      rw [← hkk'] at hpar
      refine run_seqV ?_
      have e3 : IntKind.i64.wrap ((eq : Int) + 2) = ((eq + 1 + 1 : Nat) : Int) := by rw [w64 (by omega) (by omega)]; omega
      simp only [go_sem, e3]
      refine run_seqV ?_
      simp only [go_sem]
      obtain ⟨pos, hpos⟩ : ∃ p, p = eq + 1 + 1 := ⟨_, rfl⟩
      rw [← hpos] at hpar ⊢
      have hkz : zS kk := by unfold zS; rw [hkk', mk_size, List.length_take]; omega
      refine R_loop (ι := Nat × List UInt8) (J := fun p => p.1 ≤ s.size ∧ p.2.length ≤ p.1 ∧ quo ((bs s).drop pos) = (quo ((bs s).drop p.1)).map (fun q => (p.2 ++ q.1, q.2)))
        (env := fun p => [(0, .s s), (2, .p (.one (.ptr 0 0 0 0))), (4, .i p.1), (5, .p (.one (.ptr 1 0 0 0))), (8, .p (.one (.ptr 2 0 0 0)))])
        (mem := fun p => [.rows 97 2 0 [[.c (.v (.string ⟨#[]⟩)), .c (.v (.slice none 0 0))]] true, .rows 97 2 0 [[.c (.v (.string nm)), .c (lbCV ls)]] true, .rows 112 2 0 [[.c (.v (.string kk)), .c (.v (.string (mkS p.2)))]] true])
        (μ := fun p => s.size - p.1) (pos, []) ⟨by simp only; omega, Nat.zero_le _, by simp⟩ ⟨[], by simp only [go_sem], Nat.zero_le _, by simp only [go_sem], by simp only [go_sem, ltB]⟩ ?_
      rintro ⟨p, acc⟩ ⟨hp, hacc, hquo⟩
      simp only at hp hacc hquo
      refine run_seqV ?_
      simp only [go_sem]
      have e4 : IntKind.i64.wrap ((p : Int) + 1) = ((p + 1 : Nat) : Int) := w64s (by omega)
      refine ⟨fun _ => by omega, fun hc => ?_, fun hc => ?_⟩
      · simp only [Bool.and_eq_true, decide_eq_true_eq] at hc
        obtain ⟨hps, hc34⟩ := hc
        rw [drop_getD 0 (show p < (bs s).length by rw [bs_len]; omega)] at hquo
        refine run_block ?_
        refine run_seqV ?_
        simp only [go_sem, e4, Int.toNat_natCast]
        generalize hc0 : (bs s).getD p 0 = c at hc34 hquo ⊢
        have hc34' : c ≠ 34 := fun e => by rw [e] at hc34; exact absurd hc34 (by decide)
        refine ⟨by omega, fun hc => ?_, fun hc => ?_⟩
        · have hc : c = 92 := UInt8.toNat_inj.1 (by show c.toNat = 92; omega)
          subst hc
          have hq0 : quo ((bs s).drop pos) = none → refAll (bs s) = none := by
            intro h
            rw [h] at hpar
            exact hpar.symm
          by_cases hend : p + 1 = s.size
          · have hd : (bs s).drop (p + 1) = [] := List.eq_nil_of_length_eq_zero (by rw [List.length_drop, bs_len]; omega)
            rw [hd] at hquo
            have eb : ((((p + 1 : Nat) : Int)) == (s.size : Int)) = true := by rw [beq_iff_eq]; omega
            simp only [eb]
            refine ⟨fun h => absurd h (by decide), fun h => absurd h (by simp), fun _ => herr' (hq0 (by rw [hquo]; rfl)), fun h => absurd h (by simp)⟩
          · have eb : ((((p + 1 : Nat) : Int)) == (s.size : Int)) = false := by rw [beq_eq_false_iff_ne]; omega
            have hex : s.extract (p + 1) (p + 1 + 1) = mkS [(bs s).getD (p + 1) 0] := bs_inj (by
              rw [bs_extract, drop_getD 0 (by rw [bs_len]; omega), Nat.add_sub_cancel_left]
              rfl)
            have e5 : IntKind.i64.wrap (((p + 1 : Nat) : Int) + 1) = ((p + 1 + 1 : Nat) : Int) := w64s (by omega)
            rw [drop_getD 0 (show p + 1 < (bs s).length by rw [bs_len]; omega)] at hquo
            generalize (bs s).getD (p + 1) 0 = d at hquo hex ⊢
            simp only [eb, Bool.false_or, Bool.not_false, Bool.true_and]
            refine ⟨fun _ => by omega, fun _ => by omega, fun h => ?_, fun h => ?_⟩
            · have hd : ¬ (d = 34 ∨ d = 92) := by
                rintro (rfl | rfl) <;> exact absurd h (by decide)
              rw [quo_bn hd] at hquo
              exact herr' (hq0 (by rw [hquo]; rfl))
            · have hd : d = 34 ∨ d = 92 := by
                simp only [Bool.and_eq_false_iff, bne_eq_false_iff_eq] at h
                rcases h with h | h
                · exact .inl (UInt8.toNat_inj.1 (by show d.toNat = 34; omega))
                · exact .inr (UInt8.toNat_inj.1 (by show d.toNat = 92; omega))
              rw [quo_b hd] at hquo
              refine run_seqV ?_
              simp only [go_sem, e5, Int.toNat_natCast, hex, mk_append, mk_size, List.length_cons, List.length_nil]
              refine ⟨by omega, by omega, ?_⟩
              refine V_sound ?_
              simp only [go_sem, e5]
              refine ⟨(p + 1 + 1, acc ++ [d]), ⟨by simp only; omega, by simp; omega, ?_⟩, by simp only; omega, [], by simp only [go_sem], Nat.zero_le _, ?_, by simp only [go_sem, ltB]⟩
              · rw [hquo, Option.map_map]
                congr 1
                funext q
                simp
              · simp only [go_sem]
        · have hb' : c ≠ 92 := fun e => hc (by rw [e]; rfl)
          rw [quo_c hc34' hb'] at hquo
          have hex : s.extract p (p + 1) = mkS [c] := bs_inj (by
            rw [bs_extract, drop_getD 0 (by rw [bs_len]; omega), Nat.add_sub_cancel_left, hc0]
            rfl)
          refine run_seqV ?_
          simp only [go_sem, e4, Int.toNat_natCast, hex, mk_append, mk_size, List.length_cons, List.length_nil]
          refine ⟨by omega, by omega, ?_⟩
          refine V_sound ?_
          simp only [go_sem, e4]
          refine ⟨(p + 1, acc ++ [c]), ⟨by simp only; omega, by simp; omega, ?_⟩, by simp only; omega, [], by simp only [go_sem], Nat.zero_le _, ?_, by simp only [go_sem, ltB]⟩
          · rw [hquo, Option.map_map]
            congr 1
            funext q
            simp
          · simp only [go_sem]
      · have e5 : IntKind.i64.wrap ((p : Int) + 1) = ((p + 1 : Nat) : Int) := e4
        refine run_seqV ?_
        simp only [go_sem, e4]
        refine run_seqV ?_
        simp only [go_sem]
        have hq0 : quo ((bs s).drop pos) = none → refAll (bs s) = none := by
          intro h
          rw [h] at hpar
          exact hpar.symm
        by_cases hps : p < s.size
        case neg =>
          have hd : (bs s).drop p = [] := List.eq_nil_of_length_eq_zero (by rw [List.length_drop, bs_len]; omega)
          rw [hd] at hquo
          have eb : decide (s.size ≤ p + 1) = true := decide_eq_true (by omega)
          simp only [eb]
          refine ⟨fun h => absurd h (by decide), fun h => absurd h (by simp), fun _ => herr' (hq0 (by rw [hquo]; rfl)), fun h => absurd h (by simp)⟩
        have hc34 : (bs s).getD p 0 = 34 := by
          simp only [Bool.and_eq_false_iff, decide_eq_false_iff_not, bne_eq_false_iff_eq] at hc
          rcases hc with hc | hc
          · exact absurd hps hc
          · exact UInt8.toNat_inj.1 (by show ((bs s).getD p 0).toNat = 34; omega)
        rw [drop_getD 0 (show p < (bs s).length by rw [bs_len]; omega), hc34, quo_q, Option.map_some, List.append_nil] at hquo
        rw [hquo] at hpar
        by_cases hend : s.size ≤ p + 1
        · have hd : (bs s).drop (p + 1) = [] := List.eq_nil_of_length_eq_zero (by rw [List.length_drop, bs_len]; omega)
          rw [hd] at hpar
          have eb : decide (s.size ≤ p + 1) = true := decide_eq_true hend
          simp only [eb]
          refine ⟨fun h => absurd h (by decide), fun h => absurd h (by simp), fun _ => herr' hpar.symm, fun h => absurd h (by simp)⟩
        have eb : decide (s.size ≤ p + 1) = false := decide_eq_false hend
        have hext : s.extract (p + 1) s.size = mkS ((bs s).drop (p + 1)) := bs_inj (by
          rw [bs_extract, List.take_of_length_le (by rw [List.length_drop, bs_len]; exact Nat.le_refl _)]
          rfl)
        rw [hext]
        rw [drop_getD 0 (show p + 1 < (bs s).length by rw [bs_len]; omega)] at hpar ⊢
        simp only [eb]
        have hx0 : (bs s).getD (p + 1) 0 = (bs s).getD (p + 1) 0 := rfl
        generalize hxe : (bs s).getD (p + 1) 0 = x at hpar ⊢
        obtain ⟨t, ht⟩ : ∃ t, t = (bs s).drop (p + 1 + 1) := ⟨_, rfl⟩
        rw [← ht] at hpar ⊢
        have hdec : decide (mkS (x :: t) = mkS [125]) = decide (x = 125 ∧ t = []) := by
          rw [decide_eq_decide]
          constructor
          · intro e
            have := congrArg bs e
            rw [bs_mk, bs_mk] at this
            cases this
            exact ⟨rfl, rfl⟩
          · rintro ⟨rfl, rfl⟩
            rfl
        simp only at hpar
        refine ⟨fun _ => by omega, fun _ => by omega, fun h => ?_, fun h => ?_⟩
        · have hx1 : ¬ x = 44 := by
            rintro rfl
            exact absurd h (by simp)
          have hx2 : ¬ (x = 125 ∧ t = []) := by
            intro e
            rw [show decide (mkS (x :: t) = { data := #[125] }) = true from hdec.trans (decide_eq_true e)] at h
            simp at h
          rw [if_neg hx1, if_neg hx2] at hpar
          exact herr' hpar.symm
        have hgo : x = 44 ∨ (x = 125 ∧ t = []) := by
          simp only [Bool.false_or, Bool.and_eq_false_iff, bne_eq_false_iff_eq, Bool.not_eq_false'] at h
          rcases h with h | h
          · exact .inl (UInt8.toNat_inj.1 (by show x.toNat = 44; omega))
          · exact .inr (of_decide_eq_true (hdec.symm.trans h))
        refine run_seqV ?_
        simp only [go_sem]
        refine run_seqV ?_
        simp only [go_sem]
        refine R_loop (ι := Nat) (J := fun k => k ≤ ls.length ∧ ∀ i, i < k → sLt (ls.getD i default).name kk = true)
          (env := fun k => [(0, .s s), (2, .p (.one (.ptr 0 0 0 0))), (4, .i (p + 1 : Nat)), (5, .p (.one (.ptr 1 0 0 0))), (8, .p (.one (.ptr 2 0 0 0))), (9, .i k)])
          (mem := fun _ => [.rows 97 2 0 [[.c (.v (.string ⟨#[]⟩)), .c (.v (.slice none 0 0))]] true, .rows 97 2 0 [[.c (.v (.string nm)), .c (lbCV ls)]] true, .rows 112 2 0 [[.c (.v (.string kk)), .c (.v (.string (mkS acc)))]] true])
          (μ := fun k => ls.length - k) 0 ⟨Nat.zero_le _, fun i hi => absurd hi (Nat.not_lt_zero _)⟩ ⟨[], by simp only [go_sem], Nat.zero_le _, by simp only [go_sem], by simp only [go_sem, ltB]⟩ ?_
        rintro k ⟨hk, hlt⟩
        refine run_seqV ?_
        simp only [go_sem]
        refine ⟨fun _ => by omega, fun h2 => ?_, fun h2 => ?_⟩
        · simp only [Bool.and_eq_true, decide_eq_true_eq] at h2
          refine V_sound ?_
          simp only [go_sem]
          refine ⟨k + 1, ⟨by omega, fun i hi => ?_⟩, by omega, [], by simp only [go_sem], Nat.zero_le _, ?_, by simp only [go_sem, ltB]⟩
          · by_cases hik : i = k
            · subst hik; exact h2.2
            · exact hlt i (by omega)
          · simp only [go_sem, w64s (show k < 9223372036854775807 by omega)]
        have hpl : posL kk ls = k := posL_is hk hlt (fun hkl => by
          rw [decide_eq_true hkl, Bool.true_and] at h2
          exact h2)
        refine run_seqV ?_
        simp only [go_sem, List.length_map, List.length_range, List.length_append, List.length_cons, List.length_nil]
        refine ⟨by omega, by omega, by omega, by omega, by omega, by rfl, ?_⟩
        obtain ⟨nl, hnl⟩ : ∃ nl, nl = insLb ls ⟨kk, mkS acc⟩ := ⟨_, rfl⟩
        have hrows : (List.map (fun i => [AV.c (CV.v (Value.string (ls.getD i default).name)), AV.c (CV.v (Value.string (ls.getD i default).value))]) (List.range k) ++ [[AV.c (CV.v (Value.string kk)), AV.c (CV.v (Value.string (mkS acc)))]] ++ List.map (fun i => [AV.c (CV.v (Value.string (ls.getD (k + i) default).name)), AV.c (CV.v (Value.string (ls.getD (k + i) default).value))]) (List.range (ls.length - k))) = lbRows nl := by
          rw [hnl, insLb, show posL (Lb.mk kk (mkS acc)).name ls = k from hpl, take_range ls hk, drop_range ls k, lbRows, List.map_append, List.map_append, List.map_map, List.map_map]
          rfl
        have hnll : k + 1 + (ls.length - k) = nl.length := by rw [hnl, insLb_len]; omega
        rw [hrows, hnll]
        have hcl : closedRows (lbRows nl) := by
          intro r hr a ha
          obtain ⟨y, _, rfl⟩ := List.mem_map.1 hr
          rcases List.mem_cons.1 ha with rfl | ha
          · exact ⟨_, rfl⟩
          · obtain rfl := List.mem_singleton.1 ha; exact ⟨_, rfl⟩
        refine run_gh (gh_freeze (b := 3) (l := lbRows nl) rfl hcl) ?_
        have hM : (List.map (frzB 3 4 (lbRows nl)) [(Blk.rows 97 2 0 [[AV.c (CV.v (Value.string ⟨#[]⟩)), AV.c (CV.v (Value.slice none 0 0))]] true), (Blk.rows 97 2 0 [[AV.c (CV.v (Value.string nm)), AV.arr 2 3 4 0 nl.length]] true), (Blk.rows 112 2 0 [[AV.c (CV.v (Value.string kk)), AV.c (CV.v (Value.string (mkS acc)))]] true), (Blk.rows 112 2 4 (lbRows nl) false), (Blk.rows 112 2 1 [[AV.c (CV.v (Value.string kk)), AV.c (CV.v (Value.string (mkS acc)))]] true)]).set 3 .dead
            = [(Blk.rows 97 2 0 [[AV.c (CV.v (Value.string ⟨#[]⟩)), AV.c (CV.v (Value.slice none 0 0))]] true), (Blk.rows 97 2 0 [[AV.c (CV.v (Value.string nm)), AV.c (CV.imm 2 nl.length fun i j => toC (((lbRows nl).getD (0 + i) []).getD j default))]] true), (Blk.rows 112 2 0 [[AV.c (CV.v (Value.string kk)), AV.c (CV.v (Value.string (mkS acc)))]] true), .dead, (Blk.rows 112 2 1 [[AV.c (CV.v (Value.string kk)), AV.c (CV.v (Value.string (mkS acc)))]] true)] := by
          have : 0 + nl.length ≤ (lbRows nl).length := by rw [lbRows_len]; omega
          simp only [List.map_cons, List.map_nil, List.set_cons_succ, List.set_cons_zero, frzB, frzA, this, and_self, if_true]
        rw [hM]
        refine run_gh (gh_sub_cell (b := 1) (i := 0) (j := 1) _ (.c (lbCV nl)) rfl rfl rfl (subA_imm fun i hi j hj => lbRows_get nl hi hj)) ?_
        refine V_sound ?_
        simp only [go_sem, fillL]
        have hnl4 : nl.length = ls.length + 1 := by rw [hnl, insLb_len]
        have hnz : ∀ y ∈ nl, zS y.name ∧ zS y.value := by
          intro y hy
          rw [hnl, insLb] at hy
          rcases List.mem_append.1 hy with hy | hy
          · rcases List.mem_append.1 hy with hy | hy
            · exact hzl y (List.mem_of_mem_take hy)
            · obtain rfl := List.mem_singleton.1 hy
              exact ⟨hkz, by unfold zS; simp only [mk_size]; omega⟩
          · exact hzl y (List.mem_of_mem_drop hy)
        rw [← hnl] at hpar
        refine ⟨by omega, fun h => ?_, fun h => ?_⟩
        · have hx : x = 125 := UInt8.toNat_inj.1 (by rw [← hxe]; show ((bs s).getD (p + 1) 0).toNat = 125; omega)
          have ht0 : x = 125 ∧ t = [] := hgo.resolve_left (fun e => by rw [hx] at e; exact absurd e (by decide))
          rw [if_neg (show ¬ x = 44 by rw [hx]; decide), if_pos ht0] at hpar
          refine ⟨(s.size, nl), ⟨Nat.le_refl _, by simp only; omega, hnz, ?_⟩, by simp only; omega, [(Blk.rows 112 2 0 [[AV.c (CV.v (Value.string kk)), AV.c (CV.v (Value.string (mkS acc)))]] true), .dead, (Blk.rows 112 2 1 [[AV.c (CV.v (Value.string kk)), AV.c (CV.v (Value.string (mkS acc)))]] true)], rfl, Nat.zero_le _, ?_, ?_⟩
          · rw [if_neg (Nat.lt_irrefl _)]; exact hpar
          · simp only [go_sem]
          · simp only [go_sem, ltB]
        · have hx : x = 44 := by
            rcases hgo with hx | hx
            · exact hx
            · exact absurd (show (((bs s).getD (p + 1) 0).toNat : Int) = 125 by rw [hxe, hx.1]; rfl) h
          rw [if_pos hx] at hpar
          refine ⟨(p + 1, nl), ⟨by simp only; omega, by simp only; omega, hnz, ?_⟩, by simp only; omega, [(Blk.rows 112 2 0 [[AV.c (CV.v (Value.string kk)), AV.c (CV.v (Value.string (mkS acc)))]] true), .dead, (Blk.rows 112 2 1 [[AV.c (CV.v (Value.string kk)), AV.c (CV.v (Value.string (mkS acc)))]] true)], rfl, Nat.zero_le _, ?_, ?_⟩
          · rw [if_pos (show p + 1 < s.size by omega), ← ht, show 5 - nl.length = n by omega]; exact hpar
          · simp only [go_sem]
          · simp only [go_sem, ltB]
  · rw [if_neg h1] at hpar
    have hx : zSer ⟨nm, ls⟩ := by
      refine ⟨by unfold zS; simp only; rw [hnm', mk_size, List.length_take, bs_len]; omega, by simp only; omega, fun i hi => hzl _ ?_⟩
      rw [List.getD_eq_getElem?_getD, List.getElem?_eq_getElem hi]
      exact List.getElem_mem _
    refine run_seqV ?_
    simp only [go_sem]
    refine call0 (May_rc ⟨nm, ls⟩ hx) ?_
    simp only [go_sem]
    by_cases hok : serOk ⟨nm, ls⟩ = true
    · have hR : refR s = .tup [serA ⟨nm, ls⟩, .b true] := by
        unfold refR refS
        rw [← hpar, Option.bind_some, ← hat, ← hnm', if_pos hok]
      rw [hR, hok]
      refine ⟨fun h => absurd h (by decide), fun _ => V_sound ?_⟩
      simp only [go_sem]
      exact SubS.refl _
    · refine ⟨fun _ => herr ?_, fun h => absurd h (by simp [hok])⟩
      unfold refS
      rw [← hpar, Option.bind_some, ← hat, ← hnm', if_neg hok]
end Go.Proofs.Ytcmkhlfjcdchmaa.A
end
section
namespace Go.Proofs.Ytcmkhlfjcdchmaa.A
open Go Go.Proofs Go.Proofs.YtcmkhlfjcdchmaaAbs
def nms (l : List Lb) : List ByteArray := l.map Lb.name
/-- Each ahead of each. -/
def upL (l : List Lb) : Prop := l.Pairwise fun x y => sLt x.name y.name = true
theorem sink_perm {l : List Lb} : ∀ {j : Nat}, j < l.length → (sink ltLb default l j).Perm l := by
  intro j
  induction j generalizing l with
  | zero => intro _; exact List.Perm.refl _
  | succ j ih =>
    intro hj
    rw [sink]
    split
    · refine (ih (by simp; omega)).trans ?_
      rw [getD_get hj, getD_get (show j < l.length by omega)]
      exact List.set_set_perm hj (by omega)
    · exact List.Perm.refl _
theorem sortTo_perm {l : List Lb} : ∀ {i : Nat}, i ≤ l.length → (sortTo ltLb default l i).Perm l
  | 0, _ => List.Perm.refl _
  | i + 1, hi => by
    rw [sortTo]
    exact (sink_perm (by rw [sortTo_length]; omega)).trans (sortTo_perm (by omega))
theorem sortLb_perm (l : List Lb) : (sortLb l).Perm l := sortTo_perm (Nat.le_refl _)
theorem insLb_perm (l : List Lb) (x : Lb) : (insLb l x).Perm (x :: l) := by
  unfold insLb
  rw [List.append_assoc]
  refine List.perm_append_comm_assoc .. |>.trans ?_
  rw [List.take_append_drop]
  exact List.Perm.refl _
theorem foldIns_perm : ∀ (new acc : List Lb), (new.foldl insLb acc).Perm (acc ++ new)
  | [], acc => by rw [List.append_nil]; exact List.Perm.refl _
  | x :: new, acc => by
    rw [List.foldl_cons]
    refine (foldIns_perm new (insLb acc x)).trans ?_
    refine ((insLb_perm acc x).append_right new).trans ?_
    rw [List.cons_append]
    exact (List.perm_middle).symm
/-- An element goes down past what is behind it. -/
theorem sink_at (A S : List Lb) (x : Lb) (hA : ∀ y ∈ A, ltLb x y = false) : ∀ (n : Nat) (B : List Lb) (S : List Lb), B.length = n → (∀ y ∈ B, ltLb x y = true) → sink ltLb default (A ++ B ++ x :: S) (A.length + B.length) = A ++ x :: B ++ S
  | 0, B, S, hn, hB => by
    obtain rfl := List.eq_nil_of_length_eq_zero hn
    rw [List.append_nil, List.length_nil, Nat.add_zero]
    rcases List.eq_nil_or_concat A with rfl | ⟨A', z, rfl⟩
    · simp [sink]
    · have hz := hA z (by simp)
      rw [List.concat_eq_append]
      have e1 : (A' ++ [z]).length = A'.length + 1 := by simp
      have g1 : (A' ++ [z] ++ x :: S).getD (A'.length + 1) default = x := by
        rw [List.getD_eq_getElem?_getD, List.getElem?_append_right (by simp)]; simp
      have g2 : (A' ++ [z] ++ x :: S).getD A'.length default = z := by
        rw [List.getD_eq_getElem?_getD, List.append_assoc, List.getElem?_append_right (Nat.le_refl _)]; simp
      rw [e1, sink, g1, g2, hz]
      simp
  | n + 1, B, S, hn, hB => by
    rcases List.eq_nil_or_concat B with rfl | ⟨B', z, rfl⟩
    · cases hn
    · rw [List.concat_eq_append] at hn hB ⊢
      have hz := hB z (by simp)
      have e1 : A.length + (B' ++ [z]).length = (A.length + B'.length) + 1 := by simp; omega
      have e2 : A ++ (B' ++ [z]) ++ x :: S = (A ++ B') ++ z :: x :: S := by simp
      have g1 : ((A ++ B') ++ z :: x :: S).getD (A.length + B'.length + 1) default = x := by
        rw [List.getD_eq_getElem?_getD, List.getElem?_append_right (by simp <;> omega)]; simp
      have g2 : ((A ++ B') ++ z :: x :: S).getD (A.length + B'.length) default = z := by
        rw [List.getD_eq_getElem?_getD, List.getElem?_append_right (by simp)]; simp
      have e3 : (((A ++ B') ++ z :: x :: S).set (A.length + B'.length + 1) z).set (A.length + B'.length) x = A ++ B' ++ x :: (z :: S) := by
        rw [List.set_append_right _ _ (by simp <;> omega), List.set_append_right _ _ (by simp)]
        simp
      rw [e1, e2, sink, g1, g2, hz, if_pos rfl, e3, sink_at A S x hA n B' (z :: S) (by simpa using hn) (fun y hy => hB y (by simp [hy]))]
      simp
theorem posL_take {n : ByteArray} : ∀ {l : List Lb}, ∀ y ∈ l.take (posL n l), sLt y.name n = true
  | [], y, hy => by simp at hy
  | z :: l, y, hy => by
    rw [posL] at hy
    split at hy
    · rename_i h
      rw [List.take_succ_cons] at hy
      rcases List.mem_cons.1 hy with rfl | hy
      · exact h
      · exact posL_take y hy
    · simp at hy
theorem posL_drop {n : ByteArray} : ∀ {l : List Lb}, upL l → (∀ y ∈ l, y.name ≠ n) → ∀ y ∈ l.drop (posL n l), sLt n y.name = true
  | [], _, _, y, hy => by simp at hy
  | z :: l, hu, hne, y, hy => by
    rw [posL] at hy
    have hu' := List.pairwise_cons.1 hu
    split at hy
    · rw [List.drop_succ_cons] at hy
      exact posL_drop hu'.2 (fun y hy => hne y (List.mem_cons_of_mem _ hy)) y hy
    · rename_i h
      have hz : sLt n z.name = true := by
        cases hh : sLt n z.name with
        | true => rfl
        | false => exact absurd (sLt_total (by simpa using h) hh) (hne z (List.mem_cons_self ..))
      rw [List.drop_zero] at hy
      rcases List.mem_cons.1 hy with rfl | hy
      · exact hz
      · exact sLt_trans hz (hu'.1 y hy)
theorem insLb_up {l : List Lb} {x : Lb} (hu : upL l) (hne : ∀ y ∈ l, y.name ≠ x.name) : upL (insLb l x) := by
  unfold insLb upL
  have hd := posL_drop hu hne
  have ht := posL_take (n := x.name) (l := l)
  have hsp : (l.take (posL x.name l) ++ l.drop (posL x.name l)).Pairwise fun x y => sLt x.name y.name = true := by rw [List.take_append_drop]; exact hu
  rw [List.pairwise_append] at hsp
  rw [List.append_assoc, List.pairwise_append]
  refine ⟨hsp.1, List.pairwise_cons.2 ⟨fun y hy => hd y hy, hsp.2.1⟩, fun a ha b hb => ?_⟩
  rcases List.mem_cons.1 hb with rfl | hb
  · exact ht a ha
  · exact hsp.2.2 a ha b hb
/-- The insertion sort puts each where the document puts it. -/
theorem sort_fold : ∀ (i : Nat) (l : List Lb), i ≤ l.length → (nms l).Nodup → sortTo ltLb default l i = (l.take i).foldl insLb [] ++ l.drop i ∧ upL ((l.take i).foldl insLb [])
  | 0, l, _, _ => ⟨by simp [sortTo], by simp [upL]⟩
  | i + 1, l, hi, hn => by
    obtain ⟨h1, h2⟩ := sort_fold i l (by omega) hn
    obtain ⟨F, hF⟩ : ∃ F, F = (l.take i).foldl insLb [] := ⟨_, rfl⟩
    rw [← hF] at h1 h2
    have hFp : F.Perm (l.take i) := by rw [hF]; simpa using foldIns_perm (l.take i) []
    have hFl : F.length = i := by rw [hFp.length_eq, List.length_take]; omega
    obtain ⟨x, hx⟩ : ∃ x, x = l.getD i default := ⟨_, rfl⟩
    have htk : l.take (i + 1) = l.take i ++ [x] := by rw [hx]; exact take_succ_getD default (by omega)
    have hdr : l.drop i = x :: l.drop (i + 1) := by rw [hx]; exact drop_getD default (by omega)
    have hne : ∀ y ∈ F, y.name ≠ x.name := by
      intro y hy e
      have hy' := hFp.mem_iff.1 hy
      have hnn : (nms (l.take (i + 1) ++ l.drop (i + 1))).Nodup := by rw [List.take_append_drop]; exact hn
      rw [htk, nms, List.map_append, List.map_append, List.append_assoc] at hnn
      have := (List.nodup_append.1 hnn).2.2 y.name (List.mem_map_of_mem hy') x.name (by simp)
      exact this e
    have hA := posL_take (n := x.name) (l := F)
    have hB := posL_drop h2 hne
    rw [htk, List.foldl_append, List.foldl_cons, List.foldl_nil, ← hF]
    refine ⟨?_, insLb_up h2 hne⟩
    rw [sortTo, h1, hdr]
    have hsp : F ++ x :: l.drop (i + 1) = F.take (posL x.name F) ++ F.drop (posL x.name F) ++ x :: l.drop (i + 1) := by rw [List.take_append_drop]
    have hln : i = (F.take (posL x.name F)).length + (F.drop (posL x.name F)).length := by rw [← List.length_append, List.take_append_drop, hFl]
    rw [hsp]
    have := sink_at (F.take (posL x.name F)) [] x (fun y hy => sLt_asymm (hA y hy)) _ (F.drop (posL x.name F)) (l.drop (i + 1)) rfl (fun y hy => hB y hy)
    rw [← hln] at this
    rw [this, insLb]
    simp
theorem sort_same {l : List Lb} (h : (nms l).Nodup) : sortLb l = l.foldl insLb [] := by
  have := (sort_fold l.length l (Nat.le_refl _) h).1
  rw [List.take_length, List.drop_length, List.append_nil] at this
  exact this
theorem ok_nodup {s : Ser} (h : serOk s = true) : (nms s.labels).Nodup := by
  have hl := (serOk_parts h).2.2
  have key : ∀ j, j < s.labels.length → ∀ i, i < j → sLt (s.labels.getD i default).name (s.labels.getD j default).name = true := by
    intro j
    induction j with
    | zero => intro _ i hi; omega
    | succ j ih =>
      intro hj i hi
      have := hl (j + 1) hj
      simp only [lbOk, Bool.and_eq_true, Bool.or_eq_true, Nat.add_sub_cancel] at this
      have h1 : sLt (s.labels.getD j default).name (s.labels.getD (j + 1) default).name = true := by
        rcases this.2 with h | h
        · simp at h
        · exact h
      by_cases e : i = j
      · subst e; exact h1
      · exact sLt_trans (ih (by omega) i (by omega)) h1
  unfold nms List.Nodup
  rw [List.pairwise_map, List.pairwise_iff_getElem]
  intro i j hi hj hij
  have := key j hj i hij
  rw [getD_get hi, getD_get hj] at this
  exact sLt_ne this
theorem ok_same (nm : ByteArray) (new : List Lb) (h : serOk ⟨nm, sortLb new⟩ = true ∨ serOk ⟨nm, new.foldl insLb []⟩ = true) : sortLb new = new.foldl insLb [] := by
  apply sort_same
  rcases h with h | h
  · have := ok_nodup h
    exact ((sortLb_perm new).map Lb.name).nodup_iff.1 this
  · have := ok_nodup h
    have hp : (new.foldl insLb []).Perm new := by simpa using foldIns_perm new []
    exact (hp.map Lb.name).nodup_iff.1 this
end Go.Proofs.Ytcmkhlfjcdchmaa.A
end
section
namespace Go.Proofs.Ytcmkhlfjcdchmaa.A
open Go Go.Proofs Go.Proofs.YtcmkhlfjcdchmaaAbs
def segR : Nat → Nat → List UInt8 → Option (List Lb)
  | 0, _, _ => none
  | n + 1, m, rest =>
    match rest.drop (fAt rest 61 + 1) with
    | [] => none
    | q :: r => if q ≠ 34 then none else if m = 4 then none else
      match quo r with
      | none => none
      | some (_, []) => none
      | some (a, x :: t) => if x = 44 then (segR n (m + 1) t).map (fun new => ⟨mkS (rest.take (fAt rest 61)), mkS a⟩ :: new) else if x = 125 ∧ t = [] then some [⟨mkS (rest.take (fAt rest 61)), mkS a⟩] else none
def segP : Nat → Nat → List UInt8 → Option (List Lb)
  | 0, _, _ => none
  | n + 1, m, rest =>
    if (Lib.cut rest [61, 34]).2.2 = false then none else
    match quo (Lib.cut rest [61, 34]).2.1 with
    | none => none
    | some (_, []) => none
    | some (a, x :: t) => if m = 4 then none else if x = 44 then (segP n (m + 1) t).map (fun new => ⟨mkS (Lib.cut rest [61, 34]).1, mkS a⟩ :: new) else if x = 125 ∧ t = [] then some [⟨mkS (Lib.cut rest [61, 34]).1, mkS a⟩] else none
theorem refG_seg : ∀ (n : Nat) (rest : List UInt8) (ls : List Lb), refG n rest ls = (segR n ls.length rest).map fun new => new.foldl insLb ls
  | 0, rest, ls => rfl
  | n + 1, rest, ls => by
    rw [refG, segR]
    cases rest.drop (fAt rest 61 + 1) with
    | nil => rfl
    | cons q r =>
      simp only
      by_cases hq : q ≠ 34
      · simp only [if_pos hq, Option.map_none]
      · simp only [if_neg hq]
        by_cases h4 : ls.length = 4
        · simp only [if_pos h4, Option.map_none]
        · simp only [if_neg h4]
          cases quo r with
          | none => rfl
          | some p =>
            obtain ⟨a, t⟩ := p
            cases t with
            | nil => rfl
            | cons x t =>
              simp only
              by_cases hx : x = 44
              · simp only [if_pos hx]
                rw [refG_seg n t, insLb_len, Option.map_map]
                rfl
              · simp only [if_neg hx]
                by_cases hy : x = 125 ∧ t = []
                · simp only [if_pos hy, Option.map_some]
                  rfl
                · simp only [if_neg hy, Option.map_none]
theorem parG_seg : ∀ (n : Nat) (rest : List UInt8) (ls : List Lb), parG n rest ls = (segP n ls.length rest).map fun new => ls ++ new
  | 0, rest, ls => rfl
  | n + 1, rest, ls => by
    rw [parG, segP]
    by_cases hc : (Lib.cut rest [61, 34]).2.2 = false
    · simp only [if_pos hc, Option.map_none]
    · simp only [if_neg hc]
      cases quo (Lib.cut rest [61, 34]).2.1 with
      | none => rfl
      | some p =>
        obtain ⟨a, t⟩ := p
        cases t with
        | nil => rfl
        | cons x t =>
          simp only
          by_cases h4 : ls.length = 4
          · simp only [if_pos h4, Option.map_none]
          · simp only [if_neg h4]
            by_cases hx : x = 44
            · simp only [if_pos hx]
              rw [parG_seg n t, List.length_append, List.length_singleton, Option.map_map]
              congr 1
              funext new
              simp
            · simp only [if_neg hx]
              by_cases hy : x = 125 ∧ t = []
              · simp only [if_pos hy, Option.map_some]
              · simp only [if_neg hy, Option.map_none]
theorem fAt_split {l : List UInt8} {c : UInt8} (h : fAt l c < l.length) : l = l.take (fAt l c) ++ c :: l.drop (fAt l c + 1) := by
  have hc : l[fAt l c] = c := by
    have := List.findIdx_getElem (p := (· == c)) (xs := l) (w := h)
    exact eq_of_beq this
  have := List.take_append_drop (fAt l c) l
  rw [List.drop_eq_getElem_cons h, hc] at this
  exact this.symm
theorem fAt_no {l : List UInt8} {c : UInt8} : ∀ x ∈ l.take (fAt l c), x ≠ c := by
  intro x hx e
  obtain ⟨i, hi, rfl⟩ := List.mem_iff_getElem.1 hx
  rw [List.length_take] at hi
  rw [List.getElem_take] at e
  have := List.not_of_lt_findIdx (p := (· == c)) (xs := l) (i := i) (by show i < fAt l c; omega)
  rw [e] at this
  simp at this
theorem fAt_at {p r : List UInt8} {c : UInt8} (hp : ∀ x ∈ p, x ≠ c) : fAt (p ++ c :: r) c = p.length := by
  induction p with
  | nil => simp [fAt, List.findIdx_cons]
  | cons x p ih =>
    have hx := hp x (List.mem_cons_self ..)
    have := ih (fun y hy => hp y (List.mem_cons_of_mem _ hy))
    rw [List.cons_append, fAt, List.findIdx_cons, show (x == c) = false by simpa using hx]
    show fAt (p ++ c :: r) c + 1 = _
    rw [this]; rfl
theorem cut_true {s sep k r : List UInt8} (h : Lib.cut s sep = (k, r, true)) : s = k ++ sep ++ r := by
  unfold Lib.cut at h
  split at h
  · rename_i h0
    rcases Lib.index_spec s sep with ⟨h1, _⟩ | ⟨i, h1, h2, h3, _⟩
    · rw [h1] at h0; exact absurd h0 (by decide)
    · rw [h1, Int.toNat_natCast] at h
      simp only [Prod.mk.injEq, and_true] at h
      obtain ⟨rfl, rfl⟩ := h
      unfold Lib.occAt at h3
      obtain ⟨t, ht⟩ := List.isPrefixOf_iff_prefix.1 h3
      rw [← List.drop_drop, ← ht, List.drop_left, List.append_assoc, ht, List.take_append_drop]
  · simp at h
theorem segRP : ∀ (n m : Nat) (rest : List UInt8) (new : List Lb), segR n m rest = some new → segP n m rest = some new
  | 0, m, rest, new, h => by cases h
  | n + 1, m, rest, new, h => by
    rw [segR] at h
    obtain ⟨d, hd⟩ : ∃ d, d = rest.drop (fAt rest 61 + 1) := ⟨_, rfl⟩
    rw [← hd] at h
    cases d with
    | nil => cases h
    | cons q r =>
      simp only at h
      by_cases hq : q = 34
      case neg => rw [if_pos hq] at h; cases h
      rw [if_neg (by simp [hq])] at h
      have hl : fAt rest 61 < rest.length := by
        have : (rest.drop (fAt rest 61 + 1)).length ≠ 0 := by rw [← hd]; simp
        rw [List.length_drop] at this
        omega
      have hsp := fAt_split hl
      rw [← hd, hq] at hsp
      have hc : Lib.cut rest [61, 34] = (rest.take (fAt rest 61), r, true) := by
        have := cut_at (p := rest.take (fAt rest 61)) (r := r) (sep := [61, 34]) rfl fAt_no
        rw [← this]
        congr 1
      rw [segP, hc]
      simp only [Bool.true_eq_false, if_false]
      by_cases h4 : m = 4
      · rw [if_pos h4] at h; cases h
      rw [if_neg h4] at h
      cases hqu : quo r with
      | none => rw [hqu] at h; cases h
      | some p =>
        rw [hqu] at h
        obtain ⟨a, t⟩ := p
        cases t with
        | nil => cases h
        | cons x t =>
          simp only [if_neg h4] at h ⊢
          by_cases hx : x = 44
          · rw [if_pos hx] at h ⊢
            obtain ⟨new', h1, h2⟩ := Option.map_eq_some_iff.1 h
            rw [segRP n (m + 1) t new' h1, Option.map_some, h2]
          · rw [if_neg hx] at h ⊢
            exact h
theorem segPR : ∀ (n m : Nat) (rest : List UInt8) (new : List Lb), segP n m rest = some new → (∀ y ∈ new, nmOk y.name = true) → segR n m rest = some new
  | 0, m, rest, new, h, _ => by cases h
  | n + 1, m, rest, new, h, hok => by
    rw [segP] at h
    obtain ⟨⟨k, r, fd⟩, hc⟩ : ∃ c, c = Lib.cut rest [61, 34] := ⟨_, rfl⟩
    rw [← hc] at h
    cases fd with
    | false => cases h
    | true =>
      simp only [Bool.true_eq_false, if_false] at h
      cases hqu : quo r with
      | none => rw [hqu] at h; cases h
      | some p =>
        rw [hqu] at h
        obtain ⟨a, t⟩ := p
        cases t with
        | nil => cases h
        | cons x t =>
          simp only at h
          by_cases h4 : m = 4
          · rw [if_pos h4] at h; cases h
          rw [if_neg h4] at h
          have hhead : ∃ tl, new = ⟨mkS k, mkS a⟩ :: tl := by
            by_cases hx : x = 44
            · rw [if_pos hx] at h
              obtain ⟨new', h1, h2⟩ := Option.map_eq_some_iff.1 h
              exact ⟨new', h2.symm⟩
            · rw [if_neg hx] at h
              split at h
              · exact ⟨[], (Option.some.inj h).symm⟩
              · cases h
          obtain ⟨tl, rfl⟩ := hhead
          have hnm := hok _ (List.mem_cons_self ..)
          have hno : ∀ y ∈ k, y ≠ 61 := nm_no (s := mkS k) hnm (.inl (by decide))
          have hs := cut_true hc.symm
          have hs' : rest = k ++ 61 :: (34 :: r) := by rw [hs]; simp
          have hf : fAt rest 61 = k.length := by rw [hs']; exact fAt_at hno
          have htk : rest.take (fAt rest 61) = k := by rw [hf, hs', List.take_left]
          have hdr : rest.drop (fAt rest 61 + 1) = 34 :: r := by rw [hf, hs', ← List.drop_drop, List.drop_left]; rfl
          rw [segR, hdr, htk]
          simp only [ne_eq, not_true_eq_false, if_false, if_neg h4, hqu]
          by_cases hx : x = 44
          · rw [if_pos hx] at h ⊢
            obtain ⟨new', h1, h2⟩ := Option.map_eq_some_iff.1 h
            obtain rfl : new' = tl := by injection h2
            rw [segPR n (m + 1) t new' h1 (fun y hy => hok y (List.mem_cons_of_mem _ hy))]
            rfl
          · rw [if_neg hx] at h ⊢
            exact h
theorem ok_names {nm : ByteArray} {new : List Lb} (h : serOk ⟨nm, sortLb new⟩ = true) : ∀ y ∈ new, nmOk y.name = true := by
  intro y hy
  have hy' := (sortLb_perm new).mem_iff.2 hy
  obtain ⟨i, hi, rfl⟩ := List.mem_iff_getElem.1 hy'
  have := (lbOk_parts ((serOk_parts h).2.2 i hi)).1
  rwa [show (Ser.mk nm (sortLb new)).labels = sortLb new from rfl, getD_get hi] at this
theorem parse_same (s : ByteArray) : parS s = refS s := by
  have hcut : Lib.cut (bs s) [123] = ((bs s).take (fAt (bs s) 123), (bs s).drop (fAt (bs s) 123 + 1), decide (fAt (bs s) 123 < (bs s).length)) := by
    by_cases h : fAt (bs s) 123 < (bs s).length
    · have hsp := fAt_split h
      have := cut_at (p := (bs s).take (fAt (bs s) 123)) (r := (bs s).drop (fAt (bs s) 123 + 1)) (sep := [123]) rfl fAt_no
      rw [decide_eq_true h, ← this]
      congr 1
    · have hl : (bs s).take (fAt (bs s) 123) = bs s := List.take_of_length_le (by omega)
      have := cut_no (p := bs s) (sep := [123]) rfl (by have := fAt_no (l := bs s) (c := 123); rwa [hl] at this)
      rw [decide_eq_false h, this, hl, List.drop_eq_nil_of_le (by omega)]
  unfold parS refS parAll refAll
  rw [hcut]
  obtain ⟨nm, hnm⟩ : ∃ nm, nm = mkS ((bs s).take (fAt (bs s) 123)) := ⟨_, rfl⟩
  simp only [← hnm, decide_eq_true_eq]
  by_cases h : fAt (bs s) 123 < (bs s).length
  case neg => rw [if_neg h, if_neg h]; rfl
  rw [if_pos h, if_pos h, parG_seg, refG_seg]
  obtain ⟨rest, hrest⟩ : ∃ r, r = (bs s).drop (fAt (bs s) 123 + 1) := ⟨_, rfl⟩
  rw [← hrest, List.length_nil]
  cases hR : segR 5 0 rest with
  | some new =>
    rw [segRP 5 0 rest new hR]
    simp only [Option.map_some, Option.bind_some, List.nil_append]
    by_cases hk : serOk ⟨nm, sortLb new⟩ = true ∨ serOk ⟨nm, new.foldl insLb []⟩ = true
    · rw [ok_same nm new hk]
    · rw [if_neg (fun e => hk (.inl e)), if_neg (fun e => hk (.inr e))]
  | none =>
    cases hP : segP 5 0 rest with
    | none => rfl
    | some new =>
      simp only [Option.map_some, Option.map_none, Option.bind_some, Option.bind_none, List.nil_append]
      rw [if_neg]
      intro hk
      have := segPR 5 0 rest new hP (ok_names hk)
      rw [this] at hR
      cases hR
theorem parS_ok {s : ByteArray} {x : Ser} (h : parS s = some x) : serOk x = true := by
  unfold parS at h
  obtain ⟨ls, _, h2⟩ := Option.bind_eq_some_iff.1 h
  split at h2
  · rename_i hk
    cases h2
    exact hk
  · cases h2
end Go.Proofs.Ytcmkhlfjcdchmaa.A
end
section
namespace Go.Proofs.YtcmkhlfjcdchmaaAbs
open Go Go.RowKit
attribute [go_sem] Option.isNone_none Option.isNone_some Bool.and_false Bool.false_and Bool.true_and Bool.and_true Bool.or_false Bool.false_or Bool.true_or Bool.or_true Bool.not_true Bool.not_false Bool.false_eq_true Bool.true_eq_false if_true if_false
@[go_sem] theorem bne_0 : ((0 : Int) != 0) = false := rfl
@[go_sem] theorem beq_0 : ((0 : Int) == 0) = true := rfl
@[go_sem] theorem bne_1 : ((1 : Int) != 0) = true := rfl
@[go_sem] theorem beq_1 : ((1 : Int) == 0) = false := rfl
@[go_sem] theorem eqz_1 : ((1 : Int) = 0) = False := eq_false (by decide)
@[go_sem] theorem bne_2 : ((2 : Int) != 0) = true := rfl
@[go_sem] theorem beq_2 : ((2 : Int) == 0) = false := rfl
@[go_sem] theorem eqz_2 : ((2 : Int) = 0) = False := eq_false (by decide)
@[go_sem] theorem bne_3 : ((3 : Int) != 0) = true := rfl
@[go_sem] theorem beq_3 : ((3 : Int) == 0) = false := rfl
@[go_sem] theorem eqz_3 : ((3 : Int) = 0) = False := eq_false (by decide)
@[go_sem] theorem bne_4 : ((4 : Int) != 0) = true := rfl
@[go_sem] theorem beq_4 : ((4 : Int) == 0) = false := rfl
@[go_sem] theorem eqz_4 : ((4 : Int) = 0) = False := eq_false (by decide)
@[go_sem] theorem bne_5 : ((5 : Int) != 0) = true := rfl
@[go_sem] theorem beq_5 : ((5 : Int) == 0) = false := rfl
@[go_sem] theorem eqz_5 : ((5 : Int) = 0) = False := eq_false (by decide)
@[go_sem] theorem bne_6 : ((6 : Int) != 0) = true := rfl
@[go_sem] theorem beq_6 : ((6 : Int) == 0) = false := rfl
@[go_sem] theorem eqz_6 : ((6 : Int) = 0) = False := eq_false (by decide)
@[go_sem] theorem bne_7 : ((7 : Int) != 0) = true := rfl
@[go_sem] theorem beq_7 : ((7 : Int) == 0) = false := rfl
@[go_sem] theorem eqz_7 : ((7 : Int) = 0) = False := eq_false (by decide)
@[go_sem] theorem bne_8 : ((8 : Int) != 0) = true := rfl
@[go_sem] theorem beq_8 : ((8 : Int) == 0) = false := rfl
@[go_sem] theorem eqz_8 : ((8 : Int) = 0) = False := eq_false (by decide)
@[go_sem] theorem bne_9 : ((9 : Int) != 0) = true := rfl
@[go_sem] theorem beq_9 : ((9 : Int) == 0) = false := rfl
@[go_sem] theorem eqz_9 : ((9 : Int) = 0) = False := eq_false (by decide)
@[go_sem] theorem bne_10 : ((10 : Int) != 0) = true := rfl
@[go_sem] theorem beq_10 : ((10 : Int) == 0) = false := rfl
@[go_sem] theorem eqz_10 : ((10 : Int) = 0) = False := eq_false (by decide)
@[go_sem] theorem bne_11 : ((11 : Int) != 0) = true := rfl
@[go_sem] theorem beq_11 : ((11 : Int) == 0) = false := rfl
@[go_sem] theorem eqz_11 : ((11 : Int) = 0) = False := eq_false (by decide)
@[go_sem] theorem bne_12 : ((12 : Int) != 0) = true := rfl
@[go_sem] theorem beq_12 : ((12 : Int) == 0) = false := rfl
@[go_sem] theorem eqz_12 : ((12 : Int) = 0) = False := eq_false (by decide)
theorem gb {M : List Blk} {b : Nat} {X : Blk} (h : b < M.length) : (M.set b X)[b]? = some X := by rw [List.getElem?_set, if_pos rfl, if_pos h]
theorem gn {M : List Blk} {b c : Nat} {X : Blk} (h : b ≠ c) : (M.set b X)[c]? = M[c]? := by rw [List.getElem?_set, if_neg h]
theorem ga {M D : List Blk} {b : Nat} (h : b < M.length) : (M ++ D)[b]? = M[b]? := List.getElem?_append_left h
theorem gl {M : List Blk} {X : Blk} : (M ++ [X])[M.length]? = some X := by rw [List.getElem?_append_right (Nat.le_refl _), Nat.sub_self]; rfl
theorem sa {M D : List Blk} {b : Nat} {X : Blk} (h : b < M.length) : (M ++ D).set b X = M.set b X ++ D := List.set_append_left _ _ h
theorem gl2 {M : List Blk} {X Y : Blk} {b : Nat} : (M.set b Y ++ [X])[M.length]? = some X := by rw [List.getElem?_append_right (by simp), List.length_set, Nat.sub_self]; rfl
theorem set_last {M : List Blk} {X Y : Blk} : (M ++ [X]).set M.length Y = M ++ [Y] := by
  rw [List.set_append_right _ _ (Nat.le_refl _), Nat.sub_self]; rfl
theorem leS_of {s s' : SV} (h : s = s') : leS s s' := by rw [h, leS_self]; trivial
theorem ltA_up1 {n m : Nat} (hnm : n ≤ m) {a : AV} : ltA n a → ltA m a := by
  induction a with
  | c x => exact fun h => h
  | ptr b v i j => intro h; exact Nat.lt_of_lt_of_le h hnm
  | arr sz b v i j => intro h; exact Nat.lt_of_lt_of_le h hnm
  | ip m c => exact fun h => h
  | mp b v => intro h; exact Nat.lt_of_lt_of_le h hnm
  | arx sz b v o l => intro h; exact Nat.lt_of_lt_of_le h hnm
  | fn f k caps ih => exact fun h i hi => ih i (h i hi)
theorem ltB_up1 {n m : Nat} (hnm : n ≤ m) {x : Blk} (h : ltB n x) : ltB m x := by
  cases x with
  | dead => exact h
  | rows t sz v l f => exact fun r hr a ha => ltA_up1 hnm (h r hr a ha)
  | sit s p => exact h
  | mp l => exact h
theorem ltM_app {M D : List Blk} (h : ∀ x ∈ M, ltB M.length x) (hD : ∀ x ∈ D, ltB (M.length + D.length) x) : ∀ x ∈ M ++ D, ltB (M ++ D).length x := by
  intro x hx
  rw [List.length_append]
  rcases List.mem_append.1 hx with hx | hx
  · exact ltB_up1 (Nat.le_add_right _ _) (h x hx)
  · exact hD x hx
section
variable {α : Type} [Inhabited α]
abbrev immL (sz : Nat) (c : α → Nat → CV) (l : List α) : CV := .imm sz l.length fun i j => c (l.getD i default) j
abbrev immP (sz : Nat) (c : α → Nat → CV) (l : List α) : Pt := .one (.c (immL sz c l))
def rowsL (sz : Nat) (c : α → Nat → CV) (l : List α) : List (List AV) := l.map fun x => cellsUp (c x) 0 sz
variable {sz : Nat} {c : α → Nat → CV}
@[go_sem] theorem rowsL_len {β : Type} {c : β → Nat → CV} (l : List β) : (rowsL sz c l).length = l.length := List.length_map ..
theorem cellsUp_ltA (n : Nat) (c : Nat → CV) (m k : Nat) : ∀ a ∈ cellsUp c k m, ltA n a := by
  have := lt_cellsUp n c m k; rw [this]; trivial
theorem rowsL_row {β : Type} {c : β → Nat → CV} {l : List β} : ∀ r ∈ rowsL sz c l, r.length = sz ∧ ∀ n, ∀ a ∈ r, ltA n a := by
  intro r hr
  obtain ⟨x, _, rfl⟩ := List.mem_map.1 hr
  exact ⟨cellsUp_length _ _ _, fun n => cellsUp_ltA n _ _ _⟩
theorem rowsL_ltB {β : Type} {c : β → Nat → CV} (n t v : Nat) (l : List β) (f : Bool) : ltB n (.rows t sz v (rowsL sz c l) f) := fun r hr => (rowsL_row r hr).2 n
theorem cellsUp_closed (c : Nat → CV) : ∀ (m k : Nat), ∀ a ∈ cellsUp c k m, ∃ x, a = .c x
  | 0, k, a, h => by cases h
  | m + 1, k, a, h => by
    rcases List.mem_cons.1 h with rfl | h
    · exact ⟨_, rfl⟩
    · exact cellsUp_closed c m (k + 1) a h
theorem rowsL_closed {β : Type} {c : β → Nat → CV} (l : List β) : closedRows (rowsL sz c l) := by
  intro r hr a ha
  obtain ⟨x, _, rfl⟩ := List.mem_map.1 hr
  exact cellsUp_closed _ _ _ a ha
theorem rowsL_getD {l : List α} {i : Nat} (h : i < l.length) : (rowsL sz c l).getD i [] = cellsUp (c (l.getD i default)) 0 sz := by
  rw [List.getD_eq_getElem?_getD, List.getD_eq_getElem?_getD, rowsL, List.getElem?_map, List.getElem?_eq_getElem h]; rfl
theorem rowsL_app {β : Type} {c : β → Nat → CV} (l m : List β) : rowsL sz c l ++ rowsL sz c m = rowsL sz c (l ++ m) := by rw [rowsL, rowsL, rowsL, List.map_append]
theorem rowsL_app1 {β : Type} {c : β → Nat → CV} (l : List β) (x : β) : rowsL sz c l ++ [cellsUp (c x) 0 sz] = rowsL sz c (l ++ [x]) := by rw [rowsL, rowsL, List.map_append]; rfl
theorem rowsL_set {β : Type} {c : β → Nat → CV} (l : List β) (i : Nat) (x : β) : (rowsL sz c l).set i (cellsUp (c x) 0 sz) = rowsL sz c (l.set i x) := by rw [rowsL, rowsL, List.map_set]
theorem rowsL_take {β : Type} {c : β → Nat → CV} (l : List β) (i : Nat) : (rowsL sz c l).take i = rowsL sz c (l.take i) := by rw [rowsL, rowsL, List.map_take]
theorem rowsL_nil {β : Type} {c : β → Nat → CV} : rowsL sz c ([] : List β) = [] := rfl
theorem getD_cellsUp {c : Nat → CV} {m k j : Nat} (h : j < m) : (cellsUp c k m).getD j default = .c (c (k + j)) := by
  rw [List.getD_eq_getElem?_getD, cellsUp_get, if_pos h]; rfl
theorem rowsL_toC {l : List α} {i j : Nat} (hi : i < l.length) (hj : j < sz) : toC (((rowsL sz c l).getD i []).getD j default) = c (l.getD i default) j := by
  rw [rowsL_getD hi, getD_cellsUp hj, Nat.zero_add]; rfl
theorem imm_rowsL (l : List α) : immRows (fun i j => c (l.getD i default) j) sz l.length = rowsL sz c l := by
  unfold immRows rowsL
  refine List.ext_getElem (by simp) (fun i h1 h2 => ?_)
  simp at h2
  simp [List.getD_eq_getElem?_getD, List.getElem?_eq_getElem h2]
theorem imm_rowsL' (l : List α) : (List.map (fun i => cellsUp (fun j => c (l.getD i default) j) 0 sz) (List.range l.length)) = rowsL sz c l := imm_rowsL l
/-- Rows that nobody writes any more tell their list. -/
theorem frz_sub (l : List α) : SubA (.c (.imm sz l.length fun i j => toC (((rowsL sz c l).getD (0 + i) []).getD j default))) (.c (immL sz c l)) :=
  subA_imm fun i hi j hj => by rw [Nat.zero_add]; exact rowsL_toC hi hj
theorem frz_sub' (l : List α) : SubA (.c (.imm sz l.length fun i j => toC (((rowsL sz c l).getD i []).getD j default))) (.c (immL sz c l)) :=
  subA_imm fun i hi j hj => rowsL_toC hi hj
theorem nil_sub : SubA (.c (.v (.slice none 0 0))) (.c (immL sz c ([] : List α))) := subA_nil sz _
/-- Rows of one's own, lent to a reader. -/
theorem snapL (l : List α) {M : List Blk} {b v t : Nat} {f : Bool} (hb : M[b]? = some (.rows t sz v (rowsL sz c l) f)) : SnapP M (.one (.arr sz b v 0 l.length)) (immP sz c l) := by
  refine Snap.arr sz b v 0 l.length t (rowsL sz c l) f _ hb (by rw [rowsL_len]; omega) (fun i hi j hj => ?_)
  rw [Nat.zero_add, rowsL_getD hi, getD_cellsUp hj, Nat.zero_add]
  exact Snap.same _ trivial
end
theorem getD_sub {α : Type} [Inhabited α] {l : List α} {a n i : Nat} (hi : i < n) : ((l.drop a).take n).getD i default = l.getD (a + i) default := by
  rw [List.getD_eq_getElem?_getD, List.getD_eq_getElem?_getD, List.getElem?_take, if_pos hi, List.getElem?_drop]
/-- A slice of a list nobody writes. -/
theorem le_slice {α : Type} [Inhabited α] {sz : Nat} {c : α → Nat → CV} {l : List α} {a n : Nat} (h : a + n ≤ l.length) : lePt (.one (.c (.imm sz n fun i j => c (l.getD (a + i) default) j))) (immP sz c ((l.drop a).take n)) := by
  rw [lePt_imm]
  refine ⟨by rw [List.length_take, List.length_drop]; omega, .inr ⟨rfl, fun i hi j hj => ?_⟩⟩
  show c _ _ = c _ _
  rw [getD_sub hi]
theorem ops_end {P : Program} {d : Bool} {ops : List OpL} {e : Nat → SV} {M : List Blk} {K : St → Prop} (h : ev P d ops e M K) : Ops P d ops e M K := ev_sound h
/-- A function whose result is closed, whatever it has written of its own. -/
theorem callPG {P : Program} {n : Nat} {f : Nat} {c : C} {rvs : List RV} {ps : List Pt} {r : SV} (hF : Fun P f n c rvs) (hl : ps.length ≤ n) (hps : ∀ q ∈ ps, ltP 0 q) (h : Run P n 0 c ⟨envOf 0 ps, []⟩ (FinK n 0 rvs r [])) (M : List Blk) : CallR P M f ps r M :=
  callR_pure (callR_intro (M' := []) hF hl h) hps M
theorem finQ {n : Nat} {rvs : List RV} {r : SV} {s s1 : St} {ex : Exit} (hex : ex = .normal ∨ ex = .ret) (h : Gh n 0 s s1) {qs : List Pt} {cnd : Prop} (h1 : resL s1.env s1.M rvs = some (qs, cnd)) (h2 : cnd) (h4 : SubS (mkRes qs) r) (h6 : ltS 0 r) : FinK n 0 rvs r [] ex s := by
  have h : Fin n 0 rvs r [] s := ⟨s1, s1.M, qs, cnd, h, h1, h2, rfl, h4, Nat.le_refl _, h6, fun x hx => by simp at hx⟩
  rcases hex with rfl | rfl
  · exact h
  · exact h
/-- What is told of own memory and of what is not. -/
theorem fin0 {n : Nat} {rvs : List RV} {r : SV} {s : St} {ex : Exit} (hex : ex = .normal ∨ ex = .ret) {qs : List Pt} {cnd : Prop} (h1 : resL s.env s.M rvs = some (qs, cnd)) (h2 : cnd) (h4 : SubS (mkRes qs) r) (h6 : ltS 0 r) : FinK n 0 rvs r [] ex s := finQ hex (Gh.refl s) h1 h2 h4 h6
theorem callL {P : Program} {d : Bool} {dst : Option Nat} {os : List OpL} {K : St → Prop} {M : List Blk} {f : Nat} {ps ps' : List Pt} {r : SV} {e : Nat → SV} (h : CallR P [] f ps' r []) (hs : SnapL M ps ps') (hr : plainS r) (hK : ev P d os (put e dst r) M K) : Call1 P M f ps d dst os e K := ⟨r, M, callR_lend h hs hr, fun _ => rfl, ev_sound hK⟩
theorem callLg {P : Program} {d c : Bool} {dst : Option Nat} {os : List OpL} {K : St → Prop} {M : List Blk} {f : Nat} {ps ps' : List Pt} {r : SV} {e : Nat → SV} (h : c = true → CallR P [] f ps' r []) (hs : c = true → SnapL M ps ps') (hr : plainS r) (hK : ev P d os (put e dst (.g c r)) M K) : CallG P M c f ps d dst os e K := ⟨r, fun hc => callR_lend (h hc) (hs hc) hr, ev_sound hK⟩
theorem callS {P : Program} {d : Bool} {dst : Option Nat} {os : List OpL} {K : St → Prop} {M M' : List Blk} {f : Nat} {ps ps' : List Pt} {r : SV} {e : Nat → SV} (h : CallR P M f ps' r M') (hl : SubL ps ps') (hd : d = true → M' = M) (hK : ev P d os (put e dst r) M' K) : Call1 P M f ps d dst os e K := ⟨r, M', h.sub hl, hd, ev_sound hK⟩
section
variable {P : Program} {n m : Nat} {e : Nat → SV} {M : List Blk} {K : Exit → St → Prop}
theorem sub_slice0 (A : Option Addr) (cap sz : Nat) (c : Nat → Nat → CV) : SubS (.p (.one (.c (.v (.slice A 0 cap))))) (.p (.one (.c (.imm sz 0 c)))) := by
  rintro I σ y ⟨rfl, _⟩
  exact ⟨A, cap, rfl, Nat.zero_le _, .inl rfl⟩
theorem run_null {code : C} {i sz : Nat} {c : Nat → Nat → CV} (hi : e i = .p (.one (.c (.imm sz 0 c)))) (h : ∀ A cap, Run P n m code ⟨upd e i (.p (.one (.c (.v (.slice A 0 cap))))), M⟩ K) : Run P n m code ⟨e, M⟩ K := by
  intro co hc I0 σ0 M0 w0 a w hm0 hs
  obtain ⟨hI, σ, hev, he, h1, h2⟩ := hs
  have hi2 := he i
  rw [show (St.mk e M).env i = e i from rfl, hi] at hi2
  obtain ⟨A, cap, hy, _, _⟩ := hi2
  refine h A cap co hc I0 σ0 M0 w0 a w hm0 ⟨hI, σ, hev, fun j => ?_, h1, h2⟩
  show RelS hI σ (upd e i _ j) _
  unfold upd
  by_cases hj : j = i
  · subst hj
    rw [if_pos rfl]
    exact ⟨hy, rfl⟩
  · rw [if_neg hj]
    exact he j
end
/-- One slot told by weaker words. -/
theorem gh_sub {P : Program} {n m : Nat} {e : Nat → SV} {M : List Blk} (i : Nat) {s' : SV} (h : SubS (e i) s') : Gh n m ⟨e, M⟩ ⟨upd e i s', M⟩ := gh_env fun j => by
  unfold upd
  by_cases hj : j = i
  · subst hj; rw [if_pos rfl]; exact h
  · rw [if_neg hj]; exact SubS.refl _
def cloneC (t sz by_ : Nat) (z : List Value) : C :=
 (.seq (.reg false [⟨some 2, .mv (.k (.one (.c (.v (.slice none 0 0))))), none⟩])
 (.seq (.seq (.reg false [⟨some 3, .mv (.t 0), none⟩, ⟨some 4, .eqb false (.t 3) (.k (.one (.c (.v (.slice none 0 0))))), none⟩])
 (.cond (.t 4)
 (.seq (.reg false [⟨some 2, .mv (.k (.one (.c (.v (.slice none 0 0))))), none⟩])
 .ret)
 .skip))
 (.seq (.reg false [⟨some 5, .bsl t sz 0 z [], none⟩, ⟨some 6, .mv (.t 0), none⟩, ⟨some 7, .app t sz by_ z (.t 5) (.t 6), none⟩, ⟨some 2, .mv (.t 7), none⟩])
 .ret)))
section
variable {P : Program} {f t sz by_ : Nat} {z : List Value} {α : Type} [Inhabited α] {c : α → Nat → CV}
set_option maxRecDepth 20000 in
/-- A list cloned, as rows of one's own. -/
theorem cloneO_rc (hF : Fun P f 8 (cloneC t sz by_ z) [.t 2]) (l : List α) (hl : l.length * by_ ≤ 140737488355328) {M : List Blk} (hMB : ∀ x ∈ M, ltB M.length x) :
    CallR P M f [immP sz c l] (.p (.one (.arr sz M.length 1 0 l.length))) (M ++ [.rows t sz 1 (rowsL sz c l) false]) := by
  have hB : ∀ x ∈ M ++ [Blk.rows t sz 1 (rowsL sz c l) false], ltB (M ++ [Blk.rows t sz 1 (rowsL sz c l) false]).length x := ltM_app hMB (by simp only [List.mem_singleton, forall_eq]; exact rowsL_ltB _ _ _ _ _)
  refine callR_intro hF (by simp) ?_
  by_cases h0 : l.length = 0
  case neg =>
    refine V_sound ?_
    simp only [cloneC, go_sem, show 0 < l.length from by omega, gl, set_last, List.length_map, List.length_range, imm_rowsL']
    refine ⟨hl, fin_own (.inr rfl) (Gh.refl _) [] (cnd := True) rfl trivial (List.append_nil _).symm (leS_of rfl) ?_ ?_ hB⟩
    · rw [List.length_append]; omega
    · simp only [go_sem, List.length_append]
  obtain rfl : l = [] := List.eq_nil_of_length_eq_zero h0
  refine run_null (i := 0) rfl (fun A cap => ?_)
  cases A with
  | none =>
    refine V_sound ?_
    simp only [cloneC, go_sem]
    refine fin_own (.inr rfl) ((gh_born 2 t sz (by simp only [go_sem])).trans ((gh_trunc (b := M.length) 0 gl).trans (gh_move (b := M.length) (c := M.length) 2 0 0 (by rw [set_last]; exact gl) (by rw [set_last]; exact gl) (by simp only [go_sem])))) [] (cnd := True) rfl trivial ?_ ?_ ?_ ?_ hB
    · simp only [set_last, List.append_nil]; rfl
    · exact leS_of rfl
    · rw [List.length_append]; omega
    · simp only [go_sem, List.length_append]
  | some ad =>
    refine run_seqV ?_
    simp only [cloneC, go_sem]
    refine run_seqV ?_
    simp only [go_sem]
    refine run_gh (gh_sub (P := P) 0 (s' := .p (immP sz c ([] : List α))) ?_) ?_
    · simp only [go_sem]
      exact sub_slice0 _ _ _ _
    refine V_sound ?_
    simp only [go_sem, gl, set_last]
    refine ⟨by omega, fin_own (.inr rfl) (Gh.refl _) [] (cnd := True) rfl trivial ?_ (leS_of rfl) ?_ ?_ hB⟩
    · simp only [List.append_nil, List.range_zero, List.map_nil]; rfl
    · rw [List.length_append]; omega
    · simp only [go_sem, List.length_append]
set_option maxRecDepth 20000 in
/-- A list cloned, that nobody writes any more. -/
theorem clone_rc (hF : Fun P f 8 (cloneC t sz by_ z) [.t 2]) (l : List α) (hl : l.length * by_ ≤ 140737488355328) (M : List Blk) : CallR P M f [immP sz c l] (.p (immP sz c l)) M := by
  refine callPS hF (Nat.le_of_ble_eq_true rfl) (by simp only [go_sem]) (by simp only [go_sem]) ?_ M
  by_cases h0 : l.length = 0
  case neg =>
    refine run_seqV ?_
    simp only [cloneC, go_sem]
    refine run_seqV ?_
    simp only [go_sem, show 0 < l.length from by omega]
    refine run_seqV ?_
    simp only [go_sem, imm_rowsL', List.length_map, List.length_range]
    refine ⟨hl, run_gh (gh_freeze (b := 0) (l := rowsL sz c l) rfl (rowsL_closed l)) ?_⟩
    refine V_sound ?_
    simp only [go_sem, rowsL_len, Nat.le_refl]
    exact subS_p (subP_one (frz_sub' l))
  obtain rfl : l = [] := List.eq_nil_of_length_eq_zero h0
  refine run_null (i := 0) rfl (fun A cap => ?_)
  cases A with
  | none =>
    refine V_sound ?_
    simp only [cloneC, go_sem]
    exact subS_p (subP_one nil_sub)
  | some ad =>
    refine run_seqV ?_
    simp only [cloneC, go_sem]
    refine run_seqV ?_
    simp only [go_sem]
    refine run_gh (gh_sub (P := P) 0 (s' := .p (immP sz c ([] : List α))) ?_) ?_
    · simp only [go_sem]
      exact sub_slice0 _ _ _ _
    refine run_seqV ?_
    simp only [go_sem, List.range_zero]
    refine ⟨by omega, run_gh (gh_freeze (b := 0) (l := rowsL sz c ([] : List α)) rfl (rowsL_closed _)) ?_⟩
    refine V_sound ?_
    simp only [go_sem, rowsL_len, Nat.le_refl]
    exact subS_p (subP_one (frz_sub' ([] : List α)))
end
end Go.Proofs.YtcmkhlfjcdchmaaAbs
end
section
namespace Go.Proofs.YtcmkhlfjcdchmaaAbs
open Go Go.RowKit
section
variable {α : Type} [Inhabited α]
variable {P : Program} {f t sz : Nat} {ks : List Nat} {z : List Value} {c : α → Nat → CV} {eq : α → α → Bool}
end
end Go.Proofs.YtcmkhlfjcdchmaaAbs
end
section
namespace Go.Proofs.YtcmkhlfjcdchmaaAbs
open Go Go.RowKit
section
variable {P : Program} {f fi t sz by_ : Nat} {z : List Value}
variable {α : Type} [Inhabited α] {c : α → Nat → CV}
end
end Go.Proofs.YtcmkhlfjcdchmaaAbs
end
section
namespace Go.Proofs.YtcmkhlfjcdchmaaAbs
open Go Go.RowKit
section
variable {M l : List Blk} {k : Nat} {X : Blk}
theorem mget : (M ++ l)[M.length + k]? = l[k]? := by rw [List.getElem?_append_right (Nat.le_add_right _ _), Nat.add_sub_cancel_left]
theorem mget0 : (M ++ l)[M.length]? = l[0]? := by rw [List.getElem?_append_right (Nat.le_refl _), Nat.sub_self]
theorem mset : (M ++ l).set (M.length + k) X = M ++ l.set k X := by rw [List.set_append_right _ _ (Nat.le_add_right _ _), Nat.add_sub_cancel_left]
theorem mset0 : (M ++ l).set M.length X = M ++ l.set 0 X := by rw [List.set_append_right _ _ (Nat.le_refl _), Nat.sub_self]
end
/-- What a block holds is forgotten. -/
theorem gh_kill {n m : Nat} {e : Nat → SV} {M : List Blk} (b : Nat) : Gh n m ⟨e, M⟩ ⟨e, M.set b .dead⟩ := by
  rintro I0 σ0 M0 w0 a w hm0 ⟨I, σ, hev, he, h1, h2⟩
  have hm := hev.mem
  by_cases hb : b < M.length
  · have hx : M[b]? = some M[b] := List.getElem?_eq_getElem hb
    have hp : σ[b]? = some (σ[b]'(by rw [hm.len]; exact hb)) := List.getElem?_eq_getElem (by rw [hm.len]; exact hb)
    obtain ⟨m1, m2⟩ := hm.retell hx hp (x' := .dead) (fun h => by cases h) trivial
    exact ⟨I, σ, hev.retell m1 m2, he, h1, h2⟩
  · rw [List.set_eq_of_length_le (by omega)]
    exact ⟨I, σ, hev, he, h1, h2⟩
theorem fin_m {n : Nat} {rvs : List RV} {r : SV} {M' : List Blk} {s s1 : St} {ex : Exit} {m : Nat} (hex : ex = .normal ∨ ex = .ret) (h : Gh n m s s1) (D : List Blk) {qs : List Pt} {cnd : Prop} (h1 : resL s1.env s1.M rvs = some (qs, cnd)) (h2 : cnd) (h3 : s1.M = M' ++ D) (h4 : SubS (mkRes qs) r) (h5 : m ≤ M'.length) (h6 : ltS M'.length r) (h7 : ∀ x ∈ M', ltB M'.length x) : FinK n m rvs r M' ex s := fin_sub hex h D h1 h2 h3 h4 h5 h6 h7
/-- A function that makes rows out of nothing of the caller's: the rows come to a place that is kept for them. -/
theorem callR_place {P : Program} {f : Nat} {ps : List Pt} {sz v len t : Nat} {l : List (List AV)} {fl : Bool} (h : CallR P [] f ps (.p (.one (.arr sz 0 v 0 len))) [.rows t sz v l fl]) (hcl : closedRows l) (hps : ∀ q ∈ ps, ltP 0 q) (hlen : len ≤ l.length) (n : Nat) (N : List Blk) (hN : N[n]? = some (.rows 0 0 0 [] true)) :
    CallR P N f ps (.p (.one (.arr sz n 1 0 len))) (N.set n (.rows t sz 1 l fl)) := by
  intro I σ w vals hG hm hvl hvr
  have hm0 : Mem I [] [] w := ⟨rfl, fun b x p h => by simp at h, fun b b' x x' p p' g h => by simp at h, fun b x p g h => by simp at h, hm.imm⟩
  have hno : ∀ g, ¬ Has ([] : List Plc) [] g := by rintro g ⟨b, x, p, h, _⟩; simp at h
  refine Comes.mono (h I [] w vals hG hm0 hvl (fun k q x hq hx => ?_)) ?_
  · have := RelP_take (n := 0) (hps q (List.mem_of_getElem? hq)) (hvr k q x hq hx)
    simpa using this
  · rintro y w' ⟨I', σ', hr, hev⟩
    obtain ⟨p1, rfl⟩ : ∃ p1, σ' = [p1] := by
      have := hev.mem.len
      match σ', this with
      | [p], _ => exact ⟨p, rfl⟩
    have hnl : n < N.length := (List.getElem?_eq_some_iff.1 hN).1
    have hnσ : n < σ.length := by rw [hm.len]; exact hnl
    obtain ⟨k0, k1, k2, k3, k4, k5, k6⟩ := hm.blk n _ _ hN (List.getElem?_eq_getElem hnσ)
    generalize hp0 : σ[n] = p0 at k0 k1 k2 k3 k4 k5 k6
    obtain ⟨q0, q1, q2, q3, q4, q5, q6⟩ := hev.mem.blk 0 _ _ rfl rfl
    obtain ⟨y1, pr, hpr, hpv, hq⟩ := hr
    obtain rfl : p1 = pr := by simpa using hpr
    obtain ⟨e1, e2, e3⟩ := hq q2
    have hk : Keep (fun _ => False) w w' := hev.keep.mono (fun k _ h => hno k h)
    have hm1 := hm.keep hk (fun _ _ h => h) (fun _ _ _ h => h)
    have hfr : ∀ ad x, I' ad = some x → I ad = some x ∨ w.heap.size ≤ ad.block := by
      intro ad x hx
      rcases hev.fresh ad x hx with h | h | h
      · exact .inl h
      · exact .inr h
      · exact absurd h (hno _)
    have hg1 : ∀ g, p1.blk = some g → w.heap.size ≤ g := fun g hg => by
      rcases hev.own g ⟨0, _, p1, rfl, rfl, rfl, hg⟩ with h | h
      · exact absurd h (hno g)
      · exact h
    obtain ⟨p2, hp2⟩ : ∃ p2 : Plc, p2 = ⟨p1.blk, p1.cap, 1, p1.sz⟩ := ⟨_, rfl⟩
    have hsn : (σ.set n p2)[n]? = some p2 := by rw [List.getElem?_set, if_pos rfl, if_pos hnσ]
    have hso : ∀ b, b ≠ n → (σ.set n p2)[b]? = σ[b]? := fun b hb => by rw [List.getElem?_set, if_neg (fun e => hb e.symm)]
    have hMn : (N.set n (.rows t sz 1 l fl))[n]? = some (.rows t sz 1 l fl) := by rw [List.getElem?_set, if_pos rfl, if_pos hnl]
    have hMo : ∀ b, b ≠ n → (N.set n (.rows t sz 1 l fl))[b]? = N[b]? := fun b hb => by rw [List.getElem?_set, if_neg (fun e => hb e.symm)]
    have hxP : ExtP σ (σ.set n p2) := by
      intro b p hp
      by_cases hb : b = n
      · subst hb
        refine ⟨p2, hsn, ?_, fun e => ?_⟩
        · rw [List.getElem?_eq_getElem hnσ, hp0] at hp
          injection hp with hp; subst hp; rw [k2]; exact Nat.zero_le _
        · rw [List.getElem?_eq_getElem hnσ, hp0] at hp
          injection hp with hp; subst hp; rw [k2, hp2] at e; cases e
      · exact ⟨p, by rw [hso b hb]; exact hp, Nat.le_refl _, fun _ => rfl⟩
    refine ⟨I', σ.set n p2, ⟨y1, p2, hsn, by rw [hp2]; exact Nat.le_refl _, fun _ => ⟨by rw [hp2]; exact e1, by rw [hp2]; exact e2, by rw [hp2]; exact e3⟩⟩, ⟨hev.extI, hxP, ⟨by rw [List.length_set, List.length_set]; exact hm.len, ?_, ?_, ?_, hev.mem.imm⟩, hk.mono (fun k _ h => h.elim), ?_, fun ad x hx => ?_⟩⟩
    · intro b x p hx hp
      by_cases hb : b = n
      · subst hb
        rw [hMn] at hx; rw [hsn] at hp
        injection hx with hx; injection hp with hp
        subst hx; subst hp
        rw [hp2]
        refine ⟨q0, q1, rfl, q3, q4, q5, ?_⟩
        cases hb : p1.blk with
        | none => rw [hb] at q6; exact q6
        | some g =>
          rw [hb] at q6
          obtain ⟨cs, c1, c2, c3, c4⟩ := q6
          refine ⟨cs, c1, c2, c3, fun i r hr j a ha => ?_⟩
          obtain ⟨z, z1, z2⟩ := c4 i r hr j a ha
          obtain ⟨cv, rfl⟩ := hcl r (List.mem_of_getElem? hr) a (List.mem_of_getElem? ha)
          exact ⟨z, z1, z2⟩
      · rw [hMo b hb] at hx; rw [hso b hb] at hp
        exact RelB_mono hev.extI hxP (fun _ _ _ => rfl) (hm1.blk b x p hx hp)
    · intro b b' x x' p p' g hx hx' hl hl' hp hp' hg hg'
      by_cases hb : b = n
      · by_cases hb' : b' = n
        · rw [hb, hb']
        · exfalso
          subst hb
          rw [hsn] at hp; injection hp with hp; subst hp
          rw [hMo b' hb'] at hx'; rw [hso b' hb'] at hp'
          have h1 := RelB_lt (hm.blk b' x' p' hx' hp') hl' hg'
          have h2 := hg1 g (by rw [hp2] at hg; exact hg)
          omega
      · by_cases hb' : b' = n
        · exfalso
          subst hb'
          rw [hsn] at hp'; injection hp' with hp'; subst hp'
          rw [hMo b hb] at hx; rw [hso b hb] at hp
          have h1 := RelB_lt (hm.blk b x p hx hp) hl hg
          have h2 := hg1 g (by rw [hp2] at hg'; exact hg')
          omega
        · rw [hMo b hb] at hx; rw [hso b hb] at hp; rw [hMo b' hb'] at hx'; rw [hso b' hb'] at hp'
          exact hm.inj b b' x x' p p' g hx hx' hl hl' hp hp' hg hg'
    · intro b x p g hx hlv hp hg ad had
      by_cases hb : b = n
      · subst hb
        rw [hsn] at hp; injection hp with hp; subst hp
        exact hev.mem.ap 0 _ p1 g rfl rfl rfl (by rw [hp2] at hg; exact hg) ad had
      · rw [hMo b hb] at hx; rw [hso b hb] at hp
        cases hI : I' ad with
        | none => rfl
        | some y =>
          exfalso
          rcases hfr ad y hI with h1 | h1
          · rw [hm.ap b x p g hx hlv hp hg ad had] at h1
            cases h1
          · have := RelB_lt (hm.blk b x p hx hp) hlv hg
            omega
    · rintro g ⟨b, x, p, hx, hlv, hp, hg⟩
      by_cases hb : b = n
      · subst hb
        rw [hsn] at hp; injection hp with hp; subst hp
        exact .inr (hg1 g (by rw [hp2] at hg; exact hg))
      · rw [hMo b hb] at hx; rw [hso b hb] at hp
        exact .inl ⟨b, x, p, hx, hlv, hp, hg⟩
    · rcases hfr ad x hx with h1 | h1
      · exact .inl h1
      · exact .inr (.inl h1)
/-- What is told of memory speaks of its own places alone. -/
theorem RelA_lt {I : Im} {σ : List Plc} : ∀ {a : AV} {y : Value}, RelA I σ a y → ltA σ.length a := by
  intro a
  induction a with
  | c x => intro y _; trivial
  | ptr b ver i j => rintro y ⟨_, p, hp, _⟩; exact (List.getElem?_eq_some_iff.1 hp).1
  | arr sz b ver off len => rintro y ⟨_, p, hp, _⟩; exact (List.getElem?_eq_some_iff.1 hp).1
  | ip n c => intro y _; trivial
  | arx sz b ver o l => rintro y ⟨_, p, hp, _⟩; exact (List.getElem?_eq_some_iff.1 hp).1
  | mp b ver => rintro y ⟨_, p, hp, _⟩; exact (List.getElem?_eq_some_iff.1 hp).1
  | fn f k caps ih => rintro y ⟨cs, e, hs, h⟩; exact fun i hi => ih i (h i cs[i] (Array.getElem?_eq_getElem (by omega)))
theorem Mem.wf {I : Im} {σ : List Plc} {M : List Blk} {w : World} (hm : Mem I σ M w) : ∀ x ∈ M, ltB M.length x := by
  intro x hx
  obtain ⟨b, hb, rfl⟩ := List.mem_iff_getElem.1 hx
  have hbσ : b < σ.length := by rw [hm.len]; exact hb
  have h := hm.blk b _ _ (List.getElem?_eq_getElem hb) (List.getElem?_eq_getElem hbσ)
  cases hX : M[b] with
  | dead => trivial
  | sit s pos => trivial
  | mp l => trivial
  | rows t sz ver l f =>
    rw [hX] at h
    obtain ⟨_, _, _, h4, _, h6, h7⟩ := h
    intro r hr a ha
    obtain ⟨i, hi, rfl⟩ := List.mem_iff_getElem.1 hr
    obtain ⟨j, hj, rfl⟩ := List.mem_iff_getElem.1 ha
    generalize σ[b] = p at h4 h7
    cases hp : p.blk with
    | none => rw [hp] at h7; omega
    | some g =>
      rw [hp] at h7
      obtain ⟨cs, _, _, _, h8⟩ := h7
      obtain ⟨z, _, hz⟩ := h8 i _ (List.getElem?_eq_getElem hi) j _ (List.getElem?_eq_getElem hj)
      rw [← hm.len]
      exact RelA_lt hz
/-- Which pairs of a region may not be turned by what kinds they are of. -/
def ncTab (ols : List OpL) : List (List Nat) := (List.range ols.length).map fun i => (List.range i).filter fun k => match ols[k]?, ols[i]? with | some y, some x => !commOk y x | _, _ => true
theorem okDraw_tab {ops : Array Oper} {ols : List OpL} {T : List (List Nat)} (h : okDraw ops ols T = true) : okTab ops T = true := by
  unfold okDraw at h
  unfold okTab
  rw [List.all_eq_true] at h ⊢
  intro i hi
  have := h i hi
  cases ho : ops[i]? with
  | none => rw [ho] at this; cases this
  | some o =>
    cases hx : ols[i]? with
    | none => rw [ho, hx] at this; cases this
    | some x =>
      rw [ho, hx] at this
      simp only [okAt, Bool.and_eq_true] at this
      simp only [Bool.and_eq_true]
      exact this.1
section
variable {P : Program} {n m : Nat} {e : Nat → SV} {M : List Blk} {K : Exit → St → Prop}
theorem run_regX0 {ols : List OpL} {xs : List XOp} {s : St} (he : xs.map (·.op) = ols) (hp : pairsX (ncTab ols) xs = true) (h : runX P xs s (K .normal)) : Run P n m (.reg true ols) s K := by
  intro code hc I σ M w0 a w hm hs
  obtain ⟨id, ops, rfl, hls, hd⟩ := compC_reg hc
  obtain ⟨hmx, hok⟩ := hd rfl
  refine wp_region_any hmx ?_
  have hlen : xs.length = ops.size := by have := compLs_length hls; rw [← he] at this; simpa using this
  refine any_soundX (xs := xs) (rem := xs.zipIdx.map fun p => (p.2, p.1)) (T := tabT ops.toList) hm.2 (okDraw_tab hok) (fun i k x y hx hy hki => ?_) (K := K .normal) (fun s a w h1 h2 => ⟨s, h1, h2⟩) ops.size _ s a _ (by simp [hlen]) ?_ ?_ ?_ (by simp) ?_ ?_ hs.drew
  · have hil : i < ops.size := by rw [← hlen]; exact (List.getElem?_eq_some_iff.1 hx).1
    have h1 := List.all_eq_true.1 hok i (List.mem_range.2 hil)
    have hox : ols[i]? = some x.op := by rw [← he, List.getElem?_map, hx]; rfl
    have hoy : ols[k]? = some y.op := by rw [← he, List.getElem?_map, hy]; rfl
    rw [Array.getElem?_eq_getElem hil, hox] at h1
    simp only [okAt, Bool.and_eq_true] at h1
    have h2 := List.all_eq_true.1 h1.2 k (List.mem_range.2 hki)
    rw [hoy] at h2
    simp only [Bool.or_eq_true] at h2
    rcases h2 with h2 | h2
    · exact .inl h2
    · rcases pairsX_spec hp hx hy hki with h3 | h3
      · exfalso
        have hol : i < ols.length := (List.getElem?_eq_some_iff.1 hox).1
        rw [ncTab, List.getD_eq_getElem?_getD, List.getElem?_map, List.getElem?_range hol] at h3
        simp [hox, hoy, h2] at h3
      · exact .inr h3
  · subst he
    intro p hp
    obtain ⟨q, hq, rfl⟩ := List.mem_map.1 hp
    have hq' : xs[q.2]? = some q.1 := List.mem_zipIdx_iff_getElem?.1 (show (q.1, q.2) ∈ xs.zipIdx from hq)
    obtain ⟨o, ho, hco⟩ := compLs_get hls q.2 q.1.op (by rw [List.getElem?_map, hq']; rfl)
    exact ⟨hq', o, by simpa using ho, hco⟩
  · rw [List.pairwise_map]
    refine List.pairwise_iff_getElem.2 (fun i j hi hj hij => ?_)
    simp only [List.getElem_zipIdx]
    omega
  · intro i hi
    have h0 : (Array.replicate ops.size false).getD i true = false := by simp [hi]
    refine ⟨fun _ => ?_, fun _ => h0⟩
    have hi' : i < xs.length := by omega
    refine ⟨xs[i], List.mem_map.2 ⟨(xs[i], i), ?_, rfl⟩⟩
    exact List.mem_zipIdx_iff_getElem?.2 (List.getElem?_eq_getElem hi')
  · intro j o hj hl
    simp at hl
    by_cases h : j < ops.size
    · simp [h] at hl
    · simp [h] at hl
  · have e0 : (xs.zipIdx.map fun p => (p.2, p.1)).map (·.2) = xs := by
      apply List.ext_getElem?
      intro i
      simp [List.getElem?_zipIdx]
      cases xs[i]? <;> rfl
    rw [e0]
    exact h
/-- A region of open order in which calls make new rows: k places are kept for them. -/
theorem run_regX {ols : List OpL} {c : C} (k : Nat) (h : evX P (ncTab ols) ols M.length [] e (M ++ List.replicate k (.rows 0 0 0 [] true)) (fun s => Run P n m c s K)) : Run P n m (.seq (.reg true ols) c) ⟨e, M⟩ K := by
  refine run_gh (gh_res k) (run_seq ?_)
  obtain ⟨xs, h1, h2⟩ := evX_sound h
  obtain ⟨h3, h4⟩ := runX_pure h2
  exact run_regX0 h1 (by simpa using h3) h4
theorem callxn {T : List (List Nat)} {f : Nat} {ps : List Pt} {x : XOp} {os : List OpL} {acc : List XOp} {K : St → Prop} {r : SV} {X : Blk} (hM : M[x.n]? = some (.rows 0 0 0 [] true)) (h : ∀ N : List Blk, N[x.n]? = some (.rows 0 0 0 [] true) → CallR P N f ps r (N.set x.n X))
    (hK : evX P T os (x.n + 1) (acc ++ [⟨x.op, [x.n], true, x.n⟩]) (put e x.op.dst r) (M.set x.n X) K) : CallX P T M f ps x os acc e K := .inr ⟨r, [x.n], [(x.n, X)], fun q hq => by obtain rfl := List.mem_singleton.1 hq; exact List.mem_singleton.2 rfl, fun N hN => h N ((hN x.n (List.mem_singleton.2 rfl)).trans hM), evX_sound hK⟩
/-- A call in a region of open order: which blocks it looks at, and which it writes. -/
theorem callxf {T : List (List Nat)} {f : Nat} {ps : List Pt} {x : XOp} {os : List OpL} {acc : List XOp} {K : St → Prop} {r : SV} (n' : Nat) (F : List Nat) (fs : List (Nat × Blk)) (hF : ∀ q ∈ fs, q.1 ∈ F) (h : ∀ N : List Blk, (∀ b ∈ F, N[b]? = M[b]?) → CallR P N f ps r (apL fs N))
    (hK : evX P T os n' (acc ++ [⟨x.op, F, !fs.isEmpty, x.n⟩]) (put e x.op.dst r) (apL fs M) K) : CallX P T M f ps x os acc e K := .inr ⟨r, F, fs, hF, h, evX_sound hK⟩
end
/-- The places of a region, told from a number on. -/
def unshift (q : Nat) (x : XOp) : XOp := ⟨x.op, x.F.map (· - q), x.w, x.n - q⟩
theorem pairs_un (q : Nat) {T : List (List Nat)} {xs : List XOp} (h : pairsX T (xs.map (unshift q)) = true) (hq : ∀ x ∈ xs, ∀ b ∈ x.F, q ≤ b) : pairsX T xs = true := by
  unfold pairsX at h ⊢
  rw [List.all_eq_true] at h ⊢
  intro i hi
  have hi' := h i (by simpa using hi)
  rw [List.all_eq_true] at hi' ⊢
  intro k hk
  have h1 := hi' k hk
  simp only [Bool.or_eq_true] at h1 ⊢
  rcases h1 with h1 | h1
  · exact .inl h1
  · right
    simp only [List.getElem?_map] at h1
    cases hx : xs[i]? with
    | none => rw [hx] at h1; cases hy : xs[k]? <;> rw [hy] at h1 <;> cases h1
    | some x =>
      cases hy : xs[k]? with
      | none => rw [hx, hy] at h1; cases h1
      | some y =>
        rw [hx, hy] at h1
        simp only [Option.map_some] at h1
        have hxq := hq x (List.mem_of_getElem? hx)
        have hyq := hq y (List.mem_of_getElem? hy)
        unfold commX at h1 ⊢
        simp only [Bool.and_eq_true, Bool.or_eq_true] at h1 ⊢
        refine ⟨h1.1, h1.2.imp id (fun h2 => ?_)⟩
        rw [List.all_eq_true] at h2 ⊢
        intro b hb
        have h3 := h2 (b - q) (List.mem_map.2 ⟨b, hb, rfl⟩)
        simp only [unshift, Bool.not_eq_true'] at h3
        simp only [Bool.not_eq_true']
        cases hc : x.F.contains b with
        | false => rfl
        | true =>
          exfalso
          have : (x.F.map (· - q)).contains (b - q) = true := by
            rw [List.contains_iff_mem]
            exact List.mem_map.2 ⟨b, List.contains_iff_mem.1 hc, rfl⟩
          rw [this] at h3
          cases h3
end Go.Proofs.YtcmkhlfjcdchmaaAbs
end
section
set_option maxRecDepth 100000
namespace Go.Proofs.Ytcmkhlfjcdchmaa.A
open Go Go.Proofs.YtcmkhlfjcdchmaaAbs

/-- windrose/windroseref14.May -/
def c_windroseref14_May : C :=
 (.seq (.reg false [⟨some 1, .box 48 3 (.t 0), none⟩, ⟨some 2, .mv (kb false), none⟩])
 (.seq (.seq (.reg false [⟨some 3, .mv (ki 0), none⟩])
 (.block 0 (.loop (.seq (.seq (.reg false [⟨some 7, .mv (.t 3), none⟩, ⟨some 8, .fa 0 (.t 1), none⟩, ⟨some 9, .ld false 1 (.t 8), none⟩, ⟨some 10, .len (.t 9), none⟩, ⟨some 11, .bin .lss (.t 7) (.t 10), none⟩])
 (.cond (.t 11)
 .skip
 (.exit 0)))
 (.seq (.block 1 (.seq (.reg false [⟨some 14, .fa 0 (.t 1), none⟩, ⟨some 15, .ld false 1 (.t 14), none⟩, ⟨some 16, .mv (.t 3), none⟩, ⟨some 17, .ia 2 (.t 15) (.t 16), none⟩, ⟨some 18, .ld true 2 (.t 17), none⟩, ⟨some 4, .alloc 87 2 [.string ⟨#[]⟩, .slice none 0 0], none⟩, ⟨none, .st 2 (.t 4) (.t 18), none⟩])
 (.seq (.reg true [⟨some 19, .fa 0 (.t 4), none⟩, ⟨some 20, .ld false 1 (.t 19), none⟩, ⟨some 21, .call (kf 47) [(.t 20)], none⟩, ⟨some 22, .un .not (.t 21), none⟩, ⟨some 23, .mv (.t 22), none⟩, ⟨some 24, .mv (.t 3), some (23, false)⟩, ⟨some 25, .bin .gtr (.t 24) (ki 0), some (23, false)⟩, ⟨some 26, .mv (.t 25), some (23, false)⟩, ⟨some 27, .fa 0 (.t 1), some (26, true)⟩, ⟨some 28, .ld false 1 (.t 27), some (26, true)⟩, ⟨some 29, .mv (.t 3), some (26, true)⟩, ⟨some 30, .bin .sub (.t 29) (ki 1), some (26, true)⟩, ⟨some 31, .ia 2 (.t 28) (.t 30), some (26, true)⟩, ⟨some 32, .fa 0 (.t 31), some (26, true)⟩, ⟨some 33, .ld false 1 (.t 32), some (26, true)⟩, ⟨some 34, .fa 0 (.t 4), some (26, true)⟩, ⟨some 35, .ld false 1 (.t 34), some (26, true)⟩, ⟨some 36, .bin .geq (.t 33) (.t 35), some (26, true)⟩, ⟨some 37, .pick (.t 26) (.t 36) (kb false), some (23, false)⟩, ⟨some 38, .pick (.t 23) (kb true) (.t 37), none⟩, ⟨some 39, .mv (.t 38), none⟩, ⟨some 40, .fa 1 (.t 4), some (39, false)⟩, ⟨some 41, .ld false 1 (.t 40), some (39, false)⟩, ⟨some 42, .len (.t 41), some (39, false)⟩, ⟨some 43, .bin .eql (.t 42) (ki 0), some (39, false)⟩, ⟨some 44, .pick (.t 39) (kb true) (.t 43), none⟩, ⟨some 45, .mv (.t 44), none⟩, ⟨some 46, .fa 1 (.t 4), some (45, false)⟩, ⟨some 47, .ld false 1 (.t 46), some (45, false)⟩, ⟨some 48, .call (kf 48) [(.t 47)], some (45, false)⟩, ⟨some 49, .un .not (.t 48), some (45, false)⟩, ⟨some 50, .pick (.t 45) (kb true) (.t 49), none⟩, ⟨some 51, .mv (.t 50), none⟩, ⟨some 52, .fa 1 (.t 4), some (51, false)⟩, ⟨some 53, .ld false 1 (.t 52), some (51, false)⟩, ⟨some 54, .fa 2 (.t 1), some (51, false)⟩, ⟨some 55, .ld false 1 (.t 54), some (51, false)⟩, ⟨some 56, .call (kf 49) [(.t 53), (.t 55)], some (51, false)⟩, ⟨some 57, .len (.t 56), some (51, false)⟩, ⟨some 58, .fa 1 (.t 4), some (51, false)⟩, ⟨some 59, .ld false 1 (.t 58), some (51, false)⟩, ⟨some 60, .len (.t 59), some (51, false)⟩, ⟨some 61, .bin .neq (.t 57) (.t 60), some (51, false)⟩, ⟨some 62, .pick (.t 51) (kb true) (.t 61), none⟩])
 (.cond (.t 62)
 (.seq (.reg false [⟨some 2, .mv (kb false), none⟩])
 .ret)
 .skip))))
 (.reg false [⟨some 12, .mv (.t 3), none⟩, ⟨some 13, .bin .add (.t 12) (ki 1), none⟩, ⟨some 3, .mv (.t 13), none⟩]))))))
 (.seq (.seq (.reg false [⟨some 5, .mv (ki 0), none⟩])
 (.block 2 (.loop (.seq (.seq (.reg false [⟨some 63, .mv (.t 5), none⟩, ⟨some 64, .fa 1 (.t 1), none⟩, ⟨some 65, .ld false 1 (.t 64), none⟩, ⟨some 66, .len (.t 65), none⟩, ⟨some 67, .bin .lss (.t 63) (.t 66), none⟩])
 (.cond (.t 67)
 .skip
 (.exit 2)))
 (.seq (.block 3 (.seq (.reg false [⟨some 70, .fa 1 (.t 1), none⟩, ⟨some 71, .ld false 1 (.t 70), none⟩, ⟨some 72, .mv (.t 5), none⟩, ⟨some 73, .ia 5 (.t 71) (.t 72), none⟩, ⟨some 74, .ld true 5 (.t 73), none⟩, ⟨some 6, .alloc 92 5 [.int .i64 0, .int .i64 0, .int .i64 0, .bool false, .int .i64 0], none⟩, ⟨none, .st 5 (.t 6) (.t 74), none⟩])
 (.seq (.reg true [⟨some 75, .fa 0 (.t 6), none⟩, ⟨some 76, .ld false 1 (.t 75), none⟩, ⟨some 77, .bin .lss (.t 76) (ki 1), none⟩, ⟨some 78, .mv (.t 77), none⟩, ⟨some 79, .fa 0 (.t 6), some (78, false)⟩, ⟨some 80, .ld false 1 (.t 79), some (78, false)⟩, ⟨some 81, .bin .geq (.t 80) (ki 2147483648), some (78, false)⟩, ⟨some 82, .pick (.t 78) (kb true) (.t 81), none⟩, ⟨some 83, .mv (.t 82), none⟩, ⟨some 84, .fa 1 (.t 6), some (83, false)⟩, ⟨some 85, .ld false 1 (.t 84), some (83, false)⟩, ⟨some 86, .bin .lss (.t 85) (ki 1), some (83, false)⟩, ⟨some 87, .pick (.t 83) (kb true) (.t 86), none⟩, ⟨some 88, .mv (.t 87), none⟩, ⟨some 89, .fa 1 (.t 6), some (88, false)⟩, ⟨some 90, .ld false 1 (.t 89), some (88, false)⟩, ⟨some 91, .bin .geq (.t 90) (ki 2147483648), some (88, false)⟩, ⟨some 92, .pick (.t 88) (kb true) (.t 91), none⟩, ⟨some 93, .mv (.t 92), none⟩, ⟨some 94, .mv (.t 5), some (93, false)⟩, ⟨some 95, .bin .gtr (.t 94) (ki 0), some (93, false)⟩, ⟨some 96, .mv (.t 95), some (93, false)⟩, ⟨some 97, .fa 1 (.t 1), some (96, true)⟩, ⟨some 98, .ld false 1 (.t 97), some (96, true)⟩, ⟨some 99, .mv (.t 5), some (96, true)⟩, ⟨some 100, .bin .sub (.t 99) (ki 1), some (96, true)⟩, ⟨some 101, .ia 5 (.t 98) (.t 100), some (96, true)⟩, ⟨some 102, .fa 0 (.t 101), some (96, true)⟩, ⟨some 103, .ld false 1 (.t 102), some (96, true)⟩, ⟨some 104, .fa 0 (.t 6), some (96, true)⟩, ⟨some 105, .ld false 1 (.t 104), some (96, true)⟩, ⟨some 106, .bin .geq (.t 103) (.t 105), some (96, true)⟩, ⟨some 107, .pick (.t 96) (.t 106) (kb false), some (93, false)⟩, ⟨some 108, .pick (.t 93) (kb true) (.t 107), none⟩])
 (.cond (.t 108)
 (.seq (.reg false [⟨some 2, .mv (kb false), none⟩])
 .ret)
 .skip))))
 (.reg false [⟨some 68, .mv (.t 5), none⟩, ⟨some 69, .bin .add (.t 68) (ki 1), none⟩, ⟨some 5, .mv (.t 69), none⟩]))))))
 (.seq (.reg false [⟨some 109, .fa 0 (.t 1), none⟩, ⟨some 110, .ld false 1 (.t 109), none⟩, ⟨some 111, .len (.t 110), none⟩, ⟨some 112, .bin .leq (.t 111) (ki 16), none⟩, ⟨some 113, .mv (.t 112), none⟩, ⟨some 114, .fa 1 (.t 1), some (113, true)⟩, ⟨some 115, .ld false 1 (.t 114), some (113, true)⟩, ⟨some 116, .len (.t 115), some (113, true)⟩, ⟨some 117, .bin .leq (.t 116) (ki 8), some (113, true)⟩, ⟨some 118, .pick (.t 113) (.t 117) (kb false), none⟩, ⟨some 119, .mv (.t 118), none⟩, ⟨some 120, .fa 2 (.t 1), some (119, true)⟩, ⟨some 121, .ld false 1 (.t 120), some (119, true)⟩, ⟨some 122, .bin .geq (.t 121) (ki 0), some (119, true)⟩, ⟨some 123, .pick (.t 119) (.t 122) (kb false), none⟩, ⟨some 124, .mv (.t 123), none⟩, ⟨some 125, .fa 2 (.t 1), some (124, true)⟩, ⟨some 126, .ld false 1 (.t 125), some (124, true)⟩, ⟨some 127, .bin .leq (.t 126) (ki 1099511627776), some (124, true)⟩, ⟨some 128, .pick (.t 124) (.t 127) (kb false), none⟩, ⟨some 2, .mv (.t 128), none⟩])
 .ret))))
abbrev n_windroseref14_May : Nat := 33
theorem F_windroseref14_May : Fun Try.prog n_windroseref14_May 129 c_windroseref14_May [.t 2] := ⟨⟨Try.f33, _, Try.func33, by kernel_rfl, rfl, rfl, by kernel_rfl, by kernel_rfl⟩⟩
/-- windrose/windroselaw14.Light -/
def c_windroselaw14_Light : C :=
 (.seq (.reg false [⟨some 1, .box 48 3 (.t 0), none⟩, ⟨some 2, .mv (kb false), none⟩])
 (.seq (.seq (.reg false [⟨some 3, .mv (ki 0), none⟩])
 (.block 0 (.loop (.seq (.seq (.reg false [⟨some 4, .mv (.t 3), none⟩, ⟨some 5, .fa 0 (.t 1), none⟩, ⟨some 6, .ld false 1 (.t 5), none⟩, ⟨some 7, .len (.t 6), none⟩, ⟨some 8, .bin .lss (.t 4) (.t 7), none⟩, ⟨some 9, .mv (.t 8), none⟩, ⟨some 10, .mv (.t 3), some (9, true)⟩, ⟨some 11, .bin .lss (.t 10) (ki 20), some (9, true)⟩, ⟨some 12, .pick (.t 9) (.t 11) (kb false), none⟩])
 (.cond (.t 12)
 .skip
 (.exit 0)))
 (.seq (.block 1 (.seq (.reg false [⟨some 15, .fa 0 (.t 1), none⟩, ⟨some 16, .ld false 1 (.t 15), none⟩, ⟨some 17, .mv (.t 3), none⟩, ⟨some 18, .ia 2 (.t 16) (.t 17), none⟩, ⟨some 19, .fa 0 (.t 18), none⟩, ⟨some 20, .ld false 1 (.t 19), none⟩, ⟨some 21, .lens (.t 20), none⟩, ⟨some 22, .bin .gtr (.t 21) (ki 500), none⟩, ⟨some 23, .mv (.t 22), none⟩, ⟨some 24, .fa 0 (.t 1), some (23, false)⟩, ⟨some 25, .ld false 1 (.t 24), some (23, false)⟩, ⟨some 26, .mv (.t 3), some (23, false)⟩, ⟨some 27, .ia 2 (.t 25) (.t 26), some (23, false)⟩, ⟨some 28, .fa 1 (.t 27), some (23, false)⟩, ⟨some 29, .ld false 1 (.t 28), some (23, false)⟩, ⟨some 30, .len (.t 29), some (23, false)⟩, ⟨some 31, .bin .gtr (.t 30) (ki 70), some (23, false)⟩, ⟨some 32, .pick (.t 23) (kb true) (.t 31), none⟩])
 (.cond (.t 32)
 (.seq (.reg false [⟨some 2, .mv (kb false), none⟩])
 .ret)
 .skip)))
 (.reg false [⟨some 13, .mv (.t 3), none⟩, ⟨some 14, .bin .add (.t 13) (ki 1), none⟩, ⟨some 3, .mv (.t 14), none⟩]))))))
 (.seq (.reg false [⟨some 33, .fa 0 (.t 1), none⟩, ⟨some 34, .ld false 1 (.t 33), none⟩, ⟨some 35, .len (.t 34), none⟩, ⟨some 36, .bin .leq (.t 35) (ki 20), none⟩, ⟨some 37, .mv (.t 36), none⟩, ⟨some 38, .fa 1 (.t 1), some (37, true)⟩, ⟨some 39, .ld false 1 (.t 38), some (37, true)⟩, ⟨some 40, .len (.t 39), some (37, true)⟩, ⟨some 41, .bin .leq (.t 40) (ki 20), some (37, true)⟩, ⟨some 42, .pick (.t 37) (.t 41) (kb false), none⟩, ⟨some 2, .mv (.t 42), none⟩])
 .ret)))
abbrev n_windroselaw14_Light : Nat := 32
theorem F_windroselaw14_Light : Fun Try.prog n_windroselaw14_Light 43 c_windroselaw14_Light [.t 2] := ⟨⟨Try.f32, _, Try.func32, by kernel_rfl, rfl, rfl, by kernel_rfl, by kernel_rfl⟩⟩
/-- windrose/shelf.Check -/
def c_shelf_Check : C :=
 (.seq (.reg false [⟨some 1, .box 48 3 (.t 0), none⟩, ⟨some 2, .mv (ki 0), none⟩])
 (.seq (.seq (.reg false [⟨some 7, .fa 0 (.t 1), none⟩, ⟨some 8, .ld false 1 (.t 7), none⟩, ⟨some 9, .len (.t 8), none⟩, ⟨some 10, .bin .gtr (.t 9) (ki 16), none⟩, ⟨some 11, .mv (.t 10), none⟩, ⟨some 12, .fa 1 (.t 1), some (11, false)⟩, ⟨some 13, .ld false 1 (.t 12), some (11, false)⟩, ⟨some 14, .len (.t 13), some (11, false)⟩, ⟨some 15, .bin .gtr (.t 14) (ki 8), some (11, false)⟩, ⟨some 16, .pick (.t 11) (kb true) (.t 15), none⟩, ⟨some 17, .mv (.t 16), none⟩, ⟨some 18, .fa 2 (.t 1), some (17, false)⟩, ⟨some 19, .ld false 1 (.t 18), some (17, false)⟩, ⟨some 20, .call (kf 46) [(.t 19), (ki 0), (ki 1099511627776)], some (17, false)⟩, ⟨some 21, .un .not (.t 20), some (17, false)⟩, ⟨some 22, .pick (.t 17) (kb true) (.t 21), none⟩])
 (.cond (.t 22)
 (.seq (.reg false [⟨some 2, .mv (ki 1), none⟩])
 .ret)
 .skip))
 (.seq (.seq (.reg false [⟨some 23, .fa 0 (.t 1), none⟩, ⟨some 24, .ld false 1 (.t 23), none⟩, ⟨some 25, .len (.t 24), none⟩, ⟨some 26, .mv (ki 0), none⟩])
 (.block 0 (.loop (.seq (.reg false [⟨some 27, .bin .lss (.t 26) (.t 25), none⟩])
 (.seq (.cond (.t 27)
 .skip
 (.exit 0))
 (.seq (.block 1 (.seq (.reg false [⟨some 28, .mv (.t 26), none⟩, ⟨some 29, .ia 2 (.t 24) (.t 26), none⟩, ⟨some 30, .ld true 2 (.t 29), none⟩, ⟨some 4, .alloc 87 2 [.string ⟨#[]⟩, .slice none 0 0], none⟩, ⟨some 3, .mv (.t 28), none⟩, ⟨none, .st 2 (.t 4) (.t 30), none⟩])
 (.seq (.reg true [⟨some 31, .fa 0 (.t 4), none⟩, ⟨some 32, .ld false 1 (.t 31), none⟩, ⟨some 33, .call (kf 44) [(.t 32)], none⟩, ⟨some 34, .un .not (.t 33), none⟩, ⟨some 35, .mv (.t 34), none⟩, ⟨some 36, .mv (.t 3), some (35, false)⟩, ⟨some 37, .bin .gtr (.t 36) (ki 0), some (35, false)⟩, ⟨some 38, .mv (.t 37), some (35, false)⟩, ⟨some 39, .fa 0 (.t 4), some (38, true)⟩, ⟨some 40, .ld false 1 (.t 39), some (38, true)⟩, ⟨some 41, .fa 0 (.t 1), some (38, true)⟩, ⟨some 42, .ld false 1 (.t 41), some (38, true)⟩, ⟨some 43, .mv (.t 3), some (38, true)⟩, ⟨some 44, .bin .sub (.t 43) (ki 1), some (38, true)⟩, ⟨some 45, .ia 2 (.t 42) (.t 44), some (38, true)⟩, ⟨some 46, .fa 0 (.t 45), some (38, true)⟩, ⟨some 47, .ld false 1 (.t 46), some (38, true)⟩, ⟨some 48, .bin .leq (.t 40) (.t 47), some (38, true)⟩, ⟨some 49, .pick (.t 38) (.t 48) (kb false), some (35, false)⟩, ⟨some 50, .pick (.t 35) (kb true) (.t 49), none⟩, ⟨some 51, .mv (.t 50), none⟩, ⟨some 52, .fa 1 (.t 4), some (51, false)⟩, ⟨some 53, .ld false 1 (.t 52), some (51, false)⟩, ⟨some 54, .len (.t 53), some (51, false)⟩, ⟨some 55, .bin .eql (.t 54) (ki 0), some (51, false)⟩, ⟨some 56, .pick (.t 51) (kb true) (.t 55), none⟩, ⟨some 57, .mv (.t 56), none⟩, ⟨some 58, .fa 1 (.t 4), some (57, false)⟩, ⟨some 59, .ld false 1 (.t 58), some (57, false)⟩, ⟨some 60, .call (kf 45) [(.t 59)], some (57, false)⟩, ⟨some 61, .bin .neq (.t 60) (ki 0), some (57, false)⟩, ⟨some 62, .pick (.t 57) (kb true) (.t 61), none⟩, ⟨some 63, .mv (.t 62), none⟩, ⟨some 64, .fa 1 (.t 4), some (63, false)⟩, ⟨some 65, .ld false 1 (.t 64), some (63, false)⟩, ⟨some 66, .ia 2 (.t 65) (ki 0), some (63, false)⟩, ⟨some 67, .fa 0 (.t 66), some (63, false)⟩, ⟨some 68, .ld false 1 (.t 67), some (63, false)⟩, ⟨some 69, .fa 2 (.t 1), some (63, false)⟩, ⟨some 70, .ld false 1 (.t 69), some (63, false)⟩, ⟨some 71, .bin .lss (.t 68) (.t 70), some (63, false)⟩, ⟨some 72, .pick (.t 63) (kb true) (.t 71), none⟩])
 (.cond (.t 72)
 (.seq (.reg false [⟨some 2, .mv (ki 1), none⟩])
 .ret)
 .skip))))
 (.reg false [⟨some 73, .bin .add (.t 26) (ki 1), none⟩, ⟨some 26, .mv (.t 73), none⟩])))))))
 (.seq (.seq (.reg false [⟨some 74, .fa 1 (.t 1), none⟩, ⟨some 75, .ld false 1 (.t 74), none⟩, ⟨some 76, .len (.t 75), none⟩, ⟨some 77, .mv (ki 0), none⟩])
 (.block 2 (.loop (.seq (.reg false [⟨some 78, .bin .lss (.t 77) (.t 76), none⟩])
 (.seq (.cond (.t 78)
 .skip
 (.exit 2))
 (.seq (.block 3 (.seq (.reg false [⟨some 79, .mv (.t 77), none⟩, ⟨some 80, .ia 5 (.t 75) (.t 77), none⟩, ⟨some 81, .ld true 5 (.t 80), none⟩, ⟨some 6, .alloc 92 5 [.int .i64 0, .int .i64 0, .int .i64 0, .bool false, .int .i64 0], none⟩, ⟨some 5, .mv (.t 79), none⟩, ⟨none, .st 5 (.t 6) (.t 81), none⟩])
 (.seq (.reg true [⟨some 82, .fa 0 (.t 6), none⟩, ⟨some 83, .ld false 1 (.t 82), none⟩, ⟨some 84, .call (kf 46) [(.t 83), (ki 1), (ki 2147483647)], none⟩, ⟨some 85, .un .not (.t 84), none⟩, ⟨some 86, .mv (.t 85), none⟩, ⟨some 87, .fa 1 (.t 6), some (86, false)⟩, ⟨some 88, .ld false 1 (.t 87), some (86, false)⟩, ⟨some 89, .call (kf 46) [(.t 88), (ki 1), (ki 2147483647)], some (86, false)⟩, ⟨some 90, .un .not (.t 89), some (86, false)⟩, ⟨some 91, .pick (.t 86) (kb true) (.t 90), none⟩, ⟨some 92, .mv (.t 91), none⟩, ⟨some 93, .mv (.t 5), some (92, false)⟩, ⟨some 94, .bin .gtr (.t 93) (ki 0), some (92, false)⟩, ⟨some 95, .mv (.t 94), some (92, false)⟩, ⟨some 96, .fa 0 (.t 6), some (95, true)⟩, ⟨some 97, .ld false 1 (.t 96), some (95, true)⟩, ⟨some 98, .fa 1 (.t 1), some (95, true)⟩, ⟨some 99, .ld false 1 (.t 98), some (95, true)⟩, ⟨some 100, .mv (.t 5), some (95, true)⟩, ⟨some 101, .bin .sub (.t 100) (ki 1), some (95, true)⟩, ⟨some 102, .ia 5 (.t 99) (.t 101), some (95, true)⟩, ⟨some 103, .fa 0 (.t 102), some (95, true)⟩, ⟨some 104, .ld false 1 (.t 103), some (95, true)⟩, ⟨some 105, .bin .leq (.t 97) (.t 104), some (95, true)⟩, ⟨some 106, .pick (.t 95) (.t 105) (kb false), some (92, false)⟩, ⟨some 107, .pick (.t 92) (kb true) (.t 106), none⟩])
 (.cond (.t 107)
 (.seq (.reg false [⟨some 2, .mv (ki 1), none⟩])
 .ret)
 .skip))))
 (.reg false [⟨some 108, .bin .add (.t 77) (ki 1), none⟩, ⟨some 77, .mv (.t 108), none⟩])))))))
 (.seq (.reg false [⟨some 2, .mv (ki 0), none⟩])
 .ret)))))
abbrev n_shelf_Check : Nat := 50
theorem F_shelf_Check : Fun Try.prog n_shelf_Check 109 c_shelf_Check [.t 2] := ⟨⟨Try.f50, _, Try.func50, by kernel_rfl, rfl, rfl, by kernel_rfl, by kernel_rfl⟩⟩
/-- windrose/shelf.CheckOp -/
def c_shelf_CheckOp : C :=
 (.seq (.reg false [⟨some 1, .box 25 7 (.t 0), none⟩, ⟨some 2, .mv (ki 0), none⟩])
 (.seq (.reg false [⟨some 5, .fa 0 (.t 1), none⟩, ⟨some 6, .ld false 1 (.t 5), none⟩, ⟨some 7, .bld [.int .i64 0, .string ⟨#[]⟩, .int .i64 0, .int .i64 0, .int .i64 0, .int .i64 0, .int .i64 0] [(0, 1, (.t 6))], none⟩, ⟨some 3, .alloc 25 7 [.int .i64 0, .string ⟨#[]⟩, .int .i64 0, .int .i64 0, .int .i64 0, .int .i64 0, .int .i64 0], none⟩, ⟨none, .st 7 (.t 3) (.t 7), none⟩])
 (.seq (.reg false [⟨some 8, .fa 0 (.t 1), none⟩, ⟨some 9, .ld false 1 (.t 8), none⟩, ⟨some 10, .bin .eql (.t 9) (ki 2), none⟩, ⟨some 11, .mv (.t 10), none⟩, ⟨some 12, .fa 1 (.t 1), some (11, false)⟩, ⟨some 13, .ld false 1 (.t 12), some (11, false)⟩, ⟨some 14, .call (kf 44) [(.t 13)], some (11, false)⟩, ⟨some 15, .pick (.t 11) (kb true) (.t 14), none⟩, ⟨some 4, .mv (.t 15), none⟩])
 (.seq (.seq (.reg false [⟨some 16, .fa 0 (.t 1), none⟩, ⟨some 17, .ld false 1 (.t 16), none⟩])
 (.block 0 (.seq (.reg false [⟨some 19, .bin .eql (.t 17) (ki 1), none⟩, ⟨some 18, .mv (.t 19), none⟩])
 (.cond (.t 18)
 (.seq (.rgx [[], [0], [], [2], [0, 1], [4, 0, 1], [0, 1, 2, 3, 4, 5], [6, 0, 1, 2, 3, 4, 5]] [⟨some 20, .fa 1 (.t 1), none⟩, ⟨some 21, .ld false 1 (.t 20), none⟩, ⟨some 22, .fa 2 (.t 1), none⟩, ⟨some 23, .ld true 2 (.t 22), none⟩, ⟨some 24, .fa 1 (.t 3), none⟩, ⟨none, .st 1 (.t 24) (.t 21), none⟩, ⟨some 25, .fa 2 (.t 3), none⟩, ⟨none, .st 2 (.t 25) (.t 23), none⟩])
 (.reg false [⟨some 26, .mv (.t 4), none⟩, ⟨some 27, .mv (.t 26), none⟩, ⟨some 28, .fa 2 (.t 1), some (27, true)⟩, ⟨some 29, .ld true 2 (.t 28), some (27, true)⟩, ⟨some 30, .bsl 23 2 1 [.int .i64 0, .int .i64 0] [(0, (.t 29))], some (27, true)⟩, ⟨some 31, .call (kf 45) [(.t 30)], some (27, true)⟩, ⟨some 32, .bin .eql (.t 31) (ki 0), some (27, true)⟩, ⟨some 33, .pick (.t 27) (.t 32) (kb false), none⟩, ⟨some 4, .mv (.t 33), none⟩]))
 (.seq (.reg false [⟨some 35, .bin .eql (.t 17) (ki 2), none⟩, ⟨some 34, .mv (.t 35), none⟩])
 (.cond (.t 34)
 (.seq (.reg false [⟨some 36, .fa 4 (.t 1), none⟩, ⟨some 37, .ld false 1 (.t 36), none⟩, ⟨some 38, .fa 4 (.t 3), none⟩, ⟨none, .st 1 (.t 38) (.t 37), none⟩])
 (.reg false [⟨some 39, .fa 4 (.t 1), none⟩, ⟨some 40, .ld false 1 (.t 39), none⟩, ⟨some 41, .call (kf 46) [(.t 40), (ki 0), (ki 1099511627776)], none⟩, ⟨some 4, .mv (.t 41), none⟩]))
 (.seq (.reg false [⟨some 43, .bin .eql (.t 17) (ki 3), none⟩, ⟨some 42, .mv (.t 43), none⟩])
 (.cond (.t 42)
 (.seq (.rgx [[], [0], [], [2], [], [4], [], [6], [0, 1], [8, 0, 1], [0, 1, 2, 3, 8, 9], [10, 0, 1, 2, 3, 8, 9], [0, 1, 2, 3, 4, 5, 8, 9, 10, 11], [12, 0, 1, 2, 3, 4, 5, 8, 9, 10, 11], [0, 1, 2, 3, 4, 5, 6, 7, 8, 9, 10, 11, 12, 13], [14, 0, 1, 2, 3, 4, 5, 6, 7, 8, 9, 10, 11, 12, 13]] [⟨some 44, .fa 1 (.t 1), none⟩, ⟨some 45, .ld false 1 (.t 44), none⟩, ⟨some 46, .fa 4 (.t 1), none⟩, ⟨some 47, .ld false 1 (.t 46), none⟩, ⟨some 48, .fa 5 (.t 1), none⟩, ⟨some 49, .ld false 1 (.t 48), none⟩, ⟨some 50, .fa 6 (.t 1), none⟩, ⟨some 51, .ld false 1 (.t 50), none⟩, ⟨some 52, .fa 1 (.t 3), none⟩, ⟨none, .st 1 (.t 52) (.t 45), none⟩, ⟨some 53, .fa 4 (.t 3), none⟩, ⟨none, .st 1 (.t 53) (.t 47), none⟩, ⟨some 54, .fa 5 (.t 3), none⟩, ⟨none, .st 1 (.t 54) (.t 49), none⟩, ⟨some 55, .fa 6 (.t 3), none⟩, ⟨none, .st 1 (.t 55) (.t 51), none⟩])
 (.reg false [⟨some 56, .mv (.t 4), none⟩, ⟨some 57, .mv (.t 56), none⟩, ⟨some 58, .fa 6 (.t 1), some (57, true)⟩, ⟨some 59, .ld false 1 (.t 58), some (57, true)⟩, ⟨some 60, .call (kf 46) [(.t 59), (ki 1), (ki 5)], some (57, true)⟩, ⟨some 61, .pick (.t 57) (.t 60) (kb false), none⟩, ⟨some 4, .mv (.t 61), none⟩]))
 (.seq (.reg false [⟨some 63, .bin .eql (.t 17) (ki 4), none⟩, ⟨some 62, .mv (.t 63), none⟩])
 (.cond (.t 62)
 (.rgx [[], [0], [], [2], [0, 1], [4, 0, 1], [0, 1, 2, 3, 4, 5], [6, 0, 1, 2, 3, 4, 5]] [⟨some 64, .fa 1 (.t 1), none⟩, ⟨some 65, .ld false 1 (.t 64), none⟩, ⟨some 66, .fa 4 (.t 1), none⟩, ⟨some 67, .ld false 1 (.t 66), none⟩, ⟨some 68, .fa 1 (.t 3), none⟩, ⟨none, .st 1 (.t 68) (.t 65), none⟩, ⟨some 69, .fa 4 (.t 3), none⟩, ⟨none, .st 1 (.t 69) (.t 67), none⟩])
 (.reg false [⟨some 4, .mv (kb false), none⟩])))))))))))
 (.seq (.seq (.reg false [⟨some 70, .mv (.t 4), none⟩, ⟨some 71, .un .not (.t 70), none⟩, ⟨some 72, .mv (.t 71), none⟩, ⟨some 73, .ld true 7 (.t 1), some (72, false)⟩, ⟨some 74, .ld true 7 (.t 3), some (72, false)⟩, ⟨some 75, .eqa [1, 2, 1, 1, 1, 1, 1] true (.t 73) (.t 74), some (72, false)⟩, ⟨some 76, .pick (.t 72) (kb true) (.t 75), none⟩])
 (.cond (.t 76)
 (.seq (.reg false [⟨some 2, .mv (ki 1), none⟩])
 .ret)
 .skip))
 (.seq (.reg false [⟨some 2, .mv (ki 0), none⟩])
 .ret))))))
abbrev n_shelf_CheckOp : Nat := 27
theorem F_shelf_CheckOp : Fun Try.prog n_shelf_CheckOp 77 c_shelf_CheckOp [.t 2] := ⟨⟨Try.f27, _, Try.func27, by kernel_rfl, rfl, rfl, by kernel_rfl, by kernel_rfl⟩⟩
/-- windrose/windroseref14.Op -/
def c_windroseref14_Op : C :=
 (.seq (.reg false [⟨some 1, .box 25 7 (.t 0), none⟩, ⟨some 2, .mv (kb false), none⟩])
 (.seq (.seq (.reg false [⟨some 3, .fa 0 (.t 1), none⟩, ⟨some 4, .ld false 1 (.t 3), none⟩, ⟨some 5, .bin .eql (.t 4) (ki 2), none⟩])
 (.cond (.t 5)
 (.seq (.reg false [⟨some 6, .ld true 7 (.t 1), none⟩, ⟨some 7, .fa 0 (.t 1), none⟩, ⟨some 8, .ld false 1 (.t 7), none⟩, ⟨some 9, .fa 4 (.t 1), none⟩, ⟨some 10, .ld false 1 (.t 9), none⟩, ⟨some 11, .bld [.int .i64 0, .string ⟨#[]⟩, .int .i64 0, .int .i64 0, .int .i64 0, .int .i64 0, .int .i64 0] [(0, 1, (.t 8)), (4, 1, (.t 10))], none⟩, ⟨some 12, .eqa [1, 2, 1, 1, 1, 1, 1] false (.t 6) (.t 11), none⟩, ⟨some 13, .mv (.t 12), none⟩, ⟨some 14, .fa 4 (.t 1), some (13, true)⟩, ⟨some 15, .ld false 1 (.t 14), some (13, true)⟩, ⟨some 16, .bin .geq (.t 15) (ki 0), some (13, true)⟩, ⟨some 17, .pick (.t 13) (.t 16) (kb false), none⟩, ⟨some 18, .mv (.t 17), none⟩, ⟨some 19, .fa 4 (.t 1), some (18, true)⟩, ⟨some 20, .ld false 1 (.t 19), some (18, true)⟩, ⟨some 21, .bin .leq (.t 20) (ki 1099511627776), some (18, true)⟩, ⟨some 22, .pick (.t 18) (.t 21) (kb false), none⟩, ⟨some 2, .mv (.t 22), none⟩])
 .ret)
 .skip))
 (.seq (.seq (.reg false [⟨some 23, .fa 1 (.t 1), none⟩, ⟨some 24, .ld false 1 (.t 23), none⟩, ⟨some 25, .call (kf 47) [(.t 24)], none⟩, ⟨some 26, .un .not (.t 25), none⟩])
 (.cond (.t 26)
 (.seq (.reg false [⟨some 2, .mv (kb false), none⟩])
 .ret)
 .skip))
 (.seq (.seq (.reg false [⟨some 27, .fa 0 (.t 1), none⟩, ⟨some 28, .ld false 1 (.t 27), none⟩])
 (.block 0 (.seq (.reg false [⟨some 30, .bin .eql (.t 28) (ki 1), none⟩, ⟨some 29, .mv (.t 30), none⟩])
 (.cond (.t 29)
 (.seq (.reg false [⟨some 31, .ld true 7 (.t 1), none⟩, ⟨some 32, .fa 0 (.t 1), none⟩, ⟨some 33, .ld false 1 (.t 32), none⟩, ⟨some 34, .fa 1 (.t 1), none⟩, ⟨some 35, .ld false 1 (.t 34), none⟩, ⟨some 36, .fa 2 (.t 1), none⟩, ⟨some 37, .ld true 2 (.t 36), none⟩, ⟨some 38, .bld [.int .i64 0, .string ⟨#[]⟩, .int .i64 0, .int .i64 0, .int .i64 0, .int .i64 0, .int .i64 0] [(0, 1, (.t 33)), (1, 1, (.t 35)), (2, 2, (.t 37))], none⟩, ⟨some 39, .eqa [1, 2, 1, 1, 1, 1, 1] false (.t 31) (.t 38), none⟩, ⟨some 40, .mv (.t 39), none⟩, ⟨some 41, .fa 2 (.t 1), some (40, true)⟩, ⟨some 42, .ld true 2 (.t 41), some (40, true)⟩, ⟨some 43, .bsl 23 2 1 [.int .i64 0, .int .i64 0] [(0, (.t 42))], some (40, true)⟩, ⟨some 44, .call (kf 48) [(.t 43)], some (40, true)⟩, ⟨some 45, .pick (.t 40) (.t 44) (kb false), none⟩, ⟨some 2, .mv (.t 45), none⟩])
 .ret)
 (.seq (.reg false [⟨some 47, .bin .eql (.t 28) (ki 3), none⟩, ⟨some 46, .mv (.t 47), none⟩])
 (.cond (.t 46)
 (.seq (.reg false [⟨some 48, .ld true 7 (.t 1), none⟩, ⟨some 49, .fa 0 (.t 1), none⟩, ⟨some 50, .ld false 1 (.t 49), none⟩, ⟨some 51, .fa 1 (.t 1), none⟩, ⟨some 52, .ld false 1 (.t 51), none⟩, ⟨some 53, .fa 4 (.t 1), none⟩, ⟨some 54, .ld false 1 (.t 53), none⟩, ⟨some 55, .fa 5 (.t 1), none⟩, ⟨some 56, .ld false 1 (.t 55), none⟩, ⟨some 57, .fa 6 (.t 1), none⟩, ⟨some 58, .ld false 1 (.t 57), none⟩, ⟨some 59, .bld [.int .i64 0, .string ⟨#[]⟩, .int .i64 0, .int .i64 0, .int .i64 0, .int .i64 0, .int .i64 0] [(0, 1, (.t 50)), (1, 1, (.t 52)), (4, 1, (.t 54)), (5, 1, (.t 56)), (6, 1, (.t 58))], none⟩, ⟨some 60, .eqa [1, 2, 1, 1, 1, 1, 1] false (.t 48) (.t 59), none⟩, ⟨some 61, .mv (.t 60), none⟩, ⟨some 62, .fa 6 (.t 1), some (61, true)⟩, ⟨some 63, .ld false 1 (.t 62), some (61, true)⟩, ⟨some 64, .bin .geq (.t 63) (ki 1), some (61, true)⟩, ⟨some 65, .pick (.t 61) (.t 64) (kb false), none⟩, ⟨some 66, .mv (.t 65), none⟩, ⟨some 67, .fa 6 (.t 1), some (66, true)⟩, ⟨some 68, .ld false 1 (.t 67), some (66, true)⟩, ⟨some 69, .bin .leq (.t 68) (ki 5), some (66, true)⟩, ⟨some 70, .pick (.t 66) (.t 69) (kb false), none⟩, ⟨some 2, .mv (.t 70), none⟩])
 .ret)
 (.seq (.reg false [⟨some 72, .bin .eql (.t 28) (ki 4), none⟩, ⟨some 71, .mv (.t 72), none⟩])
 (.cond (.t 71)
 (.seq (.reg false [⟨some 73, .ld true 7 (.t 1), none⟩, ⟨some 74, .fa 0 (.t 1), none⟩, ⟨some 75, .ld false 1 (.t 74), none⟩, ⟨some 76, .fa 1 (.t 1), none⟩, ⟨some 77, .ld false 1 (.t 76), none⟩, ⟨some 78, .fa 4 (.t 1), none⟩, ⟨some 79, .ld false 1 (.t 78), none⟩, ⟨some 80, .bld [.int .i64 0, .string ⟨#[]⟩, .int .i64 0, .int .i64 0, .int .i64 0, .int .i64 0, .int .i64 0] [(0, 1, (.t 75)), (1, 1, (.t 77)), (4, 1, (.t 79))], none⟩, ⟨some 81, .eqa [1, 2, 1, 1, 1, 1, 1] false (.t 73) (.t 80), none⟩, ⟨some 2, .mv (.t 81), none⟩])
 .ret)
 .skip))))))))
 (.seq (.reg false [⟨some 2, .mv (kb false), none⟩])
 .ret)))))
abbrev n_windroseref14_Op : Nat := 29
theorem F_windroseref14_Op : Fun Try.prog n_windroseref14_Op 82 c_windroseref14_Op [.t 2] := ⟨⟨Try.f29, _, Try.func29, by kernel_rfl, rfl, rfl, by kernel_rfl, by kernel_rfl⟩⟩
/-- windrose/windroseref14.series -/
def c_windroseref14_series : C :=
 (.seq (.reg false [⟨some 2, .mv (kb false), none⟩])
 (.seq (.reg false [⟨some 6, .mv (.t 0), none⟩, ⟨some 7, .call (kf 54) [(.t 6)], none⟩, ⟨some 5, .mv (.t 7), none⟩, ⟨some 8, .ex (.t 5) 0, none⟩, ⟨some 9, .ex (.t 5) 1, none⟩, ⟨some 3, .alloc 97 2 [.string ⟨#[]⟩, .slice none 0 0], none⟩, ⟨none, .st 2 (.t 3) (.t 8), none⟩, ⟨some 4, .mv (.t 9), none⟩])
 (.seq (.reg false [⟨some 10, .mv (.t 4), none⟩, ⟨some 11, .mv (.t 10), none⟩, ⟨some 12, .ld true 2 (.t 3), some (11, true)⟩, ⟨some 13, .call (kf 55) [(.t 12)], some (11, true)⟩, ⟨some 14, .mv (.t 0), some (11, true)⟩, ⟨some 15, .bin .eql (.t 13) (.t 14), some (11, true)⟩, ⟨some 16, .pick (.t 11) (.t 15) (kb false), none⟩, ⟨some 2, .mv (.t 16), none⟩])
 .ret)))
abbrev n_windroseref14_series : Nat := 47
theorem F_windroseref14_series : Fun Try.prog n_windroseref14_series 17 c_windroseref14_series [.t 2] := ⟨⟨Try.f47, _, Try.func47, by kernel_rfl, rfl, rfl, by kernel_rfl, by kernel_rfl⟩⟩
/-- windrose/windroseref11.May -/
def c_windroseref11_May : C :=
 (.seq (.reg false [⟨some 2, .mv (kb false), none⟩])
 (.seq (.seq (.reg false [⟨some 3, .mv (ki 0), none⟩])
 (.block 0 (.loop (.seq (.seq (.reg false [⟨some 4, .mv (.t 3), none⟩, ⟨some 5, .mv (.t 0), none⟩, ⟨some 6, .len (.t 5), none⟩, ⟨some 7, .bin .lss (.t 4) (.t 6), none⟩])
 (.cond (.t 7)
 .skip
 (.exit 0)))
 (.seq (.block 1 (.seq (.reg true [⟨some 10, .mv (.t 0), none⟩, ⟨some 11, .mv (.t 3), none⟩, ⟨some 12, .ia 2 (.t 10) (.t 11), none⟩, ⟨some 13, .fa 0 (.t 12), none⟩, ⟨some 14, .ld false 1 (.t 13), none⟩, ⟨some 15, .bin .lss (.t 14) (ki 0), none⟩, ⟨some 16, .mv (.t 15), none⟩, ⟨some 17, .mv (.t 0), some (16, false)⟩, ⟨some 18, .mv (.t 3), some (16, false)⟩, ⟨some 19, .ia 2 (.t 17) (.t 18), some (16, false)⟩, ⟨some 20, .fa 0 (.t 19), some (16, false)⟩, ⟨some 21, .ld false 1 (.t 20), some (16, false)⟩, ⟨some 22, .bin .gtr (.t 21) (ki 1099511627776), some (16, false)⟩, ⟨some 23, .pick (.t 16) (kb true) (.t 22), none⟩, ⟨some 24, .mv (.t 23), none⟩, ⟨some 25, .mv (.t 0), some (24, false)⟩, ⟨some 26, .mv (.t 3), some (24, false)⟩, ⟨some 27, .ia 2 (.t 25) (.t 26), some (24, false)⟩, ⟨some 28, .fa 1 (.t 27), some (24, false)⟩, ⟨some 29, .ld false 1 (.t 28), some (24, false)⟩, ⟨some 30, .bin .lss (.t 29) (ki (-1099511627776)), some (24, false)⟩, ⟨some 31, .pick (.t 24) (kb true) (.t 30), none⟩, ⟨some 32, .mv (.t 31), none⟩, ⟨some 33, .mv (.t 0), some (32, false)⟩, ⟨some 34, .mv (.t 3), some (32, false)⟩, ⟨some 35, .ia 2 (.t 33) (.t 34), some (32, false)⟩, ⟨some 36, .fa 1 (.t 35), some (32, false)⟩, ⟨some 37, .ld false 1 (.t 36), some (32, false)⟩, ⟨some 38, .bin .gtr (.t 37) (ki 1099511627776), some (32, false)⟩, ⟨some 39, .pick (.t 32) (kb true) (.t 38), none⟩, ⟨some 40, .mv (.t 39), none⟩, ⟨some 41, .mv (.t 3), some (40, false)⟩, ⟨some 42, .bin .gtr (.t 41) (ki 0), some (40, false)⟩, ⟨some 43, .mv (.t 42), some (40, false)⟩, ⟨some 44, .mv (.t 0), some (43, true)⟩, ⟨some 45, .mv (.t 3), some (43, true)⟩, ⟨some 46, .bin .sub (.t 45) (ki 1), some (43, true)⟩, ⟨some 47, .ia 2 (.t 44) (.t 46), some (43, true)⟩, ⟨some 48, .fa 0 (.t 47), some (43, true)⟩, ⟨some 49, .ld false 1 (.t 48), some (43, true)⟩, ⟨some 50, .mv (.t 0), some (43, true)⟩, ⟨some 51, .mv (.t 3), some (43, true)⟩, ⟨some 52, .ia 2 (.t 50) (.t 51), some (43, true)⟩, ⟨some 53, .fa 0 (.t 52), some (43, true)⟩, ⟨some 54, .ld false 1 (.t 53), some (43, true)⟩, ⟨some 55, .bin .geq (.t 49) (.t 54), some (43, true)⟩, ⟨some 56, .pick (.t 43) (.t 55) (kb false), some (40, false)⟩, ⟨some 57, .pick (.t 40) (kb true) (.t 56), none⟩])
 (.cond (.t 57)
 (.seq (.reg false [⟨some 2, .mv (kb false), none⟩])
 .ret)
 .skip)))
 (.reg false [⟨some 8, .mv (.t 3), none⟩, ⟨some 9, .bin .add (.t 8) (ki 1), none⟩, ⟨some 3, .mv (.t 9), none⟩]))))))
 (.seq (.reg false [⟨some 58, .mv (.t 0), none⟩, ⟨some 59, .len (.t 58), none⟩, ⟨some 60, .bin .leq (.t 59) (ki 64), none⟩, ⟨some 2, .mv (.t 60), none⟩])
 .ret)))
abbrev n_windroseref11_May : Nat := 48
theorem F_windroseref11_May : Fun Try.prog n_windroseref11_May 61 c_windroseref11_May [.t 2] := ⟨⟨Try.f48, _, Try.func48, by kernel_rfl, rfl, rfl, by kernel_rfl, by kernel_rfl⟩⟩
/-- windrose/windroseref12.Trim -/
def c_windroseref12_Trim : C :=
 (.seq (.reg false [⟨some 4, .mv (.k (.one (.c (.v (.slice none 0 0))))), none⟩])
 (.seq (.reg false [⟨some 7, .bsl 23 2 0 [.int .i64 0, .int .i64 0] [], none⟩, ⟨some 5, .mv (.t 7), none⟩])
 (.seq (.seq (.reg false [⟨some 6, .mv (ki 0), none⟩])
 (.block 0 (.loop (.seq (.seq (.reg false [⟨some 8, .mv (.t 6), none⟩, ⟨some 9, .mv (.t 0), none⟩, ⟨some 10, .len (.t 9), none⟩, ⟨some 11, .bin .lss (.t 8) (.t 10), none⟩])
 (.cond (.t 11)
 .skip
 (.exit 0)))
 (.seq (.block 1 (.seq (.reg false [⟨some 14, .mv (.t 0), none⟩, ⟨some 15, .mv (.t 6), none⟩, ⟨some 16, .ia 2 (.t 14) (.t 15), none⟩, ⟨some 17, .fa 0 (.t 16), none⟩, ⟨some 18, .ld false 1 (.t 17), none⟩, ⟨some 19, .mv (.t 1), none⟩, ⟨some 20, .bin .geq (.t 18) (.t 19), none⟩])
 (.cond (.t 20)
 (.reg false [⟨some 21, .mv (.t 5), none⟩, ⟨some 22, .mv (.t 0), none⟩, ⟨some 23, .mv (.t 6), none⟩, ⟨some 24, .ia 2 (.t 22) (.t 23), none⟩, ⟨some 25, .ld true 2 (.t 24), none⟩, ⟨some 26, .bsl 23 2 1 [.int .i64 0, .int .i64 0] [(0, (.t 25))], none⟩, ⟨some 27, .app 23 2 16 [.int .i64 0, .int .i64 0] (.t 21) (.t 26), none⟩, ⟨some 5, .mv (.t 27), none⟩])
 .skip)))
 (.reg false [⟨some 12, .mv (.t 6), none⟩, ⟨some 13, .bin .add (.t 12) (ki 1), none⟩, ⟨some 6, .mv (.t 13), none⟩]))))))
 (.seq (.reg false [⟨some 28, .mv (.t 5), none⟩, ⟨some 4, .mv (.t 28), none⟩])
 .ret))))
abbrev n_windroseref12_Trim : Nat := 49
theorem F_windroseref12_Trim : Fun Try.prog n_windroseref12_Trim 29 c_windroseref12_Trim [.t 4] := ⟨⟨Try.f49, _, Try.func49, by kernel_rfl, rfl, rfl, by kernel_rfl, by kernel_rfl⟩⟩
/-- windrose/shelf.in -/
def c_shelf_in : C :=
 (.seq (.reg false [⟨some 6, .mv (kb false), none⟩])
 (.seq (.reg false [⟨some 7, .mv (.t 0), none⟩, ⟨some 8, .mv (.t 1), none⟩, ⟨some 9, .bin .geq (.t 7) (.t 8), none⟩, ⟨some 10, .mv (.t 9), none⟩, ⟨some 11, .mv (.t 0), some (10, true)⟩, ⟨some 12, .mv (.t 2), some (10, true)⟩, ⟨some 13, .bin .leq (.t 11) (.t 12), some (10, true)⟩, ⟨some 14, .pick (.t 10) (.t 13) (kb false), none⟩, ⟨some 6, .mv (.t 14), none⟩])
 .ret))
abbrev n_shelf_in : Nat := 46
theorem F_shelf_in : Fun Try.prog n_shelf_in 15 c_shelf_in [.t 6] := ⟨⟨Try.f46, _, Try.func46, by kernel_rfl, rfl, rfl, by kernel_rfl, by kernel_rfl⟩⟩
/-- windrose/shelf.series -/
def c_shelf_series : C :=
 (.seq (.reg false [⟨some 2, .mv (kb false), none⟩])
 (.seq (.reg false [⟨some 8, .mv (.t 0), none⟩, ⟨some 9, .call (kf 52) [(.t 8)], none⟩, ⟨some 7, .mv (.t 9), none⟩, ⟨some 10, .ex (.t 7) 0, none⟩, ⟨some 11, .ex (.t 7) 1, none⟩, ⟨some 3, .alloc 97 2 [.string ⟨#[]⟩, .slice none 0 0], none⟩, ⟨none, .st 2 (.t 3) (.t 10), none⟩, ⟨some 4, .mv (.t 11), none⟩])
 (.seq (.reg false [⟨some 13, .ld true 2 (.t 3), none⟩, ⟨some 14, .call (kf 53) [(.t 13)], none⟩, ⟨some 12, .mv (.t 14), none⟩, ⟨some 15, .ex (.t 12) 0, none⟩, ⟨some 16, .ex (.t 12) 1, none⟩, ⟨some 5, .mv (.t 15), none⟩, ⟨some 6, .mv (.t 16), none⟩])
 (.seq (.reg false [⟨some 17, .mv (.t 4), none⟩, ⟨some 18, .bin .eql (.t 17) (ki 0), none⟩, ⟨some 19, .mv (.t 18), none⟩, ⟨some 20, .mv (.t 5), some (19, true)⟩, ⟨some 21, .mv (.t 0), some (19, true)⟩, ⟨some 22, .bin .eql (.t 20) (.t 21), some (19, true)⟩, ⟨some 23, .pick (.t 19) (.t 22) (kb false), none⟩, ⟨some 2, .mv (.t 23), none⟩])
 .ret))))
abbrev n_shelf_series : Nat := 44
theorem F_shelf_series : Fun Try.prog n_shelf_series 24 c_shelf_series [.t 2] := ⟨⟨Try.f44, _, Try.func44, by kernel_rfl, rfl, rfl, by kernel_rfl, by kernel_rfl⟩⟩
/-- windrose/block.Check -/
def c_block_Check : C :=
 (.seq (.reg false [⟨some 2, .mv (ki 0), none⟩])
 (.seq (.seq (.reg false [⟨some 5, .mv (.t 0), none⟩, ⟨some 6, .len (.t 5), none⟩, ⟨some 7, .bin .gtr (.t 6) (ki 64), none⟩])
 (.cond (.t 7)
 (.seq (.reg false [⟨some 2, .mv (ki 1), none⟩])
 .ret)
 .skip))
 (.seq (.seq (.reg false [⟨some 8, .mv (.t 0), none⟩, ⟨some 9, .len (.t 8), none⟩, ⟨some 10, .mv (ki 0), none⟩])
 (.block 0 (.loop (.seq (.reg false [⟨some 11, .bin .lss (.t 10) (.t 9), none⟩])
 (.seq (.cond (.t 11)
 .skip
 (.exit 0))
 (.seq (.block 1 (.seq (.reg false [⟨some 12, .mv (.t 10), none⟩, ⟨some 13, .ia 2 (.t 8) (.t 10), none⟩, ⟨some 14, .ld true 2 (.t 13), none⟩, ⟨some 4, .alloc 23 2 [.int .i64 0, .int .i64 0], none⟩, ⟨some 3, .mv (.t 12), none⟩, ⟨none, .st 2 (.t 4) (.t 14), none⟩])
 (.seq (.reg true [⟨some 15, .fa 0 (.t 4), none⟩, ⟨some 16, .ld false 1 (.t 15), none⟩, ⟨some 17, .bin .lss (.t 16) (ki 0), none⟩, ⟨some 18, .mv (.t 17), none⟩, ⟨some 19, .fa 0 (.t 4), some (18, false)⟩, ⟨some 20, .ld false 1 (.t 19), some (18, false)⟩, ⟨some 21, .bin .gtr (.t 20) (ki 1099511627776), some (18, false)⟩, ⟨some 22, .pick (.t 18) (kb true) (.t 21), none⟩, ⟨some 23, .mv (.t 22), none⟩, ⟨some 24, .fa 1 (.t 4), some (23, false)⟩, ⟨some 25, .ld false 1 (.t 24), some (23, false)⟩, ⟨some 26, .bin .lss (.t 25) (ki (-1099511627776)), some (23, false)⟩, ⟨some 27, .pick (.t 23) (kb true) (.t 26), none⟩, ⟨some 28, .mv (.t 27), none⟩, ⟨some 29, .fa 1 (.t 4), some (28, false)⟩, ⟨some 30, .ld false 1 (.t 29), some (28, false)⟩, ⟨some 31, .bin .gtr (.t 30) (ki 1099511627776), some (28, false)⟩, ⟨some 32, .pick (.t 28) (kb true) (.t 31), none⟩, ⟨some 33, .mv (.t 32), none⟩, ⟨some 34, .mv (.t 3), some (33, false)⟩, ⟨some 35, .bin .gtr (.t 34) (ki 0), some (33, false)⟩, ⟨some 36, .mv (.t 35), some (33, false)⟩, ⟨some 37, .fa 0 (.t 4), some (36, true)⟩, ⟨some 38, .ld false 1 (.t 37), some (36, true)⟩, ⟨some 39, .mv (.t 0), some (36, true)⟩, ⟨some 40, .mv (.t 3), some (36, true)⟩, ⟨some 41, .bin .sub (.t 40) (ki 1), some (36, true)⟩, ⟨some 42, .ia 2 (.t 39) (.t 41), some (36, true)⟩, ⟨some 43, .fa 0 (.t 42), some (36, true)⟩, ⟨some 44, .ld false 1 (.t 43), some (36, true)⟩, ⟨some 45, .bin .leq (.t 38) (.t 44), some (36, true)⟩, ⟨some 46, .pick (.t 36) (.t 45) (kb false), some (33, false)⟩, ⟨some 47, .pick (.t 33) (kb true) (.t 46), none⟩])
 (.cond (.t 47)
 (.seq (.reg false [⟨some 2, .mv (ki 1), none⟩])
 .ret)
 .skip))))
 (.reg false [⟨some 48, .bin .add (.t 10) (ki 1), none⟩, ⟨some 10, .mv (.t 48), none⟩])))))))
 (.seq (.reg false [⟨some 2, .mv (ki 0), none⟩])
 .ret))))
abbrev n_block_Check : Nat := 45
theorem F_block_Check : Fun Try.prog n_block_Check 49 c_block_Check [.t 2] := ⟨⟨Try.f45, _, Try.func45, by kernel_rfl, rfl, rfl, by kernel_rfl, by kernel_rfl⟩⟩
/-- slices.Clone[[]windrose/api.Line,windrose/api.Line] -/
def c_slices_Clone_api_Line_api_Line : C :=
 (.seq (.reg false [⟨some 2, .mv (.k (.one (.c (.v (.slice none 0 0))))), none⟩])
 (.seq (.seq (.reg false [⟨some 3, .mv (.t 0), none⟩, ⟨some 4, .eqb false (.t 3) (.k (.one (.c (.v (.slice none 0 0))))), none⟩])
 (.cond (.t 4)
 (.seq (.reg false [⟨some 2, .mv (.k (.one (.c (.v (.slice none 0 0))))), none⟩])
 .ret)
 .skip))
 (.seq (.reg false [⟨some 5, .bsl 87 2 0 [.string ⟨#[]⟩, .slice none 0 0] [], none⟩, ⟨some 6, .mv (.t 0), none⟩, ⟨some 7, .app 87 2 40 [.string ⟨#[]⟩, .slice none 0 0] (.t 5) (.t 6), none⟩, ⟨some 2, .mv (.t 7), none⟩])
 .ret)))
abbrev n_slices_Clone_api_Line_api_Line : Nat := 56
theorem F_slices_Clone_api_Line_api_Line : Fun Try.prog n_slices_Clone_api_Line_api_Line 8 c_slices_Clone_api_Line_api_Line [.t 2] := ⟨⟨Try.f56, _, Try.func56, by kernel_rfl, rfl, rfl, by kernel_rfl, by kernel_rfl⟩⟩
/-- slices.Clone[[]windrose/api.Done,windrose/api.Done] -/
def c_slices_Clone_api_Done_api_Done : C :=
 (.seq (.reg false [⟨some 2, .mv (.k (.one (.c (.v (.slice none 0 0))))), none⟩])
 (.seq (.seq (.reg false [⟨some 3, .mv (.t 0), none⟩, ⟨some 4, .eqb false (.t 3) (.k (.one (.c (.v (.slice none 0 0))))), none⟩])
 (.cond (.t 4)
 (.seq (.reg false [⟨some 2, .mv (.k (.one (.c (.v (.slice none 0 0))))), none⟩])
 .ret)
 .skip))
 (.seq (.reg false [⟨some 5, .bsl 92 5 0 [.int .i64 0, .int .i64 0, .int .i64 0, .bool false, .int .i64 0] [], none⟩, ⟨some 6, .mv (.t 0), none⟩, ⟨some 7, .app 92 5 40 [.int .i64 0, .int .i64 0, .int .i64 0, .bool false, .int .i64 0] (.t 5) (.t 6), none⟩, ⟨some 2, .mv (.t 7), none⟩])
 .ret)))
abbrev n_slices_Clone_api_Done_api_Done : Nat := 57
theorem F_slices_Clone_api_Done_api_Done : Fun Try.prog n_slices_Clone_api_Done_api_Done 8 c_slices_Clone_api_Done_api_Done [.t 2] := ⟨⟨Try.f57, _, Try.func57, by kernel_rfl, rfl, rfl, by kernel_rfl, by kernel_rfl⟩⟩
/-- slices.Clone[[]windrose/api.Sample,windrose/api.Sample] -/
def c_slices_Clone_api_Sample_api_Sample : C :=
 (.seq (.reg false [⟨some 2, .mv (.k (.one (.c (.v (.slice none 0 0))))), none⟩])
 (.seq (.seq (.reg false [⟨some 3, .mv (.t 0), none⟩, ⟨some 4, .eqb false (.t 3) (.k (.one (.c (.v (.slice none 0 0))))), none⟩])
 (.cond (.t 4)
 (.seq (.reg false [⟨some 2, .mv (.k (.one (.c (.v (.slice none 0 0))))), none⟩])
 .ret)
 .skip))
 (.seq (.reg false [⟨some 5, .bsl 23 2 0 [.int .i64 0, .int .i64 0] [], none⟩, ⟨some 6, .mv (.t 0), none⟩, ⟨some 7, .app 23 2 16 [.int .i64 0, .int .i64 0] (.t 5) (.t 6), none⟩, ⟨some 2, .mv (.t 7), none⟩])
 .ret)))
abbrev n_slices_Clone_api_Sample_api_Sample : Nat := 58
theorem F_slices_Clone_api_Sample_api_Sample : Fun Try.prog n_slices_Clone_api_Sample_api_Sample 8 c_slices_Clone_api_Sample_api_Sample [.t 2] := ⟨⟨Try.f58, _, Try.func58, by kernel_rfl, rfl, rfl, by kernel_rfl, by kernel_rfl⟩⟩
end Go.Proofs.Ytcmkhlfjcdchmaa.A
end
section
namespace Go.Proofs.Ytcmkhlfjcdchmaa.A
open Go Go.Proofs.YtcmkhlfjcdchmaaAbs
structure Smp where
  t : Int
  v : Int
instance : Inhabited Smp := ⟨⟨0, 0⟩⟩
instance : DecidableEq Smp := fun a b => if h : a.t = b.t ∧ a.v = b.v then isTrue (by cases a; cases b; simp_all) else isFalse (fun e => h (by rw [e]; exact ⟨rfl, rfl⟩))
@[go_sem] def Smp.c (x : Smp) : Nat → CV
  | 0 => .v (.int .i64 x.t)
  | _ => .v (.int .i64 x.v)
abbrev smpCV (l : List Smp) : CV := immL 2 Smp.c l
abbrev smpL (l : List Smp) : Pt := .one (.c (smpCV l))
def smOk (s : Smp) : Bool := decide (0 ≤ s.t) && decide (s.t ≤ 1099511627776) && decide (-1099511627776 ≤ s.v) && decide (s.v ≤ 1099511627776)
def smAt (l : List Smp) (i : Nat) : Bool := smOk (l.getD i default) && (i == 0 || decide ((l.getD (i - 1) default).t < (l.getD i default).t))
def smsOk (l : List Smp) : Bool := decide (l.length ≤ 64) && (List.range l.length).all (smAt l)
theorem all_f {n k : Nat} {p : Nat → Bool} (hk : k < n) (h : p k = false) : (List.range n).all p = false := by
  rw [List.all_eq_false]
  exact ⟨k, List.mem_range.2 hk, by simp [h]⟩
theorem all_t {n : Nat} {p : Nat → Bool} (h : ∀ i, i < n → p i = true) : (List.range n).all p = true := by
  rw [List.all_eq_true]
  exact fun i hi => h i (List.mem_range.1 hi)
theorem smsOk_f {l : List Smp} {k : Nat} (hk : k < l.length) (h : smAt l k = false) : smsOk l = false := by rw [smsOk, all_f hk h, Bool.and_false]
theorem smsOk_t {l : List Smp} (h : ∀ i, i < l.length → smAt l i = true) : smsOk l = decide (l.length ≤ 64) := by rw [smsOk, all_t h, Bool.and_true]
theorem wpr {k : Nat} (h0 : 0 < k) (hk : k ≤ 140737488355328) : (IntKind.i64.wrap ((k : Int) - 1)).toNat = k - 1 := by rw [w64p h0 (by omega)]; rfl
theorem smAt_key (l : List Smp) {k : Nat} (hk : k ≤ 140737488355328) : (decide ((l.getD k default).t < 0) || decide (1099511627776 < (l.getD k default).t) || decide ((l.getD k default).v < -1099511627776) || decide (1099511627776 < (l.getD k default).v) || decide (0 < (k : Int)) && decide ((l.getD k default).t ≤ (l.getD (IntKind.i64.wrap ((k : Int) - 1)).toNat default).t)) = !smAt l k := by
  unfold smAt smOk
  rw [Bool.eq_iff_iff]
  by_cases h0 : k = 0
  · subst h0
    simp only [Bool.or_eq_true, Bool.and_eq_true, Bool.not_eq_true', Bool.and_eq_false_iff, Bool.or_eq_false_iff, decide_eq_true_eq, decide_eq_false_iff_not]
    simp
  · rw [wpr (by omega) hk]
    have e : (k == 0) = false := by simpa using h0
    simp only [e, Bool.false_or, Bool.or_eq_true, Bool.and_eq_true, Bool.not_eq_true', Bool.and_eq_false_iff, Bool.or_eq_false_iff, decide_eq_true_eq, decide_eq_false_iff_not]
    omega
set_option maxRecDepth 20000 in
theorem bCheck_rc (l : List Smp) (hl : l.length ≤ 140737488355328) (M : List Blk) : CallR Try.prog M n_block_Check [smpL l] (.i (if smsOk l then 0 else 1)) M := by
  refine callP F_block_Check (Nat.le_of_ble_eq_true rfl) (by simp only [go_sem]) (by simp only [go_sem]) ?_ M
  simp only [c_block_Check, go_sem]
  refine ⟨fun hc => ?_, fun hc => ?_⟩
  · rw [smsOk, decide_eq_false (by omega), Bool.false_and]; rfl
  refine V_loop (ι := Nat) (J := fun k => k ≤ l.length ∧ ∀ i, i < k → smAt l i = true) (env := fun k => [(0, .p (smpL l)), (8, .p (smpL l)), (9, .i l.length), (10, .i k)]) (mem := fun _ => []) (μ := fun k => l.length - k) 0 ⟨Nat.zero_le _, fun j hj => by omega⟩ (into0 (by simp only [go_sem])) ?_
  rintro k ⟨hk, hok⟩
  simp only [go_sem]
  rw [smAt_key l (by omega)]
  refine ⟨fun h1 => ⟨by omega, fun hc => ?_, fun hc => ?_, fun hc => ⟨k + 1, ⟨by omega, fun j hj => ?_⟩, by omega, into0 ?_⟩⟩, fun h1 => ?_⟩
  · have hc := (Bool.and_eq_true_iff.1 hc).2
    rw [w64p (by simpa using hc) (by omega)]
    omega
  · rw [smsOk_f h1 (by simpa using hc)]; rfl
  · by_cases e : j = k
    · subst e; simpa using hc
    · exact hok j (by omega)
  · simp only [go_sem, w64s (show k < 9223372036854775807 by omega)]
  · rw [smsOk_t (fun i hi => hok i (by omega)), decide_eq_true (by omega)]; rfl
set_option maxRecDepth 20000 in
theorem rMay_rc (l : List Smp) (hl : l.length ≤ 140737488355328) (M : List Blk) : CallR Try.prog M n_windroseref11_May [smpL l] (.b (smsOk l)) M := by
  refine callP F_windroseref11_May (Nat.le_of_ble_eq_true rfl) (by simp only [go_sem]) (by simp only [go_sem]) ?_ M
  simp only [c_windroseref11_May, go_sem]
  refine V_loop (ι := Nat) (J := fun k => k ≤ l.length ∧ ∀ i, i < k → smAt l i = true) (env := fun k => [(0, .p (smpL l)), (3, .i k)]) (mem := fun _ => []) (μ := fun k => l.length - k) 0 ⟨Nat.zero_le _, fun j hj => by omega⟩ (into0 (by simp only [go_sem])) ?_
  rintro k ⟨hk, hok⟩
  simp only [go_sem]
  rw [smAt_key l (by omega)]
  refine ⟨fun h1 => ⟨by omega, fun _ => by omega, fun _ => by omega, fun _ => by omega, fun hc => ?_, fun _ => by omega, fun hc => ?_, fun hc => ⟨k + 1, ⟨by omega, fun j hj => ?_⟩, by omega, into0 ?_⟩⟩, fun h1 => ?_⟩
  · have hc := (Bool.and_eq_true_iff.1 hc).2
    rw [w64p (by simpa using hc) (by omega)]
    omega
  · rw [smsOk_f h1 (by simpa using hc)]
  · by_cases e : j = k
    · subst e; simpa using hc
    · exact hok j (by omega)
  · simp only [go_sem, w64s (show k < 9223372036854775807 by omega)]
  · rw [smsOk_t (fun i hi => hok i (by omega))]
    simp only [decide_eq_decide]
    omega
end Go.Proofs.Ytcmkhlfjcdchmaa.A
end
section
namespace Go.Proofs.Ytcmkhlfjcdchmaa.A
open Go Go.Proofs.YtcmkhlfjcdchmaaAbs
theorem smsOk_one (s : Smp) : smsOk [s] = smOk s := by simp [smsOk, smAt, List.range_succ]
theorem smsOk_len {l : List Smp} (h : smsOk l = true) : l.length ≤ 64 := by
  unfold smsOk at h
  simpa using (Bool.and_eq_true_iff.1 h).1
def zSmp : Smp := ⟨0, 0⟩
end Go.Proofs.Ytcmkhlfjcdchmaa.A
end
section
namespace Go.Proofs.Ytcmkhlfjcdchmaa.A
open Go Go.Proofs.YtcmkhlfjcdchmaaAbs
theorem smp_row (a : List Smp) (x : Smp) : rowsL 2 Smp.c a ++ [[AV.c (CV.v (Value.int IntKind.i64 x.t)), AV.c (CV.v (Value.int IntKind.i64 x.v))]] = rowsL 2 Smp.c (a ++ [x]) := rowsL_app1 a x
def rtrimS (l : List Smp) (a : Int) : List Smp := l.filter fun x => decide (a ≤ x.t)
theorem filter_take {α : Type} [Inhabited α] (p : α → Bool) (l : List α) {k : Nat} (hk : k < l.length) : (l.take (k + 1)).filter p = (l.take k).filter p ++ if p (l.getD k default) = true then [l.getD k default] else [] := by
  rw [take_succ_getD default hk, List.filter_append, List.filter_cons, List.filter_nil]
theorem filter_len {α : Type} (p : α → Bool) (l : List α) (k : Nat) : ((l.take k).filter p).length ≤ k := Nat.le_trans (List.length_filter_le ..) (by rw [List.length_take]; omega)
theorem end_smp {n : Nat} (ws : List Smp) (e : Nat → SV) (X : List Blk) (v : Nat) (f : Bool) (r b : Nat) (h4 : e r = .p (.one (.arr 2 b v 0 ws.length))) (hX : X[b]? = some (.rows 23 2 v (rowsL 2 Smp.c ws) f)) : FinK n 0 [.t r] (.p (smpL ws)) [] .ret ⟨e, X⟩ := by
  refine finQ (.inr rfl) (gh_freeze (b := b) (l := rowsL 2 Smp.c ws) hX (rowsL_closed ws)) (qs := [.one (.c (.imm 2 ws.length fun i j => toC (((rowsL 2 Smp.c ws).getD (0 + i) []).getD j default)))]) (cnd := True) ?_ trivial (subS_p (subP_one (frz_sub ws))) (by simp only [go_sem])
  simp only [go_sem, h4, Nat.zero_add]
set_option maxRecDepth 20000 in
theorem rTrim_rc (l : List Smp) (hl : l.length ≤ 140737488355) (a : Int) (M : List Blk) : CallR Try.prog M n_windroseref12_Trim [smpL l, .i a] (.p (smpL (rtrimS l a))) M := by
  refine callPG F_windroseref12_Trim (Nat.le_of_ble_eq_true rfl) (by simp only [go_sem]) ?_ M
  refine run_seqV ?_
  simp only [go_sem]
  refine run_seqV ?_
  simp only [go_sem]
  refine run_seqV ?_
  simp only [go_sem]
  refine R_loop (ι := Nat × Nat × Bool) (J := fun p => p.1 ≤ l.length)
    (env := fun p => [(0, .p (smpL l)), (1, .i a), (5, .p (.one (.arr 2 0 p.2.1 0 (rtrimS (l.take p.1) a).length))), (6, .i p.1)])
    (mem := fun p => [.rows 23 2 p.2.1 (rowsL 2 Smp.c (rtrimS (l.take p.1) a)) p.2.2])
    (μ := fun p => l.length - p.1) (0, 0, true) (Nat.zero_le _) ⟨[], ?_, Nat.zero_le _, ?_, ?_⟩ ?_
  · simp only [go_sem, List.take_zero, rtrimS, List.filter_nil, rowsL_nil]
  · simp only [go_sem, List.take_zero, rtrimS, List.filter_nil, List.length_nil]
  · simp only [go_sem, ltB]
    exact fun r hr => (rowsL_row r hr).2 _
  rintro ⟨k, v, f⟩ hk
  simp only at hk
  refine run_seqV ?_
  simp only [go_sem]
  refine ⟨fun h1 => ?_, fun h1 => ?_⟩
  · have hst := filter_take (fun x : Smp => decide (a ≤ x.t)) l h1
    have hle := filter_len (fun x : Smp => decide (a ≤ x.t)) l k
    have e3 : IntKind.i64.wrap ((k : Int) + 1) = ((k + 1 : Nat) : Int) := w64s (by omega)
    rw [show (l.take (k + 1)).filter (fun x : Smp => decide (a ≤ x.t)) = rtrimS (l.take (k + 1)) a from rfl, show (l.take k).filter (fun x : Smp => decide (a ≤ x.t)) = rtrimS (l.take k) a from rfl] at hst
    rw [show (l.take k).filter (fun x : Smp => decide (a ≤ x.t)) = rtrimS (l.take k) a from rfl] at hle
    generalize hw : rtrimS (l.take k) a = ws at hst hle ⊢
    refine V_sound ?_
    have hlx : ∀ x : Smp, (⟨x.t, x.v⟩ : Smp) = x := fun _ => rfl
    simp only [go_sem, smp_row, rowsL_len, e3, hlx]
    refine ⟨by omega, fun hc => ⟨by omega, by omega, ?_⟩, fun hc => ?_⟩
    · have hst' : rtrimS (l.take (k + 1)) a = ws ++ [l.getD k default] := by
        rw [hst, if_pos (by simpa using hc)]
      refine ⟨(k + 1, v + 1, false), h1, by simp only []; omega, [.rows 23 2 0 [[.c (.v (.int .i64 (l.getD k default).t)), .c (.v (.int .i64 (l.getD k default).v))]] true], ?_, Nat.zero_le _, ?_, ?_⟩
      · simp only [hst', go_sem]
      · simp only [go_sem, hst', List.length_append, List.length_cons, List.length_nil, Nat.zero_add]
      · simp only [go_sem, ltB]
        exact fun r hr => (rowsL_row r hr).2 _
    · have hst' : rtrimS (l.take (k + 1)) a = ws := by
        rw [hst, if_neg (by simpa using hc), List.append_nil]
      refine ⟨(k + 1, v, f), h1, by simp only []; omega, [], ?_, Nat.zero_le _, ?_, ?_⟩
      · simp only [hst', go_sem]
      · simp only [go_sem, hst']
      · simp only [go_sem, ltB]
        exact fun r hr => (rowsL_row r hr).2 _
  · have hkl : k = l.length := by omega
    subst hkl
    rw [List.take_length]
    refine V_sound ?_
    simp only [go_sem]
    exact end_smp (rtrimS l a) _ _ v f 4 0 (by simp only [go_sem]) rfl
end Go.Proofs.Ytcmkhlfjcdchmaa.A
end
section
namespace Go.Proofs.Ytcmkhlfjcdchmaa.A
open Go Go.Proofs.YtcmkhlfjcdchmaaAbs
theorem sm_parts {l : List Smp} (h : smsOk l = true) {i : Nat} (hi : i < l.length) : (0 ≤ (l.getD i default).t ∧ (l.getD i default).t ≤ 1099511627776 ∧ -1099511627776 ≤ (l.getD i default).v ∧ (l.getD i default).v ≤ 1099511627776) ∧ (0 < i → (l.getD (i - 1) default).t < (l.getD i default).t) := by
  unfold smsOk at h
  have h2 := List.all_eq_true.1 (Bool.and_eq_true_iff.1 h).2 i (List.mem_range.2 hi)
  unfold smAt smOk at h2
  simp only [Bool.and_eq_true, Bool.or_eq_true, decide_eq_true_eq, beq_iff_eq] at h2
  refine ⟨by omega, fun h0 => ?_⟩
  rcases h2.2 with e | e
  · omega
  · exact e
theorem sm_rise {l : List Smp} (h : smsOk l = true) {i : Nat} : ∀ {j : Nat}, i < j → j < l.length → (l.getD i default).t < (l.getD j default).t
  | 0, hij, hj => by omega
  | j + 1, hij, hj => by
    have h1 := (sm_parts h hj).2 (by omega)
    rw [Nat.add_sub_cancel] at h1
    by_cases e : i = j
    · subst e; exact h1
    · exact Int.lt_trans (sm_rise h (show i < j by omega) (by omega)) h1
end Go.Proofs.Ytcmkhlfjcdchmaa.A
end
section
namespace Go.Proofs.Ytcmkhlfjcdchmaa.A
open Go Go.Proofs.YtcmkhlfjcdchmaaAbs
structure Opn where
  kind : Int
  ser : ByteArray
  smp : Smp
  frm : Int
  to : Int
  tot : Int
instance : Inhabited Opn := ⟨⟨0, mkS [], ⟨0, 0⟩, 0, 0, 0⟩⟩
@[go_sem] def Opn.c (x : Opn) : Nat → CV
  | 0 => .v (.int .i64 x.kind)
  | 1 => .v (.string x.ser)
  | 2 => .v (.int .i64 x.smp.t)
  | 3 => .v (.int .i64 x.smp.v)
  | 4 => .v (.int .i64 x.frm)
  | 5 => .v (.int .i64 x.to)
  | _ => .v (.int .i64 x.tot)
abbrev opnA (x : Opn) : Pt := .agg [.c (.v (.int .i64 x.kind)), .c (.v (.string x.ser)), .c (.v (.int .i64 x.smp.t)), .c (.v (.int .i64 x.smp.v)), .c (.v (.int .i64 x.frm)), .c (.v (.int .i64 x.to)), .c (.v (.int .i64 x.tot))]
/-- Is a text a series'? -/
def serT (s : ByteArray) : Bool := match parS s with
  | some x => decide (prT x = s)
  | none => false
theorem serT_some {s : ByteArray} {x : Ser} (h : parS s = some x) : serT s = decide (prT x = s) := by rw [serT, h]
theorem serT_none {s : ByteArray} (h : parS s = none) : serT s = false := by rw [serT, h]
def zSer0 : Ser := ⟨mkS [], []⟩
theorem zSer0_z : zSer zSer0 := ⟨by unfold zS; exact Nat.zero_le _, Nat.zero_le _, fun i hi => absurd hi (Nat.not_lt_zero _)⟩
theorem series_rc (s : ByteArray) (hs : s.size ≤ 2000) (M : List Blk) : CallR Try.prog M n_shelf_series [.s s] (.b (serT s)) M := by
  refine callP F_shelf_series (Nat.le_of_ble_eq_true rfl) (by simp only [go_sem]) (by simp only [go_sem]) ?_ M
  simp only [c_shelf_series, go_sem]
  have hp := Parse_rc s (by omega)
  rw [parR] at hp
  cases hx : parS s with
  | none =>
    rw [hx] at hp
    refine call0 hp ?_
    simp only [go_sem]
    refine call0 (Print_rc zSer0 zSer0_z) ?_
    simp only [go_sem, serT_none hx]
  | some x =>
    rw [hx] at hp
    refine call0 hp ?_
    simp only [go_sem]
    refine call0 (Print_rc x (ok_zSer (parS_ok hx))) ?_
    simp only [go_sem, serT_some hx]
theorem rseries_rc (s : ByteArray) (hs : s.size ≤ 2000) (M : List Blk) : CallR Try.prog M n_windroseref14_series [.s s] (.b (serT s)) M := by
  refine callP F_windroseref14_series (Nat.le_of_ble_eq_true rfl) (by simp only [go_sem]) (by simp only [go_sem]) ?_ M
  simp only [c_windroseref14_series, go_sem]
  have hr := rParse_rc s hs
  rw [refR, ← parse_same] at hr
  cases hx : parS s with
  | none =>
    rw [hx] at hr
    refine call0 hr ?_
    simp only [go_sem]
    refine callg0 (r := .s (mkS [])) (fun h => Bool.noConfusion h) ?_
    simp only [go_sem, serT_none hx]
  | some x =>
    rw [hx] at hr
    refine call0 hr ?_
    simp only [go_sem]
    refine callg0 (fun _ => Text_rc x (parS_ok hx)) ?_
    rw [textR_prT (parS_ok hx)]
    simp only [go_sem, serT_some hx]
theorem in_rc (n lo hi : Int) (M : List Blk) : CallR Try.prog M n_shelf_in [.i n, .i lo, .i hi] (.b (decide (lo ≤ n) && decide (n ≤ hi))) M := by
  refine callP F_shelf_in (Nat.le_of_ble_eq_true rfl) (by simp only [go_sem]) (by simp only [go_sem]) ?_ M
  simp only [c_shelf_in, go_sem]
def opOk (o : Opn) : Bool :=
  if o.kind = 1 then serT o.ser && smOk o.smp && decide (o.frm = 0) && decide (o.to = 0) && decide (o.tot = 0)
  else if o.kind = 2 then decide (o.ser = mkS []) && decide (o.smp = zSmp) && decide (0 ≤ o.frm) && decide (o.frm ≤ 1099511627776) && decide (o.to = 0) && decide (o.tot = 0)
  else if o.kind = 3 then serT o.ser && decide (o.smp = zSmp) && decide (1 ≤ o.tot) && decide (o.tot ≤ 5)
  else if o.kind = 4 then serT o.ser && decide (o.smp = zSmp) && decide (o.to = 0) && decide (o.tot = 0)
  else false
theorem opn_ext {x y : Opn} : x = y ↔ x.kind = y.kind ∧ x.ser = y.ser ∧ x.smp.t = y.smp.t ∧ x.smp.v = y.smp.v ∧ x.frm = y.frm ∧ x.to = y.to ∧ x.tot = y.tot := by
  obtain ⟨a, b, ⟨c, d⟩, e, f, g⟩ := x
  obtain ⟨a', b', ⟨c', d'⟩, e', f', g'⟩ := y
  simp only [Opn.mk.injEq, Smp.mk.injEq]
  constructor
  · rintro ⟨h1, h2, ⟨h3, h4⟩, h5, h6, h7⟩; exact ⟨h1, h2, h3, h4, h5, h6, h7⟩
  · rintro ⟨h1, h2, h3, h4, h5, h6, h7⟩; exact ⟨h1, h2, ⟨h3, h4⟩, h5, h6, h7⟩
instance : DecidableEq Opn := fun a b => decidable_of_iff' _ opn_ext
theorem opn_beq (x y : Opn) : (x.kind == y.kind && (decide (x.ser = y.ser) && (x.smp.t == y.smp.t && (x.smp.v == y.smp.v && (x.frm == y.frm && (x.to == y.to && x.tot == y.tot)))))) = decide (x = y) := by
  rw [Bool.eq_iff_iff]
  simp only [Bool.and_eq_true, decide_eq_true_eq, beq_iff_eq, opn_ext]
def tailOp : C :=
 (.seq (.seq (.reg false [⟨some 70, .mv (.t 4), none⟩, ⟨some 71, .un .not (.t 70), none⟩, ⟨some 72, .mv (.t 71), none⟩, ⟨some 73, .ld true 7 (.t 1), some (72, false)⟩, ⟨some 74, .ld true 7 (.t 3), some (72, false)⟩, ⟨some 75, .eqa [1, 2, 1, 1, 1, 1, 1] true (.t 73) (.t 74), some (72, false)⟩, ⟨some 76, .pick (.t 72) (kb true) (.t 75), none⟩])
 (.cond (.t 76)
 (.seq (.reg false [⟨some 2, .mv (ki 1), none⟩])
 .ret)
 .skip))
 (.seq (.reg false [⟨some 2, .mv (ki 0), none⟩])
 .ret))
def opRow (x : Opn) : List AV := [.c (.v (.int .i64 x.kind)), .c (.v (.string x.ser)), .c (.v (.int .i64 x.smp.t)), .c (.v (.int .i64 x.smp.v)), .c (.v (.int .i64 x.frm)), .c (.v (.int .i64 x.to)), .c (.v (.int .i64 x.tot))]
set_option maxRecDepth 20000 in
theorem opTail (o b : Opn) (X : Bool) (e : Nat → SV) (D : List Blk) (R : Bool) (hR : R = (X && decide (o = b))) (h1 : e 1 = .p (.one (.ptr 0 0 0 0))) (h3 : e 3 = .p (.one (.ptr 1 0 0 0))) (h4 : e 4 = .b X) :
    Run Try.prog 77 0 tailOp ⟨e, .rows 25 7 0 [opRow o] true :: .rows 25 7 0 [opRow b] true :: D⟩ (FinK 77 0 [.t 2] (.i (if R then 0 else 1)) []) := by
  refine V_sound ?_
  simp only [tailOp, opRow, go_sem, h1, h3, h4, opn_beq]
  subst hR
  cases X with
  | false =>
    simp only [go_sem]
    exact fin0 (.inr rfl) rfl trivial (SubS.refl _) (by simp only [go_sem])
  | true =>
    simp only [go_sem]
    refine ⟨fun hc => ?_, fun hc => ?_⟩
    · rw [if_neg (show ¬ o = b by simpa using hc)]
      exact fin0 (.inr rfl) rfl trivial (SubS.refl _) (by simp only [go_sem])
    · rw [if_pos (show o = b by simpa using hc)]
      exact fin0 (.inr rfl) rfl trivial (SubS.refl _) (by simp only [go_sem])
set_option maxRecDepth 20000 in
theorem CheckOp_rc (o : Opn) (hs : o.ser.size ≤ 2000) (M : List Blk) : CallR Try.prog M n_shelf_CheckOp [opnA o] (.i (if opOk o then 0 else 1)) M := by
  refine callPG F_shelf_CheckOp (Nat.le_of_ble_eq_true rfl) (by simp only [go_sem]) ?_ M
  refine run_seqV ?_
  simp only [go_sem]
  refine run_seqV ?_
  simp only [go_sem]
  refine run_seqV ?_
  simp only [go_sem]
  refine callg0 (fun _ => series_rc o.ser hs) ?_
  simp only [go_sem]
  obtain ⟨kind, ser, smp, frm, to, tot⟩ := o
  simp only at hs ⊢
  have hsm : ∀ a b : Smp, a = b ↔ a.t = b.t ∧ a.v = b.v := fun a b => by cases a; cases b; simp
  by_cases k1 : kind = 1
  · subst k1
    cases hser : serT ser with
    | false =>
      refine run_seqV ?_
      simp only [go_sem, hser]
      refine ⟨rfl, ops_end ?_⟩
      simp only [go_sem]
      refine ops_end ?_
      simp only [go_sem]
      refine opTail ⟨1, ser, smp, frm, to, tot⟩ ⟨1, ser, smp, 0, 0, 0⟩ false _ _ _ ?_ ?_ ?_ ?_
      · simp only [opOk, hser, go_sem]
      all_goals simp only [go_sem]
    | true =>
      refine run_seqV ?_
      simp only [go_sem, hser]
      refine ⟨rfl, callLg (fun _ => bCheck_rc [smp] (Nat.le_of_ble_eq_true rfl) []) (fun _ => ⟨snapL [smp] rfl, trivial⟩) (by simp only [go_sem]) ?_⟩
      simp only [go_sem, smsOk_one]
      refine opTail ⟨1, ser, smp, frm, to, tot⟩ ⟨1, ser, smp, 0, 0, 0⟩ (smOk smp) _ _ _ ?_ ?_ ?_ ?_
      · rw [Bool.eq_iff_iff]
        simp [opOk, hser, opn_ext]
        grind
      · simp only [go_sem]
      · simp only [go_sem]
      · simp only [go_sem]
        cases smOk smp <;> rfl
  by_cases k2 : kind = 2
  · subst k2
    refine run_seqV ?_
    simp only [go_sem]
    refine call0 (in_rc frm 0 1099511627776) ?_
    simp only [go_sem]
    refine opTail ⟨2, ser, smp, frm, to, tot⟩ ⟨2, mkS [], ⟨0, 0⟩, frm, 0, 0⟩ (decide (0 ≤ frm) && decide (frm ≤ 1099511627776)) _ _ _ ?_ ?_ ?_ ?_
    · rw [Bool.eq_iff_iff]
      simp [opOk, opn_ext, hsm, zSmp]
      grind
    all_goals simp only [go_sem]
  have e2 : (kind == 2) = false := by simpa using k2
  by_cases k3 : kind = 3
  · subst k3
    cases hser : serT ser with
    | false =>
      refine run_seqV ?_
      simp only [go_sem, hser]
      refine ⟨rfl, callg0 (fun _ => in_rc tot 1 5) ?_⟩
      simp only [go_sem]
      refine opTail ⟨3, ser, smp, frm, to, tot⟩ ⟨3, ser, ⟨0, 0⟩, frm, to, tot⟩ false _ _ _ ?_ ?_ ?_ ?_
      · simp [opOk, hser]
      all_goals simp only [go_sem]
    | true =>
      refine run_seqV ?_
      simp only [go_sem, hser]
      refine ⟨rfl, callg0 (fun _ => in_rc tot 1 5) ?_⟩
      simp only [go_sem]
      refine opTail ⟨3, ser, smp, frm, to, tot⟩ ⟨3, ser, ⟨0, 0⟩, frm, to, tot⟩ (decide (1 ≤ tot) && decide (tot ≤ 5)) _ _ _ ?_ ?_ ?_ ?_
      · rw [Bool.eq_iff_iff]
        simp [opOk, hser, opn_ext, hsm, zSmp]
        grind
      all_goals simp only [go_sem]
  by_cases k4 : kind = 4
  · subst k4
    refine run_seqV ?_
    simp only [go_sem]
    refine ⟨rfl, opTail ⟨4, ser, smp, frm, to, tot⟩ ⟨4, ser, ⟨0, 0⟩, frm, 0, 0⟩ (serT ser) _ _ _ ?_ ?_ ?_ ?_⟩
    · rw [Bool.eq_iff_iff]
      simp [opOk, opn_ext, hsm, zSmp]
      grind
    all_goals simp only [go_sem]
  refine run_seqV ?_
  simp only [go_sem, k1, k2, k3, k4]
  refine opTail ⟨kind, ser, smp, frm, to, tot⟩ ⟨kind, mkS [], ⟨0, 0⟩, 0, 0, 0⟩ false _ _ _ ?_ ?_ ?_ ?_
  · simp [opOk, k1, k2, k3, k4]
  all_goals simp only [go_sem]
end Go.Proofs.Ytcmkhlfjcdchmaa.A
end
section
namespace Go.Proofs.Ytcmkhlfjcdchmaa.A
open Go Go.Proofs.YtcmkhlfjcdchmaaAbs
theorem subS_b {x y : Bool} (h : x = y) : SubS (.b x) (.b y) := by rw [h]; exact SubS.refl _
set_option maxRecDepth 20000 in
theorem rOp_rc (o : Opn) (hs : o.ser.size ≤ 2000) (M : List Blk) : CallR Try.prog M n_windroseref14_Op [opnA o] (.b (opOk o)) M := by
  refine callPG F_windroseref14_Op (Nat.le_of_ble_eq_true rfl) (by simp only [go_sem]) ?_ M
  have hsm : ∀ a b : Smp, a = b ↔ a.t = b.t ∧ a.v = b.v := fun a b => by cases a; cases b; simp
  obtain ⟨kind, ser, smp, frm, to, tot⟩ := o
  simp only at hs ⊢
  refine run_seqV ?_
  simp only [go_sem]
  refine run_seqV ?_
  by_cases k2 : kind = 2
  · subst k2
    simp only [go_sem]
    refine fin0 (.inr rfl) rfl trivial ?_ (by simp only [go_sem])
    simp only [go_sem, mkRes]
    refine subS_b ?_
    rw [Bool.eq_iff_iff]
    simp [opOk, hsm, zSmp]
    grind
  simp only [go_sem, k2]
  refine run_seqV ?_
  simp only [go_sem]
  refine call0 (rseries_rc ser hs) ?_
  simp only [go_sem]
  cases hser : serT ser with
  | false =>
    simp only [go_sem]
    have : opOk ⟨kind, ser, smp, frm, to, tot⟩ = false := by simp [opOk, hser, k2]
    rw [this]
    exact fin0 (.inr rfl) rfl trivial (SubS.refl _) (by simp only [go_sem])
  | true =>
    simp only [go_sem]
    refine run_seqV ?_
    by_cases k1 : kind = 1
    · subst k1
      simp only [go_sem]
      refine ⟨fun hc => ?_, fun hc => ?_⟩
      · simp only [hc]
        refine callLg (fun _ => rMay_rc [smp] (Nat.le_of_ble_eq_true rfl) []) (fun _ => ⟨snapL [smp] rfl, trivial⟩) (by simp only [go_sem]) ?_
        simp only [go_sem, smsOk_one]
        refine fin0 (.inr rfl) rfl trivial ?_ (by simp only [go_sem])
        simp only [go_sem, mkRes]
        refine subS_b ?_
        simp [opOk, hser]
        simp at hc
        simp [hc]
      · simp only [hc, go_sem]
        refine ops_end ?_
        simp only [go_sem]
        refine fin0 (.inr rfl) rfl trivial ?_ (by simp only [go_sem])
        simp only [go_sem, mkRes]
        refine subS_b ?_
        simp [opOk, hser]
        simp at hc
        grind
    by_cases k3 : kind = 3
    · subst k3
      simp only [go_sem]
      refine fin0 (.inr rfl) rfl trivial ?_ (by simp only [go_sem])
      simp only [go_sem, mkRes]
      refine subS_b ?_
      rw [Bool.eq_iff_iff]
      simp [opOk, hser, hsm, zSmp]
      try grind
    by_cases k4 : kind = 4
    · subst k4
      simp only [go_sem]
      refine fin0 (.inr rfl) rfl trivial ?_ (by simp only [go_sem])
      simp only [go_sem, mkRes]
      refine subS_b ?_
      rw [Bool.eq_iff_iff]
      simp [opOk, hser, hsm, zSmp]
      try grind
    simp only [go_sem, k1, k3, k4]
    refine V_sound ?_
    simp only [go_sem]
    have : opOk ⟨kind, ser, smp, frm, to, tot⟩ = false := by simp [opOk, k1, k2, k3, k4]
    rw [this]
    exact fin0 (.inr rfl) rfl trivial (SubS.refl _) (by simp only [go_sem])
end Go.Proofs.Ytcmkhlfjcdchmaa.A
end
section
namespace Go.Proofs.Ytcmkhlfjcdchmaa.A
open Go Go.Proofs.YtcmkhlfjcdchmaaAbs
structure Ans where
  code : Int
  has : Bool
  n : Int
instance : Inhabited Ans := ⟨⟨0, false, 0⟩⟩
structure Dn where
  client : Int
  id : Int
  ans : Ans
instance : Inhabited Dn := ⟨⟨0, 0, ⟨0, false, 0⟩⟩⟩
@[go_sem] def Dn.c (x : Dn) : Nat → CV
  | 0 => .v (.int .i64 x.client)
  | 1 => .v (.int .i64 x.id)
  | 2 => .v (.int .i64 x.ans.code)
  | 3 => .v (.bool x.ans.has)
  | _ => .v (.int .i64 x.ans.n)
structure Lin where
  ser : ByteArray
  smps : List Smp
instance : Inhabited Lin := ⟨⟨mkS [], []⟩⟩
@[go_sem] def Lin.c (x : Lin) : Nat → CV
  | 0 => .v (.string x.ser)
  | _ => smpCV x.smps
structure Shf where
  lines : List Lin
  dones : List Dn
  floor : Int
instance : Inhabited Shf := ⟨⟨[], [], 0⟩⟩
abbrev linL (l : List Lin) : Pt := immP 2 Lin.c l
abbrev dnL (l : List Dn) : Pt := immP 5 Dn.c l
abbrev shfA (s : Shf) : Pt := .agg [.c (immL 2 Lin.c s.lines), .c (immL 5 Dn.c s.dones), .c (.v (.int .i64 s.floor))]
@[go_sem] def Shf.c (x : Shf) : Nat → CV
  | 0 => immL 2 Lin.c x.lines
  | 1 => immL 5 Dn.c x.dones
  | _ => .v (.int .i64 x.floor)
/-- A shelf that is not too great to be looked at. -/
structure zShf (s : Shf) : Prop where
  ll : s.lines.length ≤ 1000
  dl : s.dones.length ≤ 1000
  ser : ∀ i, i < s.lines.length → (s.lines.getD i default).ser.size ≤ 2000
  smp : ∀ i, i < s.lines.length → (s.lines.getD i default).smps.length ≤ 1000
def lnAt (l : List Lin) (f : Int) (i : Nat) : Bool := serT (l.getD i default).ser && (i == 0 || sLt (l.getD (i - 1) default).ser (l.getD i default).ser) && decide (0 < (l.getD i default).smps.length) && smsOk (l.getD i default).smps && decide (f ≤ ((l.getD i default).smps.getD 0 default).t)
def dnAt (l : List Dn) (i : Nat) : Bool := decide (1 ≤ (l.getD i default).client) && decide ((l.getD i default).client ≤ 2147483647) && decide (1 ≤ (l.getD i default).id) && decide ((l.getD i default).id ≤ 2147483647) && (i == 0 || decide ((l.getD (i - 1) default).client < (l.getD i default).client))
def shOk (s : Shf) : Bool := decide (s.lines.length ≤ 16) && decide (s.dones.length ≤ 8) && decide (0 ≤ s.floor) && decide (s.floor ≤ 1099511627776) && (List.range s.lines.length).all (lnAt s.lines s.floor) && (List.range s.dones.length).all (dnAt s.dones)
theorem ifne (b : Bool) : ((if b = true then (0 : Int) else 1) != 0) = !b := by cases b <;> rfl
theorem lnAt_key (l : List Lin) (f : Int) {k : Nat} (hk : k ≤ 140737488355328) : (!serT (l.getD k default).ser || decide (0 < (k : Int)) && (sLt (l.getD k default).ser (l.getD (IntKind.i64.wrap ((k : Int) - 1)).toNat default).ser || decide ((l.getD k default).ser = (l.getD (IntKind.i64.wrap ((k : Int) - 1)).toNat default).ser)) || ((l.getD k default).smps.length : Int) == 0 || (if smsOk (l.getD k default).smps = true then (0 : Int) else 1) != 0 || decide (((l.getD k default).smps.getD 0 default).t < f)) = !lnAt l f k := by
  unfold lnAt
  rw [ifne, leS_lt]
  have e1 : ((((l.getD k default).smps.length : Nat) : Int) == 0) = !decide (0 < (l.getD k default).smps.length) := by
    rw [Bool.eq_iff_iff]; simp
  have e2 : decide (((l.getD k default).smps.getD 0 default).t < f) = !decide (f ≤ ((l.getD k default).smps.getD 0 default).t) := by
    rw [Bool.eq_iff_iff]; simp
  rw [e1, e2]
  by_cases h0 : k = 0
  · subst h0
    have : decide ((0 : Int) < ((0 : Nat) : Int)) = false := rfl
    rw [this]
    simp only [Bool.false_and, Bool.or_false, beq_self_eq_true, Bool.true_or, Bool.and_true, Bool.not_and]
  · rw [wpr (by omega) hk, decide_eq_true (show (0 : Int) < (k : Int) by omega)]
    have e : (k == 0) = false := by simpa using h0
    simp only [e, Bool.true_and, Bool.false_or, Bool.not_and]
theorem dnAt_key (l : List Dn) {k : Nat} (hk : k ≤ 140737488355328) : (!decide (1 ≤ (l.getD k default).client) || !decide ((l.getD k default).client ≤ 2147483647) || (!decide (1 ≤ (l.getD k default).id) || !decide ((l.getD k default).id ≤ 2147483647)) || decide (0 < (k : Int)) && decide ((l.getD k default).client ≤ (l.getD (IntKind.i64.wrap ((k : Int) - 1)).toNat default).client)) = !dnAt l k := by
  unfold dnAt
  rw [Bool.eq_iff_iff]
  by_cases h0 : k = 0
  · subst h0
    simp
    omega
  · rw [wpr (by omega) hk]
    have e : (k == 0) = false := by simpa using h0
    simp only [e, Bool.false_or, Bool.or_eq_true, Bool.and_eq_true, Bool.not_eq_true', Bool.and_eq_false_iff, Bool.or_eq_false_iff, decide_eq_true_eq, decide_eq_false_iff_not]
    omega
theorem shOk_f1 {s : Shf} {k : Nat} (hk : k < s.lines.length) (h : lnAt s.lines s.floor k = false) : shOk s = false := by rw [shOk, all_f hk h]; simp
theorem shOk_f2 {s : Shf} {k : Nat} (hk : k < s.dones.length) (h : dnAt s.dones k = false) : shOk s = false := by rw [shOk, all_f hk h]; simp
set_option maxRecDepth 20000 in
theorem sCheck_rc (s : Shf) (hz : zShf s) (M : List Blk) : CallR Try.prog M n_shelf_Check [shfA s] (.i (if shOk s then 0 else 1)) M := by
  refine callPG F_shelf_Check (Nat.le_of_ble_eq_true rfl) (by simp only [go_sem]) ?_ M
  obtain ⟨lines, dones, floor⟩ := s
  obtain ⟨hll, hdl, hser, hsmp⟩ := hz
  simp only at hll hdl hser hsmp ⊢
  have hbad : ∀ (e : Nat → SV) (X : List Blk), shOk ⟨lines, dones, floor⟩ = false → e 2 = .i 1 → FinK 109 0 [.t 2] (.i (if shOk ⟨lines, dones, floor⟩ then 0 else 1)) [] .ret ⟨e, X⟩ := by
    intro e X h h2
    rw [h]
    exact fin0 (.inr rfl) (qs := [.i 1]) (cnd := True) (by simp only [go_sem, h2]) trivial (SubS.refl _) (by simp only [go_sem])
  refine run_seqV ?_
  simp only [go_sem]
  refine run_seqV ?_
  simp only [go_sem]
  refine callg0 (fun _ => in_rc floor 0 1099511627776) ?_
  simp only [go_sem]
  refine ⟨fun hc => hbad _ _ ?_ (by simp only [go_sem]), fun hc => ?_⟩
  · cases h : shOk ⟨lines, dones, floor⟩ with
    | false => rfl
    | true =>
      exfalso
      simp only [shOk, Bool.and_eq_true, decide_eq_true_eq] at h
      simp only [Bool.or_eq_true, decide_eq_true_eq, Bool.not_eq_true', decide_eq_false_iff_not] at hc
      omega
  refine run_seqV ?_
  simp only [go_sem]
  refine V_loop (ι := Nat) (J := fun k => k ≤ lines.length ∧ ∀ i, i < k → lnAt lines floor i = true) (env := fun k => [(1, .p (.one (.ptr 0 0 0 0))), (24, .p (linL lines)), (25, .i lines.length), (26, .i k)]) (mem := fun _ => [.rows 48 3 0 [[.c (immL 2 Lin.c lines), .c (immL 5 Dn.c dones), .c (.v (.int .i64 floor))]] true]) (μ := fun k => lines.length - k) 0 ⟨Nat.zero_le _, fun j hj => by omega⟩ ⟨[], by simp only [go_sem], Nat.zero_le _, by simp only [go_sem], by simp only [go_sem, ltB]⟩ ?_
  rintro k ⟨hk, hok⟩
  simp only [go_sem]
  refine ⟨fun h1 => ⟨by omega, ?_⟩, fun h1 => ?_⟩
  · refine call0 (series_rc _ (hser k h1)) ?_
    simp only [go_sem]
    have hs1 := hsmp k h1
    refine ⟨fun hc => ?_, callg0 (fun _ => bCheck_rc _ (by omega)) ?_⟩
    · have := (Bool.and_eq_true_iff.1 hc).2
      rw [w64p (by simpa using this) (by omega)]
      omega
    simp only [go_sem]
    refine ⟨fun hc => ?_, ?_⟩
    · have hc := (Bool.and_eq_true_iff.1 (Bool.and_eq_true_iff.1 hc).1).2
      rw [Bool.not_eq_true', beq_eq_false_iff_ne] at hc
      omega
    rw [lnAt_key _ _ (by omega)]
    refine ⟨fun hc => hbad _ _ (shOk_f1 h1 (by simpa using hc)) (by simp only [go_sem]), fun hc => ⟨k + 1, ⟨by omega, fun j hj => ?_⟩, by omega, ?_⟩⟩
    · by_cases e : j = k
      · subst e; simpa using hc
      · exact hok j (by omega)
    · refine ⟨_, by simp only [go_sem]; rfl, Nat.zero_le _, ?_, by simp only [go_sem, ltB]⟩
      simp only [go_sem, w64s (show k < 9223372036854775807 by omega)]
  · refine run_seqV ?_
    simp only [go_sem]
    refine V_loop (ι := Nat) (J := fun k => k ≤ dones.length ∧ ∀ i, i < k → dnAt dones i = true) (env := fun k => [(1, .p (.one (.ptr 0 0 0 0))), (75, .p (dnL dones)), (76, .i dones.length), (77, .i k)]) (mem := fun _ => [.rows 48 3 0 [[.c (immL 2 Lin.c lines), .c (immL 5 Dn.c dones), .c (.v (.int .i64 floor))]] true]) (μ := fun k => dones.length - k) 0 ⟨Nat.zero_le _, fun j hj => by omega⟩ ⟨[], by simp only [go_sem], Nat.zero_le _, by simp only [go_sem], by simp only [go_sem, ltB]⟩ ?_
    rintro j ⟨hj, hokd⟩
    simp only [go_sem]
    refine ⟨fun h2 => ⟨by omega, ?_⟩, fun h2 => ?_⟩
    · refine call0 (in_rc _ _ _) ?_
      simp only [go_sem]
      refine callg0 (fun _ => in_rc _ _ _) ?_
      simp only [go_sem]
      rw [dnAt_key _ (by omega)]
      refine ⟨fun hc => ?_, fun hc => hbad _ _ (shOk_f2 h2 (by simpa using hc)) (by simp only [go_sem]), fun hc => ⟨j + 1, ⟨by omega, fun i hi => ?_⟩, by omega, ?_⟩⟩
      · have := (Bool.and_eq_true_iff.1 hc).2
        rw [w64p (by simpa using this) (by omega)]
        omega
      · by_cases e : i = j
        · subst e; simpa using hc
        · exact hokd i (by omega)
      · refine ⟨_, by simp only [go_sem]; rfl, Nat.zero_le _, ?_, by simp only [go_sem, ltB]⟩
        simp only [go_sem, w64s (show j < 9223372036854775807 by omega)]
    · have hok' : shOk ⟨lines, dones, floor⟩ = true := by
        simp only [Bool.or_eq_false_iff, decide_eq_false_iff_not, Bool.not_eq_false', decide_eq_true_eq] at hc
        simp only [shOk, Bool.and_eq_true, decide_eq_true_eq]
        exact ⟨⟨by omega, all_t (fun i hi => hok i (by omega))⟩, all_t (fun i hi => hokd i (by omega))⟩
      rw [hok']
      refine V_sound ?_
      simp only [go_sem]
      exact fin0 (.inr rfl) rfl trivial (SubS.refl _) (by simp only [go_sem])
end Go.Proofs.Ytcmkhlfjcdchmaa.A
end
section
namespace Go.Proofs.Ytcmkhlfjcdchmaa.A
open Go Go.Proofs.YtcmkhlfjcdchmaaAbs
theorem trim_len {l : List Smp} {f : Int} (h : smsOk l = true) (h0 : 0 < l.length) : ((rtrimS l f).length = l.length) = (f ≤ (l.getD 0 default).t) := by
  rw [eq_iff_iff, rtrimS, List.length_filter_eq_length_iff]
  refine ⟨fun hx => by simpa using hx (l.getD 0 default) (getD_mem _ h0), fun hx x hm => ?_⟩
  obtain ⟨i, hi, rfl⟩ := (mem_getD (d := (default : Smp))).1 hm
  by_cases e : i = 0
  · subst e; simpa using hx
  · have := sm_rise h (show 0 < i by omega) hi
    simp only [decide_eq_true_eq]
    omega
theorem lnAt_key3 (l : List Lin) (f : Int) {k : Nat} (hk : k ≤ 140737488355328) : (!serT (l.getD k default).ser || decide (0 < (k : Int)) && !sLt (l.getD (IntKind.i64.wrap ((k : Int) - 1)).toNat default).ser (l.getD k default).ser || ((l.getD k default).smps.length : Int) == 0 || !smsOk (l.getD k default).smps || ((rtrimS (l.getD k default).smps f).length : Int) != ((l.getD k default).smps.length : Int)) = !lnAt l f k := by
  rw [← lnAt_key l f hk, ifne, leS_lt]
  cases hs : smsOk (l.getD k default).smps with
  | false => simp only [Bool.not_false, Bool.or_true, Bool.true_or]
  | true =>
    by_cases h0 : 0 < (l.getD k default).smps.length
    · have : (((rtrimS (l.getD k default).smps f).length : Int) != ((l.getD k default).smps.length : Int)) = decide (((l.getD k default).smps.getD 0 default).t < f) := by
        have e := trim_len (f := f) hs h0
        rw [Bool.eq_iff_iff]
        simp only [bne_iff_ne, ne_eq, Int.natCast_inj, e, decide_eq_true_eq, Int.not_le]
      rw [this]
    · have : (((l.getD k default).smps.length : Int) == 0) = true := by
        rw [beq_iff_eq]; omega
      rw [this]
      simp only [Bool.or_true, Bool.true_or]
theorem dnAt_key3 (l : List Dn) {k : Nat} (hk : k ≤ 140737488355328) : (decide ((l.getD k default).client < 1) || decide (2147483648 ≤ (l.getD k default).client) || decide ((l.getD k default).id < 1) || decide (2147483648 ≤ (l.getD k default).id) || decide (0 < (k : Int)) && decide ((l.getD k default).client ≤ (l.getD (IntKind.i64.wrap ((k : Int) - 1)).toNat default).client)) = !dnAt l k := by
  rw [← dnAt_key l hk, Bool.eq_iff_iff]
  simp only [Bool.or_eq_true, Bool.and_eq_true, Bool.not_eq_true', decide_eq_true_eq, decide_eq_false_iff_not]
  omega
set_option maxRecDepth 20000 in
theorem rsMay_rc (s : Shf) (hz : zShf s) (M : List Blk) : CallR Try.prog M n_windroseref14_May [shfA s] (.b (shOk s)) M := by
  refine callPG F_windroseref14_May (Nat.le_of_ble_eq_true rfl) (by simp only [go_sem]) ?_ M
  obtain ⟨lines, dones, floor⟩ := s
  obtain ⟨hll, hdl, hser, hsmp⟩ := hz
  simp only at hll hdl hser hsmp ⊢
  have hbad : ∀ (e : Nat → SV) (X : List Blk), shOk ⟨lines, dones, floor⟩ = false → e 2 = .b false → FinK 129 0 [.t 2] (.b (shOk ⟨lines, dones, floor⟩)) [] .ret ⟨e, X⟩ := by
    intro e X h h2
    rw [h]
    exact fin0 (.inr rfl) (qs := [.b false]) (cnd := True) (by simp only [go_sem, h2]) trivial (SubS.refl _) (by simp only [go_sem])
  have hgood : ∀ (e : Nat → SV) (X : List Blk) (b : Bool), shOk ⟨lines, dones, floor⟩ = b → e 2 = .b b → FinK 129 0 [.t 2] (.b (shOk ⟨lines, dones, floor⟩)) [] .ret ⟨e, X⟩ := by
    intro e X b h h2
    rw [h]
    exact fin0 (.inr rfl) (qs := [.b b]) (cnd := True) (by simp only [go_sem, h2]) trivial (SubS.refl _) (by simp only [go_sem])
  refine run_seqV ?_
  simp only [go_sem]
  refine run_seqV ?_
  simp only [go_sem]
  refine V_loop (ι := Nat) (J := fun k => k ≤ lines.length ∧ ∀ i, i < k → lnAt lines floor i = true) (env := fun k => [(1, .p (.one (.ptr 0 0 0 0))), (3, .i k)]) (mem := fun _ => [.rows 48 3 0 [[.c (immL 2 Lin.c lines), .c (immL 5 Dn.c dones), .c (.v (.int .i64 floor))]] true]) (μ := fun k => lines.length - k) 0 ⟨Nat.zero_le _, fun j hj => by omega⟩ ⟨[], by simp only [go_sem], Nat.zero_le _, by simp only [go_sem], by simp only [go_sem, ltB]⟩ ?_
  rintro k ⟨hk, hok⟩
  simp only [go_sem]
  refine ⟨fun h1 => ⟨by omega, ?_⟩, fun h1 => ?_⟩
  · refine call0 (rseries_rc _ (hser k h1)) ?_
    simp only [go_sem]
    have hs1 := hsmp k h1
    have hs1' : (lines.getD k default).smps.length ≤ 140737488355328 := by omega
    refine ⟨fun hc => ?_, callg0 (fun _ => rMay_rc _ hs1') ?_⟩
    · have := (Bool.and_eq_true_iff.1 hc).2
      rw [w64p (by simpa using this) (by omega)]
      omega
    simp only [go_sem]
    refine callg0 (fun _ => rTrim_rc _ (by omega) floor) ?_
    simp only [go_sem]
    rw [lnAt_key3 _ _ (by omega)]
    refine ⟨fun hc => hbad _ _ (shOk_f1 h1 (by simpa using hc)) (by simp only [go_sem]), fun hc => ⟨k + 1, ⟨by omega, fun j hj => ?_⟩, by omega, ?_⟩⟩
    · by_cases e : j = k
      · subst e; simpa using hc
      · exact hok j (by omega)
    · refine ⟨_, by simp only [go_sem]; rfl, Nat.zero_le _, ?_, by simp only [go_sem, ltB]⟩
      simp only [go_sem, w64s (show k < 9223372036854775807 by omega)]
  · refine run_seqV ?_
    simp only [go_sem]
    refine V_loop (ι := Nat) (J := fun k => k ≤ dones.length ∧ ∀ i, i < k → dnAt dones i = true) (env := fun k => [(1, .p (.one (.ptr 0 0 0 0))), (5, .i k)]) (mem := fun _ => [.rows 48 3 0 [[.c (immL 2 Lin.c lines), .c (immL 5 Dn.c dones), .c (.v (.int .i64 floor))]] true]) (μ := fun k => dones.length - k) 0 ⟨Nat.zero_le _, fun j hj => by omega⟩ ⟨[], by simp only [go_sem], Nat.zero_le _, by simp only [go_sem], by simp only [go_sem, ltB]⟩ ?_
    rintro j ⟨hj, hokd⟩
    simp only [go_sem]
    refine ⟨fun h2 => ⟨by omega, ?_⟩, fun h2 => ?_⟩
    · rw [dnAt_key3 _ (by omega)]
      refine ⟨fun hc => ?_, fun hc => hbad _ _ (shOk_f2 h2 (by simpa using hc)) (by simp only [go_sem]), fun hc => ⟨j + 1, ⟨by omega, fun i hi => ?_⟩, by omega, ?_⟩⟩
      · have := (Bool.and_eq_true_iff.1 hc).2
        rw [w64p (by simpa using this) (by omega)]
        omega
      · by_cases e : i = j
        · subst e; simpa using hc
        · exact hokd i (by omega)
      · refine ⟨_, by simp only [go_sem]; rfl, Nat.zero_le _, ?_, by simp only [go_sem, ltB]⟩
        simp only [go_sem, w64s (show j < 9223372036854775807 by omega)]
    · refine V_sound ?_
      simp only [go_sem]
      have hfin : shOk ⟨lines, dones, floor⟩ = (decide ((lines.length : Int) ≤ 16) && decide ((dones.length : Int) ≤ 8) && decide (0 ≤ floor) && decide (floor ≤ 1099511627776)) := by
        have a1 : (List.range lines.length).all (lnAt lines floor) = true := all_t (fun i hi => hok i (by omega))
        have a2 : (List.range dones.length).all (dnAt dones) = true := all_t (fun i hi => hokd i (by omega))
        rw [Bool.eq_iff_iff]
        simp only [shOk, a1, a2, Bool.and_eq_true, decide_eq_true_eq, Bool.and_true]
        omega
      exact hgood _ _ _ hfin (by simp only [go_sem])
end Go.Proofs.Ytcmkhlfjcdchmaa.A
end
section
namespace Go.Proofs.Ytcmkhlfjcdchmaa.A
open Go Go.Proofs.YtcmkhlfjcdchmaaAbs
abbrev lnR (v : Nat) (l : List Lin) (f : Bool) : Blk := .rows 87 2 v (rowsL 2 Lin.c l) f
theorem cloneAt {α : Type} [Inhabited α] {f t sz by_ : Nat} {z : List Value} {c : α → Nat → CV} (hF : Fun Try.prog f 8 (cloneC t sz by_ z) [.t 2]) (l : List α) (hl : l.length * by_ ≤ 140737488355328) {n : Nat} (N : List Blk) (hN : N[n]? = some (.rows 0 0 0 [] true)) :
    CallR Try.prog N f [immP sz c l] (.p (.one (.arr sz n 1 0 l.length))) (N.set n (.rows t sz 1 (rowsL sz c l) false)) :=
  callR_place (v := 1) (cloneO_rc hF l hl (M := []) (by simp)) (rowsL_closed l) (by simp only [go_sem]) (by rw [rowsL_len]; exact Nat.le_refl _) n N hN
end Go.Proofs.Ytcmkhlfjcdchmaa.A
end
section
namespace Go.Proofs.Ytcmkhlfjcdchmaa.A
open Go Go.Proofs.YtcmkhlfjcdchmaaAbs
section
variable {M l : List Blk} {k b : Nat} {X Y : Blk}
end
abbrev zSh : Blk := .rows 48 3 0 [[.c (.v (.slice none 0 0)), .c (.v (.slice none 0 0)), .c (.v (.int .i64 0))]] true
end Go.Proofs.Ytcmkhlfjcdchmaa.A
end
section
namespace Go.Proofs.Ytcmkhlfjcdchmaa.A
open Go Go.Proofs.YtcmkhlfjcdchmaaAbs
end Go.Proofs.Ytcmkhlfjcdchmaa.A
end
section
namespace Go.Proofs.Ytcmkhlfjcdchmaa.A
open Go Go.Proofs.YtcmkhlfjcdchmaaAbs
end Go.Proofs.Ytcmkhlfjcdchmaa.A
end
section
namespace Go.Proofs.Ytcmkhlfjcdchmaa.A
open Go Go.Proofs.YtcmkhlfjcdchmaaAbs
end Go.Proofs.Ytcmkhlfjcdchmaa.A
end
section
namespace Go.Proofs.Ytcmkhlfjcdchmaa.A
open Go Go.Proofs.YtcmkhlfjcdchmaaAbs
structure Ent where
  epoch : Int
  client : Int
  id : Int
  op : Opn
instance : Inhabited Ent := ⟨⟨0, 0, 0, default⟩⟩
@[go_sem] def Ent.c (x : Ent) : Nat → CV
  | 0 => .v (.int .i64 x.epoch)
  | 1 => .v (.int .i64 x.client)
  | 2 => .v (.int .i64 x.id)
  | 3 => .v (.int .i64 x.op.kind)
  | 4 => .v (.string x.op.ser)
  | 5 => .v (.int .i64 x.op.smp.t)
  | 6 => .v (.int .i64 x.op.smp.v)
  | 7 => .v (.int .i64 x.op.frm)
  | 8 => .v (.int .i64 x.op.to)
  | _ => .v (.int .i64 x.op.tot)
abbrev entCells (x : Ent) : List AV := .c (.v (.int .i64 x.epoch)) :: .c (.v (.int .i64 x.client)) :: .c (.v (.int .i64 x.id)) :: opRow x.op
abbrev entA (x : Ent) : Pt := .agg (entCells x)
theorem subS_tupL {l l' : List Pt} (h : SubL l l') : SubS (.tup l) (.tup l') := by
  rintro I σ y ⟨vs, rfl, hs, hr⟩
  refine ⟨vs, rfl, by rw [hs, hl_len h], fun k q x hq hx => ?_⟩
  have hk : k < l.length := by rw [hl_len h]; exact getElem?_lt hq
  exact h.get k _ q (List.getElem?_eq_getElem hk) hq I σ x (hr k _ x (List.getElem?_eq_getElem hk) hx)
where hl_len {l l' : List Pt} (h : SubL l l') : l.length = l'.length := h.length
def SubAs : List AV → List AV → Prop
  | [], [] => True
  | a :: l, a' :: l' => SubA a a' ∧ SubAs l l'
  | _, _ => False
theorem SubAs.length : ∀ {l l' : List AV}, SubAs l l' → l.length = l'.length
  | [], [], _ => rfl
  | a :: l, a' :: l', h => by simp [SubAs.length h.2]
  | [], a :: l', h => h.elim
  | a :: l, [], h => h.elim
theorem SubAs.get : ∀ {l l' : List AV}, SubAs l l' → ∀ (k : Nat) (q q' : AV), l[k]? = some q → l'[k]? = some q' → SubA q q'
  | [], [], _, k, q, q', h, _ => by simp at h
  | a :: l, a' :: l', h, 0, q, q', h1, h2 => by injection h1 with h1; injection h2 with h2; subst h1; subst h2; exact h.1
  | a :: l, a' :: l', h, k + 1, q, q', h1, h2 => SubAs.get h.2 k q q' h1 h2
  | [], a :: l', h, _, _, _, _, _ => h.elim
  | a :: l, [], h, _, _, _, _, _ => h.elim
theorem subP_aggL {l l' : List AV} (h : SubAs l l') : SubP (.agg l) (.agg l') := by
  rintro I σ y ⟨cs, rfl, hl, hr⟩
  refine ⟨cs, rfl, by rw [hl, h.length], fun k q x hq hx => ?_⟩
  have hk : k < l.length := by rw [h.length]; exact getElem?_lt hq
  exact h.get k _ q (List.getElem?_eq_getElem hk) hq I σ x (hr k _ x (List.getElem?_eq_getElem hk) hx)
end Go.Proofs.Ytcmkhlfjcdchmaa.A
end
section
namespace Go.Proofs.Ytcmkhlfjcdchmaa.A
open Go Go.Proofs.YtcmkhlfjcdchmaaAbs
end Go.Proofs.Ytcmkhlfjcdchmaa.A
end
section
namespace Go.Proofs.Ytcmkhlfjcdchmaa.A
open Go Go.Proofs.YtcmkhlfjcdchmaaAbs
end Go.Proofs.Ytcmkhlfjcdchmaa.A
end
section
namespace Go.Proofs.Ytcmkhlfjcdchmaa.A
open Go Go.Proofs.YtcmkhlfjcdchmaaAbs
abbrev shfB (s : Shf) : Blk := .rows 48 3 0 [[.c (immL 2 Lin.c s.lines), .c (immL 5 Dn.c s.dones), .c (.v (.int .i64 s.floor))]] true
end Go.Proofs.Ytcmkhlfjcdchmaa.A
end
section
namespace Go.Proofs.Ytcmkhlfjcdchmaa.A
open Go Go.Proofs.YtcmkhlfjcdchmaaAbs
end Go.Proofs.Ytcmkhlfjcdchmaa.A
end
section
namespace Go.Proofs.Ytcmkhlfjcdchmaa.A
open Go Go.Proofs.YtcmkhlfjcdchmaaAbs
abbrev entL (l : List Ent) : Pt := immP 10 Ent.c l
end Go.Proofs.Ytcmkhlfjcdchmaa.A
end
section
namespace Go.Proofs.Ytcmkhlfjcdchmaa.A
open Go Go.Proofs.YtcmkhlfjcdchmaaAbs
theorem gd_get {α : Type} [Inhabited α] {l : List α} {i : Nat} (h : i < l.length) : l.getD i default = l[i] := by
  rw [List.getD_eq_getElem?_getD, List.getElem?_eq_getElem h]; rfl
theorem gd_app {α : Type} [Inhabited α] (A B : List α) (k : Nat) : (A ++ B).getD (A.length + k) default = B.getD k default := by
  rw [List.getD_eq_getElem?_getD, List.getD_eq_getElem?_getD, List.getElem?_append_right (Nat.le_add_right _ _), Nat.add_sub_cancel_left]
theorem gd_appL {α : Type} [Inhabited α] (A B : List α) {k : Nat} (h : k < A.length) : (A ++ B).getD k default = A.getD k default := by
  rw [List.getD_eq_getElem?_getD, List.getD_eq_getElem?_getD, List.getElem?_append_left h]
theorem all_mem {α : Type} [Inhabited α] {l : List α} {p : α → Prop} : (∀ i, i < l.length → p (l.getD i default)) ↔ ∀ x ∈ l, p x := by
  constructor
  · intro h x hx
    obtain ⟨i, hi, rfl⟩ := List.mem_iff_getElem.1 hx
    have := h i hi
    rwa [gd_get hi] at this
  · intro h i hi
    rw [gd_get hi]
    exact h _ (List.getElem_mem hi)
end Go.Proofs.Ytcmkhlfjcdchmaa.A
end
section
namespace Go.Proofs.Ytcmkhlfjcdchmaa.A
open Go Go.Proofs.YtcmkhlfjcdchmaaAbs
@[go_sem] def Ans.c (x : Ans) : Nat → CV
  | 0 => .v (.int .i64 x.code)
  | 1 => .v (.bool x.has)
  | _ => .v (.int .i64 x.n)
theorem lin_ext {x y : Lin} : x = y ↔ x.ser = y.ser ∧ x.smps = y.smps := by
  cases x; cases y; simp
instance : DecidableEq Lin := fun a b => decidable_of_iff' _ lin_ext
theorem ans_ext {x y : Ans} : x = y ↔ x.code = y.code ∧ x.has = y.has ∧ x.n = y.n := by
  cases x; cases y; simp
instance : DecidableEq Ans := fun a b => decidable_of_iff' _ ans_ext
theorem dn_ext {x y : Dn} : x = y ↔ x.client = y.client ∧ x.id = y.id ∧ x.ans = y.ans := by
  cases x; cases y; simp
instance : DecidableEq Dn := fun a b => decidable_of_iff' _ dn_ext
theorem shf_ext {x y : Shf} : x = y ↔ x.lines = y.lines ∧ x.dones = y.dones ∧ x.floor = y.floor := by
  cases x; cases y; simp
instance : DecidableEq Shf := fun a b => decidable_of_iff' _ shf_ext
theorem endB {n : Nat} (v : Bool) (e : Nat → SV) (X : List Blk) (r : Nat) (h4 : e r = .b v) : FinK n 0 [.t r] (.b v) [] .ret ⟨e, X⟩ := by
  refine fin0 (.inr rfl) (qs := [.one (.c (.v (.bool v)))]) (cnd := True) ?_ trivial (SubS.refl _) (by simp only [go_sem])
  simp only [go_sem, h4]
theorem all_no {α : Type} [Inhabited α] {l : List α} {p : α → Bool} {k : Nat} (hk : k < l.length) (h : p (l.getD k default) = false) : l.all p = false := by
  rw [List.all_eq_false]
  exact ⟨l.getD k default, by rw [gd_get hk]; exact List.getElem_mem hk, by rw [h]; simp⟩
theorem all_yes {α : Type} [Inhabited α] {l : List α} {p : α → Bool} (h : ∀ i, i < l.length → p (l.getD i default) = true) : l.all p = true := by
  rw [List.all_eq_true]
  exact all_mem.1 h
def light14B (s : Shf) : Bool := decide (s.lines.length ≤ 20) && decide (s.dones.length ≤ 20) && s.lines.all fun x => decide (x.ser.size ≤ 500) && decide (x.smps.length ≤ 70)
theorem light14_rc (s : Shf) (hl : s.lines.length ≤ 140737488355328) (M : List Blk) : CallR Try.prog M n_windroselaw14_Light [shfA s] (.b (light14B s)) M := by
  refine callPG F_windroselaw14_Light (Nat.le_of_ble_eq_true rfl) (by simp only [go_sem]) ?_ M
  obtain ⟨lines, dones, floor⟩ := s
  simp only at hl ⊢
  refine run_seqV ?_
  simp only [go_sem]
  refine run_seqV ?_
  simp only [go_sem]
  refine R_loop (ι := Nat) (J := fun k => k ≤ lines.length ∧ k ≤ 20 ∧ ∀ i, i < k → (decide ((lines.getD i default).ser.size ≤ 500) && decide ((lines.getD i default).smps.length ≤ 70)) = true)
    (env := fun k => [(1, .p (.one (.ptr 0 0 0 0))), (3, .i k)])
    (mem := fun _ => [shfB ⟨lines, dones, floor⟩])
    (μ := fun k => lines.length - k) 0 ⟨Nat.zero_le _, Nat.zero_le _, fun i hi => absurd hi (Nat.not_lt_zero _)⟩ ⟨[], rfl, Nat.zero_le _, ?_, ?_⟩ ?_
  · simp only [go_sem]
  · simp only [go_sem, ltB]
  rintro k ⟨hk, hk2, hok⟩
  refine run_seqV ?_
  simp only [go_sem]
  refine ⟨fun h1 => ?_, fun h1 => ?_⟩
  · have h1 : k < lines.length ∧ k < 20 := by
      simp only [Bool.and_eq_true, decide_eq_true_eq] at h1
      omega
    refine run_seq ?_
    refine run_block ?_
    refine run_seqV ?_
    simp only [go_sem]
    refine ⟨by omega, fun _ => by omega, V_sound ?_⟩
    simp only [go_sem]
    refine ⟨fun hc => ?_, fun hc => ?_⟩
    · have : (lines.all fun x => decide (x.ser.size ≤ 500) && decide (x.smps.length ≤ 70)) = false := all_no h1.1 (by
        simp only [Bool.or_eq_true, decide_eq_true_eq, Bool.and_eq_false_iff, decide_eq_false_iff_not] at hc ⊢
        omega)
      rw [light14B, this, Bool.and_false]
      exact endB false _ _ 2 (by simp only [go_sem])
    · refine V_sound ?_
      simp only [go_sem, w64s (show k < 9223372036854775807 by omega)]
      refine ⟨k + 1, ⟨by omega, by omega, fun i hi => ?_⟩, by omega, [], by simp only [List.append_nil], Nat.zero_le _, ?_, ?_⟩
      · by_cases e : i = k
        · subst e
          simp only [Bool.or_eq_false_iff, decide_eq_false_iff_not, Bool.and_eq_true, decide_eq_true_eq] at hc ⊢
          omega
        · exact hok i (by omega)
      · simp only [go_sem]
      · simp only [go_sem, ltB]
  · refine V_sound ?_
    simp only [go_sem]
    have e : light14B ⟨lines, dones, floor⟩ = (decide ((lines.length : Int) ≤ 20) && decide ((dones.length : Int) ≤ 20)) := by
      rw [light14B]
      by_cases h8 : lines.length ≤ 20
      · have hkl : k = lines.length := by
          simp only [Bool.and_eq_false_iff, decide_eq_false_iff_not] at h1
          omega
        subst hkl
        rw [show (lines.all fun x => decide (x.ser.size ≤ 500) && decide (x.smps.length ≤ 70)) = true from all_yes hok, Bool.and_true, Bool.eq_iff_iff]
        simp only [Bool.and_eq_true, decide_eq_true_eq]
        omega
      · simp only
        rw [decide_eq_false h8, decide_eq_false (show ¬ (lines.length : Int) ≤ 20 by omega), Bool.false_and, Bool.false_and, Bool.false_and]
    rw [e]
    exact endB _ _ _ 2 (by simp only [go_sem])
end Go.Proofs.Ytcmkhlfjcdchmaa.A
end
section
namespace Go.Proofs.Ytcmkhlfjcdchmaa.A
open Go Go.Proofs.YtcmkhlfjcdchmaaAbs
def upLn (l : List Lin) : Prop := l.Pairwise fun x y => sLt x.ser y.ser = true
structure linOk (f : Int) (x : Lin) : Prop where
  ser : serT x.ser = true
  ne : x.smps.length ≠ 0
  ok : smsOk x.smps = true
  fl : ∀ y ∈ x.smps, f ≤ y.t
structure dnOk (d : Dn) : Prop where
  c1 : 1 ≤ d.client
  c2 : d.client ≤ 2147483647
  i1 : 1 ≤ d.id
  i2 : d.id ≤ 2147483647
def upD (l : List Dn) : Prop := l.Pairwise fun x y => x.client < y.client
structure shP (s : Shf) : Prop where
  ll : s.lines.length ≤ 16
  dl : s.dones.length ≤ 8
  f0 : 0 ≤ s.floor
  f1 : s.floor ≤ 1099511627776
  ln : ∀ x ∈ s.lines, linOk s.floor x
  up : upLn s.lines
  dn : ∀ d ∈ s.dones, dnOk d
  ud : upD s.dones
end Go.Proofs.Ytcmkhlfjcdchmaa.A
end
section
namespace Go.Proofs.Ytcmkhlfjcdchmaa.A
open Go Go.Proofs.YtcmkhlfjcdchmaaAbs
theorem zP : shP ⟨[], [], 0⟩ where
  ll := Nat.zero_le _
  dl := Nat.zero_le _
  f0 := Int.le_refl _
  f1 := (by decide : (0 : Int) ≤ 1099511627776)
  ln := fun x hx => by cases hx
  up := List.Pairwise.nil
  dn := fun x hx => by cases hx
  ud := List.Pairwise.nil
/-- All lines' names are short. -/
def serSz (n : Nat) (s : Shf) : Prop := ∀ x ∈ s.lines, x.ser.size ≤ n
theorem shP_z {s : Shf} (h : shP s) (hs : serSz 2000 s) : zShf s := by
  refine ⟨by have := h.ll; omega, by have := h.dl; omega, fun i hi => ?_, fun i hi => ?_⟩
  · rw [gd_get hi]
    exact hs _ (List.getElem_mem hi)
  · rw [gd_get hi]
    have := smsOk_len (h.ln _ (List.getElem_mem hi)).ok
    omega
end Go.Proofs.Ytcmkhlfjcdchmaa.A
end
section
namespace Go.Proofs.Ytcmkhlfjcdchmaa.A
open Go Go.Proofs Go.Proofs.YtcmkhlfjcdchmaaAbs
theorem wlen {n b : Nat} (h : n * b ≤ 140737488351232) (hb : 0 < b) : n ≤ 140737488355328 := by
  have := Nat.le_mul_of_pos_right n hb
  omega
theorem zSz (n : Nat) : serSz n ⟨[], [], 0⟩ := fun x hx => by cases hx
theorem light_z {s : Shf} (h : light14B s = true) : zShf s ∧ serSz 500 s := by
  unfold light14B at h
  rw [Bool.and_eq_true, Bool.and_eq_true, List.all_eq_true] at h
  obtain ⟨⟨h1, h2⟩, h3⟩ := h
  have h1 := of_decide_eq_true h1
  have h2 := of_decide_eq_true h2
  have h4 : ∀ x ∈ s.lines, x.ser.size ≤ 500 ∧ x.smps.length ≤ 70 := fun x hx => by
    have := h3 x hx
    rwa [Bool.and_eq_true, decide_eq_true_eq, decide_eq_true_eq] at this
  refine ⟨⟨by omega, by omega, fun i hi => ?_, fun i hi => ?_⟩, fun x hx => (h4 x hx).1⟩
  · have := (all_mem.2 h4 i hi).1
    omega
  · have := (all_mem.2 h4 i hi).2
    omega
end Go.Proofs.Ytcmkhlfjcdchmaa.A
end
section
namespace Go.Proofs.Ytcmkhlfjcdchmaa.A
open Go Go.Proofs Go.Proofs.YtcmkhlfjcdchmaaAbs
end Go.Proofs.Ytcmkhlfjcdchmaa.A
end
section
namespace Go.Proofs.Ytcmkhlfjcdchmaa.A
open Go Go.Proofs Go.Proofs.YtcmkhlfjcdchmaaAbs
end Go.Proofs.Ytcmkhlfjcdchmaa.A
end
