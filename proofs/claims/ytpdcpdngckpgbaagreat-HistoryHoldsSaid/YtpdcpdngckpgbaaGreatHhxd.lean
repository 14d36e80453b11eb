/- Part 4 of the texts on which the row stands: Shelf, LbD, LbE, LbF, LbG, LbH, LbI, LbJ, LbK, LbP, LbL, LbM, LbN, LbO, AbsEl, AbsEq, AbsDel, AbsMe. Conditions: none. -/
import Derived.Test.YtpdcpdngckpgbaaGreatHhxc
import Derived.Shelf.Strings.Builder1
import Derived.Shelf.Small.Bits
import Derived.Shelf.Small.Strs
import Derived.Shelf.Strconv.Itoa0
import Derived.Shelf.Strings.Search1
import Derived.Shelf.Strings.Search2
import Derived.Shelf.Strings.Cut
import Derived.Shelf.LaysM
import Derived.Shelf.Strings.Shaped
import Derived.Test.YtpdcpdngckpgbaaGreatProg
set_option linter.unusedVariables false
set_option linter.unusedSimpArgs false
section
namespace Go.Proofs
open Go.Shelf
def Tryz.lays125_ren : Go.Shelf.Ren := ⟨fun | 125 => 177 | 128 => 211 | 129 => 212 | n => n, fun | 46 => 200 | 3 => 3 | 51 => 249 | 53 => 251 | 4 => 4 | 5 => 5 | 9 => 9 | n => n, fun | n => n⟩
theorem Tryz.lays125 : Go.Proofs.Lays.n125 Tryz.prog Tryz.lays125_ren := {
 mixed := by kernel_rfl
 f125 := Tryz.func177.trans (congrArg some (by kernel_rfl))
 f128 := Tryz.func211.trans (congrArg some (by kernel_rfl))
 f129 := Tryz.func212.trans (congrArg some (by kernel_rfl))
 t3 := Tryz.underlying3
 a3 := Tryz.isAgg3
 z3 := Tryz.sizeOf3
 v3 := Tryz.zeroValue3
 t4 := Tryz.underlying4
 a4 := Tryz.isAgg4
 z4 := Tryz.sizeOf4
 v4 := Tryz.zeroValue4
 t5 := Tryz.underlying5
 a5 := Tryz.isAgg5
 z5 := Tryz.sizeOf5
 v5 := Tryz.zeroValue5
 t9 := Tryz.underlying9
 a9 := Tryz.isAgg9
 z9 := Tryz.sizeOf9
 v9 := Tryz.zeroValue9
 t46 := Tryz.underlying200
 a46 := Tryz.isAgg200
 z46 := Tryz.sizeOf200
 v46 := Tryz.zeroValue200
 t51 := Tryz.underlying249
 a51 := Tryz.isAgg249
 z51 := Tryz.sizeOf249
 v51 := Tryz.zeroValue249
 t53 := Tryz.underlying251
 a53 := Tryz.isAgg251
 z53 := Tryz.sizeOf251
 v53 := Tryz.zeroValue251 }
theorem Tryz.bits_Len (x : Int) (w : World) (h0 : 0 ≤ x) (h1 : x ≤ 18446744073709551615) :
  Calls Tryz.prog 177 #[.int .u64 x] w fun e w' => e = .returned (.int .i64 (Lib.bitLen x.toNat)) ∧ w' = w := Any.bits_Len Tryz.lays125 x w h0 h1
def Tryz.lays106_ren : Go.Shelf.Ren := ⟨fun | 106 => 105 | 213 => 145 | 265 => 185 | n => n, fun | 9 => 9 | 3 => 3 | n => n, fun | n => n⟩
theorem Tryz.lays106 : Go.Proofs.Lays.n106 Tryz.prog Tryz.lays106_ren := {
 mixed := by kernel_rfl
 f106 := Tryz.func105.trans (congrArg some (by kernel_rfl))
 f213 := Tryz.func145.trans (congrArg some (by kernel_rfl))
 f265 := Tryz.func185.trans (congrArg some (by kernel_rfl))
 t3 := Tryz.underlying3
 a3 := Tryz.isAgg3
 z3 := Tryz.sizeOf3
 v3 := Tryz.zeroValue3
 t9 := Tryz.underlying9
 a9 := Tryz.isAgg9
 z9 := Tryz.sizeOf9
 v9 := Tryz.zeroValue9 }
open Go.RowKit in
theorem Tryz.strings_Compare (a b : ByteArray) (w : World) :
  Calls Tryz.prog 105 #[.string a, .string b] w fun e w' => e = .returned (.int .i64 (Lib.compareBytes a.data.toList b.data.toList)) ∧ w' = w := Any.strings_Compare Tryz.lays106 a b w
def Tryz.lays145_ren : Go.Shelf.Ren := ⟨fun | 145 => 133 | 220 => 175 | 219 => 202 | 217 => 227 | 225 => 228 | 224 => 229 | 267 => 230 | 266 => 243 | 314 => 244 | n => n, fun | 9 => 9 | 4 => 4 | 59 => 182 | 3 => 3 | 5 => 5 | 46 => 200 | 146 => 277 | 51 => 249 | n => n, fun | 1 => 0 | n => n⟩
theorem Tryz.lays145 : Go.Proofs.Lays.n145 Tryz.prog Tryz.lays145_ren := {
 mixed := by kernel_rfl
 f145 := Tryz.func133.trans (congrArg some (by kernel_rfl))
 f217 := Tryz.func227.trans (congrArg some (by kernel_rfl))
 f219 := Tryz.func202.trans (congrArg some (by kernel_rfl))
 f220 := Tryz.func175.trans (congrArg some (by kernel_rfl))
 f224 := Tryz.func229.trans (congrArg some (by kernel_rfl))
 f225 := Tryz.func228.trans (congrArg some (by kernel_rfl))
 f266 := Tryz.func243.trans (congrArg some (by kernel_rfl))
 f267 := Tryz.func230.trans (congrArg some (by kernel_rfl))
 f314 := Tryz.func244.trans (congrArg some (by kernel_rfl))
 t3 := Tryz.underlying3
 a3 := Tryz.isAgg3
 z3 := Tryz.sizeOf3
 v3 := Tryz.zeroValue3
 t4 := Tryz.underlying4
 a4 := Tryz.isAgg4
 z4 := Tryz.sizeOf4
 v4 := Tryz.zeroValue4
 t5 := Tryz.underlying5
 a5 := Tryz.isAgg5
 z5 := Tryz.sizeOf5
 v5 := Tryz.zeroValue5
 t9 := Tryz.underlying9
 a9 := Tryz.isAgg9
 z9 := Tryz.sizeOf9
 v9 := Tryz.zeroValue9
 t46 := Tryz.underlying200
 a46 := Tryz.isAgg200
 z46 := Tryz.sizeOf200
 v46 := Tryz.zeroValue200
 t51 := Tryz.underlying249
 a51 := Tryz.isAgg249
 z51 := Tryz.sizeOf249
 v51 := Tryz.zeroValue249
 t59 := Tryz.underlying182
 a59 := Tryz.isAgg182
 z59 := Tryz.sizeOf182
 v59 := Tryz.zeroValue182
 t146 := Tryz.underlying277
 a146 := Tryz.isAgg277
 z146 := Tryz.sizeOf277
 v146 := Tryz.zeroValue277
 g1 := by kernel_rfl }
open Go.RowKit Go.Lib in
theorem Tryz.strings_Cut (s sep : ByteArray) (m : Int) (w : World) (hs : s.size < 4294967281) (hm : w.cell? ⟨0, 0, none⟩ = some (.int .i64 m)) :
  Calls Tryz.prog 133 #[.string s, .string sep] w fun e w' => e = .returned (.tuple #[.string ⟨(Lib.cut s.data.toList sep.data.toList).1.toArray⟩, .string ⟨(Lib.cut s.data.toList sep.data.toList).2.1.toArray⟩, .bool (Lib.cut s.data.toList sep.data.toList).2.2]) ∧ ∃ n, w' = w.drewN n := Any.strings_Cut Tryz.lays145 s sep m w hs hm
end Go.Proofs
end
section
namespace Go.Proofs.YtpdcpdngckpgbaaGreat.A
open Go Go.Proofs Go.Proofs.YtpdcpdngckpgbaaGreatAbs
def cutS (s sep : ByteArray) : ByteArray × ByteArray × Bool := (mkS (Lib.cut (bs s) (bs sep)).1, mkS (Lib.cut (bs s) (bs sep)).2.1, (Lib.cut (bs s) (bs sep)).2.2)
theorem Cut_rc (s sep : ByteArray) (hs : s.size < 4294967281) (M : List Blk) : CallR Tryz.prog M 133 [.s s, .s sep] (.tup [.s (cutS s sep).1, .s (cutS s sep).2.1, .b (cutS s sep).2.2]) M := by
 refine callR_lib (xs := [.string s, .string sep]) (v := .tuple #[.string (cutS s sep).1, .string (cutS s sep).2.1, .bool (cutS s sep).2.2]) (enters_fun Tryz.func133 (by kernel_rfl) rfl) (fun I σ => ?_) (fun I w hG hI => ?_) M
 ·refine ⟨_, rfl, rfl, fun k q x hq hx => ?_⟩
  match k, hq, hx with
  | 0, hq, hx => injection hq with hq; injection hx with hx; subst hq; subst hx; exact ⟨rfl, rfl⟩
  | 1, hq, hx => injection hq with hq; injection hx with hx; subst hq; subst hx; exact ⟨rfl, rfl⟩
  | 2, hq, hx => injection hq with hq; injection hx with hx; subst hq; subst hx; exact ⟨rfl, rfl⟩
 ·obtain ⟨m, hm⟩ := hG 0 (by kernel_rfl)
  exact Tryz.strings_Cut s sep m w hs (hI _ _ hm)
def cmpS (a b : ByteArray) : Int := if sLt a b then -1 else if sLt b a then 1 else 0
theorem compare_lt : ∀ a b : List UInt8, Lib.compareBytes a b = if a < b then -1 else if b < a then 1 else 0
 | [], [] => by simp [Lib.compareBytes, List.lt_irrefl]
 | [], b :: y => by simp [Lib.compareBytes]
 | a :: x, [] => by simp [Lib.compareBytes]
 | a :: x, b :: y => by
  rw [Lib.compareBytes, compare_lt x y]
  simp only [List.cons_lt_cons_iff]
  by_cases h1 : a < b
  ·simp [h1]
  ·by_cases h2 : b < a
   ·have : ¬ a = b := fun e => by subst e; exact h1 h2
    have h3 : ¬ b = a := fun e => this e.symm
    simp [h1, h2, this]
   ·have : a = b := UInt8.le_antisymm (UInt8.not_lt.1 h2) (UInt8.not_lt.1 h1)
    subst this
    simp [h1]
theorem Compare_rc (a b : ByteArray) (M : List Blk) : CallR Tryz.prog M 105 [.s a, .s b] (.i (cmpS a b)) M := by
 refine callR_lib (r := .i (cmpS a b)) (xs := [.string a, .string b]) (v := .int .i64 (cmpS a b)) (enters_fun Tryz.func105 (by kernel_rfl) rfl) (fun I σ => ⟨rfl, rfl⟩) (fun I w hG hI => ?_) M
 refine (Tryz.strings_Compare a b w).mono ?_
 rintro e w' ⟨rfl, rfl⟩
 refine ⟨?_, 0, rfl⟩
 have : Lib.compareBytes a.data.toList b.data.toList = cmpS a b := by
  rw [compare_lt]
  simp only [cmpS, sLt, decide_eq_true_eq]
  rfl
 rw [this]
theorem BitsLen_rc (x : Int) (h0 : 0 ≤ x) (h1 : x ≤ 18446744073709551615) (M : List Blk) : CallR Tryz.prog M 177 [.one (.c (.v (.int .u64 x)))] (.i (Lib.bitLen x.toNat : Nat)) M := by
 refine callR_lib (r := .i (Lib.bitLen x.toNat : Nat)) (xs := [.int .u64 x]) (v := .int .i64 (Lib.bitLen x.toNat : Nat)) (enters_fun Tryz.func177 (by kernel_rfl) rfl) (fun I σ => ⟨rfl, rfl⟩) (fun I w hG hI => ?_) M
 refine (Tryz.bits_Len x w h0 h1).mono ?_
 rintro e w' ⟨rfl, rfl⟩
 exact ⟨rfl, 0, rfl⟩
end Go.Proofs.YtpdcpdngckpgbaaGreat.A
end
section
namespace Go.Proofs.YtpdcpdngckpgbaaGreat.A
open Go Go.Proofs Go.Proofs.YtpdcpdngckpgbaaGreatAbs Go.RowKit Go.Shelf
set_option maxHeartbeats 1000000 in
set_option maxRecDepth 100000 in
theorem bld_used (b : Nat) (w : World) (h0 : w.cell? ⟨b, 0, none⟩ = some (.pointer (some ⟨b, 0, none⟩))) :
  Calls Tryz.prog 180 #[.pointer (some ⟨b, 0, none⟩)] w fun e w' => e = .returned (.tuple #[]) ∧ w' = w := by
 obtain ⟨j, hj, _⟩ := Option.map_eq_some_iff.1 (show (Tryz.prog.info? 190).map (·.size) = some 2 by kernel_rfl)
 have mixed : Tryz.prog.follows .mixedOrders = true := by kernel_rfl
 go_enter Tryz.func180, Tryz.ntmps180
 go_wp2
 rw [Lib.run_neq_ptr_same w _ Tryz.underlying188 hj]
 go_wp2
 go_end0
 exact ⟨rfl, rfl⟩
set_option maxHeartbeats 1000000 in
set_option maxRecDepth 100000 in
theorem bld_fresh (b : Nat) (w : World) (h0 : w.cell? ⟨b, 0, none⟩ = some (.pointer none)) (hsh : w.shape? b = some (190, 2)) (hfz : w.frozen? ⟨b, 0, none⟩ = false) :
  Calls Tryz.prog 180 #[.pointer (some ⟨b, 0, none⟩)] w fun e w' => e = .returned (.tuple #[]) ∧ w' = w.setCell ⟨b, 0, none⟩ (.pointer (some ⟨b, 0, none⟩)) := by
 obtain ⟨j, hj, hjs⟩ := Option.map_eq_some_iff.1 (show (Tryz.prog.info? 190).map (·.size) = some 2 by kernel_rfl)
 have mixed : Tryz.prog.follows .mixedOrders = true := by kernel_rfl
 go_enter Tryz.func180, Tryz.ntmps180
 go_wp2
 rw [Lib.run_to_unsafe w ⟨b, 0, none⟩ Tryz.underlying188 Tryz.underlying252 hj (by rw [hjs]; decide) hsh (Nat.zero_lt_succ 1)]
 simp only [Result.andThen]
 rw [Oper.upon_value]
 go_wp2
 rw [run_callFunc_extern Tryz.func213 (by kernel_rfl) (by kernel_rfl) (by kernel_rfl) (e := Extern.AbiNoEscape.same) (by kernel_rfl)]
 rw [Lib.run_noEscape]
 simp only [Result.andThen]
 rw [Oper.upon_value]
 go_wp2
 rw [Lib.run_from_unsafe w ⟨b, 0, none⟩ Tryz.underlying252 Tryz.underlying188 hj hsh (by kernel_rfl)]
 simp only [Result.andThen]
 rw [Oper.upon_value]
 go_wp2
 go_end0
 exact ⟨rfl, rfl⟩
theorem copy_rc {M : List Blk} {b ver : Nat} {x y : AV} (hb : M[b]? = some (.rows 190 2 ver [[x, y]] true)) (hx : x = .c (.v (.pointer none)) ∨ x = .ptr b ver 0 0) :
  CallR Tryz.prog M 180 [.one (.ptr b ver 0 0)] (.tup []) (M.set b (.rows 190 2 ver [[.ptr b ver 0 0, y]] true)) := by
 intro I σ w vals hG hm hvl hvr
 obtain ⟨v, rfl⟩ : ∃ v, vals = #[v] := ⟨vals[0]'(by simp at hvl; omega), by apply Array.ext <;> simp_all⟩
 have hv : RelA I σ (.ptr b ver 0 0) v := hvr 0 _ v rfl rfl
 obtain ⟨p, g, cs, hp, hg, hps, rfl, hh, hs, hlc, hrl, hcs⟩ := mem_ptr hm hb hv (by simp)
 have hcap : p.cap = 1 := (hm.blk b _ p hb hp).1 rfl
 obtain ⟨x0, hx0, hxr⟩ := hcs 0 _ rfl 0 _ rfl
 have hcell : w.cell? ⟨g, 0, none⟩ = some x0 := by rw [Lib.cell_of_heap hh]; simpa using hx0
 have hE : Go.Proofs.YtpdcpdngckpgbaaGreatAbs.Enters Tryz.prog 180 := enters_fun Tryz.func180 (by kernel_rfl) rfl
 simp only [Nat.zero_mul, Nat.zero_add] at hv ⊢
 have hr : RelS I σ (.tup []) (.tuple #[]) := ⟨_, rfl, rfl, fun k q x hq hx => by cases hq⟩
 rcases hx with rfl | rfl
 ·obtain ⟨rfl, _⟩ := hxr
  refine .inl ⟨hE, (bld_fresh g w hcell ?_ ?_).mono ?_⟩
  ·unfold World.shape?
   rw [hh]
   simp only [hs, hcap]
  ·unfold World.frozen?
   simp only [hh]
   rfl
  ·rintro e w' ⟨rfl, rfl⟩
   exact ⟨_, rfl, I, σ, hr, by simpa [fillL] using evo_set1 hm hb (i := 0) (j := 0) rfl (by omega) hp hg hv⟩
 ·obtain ⟨h1, q, hq, h2, hq2⟩ := hxr
  obtain rfl : p = q := by rw [hp] at hq; injection hq
  obtain ⟨p', hp', m1, m2, m3⟩ := mem_rows hm hb
  obtain rfl : p = p' := by rw [hp] at hp'; injection hp'
  obtain ⟨g', hg', rfl⟩ := hq2 m2
  obtain rfl : g = g' := by rw [hg] at hg'; injection hg'
  simp only [Nat.zero_mul, Nat.zero_add] at hcell
  refine .inl ⟨hE, (bld_used g w hcell).mono ?_⟩
  rintro e w' ⟨rfl, rfl⟩
  refine ⟨_, rfl, I, σ, hr, ?_⟩
  rw [set_self hb]
  exact Evo.refl hm
set_option maxHeartbeats 1000000 in
set_option maxRecDepth 100000 in
theorem bld_string (b g cap : Nat) (l : List UInt8) (p : Value) (cur : Array Value) (w : World) (h0 : l ≠ []) (hbk : w.heap[b]? = some (.cells #[p, .slice (some ⟨g, 0, none⟩) l.length cap] 190 (0, 0)))
  (hg : w.heap[g]? = some (.cells cur 5 (0, 0))) (hc : l.length ≤ cap) (hcm : cap ≤ maxLen) (hs : cur.size = cap) (hcell : ∀ (j : Nat) (x : UInt8), l[j]? = some x → w.cell? ⟨g, j, none⟩ = some (.int .u8 x.toNat)) :
  Calls Tryz.prog 141 #[.pointer (some ⟨b, 0, none⟩)] w fun e w' => e = .returned (.string ⟨l.toArray⟩) ∧ w' = w.drew.freeze ⟨g, 0, none⟩ l.length := by
 have hl0 : l.length ≠ 0 := by simpa using h0
 have c1 : w.drew.cell? ⟨b, 1, none⟩ = some (.slice (some ⟨g, 0, none⟩) l.length cap) := by
  have : w.drew.heap[b]? = some (.cells #[p, .slice (some ⟨g, 0, none⟩) l.length cap] 190 (0, 0)) := hbk
  rw [Lib.cell_of_heap this]; rfl
 have hSD : (Builtin.unsafeSliceData_ #[43] 232 #[.slice (some ⟨g, 0, none⟩) l.length cap]).run Tryz.prog w.drew = .ok (.pointer (some ⟨g, 0, none⟩)) w.drew :=
  Lib.run_unsafeSliceData_row _ _ _ _ _ _ (by omega)
 have hUS : (Builtin.unsafeString_ #[232, 3] 9 #[.pointer (some ⟨g, 0, none⟩), .int .i64 l.length]).run Tryz.prog w.drew = .ok (.string ⟨l.toArray⟩) (w.drew.freeze ⟨g, 0, none⟩ l.length) := by
  refine Lib.run_unsafeString_row w.drew 232 3 9 5 Tryz.underlying232 (by kernel_rfl) g cur.size (by have hg' : w.drew.heap[g]? = some (.cells cur 5 (0, 0)) := hg; simp [World.shape?, hg']) l h0 (by omega) (by unfold maxLen at hcm; omega) ?_
  intro j x hx
  have e : (⟨g, 0, none⟩ : Addr).add j = ⟨g, j, none⟩ := by simp [Addr.add]; exact fun h => h.symm
  rw [e]
  exact hcell j x hx
 have mixed : Tryz.prog.follows .mixedOrders = true := by kernel_rfl
 go_enter Tryz.func141, Tryz.ntmps141
 go_wp2
 go_region
 all_goals (go_wp2; go_ret; exact ⟨rfl, rfl⟩)
theorem String_rc {M : List Blk} {b ver c v : Nat} {a : AV} {l : List UInt8} {f : Bool} (hb : M[b]? = some (.rows 190 2 ver [[a, .arr 1 c v 0 l.length]] true)) (hc : M[c]? = some (.rows 5 1 v (l.map byteRow) f)) (h0 : l ≠ []) :
  CallR Tryz.prog M 141 [.one (.ptr b ver 0 0)] (.s ⟨l.toArray⟩) (M.set c .dead) := by
 intro I σ w vals hG hm hvl hvr
 obtain ⟨u, rfl⟩ : ∃ v, vals = #[v] := ⟨vals[0]'(by simp at hvl; omega), by apply Array.ext <;> simp_all⟩
 have hv : RelA I σ (.ptr b ver 0 0) u := hvr 0 _ u rfl rfl
 obtain ⟨p, g, cs, hp, hg, hps, rfl, hh, hs, hlc, hrl, hcs⟩ := mem_ptr hm hb hv (by simp)
 have hcap : p.cap = 1 := (hm.blk b _ p hb hp).1 rfl
 obtain ⟨x0, hx0, hxr⟩ := hcs 0 _ rfl 0 _ rfl
 obtain ⟨x1, hx1, hyr⟩ := hcs 0 _ rfl 1 _ rfl
 have hE : Go.Proofs.YtpdcpdngckpgbaaGreatAbs.Enters Tryz.prog 141 := enters_fun Tryz.func141 (by kernel_rfl) rfl
 obtain ⟨h1, q, hq, h2, hq2⟩ := hyr
 obtain ⟨q', hq', m1, m2, m3, m4, m5, m6⟩ := mem_rows hm hc
 obtain rfl : q = q' := by rw [hq] at hq'; injection hq'
 obtain ⟨m7, m8, rfl⟩ := hq2 m2
 have hll : l.length ≠ 0 := by simpa using h0
 rw [List.length_map] at m3
 obtain ⟨g2, hg2⟩ : ∃ g2, q.blk = some g2 := by
  cases e : q.blk with
  | none => rw [e] at m6; simp only at m6; omega
  | some g => exact ⟨g, rfl⟩
 rw [hg2] at m6
 obtain ⟨cs2, hh2, hs2, m9, hcs2⟩ := m6
 have hcse : cs = #[x0, .slice (some ⟨g2, 0, none⟩) l.length q.cap] := by
  apply Array.ext_getElem?
  intro k
  match k with
  | 0 => simpa using hx0
  | 1 => simpa [hg2] using hx1
  | k + 2 => rw [Array.getElem?_eq_none (by omega)]; simp
 rw [hcse] at hh
 simp only [Nat.zero_mul, Nat.zero_add]
 refine .inl ⟨hE, (bld_string g g2 q.cap l x0 cs2 w h0 hh hh2 m3 m4 (by omega) (fun j x hx => ?_)).mono ?_⟩
 ·rw [Lib.cell_of_heap hh2]
  obtain ⟨y, hy, hyr⟩ := hcs2 j (byteRow x) (by rw [List.getElem?_map, hx]; rfl) 0 _ rfl
  obtain ⟨rfl, _⟩ := hyr
  simpa using hy
 ·rintro e w' ⟨rfl, rfl⟩
  have e : w.drew.freeze ⟨g2, 0, none⟩ l.length = { w.drew with heap := (w.drew.freeze ⟨g2, 0, none⟩ l.length).heap } := by
   unfold World.freeze; rw [if_neg hll]
  refine ⟨_, rfl, I, σ, ⟨rfl, rfl⟩, evo_kill hm hc hq hg2 ?_ ?_ ?_ ?_ ?_⟩
  ·unfold World.freeze; rw [if_neg hll]; rfl
  ·unfold World.freeze; rw [if_neg hll]; rfl
  ·unfold World.freeze; rw [if_neg hll]; rfl
  ·unfold World.freeze; rw [if_neg hll]; exact Array.size_modify
  ·intro k hk
   unfold World.freeze; rw [if_neg hll]
   simp only []
   rw [Array.getElem?_modify, if_neg (fun e => hk e.symm)]
   rfl
end Go.Proofs.YtpdcpdngckpgbaaGreat.A
end
section
namespace Go.Proofs.YtpdcpdngckpgbaaGreat.A
open Go Go.Proofs Go.Proofs.YtpdcpdngckpgbaaGreatAbs
def bR (b c v : Nat) (n : Nat) : Blk := .rows 190 2 0 [[.ptr b 0 0 0, .arr 1 c v 0 n]] true
def bY (v : Nat) (l : List UInt8) : Blk := .rows 5 1 v (l.map byteRow) false
abbrev nilI : Pt := .one (.c (.v .nilIface))
theorem gb {M : List Blk} {b : Nat} {X : Blk} (h : b < M.length) : (M.set b X)[b]? = some X := by rw [List.getElem?_set, if_pos rfl, if_pos h]
theorem gn {M : List Blk} {b c : Nat} {X : Blk} (h : b ≠ c) : (M.set b X)[c]? = M[c]? := by rw [List.getElem?_set, if_neg h]
theorem ga {M D : List Blk} {b : Nat} (h : b < M.length) : (M ++ D)[b]? = M[b]? := List.getElem?_append_left h
theorem gl {M : List Blk} {X : Blk} : (M ++ [X])[M.length]? = some X := by rw [List.getElem?_append_right (Nat.le_refl _), Nat.sub_self]; rfl
theorem sa {M D : List Blk} {b : Nat} {X : Blk} (h : b < M.length) : (M ++ D).set b X = M.set b X ++ D := List.set_append_left _ _ h
theorem gl2 {M : List Blk} {X Y : Blk} {b : Nat} : (M.set b Y ++ [X])[M.length]? = some X := by rw [List.getElem?_append_right (by simp), List.length_set, Nat.sub_self]; rfl
theorem leS_of {s s' : SV} (h : s = s') : leS s s' := by rw [h, leS_self]; trivial
theorem byteRow_map1 (l : List UInt8) (x : UInt8) : l.map byteRow ++ [[.c (.v (.int .u8 x.toNat))]] = (l ++ [x]).map byteRow := by rw [List.map_append]; rfl
theorem byteRow_map (l k : List UInt8) : l.map byteRow ++ k.map byteRow = (l ++ k).map byteRow := (List.map_append ..).symm
theorem ltB_set {M : List Blk} {b : Nat} {X : Blk} {n : Nat} (h : ∀ x ∈ M, ltB n x) (hX : ltB n X) : ∀ x ∈ M.set b X, ltB n x := fun x hx => by
 rcases List.mem_or_eq_of_mem_set hx with hx | rfl
 ·exact h x hx
 ·exact hX
theorem ltB_bY (n v : Nat) (l : List UInt8) : ltB n (bY v l) := by
 intro r hr a ha
 obtain ⟨x, _, rfl⟩ := List.mem_map.1 hr
 obtain rfl := List.mem_singleton.1 ha
 trivial
theorem ltB_bR {n b c v k : Nat} (h1 : b < n) (h2 : c < n) : ltB n (bR b c v k) := by
 intro r hr a ha
 obtain rfl := List.mem_singleton.1 hr
 rcases List.mem_cons.1 ha with rfl | ha
 ·exact h1
 ·obtain rfl := List.mem_singleton.1 ha
  exact h2
theorem set2 {M : List Blk} {b c : Nat} (h : b ≠ c) (X Y Z : Blk) : (((M.set b X).set c Y).set b Z) = (M.set b Z).set c Y := by
 rw [List.set_comm _ _ (fun e => h e.symm), List.set_set]
set_option maxRecDepth 20000 in
theorem WriteString_rc {M : List Blk} {b c v : Nat} {a : AV} {l : List UInt8} {f : Bool} (hbc : b ≠ c) (ha : a = .c (.v (.pointer none)) ∨ a = .ptr b 0 0 0) (hb : M[b]? = some (.rows 190 2 0 [[a, .arr 1 c v 0 l.length]] true)) (hc : M[c]? = some (.rows 5 1 v (l.map byteRow) f)) (hMB : ∀ x ∈ M, ltB M.length x) (s : ByteArray) (hs : l.length + s.size ≤ 140737488355328) :
  CallR Tryz.prog M 138 [.one (.ptr b 0 0 0), .s s] (.tup [.i s.size, nilI]) ((M.set b (bR b c (v + 1) (l.length + s.size))).set c (bY (v + 1) (l ++ bs s))) := by
 have hbl : b < M.length := getElem?_lt hb
 have hcl : c < M.length := getElem?_lt hc
 refine callR_intro F_strings_Builder_WriteString (by simp) ?_
 refine V_sound ?_
 simp only [c_strings_Builder_WriteString, go_sem]
 refine call1 (copy_rc hb ha) (by simp only [go_sem]) (fun h => Bool.noConfusion h) ?_
 simp only [go_sem, gb hbl, gn hbc, hc, hbl, List.length_map, byteRow_map, gb (show c < (M.set b (.rows 190 2 0 [[AV.ptr b 0 0 0, AV.arr 1 c v 0 l.length]] true)).length by rw [List.length_set]; exact hcl), gn (fun e => hbc e.symm : c ≠ b)]
 refine ⟨hs, fin_own (.inr rfl) (Gh.refl _) [] (cnd := True) rfl trivial ?_ ?_ ?_ ?_ ?_⟩
 ·rw [List.append_nil]
  exact set2 hbc _ _ _
 ·exact leS_of rfl
 ·rw [List.length_set, List.length_set]; exact Nat.le_refl _
 ·simp only [go_sem]
 ·rw [List.length_set, List.length_set]
  exact ltB_set (ltB_set hMB (ltB_bR hbl hcl)) (ltB_bY _ _ _)
set_option maxRecDepth 20000 in
theorem WriteByte_rc {M : List Blk} {b c v : Nat} {a : AV} {l : List UInt8} {f : Bool} (hbc : b ≠ c) (ha : a = .c (.v (.pointer none)) ∨ a = .ptr b 0 0 0) (hb : M[b]? = some (.rows 190 2 0 [[a, .arr 1 c v 0 l.length]] true)) (hc : M[c]? = some (.rows 5 1 v (l.map byteRow) f)) (hMB : ∀ x ∈ M, ltB M.length x) (x : UInt8) (hs : l.length + 1 ≤ 140737488355328) :
  CallR Tryz.prog M 139 [.one (.ptr b 0 0 0), .one (.c (.v (.int .u8 x.toNat)))] (.p nilI) ((M.set b (bR b c (v + 1) (l.length + 1))).set c (bY (v + 1) (l ++ [x]))) := by
 have hbl : b < M.length := getElem?_lt hb
 have hcl : c < M.length := getElem?_lt hc
 refine callR_intro F_strings_Builder_WriteByte (by simp) ?_
 refine V_sound ?_
 simp only [c_strings_Builder_WriteByte, go_sem]
 refine call1 (copy_rc hb ha) (by simp only [go_sem]) (fun h => Bool.noConfusion h) ?_
 have hbc' : c ≠ b := fun e => hbc e.symm
 simp only [go_sem, gb hbl, gn hbc, gn hbc', hc, List.length_map, byteRow_map1, gl2, ga, sa, gb, List.length_set, hbl, hcl]
 refine ⟨by omega, fin_own (.inr rfl) (Gh.refl _) [_] (cnd := True) rfl trivial (congrArg (· ++ [_]) (set2 hbc _ _ _)) ?_ ?_ ?_ ?_⟩
 ·exact leS_of rfl
 ·rw [List.length_set, List.length_set]; exact Nat.le_refl _
 ·exact trivial
 ·rw [List.length_set, List.length_set]
  exact ltB_set (ltB_set hMB (ltB_bR hbl hcl)) (ltB_bY _ _ _)
set_option maxRecDepth 20000 in
theorem AppendRune_rc {M : List Blk} {c v : Nat} {l : List UInt8} {f : Bool} (hc : M[c]? = some (.rows 5 1 v (l.map byteRow) f)) (hMB : ∀ x ∈ M, ltB M.length x) (x : UInt8) (hx : x.toNat < 128) (hs : l.length + 1 ≤ 140737488355328) :
  CallR Tryz.prog M 181 [.one (.arr 1 c v 0 l.length), .one (.c (.v (.int .i32 x.toNat)))] (.p (.one (.arr 1 c (v + 1) 0 (l.length + 1)))) (M.set c (bY (v + 1) (l ++ [x]))) := by
 have hcl : c < M.length := getElem?_lt hc
 refine callR_intro F_utf8_AppendRune (by simp) ?_
 refine V_sound ?_
 have e1 : IntKind.u32.wrap (x.toNat : Int) = x.toNat := by rw [IntKind.wrap_u32]; omega
 have e2 : IntKind.u8.wrap (x.toNat : Int) = x.toNat := by rw [IntKind.wrap_u8]; omega
 simp only [c_utf8_AppendRune, go_sem, e1, e2, gl, ga, sa, gb, hc, hcl, List.length_map, byteRow_map1]
 refine ⟨fun _ => ⟨by omega, fin_own (.inr rfl) (Gh.refl _) [_] (cnd := True) rfl trivial rfl ?_ ?_ ?_ ?_⟩, fun h => absurd h (by omega)⟩
 ·exact leS_of rfl
 ·rw [List.length_set]; exact Nat.le_refl _
 ·rw [List.length_set]; exact hcl
 ·rw [List.length_set]
  exact ltB_set hMB (ltB_bY _ _ _)
set_option maxRecDepth 20000 in
theorem WriteRune_rc {M : List Blk} {b c v : Nat} {a : AV} {l : List UInt8} {f : Bool} (hbc : b ≠ c) (ha : a = .c (.v (.pointer none)) ∨ a = .ptr b 0 0 0) (hb : M[b]? = some (.rows 190 2 0 [[a, .arr 1 c v 0 l.length]] true)) (hc : M[c]? = some (.rows 5 1 v (l.map byteRow) f)) (hMB : ∀ x ∈ M, ltB M.length x) (x : UInt8) (hx : x.toNat < 128) (hs : l.length + 1 ≤ 140737488355328) :
  CallR Tryz.prog M 140 [.one (.ptr b 0 0 0), .one (.c (.v (.int .i32 x.toNat)))] (.tup [.i 1, nilI]) ((M.set b (bR b c (v + 1) (l.length + 1))).set c (bY (v + 1) (l ++ [x]))) := by
 have hbl : b < M.length := getElem?_lt hb
 have hcl : c < M.length := getElem?_lt hc
 have hbc' : c ≠ b := fun e => hbc e.symm
 refine callR_intro F_strings_Builder_WriteRune (by simp) ?_
 refine V_sound ?_
 simp only [c_strings_Builder_WriteRune, go_sem]
 refine call1 (copy_rc hb ha) (by simp only [go_sem]) (fun h => Bool.noConfusion h) ?_
 simp only [go_sem, gb hbl, gn hbc, gn hbc', hc, List.length_map, byteRow_map1, gl2, ga, sa, gb, List.length_set, hbl, hcl]
 refine call1 (AppendRune_rc (by rw [gn hbc]; exact hc) (by rw [List.length_set]; exact ltB_set hMB (ltB_bR (v := v) (k := l.length) hbl hcl)) x hx hs) (by simp only [go_sem]) (fun h => Bool.noConfusion h) ?_
 simp only [go_sem, gb hbl, gn hbc, gn hbc', hc, List.length_map, byteRow_map1, gl2, ga, sa, gb, List.length_set, hbl, hcl, bY]
 have e : IntKind.i64.wrap (((l.length + 1 : Nat) : Int) - l.length) = 1 := by rw [w64 (by omega) (by omega)]; omega
 rw [e]
 refine fin_own (.inr rfl) (Gh.refl _) [] (cnd := True) rfl trivial (by rw [List.append_nil]; exact set2 hbc _ _ _) ?_ ?_ ?_ ?_
 ·exact leS_of rfl
 ·rw [List.length_set, List.length_set]; exact Nat.le_refl _
 ·simp only [go_sem]
 ·rw [List.length_set, List.length_set]
  exact ltB_set (ltB_set hMB (ltB_bR hbl hcl)) (ltB_bY _ _ _)
end Go.Proofs.YtpdcpdngckpgbaaGreat.A
end
section
namespace Go.Proofs.YtpdcpdngckpgbaaGreat.A
open Go Go.Proofs Go.Proofs.YtpdcpdngckpgbaaGreatAbs
def esc1 (x : UInt8) : List UInt8 := if x = 34 ∨ x = 92 then [92, x] else [x]
def esc (l : List UInt8) : List UInt8 := l.flatMap esc1
def labT (k : Nat) (x : Lb) : List UInt8 := (if k = 0 then [123] else [44]) ++ (bs x.name ++ [61, 34]) ++ esc (bs x.value) ++ [34]
def textP (s : Ser) : Nat → List UInt8
 | 0 => bs s.name
 | k + 1 => textP s k ++ labT k (s.labels.getD k default)
def prT (s : Ser) : ByteArray := if serOk s then (if s.labels.length = 0 then s.name else mkS (textP s s.labels.length ++ [125])) else mkS []
theorem esc_len (l : List UInt8) : (esc l).length ≤ 2 * l.length := by
 induction l with
 | nil => simp [esc]
 | cons x l ih =>
  have : (esc1 x).length ≤ 2 := by unfold esc1; split <;> simp
  simp only [esc, List.flatMap_cons, List.length_append, List.length_cons] at ih ⊢
  omega
theorem serOk_parts {s : Ser} (h : serOk s = true) : nmOk s.name = true ∧ s.labels.length ≤ 4 ∧ ∀ k, k < s.labels.length → lbOk s.labels k = true := by
 simp only [serOk, Bool.and_eq_true, decide_eq_true_eq, List.all_eq_true, List.mem_range] at h
 exact ⟨h.1.1, h.1.2, h.2⟩
theorem lbOk_parts {l : List Lb} {k : Nat} (h : lbOk l k = true) : nmOk (l.getD k default).name = true ∧ vlOk (l.getD k default).value = true := by
 simp only [lbOk, Bool.and_eq_true] at h
 exact h.1
theorem nm_len {s : ByteArray} (h : nmOk s = true) : s.size ≤ 16 := by
 simp only [nmOk, Bool.and_eq_true, decide_eq_true_eq] at h
 exact h.1.2
theorem vl_parts {s : ByteArray} (h : vlOk s = true) : s.size ≤ 16 ∧ ∀ k, k < s.size → 32 ≤ ((bs s).getD k 0).toNat ∧ ((bs s).getD k 0).toNat ≤ 126 := by
 simp only [vlOk, Bool.and_eq_true, decide_eq_true_eq, List.all_eq_true] at h
 refine ⟨h.1, fun k hk => inR_t.1 (h.2 _ ?_)⟩
 rw [List.getD_eq_getElem?_getD, List.getElem?_eq_getElem (by rw [bs_len]; exact hk)]
 exact List.getElem_mem _
theorem textP_len {s : Ser} (h : serOk s = true) : ∀ k, k ≤ s.labels.length → (textP s k).length ≤ 16 + k * 60
 | 0, _ => by rw [textP, bs_len]; have := nm_len (serOk_parts h).1; omega
 | k + 1, hk => by
  have ih := textP_len h k (by omega)
  have hl := lbOk_parts ((serOk_parts h).2.2 k (by omega))
  have h1 := nm_len hl.1
  have h2 := (vl_parts hl.2).1
  have h3 := esc_len (bs (s.labels.getD k default).value)
  rw [bs_len] at h3
  rw [textP, labT, List.length_append, List.length_append, List.length_append, List.length_append, List.length_append, bs_len]
  have : (if k = 0 then [123] else [44] : List UInt8).length = 1 := by split <;> rfl
  simp only [this, List.length_cons, List.length_nil]
  omega
theorem ltB_rowS (n t : Nat) (x y : CV) : ltB n (.rows t 2 0 [[.c x, .c y]] true) := by
 intro r hr a ha
 obtain rfl := List.mem_singleton.1 hr
 rcases List.mem_cons.1 ha with rfl | ha
 ·trivial
 ·obtain rfl := List.mem_singleton.1 ha; trivial
abbrev pM (s : Ser) (v : Nat) (l : List UInt8) : List Blk := [.rows 100 2 0 [[.c (.v (.string s.name)), .c (lbCV s.labels)]] true, bR 1 2 v l.length, bY v l]
theorem pM_lt (s : Ser) (v : Nat) (l : List UInt8) (D : List Blk) (hD : ∀ x ∈ D, ltB (3 + D.length) x) : ∀ x ∈ pM s v l ++ D, ltB (pM s v l ++ D).length x := by
 have e : (pM s v l ++ D).length = 3 + D.length := by simp [pM]; omega
 rw [e]
 intro x hx
 rcases List.mem_append.1 hx with hx | hx
 ·simp only [pM, List.mem_cons, List.not_mem_nil, or_false] at hx
  rcases hx with rfl | rfl | rfl
  ·exact ltB_rowS _ _ _ _
  ·exact ltB_bR (by omega) (by omega)
  ·exact ltB_bY _ _ _
 ·exact hD x hx
theorem wb (s : Ser) {v : Nat} {l : List UInt8} {D : List Blk} (hD : ∀ x ∈ D, ltB (3 + D.length) x) (x : UInt8) (hn : l.length + 1 ≤ 140737488355328) : CallR Tryz.prog (pM s v l ++ D) 139 [.one (.ptr 1 0 0 0), .one (.c (.v (.int .u8 x.toNat)))] (.p nilI) (pM s (v + 1) (l ++ [x]) ++ D) := by
 have := WriteByte_rc (M := pM s v l ++ D) (b := 1) (c := 2) (v := v) (l := l) (by decide) (.inr rfl) rfl rfl (pM_lt s v l D hD) x hn
 have e : (l ++ [x]).length = l.length + 1 := by simp
 simpa only [pM, e, List.cons_append, List.nil_append, List.set_cons_succ, List.set_cons_zero] using this
theorem ws (s : Ser) {v : Nat} {l : List UInt8} {D : List Blk} (hD : ∀ x ∈ D, ltB (3 + D.length) x) (x : ByteArray) (hn : l.length + x.size ≤ 140737488355328) : CallR Tryz.prog (pM s v l ++ D) 138 [.one (.ptr 1 0 0 0), .s x] (.tup [.i x.size, nilI]) (pM s (v + 1) (l ++ bs x) ++ D) := by
 have := WriteString_rc (M := pM s v l ++ D) (b := 1) (c := 2) (v := v) (l := l) (by decide) (.inr rfl) rfl rfl (pM_lt s v l D hD) x hn
 have e : (l ++ bs x).length = l.length + x.size := by simp [bs_len]
 simpa only [pM, e, List.cons_append, List.nil_append, List.set_cons_succ, List.set_cons_zero] using this
theorem wr (s : Ser) {v : Nat} {l : List UInt8} {D : List Blk} (hD : ∀ x ∈ D, ltB (3 + D.length) x) (x : UInt8) (hx : x.toNat < 128) (hn : l.length + 1 ≤ 140737488355328) : CallR Tryz.prog (pM s v l ++ D) 140 [.one (.ptr 1 0 0 0), .one (.c (.v (.int .i32 x.toNat)))] (.tup [.i 1, nilI]) (pM s (v + 1) (l ++ [x]) ++ D) := by
 have := WriteRune_rc (M := pM s v l ++ D) (b := 1) (c := 2) (v := v) (l := l) (by decide) (.inr rfl) rfl rfl (pM_lt s v l D hD) x hx hn
 have e : (l ++ [x]).length = l.length + 1 := by simp
 simpa only [pM, e, List.cons_append, List.nil_append, List.set_cons_succ, List.set_cons_zero] using this
theorem ltB_1 {t : Nat} {x y : CV} : ∀ z ∈ [Blk.rows t 2 0 [[.c x, .c y]] true], ltB (3 + 1) z := by
 intro z hz
 obtain rfl := List.mem_singleton.1 hz
 exact ltB_rowS _ _ _ _
theorem ltB_2 {t : Nat} {x y : CV} {u : ByteArray} {p : Nat} : ∀ z ∈ [Blk.rows t 2 0 [[.c x, .c y]] true, .sit u p], ltB (3 + 2) z := by
 intro z hz
 rcases List.mem_cons.1 hz with rfl | hz
 ·exact ltB_rowS _ _ _ _
 ·obtain rfl := List.mem_singleton.1 hz
  trivial
set_option maxRecDepth 20000 in
theorem Print_rc (s : Ser) (hs : zSer s) (M : List Blk) : CallR Tryz.prog M n_label_Print [serA s] (.tup [.s (prT s), .i (if serOk s then 0 else 1)]) M := by
 refine callP F_label_Print (Nat.le_of_ble_eq_true rfl) (by simp only [go_sem]) (by simp only [go_sem]) ?_ M
 simp only [c_label_Print, go_sem]
 refine call0 (Check_rc s hs) ?_
 by_cases hok : serOk s = true
 ·simp only [hok, if_true, go_sem]
  obtain ⟨hk1, hk2, hk3⟩ := serOk_parts hok
  refine fun _ => ⟨fun h0 => ?_, fun h0 => ?_⟩
  ·rw [prT, if_pos hok, if_pos (by omega)]
  refine call1 (callR_ghost (fun I σ w hm => ⟨_, _, evo_born_cell hm (b := 1) (i := 0) (j := 1) rfl rfl rfl 5 1⟩) (WriteString_rc (b := 1) (c := 2) (v := 0) (l := []) (f := true) (by decide) (.inl rfl) rfl rfl ?_ s.name ?_)) (by simp only [go_sem]) (fun h => Bool.noConfusion h) ?_
  ·simp only [go_sem, ltB, fillL]
  ·have := nm_len hk1
   simp only [List.length_nil]
   omega
  simp only [go_sem]
  refine V_loop (ι := Nat × Nat) (J := fun p => p.1 ≤ s.labels.length) (env := fun p => [(5, .p (.one (.ptr 1 0 0 0))), (25, .p (lbL s.labels)), (26, .i s.labels.length), (27, .i p.1)])
   (mem := fun p => pM s p.2 (textP s p.1)) (μ := fun p => s.labels.length - p.1) (0, 1) (Nat.zero_le _) ⟨[], ?_, Nat.zero_le _, by simp only [go_sem, pM], ?_⟩ ?_
  ·simp only [go_sem, pM, textP, bs_len, List.length_nil, Nat.zero_add]
  ·have := pM_lt s 1 (textP s 0) [] (by simp)
   simpa using this
  rintro ⟨k, v⟩ hk
  simp only [go_sem] at hk ⊢
  refine ⟨fun h1 => ⟨by omega, ⟨by split <;> omega, by split <;> simp <;> omega⟩, ?_⟩, fun h1 => ?_⟩
  ·have hl := lbOk_parts (hk3 k h1)
   have hnl := nm_len hl.1
   have hvl := vl_parts hl.2
   have htl := textP_len hok k hk
   have ec : [123, 44].getD (if (1 : Int) < (k : Int) then 1 else (k : Int)).toNat (0 : UInt8) = (if k = 0 then 123 else 44) := by
    rcases k with _ | _ | k
    ·rfl
    ·rfl
    ·rw [if_pos (by omega), if_neg (by omega)]; rfl
   rw [ec]
   have hxt : textP s (k + 1) = textP s k ++ labT k (s.labels.getD k default) := rfl
   generalize s.labels.getD k default = x at hl hnl hvl hxt ⊢
   obtain ⟨sep, hsep⟩ : ∃ sep : UInt8, sep = if k = 0 then 123 else 44 := ⟨_, rfl⟩
   rw [← hsep]
   refine call1 (wb s ltB_1 sep (by omega)) (by simp only [go_sem]) (fun h => Bool.noConfusion h) ?_
   simp only [go_sem]
   have hw := ws s (v := v + 1) (l := textP s k ++ [sep]) (D := [.rows 115 2 0 [[.c (.v (.string x.name)), .c (.v (.string x.value))]] true]) ltB_1 (x.name ++ mkS [61, 34]) (by
    simp only [List.length_append, ByteArray.size_append, mk_size, List.length_cons, List.length_nil]; omega)
   refine ⟨by show x.name.size + 2 ≤ _; omega, ?_⟩
   refine call1 hw (by simp only [go_sem]) (fun h => Bool.noConfusion h) ?_
   simp only [go_sem]
   obtain ⟨l0, hl0⟩ : ∃ l0, l0 = textP s k ++ [sep] ++ bs (x.name ++ mkS [61, 34]) := ⟨_, rfl⟩
   have hl0n : l0.length ≤ 40 + k * 60 := by
    rw [hl0]
    simp only [List.length_append, bs_len, ByteArray.size_append, mk_size, List.length_cons, List.length_nil]; omega
   rw [← hl0]
   refine V_loop (ι := Nat × Nat) (J := fun p => p.1 ≤ x.value.size) (env := fun p => [(5, .p (.one (.ptr 1 0 0 0))), (25, .p (lbL s.labels)), (26, .i s.labels.length), (27, .i k), (42, .p (.one (.ptr 4 0 0 0)))])
    (mem := fun p => pM s p.2 (l0 ++ esc ((bs x.value).take p.1)) ++ [.rows 115 2 0 [[.c (.v (.string x.name)), .c (.v (.string x.value))]] true, .sit x.value p.1]) (μ := fun p => x.value.size - p.1) (0, v + 1 + 1) (Nat.zero_le _) ⟨[], ?_, Nat.zero_le _, by simp only [go_sem, pM], pM_lt s _ _ _ ltB_2⟩ ?_
   ·simp only [go_sem, esc, List.flatMap_nil]
   rintro ⟨j, u⟩ hj
   simp only [go_sem] at hj ⊢
   by_cases hjs : j < x.value.size
   ·have hch := hvl.2 j hjs
    simp only [if_pos hjs, dec_ascii hjs (show ((bs x.value).getD j 0).toNat < 128 by omega), go_sem]
    have hesc : esc ((bs x.value).take (j + 1)) = esc ((bs x.value).take j) ++ esc1 ((bs x.value).getD j 0) := by
     rw [take_succ_getD 0 (by rw [bs_len]; exact hjs)]
     simp [esc]
    have hel := esc_len ((bs x.value).take j)
    rw [List.length_take, bs_len] at hel
    have hn : (l0 ++ esc ((bs x.value).take j)).length ≤ 300 := by rw [List.length_append]; omega
    generalize (bs x.value).getD j 0 = ch at hch hesc ⊢
    refine ⟨fun hc => ?_, fun hc => ?_⟩
    ·have hc' : ch = 34 ∨ ch = 92 := by
      simp only [Bool.or_eq_true, beq_iff_eq] at hc
      rcases hc with hc | hc
      ·exact .inl (UInt8.toNat_inj.1 (by show ch.toNat = 34; omega))
      ·exact .inr (UInt8.toNat_inj.1 (by show ch.toNat = 92; omega))
     rw [esc1, if_pos hc'] at hesc
     have hw1 := wb s (v := u) (l := l0 ++ esc ((bs x.value).take j)) (D := [.rows 115 2 0 [[.c (.v (.string x.name)), .c (.v (.string x.value))]] true, .sit x.value (j + 1)]) ltB_2 92 (by omega)
     refine call1 hw1 (by simp only [go_sem]; rfl) (fun h => Bool.noConfusion h) ?_
     simp only [go_sem]
     have hw2 := wr s (v := u + 1) (l := l0 ++ esc ((bs x.value).take j) ++ [92]) (D := [.rows 115 2 0 [[.c (.v (.string x.name)), .c (.v (.string x.value))]] true, .sit x.value (j + 1)]) ltB_2 ch (by omega) (by rw [List.length_append]; simp only [List.length_cons, List.length_nil]; omega)
     refine call1 hw2 (by simp only [go_sem]) (fun h => Bool.noConfusion h) ?_
     simp only [go_sem]
     refine ⟨(j + 1, u + 1 + 1), by simp only []; omega, by simp only []; omega, [], ?_, Nat.zero_le _, by simp only [go_sem, pM], pM_lt s _ _ _ ltB_2⟩
     simp only [hesc, List.append_nil, List.append_assoc, List.cons_append, List.nil_append]
    ·have hc' : ¬ (ch = 34 ∨ ch = 92) := by
      intro h
      apply Bool.false_ne_true
      rw [← hc]
      rcases h with rfl | rfl <;> rfl
     rw [esc1, if_neg hc'] at hesc
     have hw2 := wr s (v := u) (l := l0 ++ esc ((bs x.value).take j)) (D := [.rows 115 2 0 [[.c (.v (.string x.name)), .c (.v (.string x.value))]] true, .sit x.value (j + 1)]) ltB_2 ch (by omega) (by omega)
     refine call1 hw2 (by simp only [go_sem]) (fun h => Bool.noConfusion h) ?_
     simp only [go_sem]
     refine ⟨(j + 1, u + 1), by simp only []; omega, by simp only []; omega, [], ?_, Nat.zero_le _, by simp only [go_sem, pM], pM_lt s _ _ _ ltB_2⟩
     simp only [hesc, List.append_nil, List.append_assoc, List.cons_append, List.nil_append]
   ·have ej : j = x.value.size := by omega
    subst ej
    simp only [if_neg hjs, go_sem]
    have hel := esc_len ((bs x.value).take x.value.size)
    rw [List.length_take, bs_len] at hel
    have hw1 := wb s (v := u) (l := l0 ++ esc ((bs x.value).take x.value.size)) (D := [.rows 115 2 0 [[.c (.v (.string x.name)), .c (.v (.string x.value))]] true, .sit x.value x.value.size]) ltB_2 34 (by rw [List.length_append]; omega)
    refine call1 hw1 (by simp only [go_sem]; rfl) (fun h => Bool.noConfusion h) ?_
    simp only [go_sem]
    refine ⟨(k + 1, u + 1), by simp only []; omega, by simp only []; omega, [.rows 115 2 0 [[.c (.v (.string x.name)), .c (.v (.string x.value))]] true, .sit x.value x.value.size], ?_, Nat.zero_le _, ?_, by simpa using pM_lt s (u + 1) (textP s (k + 1)) [] (by simp)⟩
    ·have ht : l0 ++ esc ((bs x.value).take x.value.size) ++ [34] = textP s (k + 1) := by
      rw [hxt, hl0, labT, List.take_of_length_le (by rw [bs_len]; exact Nat.le_refl _), bs_append, bs_mk, hsep]
      split <;> (simp; rfl)
     simp only [ht, List.cons_append, List.nil_append]
    ·simp only [go_sem, pM, w64s (show k < 9223372036854775807 by omega)]
  ·have e : k = s.labels.length := by omega
   subst e
   have htl := textP_len hok _ (Nat.le_refl _)
   have hw := wb s (v := v) (l := textP s s.labels.length) (D := []) (by simp) 125 (by omega)
   refine call1 hw (by simp only [go_sem]; rfl) (fun h => Bool.noConfusion h) ?_
   simp only [go_sem]
   have hst := String_rc (M := pM s (v + 1) (textP s s.labels.length ++ [125])) (b := 1) (c := 2) (l := textP s s.labels.length ++ [125]) rfl rfl (by simp)
   refine call1 hst (by simp only [go_sem]) (fun h => Bool.noConfusion h) ?_
   simp only [go_sem]
   rw [prT, if_pos hok, if_neg (by omega)]
 ·simp only [hok, go_sem]
  refine ⟨fun _ => by rw [prT, if_neg hok], fun h => absurd h (by decide)⟩
end Go.Proofs.YtpdcpdngckpgbaaGreat.A
end
section
namespace Go.Proofs.YtpdcpdngckpgbaaGreat.A
open Go Go.Proofs Go.Proofs.YtpdcpdngckpgbaaGreatAbs
def quo : List UInt8 → Option (List UInt8 × List UInt8)
 | [] => none
 | [c] => if c = 34 then some ([], []) else none
 | c :: d :: r => if c = 34 then some ([], d :: r) else if c = 92 then (if d = 34 ∨ d = 92 then (quo r).map (fun p => (d :: p.1, p.2)) else none) else (quo (d :: r)).map (fun p => (c :: p.1, p.2))
theorem quo_q (r : List UInt8) : quo (34 :: r) = some ([], r) := by cases r <;> simp [quo]
theorem quo_c {c : UInt8} (h1 : c ≠ 34) (h2 : c ≠ 92) (r : List UInt8) : quo (c :: r) = (quo r).map (fun p => (c :: p.1, p.2)) := by
 cases r <;> simp [quo, h1, h2]
theorem quo_b {d : UInt8} (h : d = 34 ∨ d = 92) (r : List UInt8) : quo (92 :: d :: r) = (quo r).map (fun p => (d :: p.1, p.2)) := by simp [quo, h]
theorem quo_bn {d : UInt8} (h : ¬ (d = 34 ∨ d = 92)) (r : List UInt8) : quo (92 :: d :: r) = none := by simp [quo, h]
def quotS (s : ByteArray) : ByteArray × ByteArray × Bool := match quo (bs s) with
 | some (a, r) => (mkS a, mkS r, true)
 | none => (mkS [], mkS [], false)
theorem rowsBytes_map : ∀ l : List UInt8, rowsBytes (l.map byteRow) = some l
 | [] => rfl
 | x :: l => by
  simp only [List.map_cons, byteRow, rowsBytes, rowsBytes_map l, Option.map_some, Int.toNat_natCast]
  rw [UInt8.ofNat_toNat]
def byteRows (l : List UInt8) : List (List AV) := l.map byteRow
@[go_sem] theorem byteRows_len (l : List UInt8) : (byteRows l).length = l.length := List.length_map ..
@[go_sem] theorem byteRows_take (l : List UInt8) : (byteRows l).take l.length = byteRows l := List.take_of_length_le (by rw [byteRows_len]; exact Nat.le_refl _)
@[go_sem] theorem byteRows_bytes (l : List UInt8) : rowsBytes (byteRows l) = some l := rowsBytes_map l
@[go_sem] theorem byteRows_app (l : List UInt8) (x : UInt8) : byteRows l ++ [[.c (.v (.int .u8 x.toNat))]] = byteRows (l ++ [x]) := by simp [byteRows, byteRow]
theorem lt_byteRows (n : Nat) (l : List UInt8) : ∀ r ∈ byteRows l, ∀ a ∈ r, ltA n a := by
 intro r hr a ha
 obtain ⟨x, _, rfl⟩ := List.mem_map.1 hr
 obtain rfl := List.mem_singleton.1 ha
 trivial
set_option maxRecDepth 20000 in
theorem quoted_rc (s : ByteArray) (hs : s.size ≤ 140737488355328) (M : List Blk) : CallR Tryz.prog M n_label_quoted [.s s] (.tup [.s (quotS s).1, .s (quotS s).2.1, .b (quotS s).2.2]) M := by
 refine callP F_label_quoted (Nat.le_of_ble_eq_true rfl) (by simp only [go_sem]) (by simp only [go_sem]) ?_ M
 simp only [c_label_quoted, go_sem]
 refine run_gh (gh_born 5 5 1 (by simp only [go_sem])) ?_
 refine V_loop (ι := Nat × Nat × Bool × List UInt8) (J := fun p => p.1 ≤ s.size ∧ p.2.2.2.length ≤ p.1 ∧ quo (bs s) = (quo ((bs s).drop p.1)).map (fun q => (p.2.2.2 ++ q.1, q.2)))
  (env := fun p => [(0, .s s), (5, .p (.one (.arr 1 0 p.2.1 0 p.2.2.2.length))), (6, .i p.1)])
  (mem := fun p => [.rows 5 1 p.2.1 (byteRows p.2.2.2) p.2.2.1]) (μ := fun p => s.size - p.1) (0, 0, true, []) ⟨Nat.zero_le _, Nat.le_refl _, by simp⟩ ?_ ?_
 ·exact ⟨[], by simp only [go_sem]; rfl, Nat.zero_le _, by simp only [go_sem], by simp only [go_sem, ltB]; exact lt_byteRows _ _⟩
 rintro ⟨i, ver, f, acc⟩ ⟨hi, hacc, hq⟩
 simp only [go_sem] at hi hacc hq ⊢
 refine ⟨fun h1 => ?_, fun h1 => ?_⟩
 ·have e1 : IntKind.i64.wrap ((i : Int) + 1) = ((i + 1 : Nat) : Int) := w64s (by omega)
  have hl : i < (bs s).length := by rw [bs_len]; exact h1
  rw [drop_getD 0 hl] at hq
  simp only [e1, Int.toNat_natCast]
  have hdr : ∀ k, ((bs s).drop k).length = s.size - k := fun k => by rw [List.length_drop, bs_len]
  generalize hc0 : (bs s).getD i 0 = c at hq ⊢
  refine ⟨by omega, fun hc => ?_, fun hc => ⟨fun hb => ?_, fun hb => ?_⟩⟩
  ·have hc : c = 34 := UInt8.toNat_inj.1 (by show c.toNat = 34; omega)
   subst hc
   rw [quo_q] at hq
   refine ⟨by omega, ?_⟩
   simp only [quotS, hq, Option.map_some, List.append_nil]
   refine ⟨trivial, bs_inj ?_, trivial⟩
   rw [bs_extract, List.take_of_length_le (by rw [hdr]; exact Nat.le_refl _)]
   rfl
  ·have hb : c = 92 := UInt8.toNat_inj.1 (by show c.toNat = 92; omega)
   subst hb
   by_cases hend : i + 1 = s.size
   ·have hd : (bs s).drop (i + 1) = [] := List.eq_nil_of_length_eq_zero (by rw [hdr]; omega)
    rw [hd] at hq
    have hq' : quo (bs s) = none := by rw [hq]; rfl
    have eb : ((((i + 1 : Nat) : Int)) == (s.size : Int)) = true := by rw [beq_iff_eq]; omega
    simp only [eb, quotS, hq']
    refine ⟨fun h => absurd h (by decide), fun h => absurd h (by simp), fun _ => ⟨trivial, trivial, trivial⟩, fun h => absurd h (by simp)⟩
   ·have eb : ((((i + 1 : Nat) : Int)) == (s.size : Int)) = false := by rw [beq_eq_false_iff_ne]; omega
    rw [drop_getD 0 (show i + 1 < (bs s).length by rw [bs_len]; omega)] at hq
    generalize (bs s).getD (i + 1) 0 = d at hq ⊢
    simp only [eb, Bool.false_or, Bool.not_false, Bool.true_and]
    refine ⟨fun _ => by omega, fun _ => by omega, fun h => ?_, fun h => ⟨by omega, by omega, ?_⟩⟩
    ·have hd : ¬ (d = 34 ∨ d = 92) := by
      rintro (rfl | rfl) <;> exact absurd h (by decide)
     rw [quo_bn hd] at hq
     simp only [quotS, hq, Option.map_none]
     exact ⟨trivial, trivial, trivial⟩
    ·have hd : d = 34 ∨ d = 92 := by
      simp only [Bool.and_eq_false_iff, bne_eq_false_iff_eq] at h
      rcases h with h | h
      ·exact .inl (UInt8.toNat_inj.1 (by show d.toNat = 34; omega))
      ·exact .inr (UInt8.toNat_inj.1 (by show d.toNat = 92; omega))
     rw [quo_b hd] at hq
     refine ⟨(i + 1 + 1, ver + 1, false, acc ++ [d]), ⟨by simp only []; omega, by simp; omega, ?_⟩, by simp only []; omega, [.rows 5 1 0 [[AV.c (CV.v (Value.int IntKind.u8 d.toNat))]] true], ?_, Nat.zero_le _, ?_, ?_⟩
     ·rw [hq, Option.map_map]
      congr 1
      funext q
      simp
     ·simp only [go_sem]
     ·have e2 : IntKind.i64.wrap (((i + 1 : Nat) : Int) + 1) = ((i + 1 + 1 : Nat) : Int) := w64s (by omega)
      simp only [go_sem, e2, List.length_append]
     ·simp only [go_sem, ltB]; exact lt_byteRows _ _
  ·have hb' : c ≠ 92 := fun e => hb (by rw [e]; rfl)
   have hc' : c ≠ 34 := fun e => hc (by rw [e]; rfl)
   rw [quo_c hc' hb'] at hq
   refine ⟨by omega, by omega, (i + 1, ver + 1, false, acc ++ [c]), ⟨by simp only []; omega, by simp; omega, ?_⟩, by simp only []; omega, [.rows 5 1 0 [[AV.c (CV.v (Value.int IntKind.u8 c.toNat))]] true], ?_, Nat.zero_le _, ?_, ?_⟩
   ·rw [hq, Option.map_map]
    congr 1
    funext q
    simp
   ·simp only [go_sem]
   ·simp only [go_sem, e1, List.length_append]
   ·simp only [go_sem, ltB]; exact lt_byteRows _ _
 ·have hd : (bs s).drop i = [] := List.eq_nil_of_length_eq_zero (by rw [List.length_drop, bs_len]; omega)
  rw [hd] at hq
  have hq' : quo (bs s) = none := by rw [hq]; rfl
  simp only [quotS, hq']
  exact ⟨trivial, trivial, trivial⟩
end Go.Proofs.YtpdcpdngckpgbaaGreat.A
end
section
namespace Go.Proofs.YtpdcpdngckpgbaaGreat.A
open Go Go.Proofs Go.Proofs.YtpdcpdngckpgbaaGreatAbs
theorem Parse1_rc (x y : Lb) (M : List Blk) : CallR Tryz.prog M n_label_Parse_1 [.agg [.c (.v (.string x.name)), .c (.v (.string x.value))], .agg [.c (.v (.string y.name)), .c (.v (.string y.value))]] (.i (cmpS x.name y.name)) M := by
 refine callP F_label_Parse_1 (Nat.le_of_ble_eq_true rfl) (by simp only [go_sem]) (by simp only [go_sem]) ?_ M
 simp only [c_label_Parse_1, go_sem]
 refine call0 (Compare_rc _ _) ?_
 simp only [go_sem]
def lbRow (x : Lb) : List AV := [.c (.v (.string x.name)), .c (.v (.string x.value))]
def lbRows (l : List Lb) : List (List AV) := l.map lbRow
@[go_sem] theorem lbRows_len (l : List Lb) : (lbRows l).length = l.length := List.length_map ..
theorem lt_lbRows (n : Nat) (l : List Lb) : ∀ r ∈ lbRows l, r.length = 2 ∧ ∀ a ∈ r, ltA n a := by
 intro r hr
 obtain ⟨x, _, rfl⟩ := List.mem_map.1 hr
 refine ⟨rfl, fun a ha => ?_⟩
 rcases List.mem_cons.1 ha with rfl | ha
 ·trivial
 ·obtain rfl := List.mem_singleton.1 ha; trivial
def ltLb (x y : Lb) : Bool := sLt x.name y.name
def sortLb (l : List Lb) : List Lb := sortTo ltLb default l l.length
def cmpRow (x y : List AV) : Int := match x, y with
 | [.c (.v (.string a)), _], [.c (.v (.string b)), _] => cmpS a b
 | _, _ => 0
theorem cmpS_neg (a b : ByteArray) : decide (cmpS a b < 0) = sLt a b := by
 unfold cmpS
 cases h : sLt a b with
 | true => simp
 | false =>
  cases k : sLt b a <;> simp
theorem sort_rows (l : List Lb) : sortTo (fun x y => decide (cmpRow x y < 0)) [] (lbRows l) l.length = lbRows (sortLb l) := by
 unfold lbRows sortLb
 exact sortTo_map (lt := ltLb) (f := lbRow) (fun x y => cmpS_neg _ _) (Nat.le_refl _)
variable {M : List Blk} {b v : Nat} {l : List Lb} {f : Bool}
abbrev cmpF : Pt := .one (.fn n_label_Parse_1 0 fun _ => default)
theorem isort (hb : M[b]? = some (.rows 115 2 v (lbRows l) f)) (hn : l.length ≤ 12) (hMB : ∀ x ∈ M, ltB M.length x) :
  CallR Tryz.prog M n_slices_insertionSortCmpFunc_api_Label [.one (.arr 2 b v 0 l.length), .i 0, .i l.length, cmpF] (.tup []) (M.set b (.rows 115 2 v (lbRows (sortLb l)) f)) := by
 have hbl : b < M.length := getElem?_lt hb
 by_cases h0 : l.length = 0
 ·obtain rfl : l = [] := List.eq_nil_of_length_eq_zero h0
  refine callR_intro F_slices_insertionSortCmpFunc_api_Label (by simp) ?_
  refine V_sound ?_
  simp only [c_slices_insertionSortCmpFunc_api_Label, go_sem]
  have e1 : IntKind.i64.wrap ((0 : Int) + 1) = ((1 : Nat) : Int) := by decide
  refine V_loop (ι := Unit) (J := fun _ => True) (env := fun _ => [(2, .i 0), (8, .i 1)]) (mem := fun _ => M) (μ := fun _ => 0) () trivial ⟨[], (List.append_nil _).symm, Nat.le_refl _, ?_, hMB⟩ ?_
  ·simp only [go_sem, e1, List.length_nil, Int.natCast_zero]
  rintro ⟨⟩ _
  simp only [go_sem]
  refine fin_own (.inl rfl) (Gh.refl _) [] (qs := []) (cnd := True) rfl trivial (by rw [List.append_nil]; exact (set_self hb).symm) ?_ ?_ ?_ ?_
  ·show leS (SV.tup []) (SV.tup []); rw [leS_self]; trivial
  ·rw [List.length_set]; exact Nat.le_refl _
  ·simp only [go_sem]
  ·rw [show sortLb [] = [] from rfl, set_self hb]; exact hMB
 have := isort_rc (b := b) (P := Tryz.prog) F_slices_insertionSortCmpFunc_api_Label (by decide) hb (by rw [lbRows_len]; omega) (by rw [lbRows_len]; omega) (fun r hr => lt_lbRows 0 l r hr) hMB n_label_Parse_1 0 (fun _ => default) cmpRow (fun i hi => absurd hi (Nat.not_lt_zero _)) (fun x hx y hy M => ?_)
 ·rw [lbRows_len, sort_rows] at this
  exact this
 ·obtain ⟨x, _, rfl⟩ := List.mem_map.1 hx
  obtain ⟨y, _, rfl⟩ := List.mem_map.1 hy
  exact Parse1_rc x y M
theorem ltB_lbRows (n v : Nat) (l : List Lb) (f : Bool) : ltB n (.rows 115 2 v (lbRows l) f) := fun r hr => (lt_lbRows n l r hr).2
theorem ltB_setRows (hMB : ∀ x ∈ M, ltB M.length x) : ∀ x ∈ M.set b (.rows 115 2 v (lbRows l) f), ltB (M.set b (.rows 115 2 v (lbRows l) f)).length x := by
 intro x hx
 rw [List.length_set]
 rcases List.mem_or_eq_of_mem_set hx with hx | rfl
 ·exact hMB x hx
 ·exact ltB_lbRows _ _ _ _
set_option maxRecDepth 20000 in
theorem pdq_rc (hb : M[b]? = some (.rows 115 2 v (lbRows l) f)) (hn : l.length ≤ 12) (hMB : ∀ x ∈ M, ltB M.length x) (lim : Int) :
  CallR Tryz.prog M n_slices_pdqsortCmpFunc_api_Label [.one (.arr 2 b v 0 l.length), .i 0, .i l.length, .i lim, cmpF] (.tup []) (M.set b (.rows 115 2 v (lbRows (sortLb l)) f)) := by
 have hbl : b < M.length := getElem?_lt hb
 refine callR_intro F_slices_pdqsortCmpFunc_api_Label (by simp) ?_
 refine V_sound ?_
 obtain ⟨R, hR⟩ : ∃ R, c_slices_pdqsortCmpFunc_api_Label = (.seq (.reg false [⟨some 10, .mv (kb true), none⟩])
 (.seq (.reg false [oo 11 (.mv (kb true))])
 (.block 0 (.loop (.block 1 (.seq (.reg false [om 21 2, om 22 1, oo 23 (.bin .sub (.t 21) (.t 22)), om 12 23])
 (.seq (.seq (.reg false [om 24 12, oo 25 (.bin .leq (.t 24) (ki 12))])
 (.cond (.t 25)
 (.seq (.reg false [om 26 0, om 27 1, om 28 2, om 29 4, oo 30 (.call (kf n_slices_insertionSortCmpFunc_api_Label) [(.t 26), (.t 27), (.t 28), (.t 29)])])
 .ret)
 .skip)) R))))))) := ⟨_, rfl⟩
 rw [hR]
 simp only [go_sem]
 refine V_loop (ι := Unit) (J := fun _ => True) (env := fun _ => [(0, .p (.one (.arr 2 b v 0 l.length))), (1, .i 0), (2, .i l.length), (4, .p cmpF)]) (mem := fun _ => M) (μ := fun _ => 0) () trivial ⟨[], (List.append_nil _).symm, Nat.le_refl _, ?_, hMB⟩ ?_
 ·simp only [go_sem]
  exact hbl
 rintro ⟨⟩ _
 have e1 : IntKind.i64.wrap ((l.length : Int) - 0) = (l.length : Int) := w64 (by omega) (by omega)
 have e2 : (l.length : Int) ≤ 12 := by omega
 simp only [go_sem, e1, e2]
 refine call1 (isort hb hn hMB) (by simp only [go_sem]) (fun h => Bool.noConfusion h) ?_
 simp only [go_sem]
 refine fin_own (.inr rfl) (Gh.refl _) [] (qs := []) (cnd := True) rfl trivial (List.append_nil _).symm ?_ ?_ ?_ ?_
 ·show leS (SV.tup []) (SV.tup []); rw [leS_self]; trivial
 ·rw [List.length_set]; exact Nat.le_refl _
 ·simp only [go_sem]
 ·exact ltB_setRows hMB
set_option maxRecDepth 20000 in
theorem Sort_rc (hb : M[b]? = some (.rows 115 2 v (lbRows l) f)) (hn : l.length ≤ 12) (hMB : ∀ x ∈ M, ltB M.length x) :
  CallR Tryz.prog M n_slices_SortFunc_api_Label_api_Label [.one (.arr 2 b v 0 l.length), cmpF] (.tup []) (M.set b (.rows 115 2 v (lbRows (sortLb l)) f)) := by
 have hbl : b < M.length := getElem?_lt hb
 refine callR_intro F_slices_SortFunc_api_Label_api_Label (by simp) ?_
 refine V_sound ?_
 have e1 : IntKind.u64.wrap (l.length : Int) = (l.length : Int) := by rw [IntKind.wrap_u64]; omega
 simp only [c_slices_SortFunc_api_Label_api_Label, go_sem, hb, e1]
 refine call0 (BitsLen_rc _ (by omega) (by omega)) ?_
 simp only [go_sem, hb]
 refine call1 (pdq_rc hb hn hMB _) (by simp only [go_sem]; rfl) (fun h => Bool.noConfusion h) ?_
 simp only [go_sem]
 refine fin_own (.inl rfl) (Gh.refl _) [] (qs := []) (cnd := True) rfl trivial (List.append_nil _).symm ?_ ?_ ?_ ?_
 ·show leS (SV.tup []) (SV.tup []); rw [leS_self]; trivial
 ·rw [List.length_set]; exact Nat.le_refl _
 ·simp only [go_sem]
 ·exact ltB_setRows hMB
end Go.Proofs.YtpdcpdngckpgbaaGreat.A
end
section
namespace Go.Proofs.YtpdcpdngckpgbaaGreat.A
open Go Go.Proofs Go.Proofs.YtpdcpdngckpgbaaGreatAbs
def parG : Nat → List UInt8 → List Lb → Option (List Lb)
 | 0, _, _ => none
 | n + 1, rest, ls =>
  if (Lib.cut rest [61, 34]).2.2 = false then none else
  match quo (Lib.cut rest [61, 34]).2.1 with
  | none => none
  | some (_, []) => none
  | some (a, x :: t) => if ls.length = 4 then none else if x = 44 then parG n t (ls ++ [⟨mkS (Lib.cut rest [61, 34]).1, mkS a⟩]) else if x = 125 ∧ t = [] then some (ls ++ [⟨mkS (Lib.cut rest [61, 34]).1, mkS a⟩]) else none
def parAll (s : List UInt8) : Option (List Lb) := if (Lib.cut s [123]).2.2 then parG 5 (Lib.cut s [123]).2.1 [] else some []
def parS (s : ByteArray) : Option Ser := (parAll (bs s)).bind fun ls => if serOk ⟨mkS (Lib.cut (bs s) [123]).1, sortLb ls⟩ then some ⟨mkS (Lib.cut (bs s) [123]).1, sortLb ls⟩ else none
def parR (s : ByteArray) : SV := match parS s with
 | some x => .tup [serA x, .i 0]
 | none => .tup [serA ⟨mkS [], []⟩, .i 2]
theorem cut_len (s sep : List UInt8) : (Lib.cut s sep).1.length ≤ s.length ∧ (Lib.cut s sep).2.1.length ≤ s.length := by
 unfold Lib.cut
 split
 ·exact ⟨by rw [List.length_take]; omega, by rw [List.length_drop]; omega⟩
 ·exact ⟨Nat.le_refl _, Nat.zero_le _⟩
theorem quo_len : ∀ {l a r : List UInt8}, quo l = some (a, r) → a.length + r.length < l.length
 | [], a, r, h => by cases h
 | [c], a, r, h => by
  simp only [quo] at h
  split at h
  ·cases h; simp
  ·cases h
 | c :: d :: l, a, r, h => by
  simp only [quo] at h
  split at h
  ·cases h; simp
  ·split at h
   ·split at h
    ·obtain ⟨⟨a', r'⟩, h1, h2⟩ := Option.map_eq_some_iff.1 h
     cases h2
     have := quo_len h1
     simp only [List.length_cons] at this ⊢
     omega
    ·cases h
   ·obtain ⟨⟨a', r'⟩, h1, h2⟩ := Option.map_eq_some_iff.1 h
    cases h2
    have := quo_len h1
    simp only [List.length_cons] at this ⊢
    omega
theorem sub_ser (n : ByteArray) (l : List Lb) (c : Nat → Nat → CV) (h : ∀ i, i < l.length → ∀ j, j < 2 → c i j = (l.getD i default).c j) : SubP (.agg [.c (.v (.string n)), .c (.imm 2 l.length c)]) (serA ⟨n, l⟩) := subP_agg2 (SubA.refl _) (subA_imm h)
theorem sub_zero : SubP (.agg [.c (.v (.string ⟨#[]⟩)), .c (.v (.slice none 0 0))]) (serA ⟨mkS [], []⟩) := subP_agg2 (SubA.refl _) (subA_nil 2 _)
theorem lbRows_get (l : List Lb) {i j : Nat} (hi : i < l.length) (hj : j < 2) : toC (((lbRows l).getD (0 + i) []).getD j default) = (l.getD i default).c j := by
 have : (lbRows l).getD (0 + i) [] = lbRow (l.getD i default) := by
  rw [Nat.zero_add, List.getD_eq_getElem?_getD, List.getD_eq_getElem?_getD, lbRows, List.getElem?_map, List.getElem?_eq_getElem hi]; rfl
 rw [this]
 match j, hj with
 | 0, _ => rfl
 | 1, _ => rfl
set_option maxRecDepth 20000 in
theorem Parse_rc (s : ByteArray) (hs : s.size < 4294967281) (M : List Blk) : CallR Tryz.prog M n_label_Parse [.s s] (parR s) M := by
 refine callPS F_label_Parse (Nat.le_of_ble_eq_true rfl) (by simp only [go_sem]) (by unfold parR; split <;> simp only [go_sem]) ?_ M
 refine run_seqV ?_
 simp only [go_sem]
 refine run_seqV ?_
 simp only [go_sem]
 refine call0 (Cut_rc s (mkS [123]) hs) ?_
 simp only [go_sem]
 refine run_seqV ?_
 simp only [go_sem]
 refine run_gh (gh_born_cell (b := 1) (i := 0) (j := 1) rfl rfl rfl 115 2) ?_
 refine run_seqV ?_
 simp only [go_sem]
 obtain ⟨nm, hnm⟩ : ∃ nm, nm = (cutS s (mkS [123])).1 := ⟨_, rfl⟩
 have hns : nm.size ≤ s.size := by
  have := (cut_len (bs s) [123]).1
  rw [hnm]
  show (mkS (Lib.cut (bs s) [123]).1).size ≤ s.size
  rw [mk_size, ← bs_len]
  exact this
 rw [← hnm]
 refine R_loop (ι := Nat × Bool × List Lb × ByteArray × Bool) (J := fun p => p.2.2.2.1.size ≤ s.size ∧ p.2.2.1.length ≤ 4 ∧ (∀ y ∈ p.2.2.1, zS y.name ∧ zS y.value) ∧ (if p.2.2.2.2 then parG (5 - p.2.2.1.length) (bs p.2.2.2.1) p.2.2.1 else some p.2.2.1) = parAll (bs s))
  (env := fun p => [(2, .p (.one (.ptr 0 0 0 0))), (5, .s p.2.2.2.1), (7, .p (.one (.ptr 1 0 0 0))), (8, .b p.2.2.2.2)])
  (mem := fun p => [.rows 100 2 0 [[.c (.v (.string ⟨#[]⟩)), .c (.v (.slice none 0 0))]] true, .rows 100 2 0 [[.c (.v (.string nm)), .arr 2 2 p.1 0 p.2.2.1.length]] true, .rows 115 2 p.1 (lbRows p.2.2.1) p.2.1])
  (μ := fun p => 5 - p.2.2.1.length) (0, true, [], (cutS s (mkS [123])).2.1, (cutS s (mkS [123])).2.2) ⟨?_, Nat.zero_le _, by simp, ?_⟩ ⟨[], ?_, Nat.zero_le _, ?_, ?_⟩ ?_
 ·have := (cut_len (bs s) [123]).2
  show (mkS (Lib.cut (bs s) [123]).2.1).size ≤ s.size
  rw [mk_size, ← bs_len]
  exact this
 ·rfl
 ·simp only [go_sem, fillL, lbRows]
 ·simp only [go_sem]
 ·simp only [go_sem, ltB]
  exact fun r hr => (lt_lbRows 3 _ r hr).2
 rintro ⟨v, f, ls, rest, ok⟩ ⟨hrest, hls, hz, hpar⟩
 simp only at hrest hls hz hpar
 refine run_seqV ?_
 cases ok with
 | false =>
  simp only [Bool.false_eq_true, if_false] at hpar
  simp only [go_sem]
  refine run_seqV ?_
  simp only [go_sem]
  have hlen : (sortLb ls).length = ls.length := sortTo_length
  have hzs : ∀ y ∈ sortLb ls, zS y.name ∧ zS y.value := sortTo_mem hz (Nat.le_refl _)
  refine call1 (Sort_rc (b := 2) (v := v) (l := ls) (f := f) rfl (by omega) ?_) (by simp only [go_sem]) (fun h => Bool.noConfusion h) ?_
  ·simp only [go_sem, ltB]
   exact fun r hr => (lt_lbRows 3 _ r hr).2
  simp only [go_sem]
  refine run_gh (gh_freeze (b := 2) rfl ?_) ?_
  ·intro r hr a ha
   obtain ⟨y, _, rfl⟩ := List.mem_map.1 hr
   rcases List.mem_cons.1 ha with rfl | ha
   ·exact ⟨_, rfl⟩
   ·obtain rfl := List.mem_singleton.1 ha; exact ⟨_, rfl⟩
  refine run_seqV ?_
  simp only [go_sem, hlen]
  have hsub : ∀ c : Nat → Nat → CV, (∀ i, i < ls.length → ∀ j, j < 2 → c i j = ((sortLb ls).getD i default).c j) → SubP (.agg [.c (.v (.string nm)), .c (.imm 2 ls.length c)]) (serA ⟨nm, sortLb ls⟩) := by
   intro c h
   have := sub_ser nm (sortLb ls) c (by rw [hlen]; exact h)
   rw [hlen] at this
   exact this
  have hgt : ∀ i, i < ls.length → ∀ j, j < 2 → toC (((lbRows (sortLb ls)).getD i []).getD j default) = ((sortLb ls).getD i default).c j := by
   intro i hi j hj
   have := lbRows_get (sortLb ls) (i := i) (by rw [hlen]; exact hi) hj
   rw [Nat.zero_add] at this
   exact this
  have hx : zSer ⟨nm, sortLb ls⟩ := by
   refine ⟨by unfold zS; simp only; omega, by simp only [hlen]; omega, fun i hi => hzs _ ?_⟩
   rw [List.getD_eq_getElem?_getD, List.getElem?_eq_getElem hi]
   exact List.getElem_mem _
  refine call0 (fun M => (Check_rc ⟨nm, sortLb ls⟩ hx M).sub ⟨hsub _ hgt, trivial⟩) ?_
  simp only [go_sem]
  have hnm' : nm = mkS (Lib.cut (bs s) [123]).1 := hnm
  by_cases hok : serOk ⟨nm, sortLb ls⟩ = true
  ·rw [if_pos hok]
   have hR : parR s = .tup [serA ⟨nm, sortLb ls⟩, .i 0] := by
    unfold parR parS
    rw [← hpar, Option.bind_some, ← hnm', if_pos hok]
   rw [hR]
   refine ⟨fun h => absurd h (by decide), fun _ => V_sound ?_⟩
   simp only [go_sem]
   exact subS_tup2 (hsub _ hgt) (SubP.refl _)
  ·rw [if_neg hok]
   have hR : parR s = .tup [serA ⟨mkS [], []⟩, .i 2] := by
    unfold parR parS
    rw [← hpar, Option.bind_some, ← hnm', if_neg hok]
   rw [hR]
   refine ⟨fun _ => subS_tup2 sub_zero (SubP.refl _), fun h => absurd h (by decide)⟩
 | true =>
  simp only [go_sem]
  refine run_block ?_
  refine run_seqV ?_
  simp only [go_sem]
  refine call0 (Cut_rc rest (mkS [61, 34]) (by omega)) ?_
  obtain ⟨⟨kk, rr, fd⟩, hc⟩ : ∃ c, c = Lib.cut (bs rest) [61, 34] := ⟨_, rfl⟩
  have hcs : cutS rest (mkS [61, 34]) = (mkS kk, mkS rr, fd) := by
   show (mkS (Lib.cut (bs rest) [61, 34]).1, mkS (Lib.cut (bs rest) [61, 34]).2.1, (Lib.cut (bs rest) [61, 34]).2.2) = _
   rw [← hc]
  have hcl := cut_len (bs rest) [61, 34]
  obtain ⟨n, hn⟩ : ∃ n, 5 - ls.length = n + 1 := ⟨4 - ls.length, by omega⟩
  simp only [if_true, hn, parG, ← hc] at hpar hcl
  rw [bs_len] at hcl
  rw [hcs]
  have herr : parAll (bs s) = none → SubS (.tup [.agg [.c (.v (.string ⟨#[]⟩)), .c (.v (.slice none 0 0))], .i 2]) (parR s) := by
   intro h
   have : parR s = .tup [serA ⟨mkS [], []⟩, .i 2] := by unfold parR parS; rw [h]; rfl
   rw [this]
   exact subS_tup2 sub_zero (SubP.refl _)
  simp only [go_sem]
  refine run_seqV ?_
  simp only [go_sem]
  refine call0 (quoted_rc (mkS rr) (by rw [mk_size]; omega)) ?_
  cases fd with
  | false =>
   have hp : parAll (bs s) = none := by rw [← hpar]; rfl
   simp only [go_sem]
   refine run_seqV ?_
   simp only [go_sem]
   exact ⟨fun _ => herr hp, fun h => absurd h (by simp)⟩
  | true =>
   simp only [Bool.true_eq_false, if_false] at hpar
   cases hq : quo rr with
   | none =>
    rw [hq] at hpar
    have hqs : quotS (mkS rr) = (mkS [], mkS [], false) := by unfold quotS; rw [bs_mk, hq]
    rw [hqs]
    simp only [go_sem]
    refine run_seqV ?_
    simp only [go_sem]
    exact ⟨fun _ => herr hpar.symm, fun h => absurd h (by simp)⟩
   | some at_ =>
    obtain ⟨aa, tt⟩ := at_
    rw [hq] at hpar
    have hqs : quotS (mkS rr) = (mkS aa, mkS tt, true) := by unfold quotS; rw [bs_mk, hq]
    rw [hqs]
    simp only [go_sem]
    refine run_seqV ?_
    cases tt with
    | nil =>
     simp only [go_sem]
     exact ⟨fun _ => herr hpar.symm, fun h => absurd h (by simp)⟩
    | cons x t =>
     simp only [go_sem] at hpar ⊢
     have hne : decide (mkS (x :: t) = mkS []) = false := by
      rw [decide_eq_false_iff_not]
      intro e
      have := congrArg bs e
      rw [bs_mk, bs_mk] at this
      cases this
     have hql := quo_len hq
     rw [List.length_cons] at hql
     by_cases h4 : ls.length = 4
     ·rw [if_pos h4] at hpar
      refine ⟨fun _ => herr hpar.symm, fun h => ?_⟩
      exfalso
      rw [h4] at h
      simp at h
     rw [if_neg h4] at hpar
     refine ⟨fun h => ?_, fun _ => ?_⟩
     ·exfalso
      rw [hne] at h
      simp at h
      omega
     refine run_seqV ?_
     simp only [go_sem]
     refine ⟨by omega, ?_⟩
     refine run_seqV ?_
     simp only [go_sem]
     have hrow : lbRows ls ++ [[.c (.v (.string (mkS kk))), .c (.v (.string (mkS aa)))]] = lbRows (ls ++ [⟨mkS kk, mkS aa⟩]) := by simp [lbRows, lbRow]
     have hext : (mkS (x :: t)).extract (Int.toNat 1) (mkS (x :: t)).size = mkS t := bs_inj (by rw [bs_extract, bs_mk, bs_mk, mk_size]; simp)
     have hz' : ∀ y ∈ ls ++ [⟨mkS kk, mkS aa⟩], zS y.name ∧ zS y.value := by
      intro y hy
      rcases List.mem_append.1 hy with hy | hy
      ·exact hz y hy
      ·obtain rfl := List.mem_singleton.1 hy
       unfold zS
       rw [mk_size, mk_size]
       omega
     have hn' : 5 - (ls ++ [(⟨mkS kk, mkS aa⟩ : Lb)]).length = n := by simp only [List.length_append, List.length_cons, List.length_nil]; omega
     have hl' : (ls ++ [(⟨mkS kk, mkS aa⟩ : Lb)]).length ≤ 4 := by simp only [List.length_append, List.length_cons, List.length_nil]; omega
     by_cases hx : x = 44
     ·subst hx
      rw [if_pos rfl] at hpar
      refine ⟨by simp, fun h => absurd h (by simp), fun _ => V_sound ?_⟩
      simp only [go_sem, hext, hrow]
      refine ⟨by simp; omega, (v + 1, false, ls ++ [⟨mkS kk, mkS aa⟩], mkS t, true), ⟨?_, hl', hz', ?_⟩, by simp only []; omega, [.rows 115 2 0 [[.c (.v (.string (mkS kk))), .c (.v (.string (mkS aa)))]] true], by simp only [List.length_append, List.length_cons, List.length_nil, List.cons_append, List.nil_append], Nat.zero_le _, ?_, ?_⟩
      ·simp only [mk_size]; omega
      ·simp only [if_true, hn', bs_mk]; exact hpar
      ·simp only [go_sem, List.length_append]
       exact ⟨hext, rfl⟩
      ·simp only [go_sem, ltB]
       exact fun r hr => (lt_lbRows 3 _ r hr).2
     ·rw [if_neg hx] at hpar
      have hx' : ((x.toNat : Int) == 44) = false := by
       rw [beq_eq_false_iff_ne]
       exact fun e => hx (UInt8.toNat_inj.1 (by show x.toNat = 44; omega))
      by_cases hy : x = 125 ∧ t = []
      ·rw [if_pos hy] at hpar
       obtain ⟨rfl, rfl⟩ := hy
       refine ⟨by simp, fun h => absurd h (by simp), fun _ => V_sound ?_⟩
       simp only [go_sem, hext, hrow, hx']
       refine ⟨by simp, (v + 1, false, ls ++ [⟨mkS kk, mkS aa⟩], mkS [], false), ⟨?_, hl', hz', ?_⟩, by simp only []; omega, [.rows 115 2 0 [[.c (.v (.string (mkS kk))), .c (.v (.string (mkS aa)))]] true], by simp only [List.length_append, List.length_cons, List.length_nil, List.cons_append, List.nil_append], Nat.zero_le _, ?_, ?_⟩
       ·simp only [mk_size]; exact Nat.zero_le _
       ·simp only [Bool.false_eq_true, if_false]; exact hpar
       ·simp only [go_sem, List.length_append]
        exact hext
       ·simp only [go_sem, ltB]
        exact fun r hr => (lt_lbRows 3 _ r hr).2
      ·rw [if_neg hy] at hpar
       have hd : decide (mkS (x :: t) = mkS [125]) = false := by
        rw [decide_eq_false_iff_not]
        intro e
        have := congrArg bs e
        rw [bs_mk, bs_mk] at this
        cases this
        exact hy ⟨rfl, rfl⟩
       refine ⟨by simp, fun _ => herr hpar.symm, fun h => ?_⟩
       exfalso
       rw [hx', hd] at h
       simp at h
end Go.Proofs.YtpdcpdngckpgbaaGreat.A
end
section
namespace Go.Proofs.YtpdcpdngckpgbaaGreat.A
open Go Go.Proofs Go.Proofs.YtpdcpdngckpgbaaGreatAbs
def textR (s : Ser) : ByteArray := mkS (textP s s.labels.length ++ (if 0 < s.labels.length then [125] else []))
theorem app_mk (l : List UInt8) (s : ByteArray) : mkS l ++ s = mkS (l ++ bs s) := bs_inj (by rw [bs_append]; rfl)
theorem textR_prT {s : Ser} (h : serOk s = true) : textR s = prT s := by
 rw [textR, prT, if_pos h]
 by_cases h0 : s.labels.length = 0
 ·rw [if_neg (by omega), if_pos h0, h0, List.append_nil, textP, mk_bs]
 ·rw [if_pos (by omega), if_neg h0]
set_option maxRecDepth 20000 in
theorem Text_rc (s : Ser) (hok : serOk s = true) (M : List Blk) : CallR Tryz.prog M n_windroseref03_Text [serA s] (.s (textR s)) M := by
 obtain ⟨hk1, hk2, hk3⟩ := serOk_parts hok
 refine callPS F_windroseref03_Text (Nat.le_of_ble_eq_true rfl) (by simp only [go_sem]) (by simp only [go_sem]) ?_ M
 refine run_seqV ?_
 simp only [go_sem]
 refine run_seqV ?_
 simp only [go_sem]
 refine run_seqV ?_
 simp only [go_sem]
 refine R_loop (ι := Nat) (J := fun k => k ≤ s.labels.length) (env := fun k => [(1, .p (.one (.ptr 0 0 0 0))), (3, .s (mkS (textP s k))), (4, .i k)])
  (mem := fun _ => [.rows 100 2 0 [[.c (.v (.string s.name)), .c (lbCV s.labels)]] true]) (μ := fun k => s.labels.length - k) 0 (Nat.zero_le _) ⟨[], by simp only [go_sem], Nat.zero_le _, by simp only [go_sem, textP]; exact (mk_bs _).symm, by simp only [go_sem, ltB]⟩ ?_
 intro k hk
 refine run_seqV ?_
 simp only [go_sem]
 refine ⟨fun h1 => ?_, fun h1 => ?_⟩
 ·have hl := lbOk_parts (hk3 k h1)
  have hnl := nm_len hl.1
  have hvl := vl_parts hl.2
  have htl := textP_len hok k hk
  have hxt : textP s (k + 1) = textP s k ++ labT k (s.labels.getD k default) := rfl
  refine run_seq ?_
  refine run_block ?_
  refine run_seqV ?_
  simp only [go_sem, mk_append, mk_size]
  refine ⟨fun h0 => ?_, fun h0 => ?_⟩
  ·have hlab : labT k (s.labels.getD k default) = [123] ++ (bs (s.labels.getD k default).name ++ [61, 34]) ++ esc (bs (s.labels.getD k default).value) ++ [34] := by rw [labT, if_pos (by omega)]
   refine ⟨by omega, ?_⟩
   refine run_seqV ?_
   simp only [go_sem, app_mk, mk_append, mk_size, List.length_append, List.length_cons, List.length_nil, bs_len]
   refine ⟨by omega, by omega, by omega, ?_⟩
   refine run_seqV ?_
   simp only [go_sem]
   refine ⟨by omega, ?_⟩
   obtain ⟨x, hx⟩ : ∃ x, x = s.labels.getD k default := ⟨_, rfl⟩
   simp only [← hx] at hnl hvl hlab hxt ⊢
   obtain ⟨l0, hl0⟩ : ∃ l0, l0 = textP s k ++ [123] ++ bs x.name ++ bs (mkS [61, 34]) := ⟨_, rfl⟩
   have hl0n : l0.length ≤ 40 + k * 60 := by
    rw [hl0]
    simp only [List.length_append, bs_len, mk_size, List.length_cons, List.length_nil]; omega
   simp only [← hl0]
   refine run_seqV ?_
   simp only [go_sem]
   refine R_loop (ι := Nat) (J := fun j => j ≤ x.value.size) (env := fun j => [(1, .p (.one (.ptr 0 0 0 0))), (3, .s (mkS (l0 ++ esc ((bs x.value).take j)))), (4, .i k), (5, .s x.value), (6, .i j)])
    (mem := fun _ => [.rows 100 2 0 [[.c (.v (.string s.name)), .c (lbCV s.labels)]] true]) (μ := fun j => x.value.size - j) 0 (Nat.zero_le _) ⟨[], by simp only [go_sem], Nat.zero_le _, by simp only [go_sem, esc, List.flatMap_nil], by simp only [go_sem, ltB]⟩ ?_
   intro j hj
   refine run_seqV ?_
   simp only [go_sem]
   have hesc : ∀ (hjs : j < x.value.size), esc ((bs x.value).take (j + 1)) = esc ((bs x.value).take j) ++ esc1 ((bs x.value).getD j 0) := by
    intro hjs
    rw [take_succ_getD 0 (by rw [bs_len]; exact hjs)]
    simp [esc]
   have hel := esc_len ((bs x.value).take j)
   rw [List.length_take, bs_len] at hel
   have hn : (l0 ++ esc ((bs x.value).take j)).length ≤ 300 := by rw [List.length_append]; omega
   have e1 : IntKind.i64.wrap ((j : Int) + 1) = ((j + 1 : Nat) : Int) := w64s (by omega)
   have e2 : IntKind.i64.wrap ((k : Int) + 1) = ((k + 1 : Nat) : Int) := w64s (by omega)
   refine ⟨fun hjs => ?_, fun hjs => ?_⟩
   ·have hex : x.value.extract j (j + 1) = mkS [(bs x.value).getD j 0] := bs_inj (by
     rw [bs_extract, drop_getD 0 (by rw [bs_len]; exact hjs), Nat.add_sub_cancel_left]
     rfl)
    have hesc := hesc hjs
    refine run_seq ?_
    refine run_block ?_
    refine run_seqV ?_
    simp only [go_sem, mk_append, mk_size]
    generalize (bs x.value).getD j 0 = ch at hesc hex ⊢
    refine ⟨by omega, fun _ => by omega, fun hc => ?_, fun hc => ?_⟩
    ·have hc' : ch = 34 ∨ ch = 92 := by
      simp only [Bool.or_eq_true, beq_iff_eq] at hc
      rcases hc with hc | hc
      ·exact .inl (UInt8.toNat_inj.1 (by show ch.toNat = 34; omega))
      ·exact .inr (UInt8.toNat_inj.1 (by show ch.toNat = 92; omega))
     rw [esc1, if_pos hc'] at hesc
     refine ⟨by omega, V_sound ?_⟩
     simp only [go_sem, e1, Int.toNat_natCast, hex, mk_append, mk_size, List.length_append, List.length_cons, List.length_nil]
     rw [List.length_append] at hn
     refine ⟨by omega, by omega, V_sound ?_⟩
     simp only [go_sem, e1]
     refine ⟨j + 1, by omega, by omega, [], by simp only [go_sem], Nat.zero_le _, ?_, by simp only [go_sem, ltB]⟩
     simp only [go_sem, hesc, List.append_assoc]
    ·have hc' : ¬ (ch = 34 ∨ ch = 92) := by
      intro h
      apply Bool.false_ne_true
      rw [← hc]
      rcases h with rfl | rfl <;> rfl
     rw [esc1, if_neg hc'] at hesc
     refine V_sound ?_
     simp only [go_sem, e1, Int.toNat_natCast, hex, mk_append, mk_size, List.length_append, List.length_cons, List.length_nil]
     rw [List.length_append] at hn
     refine ⟨by omega, by omega, V_sound ?_⟩
     simp only [go_sem, e1]
     refine ⟨j + 1, by omega, by omega, [], by simp only [go_sem], Nat.zero_le _, ?_, by simp only [go_sem, ltB]⟩
     simp only [go_sem, hesc, List.append_assoc]
   ·have ej : j = x.value.size := by omega
    subst ej
    refine V_sound ?_
    simp only [go_sem, mk_append, mk_size]
    refine ⟨by omega, V_sound ?_⟩
    simp only [go_sem, e2]
    refine ⟨k + 1, by omega, by omega, [], by simp only [go_sem], Nat.zero_le _, ?_, by simp only [go_sem, ltB]⟩
    have ht : l0 ++ esc ((bs x.value).take x.value.size) ++ [34] = textP s (k + 1) := by
     have e : bs (mkS [61, 34]) = [61, 34] := rfl
     rw [hxt, hlab, hl0, List.take_of_length_le (by rw [bs_len]; exact Nat.le_refl _), e]
     simp
    rw [ht]
    simp only [go_sem]
  ·have hlab : labT k (s.labels.getD k default) = [44] ++ (bs (s.labels.getD k default).name ++ [61, 34]) ++ esc (bs (s.labels.getD k default).value) ++ [34] := by rw [labT, if_neg (by omega)]
   refine ⟨by omega, ?_⟩
   refine run_seqV ?_
   simp only [go_sem, app_mk, mk_append, mk_size, List.length_append, List.length_cons, List.length_nil, bs_len]
   refine ⟨by omega, by omega, by omega, ?_⟩
   refine run_seqV ?_
   simp only [go_sem]
   refine ⟨by omega, ?_⟩
   obtain ⟨x, hx⟩ : ∃ x, x = s.labels.getD k default := ⟨_, rfl⟩
   simp only [← hx] at hnl hvl hlab hxt ⊢
   obtain ⟨l0, hl0⟩ : ∃ l0, l0 = textP s k ++ [44] ++ bs x.name ++ bs (mkS [61, 34]) := ⟨_, rfl⟩
   have hl0n : l0.length ≤ 40 + k * 60 := by
    rw [hl0]
    simp only [List.length_append, bs_len, mk_size, List.length_cons, List.length_nil]; omega
   simp only [← hl0]
   refine run_seqV ?_
   simp only [go_sem]
   refine R_loop (ι := Nat) (J := fun j => j ≤ x.value.size) (env := fun j => [(1, .p (.one (.ptr 0 0 0 0))), (3, .s (mkS (l0 ++ esc ((bs x.value).take j)))), (4, .i k), (5, .s x.value), (6, .i j)])
    (mem := fun _ => [.rows 100 2 0 [[.c (.v (.string s.name)), .c (lbCV s.labels)]] true]) (μ := fun j => x.value.size - j) 0 (Nat.zero_le _) ⟨[], by simp only [go_sem], Nat.zero_le _, by simp only [go_sem, esc, List.flatMap_nil], by simp only [go_sem, ltB]⟩ ?_
   intro j hj
   refine run_seqV ?_
   simp only [go_sem]
   have hesc : ∀ (hjs : j < x.value.size), esc ((bs x.value).take (j + 1)) = esc ((bs x.value).take j) ++ esc1 ((bs x.value).getD j 0) := by
    intro hjs
    rw [take_succ_getD 0 (by rw [bs_len]; exact hjs)]
    simp [esc]
   have hel := esc_len ((bs x.value).take j)
   rw [List.length_take, bs_len] at hel
   have hn : (l0 ++ esc ((bs x.value).take j)).length ≤ 300 := by rw [List.length_append]; omega
   have e1 : IntKind.i64.wrap ((j : Int) + 1) = ((j + 1 : Nat) : Int) := w64s (by omega)
   have e2 : IntKind.i64.wrap ((k : Int) + 1) = ((k + 1 : Nat) : Int) := w64s (by omega)
   refine ⟨fun hjs => ?_, fun hjs => ?_⟩
   ·have hex : x.value.extract j (j + 1) = mkS [(bs x.value).getD j 0] := bs_inj (by
     rw [bs_extract, drop_getD 0 (by rw [bs_len]; exact hjs), Nat.add_sub_cancel_left]
     rfl)
    have hesc := hesc hjs
    refine run_seq ?_
    refine run_block ?_
    refine run_seqV ?_
    simp only [go_sem, mk_append, mk_size]
    generalize (bs x.value).getD j 0 = ch at hesc hex ⊢
    refine ⟨by omega, fun _ => by omega, fun hc => ?_, fun hc => ?_⟩
    ·have hc' : ch = 34 ∨ ch = 92 := by
      simp only [Bool.or_eq_true, beq_iff_eq] at hc
      rcases hc with hc | hc
      ·exact .inl (UInt8.toNat_inj.1 (by show ch.toNat = 34; omega))
      ·exact .inr (UInt8.toNat_inj.1 (by show ch.toNat = 92; omega))
     rw [esc1, if_pos hc'] at hesc
     refine ⟨by omega, V_sound ?_⟩
     simp only [go_sem, e1, Int.toNat_natCast, hex, mk_append, mk_size, List.length_append, List.length_cons, List.length_nil]
     rw [List.length_append] at hn
     refine ⟨by omega, by omega, V_sound ?_⟩
     simp only [go_sem, e1]
     refine ⟨j + 1, by omega, by omega, [], by simp only [go_sem], Nat.zero_le _, ?_, by simp only [go_sem, ltB]⟩
     simp only [go_sem, hesc, List.append_assoc]
    ·have hc' : ¬ (ch = 34 ∨ ch = 92) := by
      intro h
      apply Bool.false_ne_true
      rw [← hc]
      rcases h with rfl | rfl <;> rfl
     rw [esc1, if_neg hc'] at hesc
     refine V_sound ?_
     simp only [go_sem, e1, Int.toNat_natCast, hex, mk_append, mk_size, List.length_append, List.length_cons, List.length_nil]
     rw [List.length_append] at hn
     refine ⟨by omega, by omega, V_sound ?_⟩
     simp only [go_sem, e1]
     refine ⟨j + 1, by omega, by omega, [], by simp only [go_sem], Nat.zero_le _, ?_, by simp only [go_sem, ltB]⟩
     simp only [go_sem, hesc, List.append_assoc]
   ·have ej : j = x.value.size := by omega
    subst ej
    refine V_sound ?_
    simp only [go_sem, mk_append, mk_size]
    refine ⟨by omega, V_sound ?_⟩
    simp only [go_sem, e2]
    refine ⟨k + 1, by omega, by omega, [], by simp only [go_sem], Nat.zero_le _, ?_, by simp only [go_sem, ltB]⟩
    have ht : l0 ++ esc ((bs x.value).take x.value.size) ++ [34] = textP s (k + 1) := by
     have e : bs (mkS [61, 34]) = [61, 34] := rfl
     rw [hxt, hlab, hl0, List.take_of_length_le (by rw [bs_len]; exact Nat.le_refl _), e]
     simp
    rw [ht]
    simp only [go_sem]
 ·have e : k = s.labels.length := by omega
  subst e
  have htl := textP_len hok _ (Nat.le_refl _)
  refine V_sound ?_
  simp only [go_sem, mk_append, mk_size]
  unfold textR
  by_cases h0 : 0 < s.labels.length
  ·rw [if_pos h0]
   exact ⟨fun _ => ⟨by omega, SubS.refl _⟩, fun h => absurd h (by omega)⟩
  ·rw [if_neg h0, List.append_nil]
   exact ⟨fun h => absurd h (by omega), fun _ => SubS.refl _⟩
end Go.Proofs.YtpdcpdngckpgbaaGreat.A
end
section
namespace Go.Proofs.YtpdcpdngckpgbaaGreat.A
open Go Go.Proofs Go.Proofs.YtpdcpdngckpgbaaGreatAbs
theorem cut_at {p r sep : List UInt8} {c : UInt8} {q : List UInt8} (hsep : sep = c :: q) (hp : ∀ x ∈ p, x ≠ c) : Lib.cut (p ++ (sep ++ r)) sep = (p, r, true) := by
 have hi : Lib.index (p ++ (sep ++ r)) sep = p.length := by
  refine Lib.index_first (by simp) ?_ (fun j hj => ?_)
  ·unfold Lib.occAt
   rw [List.drop_left]
   simp
  ·unfold Lib.occAt
   rw [List.drop_append_of_le_length (by omega), List.drop_eq_getElem_cons hj, hsep]
   simp only [List.cons_append, List.isPrefixOf]
   rw [Bool.and_eq_false_iff]
   refine .inl ?_
   rw [beq_eq_false_iff_ne]
   exact fun e => hp _ (List.getElem_mem hj) e.symm
 unfold Lib.cut
 rw [hi, if_pos (by omega), Int.toNat_natCast, List.take_left, ← List.drop_drop, List.drop_left, List.drop_left]
theorem cut_no {p sep : List UInt8} {c : UInt8} {q : List UInt8} (hsep : sep = c :: q) (hp : ∀ x ∈ p, x ≠ c) : Lib.cut p sep = (p, [], false) := by
 have hi : Lib.index p sep = -1 := by
  refine Lib.index_none (fun j hj => ?_)
  unfold Lib.occAt
  by_cases hjl : j < p.length
  ·rw [List.drop_eq_getElem_cons hjl, hsep]
   simp only [List.isPrefixOf]
   rw [Bool.and_eq_false_iff]
   refine .inl ?_
   rw [beq_eq_false_iff_ne]
   exact fun e => hp _ (List.getElem_mem hjl) e.symm
  ·rw [List.drop_eq_nil_of_le (by omega), hsep]
   rfl
 unfold Lib.cut
 rw [hi, if_neg (by decide)]
theorem nm_no {s : ByteArray} (h : nmOk s = true) {c : UInt8} (hc : c.toNat < 97 ∨ 122 < c.toNat) : ∀ x ∈ bs s, x ≠ c := by
 simp only [nmOk, Bool.and_eq_true, List.all_eq_true] at h
 intro x hx e
 have := inR_t.1 (h.2 x hx)
 subst e
 omega
end Go.Proofs.YtpdcpdngckpgbaaGreat.A
end
section
namespace Go.Proofs.YtpdcpdngckpgbaaGreat.A
open Go Go.Proofs Go.Proofs.YtpdcpdngckpgbaaGreatAbs
theorem ok_zSer {s : Ser} (h : serOk s = true) : zSer s := by
 obtain ⟨h1, h2, h3⟩ := serOk_parts h
 refine ⟨?_, by omega, fun i hi => ?_⟩
 ·have := nm_len h1
  unfold zS; omega
 ·have := lbOk_parts (h3 i hi)
  have a := nm_len this.1
  have b := (vl_parts this.2).1
  unfold zS
  omega
end Go.Proofs.YtpdcpdngckpgbaaGreat.A
end
section
namespace Go.Proofs.YtpdcpdngckpgbaaGreat.A
open Go Go.Proofs Go.Proofs.YtpdcpdngckpgbaaGreatAbs
def fAt (l : List UInt8) (c : UInt8) : Nat := l.findIdx (· == c)
theorem until_f (s : ByteArray) (c : UInt8) : ∀ (n at_ : Nat), n = s.size - at_ → at_ ≤ s.size → untilS s c.toNat n at_ = at_ + fAt ((bs s).drop at_) c
 | 0, at_, hn, ha => by
  have : (bs s).drop at_ = [] := List.eq_nil_of_length_eq_zero (by rw [List.length_drop, bs_len]; omega)
  rw [untilS, this]; rfl
 | n + 1, at_, hn, ha => by
  have hl : at_ < (bs s).length := by rw [bs_len]; omega
  rw [untilS, drop_getD 0 hl, fAt, List.findIdx_cons]
  by_cases h : (bs s).getD at_ 0 = c
  ·rw [if_neg (by rw [h]; simp), h]
   simp
  ·have h' : ¬ (((bs s).getD at_ 0).toNat : Int) = (c.toNat : Int) := fun e => h (UInt8.toNat_inj.1 (by omega))
   rw [if_pos ⟨by omega, h'⟩, until_f s c n (at_ + 1) (by omega) (by omega)]
   have : ((bs s).getD at_ 0 == c) = false := by simpa using h
   rw [this]
   show _ = at_ + (fAt _ c + 1)
   omega
def posL (n : ByteArray) : List Lb → Nat
 | [] => 0
 | y :: l => if sLt y.name n then posL n l + 1 else 0
def insLb (ls : List Lb) (x : Lb) : List Lb := ls.take (posL x.name ls) ++ [x] ++ ls.drop (posL x.name ls)
def refG : Nat → List UInt8 → List Lb → Option (List Lb)
 | 0, _, _ => none
 | n + 1, rest, ls =>
  match rest.drop (fAt rest 61 + 1) with
  | [] => none
  | q :: r => if q ≠ 34 then none else if ls.length = 4 then none else
   match quo r with
   | none => none
   | some (_, []) => none
   | some (a, x :: t) => if x = 44 then refG n t (insLb ls ⟨mkS (rest.take (fAt rest 61)), mkS a⟩) else if x = 125 ∧ t = [] then some (insLb ls ⟨mkS (rest.take (fAt rest 61)), mkS a⟩) else none
def refAll (s : List UInt8) : Option (List Lb) := if fAt s 123 < s.length then refG 5 (s.drop (fAt s 123 + 1)) [] else some []
def refS (s : ByteArray) : Option Ser := (refAll (bs s)).bind fun ls => if serOk ⟨mkS ((bs s).take (fAt (bs s) 123)), ls⟩ then some ⟨mkS ((bs s).take (fAt (bs s) 123)), ls⟩ else none
def refR (s : ByteArray) : SV := match refS s with
 | some x => .tup [serA x, .b true]
 | none => .tup [serA ⟨mkS [], []⟩, .b false]
theorem take_range (ls : List Lb) {k : Nat} (hk : k ≤ ls.length) : ls.take k = (List.range k).map fun i => ls.getD i default := by
 refine List.ext_getElem (by simp; omega) (fun i h1 h2 => ?_)
 simp at h1
 simp [List.getD_eq_getElem?_getD, List.getElem?_eq_getElem (show i < ls.length by omega)]
theorem drop_range (ls : List Lb) (k : Nat) : ls.drop k = (List.range (ls.length - k)).map fun i => ls.getD (k + i) default := by
 refine List.ext_getElem (by simp) (fun i h1 h2 => ?_)
 simp at h1
 simp [List.getD_eq_getElem?_getD, List.getElem?_eq_getElem (show k + i < ls.length by omega)]
theorem posL_le (n : ByteArray) : ∀ l : List Lb, posL n l ≤ l.length
 | [] => Nat.le_refl _
 | y :: l => by
  rw [posL]
  have := posL_le n l
  split <;> simp <;> omega
theorem insLb_len (ls : List Lb) (x : Lb) : (insLb ls x).length = ls.length + 1 := by
 have := posL_le x.name ls
 simp only [insLb, List.length_append, List.length_take, List.length_drop, List.length_singleton]
 omega
theorem posL_is {n : ByteArray} : ∀ {l : List Lb} {k : Nat}, k ≤ l.length → (∀ i, i < k → sLt (l.getD i default).name n = true) → (k < l.length → sLt (l.getD k default).name n = false) → posL n l = k
 | [], k, hk, _, _ => by simp at hk; rw [posL, hk]
 | y :: l, 0, _, _, h => by
  have := h (by simp)
  rw [posL]
  rw [List.getD_cons_zero] at this
  rw [this]; rfl
 | y :: l, k + 1, hk, h1, h2 => by
  have h0 := h1 0 (by omega)
  rw [List.getD_cons_zero] at h0
  rw [posL, if_pos h0, posL_is (k := k) (by simpa using hk) (fun i hi => by have := h1 (i + 1) (by omega); rwa [List.getD_cons_succ] at this) (fun hi => by have := h2 (by simpa using hi); rwa [List.getD_cons_succ] at this)]
theorem fAt_le (l : List UInt8) (c : UInt8) : fAt l c ≤ l.length := List.findIdx_le_length
set_option maxRecDepth 20000 in
theorem rParseB_rc (s : ByteArray) (hs : s.size ≤ 140737488355328) (M : List Blk) : CallR Tryz.prog M n_windroseref03_Parse [.s s] (refR s) M := by
 refine callPS F_windroseref03_Parse (Nat.le_of_ble_eq_true rfl) (by simp only [go_sem]) (by unfold refR; split <;> simp only [go_sem]) ?_ M
 have hz : zS s := by unfold zS; omega
 have herr : refS s = none → SubS (.tup [.agg [.c (.v (.string ⟨#[]⟩)), .c (.v (.slice none 0 0))], .b false]) (refR s) := by
  intro h
  have : refR s = .tup [serA ⟨mkS [], []⟩, .b false] := by unfold refR; rw [h]
  rw [this]
  exact subS_tup2 sub_zero (SubP.refl _)
 obtain ⟨at0, hat⟩ : ∃ k, k = fAt (bs s) 123 := ⟨_, rfl⟩
 have hat_le : at0 ≤ s.size := by have := fAt_le (bs s) 123; rw [bs_len] at this; omega
 have hun : untilS s 123 (s.size - 0) 0 = at0 := by
  have := until_f s 123 (s.size - 0) 0 rfl (Nat.zero_le _)
  rw [show (((123 : UInt8).toNat : Nat) : Int) = 123 from rfl] at this
  rw [this, hat, Nat.zero_add]; rfl
 refine run_seqV ?_
 simp only [go_sem]
 refine run_seqV ?_
 simp only [go_sem]
 have hu := until_rc s hz 0 123 (by omega)
 rw [hun] at hu
 refine call0 hu ?_
 simp only [go_sem]
 refine run_seqV ?_
 simp only [go_sem]
 refine ⟨by omega, ?_⟩
 obtain ⟨nm, hnm⟩ : ∃ nm, nm = s.extract 0 at0 := ⟨_, rfl⟩
 have hnm' : nm = mkS ((bs s).take at0) := bs_inj (by rw [hnm, bs_extract, List.drop_zero, Nat.sub_zero]; rfl)
 rw [← hnm]
 refine run_gh (gh_sub_cell (b := 1) (i := 0) (j := 1) (.c (.v (.slice none 0 0))) (.c (lbCV [])) rfl rfl rfl (subA_nil 2 _)) ?_
 refine run_seqV ?_
 simp only [go_sem]
 refine R_loop (ι := Nat × List Lb) (J := fun p => p.1 ≤ s.size ∧ p.2.length ≤ 4 ∧ (∀ y ∈ p.2, zS y.name ∧ zS y.value) ∧ (if p.1 < s.size then refG (5 - p.2.length) ((bs s).drop (p.1 + 1)) p.2 else some p.2) = refAll (bs s))
  (env := fun p => [(0, .s s), (2, .p (.one (.ptr 0 0 0 0))), (4, .i p.1), (5, .p (.one (.ptr 1 0 0 0)))])
  (mem := fun p => [.rows 100 2 0 [[.c (.v (.string ⟨#[]⟩)), .c (.v (.slice none 0 0))]] true, .rows 100 2 0 [[.c (.v (.string nm)), .c (lbCV p.2)]] true])
  (μ := fun p => 5 - p.2.length) (at0, []) ⟨hat_le, Nat.zero_le _, by simp, ?_⟩ ⟨[], ?_, Nat.zero_le _, ?_, ?_⟩ ?_
 ·unfold refAll
  rw [← hat, bs_len]
  rfl
 ·simp only [go_sem, fillL]
 ·simp only [go_sem]
 ·simp only [go_sem, ltB]
 rintro ⟨at_, ls⟩ ⟨hat1, hls, hzl, hpar⟩
 simp only at hat1 hls hzl hpar
 refine run_seqV ?_
 simp only [go_sem]
 refine ⟨fun h1 => ?_, fun h1 => ?_⟩
 ·rw [if_pos h1] at hpar
  have e1 : IntKind.i64.wrap ((at_ : Int) + 1) = ((at_ + 1 : Nat) : Int) := w64s (by omega)
  refine run_block ?_
  refine run_seqV ?_
  simp only [go_sem, e1]
  refine run_seqV ?_
  simp only [go_sem]
  obtain ⟨rest, hrest⟩ : ∃ r, r = (bs s).drop (at_ + 1) := ⟨_, rfl⟩
  obtain ⟨i, hi⟩ : ∃ i, i = fAt rest 61 := ⟨_, rfl⟩
  have hrl : rest.length = s.size - (at_ + 1) := by rw [hrest, List.length_drop, bs_len]
  have hile : i ≤ rest.length := by rw [hi]; exact fAt_le _ _
  have hun2 : untilS s 61 (s.size - (at_ + 1)) (at_ + 1) = at_ + 1 + i := by
   have := until_f s 61 (s.size - (at_ + 1)) (at_ + 1) rfl (by omega)
   rw [show (((61 : UInt8).toNat : Nat) : Int) = 61 from rfl] at this
   rw [this, hi, hrest]
  have hu := until_rc s hz (at_ + 1) 61 (by omega)
  rw [hun2] at hu
  refine call0 hu ?_
  simp only [go_sem]
  obtain ⟨n, hn⟩ : ∃ n, 5 - ls.length = n + 1 := ⟨4 - ls.length, by omega⟩
  rw [hn, ← hrest, refG, ← hi] at hpar
  have hdr : rest.drop (i + 1) = (bs s).drop (at_ + 1 + i + 1) := by rw [hrest, List.drop_drop]; congr 1
  obtain ⟨eq, heq⟩ : ∃ e, e = at_ + 1 + i := ⟨_, rfl⟩
  rw [hdr, ← heq] at hpar
  rw [← heq]
  have e2 : IntKind.i64.wrap ((eq : Int) + 1) = ((eq + 1 : Nat) : Int) := w64s (by omega)
  have herr' : refAll (bs s) = none → SubS (.tup [.agg [.c (.v (.string ⟨#[]⟩)), .c (.v (.slice none 0 0))], .b false]) (refR s) := fun h => herr (by unfold refS; rw [h]; rfl)
  refine run_seqV ?_
  simp only [go_sem, e2, Int.toNat_natCast]
  by_cases h2 : s.size ≤ eq + 1
  ·have hd : (bs s).drop (eq + 1) = [] := List.eq_nil_of_length_eq_zero (by rw [List.length_drop, bs_len]; omega)
   rw [hd] at hpar
   refine ⟨fun h => ?_, fun _ => herr' hpar.symm, fun h => ?_⟩
   ·rw [decide_eq_true h2] at h; cases h
   ·rw [decide_eq_true h2] at h; simp at h
  ·rw [drop_getD 0 (show eq + 1 < (bs s).length by rw [bs_len]; omega)] at hpar
   have hd2 : decide (s.size ≤ eq + 1) = false := decide_eq_false h2
   generalize (bs s).getD (eq + 1) 0 = q at hpar ⊢
   simp only [hd2]
   by_cases hq : q = 34
   case neg =>
    simp only [if_pos (show q ≠ 34 from hq)] at hpar
    refine ⟨fun _ => by omega, fun _ => herr' hpar.symm, fun h => ?_⟩
    exfalso
    simp only [Bool.false_or, Bool.or_eq_false_iff, bne_eq_false_iff_eq] at h
    exact hq (UInt8.toNat_inj.1 (by show q.toNat = 34; omega))
   subst hq
   simp only [ne_eq, not_true_eq_false, if_false] at hpar
   by_cases h4 : ls.length = 4
   ·rw [if_pos h4] at hpar
    refine ⟨fun _ => by omega, fun _ => herr' hpar.symm, fun h => ?_⟩
    rw [h4] at h
    simp at h
   rw [if_neg h4] at hpar
   refine ⟨fun _ => by omega, fun h => ?_, fun _ => ?_⟩
   ·exfalso
    simp at h
    omega
   refine run_seqV ?_
   simp only [go_sem, Int.toNat_natCast]
   refine ⟨by omega, ?_⟩
   obtain ⟨kk, hkk⟩ : ∃ k, k = s.extract (at_ + 1) eq := ⟨_, rfl⟩
   have hkk' : kk = mkS (rest.take i) := bs_inj (by rw [hkk, bs_extract, ← hrest, heq, Nat.add_sub_cancel_left]; rfl)
   rw [← hkk]
   rw [← hkk'] at hpar
   refine run_seqV ?_
   have e3 : IntKind.i64.wrap ((eq : Int) + 2) = ((eq + 1 + 1 : Nat) : Int) := by rw [w64 (by omega) (by omega)]; omega
   simp only [go_sem, e3]
   refine run_seqV ?_
   simp only [go_sem]
   obtain ⟨pos, hpos⟩ : ∃ p, p = eq + 1 + 1 := ⟨_, rfl⟩
   rw [← hpos] at hpar ⊢
   have hkz : zS kk := by unfold zS; rw [hkk', mk_size, List.length_take]; omega
   refine R_loop (ι := Nat × List UInt8) (J := fun p => p.1 ≤ s.size ∧ p.2.length ≤ p.1 ∧ quo ((bs s).drop pos) = (quo ((bs s).drop p.1)).map (fun q => (p.2 ++ q.1, q.2)))
    (env := fun p => [(0, .s s), (2, .p (.one (.ptr 0 0 0 0))), (4, .i p.1), (5, .p (.one (.ptr 1 0 0 0))), (8, .p (.one (.ptr 2 0 0 0)))])
    (mem := fun p => [.rows 100 2 0 [[.c (.v (.string ⟨#[]⟩)), .c (.v (.slice none 0 0))]] true, .rows 100 2 0 [[.c (.v (.string nm)), .c (lbCV ls)]] true, .rows 115 2 0 [[.c (.v (.string kk)), .c (.v (.string (mkS p.2)))]] true])
    (μ := fun p => s.size - p.1) (pos, []) ⟨by simp only; omega, Nat.zero_le _, by simp⟩ ⟨[], by simp only [go_sem], Nat.zero_le _, by simp only [go_sem], by simp only [go_sem, ltB]⟩ ?_
   rintro ⟨p, acc⟩ ⟨hp, hacc, hquo⟩
   simp only at hp hacc hquo
   refine run_seqV ?_
   simp only [go_sem]
   have e4 : IntKind.i64.wrap ((p : Int) + 1) = ((p + 1 : Nat) : Int) := w64s (by omega)
   refine ⟨fun _ => by omega, fun hc => ?_, fun hc => ?_⟩
   ·simp only [Bool.and_eq_true, decide_eq_true_eq] at hc
    obtain ⟨hps, hc34⟩ := hc
    rw [drop_getD 0 (show p < (bs s).length by rw [bs_len]; omega)] at hquo
    refine run_block ?_
    refine run_seqV ?_
    simp only [go_sem, e4, Int.toNat_natCast]
    generalize hc0 : (bs s).getD p 0 = c at hc34 hquo ⊢
    have hc34' : c ≠ 34 := fun e => by rw [e] at hc34; exact absurd hc34 (by decide)
    refine ⟨by omega, fun hc => ?_, fun hc => ?_⟩
    ·have hc : c = 92 := UInt8.toNat_inj.1 (by show c.toNat = 92; omega)
     subst hc
     have hq0 : quo ((bs s).drop pos) = none → refAll (bs s) = none := by
      intro h
      rw [h] at hpar
      exact hpar.symm
     by_cases hend : p + 1 = s.size
     ·have hd : (bs s).drop (p + 1) = [] := List.eq_nil_of_length_eq_zero (by rw [List.length_drop, bs_len]; omega)
      rw [hd] at hquo
      have eb : ((((p + 1 : Nat) : Int)) == (s.size : Int)) = true := by rw [beq_iff_eq]; omega
      simp only [eb]
      refine ⟨fun h => absurd h (by decide), fun h => absurd h (by simp), fun _ => herr' (hq0 (by rw [hquo]; rfl)), fun h => absurd h (by simp)⟩
     ·have eb : ((((p + 1 : Nat) : Int)) == (s.size : Int)) = false := by rw [beq_eq_false_iff_ne]; omega
      have hex : s.extract (p + 1) (p + 1 + 1) = mkS [(bs s).getD (p + 1) 0] := bs_inj (by
       rw [bs_extract, drop_getD 0 (by rw [bs_len]; omega), Nat.add_sub_cancel_left]
       rfl)
      have e5 : IntKind.i64.wrap (((p + 1 : Nat) : Int) + 1) = ((p + 1 + 1 : Nat) : Int) := w64s (by omega)
      rw [drop_getD 0 (show p + 1 < (bs s).length by rw [bs_len]; omega)] at hquo
      generalize (bs s).getD (p + 1) 0 = d at hquo hex ⊢
      simp only [eb, Bool.false_or, Bool.not_false, Bool.true_and]
      refine ⟨fun _ => by omega, fun _ => by omega, fun h => ?_, fun h => ?_⟩
      ·have hd : ¬ (d = 34 ∨ d = 92) := by
        rintro (rfl | rfl) <;> exact absurd h (by decide)
       rw [quo_bn hd] at hquo
       exact herr' (hq0 (by rw [hquo]; rfl))
      ·have hd : d = 34 ∨ d = 92 := by
        simp only [Bool.and_eq_false_iff, bne_eq_false_iff_eq] at h
        rcases h with h | h
        ·exact .inl (UInt8.toNat_inj.1 (by show d.toNat = 34; omega))
        ·exact .inr (UInt8.toNat_inj.1 (by show d.toNat = 92; omega))
       rw [quo_b hd] at hquo
       refine run_seqV ?_
       simp only [go_sem, e5, Int.toNat_natCast, hex, mk_append, mk_size, List.length_cons, List.length_nil]
       refine ⟨by omega, by omega, ?_⟩
       refine V_sound ?_
       simp only [go_sem, e5]
       refine ⟨(p + 1 + 1, acc ++ [d]), ⟨by simp only; omega, by simp; omega, ?_⟩, by simp only; omega, [], by simp only [go_sem], Nat.zero_le _, ?_, by simp only [go_sem, ltB]⟩
       ·rw [hquo, Option.map_map]
        congr 1
        funext q
        simp
       ·simp only [go_sem]
    ·have hb' : c ≠ 92 := fun e => hc (by rw [e]; rfl)
     rw [quo_c hc34' hb'] at hquo
     have hex : s.extract p (p + 1) = mkS [c] := bs_inj (by
      rw [bs_extract, drop_getD 0 (by rw [bs_len]; omega), Nat.add_sub_cancel_left, hc0]
      rfl)
     refine run_seqV ?_
     simp only [go_sem, e4, Int.toNat_natCast, hex, mk_append, mk_size, List.length_cons, List.length_nil]
     refine ⟨by omega, by omega, ?_⟩
     refine V_sound ?_
     simp only [go_sem, e4]
     refine ⟨(p + 1, acc ++ [c]), ⟨by simp only; omega, by simp; omega, ?_⟩, by simp only; omega, [], by simp only [go_sem], Nat.zero_le _, ?_, by simp only [go_sem, ltB]⟩
     ·rw [hquo, Option.map_map]
      congr 1
      funext q
      simp
     ·simp only [go_sem]
   ·have e5 : IntKind.i64.wrap ((p : Int) + 1) = ((p + 1 : Nat) : Int) := e4
    refine run_seqV ?_
    simp only [go_sem, e4]
    refine run_seqV ?_
    simp only [go_sem]
    have hq0 : quo ((bs s).drop pos) = none → refAll (bs s) = none := by
     intro h
     rw [h] at hpar
     exact hpar.symm
    by_cases hps : p < s.size
    case neg =>
     have hd : (bs s).drop p = [] := List.eq_nil_of_length_eq_zero (by rw [List.length_drop, bs_len]; omega)
     rw [hd] at hquo
     have eb : decide (s.size ≤ p + 1) = true := decide_eq_true (by omega)
     simp only [eb]
     refine ⟨fun h => absurd h (by decide), fun h => absurd h (by simp), fun _ => herr' (hq0 (by rw [hquo]; rfl)), fun h => absurd h (by simp)⟩
    have hc34 : (bs s).getD p 0 = 34 := by
     simp only [Bool.and_eq_false_iff, decide_eq_false_iff_not, bne_eq_false_iff_eq] at hc
     rcases hc with hc | hc
     ·exact absurd hps hc
     ·exact UInt8.toNat_inj.1 (by show ((bs s).getD p 0).toNat = 34; omega)
    rw [drop_getD 0 (show p < (bs s).length by rw [bs_len]; omega), hc34, quo_q, Option.map_some, List.append_nil] at hquo
    rw [hquo] at hpar
    by_cases hend : s.size ≤ p + 1
    ·have hd : (bs s).drop (p + 1) = [] := List.eq_nil_of_length_eq_zero (by rw [List.length_drop, bs_len]; omega)
     rw [hd] at hpar
     have eb : decide (s.size ≤ p + 1) = true := decide_eq_true hend
     simp only [eb]
     refine ⟨fun h => absurd h (by decide), fun h => absurd h (by simp), fun _ => herr' hpar.symm, fun h => absurd h (by simp)⟩
    have eb : decide (s.size ≤ p + 1) = false := decide_eq_false hend
    have hext : s.extract (p + 1) s.size = mkS ((bs s).drop (p + 1)) := bs_inj (by
     rw [bs_extract, List.take_of_length_le (by rw [List.length_drop, bs_len]; exact Nat.le_refl _)]
     rfl)
    rw [hext]
    rw [drop_getD 0 (show p + 1 < (bs s).length by rw [bs_len]; omega)] at hpar ⊢
    simp only [eb]
    have hx0 : (bs s).getD (p + 1) 0 = (bs s).getD (p + 1) 0 := rfl
    generalize hxe : (bs s).getD (p + 1) 0 = x at hpar ⊢
    obtain ⟨t, ht⟩ : ∃ t, t = (bs s).drop (p + 1 + 1) := ⟨_, rfl⟩
    rw [← ht] at hpar ⊢
    have hdec : decide (mkS (x :: t) = mkS [125]) = decide (x = 125 ∧ t = []) := by
     rw [decide_eq_decide]
     constructor
     ·intro e
      have := congrArg bs e
      rw [bs_mk, bs_mk] at this
      cases this
      exact ⟨rfl, rfl⟩
     ·rintro ⟨rfl, rfl⟩
      rfl
    simp only at hpar
    refine ⟨fun _ => by omega, fun _ => by omega, fun h => ?_, fun h => ?_⟩
    ·have hx1 : ¬ x = 44 := by
      rintro rfl
      exact absurd h (by simp)
     have hx2 : ¬ (x = 125 ∧ t = []) := by
      intro e
      rw [show decide (mkS (x :: t) = { data := #[125] }) = true from hdec.trans (decide_eq_true e)] at h
      simp at h
     rw [if_neg hx1, if_neg hx2] at hpar
     exact herr' hpar.symm
    have hgo : x = 44 ∨ (x = 125 ∧ t = []) := by
     simp only [Bool.false_or, Bool.and_eq_false_iff, bne_eq_false_iff_eq, Bool.not_eq_false'] at h
     rcases h with h | h
     ·exact .inl (UInt8.toNat_inj.1 (by show x.toNat = 44; omega))
     ·exact .inr (of_decide_eq_true (hdec.symm.trans h))
    refine run_seqV ?_
    simp only [go_sem]
    refine run_seqV ?_
    simp only [go_sem]
    refine R_loop (ι := Nat) (J := fun k => k ≤ ls.length ∧ ∀ i, i < k → sLt (ls.getD i default).name kk = true)
     (env := fun k => [(0, .s s), (2, .p (.one (.ptr 0 0 0 0))), (4, .i (p + 1 : Nat)), (5, .p (.one (.ptr 1 0 0 0))), (8, .p (.one (.ptr 2 0 0 0))), (9, .i k)])
     (mem := fun _ => [.rows 100 2 0 [[.c (.v (.string ⟨#[]⟩)), .c (.v (.slice none 0 0))]] true, .rows 100 2 0 [[.c (.v (.string nm)), .c (lbCV ls)]] true, .rows 115 2 0 [[.c (.v (.string kk)), .c (.v (.string (mkS acc)))]] true])
     (μ := fun k => ls.length - k) 0 ⟨Nat.zero_le _, fun i hi => absurd hi (Nat.not_lt_zero _)⟩ ⟨[], by simp only [go_sem], Nat.zero_le _, by simp only [go_sem], by simp only [go_sem, ltB]⟩ ?_
    rintro k ⟨hk, hlt⟩
    refine run_seqV ?_
    simp only [go_sem]
    refine ⟨fun _ => by omega, fun h2 => ?_, fun h2 => ?_⟩
    ·simp only [Bool.and_eq_true, decide_eq_true_eq] at h2
     refine V_sound ?_
     simp only [go_sem]
     refine ⟨k + 1, ⟨by omega, fun i hi => ?_⟩, by omega, [], by simp only [go_sem], Nat.zero_le _, ?_, by simp only [go_sem, ltB]⟩
     ·by_cases hik : i = k
      ·subst hik; exact h2.2
      ·exact hlt i (by omega)
     ·simp only [go_sem, w64s (show k < 9223372036854775807 by omega)]
    have hpl : posL kk ls = k := posL_is hk hlt (fun hkl => by
     rw [decide_eq_true hkl, Bool.true_and] at h2
     exact h2)
    refine run_seqV ?_
    simp only [go_sem, List.length_map, List.length_range, List.length_append, List.length_cons, List.length_nil]
    refine ⟨by omega, by omega, by omega, by omega, by omega, by rfl, ?_⟩
    obtain ⟨nl, hnl⟩ : ∃ nl, nl = insLb ls ⟨kk, mkS acc⟩ := ⟨_, rfl⟩
    have hrows : (List.map (fun i => [AV.c (CV.v (Value.string (ls.getD i default).name)), AV.c (CV.v (Value.string (ls.getD i default).value))]) (List.range k) ++ [[AV.c (CV.v (Value.string kk)), AV.c (CV.v (Value.string (mkS acc)))]] ++ List.map (fun i => [AV.c (CV.v (Value.string (ls.getD (k + i) default).name)), AV.c (CV.v (Value.string (ls.getD (k + i) default).value))]) (List.range (ls.length - k))) = lbRows nl := by
     rw [hnl, insLb, show posL (Lb.mk kk (mkS acc)).name ls = k from hpl, take_range ls hk, drop_range ls k, lbRows, List.map_append, List.map_append, List.map_map, List.map_map]
     rfl
    have hnll : k + 1 + (ls.length - k) = nl.length := by rw [hnl, insLb_len]; omega
    rw [hrows, hnll]
    have hcl : closedRows (lbRows nl) := by
     intro r hr a ha
     obtain ⟨y, _, rfl⟩ := List.mem_map.1 hr
     rcases List.mem_cons.1 ha with rfl | ha
     ·exact ⟨_, rfl⟩
     ·obtain rfl := List.mem_singleton.1 ha; exact ⟨_, rfl⟩
    refine run_gh (gh_freeze (b := 3) (l := lbRows nl) rfl hcl) ?_
    have hM : (List.map (frzB 3 4 (lbRows nl)) [(Blk.rows 100 2 0 [[AV.c (CV.v (Value.string ⟨#[]⟩)), AV.c (CV.v (Value.slice none 0 0))]] true), (Blk.rows 100 2 0 [[AV.c (CV.v (Value.string nm)), AV.arr 2 3 4 0 nl.length]] true), (Blk.rows 115 2 0 [[AV.c (CV.v (Value.string kk)), AV.c (CV.v (Value.string (mkS acc)))]] true), (Blk.rows 115 2 4 (lbRows nl) false), (Blk.rows 115 2 1 [[AV.c (CV.v (Value.string kk)), AV.c (CV.v (Value.string (mkS acc)))]] true)]).set 3 .dead
      = [(Blk.rows 100 2 0 [[AV.c (CV.v (Value.string ⟨#[]⟩)), AV.c (CV.v (Value.slice none 0 0))]] true), (Blk.rows 100 2 0 [[AV.c (CV.v (Value.string nm)), AV.c (CV.imm 2 nl.length fun i j => toC (((lbRows nl).getD (0 + i) []).getD j default))]] true), (Blk.rows 115 2 0 [[AV.c (CV.v (Value.string kk)), AV.c (CV.v (Value.string (mkS acc)))]] true), .dead, (Blk.rows 115 2 1 [[AV.c (CV.v (Value.string kk)), AV.c (CV.v (Value.string (mkS acc)))]] true)] := by
     have : 0 + nl.length ≤ (lbRows nl).length := by rw [lbRows_len]; omega
     simp only [List.map_cons, List.map_nil, List.set_cons_succ, List.set_cons_zero, frzB, frzA, this, and_self, if_true]
    rw [hM]
    refine run_gh (gh_sub_cell (b := 1) (i := 0) (j := 1) _ (.c (lbCV nl)) rfl rfl rfl (subA_imm fun i hi j hj => lbRows_get nl hi hj)) ?_
    refine V_sound ?_
    simp only [go_sem, fillL]
    have hnl4 : nl.length = ls.length + 1 := by rw [hnl, insLb_len]
    have hnz : ∀ y ∈ nl, zS y.name ∧ zS y.value := by
     intro y hy
     rw [hnl, insLb] at hy
     rcases List.mem_append.1 hy with hy | hy
     ·rcases List.mem_append.1 hy with hy | hy
      ·exact hzl y (List.mem_of_mem_take hy)
      ·obtain rfl := List.mem_singleton.1 hy
       exact ⟨hkz, by unfold zS; simp only [mk_size]; omega⟩
     ·exact hzl y (List.mem_of_mem_drop hy)
    rw [← hnl] at hpar
    refine ⟨by omega, fun h => ?_, fun h => ?_⟩
    ·have hx : x = 125 := UInt8.toNat_inj.1 (by rw [← hxe]; show ((bs s).getD (p + 1) 0).toNat = 125; omega)
     have ht0 : x = 125 ∧ t = [] := hgo.resolve_left (fun e => by rw [hx] at e; exact absurd e (by decide))
     rw [if_neg (show ¬ x = 44 by rw [hx]; decide), if_pos ht0] at hpar
     refine ⟨(s.size, nl), ⟨Nat.le_refl _, by simp only; omega, hnz, ?_⟩, by simp only; omega, [(Blk.rows 115 2 0 [[AV.c (CV.v (Value.string kk)), AV.c (CV.v (Value.string (mkS acc)))]] true), .dead, (Blk.rows 115 2 1 [[AV.c (CV.v (Value.string kk)), AV.c (CV.v (Value.string (mkS acc)))]] true)], rfl, Nat.zero_le _, ?_, ?_⟩
     ·rw [if_neg (Nat.lt_irrefl _)]; exact hpar
     ·simp only [go_sem]
     ·simp only [go_sem, ltB]
    ·have hx : x = 44 := by
      rcases hgo with hx | hx
      ·exact hx
      ·exact absurd (show (((bs s).getD (p + 1) 0).toNat : Int) = 125 by rw [hxe, hx.1]; rfl) h
     rw [if_pos hx] at hpar
     refine ⟨(p + 1, nl), ⟨by simp only; omega, by simp only; omega, hnz, ?_⟩, by simp only; omega, [(Blk.rows 115 2 0 [[AV.c (CV.v (Value.string kk)), AV.c (CV.v (Value.string (mkS acc)))]] true), .dead, (Blk.rows 115 2 1 [[AV.c (CV.v (Value.string kk)), AV.c (CV.v (Value.string (mkS acc)))]] true)], rfl, Nat.zero_le _, ?_, ?_⟩
     ·rw [if_pos (show p + 1 < s.size by omega), ← ht, show 5 - nl.length = n by omega]; exact hpar
     ·simp only [go_sem]
     ·simp only [go_sem, ltB]
 ·rw [if_neg h1] at hpar
  have hx : zSer ⟨nm, ls⟩ := by
   refine ⟨by unfold zS; simp only; rw [hnm', mk_size, List.length_take, bs_len]; omega, by simp only; omega, fun i hi => hzl _ ?_⟩
   rw [List.getD_eq_getElem?_getD, List.getElem?_eq_getElem hi]
   exact List.getElem_mem _
  refine run_seqV ?_
  simp only [go_sem]
  refine call0 (May_rc ⟨nm, ls⟩ hx) ?_
  simp only [go_sem]
  by_cases hok : serOk ⟨nm, ls⟩ = true
  ·have hR : refR s = .tup [serA ⟨nm, ls⟩, .b true] := by
    unfold refR refS
    rw [← hpar, Option.bind_some, ← hat, ← hnm', if_pos hok]
   rw [hR, hok]
   refine ⟨fun h => absurd h (by decide), fun _ => V_sound ?_⟩
   simp only [go_sem]
   exact SubS.refl _
  ·refine ⟨fun _ => herr ?_, fun h => absurd h (by simp [hok])⟩
   unfold refS
   rw [← hpar, Option.bind_some, ← hat, ← hnm', if_neg hok]
end Go.Proofs.YtpdcpdngckpgbaaGreat.A
end
section
namespace Go.Proofs.YtpdcpdngckpgbaaGreat.A
open Go Go.Proofs Go.Proofs.YtpdcpdngckpgbaaGreatAbs
def nms (l : List Lb) : List ByteArray := l.map Lb.name
def upL (l : List Lb) : Prop := l.Pairwise fun x y => sLt x.name y.name = true
theorem sink_perm {l : List Lb} : ∀ {j : Nat}, j < l.length → (sink ltLb default l j).Perm l := by
 intro j
 induction j generalizing l with
 | zero => intro _; exact List.Perm.refl _
 | succ j ih =>
  intro hj
  rw [sink]
  split
  ·refine (ih (by simp; omega)).trans ?_
   rw [getD_get hj, getD_get (show j < l.length by omega)]
   exact List.set_set_perm hj (by omega)
  ·exact List.Perm.refl _
theorem sortTo_perm {l : List Lb} : ∀ {i : Nat}, i ≤ l.length → (sortTo ltLb default l i).Perm l
 | 0, _ => List.Perm.refl _
 | i + 1, hi => by
  rw [sortTo]
  exact (sink_perm (by rw [sortTo_length]; omega)).trans (sortTo_perm (by omega))
theorem sortLb_perm (l : List Lb) : (sortLb l).Perm l := sortTo_perm (Nat.le_refl _)
theorem insLb_perm (l : List Lb) (x : Lb) : (insLb l x).Perm (x :: l) := by
 unfold insLb
 rw [List.append_assoc]
 refine List.perm_append_comm_assoc .. |>.trans ?_
 rw [List.take_append_drop]
 exact List.Perm.refl _
theorem foldIns_perm : ∀ (new acc : List Lb), (new.foldl insLb acc).Perm (acc ++ new)
 | [], acc => by rw [List.append_nil]; exact List.Perm.refl _
 | x :: new, acc => by
  rw [List.foldl_cons]
  refine (foldIns_perm new (insLb acc x)).trans ?_
  refine ((insLb_perm acc x).append_right new).trans ?_
  rw [List.cons_append]
  exact (List.perm_middle).symm
theorem sink_at (A S : List Lb) (x : Lb) (hA : ∀ y ∈ A, ltLb x y = false) : ∀ (n : Nat) (B : List Lb) (S : List Lb), B.length = n → (∀ y ∈ B, ltLb x y = true) → sink ltLb default (A ++ B ++ x :: S) (A.length + B.length) = A ++ x :: B ++ S
 | 0, B, S, hn, hB => by
  obtain rfl := List.eq_nil_of_length_eq_zero hn
  rw [List.append_nil, List.length_nil, Nat.add_zero]
  rcases List.eq_nil_or_concat A with rfl | ⟨A', z, rfl⟩
  ·simp [sink]
  ·have hz := hA z (by simp)
   rw [List.concat_eq_append]
   have e1 : (A' ++ [z]).length = A'.length + 1 := by simp
   have g1 : (A' ++ [z] ++ x :: S).getD (A'.length + 1) default = x := by
    rw [List.getD_eq_getElem?_getD, List.getElem?_append_right (by simp)]; simp
   have g2 : (A' ++ [z] ++ x :: S).getD A'.length default = z := by
    rw [List.getD_eq_getElem?_getD, List.append_assoc, List.getElem?_append_right (Nat.le_refl _)]; simp
   rw [e1, sink, g1, g2, hz]
   simp
 | n + 1, B, S, hn, hB => by
  rcases List.eq_nil_or_concat B with rfl | ⟨B', z, rfl⟩
  ·cases hn
  ·rw [List.concat_eq_append] at hn hB ⊢
   have hz := hB z (by simp)
   have e1 : A.length + (B' ++ [z]).length = (A.length + B'.length) + 1 := by simp; omega
   have e2 : A ++ (B' ++ [z]) ++ x :: S = (A ++ B') ++ z :: x :: S := by simp
   have g1 : ((A ++ B') ++ z :: x :: S).getD (A.length + B'.length + 1) default = x := by
    rw [List.getD_eq_getElem?_getD, List.getElem?_append_right (by simp <;> omega)]; simp
   have g2 : ((A ++ B') ++ z :: x :: S).getD (A.length + B'.length) default = z := by
    rw [List.getD_eq_getElem?_getD, List.getElem?_append_right (by simp)]; simp
   have e3 : (((A ++ B') ++ z :: x :: S).set (A.length + B'.length + 1) z).set (A.length + B'.length) x = A ++ B' ++ x :: (z :: S) := by
    rw [List.set_append_right _ _ (by simp <;> omega), List.set_append_right _ _ (by simp)]
    simp
   rw [e1, e2, sink, g1, g2, hz, if_pos rfl, e3, sink_at A S x hA n B' (z :: S) (by simpa using hn) (fun y hy => hB y (by simp [hy]))]
   simp
theorem posL_take {n : ByteArray} : ∀ {l : List Lb}, ∀ y ∈ l.take (posL n l), sLt y.name n = true
 | [], y, hy => by simp at hy
 | z :: l, y, hy => by
  rw [posL] at hy
  split at hy
  ·rename_i h
   rw [List.take_succ_cons] at hy
   rcases List.mem_cons.1 hy with rfl | hy
   ·exact h
   ·exact posL_take y hy
  ·simp at hy
theorem posL_drop {n : ByteArray} : ∀ {l : List Lb}, upL l → (∀ y ∈ l, y.name ≠ n) → ∀ y ∈ l.drop (posL n l), sLt n y.name = true
 | [], _, _, y, hy => by simp at hy
 | z :: l, hu, hne, y, hy => by
  rw [posL] at hy
  have hu' := List.pairwise_cons.1 hu
  split at hy
  ·rw [List.drop_succ_cons] at hy
   exact posL_drop hu'.2 (fun y hy => hne y (List.mem_cons_of_mem _ hy)) y hy
  ·rename_i h
   have hz : sLt n z.name = true := by
    cases hh : sLt n z.name with
    | true => rfl
    | false => exact absurd (sLt_total (by simpa using h) hh) (hne z (List.mem_cons_self ..))
   rw [List.drop_zero] at hy
   rcases List.mem_cons.1 hy with rfl | hy
   ·exact hz
   ·exact sLt_trans hz (hu'.1 y hy)
theorem insLb_up {l : List Lb} {x : Lb} (hu : upL l) (hne : ∀ y ∈ l, y.name ≠ x.name) : upL (insLb l x) := by
 unfold insLb upL
 have hd := posL_drop hu hne
 have ht := posL_take (n := x.name) (l := l)
 have hsp : (l.take (posL x.name l) ++ l.drop (posL x.name l)).Pairwise fun x y => sLt x.name y.name = true := by rw [List.take_append_drop]; exact hu
 rw [List.pairwise_append] at hsp
 rw [List.append_assoc, List.pairwise_append]
 refine ⟨hsp.1, List.pairwise_cons.2 ⟨fun y hy => hd y hy, hsp.2.1⟩, fun a ha b hb => ?_⟩
 rcases List.mem_cons.1 hb with rfl | hb
 ·exact ht a ha
 ·exact hsp.2.2 a ha b hb
theorem sort_fold : ∀ (i : Nat) (l : List Lb), i ≤ l.length → (nms l).Nodup → sortTo ltLb default l i = (l.take i).foldl insLb [] ++ l.drop i ∧ upL ((l.take i).foldl insLb [])
 | 0, l, _, _ => ⟨by simp [sortTo], by simp [upL]⟩
 | i + 1, l, hi, hn => by
  obtain ⟨h1, h2⟩ := sort_fold i l (by omega) hn
  obtain ⟨F, hF⟩ : ∃ F, F = (l.take i).foldl insLb [] := ⟨_, rfl⟩
  rw [← hF] at h1 h2
  have hFp : F.Perm (l.take i) := by rw [hF]; simpa using foldIns_perm (l.take i) []
  have hFl : F.length = i := by rw [hFp.length_eq, List.length_take]; omega
  obtain ⟨x, hx⟩ : ∃ x, x = l.getD i default := ⟨_, rfl⟩
  have htk : l.take (i + 1) = l.take i ++ [x] := by rw [hx]; exact take_succ_getD default (by omega)
  have hdr : l.drop i = x :: l.drop (i + 1) := by rw [hx]; exact drop_getD default (by omega)
  have hne : ∀ y ∈ F, y.name ≠ x.name := by
   intro y hy e
   have hy' := hFp.mem_iff.1 hy
   have hnn : (nms (l.take (i + 1) ++ l.drop (i + 1))).Nodup := by rw [List.take_append_drop]; exact hn
   rw [htk, nms, List.map_append, List.map_append, List.append_assoc] at hnn
   have := (List.nodup_append.1 hnn).2.2 y.name (List.mem_map_of_mem hy') x.name (by simp)
   exact this e
  have hA := posL_take (n := x.name) (l := F)
  have hB := posL_drop h2 hne
  rw [htk, List.foldl_append, List.foldl_cons, List.foldl_nil, ← hF]
  refine ⟨?_, insLb_up h2 hne⟩
  rw [sortTo, h1, hdr]
  have hsp : F ++ x :: l.drop (i + 1) = F.take (posL x.name F) ++ F.drop (posL x.name F) ++ x :: l.drop (i + 1) := by rw [List.take_append_drop]
  have hln : i = (F.take (posL x.name F)).length + (F.drop (posL x.name F)).length := by rw [← List.length_append, List.take_append_drop, hFl]
  rw [hsp]
  have := sink_at (F.take (posL x.name F)) [] x (fun y hy => sLt_asymm (hA y hy)) _ (F.drop (posL x.name F)) (l.drop (i + 1)) rfl (fun y hy => hB y hy)
  rw [← hln] at this
  rw [this, insLb]
  simp
theorem sort_same {l : List Lb} (h : (nms l).Nodup) : sortLb l = l.foldl insLb [] := by
 have := (sort_fold l.length l (Nat.le_refl _) h).1
 rw [List.take_length, List.drop_length, List.append_nil] at this
 exact this
theorem ok_nodup {s : Ser} (h : serOk s = true) : (nms s.labels).Nodup := by
 have hl := (serOk_parts h).2.2
 have key : ∀ j, j < s.labels.length → ∀ i, i < j → sLt (s.labels.getD i default).name (s.labels.getD j default).name = true := by
  intro j
  induction j with
  | zero => intro _ i hi; omega
  | succ j ih =>
   intro hj i hi
   have := hl (j + 1) hj
   simp only [lbOk, Bool.and_eq_true, Bool.or_eq_true, Nat.add_sub_cancel] at this
   have h1 : sLt (s.labels.getD j default).name (s.labels.getD (j + 1) default).name = true := by
    rcases this.2 with h | h
    ·simp at h
    ·exact h
   by_cases e : i = j
   ·subst e; exact h1
   ·exact sLt_trans (ih (by omega) i (by omega)) h1
 unfold nms List.Nodup
 rw [List.pairwise_map, List.pairwise_iff_getElem]
 intro i j hi hj hij
 have := key j hj i hij
 rw [getD_get hi, getD_get hj] at this
 exact sLt_ne this
theorem ok_same (nm : ByteArray) (new : List Lb) (h : serOk ⟨nm, sortLb new⟩ = true ∨ serOk ⟨nm, new.foldl insLb []⟩ = true) : sortLb new = new.foldl insLb [] := by
 apply sort_same
 rcases h with h | h
 ·have := ok_nodup h
  exact ((sortLb_perm new).map Lb.name).nodup_iff.1 this
 ·have := ok_nodup h
  have hp : (new.foldl insLb []).Perm new := by simpa using foldIns_perm new []
  exact (hp.map Lb.name).nodup_iff.1 this
end Go.Proofs.YtpdcpdngckpgbaaGreat.A
end
section
namespace Go.Proofs.YtpdcpdngckpgbaaGreat.A
open Go Go.Proofs Go.Proofs.YtpdcpdngckpgbaaGreatAbs
def segR : Nat → Nat → List UInt8 → Option (List Lb)
 | 0, _, _ => none
 | n + 1, m, rest =>
  match rest.drop (fAt rest 61 + 1) with
  | [] => none
  | q :: r => if q ≠ 34 then none else if m = 4 then none else
   match quo r with
   | none => none
   | some (_, []) => none
   | some (a, x :: t) => if x = 44 then (segR n (m + 1) t).map (fun new => ⟨mkS (rest.take (fAt rest 61)), mkS a⟩ :: new) else if x = 125 ∧ t = [] then some [⟨mkS (rest.take (fAt rest 61)), mkS a⟩] else none
def segP : Nat → Nat → List UInt8 → Option (List Lb)
 | 0, _, _ => none
 | n + 1, m, rest =>
  if (Lib.cut rest [61, 34]).2.2 = false then none else
  match quo (Lib.cut rest [61, 34]).2.1 with
  | none => none
  | some (_, []) => none
  | some (a, x :: t) => if m = 4 then none else if x = 44 then (segP n (m + 1) t).map (fun new => ⟨mkS (Lib.cut rest [61, 34]).1, mkS a⟩ :: new) else if x = 125 ∧ t = [] then some [⟨mkS (Lib.cut rest [61, 34]).1, mkS a⟩] else none
theorem refG_seg : ∀ (n : Nat) (rest : List UInt8) (ls : List Lb), refG n rest ls = (segR n ls.length rest).map fun new => new.foldl insLb ls
 | 0, rest, ls => rfl
 | n + 1, rest, ls => by
  rw [refG, segR]
  cases rest.drop (fAt rest 61 + 1) with
  | nil => rfl
  | cons q r =>
   simp only
   by_cases hq : q ≠ 34
   ·simp only [if_pos hq, Option.map_none]
   ·simp only [if_neg hq]
    by_cases h4 : ls.length = 4
    ·simp only [if_pos h4, Option.map_none]
    ·simp only [if_neg h4]
     cases quo r with
     | none => rfl
     | some p =>
      obtain ⟨a, t⟩ := p
      cases t with
      | nil => rfl
      | cons x t =>
       simp only
       by_cases hx : x = 44
       ·simp only [if_pos hx]
        rw [refG_seg n t, insLb_len, Option.map_map]
        rfl
       ·simp only [if_neg hx]
        by_cases hy : x = 125 ∧ t = []
        ·simp only [if_pos hy, Option.map_some]
         rfl
        ·simp only [if_neg hy, Option.map_none]
theorem parG_seg : ∀ (n : Nat) (rest : List UInt8) (ls : List Lb), parG n rest ls = (segP n ls.length rest).map fun new => ls ++ new
 | 0, rest, ls => rfl
 | n + 1, rest, ls => by
  rw [parG, segP]
  by_cases hc : (Lib.cut rest [61, 34]).2.2 = false
  ·simp only [if_pos hc, Option.map_none]
  ·simp only [if_neg hc]
   cases quo (Lib.cut rest [61, 34]).2.1 with
   | none => rfl
   | some p =>
    obtain ⟨a, t⟩ := p
    cases t with
    | nil => rfl
    | cons x t =>
     simp only
     by_cases h4 : ls.length = 4
     ·simp only [if_pos h4, Option.map_none]
     ·simp only [if_neg h4]
      by_cases hx : x = 44
      ·simp only [if_pos hx]
       rw [parG_seg n t, List.length_append, List.length_singleton, Option.map_map]
       congr 1
       funext new
       simp
      ·simp only [if_neg hx]
       by_cases hy : x = 125 ∧ t = []
       ·simp only [if_pos hy, Option.map_some]
       ·simp only [if_neg hy, Option.map_none]
theorem fAt_split {l : List UInt8} {c : UInt8} (h : fAt l c < l.length) : l = l.take (fAt l c) ++ c :: l.drop (fAt l c + 1) := by
 have hc : l[fAt l c] = c := by
  have := List.findIdx_getElem (p := (· == c)) (xs := l) (w := h)
  exact eq_of_beq this
 have := List.take_append_drop (fAt l c) l
 rw [List.drop_eq_getElem_cons h, hc] at this
 exact this.symm
theorem fAt_no {l : List UInt8} {c : UInt8} : ∀ x ∈ l.take (fAt l c), x ≠ c := by
 intro x hx e
 obtain ⟨i, hi, rfl⟩ := List.mem_iff_getElem.1 hx
 rw [List.length_take] at hi
 rw [List.getElem_take] at e
 have := List.not_of_lt_findIdx (p := (· == c)) (xs := l) (i := i) (by show i < fAt l c; omega)
 rw [e] at this
 simp at this
theorem fAt_at {p r : List UInt8} {c : UInt8} (hp : ∀ x ∈ p, x ≠ c) : fAt (p ++ c :: r) c = p.length := by
 induction p with
 | nil => simp [fAt, List.findIdx_cons]
 | cons x p ih =>
  have hx := hp x (List.mem_cons_self ..)
  have := ih (fun y hy => hp y (List.mem_cons_of_mem _ hy))
  rw [List.cons_append, fAt, List.findIdx_cons, show (x == c) = false by simpa using hx]
  show fAt (p ++ c :: r) c + 1 = _
  rw [this]; rfl
theorem cut_true {s sep k r : List UInt8} (h : Lib.cut s sep = (k, r, true)) : s = k ++ sep ++ r := by
 unfold Lib.cut at h
 split at h
 ·rename_i h0
  rcases Lib.index_spec s sep with ⟨h1, _⟩ | ⟨i, h1, h2, h3, _⟩
  ·rw [h1] at h0; exact absurd h0 (by decide)
  ·rw [h1, Int.toNat_natCast] at h
   simp only [Prod.mk.injEq, and_true] at h
   obtain ⟨rfl, rfl⟩ := h
   unfold Lib.occAt at h3
   obtain ⟨t, ht⟩ := List.isPrefixOf_iff_prefix.1 h3
   rw [← List.drop_drop, ← ht, List.drop_left, List.append_assoc, ht, List.take_append_drop]
 ·simp at h
theorem segRP : ∀ (n m : Nat) (rest : List UInt8) (new : List Lb), segR n m rest = some new → segP n m rest = some new
 | 0, m, rest, new, h => by cases h
 | n + 1, m, rest, new, h => by
  rw [segR] at h
  obtain ⟨d, hd⟩ : ∃ d, d = rest.drop (fAt rest 61 + 1) := ⟨_, rfl⟩
  rw [← hd] at h
  cases d with
  | nil => cases h
  | cons q r =>
   simp only at h
   by_cases hq : q = 34
   case neg => rw [if_pos hq] at h; cases h
   rw [if_neg (by simp [hq])] at h
   have hl : fAt rest 61 < rest.length := by
    have : (rest.drop (fAt rest 61 + 1)).length ≠ 0 := by rw [← hd]; simp
    rw [List.length_drop] at this
    omega
   have hsp := fAt_split hl
   rw [← hd, hq] at hsp
   have hc : Lib.cut rest [61, 34] = (rest.take (fAt rest 61), r, true) := by
    have := cut_at (p := rest.take (fAt rest 61)) (r := r) (sep := [61, 34]) rfl fAt_no
    rw [← this]
    congr 1
   rw [segP, hc]
   simp only [Bool.true_eq_false, if_false]
   by_cases h4 : m = 4
   ·rw [if_pos h4] at h; cases h
   rw [if_neg h4] at h
   cases hqu : quo r with
   | none => rw [hqu] at h; cases h
   | some p =>
    rw [hqu] at h
    obtain ⟨a, t⟩ := p
    cases t with
    | nil => cases h
    | cons x t =>
     simp only [if_neg h4] at h ⊢
     by_cases hx : x = 44
     ·rw [if_pos hx] at h ⊢
      obtain ⟨new', h1, h2⟩ := Option.map_eq_some_iff.1 h
      rw [segRP n (m + 1) t new' h1, Option.map_some, h2]
     ·rw [if_neg hx] at h ⊢
      exact h
theorem segPR : ∀ (n m : Nat) (rest : List UInt8) (new : List Lb), segP n m rest = some new → (∀ y ∈ new, nmOk y.name = true) → segR n m rest = some new
 | 0, m, rest, new, h, _ => by cases h
 | n + 1, m, rest, new, h, hok => by
  rw [segP] at h
  obtain ⟨⟨k, r, fd⟩, hc⟩ : ∃ c, c = Lib.cut rest [61, 34] := ⟨_, rfl⟩
  rw [← hc] at h
  cases fd with
  | false => cases h
  | true =>
   simp only [Bool.true_eq_false, if_false] at h
   cases hqu : quo r with
   | none => rw [hqu] at h; cases h
   | some p =>
    rw [hqu] at h
    obtain ⟨a, t⟩ := p
    cases t with
    | nil => cases h
    | cons x t =>
     simp only at h
     by_cases h4 : m = 4
     ·rw [if_pos h4] at h; cases h
     rw [if_neg h4] at h
     have hhead : ∃ tl, new = ⟨mkS k, mkS a⟩ :: tl := by
      by_cases hx : x = 44
      ·rw [if_pos hx] at h
       obtain ⟨new', h1, h2⟩ := Option.map_eq_some_iff.1 h
       exact ⟨new', h2.symm⟩
      ·rw [if_neg hx] at h
       split at h
       ·exact ⟨[], (Option.some.inj h).symm⟩
       ·cases h
     obtain ⟨tl, rfl⟩ := hhead
     have hnm := hok _ (List.mem_cons_self ..)
     have hno : ∀ y ∈ k, y ≠ 61 := nm_no (s := mkS k) hnm (.inl (by decide))
     have hs := cut_true hc.symm
     have hs' : rest = k ++ 61 :: (34 :: r) := by rw [hs]; simp
     have hf : fAt rest 61 = k.length := by rw [hs']; exact fAt_at hno
     have htk : rest.take (fAt rest 61) = k := by rw [hf, hs', List.take_left]
     have hdr : rest.drop (fAt rest 61 + 1) = 34 :: r := by rw [hf, hs', ← List.drop_drop, List.drop_left]; rfl
     rw [segR, hdr, htk]
     simp only [ne_eq, not_true_eq_false, if_false, if_neg h4, hqu]
     by_cases hx : x = 44
     ·rw [if_pos hx] at h ⊢
      obtain ⟨new', h1, h2⟩ := Option.map_eq_some_iff.1 h
      obtain rfl : new' = tl := by injection h2
      rw [segPR n (m + 1) t new' h1 (fun y hy => hok y (List.mem_cons_of_mem _ hy))]
      rfl
     ·rw [if_neg hx] at h ⊢
      exact h
theorem ok_names {nm : ByteArray} {new : List Lb} (h : serOk ⟨nm, sortLb new⟩ = true) : ∀ y ∈ new, nmOk y.name = true := by
 intro y hy
 have hy' := (sortLb_perm new).mem_iff.2 hy
 obtain ⟨i, hi, rfl⟩ := List.mem_iff_getElem.1 hy'
 have := (lbOk_parts ((serOk_parts h).2.2 i hi)).1
 rwa [show (Ser.mk nm (sortLb new)).labels = sortLb new from rfl, getD_get hi] at this
theorem parse_same (s : ByteArray) : parS s = refS s := by
 have hcut : Lib.cut (bs s) [123] = ((bs s).take (fAt (bs s) 123), (bs s).drop (fAt (bs s) 123 + 1), decide (fAt (bs s) 123 < (bs s).length)) := by
  by_cases h : fAt (bs s) 123 < (bs s).length
  ·have hsp := fAt_split h
   have := cut_at (p := (bs s).take (fAt (bs s) 123)) (r := (bs s).drop (fAt (bs s) 123 + 1)) (sep := [123]) rfl fAt_no
   rw [decide_eq_true h, ← this]
   congr 1
  ·have hl : (bs s).take (fAt (bs s) 123) = bs s := List.take_of_length_le (by omega)
   have := cut_no (p := bs s) (sep := [123]) rfl (by have := fAt_no (l := bs s) (c := 123); rwa [hl] at this)
   rw [decide_eq_false h, this, hl, List.drop_eq_nil_of_le (by omega)]
 unfold parS refS parAll refAll
 rw [hcut]
 obtain ⟨nm, hnm⟩ : ∃ nm, nm = mkS ((bs s).take (fAt (bs s) 123)) := ⟨_, rfl⟩
 simp only [← hnm, decide_eq_true_eq]
 by_cases h : fAt (bs s) 123 < (bs s).length
 case neg => rw [if_neg h, if_neg h]; rfl
 rw [if_pos h, if_pos h, parG_seg, refG_seg]
 obtain ⟨rest, hrest⟩ : ∃ r, r = (bs s).drop (fAt (bs s) 123 + 1) := ⟨_, rfl⟩
 rw [← hrest, List.length_nil]
 cases hR : segR 5 0 rest with
 | some new =>
  rw [segRP 5 0 rest new hR]
  simp only [Option.map_some, Option.bind_some, List.nil_append]
  by_cases hk : serOk ⟨nm, sortLb new⟩ = true ∨ serOk ⟨nm, new.foldl insLb []⟩ = true
  ·rw [ok_same nm new hk]
  ·rw [if_neg (fun e => hk (.inl e)), if_neg (fun e => hk (.inr e))]
 | none =>
  cases hP : segP 5 0 rest with
  | none => rfl
  | some new =>
   simp only [Option.map_some, Option.map_none, Option.bind_some, Option.bind_none, List.nil_append]
   rw [if_neg]
   intro hk
   have := segPR 5 0 rest new hP (ok_names hk)
   rw [this] at hR
   cases hR
theorem parS_ok {s : ByteArray} {x : Ser} (h : parS s = some x) : serOk x = true := by
 unfold parS at h
 obtain ⟨ls, _, h2⟩ := Option.bind_eq_some_iff.1 h
 split at h2
 ·rename_i hk
  cases h2
  exact hk
 ·cases h2
end Go.Proofs.YtpdcpdngckpgbaaGreat.A
end
section
namespace Go.Proofs.YtpdcpdngckpgbaaGreatAbs
open Go Go.RowKit
attribute [go_sem] Option.isNone_none Option.isNone_some Bool.and_false Bool.false_and Bool.true_and Bool.and_true Bool.or_false Bool.false_or Bool.true_or Bool.or_true Bool.not_true Bool.not_false Bool.false_eq_true Bool.true_eq_false if_true if_false
@[go_sem] theorem bne_0 : ((0 : Int) != 0) = false := rfl
@[go_sem] theorem beq_0 : ((0 : Int) == 0) = true := rfl
@[go_sem] theorem bne_1 : ((1 : Int) != 0) = true := rfl
@[go_sem] theorem beq_1 : ((1 : Int) == 0) = false := rfl
@[go_sem] theorem eqz_1 : ((1 : Int) = 0) = False := eq_false (by decide)
@[go_sem] theorem bne_2 : ((2 : Int) != 0) = true := rfl
@[go_sem] theorem beq_2 : ((2 : Int) == 0) = false := rfl
@[go_sem] theorem eqz_2 : ((2 : Int) = 0) = False := eq_false (by decide)
@[go_sem] theorem bne_3 : ((3 : Int) != 0) = true := rfl
@[go_sem] theorem beq_3 : ((3 : Int) == 0) = false := rfl
@[go_sem] theorem eqz_3 : ((3 : Int) = 0) = False := eq_false (by decide)
@[go_sem] theorem bne_4 : ((4 : Int) != 0) = true := rfl
@[go_sem] theorem beq_4 : ((4 : Int) == 0) = false := rfl
@[go_sem] theorem eqz_4 : ((4 : Int) = 0) = False := eq_false (by decide)
@[go_sem] theorem bne_5 : ((5 : Int) != 0) = true := rfl
@[go_sem] theorem beq_5 : ((5 : Int) == 0) = false := rfl
@[go_sem] theorem eqz_5 : ((5 : Int) = 0) = False := eq_false (by decide)
@[go_sem] theorem bne_6 : ((6 : Int) != 0) = true := rfl
@[go_sem] theorem beq_6 : ((6 : Int) == 0) = false := rfl
@[go_sem] theorem eqz_6 : ((6 : Int) = 0) = False := eq_false (by decide)
@[go_sem] theorem bne_7 : ((7 : Int) != 0) = true := rfl
@[go_sem] theorem beq_7 : ((7 : Int) == 0) = false := rfl
@[go_sem] theorem eqz_7 : ((7 : Int) = 0) = False := eq_false (by decide)
@[go_sem] theorem bne_8 : ((8 : Int) != 0) = true := rfl
@[go_sem] theorem beq_8 : ((8 : Int) == 0) = false := rfl
@[go_sem] theorem eqz_8 : ((8 : Int) = 0) = False := eq_false (by decide)
@[go_sem] theorem bne_9 : ((9 : Int) != 0) = true := rfl
@[go_sem] theorem beq_9 : ((9 : Int) == 0) = false := rfl
@[go_sem] theorem eqz_9 : ((9 : Int) = 0) = False := eq_false (by decide)
@[go_sem] theorem bne_10 : ((10 : Int) != 0) = true := rfl
@[go_sem] theorem beq_10 : ((10 : Int) == 0) = false := rfl
@[go_sem] theorem eqz_10 : ((10 : Int) = 0) = False := eq_false (by decide)
@[go_sem] theorem bne_11 : ((11 : Int) != 0) = true := rfl
@[go_sem] theorem beq_11 : ((11 : Int) == 0) = false := rfl
@[go_sem] theorem eqz_11 : ((11 : Int) = 0) = False := eq_false (by decide)
@[go_sem] theorem bne_12 : ((12 : Int) != 0) = true := rfl
@[go_sem] theorem beq_12 : ((12 : Int) == 0) = false := rfl
@[go_sem] theorem eqz_12 : ((12 : Int) = 0) = False := eq_false (by decide)
theorem gb {M : List Blk} {b : Nat} {X : Blk} (h : b < M.length) : (M.set b X)[b]? = some X := by rw [List.getElem?_set, if_pos rfl, if_pos h]
theorem gn {M : List Blk} {b c : Nat} {X : Blk} (h : b ≠ c) : (M.set b X)[c]? = M[c]? := by rw [List.getElem?_set, if_neg h]
theorem ga {M D : List Blk} {b : Nat} (h : b < M.length) : (M ++ D)[b]? = M[b]? := List.getElem?_append_left h
theorem gl {M : List Blk} {X : Blk} : (M ++ [X])[M.length]? = some X := by rw [List.getElem?_append_right (Nat.le_refl _), Nat.sub_self]; rfl
theorem sa {M D : List Blk} {b : Nat} {X : Blk} (h : b < M.length) : (M ++ D).set b X = M.set b X ++ D := List.set_append_left _ _ h
theorem gl2 {M : List Blk} {X Y : Blk} {b : Nat} : (M.set b Y ++ [X])[M.length]? = some X := by rw [List.getElem?_append_right (by simp), List.length_set, Nat.sub_self]; rfl
theorem set_last {M : List Blk} {X Y : Blk} : (M ++ [X]).set M.length Y = M ++ [Y] := by
 rw [List.set_append_right _ _ (Nat.le_refl _), Nat.sub_self]; rfl
theorem sl2 {M : List Blk} {X Y Z : Blk} {c : Nat} : (M.set c X ++ [Y]).set M.length Z = M.set c X ++ [Z] := by
 rw [List.set_append_right _ _ (by simp), List.length_set, Nat.sub_self]; rfl
theorem leS_of {s s' : SV} (h : s = s') : leS s s' := by rw [h, leS_self]; trivial
theorem ltA_up1 {n m : Nat} (hnm : n ≤ m) {a : AV} : ltA n a → ltA m a := by
 induction a with
 | c x => exact fun h => h
 | ptr b v i j => intro h; exact Nat.lt_of_lt_of_le h hnm
 | arr sz b v i j => intro h; exact Nat.lt_of_lt_of_le h hnm
 | ip m c => exact fun h => h
 | mp b v => intro h; exact Nat.lt_of_lt_of_le h hnm
 | arx sz b v o l => intro h; exact Nat.lt_of_lt_of_le h hnm
 | fn f k caps ih => exact fun h i hi => ih i (h i hi)
theorem ltB_up1 {n m : Nat} (hnm : n ≤ m) {x : Blk} (h : ltB n x) : ltB m x := by
 cases x with
 | dead => exact h
 | rows t sz v l f => exact fun r hr a ha => ltA_up1 hnm (h r hr a ha)
 | sit s p => exact h
 | mp l => exact h
theorem ltM_app {M D : List Blk} (h : ∀ x ∈ M, ltB M.length x) (hD : ∀ x ∈ D, ltB (M.length + D.length) x) : ∀ x ∈ M ++ D, ltB (M ++ D).length x := by
 intro x hx
 rw [List.length_append]
 rcases List.mem_append.1 hx with hx | hx
 ·exact ltB_up1 (Nat.le_add_right _ _) (h x hx)
 ·exact hD x hx
theorem ltM_set {M : List Blk} {b : Nat} {X : Blk} (h : ∀ x ∈ M, ltB M.length x) (hX : ltB M.length X) : ∀ x ∈ M.set b X, ltB (M.set b X).length x := by
 intro x hx
 rw [List.length_set]
 rcases List.mem_or_eq_of_mem_set hx with hx | rfl
 ·exact h x hx
 ·exact hX
section
variable {α : Type} [Inhabited α]
abbrev immL (sz : Nat) (c : α → Nat → CV) (l : List α) : CV := .imm sz l.length fun i j => c (l.getD i default) j
abbrev immP (sz : Nat) (c : α → Nat → CV) (l : List α) : Pt := .one (.c (immL sz c l))
def rowsL (sz : Nat) (c : α → Nat → CV) (l : List α) : List (List AV) := l.map fun x => cellsUp (c x) 0 sz
variable {sz : Nat} {c : α → Nat → CV}
@[go_sem] theorem rowsL_len {β : Type} {c : β → Nat → CV} (l : List β) : (rowsL sz c l).length = l.length := List.length_map ..
theorem cellsUp_ltA (n : Nat) (c : Nat → CV) (m k : Nat) : ∀ a ∈ cellsUp c k m, ltA n a := by
 have := lt_cellsUp n c m k; rw [this]; trivial
theorem rowsL_row {β : Type} {c : β → Nat → CV} {l : List β} : ∀ r ∈ rowsL sz c l, r.length = sz ∧ ∀ n, ∀ a ∈ r, ltA n a := by
 intro r hr
 obtain ⟨x, _, rfl⟩ := List.mem_map.1 hr
 exact ⟨cellsUp_length _ _ _, fun n => cellsUp_ltA n _ _ _⟩
theorem rowsL_ltB {β : Type} {c : β → Nat → CV} (n t v : Nat) (l : List β) (f : Bool) : ltB n (.rows t sz v (rowsL sz c l) f) := fun r hr => (rowsL_row r hr).2 n
theorem cellsUp_closed (c : Nat → CV) : ∀ (m k : Nat), ∀ a ∈ cellsUp c k m, ∃ x, a = .c x
 | 0, k, a, h => by cases h
 | m + 1, k, a, h => by
  rcases List.mem_cons.1 h with rfl | h
  ·exact ⟨_, rfl⟩
  ·exact cellsUp_closed c m (k + 1) a h
theorem rowsL_closed {β : Type} {c : β → Nat → CV} (l : List β) : closedRows (rowsL sz c l) := by
 intro r hr a ha
 obtain ⟨x, _, rfl⟩ := List.mem_map.1 hr
 exact cellsUp_closed _ _ _ a ha
theorem rowsL_getD {l : List α} {i : Nat} (h : i < l.length) : (rowsL sz c l).getD i [] = cellsUp (c (l.getD i default)) 0 sz := by
 rw [List.getD_eq_getElem?_getD, List.getD_eq_getElem?_getD, rowsL, List.getElem?_map, List.getElem?_eq_getElem h]; rfl
theorem rowsL_app {β : Type} {c : β → Nat → CV} (l m : List β) : rowsL sz c l ++ rowsL sz c m = rowsL sz c (l ++ m) := by rw [rowsL, rowsL, rowsL, List.map_append]
theorem rowsL_app1 {β : Type} {c : β → Nat → CV} (l : List β) (x : β) : rowsL sz c l ++ [cellsUp (c x) 0 sz] = rowsL sz c (l ++ [x]) := by rw [rowsL, rowsL, List.map_append]; rfl
theorem rowsL_ins {β : Type} {c : β → Nat → CV} (l : List β) (i : Nat) (x : β) : (rowsL sz c l).take i ++ cellsUp (c x) 0 sz :: (rowsL sz c l).drop i = rowsL sz c (l.take i ++ x :: l.drop i) := by
 rw [rowsL, rowsL, List.map_append, List.map_cons, List.map_take, List.map_drop]
theorem rowsL_set {β : Type} {c : β → Nat → CV} (l : List β) (i : Nat) (x : β) : (rowsL sz c l).set i (cellsUp (c x) 0 sz) = rowsL sz c (l.set i x) := by rw [rowsL, rowsL, List.map_set]
theorem rowsL_take {β : Type} {c : β → Nat → CV} (l : List β) (i : Nat) : (rowsL sz c l).take i = rowsL sz c (l.take i) := by rw [rowsL, rowsL, List.map_take]
theorem rowsL_drop {β : Type} {c : β → Nat → CV} (l : List β) (i : Nat) : (rowsL sz c l).drop i = rowsL sz c (l.drop i) := by rw [rowsL, rowsL, List.map_drop]
theorem rowsL_nil {β : Type} {c : β → Nat → CV} : rowsL sz c ([] : List β) = [] := rfl
theorem getD_cellsUp {c : Nat → CV} {m k j : Nat} (h : j < m) : (cellsUp c k m).getD j default = .c (c (k + j)) := by
 rw [List.getD_eq_getElem?_getD, cellsUp_get, if_pos h]; rfl
theorem rowsL_toC {l : List α} {i j : Nat} (hi : i < l.length) (hj : j < sz) : toC (((rowsL sz c l).getD i []).getD j default) = c (l.getD i default) j := by
 rw [rowsL_getD hi, getD_cellsUp hj, Nat.zero_add]; rfl
theorem imm_rowsL (l : List α) : immRows (fun i j => c (l.getD i default) j) sz l.length = rowsL sz c l := by
 unfold immRows rowsL
 refine List.ext_getElem (by simp) (fun i h1 h2 => ?_)
 simp at h2
 simp [List.getD_eq_getElem?_getD, List.getElem?_eq_getElem h2]
theorem imm_rowsL' (l : List α) : (List.map (fun i => cellsUp (fun j => c (l.getD i default) j) 0 sz) (List.range l.length)) = rowsL sz c l := imm_rowsL l
theorem frz_sub (l : List α) : SubA (.c (.imm sz l.length fun i j => toC (((rowsL sz c l).getD (0 + i) []).getD j default))) (.c (immL sz c l)) :=
 subA_imm fun i hi j hj => by rw [Nat.zero_add]; exact rowsL_toC hi hj
theorem frz_sub' (l : List α) : SubA (.c (.imm sz l.length fun i j => toC (((rowsL sz c l).getD i []).getD j default))) (.c (immL sz c l)) :=
 subA_imm fun i hi j hj => rowsL_toC hi hj
theorem nil_sub : SubA (.c (.v (.slice none 0 0))) (.c (immL sz c ([] : List α))) := subA_nil sz _
theorem snapL (l : List α) {M : List Blk} {b v t : Nat} {f : Bool} (hb : M[b]? = some (.rows t sz v (rowsL sz c l) f)) : SnapP M (.one (.arr sz b v 0 l.length)) (immP sz c l) := by
 refine Snap.arr sz b v 0 l.length t (rowsL sz c l) f _ hb (by rw [rowsL_len]; omega) (fun i hi j hj => ?_)
 rw [Nat.zero_add, rowsL_getD hi, getD_cellsUp hj, Nat.zero_add]
 exact Snap.same _ trivial
theorem getD_set_self {l : List α} {i : Nat} {x : α} (h : i < l.length) : (l.set i x).getD i default = x := by
 rw [List.getD_eq_getElem?_getD, List.getElem?_set, if_pos rfl, if_pos h]; rfl
end
theorem getD_sub {α : Type} [Inhabited α] {l : List α} {a n i : Nat} (hi : i < n) : ((l.drop a).take n).getD i default = l.getD (a + i) default := by
 rw [List.getD_eq_getElem?_getD, List.getD_eq_getElem?_getD, List.getElem?_take, if_pos hi, List.getElem?_drop]
theorem le_slice {α : Type} [Inhabited α] {sz : Nat} {c : α → Nat → CV} {l : List α} {a n : Nat} (h : a + n ≤ l.length) : lePt (.one (.c (.imm sz n fun i j => c (l.getD (a + i) default) j))) (immP sz c ((l.drop a).take n)) := by
 rw [lePt_imm]
 refine ⟨by rw [List.length_take, List.length_drop]; omega, .inr ⟨rfl, fun i hi j hj => ?_⟩⟩
 show c _ _ = c _ _
 rw [getD_sub hi]
theorem ops_end {P : Program} {d : Bool} {ops : List OpL} {e : Nat → SV} {M : List Blk} {K : St → Prop} (h : ev P d ops e M K) : Ops P d ops e M K := ev_sound h
theorem run_join {P : Program} {n m : Nat} {c1 rest : C} {s : St} {K : Exit → St → Prop} (l : List (Nat × SV)) (M' : List Blk) (h1 : Run P n m c1 s (fun ex s' => ex = .normal ∧ Into m s' l M')) (h2 : Run P n m rest ⟨envL l, M'⟩ K) : Run P n m (.seq c1 rest) s K := by
 refine run_seq (run_mono (fun ex s' h => ?_) h1)
 obtain ⟨rfl, h⟩ := h
 exact run_gh h.gh h2
theorem callPG {P : Program} {n : Nat} {f : Nat} {c : C} {rvs : List RV} {ps : List Pt} {r : SV} (hF : Fun P f n c rvs) (hl : ps.length ≤ n) (hps : ∀ q ∈ ps, ltP 0 q) (h : Run P n 0 c ⟨envOf 0 ps, []⟩ (FinK n 0 rvs r [])) (M : List Blk) : CallR P M f ps r M :=
 callR_pure (callR_intro (M' := []) hF hl h) hps M
theorem finQ {n : Nat} {rvs : List RV} {r : SV} {s s1 : St} {ex : Exit} (hex : ex = .normal ∨ ex = .ret) (h : Gh n 0 s s1) {qs : List Pt} {cnd : Prop} (h1 : resL s1.env s1.M rvs = some (qs, cnd)) (h2 : cnd) (h4 : SubS (mkRes qs) r) (h6 : ltS 0 r) : FinK n 0 rvs r [] ex s := by
 have h : Fin n 0 rvs r [] s := ⟨s1, s1.M, qs, cnd, h, h1, h2, rfl, h4, Nat.le_refl _, h6, fun x hx => by simp at hx⟩
 rcases hex with rfl | rfl
 ·exact h
 ·exact h
theorem fin0 {n : Nat} {rvs : List RV} {r : SV} {s : St} {ex : Exit} (hex : ex = .normal ∨ ex = .ret) {qs : List Pt} {cnd : Prop} (h1 : resL s.env s.M rvs = some (qs, cnd)) (h2 : cnd) (h4 : SubS (mkRes qs) r) (h6 : ltS 0 r) : FinK n 0 rvs r [] ex s := finQ hex (Gh.refl s) h1 h2 h4 h6
theorem callL {P : Program} {d : Bool} {dst : Option Nat} {os : List OpL} {K : St → Prop} {M : List Blk} {f : Nat} {ps ps' : List Pt} {r : SV} {e : Nat → SV} (h : CallR P [] f ps' r []) (hs : SnapL M ps ps') (hr : plainS r) (hK : ev P d os (put e dst r) M K) : Call1 P M f ps d dst os e K := ⟨r, M, callR_lend h hs hr, fun _ => rfl, ev_sound hK⟩
theorem callLg {P : Program} {d c : Bool} {dst : Option Nat} {os : List OpL} {K : St → Prop} {M : List Blk} {f : Nat} {ps ps' : List Pt} {r : SV} {e : Nat → SV} (h : c = true → CallR P [] f ps' r []) (hs : c = true → SnapL M ps ps') (hr : plainS r) (hK : ev P d os (put e dst (.g c r)) M K) : CallG P M c f ps d dst os e K := ⟨r, fun hc => callR_lend (h hc) (hs hc) hr, ev_sound hK⟩
theorem callS {P : Program} {d : Bool} {dst : Option Nat} {os : List OpL} {K : St → Prop} {M M' : List Blk} {f : Nat} {ps ps' : List Pt} {r : SV} {e : Nat → SV} (h : CallR P M f ps' r M') (hl : SubL ps ps') (hd : d = true → M' = M) (hK : ev P d os (put e dst r) M' K) : Call1 P M f ps d dst os e K := ⟨r, M', h.sub hl, hd, ev_sound hK⟩
section
variable {P : Program} {n m : Nat} {e : Nat → SV} {M : List Blk} {K : Exit → St → Prop}
theorem sub_slice0 (A : Option Addr) (cap sz : Nat) (c : Nat → Nat → CV) : SubS (.p (.one (.c (.v (.slice A 0 cap))))) (.p (.one (.c (.imm sz 0 c)))) := by
 rintro I σ y ⟨rfl, _⟩
 exact ⟨A, cap, rfl, Nat.zero_le _, .inl rfl⟩
theorem run_null {code : C} {i sz : Nat} {c : Nat → Nat → CV} (hi : e i = .p (.one (.c (.imm sz 0 c)))) (h : ∀ A cap, Run P n m code ⟨upd e i (.p (.one (.c (.v (.slice A 0 cap))))), M⟩ K) : Run P n m code ⟨e, M⟩ K := by
 intro co hc I0 σ0 M0 w0 a w hm0 hs
 obtain ⟨hI, σ, hev, he, h1, h2⟩ := hs
 have hi2 := he i
 rw [show (St.mk e M).env i = e i from rfl, hi] at hi2
 obtain ⟨A, cap, hy, _, _⟩ := hi2
 refine h A cap co hc I0 σ0 M0 w0 a w hm0 ⟨hI, σ, hev, fun j => ?_, h1, h2⟩
 show RelS hI σ (upd e i _ j) _
 unfold upd
 by_cases hj : j = i
 ·subst hj
  rw [if_pos rfl]
  exact ⟨hy, rfl⟩
 ·rw [if_neg hj]
  exact he j
end
theorem gh_sub {P : Program} {n m : Nat} {e : Nat → SV} {M : List Blk} (i : Nat) {s' : SV} (h : SubS (e i) s') : Gh n m ⟨e, M⟩ ⟨upd e i s', M⟩ := gh_env fun j => by
 unfold upd
 by_cases hj : j = i
 ·subst hj; rw [if_pos rfl]; exact h
 ·rw [if_neg hj]; exact SubS.refl _
def cloneC (t sz by_ : Nat) (z : List Value) : C :=
 (.seq (.reg false [oo 2 (.mv (.k (.one (.c (.v (.slice none 0 0))))))])
 (.seq (.seq (.reg false [om 3 0, oo 4 (.eqb false (.t 3) (.k (.one (.c (.v (.slice none 0 0))))))])
 (.cond (.t 4)
 (.seq (.reg false [oo 2 (.mv (.k (.one (.c (.v (.slice none 0 0))))))])
 .ret)
 .skip))
 (.seq (.reg false [oo 5 (.bsl t sz 0 z []), om 6 0, oo 7 (.app t sz by_ z (.t 5) (.t 6)), om 2 7])
 .ret)))
section
variable {P : Program} {f t sz by_ : Nat} {z : List Value} {α : Type} [Inhabited α] {c : α → Nat → CV}
set_option maxRecDepth 20000 in
theorem cloneO_rc (hF : Fun P f 8 (cloneC t sz by_ z) [.t 2]) (l : List α) (hl : l.length * by_ ≤ 140737488355328) {M : List Blk} (hMB : ∀ x ∈ M, ltB M.length x) :
  CallR P M f [immP sz c l] (.p (.one (.arr sz M.length 1 0 l.length))) (M ++ [.rows t sz 1 (rowsL sz c l) false]) := by
 have hB : ∀ x ∈ M ++ [Blk.rows t sz 1 (rowsL sz c l) false], ltB (M ++ [Blk.rows t sz 1 (rowsL sz c l) false]).length x := ltM_app hMB (by simp only [List.mem_singleton, forall_eq]; exact rowsL_ltB _ _ _ _ _)
 refine callR_intro hF (by simp) ?_
 by_cases h0 : l.length = 0
 case neg =>
  refine V_sound ?_
  simp only [cloneC, go_sem, show 0 < l.length from by omega, gl, set_last, List.length_map, List.length_range, imm_rowsL']
  refine ⟨hl, fin_own (.inr rfl) (Gh.refl _) [] (cnd := True) rfl trivial (List.append_nil _).symm (leS_of rfl) ?_ ?_ hB⟩
  ·rw [List.length_append]; omega
  ·simp only [go_sem, List.length_append]
 obtain rfl : l = [] := List.eq_nil_of_length_eq_zero h0
 refine run_null (i := 0) rfl (fun A cap => ?_)
 cases A with
 | none =>
  refine V_sound ?_
  simp only [cloneC, go_sem]
  refine fin_own (.inr rfl) ((gh_born 2 t sz (by simp only [go_sem])).trans ((gh_trunc (b := M.length) 0 gl).trans (gh_move (b := M.length) (c := M.length) 2 0 0 (by rw [set_last]; exact gl) (by rw [set_last]; exact gl) (by simp only [go_sem])))) [] (cnd := True) rfl trivial ?_ ?_ ?_ ?_ hB
  ·simp only [set_last, List.append_nil]; rfl
  ·exact leS_of rfl
  ·rw [List.length_append]; omega
  ·simp only [go_sem, List.length_append]
 | some ad =>
  refine run_seqV ?_
  simp only [cloneC, go_sem]
  refine run_seqV ?_
  simp only [go_sem]
  refine run_gh (gh_sub (P := P) 0 (s' := .p (immP sz c ([] : List α))) ?_) ?_
  ·simp only [go_sem]
   exact sub_slice0 _ _ _ _
  refine V_sound ?_
  simp only [go_sem, gl, set_last]
  refine ⟨by omega, fin_own (.inr rfl) (Gh.refl _) [] (cnd := True) rfl trivial ?_ (leS_of rfl) ?_ ?_ hB⟩
  ·simp only [List.append_nil, List.range_zero, List.map_nil]; rfl
  ·rw [List.length_append]; omega
  ·simp only [go_sem, List.length_append]
set_option maxRecDepth 20000 in
theorem clone_rc (hF : Fun P f 8 (cloneC t sz by_ z) [.t 2]) (l : List α) (hl : l.length * by_ ≤ 140737488355328) (M : List Blk) : CallR P M f [immP sz c l] (.p (immP sz c l)) M := by
 refine callPS hF (Nat.le_of_ble_eq_true rfl) (by simp only [go_sem]) (by simp only [go_sem]) ?_ M
 by_cases h0 : l.length = 0
 case neg =>
  refine run_seqV ?_
  simp only [cloneC, go_sem]
  refine run_seqV ?_
  simp only [go_sem, show 0 < l.length from by omega]
  refine run_seqV ?_
  simp only [go_sem, imm_rowsL', List.length_map, List.length_range]
  refine ⟨hl, run_gh (gh_freeze (b := 0) (l := rowsL sz c l) rfl (rowsL_closed l)) ?_⟩
  refine V_sound ?_
  simp only [go_sem, rowsL_len, Nat.le_refl]
  exact subS_p (subP_one (frz_sub' l))
 obtain rfl : l = [] := List.eq_nil_of_length_eq_zero h0
 refine run_null (i := 0) rfl (fun A cap => ?_)
 cases A with
 | none =>
  refine V_sound ?_
  simp only [cloneC, go_sem]
  exact subS_p (subP_one nil_sub)
 | some ad =>
  refine run_seqV ?_
  simp only [cloneC, go_sem]
  refine run_seqV ?_
  simp only [go_sem]
  refine run_gh (gh_sub (P := P) 0 (s' := .p (immP sz c ([] : List α))) ?_) ?_
  ·simp only [go_sem]
   exact sub_slice0 _ _ _ _
  refine run_seqV ?_
  simp only [go_sem, List.range_zero]
  refine ⟨by omega, run_gh (gh_freeze (b := 0) (l := rowsL sz c ([] : List α)) rfl (rowsL_closed _)) ?_⟩
  refine V_sound ?_
  simp only [go_sem, rowsL_len, Nat.le_refl]
  exact subS_p (subP_one (frz_sub' ([] : List α)))
end
end Go.Proofs.YtpdcpdngckpgbaaGreatAbs
end
section
namespace Go.Proofs.YtpdcpdngckpgbaaGreatAbs
open Go Go.RowKit
def idxC (sz : Nat) : C :=
 (.seq (.reg false [oo 4 (.mv (ki 0))])
 (.seq (.seq (.reg false [om 6 0, oo 7 (.len (.t 6)), oo 8 (.mv (ki 0))])
 (.block 0 (.loop (.seq (.reg false [oo 9 (.bin .lss (.t 8) (.t 7))])
 (.seq (.cond (.t 9)
 .skip
 (.exit 0))
 (.seq (.block 1 (.seq (.reg false [om 10 8, om 5 10])
 (.seq (.reg false [om 11 1, om 12 0, om 13 5, oo 14 (.ia sz (.t 12) (.t 13)), oo 15 (.ld true sz (.t 14)), oo 16 (.call (.t 11) [(.t 15)])])
 (.cond (.t 16)
 (.seq (.reg false [om 17 5, om 4 17])
 .ret)
 .skip))))
 (.reg false [oo 18 (.bin .add (.t 8) (ki 1)), om 8 18])))))))
 (.seq (.reg false [oo 4 (.mv (ki (-1)))])
 .ret)))
section
variable {α : Type} [Inhabited α]
theorem getD_ext {l m : List α} (hl : l.length = m.length) (h : ∀ i, i < l.length → l.getD i default = m.getD i default) : l = m := by
 refine List.ext_getElem hl (fun i h1 h2 => ?_)
 have := h i h1
 rwa [getD_get h1, getD_get h2] at this
variable {P : Program} {f t sz : Nat} {ks : List Nat} {z : List Value} {c : α → Nat → CV} {eq : α → α → Bool}
theorem fill_up (c : Nat → CV) (v : List AV) (n : Nat) (h : v.length = n) : fillL v 0 (cellsUp c 0 n) = cellsUp c 0 n := fillL_all (by rw [h, cellsUp_length])
theorem idx_rc {p : α → Bool} (hF : Fun P f 19 (idxC sz) [.t 4]) (fn k : Nat) (caps : Nat → AV) (hcaps : ∀ i, i < k → ltA 0 (caps i)) (l : List α) (hl : l.length ≤ 140737488355328)
  (h : ∀ i, i < l.length → ∀ M, CallR P M fn ([.agg (cellsUp (c (l.getD i default)) 0 sz)] ++ capsL caps 0 k) (.b (p (l.getD i default))) M) (M : List Blk) :
  CallR P M f [immP sz c l, .one (.fn fn k caps)] (.i (if l.findIdx p < l.length then (l.findIdx p : Int) else -1)) M := by
 refine callP hF (Nat.le_of_ble_eq_true rfl) (by simp only [go_sem]; exact hcaps) (by simp only [go_sem]) ?_ M
 simp only [idxC, go_sem]
 refine V_loop (ι := Nat) (J := fun k => k ≤ l.length ∧ ∀ i, i < k → p (l.getD i default) = false) (env := fun i => [(0, .p (immP sz c l)), (1, .p (.one (.fn fn k caps))), (7, .i l.length), (8, .i i)]) (mem := fun _ => []) (μ := fun k => l.length - k) 0 ⟨Nat.zero_le _, fun i hi => absurd hi (Nat.not_lt_zero _)⟩ (into0 (by simp only [go_sem]; exact hcaps)) ?_
 rintro i ⟨hk, hne⟩
 simp only [go_sem]
 refine ⟨fun h1 => ⟨by omega, ?_⟩, fun h1 => ?_⟩
 ·refine call0 (h i h1) ?_
  simp only [go_sem]
  refine ⟨fun hc => ?_, fun hc => ⟨i + 1, ⟨by omega, fun j hj => ?_⟩, by omega, into0 ?_⟩⟩
  ·have : l.findIdx p = i := by
    rw [List.findIdx_eq h1]
    refine ⟨by rwa [getD_get h1] at hc, fun j hj => ?_⟩
    have := hne j hj
    rwa [getD_get (show j < l.length by omega)] at this
   rw [this, if_pos h1]
  ·by_cases e : j = i
   ·subst e; exact hc
   ·exact hne j (by omega)
  ·simp only [go_sem, w64s (show i < 9223372036854775807 by omega)]
   exact hcaps
 ·rw [if_neg]
  have : l.findIdx p = l.length := by
   rw [List.findIdx_eq_length]
   intro y hy
   obtain ⟨j, hj, rfl⟩ := List.mem_iff_getElem.1 hy
   have := hne j (by omega)
   rwa [getD_get hj] at this
  omega
end
end Go.Proofs.YtpdcpdngckpgbaaGreatAbs
end
section
namespace Go.Proofs.YtpdcpdngckpgbaaGreatAbs
open Go Go.RowKit
def delC (t sz by_ : Nat) (z : List Value) : C :=
 (.seq (.reg false [oo 6 (.mv (.k (.one (.c (.v (.slice none 0 0))))))])
 (.seq (.reg false [om 8 0, om 9 1, om 10 2, om 11 0, oo 12 (.len (.t 11)), oo 13 (.s3 (.t 8) (some (.t 9)) (some (.t 10)) (some (.t 12)))])
 (.seq (.seq (.reg false [om 14 1, om 15 2, oo 16 (.bin .eql (.t 14) (.t 15))])
 (.cond (.t 16)
 (.seq (.reg false [om 17 0, om 6 17])
 .ret)
 .skip))
 (.seq (.reg false [om 18 0, oo 19 (.len (.t 18)), om 7 19])
 (.seq (.reg true [om 20 0, om 21 1, oo 22 (.slc sz (.t 20) none (some (.t 21))), om 23 0, om 24 2, oo 25 (.slc sz (.t 23) (some (.t 24)) none), oo 26 (.app t sz by_ z (.t 22) (.t 25)), om 0 26])
 (.seq (.reg false [om 27 0, om 28 0, oo 29 (.len (.t 28)), om 30 7, oo 31 (.slc sz (.t 27) (some (.t 29)) (some (.t 30))), on_ (.clr sz z (.t 31))])
 (.seq (.reg false [om 32 0, om 6 32])
 .ret)))))))
def delfC (t sz : Nat) (z : List Value) (fi : Nat) : C :=
 (.seq (.reg false [oo 4 (.mv (.k (.one (.c (.v (.slice none 0 0))))))])
 (.seq (.reg false [om 8 0, om 9 1, oo 10 (.call (kf fi) [(.t 8), (.t 9)]), om 5 10])
 (.seq (.seq (.reg false [om 11 5, oo 12 (.bin .eql (.t 11) (ki (-1)))])
 (.cond (.t 12)
 (.seq (.reg false [om 13 0, om 4 13])
 .ret)
 .skip))
 (.seq (.seq (.reg false [om 14 5, oo 15 (.bin .add (.t 14) (ki 1)), om 6 15])
 (.block 0 (.loop (.seq (.seq (.reg false [om 16 6, om 17 0, oo 18 (.len (.t 17)), oo 19 (.bin .lss (.t 16) (.t 18))])
 (.cond (.t 19)
 .skip
 (.exit 0)))
 (.seq (.block 1 (.seq (.reg false [om 22 0, om 23 6, oo 24 (.ia sz (.t 22) (.t 23)), oo 25 (.ld true sz (.t 24)), oo 7 (.alloc t sz z), on_ (.st sz (.t 7) (.t 25))])
 (.seq (.reg false [om 26 1, oo 27 (.ld true sz (.t 7)), oo 28 (.call (.t 26) [(.t 27)]), oo 29 (.un .not (.t 28))])
 (.cond (.t 29)
 (.seq (.reg false [om 30 0, om 31 5, oo 32 (.ld true sz (.t 7)), oo 33 (.ia sz (.t 30) (.t 31)), on_ (.st sz (.t 33) (.t 32))])
 (.reg false [om 34 5, oo 35 (.bin .add (.t 34) (ki 1)), om 5 35]))
 .skip))))
 (.reg false [om 20 6, oo 21 (.bin .add (.t 20) (ki 1)), om 6 21]))))))
 (.seq (.reg false [om 36 0, om 37 5, oo 38 (.slc sz (.t 36) (some (.t 37)) none), on_ (.clr sz z (.t 38))])
 (.seq (.reg false [om 39 0, om 40 5, oo 41 (.slc sz (.t 39) none (some (.t 40))), om 4 41])
 .ret))))))
section
variable {P : Program} {f fi t sz by_ : Nat} {z : List Value}
theorem ltB_take {n t sz v : Nat} {l l' : List (List AV)} {f f' : Bool} (h : ltB n (.rows t sz v l f)) (hs : ∀ r ∈ l', r ∈ l) : ltB n (.rows t sz v l' f') := fun r hr => h r (hs r hr)
set_option maxRecDepth 20000 in
theorem del_rc (hF : Fun P f 33 (delC t sz by_ z) [.t 6]) {M : List Blk} {b v i j : Nat} {l : List (List AV)} {fb : Bool} (hb : M[b]? = some (.rows t sz v l fb)) (hij : i < j) (hj : j ≤ l.length) (hn : l.length < 140737488355328) (hMB : ∀ x ∈ M, ltB M.length x) :
  CallR P M f [.one (.arr sz b v 0 l.length), .i i, .i j] (.p (.one (.arr sz b v 0 (i + (l.length - j))))) (M.set b (.rows t sz v (l.take i ++ l.drop j) false)) := by
 have hbl : b < M.length := getElem?_lt hb
 refine callR_intro hF (by simp) (V_sound ?_)
 have h1 : ((i : Int) = (j : Int)) = False := by simp only [eq_iff_iff, iff_false]; omega
 have h2 : (i = l.length) = False := by simp only [eq_iff_iff, iff_false]; omega
 have hfin : ∀ (X : List (List AV)) (f' : Bool), X.take (i + (l.length - j)) = l.take i ++ l.drop j → ∀ e : Nat → SV, resL e [] [.t 6] = some ([.one (.arr sz b v 0 (i + (l.length - j)))], True) →
   FinK 33 M.length [RV.t 6] (.p (.one (.arr sz b v 0 (i + (l.length - j))))) (M.set b (.rows t sz v (l.take i ++ l.drop j) false)) .ret ⟨e, M.set b (.rows t sz v X f')⟩ := by
  intro X f' hX e he
  refine fin_own (.inr rfl) (gh_trunc (b := b) (i + (l.length - j)) (gb hbl)) [] (cnd := True) he trivial ?_ (leS_of rfl) ?_ ?_ ?_
  ·simp only [List.append_nil, List.set_set, hX]
  ·rw [List.length_set]; exact Nat.le_refl _
  ·simp only [go_sem, List.length_set]; exact hbl
  ·refine ltM_set hMB (ltB_take (hMB _ (List.mem_of_getElem? hb)) (fun r hr => ?_))
   rcases List.mem_append.1 hr with hr | hr
   ·exact List.mem_of_mem_take hr
   ·exact List.mem_of_mem_drop hr
 have hti : (l.take i).length = i := by rw [List.length_take]; omega
 by_cases hjl : j = l.length
 ·subst hjl
  have h5 : (l.length = l.length ∧ ¬ (l.length : Int) = 0) = True := eq_true ⟨rfl, by omega⟩
  have h6 : ((i : Int) = (l.length : Int) ∧ ¬ (i : Int) = 0) = False := by simp only [eq_iff_iff, iff_false]; omega
  have hlen : (List.take i l ++ List.drop i l).length = l.length := by rw [List.take_append_drop]
  have h7 : ((l.length : Int) = 0) = False := by simp only [eq_iff_iff, iff_false]; omega
  simp only [delC, go_sem, hb, h1, h2, gb hbl, h5, h7, List.range_zero, if_true, if_false, h6, hlen, List.set_set, not_false_eq_true, and_self, true_and]
  have hx := hfin (List.take i (List.take i l ++ List.drop i l) ++ List.replicate (l.length - i) (List.map (fun v => AV.c (CV.v v)) z) ++ List.drop (i + (l.length - i)) (List.take i l ++ List.drop i l)) fb (by
   rw [Nat.sub_self, Nat.add_zero, List.drop_length, List.append_nil, List.take_append_drop, List.append_assoc, List.take_left' hti])
  simp only [Nat.sub_self, Nat.add_zero, List.drop_length, List.append_nil] at hx
  exact ⟨by omega, by omega, by omega, by omega, by omega, by omega, hx _ (by simp only [go_sem])⟩
 ·have h5 : (j = l.length ∧ ¬ (j : Int) = 0) = False := by simp only [eq_iff_iff, iff_false]; omega
  have h6 : (((i + (l.length - j) : Nat) : Int) = (l.length : Int) ∧ ¬ ((i + (l.length - j) : Nat) : Int) = 0) = False := by simp only [eq_iff_iff, iff_false]; omega
  have h6' : (i + (l.length - j) = l.length) = False := by simp only [eq_iff_iff, iff_false]; omega
  simp only [delC, go_sem, hb, h1, h2, gb hbl, h5, if_true, if_false, h6, h6', List.set_set, false_and]
  have e1 : List.take (l.length - j) (List.drop j l) = List.drop j l := List.take_of_length_le (by rw [List.length_drop]; exact Nat.le_refl _)
  have hl2 : (List.take i l ++ List.drop j l).length = i + (l.length - j) := by rw [List.length_append, hti, List.length_drop]
  rw [e1]
  have hl3 : (List.take i l ++ List.drop j l ++ List.drop (i + (l.length - j)) l).length = l.length := by
   rw [List.length_append, hl2, List.length_drop]; omega
  refine ⟨by omega, by omega, by omega, by omega, by omega, by omega, hfin _ _ ?_ _ ?_⟩
  ·rw [List.append_assoc, List.take_left']
   ·rw [List.take_left' hl2]
   ·rw [List.take_left' hl2]; exact hl2
  ·simp only [go_sem]
variable {α : Type} [Inhabited α] {c : α → Nat → CV}
theorem filter_idx {β : Type} {p : β → Bool} {l : List β} (h : ¬ l.findIdx p < l.length) : l.filter (fun x => !p x) = l := by
 rw [List.filter_eq_self]
 intro x hx
 have : l.findIdx p = l.length := by have : l.findIdx p ≤ l.length := List.findIdx_le_length; omega
 rw [List.findIdx_eq_length] at this
 rw [this x hx]; rfl
theorem filter_at {p : α → Bool} {l : List α} (h : l.findIdx p < l.length) : (l.take (l.findIdx p + 1)).filter (fun x => !p x) = l.take (l.findIdx p) := by
 rw [take_succ_getD default h, List.filter_append]
 have h1 : p (l.getD (l.findIdx p) default) = true := by
  rw [getD_get h]
  exact List.findIdx_getElem (w := h)
 have h2 : (l.take (l.findIdx p)).filter (fun x => !p x) = l.take (l.findIdx p) := by
  rw [List.filter_eq_self]
  intro x hx
  obtain ⟨i, hi, rfl⟩ := List.mem_iff_getElem.1 hx
  rw [List.length_take] at hi
  rw [List.getElem_take]
  have := List.not_of_lt_findIdx (p := p) (xs := l) (i := i) (by omega)
  simpa using this
 rw [h2, List.filter_cons]
 simp only [h1, Bool.not_true, Bool.false_eq_true, if_false, List.filter_nil, List.append_nil]
set_option maxRecDepth 20000 in
theorem delf_rc {p : α → Bool} (hF : Fun P f 42 (delfC t sz z fi) [.t 4]) (hI : Fun P fi 19 (idxC sz) [.t 4]) (hz : z.length = sz) (hsz : 0 < sz) {M : List Blk} {b v : Nat} {fb : Bool} {l : List α} (hb : M[b]? = some (.rows t sz v (rowsL sz c l) fb)) (hl : l.length < 140737488355328) (hMB : ∀ x ∈ M, ltB M.length x)
  (fn k : Nat) (caps : Nat → AV) (hcaps : ∀ i, i < k → ltA 0 (caps i)) (h : ∀ i, i < l.length → ∀ M, CallR P M fn ([.agg (cellsUp (c (l.getD i default)) 0 sz)] ++ capsL caps 0 k) (.b (p (l.getD i default))) M) :
  CallR P M f [.one (.arr sz b v 0 l.length), .one (.fn fn k caps)] (.p (.one (.arr sz b v 0 (l.filter fun x => !p x).length))) (M.set b (.rows t sz v (rowsL sz c (l.filter fun x => !p x)) false)) := by
 have hbl : b < M.length := getElem?_lt hb
 have hcM : ∀ n i, i < k → ltA n (caps i) := fun n i hi => ltA_up1 (Nat.zero_le _) (hcaps i hi)
 have hfb : ∀ X : List α, ∀ x ∈ M.set b (.rows t sz v (rowsL sz c X) false), ltB (M.set b (.rows t sz v (rowsL sz c X) false)).length x := fun X => ltM_set hMB (rowsL_ltB _ _ _ _ _)
 refine callR_intro hF (by simp) ?_
 refine run_seqV ?_
 simp only [delfC, go_sem]
 refine run_seqV ?_
 simp only [go_sem]
 have hI2 : CallR P M fi [.one (.arr sz b v 0 l.length), .one (.fn fn k caps)] (.i (if l.findIdx p < l.length then (l.findIdx p : Int) else -1)) M :=
  callR_lend (idx_rc hI fn k caps hcaps l (by omega) h []) ⟨snapL l hb, Snap.same _ hcaps, trivial⟩ (by simp only [go_sem])
 refine call1 hI2 (by simp only [go_sem]) (fun h => Bool.noConfusion h) ?_
 simp only [go_sem]
 refine run_seqV ?_
 by_cases hat : l.findIdx p < l.length
 case neg =>
  rw [if_neg hat]
  have hd := filter_idx hat
  rw [hd]
  simp only [go_sem]
  refine fin_own (.inr rfl) (gh_trunc (b := b) l.length hb) [] (cnd := True) rfl trivial ?_ (leS_of rfl) ?_ ?_ ?_
  ·have : (rowsL sz c l).take l.length = rowsL sz c l := List.take_of_length_le (by rw [rowsL_len]; exact Nat.le_refl _)
   simp only [this, List.append_nil]
  ·rw [List.length_set]; exact Nat.le_refl _
  ·simp only [go_sem, List.length_set]; exact hbl
  ·exact hfb _
 rw [if_pos hat]
 simp only [go_sem]
 obtain ⟨q, hq⟩ : ∃ q, q = l.findIdx p := ⟨_, rfl⟩
 have hat1 := filter_at hat
 rw [← hq] at hat hat1 ⊢
 have e1 : IntKind.i64.wrap ((q : Int) + 1) = ((q + 1 : Nat) : Int) := w64s (by omega)
 have e0 : ((q : Int) = -1) = False := by simp only [eq_iff_iff, iff_false]; omega
 refine run_seqV ?_
 simp only [go_sem, e1]
 obtain ⟨F, hF0⟩ : ∃ F : List α → List α, F = fun x => x.filter (fun y => !p y) := ⟨_, rfl⟩
 have hFl : ∀ x : List α, (x.filter fun y => !p y) = F x := fun x => by rw [hF0]
 simp only [hFl] at hat1 hfb ⊢
 have hFa : ∀ (x : List α) (y : α), F (x ++ [y]) = F x ++ (if p y then [] else [y]) := fun x y => by
  rw [hF0]; simp only [List.filter_append, List.filter_cons, List.filter_nil]
  cases p y <;> simp
 refine R_loop (ι := Nat × List α) (J := fun d => d.1 ≤ l.length ∧ (F (l.take d.1)).length < d.1 ∧ d.2.length = l.length ∧ d.2.take (F (l.take d.1)).length = F (l.take d.1) ∧ d.2.drop d.1 = l.drop d.1)
  (env := fun d => [(0, .p (.one (.arr sz b v 0 l.length))), (1, .p (.one (.fn fn k caps))), (5, .i (F (l.take d.1)).length), (6, .i d.1)])
  (mem := fun d => M.set b (.rows t sz v (rowsL sz c d.2) fb)) (μ := fun d => l.length - d.1) (q + 1, l) ⟨hat, ?_, rfl, ?_, rfl⟩ ⟨[], ?_, ?_, ?_, ?_⟩ ?_
 ·rw [hat1, List.length_take]; omega
 ·rw [hat1, List.length_take, Nat.min_eq_left (by omega)]
 ·rw [List.append_nil, set_self hb]
 ·rw [List.length_set]; exact Nat.le_refl _
 ·simp only [go_sem, hat1, List.length_take, List.length_set, Nat.min_eq_left (Nat.le_of_lt hat)]
  exact ⟨hbl, hcM _⟩
 ·exact ltM_set hMB (rowsL_ltB _ _ _ _ _)
 rintro ⟨j, cur⟩ ⟨hj, hij, hcl2, htk, hdr⟩
 simp only at hj hij hcl2 htk hdr
 refine run_seqV ?_
 simp only [go_sem, gb hbl, rowsL_len, hcl2]
 obtain ⟨i, hi⟩ : ∃ i, i = (F (l.take j)).length := ⟨_, rfl⟩
 rw [← hi] at hij htk ⊢
 have e2 : IntKind.i64.wrap ((i : Int) + 1) = ((i + 1 : Nat) : Int) := w64s (by omega)
 have e3 : IntKind.i64.wrap ((j : Int) + 1) = ((j + 1 : Nat) : Int) := w64s (by omega)
 have hf' : ∀ x : α, fillL (List.map (fun v => AV.c (CV.v v)) z) 0 (cellsUp (c x) 0 sz) = cellsUp (c x) 0 sz := fun x => fill_up _ _ _ (by simp [hz])
 have hfx : ∀ x y : α, fillL (cellsUp (c y) 0 sz) 0 (cellsUp (c x) 0 sz) = cellsUp (c x) 0 sz := fun x y => fill_up _ _ _ (cellsUp_length _ _ _)
 have htk0 : ∀ x : α, (cellsUp (c x) 0 sz).take sz = cellsUp (c x) 0 sz := fun x => List.take_of_length_le (by rw [cellsUp_length]; exact Nat.le_refl _)
 refine ⟨fun h1 => ?_, fun h1 => ?_⟩
 ·have hx : cur.getD j default = l.getD j default := by
   have a := drop_getD (d := (default : α)) (l := cur) (k := j) (by omega)
   have b := drop_getD (d := (default : α)) (l := l) (k := j) h1
   rw [a, b] at hdr
   exact (List.cons.inj hdr).1
  have hdr' : cur.drop (j + 1) = l.drop (j + 1) := by
   have := congrArg List.tail hdr
   simpa using this
  have hrow : (rowsL sz c cur).getD j [] = cellsUp (c (l.getD j default)) 0 sz := by rw [rowsL_getD (by omega), hx]
  have htj : l.take (j + 1) = l.take j ++ [l.getD j default] := take_succ_getD default h1
  have hcall := h j h1
  refine run_seq ?_
  refine run_block ?_
  refine run_seqV ?_
  simp only [go_sem, gb hbl, rowsL_len, hbl, hcl2, hrow, List.length_set, gl2, sl2, hf', htk0, cellsUp_length, List.length_map, hz]
  generalize l.getD j default = x at hx hrow htj hcall ⊢
  refine ⟨by omega, by omega, ?_⟩
  refine run_seqV ?_
  simp only [go_sem, gl2, htk0, cellsUp_length]
  refine call0 hcall ?_
  simp only [go_sem]
  cases hpx : p x with
  | true =>
   have hn : F (l.take (j + 1)) = F (l.take j) := by rw [htj, hFa, hpx]; simp
   refine V_sound ?_
   simp only [go_sem, Bool.not_true]
   refine V_sound ?_
   simp only [go_sem, e3]
   refine ⟨(j + 1, cur), ⟨h1, by show (F (l.take (j + 1))).length < j + 1; rw [hn, ← hi]; omega, hcl2, by simp only [hn]; rw [← hi]; exact htk, hdr'⟩, by simp only []; omega, [_], rfl, by rw [List.length_set]; exact Nat.le_refl _, ?_, ltM_set hMB (rowsL_ltB _ _ _ _ _)⟩
   simp only [go_sem, List.length_set, hn, ← hi]
   exact ⟨hbl, hcM _⟩
  | false =>
   have hn : F (l.take (j + 1)) = F (l.take j) ++ [x] := by rw [htj, hFa, hpx]; simp
   have hi' : (F (l.take (j + 1))).length = i + 1 := by rw [hn, List.length_append, ← hi]; rfl
   refine V_sound ?_
   have hrl : (rowsL sz c cur).getD i [] = cellsUp (c (cur.getD i default)) 0 sz := rowsL_getD (by omega)
   simp only [go_sem, Bool.not_false, gl2, ga, sa, gb, hbl, List.length_set, rowsL_len, hcl2, List.set_set, e2, htk0, hrl, hfx, cellsUp_length, rowsL_set]
   refine ⟨by omega, by omega, V_sound ?_⟩
   simp only [go_sem, e3]
   refine ⟨(j + 1, cur.set i x), ⟨h1, by show (F (l.take (j + 1))).length < j + 1; rw [hi']; omega, by simp only [List.length_set]; exact hcl2, ?_, ?_⟩, by simp only []; omega, [_], rfl, by rw [List.length_set]; exact Nat.le_refl _, ?_, ltM_set hMB (rowsL_ltB _ _ _ _ _)⟩
   ·show (cur.set i x).take (F (l.take (j + 1))).length = F (l.take (j + 1))
    rw [hi', hn, ← htk, take_succ_getD default (by rw [List.length_set]; omega), List.take_set_of_le (Nat.le_refl _), getD_set_self (by omega)]
   ·simp only []
    rw [List.drop_set_of_lt (by omega)]; exact hdr'
   ·simp only [go_sem, List.length_set, hi']
    exact ⟨hbl, hcM _⟩
 ·have hjn : j = l.length := by omega
  subst hjn
  rw [List.take_length] at hi htk
  refine V_sound ?_
  have hil : (i = l.length ∧ ¬ (i : Int) = 0) = False := by simp only [eq_iff_iff, iff_false]; omega
  simp only [go_sem, gb hbl, rowsL_len, hcl2, List.length_set, hbl, hil, if_false, List.set_set, ← hi]
  refine ⟨by omega, by omega, by omega, fin_own (.inr rfl) (gh_trunc (b := b) i (gb hbl)) [] (cnd := True) rfl trivial ?_ (leS_of rfl) ?_ ?_ (hfb _)⟩
  ·have hti : (List.take i (rowsL sz c cur)).length = i := by rw [List.length_take, rowsL_len]; omega
   simp only [List.set_set, List.append_nil]
   rw [List.append_assoc, List.take_left' hti, rowsL_take, htk]
  ·rw [List.length_set]; exact Nat.le_refl _
  ·simp only [go_sem, List.length_set]
   exact hbl
end
end Go.Proofs.YtpdcpdngckpgbaaGreatAbs
end
section
namespace Go.Proofs.YtpdcpdngckpgbaaGreatAbs
open Go Go.RowKit
section
variable {M l : List Blk} {k : Nat} {X : Blk}
theorem mget : (M ++ l)[M.length + k]? = l[k]? := by rw [List.getElem?_append_right (Nat.le_add_right _ _), Nat.add_sub_cancel_left]
theorem mget0 : (M ++ l)[M.length]? = l[0]? := by rw [List.getElem?_append_right (Nat.le_refl _), Nat.sub_self]
theorem mset : (M ++ l).set (M.length + k) X = M ++ l.set k X := by rw [List.set_append_right _ _ (Nat.le_add_right _ _), Nat.add_sub_cancel_left]
theorem mset0 : (M ++ l).set M.length X = M ++ l.set 0 X := by rw [List.set_append_right _ _ (Nat.le_refl _), Nat.sub_self]
end
theorem gh_kill {n m : Nat} {e : Nat → SV} {M : List Blk} (b : Nat) : Gh n m ⟨e, M⟩ ⟨e, M.set b .dead⟩ := by
 rintro I0 σ0 M0 w0 a w hm0 ⟨I, σ, hev, he, h1, h2⟩
 have hm := hev.mem
 by_cases hb : b < M.length
 ·have hx : M[b]? = some M[b] := List.getElem?_eq_getElem hb
  have hp : σ[b]? = some (σ[b]'(by rw [hm.len]; exact hb)) := List.getElem?_eq_getElem (by rw [hm.len]; exact hb)
  obtain ⟨m1, m2⟩ := hm.retell hx hp (x' := .dead) (fun h => by cases h) trivial
  exact ⟨I, σ, hev.retell m1 m2, he, h1, h2⟩
 ·rw [List.set_eq_of_length_le (by omega)]
  exact ⟨I, σ, hev, he, h1, h2⟩
theorem fin_m {n : Nat} {rvs : List RV} {r : SV} {M' : List Blk} {s s1 : St} {ex : Exit} {m : Nat} (hex : ex = .normal ∨ ex = .ret) (h : Gh n m s s1) (D : List Blk) {qs : List Pt} {cnd : Prop} (h1 : resL s1.env s1.M rvs = some (qs, cnd)) (h2 : cnd) (h3 : s1.M = M' ++ D) (h4 : SubS (mkRes qs) r) (h5 : m ≤ M'.length) (h6 : ltS M'.length r) (h7 : ∀ x ∈ M', ltB M'.length x) : FinK n m rvs r M' ex s := fin_sub hex h D h1 h2 h3 h4 h5 h6 h7
theorem callR_place {P : Program} {f : Nat} {ps : List Pt} {sz v len t : Nat} {l : List (List AV)} {fl : Bool} (h : CallR P [] f ps (.p (.one (.arr sz 0 v 0 len))) [.rows t sz v l fl]) (hcl : closedRows l) (hps : ∀ q ∈ ps, ltP 0 q) (hlen : len ≤ l.length) (n : Nat) (N : List Blk) (hN : N[n]? = some (.rows 0 0 0 [] true)) :
  CallR P N f ps (.p (.one (.arr sz n 1 0 len))) (N.set n (.rows t sz 1 l fl)) := by
 intro I σ w vals hG hm hvl hvr
 have hm0 : Mem I [] [] w := ⟨rfl, fun b x p h => by simp at h, fun b b' x x' p p' g h => by simp at h, fun b x p g h => by simp at h, hm.imm⟩
 have hno : ∀ g, ¬ Has ([] : List Plc) [] g := by rintro g ⟨b, x, p, h, _⟩; simp at h
 refine Comes.mono (h I [] w vals hG hm0 hvl (fun k q x hq hx => ?_)) ?_
 ·have := RelP_take (n := 0) (hps q (List.mem_of_getElem? hq)) (hvr k q x hq hx)
  simpa using this
 ·rintro y w' ⟨I', σ', hr, hev⟩
  obtain ⟨p1, rfl⟩ : ∃ p1, σ' = [p1] := by
   have := hev.mem.len
   match σ', this with
   | [p], _ => exact ⟨p, rfl⟩
  have hnl : n < N.length := (List.getElem?_eq_some_iff.1 hN).1
  have hnσ : n < σ.length := by rw [hm.len]; exact hnl
  obtain ⟨k0, k1, k2, k3, k4, k5, k6⟩ := hm.blk n _ _ hN (List.getElem?_eq_getElem hnσ)
  generalize hp0 : σ[n] = p0 at k0 k1 k2 k3 k4 k5 k6
  obtain ⟨q0, q1, q2, q3, q4, q5, q6⟩ := hev.mem.blk 0 _ _ rfl rfl
  obtain ⟨y1, pr, hpr, hpv, hq⟩ := hr
  obtain rfl : p1 = pr := by simpa using hpr
  obtain ⟨e1, e2, e3⟩ := hq q2
  have hk : Keep (fun _ => False) w w' := hev.keep.mono (fun k _ h => hno k h)
  have hm1 := hm.keep hk (fun _ _ h => h) (fun _ _ _ h => h)
  have hfr : ∀ ad x, I' ad = some x → I ad = some x ∨ w.heap.size ≤ ad.block := by
   intro ad x hx
   rcases hev.fresh ad x hx with h | h | h
   ·exact .inl h
   ·exact .inr h
   ·exact absurd h (hno _)
  have hg1 : ∀ g, p1.blk = some g → w.heap.size ≤ g := fun g hg => by
   rcases hev.own g ⟨0, _, p1, rfl, rfl, rfl, hg⟩ with h | h
   ·exact absurd h (hno g)
   ·exact h
  obtain ⟨p2, hp2⟩ : ∃ p2 : Plc, p2 = ⟨p1.blk, p1.cap, 1, p1.sz⟩ := ⟨_, rfl⟩
  have hsn : (σ.set n p2)[n]? = some p2 := by rw [List.getElem?_set, if_pos rfl, if_pos hnσ]
  have hso : ∀ b, b ≠ n → (σ.set n p2)[b]? = σ[b]? := fun b hb => by rw [List.getElem?_set, if_neg (fun e => hb e.symm)]
  have hMn : (N.set n (.rows t sz 1 l fl))[n]? = some (.rows t sz 1 l fl) := by rw [List.getElem?_set, if_pos rfl, if_pos hnl]
  have hMo : ∀ b, b ≠ n → (N.set n (.rows t sz 1 l fl))[b]? = N[b]? := fun b hb => by rw [List.getElem?_set, if_neg (fun e => hb e.symm)]
  have hxP : ExtP σ (σ.set n p2) := by
   intro b p hp
   by_cases hb : b = n
   ·subst hb
    refine ⟨p2, hsn, ?_, fun e => ?_⟩
    ·rw [List.getElem?_eq_getElem hnσ, hp0] at hp
     injection hp with hp; subst hp; rw [k2]; exact Nat.zero_le _
    ·rw [List.getElem?_eq_getElem hnσ, hp0] at hp
     injection hp with hp; subst hp; rw [k2, hp2] at e; cases e
   ·exact ⟨p, by rw [hso b hb]; exact hp, Nat.le_refl _, fun _ => rfl⟩
  refine ⟨I', σ.set n p2, ⟨y1, p2, hsn, by rw [hp2]; exact Nat.le_refl _, fun _ => ⟨by rw [hp2]; exact e1, by rw [hp2]; exact e2, by rw [hp2]; exact e3⟩⟩, ⟨hev.extI, hxP, ⟨by rw [List.length_set, List.length_set]; exact hm.len, ?_, ?_, ?_, hev.mem.imm⟩, hk.mono (fun k _ h => h.elim), ?_, fun ad x hx => ?_⟩⟩
  ·intro b x p hx hp
   by_cases hb : b = n
   ·subst hb
    rw [hMn] at hx; rw [hsn] at hp
    injection hx with hx; injection hp with hp
    subst hx; subst hp
    rw [hp2]
    refine ⟨q0, q1, rfl, q3, q4, q5, ?_⟩
    cases hb : p1.blk with
    | none => rw [hb] at q6; exact q6
    | some g =>
     rw [hb] at q6
     obtain ⟨cs, c1, c2, c3, c4⟩ := q6
     refine ⟨cs, c1, c2, c3, fun i r hr j a ha => ?_⟩
     obtain ⟨z, z1, z2⟩ := c4 i r hr j a ha
     obtain ⟨cv, rfl⟩ := hcl r (List.mem_of_getElem? hr) a (List.mem_of_getElem? ha)
     exact ⟨z, z1, z2⟩
   ·rw [hMo b hb] at hx; rw [hso b hb] at hp
    exact RelB_mono hev.extI hxP (fun _ _ _ => rfl) (hm1.blk b x p hx hp)
  ·intro b b' x x' p p' g hx hx' hl hl' hp hp' hg hg'
   by_cases hb : b = n
   ·by_cases hb' : b' = n
    ·rw [hb, hb']
    ·exfalso
     subst hb
     rw [hsn] at hp; injection hp with hp; subst hp
     rw [hMo b' hb'] at hx'; rw [hso b' hb'] at hp'
     have h1 := RelB_lt (hm.blk b' x' p' hx' hp') hl' hg'
     have h2 := hg1 g (by rw [hp2] at hg; exact hg)
     omega
   ·by_cases hb' : b' = n
    ·exfalso
     subst hb'
     rw [hsn] at hp'; injection hp' with hp'; subst hp'
     rw [hMo b hb] at hx; rw [hso b hb] at hp
     have h1 := RelB_lt (hm.blk b x p hx hp) hl hg
     have h2 := hg1 g (by rw [hp2] at hg'; exact hg')
     omega
    ·rw [hMo b hb] at hx; rw [hso b hb] at hp; rw [hMo b' hb'] at hx'; rw [hso b' hb'] at hp'
     exact hm.inj b b' x x' p p' g hx hx' hl hl' hp hp' hg hg'
  ·intro b x p g hx hlv hp hg ad had
   by_cases hb : b = n
   ·subst hb
    rw [hsn] at hp; injection hp with hp; subst hp
    exact hev.mem.ap 0 _ p1 g rfl rfl rfl (by rw [hp2] at hg; exact hg) ad had
   ·rw [hMo b hb] at hx; rw [hso b hb] at hp
    cases hI : I' ad with
    | none => rfl
    | some y =>
     exfalso
     rcases hfr ad y hI with h1 | h1
     ·rw [hm.ap b x p g hx hlv hp hg ad had] at h1
      cases h1
     ·have := RelB_lt (hm.blk b x p hx hp) hlv hg
      omega
  ·rintro g ⟨b, x, p, hx, hlv, hp, hg⟩
   by_cases hb : b = n
   ·subst hb
    rw [hsn] at hp; injection hp with hp; subst hp
    exact .inr (hg1 g (by rw [hp2] at hg; exact hg))
   ·rw [hMo b hb] at hx; rw [hso b hb] at hp
    exact .inl ⟨b, x, p, hx, hlv, hp, hg⟩
  ·rcases hfr ad x hx with h1 | h1
   ·exact .inl h1
   ·exact .inr (.inl h1)
theorem RelA_lt {I : Im} {σ : List Plc} : ∀ {a : AV} {y : Value}, RelA I σ a y → ltA σ.length a := by
 intro a
 induction a with
 | c x => intro y _; trivial
 | ptr b ver i j => rintro y ⟨_, p, hp, _⟩; exact (List.getElem?_eq_some_iff.1 hp).1
 | arr sz b ver off len => rintro y ⟨_, p, hp, _⟩; exact (List.getElem?_eq_some_iff.1 hp).1
 | ip n c => intro y _; trivial
 | arx sz b ver o l => rintro y ⟨_, p, hp, _⟩; exact (List.getElem?_eq_some_iff.1 hp).1
 | mp b ver => rintro y ⟨_, p, hp, _⟩; exact (List.getElem?_eq_some_iff.1 hp).1
 | fn f k caps ih => rintro y ⟨cs, e, hs, h⟩; exact fun i hi => ih i (h i cs[i] (Array.getElem?_eq_getElem (by omega)))
theorem Mem.wf {I : Im} {σ : List Plc} {M : List Blk} {w : World} (hm : Mem I σ M w) : ∀ x ∈ M, ltB M.length x := by
 intro x hx
 obtain ⟨b, hb, rfl⟩ := List.mem_iff_getElem.1 hx
 have hbσ : b < σ.length := by rw [hm.len]; exact hb
 have h := hm.blk b _ _ (List.getElem?_eq_getElem hb) (List.getElem?_eq_getElem hbσ)
 cases hX : M[b] with
 | dead => trivial
 | sit s pos => trivial
 | mp l => trivial
 | rows t sz ver l f =>
  rw [hX] at h
  obtain ⟨_, _, _, h4, _, h6, h7⟩ := h
  intro r hr a ha
  obtain ⟨i, hi, rfl⟩ := List.mem_iff_getElem.1 hr
  obtain ⟨j, hj, rfl⟩ := List.mem_iff_getElem.1 ha
  generalize σ[b] = p at h4 h7
  cases hp : p.blk with
  | none => rw [hp] at h7; omega
  | some g =>
   rw [hp] at h7
   obtain ⟨cs, _, _, _, h8⟩ := h7
   obtain ⟨z, _, hz⟩ := h8 i _ (List.getElem?_eq_getElem hi) j _ (List.getElem?_eq_getElem hj)
   rw [← hm.len]
   exact RelA_lt hz
theorem callR_wf {P : Program} {M M' : List Blk} {f : Nat} {ps : List Pt} {r : SV} (h : (∀ x ∈ M, ltB M.length x) → CallR P M f ps r M') : CallR P M f ps r M' := fun I σ w vals hG hm => h hm.wf I σ w vals hG hm
def ncTab (ols : List OpL) : List (List Nat) := (List.range ols.length).map fun i => (List.range i).filter fun k => match ols[k]?, ols[i]? with | some y, some x => !commOk y x | _, _ => true
theorem okDraw_tab {ops : Array Oper} {ols : List OpL} {T : List (List Nat)} (h : okDraw ops ols T = true) : okTab ops T = true := by
 unfold okDraw at h
 unfold okTab
 rw [List.all_eq_true] at h ⊢
 intro i hi
 have := h i hi
 cases ho : ops[i]? with
 | none => rw [ho] at this; cases this
 | some o =>
  cases hx : ols[i]? with
  | none => rw [ho, hx] at this; cases this
  | some x =>
   rw [ho, hx] at this
   simp only [okAt, Bool.and_eq_true] at this
   simp only [Bool.and_eq_true]
   exact this.1
section
variable {P : Program} {n m : Nat} {e : Nat → SV} {M : List Blk} {K : Exit → St → Prop}
theorem run_regX0 {ols : List OpL} {xs : List XOp} {s : St} (he : xs.map (·.op) = ols) (hp : pairsX (ncTab ols) xs = true) (h : runX P xs s (K .normal)) : Run P n m (.reg true ols) s K := by
 intro code hc I σ M w0 a w hm hs
 obtain ⟨id, ops, rfl, hls, hd⟩ := compC_reg hc
 obtain ⟨hmx, hok⟩ := hd rfl
 refine wp_region_any hmx ?_
 have hlen : xs.length = ops.size := by have := compLs_length hls; rw [← he] at this; simpa using this
 refine any_soundX (xs := xs) (rem := xs.zipIdx.map fun p => (p.2, p.1)) (T := tabT ops.toList) hm.2 (okDraw_tab hok) (fun i k x y hx hy hki => ?_) (K := K .normal) (fun s a w h1 h2 => ⟨s, h1, h2⟩) ops.size _ s a _ (by simp [hlen]) ?_ ?_ ?_ (by simp) ?_ ?_ hs.drew
 ·have hil : i < ops.size := by rw [← hlen]; exact (List.getElem?_eq_some_iff.1 hx).1
  have h1 := List.all_eq_true.1 hok i (List.mem_range.2 hil)
  have hox : ols[i]? = some x.op := by rw [← he, List.getElem?_map, hx]; rfl
  have hoy : ols[k]? = some y.op := by rw [← he, List.getElem?_map, hy]; rfl
  rw [Array.getElem?_eq_getElem hil, hox] at h1
  simp only [okAt, Bool.and_eq_true] at h1
  have h2 := List.all_eq_true.1 h1.2 k (List.mem_range.2 hki)
  rw [hoy] at h2
  simp only [Bool.or_eq_true] at h2
  rcases h2 with h2 | h2
  ·exact .inl h2
  ·rcases pairsX_spec hp hx hy hki with h3 | h3
   ·exfalso
    have hol : i < ols.length := (List.getElem?_eq_some_iff.1 hox).1
    rw [ncTab, List.getD_eq_getElem?_getD, List.getElem?_map, List.getElem?_range hol] at h3
    simp [hox, hoy, h2] at h3
   ·exact .inr h3
 ·subst he
  intro p hp
  obtain ⟨q, hq, rfl⟩ := List.mem_map.1 hp
  have hq' : xs[q.2]? = some q.1 := List.mem_zipIdx_iff_getElem?.1 (show (q.1, q.2) ∈ xs.zipIdx from hq)
  obtain ⟨o, ho, hco⟩ := compLs_get hls q.2 q.1.op (by rw [List.getElem?_map, hq']; rfl)
  exact ⟨hq', o, by simpa using ho, hco⟩
 ·rw [List.pairwise_map]
  refine List.pairwise_iff_getElem.2 (fun i j hi hj hij => ?_)
  simp only [List.getElem_zipIdx]
  omega
 ·intro i hi
  have h0 : (Array.replicate ops.size false).getD i true = false := by simp [hi]
  refine ⟨fun _ => ?_, fun _ => h0⟩
  have hi' : i < xs.length := by omega
  refine ⟨xs[i], List.mem_map.2 ⟨(xs[i], i), ?_, rfl⟩⟩
  exact List.mem_zipIdx_iff_getElem?.2 (List.getElem?_eq_getElem hi')
 ·intro j o hj hl
  simp at hl
  by_cases h : j < ops.size
  ·simp [h] at hl
  ·simp [h] at hl
 ·have e0 : (xs.zipIdx.map fun p => (p.2, p.1)).map (·.2) = xs := by
   apply List.ext_getElem?
   intro i
   simp [List.getElem?_zipIdx]
   cases xs[i]? <;> rfl
  rw [e0]
  exact h
theorem run_regX {ols : List OpL} {c : C} (k : Nat) (h : evX P (ncTab ols) ols M.length [] e (M ++ List.replicate k (.rows 0 0 0 [] true)) (fun s => Run P n m c s K)) : Run P n m (.seq (.reg true ols) c) ⟨e, M⟩ K := by
 refine run_gh (gh_res k) (run_seq ?_)
 obtain ⟨xs, h1, h2⟩ := evX_sound h
 obtain ⟨h3, h4⟩ := runX_pure h2
 exact run_regX0 h1 (by simpa using h3) h4
theorem callxn {T : List (List Nat)} {f : Nat} {ps : List Pt} {x : XOp} {os : List OpL} {acc : List XOp} {K : St → Prop} {r : SV} {X : Blk} (hM : M[x.n]? = some (.rows 0 0 0 [] true)) (h : ∀ N : List Blk, N[x.n]? = some (.rows 0 0 0 [] true) → CallR P N f ps r (N.set x.n X))
  (hK : evX P T os (x.n + 1) (acc ++ [⟨x.op, [x.n], true, x.n⟩]) (put e x.op.dst r) (M.set x.n X) K) : CallX P T M f ps x os acc e K := .inr ⟨r, [x.n], [(x.n, X)], fun q hq => by obtain rfl := List.mem_singleton.1 hq; exact List.mem_singleton.2 rfl, fun N hN => h N ((hN x.n (List.mem_singleton.2 rfl)).trans hM), evX_sound hK⟩
theorem callxf {T : List (List Nat)} {f : Nat} {ps : List Pt} {x : XOp} {os : List OpL} {acc : List XOp} {K : St → Prop} {r : SV} (n' : Nat) (F : List Nat) (fs : List (Nat × Blk)) (hF : ∀ q ∈ fs, q.1 ∈ F) (h : ∀ N : List Blk, (∀ b ∈ F, N[b]? = M[b]?) → CallR P N f ps r (apL fs N))
  (hK : evX P T os n' (acc ++ [⟨x.op, F, !fs.isEmpty, x.n⟩]) (put e x.op.dst r) (apL fs M) K) : CallX P T M f ps x os acc e K := .inr ⟨r, F, fs, hF, h, evX_sound hK⟩
end
def unshift (q : Nat) (x : XOp) : XOp := ⟨x.op, x.F.map (· - q), x.w, x.n - q⟩
theorem pairs_un (q : Nat) {T : List (List Nat)} {xs : List XOp} (h : pairsX T (xs.map (unshift q)) = true) (hq : ∀ x ∈ xs, ∀ b ∈ x.F, q ≤ b) : pairsX T xs = true := by
 unfold pairsX at h ⊢
 rw [List.all_eq_true] at h ⊢
 intro i hi
 have hi' := h i (by simpa using hi)
 rw [List.all_eq_true] at hi' ⊢
 intro k hk
 have h1 := hi' k hk
 simp only [Bool.or_eq_true] at h1 ⊢
 rcases h1 with h1 | h1
 ·exact .inl h1
 ·right
  simp only [List.getElem?_map] at h1
  cases hx : xs[i]? with
  | none => rw [hx] at h1; cases hy : xs[k]? <;> rw [hy] at h1 <;> cases h1
  | some x =>
   cases hy : xs[k]? with
   | none => rw [hx, hy] at h1; cases h1
   | some y =>
    rw [hx, hy] at h1
    simp only [Option.map_some] at h1
    have hxq := hq x (List.mem_of_getElem? hx)
    have hyq := hq y (List.mem_of_getElem? hy)
    unfold commX at h1 ⊢
    simp only [Bool.and_eq_true, Bool.or_eq_true] at h1 ⊢
    refine ⟨h1.1, h1.2.imp id (fun h2 => ?_)⟩
    rw [List.all_eq_true] at h2 ⊢
    intro b hb
    have h3 := h2 (b - q) (List.mem_map.2 ⟨b, hb, rfl⟩)
    simp only [unshift, Bool.not_eq_true'] at h3
    simp only [Bool.not_eq_true']
    cases hc : x.F.contains b with
    | false => rfl
    | true =>
     exfalso
     have : (x.F.map (· - q)).contains (b - q) = true := by
      rw [List.contains_iff_mem]
      exact List.mem_map.2 ⟨b, List.contains_iff_mem.1 hc, rfl⟩
     rw [this] at h3
     cases h3
end Go.Proofs.YtpdcpdngckpgbaaGreatAbs
end
