/- strings.Builder: its copy check, from the kit's way of walking it. -/
import Derived.Test.YtioefecijidgkaaAbsBld
import Derived.Test.YtioefecijidgkaaShelf
import Derived.Test.YtioefecijidgkaaLbA
import Derived.Test.YtioefecijidgkaaCdLabel
set_option linter.unusedVariables false
set_option linter.unusedSimpArgs false
namespace Go.Proofs.Ytioefecijidgkaa.A
open Go Go.Proofs Go.Proofs.YtioefecijidgkaaAbs Go.RowKit Go.Shelf
set_option maxHeartbeats 1000000 in
set_option maxRecDepth 100000 in
theorem bld_used (b : Nat) (w : World) (h0 : w.cell? ⟨b, 0, none⟩ = some (.pointer (some ⟨b, 0, none⟩))) :
    Calls Try.prog 80 #[.pointer (some ⟨b, 0, none⟩)] w fun e w' => e = .returned (.tuple #[]) ∧ w' = w := by
  obtain ⟨j, hj, _⟩ := Option.map_eq_some_iff.1 (show (Try.prog.info? 87).map (·.size) = some 2 by kernel_rfl)
  have mixed : Try.prog.follows .mixedOrders = true := by kernel_rfl
  go_enter Try.func80, Try.ntmps80
  go_wp2
  rw [Lib.run_neq_ptr_same w _ Try.underlying84 hj]
  go_wp2
  go_end0
  exact ⟨rfl, rfl⟩
set_option maxHeartbeats 1000000 in
set_option maxRecDepth 100000 in
theorem bld_fresh (b : Nat) (w : World) (h0 : w.cell? ⟨b, 0, none⟩ = some (.pointer none)) (hsh : w.shape? b = some (87, 2)) (hfz : w.frozen? ⟨b, 0, none⟩ = false) :
    Calls Try.prog 80 #[.pointer (some ⟨b, 0, none⟩)] w fun e w' => e = .returned (.tuple #[]) ∧ w' = w.setCell ⟨b, 0, none⟩ (.pointer (some ⟨b, 0, none⟩)) := by
  obtain ⟨j, hj, hjs⟩ := Option.map_eq_some_iff.1 (show (Try.prog.info? 87).map (·.size) = some 2 by kernel_rfl)
  have mixed : Try.prog.follows .mixedOrders = true := by kernel_rfl
  go_enter Try.func80, Try.ntmps80
  go_wp2
  rw [Lib.run_to_unsafe w ⟨b, 0, none⟩ Try.underlying84 Try.underlying146 hj (by rw [hjs]; decide) hsh (Nat.zero_lt_succ 1)]
  simp only [Result.andThen]
  rw [Oper.upon_value]
  go_wp2
  rw [run_callFunc_extern Try.func99 (by kernel_rfl) (by kernel_rfl) (by kernel_rfl) (e := Extern.AbiNoEscape.same) (by kernel_rfl)]
  rw [Lib.run_noEscape]
  simp only [Result.andThen]
  rw [Oper.upon_value]
  go_wp2
  rw [Lib.run_from_unsafe w ⟨b, 0, none⟩ Try.underlying146 Try.underlying84 hj hsh (by kernel_rfl)]
  simp only [Result.andThen]
  rw [Oper.upon_value]
  go_wp2
  go_end0
  exact ⟨rfl, rfl⟩
theorem copy_rc {M : List Blk} {b ver : Nat} {x y : AV} (hb : M[b]? = some (.rows 87 2 ver [[x, y]] true)) (hx : x = .c (.v (.pointer none)) ∨ x = .ptr b ver 0 0) :
    CallR Try.prog M 80 [.one (.ptr b ver 0 0)] (.tup []) (M.set b (.rows 87 2 ver [[.ptr b ver 0 0, y]] true)) := by
  intro I σ w vals hG hm hvl hvr
  obtain ⟨v, rfl⟩ : ∃ v, vals = #[v] := ⟨vals[0]'(by simp at hvl; omega), by apply Array.ext <;> simp_all⟩
  have hv : RelA I σ (.ptr b ver 0 0) v := hvr 0 _ v rfl rfl
  obtain ⟨p, g, cs, hp, hg, hps, rfl, hh, hs, hlc, hrl, hcs⟩ := mem_ptr hm hb hv (by simp)
  have hcap : p.cap = 1 := (hm.blk b _ p hb hp).1 rfl
  obtain ⟨x0, hx0, hxr⟩ := hcs 0 _ rfl 0 _ rfl
  have hcell : w.cell? ⟨g, 0, none⟩ = some x0 := by rw [Lib.cell_of_heap hh]; simpa using hx0
  have hE : Go.Proofs.YtioefecijidgkaaAbs.Enters Try.prog 80 := enters_fun Try.func80 (by kernel_rfl) rfl
  simp only [Nat.zero_mul, Nat.zero_add] at hv ⊢
  have hr : RelS I σ (.tup []) (.tuple #[]) := ⟨_, rfl, rfl, fun k q x hq hx => by cases hq⟩
  rcases hx with rfl | rfl
  · obtain ⟨rfl, _⟩ := hxr
    refine .inl ⟨hE, (bld_fresh g w hcell ?_ ?_).mono ?_⟩
    · unfold World.shape?
      rw [hh]
      simp only [hs, hcap]
    · unfold World.frozen?
      simp only [hh]
      rfl
    · rintro e w' ⟨rfl, rfl⟩
      exact ⟨_, rfl, I, σ, hr, by simpa [fillL] using evo_set1 hm hb (i := 0) (j := 0) rfl (by omega) hp hg hv⟩
  · obtain ⟨h1, q, hq, h2, hq2⟩ := hxr
    obtain rfl : p = q := by rw [hp] at hq; injection hq
    obtain ⟨p', hp', m1, m2, m3⟩ := mem_rows hm hb
    obtain rfl : p = p' := by rw [hp] at hp'; injection hp'
    obtain ⟨g', hg', rfl⟩ := hq2 m2
    obtain rfl : g = g' := by rw [hg] at hg'; injection hg'
    simp only [Nat.zero_mul, Nat.zero_add] at hcell
    refine .inl ⟨hE, (bld_used g w hcell).mono ?_⟩
    rintro e w' ⟨rfl, rfl⟩
    refine ⟨_, rfl, I, σ, hr, ?_⟩
    rw [set_self hb]
    exact Evo.refl hm
set_option maxHeartbeats 1000000 in
set_option maxRecDepth 100000 in
theorem bld_string (b g cap : Nat) (l : List UInt8) (p : Value) (cur : Array Value) (w : World) (h0 : l ≠ []) (hbk : w.heap[b]? = some (.cells #[p, .slice (some ⟨g, 0, none⟩) l.length cap] 87 (0, 0)))
    (hg : w.heap[g]? = some (.cells cur 5 (0, 0))) (hc : l.length ≤ cap) (hcm : cap ≤ maxLen) (hs : cur.size = cap) (hcell : ∀ (j : Nat) (x : UInt8), l[j]? = some x → w.cell? ⟨g, j, none⟩ = some (.int .u8 x.toNat)) :
    Calls Try.prog 44 #[.pointer (some ⟨b, 0, none⟩)] w fun e w' => e = .returned (.string ⟨l.toArray⟩) ∧ w' = w.drew.freeze ⟨g, 0, none⟩ l.length := by
  have hl0 : l.length ≠ 0 := by simpa using h0
  have c1 : w.drew.cell? ⟨b, 1, none⟩ = some (.slice (some ⟨g, 0, none⟩) l.length cap) := by
    have : w.drew.heap[b]? = some (.cells #[p, .slice (some ⟨g, 0, none⟩) l.length cap] 87 (0, 0)) := hbk
    rw [Lib.cell_of_heap this]; rfl
  have hSD : (Builtin.unsafeSliceData_ #[85] 128 #[.slice (some ⟨g, 0, none⟩) l.length cap]).run Try.prog w.drew = .ok (.pointer (some ⟨g, 0, none⟩)) w.drew :=
    Lib.run_unsafeSliceData_row _ _ _ _ _ _ (by omega)
  have hUS : (Builtin.unsafeString_ #[128, 3] 9 #[.pointer (some ⟨g, 0, none⟩), .int .i64 l.length]).run Try.prog w.drew = .ok (.string ⟨l.toArray⟩) (w.drew.freeze ⟨g, 0, none⟩ l.length) := by
    refine Lib.run_unsafeString_row w.drew 128 3 9 5 Try.underlying128 (by kernel_rfl) g cur.size (by have hg' : w.drew.heap[g]? = some (.cells cur 5 (0, 0)) := hg; simp [World.shape?, hg']) l h0 (by omega) (by unfold maxLen at hcm; omega) ?_
    intro j x hx
    have e : (⟨g, 0, none⟩ : Addr).add j = ⟨g, j, none⟩ := by simp [Addr.add]; exact fun h => h.symm
    rw [e]
    exact hcell j x hx
  have mixed : Try.prog.follows .mixedOrders = true := by kernel_rfl
  go_enter Try.func44, Try.ntmps44
  go_wp2
  go_region
  all_goals (go_wp2; go_ret; exact ⟨rfl, rfl⟩)
theorem String_rc {M : List Blk} {b ver c v : Nat} {a : AV} {l : List UInt8} {f : Bool} (hb : M[b]? = some (.rows 87 2 ver [[a, .arr 1 c v 0 l.length]] true)) (hc : M[c]? = some (.rows 5 1 v (l.map byteRow) f)) (h0 : l ≠ []) :
    CallR Try.prog M 44 [.one (.ptr b ver 0 0)] (.s ⟨l.toArray⟩) (M.set c .dead) := by
  intro I σ w vals hG hm hvl hvr
  obtain ⟨u, rfl⟩ : ∃ v, vals = #[v] := ⟨vals[0]'(by simp at hvl; omega), by apply Array.ext <;> simp_all⟩
  have hv : RelA I σ (.ptr b ver 0 0) u := hvr 0 _ u rfl rfl
  obtain ⟨p, g, cs, hp, hg, hps, rfl, hh, hs, hlc, hrl, hcs⟩ := mem_ptr hm hb hv (by simp)
  have hcap : p.cap = 1 := (hm.blk b _ p hb hp).1 rfl
  obtain ⟨x0, hx0, hxr⟩ := hcs 0 _ rfl 0 _ rfl
  obtain ⟨x1, hx1, hyr⟩ := hcs 0 _ rfl 1 _ rfl
  have hE : Go.Proofs.YtioefecijidgkaaAbs.Enters Try.prog 44 := enters_fun Try.func44 (by kernel_rfl) rfl
  obtain ⟨h1, q, hq, h2, hq2⟩ := hyr
  obtain ⟨q', hq', m1, m2, m3, m4, m5, m6⟩ := mem_rows hm hc
  obtain rfl : q = q' := by rw [hq] at hq'; injection hq'
  obtain ⟨m7, m8, rfl⟩ := hq2 m2
  have hll : l.length ≠ 0 := by simpa using h0
  rw [List.length_map] at m3
  obtain ⟨g2, hg2⟩ : ∃ g2, q.blk = some g2 := by
    cases e : q.blk with
    | none => rw [e] at m6; simp only at m6; omega
    | some g => exact ⟨g, rfl⟩
  rw [hg2] at m6
  obtain ⟨cs2, hh2, hs2, m9, hcs2⟩ := m6
  have hcse : cs = #[x0, .slice (some ⟨g2, 0, none⟩) l.length q.cap] := by
    apply Array.ext_getElem?
    intro k
    match k with
    | 0 => simpa using hx0
    | 1 => simpa [hg2] using hx1
    | k + 2 => rw [Array.getElem?_eq_none (by omega)]; simp
  rw [hcse] at hh
  simp only [Nat.zero_mul, Nat.zero_add]
  refine .inl ⟨hE, (bld_string g g2 q.cap l x0 cs2 w h0 hh hh2 m3 m4 (by omega) (fun j x hx => ?_)).mono ?_⟩
  · rw [Lib.cell_of_heap hh2]
    obtain ⟨y, hy, hyr⟩ := hcs2 j (byteRow x) (by rw [List.getElem?_map, hx]; rfl) 0 _ rfl
    obtain ⟨rfl, _⟩ := hyr
    simpa using hy
  · rintro e w' ⟨rfl, rfl⟩
    have e : w.drew.freeze ⟨g2, 0, none⟩ l.length = { w.drew with heap := (w.drew.freeze ⟨g2, 0, none⟩ l.length).heap } := by
      unfold World.freeze; rw [if_neg hll]
    refine ⟨_, rfl, I, σ, ⟨rfl, rfl⟩, evo_kill hm hc hq hg2 ?_ ?_ ?_ ?_ ?_⟩
    · unfold World.freeze; rw [if_neg hll]; rfl
    · unfold World.freeze; rw [if_neg hll]; rfl
    · unfold World.freeze; rw [if_neg hll]; rfl
    · unfold World.freeze; rw [if_neg hll]; exact Array.size_modify
    · intro k hk
      unfold World.freeze; rw [if_neg hll]
      simp only []
      rw [Array.getElem?_modify, if_neg (fun e => hk e.symm)]
      rfl
end Go.Proofs.Ytioefecijidgkaa.A
