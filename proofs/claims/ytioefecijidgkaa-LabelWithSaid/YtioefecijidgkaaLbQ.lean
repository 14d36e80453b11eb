/- slices.Clone at labels. -/
import Derived.Test.YtioefecijidgkaaLbI
import Derived.Test.YtioefecijidgkaaLbE
import Derived.Test.YtioefecijidgkaaLbF
import Derived.Lib.SliceRun
set_option linter.unusedVariables false
set_option linter.unusedSimpArgs false
namespace Go.Proofs.Ytioefecijidgkaa.A
open Go Go.Proofs Go.Proofs.YtioefecijidgkaaAbs Go.RowKit Go.Shelf Go.Lib
theorem ltA_up1 {n m : Nat} (hnm : n ≤ m) {a : AV} : ltA n a → ltA m a := by
  induction a with
  | c x => exact fun h => h
  | ptr b v i j => intro h; exact Nat.lt_of_lt_of_le h hnm
  | arr sz b v i j => intro h; exact Nat.lt_of_lt_of_le h hnm
  | ip m c => exact fun h => h
  | fn f k caps ih => exact fun h i hi => ih i (h i hi)
theorem ltB_up1 {n m : Nat} (hnm : n ≤ m) {x : Blk} (h : ltB n x) : ltB m x := by
  cases x with
  | dead => exact h
  | rows t sz v l f => exact fun r hr a ha => ltA_up1 hnm (h r hr a ha)
  | sit s p => exact h
theorem set_last {M : List Blk} {X Y : Blk} : (M ++ [X]).set M.length Y = M ++ [Y] := by
  rw [List.set_append_right _ _ (Nat.le_refl _), Nat.sub_self]; rfl
theorem imm_lbRows (l : List Lb) : (List.map (fun i => [AV.c (CV.v (Value.string (l.getD i default).name)), AV.c (CV.v (Value.string (l.getD i default).value))]) (List.range l.length)) = lbRows l := by
  refine List.ext_getElem (by simp [lbRows]) (fun i h1 h2 => ?_)
  simp [lbRows] at h2
  simp [lbRows, lbRow, List.getD_eq_getElem?_getD, List.getElem?_eq_getElem h2]
set_option maxRecDepth 20000 in
theorem Clone_pos (l : List Lb) (h0 : 0 < l.length) (hl : l.length ≤ 100) {M : List Blk} (hMB : ∀ x ∈ M, ltB M.length x) :
    CallR Try.prog M n_slices_Clone_api_Label_api_Label [lbL l] (.p (.one (.arr 2 M.length 1 0 l.length))) (M ++ [.rows 83 2 1 (lbRows l) false]) := by
  refine callR_intro F_slices_Clone_api_Label_api_Label (by simp) ?_
  refine V_sound ?_
  simp only [c_slices_Clone_api_Label_api_Label, go_sem, h0, gl, set_last, List.length_map, List.length_range]
  refine ⟨by omega, fin_own (.inr rfl) (Gh.refl _) [] (cnd := True) rfl trivial (by rw [List.append_nil, imm_lbRows]) ?_ ?_ ?_ ?_⟩
  · exact leS_of rfl
  · rw [List.length_append]; omega
  · simp only [go_sem, List.length_append]
  · intro x hx
    rw [List.length_append, List.length_singleton]
    rcases List.mem_append.1 hx with hx | hx
    · exact ltB_up1 (Nat.le_succ _) (hMB x hx)
    · obtain rfl := List.mem_singleton.1 hx
      exact fun r hr => (lt_lbRows _ _ r hr).2
set_option maxHeartbeats 2000000 in
set_option maxRecDepth 100000 in
theorem clone_nil (n c : Nat) (w : World) : Calls Try.prog 55 #[.slice none n c] w fun e w' => e = .returned (.slice none 0 0) ∧ w' = w := by
  have q22 : ∀ (w : World) (a : Option Addr) (n c n' c' : Nat), (binOp .eql 22 (.slice a n c) (.slice none n' c')).run Try.prog w = .ok (.bool a.isNone) w := fun w a n c n' c' => Lib.run_eql_slice_nil w _ _ a n c n' c' Try.underlying22
  have mixed : Try.prog.follows .mixedOrders = true := by kernel_rfl
  go_enter Try.func55, Try.ntmps55
  go_wp2
  go_ret
  exact ⟨rfl, rfl⟩
set_option maxHeartbeats 2000000 in
set_option maxRecDepth 100000 in
theorem clone_zero (a : Addr) (c : Nat) (w : World) : Calls Try.prog 55 #[.slice (some a) 0 c] w fun e w' => e = .returned (.slice (some ⟨w.heap.size, 0, none⟩) 0 0) ∧ w' = w.alloc (.cells #[] 83) := by
  have q22 : ∀ (w : World) (a : Option Addr) (n c n' c' : Nat), (binOp .eql 22 (.slice a n c) (.slice none n' c')).run Try.prog w = .ok (.bool a.isNone) w := fun w a n c n' c' => Lib.run_eql_slice_nil w _ _ a n c n' c' Try.underlying22
  have mixed : Try.prog.follows .mixedOrders = true := by kernel_rfl
  go_enter Try.func55, Try.ntmps55
  go_wp2
  go_ret
  exact ⟨rfl, rfl⟩
theorem evo_alloc0 {I : Im} {σ : List Plc} {M : List Blk} {w : World} (hm : Mem I σ M w) (t sz : Nat) : Evo I σ M w I (σ ++ [⟨some w.heap.size, 0, 0, sz⟩]) (M ++ [.rows t sz 0 [] true]) (w.alloc (.cells #[] t)) := by
  have hext := ExtP.append σ [⟨some w.heap.size, 0, 0, sz⟩]
  refine ⟨ExtI.refl _, hext, hm.push _ _ _ rfl ⟨fun _ => rfl, rfl, rfl, Nat.le_refl _, Nat.zero_le _, fun i r h => by simp at h, #[], heap_alloc_new _ _, by simp, fun k x hk => by simp at hk, fun i r h => by simp at h⟩, Keep.alloc _ _ _, fun g h => ?_, fun _ _ h => .inl h⟩
  rcases Has.push hm.len rfl h with h | h
  · exact .inl h
  · exact .inr (by omega)
def cV (l : List Lb) : Nat := if l.length = 0 then 0 else 1
def cF (l : List Lb) : Bool := decide (l.length = 0)
theorem Clone_rc (l : List Lb) (hl : l.length ≤ 100) {M : List Blk} (hMB : ∀ x ∈ M, ltB M.length x) :
    CallR Try.prog M n_slices_Clone_api_Label_api_Label [lbL l] (.p (.one (.arr 2 M.length (cV l) 0 l.length))) (M ++ [.rows 83 2 (cV l) (lbRows l) (cF l)]) := by
  by_cases h0 : l.length = 0
  case neg =>
    rw [show cV l = 1 from if_neg h0, show cF l = false from decide_eq_false h0]
    exact Clone_pos l (by omega) hl hMB
  obtain rfl : l = [] := List.eq_nil_of_length_eq_zero h0
  intro I σ w vals hG hm hvl hvr
  obtain ⟨v, rfl⟩ : ∃ v, vals = #[v] := ⟨vals[0]'(by simp at hvl; omega), by apply Array.ext <;> simp_all⟩
  obtain ⟨A, cap, rfl, _, _⟩ := hvr 0 _ v rfl rfl
  have hE : Go.Proofs.YtioefecijidgkaaAbs.Enters Try.prog n_slices_Clone_api_Label_api_Label := enters_fun Try.func55 (by kernel_rfl) rfl
  cases A with
  | none =>
    refine .inl ⟨hE, (clone_nil 0 cap w).mono ?_⟩
    rintro e w' ⟨rfl, rfl⟩
    exact ⟨_, rfl, I, σ ++ [⟨none, 0, 0, 2⟩], (show RelA I _ (.arr 2 M.length 0 0 0) _ from rel_born hm.len), ExtI.refl _, ExtP.append σ [⟨none, 0, 0, 2⟩], hm.born _ _, Keep.refl _ _, fun g hg => .inl (Has.born hm.len hg), fun _ _ h => .inl h⟩
  | some ad =>
    refine .inl ⟨hE, (clone_zero ad cap w).mono ?_⟩
    rintro e w' ⟨rfl, rfl⟩
    refine ⟨_, rfl, I, σ ++ [⟨some w.heap.size, 0, 0, 2⟩], ⟨rfl, ⟨some w.heap.size, 0, 0, 2⟩, ?_, Nat.le_refl _, fun _ => ⟨rfl, Nat.le_refl _, rfl⟩⟩, evo_alloc0 hm _ _⟩
    rw [List.getElem?_append_right (by rw [hm.len]; exact Nat.le_refl _)]
    simp [hm.len]
end Go.Proofs.Ytioefecijidgkaa.A
