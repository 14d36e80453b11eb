/- The walks of topo.Find and the document's Find and May. -/
import Derived.Test.YtkfakciimeiehaaT4
set_option linter.unusedVariables false
set_option linter.unusedSimpArgs false
namespace Go.Proofs.Ytkfakciimeiehaa.A
open Go Go.Proofs.YtkfakciimeiehaaAbs
def fAt (l : List Nd) (id : Int) : Nat := l.findIdx (fun x => x.id == id)
theorem fAt_here {l : List Nd} {id : Int} {k : Nat} (hk : k < l.length) (h : ∀ j, j < k → (l.getD j default).id ≠ id) (he : (l.getD k default).id = id) : fAt l id = k := by
  have e : ∀ j, j < l.length → l.getD j default = l[j]! := fun j hj => by simp [List.getD_eq_getElem?_getD, hj]
  unfold fAt
  rw [List.findIdx_eq hk]
  refine ⟨by simpa [List.getD_eq_getElem?_getD, hk] using he, fun j hj => ?_⟩
  have := h j hj
  simpa [List.getD_eq_getElem?_getD, show j < l.length by omega] using this
theorem fAt_none {l : List Nd} {id : Int} (h : ∀ j, j < l.length → (l.getD j default).id ≠ id) : fAt l id = l.length := by
  unfold fAt
  rw [List.findIdx_eq_length]
  intro x hx
  obtain ⟨j, hj, rfl⟩ := List.mem_iff_getElem.1 hx
  have := h j hj
  simpa [List.getD_eq_getElem?_getD, hj] using this
theorem rFind_rc (l : List Nd) (hn : l.length < 1000) (id : Int) (M : List Blk) : CallR Try.prog M n_windroseref06_Find [ndL l, .i id] (.tup [ndA (l.getD (fAt l id) default), .b (decide (fAt l id < l.length))]) M := by
  refine callP F_windroseref06_Find (Nat.le_of_ble_eq_true rfl) (by simp only [go_sem]) (by simp only [go_sem]) ?_ M
  simp only [c_windroseref06_Find, go_sem]
  refine V_loop (ι := Nat) (J := fun k => k ≤ l.length ∧ ∀ j, j < k → (l.getD j default).id ≠ id) (env := fun k => [(0, .p (ndL l)), (1, .i id), (4, .p (.one (.ptr 0 0 0 0))), (6, .i k)]) (mem := fun _ => [.rows 67 6 0 [[.c (.v (.int .i64 0)), .c (.v (.int .i64 0)), .c (.v (.int .i64 0)), .c (.v (.int .i64 0)), .c (.v (.bool false)), .c (.v (.bool false))]] true]) (μ := fun k => l.length - k) 0 (by simp) ?_ ?_
  · exact ⟨[], by simp only [go_sem], Nat.zero_le _, by simp only [go_sem], by simp only [go_sem, ltB]⟩
  rintro k ⟨hk, hne⟩
  simp only [go_sem]
  refine ⟨fun h1 => ⟨by omega, fun he => ?_, fun he => ⟨k + 1, ⟨by omega, fun j hj => ?_⟩, by omega, [], ?_⟩⟩, fun h1 => ?_⟩
  · rw [fAt_here (by omega) hne he]
    simp only [go_sem]
    exact ⟨by omega, by simp [h1]⟩
  · by_cases hjk : j = k
    · subst hjk; exact he
    · exact hne j (by omega)
  · refine ⟨by simp only [go_sem], Nat.zero_le _, ?_, by simp only [go_sem, ltB]⟩
    simp only [go_sem, w64s (show k < 9223372036854775807 by omega)]
  · rw [fAt_none (fun j hj => hne j (by omega))]
    have hd : l.getD l.length default = default := by simp [List.getD_eq_getElem?_getD]
    rw [hd]
    exact ⟨⟨rfl, rfl, rfl, rfl, rfl, rfl⟩, by simp⟩
set_option maxRecDepth 20000 in
theorem May_rc (l : List Nd) (hn : l.length < 1000) (M : List Blk) : CallR Try.prog M n_windroseref06_May [ndL l] (.b (okL l)) M := by
  refine callP F_windroseref06_May (Nat.le_of_ble_eq_true rfl) (by simp only [go_sem]) (by simp only [go_sem]) ?_ M
  simp only [c_windroseref06_May, go_sem]
  refine V_loop (ι := Nat) (J := fun k => k ≤ l.length ∧ ∀ i, i < k → okN l i = true) (env := fun k => [(0, .p (ndL l)), (3, .i k)]) (mem := fun _ => []) (μ := fun k => l.length - k) 0 (by simp) (into0 (by simp only [go_sem])) ?_
  rintro k ⟨hk, hok⟩
  simp only [go_sem]
  have hw : 0 < k → IntKind.i64.wrap ((k : Int) - 1) = ((k - 1 : Nat) : Int) := fun h0 => w64p h0 (by omega)
  refine ⟨fun h1 => ⟨by omega, fun hc => ?_, fun hc => ?_, fun hc => ⟨k + 1, ⟨by omega, ?_⟩, by omega, into0 ?_⟩⟩, fun h1 => ?_⟩
  · simp at hc
    rw [hw (by omega)]
    omega
  · cases hl : okL l with
    | false => rfl
    | true =>
      exfalso
      simp only [okL, Bool.and_eq_true, List.all_eq_true, List.mem_range] at hl
      have := hl.2 k (by omega)
      unfold okN at this
      by_cases h0 : 0 < k
      · rw [hw h0, Int.toNat_natCast] at hc
        simp at hc this
        omega
      · have : k = 0 := by omega
        subst this
        simp at hc this
        omega
  · intro i hi
    by_cases hik : i = k
    · subst hik
      unfold okN
      by_cases h0 : 0 < i
      · rw [hw h0, Int.toNat_natCast] at hc
        simp at hc ⊢
        omega
      · have : i = 0 := by omega
        subst this
        simp at hc ⊢
        omega
    · exact hok i (by omega)
  · rw [w64s (by omega)]
    simp only [go_sem]
  · have hall : (List.range l.length).all (okN l) = true := by
      simp only [List.all_eq_true, List.mem_range]
      exact fun i hi => hok i (by omega)
    simp only [okL, hall, Bool.and_true, go_sem]
    simp
    omega
/-- Where a number stands, or would stand, among nodes. -/
def ndAt (l : List Nd) (id : Int) : Nat := bsF (fun i => decide (cmpI (l.getD i default).id id < 0)) 0 l.length
def ndIn (l : List Nd) (id : Int) : Bool := decide (ndAt l id < l.length) && (cmpI (l.getD (ndAt l id) default).id id == 0)
theorem Find_rc (l : List Nd) (hn : l.length < 1000) (id : Int) (M : List Blk) : CallR Try.prog M n_topo_Find [ndL l, .i id] (if ndIn l id && okL l then .tup [ndA (l.getD (ndAt l id) default), .b true] else .tup [ndA default, .b false]) M := by
  refine callP F_topo_Find (Nat.le_of_ble_eq_true rfl) (by simp only [go_sem]) ?_ ?_ M
  · split <;> simp only [go_sem]
  simp only [c_topo_Find, go_sem]
  refine call0 (bs_rc (sz := 6) F_slices_BinarySearchFunc_api_Node_api_Node_int l.length (by omega) _ (.i id) n_topo_Find_1 0 _ (fun i => cmpI (l.getD i default).id id) trivial (fun i hi => by omega) (fun i hi M => Find_1_rc _ _ _)) ?_
  simp only [go_sem]
  have e1 : bsF (fun i => decide (cmpI (l.getD i default).id id < 0)) 0 l.length = ndAt l id := rfl
  simp only [e1]
  refine callg0 (fun _ => Check_rc _) ?_
  simp only [go_sem]
  have key : ((!decide (ndAt l id < l.length) || !cmpI (l.getD (ndAt l id) default).id id == 0 || (if okL l = true then (0 : Int) else 1) != 0) = true) ↔ (ndIn l id && okL l) = false := by
    unfold ndIn
    cases okL l <;> simp <;> (by_cases h : ndAt l id < l.length <;> simp [h] <;> first | (intro h'; omega) | (left; omega))
  refine ⟨fun hc => ?_, fun hc => ?_⟩
  · rw [if_neg (by rw [key.1 hc]; simp), leS_tup]
    rfl
  · have h2 : (ndIn l id && okL l) = true := by
      cases h : (ndIn l id && okL l) with
      | true => rfl
      | false =>
        have := key.2 h
        rw [hc] at this
        cases this
    rw [if_pos h2, leS_tup]
    refine ⟨?_, rfl⟩
    simp [ndIn] at h2
    omega
end Go.Proofs.Ytkfakciimeiehaa.A
