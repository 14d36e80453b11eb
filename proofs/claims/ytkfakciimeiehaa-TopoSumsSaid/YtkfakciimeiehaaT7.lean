/- The walk of topo.Apart. -/
import Derived.Test.YtkfakciimeiehaaT6
set_option linter.unusedVariables false
set_option linter.unusedSimpArgs false
namespace Go.Proofs.Ytkfakciimeiehaa.A
open Go Go.Proofs.YtkfakciimeiehaaAbs
@[go_sem] def inRow (x : Int) : List AV := [.c (.v (.int .i64 x))]
theorem lt_inRow {n : Nat} (out : List Int) : ∀ r ∈ out.map inRow, ∀ a ∈ r, ltA n a := by
  intro r hr a ha
  obtain ⟨x, _, rfl⟩ := List.mem_map.1 hr
  simp only [inRow, List.mem_cons, List.not_mem_nil, or_false] at ha
  subst ha
  exact trivial
def has (met : List Int) (x : Int) : Bool := decide (met.findIdx (· == x) < met.length)
def hit (met : List Int) (id : Int) (n : Nd) : Bool := n.id == id && !has met n.zone
def apartS (l : List Nd) : List Int → List Int → Bool
  | [], met => true
  | id :: ids, met => if l.findIdx (hit met id) < l.length then apartS l ids (met ++ [(l.getD (l.findIdx (hit met id)) default).zone]) else false
theorem has_rc (met : List Int) (hn : met.length < 4611686018427387904) (x : Int) {M : List Blk} {ver : Nat} {f : Bool} (hM : M[0]? = some (.rows 3 1 ver (met.map inRow) f)) :
    CallR Try.prog M n_slices_Contains_int_int [.one (.arr 1 0 ver 0 met.length), .i x] (.b (has met x)) M := by
  refine callR_lend (ps' := [inL met, .i x]) (Contains_rc met hn x []) ?_ (by simp only [go_sem])
  refine ⟨Snap.arr 1 0 ver 0 met.length 3 (met.map inRow) f _ hM (by simp) (fun i hi j hj => ?_), Snap.same _ trivial, trivial⟩
  have : (met.map inRow).getD (0 + i) [] = inRow (met.getD i 0) := by
    rw [Nat.zero_add, List.getD_eq_getElem?_getD, List.getElem?_map, List.getElem?_eq_getElem hi, List.getD_eq_getElem?_getD, List.getElem?_eq_getElem hi]
    rfl
  rw [this]
  match j, hj with
  | 0, _ => exact Snap.same _ trivial
set_option maxRecDepth 20000 in
theorem Apart_rc (l : List Nd) (ids : List Int) (hids : ids.length < 1000) (M : List Blk) : CallR Try.prog M n_topo_Apart [ndL l, inL ids] (.b (okL l && apartS l ids [])) M := by
  refine callP F_topo_Apart (Nat.le_of_ble_eq_true rfl) (by simp only [go_sem]) (by simp only [go_sem]) ?_ M
  simp only [c_topo_Apart, go_sem]
  refine call0 (Check_rc _) ?_
  simp only [go_sem]
  by_cases hok : okL l = true
  case neg =>
    simp [hok, go_sem]
  simp only [hok, if_true, go_sem]
  refine fun _ => ?_
  have hl12 : l.length ≤ 12 := by simp [okL] at hok; exact hok.1
  refine run_gh (gh_born 5 3 1 (by simp only [go_sem])) ?_
  refine V_loop (ι := Nat × Nat × Bool × List Int) (J := fun p => p.1 ≤ ids.length ∧ p.2.2.2.length ≤ p.1 ∧ apartS l (ids.drop p.1) p.2.2.2 = apartS l ids [])
    (env := fun p => [(0, .p (ndL l)), (5, .p (.one (.arr 1 0 p.2.1 0 p.2.2.2.length))), (13, .p (inL ids)), (14, .i ids.length), (15, .i p.1)])
    (mem := fun p => [.rows 3 1 p.2.1 (p.2.2.2.map inRow) p.2.2.1]) (μ := fun p => ids.length - p.1) (0, 0, true, []) ⟨Nat.zero_le _, Nat.le_refl _, rfl⟩ ?_ ?_
  · exact ⟨[], by simp only [go_sem], Nat.zero_le _, by simp only [go_sem], by simp only [go_sem, ltB]⟩
  rintro ⟨k, ver, f, met⟩ ⟨hk, hlen, hap⟩
  simp only [go_sem] at hk hlen hap ⊢
  refine ⟨fun h1 => ⟨by omega, ?_⟩, fun h1 => ?_⟩
  · rw [List.drop_eq_getElem_cons h1] at hap
    have hid : ids.getD k 0 = ids[k] := by simp [List.getD_eq_getElem?_getD, h1]
    simp only [hid]
    generalize ids[k] = id at hap ⊢
    refine V_loop (ι := Nat) (J := fun j => j ≤ l.length ∧ ∀ i, i < j → hit met id (l.getD i default) = false)
      (env := fun j => [(0, .p (ndL l)), (5, .p (.one (.arr 1 0 ver 0 met.length))), (7, .i id), (13, .p (inL ids)), (14, .i ids.length), (15, .i k), (19, .p (ndL l)), (20, .i l.length), (21, .i j)])
      (mem := fun _ => [.rows 3 1 ver (met.map inRow) f]) (μ := fun j => l.length - j) 0 ⟨Nat.zero_le _, fun i hi => by omega⟩ ?_ ?_
    · exact ⟨[], by simp only [go_sem], Nat.zero_le _, by simp only [go_sem], by simp only [go_sem, ltB]; exact lt_inRow _⟩
    rintro j ⟨hj, hno⟩
    simp only [go_sem]
    generalize hx : l.getD j default = x
    refine ⟨fun h2 => ⟨by omega, callg1 (fun _ => has_rc met (by omega) x.zone rfl) (fun _ => by simp only [go_sem]) ?_⟩, fun h2 => ?_⟩
    · simp only [go_sem, List.length_map]
      refine ⟨fun hc => ⟨by omega, ?_⟩, fun hc => ⟨j + 1, ⟨by omega, fun i hi => ?_⟩, by omega, [.rows 67 6 0 [[.c (.v (.int .i64 x.id)), .c (.v (.int .i64 x.zone)), .c (.v (.int .i64 x.rack)), .c (.v (.int .i64 x.weight)), .c (.v (.bool x.up)), .c (.v (.bool x.inn))]] true], ?_⟩⟩
      · have hh : l.findIdx (hit met id) = j := by
          rw [List.findIdx_eq h2]
          refine ⟨by rw [← hx] at hc; simpa [hit, List.getD_eq_getElem?_getD, h2] using hc, fun i hi => ?_⟩
          simpa [List.getD_eq_getElem?_getD, show i < l.length by omega] using hno i hi
        rw [apartS, hh, if_pos h2, hx] at hap
        refine ⟨(k + 1, ver + 1, false, met ++ [x.zone]), ⟨by simp only []; omega, by simp; omega, hap⟩, by simp only []; omega, [.rows 67 6 0 [[.c (.v (.int .i64 x.id)), .c (.v (.int .i64 x.zone)), .c (.v (.int .i64 x.rack)), .c (.v (.int .i64 x.weight)), .c (.v (.bool x.up)), .c (.v (.bool x.inn))]] true, .rows 3 1 0 [[.c (.v (.int .i64 x.zone))]] true], by simp only [go_sem, List.map_append], Nat.zero_le _, ?_, by simp only [go_sem, ltB]; exact lt_inRow _⟩
        simp only [go_sem, w64s (show k < 9223372036854775807 by omega), List.length_append]
      · by_cases hij : i = j
        · subst hij; rw [hx]; exact hc
        · exact hno i (by omega)
      · refine ⟨by simp only [go_sem], Nat.zero_le _, ?_, by simp only [go_sem, ltB]; exact lt_inRow _⟩
        simp only [go_sem, w64s (show j < 9223372036854775807 by omega)]
    · rw [← hap, apartS, if_neg]
      have : l.findIdx (hit met id) = l.length := by
        rw [List.findIdx_eq_length]
        intro y hy
        obtain ⟨i, hi, rfl⟩ := List.mem_iff_getElem.1 hy
        simpa [List.getD_eq_getElem?_getD, hi] using hno i (by omega)
      omega
  · have : k = ids.length := by omega
    subst this
    rw [List.drop_length] at hap
    rw [← hap]
    rfl
end Go.Proofs.Ytkfakciimeiehaa.A
