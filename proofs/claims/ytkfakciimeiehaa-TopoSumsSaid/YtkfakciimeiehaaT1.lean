/- The walks of topo.in, cmp.Compare and topo.Check: what they come to. -/
import Derived.Test.YtkfakciimeiehaaCdTopo
import Derived.Test.YtkfakciimeiehaaAbs18
set_option linter.unusedVariables false
set_option linter.unusedSimpArgs false
namespace Go.Proofs.Ytkfakciimeiehaa.A
open Go Go.Proofs.YtkfakciimeiehaaAbs
structure Nd where
  id : Int
  zone : Int
  rack : Int
  weight : Int
  up : Bool
  inn : Bool
instance : Inhabited Nd := ⟨⟨0, 0, 0, 0, false, false⟩⟩
@[go_sem] def Nd.c (x : Nd) : Nat → CV
  | 0 => .v (.int .i64 x.id)
  | 1 => .v (.int .i64 x.zone)
  | 2 => .v (.int .i64 x.rack)
  | 3 => .v (.int .i64 x.weight)
  | 4 => .v (.bool x.up)
  | _ => .v (.bool x.inn)
abbrev ndL (l : List Nd) : Pt := .one (.c (.imm 6 l.length fun i j => (l.getD i default).c j))
theorem in_rc (n lo hi : Int) (M : List Blk) : CallR Try.prog M n_topo_in [.i n, .i lo, .i hi] (.b (decide (n ≥ lo) && decide (n ≤ hi))) M := by
  refine callP F_topo_in (Nat.le_of_ble_eq_true rfl) (by simp only [go_sem]) (by simp only [go_sem]) ?_ M
  simp only [c_topo_in, go_sem]
theorem isNaN_rc (n : Int) (M : List Blk) : CallR Try.prog M n_cmp_isNaN_int [.i n] (.b false) M := by
  refine callP F_cmp_isNaN_int (Nat.le_of_ble_eq_true rfl) (by simp only [go_sem]) (by simp only [go_sem]) ?_ M
  simp only [c_cmp_isNaN_int, go_sem]
  simp
theorem Compare_rc (a b : Int) (M : List Blk) : CallR Try.prog M n_cmp_Compare_int [.i a, .i b] (.i (if a < b then -1 else if b < a then 1 else 0)) M := by
  refine callP F_cmp_Compare_int (Nat.le_of_ble_eq_true rfl) (by simp only [go_sem]) (by simp only [go_sem]) ?_ M
  simp only [c_cmp_Compare_int, go_sem]
  refine call0 (isNaN_rc _) ?_
  simp only [go_sem]
  refine call0 (isNaN_rc _) ?_
  simp only [go_sem]
  grind
def okN (l : List Nd) (i : Nat) : Bool :=
  let n := l.getD i default
  decide (1 ≤ n.id) && decide (n.id ≤ 999) && (decide (1 ≤ n.zone) && decide (n.zone ≤ 9)) && (decide (1 ≤ n.rack) && decide (n.rack ≤ 9)) && (decide (0 ≤ n.weight) && decide (n.weight ≤ 65536)) && (i == 0 || decide ((l.getD (i - 1) default).id < n.id))
def okL (l : List Nd) : Bool := decide (l.length ≤ 12) && (List.range l.length).all (okN l)
theorem Check_rc (l : List Nd) (M : List Blk) : CallR Try.prog M n_topo_Check [ndL l] (.i (if okL l then 0 else 1)) M := by
  refine callP F_topo_Check (Nat.le_of_ble_eq_true rfl) (by simp only [go_sem]) (by simp only [go_sem]) ?_ M
  simp only [c_topo_Check, go_sem]
  refine ⟨fun h => ?_, fun h => ?_⟩
  · simp [okL] at h ⊢
    omega
  refine V_loop (ι := Nat) (J := fun k => k ≤ l.length ∧ ∀ i, i < k → okN l i = true) (env := fun k => [(0, .p (ndL l)), (8, .p (ndL l)), (9, .i l.length), (10, .i k)]) (mem := fun _ => []) (μ := fun k => l.length - k) 0 (by simp) ?_ ?_
  · exact into0 (by simp only [go_sem])
  rintro k ⟨hk, hok⟩
  simp only [go_sem]
  refine ⟨fun h1 => ⟨by omega, call0 (in_rc _ _ _) ?_⟩, fun h1 => ?_⟩
  · simp only [go_sem]
    refine callg0 (fun _ => in_rc _ _ _) ?_
    simp only [go_sem]
    refine callg0 (fun _ => in_rc _ _ _) ?_
    simp only [go_sem]
    refine callg0 (fun _ => in_rc _ _ _) ?_
    simp only [go_sem]
    have hw : 0 < k → IntKind.i64.wrap ((k : Int) - 1) = ((k - 1 : Nat) : Int) := fun h0 => w64p h0 (by omega)
    refine ⟨fun hc => ?_, fun hc => ?_, fun hc => ⟨k + 1, ⟨by omega, ?_⟩, by omega, into0 ?_⟩⟩
    · simp at hc
      rw [hw (by omega)]
      omega
    · rw [if_neg]
      simp only [okL, Bool.and_eq_true, List.all_eq_true, List.mem_range, not_and]
      intro _ hall
      have := hall k (by omega)
      unfold okN at this
      by_cases h0 : 0 < k
      · rw [hw h0, Int.toNat_natCast] at hc
        simp at hc this
        omega
      · have : k = 0 := by omega
        subst this
        simp at hc this
        omega
    · intro i hi
      by_cases hik : i = k
      · subst hik
        unfold okN
        by_cases h0 : 0 < i
        · rw [hw h0, Int.toNat_natCast] at hc
          simp at hc ⊢
          omega
        · have : i = 0 := by omega
          subst this
          simp at hc ⊢
          omega
      · exact hok i (by omega)
    · rw [w64s (by omega)]
      simp only [go_sem]
  · rw [if_pos]
    simp only [okL, Bool.and_eq_true, List.all_eq_true, List.mem_range, decide_eq_true_eq]
    exact ⟨by omega, fun i hi => hok i (by omega)⟩
end Go.Proofs.Ytkfakciimeiehaa.A
