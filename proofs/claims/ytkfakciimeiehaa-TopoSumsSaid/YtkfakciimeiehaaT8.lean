/- The walk of the law's awake. -/
import Derived.Test.YtkfakciimeiehaaT7
import Derived.Test.YtkfakciimeiehaaTP
set_option linter.unusedVariables false
set_option linter.unusedSimpArgs false
namespace Go.Proofs.Ytkfakciimeiehaa.A
open Go Go.Proofs.YtkfakciimeiehaaAbs
def awL : List Nd := [⟨1, 2, 1, 40000, false, true⟩, ⟨5, 2, 3, 40000, false, true⟩, ⟨7, 3, 3, 5, false, false⟩]
theorem awZ : weighS (fun _ => true) Nd.zone awL = [(2, 65536), (3, 0)] := by decide +kernel
theorem awA : (okL awL && apartS awL [5, 7] []) = true := by decide +kernel
theorem awake_rc (M : List Blk) : CallR Try.prog M n_windroselaw06_awake [] (.b true) M := by
  refine callPR F_windroselaw06_awake (Nat.le_of_ble_eq_true rfl) (by simp only [go_sem]) (by simp only [go_sem]) ?_ M
  refine run_seqV ?_
  simp only [go_sem]
  refine run_seqV ?_
  simp only [go_sem]
  refine run_gh (gh_freeze (b := 0) rfl ?_) (V_sound ?_)
  · intro r hr a ha
    simp only [List.mem_cons, List.not_mem_nil, or_false] at hr
    rcases hr with rfl | rfl | rfl <;> (simp only [fillL, zc, List.map_cons, List.map_nil, List.set_cons_zero, List.set_cons_succ, List.mem_cons, List.not_mem_nil, or_false] at ha; rcases ha with rfl | rfl | rfl | rfl | rfl | rfl <;> exact ⟨_, rfl⟩)
  simp only [go_sem]
  refine call1 (Zones_rc awL _) ?_ (fun h => by cases h) ?_
  · simp only [go_sem]
    refine ⟨rfl, fun i hi j hj => ?_⟩
    rcases i with _ | _ | _ | i <;> first | omega | (rcases j with _ | _ | _ | _ | _ | _ | j <;> first | omega | rfl)
  rw [awZ]
  simp only [go_sem, Int.cast_ofNat_Int]
  refine callg1 (r := .b true) (ps' := [ndL awL, .one (.arr 1 1 0 0 2)]) (fun _ => ?_) (fun _ => ?_) ?_
  · have h := Apart_rc awL [5, 7] (by decide) []
    rw [awA] at h
    refine callR_lend h ?_ (by simp only [go_sem])
    refine ⟨Snap.same _ trivial, Snap.arr 1 1 0 0 2 3 _ true _ rfl (by decide) (fun i hi j hj => ?_), trivial⟩
    rcases i with _ | _ | i <;> first | omega | (rcases j with _ | j <;> first | omega | exact Snap.same _ trivial)
  · simp only [go_sem]
    refine ⟨rfl, fun i hi j hj => ?_⟩
    rcases i with _ | _ | _ | i <;> first | omega | (rcases j with _ | _ | _ | _ | _ | _ | j <;> first | omega | rfl)
  simp only [go_sem]
end Go.Proofs.Ytkfakciimeiehaa.A
