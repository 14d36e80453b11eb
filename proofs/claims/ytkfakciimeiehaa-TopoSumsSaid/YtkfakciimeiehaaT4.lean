/- The walks of topo.Zones, Racks and Leaves. -/
import Derived.Test.YtkfakciimeiehaaT3
set_option linter.unusedVariables false
set_option linter.unusedSimpArgs false
namespace Go.Proofs.Ytkfakciimeiehaa.A
open Go Go.Proofs.YtkfakciimeiehaaAbs
theorem Zones_1_rc (x : Nd) (M : List Blk) : CallR Try.prog M n_topo_Zones_1 [ndA x] (.b true) M := by
  refine callP F_topo_Zones_1 (Nat.le_of_ble_eq_true rfl) (by simp only [go_sem]) (by simp only [go_sem]) ?_ M
  simp only [c_topo_Zones_1, go_sem]
theorem Zones_2_rc (x : Nd) (M : List Blk) : CallR Try.prog M n_topo_Zones_2 [ndA x] (.i x.zone) M := by
  refine callP F_topo_Zones_2 (Nat.le_of_ble_eq_true rfl) (by simp only [go_sem]) (by simp only [go_sem]) ?_ M
  simp only [c_topo_Zones_2, go_sem]
theorem Racks_1_rc (x : Nd) (z : Int) (c : Nat → CV) (hc : c 0 = .v (.int .i64 z)) (M : List Blk) : CallR Try.prog M n_topo_Racks_1 [ndA x, .one (.ip 1 c)] (.b (x.zone == z)) M := by
  refine callP F_topo_Racks_1 (Nat.le_of_ble_eq_true rfl) (by simp only [go_sem]) (by simp only [go_sem]) ?_ M
  simp only [c_topo_Racks_1, go_sem, hc]
theorem Racks_2_rc (x : Nd) (M : List Blk) : CallR Try.prog M n_topo_Racks_2 [ndA x] (.i x.rack) M := by
  refine callP F_topo_Racks_2 (Nat.le_of_ble_eq_true rfl) (by simp only [go_sem]) (by simp only [go_sem]) ?_ M
  simp only [c_topo_Racks_2, go_sem]
theorem Leaves_1_rc (x : Nd) (z k : Int) (c d : Nat → CV) (hc : c 0 = .v (.int .i64 z)) (hd : d 0 = .v (.int .i64 k)) (M : List Blk) : CallR Try.prog M n_topo_Leaves_1 [ndA x, .one (.ip 1 c), .one (.ip 1 d)] (.b ((z == 0 || x.zone == z) && (k == 0 || x.rack == k))) M := by
  refine callP F_topo_Leaves_1 (Nat.le_of_ble_eq_true rfl) (by simp only [go_sem]) (by simp only [go_sem]) ?_ M
  simp only [c_topo_Leaves_1, go_sem, hc, hd]
theorem Leaves_2_rc (x : Nd) (M : List Blk) : CallR Try.prog M n_topo_Leaves_2 [ndA x] (.i x.id) M := by
  refine callP F_topo_Leaves_2 (Nat.le_of_ble_eq_true rfl) (by simp only [go_sem]) (by simp only [go_sem]) ?_ M
  simp only [c_topo_Leaves_2, go_sem]
theorem Zones_rc (l : List Nd) (M : List Blk) : CallR Try.prog M n_topo_Zones [ndL l] (.p (chL (weighS (fun _ => true) Nd.zone l))) M := by
  refine callP F_topo_Zones (Nat.le_of_ble_eq_true rfl) (by simp only [go_sem]) (by simp only [go_sem]) ?_ M
  simp only [c_topo_Zones, go_sem]
  refine call0 (weigh_rc l _ _ _ 0 _ 0 _ _ (fun i hi => by omega) (fun i hi => by omega) Zones_1_rc Zones_2_rc) ?_
  simp only [go_sem]
theorem Racks_rc (l : List Nd) (z : Int) (M : List Blk) : CallR Try.prog M n_topo_Racks [ndL l, .i z] (.p (chL (weighS (fun x => x.zone == z) Nd.rack l))) M := by
  refine callPR F_topo_Racks (Nat.le_of_ble_eq_true rfl) (by simp only [go_sem]) (by simp only [go_sem]) ?_ M
  refine run_seqV ?_
  simp only [go_sem]
  refine run_gh (gh_freeze (b := 0) rfl (by intro r hr a ha; simp at hr; subst hr; simp at ha; subst ha; exact ⟨_, rfl⟩)) (V_sound ?_)
  simp only [go_sem]
  refine call0 (weigh_rc l (fun x => x.zone == z) Nd.rack _ 1 _ 0 _ _ (fun i hi => ?_) (fun i hi => by omega) (fun x M => ?_) Racks_2_rc) ?_
  · obtain rfl : i = 0 := by omega
    exact trivial
  · exact Racks_1_rc x z _ rfl M
  simp only [go_sem]
theorem Leaves_rc (l : List Nd) (z k : Int) (M : List Blk) : CallR Try.prog M n_topo_Leaves [ndL l, .i z, .i k] (.p (chL (weighS (fun x => (z == 0 || x.zone == z) && (k == 0 || x.rack == k)) Nd.id l))) M := by
  refine callPR F_topo_Leaves (Nat.le_of_ble_eq_true rfl) (by simp only [go_sem]) (by simp only [go_sem]) ?_ M
  refine run_seqV ?_
  simp only [go_sem]
  refine run_gh (gh_freeze (b := 0) rfl (by intro r hr a ha; simp at hr; subst hr; simp at ha; subst ha; exact ⟨_, rfl⟩)) ?_
  refine run_gh (gh_freeze (b := 1) rfl (by intro r hr a ha; simp at hr; subst hr; simp at ha; subst ha; exact ⟨_, rfl⟩)) (V_sound ?_)
  simp only [go_sem]
  refine call0 (weigh_rc l (fun x => (z == 0 || x.zone == z) && (k == 0 || x.rack == k)) Nd.id _ 2 _ 0 _ _ (fun i hi => ?_) (fun i hi => by omega) (fun x M => ?_) Leaves_2_rc) ?_
  · match i, hi with
    | 0, _ => exact trivial
    | 1, _ => exact trivial
  · exact Leaves_1_rc x z k _ _ rfl rfl M
  simp only [go_sem]
end Go.Proofs.Ytkfakciimeiehaa.A
