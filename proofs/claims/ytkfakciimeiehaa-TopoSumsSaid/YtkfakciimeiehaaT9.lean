/- The walks of the laws TopoFinds and TopoSums: both are told true. -/
import Derived.Test.YtkfakciimeiehaaT8
set_option linter.unusedVariables false
set_option linter.unusedSimpArgs false
namespace Go.Proofs.Ytkfakciimeiehaa.A
open Go Go.Proofs.YtkfakciimeiehaaAbs
theorem find_same {l : List Nd} (hok : okL l = true) (id : Int) : ndIn l id = decide (fAt l id < l.length) ∧ (ndIn l id = true → ndAt l id = fAt l id) := by
  have up := ids_up hok
  have hc : ∀ a : Int, decide (cmpI a id < 0) = decide (a < id) := by
    intro a
    unfold cmpI
    by_cases h1 : a < id
    · simp [h1]
    · by_cases h2 : id < a <;> simp [h1, h2]
  have h0 : ∀ a : Int, (cmpI a id == 0) = decide (a = id) := by
    intro a
    unfold cmpI
    by_cases h1 : a < id
    · simp [h1]; omega
    · by_cases h2 : id < a
      · simp [h1, h2]; omega
      · have : a = id := by omega
        simp [this]
  have hs := bsF_lt (lt := fun i => decide (cmpI (l.getD i default).id id < 0)) l.length 0 l.length (by omega) (by omega) (fun a b _ hab hb h => by
    rw [hc] at h ⊢
    have h := of_decide_eq_true h
    by_cases e : a = b
    · subst e; exact decide_eq_true h
    · have := up a b (by omega) hb
      exact decide_eq_true (by omega))
  have h1 : ∀ i, i < ndAt l id → (l.getD i default).id < id := fun i hi => by
    have := hs.1 i (Nat.zero_le _) hi
    rw [hc] at this
    exact of_decide_eq_true this
  have h2 : ∀ i, ndAt l id ≤ i → i < l.length → id ≤ (l.getD i default).id := fun i hi hl => by
    have := hs.2 i hi hl
    rw [hc] at this
    have := of_decide_eq_false this
    omega
  unfold ndIn
  rw [h0]
  by_cases hlt : ndAt l id < l.length
  · by_cases he : (l.getD (ndAt l id) default).id = id
    · have hf : fAt l id = ndAt l id := fAt_here hlt (fun j hj => by have := h1 j hj; omega) he
      simp only [hlt, he, hf, decide_true, Bool.and_true]
      exact ⟨trivial, fun _ => trivial⟩
    · have hf : fAt l id = l.length := fAt_none (fun j hj e => by
        by_cases hjl : j < ndAt l id
        · have := h1 j hjl; omega
        · have a1 := h2 _ (Nat.le_refl _) hlt
          by_cases hje : j = ndAt l id
          · subst hje; exact he e
          · have := up (ndAt l id) j (by omega) hj
            omega)
      simp only [hlt, he, hf, Nat.lt_irrefl, decide_true, decide_false, Bool.and_false]
      exact ⟨trivial, fun h => by cases h⟩
  · have hf : fAt l id = l.length := fAt_none (fun j hj e => by
      have := h1 j (by omega)
      omega)
    simp only [hlt, hf, Nat.lt_irrefl, decide_false, Bool.false_and]
    exact ⟨trivial, fun h => by cases h⟩
set_option maxRecDepth 20000 in
theorem TopoFinds_rc (l : List Nd) (id : Int) (M : List Blk) : CallR Try.prog M n_windroselaw06_TopoFinds [ndL l, .i id] (.b true) M := by
  refine callP F_windroselaw06_TopoFinds (Nat.le_of_ble_eq_true rfl) (by simp only [go_sem]) (by simp only [go_sem]) ?_ M
  simp only [c_windroselaw06_TopoFinds, go_sem]
  refine ⟨fun h => ?_, fun h => ?_⟩
  · refine call0 awake_rc ?_
    simp only [go_sem]
  have hl : l.length ≤ 40 := by simp at h; omega
  refine call0 (Find_rc l (by omega) id) ?_
  cases hok : okL l with
  | false =>
    simp only [Bool.and_false, Bool.false_eq_true, if_false, go_sem]
    refine call0 (Check_rc l) ?_
    simp only [go_sem, hok]
    refine call0 (May_rc l (by omega)) ?_
    simp only [go_sem, hok]
    refine call0 (May_rc l (by omega)) ?_
    simp only [go_sem, hok]
    refine callg0 (fun _ => awake_rc) ?_
    simp only [go_sem]
    decide
  | true =>
    have hs := find_same hok id
    by_cases hin : ndIn l id = true
    · simp only [hin, Bool.and_true, if_true, go_sem]
      refine call0 (Check_rc l) ?_
      simp only [go_sem, hok]
      refine call0 (May_rc l (by omega)) ?_
      simp only [go_sem, hok]
      refine call0 (May_rc l (by omega)) ?_
      simp only [go_sem, hok]
      refine call0 (rFind_rc l (by omega) id) ?_
      rw [← hs.1, hin, ← hs.2 hin]
      simp only [go_sem]
      refine callg0 (fun _ => awake_rc) ?_
      simp only [go_sem]
    · have hin : ndIn l id = false := by simpa using hin
      simp only [hin, Bool.and_true, Bool.false_eq_true, if_false, go_sem]
      refine call0 (Check_rc l) ?_
      simp only [go_sem, hok]
      refine call0 (May_rc l (by omega)) ?_
      simp only [go_sem, hok]
      refine call0 (May_rc l (by omega)) ?_
      simp only [go_sem, hok]
      refine call0 (rFind_rc l (by omega) id) ?_
      have hd : l.getD (fAt l id) default = default := by
        have h1 := hs.1
        rw [hin] at h1
        have := of_decide_eq_false h1.symm
        simp [List.getD_eq_getElem?_getD, List.getElem?_eq_none (by omega : l.length ≤ fAt l id)]
      rw [← hs.1, hin, hd]
      simp only [go_sem]
      refine callg0 (fun _ => awake_rc) ?_
      simp only [go_sem]
def sumTo (out : List Ch) (k : Nat) : Int := ((out.take k).map (·.2)).sum
theorem sumTo_succ {out : List Ch} {k : Nat} (h : k < out.length) : sumTo out (k + 1) = sumTo out k + (out.getD k (0, 0)).2 := by
  unfold sumTo
  rw [List.take_add_one, List.getElem?_eq_getElem h, getD_get h, List.map_append, List.sum_append]
  simp
theorem sumTo_all (out : List Ch) : sumTo out out.length = (out.map (·.2)).sum := by rw [sumTo, List.take_length]
theorem sumTo_bd {out : List Ch} (h : bdC out) : ∀ k, k ≤ out.length → 0 ≤ sumTo out k ∧ sumTo out k ≤ 65536 * k
  | 0, _ => by simp [sumTo]
  | k + 1, hk => by
    have := sumTo_bd h k (by omega)
    rw [sumTo_succ (by omega)]
    have := bd_get h k
    omega
theorem wUp_bd {is : Nd → Bool} {of : Nd → Int} : ∀ {l : List Nd} {out : List Ch}, wOk l → bdC out → bdC (l.foldl (wStep is of) out) ∧ (l.foldl (wStep is of) out).length ≤ out.length + l.length
  | [], out, _, h => ⟨h, Nat.le_refl _⟩
  | x :: l, out, hw, h => by
    have := wUp_bd (l := l) (is := is) (of := of) (fun y hy => hw y (by simp [hy])) (bd_step (is := is) (of := of) h (hw x (by simp)).1)
    have h2 := len_step (is := is) (of := of) (out := out) (x := x)
    simp only [List.foldl_cons, List.length_cons]
    exact ⟨this.1, by omega⟩
theorem weighS_bd {is : Nd → Bool} {of : Nd → Int} {l : List Nd} (hok : okL l = true) : bdC (weighS is of l) ∧ (weighS is of l).length ≤ 12 := by
  rw [weighS, if_pos hok, wUp]
  have := wUp_bd (is := is) (of := of) (okL_w hok) (out := []) (fun c hc => by simp at hc)
  simp [okL] at hok
  simp at this
  exact ⟨this.1, by omega⟩
set_option maxRecDepth 20000 in
theorem TopoSums_rc (l : List Nd) (M : List Blk) : CallR Try.prog M n_windroselaw06_TopoSums [ndL l] (.b true) M := by
  refine callP F_windroselaw06_TopoSums (Nat.le_of_ble_eq_true rfl) (by simp only [go_sem]) (by simp only [go_sem]) ?_ M
  simp only [c_windroselaw06_TopoSums, go_sem]
  refine callg0 (fun hc => May_rc l (by simp at hc; omega)) ?_
  simp only [go_sem]
  refine ⟨fun h => ?_, fun h => ?_⟩
  · refine call0 awake_rc ?_
    simp only [go_sem]
  have hok : okL l = true := by simp at h; exact h.2
  have hl : l.length ≤ 12 := by simp [okL] at hok; exact hok.1
  refine call0 (Leaves_rc l 0 0) ?_
  have e0 : (weighS (fun x => ((0 : Int) == 0 || x.zone == 0) && ((0 : Int) == 0 || x.rack == 0)) Nd.id l) = weighS (fun _ => true) Nd.id l := by simp
  rw [e0]
  simp only [go_sem]
  have hlv := weighS_bd (is := fun _ => true) (of := Nd.id) hok
  have hll := leaves_len hok
  have hall := all_zones hok
  generalize weighS (fun _ => true) Nd.id l = lv at hlv hll hall ⊢
  refine V_loop (ι := Nat) (J := fun k => k ≤ lv.length) (env := fun k => [(0, .p (ndL l)), (3, .i (sumTo lv k)), (4, .p (chL lv)), (5, .i k)]) (mem := fun _ => []) (μ := fun k => lv.length - k) 0 (Nat.zero_le _) (into0 (by simp only [go_sem]; rfl)) ?_
  intro k hk
  simp only [go_sem]
  have hb := sumTo_bd hlv.1 k hk
  refine ⟨fun h1 => ⟨by omega, k + 1, by omega, by omega, into0 ?_⟩, fun h1 => ?_⟩
  · have hg := bd_get hlv.1 k
    simp only [go_sem, sumTo_succ h1, w64s (show k < 9223372036854775807 by omega)]
    exact w64 (by omega) (by omega)
  obtain rfl : k = lv.length := by omega
  rw [sumTo_all] at hb ⊢
  refine call0 (Zones_rc l) ?_
  simp only [go_sem]
  have hzb := weighS_bd (is := fun _ => true) (of := Nd.zone) hok
  have hrk : ∀ c ∈ weighS (fun _ => true) Nd.zone l, _ := fun c hc => zone_racks hok hc
  generalize weighS (fun _ => true) Nd.zone l = zs at hzb hall hrk ⊢
  refine V_loop (ι := Nat) (J := fun k => k ≤ zs.length) (env := fun k => [(0, .p (ndL l)), (3, .i ((lv.map (·.2)).sum)), (4, .p (chL lv)), (6, .i (sumTo zs k)), (7, .p (chL zs)), (8, .i k)]) (mem := fun _ => []) (μ := fun k => zs.length - k) 0 (Nat.zero_le _) (into0 (by simp only [go_sem]; rfl)) ?_
  intro k hk
  simp only [go_sem]
  have hbz := sumTo_bd hzb.1 k hk
  refine ⟨fun h1 => ⟨by omega, ?_⟩, fun h1 => ?_⟩
  · refine call0 (Racks_rc l _) ?_
    simp only [go_sem]
    have hr := hrk _ (getD_mem (0, 0) h1)
    have hcz := bd_get hzb.1 k
    have hrb := weighS_bd (is := fun x => x.zone == (zs.getD k (0, 0)).1) (of := Nd.rack) hok
    generalize weighS (fun x => x.zone == (zs.getD k (0, 0)).1) Nd.rack l = rs at hr hrb ⊢
    refine V_loop (ι := Nat) (J := fun j => j ≤ rs.length) (env := fun j => [(0, .p (ndL l)), (3, .i ((lv.map (·.2)).sum)), (4, .p (chL lv)), (6, .i (sumTo zs k)), (7, .p (chL zs)), (8, .i k), (9, .p (chL rs)), (10, .i (sumTo rs j)), (11, .i j)]) (mem := fun _ => []) (μ := fun j => rs.length - j) 0 (Nat.zero_le _) (into0 (by simp only [go_sem]; rfl)) ?_
    intro j hj
    simp only [go_sem]
    have hbr := sumTo_bd hrb.1 j hj
    refine ⟨fun h2 => ⟨by omega, j + 1, by omega, by omega, into0 ?_⟩, fun h2 => ?_⟩
    · have hg := bd_get hrb.1 j
      simp only [go_sem, sumTo_succ h2, w64s (show j < 9223372036854775807 by omega)]
      exact w64 (by omega) (by omega)
    obtain rfl : j = rs.length := by omega
    rw [sumTo_all] at hbr ⊢
    refine ⟨by omega, fun _ => by omega, fun _ => by omega, fun hc => ?_, fun hc => ⟨by omega, k + 1, by omega, by omega, into0 ?_⟩⟩
    · simp only [Bool.or_eq_true, Bool.and_eq_true, decide_eq_true_eq, bne_iff_ne, ne_eq] at hc
      omega
    · simp only [go_sem, sumTo_succ h1, w64s (show k < 9223372036854775807 by omega)]
      exact w64 (by omega) (by omega)
  obtain rfl : k = zs.length := by omega
  rw [sumTo_all] at hbz ⊢
  simp only [go_sem, hll]
  have hcc : (decide (65536 ≤ (List.map (fun x => x.snd) lv).sum) || (List.map (fun x => x.snd) zs).sum == (List.map (fun x => x.snd) lv).sum) = true := by
    simp only [Bool.or_eq_true, decide_eq_true_eq, beq_iff_eq]
    exact hall
  rw [hcc]
  refine callg0 (fun _ => awake_rc) ?_
  simp only [go_sem]
end Go.Proofs.Ytkfakciimeiehaa.A
