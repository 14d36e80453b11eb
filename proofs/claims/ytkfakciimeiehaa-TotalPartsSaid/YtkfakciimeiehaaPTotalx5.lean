-- PRINTED by print.py (a twelfth state) out of the translation. Not trusted: Lean checks it.
import Derived.Test.YtkfakciimeiehaaPTotalx0
import Derived.Test.YtkfakciimeiehaaPTotalx1
import Derived.Test.YtkfakciimeiehaaPTotalx2
namespace Go.Proofs.Ytkfakciimeiehaa.PTotal
open Go.RowKit Go.Proofs.YtkfakciimeiehaaW.PrintWords Go.Proofs.YtkfakciimeiehaaW.PrintLast Go.Proofs.YtkfakciimeiehaaW.PrintMore
attribute [local go_sem] max2_int min2_int max_two min_two max_three min_three max_four min_four   -- for this text's walks alone
set_option linter.unusedVariables false
set_option linter.unusedSimpArgs false

/-! ### windroselaw13_TotalParts: function 5 -/
mutual
def windroselaw13_TotalParts.j0 : Nat → Int → List (S84) → Int → Bool → Option (Bool)
  | 0, _, _, _, _ => none
  | k + 1, x0, x1, x2, x31 => if x31 = true then ((windroselaw13_awake.f k).bind fun t147 => (some t147)) else (if (wrap64 ((x1.length : Int) + 1)) = 0 then (none) else (if 0 ≤ (Int.tmod (wrap64 (x2)) (wrap64 ((x1.length : Int) + 1))) then (if (Int.tmod (wrap64 (x2)) (wrap64 ((x1.length : Int) + 1))) ≤ (x1.length : Int) then ((total_Of.f k x0 (x1.take ((Int.tmod (wrap64 (x2)) (wrap64 ((x1.length : Int) + 1))) : Int).toNat)).bind fun bt152 => ((total_Of.f k x0 (x1.drop ((Int.tmod (wrap64 (x2)) (wrap64 ((x1.length : Int) + 1))) : Int).toNat)).bind fun bt158 => ((total_Of.f k x0 x1).bind fun bt160 => (if bt152.2 = true then (windroselaw13_TotalParts.j1 k x0 x1 bt152.1 bt152.2 bt158.1 bt158.2 bt160.1 bt160.2 (!bt158.2)) else (windroselaw13_TotalParts.j1 k x0 x1 bt152.1 bt152.2 bt158.1 bt158.2 bt160.1 bt160.2 true))))) else (none)) else (none)))
def windroselaw13_TotalParts.j1 : Nat → Int → List (S84) → Int → Bool → Int → Bool → Int → Bool → Bool → Option (Bool)
  | 0, _, _, _, _, _, _, _, _, _ => none
  | k + 1, x0, x1, x8, x9, x10, x11, x12, x13, x66 => if x66 = true then (if (x13 == (decide ((x1.length : Int) > 0))) = true then (if x9 = true then (if x12 = x8 then (if x11 = true then (if x12 = x10 then ((windroselaw13_awake.f k).bind fun t162 => (some t162)) else (some false)) else ((windroselaw13_awake.f k).bind fun t163 => (some t163))) else (some false)) else (if x11 = true then (if x12 = x10 then ((windroselaw13_awake.f k).bind fun t164 => (some t164)) else (some false)) else ((windroselaw13_awake.f k).bind fun t165 => (some t165)))) else (some false)) else ((total_Fold.f k x0 x8 x10).bind fun bt166 => (if x13 = true then (if bt166.2 = true then (if x12 = bt166.1 then ((windroselaw13_awake.f k).bind fun t168 => (some t168)) else (some false)) else (some false)) else (some false)))
end
def windroselaw13_TotalParts.f (k : Nat) (a0 : Int) (l1 : List (S84)) (a2 : Int) : Option (Bool) := if (l1.length : Int) > 64 then (windroselaw13_TotalParts.j0 k a0 l1 a2 true) else ((windroseref11_May.f k l1).bind fun t146 => (if t146 = true then (if a0 < 1 then (windroselaw13_TotalParts.j0 k a0 l1 a2 true) else (windroselaw13_TotalParts.j0 k a0 l1 a2 (decide (a0 > 4)))) else (windroselaw13_TotalParts.j0 k a0 l1 a2 true)))
theorem windroselaw13_TotalParts.mono_l : ∀ k, (∀ y0 y1 y2 y3, LeO (windroselaw13_TotalParts.j0 k y0 y1 y2 y3) (windroselaw13_TotalParts.j0 (k + 1) y0 y1 y2 y3)) ∧ (∀ y0 y1 y2 y3 y4 y5 y6 y7 y8, LeO (windroselaw13_TotalParts.j1 k y0 y1 y2 y3 y4 y5 y6 y7 y8) (windroselaw13_TotalParts.j1 (k + 1) y0 y1 y2 y3 y4 y5 y6 y7 y8))
  | 0 => ⟨fun _ _ _ _ r h => by simp [windroselaw13_TotalParts.j0] at h, fun _ _ _ _ _ _ _ _ _ r h => by simp [windroselaw13_TotalParts.j1] at h⟩
  | k + 1 => by
    obtain ⟨ih0, ih1⟩ := windroselaw13_TotalParts.mono_l k
    refine ⟨?_, ?_⟩
    · intro y0 y1 y2 y3
      unfold windroselaw13_TotalParts.j0
      repeat' first
      | (with_reducible exact ih0 _ _ _ _)
      | (with_reducible exact ih1 _ _ _ _ _ _ _ _ _)
      | (with_reducible exact total_Fold.mono _ _ _ _)
      | (with_reducible exact total_Of.mono _ _ _)
      | (with_reducible exact windroselaw13_awake.mono _)
      | (with_reducible exact windroseref11_May.mono _ _)
      | (with_reducible exact LeO.refl _)
      | (with_reducible exact LeO.none _)
      | (with_reducible refine LeO.ite ?_ ?_)
      | (with_reducible refine LeO.bind ?_ (fun _ => ?_))
      | exact ih0 _ _ _ _
      | exact ih1 _ _ _ _ _ _ _ _ _
      | exact total_Fold.mono _ _ _ _
      | exact total_Of.mono _ _ _
      | exact windroselaw13_awake.mono _
      | exact windroseref11_May.mono _ _
      | exact LeO.none _
      | refine LeO.ite ?_ ?_
      | refine LeO.bind ?_ (fun _ => ?_)
    · intro y0 y1 y2 y3 y4 y5 y6 y7 y8
      unfold windroselaw13_TotalParts.j1
      repeat' first
      | (with_reducible exact ih0 _ _ _ _)
      | (with_reducible exact ih1 _ _ _ _ _ _ _ _ _)
      | (with_reducible exact total_Fold.mono _ _ _ _)
      | (with_reducible exact total_Of.mono _ _ _)
      | (with_reducible exact windroselaw13_awake.mono _)
      | (with_reducible exact windroseref11_May.mono _ _)
      | (with_reducible exact LeO.refl _)
      | (with_reducible exact LeO.none _)
      | (with_reducible refine LeO.ite ?_ ?_)
      | (with_reducible refine LeO.bind ?_ (fun _ => ?_))
      | exact ih0 _ _ _ _
      | exact ih1 _ _ _ _ _ _ _ _ _
      | exact total_Fold.mono _ _ _ _
      | exact total_Of.mono _ _ _
      | exact windroselaw13_awake.mono _
      | exact windroseref11_May.mono _ _
      | exact LeO.none _
      | refine LeO.ite ?_ ?_
      | refine LeO.bind ?_ (fun _ => ?_)
theorem windroselaw13_TotalParts.mono : ∀ a0 a1 a2 k, LeO (windroselaw13_TotalParts.f k a0 a1 a2) (windroselaw13_TotalParts.f (k + 1) a0 a1 a2) := by
  intro a0 a1 a2 k
  obtain ⟨ih0, ih1⟩ := windroselaw13_TotalParts.mono_l k
  unfold windroselaw13_TotalParts.f
  repeat' first
      | (with_reducible exact ih0 _ _ _ _)
      | (with_reducible exact ih1 _ _ _ _ _ _ _ _ _)
      | (with_reducible exact total_Fold.mono _ _ _ _)
      | (with_reducible exact total_Of.mono _ _ _)
      | (with_reducible exact windroselaw13_awake.mono _)
      | (with_reducible exact windroseref11_May.mono _ _)
      | (with_reducible exact LeO.refl _)
      | (with_reducible exact LeO.none _)
      | (with_reducible refine LeO.ite ?_ ?_)
      | (with_reducible refine LeO.bind ?_ (fun _ => ?_))
      | exact ih0 _ _ _ _
      | exact ih1 _ _ _ _ _ _ _ _ _
      | exact total_Fold.mono _ _ _ _
      | exact total_Of.mono _ _ _
      | exact windroselaw13_awake.mono _
      | exact windroseref11_May.mono _ _
      | exact LeO.none _
      | refine LeO.ite ?_ ?_
      | refine LeO.bind ?_ (fun _ => ?_)
set_option maxHeartbeats 8000000 in
set_option maxRecDepth 100000 in
theorem windroselaw13_TotalParts.calls (k : Nat) (a0 : Int) (A1 : Option Addr) (c1 : Nat) (l1 : List (S84)) (a2 : Int) (r : Bool) (w : World) (hr1 : Kd.C k84 w A1 l1.length l1) (hc1 : l1.length ≤ c1) (h : windroselaw13_TotalParts.f k a0 l1 a2 = some r) :
    Calls Try.prog 5 #[.int .i64 a0, .slice A1 l1.length c1, .int .u8 a2] w fun e w' => e = .returned (.bool r) ∧ Below w.heap.size w w' := by
  have HR1 := Aside0.mk hr1
  have HC1 := Aside0.mk hc1
  clear hr1 hc1
  have HB := Aside0.mk (Below.refl w.heap.size w)
  have H : (if (l1.length : Int) > 64 then (windroselaw13_TotalParts.j0 k a0 l1 a2 true) else ((windroseref11_May.f k l1).bind fun t146 => (if t146 = true then (if a0 < 1 then (windroselaw13_TotalParts.j0 k a0 l1 a2 true) else (windroselaw13_TotalParts.j0 k a0 l1 a2 (decide (a0 > 4)))) else (windroselaw13_TotalParts.j0 k a0 l1 a2 true)))) = some r := h
  clear h
  have HC4 := Aside0.mk H
  clear H
  go_enter Try.func5, Try.ntmps5
  go_upto_region 1 with (fail)
  go_cut [31] (fun v31 wc => ∃ (kq : Nat) (x31_3 : Bool), v31 = .bool x31_3 ∧ Aside0 (windroselaw13_TotalParts.j0 kq a0 l1 a2 x31_3 = some r) ∧ Aside0 (kq ≤ k) ∧ Aside0 (Below w.heap.size w wc))
  case first =>
    have H := HC4.out
    clear HC4
    by_cases c5 : (l1.length : Int) > 64
    · rw [if_pos c5] at H
      have c5b0 : decide (64 < (l1.length : Int)) = true := decide_eq_true c5
      have c5b1 : decide (64 < l1.length) = true := decide_eq_true (by omega)
      clear c5
      (first | rw [c5b0] | (simp only [i64_w, i32_w]; rw [c5b0]) | skip)
      have H' := Aside0.mk H
      clear H
      go_wp2
      go_meet
      case rel => exact ⟨_, (true), (by first | rfl | (simp; done) | (simp [*]; done)), H', ⟨by first | omega | exact Nat.le_refl _⟩, ⟨by repeat (first | (with_reducible first | exact HB.out | apply below_alloc | apply pw_below_drewN | apply below_drew1) | exact HB.out)⟩⟩
    · rw [if_neg c5] at H
      have c5b0 : decide (64 < (l1.length : Int)) = false := decide_eq_false c5
      have c5b1 : decide (64 < l1.length) = false := decide_eq_false (by omega)
      clear c5
      (first | rw [c5b0] | (simp only [i64_w, i32_w]; rw [c5b0]) | skip)
      replace H := Option.bind_eq_some_iff.mp H
      obtain ⟨t146, A60, H⟩ := H
      replace H : (if t146 = true then (if a0 < 1 then (windroselaw13_TotalParts.j0 k a0 l1 a2 true) else (windroselaw13_TotalParts.j0 k a0 l1 a2 (decide (a0 > 4)))) else (windroselaw13_TotalParts.j0 k a0 l1 a2 true)) = some r := H
      have A6 := Aside0.mk A60
      clear A60
      by_cases c7 : t146 = true
      · subst c7
        have H1 : (if a0 < 1 then (windroselaw13_TotalParts.j0 k a0 l1 a2 true) else (windroselaw13_TotalParts.j0 k a0 l1 a2 (decide (a0 > 4)))) = some r := by rw [if_pos rfl] at H; exact H
        clear H
        have H := H1
        clear H1
        by_cases c8 : a0 < 1
        · rw [if_pos c8] at H
          have c8b0 : decide (a0 < 1) = true := decide_eq_true c8
          clear c8
          have H' := Aside0.mk H
          clear H
          go_wp2_with (first | (go_at_call 19; (with_reducible refine (windroseref11_May.calls k _ _ l1 true _ ?side1 ?side2 A6.out).mono ?_); (case side1 => repeat (first | exact (Kd.C_below HR1.out HB.out) | (with_reducible refine Kd.C_alloc ?_ _) | (with_reducible refine Kd.C_drewN ?_ _) | (with_reducible refine Kd.C_drew ?_))); (case side2 => exact HC1.out); rintro e w' ⟨rfl, ⟨nd, rfl⟩⟩))
          go_meet
          case rel => exact ⟨_, (true), (by first | rfl | (simp; done) | (simp [*]; done)), H', ⟨by first | omega | exact Nat.le_refl _⟩, ⟨by repeat (first | (with_reducible first | exact HB.out | apply below_alloc | apply pw_below_drewN | apply below_drew1) | exact HB.out)⟩⟩
        · rw [if_neg c8] at H
          have c8b0 : decide (a0 < 1) = false := decide_eq_false c8
          clear c8
          have H' := Aside0.mk H
          clear H
          go_wp2_with (first | (go_at_call 19; (with_reducible refine (windroseref11_May.calls k _ _ l1 true _ ?side1 ?side2 A6.out).mono ?_); (case side1 => repeat (first | exact (Kd.C_below HR1.out HB.out) | (with_reducible refine Kd.C_alloc ?_ _) | (with_reducible refine Kd.C_drewN ?_ _) | (with_reducible refine Kd.C_drew ?_))); (case side2 => exact HC1.out); rintro e w' ⟨rfl, ⟨nd, rfl⟩⟩))
          go_meet
          case rel => exact ⟨_, (decide (a0 > 4)), (by first | rfl | (simp; done) | (simp [*]; done)), H', ⟨by first | omega | exact Nat.le_refl _⟩, ⟨by repeat (first | (with_reducible first | exact HB.out | apply below_alloc | apply pw_below_drewN | apply below_drew1) | exact HB.out)⟩⟩
      · replace c7 := Bool.eq_false_iff.mpr c7
        subst c7
        have H1 : (windroselaw13_TotalParts.j0 k a0 l1 a2 true) = some r := by rw [if_neg (show ¬ (false = true) by decide)] at H; exact H
        clear H
        have H := H1
        clear H1
        have H' := Aside0.mk H
        clear H
        go_wp2_with (first | (go_at_call 19; (with_reducible refine (windroseref11_May.calls k _ _ l1 false _ ?side1 ?side2 A6.out).mono ?_); (case side1 => repeat (first | exact (Kd.C_below HR1.out HB.out) | (with_reducible refine Kd.C_alloc ?_ _) | (with_reducible refine Kd.C_drewN ?_ _) | (with_reducible refine Kd.C_drew ?_))); (case side2 => exact HC1.out); rintro e w' ⟨rfl, ⟨nd, rfl⟩⟩))
        go_meet
        case rel => exact ⟨_, (true), (by first | rfl | (simp; done) | (simp [*]; done)), H', ⟨by first | omega | exact Nat.le_refl _⟩, ⟨by repeat (first | (with_reducible first | exact HB.out | apply below_alloc | apply pw_below_drewN | apply below_drew1) | exact HB.out)⟩⟩
  case rest =>
    clear HC4
    try clear c1
    try clear p2
    try clear c5
    try clear c5b0
    try clear c5b1
    try clear c7
    try clear c8
    try clear c8b0
    obtain ⟨kq, x31_3, rfl, HA, HJ3, HB⟩ := hcut
    cases kq with
    | zero => exact absurd HA.out (by simp [windroselaw13_TotalParts.j0])
    | succ kj3 =>
      have H := HA.out
      clear HA
      simp only [windroselaw13_TotalParts.j0] at H
      by_cases c9 : x31_3 = true
      · subst c9
        have H1 : ((windroselaw13_awake.f kj3).bind fun t147 => (some t147)) = some r := by rw [if_pos rfl] at H; exact H
        clear H
        have H := H1
        clear H1
        replace H := Option.bind_eq_some_iff.mp H
        obtain ⟨t147, A100, H⟩ := H
        replace H : (some t147) = some r := H
        have A10 := Aside0.mk A100
        clear A100
        obtain rfl := Option.some.inj H
        go_wp2_with (first | ((with_reducible refine gate_callee (f := 15) rfl ?_); refine goesL_ (some 32) rfl rfl Try.func15 (by kernel_rfl) rfl #[] rfl (by (try simp only [List.map_toArray, List.map_cons, List.map_nil]); first | done | rfl | (simp only [List.length_drop, List.length_take]; rfl)) ?_; (with_reducible refine (windroselaw13_awake.calls kj3  t147 _ A10.out).mono ?_); rintro e w11 ⟨rfl, hb⟩; refine ⟨_, rfl, ?_⟩; have n0_ := Aside0.mk (below_step (by repeat (first | (with_reducible first | exact HB.out | apply below_alloc | apply pw_below_drewN | apply below_drew1) | exact HB.out)) hb); clear HB; have HB := n0_; clear n0_; (try clear hb); (try clear hb2); (try clear hk); (try clear hi)))
        go_ret
        exact ⟨by first | rfl | (simp [errW_none, errW_some] <;> rfl) | (simp [*, errW_none, errW_some] <;> rfl), by repeat (first | (with_reducible first | exact HB.out | apply below_alloc | apply pw_below_drewN | apply below_drew1) | exact HB.out)⟩
      · replace c9 := Bool.eq_false_iff.mpr c9
        subst c9
        have H1 : (if (wrap64 ((l1.length : Int) + 1)) = 0 then (none) else (if 0 ≤ (Int.tmod (wrap64 (a2)) (wrap64 ((l1.length : Int) + 1))) then (if (Int.tmod (wrap64 (a2)) (wrap64 ((l1.length : Int) + 1))) ≤ (l1.length : Int) then ((total_Of.f kj3 a0 (l1.take ((Int.tmod (wrap64 (a2)) (wrap64 ((l1.length : Int) + 1))) : Int).toNat)).bind fun bt152 => ((total_Of.f kj3 a0 (l1.drop ((Int.tmod (wrap64 (a2)) (wrap64 ((l1.length : Int) + 1))) : Int).toNat)).bind fun bt158 => ((total_Of.f kj3 a0 l1).bind fun bt160 => (if bt152.2 = true then (windroselaw13_TotalParts.j1 kj3 a0 l1 bt152.1 bt152.2 bt158.1 bt158.2 bt160.1 bt160.2 (!bt158.2)) else (windroselaw13_TotalParts.j1 kj3 a0 l1 bt152.1 bt152.2 bt158.1 bt158.2 bt160.1 bt160.2 true))))) else (none)) else (none))) = some r := by rw [if_neg (show ¬ (false = true) by decide)] at H; exact H
        clear H
        have H := H1
        clear H1
        by_cases c12 : (wrap64 ((l1.length : Int) + 1)) = 0
        · rw [if_pos c12] at H
          exact absurd H (by simp)
        · rw [if_neg c12] at H
          have c12b0 : ((wrap64 ((l1.length : Int) + 1)) == 0) = false := beq_eq_false_iff_ne.mpr c12
          have c12b1 : ((wrap64 ((l1.length : Int) + 1)) != 0) = true := bne_iff_ne.mpr c12
          obtain ⟨ji13, hji13⟩ : ∃ j_ : Int, (Int.tmod (wrap64 (a2)) (wrap64 ((l1.length : Int) + 1))) = j_ := ⟨_, rfl⟩
          replace H : (if 0 ≤ (ji13) then (if (ji13) ≤ (l1.length : Int) then ((total_Of.f kj3 a0 (l1.take ((ji13) : Int).toNat)).bind fun bt152 => ((total_Of.f kj3 a0 (l1.drop ((ji13) : Int).toNat)).bind fun bt158 => ((total_Of.f kj3 a0 l1).bind fun bt160 => (if bt152.2 = true then (windroselaw13_TotalParts.j1 kj3 a0 l1 bt152.1 bt152.2 bt158.1 bt158.2 bt160.1 bt160.2 (!bt158.2)) else (windroselaw13_TotalParts.j1 kj3 a0 l1 bt152.1 bt152.2 bt158.1 bt158.2 bt160.1 bt160.2 true))))) else (none)) else (none)) = some r := by first | (rw [hji13] at H; exact H) | (simp only [hji13] at H ⊢; exact H)
          by_cases c14 : 0 ≤ (ji13)
          · rw [if_pos c14] at H
            have c14b0 := eq_true c14
            have c14b1 : decide (0 ≤ (ji13)) = true := decide_eq_true c14
            clear c14
            by_cases c15 : (ji13) ≤ (l1.length : Int)
            · rw [if_pos c15] at H
              have c15b0 := eq_true c15
              have c15b1 : decide ((ji13) ≤ (l1.length : Int)) = true := decide_eq_true c15
              clear c15
              obtain ⟨y148, hy148⟩ : ∃ y_ : List (S84), y_ = (l1.take ((ji13) : Int).toNat) := ⟨_, rfl⟩
              replace H : ((total_Of.f kj3 a0 y148).bind fun bt152 => ((total_Of.f kj3 a0 (l1.drop ((ji13) : Int).toNat)).bind fun bt158 => ((total_Of.f kj3 a0 l1).bind fun bt160 => (if bt152.2 = true then (windroselaw13_TotalParts.j1 kj3 a0 l1 bt152.1 bt152.2 bt158.1 bt158.2 bt160.1 bt160.2 (!bt158.2)) else (windroselaw13_TotalParts.j1 kj3 a0 l1 bt152.1 bt152.2 bt158.1 bt158.2 bt160.1 bt160.2 true))))) = some r := by first | (rw [hy148]; with_reducible exact H) | (have H2_ := (Option.bind_some _ _).symm.trans H; rw [hy148]; with_reducible exact H2_) | (have H2_ := (Option.bind_some _ _).symm.trans H; with_reducible exact H2_) | with_reducible exact H | (rw [hy148]; exact H) | exact H
              have Ny148 := Aside0.mk hy148
              clear hy148
              replace H := Option.bind_eq_some_iff.mp H
              obtain ⟨⟨t152, t153⟩, A160, H⟩ := H
              replace H : ((total_Of.f kj3 a0 (l1.drop ((ji13) : Int).toNat)).bind fun bt158 => ((total_Of.f kj3 a0 l1).bind fun bt160 => (if t153 = true then (windroselaw13_TotalParts.j1 kj3 a0 l1 t152 t153 bt158.1 bt158.2 bt160.1 bt160.2 (!bt158.2)) else (windroselaw13_TotalParts.j1 kj3 a0 l1 t152 t153 bt158.1 bt158.2 bt160.1 bt160.2 true)))) = some r := H
              have A16 := Aside0.mk A160
              clear A160
              have c17b0 := eq_true (of_decide_eq_true (by first | (with_reducible assumption) | assumption) : 0 ≤ (ji13))
              have c18b0 := eq_true (of_decide_eq_true (by first | (with_reducible assumption) | assumption) : (ji13) ≤ (l1.length : Int))
              obtain ⟨y154, hy154⟩ : ∃ y_ : List (S84), y_ = (l1.drop ((ji13) : Int).toNat) := ⟨_, rfl⟩
              replace H : ((total_Of.f kj3 a0 y154).bind fun bt158 => ((total_Of.f kj3 a0 l1).bind fun bt160 => (if t153 = true then (windroselaw13_TotalParts.j1 kj3 a0 l1 t152 t153 bt158.1 bt158.2 bt160.1 bt160.2 (!bt158.2)) else (windroselaw13_TotalParts.j1 kj3 a0 l1 t152 t153 bt158.1 bt158.2 bt160.1 bt160.2 true)))) = some r := by first | (rw [hy154]; with_reducible exact H) | (have H2_ := (Option.bind_some _ _).symm.trans H; rw [hy154]; with_reducible exact H2_) | (have H2_ := (Option.bind_some _ _).symm.trans H; with_reducible exact H2_) | with_reducible exact H | (rw [hy154]; exact H) | exact H
              have Ny154 := Aside0.mk hy154
              clear hy154
              replace H := Option.bind_eq_some_iff.mp H
              obtain ⟨⟨t158, t159⟩, A190, H⟩ := H
              replace H : ((total_Of.f kj3 a0 l1).bind fun bt160 => (if t153 = true then (windroselaw13_TotalParts.j1 kj3 a0 l1 t152 t153 t158 t159 bt160.1 bt160.2 (!t159)) else (windroselaw13_TotalParts.j1 kj3 a0 l1 t152 t153 t158 t159 bt160.1 bt160.2 true))) = some r := H
              have A19 := Aside0.mk A190
              clear A190
              replace H := Option.bind_eq_some_iff.mp H
              obtain ⟨⟨t160, t161⟩, A200, H⟩ := H
              replace H : (if t153 = true then (windroselaw13_TotalParts.j1 kj3 a0 l1 t152 t153 t158 t159 t160 t161 (!t159)) else (windroselaw13_TotalParts.j1 kj3 a0 l1 t152 t153 t158 t159 t160 t161 true)) = some r := H
              have A20 := Aside0.mk A200
              clear A200
              have HC21 := Aside0.mk H
              clear H
              have q22 : ((ji13) : Int) ≤ ((l1.length : Int) : Int) := of_decide_eq_true (by first | (with_reducible assumption) | assumption)
              obtain ⟨i022, hi022, _, hsz22, _⟩ := info_parts info84
              have hroom22 : l1.length ≤ c1 := HC1.out
              have hC22 : Kd.C k84 _ A1 l1.length l1 := HR1.out
              have hcut22 := cut_to (P := Try.prog) 22 84 .i64 Try.underlying22 hi022 A1 l1.length c1 (ji13) (of_decide_eq_true (by first | (with_reducible assumption) | assumption)) q22 hroom22
              have hr22 := Kd.C_take (m := ((ji13) : Int).toNat) hC22 (by omega)
              have hy22 : y148.length = ((ji13) : Int).toNat := (by rw [Ny148.out, List.length_take]; omega)
              rw [← Ny148.out] at hr22
              rw [← hy22] at hcut22
              have HR151 := Aside0.mk hr22
              have HC151 := Aside0.mk (show y148.length ≤ c1 from by omega)
              clear hr22 hC22 hroom22 hi022 hsz22
              have KY22 := Aside0.mk hy22
              clear hy22
              replace q22 := eq_true q22
              go_upto_region 7 with (first | ((with_reducible refine gate_callee (f := 16) rfl ?_); refine goesL_ (some 44) rfl rfl Try.func16 (by kernel_rfl) rfl #[.int .i64 a0, .slice A1 y148.length c1] rfl (by (try simp only [List.map_toArray, List.map_cons, List.map_nil]); first | done | rfl | (simp only [List.length_drop, List.length_take]; rfl)) ?_; (with_reducible refine (total_Of.calls kj3 a0 _ _ y148 t152 t153 _ ?side1 ?side2 A16.out).mono ?_); (case side1 => repeat (first | exact (Kd.C_below HR151.out HB.out) | (with_reducible refine Kd.C_alloc ?_ _) | (with_reducible refine Kd.C_drewN ?_ _) | (with_reducible refine Kd.C_drew ?_))); (case side2 => exact HC151.out); rintro e w23 ⟨rfl, hb⟩; refine ⟨_, rfl, ?_⟩; have n0_ := Aside0.mk (below_step (by repeat (first | (with_reducible first | exact HB.out | apply below_alloc | apply pw_below_drewN | apply below_drew1) | exact HB.out)) hb); clear HB; have HB := n0_; clear n0_; (try clear hb); (try clear hb2); (try clear hk); (try clear hi); have q24 : ((ji13) : Int) ≤ ((l1.length : Int) : Int) := of_decide_eq_true (by first | (with_reducible assumption) | assumption); obtain ⟨i024, hi024, _, hsz24, _⟩ := info_parts info84; have hroom24 : l1.length ≤ c1 := HC1.out; have hC24 : Kd.C k84 _ A1 l1.length l1 := HR1.out; have q024 : (0 : Int) ≤ ((ji13) : Int) := of_decide_eq_true (by first | (with_reducible assumption) | assumption); have hcut24 := cut_from (P := Try.prog) 22 84 .i64 Try.underlying22 hi024 2 hsz24 A1 l1.length c1 (ji13) q024 q24; have hr24 := Kd.C_drop (m := ((ji13) : Int).toNat) (c := c1) hC24 (by omega) hroom24; obtain ⟨A24, hA24⟩ : ∃ A1_, A1_ = (if c1 = ((ji13) : Int).toNat then A1 else (A1 : Option Addr).map (·.add (((ji13) : Int).toNat * 2))) := ⟨_, rfl⟩; obtain ⟨c24, hc24⟩ : ∃ c1_, c1_ = c1 - ((ji13) : Int).toNat := ⟨_, rfl⟩; have hy24 : y154.length = l1.length - ((ji13) : Int).toNat := (by rw [Ny154.out, List.length_drop] <;> omega); rw [show (l1).drop ((ji13) : Int).toNat = y154 from Ny154.out.symm] at hr24; replace hr24 : Kd.C k84 _ A24 y154.length y154 := (by rw [hA24]; exact hr24); rw [← hy24, ← hA24, ← hc24] at hcut24; have HR157 := Aside0.mk hr24; have HC157 := Aside0.mk (show y154.length ≤ c24 from by rw [hy24, hc24]; exact Nat.sub_le_sub_right hroom24 _); clear hr24 hC24 hroom24 hi024 hsz24 hc24; have KY24 := Aside0.mk hy24; have KA24 := Aside0.mk hA24; clear hy24 hA24; replace q24 := eq_true q24) | ((with_reducible refine gate_callee (f := 16) rfl ?_); refine goesL_ (some 52) rfl rfl Try.func16 (by kernel_rfl) rfl #[.int .i64 a0, .slice A24 y154.length c24] rfl (by (try simp only [List.map_toArray, List.map_cons, List.map_nil]); first | done | rfl | (simp only [List.length_drop, List.length_take]; rfl)) ?_; (with_reducible refine (total_Of.calls kj3 a0 _ _ y154 t158 t159 _ ?side1 ?side2 A19.out).mono ?_); (case side1 => repeat (first | exact (Kd.C_below HR157.out HB.out) | (with_reducible refine Kd.C_alloc ?_ _) | (with_reducible refine Kd.C_drewN ?_ _) | (with_reducible refine Kd.C_drew ?_))); (case side2 => exact HC157.out); rintro e w25 ⟨rfl, hb⟩; refine ⟨_, rfl, ?_⟩; have n0_ := Aside0.mk (below_step (by repeat (first | (with_reducible first | exact HB.out | apply below_alloc | apply pw_below_drewN | apply below_drew1) | exact HB.out)) hb); clear HB; have HB := n0_; clear n0_; (try clear hb); (try clear hb2); (try clear hk); (try clear hi)) | ((with_reducible refine gate_callee (f := 16) rfl ?_); refine goesL_ (some 58) rfl rfl Try.func16 (by kernel_rfl) rfl #[.int .i64 a0, .slice A1 l1.length c1] rfl (by (try simp only [List.map_toArray, List.map_cons, List.map_nil]); first | done | rfl | (simp only [List.length_drop, List.length_take]; rfl)) ?_; (with_reducible refine (total_Of.calls kj3 a0 _ _ l1 t160 t161 _ ?side1 ?side2 A20.out).mono ?_); (case side1 => repeat (first | exact (Kd.C_below HR1.out HB.out) | (with_reducible refine Kd.C_alloc ?_ _) | (with_reducible refine Kd.C_drewN ?_ _) | (with_reducible refine Kd.C_drew ?_))); (case side2 => exact HC1.out); rintro e w26 ⟨rfl, hb⟩; refine ⟨_, rfl, ?_⟩; have n0_ := Aside0.mk (below_step (by repeat (first | (with_reducible first | exact HB.out | apply below_alloc | apply pw_below_drewN | apply below_drew1) | exact HB.out)) hb); clear HB; have HB := n0_; clear n0_; (try clear hb); (try clear hb2); (try clear hk); (try clear hi)))
              (try simp only [Act.put, List.setIfInBounds_toArray, List.set_cons_zero, List.set_cons_succ])
              go_cut [66] (fun v66 wc => ∃ (kq : Nat) (x66_20 : Bool), v66 = .bool x66_20 ∧ Aside0 (windroselaw13_TotalParts.j1 kq a0 l1 t152 t153 t158 t159 t160 t161 x66_20 = some r) ∧ Aside0 (kq ≤ kj3) ∧ Aside0 (Below w.heap.size w wc))
              case first =>
                have H := HC21.out
                clear HC21
                by_cases c27 : t153 = true
                · subst c27
                  have H1 : (windroselaw13_TotalParts.j1 kj3 a0 l1 t152 true t158 t159 t160 t161 (!t159)) = some r := by rw [if_pos rfl] at H; exact H
                  clear H
                  have H := H1
                  clear H1
                  have H' := Aside0.mk H
                  clear H
                  go_wp2
                  go_meet
                  case rel => exact ⟨_, (!t159), (by first | rfl | (simp; done) | (simp [*]; done)), H', ⟨by have := HJ3.out; first | omega | exact Nat.le_refl _⟩, ⟨by repeat (first | (with_reducible first | exact HB.out | apply below_alloc | apply pw_below_drewN | apply below_drew1) | exact HB.out)⟩⟩
                · replace c27 := Bool.eq_false_iff.mpr c27
                  subst c27
                  have H1 : (windroselaw13_TotalParts.j1 kj3 a0 l1 t152 false t158 t159 t160 t161 true) = some r := by rw [if_neg (show ¬ (false = true) by decide)] at H; exact H
                  clear H
                  have H := H1
                  clear H1
                  have H' := Aside0.mk H
                  clear H
                  go_wp2
                  go_meet
                  case rel => exact ⟨_, (true), (by first | rfl | (simp; done) | (simp [*]; done)), H', ⟨by have := HJ3.out; first | omega | exact Nat.le_refl _⟩, ⟨by repeat (first | (with_reducible first | exact HB.out | apply below_alloc | apply pw_below_drewN | apply below_drew1) | exact HB.out)⟩⟩
              case rest =>
                clear HC21
                try clear c1
                try clear c2
                try clear p2
                try clear q2
                try clear c5
                try clear c5b0
                try clear c5b1
                try clear p6
                try clear c7
                try clear c8
                try clear c8b0
                try clear c9
                try clear c12
                try clear c12b0
                try clear c12b1
                try clear c14
                try clear c14b0
                try clear c14b1
                try clear c15
                try clear c15b0
                try clear c15b1
                try clear c16
                try clear c17
                try clear c17b0
                try clear c18
                try clear c18b0
                try clear q22
                try clear c24
                try clear q24
                try clear c27
                try clear p2
                try clear q024
                try clear q22
                try clear q24
                obtain ⟨kq, x66_20, rfl, HA, HJ20, HB⟩ := hcut
                cases kq with
                | zero => exact absurd HA.out (by simp [windroselaw13_TotalParts.j1])
                | succ kj20 =>
                  have H := HA.out
                  clear HA
                  simp only [windroselaw13_TotalParts.j1] at H
                  by_cases c28 : x66_20 = true
                  · subst c28
                    have H1 : (if (t161 == (decide ((l1.length : Int) > 0))) = true then (if t153 = true then (if t160 = t152 then (if t159 = true then (if t160 = t158 then ((windroselaw13_awake.f kj20).bind fun t162 => (some t162)) else (some false)) else ((windroselaw13_awake.f kj20).bind fun t163 => (some t163))) else (some false)) else (if t159 = true then (if t160 = t158 then ((windroselaw13_awake.f kj20).bind fun t164 => (some t164)) else (some false)) else ((windroselaw13_awake.f kj20).bind fun t165 => (some t165)))) else (some false)) = some r := by rw [if_pos rfl] at H; exact H
                    clear H
                    have H := H1
                    clear H1
                    by_cases c29 : (t161 == (decide ((l1.length : Int) > 0))) = true
                    · rw [if_pos c29] at H
                      have c29b0 : (t161 == (decide ((l1.length : Int) > 0))) = true := c29
                      (try (have c29b1 : decide (t161 = (decide ((l1.length : Int) > 0))) = true := by simpa using c29))
                      (try (have c29b2 : (t161 == (decide ((l1.length : Int) > 0))) = true := by simpa using c29))
                      (try (have c29b3 : decide (t161 = (decide (0 < l1.length))) = true := by simpa using c29))
                      (try (have c29b4 : (t161 == (decide (0 < l1.length))) = true := by simpa using c29))
                      clear c29
                      by_cases c30 : t153 = true
                      · subst c30
                        have H1 : (if t160 = t152 then (if t159 = true then (if t160 = t158 then ((windroselaw13_awake.f kj20).bind fun t162 => (some t162)) else (some false)) else ((windroselaw13_awake.f kj20).bind fun t163 => (some t163))) else (some false)) = some r := by rw [if_pos rfl] at H; exact H
                        clear H
                        have H := H1
                        clear H1
                        by_cases c31 : t160 = t152
                        · rw [if_pos c31] at H
                          have c31b0 : (t160 == t152) = true := beq_iff_eq.mpr c31
                          have c31b1 : (t160 != t152) = false := bne_eq_false_iff_eq.mpr c31
                          clear c31
                          by_cases c32 : t159 = true
                          · subst c32
                            have H1 : (if t160 = t158 then ((windroselaw13_awake.f kj20).bind fun t162 => (some t162)) else (some false)) = some r := by rw [if_pos rfl] at H; exact H
                            clear H
                            have H := H1
                            clear H1
                            by_cases c33 : t160 = t158
                            · rw [if_pos c33] at H
                              have c33b0 : (t160 == t158) = true := beq_iff_eq.mpr c33
                              have c33b1 : (t160 != t158) = false := bne_eq_false_iff_eq.mpr c33
                              clear c33
                              replace H := Option.bind_eq_some_iff.mp H
                              obtain ⟨t162, A340, H⟩ := H
                              replace H : (some t162) = some r := H
                              have A34 := Aside0.mk A340
                              clear A340
                              obtain rfl := Option.some.inj H
                              go_wp2_with (first | (go_at_call 15; (with_reducible refine (windroselaw13_awake.calls kj20  t162 _ A34.out).mono ?_); rintro e w35 ⟨rfl, hb⟩; have n0_ := Aside0.mk (below_step (by repeat (first | (with_reducible first | exact HB.out | apply below_alloc | apply pw_below_drewN | apply below_drew1) | exact HB.out)) hb); clear HB; have HB := n0_; clear n0_; (try clear hb); (try clear hb2); (try clear hk); (try clear hi)))
                              go_ret
                              exact ⟨by first | rfl | (simp [errW_none, errW_some] <;> rfl) | (simp only [← hji13]; first | rfl | (simp [errW_none, errW_some] <;> rfl)) | (simp [*, errW_none, errW_some] <;> rfl), by repeat (first | (with_reducible first | exact HB.out | apply below_alloc | apply pw_below_drewN | apply below_drew1) | exact HB.out)⟩
                            · rw [if_neg c33] at H
                              have c33b0 : (t160 == t158) = false := beq_eq_false_iff_ne.mpr c33
                              have c33b1 : (t160 != t158) = true := bne_iff_ne.mpr c33
                              obtain rfl := Option.some.inj H
                              go_wp2
                              go_ret
                              exact ⟨by first | rfl | (simp [errW_none, errW_some] <;> rfl) | (simp only [← hji13]; first | rfl | (simp [errW_none, errW_some] <;> rfl)) | (simp [*, errW_none, errW_some] <;> rfl), by repeat (first | (with_reducible first | exact HB.out | apply below_alloc | apply pw_below_drewN | apply below_drew1) | exact HB.out)⟩
                          · replace c32 := Bool.eq_false_iff.mpr c32
                            subst c32
                            have H1 : ((windroselaw13_awake.f kj20).bind fun t163 => (some t163)) = some r := by rw [if_neg (show ¬ (false = true) by decide)] at H; exact H
                            clear H
                            have H := H1
                            clear H1
                            replace H := Option.bind_eq_some_iff.mp H
                            obtain ⟨t163, A360, H⟩ := H
                            replace H : (some t163) = some r := H
                            have A36 := Aside0.mk A360
                            clear A360
                            obtain rfl := Option.some.inj H
                            go_wp2_with (first | (go_at_call 15; (with_reducible refine (windroselaw13_awake.calls kj20  t163 _ A36.out).mono ?_); rintro e w37 ⟨rfl, hb⟩; have n0_ := Aside0.mk (below_step (by repeat (first | (with_reducible first | exact HB.out | apply below_alloc | apply pw_below_drewN | apply below_drew1) | exact HB.out)) hb); clear HB; have HB := n0_; clear n0_; (try clear hb); (try clear hb2); (try clear hk); (try clear hi)))
                            go_ret
                            exact ⟨by first | rfl | (simp [errW_none, errW_some] <;> rfl) | (simp only [← hji13]; first | rfl | (simp [errW_none, errW_some] <;> rfl)) | (simp [*, errW_none, errW_some] <;> rfl), by repeat (first | (with_reducible first | exact HB.out | apply below_alloc | apply pw_below_drewN | apply below_drew1) | exact HB.out)⟩
                        · rw [if_neg c31] at H
                          have c31b0 : (t160 == t152) = false := beq_eq_false_iff_ne.mpr c31
                          have c31b1 : (t160 != t152) = true := bne_iff_ne.mpr c31
                          obtain rfl := Option.some.inj H
                          go_wp2
                          go_ret
                          exact ⟨by first | rfl | (simp [errW_none, errW_some] <;> rfl) | (simp only [← hji13]; first | rfl | (simp [errW_none, errW_some] <;> rfl)) | (simp [*, errW_none, errW_some] <;> rfl), by repeat (first | (with_reducible first | exact HB.out | apply below_alloc | apply pw_below_drewN | apply below_drew1) | exact HB.out)⟩
                      · replace c30 := Bool.eq_false_iff.mpr c30
                        subst c30
                        have H1 : (if t159 = true then (if t160 = t158 then ((windroselaw13_awake.f kj20).bind fun t164 => (some t164)) else (some false)) else ((windroselaw13_awake.f kj20).bind fun t165 => (some t165))) = some r := by rw [if_neg (show ¬ (false = true) by decide)] at H; exact H
                        clear H
                        have H := H1
                        clear H1
                        by_cases c38 : t159 = true
                        · subst c38
                          have H1 : (if t160 = t158 then ((windroselaw13_awake.f kj20).bind fun t164 => (some t164)) else (some false)) = some r := by rw [if_pos rfl] at H; exact H
                          clear H
                          have H := H1
                          clear H1
                          by_cases c39 : t160 = t158
                          · rw [if_pos c39] at H
                            have c39b0 : (t160 == t158) = true := beq_iff_eq.mpr c39
                            have c39b1 : (t160 != t158) = false := bne_eq_false_iff_eq.mpr c39
                            clear c39
                            replace H := Option.bind_eq_some_iff.mp H
                            obtain ⟨t164, A400, H⟩ := H
                            replace H : (some t164) = some r := H
                            have A40 := Aside0.mk A400
                            clear A400
                            obtain rfl := Option.some.inj H
                            go_wp2_with (first | (go_at_call 15; (with_reducible refine (windroselaw13_awake.calls kj20  t164 _ A40.out).mono ?_); rintro e w41 ⟨rfl, hb⟩; have n0_ := Aside0.mk (below_step (by repeat (first | (with_reducible first | exact HB.out | apply below_alloc | apply pw_below_drewN | apply below_drew1) | exact HB.out)) hb); clear HB; have HB := n0_; clear n0_; (try clear hb); (try clear hb2); (try clear hk); (try clear hi)))
                            go_ret
                            exact ⟨by first | rfl | (simp [errW_none, errW_some] <;> rfl) | (simp only [← hji13]; first | rfl | (simp [errW_none, errW_some] <;> rfl)) | (simp [*, errW_none, errW_some] <;> rfl), by repeat (first | (with_reducible first | exact HB.out | apply below_alloc | apply pw_below_drewN | apply below_drew1) | exact HB.out)⟩
                          · rw [if_neg c39] at H
                            have c39b0 : (t160 == t158) = false := beq_eq_false_iff_ne.mpr c39
                            have c39b1 : (t160 != t158) = true := bne_iff_ne.mpr c39
                            obtain rfl := Option.some.inj H
                            go_wp2
                            go_ret
                            exact ⟨by first | rfl | (simp [errW_none, errW_some] <;> rfl) | (simp only [← hji13]; first | rfl | (simp [errW_none, errW_some] <;> rfl)) | (simp [*, errW_none, errW_some] <;> rfl), by repeat (first | (with_reducible first | exact HB.out | apply below_alloc | apply pw_below_drewN | apply below_drew1) | exact HB.out)⟩
                        · replace c38 := Bool.eq_false_iff.mpr c38
                          subst c38
                          have H1 : ((windroselaw13_awake.f kj20).bind fun t165 => (some t165)) = some r := by rw [if_neg (show ¬ (false = true) by decide)] at H; exact H
                          clear H
                          have H := H1
                          clear H1
                          replace H := Option.bind_eq_some_iff.mp H
                          obtain ⟨t165, A420, H⟩ := H
                          replace H : (some t165) = some r := H
                          have A42 := Aside0.mk A420
                          clear A420
                          obtain rfl := Option.some.inj H
                          go_wp2_with (first | (go_at_call 15; (with_reducible refine (windroselaw13_awake.calls kj20  t165 _ A42.out).mono ?_); rintro e w43 ⟨rfl, hb⟩; have n0_ := Aside0.mk (below_step (by repeat (first | (with_reducible first | exact HB.out | apply below_alloc | apply pw_below_drewN | apply below_drew1) | exact HB.out)) hb); clear HB; have HB := n0_; clear n0_; (try clear hb); (try clear hb2); (try clear hk); (try clear hi)))
                          go_ret
                          exact ⟨by first | rfl | (simp [errW_none, errW_some] <;> rfl) | (simp only [← hji13]; first | rfl | (simp [errW_none, errW_some] <;> rfl)) | (simp [*, errW_none, errW_some] <;> rfl), by repeat (first | (with_reducible first | exact HB.out | apply below_alloc | apply pw_below_drewN | apply below_drew1) | exact HB.out)⟩
                    · rw [if_neg c29] at H
                      have c29b0 : (t161 == (decide ((l1.length : Int) > 0))) = false := by simpa using c29
                      (try (have c29b1 : decide (t161 = (decide ((l1.length : Int) > 0))) = false := by simpa using c29))
                      (try (have c29b2 : (t161 == (decide ((l1.length : Int) > 0))) = false := by simpa using c29))
                      (try (have c29b3 : ¬ (t161 = (decide ((l1.length : Int) > 0))) := by simpa using c29))
                      (try (have c29b4 : decide (t161 = (decide (0 < l1.length))) = false := by simpa using c29))
                      (try (have c29b5 : (t161 == (decide (0 < l1.length))) = false := by simpa using c29))
                      (try (have c29b6 : ¬ (t161 = (decide (0 < l1.length))) := by simpa using c29))
                      clear c29
                      obtain rfl := Option.some.inj H
                      go_wp2
                      go_ret
                      exact ⟨by first | rfl | (simp [errW_none, errW_some] <;> rfl) | (simp only [← hji13]; first | rfl | (simp [errW_none, errW_some] <;> rfl)) | (simp [*, errW_none, errW_some] <;> rfl), by repeat (first | (with_reducible first | exact HB.out | apply below_alloc | apply pw_below_drewN | apply below_drew1) | exact HB.out)⟩
                  · replace c28 := Bool.eq_false_iff.mpr c28
                    subst c28
                    have H1 : ((total_Fold.f kj20 a0 t152 t158).bind fun bt166 => (if t161 = true then (if bt166.2 = true then (if t160 = bt166.1 then ((windroselaw13_awake.f kj20).bind fun t168 => (some t168)) else (some false)) else (some false)) else (some false))) = some r := by rw [if_neg (show ¬ (false = true) by decide)] at H; exact H
                    clear H
                    have H := H1
                    clear H1
                    replace H := Option.bind_eq_some_iff.mp H
                    obtain ⟨⟨t166, t167⟩, A440, H⟩ := H
                    replace H : (if t161 = true then (if t167 = true then (if t160 = t166 then ((windroselaw13_awake.f kj20).bind fun t168 => (some t168)) else (some false)) else (some false)) else (some false)) = some r := H
                    have A44 := Aside0.mk A440
                    clear A440
                    by_cases c45 : t161 = true
                    · subst c45
                      have H1 : (if t167 = true then (if t160 = t166 then ((windroselaw13_awake.f kj20).bind fun t168 => (some t168)) else (some false)) else (some false)) = some r := by rw [if_pos rfl] at H; exact H
                      clear H
                      have H := H1
                      clear H1
                      by_cases c46 : t167 = true
                      · subst c46
                        have H1 : (if t160 = t166 then ((windroselaw13_awake.f kj20).bind fun t168 => (some t168)) else (some false)) = some r := by rw [if_pos rfl] at H; exact H
                        clear H
                        have H := H1
                        clear H1
                        by_cases c47 : t160 = t166
                        · rw [if_pos c47] at H
                          have c47b0 : (t160 == t166) = true := beq_iff_eq.mpr c47
                          have c47b1 : (t160 != t166) = false := bne_eq_false_iff_eq.mpr c47
                          clear c47
                          replace H := Option.bind_eq_some_iff.mp H
                          obtain ⟨t168, A480, H⟩ := H
                          replace H : (some t168) = some r := H
                          have A48 := Aside0.mk A480
                          clear A480
                          obtain rfl := Option.some.inj H
                          go_wp2_with (first | ((with_reducible refine gate_callee (f := 18) rfl ?_); refine goesL_ (some 97) rfl rfl Try.func18 (by kernel_rfl) rfl #[.int .i64 a0, .int .i64 t152, .int .i64 t158] rfl (by (try simp only [List.map_toArray, List.map_cons, List.map_nil]); first | done | rfl | (simp only [List.length_drop, List.length_take]; rfl)) ?_; (with_reducible refine (total_Fold.calls kj20 a0 t152 t158 t166 true _ A44.out).mono ?_); rintro e w49 ⟨rfl, hb⟩; refine ⟨_, rfl, ?_⟩; have n0_ := Aside0.mk (below_step (by repeat (first | (with_reducible first | exact HB.out | apply below_alloc | apply pw_below_drewN | apply below_drew1) | exact HB.out)) hb); clear HB; have HB := n0_; clear n0_; (try clear hb); (try clear hb2); (try clear hk); (try clear hi)) | (go_at_call 15; (with_reducible refine (windroselaw13_awake.calls kj20  t168 _ A48.out).mono ?_); rintro e w50 ⟨rfl, hb⟩; have n0_ := Aside0.mk (below_step (by repeat (first | (with_reducible first | exact HB.out | apply below_alloc | apply pw_below_drewN | apply below_drew1) | exact HB.out)) hb); clear HB; have HB := n0_; clear n0_; (try clear hb); (try clear hb2); (try clear hk); (try clear hi)))
                          go_ret
                          exact ⟨by first | rfl | (simp [errW_none, errW_some] <;> rfl) | (simp only [← hji13]; first | rfl | (simp [errW_none, errW_some] <;> rfl)) | (simp [*, errW_none, errW_some] <;> rfl), by repeat (first | (with_reducible first | exact HB.out | apply below_alloc | apply pw_below_drewN | apply below_drew1) | exact HB.out)⟩
                        · rw [if_neg c47] at H
                          have c47b0 : (t160 == t166) = false := beq_eq_false_iff_ne.mpr c47
                          have c47b1 : (t160 != t166) = true := bne_iff_ne.mpr c47
                          obtain rfl := Option.some.inj H
                          go_wp2_with (first | ((with_reducible refine gate_callee (f := 18) rfl ?_); refine goesL_ (some 97) rfl rfl Try.func18 (by kernel_rfl) rfl #[.int .i64 a0, .int .i64 t152, .int .i64 t158] rfl (by (try simp only [List.map_toArray, List.map_cons, List.map_nil]); first | done | rfl | (simp only [List.length_drop, List.length_take]; rfl)) ?_; (with_reducible refine (total_Fold.calls kj20 a0 t152 t158 t166 true _ A44.out).mono ?_); rintro e w51 ⟨rfl, hb⟩; refine ⟨_, rfl, ?_⟩; have n0_ := Aside0.mk (below_step (by repeat (first | (with_reducible first | exact HB.out | apply below_alloc | apply pw_below_drewN | apply below_drew1) | exact HB.out)) hb); clear HB; have HB := n0_; clear n0_; (try clear hb); (try clear hb2); (try clear hk); (try clear hi)))
                          go_ret
                          exact ⟨by first | rfl | (simp [errW_none, errW_some] <;> rfl) | (simp only [← hji13]; first | rfl | (simp [errW_none, errW_some] <;> rfl)) | (simp [*, errW_none, errW_some] <;> rfl), by repeat (first | (with_reducible first | exact HB.out | apply below_alloc | apply pw_below_drewN | apply below_drew1) | exact HB.out)⟩
                      · replace c46 := Bool.eq_false_iff.mpr c46
                        subst c46
                        have H1 : (some false) = some r := by rw [if_neg (show ¬ (false = true) by decide)] at H; exact H
                        clear H
                        have H := H1
                        clear H1
                        obtain rfl := Option.some.inj H
                        go_wp2_with (first | ((with_reducible refine gate_callee (f := 18) rfl ?_); refine goesL_ (some 97) rfl rfl Try.func18 (by kernel_rfl) rfl #[.int .i64 a0, .int .i64 t152, .int .i64 t158] rfl (by (try simp only [List.map_toArray, List.map_cons, List.map_nil]); first | done | rfl | (simp only [List.length_drop, List.length_take]; rfl)) ?_; (with_reducible refine (total_Fold.calls kj20 a0 t152 t158 t166 false _ A44.out).mono ?_); rintro e w52 ⟨rfl, hb⟩; refine ⟨_, rfl, ?_⟩; have n0_ := Aside0.mk (below_step (by repeat (first | (with_reducible first | exact HB.out | apply below_alloc | apply pw_below_drewN | apply below_drew1) | exact HB.out)) hb); clear HB; have HB := n0_; clear n0_; (try clear hb); (try clear hb2); (try clear hk); (try clear hi)))
                        go_ret
                        exact ⟨by first | rfl | (simp [errW_none, errW_some] <;> rfl) | (simp only [← hji13]; first | rfl | (simp [errW_none, errW_some] <;> rfl)) | (simp [*, errW_none, errW_some] <;> rfl), by repeat (first | (with_reducible first | exact HB.out | apply below_alloc | apply pw_below_drewN | apply below_drew1) | exact HB.out)⟩
                    · replace c45 := Bool.eq_false_iff.mpr c45
                      subst c45
                      have H1 : (some false) = some r := by rw [if_neg (show ¬ (false = true) by decide)] at H; exact H
                      clear H
                      have H := H1
                      clear H1
                      obtain rfl := Option.some.inj H
                      go_wp2_with (first | ((with_reducible refine gate_callee (f := 18) rfl ?_); refine goesL_ (some 97) rfl rfl Try.func18 (by kernel_rfl) rfl #[.int .i64 a0, .int .i64 t152, .int .i64 t158] rfl (by (try simp only [List.map_toArray, List.map_cons, List.map_nil]); first | done | rfl | (simp only [List.length_drop, List.length_take]; rfl)) ?_; (with_reducible refine (total_Fold.calls kj20 a0 t152 t158 t166 t167 _ A44.out).mono ?_); rintro e w53 ⟨rfl, hb⟩; refine ⟨_, rfl, ?_⟩; have n0_ := Aside0.mk (below_step (by repeat (first | (with_reducible first | exact HB.out | apply below_alloc | apply pw_below_drewN | apply below_drew1) | exact HB.out)) hb); clear HB; have HB := n0_; clear n0_; (try clear hb); (try clear hb2); (try clear hk); (try clear hi)))
                      go_ret
                      exact ⟨by first | rfl | (simp [errW_none, errW_some] <;> rfl) | (simp only [← hji13]; first | rfl | (simp [errW_none, errW_some] <;> rfl)) | (simp [*, errW_none, errW_some] <;> rfl), by repeat (first | (with_reducible first | exact HB.out | apply below_alloc | apply pw_below_drewN | apply below_drew1) | exact HB.out)⟩
            · rw [if_neg c15] at H
              exact absurd H (by simp)
          · rw [if_neg c14] at H
            exact absurd H (by simp)

end Go.Proofs.Ytkfakciimeiehaa.PTotal
