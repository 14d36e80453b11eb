/- Layer 19: the law function PostingsNobody, walked by hand. -/
import Derived.Test.YtkfakciimeiehaaPostOr
import Derived.Test.YtkfakciimeiehaaEPost
import Derived.Test.YtkfakciimeiehaaEAnd
import Derived.Test.YtkfakciimeiehaaPPostx2
import Derived.Test.YtkfakciimeiehaaPPostx5
set_option linter.unusedVariables false
set_option linter.unusedSimpArgs false
namespace Go.Proofs.Ytkfakciimeiehaa.PPost
open Go.RowKit Go.Proofs.YtkfakciimeiehaaW.PrintWords Go.Proofs.YtkfakciimeiehaaW.PrintLast Go.Proofs.YtkfakciimeiehaaW.PrintMore Go.Proofs.YtkfakciimeiehaaLim Go.Proofs.YtkfakciimeiehaaAid Go.Proofs.Ytkfakciimeiehaa.PostBase

def windroselaw19_PostingsNobody.f (k : Nat) (a0 : Int) : Option Bool := windroselaw19_awake.f k
theorem nobody_and (w : World) : Calls Try.prog 27 #[.slice none 0 0] w fun e w' => ∃ (A : Option Addr) (c : Nat), e = .returned (.slice A 0 c) ∧ Below w.heap.size w w' := by
  refine (postings_And.calls 1 none 0 [] [] w (Kd.C_nil _ _) (by simp) rfl).mono ?_
  rintro e w' ⟨v, rfl, hv, hb⟩
  obtain ⟨A2, c2, rfl, hlc2, hC2⟩ := Kd.R_reads hv
  exact ⟨A2, c2, rfl, hb⟩
theorem nobody_or (w : World) : Calls Try.prog 28 #[.slice none 0 0] w fun e w' => ∃ (A : Option Addr) (c : Nat), e = .returned (.slice A 0 c) ∧ Below w.heap.size w w' := by
  obtain ⟨k, hk⟩ := rounds_of_lim (or19 [] (by simp))
  refine (postings_Or.calls k none 0 [] [] w (Kd.C_nil _ _) (by simp) hk).mono ?_
  rintro e w' ⟨v, rfl, hv, hb⟩
  obtain ⟨A2, c2, rfl, hlc2, hC2⟩ := Kd.R_reads hv
  exact ⟨A2, c2, rfl, hb⟩
theorem windroselaw19_PostingsNobody.calls (k : Nat) (a0 : Int) (r : Bool) (w : World) (h : windroselaw19_PostingsNobody.f k a0 = some r) :
    Calls Try.prog 7 #[.int .i64 a0] w fun e w' => e = .returned (.bool r) ∧ Below w.heap.size w w' := by
  have hbb := Below.refl w.heap.size w
  have HB0 := Aside0.mk hbb
  clear hbb
  go_enter Try.func7, Try.ntmps7
  go_wp2
  go_loopw [3] (fun i wr => ∃ (j : Nat), j ≤ 2 ∧ i = .int .i64 j ∧ Aside0 (Below w.heap.size w wr)) (fun i _ => 2 - (intOf i).toNat)
  case atStart => exact ⟨0, by omega, rfl, HB0⟩
  case round =>
    obtain ⟨j, hj, rfl, HB⟩ := hrel
    rcases (by omega : j = 0 ∨ j = 1 ∨ j = 2) with rfl | rfl | rfl
    · go_wp2_with (first | (go_at_call 25; refine (at_nil _).mono ?_; rintro e w' ⟨rfl, rfl⟩) | (go_at_call 23; refine (next_nil _).mono ?_; rintro e w' ⟨rfl, rfl⟩) | (go_at_call 24; refine (seek_nil _ _).mono ?_; rintro e w' ⟨rfl, rfl⟩) | (go_at_call 26; refine (left_nil _).mono ?_; rintro e w' ⟨rfl, rfl⟩))
      go_roundw
      case rel => exact ⟨1, by omega, by go_num, HB⟩
      case measure => simp [intOf]
    · have hc := cell_of_blk (heap_alloc_new wr (.cells #[.slice none 0 0] 43))
      have HB2 := Aside0.mk (below_alloc HB.out (.cells #[.slice none 0 0] 43))
      go_wp2_with (first | (go_at_call 25; refine (at_zero _ _ _ _ hc).mono ?_; rintro e w' ⟨rfl, rfl⟩) | (go_at_call 23; refine (next_zero _ _ _ _ hc).mono ?_; rintro e w' ⟨rfl, rfl⟩) | (go_at_call 24; refine (seek_zero _ _ _ _ _ hc).mono ?_; rintro e w' ⟨rfl, rfl⟩) | (go_at_call 26; refine (left_calls _ _ _ _ _ hc).mono ?_; rintro e w' ⟨rfl, rfl⟩))
      go_roundw
      case rel => exact ⟨2, by omega, by go_num, HB2⟩
      case measure => simp [intOf]
    · go_wp2_with fail
      refine (nobody_and _).mono ?_
      rintro e w1 ⟨A1, c1, rfl, hb1⟩
      have HB1 := Aside0.mk (below_then HB.out HB.out.size hb1)
      clear hb1
      go_wp2_with fail
      refine (nobody_or _).mono ?_
      rintro e w2 ⟨A2, c2, rfl, hb2⟩
      have HB2 := Aside0.mk (below_then HB1.out HB1.out.size hb2)
      clear hb2
      go_wp2_with fail
      refine (windroselaw19_awake.calls k r _ h).mono ?_
      rintro e w3 ⟨rfl, hb3⟩
      have HB3 := Aside0.mk (below_then HB2.out HB2.out.size hb3)
      clear hb3
      go_wp2
      go_ret
      exact ⟨rfl, HB3.out⟩
end Go.Proofs.Ytkfakciimeiehaa.PPost
