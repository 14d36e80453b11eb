/- Layer 19: the law function PostingsLaws, walked by hand. -/
import Derived.Test.YtkfakciimeiehaaPostLaws
import Derived.Test.YtkfakciimeiehaaEPost
import Derived.Test.YtkfakciimeiehaaEAnd
import Derived.Test.YtkfakciimeiehaaPPostx2
import Derived.Test.YtkfakciimeiehaaPPostx5
set_option linter.unusedVariables false
set_option linter.unusedSimpArgs false
namespace Go.Proofs.Ytkfakciimeiehaa.PPost
open Go.RowKit Go.Proofs.YtkfakciimeiehaaW.PrintWords Go.Proofs.YtkfakciimeiehaaW.PrintLast Go.Proofs.YtkfakciimeiehaaW.PrintMore Go.Proofs.YtkfakciimeiehaaLim Go.Proofs.YtkfakciimeiehaaAid Go.Proofs.Ytkfakciimeiehaa.PostBase

/-- A slice of numbers that reads so. -/
def Sl (W : World) (A : Option Addr) (n c : Nat) (xs : List Int) : Prop := n = xs.length ∧ n ≤ c ∧ Kd.C (Kd.int .i64) W A n xs
theorem Sl.below {W W' : World} {A : Option Addr} {n c : Nat} {xs : List Int} (h : Sl W A n c xs) (hb : Below W.heap.size W W') : Sl W' A n c xs := ⟨h.1, h.2.1, Kd.C_below h.2.2 hb⟩
theorem C_two {W : World} {A1 A2 : Option Addr} {n1 n2 c1 c2 : Nat} {l1 l2 : List Int} (h1 : Sl W A1 n1 c1 l1) (h2 : Sl W A2 n2 c2 l2) :
    Kd.C (Kd.slice 3 (Kd.int .i64)) (W.alloc (.cells #[.slice A1 n1 c1, .slice A2 n2 c2] 31)) (some ⟨W.heap.size, 0, none⟩) ([l1, l2] : List (List Int)).length [l1, l2] := by
  obtain ⟨e1, k1, h1⟩ := h1
  obtain ⟨e2, k2, h2⟩ := h2
  subst e1
  subst e2
  have hb := below_alloc (Below.refl W.heap.size W) (.cells #[.slice A1 l1.length c1, .slice A2 l2.length c2] 31)
  have hn := heap_alloc_new W (.cells #[.slice A1 l1.length c1, .slice A2 l2.length c2] 31)
  refine ⟨rfl, by simp, fun _ => ⟨_, rfl, fun j p hj => ?_⟩⟩
  rcases j with _ | _ | j
  · obtain rfl : l1 = p := by simpa using hj
    refine ⟨[.slice A1 l1.length c1], rfl, ⟨A1, c1, rfl, k1, Kd.C_below h1 hb⟩, fun i u hu => ?_⟩
    cases i with
    | zero =>
      obtain rfl : Value.slice A1 l1.length c1 = u := by simpa using hu
      show World.cell? _ _ = _
      rw [add_plain, blk_cell hn]
      rfl
    | succ i => simp at hu
  · obtain rfl : l2 = p := by simpa using hj
    refine ⟨[.slice A2 l2.length c2], rfl, ⟨A2, c2, rfl, k2, Kd.C_below h2 hb⟩, fun i u hu => ?_⟩
    cases i with
    | zero =>
      obtain rfl : Value.slice A2 l2.length c2 = u := by simpa using hu
      show World.cell? _ _ = _
      rw [add_plain, blk_cell hn]
      rfl
    | succ i => simp at hu
  · simp at hj
theorem without_c {W : World} {A1 A2 : Option Addr} {n1 n2 c1 c2 : Nat} {l1 l2 : List Int} (h1 : Sl W A1 n1 c1 l1) (h2 : Sl W A2 n2 c2 l2) :
    Calls Try.prog 32 #[.slice A1 n1 c1, .slice A2 n2 c2] W fun e W' => ∃ (A : Option Addr) (n c : Nat), e = .returned (.slice A n c) ∧ Sl W' A n c (withoutP l1 l2) ∧ Below W.heap.size W W' := by
  obtain ⟨e1, k1, h1⟩ := h1
  obtain ⟨e2, k2, h2⟩ := h2
  subst e1
  subst e2
  refine (postings_Without.calls A1 c1 l1 A2 c2 l2 _ W h1 k1 h2 k2 rfl).mono ?_
  rintro e w' ⟨v, rfl, hv, hb⟩
  obtain ⟨A2, c2, rfl, hlc2, hC2⟩ := Kd.R_reads hv
  exact ⟨A2, _, c2, rfl, ⟨rfl, hlc2, hC2⟩, hb⟩
theorem or_c {W : World} {A1 A2 : Option Addr} {n1 n2 c1 c2 : Nat} {l1 l2 : List Int} (h1 : Sl W A1 n1 c1 l1) (h2 : Sl W A2 n2 c2 l2) :
    Calls Try.prog 28 #[.slice (some ⟨W.heap.size, 0, none⟩) 2 2] (W.alloc (.cells #[.slice A1 n1 c1, .slice A2 n2 c2] 31)) fun e W' => ∃ (A : Option Addr) (n c : Nat), e = .returned (.slice A n c) ∧ Sl W' A n c (orP [l1, l2]) ∧ Below W.heap.size W W' := by
  obtain ⟨k, hk⟩ := rounds_of_lim (or19 [l1, l2] (by simp))
  refine (postings_Or.calls k _ 2 [l1, l2] _ _ (C_two h1 h2) (by simp) hk).mono ?_
  rintro e w' ⟨v, rfl, hv, hb⟩
  obtain ⟨A, c, rfl, hlc, hC⟩ := Kd.R_reads hv
  have hba := below_alloc (Below.refl W.heap.size W) (.cells #[.slice A1 n1 c1, .slice A2 n2 c2] 31)
  exact ⟨A, _, c, rfl, ⟨rfl, hlc, hC⟩, below_then hba hba.size hb⟩
theorem and_c {W : World} {A1 A2 : Option Addr} {n1 n2 c1 c2 : Nat} {l1 l2 : List Int} (h1 : Sl W A1 n1 c1 l1) (h2 : Sl W A2 n2 c2 l2) :
    Calls Try.prog 27 #[.slice (some ⟨W.heap.size, 0, none⟩) 2 2] (W.alloc (.cells #[.slice A1 n1 c1, .slice A2 n2 c2] 31)) fun e W' => ∃ (A : Option Addr) (n c : Nat), e = .returned (.slice A n c) ∧ Sl W' A n c (andP [l1, l2]) ∧ Below W.heap.size W W' := by
  obtain ⟨k, hk⟩ := rounds_of_lim (and19 [l1, l2] (by simp))
  refine (postings_And.calls k _ 2 [l1, l2] _ _ (C_two h1 h2) (by simp) hk).mono ?_
  rintro e w' ⟨v, rfl, hv, hb⟩
  obtain ⟨A, c, rfl, hlc, hC⟩ := Kd.R_reads hv
  have hba := below_alloc (Below.refl W.heap.size W) (.cells #[.slice A1 n1 c1, .slice A2 n2 c2] 31)
  exact ⟨A, _, c, rfl, ⟨rfl, hlc, hC⟩, below_then hba hba.size hb⟩
theorem ints_c {W : World} {A1 A2 : Option Addr} {n1 n2 c1 c2 : Nat} {l : List Int} (h1 : Sl W A1 n1 c1 l) (h2 : Sl W A2 n2 c2 l) :
    Calls Try.prog 29 #[.slice A1 n1 c1, .slice A2 n2 c2] W fun e W' => e = .returned (.bool true) ∧ Below W.heap.size W W' := by
  obtain ⟨e1, k1, h1⟩ := h1
  obtain ⟨e2, k2, h2⟩ := h2
  subst e1
  obtain ⟨k, hk⟩ := rounds_of_lim (ints l l (Kd.C_max h1))
  rw [e2] at h2 k2 ⊢
  refine (windroseref02_Ints.calls k A1 c1 l A2 c2 l _ W h1 k1 h2 k2 hk).mono ?_
  rintro e w' ⟨rfl, hb⟩
  exact ⟨by simp, hb.below⟩

def windroselaw19_PostingsLaws.f (k : Nat) (l0 l1 l2 : List Int) : Option Bool := windroselaw19_awake.f k
set_option maxRecDepth 100000 in
set_option maxHeartbeats 2000000 in
theorem windroselaw19_PostingsLaws.calls (k : Nat) (A0 : Option Addr) (c0 : Nat) (l0 : List Int) (A1 : Option Addr) (c1 : Nat) (l1 : List Int) (A2 : Option Addr) (c2 : Nat) (l2 : List Int) (r : Bool) (w : World) (hr0 : Kd.C (Kd.int .i64) w A0 l0.length l0) (hc0 : l0.length ≤ c0) (hr1 : Kd.C (Kd.int .i64) w A1 l1.length l1) (hc1 : l1.length ≤ c1) (hr2 : Kd.C (Kd.int .i64) w A2 l2.length l2) (hc2 : l2.length ≤ c2) (h : windroselaw19_PostingsLaws.f k l0 l1 l2 = some r) :
    Calls Try.prog 9 #[.slice A0 l0.length c0, .slice A1 l1.length c1, .slice A2 l2.length c2] w fun e w' => e = .returned (.bool r) ∧ Below w.heap.size w w' := by
  have hawk := fun W => windroselaw19_awake.calls k r W h
  have HAWK := Aside0.mk hawk
  clear hawk
  have S0 := Aside0.mk (show Sl w A0 l0.length c0 l0 from ⟨rfl, hc0, hr0⟩)
  have S1 := Aside0.mk (show Sl w A1 l1.length c1 l1 from ⟨rfl, hc1, hr1⟩)
  have S2 := Aside0.mk (show Sl w A2 l2.length c2 l2 from ⟨rfl, hc2, hr2⟩)
  clear hr0 hr1 hr2 hc0 hc1 hc2
  have L1 := Aside0.mk (fun (a : l0.length ≤ 300) (b : l1.length ≤ 300) (c : l2.length ≤ 300) => law_without l0 l1 l2 a b c)
  have L2 := Aside0.mk (fun (a : l0.length ≤ 300) (b : l1.length ≤ 300) (c : l2.length ≤ 300) => law_and l0 l1 l2 a b c)
  have L3 := Aside0.mk (fun (a : l0.length ≤ 300) (b : l1.length ≤ 300) => law_comm l0 l1 a b)
  obtain ⟨n0, hn0⟩ : ∃ n, n = l0.length := ⟨_, rfl⟩
  obtain ⟨n1, hn1⟩ : ∃ n, n = l1.length := ⟨_, rfl⟩
  obtain ⟨n2, hn2⟩ : ∃ n, n = l2.length := ⟨_, rfl⟩
  rw [← hn0, ← hn1] at L1 L2 L3
  rw [← hn2] at L1 L2
  rw [← hn0] at S0 ⊢
  rw [← hn1] at S1 ⊢
  rw [← hn2] at S2 ⊢
  clear hn0 hn1 hn2 h
  by_cases b0 : (n0 : Int) > 300
  · have e0 : decide ((n0 : Int) > 300) = true := decide_eq_true b0
    clear b0
    go_enter Try.func9, Try.ntmps9
    go_wp2_with fail
    refine (HAWK.out w).mono ?_
    rintro e w1 ⟨rfl, hb⟩
    have HB := Aside0.mk hb
    clear hb
    go_wp2
    go_ret
    exact ⟨rfl, HB.out⟩
  have e0 : decide ((n0 : Int) > 300) = false := decide_eq_false b0
  by_cases b1 : (n1 : Int) > 300
  · have e1 : decide ((n1 : Int) > 300) = true := decide_eq_true b1
    go_enter Try.func9, Try.ntmps9
    go_wp2_with fail
    refine (HAWK.out w).mono ?_
    rintro e w1 ⟨rfl, hb⟩
    have HB := Aside0.mk hb
    clear hb
    go_wp2
    go_ret
    exact ⟨rfl, HB.out⟩
  have e1 : decide ((n1 : Int) > 300) = false := decide_eq_false b1
  by_cases b2 : (n2 : Int) > 300
  · have e2 : decide ((n2 : Int) > 300) = true := decide_eq_true b2
    go_enter Try.func9, Try.ntmps9
    go_wp2_with fail
    refine (HAWK.out w).mono ?_
    rintro e w1 ⟨rfl, hb⟩
    have HB := Aside0.mk hb
    clear hb
    go_wp2
    go_ret
    exact ⟨rfl, HB.out⟩
  have e2 : decide ((n2 : Int) > 300) = false := decide_eq_false b2
  replace L1 := Aside0.mk (L1.out (by omega) (by omega) (by omega))
  replace L2 := Aside0.mk (L2.out (by omega) (by omega) (by omega))
  replace L3 := Aside0.mk (L3.out (by omega) (by omega))
  go_enter Try.func9, Try.ntmps9
  go_wp2_with fail
  -- Without(Without(a, b), c)
  refine (without_c S0.out S1.out).mono ?_
  rintro e w1 ⟨Aa, na, ca, rfl, s, hb⟩
  have X1 := Aside0.mk s
  replace S2 := Aside0.mk (S2.out.below hb)
  replace S0 := Aside0.mk (S0.out.below hb)
  replace S1 := Aside0.mk (S1.out.below hb)
  have HB := Aside0.mk hb
  clear s hb
  go_wp2_with fail
  refine (without_c X1.out S2.out).mono ?_
  rintro e w2 ⟨Ax, nx, cx, rfl, s, hb⟩
  have X := Aside0.mk s
  replace S2 := Aside0.mk (S2.out.below hb)
  replace S0 := Aside0.mk (S0.out.below hb)
  replace S1 := Aside0.mk (S1.out.below hb)
  replace HB := Aside0.mk (below_then HB.out HB.out.size hb)
  clear s hb X1
  -- Without(a, Or(b, c))
  go_wp2_with fail
  refine (or_c S1.out S2.out).mono ?_
  rintro e w3 ⟨Aa, na, ca, rfl, s, hb⟩
  have X1 := Aside0.mk s
  replace S2 := Aside0.mk (S2.out.below hb)
  replace S0 := Aside0.mk (S0.out.below hb)
  replace S1 := Aside0.mk (S1.out.below hb)
  replace X := Aside0.mk (X.out.below hb)
  replace HB := Aside0.mk (below_then HB.out HB.out.size hb)
  clear s hb
  go_wp2_with fail
  refine (without_c S0.out X1.out).mono ?_
  rintro e w4 ⟨Ay, ny, cy, rfl, s, hb⟩
  have Y := Aside0.mk s
  replace S2 := Aside0.mk (S2.out.below hb)
  replace S0 := Aside0.mk (S0.out.below hb)
  replace S1 := Aside0.mk (S1.out.below hb)
  replace X := Aside0.mk (X.out.below hb)
  replace HB := Aside0.mk (below_then HB.out HB.out.size hb)
  clear s hb X1
  rw [L1.out] at X
  -- And(Or(a, b), c)
  go_wp2_with fail
  refine (or_c S0.out S1.out).mono ?_
  rintro e w5 ⟨Aa, na, ca, rfl, s, hb⟩
  have X1 := Aside0.mk s
  replace S2 := Aside0.mk (S2.out.below hb)
  replace S0 := Aside0.mk (S0.out.below hb)
  replace S1 := Aside0.mk (S1.out.below hb)
  replace X := Aside0.mk (X.out.below hb)
  replace Y := Aside0.mk (Y.out.below hb)
  replace HB := Aside0.mk (below_then HB.out HB.out.size hb)
  clear s hb
  go_wp2_with fail
  refine (and_c X1.out S2.out).mono ?_
  rintro e w6 ⟨Ap, np, cp, rfl, s, hb⟩
  have P := Aside0.mk s
  replace S2 := Aside0.mk (S2.out.below hb)
  replace S0 := Aside0.mk (S0.out.below hb)
  replace S1 := Aside0.mk (S1.out.below hb)
  replace X := Aside0.mk (X.out.below hb)
  replace Y := Aside0.mk (Y.out.below hb)
  replace HB := Aside0.mk (below_then HB.out HB.out.size hb)
  clear s hb X1
  rw [L2.out] at P
  -- Or(And(a, c), And(b, c))
  go_wp2_with fail
  refine (and_c S0.out S2.out).mono ?_
  rintro e w7 ⟨Aa, na, ca, rfl, s, hb⟩
  have X1 := Aside0.mk s
  replace S2 := Aside0.mk (S2.out.below hb)
  replace S0 := Aside0.mk (S0.out.below hb)
  replace S1 := Aside0.mk (S1.out.below hb)
  replace X := Aside0.mk (X.out.below hb)
  replace Y := Aside0.mk (Y.out.below hb)
  replace P := Aside0.mk (P.out.below hb)
  replace HB := Aside0.mk (below_then HB.out HB.out.size hb)
  clear s hb
  go_wp2_with fail
  refine (and_c S1.out S2.out).mono ?_
  rintro e w8 ⟨Ab, nb, cb, rfl, s, hb⟩
  have X2 := Aside0.mk s
  replace S2 := Aside0.mk (S2.out.below hb)
  replace S0 := Aside0.mk (S0.out.below hb)
  replace S1 := Aside0.mk (S1.out.below hb)
  replace X := Aside0.mk (X.out.below hb)
  replace Y := Aside0.mk (Y.out.below hb)
  replace P := Aside0.mk (P.out.below hb)
  replace X1 := Aside0.mk (X1.out.below hb)
  replace HB := Aside0.mk (below_then HB.out HB.out.size hb)
  clear s hb
  go_wp2_with fail
  refine (or_c X1.out X2.out).mono ?_
  rintro e w9 ⟨Aq, nq, cq, rfl, s, hb⟩
  have Q := Aside0.mk s
  replace S0 := Aside0.mk (S0.out.below hb)
  replace S1 := Aside0.mk (S1.out.below hb)
  replace X := Aside0.mk (X.out.below hb)
  replace Y := Aside0.mk (Y.out.below hb)
  replace P := Aside0.mk (P.out.below hb)
  replace HB := Aside0.mk (below_then HB.out HB.out.size hb)
  clear s hb X1 X2 S2
  -- they are the same
  go_wp2_with fail
  refine (ints_c X.out Y.out).mono ?_
  rintro e w10 ⟨rfl, hb⟩
  replace S0 := Aside0.mk (S0.out.below hb)
  replace S1 := Aside0.mk (S1.out.below hb)
  replace P := Aside0.mk (P.out.below hb)
  replace Q := Aside0.mk (Q.out.below hb)
  replace HB := Aside0.mk (below_then HB.out HB.out.size hb)
  clear hb X Y
  go_wp2_with fail
  refine (ints_c P.out Q.out).mono ?_
  rintro e w11 ⟨rfl, hb⟩
  replace S0 := Aside0.mk (S0.out.below hb)
  replace S1 := Aside0.mk (S1.out.below hb)
  replace HB := Aside0.mk (below_then HB.out HB.out.size hb)
  clear hb P Q
  go_wp2_with fail
  refine (and_c S0.out S1.out).mono ?_
  rintro e w12 ⟨Aa, na, ca, rfl, s, hb⟩
  have X1 := Aside0.mk s
  replace S0 := Aside0.mk (S0.out.below hb)
  replace S1 := Aside0.mk (S1.out.below hb)
  replace HB := Aside0.mk (below_then HB.out HB.out.size hb)
  clear s hb
  go_wp2_with fail
  refine (and_c S1.out S0.out).mono ?_
  rintro e w13 ⟨Ab, nb, cb, rfl, s, hb⟩
  have X2 := Aside0.mk s
  replace X1 := Aside0.mk (X1.out.below hb)
  replace HB := Aside0.mk (below_then HB.out HB.out.size hb)
  clear s hb S0 S1
  rw [L3.out] at X1
  go_wp2_with fail
  refine (ints_c X1.out X2.out).mono ?_
  rintro e w14 ⟨rfl, hb⟩
  replace HB := Aside0.mk (below_then HB.out HB.out.size hb)
  clear hb X1 X2
  go_wp2_with fail
  refine (HAWK.out w14).mono ?_
  rintro e w15 ⟨rfl, hb⟩
  replace HB := Aside0.mk (below_then HB.out HB.out.size hb)
  clear hb
  go_wp2
  go_ret
  exact ⟨rfl, HB.out⟩
end Go.Proofs.Ytkfakciimeiehaa.PPost
