/- Layer 19: a list with one more, and without one: Add and Remove, walked by hand. -/
import Derived.Test.YtkfakciimeiehaaEPost
import Derived.Test.YtkfakciimeiehaaEIns
set_option linter.unusedVariables false
set_option linter.unusedSimpArgs false
namespace Go.Proofs.Ytkfakciimeiehaa.PPost
open Go.RowKit Go.Proofs.YtkfakciimeiehaaW.PrintWords Go.Proofs.YtkfakciimeiehaaW.PrintLast Go.Proofs.YtkfakciimeiehaaW.PrintMore Go.Proofs.YtkfakciimeiehaaLim Go.Proofs.YtkfakciimeiehaaAid Go.Proofs.Ytkfakciimeiehaa.PostBase

/-- A list with one more, and what is told of it. -/
def addP (l : List Int) (n : Int) : List Int × Int :=
  if soundB l = true ∧ 0 ≤ n ∧ n ≤ 2147483647 then (if n ∈ l then (l, 7) else if l.length = 4096 then (l, 6) else (insAt l (lb l n) n, 0)) else ([], 1)
/-- A list without one. -/
def removeP (l : List Int) (n : Int) : List Int × Int :=
  if soundB l = true then (if n ∈ l then (delAt l (lb l n), 0) else (l, 5)) else ([], 1)
def postings_Add.f (l0 : List Int) (a1 : Int) : Option (List Int × Int) := some (addP l0 a1)
def postings_Remove.f (l0 : List Int) (a1 : Int) : Option (List Int × Int) := some (removeP l0 a1)

theorem check_c {W : World} {A : Option Addr} {c : Nat} {l : List Int} (h : Kd.C (Kd.int .i64) W A l.length l) (hc : l.length ≤ c) :
    Calls Try.prog 51 #[.slice A l.length c] W fun e W' => e = .returned (.int .i64 (if soundB l = true then 0 else 1)) ∧ Drawn0 W W' := by
  obtain ⟨k, hk⟩ := rounds_of_lim (check19 l)
  exact postings_Check.calls k A c l _ W h hc hk
theorem clone_c {W : World} {A : Option Addr} {c : Nat} {l : List Int} (h : Kd.C (Kd.int .i64) W A l.length l) (hc : l.length ≤ c) (hn : l.length ≤ 4096) :
    Calls Try.prog 58 #[.slice A l.length c] W fun e W' => ∃ (A' : Option Addr) (c' : Nat), e = .returned (.slice A' l.length c') ∧ Kd.R (Kd.int .i64) 3 W' W.heap.size (fun _ => True) (.slice A' l.length c') l ∧ Below W.heap.size W W' := by
  refine (slices_Clone_int_int.calls A c l l W h hc (by simp [slices_Clone_int_int.f]; omega)).mono ?_
  rintro e w' ⟨v, rfl, hv, hb⟩
  obtain ⟨A', c', rfl⟩ := Kd.R_slice hv
  exact ⟨A', c', rfl, hv, hb⟩
theorem ins_c {W : World} {B : Nat} {A : Option Addr} {n c : Nat} {xs : List Int} (i : Nat) (x : Int) (hR : Kd.R (Kd.int .i64) 3 W B (fun _ => True) (.slice A n c) xs) (hi : i ≤ xs.length) (hn : xs.length ≤ 4096) (hB : B ≤ W.heap.size) :
    Calls Try.prog 78 #[.slice A n c, .int .i64 i, .slice (some ⟨W.heap.size, 0, none⟩) 1 1] (W.alloc (.cells #[.int .i64 x] 3)) fun e w' => ∃ v', e = .returned v' ∧ Kd.R (Kd.int .i64) 3 w' B (fun _ => True) v' (insAt xs i x) ∧ Below B W w' := by
  have hb := below_alloc (Below.refl W.heap.size W) (.cells #[.int .i64 x] 3)
  have hbB : Below B W (W.alloc (.cells #[.int .i64 x] 3)) := ⟨hb.os, hb.tape, hb.output, hb.size, fun k hk => hb.block k (by omega)⟩
  refine (ins_calls i x W.heap.size (Kd.R_below hR hb) hi (by omega) (Nat.le_trans hB hb.size) (heap_alloc_new _ _) ?_).mono ?_
  · rcases own_cases hR with ⟨e, _⟩ | ⟨g, cap, cur, e, _, hh, _⟩
    · rw [e]
      simp [Value.ownBlock]
    · rw [e]
      have : g < W.heap.size := by
        rcases Nat.lt_or_ge g W.heap.size with h | h
        · exact h
        · rw [Array.getElem?_eq_none h] at hh
          cases hh
      simp [Value.ownBlock]
      omega
  · rintro e w' ⟨v', rfl, h1, h2⟩
    exact ⟨v', rfl, h1, hbB.trans h2⟩
theorem sound_len {l : List Int} (h : soundB l = true) : l.length ≤ 4096 ∧ l.Pairwise (· < ·) := by
  have := snd_all l
  have e : sndP l = l := by unfold sndP; rw [if_pos h]
  rw [e] at this
  exact ⟨this.1, this.2.2⟩

set_option maxRecDepth 100000 in
theorem postings_Add.calls (A0 : Option Addr) (c0 : Nat) (l0 : List Int) (a1 : Int) (r1 : List Int) (r2 : Int) (w : World) (hr0 : Kd.C (Kd.int .i64) w A0 l0.length l0) (hc0 : l0.length ≤ c0) (h : postings_Add.f l0 a1 = some (r1, r2)) :
    Calls Try.prog 47 #[.slice A0 l0.length c0, .int .i64 a1] w fun e w' => ∃ v0_ : Value, e = .returned (.tuple #[v0_, .int .i64 r2]) ∧ Kd.R (Kd.int .i64) 3 w' w.heap.size (fun _ => True) v0_ r1 ∧ Below w.heap.size w w' := by
  replace h := Option.some.inj h
  unfold addP at h
  have hchk := check_c hr0 hc0
  by_cases hs : soundB l0 = true
  · rw [if_pos hs] at hchk
    by_cases h1 : a1 < 0
    · rw [if_neg (by omega)] at h
      injection h with ha hb
      subst ha
      subst hb
      have e1 : decide (a1 < 0) = true := decide_eq_true h1
      go_enter Try.func47, Try.ntmps47
      go_wp2_with fail
      refine hchk.mono ?_
      rintro e w1 ⟨rfl, hd⟩
      have HD := Aside0.mk hd
      clear hd hchk
      go_wp2
      go_ret2
      exact ⟨_, rfl, Kd.R_nil _ _ _ _ _, HD.out.below⟩
    have e1 : decide (a1 < 0) = false := decide_eq_false h1
    by_cases h2 : a1 > 2147483647
    · rw [if_neg (by omega)] at h
      injection h with ha hb
      subst ha
      subst hb
      have e2 : decide (a1 > 2147483647) = true := decide_eq_true h2
      go_enter Try.func47, Try.ntmps47
      go_wp2_with fail
      refine hchk.mono ?_
      rintro e w1 ⟨rfl, hd⟩
      have HD := Aside0.mk hd
      clear hd hchk
      go_wp2
      go_ret2
      exact ⟨_, rfl, Kd.R_nil _ _ _ _ _, HD.out.below⟩
    have e2 : decide (a1 > 2147483647) = false := decide_eq_false h2
    rw [if_pos ⟨hs, by omega, by omega⟩] at h
    obtain ⟨hn, hsort⟩ := sound_len hs
    have hlb : lb l0 a1 ≤ l0.length := (lb_split a1 hsort).1
    have HR := Aside0.mk hr0
    have HS := Aside0.mk hsort
    have H := Aside0.mk h
    clear h hsort hr0 hs
    go_enter Try.func47, Try.ntmps47
    go_wp2_with fail
    refine hchk.mono ?_
    rintro e w1 ⟨rfl, hd⟩
    have HB := Aside0.mk hd.below
    clear hd hchk
    go_wp2_with fail
    refine (clone_c (Kd.C_below HR.out HB.out) hc0 hn).mono ?_
    rintro e w2 ⟨A, c, rfl, hR, hb⟩
    have HV := Aside0.mk (Kd.R_lower hR HB.out.size)
    have HC := Aside0.mk (Kd.R_reads' hR)
    have HB2 := Aside0.mk (below_then HB.out HB.out.size hb)
    clear hR hb HB
    go_wp2_with fail
    refine (bs_calls A c l0 a1 w2 HC.out.2.2 HC.out.2.1 HS.out hn).mono ?_
    rintro e w3 ⟨rfl, j, hj⟩
    subst hj
    have hb3 : Below w2.heap.size w2 (w2.drewN j) := pw_below_drewN (Below.refl _ _) j
    have HV3 := Aside0.mk (Kd.R_below HV.out hb3)
    have HB3 := Aside0.mk (below_then HB2.out HB2.out.size hb3)
    clear hb3 HV HB2 HC
    by_cases hm : a1 ∈ l0
    · have h' := H.out
      rw [if_pos hm] at h'
      injection h' with ha hb
      subst ha
      subst hb
      have e3 : decide (a1 ∈ l0) = true := decide_eq_true hm
      clear hm H
      go_wp2
      go_ret2
      exact ⟨_, rfl, HV3.out, HB3.out⟩
    · have h' := H.out
      rw [if_neg hm] at h'
      have e3 : decide (a1 ∈ l0) = false := decide_eq_false hm
      clear hm H
      by_cases hf : l0.length = 4096
      · rw [if_pos hf] at h'
        injection h' with ha hb
        subst ha
        subst hb
        have e4 : ((l0.length : Int) == 4096) = true := beq_iff_eq.2 (by omega)
        clear hf
        go_wp2
        go_ret2
        exact ⟨_, rfl, HV3.out, HB3.out⟩
      · rw [if_neg hf] at h'
        injection h' with ha hb
        subst ha
        subst hb
        have e4 : ((l0.length : Int) == 4096) = false := beq_eq_false_iff_ne.2 (by omega)
        clear hf
        go_wp2_with fail
        refine (ins_c (lb l0 a1) a1 HV3.out hlb hn HB3.out.size).mono ?_
        rintro e w4 ⟨v', rfl, h1, h2⟩
        have HV4 := Aside0.mk h1
        have HB4 := Aside0.mk (HB3.out.trans h2)
        clear h1 h2
        go_wp2
        go_ret2
        exact ⟨_, rfl, HV4.out, HB4.out⟩
  · rw [if_neg (fun g => hs g.1)] at h
    rw [if_neg hs] at hchk
    injection h with ha hb
    subst ha
    subst hb
    go_enter Try.func47, Try.ntmps47
    go_wp2_with fail
    refine hchk.mono ?_
    rintro e w1 ⟨rfl, hd⟩
    have HD := Aside0.mk hd
    clear hd hchk
    go_wp2
    go_ret2
    exact ⟨_, rfl, Kd.R_nil _ _ _ _ _, HD.out.below⟩
set_option maxRecDepth 100000 in
theorem postings_Remove.calls (A0 : Option Addr) (c0 : Nat) (l0 : List Int) (a1 : Int) (r1 : List Int) (r2 : Int) (w : World) (hr0 : Kd.C (Kd.int .i64) w A0 l0.length l0) (hc0 : l0.length ≤ c0) (h : postings_Remove.f l0 a1 = some (r1, r2)) :
    Calls Try.prog 48 #[.slice A0 l0.length c0, .int .i64 a1] w fun e w' => ∃ v0_ : Value, e = .returned (.tuple #[v0_, .int .i64 r2]) ∧ Kd.R (Kd.int .i64) 3 w' w.heap.size (fun _ => True) v0_ r1 ∧ Below w.heap.size w w' := by
  replace h := Option.some.inj h
  unfold removeP at h
  have hchk := check_c hr0 hc0
  by_cases hs : soundB l0 = true
  · rw [if_pos hs] at hchk h
    obtain ⟨hn, hsort⟩ := sound_len hs
    have hsp := lb_split a1 hsort
    have HR := Aside0.mk hr0
    have HS := Aside0.mk hsort
    have HSP := Aside0.mk hsp
    have H := Aside0.mk h
    clear h hsort hr0 hs hsp
    go_enter Try.func48, Try.ntmps48
    go_wp2_with fail
    refine hchk.mono ?_
    rintro e w1 ⟨rfl, hd⟩
    have HB := Aside0.mk hd.below
    clear hd hchk
    go_wp2_with fail
    refine (clone_c (Kd.C_below HR.out HB.out) hc0 hn).mono ?_
    rintro e w2 ⟨A, c, rfl, hR, hb⟩
    have HV := Aside0.mk (Kd.R_lower hR HB.out.size)
    have HC := Aside0.mk (Kd.R_reads' hR)
    have HB2 := Aside0.mk (below_then HB.out HB.out.size hb)
    clear hR hb HB
    go_wp2_with fail
    refine (bs_calls A c l0 a1 w2 HC.out.2.2 HC.out.2.1 HS.out hn).mono ?_
    rintro e w3 ⟨rfl, j, hj⟩
    subst hj
    have hb3 : Below w2.heap.size w2 (w2.drewN j) := pw_below_drewN (Below.refl _ _) j
    have HV3 := Aside0.mk (Kd.R_below HV.out hb3)
    have HB3 := Aside0.mk (below_then HB2.out HB2.out.size hb3)
    clear hb3 HV HB2 HC
    by_cases hm : a1 ∈ l0
    · have h' := H.out
      rw [if_pos hm] at h'
      injection h' with ha hb
      subst ha
      subst hb
      have e3 : decide (a1 ∈ l0) = true := decide_eq_true hm
      have hlb : lb l0 a1 < l0.length := by
        obtain ⟨j, hj, e⟩ := List.getElem_of_mem hm
        rcases Nat.lt_or_ge (lb l0 a1) l0.length with g | g
        · exact g
        · have := HSP.out.2.1 j hj (by omega)
          omega
      have hw1 : IntKind.i64.wrap ((lb l0 a1 : Int) + 1) = ((lb l0 a1 + 1 : Nat) : Int) := by rw [IntWalk.i64_in _ (by omega)]; omega
      have HD := Aside0.mk (del_calls (lb l0 a1) HV3.out hlb)
      clear hm H
      go_wp2_with fail
      refine HD.out.mono ?_
      rintro e w4 ⟨v', rfl, h1, h2⟩
      have HV4 := Aside0.mk h1
      have HB4 := Aside0.mk (HB3.out.trans h2)
      clear h1 h2 HD
      go_wp2
      go_ret2
      exact ⟨_, rfl, HV4.out, HB4.out⟩
    · have h' := H.out
      rw [if_neg hm] at h'
      injection h' with ha hb
      subst ha
      subst hb
      have e3 : decide (a1 ∈ l0) = false := decide_eq_false hm
      clear hm H
      go_wp2
      go_ret2
      exact ⟨_, rfl, HV3.out, HB3.out⟩
  · rw [if_neg hs] at hchk h
    injection h with ha hb
    subst ha
    subst hb
    go_enter Try.func48, Try.ntmps48
    go_wp2_with fail
    refine hchk.mono ?_
    rintro e w1 ⟨rfl, hd⟩
    have HD := Aside0.mk hd
    clear hd hchk
    go_wp2
    go_ret2
    exact ⟨_, rfl, Kd.R_nil _ _ _ _ _, HD.out.below⟩
end Go.Proofs.Ytkfakciimeiehaa.PPost
