/- Layer 19: the law function PostingsWalks, walked by hand. -/
import Derived.Test.YtkfakciimeiehaaPostRef
import Derived.Test.YtkfakciimeiehaaEPost
import Derived.Test.YtkfakciimeiehaaPPostx2
import Derived.Test.YtkfakciimeiehaaPPostx3
set_option linter.unusedVariables false
set_option linter.unusedSimpArgs false
namespace Go.Proofs.Ytkfakciimeiehaa.PPost
open Go.RowKit Go.Proofs.YtkfakciimeiehaaW.PrintWords Go.Proofs.YtkfakciimeiehaaW.PrintLast Go.Proofs.YtkfakciimeiehaaW.PrintMore Go.Proofs.YtkfakciimeiehaaLim Go.Proofs.YtkfakciimeiehaaAid Go.Proofs.Ytkfakciimeiehaa.PostBase

/-! #### a step -/
structure S37 where
  f0 : Int
  f1 : Int
def z37 : S37 := ⟨(0 : Int), (0 : Int)⟩
def k37 : Kd S37 := Kd.iso (Kd.pair (Kd.int .i64) (Kd.int .i64)) (fun x : S37 => (x.f0, x.f1))
theorem k37_open {w : World} {x : S37} {cs : List Value} (h : k37.K w x cs) : cs = [.int .i64 x.f0, .int .i64 x.f1] := by
  obtain ⟨_, _, rfl, rfl, rfl⟩ := h
  exact rfl
def rd_T37 (xs : List S37) (i : Int) : S37 := xs.getD i.toNat z37
theorem at_T37 {w : World} {A : Option Addr} {n : Nat} {xs : List S37} (h : Kd.C k37 w A n xs) (i : Int) (h0 : 0 ≤ i) (h1 : i < n) : ∃ ad , A = some ad ∧ w.cell? (ad.add (i.toNat * 2)) = some (.int .i64 (rd_T37 xs i).f0) ∧ w.cell? ⟨(ad.add (i.toNat * 2)).block, (ad.add (i.toNat * 2)).off + 1, none⟩ = some (.int .i64 (rd_T37 xs i).f1) := by
  obtain ⟨ad, c, e, _, hK, hc0⟩ := Kd.C_get h z37 i h0 h1
  have hc : ∀ j u, c[j]? = some u → w.cell? (ad.add (i.toNat * 2 + j)) = some u := hc0
  obtain rfl := k37_open hK
  exact ⟨ad, e, hc 0 _ rfl, by rw [← add_field _ _ 1 (by omega)]; exact hc 1 _ rfl⟩

theorem head_cell {w : World} {A : Option Addr} {n : Nat} {xs : List Int} (h : Kd.C (Kd.int .i64) w A n xs) (hn : 0 < n) : ∃ ad, A = some ad ∧ w.cell? ad = some (.int .i64 (hdP xs)) := by
  obtain ⟨ad, e, hcell⟩ := Kd.at_int h 0 (by omega) (by omega)
  refine ⟨ad, e, ?_⟩
  have : rd xs (0 : Int) = hdP xs := by cases xs <;> rfl
  rw [this] at hcell
  simpa [Addr.add] using hcell
theorem isP_pos {xs : List Int} (h : 0 < xs.length) : isP xs = true := by cases xs with | nil => simp at h | cons x xs => rfl
theorem nil_of {xs : List Int} (h : xs.length = 0) : xs = [] := List.eq_nil_of_length_eq_zero h
/-- What a walker's list may be, once more: a cut of what came in. -/
def Cur (w : World) (A : Option Addr) (n c : Nat) (xs : List Int) : Prop := n = xs.length ∧ n ≤ c ∧ n ≤ 4096 ∧ Kd.C (Kd.int .i64) w A n xs ∧ xs.Pairwise (· < ·)
theorem Cur.tail {w : World} {A : Option Addr} {n c : Nat} {xs : List Int} (h : Cur w A n c xs) (hn : 0 < n) : Cur w (if c = 1 then A else A.map (·.add 1)) (n - 1) (c - 1) xs.tail := by
  obtain ⟨h1, h2, h3, h4, h5⟩ := h
  subst h1
  have hd := Kd.C_drop (m := 1) (c := c) h4 (by omega) h2
  have hd' : Kd.C (Kd.int .i64) w (if c = 1 then A else A.map (·.add 1)) (xs.drop 1).length (xs.drop 1) := by simpa [show (Kd.int IntKind.i64).sz = 1 from rfl] using hd
  rw [List.drop_one, List.length_tail] at hd'
  exact ⟨by rw [List.length_tail], by omega, by omega, hd', h5.sublist (List.tail_sublist _)⟩
theorem cut_one (A : Option Addr) (n c : Nat) (hn : 0 < n) (A' : Option Addr) (hA : A' = if c = 1 then A else A.map (·.add 1)) : ∀ W : World, (Instr.slice 31 (.slice A n c) (some (.int .i64 1)) none none).run Try.prog W = .ok (.slice A' (n - 1) (c - 1)) W := by
  obtain ⟨i0, hi, _, hsz, _⟩ := info_parts info3
  have hcut := cut_from (P := Try.prog) 31 3 .i64 Try.underlying31 hi 1 hsz A n c 1 (by omega) (by omega)
  simp only [Int.reduceToNat, Nat.mul_one, ← hA] at hcut
  exact hcut
theorem lb_cons_lt {x t : Int} {xs : List Int} (h : x < t) : lb (x :: xs) t = lb xs t + 1 := by
  unfold lb
  rw [List.countP_cons]
  simp [h]
theorem seek_tail {xs : List Int} {t : Int} (hn : 0 < xs.length) (h : hdP xs < t) : xs.tail.drop (lb xs.tail t) = xs.drop (lb xs t) := by
  cases xs with
  | nil => simp at hn
  | cons x xs =>
    have : lb (x :: xs) t = lb xs t + 1 := lb_cons_lt h
    rw [this]
    rfl
theorem seek_stop {xs : List Int} {t : Int} (hs : xs.Pairwise (· < ·)) (hn : 0 < xs.length) (h : ¬ hdP xs < t) : xs.drop (lb xs t) = xs := by
  cases xs with
  | nil => simp at hn
  | cons x xs =>
    have h' : t ≤ x := by have : ¬ x < t := h; omega
    have := (List.pairwise_cons.1 hs).1
    have e : lb (x :: xs) t = 0 := split_lb ⟨by omega, fun j hj hji => by omega, fun j hj _ => by
      cases j with
      | zero => exact h'
      | succ j => have := this _ (List.getElem_mem (by simpa using hj : j < xs.length)); simp; omega⟩
    rw [e]
    rfl
def lenOf : Value → Nat | .slice _ n _ => n | _ => 0

def windroselaw19_PostingsWalks.f (k : Nat) (l0 : List Int) (l1 : List S37) : Option Bool := windroselaw19_awake.f k

set_option maxRecDepth 100000 in
set_option maxHeartbeats 2000000 in
theorem windroselaw19_PostingsWalks.calls (k : Nat) (A0 : Option Addr) (c0 : Nat) (l0 : List Int) (A1 : Option Addr) (c1 : Nat) (l1 : List S37) (r : Bool) (w : World) (hr0 : Kd.C (Kd.int .i64) w A0 l0.length l0) (hc0 : l0.length ≤ c0) (hr1 : Kd.C k37 w A1 l1.length l1) (hc1 : l1.length ≤ c1) (h : windroselaw19_PostingsWalks.f k l0 l1 = some r) :
    Calls Try.prog 6 #[.slice A0 l0.length c0, .slice A1 l1.length c1] w fun e w' => e = .returned (.bool r) ∧ Below w.heap.size w w' := by
  have hawk := fun W => windroselaw19_awake.calls k r W h
  have HAWK := Aside0.mk hawk
  clear hawk
  by_cases h400 : (l0.length : Int) > 400
  · go_enter Try.func6, Try.ntmps6
    go_wp2_with fail
    refine (HAWK.out w).mono ?_
    rintro e w1 ⟨rfl, hb⟩
    have HB := Aside0.mk hb
    clear hb
    go_wp2
    go_ret
    exact ⟨rfl, HB.out⟩
  · obtain ⟨km, hm⟩ := rounds_of_lim (may19 l0 (by omega))
    have hwalk := walk_calls A0 c0 l0 w hr0 hc0
    have hmay := fun (W : World) (hb : Below w.heap.size w W) => windroseref19_May.calls km A0 c0 l0 (soundB l0) W (Kd.C_below hr0 hb) hc0 hm
    have hall := snd_all l0
    have HALL := Aside0.mk hall
    have HMAY := Aside0.mk hmay
    have HWALK := Aside0.mk hwalk
    have HR0 := Aside0.mk hr0
    have HR1 := Aside0.mk hr1
    clear hall hmay hwalk hr0 hr1 hm
    go_enter Try.func6, Try.ntmps6
    go_wp2_with fail
    refine HWALK.out.mono ?_
    rintro e w1 ⟨b, rfl, hb0, hW, hB1⟩
    have HW1 := Aside0.mk hW
    have HB1 := Aside0.mk hB1
    clear hW hB1 HWALK
    go_wp2_with fail
    refine (HMAY.out w1 HB1.out).mono ?_
    rintro e w2 ⟨rfl, hd⟩
    have HB2 := Aside0.mk (below_then HB1.out HB1.out.size hd.below)
    have HW2 := Aside0.mk ((HW1.out.below hd.below).raise hd.below.size)
    clear hd HW1 HB1 HMAY
    have hst : ∃ (A : Option Addr) (n c : Nat), (if soundB l0 = true then (Value.slice A0 l0.length c0) else (.slice none 0 0)) = .slice A n c ∧ Cur w A n c (sndP l0) := by
      by_cases hs : soundB l0 = true
      · have e : sndP l0 = l0 := by unfold sndP; rw [if_pos hs]
        rw [if_pos hs, e]
        rw [e] at HALL
        exact ⟨A0, l0.length, c0, rfl, rfl, hc0, HALL.out.1, HR0.out, HALL.out.2.2⟩
      · have e : sndP l0 = [] := by unfold sndP; rw [if_neg hs]
        rw [if_neg hs, e]
        exact ⟨none, 0, 0, rfl, rfl, Nat.le_refl _, by omega, Kd.C_nil _ _, List.Pairwise.nil⟩
    have HST := Aside0.mk hst
    clear hst
    rcases hs : soundB l0 with _ | _
    all_goals
      rw [hs] at HST
      simp only [Bool.false_eq_true, if_false, if_true] at HST
      clear hs
      go_wp2
      go_loopw [6, 7] (fun v6 v7 wr => ∃ (i : Nat) (A : Option Addr) (n c : Nat) (cur : List Int), i ≤ l1.length ∧ i ≤ 60 ∧ v7 = .int .i64 i ∧ v6 = .slice A n c ∧ Aside0 (Cur w A n c cur) ∧ Aside0 (IsW wr wr.heap.size b cur) ∧ Aside0 (Below w.heap.size w wr)) (fun _ v7 _ => l1.length - (intOf v7).toNat)
      case atStart =>
        obtain ⟨A, n, c, e, hcur⟩ := HST.out
        exact ⟨0, A, n, c, _, by omega, by omega, rfl, e, ⟨hcur⟩, HW2, HB2⟩
      case round =>
        obtain ⟨i, A, n, c, cur, hi1, hi2, rfl, rfl, HCUR, HW, HB⟩ := hrel
        clear HW2 HB2 HST
        by_cases hlt : i < l1.length
        · have e1 : decide (i < l1.length) = true := decide_eq_true hlt
          by_cases hlt2 : (i : Int) < 60
          · have e2 : decide ((i : Int) < 60) = true := decide_eq_true hlt2
            obtain ⟨ad1, e, hx0, hx1⟩ := at_T37 HR1.out i (by omega) (by omega)
            subst e
            rw [Int.toNat_natCast] at hx0 hx1
            have HX1 := Aside0.mk hx1
            replace hx0 := pw_cell_below HB.out hx0
            replace hx1 := pw_cell_below HB.out hx1
            obtain ⟨d, hd⟩ : ∃ d, d = (rd_T37 l1 i).f0 := ⟨_, rfl⟩
            obtain ⟨t, ht⟩ : ∃ t, t = (rd_T37 l1 i).f1 := ⟨_, rfl⟩
            rw [← hd] at hx0
            rw [← ht] at hx1 HX1
            clear hd ht
            by_cases hd : d = 0
            · have e3 : (d == 0) = true := beq_iff_eq.2 hd
              have hnext := next_W HW.out
              by_cases hn : 0 < n
              · have e4 : decide ((n : Int) > 0) = true := decide_eq_true (by omega)
                obtain ⟨A', hA'⟩ : ∃ A', A' = (if c = 1 then A else A.map (·.add 1)) := ⟨_, rfl⟩
                have hcut := cut_one A n c hn A' hA'
                have HCUR2 := Aside0.mk (HCUR.out.tail hn)
                rw [← hA'] at HCUR2
                clear hA'
                obtain ⟨m, hm⟩ : ∃ m, m = n - 1 := ⟨_, rfl⟩
                rw [← hm] at hcut HCUR2
                generalize cur.tail = ys at hnext HCUR2
                clear hm
                by_cases hy : 0 < m
                · have hz1 : isP ys = true := isP_pos (by have := HCUR2.out.1; omega)
                  obtain ⟨y, hz2⟩ : ∃ y, hdP ys = y := ⟨_, rfl⟩
                  rw [hz1, hz2] at hnext
                  have HN := Aside0.mk hnext
                  clear hnext
                  go_wp2_with fail
                  refine HN.out.mono ?_
                  rintro e w3 ⟨rfl, hW3, hg3⟩
                  have HB2 := Aside0.mk (pw_below_grown HB.out _ HB.out.size hg3 (fun q hq => by injection hq; omega))
                  have HW3 := Aside0.mk (hW3.raise hg3.size)
                  clear hW3 hg3 HN HW HB
                  obtain ⟨ad, eA, hcell⟩ := head_cell (Kd.C_below HCUR2.out.2.2.2.1 HB2.out) hy
                  subst eA
                  rw [hz2] at hcell
                  have e6 : decide ((m : Int) > 0) = true := decide_eq_true (by omega)
                  have hat := at_W HW3.out
                  have hleft := left_W HW3.out
                  rw [hz1, hz2] at hat
                  rw [← HCUR2.out.1] at hleft
                  go_wp2_with (first | (go_at_call 25; refine hat.mono ?_; rintro e w' ⟨rfl, rfl⟩) | (go_at_call 26; refine hleft.mono ?_; rintro e w' ⟨rfl, rfl⟩))
                  go_roundw
                  case rel => exact ⟨i + 1, _, _, _, _, by omega, by omega, by go_num, rfl, HCUR2, HW3, HB2⟩
                  case measure => simp [intOf]; omega
                · have hz : ys = [] := nil_of (by have := HCUR2.out.1; omega)
                  subst hz
                  obtain rfl : m = 0 := by omega
                  have HN := Aside0.mk hnext
                  clear hnext
                  go_wp2_with fail
                  refine HN.out.mono ?_
                  rintro e w3 ⟨rfl, hW3, hg3⟩
                  have HB2 := Aside0.mk (pw_below_grown HB.out _ HB.out.size hg3 (fun q hq => by injection hq; omega))
                  have HW3 := Aside0.mk (hW3.raise hg3.size)
                  clear hW3 hg3 HN HW HB
                  have hat := at_W HW3.out
                  have hleft := left_W HW3.out
                  go_wp2_with (first | (go_at_call 25; refine hat.mono ?_; rintro e w' ⟨rfl, rfl⟩) | (go_at_call 26; refine hleft.mono ?_; rintro e w' ⟨rfl, rfl⟩))
                  go_roundw
                  case rel => exact ⟨i + 1, _, _, _, _, by omega, by omega, by go_num, rfl, HCUR2, HW3, HB2⟩
                  case measure => simp [intOf]; omega
              · obtain rfl : n = 0 := by omega
                have HCUR2 := HCUR
                have hz := nil_of HCUR.out.1.symm
                subst hz
                have HN := Aside0.mk hnext
                clear hnext
                go_wp2_with fail
                refine HN.out.mono ?_
                rintro e w3 ⟨rfl, hW3, hg3⟩
                have HB2 := Aside0.mk (pw_below_grown HB.out _ HB.out.size hg3 (fun q hq => by injection hq; omega))
                have HW3 := Aside0.mk (hW3.raise hg3.size)
                clear hW3 hg3 HN HW HB
                have hat := at_W HW3.out
                have hleft := left_W HW3.out
                go_wp2_with (first | (go_at_call 25; refine hat.mono ?_; rintro e w' ⟨rfl, rfl⟩) | (go_at_call 26; refine hleft.mono ?_; rintro e w' ⟨rfl, rfl⟩))
                go_roundw
                case rel => exact ⟨i + 1, _, _, _, _, by omega, by omega, by go_num, rfl, HCUR2, HW3, HB2⟩
                case measure => simp [intOf]; omega
            · have e3 : (d == 0) = false := beq_eq_false_iff_ne.2 hd
              have hseek := seek_W t HW.out HCUR.out.2.2.2.2 (by have := HCUR.out.1; have := HCUR.out.2.2.1; omega)
              obtain ⟨ys, hys⟩ : ∃ ys, ys = cur.drop (lb cur t) := ⟨_, rfl⟩
              rw [← hys] at hseek
              by_cases hy : 0 < ys.length
              · have hz1 : isP ys = true := isP_pos hy
                obtain ⟨y, hz2⟩ : ∃ y, hdP ys = y := ⟨_, rfl⟩
                rw [hz1, hz2] at hseek
                have HN := Aside0.mk hseek
                clear hseek
                go_wp2_with fail
                refine HN.out.mono ?_
                rintro e w3 ⟨rfl, hW3, hg3⟩
                have HB2 := Aside0.mk (pw_below_grown HB.out _ HB.out.size hg3 (fun q hq => by injection hq; omega))
                have HW3 := Aside0.mk (hW3.raise hg3.size)
                clear hW3 hg3 HN HW HB
                go_wp2
                go_loopw [6] (fun v wq => ∃ (A : Option Addr) (n c : Nat) (cur : List Int), v = .slice A n c ∧ Aside0 (Cur w A n c cur) ∧ Aside0 (ys = cur.drop (lb cur t)) ∧ Aside0 (IsW wq wq.heap.size b ys) ∧ Aside0 (Below w.heap.size w wq)) (fun v _ => lenOf v)
                case atStart => exact ⟨A, n, c, cur, rfl, HCUR, ⟨hys⟩, ⟨HW3.out⟩, HB2⟩
                case round =>
                  clear HCUR hys HB2 HW3
                  obtain ⟨A, n, c, cur, rfl, HCUR, HYS, HW3, HB2⟩ := hrel
                  have hx1 := pw_cell_below HB2.out HX1.out
                  by_cases hn : 0 < n
                  · have e4 : decide ((n : Int) > 0) = true := decide_eq_true (by omega)
                    obtain ⟨adz, eA, hcz⟩ := head_cell (Kd.C_below HCUR.out.2.2.2.1 HB2.out) hn
                    subst eA
                    by_cases hzt : hdP cur < t
                    · have e5 : decide (hdP cur < t) = true := decide_eq_true hzt
                      obtain ⟨A', hA'⟩ : ∃ A', A' = (if c = 1 then some adz else (some adz).map (·.add 1)) := ⟨_, rfl⟩
                      have hcut := cut_one (some adz) n c hn A' hA'
                      have HCUR2 := Aside0.mk (HCUR.out.tail hn)
                      rw [← hA'] at HCUR2
                      clear hA'
                      have HYS2 := Aside0.mk (HYS.out.trans (seek_tail (by have := HCUR.out.1; omega) hzt).symm)
                      go_wp2
                      go_quiet (fail)
                      have HB3 := Aside0.mk (below_then HB2.out HB2.out.size (Drawn0.below ⟨nq, rfl⟩))
                      have HW4 := Aside0.mk ((HW3.out.below (Drawn0.below ⟨nq, rfl⟩)).raise (Drawn0.below ⟨nq, rfl⟩).size)
                      go_wp2
                      go_roundw
                      case rel => exact ⟨_, _, _, _, rfl, HCUR2, HYS2, HW4, HB3⟩
                      case measure => simp [lenOf]; omega
                    · have e5 : decide (hdP cur < t) = false := decide_eq_false hzt
                      obtain rfl : ys = cur := HYS.out.trans (seek_stop HCUR.out.2.2.2.2 (by have := HCUR.out.1; omega) hzt)
                      rw [hz2] at hcz e5
                      obtain ⟨m, hm⟩ : ∃ m, m = n := ⟨_, rfl⟩
                      have HCUR2 := HCUR
                      have hy : 0 < n := hn
                      have e6 : decide ((n : Int) > 0) = true := decide_eq_true (by omega)
                      go_wp2
                      go_quiet (fail)
                      have HB3 := Aside0.mk (below_then HB2.out HB2.out.size (Drawn0.below ⟨nq, rfl⟩))
                      have HW4 := Aside0.mk ((HW3.out.below (Drawn0.below ⟨nq, rfl⟩)).raise (Drawn0.below ⟨nq, rfl⟩).size)
                      clear HB2 HW3
                      have HB2 := HB3
                      have HW3 := HW4
                      clear HB3 HW4
                      have hcz := pw_cell_below (Drawn0.below ⟨nq, rfl⟩) hcz
                      have hat := at_W HW3.out
                      have hleft := left_W HW3.out
                      rw [hz1, hz2] at hat
                      rw [← HCUR2.out.1] at hleft
                      go_wp2_with (first | (go_at_call 25; refine hat.mono ?_; rintro e w' ⟨rfl, rfl⟩) | (go_at_call 26; refine hleft.mono ?_; rintro e w' ⟨rfl, rfl⟩))
                      go_roundw
                      case rel => exact ⟨i + 1, _, _, _, _, by omega, by omega, by go_num, rfl, HCUR2, HW3, HB2⟩
                      case measure => simp [intOf]; omega
                  · exfalso
                    have := HYS.out
                    rw [nil_of (show cur.length = 0 by have := HCUR.out.1; omega)] at this
                    rw [this] at hy
                    simp at hy
              · have hz : ys = [] := nil_of (by omega)
                rw [hz] at hseek
                have HN := Aside0.mk hseek
                clear hseek
                go_wp2_with fail
                refine HN.out.mono ?_
                rintro e w3 ⟨rfl, hW3, hg3⟩
                have HB2 := Aside0.mk (pw_below_grown HB.out _ HB.out.size hg3 (fun q hq => by injection hq; omega))
                have HW3 := Aside0.mk (hW3.raise hg3.size)
                clear hW3 hg3 HN HW HB
                go_wp2
                go_loopw [6] (fun v wq => ∃ (A : Option Addr) (n c : Nat) (cur : List Int), v = .slice A n c ∧ Aside0 (Cur w A n c cur) ∧ Aside0 (ys = cur.drop (lb cur t)) ∧ Aside0 (IsW wq wq.heap.size b ys) ∧ Aside0 (Below w.heap.size w wq)) (fun v _ => lenOf v)
                case atStart => exact ⟨A, n, c, cur, rfl, HCUR, ⟨hys⟩, ⟨hz ▸ HW3.out⟩, HB2⟩
                case round =>
                  clear HCUR hys HB2 HW3
                  obtain ⟨A, n, c, cur, rfl, HCUR, HYS, HW3, HB2⟩ := hrel
                  have hx1 := pw_cell_below HB2.out HX1.out
                  by_cases hn : 0 < n
                  · have e4 : decide ((n : Int) > 0) = true := decide_eq_true (by omega)
                    obtain ⟨adz, eA, hcz⟩ := head_cell (Kd.C_below HCUR.out.2.2.2.1 HB2.out) hn
                    subst eA
                    by_cases hzt : hdP cur < t
                    · have e5 : decide (hdP cur < t) = true := decide_eq_true hzt
                      obtain ⟨A', hA'⟩ : ∃ A', A' = (if c = 1 then some adz else (some adz).map (·.add 1)) := ⟨_, rfl⟩
                      have hcut := cut_one (some adz) n c hn A' hA'
                      have HCUR2 := Aside0.mk (HCUR.out.tail hn)
                      rw [← hA'] at HCUR2
                      clear hA'
                      have HYS2 := Aside0.mk (HYS.out.trans (seek_tail (by have := HCUR.out.1; omega) hzt).symm)
                      go_wp2
                      go_quiet (fail)
                      have HB3 := Aside0.mk (below_then HB2.out HB2.out.size (Drawn0.below ⟨nq, rfl⟩))
                      have HW4 := Aside0.mk ((HW3.out.below (Drawn0.below ⟨nq, rfl⟩)).raise (Drawn0.below ⟨nq, rfl⟩).size)
                      go_wp2
                      go_roundw
                      case rel => exact ⟨_, _, _, _, rfl, HCUR2, HYS2, HW4, HB3⟩
                      case measure => simp [lenOf]; omega
                    · exfalso
                      have := HYS.out.trans (seek_stop HCUR.out.2.2.2.2 (by have := HCUR.out.1; omega) hzt)
                      have hcl := HCUR.out.1
                      rw [hz] at this
                      rw [← this] at hcl
                      simp at hcl
                      omega
                  · obtain rfl : n = 0 := by omega
                    have HCUR2 := HCUR
                    have hz' := nil_of HCUR.out.1.symm
                    subst hz'
                    rw [hz] at HW3
                    go_wp2
                    go_quiet (fail)
                    have HB3 := Aside0.mk (below_then HB2.out HB2.out.size (Drawn0.below ⟨nq, rfl⟩))
                    have HW4 := Aside0.mk ((HW3.out.below (Drawn0.below ⟨nq, rfl⟩)).raise (Drawn0.below ⟨nq, rfl⟩).size)
                    clear HB2 HW3
                    have HB2 := HB3
                    have HW3 := HW4
                    clear HB3 HW4
                    have hat := at_W HW3.out
                    have hleft := left_W HW3.out
                    go_wp2_with (first | (go_at_call 25; refine hat.mono ?_; rintro e w' ⟨rfl, rfl⟩) | (go_at_call 26; refine hleft.mono ?_; rintro e w' ⟨rfl, rfl⟩))
                    go_roundw
                    case rel => exact ⟨i + 1, _, _, _, _, by omega, by omega, by go_num, rfl, HCUR2, HW3, HB2⟩
                    case measure => simp [intOf]; omega
          · have e2 : decide ((i : Int) < 60) = false := decide_eq_false hlt2
            go_wp2_with fail
            refine (HAWK.out wr).mono ?_
            rintro e w3 ⟨rfl, hb3⟩
            have HB3 := Aside0.mk (below_then HB.out HB.out.size hb3)
            clear hb3
            go_wp2
            go_ret
            exact ⟨rfl, HB3.out⟩
        · have e1 : decide (i < l1.length) = false := decide_eq_false hlt
          go_wp2_with fail
          refine (HAWK.out wr).mono ?_
          rintro e w3 ⟨rfl, hb3⟩
          have HB3 := Aside0.mk (below_then HB.out HB.out.size hb3)
          clear hb3
          go_wp2
          go_ret
          exact ⟨rfl, HB3.out⟩
end Go.Proofs.Ytkfakciimeiehaa.PPost
