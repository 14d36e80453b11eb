/- Layer 19: the walker's methods, And and Without: what the Go functions come to, walked by hand. -/
import Derived.Test.YtkfakciimeiehaaPPostx1
import Derived.Test.YtkfakciimeiehaaPostSets
import Derived.IntWalk
set_option linter.unusedVariables false
set_option linter.unusedSimpArgs false
namespace Go.Proofs.Ytkfakciimeiehaa.PPost
open Go.RowKit Go.Proofs.YtkfakciimeiehaaW.PrintWords Go.Proofs.YtkfakciimeiehaaW.PrintLast Go.Proofs.YtkfakciimeiehaaW.PrintMore Go.Proofs.YtkfakciimeiehaaLim Go.Proofs.YtkfakciimeiehaaAid Go.Proofs.Ytkfakciimeiehaa.PostBase

theorem cell_of_blk {w : World} {b t : Nat} {v : Value} (h : w.heap[b]? = some (.cells #[v] t (0, 0))) : w.cell? ⟨b, 0, none⟩ = some v := by
  rw [blk_cell h]; rfl
theorem set_blk {w : World} {b t : Nat} {v : Value} (h : w.heap[b]? = some (.cells #[v] t (0, 0))) (u : Value) : (w.setCell ⟨b, 0, none⟩ u).heap[b]? = some (.cells #[u] t (0, 0)) := by
  have := blk_set h 0 u
  simpa using this
theorem frozen_blk {w : World} {b t : Nat} {v : Value} (h : w.heap[b]? = some (.cells #[v] t (0, 0))) : w.frozen? ⟨b, 0, none⟩ = false := blk_frozen h 0
theorem grown_set (w : World) (b j : Nat) (u : Value) : w.grownBy (w.setCell ⟨b, j, none⟩ u) (some b) :=
  ⟨rfl, by simp, rfl, by simp, fun k _ hne => Below.heap_setCell w ⟨b, j, none⟩ u k (fun e => hne (by rw [e]))⟩
theorem grown_drawn {w w1 : World} (h : Drawn0 w w1) (row : Option Nat) : w.grownBy w1 row := by
  have := h.below
  exact ⟨this.os, this.tape, this.output, this.size, fun k hk _ => this.block k hk⟩
theorem grown_below {w w1 : World} (h : Below w.heap.size w w1) (row : Option Nat) : w.grownBy w1 row := ⟨h.os, h.tape, h.output, h.size, fun k hk _ => h.block k hk⟩
/-- Numbers that are read lie in none but their own blocks. -/
theorem C_ne2 {w w1 : World} {b t n : Nat} {A : Option Addr} {xs : List Int} {cells : Array Value} (h : Kd.C (Kd.int .i64) w A n xs) (hb : w.heap[b]? = some (.cells cells t (0, 0))) (hv : ∀ (o : Nat) v, cells[o]? = some v → ∀ x, v ≠ .int .i64 x) (hg : w.grownBy w1 (some b)) :
    Kd.C (Kd.int .i64) w1 A n xs :=
  ⟨h.1, h.2.1, fun hn => by
    obtain ⟨ad, e, hc⟩ := h.2.2 hn
    refine ⟨ad, e, fun j p hj => ?_⟩
    obtain ⟨c, hl, hk, hcell⟩ := hc j p hj
    refine ⟨c, hl, hk, fun i u hu => ?_⟩
    have hx := hcell i u hu
    refine hg.cell hx fun he => ?_
    injection he with he
    have hk' : c = [.int .i64 p] := hk
    subst hk'
    have hu' : u = .int .i64 p := by
      cases i with
      | zero => simpa using hu.symm
      | succ i => simp at hu
    subst hu'
    unfold World.cell? at hx
    rw [he, hb] at hx
    generalize (ad.add (j * (Kd.int IntKind.i64).sz + i)).off = o at hx
    simp only at hx
    split at hx
    · cases hx
    · exact hv o _ hx p rfl⟩
theorem C_ne {w w1 : World} {b t n : Nat} {A : Option Addr} {xs : List Int} {v : Value} (h : Kd.C (Kd.int .i64) w A n xs) (hb : w.heap[b]? = some (.cells #[v] t (0, 0))) (hv : ∀ x, v ≠ .int .i64 x) (hg : w.grownBy w1 (some b)) :
    Kd.C (Kd.int .i64) w1 A n xs := by
  refine C_ne2 h hb (fun o u hu x => ?_) hg
  cases o with
  | zero =>
    simp at hu
    subst hu
    exact hv x
  | succ o => simp at hu

/-- A walker that stands ahead of xs lies in block b; what it reads lies below B. -/
def IsW (w : World) (B b : Nat) (xs : List Int) : Prop := b < B ∧ ∃ A c, w.heap[b]? = some (.cells #[.slice A xs.length c] 43 (0, 0)) ∧ xs.length ≤ c ∧ Kd.C (Kd.int .i64) w A xs.length xs ∧ (∀ ad, A = some ad → 0 < xs.length → ad.block < B)
theorem C_low {w w1 : World} {B n : Nat} {A : Option Addr} {xs : List Int} (h : Kd.C (Kd.int .i64) w A n xs) (hA : ∀ ad, A = some ad → 0 < n → ad.block < B) {row : Option Nat} (hg : w.grownBy w1 row) (hr : ∀ k, row = some k → B ≤ k) :
    Kd.C (Kd.int .i64) w1 A n xs :=
  ⟨h.1, h.2.1, fun hn => by
    obtain ⟨ad, e, hc⟩ := h.2.2 hn
    refine ⟨ad, e, fun j p hj => ?_⟩
    obtain ⟨c, hl, hk, hcell⟩ := hc j p hj
    refine ⟨c, hl, hk, fun i u hu => hg.cell (hcell i u hu) fun he => ?_⟩
    have h1 := hA ad e hn
    have h2 := hr _ he.symm
    have h3 : (ad.add (j * (Kd.int IntKind.i64).sz + i)).block = ad.block := by unfold Addr.add; split <;> rfl
    omega⟩
theorem C_low_of {w : World} {n : Nat} {A : Option Addr} {xs : List Int} (h : Kd.C (Kd.int .i64) w A n xs) : ∀ ad, A = some ad → 0 < n → ad.block < w.heap.size := by
  intro ad e hn
  obtain ⟨ad', e', hc⟩ := Kd.at_int h 0 (by omega) (by omega)
  have : ad = ad' := by rw [e] at e'; injection e'
  subst this
  have := World.block_lt_of_cell? w _ hc
  simpa [Addr.add] using this
theorem IsW.grown {w w1 : World} {B b : Nat} {xs : List Int} (h : IsW w B b xs) {row : Option Nat} (hg : w.grownBy w1 row) (hr : ∀ k, row = some k → B ≤ k) : IsW w1 B b xs := by
  obtain ⟨h0, A, c, h1, h2, h3, h4⟩ := h
  exact ⟨h0, A, c, (hg.block b (blk_lt h1) (fun e => by have := hr b e.symm; omega)).trans h1, h2, C_low h3 h4 hg hr, h4⟩
theorem IsW.below {w w1 : World} {B b : Nat} {xs : List Int} (h : IsW w B b xs) (hb : Below w.heap.size w w1) : IsW w1 B b xs := h.grown (grown_below hb none) (fun k hk => by cases hk)
theorem IsW.raise {w : World} {B B' b : Nat} {xs : List Int} (h : IsW w B b xs) (hB : B ≤ B') : IsW w B' b xs := by
  obtain ⟨h0, A, c, h1, h2, h3, h4⟩ := h
  exact ⟨by omega, A, c, h1, h2, h3, fun ad e hn => by have := h4 ad e hn; omega⟩
theorem IsW.other {w w1 : World} {B b b' : Nat} {xs ys : List Int} (h : IsW w B b xs) (h' : IsW w B b' ys) (hne : b ≠ b') (hg : w.grownBy w1 (some b')) : IsW w1 B b xs := by
  obtain ⟨h0, A, c, h1, h2, h3, h4⟩ := h
  obtain ⟨_, A', c', h1', _, _⟩ := h'
  exact ⟨h0, A, c, (hg.block b (blk_lt h1) (fun e => hne (by injection e))).trans h1, h2, C_ne h3 h1' (fun x => by simp) hg, h4⟩

theorem left_calls (b : Nat) (A : Option Addr) (n c : Nat) (w : World) (h : w.cell? ⟨b, 0, none⟩ = some (.slice A n c)) :
    Calls Try.prog 26 #[.pointer (some ⟨b, 0, none⟩)] w fun e w' => e = .returned (.int .i64 n) ∧ w = w' := by
  go_enter Try.func26, Try.ntmps26
  go_wp2
  go_ret
  exact ⟨rfl, rfl⟩
theorem left_nil (w : World) :
    Calls Try.prog 26 #[.pointer none] w fun e w' => e = .returned (.int .i64 0) ∧ w = w' := by
  go_enter Try.func26, Try.ntmps26
  go_wp2
  go_ret
  exact ⟨rfl, rfl⟩
theorem at_zero (b : Nat) (A : Option Addr) (c : Nat) (w : World) (h : w.cell? ⟨b, 0, none⟩ = some (.slice A 0 c)) :
    Calls Try.prog 25 #[.pointer (some ⟨b, 0, none⟩)] w fun e w' => e = .returned (.tuple #[.int .i64 0, .bool false]) ∧ w = w' := by
  go_enter Try.func25, Try.ntmps25
  go_wp2_with (go_at_call 26; refine (left_calls _ _ _ _ _ h).mono ?_; rintro e w' ⟨rfl, rfl⟩)
  go_ret2
  exact ⟨rfl, rfl⟩
theorem at_nil (w : World) :
    Calls Try.prog 25 #[.pointer none] w fun e w' => e = .returned (.tuple #[.int .i64 0, .bool false]) ∧ w = w' := by
  go_enter Try.func25, Try.ntmps25
  go_wp2_with (go_at_call 26; refine (left_nil _).mono ?_; rintro e w' ⟨rfl, rfl⟩)
  go_ret2
  exact ⟨rfl, rfl⟩
theorem at_pos (b : Nat) (a : Addr) (n c : Nat) (x : Int) (w : World) (h : w.cell? ⟨b, 0, none⟩ = some (.slice (some a) n c)) (hn : 0 < n) (hx : w.cell? a = some (.int .i64 x)) :
    Calls Try.prog 25 #[.pointer (some ⟨b, 0, none⟩)] w fun e w' => e = .returned (.tuple #[.int .i64 x, .bool true]) ∧ w = w' := by
  have e0 : ((n : Int) == 0) = false := by rw [beq_eq_false_iff_ne]; omega
  go_enter Try.func25, Try.ntmps25
  go_wp2_with (go_at_call 26; refine (left_calls _ _ _ _ _ h).mono ?_; rintro e w' ⟨rfl, rfl⟩)
  go_ret2
  exact ⟨rfl, rfl⟩

theorem at_W {w : World} {B b : Nat} {xs : List Int} (h : IsW w B b xs) :
    Calls Try.prog 25 #[.pointer (some ⟨b, 0, none⟩)] w fun e w' => e = .returned (.tuple #[.int .i64 (hdP xs), .bool (isP xs)]) ∧ w = w' := by
  obtain ⟨hbB, A, c, h1, h2, h3, h4⟩ := h
  cases xs with
  | nil => exact at_zero b A c w (cell_of_blk h1)
  | cons x xs =>
    obtain ⟨ad, e, hcell⟩ := Kd.at_int h3 0 (by omega) (by simp)
    subst e
    have hx : w.cell? ad = some (.int .i64 x) := by simpa [Addr.add, rd] using hcell
    exact at_pos b ad (x :: xs).length c x w (cell_of_blk h1) (by simp) hx
theorem left_W {w : World} {B b : Nat} {xs : List Int} (h : IsW w B b xs) :
    Calls Try.prog 26 #[.pointer (some ⟨b, 0, none⟩)] w fun e w' => e = .returned (.int .i64 xs.length) ∧ w = w' := by
  obtain ⟨hbB, A, c, h1, h2, h3, h4⟩ := h
  exact left_calls b A _ c w (cell_of_blk h1)

theorem isW_cut {w : World} {B b c : Nat} {A : Option Addr} {xs : List Int} (h : w.heap[b]? = some (.cells #[.slice A xs.length c] 43 (0, 0))) (hc : xs.length ≤ c) (hC : Kd.C (Kd.int .i64) w A xs.length xs) (hA : ∀ ad, A = some ad → 0 < xs.length → ad.block < B) (hbB : b < B) (i : Nat) (hi : i ≤ xs.length) :
    IsW (w.setCell ⟨b, 0, none⟩ (.slice (if c = i then A else A.map (·.add i)) (xs.length - i) (c - i))) B b (xs.drop i) ∧ w.grownBy (w.setCell ⟨b, 0, none⟩ (.slice (if c = i then A else A.map (·.add i)) (xs.length - i) (c - i))) (some b) := by
  have hg := grown_set w b 0 (.slice (if c = i then A else A.map (·.add i)) (xs.length - i) (c - i))
  refine ⟨⟨hbB, _, c - i, by simpa using set_blk h (.slice (if c = i then A else A.map (·.add i)) (xs.length - i) (c - i)), by rw [List.length_drop]; omega, ?_, ?_⟩, hg⟩
  · have hd := Kd.C_drop (m := i) (c := c) hC hi hc
    have hd' : Kd.C (Kd.int .i64) w (if c = i then A else A.map (·.add i)) (xs.drop i).length (xs.drop i) := by simpa [show (Kd.int IntKind.i64).sz = 1 from rfl] using hd
    exact C_ne hd' h (fun x => by simp) hg
  · intro ad e hn
    have hn' : 0 < xs.length := by rw [List.length_drop] at hn; omega
    by_cases hci : c = i
    · rw [if_pos hci] at e
      exact hA ad e hn'
    · rw [if_neg hci] at e
      cases A with
      | none => cases e
      | some a =>
        have e' : a.add i = ad := by simpa using e
        have h3 : (a.add i).block = a.block := by unfold Addr.add; split <;> rfl
        have := hA a rfl hn'
        rw [← e']
        omega
theorem next_zero (b : Nat) (A : Option Addr) (c : Nat) (w : World) (h : w.cell? ⟨b, 0, none⟩ = some (.slice A 0 c)) :
    Calls Try.prog 23 #[.pointer (some ⟨b, 0, none⟩)] w fun e w' => e = .returned (.tuple #[.int .i64 0, .bool false]) ∧ w = w' := by
  go_enter Try.func23, Try.ntmps23
  go_wp2_with (first | (go_at_call 26; refine (left_calls _ _ _ _ _ h).mono ?_; rintro e w' ⟨rfl, rfl⟩) | (go_at_call 25; refine (at_zero _ _ _ _ h).mono ?_; rintro e w' ⟨rfl, rfl⟩))
  go_ret2
  exact ⟨rfl, rfl⟩
theorem next_nil (w : World) :
    Calls Try.prog 23 #[.pointer none] w fun e w' => e = .returned (.tuple #[.int .i64 0, .bool false]) ∧ w = w' := by
  go_enter Try.func23, Try.ntmps23
  go_wp2_with (first | (go_at_call 26; refine (left_nil _).mono ?_; rintro e w' ⟨rfl, rfl⟩) | (go_at_call 25; refine (at_nil _).mono ?_; rintro e w' ⟨rfl, rfl⟩))
  go_ret2
  exact ⟨rfl, rfl⟩
theorem next_pos (b : Nat) (A A' : Option Addr) (n c : Nat) (w : World) (h : w.heap[b]? = some (.cells #[.slice A n c] 43 (0, 0))) (hn : 0 < n) (hA : A' = if c = 1 then A else A.map (·.add 1)) (x : Int) (y : Bool)
    (hat : ∀ W : World, W = w.setCell ⟨b, 0, none⟩ (.slice A' (n - 1) (c - 1)) → Calls Try.prog 25 #[.pointer (some ⟨b, 0, none⟩)] W fun e w' => e = .returned (.tuple #[.int .i64 x, .bool y]) ∧ W = w') :
    Calls Try.prog 23 #[.pointer (some ⟨b, 0, none⟩)] w fun e w' => e = .returned (.tuple #[.int .i64 x, .bool y]) ∧ w.setCell ⟨b, 0, none⟩ (.slice A' (n - 1) (c - 1)) = w' := by
  have hc := cell_of_blk h
  have hf := frozen_blk h
  clear h
  obtain ⟨i0, hi, _, hsz, _⟩ := info_parts info3
  have hcut := cut_from (P := Try.prog) 31 3 .i64 Try.underlying31 hi 1 hsz A n c 1 (by omega) (by omega)
  simp only [Int.reduceToNat, Nat.mul_one, ← hA] at hcut
  have e2 : decide ((n : Int) > 0) = true := decide_eq_true (by omega)
  have e1 : decide ((0 : Int) < (n : Int)) = true := decide_eq_true (by omega)
  clear hA hsz hi
  go_enter Try.func23, Try.ntmps23
  go_wp2_with (go_at_call 26; refine (left_calls _ _ _ _ _ hc).mono ?_; rintro e w' ⟨rfl, rfl⟩)
  refine (hat _ rfl).mono ?_
  rintro e w' ⟨rfl, rfl⟩
  go_wp2
  go_ret2
  exact ⟨rfl, rfl⟩
theorem next_W {w : World} {B b : Nat} {xs : List Int} (h : IsW w B b xs) :
    Calls Try.prog 23 #[.pointer (some ⟨b, 0, none⟩)] w fun e w' => e = .returned (.tuple #[.int .i64 (hdP xs.tail), .bool (isP xs.tail)]) ∧ IsW w' B b xs.tail ∧ w.grownBy w' (some b) := by
  have h' := h
  obtain ⟨hbB, A, c, h1, h2, h3, h4⟩ := h
  cases xs with
  | nil =>
    refine (next_zero b A c w (cell_of_blk h1)).mono ?_
    rintro e w' ⟨rfl, rfl⟩
    exact ⟨rfl, h', World.grownBy.refl _ _⟩
  | cons x xs =>
    obtain ⟨hW, hg⟩ := isW_cut (B := B) h1 h2 h3 h4 hbB 1 (by simp)
    have hW : IsW _ B b xs := hW
    refine (next_pos b A _ (x :: xs).length c w h1 (by simp) rfl (hdP xs) (isP xs) fun W hWe => ?_).mono ?_
    · subst hWe
      exact at_W hW
    · rintro e w' ⟨rfl, rfl⟩
      exact ⟨rfl, hW, hg⟩

/-- What the walker of a list is. -/
theorem walk_calls (A0 : Option Addr) (c0 : Nat) (l0 : List Int) (w : World) (hr0 : Kd.C (Kd.int .i64) w A0 l0.length l0) (hc0 : l0.length ≤ c0) :
    Calls Try.prog 21 #[.slice A0 l0.length c0] w fun e w' => ∃ b : Nat, e = .returned (.pointer (some ⟨b, 0, none⟩)) ∧ w.heap.size ≤ b ∧ IsW w' w'.heap.size b (sndP l0) ∧ Below w.heap.size w w' := by
  obtain ⟨k, h⟩ := rounds_of_lim (sound19 l0)
  have hlen : (sndP l0).length ≤ 4096 := (snd_all l0).1
  generalize sndP l0 = r at h hlen ⊢
  have hs := postings_sound.calls k (fun k_ => k_ < w.heap.size) A0 c0 l0 r w (Kd.V_mk hc0 (Kd.C_F (Kd.heap_int .i64) hr0)) h
  have hcl := fun (A : Option Addr) (c : Nat) (W : World) (h1 : Kd.C (Kd.int .i64) W A r.length r) (h2 : r.length ≤ c) => slices_Clone_int_int.calls A c r r W h1 h2 (by simp [slices_Clone_int_int.f]; omega)
  go_enter Try.func21, Try.ntmps21
  go_wp2_with fail
  refine hs.mono ?_
  rintro e w1 ⟨v, rfl, hv, hb⟩
  obtain ⟨A, c, rfl, hlc, hF⟩ := hv
  have hC := Kd.F_now hF
  have H1 := Aside0.mk hC
  have H2 := Aside0.mk hb
  clear hF hC hb
  go_wp2_with fail
  refine (hcl A c w1 H1.out hlc).mono ?_
  rintro e w2 ⟨v2, rfl, hv2, hb2⟩
  obtain ⟨A2, c2, rfl, hlc2, hC2⟩ := Kd.R_reads hv2
  have H3 := Aside0.mk hC2
  have H4 := Aside0.mk hb2
  clear hv2 hC2 hb2 hcl hs h hr0
  go_wp2
  go_ret
  have s1 := H2.out.size
  have s2 := H4.out.size
  have hC3 := Kd.C_alloc H3.out (.cells #[.slice A2 r.length c2] 43)
  exact ⟨w2.heap.size, rfl, by omega, ⟨by simp, A2, c2, heap_alloc_new _ _, hlc2, hC3, C_low_of hC3⟩, below_alloc (below_then H2.out s1 H4.out) _⟩
attribute [local go_sem] max2_int min2_int max_two min_two max_three min_three max_four min_four
theorem drewN_heap (w : World) (n : Nat) : (w.drewN n).heap = w.heap := rfl
theorem grown_drewN (w : World) (n : Nat) (row : Option Nat) : w.grownBy (w.drewN n) row := ⟨rfl, rfl, rfl, Nat.le_refl _, fun _ _ _ => rfl⟩
theorem grown_trans {w w1 w2 : World} {row : Option Nat} (h : w.grownBy w1 row) (k : w1.grownBy w2 row) : w.grownBy w2 row :=
  ⟨k.os.trans h.os, k.tape.trans h.tape, k.output.trans h.output, Nat.le_trans h.size k.size, fun i hi hne => (k.block i (Nat.lt_of_lt_of_le hi h.size) hne).trans (h.block i hi hne)⟩

theorem bs_calls (A : Option Addr) (c : Nat) (ys : List Int) (t : Int) (W : World) (hC : Kd.C (Kd.int .i64) W A ys.length ys) (hc : ys.length ≤ c) (hs : ys.Pairwise (· < ·)) (hn : ys.length ≤ 4096) :
    Calls Try.prog 60 #[.slice A ys.length c, .int .i64 t] W fun e w' => e = .returned (.tuple #[.int .i64 (lb ys t), .bool (decide (t ∈ ys))]) ∧ ∃ j, w' = W.drewN j := by
  obtain ⟨k, h⟩ := rounds_of_lim (bs19 t hs (by omega))
  refine (slices_BinarySearch_int_int.calls k A c ys t _ _ W hC hc h).mono ?_
  rintro e w' ⟨rfl, hd⟩
  exact ⟨rfl, hd.out⟩

theorem seek_zero (b : Nat) (A : Option Addr) (c : Nat) (t : Int) (w : World) (h : w.cell? ⟨b, 0, none⟩ = some (.slice A 0 c)) :
    Calls Try.prog 24 #[.pointer (some ⟨b, 0, none⟩), .int .i64 t] w fun e w' => e = .returned (.tuple #[.int .i64 0, .bool false]) ∧ w = w' := by
  go_enter Try.func24, Try.ntmps24
  go_wp2
  go_loop [6] (fun v => v = .int .i64 1) (fun v => 0)
  case atStart => exact rfl
  case round =>
    obtain rfl := hrel
    go_wp2_with (first | (go_at_call 26; refine (left_calls _ _ _ _ _ h).mono ?_; rintro e w' ⟨rfl, rfl⟩) | (go_at_call 25; refine (at_zero _ _ _ _ h).mono ?_; rintro e w' ⟨rfl, rfl⟩))
    go_ret2
    exact ⟨rfl, rfl⟩
theorem seek_nil (t : Int) (w : World) :
    Calls Try.prog 24 #[.pointer none, .int .i64 t] w fun e w' => e = .returned (.tuple #[.int .i64 0, .bool false]) ∧ w = w' := by
  go_enter Try.func24, Try.ntmps24
  go_wp2
  go_loop [6] (fun v => v = .int .i64 1) (fun v => 0)
  case atStart => exact rfl
  case round =>
    obtain rfl := hrel
    go_wp2_with (first | (go_at_call 26; refine (left_nil _).mono ?_; rintro e w' ⟨rfl, rfl⟩) | (go_at_call 25; refine (at_nil _).mono ?_; rintro e w' ⟨rfl, rfl⟩))
    go_ret2
    exact ⟨rfl, rfl⟩

set_option maxRecDepth 100000 in
set_option maxHeartbeats 1000000 in
theorem seek_pos (b : Nat) (A : Option Addr) (c : Nat) (xs : List Int) (t : Int) (w : World) (h : w.heap[b]? = some (.cells #[.slice A xs.length c] 43 (0, 0))) (hc : xs.length ≤ c) (hC : Kd.C (Kd.int .i64) w A xs.length xs)
    (hs : xs.Pairwise (· < ·)) (hn : xs.length ≤ 4096) (hpos : 0 < xs.length) (B : Nat) (hA : ∀ ad, A = some ad → 0 < xs.length → ad.block < B) (hbB : b < B) :
    Calls Try.prog 24 #[.pointer (some ⟨b, 0, none⟩), .int .i64 t] w fun e w' => e = .returned (.tuple #[.int .i64 (hdP (xs.drop (lb xs t))), .bool (isP (xs.drop (lb xs t)))]) ∧ IsW w' B b (xs.drop (lb xs t)) ∧ w.grownBy w' (some b) := by
  have hc0 := cell_of_blk h
  have hfr := frozen_blk h
  have hlb : lb xs t ≤ xs.length := (lb_split t hs).1
  have e0 : decide (0 < xs.length) = true := decide_eq_true hpos
  obtain ⟨i0, hi, _, hsz, _⟩ := info_parts info3
  have hcutl := cut_from (P := Try.prog) 31 3 .i64 Try.underlying31 hi 1 hsz A xs.length c (lb xs t : Int) (by omega) (by omega)
  rw [Int.toNat_natCast, Nat.mul_one] at hcutl
  have hfin := fun nq : Nat => isW_cut (w := w.drewN nq) h hc (Kd.C_drewN hC nq) hA hbB (lb xs t) hlb
  have hlbk := fun k hk => lb_take (t := t) hs k hk
  obtain ⟨A', hA'⟩ : ∃ A', A' = (if c = lb xs t then A else A.map (·.add (lb xs t))) := ⟨_, rfl⟩
  rw [← hA'] at hcutl
  simp only [← hA'] at hfin
  clear hA'
  have hcutk := fun k hk hk' => cut_to (P := Try.prog) 31 3 .i64 Try.underlying31 hi A xs.length c k hk hk' hc
  have H := Aside0.mk h
  have HFIN := Aside0.mk hfin
  have HS := Aside0.mk hs
  have HC := Aside0.mk hC
  have HLB := Aside0.mk hlbk
  have HCUT := Aside0.mk hcutk
  clear h hfin hs hC hsz hi hlbk hcutk hA hbB
  go_enter Try.func24, Try.ntmps24
  go_wp2
  go_loop [6] (fun v => ∃ k : Nat, 1 ≤ k ∧ k ≤ 8192 ∧ v = .int .i64 k) (fun v => xs.length - (intOf v).toNat)
  case atStart => exact ⟨1, by omega, by omega, rfl⟩
  case round =>
    obtain ⟨k, hk1, hk2, rfl⟩ := hrel
    by_cases hlt : k < xs.length
    · obtain ⟨ad, e, hcell⟩ := Kd.at_int HC.out k (by omega) (by omega)
      subst e
      rw [Int.toNat_natCast, rd_get hlt] at hcell
      have e1 : decide (k < xs.length) = true := decide_eq_true hlt
      by_cases hx : xs[k] < t
      · have e2 : decide (xs[k] < t) = true := decide_eq_true hx
        go_wp2_with (go_at_call 26; refine (left_calls _ _ _ _ _ hc0).mono ?_; rintro e w' ⟨rfl, rfl⟩)
        go_round
        case rel => exact ⟨k * 2, by omega, by omega, by go_num⟩
        case measure => simp [intOf]; omega
      · have e2 : decide (xs[k] < t) = false := decide_eq_false hx
        have hwk : IntKind.i64.wrap ((k : Int) + 1) = (k : Int) + 1 := IntWalk.i64_in _ (by omega)
        have hcut := HCUT.out ((k : Int) + 1) (by omega) (by omega)
        rw [show ((k : Int) + 1).toNat = k + 1 from by omega] at hcut
        have hbsq : ∀ n, Calls Try.prog 60 #[.slice (some ad) (k + 1) c, .int .i64 t] (w.drewN n) fun e w' => e = .returned (.tuple #[.int .i64 (lb xs t), .bool (decide (t ∈ xs.take (k + 1)))]) ∧ ∃ j, w' = (w.drewN n).drewN j := by
          intro n
          have hct := Kd.C_take (m := k + 1) (Kd.C_drewN HC.out n) (by omega)
          have hl : (xs.take (k + 1)).length = k + 1 := by rw [List.length_take]; omega
          have := bs_calls (some ad) c (xs.take (k + 1)) t (w.drewN n) hct (by omega) (HS.out.sublist (List.take_sublist _ _)) (by omega)
          rw [HLB.out (k + 1) (Or.inr ⟨k, rfl, hlt, by omega⟩), hl] at this
          exact this
        have HQ := Aside0.mk hbsq
        clear hbsq
        go_wp2_with (go_at_call 26; refine (left_calls _ _ _ _ _ hc0).mono ?_; rintro e w' ⟨rfl, rfl⟩)
        go_quiet ((go_at_call 60; exact Calls.quiet_of (HQ.out _)))
        clear hcut
        go_wp2_with fail
        refine (at_W (HFIN.out nq).1).mono ?_
        rintro e w' ⟨rfl, rfl⟩
        go_wp2
        go_ret2
        exact ⟨rfl, (HFIN.out nq).1, grown_trans (grown_drewN w nq _) (HFIN.out nq).2⟩
    · have e1 : decide (k < xs.length) = false := decide_eq_false hlt
      have hbsq : ∀ n, Calls Try.prog 60 #[.slice A xs.length c, .int .i64 t] (w.drewN n) fun e w' => e = .returned (.tuple #[.int .i64 (lb xs t), .bool (decide (t ∈ xs))]) ∧ ∃ j, w' = (w.drewN n).drewN j := fun n =>
        bs_calls A c xs t (w.drewN n) (Kd.C_drewN HC.out n) hc HS.out hn
      have HQ := Aside0.mk hbsq
      clear hbsq
      go_wp2_with (go_at_call 26; refine (left_calls _ _ _ _ _ hc0).mono ?_; rintro e w' ⟨rfl, rfl⟩)
      go_quiet ((go_at_call 60; exact Calls.quiet_of (HQ.out _)))
      go_wp2_with fail
      refine (at_W (HFIN.out nq).1).mono ?_
      rintro e w' ⟨rfl, rfl⟩
      go_wp2
      go_ret2
      exact ⟨rfl, (HFIN.out nq).1, grown_trans (grown_drewN w nq _) (HFIN.out nq).2⟩
/-- A walker sought: it stands at the first number from t on. -/
theorem seek_W {w : World} {B b : Nat} {xs : List Int} (t : Int) (h : IsW w B b xs) (hs : xs.Pairwise (· < ·)) (hn : xs.length ≤ 4096) :
    Calls Try.prog 24 #[.pointer (some ⟨b, 0, none⟩), .int .i64 t] w fun e w' => e = .returned (.tuple #[.int .i64 (hdP (xs.drop (lb xs t))), .bool (isP (xs.drop (lb xs t)))]) ∧ IsW w' B b (xs.drop (lb xs t)) ∧ w.grownBy w' (some b) := by
  have h' := h
  obtain ⟨hbB, A, c, h1, h2, h3, h4⟩ := h
  cases xs with
  | nil =>
    refine (seek_zero b A c t w (cell_of_blk h1)).mono ?_
    rintro e w' ⟨rfl, rfl⟩
    exact ⟨by simp [hdP, isP], by simpa using h', World.grownBy.refl _ _⟩
  | cons x xs => exact seek_pos b A c (x :: xs) t w h1 h2 h3 hs hn (by simp) B h4 hbB

/-! ### Without -/
def postings_Without.f (l0 l1 : List Int) : Option (List Int) := some (withoutP l0 l1)
set_option maxRecDepth 100000 in
set_option maxHeartbeats 2000000 in
theorem without_walk (A0 : Option Addr) (c0 : Nat) (l0 : List Int) (A1 : Option Addr) (c1 : Nat) (l1 : List Int) (w : World) (hr0 : Kd.C (Kd.int .i64) w A0 l0.length l0) (hc0 : l0.length ≤ c0) (hr1 : Kd.C (Kd.int .i64) w A1 l1.length l1) (hc1 : l1.length ≤ c1) :
    Calls Try.prog 32 #[.slice A0 l0.length c0, .slice A1 l1.length c1] w fun e w' => ∃ v0_ : Value, e = .returned (v0_) ∧ Kd.R (Kd.int .i64) 3 w' w.heap.size (fun _ => True) v0_ (withoutP l0 l1) ∧ Below w.heap.size w w' := by
  obtain ⟨ks, hsnd⟩ := rounds_of_lim (sound19 l0)
  have hwalk := walk_calls A1 c1 l1 w hr1 hc1
  have hx := snd_all l0
  have hy := snd_all l1
  have hres : withoutP l0 l1 = (sndP l0).filter (fun x => decide (x ∉ sndP l1)) := rfl
  rw [hres]
  clear hres
  generalize sndP l1 = ys at hy hwalk ⊢
  obtain ⟨xs, hxs⟩ : ∃ xs, xs = sndP l0 := ⟨_, rfl⟩
  rw [← hxs] at hx hsnd ⊢
  have HR0 := Aside0.mk hr0
  have HS := Aside0.mk hsnd
  have HX := Aside0.mk hx
  have HY := Aside0.mk hy
  have hxl : xs.length ≤ 4096 := hx.1
  clear hr0 hr1 hsnd hxs hx hy
  go_enter Try.func32, Try.ntmps32
  go_wp2_with fail
  refine hwalk.mono ?_
  rintro e w1 ⟨b, rfl, hb0, hW, hB1⟩
  have HW := Aside0.mk hW
  have HB1 := Aside0.mk hB1
  clear hwalk hW hB1
  go_wp2_with fail
  refine (postings_sound.calls ks (fun k_ => k_ < w1.heap.size) A0 c0 l0 xs w1 (Kd.V_mk hc0 (Kd.C_F (Kd.heap_int .i64) (Kd.C_below HR0.out HB1.out))) HS.out).mono ?_
  rintro e w2 ⟨v, rfl, hv, hB2⟩
  obtain ⟨A, c, rfl, hlc, hF⟩ := hv
  have hCx := Kd.F_now hF
  have HCX := Aside0.mk hCx
  have HW2 := Aside0.mk ((HW.out.below hB2).raise hB2.size)
  have HAX := Aside0.mk (C_low_of hCx)
  have HB2 := Aside0.mk (below_then HB1.out HB1.out.size hB2)
  have hsz := HB2.out.size
  clear hF hCx HW HB1 hB2 HS HR0
  go_wp2
  go_loopw [6, 16] (fun v i wr => ∃ k : Nat, k ≤ xs.length ∧ i = .int .i64 k ∧ Aside0 (Kd.R (Kd.int .i64) 3 wr w2.heap.size (fun _ => True) v ((xs.take k).filter (fun x => decide (x ∉ ys)))) ∧ Aside0 (IsW wr w2.heap.size b (wsP xs ys k)) ∧ Aside0 (Kd.C (Kd.int .i64) wr A xs.length xs) ∧ Aside0 (Below w.heap.size w wr) ∧ w2.heap.size ≤ wr.heap.size) (fun _ i _ => xs.length - (intOf i).toNat)
  case atStart => exact ⟨0, by omega, rfl, ⟨by simpa using Kd.R_nil _ _ _ _ _⟩, ⟨by simpa [wsP] using HW2.out⟩, HCX, HB2, Nat.le_refl _⟩
  case round =>
    obtain ⟨k, hk, rfl, HO, HWK, HC, HB, hszr⟩ := hrel
    by_cases hlt : k < xs.length
    · have hC := HC.out
      obtain ⟨ad, e, hcell⟩ := Kd.at_int hC k (by omega) (by omega)
      subst e
      rw [Int.toNat_natCast, rd_get hlt] at hcell
      clear hC
      have e1 : decide (k < xs.length) = true := decide_eq_true hlt
      have hseek := seek_W xs[k] HWK.out (wsP_sorted HY.out.2.2 k) (by have := wsP_len xs ys k; have := HY.out.1; omega)
      rw [wsP_step HX.out.2.2 HY.out.2.2 hlt] at hseek
      have hmem := mem_first HY.out.2.2 xs[k]
      rw [← wsP_succ ys hlt] at hmem
      have htf := take_filter (fun x => decide (x ∉ ys)) hlt
      have hb3 : ∀ w3 : World, wr.grownBy w3 (some b) → Kd.R (Kd.int .i64) 3 w3 w2.heap.size (fun _ => True) u6 ((xs.take k).filter (fun x => decide (x ∉ ys))) ∧ Kd.C (Kd.int .i64) w3 (some ad) xs.length xs ∧ Below w.heap.size w w3 ∧ wr.heap.size ≤ w3.heap.size := by
        intro w3 hg
        have hbB := HWK.out.1
        obtain ⟨_, A', c', h1', _⟩ := HWK.out
        refine ⟨Kd.R_mono (Kd.R_step (Kd.R_bound HO.out) (fun q hq hlt' => hg.block q hlt' (fun e => ?_))) (fun _ _ => trivial), C_ne HC.out h1' (fun x => by simp) hg, pw_below_grown HB.out _ (by omega) hg (fun q hq => by injection hq; omega), hg.size⟩
        have := hq.2.1
        injection e
        omega
      have HSEEK := Aside0.mk hseek
      have HTF := Aside0.mk htf
      have HB3 := Aside0.mk hb3
      clear hseek htf hb3
      by_cases hin : xs[k] ∈ ys
      · obtain ⟨hm1, hm2⟩ := hmem.1 hin
        have hseek := HSEEK.out
        rw [hm1, hm2] at hseek
        rw [if_neg (by simpa using hin), List.append_nil] at HTF
        clear hmem hm1 hm2 HSEEK hin
        go_wp2_with fail
        refine hseek.mono ?_
        rintro e w3 ⟨rfl, hW3, hg3⟩
        obtain ⟨hO3, hC3, hB3, hs3⟩ := HB3.out w3 hg3
        have HO3 := Aside0.mk hO3
        have HW3 := Aside0.mk hW3
        have HC3 := Aside0.mk hC3
        have HB4 := Aside0.mk hB3
        clear hseek hW3 hg3 hO3 hC3 hB3 HB3 HO HWK HC HB
        go_wp2
        go_roundw
        case rel => exact ⟨k + 1, by omega, by go_num, ⟨by rw [HTF.out]; exact HO3.out⟩, HW3, HC3, HB4, by omega⟩
        case measure => simp [intOf]; omega
      · rw [if_pos (by simpa using hin)] at HTF
        have hcase : (isP (wsP xs ys (k + 1)) = false ∧ hdP (wsP xs ys (k + 1)) = 0) ∨ (isP (wsP xs ys (k + 1)) = true ∧ (hdP (wsP xs ys (k + 1)) != xs[k]) = true) := by
          generalize wsP xs ys (k + 1) = zs at hmem
          cases zs with
          | nil => exact .inl ⟨rfl, rfl⟩
          | cons z zs => exact .inr ⟨rfl, by rw [bne_iff_ne]; exact fun e => hin (hmem.2 ⟨rfl, e⟩)⟩
        have HL := Aside0.mk (show ((xs.take k).filter (fun x => decide (x ∉ ys))).length ≤ 4096 from by have := List.length_filter_le (fun x => decide (x ∉ ys)) (xs.take k); rw [List.length_take] at this; omega)
        obtain ⟨os, hos⟩ : ∃ os, os = (xs.take k).filter (fun x => decide (x ∉ ys)) := ⟨_, rfl⟩
        rw [← hos] at HTF HL HO
        simp only [← hos] at HB3
        obtain ⟨x, hx⟩ : ∃ x, x = xs[k] := ⟨_, rfl⟩
        rw [← hx] at HTF hcell hcase HSEEK
        clear hmem hin hos hx
        rcases hcase with ⟨hz1, hz2⟩ | ⟨hz1, hz2⟩
        all_goals
          have hseek := HSEEK.out
          rw [hz1] at hseek
          clear HSEEK hz1
          go_wp2_with fail
          refine hseek.mono ?_
          rintro e w3 ⟨rfl, hW3, hg3⟩
          obtain ⟨hO3, hC3, hB3, hs3⟩ := HB3.out w3 hg3
          have HO3 := Aside0.mk hO3
          have HW3 := Aside0.mk hW3
          have HC3 := Aside0.mk hC3
          have HB4 := Aside0.mk hB3
          clear hseek hW3 hg3 hO3 hC3 hB3 HB3 HO HWK HC HB
          go_wp2_with (at_builtin; refine Kd.R_append (Kd.int .i64) (w0 := w3) w2.heap.size rfl (.tmp 33) (.tmp 35) 31 3 (.int .i64 0) 8 rfl Try.underlying31 info3 rfl (by decide) (by omega) u6 os x [.int .i64 x] (fun _ => True) (fun _ => False) rfl rfl ?aP (fun _ hk => hk.elim) (fun _ _ => trivial) HO3.out (Below.refl _ _) (by omega) (by have := HL.out; omega) ?_; (case aP => exact rfl); intro v1 w4 ho hb4 hg4 hat; have HO4 := Aside0.mk ho; have HW4 := Aside0.mk (HW3.out.grown hg4 (fun q hq => Kd.R_base HO3.out q hq)); have HC4 := Aside0.mk (C_low HC3.out HAX.out hg4 (fun q hq => Kd.R_base HO3.out q hq)); have HB5 := Aside0.mk (pw_below_grown HB4.out _ (by omega) hg4 (fun q hq => by have := Kd.R_base HO3.out q hq; omega)); have hs4 := hg4.size; clear ho hb4 hg4 hat)
          go_roundw
          case rel => exact ⟨k + 1, by omega, by go_num, ⟨by rw [HTF.out]; exact HO4.out⟩, HW4, HC4, HB5, by omega⟩
          case measure => simp [intOf]; omega
    · have e1 : decide (k < xs.length) = false := decide_eq_false hlt
      go_wp2
      go_ret
      obtain rfl : k = xs.length := by omega
      exact ⟨_, rfl, Kd.R_lower (by simpa using HO.out) hsz, HB.out⟩
theorem postings_Without.calls (A0 : Option Addr) (c0 : Nat) (l0 : List Int) (A1 : Option Addr) (c1 : Nat) (l1 : List Int) (r : List Int) (w : World) (hr0 : Kd.C (Kd.int .i64) w A0 l0.length l0) (hc0 : l0.length ≤ c0) (hr1 : Kd.C (Kd.int .i64) w A1 l1.length l1) (hc1 : l1.length ≤ c1) (h : postings_Without.f l0 l1 = some r) :
    Calls Try.prog 32 #[.slice A0 l0.length c0, .slice A1 l1.length c1] w fun e w' => ∃ v0_ : Value, e = .returned (v0_) ∧ Kd.R (Kd.int .i64) 3 w' w.heap.size (fun _ => True) v0_ r ∧ Below w.heap.size w w' := by
  obtain rfl := Option.some.inj h
  exact without_walk A0 c0 l0 A1 c1 l1 w hr0 hc0 hr1 hc1
end Go.Proofs.Ytkfakciimeiehaa.PPost
