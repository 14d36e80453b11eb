/- Layer 19: And: what the Go function comes to, walked by hand. -/
import Derived.Test.YtkfakciimeiehaaEPost
set_option linter.unusedVariables false
set_option linter.unusedSimpArgs false
namespace Go.Proofs.Ytkfakciimeiehaa.PPost
open Go.RowKit Go.Proofs.YtkfakciimeiehaaW.PrintWords Go.Proofs.YtkfakciimeiehaaW.PrintLast Go.Proofs.YtkfakciimeiehaaW.PrintMore Go.Proofs.YtkfakciimeiehaaLim Go.Proofs.YtkfakciimeiehaaAid Go.Proofs.Ytkfakciimeiehaa.PostBase

/-- What a walker tells behind a seek. -/
def seekP (t : Int) (xs : List Int) : List Int := xs.drop (lb xs t)
mutual
/-- The outer loop: the number that is asked for, whether there is one, what the walkers stand ahead of, what was found. -/
def andOut : Nat → Int → Bool → List (List Int) → List Int → Option (List Int)
  | 0, _, _, _, _ => none
  | k + 1, n, ok, wss, os => if ok = true then andIn k n wss os 0 else some os
/-- The inner loop: over the walkers from j on. -/
def andIn : Nat → Int → List (List Int) → List Int → Nat → Option (List Int)
  | 0, _, _, _, _ => none
  | k + 1, n, wss, os, j =>
    if j < wss.length then
      if isP (seekP n (wss.getD j [])) = true then
        if n < hdP (seekP n (wss.getD j [])) then andOut k (hdP (seekP n (wss.getD j []))) true (wss.set j (seekP n (wss.getD j []))) os
        else andIn k n (wss.set j (seekP n (wss.getD j []))) os (j + 1)
      else some os
    else if os.length ≤ 100000 then andOut k (hdP (wss.getD 0 []).tail) (isP (wss.getD 0 []).tail) (wss.set 0 (wss.getD 0 []).tail) (os ++ [n]) else none
end
def postings_And.f (k : Nat) (l0 : List (List Int)) : Option (List Int) :=
  if l0 = [] then some [] else if l0.length ≤ 1000000 then andOut k (hdP ((l0.map sndP).getD 0 [])) (isP ((l0.map sndP).getD 0 [])) (l0.map sndP) [] else none

/-- Walkers in line: their blocks, and what they stand ahead of. -/
def Ws (w : World) (B G m : Nat) (bs : List Nat) (wss : List (List Int)) : Prop :=
  G < B ∧ bs.length = wss.length ∧ bs.Nodup ∧ (∃ cells : Array Value, w.heap[G]? = some (.cells cells 33 (0, 0)) ∧ cells.size = m ∧ (∀ (j b : Nat), bs[j]? = some b → cells[j]? = some (.pointer (some ⟨b, 0, none⟩))) ∧ ∀ (o : Nat) v, cells[o]? = some v → ∀ x, v ≠ .int .i64 x) ∧
    ∀ (j b : Nat) (xs : List Int), bs[j]? = some b → wss[j]? = some xs → IsW w B b xs
theorem Ws.grown {w w1 : World} {B G m : Nat} {bs : List Nat} {wss : List (List Int)} (h : Ws w B G m bs wss) {row : Option Nat} (hg : w.grownBy w1 row) (hr : ∀ k, row = some k → B ≤ k) : Ws w1 B G m bs wss := by
  obtain ⟨h1, h2, h3, ⟨cells, h4, h5, h6⟩, h7⟩ := h
  exact ⟨h1, h2, h3, ⟨cells, (hg.block G (blk_lt h4) (fun e => by have := hr G e.symm; omega)).trans h4, h5, h6⟩, fun j b xs hb hx => (h7 j b xs hb hx).grown hg hr⟩
theorem Ws.set_ {w w1 : World} {B G m : Nat} {bs : List Nat} {wss : List (List Int)} (h : Ws w B G m bs wss) {j b : Nat} {xs zs : List Int} (hb : bs[j]? = some b) (hx : wss[j]? = some xs) (hg : w.grownBy w1 (some b)) (hz : IsW w1 B b zs) :
    Ws w1 B G m bs (wss.set j zs) := by
  have hW := h.2.2.2.2 j b xs hb hx
  obtain ⟨h1, h2, h3, ⟨cells, h4, h5, h6⟩, h7⟩ := h
  have hne : G ≠ b := by
    obtain ⟨_, A, c, hh, _⟩ := hW
    exact blk_ne h4 hh (by decide)
  refine ⟨h1, by simpa using h2, h3, ⟨cells, (hg.block G (blk_lt h4) (fun e => hne (by injection e))).trans h4, h5, h6⟩, fun i b' ys hb' hy => ?_⟩
  by_cases hij : i = j
  · subst hij
    rw [hb] at hb'
    injection hb' with hb'
    subst hb'
    have hlt : i < wss.length := (List.getElem?_eq_some_iff.1 hx).1
    rw [List.getElem?_set_self hlt] at hy
    injection hy with hy
    subst hy
    exact hz
  · rw [List.getElem?_set_ne (by omega)] at hy
    refine (h7 i b' ys hb' hy).other hW (fun e => hij ?_) hg
    subst e
    obtain ⟨hi, ei⟩ := List.getElem?_eq_some_iff.1 hb'
    obtain ⟨hj, ej⟩ := List.getElem?_eq_some_iff.1 hb
    exact (List.getElem_inj h3).1 (ei.trans ej.symm)
theorem Ws.push {w w1 : World} {B G m : Nat} {bs : List Nat} {wss : List (List Int)} (h : Ws w B G m bs wss) {b : Nat} {zs : List Int} (hb : Below w.heap.size w w1) (hB : B ≤ w.heap.size) (hnew : w.heap.size ≤ b) (hz : IsW w1 w1.heap.size b zs) (hlt : bs.length < m) :
    Ws (w1.setCell ⟨G, bs.length, none⟩ (.pointer (some ⟨b, 0, none⟩))) w1.heap.size G m (bs ++ [b]) (wss ++ [zs]) := by
  have hs := hb.size
  obtain ⟨h1, h2, h3, ⟨cells, h4, h5, h6⟩, h7⟩ := h
  have h4' : w1.heap[G]? = some (.cells cells 33 (0, 0)) := (hb.block G (blk_lt h4)).trans h4
  have hgs := grown_set w1 G bs.length (.pointer (some ⟨b, 0, none⟩))
  have keep : ∀ (b' : Nat) (ys : List Int), IsW w1 w1.heap.size b' ys → IsW (w1.setCell ⟨G, bs.length, none⟩ (.pointer (some ⟨b, 0, none⟩))) w1.heap.size b' ys := by
    rintro b' ys ⟨k1, A, c, k2, k3, k4, k5⟩
    have hne : b' ≠ G := blk_ne k2 h4' (by decide)
    refine ⟨k1, A, c, (Below.heap_setCell w1 ⟨G, bs.length, none⟩ _ b' hne).trans k2, k3, ?_, k5⟩
    exact C_ne2 k4 h4' h6.2 hgs
  refine ⟨by have := blk_lt h4'; omega, by simp [h2], ?_, ⟨_, blk_set h4' _ _, by simp [h5], fun j b' hj => ?_, fun o v hv x => ?_⟩, fun j b' xs hj hx => ?_⟩
  · rw [List.nodup_append]
    refine ⟨h3, by simp, fun a ha c hc => ?_⟩
    rw [List.mem_singleton] at hc
    subst hc
    obtain ⟨i, hi⟩ := List.getElem?_of_mem ha
    have hi' : i < wss.length := by rw [← h2]; exact (List.getElem?_eq_some_iff.1 hi).1
    have := (h7 i a _ hi (List.getElem?_eq_getElem hi')).1
    omega
  · rcases Nat.lt_or_ge j bs.length with c | c
    · rw [List.getElem?_append_left c] at hj
      rw [Array.getElem?_setIfInBounds_ne (by omega)]
      exact h6.1 j b' hj
    · rw [List.getElem?_append_right c] at hj
      have hj0 : j - bs.length = 0 := by
        rcases Nat.eq_zero_or_pos (j - bs.length) with e | e
        · exact e
        · rw [List.getElem?_eq_none (by simp; omega)] at hj
          cases hj
      rw [hj0] at hj
      have e : j = bs.length := by omega
      subst e
      simp at hj
      subst hj
      rw [Array.getElem?_setIfInBounds_self_of_lt (by omega)]
  · by_cases c : o = bs.length
    · subst c
      rw [Array.getElem?_setIfInBounds_self_of_lt (by omega)] at hv
      injection hv with hv
      subst hv
      simp
    · rw [Array.getElem?_setIfInBounds_ne (by omega)] at hv
      exact h6.2 o v hv x
  · rcases Nat.lt_or_ge j bs.length with c | c
    · rw [List.getElem?_append_left c] at hj
      rw [List.getElem?_append_left (by omega)] at hx
      exact keep b' xs (((h7 j b' xs hj hx).below hb).raise (by omega))
    · rw [List.getElem?_append_right c] at hj
      have hj0 : j - bs.length = 0 := by
        rcases Nat.eq_zero_or_pos (j - bs.length) with e | e
        · exact e
        · rw [List.getElem?_eq_none (by simp; omega)] at hj
          cases hj
      rw [List.getElem?_append_right (by omega), ← h2, hj0] at hx
      rw [hj0] at hj
      simp at hj hx
      subst hj
      subst hx
      exact keep b zs hz
theorem andMono : ∀ k, (∀ n ok wss os, LeO (andOut k n ok wss os) (andOut (k + 1) n ok wss os)) ∧ (∀ n wss os j, LeO (andIn k n wss os j) (andIn (k + 1) n wss os j))
  | 0 => ⟨fun _ _ _ _ r h => by simp [andOut] at h, fun _ _ _ _ r h => by simp [andIn] at h⟩
  | k + 1 => by
    obtain ⟨ih0, ih1⟩ := andMono k
    refine ⟨fun n ok wss os => ?_, fun n wss os j => ?_⟩
    · unfold andOut
      exact LeO.ite (ih1 _ _ _ _) (LeO.refl _)
    · unfold andIn
      exact LeO.ite (LeO.ite (LeO.ite (ih0 _ _ _ _) (ih1 _ _ _ _)) (LeO.refl _)) (LeO.ite (ih0 _ _ _ _) (LeO.none _))
theorem postings_And.mono : ∀ a0 k, LeO (postings_And.f k a0) (postings_And.f (k + 1) a0) := by
  intro a0 k
  unfold postings_And.f
  exact LeO.ite (LeO.refl _) (LeO.ite ((andMono k).1 _ _ _ _) (LeO.none _))

theorem made_cells (m o : Nat) (v : Value) (h : (madeCells #[(.pointer none : Value)] m)[o]? = some v) : v = .pointer none := by
  have h1 : (madeCells #[(.pointer none : Value)] m).toList[o]? = some v := by simpa using h
  rw [toList_madeCells_one] at h1
  rw [List.getElem?_replicate] at h1
  split at h1
  · injection h1 with h1; exact h1.symm
  · cases h1
theorem made_size (m : Nat) : (madeCells #[(.pointer none : Value)] m).size = m := by
  have := congrArg List.length (toList_madeCells_one (.pointer none) m)
  simpa using this
theorem ws_start (w : World) (m : Nat) : Ws (w.alloc (.cells (madeCells #[.pointer none] m) 33)) (w.alloc (.cells (madeCells #[.pointer none] m) 33)).heap.size w.heap.size m [] [] :=
  ⟨by simp, rfl, List.nodup_nil, ⟨_, heap_alloc_new _ _, made_size m, fun j b h => by simp at h, fun o v h x => by rw [made_cells m o v h]; simp⟩, fun j b xs h => by simp at h⟩
/-- A walker's pointer, out of the row of them. -/
theorem Ws.cell {w : World} {B G m : Nat} {bs : List Nat} {wss : List (List Int)} (h : Ws w B G m bs wss) {j b : Nat} (hb : bs[j]? = some b) : w.cell? ⟨G, j, none⟩ = some (.pointer (some ⟨b, 0, none⟩)) := by
  obtain ⟨_, _, _, ⟨cells, h4, h5, h6⟩, _⟩ := h
  rw [blk_cell h4]
  exact h6.1 j b hb

set_option maxRecDepth 100000 in
set_option maxHeartbeats 4000000 in
theorem and_walk (k : Nat) (A0 : Option Addr) (c0 : Nat) (l0 : List (List Int)) (r : List Int) (w : World) (hr0 : Kd.C (Kd.slice 3 (Kd.int .i64)) w A0 l0.length l0) (hc0 : l0.length ≤ c0) (hne : l0 ≠ []) (hm : l0.length ≤ 1000000)
    (h : andOut k (hdP ((l0.map sndP).getD 0 [])) (isP ((l0.map sndP).getD 0 [])) (l0.map sndP) [] = some r) :
    Calls Try.prog 27 #[.slice A0 l0.length c0] w fun e w' => ∃ v0_ : Value, e = .returned (v0_) ∧ Kd.R (Kd.int .i64) 3 w' w.heap.size (fun _ => True) v0_ r ∧ Below w.heap.size w w' := by
  have hpos : 0 < l0.length := List.length_pos_iff.2 hne
  have e0 : ((l0.length : Int) == 0) = false := by rw [beq_eq_false_iff_ne]; omega
  have info33 : (Try.prog.info? 33).map (fun i => (i.zero, i.size, i.bytes)) = some (some (.pointer none), 1, 8) := by kernel_rfl
  have hmk := fun W : World => run_make_row' (P := Try.prog) 89 33 (.pointer none) 8 Try.underlying89 info33 rfl .i64 .i64 l0.length (by omega) (by omega) W
  have HR0 := Aside0.mk hr0
  have H := Aside0.mk h
  have hb0 : Below w.heap.size w (w.alloc (.cells (madeCells #[.pointer none] l0.length) 33)) := below_alloc (Below.refl _ _) _
  have HB0 := Aside0.mk hb0
  have HST := Aside0.mk (ws_start w l0.length)
  clear hr0 h hne hb0
  go_enter Try.func27, Try.ntmps27
  go_wp2
  clear hmk
  go_loopw [22] (fun i wr => ∃ (j : Nat) (bs : List Nat), j ≤ l0.length ∧ i = .int .i64 j ∧ bs.length = j ∧ Aside0 (Ws wr wr.heap.size w.heap.size l0.length bs ((l0.map sndP).take j)) ∧ Aside0 (Below w.heap.size w wr) ∧ Aside0 (∀ b ∈ bs, w.heap.size ≤ b)) (fun i _ => l0.length - (intOf i).toNat)
  case atStart => exact ⟨0, [], by omega, rfl, rfl, ⟨by simpa using HST.out⟩, HB0, ⟨by simp⟩⟩
  case round =>
    obtain ⟨j, bs, hj, rfl, hbl, HW, HB, HBL⟩ := hrel
    by_cases hlt : j < l0.length
    · have e1 : decide (j < l0.length) = true := decide_eq_true hlt
      obtain ⟨ad, cc, e, _, hK, hcell⟩ := Kd.C_get HR0.out [] (j : Int) (by omega) (by omega)
      obtain ⟨A', c', rfl, hle, hC'⟩ := hK
      subst e
      rw [Int.toNat_natCast, getD_of_lt hlt] at hle hC' hcell
      have hc2 := (HB.out.cell (World.block_lt_of_cell? w _ (hcell 0 _ rfl))).trans (hcell 0 _ rfl)
      simp only [show (Kd.slice 3 (Kd.int .i64)).sz = 1 from rfl, Nat.mul_one, Nat.add_zero] at hc2
      have hw := walk_calls A' c' l0[j] wr (Kd.C_below hC' HB.out) hle
      have HWK := Aside0.mk hw
      clear hcell hC' hw
      go_wp2_with fail
      refine HWK.out.mono ?_
      rintro e w1 ⟨b, rfl, hb1, hW1, hB1⟩
      have hbl' : bs.length < l0.length := by omega
      have hpush := HW.out.push hB1 (Nat.le_refl _) hb1 hW1 hbl'
      have hst : (l0.map sndP).take (j + 1) = (l0.map sndP).take j ++ [sndP l0[j]] := by
        rw [List.take_succ_eq_append_getElem (by simpa using hlt)]
        simp
      rw [← hst, hbl] at hpush
      obtain ⟨hG, _, _, ⟨cells, h4, h5, h6⟩, _⟩ := HW.out
      have h4' := (hB1.block _ (blk_lt h4)).trans h4
      have hcg : w1.cell? ⟨w.heap.size, j, none⟩ = cells[j]? := blk_cell h4' j
      rw [Array.getElem?_eq_getElem (by omega)] at hcg
      have hfg : w1.frozen? ⟨w.heap.size, j, none⟩ = false := blk_frozen h4' j
      have HP := Aside0.mk hpush
      have HBL2 := Aside0.mk (show ∀ b' ∈ bs ++ [b], w.heap.size ≤ b' from fun b' hb' => by
        rcases List.mem_append.1 hb' with hb' | hb'
        · exact HBL.out b' hb'
        · rw [List.mem_singleton] at hb'
          have := HB.out.size
          omega)
      have HBN := Aside0.mk (below_set (g := w.heap.size) (j := j) (v := .pointer (some ⟨b, 0, none⟩)) (below_then HB.out HB.out.size hB1) (Nat.le_refl _))
      clear hpush hW1 hB1 HWK h4 h4' h6 hst
      go_wp2
      go_roundw
      case rel => exact ⟨j + 1, bs ++ [b], by omega, by go_num, by simp [hbl], ⟨by simpa using HP.out⟩, HBN, HBL2⟩
      case measure => simp [intOf]; omega
    · have e1 : decide (j < l0.length) = false := decide_eq_false hlt
      obtain rfl : j = l0.length := by omega
      have hW0 := HW.out
      rw [List.take_of_length_le (by simp)] at hW0
      obtain ⟨b0, hb0⟩ : ∃ b0, bs[0]? = some b0 := ⟨bs[0], List.getElem?_eq_getElem (by omega)⟩
      have hp0 := hW0.cell hb0
      obtain ⟨xs0, hx0⟩ : ∃ xs0, (l0.map sndP)[0]? = some xs0 := ⟨(l0.map sndP)[0]'(by simpa using hpos), List.getElem?_eq_getElem (by simpa using hpos)⟩
      have hat := at_W (hW0.2.2.2.2 0 b0 xs0 hb0 hx0)
      have hxe : (l0.map sndP).getD 0 [] = xs0 := by rw [List.getD_eq_getElem?_getD, hx0]; rfl
      have h1 := H.out
      rw [hxe] at h1
      have H1 := Aside0.mk h1
      have HAT := Aside0.mk hat
      have HW0 := Aside0.mk hW0
      have HWF := Aside0.mk (show ((l0.map sndP).length = l0.length ∧ ∀ xs ∈ l0.map sndP, xs.Pairwise (· < ·) ∧ xs.length ≤ 4096) from ⟨by simp, fun xs hx => by
        obtain ⟨l, _, rfl⟩ := List.mem_map.1 hx
        exact ⟨(snd_all l).2.2, (snd_all l).1⟩⟩)
      obtain ⟨wl, hwl⟩ : ∃ wl, wl = l0.map sndP := ⟨_, rfl⟩
      rw [← hwl] at H1 HW0 HWF
      have HX0 := Aside0.mk (show wl[0]? = some xs0 by rw [hwl]; exact hx0)
      clear h1 hat hW0 hxe H HW HR0 HST HB0 hx0 hwl
      obtain ⟨w5, rfl⟩ : ∃ x : World, x = wr := ⟨_, rfl⟩
      have hs5 := HB.out.size
      go_wp2_with fail
      refine HAT.out.mono ?_
      rintro e w' ⟨rfl, rfl⟩
      clear hp0 HAT
      go_wp2_with fail
      go_loopg [3, 7, 8] k (fun kq v3 v7 v8 w' => ∃ (n : Int) (ok : Bool) (wss : List (List Int)) (os : List Int), v7 = .int .i64 n ∧ v8 = .bool ok ∧ Aside0 (andOut kq n ok wss os = some r) ∧ Aside0 (kq ≤ k) ∧ Aside0 (Kd.R (Kd.int .i64) 3 w' w5.heap.size (fun _ => True) v3 os) ∧ Aside0 (Ws w' w5.heap.size w.heap.size l0.length bs wss) ∧ Aside0 (wss.length = l0.length ∧ ∀ xs ∈ wss, xs.Pairwise (· < ·) ∧ xs.length ≤ 4096) ∧ Aside0 (Below w.heap.size w w') ∧ w5.heap.size ≤ w'.heap.size)
      case atStart => exact ⟨_, _, wl, [], rfl, rfl, H1, ⟨Nat.le_refl _⟩, ⟨Kd.R_nil _ _ _ _ _⟩, HW0, HWF, HB, Nat.le_refl _⟩
      case round =>
        clear H1 HW0 HWF HB HX0
        obtain ⟨n, ok, wss, os, rfl, rfl, HA, HK, HO, HW, HWF, HB, hsz⟩ := hrel
        cases gk with
        | zero => exact absurd HA.out (by simp [andOut])
        | succ k1 =>
          have h := HA.out
          simp only [andOut] at h
          cases ok with
          | false =>
            rw [if_neg (by simp)] at h
            obtain rfl := Option.some.inj h
            clear h HA
            go_wp2
            go_ret
            exact ⟨_, rfl, Kd.R_lower HO.out hs5, HB.out⟩
          | true =>
            rw [if_pos rfl] at h
            have H2 := Aside0.mk h
            clear h HA
            go_wp2_with fail
            obtain ⟨w6, rfl⟩ : ∃ x : World, x = wr := ⟨_, rfl⟩
            go_loopg [7, 9, 43] k1 (fun kq v7 v9 v43 w' => ∃ (j : Nat) (wss : List (List Int)), v7 = .int .i64 n ∧ v9 = .int .i64 j ∧ v43 = .int .i64 j ∧ j ≤ l0.length ∧ Aside0 (andIn kq n wss os j = some r) ∧ Aside0 (kq ≤ k1) ∧ Aside0 (Kd.R (Kd.int .i64) 3 w' w5.heap.size (fun _ => True) u3 os) ∧ Aside0 (Ws w' w5.heap.size w.heap.size l0.length bs wss) ∧ Aside0 (wss.length = l0.length ∧ ∀ xs ∈ wss, xs.Pairwise (· < ·) ∧ xs.length ≤ 4096) ∧ Aside0 (Below w.heap.size w w') ∧ w5.heap.size ≤ w'.heap.size)
            case atStart => exact ⟨0, wss, rfl, rfl, rfl, by omega, H2, ⟨Nat.le_refl _⟩, HO, HW, HWF, HB, hsz⟩
            case round =>
              clear H2 HO HW HWF HB hsz
              obtain ⟨j, wss, rfl, rfl, rfl, hj, HA, HK2, HO, HW, HWF, HB, hsz⟩ := hrel
              cases gk with
              | zero => exact absurd HA.out (by simp [andIn])
              | succ k2 =>
                have h := HA.out
                simp only [andIn] at h
                rw [HWF.out.1] at h
                by_cases hlt : j < l0.length
                · rw [if_pos hlt] at h
                  have e1 : decide (j < l0.length) = true := decide_eq_true hlt
                  have hwj : j < wss.length := by rw [HWF.out.1]; exact hlt
                  have hbj' : j < bs.length := by rw [HW.out.2.1]; exact hwj
                  obtain ⟨b, hbj⟩ : ∃ b, bs[j]? = some b := ⟨bs[j], List.getElem?_eq_getElem hbj'⟩
                  obtain ⟨xs, hxj⟩ : ∃ xs, wss[j]? = some xs := ⟨wss[j], List.getElem?_eq_getElem hwj⟩
                  have hxm : xs ∈ wss := List.mem_of_getElem? hxj
                  have hp := HW.out.cell hbj
                  have hseek := seek_W n (HW.out.2.2.2.2 j b xs hbj hxj) (HWF.out.2 xs hxm).1 (HWF.out.2 xs hxm).2
                  rw [show wss.getD j [] = xs by rw [List.getD_eq_getElem?_getD, hxj]; rfl] at h
                  change Calls _ _ _ _ (fun e w' => e = .returned (.tuple #[.int .i64 (hdP (seekP n xs)), .bool (isP (seekP n xs))]) ∧ IsW w' w5.heap.size b (seekP n xs) ∧ wr.grownBy w' (some b)) at hseek
                  obtain ⟨zs, hzs⟩ : ∃ zs, zs = seekP n xs := ⟨_, rfl⟩
                  rw [← hzs] at h hseek
                  have hzw : zs.Pairwise (· < ·) ∧ zs.length ≤ 4096 := by
                    rw [hzs]
                    unfold seekP
                    exact ⟨(HWF.out.2 xs hxm).1.sublist (List.drop_sublist _ _), by have := (HWF.out.2 xs hxm).2; rw [List.length_drop]; omega⟩
                  have hnext : ∀ w6 : World, wr.grownBy w6 (some b) → IsW w6 w5.heap.size b zs → Kd.R (Kd.int .i64) 3 w6 w5.heap.size (fun _ => True) u3 os ∧ Ws w6 w5.heap.size w.heap.size l0.length bs (wss.set j zs) ∧ ((wss.set j zs).length = l0.length ∧ ∀ ys ∈ wss.set j zs, ys.Pairwise (· < ·) ∧ ys.length ≤ 4096) ∧ Below w.heap.size w w6 ∧ w5.heap.size ≤ w6.heap.size := by
                    intro w6 hg hz
                    have hbB := (HW.out.2.2.2.2 j b xs hbj hxj).1
                    have hbn : w.heap.size ≤ b := HBL.out b (List.mem_of_getElem? hbj)
                    refine ⟨Kd.R_mono (Kd.R_step (Kd.R_bound HO.out) (fun q hq hlt' => hg.block q hlt' (fun e => ?_))) (fun _ _ => trivial), HW.out.set_ hbj hxj hg hz, ⟨by rw [List.length_set]; exact HWF.out.1, fun ys hy => ?_⟩, pw_below_grown HB.out _ (by omega) hg (fun q hq => by injection hq; omega), by have := hg.size; omega⟩
                    · have := hq.2.1
                      injection e
                      omega
                    · rcases List.mem_or_eq_of_mem_set hy with hy | rfl
                      · exact HWF.out.2 ys hy
                      · exact hzw
                  have HSEEK := Aside0.mk hseek
                  have HN := Aside0.mk hnext
                  clear hseek hnext hzs hzw HA hxm hxj hwj hbj'
                  cases hz : isP zs with
                  | false =>
                    rw [hz, if_neg (by simp)] at h
                    obtain rfl := Option.some.inj h
                    have hs := HSEEK.out
                    rw [hz] at hs
                    clear h hz HSEEK HO HW HWF HB
                    go_wp2_with fail
                    refine hs.mono ?_
                    rintro e w6 ⟨rfl, hW6, hg6⟩
                    obtain ⟨hO6, _, _, hB6, _⟩ := HN.out w6 hg6 hW6
                    have HO6 := Aside0.mk hO6
                    have HB6 := Aside0.mk hB6
                    clear hs hW6 hg6 hO6 hB6 HN
                    go_wp2
                    go_ret
                    exact ⟨_, rfl, Kd.R_lower HO6.out hs5, HB6.out⟩
                  | true =>
                    rw [hz, if_pos rfl] at h
                    have hs := HSEEK.out
                    rw [hz] at hs
                    clear hz HSEEK HO HW HWF HB
                    obtain ⟨z, hzz⟩ : ∃ z, z = hdP zs := ⟨_, rfl⟩
                    rw [← hzz] at h hs
                    by_cases hlz : n < z
                    · rw [if_pos hlz] at h
                      have H3 := Aside0.mk h
                      have e2 : decide (n < z) = true := decide_eq_true hlz
                      have e3 : ((j : Int) == (l0.length : Int)) = false := by rw [beq_eq_false_iff_ne]; omega
                      have e4 : (j == l0.length) = false := by rw [beq_eq_false_iff_ne]; omega
                      clear h hzz
                      go_wp2_with fail
                      refine hs.mono ?_
                      rintro e w6 ⟨rfl, hW6, hg6⟩
                      obtain ⟨hO6, hWs6, hWF6, hB6, hs6⟩ := HN.out w6 hg6 hW6
                      have HO6 := Aside0.mk hO6
                      have HW6 := Aside0.mk hWs6
                      have HWF6 := Aside0.mk hWF6
                      have HB6 := Aside0.mk hB6
                      clear hs hW6 hg6 hO6 hWs6 hWF6 hB6 HN hp
                      go_wp2
                      go_roundg k2
                      case measure => have := HK.out; have := HK2.out; omega
                      case rel => exact ⟨z, true, wss.set j zs, os, rfl, rfl, H3, ⟨by have := HK.out; have := HK2.out; omega⟩, HO6, HW6, HWF6, HB6, hs6⟩
                    · rw [if_neg hlz] at h
                      have H3 := Aside0.mk h
                      have e2 : decide (n < z) = false := decide_eq_false hlz
                      clear h hzz
                      go_wp2_with fail
                      refine hs.mono ?_
                      rintro e w6 ⟨rfl, hW6, hg6⟩
                      obtain ⟨hO6, hWs6, hWF6, hB6, hs6⟩ := HN.out w6 hg6 hW6
                      have HO6 := Aside0.mk hO6
                      have HW6 := Aside0.mk hWs6
                      have HWF6 := Aside0.mk hWF6
                      have HB6 := Aside0.mk hB6
                      clear hs hW6 hg6 hO6 hWs6 hWF6 hB6 HN hp
                      go_wp2
                      go_roundg k2
                      case measure => omega
                      case rel => exact ⟨j + 1, wss.set j zs, rfl, by go_num, by go_num, by omega, H3, ⟨by have := HK2.out; omega⟩, HO6, HW6, HWF6, HB6, hs6⟩
                · rw [if_neg hlt] at h
                  by_cases hol : os.length ≤ 100000
                  · rw [if_pos hol] at h
                    have e1 : decide (j < l0.length) = false := decide_eq_false hlt
                    obtain rfl : j = l0.length := by omega
                    have hwj : 0 < wss.length := by rw [HWF.out.1]; exact hpos
                    obtain ⟨xs, hxj⟩ : ∃ xs, wss[0]? = some xs := ⟨wss[0], List.getElem?_eq_getElem hwj⟩
                    have hxm : xs ∈ wss := List.mem_of_getElem? hxj
                    rw [show wss.getD 0 [] = xs by rw [List.getD_eq_getElem?_getD, hxj]; rfl] at h
                    have H3 := Aside0.mk h
                    have hzw : xs.tail.Pairwise (· < ·) ∧ xs.tail.length ≤ 4096 := ⟨(HWF.out.2 xs hxm).1.sublist (List.tail_sublist _), by have := (HWF.out.2 xs hxm).2; rw [List.length_tail]; omega⟩
                    clear h HA hlt
                    go_wp2_with (at_builtin; refine Kd.R_append (Kd.int .i64) (w0 := wr) w5.heap.size rfl (.tmp 67) (.tmp 69) 31 3 (.int .i64 0) 8 rfl Try.underlying31 info3 rfl (by decide) (by omega) u3 os n [.int .i64 n] (fun _ => True) (fun _ => False) rfl rfl ?aP (fun _ hk => hk.elim) (fun _ _ => trivial) HO.out (Below.refl _ _) (by omega) (by omega) ?_; (case aP => exact rfl); intro v1 w7 ho hb7 hg7 hat; have HO7 := Aside0.mk ho; have HW7 := Aside0.mk (HW.out.grown hg7 (fun q hq => Kd.R_base HO.out q hq)); have HB7 := Aside0.mk (pw_below_grown HB.out _ (by omega) hg7 (fun q hq => by have := Kd.R_base HO.out q hq; omega)); have hs7 := hg7.size; clear ho hb7 hg7 hat; have hp7 := HW7.out.cell hb0)
                    refine (next_W (HW7.out.2.2.2.2 0 b0 xs hb0 hxj)).mono ?_
                    rintro e w8 ⟨rfl, hW8, hg8⟩
                    have hbB := (HW7.out.2.2.2.2 0 b0 xs hb0 hxj).1
                    have hbn : w.heap.size ≤ b0 := HBL.out b0 (List.mem_of_getElem? hb0)
                    have HW8 := Aside0.mk (HW7.out.set_ hb0 hxj hg8 hW8)
                    have hO8 : Kd.R (Kd.int .i64) 3 w8 w5.heap.size (fun _ => True) v1 (os ++ [n]) := Kd.R_mono (Kd.R_step (Kd.R_bound HO7.out) (fun q hq hlt' => hg8.block q hlt' (fun e => by have := hq.2.1; injection e; omega))) (fun _ _ => trivial)
                    have HO8 := Aside0.mk hO8
                    have HB8 := Aside0.mk (pw_below_grown HB7.out _ (by omega) hg8 (fun q hq => by injection hq; omega))
                    have hs8 := hg8.size
                    have HWF8 := Aside0.mk (show ((wss.set 0 xs.tail).length = l0.length ∧ ∀ ys ∈ wss.set 0 xs.tail, ys.Pairwise (· < ·) ∧ ys.length ≤ 4096) from ⟨by rw [List.length_set]; exact HWF.out.1, fun ys hy => by
                      rcases List.mem_or_eq_of_mem_set hy with hy | rfl
                      · exact HWF.out.2 ys hy
                      · exact hzw⟩)
                    clear hW8 hg8 hO8 HO HW HB HO7 HW7 HB7 HWF hp7
                    go_wp2
                    go_roundg k2
                    case measure => have := HK.out; have := HK2.out; omega
                    case rel => exact ⟨_, _, wss.set 0 xs.tail, os ++ [n], rfl, rfl, H3, ⟨by have := HK.out; have := HK2.out; omega⟩, HO8, HW8, HWF8, HB8, by omega⟩
                  · rw [if_neg hol] at h
                    cases h

theorem postings_And.calls (k : Nat) (A0 : Option Addr) (c0 : Nat) (l0 : List (List Int)) (r : List Int) (w : World) (hr0 : Kd.C (Kd.slice 3 (Kd.int .i64)) w A0 l0.length l0) (hc0 : l0.length ≤ c0) (h : postings_And.f k l0 = some r) :
    Calls Try.prog 27 #[.slice A0 l0.length c0] w fun e w' => ∃ v0_ : Value, e = .returned (v0_) ∧ Kd.R (Kd.int .i64) 3 w' w.heap.size (fun _ => True) v0_ r ∧ Below w.heap.size w w' := by
  unfold postings_And.f at h
  by_cases hl : l0 = []
  · rw [if_pos hl] at h
    obtain rfl := Option.some.inj h
    subst hl
    clear h hr0
    go_enter Try.func27, Try.ntmps27
    go_wp2
    go_ret
    exact ⟨_, rfl, Kd.R_nil _ _ _ _ _, Below.refl _ _⟩
  · rw [if_neg hl] at h
    by_cases hm : l0.length ≤ 1000000
    · rw [if_pos hm] at h
      exact and_walk k A0 c0 l0 r w hr0 hc0 hl hm h
    · rw [if_neg hm] at h
      cases h
noncomputable def postings_And.fL (l0 : List (List Int)) : Option (List Int) := Lim (fun k => postings_And.f k l0)
end Go.Proofs.Ytkfakciimeiehaa.PPost
