/- Layer 19: a list's data: the program's Encode and the document's Data tell the same. -/
import Derived.Test.YtkfakciimeiehaaCodeRef
set_option linter.unusedVariables false
set_option linter.unusedSimpArgs false
namespace Go.Proofs.Ytkfakciimeiehaa.CodeBase
open Go Go.RowKit Go.Proofs.YtkfakciimeiehaaW.PrintWords Go.Proofs.YtkfakciimeiehaaW.PrintLast Go.Proofs.YtkfakciimeiehaaW.PrintMore Go.Proofs.YtkfakciimeiehaaLim Go.Proofs.YtkfakciimeiehaaAid Go.Proofs.Ytkfakciimeiehaa.PostBase
open Go.Proofs.Ytkfakciimeiehaa.PCode

/-- How many follow a number, one by one. -/
def runP : Int → List Int → Nat
  | _, [] => 0
  | x, y :: t => if y = x + 1 then runP y t + 1 else 0
theorem runP_le : ∀ (x : Int) (t : List Int), runP x t ≤ t.length
  | _, [] => Nat.le_refl _
  | x, y :: t => by
    unfold runP
    have := runP_le y t
    split <;> simp only [List.length_cons] <;> omega
theorem runP_get : ∀ (x : Int) (t : List Int) (j : Nat), j ≤ runP x t → (x :: t)[j]? = some (x + j)
  | x, t, 0, _ => by simp
  | x, [], j + 1, h => by simp [runP] at h
  | x, y :: t, j + 1, h => by
    unfold runP at h
    split at h
    · rename_i e
      have := runP_get y t j (by omega)
      simp only [List.getElem?_cons_succ] at this ⊢
      rw [this, e]
      congr 1
      omega
    · omega
theorem runP_drop : ∀ (x : Int) (t : List Int) (m : Nat), m ≤ runP x t → runP (x + m) (t.drop m) = runP x t - m
  | x, t, 0, _ => by simp
  | x, [], m + 1, h => by simp [runP] at h
  | x, y :: t, m + 1, h => by
    unfold runP at h
    split at h
    · rename_i e
      have := runP_drop y t m (by omega)
      rw [List.drop_succ_cons, show x + ((m + 1 : Nat) : Int) = y + m by omega, this]
      conv => rhs; unfold runP
      rw [if_pos e]
      omega
    · omega
theorem runP_zero {x y : Int} {t : List Int} (h : runP x (y :: t) = 0) : y ≠ x + 1 := by
  intro e
  unfold runP at h
  rw [if_pos e] at h
  omega
/-- What a list's numbers are told as, p being the one ahead. -/
def encP (p : Int) : List Int → List Int
  | [] => []
  | x :: t => (x - (p + 1)) :: (if runP x t < 2 then encP x t else (-((runP x t : Int) + 1)) :: encP (x + runP x t) (t.drop (runP x t)))
termination_by l => l.length
decreasing_by all_goals simp; try omega

/-! ### the program's -/
/-- Where a place's number is. -/
theorem rd_at {l t : List Int} {x : Int} {i : Nat} (h : l.drop i = x :: t) (j : Nat) {y : Int} (hj : (x :: t)[j]? = some y) : rd l ((i + j : Nat) : Int) = y ∧ i + j < l.length := by
  have e : l[i + j]? = some y := by rw [← hj, ← h, List.getElem?_drop]
  refine ⟨?_, (List.getElem?_eq_some_iff.1 e).1⟩
  rw [rd_nat, List.getD_eq_getElem?_getD, e]
  rfl
theorem drop_more {l t : List Int} {x : Int} {i : Nat} (h : l.drop i = x :: t) (r : Nat) : l.drop (i + 1 + r) = t.drop r := by
  rw [← List.drop_drop, (drop_cons h).2.1]
theorem rows_loop (l : List Int) (hl : l.length ≤ 4096) (i : Nat) (x : Int) (t : List Int) (h : l.drop i = x :: t) (h0 : 0 ≤ x) (h1 : x ≤ 2147483647) : ∀ (s : List Int) (k : Nat), 1 ≤ k → i + k ≤ l.length → l.drop (i + k) = s →
    postings_rows.l0L l (i : Int) (k : Int) = some ((k : Int) + runP (x + k - 1) s) := by
  intro s
  induction s with
  | nil =>
    intro k hk hk2 hs
    have := drop_nil hs
    rw [postings_rows.l0L_eq, w64 (by omega) (by omega), if_neg (by omega)]
    simp [runP]
  | cons y s ih =>
    intro k hk hk2 hs
    obtain ⟨hlt, hd, _, _⟩ := drop_cons hs
    have e1 : rd l ((i : Int) + (k : Int)) = y := by
      rw [show (i : Int) + (k : Int) = ((i + k : Nat) : Int) by omega]
      exact rd_drop hs
    rw [postings_rows.l0L_eq, w64 (x := (i : Int) + (k : Int)) (by omega) (by omega), if_pos (by omega), if_pos (by omega), if_pos (by omega), if_pos (by have := (drop_cons h).1; omega), e1, rd_drop h, w64 (x := x + (k : Int)) (by omega) (by omega)]
    unfold runP
    by_cases e : y = x + (k : Int)
    · rw [if_pos e, if_pos (by omega), w64_succ (n := 4096) (by omega) (by omega), ih (k + 1) (by omega) (by omega) hd]
      rw [show x + ((k + 1 : Nat) : Int) - 1 = y by omega]
      congr 1
      omega
    · rw [if_neg e, if_neg (by omega)]
      simp
theorem rows19 (l : List Int) (hl : l.length ≤ 4096) (i : Nat) (x : Int) (t : List Int) (h : l.drop i = x :: t) (h0 : 0 ≤ x) (h1 : x ≤ 2147483647) : postings_rows.fL l (i : Int) = some (((1 + runP x t : Nat)) : Int) := by
  rw [postings_rows.fL_eq, show (1 : Int) = ((1 : Nat) : Int) from rfl, rows_loop l hl i x t h h0 h1 t 1 (by omega) (drop_cons h).1 (drop_cons h).2.1]
  rw [show x + ((1 : Nat) : Int) - 1 = x by omega]
  congr 1
/-- The number ahead of a place. -/
def Ahead (l : List Int) (i : Nat) (p : Int) : Prop := (i = 0 → p = -1) ∧ (0 < i → p = rd l ((i - 1 : Nat) : Int)) ∧ -1 ≤ p ∧ p ≤ 2147483647
theorem enc_loop (l : List Int) (hl : l.length ≤ 4096) (hb : ∀ x ∈ l, 0 ≤ x ∧ x ≤ 2147483647) : ∀ (N : Nat) (t : List Int) (i : Nat) (p : Int) (os : List Int), t.length ≤ N → l.drop i = t → i ≤ l.length → Ahead l i p → os.length ≤ 2 * i + 1 →
    postings_Encode.l0L l (i : Int) os = some (os ++ encP p t, [], 0) := by
  intro N
  induction N with
  | zero =>
    intro t i p os hN h hi hp ho
    obtain rfl : t = [] := List.eq_nil_of_length_eq_zero (by omega)
    have := drop_nil h
    rw [postings_Encode.l0L_eq, if_neg (by omega), encP, List.append_nil]
  | succ N ih =>
    intro t i p os hN h hi hp ho
    cases t with
    | nil =>
      have := drop_nil h
      rw [postings_Encode.l0L_eq, if_neg (by omega), encP, List.append_nil]
    | cons x t =>
      obtain ⟨hlt, hd, _, hx⟩ := drop_cons h
      obtain ⟨hx0, hx1⟩ := hb x (List.mem_of_getElem? hx)
      obtain ⟨hp0, hp1, hp2, hp3⟩ := hp
      have hr := rows19 l hl i x t h hx0 hx1
      have hrl := runP_le x t
      have hlen := drop_len h
      simp only [List.length_cons] at hlen hN
      have key : ∀ d : Int, d = x - (p + 1) → ((some (os ++ [d]) : Option (List Int)).bind fun y => ((postings_rows.fL l (i : Int)).bind fun t140 => (if t140 < 3 then (postings_Encode.l0L l (wrap64 ((i : Int) + 1)) y) else (if y.length < 17592186044416 then (postings_Encode.l0L l (wrap64 ((i : Int) + t140)) (y ++ [wrap64 (-t140)])) else (none))))) = some (os ++ encP p (x :: t), [], 0) := by
        intro d hd'
        subst hd'
        rw [Option.bind_some, hr, Option.bind_some, encP]
        by_cases c : runP x t < 2
        · rw [if_pos (by omega), if_pos c, w64_succ hlt (by omega), ih t (i + 1) x (os ++ [x - (p + 1)]) (by omega) hd (by omega) ⟨by omega, fun _ => by rw [show i + 1 - 1 = i by omega, rd_drop h], by omega, by omega⟩ (by simp; omega), List.append_assoc]
          rfl
        · rw [if_neg (by omega), if_neg c, if_pos (by simp; omega), w64 (x := (i : Int) + ((1 + runP x t : Nat) : Int)) (by omega) (by omega), w64 (by omega) (by omega), show (i : Int) + ((1 + runP x t : Nat) : Int) = ((i + 1 + runP x t : Nat) : Int) by omega]
          obtain ⟨g1, g2⟩ := rd_at h (runP x t) (runP_get x t _ (Nat.le_refl _))
          have hz := hb (x + (runP x t : Nat)) (by
            have := runP_get x t _ (Nat.le_refl _)
            have e : l[i + runP x t]? = some (x + (runP x t : Nat)) := by rw [← this, ← h, List.getElem?_drop]
            exact List.mem_of_getElem? e)
          rw [ih (t.drop (runP x t)) (i + 1 + runP x t) (x + (runP x t : Nat)) _ (by rw [List.length_drop]; omega) (drop_more h _) (by omega) ⟨by omega, fun _ => by rw [show i + 1 + runP x t - 1 = i + runP x t by omega, g1], by omega, by omega⟩ (by simp; omega), List.append_assoc, List.append_assoc, show -((1 + runP x t : Nat) : Int) = -((runP x t : Int) + 1) by omega]
          rfl
      rw [postings_Encode.l0L_eq, if_pos (by omega), if_pos (by omega)]
      by_cases c : i = 0
      · rw [if_neg (by omega), if_pos (by omega), rd_drop h]
        exact key _ (by have := hp0 c; omega)
      · rw [if_pos (by omega), w64_pred (n := 4096) (by omega) (by omega) (by omega), if_pos (by omega), if_pos (by omega), if_pos (by omega), rd_drop h, ← hp1 (by omega), w64 (x := p + 1) (by omega) (by omega), w64 (x := x - (p + 1)) (by omega) (by omega)]
        exact key _ rfl
theorem encode19 (l : List Int) : postings_Encode.fL l = some (if soundB l = true then ((l.length : Int) :: encP (-1) l, [], 0) else ([], [], 1)) := by
  rw [postings_Encode.fL_eq, check19, Option.bind_some]
  by_cases h : soundB l = true
  · rw [if_pos h, if_pos rfl, if_pos h]
    have hs := snd_all l
    have e : sndP l = l := by unfold sndP; rw [if_pos h]
    rw [e] at hs
    exact enc_loop l hs.1 hs.2.1 l.length l 0 (-1) _ (Nat.le_refl _) rfl (by omega) ⟨fun _ => rfl, fun h => by omega, by omega, by omega⟩ (by simp)
  · rw [if_neg h, if_neg (by omega), if_neg h]

/-! ### the document's -/
theorem data_back (l : List Int) (hl : l.length ≤ 4096) (os : List Int) (i f : Nat) (x : Int) (t : List Int) (h : l.drop f = x :: t) (h0 : 0 ≤ x) (h1 : x ≤ 2147483647) (hs : f = 0 ∨ rd l ((f - 1 : Nat) : Int) ≠ x - 1) : ∀ m, m ≤ runP x t →
    windroseref19_Data.l1L l os (i : Int) ((f + m : Nat) : Int) = windroseref19_Data.j2L l os (i : Int) (f : Int) := by
  intro m
  induction m with
  | zero =>
    intro _
    have hlt := (drop_cons h).1
    rw [windroseref19_Data.l1L_eq]
    by_cases c : f = 0
    · rw [if_neg (by omega)]
      subst c
      rfl
    · rw [if_pos (by omega), Nat.add_zero, w64_pred (n := 4096) (by omega) (by omega) (by omega), if_pos (by omega), if_pos (by omega), if_pos (by omega), if_pos (by omega), rd_drop h, w64 (by omega) (by omega), if_neg (by rcases hs with hs | hs; exact absurd hs c; exact hs)]
  | succ m ih =>
    intro hm
    obtain ⟨g1, g2⟩ := rd_at h m (runP_get x t m (by omega))
    obtain ⟨k1, k2⟩ := rd_at h (m + 1) (runP_get x t (m + 1) hm)
    have := runP_le x t
    have := drop_len h
    simp only [List.length_cons] at this
    rw [windroseref19_Data.l1L_eq, if_pos (by omega), w64_pred (n := 4096) (by omega) (by omega) (by omega), show f + (m + 1) - 1 = f + m by omega, if_pos (by omega), if_pos (by omega), if_pos (by omega), if_pos (by omega), g1, k1, w64 (by omega) (by omega), if_pos (by omega)]
    exact ih (by omega)
theorem data_fwd (l : List Int) (hl : l.length ≤ 4096) (hb : ∀ x ∈ l, 0 ≤ x ∧ x ≤ 2147483647) (os : List Int) (i f : Int) : ∀ (s : List Int) (e : Nat) (y : Int), 0 < e → e ≤ l.length → l.drop e = s → rd l ((e - 1 : Nat) : Int) = y → 0 ≤ y → y ≤ 2147483647 →
    windroseref19_Data.l2L l os i f (e : Int) = windroseref19_Data.j4L l os i f ((e + runP y s : Nat) : Int) := by
  intro s
  induction s with
  | nil =>
    intro e y he he2 hs hy _ _
    have := drop_nil hs
    rw [windroseref19_Data.l2L_eq, if_neg (by omega)]
    rfl
  | cons z s ih =>
    intro e y he he2 hs hy hy0 hy1
    obtain ⟨hlt, hd, _, hz⟩ := drop_cons hs
    obtain ⟨hz0, hz1⟩ := hb z (List.mem_of_getElem? hz)
    rw [windroseref19_Data.l2L_eq, if_pos (by omega), if_pos (by omega), w64_pred (n := 4096) (by omega) (by omega) (by omega), if_pos (by omega), if_pos (by omega), rd_drop hs, hy, w64 (x := y + 1) (by omega) (by omega), w64_succ hlt (by omega)]
    unfold runP
    by_cases c : z = y + 1
    · rw [if_pos c, if_pos c, ih (e + 1) z (by omega) (by omega) hd (by rw [show e + 1 - 1 = e by omega, rd_drop hs]) hz0 hz1]
      rw [show e + 1 + runP z s = e + (runP z s + 1) by omega]
    · rw [if_neg c, if_neg c]
      rfl
/-- At each place of a row it is known where the row starts, and where it ends. -/
theorem data_at (l : List Int) (hl : l.length ≤ 4096) (hb : ∀ x ∈ l, 0 ≤ x ∧ x ≤ 2147483647) (os : List Int) (f : Nat) (x : Int) (t : List Int) (h : l.drop f = x :: t) (hs : f = 0 ∨ rd l ((f - 1 : Nat) : Int) ≠ x - 1) (m : Nat) (hm : m ≤ runP x t) :
    windroseref19_Data.l0L l os ((f + m : Nat) : Int) = windroseref19_Data.j4L l os ((f + m : Nat) : Int) (f : Int) ((f + 1 + runP x t : Nat) : Int) := by
  obtain ⟨hlt, hd, _, hx⟩ := drop_cons h
  obtain ⟨hx0, hx1⟩ := hb x (List.mem_of_getElem? hx)
  obtain ⟨g1, g2⟩ := rd_at h m (runP_get x t m hm)
  have hz : 0 ≤ x + (m : Int) ∧ x + (m : Int) ≤ 2147483647 := hb _ (by
    have := runP_get x t m hm
    have e : l[f + m]? = some (x + (m : Nat)) := by rw [← this, ← h, List.getElem?_drop]
    exact List.mem_of_getElem? e)
  rw [windroseref19_Data.l0L_eq, if_pos (by omega), data_back l hl os (f + m) f x t h hx0 hx1 hs m hm, windroseref19_Data.j2L_eq, w64_succ g2 (by omega),
    data_fwd l hl hb os _ _ (t.drop m) (f + m + 1) (x + m) (by omega) (by omega) (by rw [show f + m + 1 = f + 1 + m by omega]; exact drop_more h m) (by rw [show f + m + 1 - 1 = f + m by omega, g1]) hz.1 hz.2, runP_drop x t m hm, show f + m + 1 + (runP x t - m) = f + 1 + runP x t by omega]
/-- A number that is told. -/
theorem data_told (l : List Int) (hl : l.length ≤ 4096) (os : List Int) (i : Nat) (x p : Int) (t : List Int) (h : l.drop i = x :: t) (hx0 : 0 ≤ x) (hx1 : x ≤ 2147483647) (hp : Ahead l i p) (f e : Int) (ho : os.length ≤ 2 * i + 1) :
    windroseref19_Data.j6L l os (i : Int) f e false = windroseref19_Data.l0L l (os ++ [x - (p + 1)]) ((i + 1 : Nat) : Int) := by
  obtain ⟨hp0, hp1, hp2, hp3⟩ := hp
  have hlt := (drop_cons h).1
  rw [windroseref19_Data.j6L_eq, if_neg (by simp)]
  by_cases c : i = 0
  · have hpp := hp0 c
    subst hpp
    rw [if_pos (by omega), if_pos (by omega), if_pos (by omega), w64_succ hlt (by omega)]
    have e0 : rd l 0 = x := by
      have := rd_drop h
      rw [c] at this
      exact this
    rw [e0, show x - ((-1 : Int) + 1) = x by omega]
  · rw [if_neg (by omega), if_pos (by omega), if_pos (by omega), w64_pred (n := 4096) (by omega) (by omega) (by omega), if_pos (by omega), if_pos (by omega), if_pos (by omega), rd_drop h, ← hp1 (by omega), w64 (x := x - p) (by omega) (by omega), w64 (x := x - p - 1) (by omega) (by omega), w64_succ hlt (by omega), show x - p - 1 = x - (p + 1) by omega]
theorem data_skip (l : List Int) (hl : l.length ≤ 4096) (hb : ∀ x ∈ l, 0 ≤ x ∧ x ≤ 2147483647) (os : List Int) (f : Nat) (x : Int) (t : List Int) (h : l.drop f = x :: t) (hs : f = 0 ∨ rd l ((f - 1 : Nat) : Int) ≠ x - 1) (hr : 2 ≤ runP x t) : ∀ (n m : Nat), 2 ≤ m → m + n = runP x t + 1 →
    windroseref19_Data.l0L l os ((f + m : Nat) : Int) = windroseref19_Data.l0L l os ((f + 1 + runP x t : Nat) : Int) := by
  intro n
  have hrl := runP_le x t
  have hlen := drop_len h
  simp only [List.length_cons] at hlen
  induction n with
  | zero =>
    intro m h2 hm
    rw [show f + m = f + 1 + runP x t by omega]
  | succ n ih =>
    intro m h2 hm
    rw [data_at l hl hb os f x t h hs m (by omega), windroseref19_Data.j4L_eq, w64 (x := ((f + 1 + runP x t : Nat) : Int) - (f : Int)) (by omega) (by omega), if_pos (by omega), w64_succ (n := 4097) (by omega) (by omega), decide_eq_true (by omega), windroseref19_Data.j5L_eq, if_pos rfl, w64_succ (n := 10000) (by omega) (by omega)]
    exact ih (m + 1) (by omega) (by omega)
theorem data_loop (l : List Int) (hl : l.length ≤ 4096) (hb : ∀ x ∈ l, 0 ≤ x ∧ x ≤ 2147483647) : ∀ (N : Nat) (t : List Int) (i : Nat) (p : Int) (os : List Int), t.length ≤ N → l.drop i = t → i ≤ l.length → Ahead l i p → (∀ x s, t = x :: s → i = 0 ∨ rd l ((i - 1 : Nat) : Int) ≠ x - 1) → os.length ≤ 2 * i + 1 →
    windroseref19_Data.l0L l os (i : Int) = some (os ++ encP p t, []) := by
  intro N
  induction N with
  | zero =>
    intro t i p os hN h hi hp hs ho
    obtain rfl : t = [] := List.eq_nil_of_length_eq_zero (by omega)
    have := drop_nil h
    rw [windroseref19_Data.l0L_eq, if_neg (by omega), encP, List.append_nil]
  | succ N ih =>
    intro t i p os hN h hi hp hs ho
    cases t with
    | nil =>
      have := drop_nil h
      rw [windroseref19_Data.l0L_eq, if_neg (by omega), encP, List.append_nil]
    | cons x t =>
      obtain ⟨hlt, hd, _, hx⟩ := drop_cons h
      obtain ⟨hx0, hx1⟩ := hb x (List.mem_of_getElem? hx)
      have hss := hs x t rfl
      have hrl := runP_le x t
      have hlen := drop_len h
      simp only [List.length_cons] at hlen hN
      have a0 := data_at l hl hb os i x t h hss 0 (by omega)
      have told := data_told l hl os i x p t h hx0 hx1 hp
      have hax : Ahead l (i + 1) x := ⟨by omega, fun _ => by rw [show i + 1 - 1 = i by omega, rd_drop h], by omega, by omega⟩
      rw [Nat.add_zero] at a0
      rw [a0, windroseref19_Data.j4L_eq, w64 (x := ((i + 1 + runP x t : Nat) : Int) - (i : Int)) (by omega) (by omega)]
      by_cases c : runP x t < 2
      · rw [if_neg (by omega), windroseref19_Data.j5L_eq, if_neg (by simp), w64 (x := ((i + 1 + runP x t : Nat) : Int) - (i : Int)) (by omega) (by omega), if_neg (by omega), told _ _ ho]
        by_cases c0 : runP x t = 0
        · rw [ih t (i + 1) x _ (by omega) hd (by omega) hax (fun y s e => by
            subst e
            have := runP_zero c0
            right
            rw [show i + 1 - 1 = i by omega, rd_drop h]
            omega) (by simp; omega), encP, if_pos c, List.append_assoc]
          rfl
        · have c1 : runP x t = 1 := by omega
          cases t with
          | nil => simp [runP] at c1
          | cons y t =>
            have c1' := c1
            unfold runP at c1'
            split at c1'
            · rename_i ey
              have c2 : runP y t = 0 := by omega
              obtain ⟨hlt2, hd2, _, hy⟩ := drop_cons hd
              obtain ⟨hy0, hy1⟩ := hb y (List.mem_of_getElem? hy)
              simp only [List.length_cons] at hlen hN
              rw [data_at l hl hb _ i x (y :: t) h hss 1 (by omega), windroseref19_Data.j4L_eq, w64 (x := ((i + 1 + runP x (y :: t) : Nat) : Int) - (i : Int)) (by omega) (by omega), if_neg (by omega), windroseref19_Data.j5L_eq, if_neg (by simp), w64 (x := ((i + 1 + runP x (y :: t) : Nat) : Int) - (i : Int)) (by omega) (by omega), if_neg (by omega),
                data_told l hl _ (i + 1) y x t hd hy0 hy1 hax _ _ (by simp; omega), ih t (i + 1 + 1) y _ (by omega) hd2 (by omega) ⟨by omega, fun _ => by rw [show i + 1 + 1 - 1 = i + 1 by omega, rd_drop hd], by omega, by omega⟩ (fun z s e => by
                  subst e
                  have := runP_zero c2
                  right
                  rw [show i + 1 + 1 - 1 = i + 1 by omega, rd_drop hd]
                  omega) (by simp; omega), encP, if_pos c, encP, if_pos (by omega), List.append_assoc, List.append_assoc]
              rfl
            · omega
      · have hsz : ¬ (((i + 1 + runP x t : Nat) : Int) - (i : Int) < 3) := by omega
        rw [if_pos (by omega), w64_succ hlt (by omega), decide_eq_false (by omega), windroseref19_Data.j5L_eq, if_neg (by simp), w64 (x := ((i + 1 + runP x t : Nat) : Int) - (i : Int)) (by omega) (by omega), if_pos (by omega), w64_succ hlt (by omega), show (((i : Int) == ((i + 1 : Nat) : Int)) = false) from beq_eq_false_iff_ne.2 (by omega), told _ _ ho]
        have a1 := data_at l hl hb (os ++ [x - (p + 1)]) i x t h hss 1 (by omega)
        rw [a1, windroseref19_Data.j4L_eq, w64 (x := ((i + 1 + runP x t : Nat) : Int) - (i : Int)) (by omega) (by omega), if_pos (by omega), w64_succ hlt (by omega), decide_eq_false (by omega), windroseref19_Data.j5L_eq, if_neg (by simp), w64 (x := ((i + 1 + runP x t : Nat) : Int) - (i : Int)) (by omega) (by omega), if_pos (by omega), w64_succ hlt (by omega), show ((((i + 1 : Nat) : Int) == ((i + 1 : Nat) : Int)) = true) from beq_iff_eq.2 rfl, windroseref19_Data.j6L_eq, if_pos rfl, if_pos (by simp; omega), w64 (x := (i : Int) - ((i + 1 + runP x t : Nat) : Int)) (by omega) (by omega), w64_succ (n := 4097) (by omega) (by omega),
          show i + 1 + 1 = i + 2 by omega, data_skip l hl hb _ i x t h hss (by omega) (runP x t - 1) 2 (by omega) (by omega)]
        obtain ⟨g1, g2⟩ := rd_at h (runP x t) (runP_get x t _ (Nat.le_refl _))
        have hz := hb (x + (runP x t : Nat)) (by
          have := runP_get x t _ (Nat.le_refl _)
          have e : l[i + runP x t]? = some (x + (runP x t : Nat)) := by rw [← this, ← h, List.getElem?_drop]
          exact List.mem_of_getElem? e)
        have hdr := runP_drop x t (runP x t) (Nat.le_refl _)
        rw [ih (t.drop (runP x t)) (i + 1 + runP x t) (x + (runP x t : Nat)) _ (by rw [List.length_drop]; omega) (drop_more h _) (by omega) ⟨by omega, fun _ => by rw [show i + 1 + runP x t - 1 = i + runP x t by omega, g1], by omega, by omega⟩ (fun z s e => by
            rw [e] at hdr
            have := runP_zero (hdr.trans (Nat.sub_self _))
            right
            rw [show i + 1 + runP x t - 1 = i + runP x t by omega, g1]
            omega) (by simp; omega), encP, if_neg c, List.append_assoc, List.append_assoc, show (i : Int) - ((i + 1 + runP x t : Nat) : Int) = -((runP x t : Int) + 1) by omega]
        rfl
theorem data19 (l : List Int) (h : soundB l = true) : windroseref19_Data.fL l = some ((l.length : Int) :: encP (-1) l, []) := by
  rw [windroseref19_Data.fL_eq]
  have hs := snd_all l
  have e : sndP l = l := by unfold sndP; rw [if_pos h]
  rw [e] at hs
  exact data_loop l hs.1 hs.2.1 l.length l 0 (-1) _ (Nat.le_refl _) rfl (by omega) ⟨fun _ => rfl, fun h => by omega, by omega, by omega⟩ (fun _ _ _ => .inl rfl) (by simp)
end Go.Proofs.Ytkfakciimeiehaa.CodeBase
