/- Layer 13: a rate, and the document's totals. -/
import Derived.Test.YtkfakciimeiehaaTotalBase
set_option linter.unusedVariables false
set_option linter.unusedSimpArgs false
namespace Go.Proofs.Ytkfakciimeiehaa.TotalBase
open Go Go.RowKit Go.Proofs.YtkfakciimeiehaaW.PrintWords Go.Proofs.YtkfakciimeiehaaW.PrintLast Go.Proofs.YtkfakciimeiehaaW.PrintMore Go.Proofs.YtkfakciimeiehaaLim Go.Proofs.YtkfakciimeiehaaAid Go.Proofs.Ytkfakciimeiehaa.PTotal

/-- How much values grow, from one on. -/
def Grow : Int → List Int → Int
  | _, [] => 0
  | p, v :: t => (if p ≤ v then v - p else max 0 v) + Grow v t
theorem grow_bound : ∀ (t : List Int) (p : Int), -1099511627776 ≤ p → p ≤ 1099511627776 → (∀ v ∈ t, -1099511627776 ≤ v ∧ v ≤ 1099511627776) → 0 ≤ Grow p t ∧ Grow p t ≤ t.length * 2199023255552
  | [], p, _, _, _ => by simp [Grow]
  | v :: t, p, h0, h1, hv => by
    have hv0 := hv v (by simp)
    have := grow_bound t v hv0.1 hv0.2 (fun u hu => hv u (by simp [hu]))
    simp only [Grow, List.length_cons]
    split <;> omega

theorem good_times : ∀ {t : List S84} {p : Option Int}, GoodS p t → ∀ j, j < t.length → 0 ≤ (t.getD j z84).f0 ∧ (t.getD j z84).f0 ≤ 1099511627776 ∧ ∀ q, p = some q → q < (t.getD j z84).f0
  | [], _, _, j, hj => by simp at hj
  | x :: t, p, h, 0, hj => ⟨h.1, h.2.1, h.2.2.2.2.1⟩
  | x :: t, p, h, j + 1, hj => by
    have := good_times h.2.2.2.2.2 j (by simpa using hj)
    refine ⟨this.1, this.2.1, fun q hq => ?_⟩
    have h1 := h.2.2.2.2.1 q hq
    have h2 := this.2.2 x.f0 rfl
    simp only [List.getD_cons_succ]
    omega
theorem good_last {l : List S84} (hg : GoodS none l) (h2 : 2 ≤ l.length) : 0 ≤ (rd_T84 l 0).f0 ∧ (rd_T84 l 0).f0 < (rd_T84 l ((l.length - 1 : Nat) : Int)).f0 ∧ (rd_T84 l ((l.length - 1 : Nat) : Int)).f0 ≤ 1099511627776 := by
  cases l with
  | nil => simp at h2
  | cons x t =>
    have h := good_times hg.2.2.2.2.2 (t.length - 1) (by simp at h2; omega)
    have e : rd_T84 (x :: t) (((x :: t).length - 1 : Nat) : Int) = t.getD (t.length - 1) z84 := by
      unfold rd_T84
      obtain ⟨m, hm⟩ : ∃ m, t.length = m + 1 := ⟨t.length - 1, by simp at h2; omega⟩
      simp [hm]
    rw [e]
    exact ⟨hg.1, h.2.2 x.f0 rfl, h.2.1⟩

/-- A rate's last step. -/
def Fin (l : List S84) (g : Int) : Int := wrap64 (Int.tdiv (wrap64 (g * 60)) (wrap64 (((rd_T84 l ((l.length - 1 : Nat) : Int)).f0) - ((rd_T84 l 0).f0))))

theorem rate_loop (l : List S84) (hl : l.length ≤ 64) (h2 : 2 ≤ l.length) (hg : GoodS none l) : ∀ (t : List S84) (i : Nat) (a : Int), l.drop i = t → 1 ≤ i → i ≤ l.length → (∀ v ∈ ValsS t, -1099511627776 ≤ v ∧ v ≤ 1099511627776) →
    -1099511627776 ≤ (rd_T84 l ((i - 1 : Nat) : Int)).f1 → (rd_T84 l ((i - 1 : Nat) : Int)).f1 ≤ 1099511627776 → 0 ≤ a → a ≤ i * 2199023255552 →
    total_rate.l0L l a (i : Int) = some (Fin l (a + Grow (rd_T84 l ((i - 1 : Nat) : Int)).f1 (ValsS t)), true) := by
  intro t
  have hL := good_last hg h2
  induction t with
  | nil =>
    intro i a h h1 hi hv hp hp' ha ha'
    have := drop_nil h
    rw [total_rate.l0L_eq, if_neg (by omega), w64_pred (n := 64) (by omega) (by omega) (by omega), if_pos (by omega), if_pos (by omega), if_pos (by omega), if_neg (by rw [w64 (by omega) (by omega)]; omega)]
    simp [Fin, ValsS, Grow]
  | cons x t ih =>
    intro i a h h1 hi hv hp hp' ha ha'
    have hlt := (drop_cons h).1
    have hx := hv x.f1 (by simp [ValsS])
    have hdr := (drop_cons h).2.1
    have hrest : ∀ v ∈ ValsS t, -1099511627776 ≤ v ∧ v ≤ 1099511627776 := fun v hv' => hv v (by simp [ValsS] at hv' ⊢; exact Or.inr hv')
    rw [total_rate.l0L_eq, if_pos (by omega), if_pos (by omega), w64_pred (n := 64) (by omega) (by omega) (by omega), if_pos (by omega), if_pos (by omega), rd_at h, w64_succ hlt (by omega)]
    have hi1 : rd_T84 l ((i + 1 - 1 : Nat) : Int) = x := by rw [show i + 1 - 1 = i from by omega, rd_at h]
    have e : Grow (rd_T84 l ((i - 1 : Nat) : Int)).f1 (ValsS (x :: t)) = (if (rd_T84 l ((i - 1 : Nat) : Int)).f1 ≤ x.f1 then x.f1 - (rd_T84 l ((i - 1 : Nat) : Int)).f1 else max 0 x.f1) + Grow x.f1 (ValsS t) := rfl
    rw [e, w64 (x := x.f1 - _) (by omega) (by omega), mx_eq]
    by_cases hc : (rd_T84 l ((i - 1 : Nat) : Int)).f1 ≤ x.f1
    · rw [if_pos (by omega), if_pos hc, w64 (by omega) (by omega)]
      have := ih (i + 1) (a + (x.f1 - (rd_T84 l ((i - 1 : Nat) : Int)).f1)) hdr (by omega) (by omega) hrest (by rw [hi1]; omega) (by rw [hi1]; omega) (by omega) (by omega)
      rw [hi1] at this
      rw [this, Int.add_assoc]
    · rw [if_neg (by omega), if_neg hc, w64 (by omega) (by omega)]
      have := ih (i + 1) (a + max 0 x.f1) hdr (by omega) (by omega) hrest (by rw [hi1]; omega) (by rw [hi1]; omega) (by omega) (by omega)
      rw [hi1] at this
      rw [this, Int.add_assoc]

/-- A rate of samples that may be. -/
def Rate (l : List S84) : Int × Bool :=
  match l with
  | [] => (0, false)
  | [_] => (0, false)
  | x :: y :: t => (Fin (x :: y :: t) (Grow x.f1 (ValsS (y :: t))), true)

theorem of_5 {l : List S84} (hl : l.length ≤ 64) (hg : GoodS none l) : total_Of.fL 5 l = some (Rate l) := by
  rw [total_Of.fL_eq, check_ok hl hg]
  rw [Option.bind_some, if_pos rfl, if_neg (by omega), decide_eq_false (by omega), total_Of.j0L_eq, if_neg (by simp), if_neg (by omega), if_pos rfl, total_rate.fL_eq]
  match l, hl, hg with
  | [], _, _ => rw [if_pos (by simp)]; rfl
  | [_], _, _ => rw [if_pos (by simp)]; rfl
  | x :: y :: t, hl, hg =>
    have hv := good_vals hg
    have hx := hv x.f1 (by simp [ValsS])
    rw [if_neg (by simp; omega)]
    have := rate_loop (x :: y :: t) hl (by simp) hg (y :: t) 1 0 rfl (by omega) (by simp) (fun v hv' => hv v (by simp [ValsS] at hv' ⊢; exact Or.inr hv')) hx.1 hx.2 (by omega) (by omega)
    have e : rd_T84 (x :: y :: t) ((1 - 1 : Nat) : Int) = x := rfl
    rw [e] at this
    rw [show (1 : Int) = ((1 : Nat) : Int) from rfl, this]
    simp [Rate]

/-- What the document's loop ends in. -/
def RefFin (kind : Int) (l : List S84) (s a b g : Int) : Option (Int × Bool) :=
  if kind = 1 then some (s, true) else if kind = 4 then some ((l.length : Int), true) else if kind = 2 then some (a, decide (0 < l.length)) else if kind = 3 then some (b, decide (0 < l.length)) else if l.length < 2 then some (0, false) else some (Fin l g, true)

theorem pos_dec (n : Nat) : decide ((n : Int) > 0) = decide (0 < n) := by rw [decide_eq_decide]; omega

theorem ref_end (kind : Int) (l : List S84) (hl : l.length ≤ 64) (hg : GoodS none l) (s a b g : Int) : windroseref13_Of.l0L kind l (l.length : Int) s a b g (l.length : Int) = RefFin kind l s a b g := by
  rw [windroseref13_Of.l0L_eq, if_neg (by omega)]
  unfold RefFin
  rw [pos_dec]
  by_cases h1 : kind = 1
  · rw [if_pos h1, if_pos h1]
  rw [if_neg h1, if_neg h1]
  by_cases h4 : kind = 4
  · rw [if_pos h4, if_pos h4]
  rw [if_neg h4, if_neg h4]
  by_cases h2 : kind = 2
  · rw [if_pos h2, if_pos h2]
  rw [if_neg h2, if_neg h2]
  by_cases h3 : kind = 3
  · rw [if_pos h3, if_pos h3]
  rw [if_neg h3, if_neg h3]
  by_cases h5 : l.length < 2
  · rw [if_pos (by omega), if_pos h5]
  have hL := good_last hg (by omega)
  rw [if_neg (by omega), if_neg h5, w64_pred (n := 64) (by omega) (by omega) (by omega), if_pos (by omega), if_pos (by omega), if_pos (by omega), if_neg (by rw [w64 (by omega) (by omega)]; omega)]
  rfl

theorem ref_loop (kind : Int) (l : List S84) (hl : l.length ≤ 64) (hg : GoodS none l) : ∀ (t : List S84) (i : Nat) (s a b g : Int), l.drop i = t → 1 ≤ i → i ≤ l.length → (∀ v ∈ ValsS t, -1099511627776 ≤ v ∧ v ≤ 1099511627776) →
    -1099511627776 ≤ (rd_T84 l ((i - 1 : Nat) : Int)).f1 → (rd_T84 l ((i - 1 : Nat) : Int)).f1 ≤ 1099511627776 → 0 ≤ g → g ≤ i * 2199023255552 → -(i * 1099511627776) ≤ s → s ≤ i * 1099511627776 →
    windroseref13_Of.l0L kind l (l.length : Int) s a b g (i : Int) = RefFin kind l ((ValsS t).foldl (Two 1) s) ((ValsS t).foldl (Two 2) a) ((ValsS t).foldl (Two 3) b) (g + Grow (rd_T84 l ((i - 1 : Nat) : Int)).f1 (ValsS t)) := by
  intro t
  induction t with
  | nil =>
    intro i s a b g h h1 hi hv hp hp' hg0 hg1 hs hs'
    have := drop_nil h
    obtain rfl : i = l.length := by omega
    rw [ref_end kind l hl hg]
    simp [ValsS, Grow]
  | cons x t ih =>
    intro i s a b g h h1 hi hv hp hp' hg0 hg1 hs hs'
    have hlt := (drop_cons h).1
    have hx := hv x.f1 (by simp [ValsS])
    have hdr := (drop_cons h).2.1
    have hrest : ∀ v ∈ ValsS t, -1099511627776 ≤ v ∧ v ≤ 1099511627776 := fun v hv' => hv v (by simp [ValsS] at hv' ⊢; exact Or.inr hv')
    have hi1 : rd_T84 l ((i + 1 - 1 : Nat) : Int) = x := by rw [show i + 1 - 1 = i from by omega, rd_at h]
    have two1 : Two 1 s x.f1 = s + x.f1 := rfl
    have two2 : Two 2 a x.f1 = min a x.f1 := rfl
    have two3 : Two 3 b x.f1 = max b x.f1 := rfl
    have e : Grow (rd_T84 l ((i - 1 : Nat) : Int)).f1 (ValsS (x :: t)) = (if (rd_T84 l ((i - 1 : Nat) : Int)).f1 ≤ x.f1 then x.f1 - (rd_T84 l ((i - 1 : Nat) : Int)).f1 else max 0 x.f1) + Grow x.f1 (ValsS t) := rfl
    -- the round, up to its growth
    have step : windroseref13_Of.l0L kind l (l.length : Int) s a b g (i : Int) = windroseref13_Of.j5L kind l (l.length : Int) (s + x.f1) (min a x.f1) (max b x.f1) g (i : Int) x.f1 := by
      rw [windroseref13_Of.l0L_eq, if_pos (by omega), if_pos (by omega), if_pos (by omega), if_neg (by omega), rd_at h, w64 (x := s + x.f1) (by omega) (by omega), windroseref13_Of.j2L_eq]
      have e2 : (if decide (x.f1 < a) = true then windroseref13_Of.j3L kind l (l.length : Int) (s + x.f1) x.f1 b g (i : Int) x.f1 else windroseref13_Of.j3L kind l (l.length : Int) (s + x.f1) a b g (i : Int) x.f1) = windroseref13_Of.j3L kind l (l.length : Int) (s + x.f1) (min a x.f1) b g (i : Int) x.f1 := by
        by_cases hc : x.f1 < a
        · rw [if_pos (by simpa using hc), show min a x.f1 = x.f1 from by omega]
        · rw [if_neg (by simpa using hc), show min a x.f1 = a from by omega]
      rw [e2, windroseref13_Of.j3L_eq, if_neg (by omega), windroseref13_Of.j4L_eq]
      by_cases hc : x.f1 > b
      · rw [if_pos (by simpa using hc), show max b x.f1 = x.f1 from by omega]
      · rw [if_neg (by simpa using hc), show max b x.f1 = b from by omega]
    rw [step, windroseref13_Of.j5L_eq, if_pos (by omega), w64_pred (n := 64) (by omega) (by omega) (by omega), if_pos (by omega), if_pos (by omega), windroseref13_Of.j6L_eq, w64_pred (n := 64) (by omega) (by omega) (by omega), w64_succ hlt (by omega)]
    simp only [ValsS, List.map_cons, List.foldl_cons, two1, two2, two3]
    rw [show List.map (fun x => x.f1) t = ValsS t from rfl, show (Grow (rd_T84 l ((i - 1 : Nat) : Int)).f1 (x.f1 :: ValsS t)) = _ from e]
    have nx := fun (g' : Int) (h0 : 0 ≤ g') (h1 : g' ≤ (i + 1 : Nat) * 2199023255552) => ih (i + 1) (s + x.f1) (min a x.f1) (max b x.f1) g' hdr (by omega) (by omega) hrest (by rw [hi1]; omega) (by rw [hi1]; omega) h0 h1 (by omega) (by omega)
    simp only [hi1] at nx
    by_cases hc : (rd_T84 l ((i - 1 : Nat) : Int)).f1 ≤ x.f1
    · rw [if_pos (by simpa using hc), if_pos (by omega), if_pos (by omega), w64 (x := g + x.f1) (by omega) (by omega), w64 (by omega) (by omega), nx _ (by omega) (by omega), if_pos hc]
      congr 1
      omega
    · rw [if_neg (by simpa using hc), if_neg hc, if_pos (by omega)]
      by_cases h0 : x.f1 > 0
      · rw [if_pos h0, w64 (by omega) (by omega), nx _ (by omega) (by omega)]
        congr 1
        omega
      · rw [if_neg h0, nx _ (by omega) (by omega)]
        congr 1
        omega

theorem ref_of {kind : Int} (hk : 1 ≤ kind) (hk5 : kind ≤ 5) {l : List S84} (hl : l.length ≤ 64) (hg : GoodS none l) :
    windroseref13_Of.fL kind l = RefFin kind l (Run 1 (ValsS l)) (Run 2 (ValsS l)) (Run 3 (ValsS l)) (match ValsS l with | [] => 0 | v :: t => Grow v t) := by
  rw [windroseref13_Of.fL_eq, may_ok hl hg]
  rw [Option.bind_some, if_pos rfl, if_neg (by omega), decide_eq_false (by omega), windroseref13_Of.j0L_eq, if_neg (by simp)]
  cases l with
  | nil => exact ref_end kind [] hl hg 0 0 0 0
  | cons x t =>
    have hv := good_vals hg
    have hx := hv x.f1 (by simp [ValsS])
    rw [windroseref13_Of.l0L_eq, if_pos (by simp), if_pos (by omega), if_pos (by simp), if_pos rfl, show rd_T84 (x :: t) 0 = x from rfl, windroseref13_Of.j2L_eq, if_pos rfl, windroseref13_Of.j3L_eq, if_pos rfl, windroseref13_Of.j4L_eq, if_pos rfl, windroseref13_Of.j5L_eq, if_neg (by omega),
      windroseref13_Of.j6L_eq, if_neg (by simp), if_neg (by omega), show wrap64 ((0 : Int) + 1) = ((1 : Nat) : Int) from by decide +kernel, w64 (by omega) (by omega)]
    rw [ref_loop kind (x :: t) hl hg t 1 (0 + x.f1) x.f1 x.f1 0 rfl (by omega) (by simp) (fun v hv' => hv v (by simp [ValsS] at hv' ⊢; exact Or.inr hv')) hx.1 hx.2 (by omega) (by omega) (by omega) (by omega)]
    have e : rd_T84 (x :: t) ((1 - 1 : Nat) : Int) = x := rfl
    rw [e, Int.zero_add, Int.zero_add]
    rfl
theorem ref_no {kind : Int} {l : List S84} (hb : l.length ≤ 9223372036854775807) (h : ¬ (1 ≤ kind ∧ kind ≤ 5 ∧ l.length ≤ 64 ∧ GoodS none l)) : windroseref13_Of.fL kind l = some (0, false) := by
  rw [windroseref13_Of.fL_eq]
  by_cases hc : l.length ≤ 64 ∧ GoodS none l
  · rw [may_ok hc.1 hc.2]
    rw [Option.bind_some, if_pos rfl, windroseref13_Of.j0L_eq, windroseref13_Of.j0L_eq]
    by_cases h1 : kind < 1
    · rw [if_pos h1, if_pos rfl]
    · have h2 : kind > 5 := by
        by_cases h' : kind > 5
        · exact h'
        · exact absurd ⟨by omega, by omega, hc.1, hc.2⟩ h
      rw [if_neg h1, if_pos (by simpa using h2)]
  · rw [may_no hb hc]
    rw [Option.bind_some, if_neg (by simp), windroseref13_Of.j0L_eq, if_pos rfl]

/-- The program's total is the document's. -/
theorem of_same (kind : Int) (l : List S84) (hb : l.length ≤ 9223372036854775807) : ∃ r, total_Of.fL kind l = some r ∧ windroseref13_Of.fL kind l = some r := by
  by_cases h : 1 ≤ kind ∧ kind ≤ 5 ∧ l.length ≤ 64 ∧ GoodS none l
  · obtain ⟨h1, h5, hl, hg⟩ := h
    rw [ref_of h1 h5 hl hg]
    unfold RefFin
    by_cases k1 : kind = 1
    · subst k1
      exact ⟨_, of_123 (by omega) (by omega) hl hg, by simp⟩
    by_cases k4 : kind = 4
    · subst k4
      exact ⟨_, of_4 hl hg, by simp⟩
    by_cases k2 : kind = 2
    · subst k2
      exact ⟨_, of_123 (by omega) (by omega) hl hg, by simp⟩
    by_cases k3 : kind = 3
    · subst k3
      exact ⟨_, of_123 (by omega) (by omega) hl hg, by simp⟩
    obtain rfl : kind = 5 := by omega
    refine ⟨_, of_5 hl hg, ?_⟩
    match l with
    | [] => rfl
    | [_] => rfl
    | x :: y :: t => simp [Rate, ValsS]
  · exact ⟨_, of_no h, ref_no hb h⟩
end Go.Proofs.Ytkfakciimeiehaa.TotalBase
