/- Layer 13: what the program's total and the document's total of samples come to, in plain lists. -/
import Derived.Test.YtkfakciimeiehaaAid
import Derived.Test.YtkfakciimeiehaaLTotal
set_option linter.unusedVariables false
set_option linter.unusedSimpArgs false
namespace Go.Proofs.Ytkfakciimeiehaa.TotalBase
open Go Go.RowKit Go.Proofs.YtkfakciimeiehaaW.PrintWords Go.Proofs.YtkfakciimeiehaaW.PrintLast Go.Proofs.YtkfakciimeiehaaW.PrintMore Go.Proofs.YtkfakciimeiehaaLim Go.Proofs.YtkfakciimeiehaaAid Go.Proofs.Ytkfakciimeiehaa.PTotal

theorem rd_at {l t : List S84} {x : S84} {i : Nat} (h : l.drop i = x :: t) : rd_T84 l (i : Int) = x := (drop_cons h).2.2.1 _

/-- May samples from here on be, behind a sample with time p (none: they are the first)? -/
def GoodS : Option Int → List S84 → Prop
  | _, [] => True
  | p, x :: t => 0 ≤ x.f0 ∧ x.f0 ≤ 1099511627776 ∧ -1099511627776 ≤ x.f1 ∧ x.f1 ≤ 1099511627776 ∧ (∀ q, p = some q → q < x.f0) ∧ GoodS (some x.f0) t

/-- The time of the one before place i. -/
def Prev (l : List S84) (i : Nat) : Option Int := if i = 0 then none else some (rd_T84 l ((i - 1 : Nat) : Int)).f0

theorem prev_succ {l t : List S84} {x : S84} {i : Nat} (h : l.drop i = x :: t) : Prev l (i + 1) = some x.f0 := by
  unfold Prev
  rw [if_neg (by omega), show i + 1 - 1 = i from by omega, rd_at h]

theorem check_loop (l : List S84) (hl : l.length ≤ 64) : ∀ (t : List S84) (i : Nat), l.drop i = t → i ≤ l.length →
    (GoodS (Prev l i) t → block_Check.l0L l l (l.length : Int) (i : Int) = some 0) ∧ (¬ GoodS (Prev l i) t → block_Check.l0L l l (l.length : Int) (i : Int) = some 1) := by
  intro t
  induction t with
  | nil =>
    intro i h hi
    have := drop_nil h
    refine ⟨fun _ => ?_, fun hn => absurd trivial hn⟩
    rw [block_Check.l0L_eq, if_neg (by omega)]
  | cons x t ih =>
    intro i h hi
    have hlt := (drop_cons h).1
    have ih' := ih (i + 1) (drop_cons h).2.1 (by omega)
    rw [block_Check.l0L_eq, if_pos (by omega), if_pos (by omega), if_pos (by omega), rd_at h, w64_succ hlt (by omega)]
    rw [prev_succ h] at ih'
    unfold GoodS
    by_cases h1 : x.f0 < 0
    · rw [if_pos h1]
      exact ⟨fun hg => absurd hg.1 (by omega), fun _ => rfl⟩
    rw [if_neg h1]
    by_cases h2 : x.f0 > 1099511627776
    · rw [if_pos h2]
      exact ⟨fun hg => absurd hg.2.1 (by omega), fun _ => rfl⟩
    rw [if_neg h2]
    by_cases h3 : x.f1 < -1099511627776
    · rw [if_pos h3]
      exact ⟨fun hg => absurd hg.2.2.1 (by omega), fun _ => rfl⟩
    rw [if_neg h3]
    by_cases h4 : x.f1 > 1099511627776
    · rw [if_pos h4]
      exact ⟨fun hg => absurd hg.2.2.2.1 (by omega), fun _ => rfl⟩
    rw [if_neg h4]
    by_cases h5 : i = 0
    · subst h5
      rw [if_neg (by omega)]
      refine ⟨fun hg => ih'.1 hg.2.2.2.2.2, fun hg => ih'.2 fun hg' => hg ⟨by omega, by omega, by omega, by omega, fun q hq => ?_, hg'⟩⟩
      simp [Prev] at hq
    · have hp : Prev l i = some (rd_T84 l ((i - 1 : Nat) : Int)).f0 := by unfold Prev; rw [if_neg h5]
      rw [if_pos (by omega), w64_pred (by omega) hi (by omega), if_pos (by omega), if_pos (by omega), hp]
      by_cases h6 : x.f0 ≤ (rd_T84 l ((i - 1 : Nat) : Int)).f0
      · rw [if_pos h6]
        exact ⟨fun hg => absurd (hg.2.2.2.2.1 _ rfl) (by omega), fun _ => rfl⟩
      · rw [if_neg h6]
        exact ⟨fun hg => ih'.1 hg.2.2.2.2.2, fun hg => ih'.2 fun hg' => hg ⟨by omega, by omega, by omega, by omega, fun q hq => by injection hq with hq; omega, hg'⟩⟩

theorem check_ok {l : List S84} (hl : l.length ≤ 64) (h : GoodS none l) : block_Check.fL l = some 0 := by
  rw [block_Check.fL_eq, if_neg (by omega)]
  exact (check_loop l hl l 0 rfl (by omega)).1 h
theorem check_no {l : List S84} (h : ¬ (l.length ≤ 64 ∧ GoodS none l)) : block_Check.fL l = some 1 := by
  rw [block_Check.fL_eq]
  by_cases hl : l.length ≤ 64
  · rw [if_neg (by omega)]
    exact (check_loop l hl l 0 rfl (by omega)).2 fun hg => h ⟨hl, hg⟩
  · rw [if_pos (by omega)]

theorem may_loop (l : List S84) (hl : l.length ≤ 9223372036854775807) : ∀ (t : List S84) (i : Nat), l.drop i = t → i ≤ l.length →
    (GoodS (Prev l i) t → windroseref11_May.l0L l (i : Int) = some (decide ((l.length : Int) ≤ 64))) ∧ (¬ GoodS (Prev l i) t → windroseref11_May.l0L l (i : Int) = some false) := by
  intro t
  induction t with
  | nil =>
    intro i h hi
    have := drop_nil h
    refine ⟨fun _ => ?_, fun hn => absurd trivial hn⟩
    rw [windroseref11_May.l0L_eq, if_neg (by omega)]
  | cons x t ih =>
    intro i h hi
    have hlt := (drop_cons h).1
    have ih' := ih (i + 1) (drop_cons h).2.1 (by omega)
    rw [windroseref11_May.l0L_eq, if_pos (by omega), if_pos (by omega), rd_at h, w64_succ hlt (by omega)]
    rw [prev_succ h] at ih'
    unfold GoodS
    by_cases h1 : x.f0 < 0
    · rw [if_pos h1]
      exact ⟨fun hg => absurd hg.1 (by omega), fun _ => rfl⟩
    rw [if_neg h1]
    by_cases h2 : x.f0 > 1099511627776
    · rw [if_pos h2]
      exact ⟨fun hg => absurd hg.2.1 (by omega), fun _ => rfl⟩
    rw [if_neg h2]
    by_cases h3 : x.f1 < -1099511627776
    · rw [if_pos h3]
      exact ⟨fun hg => absurd hg.2.2.1 (by omega), fun _ => rfl⟩
    rw [if_neg h3]
    by_cases h4 : x.f1 > 1099511627776
    · rw [if_pos h4]
      exact ⟨fun hg => absurd hg.2.2.2.1 (by omega), fun _ => rfl⟩
    rw [if_neg h4]
    by_cases h5 : i = 0
    · subst h5
      rw [if_neg (by omega)]
      refine ⟨fun hg => ih'.1 hg.2.2.2.2.2, fun hg => ih'.2 fun hg' => hg ⟨by omega, by omega, by omega, by omega, fun q hq => ?_, hg'⟩⟩
      simp [Prev] at hq
    · have hp : Prev l i = some (rd_T84 l ((i - 1 : Nat) : Int)).f0 := by unfold Prev; rw [if_neg h5]
      rw [if_pos (by omega), w64_pred (by omega) hi (by omega), if_pos (by omega), if_pos (by omega), hp]
      by_cases h6 : (rd_T84 l ((i - 1 : Nat) : Int)).f0 ≥ x.f0
      · rw [if_pos h6]
        exact ⟨fun hg => absurd (hg.2.2.2.2.1 _ rfl) (by omega), fun _ => rfl⟩
      · rw [if_neg h6]
        exact ⟨fun hg => ih'.1 hg.2.2.2.2.2, fun hg => ih'.2 fun hg' => hg ⟨by omega, by omega, by omega, by omega, fun q hq => by injection hq with hq; omega, hg'⟩⟩

theorem may_ok {l : List S84} (hl : l.length ≤ 64) (h : GoodS none l) : windroseref11_May.fL l = some true := by
  rw [windroseref11_May.fL_eq]
  have := (may_loop l (by omega) l 0 rfl (by omega)).1 h
  rw [decide_eq_true (by omega)] at this
  exact this
theorem may_no {l : List S84} (hb : l.length ≤ 9223372036854775807) (h : ¬ (l.length ≤ 64 ∧ GoodS none l)) : windroseref11_May.fL l = some false := by
  rw [windroseref11_May.fL_eq]
  by_cases hg : GoodS none l
  · have := (may_loop l hb l 0 rfl (by omega)).1 hg
    rw [decide_eq_false (fun hl => h ⟨by omega, hg⟩)] at this
    exact this
  · exact (may_loop l hb l 0 rfl (by omega)).2 hg

theorem awake : windroselaw13_awake.fL = some true := lim_of windroselaw13_awake.mono (k := 40) (by decide +kernel)

/-! ### the totals -/
/-- Two values put together, by kind: 1 the sum, 2 the least, 3 the greatest. -/
def Two (kind : Int) (a b : Int) : Int := if kind = 1 then a + b else if kind = 2 then min a b else max a b
/-- Values put together from the left. -/
def Run (kind : Int) : List Int → Int
  | [] => 0
  | v :: t => t.foldl (Two kind) v

def ValsS (l : List S84) : List Int := l.map (·.f1)

theorem fold_ok {kind a b : Int} (hk : 1 ≤ kind) (hk4 : kind ≤ 4) (ha : -9007199254740992 ≤ a) (ha' : a ≤ 9007199254740992) (hb : -9007199254740992 ≤ b) (hb' : b ≤ 9007199254740992) :
    total_Fold.fL kind a b = some (if kind = 4 then a + b else Two kind a b, true) := by
  rw [total_Fold.fL_eq, mn_eq, if_neg (by omega), mx_eq, decide_eq_false (by omega), total_Fold.j0L_eq, if_neg (by simp)]
  unfold Two
  by_cases h1 : kind = 1
  · rw [if_pos h1, total_Fold.j1L_eq, if_pos (by simp [h1]), w64 (by omega) (by omega), if_neg (by omega), if_pos h1]
  · rw [if_neg h1, total_Fold.j1L_eq]
    by_cases h4 : kind = 4
    · rw [if_pos (by simp [h4]), w64 (by omega) (by omega), if_pos h4]
    · rw [if_neg (by simp [h4]), if_neg h4, if_neg h1]
      by_cases h2 : kind = 2
      · rw [if_pos h2, if_pos h2, mn_eq]
      · rw [if_neg h2, if_pos (by omega), if_neg h2, mx_eq]
theorem fold_no {kind a b : Int} (h : ¬ (1 ≤ kind ∧ kind ≤ 4 ∧ -9007199254740992 ≤ a ∧ a ≤ 9007199254740992 ∧ -9007199254740992 ≤ b ∧ b ≤ 9007199254740992)) :
    total_Fold.fL kind a b = some (0, false) := by
  rw [total_Fold.fL_eq, mn_eq, mx_eq]
  by_cases h1 : min a b < -9007199254740992
  · rw [if_pos h1, total_Fold.j0L_eq, if_pos rfl]
  rw [if_neg h1, total_Fold.j0L_eq]
  by_cases h2 : max a b > 9007199254740992
  · rw [if_pos (by simpa using h2)]
  rw [if_neg (by simpa using h2), if_neg (by omega), total_Fold.j1L_eq, if_neg (by simp; omega), if_neg (by omega), if_neg (by omega)]

/-- Bounds of what is put together. -/
theorem foldl_bound (kind : Int) (B : Int) (hB : 0 ≤ B) : ∀ (t : List Int) (a : Int) (m : Nat), (∀ v ∈ t, -B ≤ v ∧ v ≤ B) → -(m * B) ≤ a → a ≤ m * B → 1 ≤ m →
    -((m + t.length : Nat) * B) ≤ t.foldl (Two kind) a ∧ t.foldl (Two kind) a ≤ (m + t.length : Nat) * B := by
  intro t
  induction t with
  | nil => intro a m _ h0 h1 _; exact ⟨by simpa using h0, by simpa using h1⟩
  | cons v t ih =>
    intro a m hv h0 h1 hm
    have hv0 := hv v (by simp)
    have hmB : B ≤ m * B := by
      have : (1 : Int) * B ≤ m * B := Int.mul_le_mul_of_nonneg_right (by omega) hB
      omega
    have e1 : ((m + 1 : Nat) : Int) * B = m * B + B := by rw [Int.natCast_add, Int.add_mul]; simp
    have := ih (Two kind a v) (m + 1) (fun u hu => hv u (by simp [hu])) (by rw [e1]; unfold Two; split <;> (try split) <;> omega) (by rw [e1]; unfold Two; split <;> (try split) <;> omega) (by omega)
    simp only [List.foldl_cons, List.length_cons]
    rw [show m + (t.length + 1) = m + 1 + t.length from by omega]
    exact this

theorem good_vals : ∀ {t : List S84} {p : Option Int}, GoodS p t → ∀ v ∈ ValsS t, -1099511627776 ≤ v ∧ v ≤ 1099511627776
  | [], _, _, v, hv => by simp [ValsS] at hv
  | x :: t, p, h, v, hv => by
    simp only [ValsS, List.map_cons, List.mem_cons] at hv
    rcases hv with rfl | hv
    · exact ⟨h.2.2.1, h.2.2.2.1⟩
    · exact good_vals h.2.2.2.2.2 v hv

/-- The loop of total.Of, from its second round on. -/
theorem of_loop (kind : Int) (hk : 1 ≤ kind) (hk3 : kind ≤ 3) (l : List S84) (hl : l.length ≤ 64) : ∀ (t : List S84) (i : Nat) (a : Int), l.drop i = t → 1 ≤ i → i ≤ l.length →
    (∀ v ∈ ValsS t, -1099511627776 ≤ v ∧ v ≤ 1099511627776) → -(i * 1099511627776) ≤ a → a ≤ i * 1099511627776 →
    total_Of.l0L kind l a l (l.length : Int) (i : Int) = some ((ValsS t).foldl (Two kind) a, decide (kind = 1 ∨ 0 < l.length)) := by
  intro t
  induction t with
  | nil =>
    intro i a h h1 hi hv ha ha'
    have := drop_nil h
    rw [total_Of.l0L_eq, if_neg (by omega)]
    by_cases hk1 : kind = 1
    · rw [if_pos hk1, decide_eq_true (Or.inl hk1)]; rfl
    · rw [if_neg hk1]
      have e : decide ((l.length : Int) > 0) = decide (kind = 1 ∨ 0 < l.length) := by
        rw [decide_eq_decide]
        constructor
        · intro h; exact Or.inr (by omega)
        · rintro (h | h)
          · exact absurd h hk1
          · omega
      rw [e]; rfl
  | cons x t ih =>
    intro i a h h1 hi hv ha ha'
    have hlt := (drop_cons h).1
    have hx := hv x.f1 (by simp [ValsS])
    rw [total_Of.l0L_eq, if_pos (by omega), if_pos (by omega), if_pos (by omega), if_neg (by omega), rd_at h, fold_ok hk (by omega) (by omega) (by omega) (by omega) (by omega), w64_succ hlt (by omega)]
    rw [Option.bind_some, if_neg (by omega), ih (i + 1) _ (drop_cons h).2.1 (by omega) (by omega) (fun v hv' => hv v (by simp [ValsS] at hv' ⊢; exact Or.inr hv')) (by unfold Two; split <;> (try split) <;> omega) (by unfold Two; split <;> (try split) <;> omega)]
    rfl

/-- total.Of of samples that may be: the sum, the least, the greatest. -/
theorem of_123 {kind : Int} (hk : 1 ≤ kind) (hk3 : kind ≤ 3) {l : List S84} (hl : l.length ≤ 64) (hg : GoodS none l) :
    total_Of.fL kind l = some (Run kind (ValsS l), decide (kind = 1 ∨ 0 < l.length)) := by
  rw [total_Of.fL_eq, check_ok hl hg]
  rw [Option.bind_some, if_pos rfl, if_neg (by omega), decide_eq_false (by omega), total_Of.j0L_eq, if_neg (by simp), if_neg (by omega), if_neg (by omega)]
  cases l with
  | nil =>
    rw [total_Of.l0L_eq, if_neg (by simp)]
    by_cases hk1 : kind = 1
    · rw [if_pos hk1]; simp [Run, ValsS, hk1]
    · rw [if_neg hk1]; simp [Run, ValsS, hk1]
  | cons x t =>
    have hv := good_vals hg
    have hx := hv x.f1 (by simp [ValsS])
    rw [total_Of.l0L_eq, if_pos (by simp), if_pos (by omega), if_pos (by simp), if_pos rfl, show rd_T84 (x :: t) 0 = x from rfl, show wrap64 ((0 : Int) + 1) = ((1 : Nat) : Int) from by decide +kernel]
    rw [of_loop kind hk hk3 (x :: t) hl t 1 x.f1 rfl (by omega) (by simp) (fun v hv' => hv v (by simp [ValsS] at hv' ⊢; exact Or.inr hv')) (by omega) (by omega)]
    rfl
theorem of_4 {l : List S84} (hl : l.length ≤ 64) (hg : GoodS none l) : total_Of.fL 4 l = some ((l.length : Int), true) := by
  rw [total_Of.fL_eq, check_ok hl hg]
  rw [Option.bind_some, if_pos rfl, if_neg (by omega), decide_eq_false (by omega), total_Of.j0L_eq, if_neg (by simp), if_pos rfl]
theorem of_no {kind : Int} {l : List S84} (h : ¬ (1 ≤ kind ∧ kind ≤ 5 ∧ l.length ≤ 64 ∧ GoodS none l)) : total_Of.fL kind l = some (0, false) := by
  rw [total_Of.fL_eq]
  by_cases hc : l.length ≤ 64 ∧ GoodS none l
  · rw [check_ok hc.1 hc.2]
    rw [Option.bind_some, if_pos rfl, total_Of.j0L_eq, total_Of.j0L_eq]
    by_cases h1 : kind < 1
    · rw [if_pos h1, if_pos rfl]
    · have h2 : kind ≥ 6 := by
        by_cases h' : kind ≥ 6
        · exact h'
        · exact absurd ⟨by omega, by omega, hc.1, hc.2⟩ h
      rw [if_neg h1, if_pos (by simpa using h2)]
  · rw [check_no hc]
    rw [Option.bind_some, if_neg (by omega), total_Of.j0L_eq, if_pos rfl]
end Go.Proofs.Ytkfakciimeiehaa.TotalBase
