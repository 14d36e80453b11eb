/- The theorem of parts (To3): any total but a rate, of any samples, is that of two parts of them, folded: the plain law. -/
import Derived.Test.YtkfakciimeiehaaTotalRef
import Derived.Test.YtkfakciimeiehaaOpens
namespace Go.Proofs.Ytkfakciimeiehaa.Pure
open Go Go.RowKit Go.Proofs.Ytkfakciimeiehaa.PTotal Go.Proofs.YtkfakciimeiehaaW.PrintWords Go.Proofs.YtkfakciimeiehaaW.PrintLast Go.Proofs.YtkfakciimeiehaaW.PrintMore Go.Proofs.YtkfakciimeiehaaOpens Go.Proofs.YtkfakciimeiehaaLim Go.Proofs.YtkfakciimeiehaaAid Go.Proofs.Ytkfakciimeiehaa.TotalBase

theorem good_some : ∀ {t : List S84} {p : Option Int}, GoodS p t → GoodS none t
  | [], _, _ => trivial
  | x :: t, _, h => ⟨h.1, h.2.1, h.2.2.1, h.2.2.2.1, fun q hq => by simp at hq, h.2.2.2.2.2⟩
theorem good_take : ∀ (k : Nat) {t : List S84} {p : Option Int}, GoodS p t → GoodS p (t.take k)
  | 0, _, _, _ => by simp [GoodS]
  | _ + 1, [], _, _ => by simp [GoodS]
  | k + 1, x :: t, _, h => ⟨h.1, h.2.1, h.2.2.1, h.2.2.2.1, h.2.2.2.2.1, good_take k h.2.2.2.2.2⟩
theorem good_drop : ∀ (k : Nat) {t : List S84} {p : Option Int}, GoodS p t → GoodS none (t.drop k)
  | 0, _, _, h => good_some h
  | _ + 1, [], _, _ => by simp [GoodS]
  | k + 1, x :: t, _, h => good_drop k h.2.2.2.2.2

theorem two_assoc (kind a b c : Int) : Two kind (Two kind a b) c = Two kind a (Two kind b c) := by
  unfold Two
  by_cases h1 : kind = 1
  · simp only [if_pos h1]; omega
  · simp only [if_neg h1]
    by_cases h2 : kind = 2
    · simp only [if_pos h2]; omega
    · simp only [if_neg h2]; omega
theorem foldl_two (kind : Int) : ∀ (t : List Int) (a b : Int), t.foldl (Two kind) (Two kind a b) = Two kind a (t.foldl (Two kind) b)
  | [], _, _ => rfl
  | v :: t, a, b => by
    simp only [List.foldl_cons]
    rw [two_assoc, foldl_two kind t a (Two kind b v)]
theorem run_append (kind : Int) {a b : List Int} (ha : a ≠ []) (hb : b ≠ []) : Run kind (a ++ b) = Two kind (Run kind a) (Run kind b) := by
  cases a with
  | nil => exact absurd rfl ha
  | cons x a =>
    cases b with
    | nil => exact absurd rfl hb
    | cons y b => simp only [Run, List.cons_append, List.foldl_append, List.foldl_cons]; rw [foldl_two]
theorem run_bound {kind : Int} {l : List S84} (hl : l.length ≤ 64) (hg : GoodS none l) : -9007199254740992 ≤ Run kind (ValsS l) ∧ Run kind (ValsS l) ≤ 9007199254740992 := by
  cases l with
  | nil => simp [ValsS, Run]
  | cons x t =>
    have hv := good_vals hg
    have hx := hv x.f1 (by simp [ValsS])
    have := foldl_bound kind 1099511627776 (by omega) (ValsS t) x.f1 1 (fun v hv' => hv v (by simp [ValsS] at hv' ⊢; exact Or.inr hv')) (by omega) (by omega) (by omega)
    have e : (ValsS t).length = t.length := by simp [ValsS]
    simp only [List.length_cons] at hl
    simp only [ValsS, List.map_cons, Run] at this ⊢
    simp only [List.length_map] at this
    constructor <;> omega

theorem parts_out (kind : Int) (l : List S84) (c : Int) : windroselaw13_TotalParts.j0L kind l c true = some true := by
  rw [windroselaw13_TotalParts.j0L_eq, if_pos rfl, awake]
  rfl

theorem TotalParts : ∀ (a0 : Int) (l1 : List S84) (a2 : Int), WInt .i64 a0 → (WSlice 16 (fun x : S84 => (WPair (WInt .i64) (WInt .i64)) (x.f0, x.f1))) l1 → WInt .u8 a2 → ∃ k, windroselaw13_TotalParts.f k a0 l1 a2 = some true := by
  intro kind l c _ hw hc
  have hb : l.length ≤ 9223372036854775807 := by have := hw.1; omega
  have hc' : 0 ≤ c ∧ c ≤ 255 := bounds_u8 hc
  refine rounds_of_lim (show windroselaw13_TotalParts.fL kind l c = some true from ?_)
  rw [windroselaw13_TotalParts.fL_eq]
  have out := parts_out kind l c
  by_cases h64 : (l.length : Int) > 64
  · rw [if_pos h64]; exact out
  rw [if_neg h64]
  by_cases hgn : ¬ GoodS none l
  · have hg := hgn
    rw [may_no hb (fun h => hg h.2)]
    rw [Option.bind_some, if_neg (by simp)]; exact out
  have hg : GoodS none l := Classical.not_not.1 hgn
  have hl : l.length ≤ 64 := by omega
  rw [may_ok hl hg]
  rw [Option.bind_some, if_pos rfl]
  by_cases h1 : kind < 1
  · rw [if_pos h1]; exact out
  rw [if_neg h1]
  by_cases h4 : kind > 4
  · rw [decide_eq_true h4]; exact out
  rw [decide_eq_false h4, windroselaw13_TotalParts.j0L_eq, if_neg (by simp), w64 (x := c) (by omega) (by omega), w64 (x := (l.length : Int) + 1) (by omega) (by omega)]
  generalize hk : Int.tmod c ((l.length : Int) + 1) = k
  have hk0 : 0 ≤ k := by rw [← hk]; exact Int.tmod_nonneg _ hc'.1
  have hk1 : k ≤ l.length := by
    have : Int.tmod c ((l.length : Int) + 1) < (l.length : Int) + 1 := Int.tmod_lt_of_pos _ (by omega)
    omega
  rw [if_neg (by omega), if_pos hk0, if_pos hk1]
  obtain ⟨m, rfl⟩ := Int.eq_ofNat_of_zero_le hk0
  rw [Int.toNat_natCast]
  have hm : m ≤ l.length := by omega
  have hta : (l.take m).length ≤ 64 := by rw [List.length_take]; omega
  have htb : (l.drop m).length ≤ 64 := by rw [List.length_drop]; omega
  have ga := good_take m hg
  have gb := good_drop m hg
  by_cases k4 : kind = 4
  · subst k4
    rw [of_4 hta ga, of_4 htb gb, of_4 hl hg]
    simp only [Option.bind_some, if_true, Bool.not_true]
    rw [windroselaw13_TotalParts.j1L_eq, if_neg (by simp), List.length_take, List.length_drop, fold_ok (by omega) (by omega) (by omega) (by omega) (by omega) (by omega)]
    simp only [Option.bind_some, if_true]
    rw [if_pos (by omega), awake]
    rfl
  have a3 := of_123 (kind := kind) (by omega) (by omega) hta ga
  have b3 := of_123 (kind := kind) (by omega) (by omega) htb gb
  have l3 := of_123 (kind := kind) (by omega) (by omega) hl hg
  rw [a3, b3, l3, Option.bind_some, Option.bind_some, Option.bind_some]
  dsimp only
  have ba := run_bound (kind := kind) hta ga
  have bb := run_bound (kind := kind) htb gb
  have split : ValsS l = ValsS (l.take m) ++ ValsS (l.drop m) := by
    rw [← List.take_append_drop m l]; simp [ValsS]
  have len_t : (l.take m).length = m := by rw [List.length_take]; omega
  have len_d : (l.drop m).length = l.length - m := List.length_drop
  by_cases pa : kind = 1 ∨ 0 < (l.take m).length
  · rw [decide_eq_true pa, if_pos rfl]
    by_cases pb : kind = 1 ∨ 0 < (l.drop m).length
    · rw [decide_eq_true pb, Bool.not_true, windroselaw13_TotalParts.j1L_eq, if_neg (by simp), fold_ok (by omega) (by omega) ba.1 ba.2 bb.1 bb.2]
      rw [Option.bind_some]
      dsimp only
      rw [if_pos (by rw [decide_eq_true_eq]; omega), if_pos rfl, if_neg k4, awake, if_pos]
      · rfl
      · rw [split]
        by_cases ea : ValsS (l.take m) = []
        · rw [ea, List.nil_append]
          have : m = 0 := by
            have e0 : (ValsS (l.take m)).length = (l.take m).length := by unfold ValsS; rw [List.length_map]
            rw [ea, len_t] at e0
            exact e0.symm
          have k1 : kind = 1 := by omega
          simp [Run, Two, k1]
        · by_cases eb : ValsS (l.drop m) = []
          · rw [eb, List.append_nil]
            have : l.length - m = 0 := by
              have e0 : (ValsS (l.drop m)).length = (l.drop m).length := by unfold ValsS; rw [List.length_map]
              rw [eb, len_d] at e0
              exact e0.symm
            have k1 : kind = 1 := by omega
            simp [Run, Two, k1]
          · exact run_append kind ea eb
    · rw [decide_eq_false pb, Bool.not_false, windroselaw13_TotalParts.j1L_eq, if_pos rfl, if_pos, if_pos rfl, if_pos, if_neg (by simp), awake]
      · rfl
      · have : l.length ≤ m := by omega
        rw [List.take_of_length_le this]
      · simp
        omega
  · rw [decide_eq_false pa, if_neg (by simp), windroselaw13_TotalParts.j1L_eq, if_pos rfl, if_pos, if_neg (by simp)]
    · by_cases pb : kind = 1 ∨ 0 < (l.drop m).length
      · rw [decide_eq_true pb, if_pos rfl, if_pos, awake]
        · rfl
        · have : m = 0 := by omega
          subst this
          rfl
      · rw [decide_eq_false pb, if_neg (by simp), awake]
        rfl
    · simp
      omega
end Go.Proofs.Ytkfakciimeiehaa.Pure
