/- slices.BinarySearchFunc, at whatever element, with whatever comparing function. -/
import Derived.Test.YtioefecijidgkaaAbs18
set_option linter.unusedVariables false
set_option linter.unusedSimpArgs false
namespace Go.Proofs.YtioefecijidgkaaAbs
open Go Go.RowKit
def bsC (sz : Nat) : C :=
 (.seq (.reg false [⟨some 6, .mv (ki 0), none⟩, ⟨some 7, .mv (kb false), none⟩])
 (.seq (.reg false [⟨some 12, .mv (.t 0), none⟩, ⟨some 13, .len (.t 12), none⟩, ⟨some 8, .mv (.t 13), none⟩])
 (.seq (.reg false [⟨some 14, .mv (.t 8), none⟩, ⟨some 9, .mv (ki 0), none⟩, ⟨some 10, .mv (.t 14), none⟩])
 (.seq (.block 0 (.loop (.seq (.seq (.reg false [⟨some 15, .mv (.t 9), none⟩, ⟨some 16, .mv (.t 10), none⟩, ⟨some 17, .bin .lss (.t 15) (.t 16), none⟩])
 (.cond (.t 17)
 .skip
 (.exit 0)))
 (.block 1 (.seq (.reg false [⟨some 18, .mv (.t 9), none⟩, ⟨some 19, .mv (.t 10), none⟩, ⟨some 20, .bin .add (.t 18) (.t 19), none⟩, ⟨some 21, .cvi .u64 (.t 20), none⟩, ⟨some 22, .bin .shr (.t 21) (.k (.one (.c (.v (.int .u64 1))))), none⟩, ⟨some 23, .cvi .i64 (.t 22), none⟩, ⟨some 11, .mv (.t 23), none⟩])
 (.seq (.reg false [⟨some 24, .mv (.t 2), none⟩, ⟨some 25, .mv (.t 0), none⟩, ⟨some 26, .mv (.t 11), none⟩, ⟨some 27, .ia sz (.t 25) (.t 26), none⟩, ⟨some 28, .ld true sz (.t 27), none⟩, ⟨some 29, .mv (.t 1), none⟩, ⟨some 30, .call (.t 24) [(.t 28), (.t 29)], none⟩, ⟨some 31, .bin .lss (.t 30) (ki 0), none⟩])
 (.cond (.t 31)
 (.reg false [⟨some 32, .mv (.t 11), none⟩, ⟨some 33, .bin .add (.t 32) (ki 1), none⟩, ⟨some 9, .mv (.t 33), none⟩])
 (.reg false [⟨some 34, .mv (.t 11), none⟩, ⟨some 10, .mv (.t 34), none⟩]))))))))
 (.seq (.reg false [⟨some 35, .mv (.t 9), none⟩, ⟨some 36, .mv (.t 9), none⟩, ⟨some 37, .mv (.t 8), none⟩, ⟨some 38, .bin .lss (.t 36) (.t 37), none⟩, ⟨some 39, .mv (.t 38), none⟩, ⟨some 40, .mv (.t 2), some (39, true)⟩, ⟨some 41, .mv (.t 0), some (39, true)⟩, ⟨some 42, .mv (.t 9), some (39, true)⟩, ⟨some 43, .ia sz (.t 41) (.t 42), some (39, true)⟩, ⟨some 44, .ld true sz (.t 43), some (39, true)⟩, ⟨some 45, .mv (.t 1), some (39, true)⟩, ⟨some 46, .call (.t 40) [(.t 44), (.t 45)], some (39, true)⟩, ⟨some 47, .bin .eql (.t 46) (ki 0), some (39, true)⟩, ⟨some 48, .pick (.t 39) (.t 47) (kb false), none⟩, ⟨some 6, .mv (.t 35), none⟩, ⟨some 7, .mv (.t 48), none⟩])
 .ret)))))
/-- The first place from i to j at which lt does not hold, as the halving finds it. -/
def bsF (lt : Nat → Bool) (i j : Nat) : Nat := if i < j then (if lt ((i + j) / 2) then bsF lt ((i + j) / 2 + 1) j else bsF lt i ((i + j) / 2)) else i
termination_by j - i
theorem bsF_le {lt : Nat → Bool} : ∀ (d i j : Nat), j - i ≤ d → i ≤ j → i ≤ bsF lt i j ∧ bsF lt i j ≤ j
  | 0, i, j, hd, h => by
    rw [bsF, if_neg (by omega)]; omega
  | d + 1, i, j, hd, h => by
    rw [bsF]
    by_cases hij : i < j
    · rw [if_pos hij]
      split
      · have := bsF_le (lt := lt) d ((i + j) / 2 + 1) j (by omega) (by omega); omega
      · have := bsF_le (lt := lt) d i ((i + j) / 2) (by omega) (by omega); omega
    · rw [if_neg hij]; omega
theorem bsF_lt {lt : Nat → Bool} : ∀ (d i j : Nat), j - i ≤ d → i ≤ j → (∀ a b, i ≤ a → a ≤ b → b < j → lt b = true → lt a = true) → (∀ a, i ≤ a → a < bsF lt i j → lt a = true) ∧ ∀ a, bsF lt i j ≤ a → a < j → lt a = false
  | 0, i, j, hd, h, hs => by
    rw [bsF, if_neg (by omega)]
    exact ⟨fun a h1 h2 => by omega, fun a h1 h2 => by omega⟩
  | d + 1, i, j, hd, h, hs => by
    by_cases hij : i < j
    · rw [bsF, if_pos hij]
      cases hm : lt ((i + j) / 2) with
      | true =>
        rw [if_pos rfl]
        obtain ⟨h1, h2⟩ := bsF_lt (lt := lt) d ((i + j) / 2 + 1) j (by omega) (by omega) (fun a b ha hb hc => hs a b (by omega) hb hc)
        refine ⟨fun a ha hb => ?_, h2⟩
        by_cases hc : a ≤ (i + j) / 2
        · exact hs a _ ha hc (by omega) hm
        · exact h1 a (by omega) hb
      | false =>
        rw [if_neg (by simp)]
        obtain ⟨h1, h2⟩ := bsF_lt (lt := lt) d i ((i + j) / 2) (by omega) (by omega) (fun a b ha hb hc => hs a b ha hb (by omega))
        refine ⟨h1, fun a ha hb => ?_⟩
        by_cases hc : a < (i + j) / 2
        · exact h2 a ha hc
        · cases hl : lt a with
          | false => rfl
          | true =>
            have := hs ((i + j) / 2) a (by omega) (by omega) hb hl
            rw [hm] at this
            cases this
    · rw [bsF, if_neg hij]
      exact ⟨fun a h1 h2 => by omega, fun a h1 h2 => by omega⟩
theorem mid64 {i j : Nat} (h : i + j < 9223372036854775807) : IntKind.i64.wrap ((IntKind.u64.wrap (IntKind.i64.wrap ((i : Int) + (j : Int)))).fdiv 2) = (((i + j) / 2 : Nat) : Int) := by
  have h1 : IntKind.i64.wrap ((i : Int) + (j : Int)) = ((i + j : Nat) : Int) := by rw [w64 (by omega) (by omega)]; omega
  have h2 : IntKind.u64.wrap (((i + j : Nat) : Int)) = ((i + j : Nat) : Int) := by
    rw [IntKind.wrap_u64]; omega
  rw [h1, h2, w64]
  · rw [Int.fdiv_eq_ediv_of_nonneg _ (by omega)]; omega
  · rw [Int.fdiv_eq_ediv_of_nonneg _ (by omega)]; omega
  · rw [Int.fdiv_eq_ediv_of_nonneg _ (by omega)]; omega
theorem bs_rc {P : Program} {f sz : Nat} (hF : Fun P f 49 (bsC sz) [.t 6, .t 7]) (n : Nat) (hn : n < 4611686018427387904) (c : Nat → Nat → CV) (key : Pt) (fn k : Nat) (caps : Nat → AV) (cmp : Nat → Int) (hkey : ltP 0 key) (hcaps : ∀ i, i < k → ltA 0 (caps i))
    (h : ∀ i, i < n → ∀ M, CallR P M fn ([.agg (cellsUp (c i) 0 sz), key] ++ capsL caps 0 k) (.i (cmp i)) M) (M : List Blk) :
    CallR P M f [.one (.c (.imm sz n c)), key, .one (.fn fn k caps)] (.tup [.i (bsF (fun i => decide (cmp i < 0)) 0 n : Nat), .b (decide (bsF (fun i => decide (cmp i < 0)) 0 n < n) && (cmp (bsF (fun i => decide (cmp i < 0)) 0 n) == 0))]) M := by
  refine callP hF (Nat.le_of_ble_eq_true rfl) (by simp only [go_sem]; exact ⟨hkey, hcaps⟩) (by simp only [go_sem]) ?_ M
  simp only [bsC, go_sem]
  refine V_loop (ι := Nat × Nat) (J := fun p => p.1 ≤ p.2 ∧ p.2 ≤ n ∧ bsF (fun i => decide (cmp i < 0)) p.1 p.2 = bsF (fun i => decide (cmp i < 0)) 0 n) (env := fun p => [(0, .p (.one (.c (.imm sz n c)))), (1, .p key), (2, .p (.one (.fn fn k caps))), (8, .i n), (9, .i p.1), (10, .i p.2)]) (mem := fun _ => []) (μ := fun p => p.2 - p.1) (0, n) ⟨by simp, by simp, rfl⟩ (into0 (by simp only [go_sem]; exact ⟨hkey, hcaps⟩)) ?_
  rintro ⟨i, j⟩ ⟨hij, hjn, hb⟩
  simp only [go_sem] at hij hjn hb ⊢
  rw [bsF] at hb
  refine ⟨fun hlt => ?_, fun hlt => ?_⟩
  · have hlt' : i < j := by omega
    rw [if_pos hlt'] at hb
    rw [mid64 (by omega), Int.toNat_natCast]
    refine ⟨by omega, call0 (h ((i + j) / 2) (by omega)) ?_⟩
    simp only [go_sem]
    refine ⟨fun hc => ⟨((i + j) / 2 + 1, j), ⟨by simp; omega, by simp; omega, ?_⟩, by simp; omega, into0 ?_⟩, fun hc => ⟨(i, (i + j) / 2), ⟨by simp; omega, by simp; omega, ?_⟩, by simp; omega, into0 ?_⟩⟩
    · rw [if_pos (by simpa using hc)] at hb
      exact hb
    · rw [w64s (by omega)]
      simp only [go_sem]
      exact ⟨hkey, hcaps⟩
    · rw [if_neg (by simpa using hc)] at hb
      exact hb
    · simp only [go_sem]
      exact ⟨hkey, hcaps⟩
  · rw [if_neg (by omega)] at hb
    subst hb
    refine ⟨fun hc => by omega, callg0 (fun hc => h (bsF (fun i => decide (cmp i < 0)) 0 n) (by simpa using hc)) ?_⟩
    simp only [go_sem]
end Go.Proofs.YtioefecijidgkaaAbs
