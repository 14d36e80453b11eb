/- The library's calls that label makes: strings.Cut, strings.Compare, math/bits.Len: what they come to, out of the kit's contracts. -/
import Derived.Test.YtioefecijidgkaaAbsExt
import Derived.Test.YtioefecijidgkaaShelf
import Derived.Test.YtioefecijidgkaaLbA
set_option linter.unusedVariables false
set_option linter.unusedSimpArgs false
namespace Go.Proofs.Ytioefecijidgkaa.A
open Go Go.Proofs Go.Proofs.YtioefecijidgkaaAbs
def cutS (s sep : ByteArray) : ByteArray × ByteArray × Bool := (mkS (Lib.cut (bs s) (bs sep)).1, mkS (Lib.cut (bs s) (bs sep)).2.1, (Lib.cut (bs s) (bs sep)).2.2)
theorem Cut_rc (s sep : ByteArray) (hs : s.size < 4294967281) (M : List Blk) : CallR Try.prog M 47 [.s s, .s sep] (.tup [.s (cutS s sep).1, .s (cutS s sep).2.1, .b (cutS s sep).2.2]) M := by
  refine callR_lib (xs := [.string s, .string sep]) (v := .tuple #[.string (cutS s sep).1, .string (cutS s sep).2.1, .bool (cutS s sep).2.2]) (enters_fun Try.func47 (by kernel_rfl) rfl) (fun I σ => ?_) (fun I w hG hI => ?_) M
  · refine ⟨_, rfl, rfl, fun k q x hq hx => ?_⟩
    match k, hq, hx with
    | 0, hq, hx => injection hq with hq; injection hx with hx; subst hq; subst hx; exact ⟨rfl, rfl⟩
    | 1, hq, hx => injection hq with hq; injection hx with hx; subst hq; subst hx; exact ⟨rfl, rfl⟩
    | 2, hq, hx => injection hq with hq; injection hx with hx; subst hq; subst hx; exact ⟨rfl, rfl⟩
  · obtain ⟨m, hm⟩ := hG 0 (by kernel_rfl)
    exact Try.strings_Cut s sep m w hs (hI _ _ hm)
def cmpS (a b : ByteArray) : Int := if sLt a b then -1 else if sLt b a then 1 else 0
theorem compare_lt : ∀ a b : List UInt8, Lib.compareBytes a b = if a < b then -1 else if b < a then 1 else 0
  | [], [] => by simp [Lib.compareBytes, List.lt_irrefl]
  | [], b :: y => by simp [Lib.compareBytes]
  | a :: x, [] => by simp [Lib.compareBytes]
  | a :: x, b :: y => by
    rw [Lib.compareBytes, compare_lt x y]
    simp only [List.cons_lt_cons_iff]
    by_cases h1 : a < b
    · simp [h1]
    · by_cases h2 : b < a
      · have : ¬ a = b := fun e => by subst e; exact h1 h2
        have h3 : ¬ b = a := fun e => this e.symm
        simp [h1, h2, this]
      · have : a = b := UInt8.le_antisymm (UInt8.not_lt.1 h2) (UInt8.not_lt.1 h1)
        subst this
        simp [h1]
theorem Compare_rc (a b : ByteArray) (M : List Blk) : CallR Try.prog M 51 [.s a, .s b] (.i (cmpS a b)) M := by
  refine callR_lib (r := .i (cmpS a b)) (xs := [.string a, .string b]) (v := .int .i64 (cmpS a b)) (enters_fun Try.func51 (by kernel_rfl) rfl) (fun I σ => ⟨rfl, rfl⟩) (fun I w hG hI => ?_) M
  refine (Try.strings_Compare a b w).mono ?_
  rintro e w' ⟨rfl, rfl⟩
  refine ⟨?_, 0, rfl⟩
  have : Lib.compareBytes a.data.toList b.data.toList = cmpS a b := by
    rw [compare_lt]
    simp only [cmpS, sLt, decide_eq_true_eq]
    rfl
  rw [this]
theorem BitsLen_rc (x : Int) (h0 : 0 ≤ x) (h1 : x ≤ 18446744073709551615) (M : List Blk) : CallR Try.prog M 84 [.one (.c (.v (.int .u64 x)))] (.i (Lib.bitLen x.toNat : Nat)) M := by
  refine callR_lib (r := .i (Lib.bitLen x.toNat : Nat)) (xs := [.int .u64 x]) (v := .int .i64 (Lib.bitLen x.toNat : Nat)) (enters_fun Try.func84 (by kernel_rfl) rfl) (fun I σ => ⟨rfl, rfl⟩) (fun I w hG hI => ?_) M
  refine (Try.bits_Len x w h0 h1).mono ?_
  rintro e w' ⟨rfl, rfl⟩
  exact ⟨rfl, 0, rfl⟩
end Go.Proofs.Ytioefecijidgkaa.A
