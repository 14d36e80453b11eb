/- The abstract machine: small helps for walks. -/
import Derived.Test.YtioefecijidgkaaAbs17
set_option linter.unusedVariables false
set_option linter.unusedSimpArgs false
namespace Go.Proofs.YtioefecijidgkaaAbs
open Go Go.RowKit
attribute [go_sem] Bool.xor_false Bool.false_xor Bool.true_xor Bool.xor_true Bool.xor_self Int.cast_ofNat_Int
attribute [go_sem] eqCells eq1
@[go_sem] theorem bcond_1 (x y : Bool) : bcond true x y = x := rfl
@[go_sem] theorem bcond_0 (x y : Bool) : bcond false x y = y := rfl
theorem w64 {n : Int} (h0 : -9223372036854775808 ≤ n) (h1 : n ≤ 9223372036854775807) : IntKind.i64.wrap n = n := by rw [IntKind.wrap_i64]; omega
theorem w64s {k : Nat} (h1 : k < 9223372036854775807) : IntKind.i64.wrap ((k : Int) + 1) = ((k + 1 : Nat) : Int) := by rw [w64 (by omega) (by omega)]; rfl
theorem w64p {k : Nat} (h0 : 0 < k) (h1 : k < 9223372036854775807) : IntKind.i64.wrap ((k : Int) - 1) = ((k - 1 : Nat) : Int) := by rw [w64 (by omega) (by omega)]; omega
theorem into0 {s : St} {l : List (Nat × SV)} (h : ∀ p ∈ l, leS (s.env p.1) p.2 ∧ ltS 0 p.2) : Into 0 s l [] := ⟨s.M, rfl, Nat.le_refl _, h, fun x hx => by cases hx⟩
end Go.Proofs.YtioefecijidgkaaAbs
