/- The abstract machine: a call of the library's, handed plain values, whose contract the kit has. -/
import Derived.Test.YtioefecijidgkaaAbsStr
import Derived.Deep.Draws
set_option linter.unusedVariables false
set_option linter.unusedSimpArgs false
namespace Go.Proofs.YtioefecijidgkaaAbs
open Go Go.RowKit
theorem Mem.sameHeap {I : Im} {σ : List Plc} {M : List Blk} {w w' : World} (h : Mem I σ M w) (he : w'.heap = w.heap) : Mem I σ M w' :=
  ⟨h.len, fun b x p hx hp => RelB_mono (ExtI.refl _) (ExtP.refl _) (fun g _ _ => by rw [he]) (h.blk b x p hx hp), h.inj, h.ap, fun a x hI => (cell_same (by rw [he])).trans (h.imm a x hI)⟩
theorem Evo.drewN {I : Im} {σ : List Plc} {M : List Blk} {w : World} (h : Mem I σ M w) (n : Nat) : Evo I σ M w I σ M (w.drewN n) :=
  ⟨ExtI.refl _, ExtP.refl _, h.sameHeap rfl, ⟨rfl, rfl, rfl, Nat.le_refl _, fun _ _ _ => rfl⟩, fun g hg => .inl hg, fun a x hx => .inl hx⟩
theorem enters_fun {P : Program} {f : Nat} {fn : Func} (h : P.funcs[f]? = some fn) (h1 : (fn.name == "runtime.NumGoroutine") = false) (h2 : fn.body.isSome = true) : Enters P f := ⟨fn, h, h1, h2⟩
def plainPs (xs : List Value) : List Pt := xs.map fun x => .one (.c (.v x))
theorem vals_of {I : Im} {σ : List Plc} {xs : List Value} {vals : Array Value} (hl : vals.size = (plainPs xs).length) (hr : ∀ (k : Nat) (q : Pt) (x : Value), (plainPs xs)[k]? = some q → vals[k]? = some x → RelP I σ q x) : vals = xs.toArray := by
  apply Array.ext
  · simpa [plainPs] using hl
  · intro i h1 h2
    have h3 : i < xs.length := by simpa using h2
    have := hr i (.one (.c (.v xs[i]))) vals[i] (by simp [plainPs, h3]) (Array.getElem?_eq_getElem h1)
    obtain ⟨h4, _⟩ := this
    simpa using h4
/-- The world is as it was, but for the count of draws. -/
theorem callR_lib {P : Program} {f : Nat} {xs : List Value} {r : SV} {v : Value} (hE : Enters P f) (hv : ∀ (I : Im) (σ : List Plc), RelS I σ r v)
    (h : ∀ (I : Im) (w : World), GI P I → (∀ a x, I a = some x → w.cell? a = some x) → Calls P f xs.toArray w fun e w' => e = .returned v ∧ ∃ n, w' = w.drewN n) (M : List Blk) : CallR P M f (plainPs xs) r M := by
  intro I σ w vals hG hm hvl hvr
  obtain rfl := vals_of hvl hvr
  refine .inl ⟨hE, (h I w hG hm.imm).mono ?_⟩
  rintro e w' ⟨rfl, n, rfl⟩
  exact ⟨v, rfl, I, σ, hv I σ, Evo.drewN hm n⟩
end Go.Proofs.YtioefecijidgkaaAbs
