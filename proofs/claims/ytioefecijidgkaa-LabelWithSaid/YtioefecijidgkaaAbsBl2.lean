/- The abstract machine: a cell of memory told by weaker words. -/
import Derived.Test.YtioefecijidgkaaAbsBld
set_option linter.unusedVariables false
set_option linter.unusedSimpArgs false
namespace Go.Proofs.YtioefecijidgkaaAbs
open Go Go.RowKit
/-- A cell told by weaker words. -/
theorem gh_sub_cell {n m : Nat} {e : Nat → SV} {M : List Blk} {b tb sz' ver' i j : Nat} {l : List (List AV)} {row : List AV} {fb : Bool} (x x' : AV) (hMb : M[b]? = some (.rows tb sz' ver' l fb)) (hrow : l[i]? = some row) (hj : row[j]? = some x) (hs : SubA x x') :
    Gh n m ⟨e, M⟩ ⟨e, M.set b (.rows tb sz' ver' (l.set i (fillL row j [x'])) fb)⟩ := by
  rintro I0 σ0 M0 w0 a w hm ⟨I, σ, hev, he, h1, h2⟩
  obtain ⟨p, hp, m1, m2, m3, m4, m5, m6⟩ := mem_rows hev.mem hMb
  have hi : i < l.length := getElem?_lt hrow
  have hjs : j < sz' := by rw [← m5 i row hrow]; exact getElem?_lt hj
  obtain ⟨g, hg⟩ : ∃ g, p.blk = some g := by
    cases e : p.blk with
    | none => rw [e] at m6; simp only at m6; omega
    | some g => exact ⟨g, rfl⟩
  rw [hg] at m6
  obtain ⟨cs, hh, hs', m7, hcs⟩ := m6
  obtain ⟨v, hv, hvr⟩ := hcs i row hrow j _ hj
  have := evo_set1 hev.mem hMb hrow hjs hp hg (hs I σ v hvr)
  rw [setCell_eq_setRow _ _ _ _ _ _ _ hh, show cs.setIfInBounds (i * sz' + j) v = cs from ?_, setRow_self hh] at this
  · exact ⟨I, σ, hev.trans this, he, h1, h2⟩
  · apply Array.ext_getElem?
    intro k
    rw [Array.getElem?_setIfInBounds]
    split
    · rename_i e
      subst e
      rw [if_pos (Array.getElem?_eq_some_iff.1 hv).1, hv]
    · rfl
end Go.Proofs.YtioefecijidgkaaAbs
