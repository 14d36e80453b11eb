/- Any list's data, and that they are read back (Ps2, Ps4): the plain law. -/
import Derived.Test.YtkfakciimeiehaaCodeDec
import Derived.Test.YtkfakciimeiehaaLCode6
import Derived.Test.YtkfakciimeiehaaOpens
namespace Go.Proofs.Ytkfakciimeiehaa.Pure
open Go Go.RowKit Go.Proofs.Ytkfakciimeiehaa.PCode Go.Proofs.YtkfakciimeiehaaW.PrintWords Go.Proofs.YtkfakciimeiehaaW.PrintLast Go.Proofs.YtkfakciimeiehaaW.PrintMore Go.Proofs.YtkfakciimeiehaaOpens Go.Proofs.YtkfakciimeiehaaLim Go.Proofs.YtkfakciimeiehaaAid Go.Proofs.Ytkfakciimeiehaa.PostBase Go.Proofs.Ytkfakciimeiehaa.CodeBase

theorem PostingsCodes : ∀ (l0 : List Int), (WSlice 8 (WInt .i64)) l0 → ∃ k, windroselaw19_PostingsCodes.f k l0 = some true := by
  intro l _
  refine rounds_of_lim (show windroselaw19_PostingsCodes.fL l = some true from ?_)
  rw [windroselaw19_PostingsCodes.fL_eq]
  by_cases h : (l.length : Int) > 600
  · rw [if_pos h, CodeBase.awake19]
    rfl
  rw [if_neg h, encode19, Option.bind_some, CodeBase.may19 l (by omega), Option.bind_some]
  by_cases hs : soundB l = true
  · have hl := encP_len l.length (-1) l (Nat.le_refl _)
    have ht : Tells ((l.length : Int) :: encP (-1) l) [] l := ⟨hs, rfl, rfl⟩
    rw [if_pos hs, if_pos hs, decode19 _ _ (by simp only [List.length_cons]; omega), (tells_read ht).1, Option.bind_some, if_pos rfl, data19 l hs, Option.bind_some, same_nil _ _ _ (by simp only [List.length_cons]; omega), Option.bind_some, if_pos (by simp), if_pos rfl, CodeBase.ints l l (by omega), Option.bind_some, if_pos (by simp), CodeBase.awake19]
    rfl
  · rw [if_neg hs, if_neg hs, if_pos rfl, same_nil _ _ _ (by simp), Option.bind_some, if_pos (by simp), CodeBase.awake19]
    rfl
end Go.Proofs.Ytkfakciimeiehaa.Pure
