/- Which list any data are, or that they are none's (Ps2): the plain law. -/
import Derived.Test.YtkfakciimeiehaaCodeDec
import Derived.Test.YtkfakciimeiehaaLCode8
import Derived.Test.YtkfakciimeiehaaOpens
namespace Go.Proofs.Ytkfakciimeiehaa.Pure
open Go Go.RowKit Go.Proofs.Ytkfakciimeiehaa.PCode Go.Proofs.YtkfakciimeiehaaW.PrintWords Go.Proofs.YtkfakciimeiehaaW.PrintLast Go.Proofs.YtkfakciimeiehaaW.PrintMore Go.Proofs.YtkfakciimeiehaaOpens Go.Proofs.YtkfakciimeiehaaLim Go.Proofs.YtkfakciimeiehaaAid Go.Proofs.Ytkfakciimeiehaa.PostBase Go.Proofs.Ytkfakciimeiehaa.CodeBase

theorem decodes_out (nums : List Int) (tx : List ByteArray) : windroselaw19_PostingsDecodes.j0L true nums tx = some true := by
  rw [windroselaw19_PostingsDecodes.j0L_eq, if_pos rfl, CodeBase.awake19]
  rfl
theorem PostingsDecodes : ∀ (l0_0 : List Int) (l0_1 : List ByteArray), (WPair (WSlice 8 (WInt .i64)) (WSlice 16 WStr)) (l0_0, l0_1) → ∃ k, windroselaw19_PostingsDecodes.f k l0_0 l0_1 = some true := by
  intro nums tx _
  refine rounds_of_lim (show windroselaw19_PostingsDecodes.fL nums tx = some true from ?_)
  rw [windroselaw19_PostingsDecodes.fL_eq]
  by_cases h : (nums.length : Int) > 300
  · rw [if_pos h]
    exact decodes_out nums tx
  rw [if_neg h]
  by_cases h2 : (tx.length : Int) > 10
  · rw [decide_eq_true h2]
    exact decodes_out nums tx
  rw [decide_eq_false h2, windroselaw19_PostingsDecodes.j0L_eq, if_neg (by simp), decode19 nums tx (by omega), Option.bind_some, decode_ref nums tx (by omega), Option.bind_some]
  have yes : ∀ x, Tells nums tx x → (if (readR nums tx).2 = true then (if (readP nums tx).2 = 0 then ((windroseref02_Ints.fL (readP nums tx).1 (readR nums tx).1).bind fun t288 => (if t288 = true then ((windroselaw19_awake.fL).bind fun t289 => (some t289)) else (some false))) else (some false)) else (if (readP nums tx).2 = 2 then (if ((readP nums tx).1.length : Int) = 0 then ((windroselaw19_awake.fL).bind fun t290 => (some t290)) else (some false)) else (some false))) = some true := by
    intro x hx
    obtain ⟨g1, g2⟩ := tells_read hx
    have hs := hx.1
    simp only [soundB, Bool.and_eq_true, decide_eq_true_eq] at hs
    rw [g1, g2, if_pos rfl, if_pos rfl, CodeBase.ints x x (by omega), Option.bind_some, if_pos (by simp), CodeBase.awake19]
    rfl
  rcases read_ref nums tx with e | ⟨x, hx⟩
  · rcases read_prog nums tx with e2 | ⟨x, hx⟩
    · rw [e, e2, if_neg (by simp), if_pos rfl, if_pos (by simp), CodeBase.awake19]
      rfl
    · exact yes x hx
  · exact yes x hx
end Go.Proofs.Ytkfakciimeiehaa.Pure
