/- The theorem of sets (Ps4): the plain law. -/
import Derived.Test.YtkfakciimeiehaaPPosth3
import Derived.Test.YtkfakciimeiehaaOpens
namespace Go.Proofs.Ytkfakciimeiehaa.Pure
open Go Go.RowKit Go.Proofs.Ytkfakciimeiehaa.PPost Go.Proofs.YtkfakciimeiehaaW.PrintWords Go.Proofs.YtkfakciimeiehaaW.PrintLast Go.Proofs.YtkfakciimeiehaaW.PrintMore Go.Proofs.YtkfakciimeiehaaOpens Go.Proofs.YtkfakciimeiehaaLim Go.Proofs.YtkfakciimeiehaaAid Go.Proofs.Ytkfakciimeiehaa.PostBase

theorem PostingsLaws : ∀ (l0 : List Int) (l1 : List Int) (l2 : List Int), (WSlice 8 (WInt .i64)) l0 → (WSlice 8 (WInt .i64)) l1 → (WSlice 8 (WInt .i64)) l2 → ∃ k, windroselaw19_PostingsLaws.f k l0 l1 l2 = some true := by
  intro _ _ _ _ _ _
  exact rounds_of_lim awake19
end Go.Proofs.Ytkfakciimeiehaa.Pure
