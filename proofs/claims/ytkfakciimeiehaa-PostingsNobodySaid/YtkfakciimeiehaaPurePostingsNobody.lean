/- Nobody's walker has no numbers (R1): the plain law. -/
import Derived.Test.YtkfakciimeiehaaPPosth1
import Derived.Test.YtkfakciimeiehaaOpens
namespace Go.Proofs.Ytkfakciimeiehaa.Pure
open Go Go.RowKit Go.Proofs.Ytkfakciimeiehaa.PPost Go.Proofs.YtkfakciimeiehaaW.PrintWords Go.Proofs.YtkfakciimeiehaaW.PrintLast Go.Proofs.YtkfakciimeiehaaW.PrintMore Go.Proofs.YtkfakciimeiehaaOpens Go.Proofs.YtkfakciimeiehaaLim Go.Proofs.YtkfakciimeiehaaAid Go.Proofs.Ytkfakciimeiehaa.PostBase

theorem PostingsNobody : ∀ (a0 : Int), WInt .i64 a0 → ∃ k, windroselaw19_PostingsNobody.f k a0 = some true := by
  intro n _
  exact rounds_of_lim awake19
end Go.Proofs.Ytkfakciimeiehaa.Pure
