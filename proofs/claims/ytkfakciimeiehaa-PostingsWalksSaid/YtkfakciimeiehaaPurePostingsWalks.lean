/- What any steps of a walker tell, over any list (Ps3): the plain law. -/
import Derived.Test.YtkfakciimeiehaaPPosth2
import Derived.Test.YtkfakciimeiehaaOpens
namespace Go.Proofs.Ytkfakciimeiehaa.Pure
open Go Go.RowKit Go.Proofs.Ytkfakciimeiehaa.PPost Go.Proofs.YtkfakciimeiehaaW.PrintWords Go.Proofs.YtkfakciimeiehaaW.PrintLast Go.Proofs.YtkfakciimeiehaaW.PrintMore Go.Proofs.YtkfakciimeiehaaOpens Go.Proofs.YtkfakciimeiehaaLim Go.Proofs.YtkfakciimeiehaaAid Go.Proofs.Ytkfakciimeiehaa.PostBase

theorem PostingsWalks : ∀ (l0 : List Int) (l1 : List S37), (WSlice 8 (WInt .i64)) l0 → (WSlice 16 (fun x : S37 => (WPair (WInt .i64) (WInt .i64)) (x.f0, x.f1))) l1 → ∃ k, windroselaw19_PostingsWalks.f k l0 l1 = some true := by
  intro l s _ _
  exact rounds_of_lim awake19
end Go.Proofs.Ytkfakciimeiehaa.Pure
