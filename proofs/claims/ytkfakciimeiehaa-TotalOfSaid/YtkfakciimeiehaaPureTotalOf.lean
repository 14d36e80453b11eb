/- For every list of samples and every kind the program's total is the document's (To1): the plain law. -/
import Derived.Test.YtkfakciimeiehaaTotalRef
import Derived.Test.YtkfakciimeiehaaOpens
namespace Go.Proofs.Ytkfakciimeiehaa.Pure
open Go Go.RowKit Go.Proofs.Ytkfakciimeiehaa.PTotal Go.Proofs.YtkfakciimeiehaaW.PrintWords Go.Proofs.YtkfakciimeiehaaW.PrintLast Go.Proofs.YtkfakciimeiehaaW.PrintMore Go.Proofs.YtkfakciimeiehaaOpens Go.Proofs.YtkfakciimeiehaaLim Go.Proofs.Ytkfakciimeiehaa.TotalBase

theorem TotalOf : ∀ (a0 : Int) (l1 : List S84), WInt .i64 a0 → (WSlice 16 (fun x : S84 => (WPair (WInt .i64) (WInt .i64)) (x.f0, x.f1))) l1 → ∃ k, windroselaw13_TotalOf.f k a0 l1 = some true := by
  intro kind l _ hw
  have hb : l.length ≤ 9223372036854775807 := by have := hw.1; omega
  refine rounds_of_lim (show windroselaw13_TotalOf.fL kind l = some true from ?_)
  obtain ⟨r, h1, h2⟩ := of_same kind l hb
  rw [windroselaw13_TotalOf.fL_eq, h1, h2, awake]
  simp
end Go.Proofs.Ytkfakciimeiehaa.Pure
