/- The pure statement of FnExactShaStart: over numbers and lists alone. -/
import Derived.Test.YtgikbhkbgfppoaaOpnFnExactShaStart
namespace Go.Proofs.Ytgikbhkbgfppoaa.ShaS
open Go.RowKit Go.Proofs.YtgikbhkbgfppoaaW.PrintWords Go.Proofs.YtgikbhkbgfppoaaW.PrintLast Go.Proofs.YtgikbhkbgfppoaaW.PrintMore

theorem said : Said := by
  rfl

end Go.Proofs.Ytgikbhkbgfppoaa.ShaS
