/- How the arguments of FnExactShaStart read as the printed kinds, and the pure statement. -/
import Derived.Test.YtgikbhkbgfppoaaShaSWalk
import Derived.Test.YtgikbhkbgfppoaaRd
import Derived.KernelRfl
namespace Go.Proofs.Ytgikbhkbgfppoaa.ShaS
open Go.RowKit Go.Proofs.YtgikbhkbgfppoaaW.PrintWords Go.Proofs.YtgikbhkbgfppoaaW.PrintLast Go.Proofs.YtgikbhkbgfppoaaW.PrintMore
set_option linter.unusedVariables false
set_option maxRecDepth 100000

def Said : Prop := laws_FnExactShaStart.f  = some true
end Go.Proofs.Ytgikbhkbgfppoaa.ShaS
