/- How the arguments of FnExactClientNew read as the printed kinds, and the pure statement. -/
import Derived.Test.YtdfhkmekmockkaaClientNewWalk
import Derived.Test.YtdfhkmekmockkaaRd
import Derived.KernelRfl
namespace Go.Proofs.Ytdfhkmekmockkaa.Cn
open Go.RowKit Go.Proofs.YtdfhkmekmockkaaW.PrintWords Go.Proofs.YtdfhkmekmockkaaW.PrintLast Go.Proofs.YtdfhkmekmockkaaW.PrintMore
set_option linter.unusedVariables false
set_option maxRecDepth 100000
theorem rd3 : Rd.Reads Try.prog 3 (Kd.int .i64) (fun v => (Lit.int .i64 v).wf = true) := Rd.reads_int Try.underlying3
def Said : Prop := ∀ (a0 : Int) (a1 : Int) (a2 : Int), ((Lit.int .i64 a0).wf = true) → ((Lit.int .i64 a1).wf = true) → ((Lit.int .i64 a2).wf = true) → laws_FnExactClientNew.f a0 a1 a2 = some true
end Go.Proofs.Ytdfhkmekmockkaa.Cn
