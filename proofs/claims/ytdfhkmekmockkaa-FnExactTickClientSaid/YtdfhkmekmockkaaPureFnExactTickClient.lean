/- The pure statement of FnExactTickClient: over numbers and lists alone. -/
import Derived.Test.YtdfhkmekmockkaaOpnFnExactTickClient
namespace Go.Proofs.Ytdfhkmekmockkaa.Tk
open Go.RowKit Go.Proofs.YtdfhkmekmockkaaW.PrintWords Go.Proofs.YtdfhkmekmockkaaW.PrintLast Go.Proofs.YtdfhkmekmockkaaW.PrintMore

theorem said : Said := by
  unfold Said
  intros
  rfl

end Go.Proofs.Ytdfhkmekmockkaa.Tk
