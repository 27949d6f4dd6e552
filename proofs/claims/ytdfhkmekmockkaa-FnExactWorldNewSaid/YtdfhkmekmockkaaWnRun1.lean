/- What WorldNew (68) makes, run alone: its result and the lists that it holds. -/
import Derived.Test.YtdfhkmekmockkaaWnBase
namespace Go.Proofs.Ytdfhkmekmockkaa.Wn
open Go.Proofs.Ytdfhkmekmockkaa.Rx
set_option maxRecDepth 100000
theorem run68E : okRun [245, 10, 12, 247, 1] bls (res .em) (runE (cfg (ar false) orcCE) 300 40 68 [.o (.c (.s 0)), .o (.c .em)] ⟨0, .e⟩) = true := by kernel_rfl
end Go.Proofs.Ytdfhkmekmockkaa.Wn
