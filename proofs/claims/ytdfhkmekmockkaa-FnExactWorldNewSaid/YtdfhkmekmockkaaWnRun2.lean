/- What WorldNew (69) makes, run alone: its result and the lists that it holds. -/
import Derived.Test.YtdfhkmekmockkaaWnBase
namespace Go.Proofs.Ytdfhkmekmockkaa.Wn
open Go.Proofs.Ytdfhkmekmockkaa.Rx
set_option maxRecDepth 100000
theorem run69E : okRun [872, 6, 1, 874, 2] bls (res .em) (runE (cfg (ar false) orcCE) 300 40 69 [.o (.c (.s 0)), .o (.c .em)] ⟨0, .e⟩) = true := by kernel_rfl
end Go.Proofs.Ytdfhkmekmockkaa.Wn
