/- What WorldNew (69) makes, run alone: its result and the lists that it holds. -/
import Derived.Test.YtdfhkmekmockkaaWnBase
namespace Go.Proofs.Ytdfhkmekmockkaa.Wn
open Go.Proofs.Ytdfhkmekmockkaa.Rx
set_option maxRecDepth 100000
theorem run69F : okRun [873, 7, 1, 875, 3, 2] blsF (res (.os 5)) (runE (cfg (ar false) orcCF) 300 40 69 [.o (.c (.s 0)), .o (.c (.s 1))] ⟨0, .e⟩) = true := by kernel_rfl
end Go.Proofs.Ytdfhkmekmockkaa.Wn
