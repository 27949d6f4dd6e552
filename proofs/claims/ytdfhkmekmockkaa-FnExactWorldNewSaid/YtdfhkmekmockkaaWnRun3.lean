/- What WorldNew (68) makes, run alone: its result and the lists that it holds. -/
import Derived.Test.YtdfhkmekmockkaaWnBase
namespace Go.Proofs.Ytdfhkmekmockkaa.Wn
open Go.Proofs.Ytdfhkmekmockkaa.Rx
set_option maxRecDepth 100000
theorem run68F : okRun [246, 11, 13, 248, 2, 1] blsF (res (.os 5)) (runE (cfg (ar false) orcCF) 300 40 68 [.o (.c (.s 0)), .o (.c (.s 1))] ⟨0, .e⟩) = true := by kernel_rfl
end Go.Proofs.Ytdfhkmekmockkaa.Wn
