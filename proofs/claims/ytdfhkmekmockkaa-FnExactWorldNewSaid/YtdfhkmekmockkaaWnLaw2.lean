/- The law's run, some ways given. -/
import Derived.Test.YtdfhkmekmockkaaWnBase
namespace Go.Proofs.Ytdfhkmekmockkaa.Wn
open Go.Proofs.Ytdfhkmekmockkaa.Rx
set_option maxRecDepth 100000
theorem run_some : isTrue (runE (cfg (ar false) orcF2) 300 40 13 [.o (.c (.s 0)), .o (.c (.s 1))] ⟨0, .e⟩) = true := by kernel_rfl
end Go.Proofs.Ytdfhkmekmockkaa.Wn
