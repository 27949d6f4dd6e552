/- The pure statement of FnExactClientNew. -/
import Derived.Test.YtdfhkmekmockkaaOpnFnExactClientNew
namespace Go.Proofs.Ytdfhkmekmockkaa.Cn
open Go.RowKit Go.Proofs.YtdfhkmekmockkaaW.PrintWords
theorem said : Said := by
  intro a b c h1 h2 h3; rfl
end Go.Proofs.Ytdfhkmekmockkaa.Cn
