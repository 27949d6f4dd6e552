/- The pure statement of FnExactTurnOn: the walk has told it. -/
import Derived.Test.YtgikbhkbgfppoaaOpnFnExactTurnOn
namespace Go.Proofs.Ytgikbhkbgfppoaa.TurnOn
set_option linter.unusedVariables false
theorem said : Said := by
  unfold Said
  intros
  rfl
end Go.Proofs.Ytgikbhkbgfppoaa.TurnOn
