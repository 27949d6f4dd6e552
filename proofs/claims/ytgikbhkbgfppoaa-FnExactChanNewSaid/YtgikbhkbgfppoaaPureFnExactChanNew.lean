/- The pure statement of FnExactChanNew: over numbers alone. -/
import Derived.Test.YtgikbhkbgfppoaaPFnExactChanNewx1
namespace Go.Proofs.Ytgikbhkbgfppoaa.Pure
open Go.RowKit Go.Proofs.Ytgikbhkbgfppoaa.PFnExactChanNew Go.Proofs.YtgikbhkbgfppoaaW.PrintWords Go.Proofs.YtgikbhkbgfppoaaW.PrintLast

theorem FnExactChanNew : laws_FnExactChanNew.Pure := by
  intro a b _ _
  simp [laws_FnExactChanNew.f, spec_ChanNew.f, impl_ChanNew.f, spec_WindowNew.f, impl_WindowNew.f, laws_eqChan.f, laws_eqWindow.f]

end Go.Proofs.Ytgikbhkbgfppoaa.Pure
