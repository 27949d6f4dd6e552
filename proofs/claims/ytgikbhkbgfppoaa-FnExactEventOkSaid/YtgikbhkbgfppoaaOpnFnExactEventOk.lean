/- How the arguments of FnExactEventOk read as the printed kinds, and the pure statement. -/
import Derived.Test.YtgikbhkbgfppoaaPFnExactEventOkx1
import Derived.Test.YtgikbhkbgfppoaaRd
import Derived.KernelRfl
namespace Go.Proofs.Ytgikbhkbgfppoaa.PFnExactEventOk
open Go.RowKit Go.Proofs.YtgikbhkbgfppoaaW.PrintWords Go.Proofs.YtgikbhkbgfppoaaW.PrintLast Go.Proofs.YtgikbhkbgfppoaaW.PrintMore
set_option linter.unusedVariables false
set_option maxRecDepth 100000
theorem rd3 : Rd.Reads Try.prog 3 (Kd.int .i64) (fun v => (Lit.int .i64 v).wf = true) := Rd.reads_int Try.underlying3
theorem rd9 : Rd.Reads Try.prog 9 Kd.string (fun v => v.size ≤ maxLen) := Rd.reads_string Try.underlying9
def Said : Prop := ∀ (a0_0 : Int) (a0_1 : Int) (a0_2 : Int) (a0_3 : ByteArray), ((Lit.int .i64 a0_0).wf = true) → ((Lit.int .i64 a0_1).wf = true) → ((Lit.int .i64 a0_2).wf = true) → (a0_3.size ≤ maxLen) → ∃ k, laws_FnExactEventOk.f k a0_0 a0_1 a0_2 a0_3 = some true
end Go.Proofs.Ytgikbhkbgfppoaa.PFnExactEventOk
