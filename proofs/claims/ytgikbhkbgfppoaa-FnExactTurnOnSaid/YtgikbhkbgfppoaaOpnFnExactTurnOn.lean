/- How the arguments of FnExactTurnOn read as the printed kinds, and the pure statement. -/
import Derived.Test.YtgikbhkbgfppoaaTurnOnWalk
import Derived.Test.YtgikbhkbgfppoaaRd
import Derived.KernelRfl
namespace Go.Proofs.Ytgikbhkbgfppoaa.TurnOn
open Go.RowKit Go.Proofs.YtgikbhkbgfppoaaW.PrintWords Go.Proofs.YtgikbhkbgfppoaaW.PrintLast Go.Proofs.YtgikbhkbgfppoaaW.PrintMore
set_option linter.unusedVariables false
set_option maxRecDepth 100000
theorem rd3 : Rd.Reads Try.prog 3 (Kd.int .i64) (fun v => (Lit.int .i64 v).wf = true) := Rd.reads_int Try.underlying3
theorem rd62 : Rd.Reads Try.prog 62 (Kd.pair (Kd.int .i64) (Kd.int .i64)) (fun v => ((Lit.int .i64 v.1).wf = true) ∧ ((Lit.int .i64 v.2).wf = true)) := by
  have h := Rd.reads_struct Try.underlying62 rfl (by kernel_rfl) (Rd.readsF_cons rfl (by kernel_rfl) rd3 (Rd.readsF_one rfl (by kernel_rfl) rd3))
  exact Rd.reads_ok h (fun _ h => h)
def Said : Prop := ∀ (a0_0 : Int) (a0_1 : Int) (a0_2 : Int) (a0_3 : Int) (a0_4 : Int) (a0_5 : Int) (a0_6 : Int) (a0_7 : Int) (a0_8 : Int), ((Lit.int .i64 a0_0).wf = true) → ((Lit.int .i64 a0_1).wf = true) → ((Lit.int .i64 a0_2).wf = true) → ((Lit.int .i64 a0_3).wf = true) → ((Lit.int .i64 a0_4).wf = true) → ((Lit.int .i64 a0_5).wf = true) → ((Lit.int .i64 a0_6).wf = true) → ((Lit.int .i64 a0_7).wf = true) → ((Lit.int .i64 a0_8).wf = true) → laws_FnExactTurnOn.f a0_0 a0_1 a0_2 a0_3 a0_4 a0_5 a0_6 a0_7 a0_8 = some true
end Go.Proofs.Ytgikbhkbgfppoaa.TurnOn
