/- How the arguments of FnExactTickClient read as the printed kinds, and the pure statement. -/
import Derived.Test.YtdfhkmekmockkaaTickWalk
import Derived.Test.YtdfhkmekmockkaaRd
import Derived.KernelRfl
namespace Go.Proofs.Ytdfhkmekmockkaa.Tk
open Go.RowKit Go.Proofs.YtdfhkmekmockkaaW.PrintWords Go.Proofs.YtdfhkmekmockkaaW.PrintLast Go.Proofs.YtdfhkmekmockkaaW.PrintMore
set_option linter.unusedVariables false
set_option maxRecDepth 100000
theorem rd3 : Rd.Reads Try.prog 3 (Kd.int .i64) (fun v => (Lit.int .i64 v).wf = true) := Rd.reads_int Try.underlying3
theorem rd4 : Rd.Reads Try.prog 4 Kd.bool (fun _ => True) := Rd.reads_bool Try.underlying4
theorem rd46 : Rd.Reads Try.prog 46 (Kd.pair (Kd.int .i64) (Kd.int .i64)) (fun v => ((Lit.int .i64 v.1).wf = true) ∧ ((Lit.int .i64 v.2).wf = true)) := by
  have h := Rd.reads_struct Try.underlying46 rfl (by kernel_rfl) (Rd.readsF_cons rfl (by kernel_rfl) rd3 (Rd.readsF_one rfl (by kernel_rfl) rd3))
  exact Rd.reads_ok h (fun _ h => h)
theorem rd48 : Rd.Reads Try.prog 48 (Kd.pair (Kd.int .i64) (Kd.pair (Kd.int .i64) (Kd.pair (Kd.int .i64) (Kd.pair (Kd.int .i64) (Kd.pair (Kd.int .i64) (Kd.pair (Kd.pair (Kd.int .i64) (Kd.int .i64)) (Kd.pair (Kd.int .i64) (Kd.int .i64)))))))) (fun v => ((Lit.int .i64 v.1).wf = true) ∧ ((Lit.int .i64 v.2.1).wf = true) ∧ ((Lit.int .i64 v.2.2.1).wf = true) ∧ ((Lit.int .i64 v.2.2.2.1).wf = true) ∧ ((Lit.int .i64 v.2.2.2.2.1).wf = true) ∧ (((Lit.int .i64 v.2.2.2.2.2.1.1).wf = true) ∧ ((Lit.int .i64 v.2.2.2.2.2.1.2).wf = true)) ∧ (((Lit.int .i64 v.2.2.2.2.2.2.1).wf = true) ∧ ((Lit.int .i64 v.2.2.2.2.2.2.2).wf = true))) := by
  have h := Rd.reads_struct Try.underlying48 rfl (by kernel_rfl) (Rd.readsF_cons rfl (by kernel_rfl) rd3 (Rd.readsF_cons rfl (by kernel_rfl) rd3 (Rd.readsF_cons rfl (by kernel_rfl) rd3 (Rd.readsF_cons rfl (by kernel_rfl) rd3 (Rd.readsF_cons rfl (by kernel_rfl) rd3 (Rd.readsF_cons rfl (by kernel_rfl) rd46 (Rd.readsF_one rfl (by kernel_rfl) rd46)))))))
  exact Rd.reads_ok h (fun _ h => h)
def Said : Prop := ∀ (a0_0 : Int) (a0_1 : Int) (a0_2 : Int) (a0_3 : Int) (a0_4 : Int) (a0_5 : Bool) (a0_6 : Int) (a0_7 : Int) (a0_8 : Int) (a0_9 : Int) (a0_10 : Int) (a0_11 : Int) (a0_12 : Int) (a0_13 : Int) (a0_14 : Int) (a0_15 : Int) (a0_16 : Int) (a0_17 : Int) (a0_18 : Int) (a0_19 : Int) (a0_20 : Int) (a0_21 : Int) (a0_22 : Int) (a1 : Int), ((Lit.int .i64 a0_0).wf = true) → ((Lit.int .i64 a0_1).wf = true) → ((Lit.int .i64 a0_2).wf = true) → ((Lit.int .i64 a0_3).wf = true) → ((Lit.int .i64 a0_4).wf = true) → ((Lit.int .i64 a0_6).wf = true) → ((Lit.int .i64 a0_7).wf = true) → ((Lit.int .i64 a0_8).wf = true) → ((Lit.int .i64 a0_9).wf = true) → ((Lit.int .i64 a0_10).wf = true) → ((Lit.int .i64 a0_11).wf = true) → ((Lit.int .i64 a0_12).wf = true) → ((Lit.int .i64 a0_13).wf = true) → ((Lit.int .i64 a0_14).wf = true) → ((Lit.int .i64 a0_15).wf = true) → ((Lit.int .i64 a0_16).wf = true) → ((Lit.int .i64 a0_17).wf = true) → ((Lit.int .i64 a0_18).wf = true) → ((Lit.int .i64 a0_19).wf = true) → ((Lit.int .i64 a0_20).wf = true) → ((Lit.int .i64 a0_21).wf = true) → ((Lit.int .i64 a0_22).wf = true) → ((Lit.int .i64 a1).wf = true) → laws_FnExactTickClient.f a0_0 a0_1 a0_2 a0_3 a0_4 a0_5 a0_6 a0_7 a0_8 a0_9 a0_10 a0_11 a0_12 a0_13 a0_14 a0_15 a0_16 a0_17 a0_18 a0_19 a0_20 a0_21 a0_22 a1 = some true
end Go.Proofs.Ytdfhkmekmockkaa.Tk
