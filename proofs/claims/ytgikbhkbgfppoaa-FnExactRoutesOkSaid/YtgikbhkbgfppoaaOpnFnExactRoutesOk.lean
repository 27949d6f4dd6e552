/- How the arguments of FnExactRoutesOk read as the printed kinds, and the pure statement. -/
import Derived.Test.YtgikbhkbgfppoaaPFnExactRoutesOkx3
import Derived.Test.YtgikbhkbgfppoaaRd
import Derived.KernelRfl
namespace Go.Proofs.Ytgikbhkbgfppoaa.PFnExactRoutesOk
open Go.RowKit Go.Proofs.YtgikbhkbgfppoaaW.PrintWords Go.Proofs.YtgikbhkbgfppoaaW.PrintLast Go.Proofs.YtgikbhkbgfppoaaW.PrintMore
set_option linter.unusedVariables false
set_option maxRecDepth 100000
theorem rd3 : Rd.Reads Try.prog 3 (Kd.int .i64) (fun v => (Lit.int .i64 v).wf = true) := Rd.reads_int Try.underlying3
def ok29 (x : S29) : Prop := ((Lit.int .i64 x.f0).wf = true) ∧ ((Lit.int .i64 x.f1).wf = true) ∧ ((Lit.int .i64 x.f2).wf = true)
theorem rd29 : Rd.Reads Try.prog 29 k29 ok29 :=
  Rd.reads_iso (fun x : S29 => (x.f0, x.f1, x.f2)) (fun a => ⟨a.1, a.2.1, a.2.2⟩) (fun _ => rfl) (Rd.reads_struct Try.underlying29 rfl (by kernel_rfl) (Rd.readsF_cons rfl (by kernel_rfl) rd3 (Rd.readsF_cons rfl (by kernel_rfl) rd3 (Rd.readsF_one rfl (by kernel_rfl) rd3))))
theorem rd69 : Rd.Reads Try.prog 69 (Kd.slice 29 k29) (fun v => ∀ y ∈ v, ok29 y) :=
  haveI : Inhabited S29 := ⟨z29⟩
  Rd.reads_slice Try.underlying69 (by kernel_rfl) rd29
def Said : Prop := ∀ (l0 : (List S29)), (∀ y ∈ l0, ok29 y) → (l0.length ≤ 9223372036854775807) → ∃ k, laws_FnExactRoutesOk.f k l0 = some true
end Go.Proofs.Ytgikbhkbgfppoaa.PFnExactRoutesOk
