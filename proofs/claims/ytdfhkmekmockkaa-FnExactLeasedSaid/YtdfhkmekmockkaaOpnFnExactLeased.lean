/- How the arguments of FnExactLeased read as the printed kinds, and the pure statement. -/
import Derived.Test.YtdfhkmekmockkaaPFnExactLeasedx5
import Derived.Test.YtdfhkmekmockkaaRd
import Derived.KernelRfl
namespace Go.Proofs.Ytdfhkmekmockkaa.PFnExactLeased
open Go.RowKit Go.Proofs.YtdfhkmekmockkaaW.PrintWords Go.Proofs.YtdfhkmekmockkaaW.PrintLast Go.Proofs.YtdfhkmekmockkaaW.PrintMore
set_option linter.unusedVariables false
set_option maxRecDepth 100000
theorem rd3 : Rd.Reads Try.prog 3 (Kd.int .i64) (fun v => (Lit.int .i64 v).wf = true) := Rd.reads_int Try.underlying3
def ok111 (x : S111) : Prop := ((Lit.int .i64 x.f0).wf = true) ∧ ((Lit.int .i64 x.f1).wf = true)
theorem rd111 : Rd.Reads Try.prog 111 k111 ok111 :=
  Rd.reads_iso (fun x : S111 => (x.f0, x.f1)) (fun a => ⟨a.1, a.2⟩) (fun _ => rfl) (Rd.reads_struct Try.underlying111 rfl (by kernel_rfl) (Rd.readsF_cons rfl (by kernel_rfl) rd3 (Rd.readsF_one rfl (by kernel_rfl) rd3)))
theorem rd31 : Rd.Reads Try.prog 31 (Kd.slice 111 k111) (fun v => ∀ y ∈ v, ok111 y) :=
  haveI : Inhabited S111 := ⟨z111⟩
  Rd.reads_slice Try.underlying31 (by kernel_rfl) rd111
def Said : Prop := ∀ (l0 : (List S111)) (a1 : Int), (∀ y ∈ l0, ok111 y) → (l0.length ≤ 9223372036854775807) → ((Lit.int .i64 a1).wf = true) → ∃ k, laws_FnExactLeased.f k l0 a1 = some true
end Go.Proofs.Ytdfhkmekmockkaa.PFnExactLeased
