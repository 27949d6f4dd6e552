/- How the arguments of FnExactGiven read as the printed kinds, and the pure statement. -/
import Derived.Test.YtgikbhkbgfppoaaPFnExactGivenx2
import Derived.Test.YtgikbhkbgfppoaaRd
import Derived.KernelRfl
namespace Go.Proofs.Ytgikbhkbgfppoaa.PFnExactGiven
open Go.RowKit Go.Proofs.YtgikbhkbgfppoaaW.PrintWords Go.Proofs.YtgikbhkbgfppoaaW.PrintLast Go.Proofs.YtgikbhkbgfppoaaW.PrintMore
set_option linter.unusedVariables false
set_option maxRecDepth 100000
theorem rd3 : Rd.Reads Try.prog 3 (Kd.int .i64) (fun v => (Lit.int .i64 v).wf = true) := Rd.reads_int Try.underlying3
def ok91 (x : S91) : Prop := ((Lit.int .i64 x.f0).wf = true) ∧ ((Lit.int .i64 x.f1).wf = true)
theorem rd91 : Rd.Reads Try.prog 91 k91 ok91 :=
  Rd.reads_iso (fun x : S91 => (x.f0, x.f1)) (fun a => ⟨a.1, a.2⟩) (fun _ => rfl) (Rd.reads_struct Try.underlying91 rfl (by kernel_rfl) (Rd.readsF_cons rfl (by kernel_rfl) rd3 (Rd.readsF_one rfl (by kernel_rfl) rd3)))
theorem rd53 : Rd.Reads Try.prog 53 (Kd.slice 91 k91) (fun v => ∀ y ∈ v, ok91 y) :=
  haveI : Inhabited S91 := ⟨z91⟩
  Rd.reads_slice Try.underlying53 (by kernel_rfl) rd91
def Said : Prop := ∀ (l0 : (List S91)) (a1 : Int), (∀ y ∈ l0, ok91 y) → (l0.length ≤ 9223372036854775807) → ((Lit.int .i64 a1).wf = true) → ∃ k, laws_FnExactGiven.f k l0 a1 = some true
end Go.Proofs.Ytgikbhkbgfppoaa.PFnExactGiven
