/- How the arguments of FnExactTurnGate read as the printed kinds, and the pure statement. -/
import Derived.Test.YtdfhkmekmockkaaPFnExactTurnGatex0
import Derived.Test.YtdfhkmekmockkaaRd
import Derived.KernelRfl
namespace Go.Proofs.Ytdfhkmekmockkaa.PFnExactTurnGate
open Go.RowKit Go.Proofs.YtdfhkmekmockkaaW.PrintWords Go.Proofs.YtdfhkmekmockkaaW.PrintLast Go.Proofs.YtdfhkmekmockkaaW.PrintMore
set_option linter.unusedVariables false
set_option maxRecDepth 100000
theorem rd3 : Rd.Reads Try.prog 3 (Kd.int .i64) (fun v => (Lit.int .i64 v).wf = true) := Rd.reads_int Try.underlying3
def ok46 (x : S46) : Prop := ((Lit.int .i64 x.f0).wf = true) ∧ ((Lit.int .i64 x.f1).wf = true)
theorem rd46 : Rd.Reads Try.prog 46 k46 ok46 :=
  Rd.reads_iso (fun x : S46 => (x.f0, x.f1)) (fun a => ⟨a.1, a.2⟩) (fun _ => rfl) (Rd.reads_struct Try.underlying46 rfl (by kernel_rfl) (Rd.readsF_cons rfl (by kernel_rfl) rd3 (Rd.readsF_one rfl (by kernel_rfl) rd3)))
def ok48 (x : S48) : Prop := ((Lit.int .i64 x.f0).wf = true) ∧ ((Lit.int .i64 x.f1).wf = true) ∧ ((Lit.int .i64 x.f2).wf = true) ∧ ((Lit.int .i64 x.f3).wf = true) ∧ ((Lit.int .i64 x.f4).wf = true) ∧ (ok46 x.f5) ∧ (ok46 x.f6)
theorem rd48 : Rd.Reads Try.prog 48 k48 ok48 :=
  Rd.reads_iso (fun x : S48 => (x.f0, x.f1, x.f2, x.f3, x.f4, x.f5, x.f6)) (fun a => ⟨a.1, a.2.1, a.2.2.1, a.2.2.2.1, a.2.2.2.2.1, a.2.2.2.2.2.1, a.2.2.2.2.2.2⟩) (fun _ => rfl) (Rd.reads_struct Try.underlying48 rfl (by kernel_rfl) (Rd.readsF_cons rfl (by kernel_rfl) rd3 (Rd.readsF_cons rfl (by kernel_rfl) rd3 (Rd.readsF_cons rfl (by kernel_rfl) rd3 (Rd.readsF_cons rfl (by kernel_rfl) rd3 (Rd.readsF_cons rfl (by kernel_rfl) rd3 (Rd.readsF_cons rfl (by kernel_rfl) rd46 (Rd.readsF_one rfl (by kernel_rfl) rd46))))))))
def ok199 (x : S199) : Prop := ((Lit.int .i64 x.f0).wf = true) ∧ ((Lit.int .i64 x.f1).wf = true) ∧ ((Lit.int .i64 x.f2).wf = true) ∧ ((Lit.int .i64 x.f3).wf = true) ∧ ((Lit.int .i64 x.f4).wf = true) ∧ ((Lit.int .i64 x.f5).wf = true) ∧ ((Lit.int .i64 x.f6).wf = true) ∧ ((Lit.int .i64 x.f7).wf = true) ∧ ((Lit.int .i64 x.f8).wf = true) ∧ ((Lit.int .i64 x.f9).wf = true) ∧ (ok48 x.f10) ∧ ((Lit.int .i64 x.f11).wf = true)
theorem rd199 : Rd.Reads Try.prog 199 k199 ok199 :=
  Rd.reads_iso (fun x : S199 => (x.f0, x.f1, x.f2, x.f3, x.f4, x.f5, x.f6, x.f7, x.f8, x.f9, x.f10, x.f11)) (fun a => ⟨a.1, a.2.1, a.2.2.1, a.2.2.2.1, a.2.2.2.2.1, a.2.2.2.2.2.1, a.2.2.2.2.2.2.1, a.2.2.2.2.2.2.2.1, a.2.2.2.2.2.2.2.2.1, a.2.2.2.2.2.2.2.2.2.1, a.2.2.2.2.2.2.2.2.2.2.1, a.2.2.2.2.2.2.2.2.2.2.2⟩) (fun _ => rfl) (Rd.reads_struct Try.underlying199 rfl (by kernel_rfl) (Rd.readsF_cons rfl (by kernel_rfl) rd3 (Rd.readsF_cons rfl (by kernel_rfl) rd3 (Rd.readsF_cons rfl (by kernel_rfl) rd3 (Rd.readsF_cons rfl (by kernel_rfl) rd3 (Rd.readsF_cons rfl (by kernel_rfl) rd3 (Rd.readsF_cons rfl (by kernel_rfl) rd3 (Rd.readsF_cons rfl (by kernel_rfl) rd3 (Rd.readsF_cons rfl (by kernel_rfl) rd3 (Rd.readsF_cons rfl (by kernel_rfl) rd3 (Rd.readsF_cons rfl (by kernel_rfl) rd3 (Rd.readsF_cons rfl (by kernel_rfl) rd48 (Rd.readsF_one rfl (by kernel_rfl) rd3)))))))))))))
theorem rd69 : Rd.Reads Try.prog 69 (Kd.slice 199 k199) (fun v => ∀ y ∈ v, ok199 y) :=
  haveI : Inhabited S199 := ⟨z199⟩
  Rd.reads_slice Try.underlying69 (by kernel_rfl) rd199
def ok111 (x : S111) : Prop := ((Lit.int .i64 x.f0).wf = true) ∧ ((Lit.int .i64 x.f1).wf = true)
theorem rd111 : Rd.Reads Try.prog 111 k111 ok111 :=
  Rd.reads_iso (fun x : S111 => (x.f0, x.f1)) (fun a => ⟨a.1, a.2⟩) (fun _ => rfl) (Rd.reads_struct Try.underlying111 rfl (by kernel_rfl) (Rd.readsF_cons rfl (by kernel_rfl) rd3 (Rd.readsF_one rfl (by kernel_rfl) rd3)))
theorem rd31 : Rd.Reads Try.prog 31 (Kd.slice 111 k111) (fun v => ∀ y ∈ v, ok111 y) :=
  haveI : Inhabited S111 := ⟨z111⟩
  Rd.reads_slice Try.underlying31 (by kernel_rfl) rd111
def ok156 (x : S156) : Prop := ((Lit.int .i64 x.f0).wf = true) ∧ ((Lit.int .i64 x.f1).wf = true) ∧ ((Lit.int .i64 x.f2).wf = true)
theorem rd156 : Rd.Reads Try.prog 156 k156 ok156 :=
  Rd.reads_iso (fun x : S156 => (x.f0, x.f1, x.f2)) (fun a => ⟨a.1, a.2.1, a.2.2⟩) (fun _ => rfl) (Rd.reads_struct Try.underlying156 rfl (by kernel_rfl) (Rd.readsF_cons rfl (by kernel_rfl) rd3 (Rd.readsF_cons rfl (by kernel_rfl) rd3 (Rd.readsF_one rfl (by kernel_rfl) rd3))))
theorem rd70 : Rd.Reads Try.prog 70 (Kd.slice 156 k156) (fun v => ∀ y ∈ v, ok156 y) :=
  haveI : Inhabited S156 := ⟨z156⟩
  Rd.reads_slice Try.underlying70 (by kernel_rfl) rd156
def ok205 (x : S205) : Prop := ((Lit.int .i64 x.f0).wf = true) ∧ ((Lit.int .i64 x.f1).wf = true) ∧ ((Lit.int .i64 x.f2).wf = true) ∧ ((Lit.int .i64 x.f3).wf = true)
theorem rd205 : Rd.Reads Try.prog 205 k205 ok205 :=
  Rd.reads_iso (fun x : S205 => (x.f0, x.f1, x.f2, x.f3)) (fun a => ⟨a.1, a.2.1, a.2.2.1, a.2.2.2⟩) (fun _ => rfl) (Rd.reads_struct Try.underlying205 rfl (by kernel_rfl) (Rd.readsF_cons rfl (by kernel_rfl) rd3 (Rd.readsF_cons rfl (by kernel_rfl) rd3 (Rd.readsF_cons rfl (by kernel_rfl) rd3 (Rd.readsF_one rfl (by kernel_rfl) rd3)))))
def ok207 (x : S207) : Prop := ((Lit.int .i64 x.f0).wf = true) ∧ (ok205 x.f1)
theorem rd207 : Rd.Reads Try.prog 207 k207 ok207 :=
  Rd.reads_iso (fun x : S207 => (x.f0, x.f1)) (fun a => ⟨a.1, a.2⟩) (fun _ => rfl) (Rd.reads_struct Try.underlying207 rfl (by kernel_rfl) (Rd.readsF_cons rfl (by kernel_rfl) rd3 (Rd.readsF_one rfl (by kernel_rfl) rd205)))
theorem rd71 : Rd.Reads Try.prog 71 (Kd.slice 207 k207) (fun v => ∀ y ∈ v, ok207 y) :=
  haveI : Inhabited S207 := ⟨z207⟩
  Rd.reads_slice Try.underlying71 (by kernel_rfl) rd207
end Go.Proofs.Ytdfhkmekmockkaa.PFnExactTurnGate
