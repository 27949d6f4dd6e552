/- The row of FnExactShaStart: for every input the law returns true, and each argument reads afterwards as it read before. No condition. -/
import Derived.Test.YtgikbhkbgfppoaaRows
import Derived.Test.YtgikbhkbgfppoaaPureFnExactShaStart
import Derived.WalkKit
import Derived.ProofKit
import Derived.OpenShut
import Derived.ShutString
import Derived.ChangeOld
import Derived.Below
import Derived.SizedLaws
namespace Go.Proofs.Ytgikbhkbgfppoaa.fnExactShaStart
open Go.ChangeShapes Go.WideShapes Go.ChangeAt Go.RowKit
open Go.Proofs.YtgikbhkbgfppoaaW.PrintWords Go.Proofs.Ytgikbhkbgfppoaa.ShaS
set_option linter.unusedVariables false
theorem own : ownKnob Try.prog.godebug = none := by kernel_rfl
theorem laidOut : laidOutB Try.prog = true := by kernel_rfl
set_option maxRecDepth 100000 in
theorem lifted (os : Os) (started : os.Started) (H : Type) (enc : TypeId × Value → H) :
    ReturnsInHanded {} Try.checked os 7 .any (Rows.fnExactShaStartSpec.pre6 enc Try.prog Try.f7 Rows.fnExactShaStartRow.domain false) (Rows.fnExactShaStartSpec.post enc Try.prog Try.f7 false true false false) := by
  refine returnsInHanded_of_change_sized (C := Try.checked) own started (by kernel_rfl) Try.func7
    (ChangeSpec.witness6 (enc := enc) (C := Try.checked) false ⟨#[], #[], []⟩ 8 (by kernel_rfl) (by kernel_rfl) (by kernel_rfl) (by kernel_rfl)) ?_
  intro W base args ds gs before hval0 hW hcnd hsz0 _
  have hW' := hW
  obtain ⟨p, q, hA0, hV, rfl, hfz, hnd⟩ := hW
  have hA : DataW.TrodAll enc Try.prog W 0 (fun _ => true) true Try.f7.params.toList args.toList ds p := hA0
  rw [Try.params7] at hA
  obtain ⟨ha0, rfl, rfl⟩ := trodAll_nil hA
  obtain rfl : args = #[] := Array.toList_eq_nil_iff.1 ha0
  obtain ⟨rfl, rfl⟩ := trodVars_none hV
  have hp := said  
  refine (laws_FnExactShaStart.calls  true W  hp).mono fun e W' ⟨he, hd⟩ => ?_
  have bel : Below W.heap.size W W' := hd
  subst he
  exact ⟨_, rfl, _, _, _, [], _, [], hW', trodAll_mk1 (shut_bool Try.underlying4 _), trodAll_mk0, rfl, bel.frame _, fun h => by cases h⟩
theorem over : Rows.fnExactShaStartRow.holds Try.pinned (OpenSpec.ofChange Rows.fnExactShaStartSpec) :=
  OpenClaim.holds_of_wide 7 Try.f7 rfl rfl rfl rfl rfl rfl rfl ⟨rfl, rfl, rfl, rfl, rfl⟩ rfl rfl rfl rfl rfl (by kernel_rfl) Try.func7 (by kernel_rfl)
    (of_decide_eq_true (by kernel_rfl)) (by unfold Func.isWrapper; first | (rw [if_pos (by decide +kernel)]; kernel_rfl) | (rw [if_neg (by decide +kernel)]; exact ⟨rfl, rfl⟩))
    (fun os started H enc _ => lifted os started H enc)
theorem proved : Rows.FnExactShaStartSaid := over
#print axioms proved
end Go.Proofs.Ytgikbhkbgfppoaa.fnExactShaStart
namespace Go.Proofs.Ytgikbhkbgfppoaa
/-- The row, under a short name, for the claim. -/
theorem fnExactShaStart_holds : Rows.FnExactShaStartSaid := fnExactShaStart.proved
end Go.Proofs.Ytgikbhkbgfppoaa
