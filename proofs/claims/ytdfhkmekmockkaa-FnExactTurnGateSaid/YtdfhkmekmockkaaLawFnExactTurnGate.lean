/- The row of FnExactTurnGate: for every input the law returns true, and each argument reads afterwards as it read before. No condition. -/
import Derived.Test.YtdfhkmekmockkaaRows
import Derived.Test.YtdfhkmekmockkaaOpnFnExactTurnGate
import Derived.Test.YtdfhkmekmockkaaRsLFnExactTurnGate
import Derived.WalkKit
import Derived.ProofKit
import Derived.OpenShut
import Derived.ShutString
import Derived.ChangeOld
import Derived.Below
import Derived.SizedLaws
namespace Go.Proofs.Ytdfhkmekmockkaa.fnExactTurnGate
open Go.ChangeShapes Go.WideShapes Go.ChangeAt Go.RowKit
open Go.Proofs.YtdfhkmekmockkaaW.PrintWords Go.Proofs.Ytdfhkmekmockkaa.PFnExactTurnGate
set_option linter.unusedVariables false
theorem own : ownKnob Try.prog.godebug = none := by kernel_rfl
theorem laidOut : laidOutB Try.prog = true := by kernel_rfl
set_option maxRecDepth 100000 in
theorem lifted (os : Os) (started : os.Started) (H : Type) (enc : TypeId × Value → H) :
    ReturnsInHanded {} Try.checked os 12 .any (Rows.fnExactTurnGateSpec.pre6 enc Try.prog Try.f12 Rows.fnExactTurnGateRow.domain false) (Rows.fnExactTurnGateSpec.post enc Try.prog Try.f12 false true false false) := by
  refine returnsInHanded_of_change_sized (C := Try.checked) own started (by kernel_rfl) Try.func12
    (ChangeSpec.witness6 (enc := enc) (C := Try.checked) false ⟨#[], #[.agg #[.int .i64 0, .int .i64 0, .slice none 0 0, .slice none 0 0, .slice none 0 0, .slice none 0 0, .int .i64 0], .int .i64 0], []⟩ 8 (by kernel_rfl) (by kernel_rfl) (by kernel_rfl) (by kernel_rfl)) ?_
  intro W base args ds gs before hval0 hW hcnd hsz0 _
  have hval : ∀ (j : Nat) t v, Try.f12.params[j]? = some t → args[j]? = some v → Value.okWide Try.prog W .any base t v := hval0
  have hW' := hW
  obtain ⟨p, q, hA0, hV, rfl, hfz, hnd⟩ := hW
  have hA : DataW.TrodAll enc Try.prog W 0 (fun _ => true) true Try.f12.params.toList args.toList ds p := hA0
  rw [Try.params12] at hA hval
  obtain ⟨v0, vs0, d0, ds0, p0, q0, hargs, rfl, rfl, h0, r0⟩ := trodAll_cons hA
  obtain ⟨v1, vs1, d1, ds1, p1, q1, rfl, rfl, rfl, h1, r1⟩ := trodAll_cons r0
  obtain ⟨rfl, rfl, rfl⟩ := trodAll_nil r1
  obtain rfl : args = #[v0, v1] := by cases args; simp_all
  obtain ⟨rfl, rfl⟩ := trodVars_none hV
  have k0 := h0
  have lt0 : ∀ x ∈ p0, x.block < W.heap.size := by obtain ⟨m, hm⟩ := k0; exact DataW.trod_lt m _ _ _ hm
  obtain ⟨cs0, rfl, hs0⟩ := okWide_struct Try.underlying73 (hval 0 73 v0 rfl rfl)
  obtain ⟨fuel0, hf0⟩ := h0
  obtain ⟨x0, hK0, hO0⟩ := (Rd.reads_struct Try.underlying73 rfl (by kernel_rfl) (Rd.readsF_cons rfl (by kernel_rfl) rd3 (Rd.readsF_cons rfl (by kernel_rfl) rd3 (Rd.readsF_cons rfl (by kernel_rfl) rd69 (Rd.readsF_cons rfl (by kernel_rfl) rd31 (Rd.readsF_cons rfl (by kernel_rfl) rd70 (Rd.readsF_cons rfl (by kernel_rfl) rd71 (Rd.readsF_one rfl (by kernel_rfl) rd3)))))))) H enc W 0 (fun _ => true) true fuel0 _ _ hf0
  obtain ⟨cl0, hcl0⟩ : ∃ l, l = (Value.agg cs0).cells.toList := ⟨_, rfl⟩
  rw [← hcl0] at hK0
  obtain ⟨_, _, rfl, rfl, ⟨_, _, rfl, rfl, ⟨_, _, rfl, ⟨A0_2, c0_2, rfl, hc0_2, hr0_2⟩, ⟨_, _, rfl, ⟨A0_3, c0_3, rfl, hc0_3, hr0_3⟩, ⟨_, _, rfl, ⟨A0_4, c0_4, rfl, hc0_4, hr0_4⟩, ⟨_, _, rfl, ⟨A0_5, c0_5, rfl, hc0_5, hr0_5⟩, rfl⟩⟩⟩⟩⟩⟩ := hK0
  obtain rfl : cs0 = #[.int .i64 x0.1, .int .i64 x0.2.1, .slice A0_2 x0.2.2.1.length c0_2, .slice A0_3 x0.2.2.2.1.length c0_3, .slice A0_4 x0.2.2.2.2.1.length c0_4, .slice A0_5 x0.2.2.2.2.2.1.length c0_5, .int .i64 x0.2.2.2.2.2.2] := by cases cs0; simpa [Value.cells] using hcl0.symm
  have k1 := h1
  have lt1 : ∀ x ∈ p1, x.block < W.heap.size := by obtain ⟨m, hm⟩ := k1; exact DataW.trod_lt m _ _ _ hm
  obtain ⟨a1, rfl, rfl, rfl, w1⟩ := open_int Try.underlying3 (hval 1 3 v1 rfl rfl) h1
  refine (Rs.law_FnExactTurnGate W (x0.1) (x0.2.1) (x0.2.2.2.2.2.2) a1 A0_2 c0_2 (x0.2.2.1) hr0_2 hc0_2 A0_3 c0_3 (x0.2.2.2.1) hr0_3 hc0_3 A0_4 c0_4 (x0.2.2.2.2.1) hr0_4 hc0_4 A0_5 c0_5 (x0.2.2.2.2.2.1) hr0_5 hc0_5).mono fun e W' ⟨he, hd⟩ => ?_
  have bel : Below W.heap.size W W' := hd
  subst he
  exact ⟨_, rfl, _, _, _, [], _, [], hW', trodAll_mk1 (shut_bool Try.underlying4 _), (trodAll_cons_mk (Below.trod laidOut (by kernel_rfl) (of_decide_eq_true (by kernel_rfl)) k0 bel lt0) (trodAll_cons_mk (Below.trod laidOut (by kernel_rfl) (of_decide_eq_true (by kernel_rfl)) k1 bel lt1) trodAll_mk0)), rfl, bel.frame _, fun h => by cases h⟩
theorem over : Rows.fnExactTurnGateRow.holds Try.pinned (OpenSpec.ofChange Rows.fnExactTurnGateSpec) :=
  OpenClaim.holds_of_wide 12 Try.f12 rfl rfl rfl rfl rfl rfl rfl ⟨rfl, rfl, rfl, rfl, rfl⟩ rfl rfl rfl rfl rfl (by kernel_rfl) Try.func12 (by kernel_rfl)
    (of_decide_eq_true (by kernel_rfl)) (by unfold Func.isWrapper; first | (rw [if_pos (by decide +kernel)]; kernel_rfl) | (rw [if_neg (by decide +kernel)]; exact ⟨rfl, rfl⟩))
    (fun os started H enc _ => lifted os started H enc)
theorem proved : Rows.FnExactTurnGateSaid := over
#print axioms proved
end Go.Proofs.Ytdfhkmekmockkaa.fnExactTurnGate
namespace Go.Proofs.Ytdfhkmekmockkaa
/-- The row, under a short name, for the claim. -/
theorem fnExactTurnGate_holds : Rows.FnExactTurnGateSaid := fnExactTurnGate.proved
end Go.Proofs.Ytdfhkmekmockkaa
