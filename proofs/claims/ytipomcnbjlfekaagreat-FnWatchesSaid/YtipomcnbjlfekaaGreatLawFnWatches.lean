/- The row of FnWatches: for every input the law returns true, and each argument reads afterwards as it read before. No condition. -/
import Derived.Test.YtipomcnbjlfekaaGreatRows
import Derived.Test.YtipomcnbjlfekaaGreatWo
import Derived.WalkKit
import Derived.ProofKit
import Derived.OpenShut
import Derived.ShutString
import Derived.ChangeOld
import Derived.ChangeMaps5
import Derived.Below
import Derived.SizedLaws
import Derived.KernelRfl
namespace Go.Proofs.YtipomcnbjlfekaaGreat.fnWatches
open Go.ChangeShapes Go.WideShapes Go.ChangeAt Go.RowKit
set_option linter.unusedVariables false
theorem own : ownKnob Tryz.prog.godebug = none := by kernel_rfl
theorem laidOut : laidOutB Tryz.prog = true := by kernel_rfl
/-- The bytes of the argument, as the machine reads them. -/
def rows (zs : List Int) : Rs.Rw := zs.map fun x => [Value.int .u8 x]
theorem law (W : World) (a : Option Addr) (len cap : Nat) (zs : List Int) (hlen : zs.length = len) (hcap : len ≤ cap) (hmax : len ≤ maxLen) (hc : 0 < len → ∃ x, a = some x ∧ ∀ i, i < len → W.cell? (x.add i) = some (.int .u8 (zs.getD i 0))) :
    Calls Tryz.prog 6 #[.slice a len cap] W fun e w' => e = .returned (.bool true) ∧ Below W.heap.size W w' := by
  subst hlen
  have hf : (6, Rs.lawS2 [(5, [.n .u8])] [.o (.c (.sr 0))] 0 74 (74 * 8)) ∈ Rs.dAll.sums := by
    exact List.mem_of_getElem? (i := 169) (by kernel_rfl)
  refine Rs.law_fin2 (C := Rs.C0) (d := Rs.dAll) (tr := Rs.trA) Rs.tabAll W hf (bs := [(5, [.n .u8])]) (nv := 0) (pid := 74) (us := [.slice a zs.length cap]) (vs := []) (Ls := [rows zs]) rfl rfl rfl ?_ rfl ?_ ?_
  · intro b p u L hp hu hL
    match b, hp, hu, hL with
    | 0, hp, hu, hL =>
      cases hp; cases hu; cases hL
      have hl : (rows zs).length = zs.length := List.length_map ..
      refine ⟨fun e he => ?_, a, cap, by rw [hl], by rw [hl]; exact hcap, by rw [hl]; exact hmax, fun hp => ?_⟩
      · obtain ⟨x, _, rfl⟩ := List.mem_map.1 he
        refine ⟨rfl, fun j k u hj hu => ?_⟩
        match j, hj, hu with
        | 0, hj, hu => cases hj; cases hu; exact ⟨x, rfl⟩
        | j + 1, hj, _ => simp at hj
      · rw [hl] at hp
        obtain ⟨x, rfl, hcell⟩ := hc hp
        refine ⟨x, rfl, fun j e he i v hv => ?_⟩
        unfold rows at he
        rw [List.getElem?_map] at he
        cases hj : zs[j]? with
        | none => rw [hj] at he; cases he
        | some y =>
          rw [hj] at he
          obtain rfl := Option.some.inj he
          obtain ⟨hlt, hy⟩ := List.getElem?_eq_some_iff.1 hj
          match i, hv with
          | 0, hv =>
            cases hv
            have := hcell j hlt
            rw [List.getD_eq_getElem?_getD, hj] at this
            simpa using this
          | i + 1, hv => simp at hv
    | b + 1, hp, _, _ => simp at hp
  · intro j x v hx hv
    match j, hx, hv with
    | 0, hx, hv =>
      cases hx; cases hv
      exact ⟨_, rfl, rfl, _, _, _, rfl⟩
    | j + 1, hx, _ => simp at hx
  · refine Rs.f_law6 (fun e he => ?_)
    obtain ⟨x, _, rfl⟩ := List.mem_map.1 he
    exact ⟨x, rfl⟩
set_option maxRecDepth 100000 in
theorem lifted (os : Os) (started : os.Started) (H : Type) (enc : TypeId × Value → H) :
    ReturnsInHanded {} Tryz.checked os 6 .any (Rows.fnWatchesSpec.pre6 enc Tryz.prog Tryz.f6 Rows.fnWatchesRow.domain false) (Rows.fnWatchesSpec.post enc Tryz.prog Tryz.f6 false true false false) := by
  refine returnsInHanded_of_change_sized (C := Tryz.checked) own started (by kernel_rfl) Tryz.func6
    (ChangeSpec.witness6 (enc := enc) (C := Tryz.checked) false ⟨#[], #[.slice none 0 0], []⟩ 8 (by kernel_rfl) (by kernel_rfl) (by kernel_rfl) (by kernel_rfl)) ?_
  intro W base args ds gs before hval0 hW hcnd hsz0 _
  have hval : ∀ (j : Nat) t v, Tryz.f6.params[j]? = some t → args[j]? = some v → Value.okWide Tryz.prog W .any base t v := hval0
  have hW' := hW
  obtain ⟨p, q, hA0, hV, rfl, hfz, hnd⟩ := hW
  have hA : DataW.TrodAll enc Tryz.prog W 0 (fun _ => true) true Tryz.f6.params.toList args.toList ds p := hA0
  rw [Tryz.params6] at hA hval
  obtain ⟨v0, vs0, d0, ds0, p0, q0, hargs, rfl, rfl, h0, r0⟩ := trodAll_cons hA
  obtain ⟨rfl, rfl, rfl⟩ := trodAll_nil r0
  obtain rfl : args = #[v0] := by cases args; simp_all
  obtain ⟨rfl, rfl⟩ := trodVars_none hV
  obtain ⟨a0, len0, cap0, rfl⟩ := okWide_slice Tryz.underlying22 (hval 0 22 v0 rfl rfl)
  have k0 := h0
  have lt0 : ∀ x ∈ p0, x.block < W.heap.size := by obtain ⟨m, hm⟩ := k0; exact DataW.trod_lt m _ _ _ hm
  have w0 : ∃ zs : List Int, zs.length = len0 ∧ len0 ≤ cap0 ∧ len0 ≤ maxLen ∧ (0 < len0 → ∃ x, a0 = some x ∧ ∀ i, i < len0 → W.cell? (x.add i) = some (.int .u8 (zs.getD i 0))) := by
    obtain ⟨fuel, hf⟩ := h0
    rcases open_ints Tryz.underlying22 Tryz.underlying5 (by kernel_rfl) hf with ⟨hcs, _⟩ | ⟨x, l, c, zs, hcs, _, hl, hm, hz, _, hcell, hwz⟩
    · simp [Value.cells] at hcs
      obtain ⟨rfl, rfl, rfl⟩ := hcs
      exact ⟨[], rfl, Nat.le_refl _, Nat.zero_le _, fun h => absurd h (Nat.lt_irrefl _)⟩
    · simp [Value.cells] at hcs
      obtain ⟨rfl, rfl, rfl⟩ := hcs
      have hz' : zs.length = cap0 := by simpa using hz
      refine ⟨zs.take len0, by rw [List.length_take]; omega, hl, by omega, fun _ => ⟨x, rfl, fun i hi => ?_⟩⟩
      rw [hcell i (by omega)]
      simp [List.getD_eq_getElem?_getD, hi]
  obtain ⟨z0, y1, y2, y3, y4⟩ := w0
  clear hA0 hval0 hsz0
  refine (law W a0 len0 cap0 z0 y1 y2 y3 y4).mono fun e W' ⟨he, bel⟩ => ?_
  subst he
  exact ⟨_, rfl, _, _, _, [], _, [], hW', trodAll_mk1 (shut_bool Tryz.underlying4 _), (trodAll_cons_mk (Below.trod laidOut (by kernel_rfl) (of_decide_eq_true (by kernel_rfl)) k0 bel lt0) trodAll_mk0), rfl, bel.frame _, fun h => by cases h⟩
theorem over : Rows.fnWatchesRow.holds Tryz.pinned (OpenSpec.ofChange Rows.fnWatchesSpec) :=
  OpenClaim.holds_of_wide 6 Tryz.f6 rfl rfl rfl rfl rfl rfl rfl ⟨rfl, rfl, rfl, rfl, rfl⟩ rfl rfl rfl rfl rfl (by kernel_rfl) Tryz.func6 (by kernel_rfl)
    (of_decide_eq_true (by kernel_rfl)) (by unfold Func.isWrapper; first | (rw [if_pos (by decide +kernel)]; kernel_rfl) | (rw [if_neg (by decide +kernel)]; exact ⟨rfl, rfl⟩))
    (fun os started H enc _ => lifted os started H enc)
theorem proved : Rows.FnWatchesSaid := over
#print axioms proved
end Go.Proofs.YtipomcnbjlfekaaGreat.fnWatches
namespace Go.Proofs.YtipomcnbjlfekaaGreat
/-- The row, under a short name, for the claim. -/
theorem fnWatches_holds : Rows.FnWatchesSaid := fnWatches.proved
end Go.Proofs.YtipomcnbjlfekaaGreat
