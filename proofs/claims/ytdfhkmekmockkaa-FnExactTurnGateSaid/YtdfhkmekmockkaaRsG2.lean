/- Copies, comparisons, searches: that what is told of them is so. -/
import Derived.Test.YtdfhkmekmockkaaRsG1
namespace Go.Proofs.Ytdfhkmekmockkaa.Rs
open Go.RowKit
set_option linter.unusedVariables false
set_option linter.unusedSimpArgs false
set_option maxRecDepth 100000

theorem nil_of {α : Type} {l : List α} (h : l.length = 0) : l = [] := List.eq_nil_of_length_eq_zero h
theorem row2 {e : List Value} (h : e.length = 2) : [e.getD 0 undef, e.getD 1 undef] = e := by
  match e, h with
  | [_, _], _ => rfl
theorem row3 {e : List Value} (h : e.length = 3) : [e.getD 0 undef, e.getD 1 undef, e.getD 2 undef] = e := by
  match e, h with
  | [_, _, _], _ => rfl
theorem row5 {e : List Value} (h : e.length = 5) : [e.getD 0 undef, e.getD 1 undef, e.getD 2 undef, e.getD 3 undef, e.getD 4 undef] = e := by
  match e, h with
  | [_, _, _, _, _], _ => rfl
theorem row20 {e : List Value} (h : e.length = 20) : [e.getD 0 undef, e.getD 1 undef, e.getD 2 undef, e.getD 3 undef, e.getD 4 undef, e.getD 5 undef, e.getD 6 undef, e.getD 7 undef, e.getD 8 undef, e.getD 9 undef, e.getD 10 undef, e.getD 11 undef, e.getD 12 undef, e.getD 13 undef, e.getD 14 undef, e.getD 15 undef, e.getD 16 undef, e.getD 17 undef, e.getD 18 undef, e.getD 19 undef] = e := by
  match e, h with
  | [_, _, _, _, _, _, _, _, _, _, _, _, _, _, _, _, _, _, _, _], _ => rfl

theorem t102L_ok : LpOk C0 ⟨102, 0, toL 199 148 20⟩ := by
  refine loop_tree C0_ok (DbOk.nil C0) 10 10 t102_fn t102_body t102_only t102_in (fun al h => by simp [toL] at h; subst h; rfl) (by decide) (by decide) mu0 t102L_run t102L_b ?_
  rintro vs ls _ _ ⟨k, L0, L1, rfl, rfl, hk, hl, hm, h0, h1, ht⟩
  unfold t102L
  simp only [Out.OkL, Te.ev, RT.ev, TL.ev, RL.ev, syL, List.getD_cons_zero, List.getD_cons_succ, List.nil_append, List.cons_append, List.append_nil, binV, natOf, Int.toNat_natCast, Value.bool.injEq, decide_eq_true_eq, decide_eq_false_iff_not, Bool.not_eq_true', Bool.not_eq_false', Bool.not_eq_true, Bool.not_eq_false]
  refine ⟨fun hc => ⟨by omega, by omega, by omega, by omega, ⟨?_, ?_⟩, ?_⟩, fun hc => ?_⟩
  · exact toInv_next (row20 (h0 _ (getD_mem (by omega)))) (by omega) hl hm h0 h1 ht rfl
  · show mu0 _ _ < mu0 _ _
    simp only [mu0, List.getD_cons_zero, natOf]
    rw [wrap64 (by omega) (by omega)]
    omega
  · intro vs' ls' hv hl' hf
    exact hf ▸ rfl
  · show [L1] = [L0]
    have : k = L0.length := by omega
    subst this
    rw [← List.take_length (l := L0), ← ht, ← hl, List.take_length]
theorem t102S_ok : SumOk C0 102 (toS 199 148 20) := by
  refine fn_tree C0_ok ((DbOk.nil C0).addL t102L_ok) 10 10 t102_fn t102S_run t102S_b ?_
  rintro vs ls hv _ ⟨L0, rfl, hm, h0⟩
  obtain rfl := nil_of hv
  unfold t102S
  simp only [Out.OkL, Te.ev, RT.ev, TL.ev, RL.ev, syL, List.getD_cons_zero, List.getD_cons_succ, List.nil_append, List.cons_append, List.append_nil, binV, natOf, Int.toNat_natCast, Value.bool.injEq, decide_eq_true_eq, decide_eq_false_iff_not, Bool.not_eq_true', Bool.not_eq_false', Bool.not_eq_true, Bool.not_eq_false]
  refine ⟨trivial, by omega, by omega, toInv_start rfl hm h0, ?_⟩
  intro vs' ls' hv hl' hf
  exact hf ▸ rfl

theorem t19L_ok : LpOk C0 ⟨19, 0, toL 111 109 2⟩ := by
  refine loop_tree C0_ok (DbOk.nil C0) 10 10 t19_fn t19_body t19_only t19_in (fun al h => by simp [toL] at h; subst h; rfl) (by decide) (by decide) mu0 t19L_run t19L_b ?_
  rintro vs ls _ _ ⟨k, L0, L1, rfl, rfl, hk, hl, hm, h0, h1, ht⟩
  unfold t19L
  simp only [Out.OkL, Te.ev, RT.ev, TL.ev, RL.ev, syL, List.getD_cons_zero, List.getD_cons_succ, List.nil_append, List.cons_append, List.append_nil, binV, natOf, Int.toNat_natCast, Value.bool.injEq, decide_eq_true_eq, decide_eq_false_iff_not, Bool.not_eq_true', Bool.not_eq_false', Bool.not_eq_true, Bool.not_eq_false]
  refine ⟨fun hc => ⟨by omega, by omega, by omega, by omega, ⟨?_, ?_⟩, ?_⟩, fun hc => ?_⟩
  · exact toInv_next (row2 (h0 _ (getD_mem (by omega)))) (by omega) hl hm h0 h1 ht rfl
  · show mu0 _ _ < mu0 _ _
    simp only [mu0, List.getD_cons_zero, natOf]
    rw [wrap64 (by omega) (by omega)]
    omega
  · intro vs' ls' hv hl' hf
    exact hf ▸ rfl
  · show [L1] = [L0]
    have : k = L0.length := by omega
    subst this
    rw [← List.take_length (l := L0), ← ht, ← hl, List.take_length]
theorem t19S_ok : SumOk C0 19 (toS 111 109 2) := by
  refine fn_tree C0_ok ((DbOk.nil C0).addL t19L_ok) 10 10 t19_fn t19S_run t19S_b ?_
  rintro vs ls hv _ ⟨L0, rfl, hm, h0⟩
  obtain rfl := nil_of hv
  unfold t19S
  simp only [Out.OkL, Te.ev, RT.ev, TL.ev, RL.ev, syL, List.getD_cons_zero, List.getD_cons_succ, List.nil_append, List.cons_append, List.append_nil, binV, natOf, Int.toNat_natCast, Value.bool.injEq, decide_eq_true_eq, decide_eq_false_iff_not, Bool.not_eq_true', Bool.not_eq_false', Bool.not_eq_true, Bool.not_eq_false]
  refine ⟨trivial, by omega, by omega, toInv_start rfl hm h0, ?_⟩
  intro vs' ls' hv hl' hf
  exact hf ▸ rfl

theorem t56L_ok : LpOk C0 ⟨56, 0, toL 156 154 3⟩ := by
  refine loop_tree C0_ok (DbOk.nil C0) 10 10 t56_fn t56_body t56_only t56_in (fun al h => by simp [toL] at h; subst h; rfl) (by decide) (by decide) mu0 t56L_run t56L_b ?_
  rintro vs ls _ _ ⟨k, L0, L1, rfl, rfl, hk, hl, hm, h0, h1, ht⟩
  unfold t56L
  simp only [Out.OkL, Te.ev, RT.ev, TL.ev, RL.ev, syL, List.getD_cons_zero, List.getD_cons_succ, List.nil_append, List.cons_append, List.append_nil, binV, natOf, Int.toNat_natCast, Value.bool.injEq, decide_eq_true_eq, decide_eq_false_iff_not, Bool.not_eq_true', Bool.not_eq_false', Bool.not_eq_true, Bool.not_eq_false]
  refine ⟨fun hc => ⟨by omega, by omega, by omega, by omega, ⟨?_, ?_⟩, ?_⟩, fun hc => ?_⟩
  · exact toInv_next (row3 (h0 _ (getD_mem (by omega)))) (by omega) hl hm h0 h1 ht rfl
  · show mu0 _ _ < mu0 _ _
    simp only [mu0, List.getD_cons_zero, natOf]
    rw [wrap64 (by omega) (by omega)]
    omega
  · intro vs' ls' hv hl' hf
    exact hf ▸ rfl
  · show [L1] = [L0]
    have : k = L0.length := by omega
    subst this
    rw [← List.take_length (l := L0), ← ht, ← hl, List.take_length]
theorem t56S_ok : SumOk C0 56 (toS 156 154 3) := by
  refine fn_tree C0_ok ((DbOk.nil C0).addL t56L_ok) 10 10 t56_fn t56S_run t56S_b ?_
  rintro vs ls hv _ ⟨L0, rfl, hm, h0⟩
  obtain rfl := nil_of hv
  unfold t56S
  simp only [Out.OkL, Te.ev, RT.ev, TL.ev, RL.ev, syL, List.getD_cons_zero, List.getD_cons_succ, List.nil_append, List.cons_append, List.append_nil, binV, natOf, Int.toNat_natCast, Value.bool.injEq, decide_eq_true_eq, decide_eq_false_iff_not, Bool.not_eq_true', Bool.not_eq_false', Bool.not_eq_true, Bool.not_eq_false]
  refine ⟨trivial, by omega, by omega, toInv_start rfl hm h0, ?_⟩
  intro vs' ls' hv hl' hf
  exact hf ▸ rfl

theorem t103L_ok : LpOk C0 ⟨103, 0, toL 207 203 5⟩ := by
  refine loop_tree C0_ok (DbOk.nil C0) 10 10 t103_fn t103_body t103_only t103_in (fun al h => by simp [toL] at h; subst h; rfl) (by decide) (by decide) mu0 t103L_run t103L_b ?_
  rintro vs ls _ _ ⟨k, L0, L1, rfl, rfl, hk, hl, hm, h0, h1, ht⟩
  unfold t103L
  simp only [Out.OkL, Te.ev, RT.ev, TL.ev, RL.ev, syL, List.getD_cons_zero, List.getD_cons_succ, List.nil_append, List.cons_append, List.append_nil, binV, natOf, Int.toNat_natCast, Value.bool.injEq, decide_eq_true_eq, decide_eq_false_iff_not, Bool.not_eq_true', Bool.not_eq_false', Bool.not_eq_true, Bool.not_eq_false]
  refine ⟨fun hc => ⟨by omega, by omega, by omega, by omega, ⟨?_, ?_⟩, ?_⟩, fun hc => ?_⟩
  · exact toInv_next (row5 (h0 _ (getD_mem (by omega)))) (by omega) hl hm h0 h1 ht rfl
  · show mu0 _ _ < mu0 _ _
    simp only [mu0, List.getD_cons_zero, natOf]
    rw [wrap64 (by omega) (by omega)]
    omega
  · intro vs' ls' hv hl' hf
    exact hf ▸ rfl
  · show [L1] = [L0]
    have : k = L0.length := by omega
    subst this
    rw [← List.take_length (l := L0), ← ht, ← hl, List.take_length]
theorem t103S_ok : SumOk C0 103 (toS 207 203 5) := by
  refine fn_tree C0_ok ((DbOk.nil C0).addL t103L_ok) 10 10 t103_fn t103S_run t103S_b ?_
  rintro vs ls hv _ ⟨L0, rfl, hm, h0⟩
  obtain rfl := nil_of hv
  unfold t103S
  simp only [Out.OkL, Te.ev, RT.ev, TL.ev, RL.ev, syL, List.getD_cons_zero, List.getD_cons_succ, List.nil_append, List.cons_append, List.append_nil, binV, natOf, Int.toNat_natCast, Value.bool.injEq, decide_eq_true_eq, decide_eq_false_iff_not, Bool.not_eq_true', Bool.not_eq_false', Bool.not_eq_true, Bool.not_eq_false]
  refine ⟨trivial, by omega, by omega, toInv_start rfl hm h0, ?_⟩
  intro vs' ls' hv hl' hf
  exact hf ▸ rfl
end Go.Proofs.Ytdfhkmekmockkaa.Rs
