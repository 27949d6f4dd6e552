/- Comparisons, searches: that what is told of them is so. -/
import Derived.Test.YtdfhkmekmockkaaRsG2
namespace Go.Proofs.Ytdfhkmekmockkaa.Rs
open Go.RowKit
set_option linter.unusedVariables false
set_option linter.unusedSimpArgs false
set_option maxRecDepth 100000

/-- A question whose answer is no. -/
theorem ask_no {C : Cfg} {vs : List Value} {ls : List Rw} {c : Te} {y : Out} (h : c.ev (syL vs ls) = .bool false) (k : y.OkL C vs ls) : (Out.ask c .fail y).OkL C vs ls :=
  ⟨fun h' => absurd (h.symm.trans h') (by simp), fun _ => k⟩
theorem neq_cell {L : Rw} {k j z : Nat} (h : IntRows z L) (hk : k < L.length) (hj : j < z) : binV .neq ((L.getD k []).getD j undef) ((L.getD k []).getD j undef) = .bool false := by
  obtain ⟨a, ha⟩ := h.at_ hk hj
  rw [cel] at ha
  rw [ha]
  exact binV_neq_int _ _

theorem t104L_ok : LpOk C0 ⟨104, 0, eqL 148 20⟩ := by
  refine loop_tree C0_ok (DbOk.nil C0) 10 10 t104_fn t104_body t104_only t104_in (fun al h => by simp [eqL] at h; subst h; rfl) (by decide) (by decide) mu0 t104L_run t104L_b ?_
  rintro vs ls _ _ ⟨k, L, rfl, rfl, hk, hm, hr⟩
  unfold t104L
  refine ⟨fun hc => ?_, fun hc => trivial⟩
  simp only [Te.ev, RT.ev, syL, List.getD_cons_zero, binV, Value.bool.injEq, decide_eq_true_eq] at hc
  have hk' : k < L.length := by omega
  refine ⟨?_, ?_, ?_, ?_, ?_⟩
  iterate 4 (simp only [Te.ev, RT.ev, syL, List.getD_cons_zero, List.getD_cons_succ, binV, Value.bool.injEq, decide_eq_true_eq]; omega)
  iterate 20 (refine ask_no (neq_cell hr hk' (by decide)) ?_)
  refine ⟨⟨⟨k + 1, L, ?_, rfl, hk', hm, hr⟩, ?_⟩, fun _ _ _ _ _ => trivial⟩
  · simp only [Out.OkL, Te.ev, RT.ev, TL.ev, RL.ev, syL, List.getD_cons_zero, List.getD_cons_succ, List.nil_append, List.cons_append, List.append_nil, binV, natOf, Int.toNat_natCast, Value.bool.injEq, decide_eq_true_eq, decide_eq_false_iff_not, Bool.not_eq_true', Bool.not_eq_false', Bool.not_eq_true, Bool.not_eq_false]
    rw [wrap64 (by omega) (by omega)]
    rfl
  · show mu0 _ _ < mu0 _ _
    simp only [Out.OkL, Te.ev, RT.ev, TL.ev, RL.ev, syL, List.getD_cons_zero, List.getD_cons_succ, List.nil_append, List.cons_append, List.append_nil, binV, natOf, Int.toNat_natCast, Value.bool.injEq, decide_eq_true_eq, decide_eq_false_iff_not, Bool.not_eq_true', Bool.not_eq_false', Bool.not_eq_true, Bool.not_eq_false]
    simp only [mu0, List.getD_cons_zero, natOf]
    rw [wrap64 (by omega) (by omega)]
    omega
theorem t104S_ok : SumOk C0 104 (eqS 148 20) := by
  refine fn_tree C0_ok ((DbOk.nil C0).addL t104L_ok) 10 10 t104_fn t104S_run t104S_b ?_
  rintro vs ls hv _ ⟨L, rfl, hm, hr⟩
  obtain rfl := nil_of hv
  unfold t104S
  refine ask_no ?_ ⟨⟨0, L, rfl, rfl, Nat.zero_le _, hm, hr⟩, fun _ _ _ _ _ => trivial⟩
  simp only [Out.OkL, Te.ev, RT.ev, TL.ev, RL.ev, syL, List.getD_cons_zero, List.getD_cons_succ, List.nil_append, List.cons_append, List.append_nil, binV, natOf, Int.toNat_natCast, Value.bool.injEq, decide_eq_true_eq, decide_eq_false_iff_not, Bool.not_eq_true', Bool.not_eq_false', Bool.not_eq_true, Bool.not_eq_false]

theorem t21L_ok : LpOk C0 ⟨21, 0, eqL 109 2⟩ := by
  refine loop_tree C0_ok (DbOk.nil C0) 10 10 t21_fn t21_body t21_only t21_in (fun al h => by simp [eqL] at h; subst h; rfl) (by decide) (by decide) mu0 t21L_run t21L_b ?_
  rintro vs ls _ _ ⟨k, L, rfl, rfl, hk, hm, hr⟩
  unfold t21L
  refine ⟨fun hc => ?_, fun hc => trivial⟩
  simp only [Te.ev, RT.ev, syL, List.getD_cons_zero, binV, Value.bool.injEq, decide_eq_true_eq] at hc
  have hk' : k < L.length := by omega
  refine ⟨?_, ?_, ?_, ?_, ?_⟩
  iterate 4 (simp only [Te.ev, RT.ev, syL, List.getD_cons_zero, List.getD_cons_succ, binV, Value.bool.injEq, decide_eq_true_eq]; omega)
  iterate 2 (refine ask_no (neq_cell hr hk' (by decide)) ?_)
  refine ⟨⟨⟨k + 1, L, ?_, rfl, hk', hm, hr⟩, ?_⟩, fun _ _ _ _ _ => trivial⟩
  · simp only [Out.OkL, Te.ev, RT.ev, TL.ev, RL.ev, syL, List.getD_cons_zero, List.getD_cons_succ, List.nil_append, List.cons_append, List.append_nil, binV, natOf, Int.toNat_natCast, Value.bool.injEq, decide_eq_true_eq, decide_eq_false_iff_not, Bool.not_eq_true', Bool.not_eq_false', Bool.not_eq_true, Bool.not_eq_false]
    rw [wrap64 (by omega) (by omega)]
    rfl
  · show mu0 _ _ < mu0 _ _
    simp only [Out.OkL, Te.ev, RT.ev, TL.ev, RL.ev, syL, List.getD_cons_zero, List.getD_cons_succ, List.nil_append, List.cons_append, List.append_nil, binV, natOf, Int.toNat_natCast, Value.bool.injEq, decide_eq_true_eq, decide_eq_false_iff_not, Bool.not_eq_true', Bool.not_eq_false', Bool.not_eq_true, Bool.not_eq_false]
    simp only [mu0, List.getD_cons_zero, natOf]
    rw [wrap64 (by omega) (by omega)]
    omega
theorem t21S_ok : SumOk C0 21 (eqS 109 2) := by
  refine fn_tree C0_ok ((DbOk.nil C0).addL t21L_ok) 10 10 t21_fn t21S_run t21S_b ?_
  rintro vs ls hv _ ⟨L, rfl, hm, hr⟩
  obtain rfl := nil_of hv
  unfold t21S
  refine ask_no ?_ ⟨⟨0, L, rfl, rfl, Nat.zero_le _, hm, hr⟩, fun _ _ _ _ _ => trivial⟩
  simp only [Out.OkL, Te.ev, RT.ev, TL.ev, RL.ev, syL, List.getD_cons_zero, List.getD_cons_succ, List.nil_append, List.cons_append, List.append_nil, binV, natOf, Int.toNat_natCast, Value.bool.injEq, decide_eq_true_eq, decide_eq_false_iff_not, Bool.not_eq_true', Bool.not_eq_false', Bool.not_eq_true, Bool.not_eq_false]

theorem t58L_ok : LpOk C0 ⟨58, 0, eqL 154 3⟩ := by
  refine loop_tree C0_ok (DbOk.nil C0) 10 10 t58_fn t58_body t58_only t58_in (fun al h => by simp [eqL] at h; subst h; rfl) (by decide) (by decide) mu0 t58L_run t58L_b ?_
  rintro vs ls _ _ ⟨k, L, rfl, rfl, hk, hm, hr⟩
  unfold t58L
  refine ⟨fun hc => ?_, fun hc => trivial⟩
  simp only [Te.ev, RT.ev, syL, List.getD_cons_zero, binV, Value.bool.injEq, decide_eq_true_eq] at hc
  have hk' : k < L.length := by omega
  refine ⟨?_, ?_, ?_, ?_, ?_⟩
  iterate 4 (simp only [Te.ev, RT.ev, syL, List.getD_cons_zero, List.getD_cons_succ, binV, Value.bool.injEq, decide_eq_true_eq]; omega)
  iterate 3 (refine ask_no (neq_cell hr hk' (by decide)) ?_)
  refine ⟨⟨⟨k + 1, L, ?_, rfl, hk', hm, hr⟩, ?_⟩, fun _ _ _ _ _ => trivial⟩
  · simp only [Out.OkL, Te.ev, RT.ev, TL.ev, RL.ev, syL, List.getD_cons_zero, List.getD_cons_succ, List.nil_append, List.cons_append, List.append_nil, binV, natOf, Int.toNat_natCast, Value.bool.injEq, decide_eq_true_eq, decide_eq_false_iff_not, Bool.not_eq_true', Bool.not_eq_false', Bool.not_eq_true, Bool.not_eq_false]
    rw [wrap64 (by omega) (by omega)]
    rfl
  · show mu0 _ _ < mu0 _ _
    simp only [Out.OkL, Te.ev, RT.ev, TL.ev, RL.ev, syL, List.getD_cons_zero, List.getD_cons_succ, List.nil_append, List.cons_append, List.append_nil, binV, natOf, Int.toNat_natCast, Value.bool.injEq, decide_eq_true_eq, decide_eq_false_iff_not, Bool.not_eq_true', Bool.not_eq_false', Bool.not_eq_true, Bool.not_eq_false]
    simp only [mu0, List.getD_cons_zero, natOf]
    rw [wrap64 (by omega) (by omega)]
    omega
theorem t58S_ok : SumOk C0 58 (eqS 154 3) := by
  refine fn_tree C0_ok ((DbOk.nil C0).addL t58L_ok) 10 10 t58_fn t58S_run t58S_b ?_
  rintro vs ls hv _ ⟨L, rfl, hm, hr⟩
  obtain rfl := nil_of hv
  unfold t58S
  refine ask_no ?_ ⟨⟨0, L, rfl, rfl, Nat.zero_le _, hm, hr⟩, fun _ _ _ _ _ => trivial⟩
  simp only [Out.OkL, Te.ev, RT.ev, TL.ev, RL.ev, syL, List.getD_cons_zero, List.getD_cons_succ, List.nil_append, List.cons_append, List.append_nil, binV, natOf, Int.toNat_natCast, Value.bool.injEq, decide_eq_true_eq, decide_eq_false_iff_not, Bool.not_eq_true', Bool.not_eq_false', Bool.not_eq_true, Bool.not_eq_false]

theorem t105L_ok : LpOk C0 ⟨105, 0, eqL 203 5⟩ := by
  refine loop_tree C0_ok (DbOk.nil C0) 10 10 t105_fn t105_body t105_only t105_in (fun al h => by simp [eqL] at h; subst h; rfl) (by decide) (by decide) mu0 t105L_run t105L_b ?_
  rintro vs ls _ _ ⟨k, L, rfl, rfl, hk, hm, hr⟩
  unfold t105L
  refine ⟨fun hc => ?_, fun hc => trivial⟩
  simp only [Te.ev, RT.ev, syL, List.getD_cons_zero, binV, Value.bool.injEq, decide_eq_true_eq] at hc
  have hk' : k < L.length := by omega
  refine ⟨?_, ?_, ?_, ?_, ?_⟩
  iterate 4 (simp only [Te.ev, RT.ev, syL, List.getD_cons_zero, List.getD_cons_succ, binV, Value.bool.injEq, decide_eq_true_eq]; omega)
  iterate 5 (refine ask_no (neq_cell hr hk' (by decide)) ?_)
  refine ⟨⟨⟨k + 1, L, ?_, rfl, hk', hm, hr⟩, ?_⟩, fun _ _ _ _ _ => trivial⟩
  · simp only [Out.OkL, Te.ev, RT.ev, TL.ev, RL.ev, syL, List.getD_cons_zero, List.getD_cons_succ, List.nil_append, List.cons_append, List.append_nil, binV, natOf, Int.toNat_natCast, Value.bool.injEq, decide_eq_true_eq, decide_eq_false_iff_not, Bool.not_eq_true', Bool.not_eq_false', Bool.not_eq_true, Bool.not_eq_false]
    rw [wrap64 (by omega) (by omega)]
    rfl
  · show mu0 _ _ < mu0 _ _
    simp only [Out.OkL, Te.ev, RT.ev, TL.ev, RL.ev, syL, List.getD_cons_zero, List.getD_cons_succ, List.nil_append, List.cons_append, List.append_nil, binV, natOf, Int.toNat_natCast, Value.bool.injEq, decide_eq_true_eq, decide_eq_false_iff_not, Bool.not_eq_true', Bool.not_eq_false', Bool.not_eq_true, Bool.not_eq_false]
    simp only [mu0, List.getD_cons_zero, natOf]
    rw [wrap64 (by omega) (by omega)]
    omega
theorem t105S_ok : SumOk C0 105 (eqS 203 5) := by
  refine fn_tree C0_ok ((DbOk.nil C0).addL t105L_ok) 10 10 t105_fn t105S_run t105S_b ?_
  rintro vs ls hv _ ⟨L, rfl, hm, hr⟩
  obtain rfl := nil_of hv
  unfold t105S
  refine ask_no ?_ ⟨⟨0, L, rfl, rfl, Nat.zero_le _, hm, hr⟩, fun _ _ _ _ _ => trivial⟩
  simp only [Out.OkL, Te.ev, RT.ev, TL.ev, RL.ev, syL, List.getD_cons_zero, List.getD_cons_succ, List.nil_append, List.cons_append, List.append_nil, binV, natOf, Int.toNat_natCast, Value.bool.injEq, decide_eq_true_eq, decide_eq_false_iff_not, Bool.not_eq_true', Bool.not_eq_false', Bool.not_eq_true, Bool.not_eq_false]

def mu50 (vs : List Value) (ls : List Rw) : Nat := (ls.getD 0 []).length - natOf (vs.getD 1 undef)
theorem t50L_ok : LpOk C0 ⟨50, 0, sa1L⟩ := by
  refine loop_tree C0_ok (DbOk.nil C0) 10 10 t50_fn t50_body t50_only t50_in (fun al h => by simp [sa1L] at h; rcases h with h | h <;> subst h <;> rfl) (by decide) (by decide) mu50 t50L_run t50L_b ?_
  rintro vs ls _ _ ⟨k, c, a, b, L, rfl, rfl, hk, hm, hr, hn⟩
  unfold t50L
  refine ⟨fun hc => ?_, fun hc => ?_⟩
  · simp only [Te.ev, RT.ev, syL, List.getD_cons_zero, List.getD_cons_succ, binV, Value.bool.injEq, decide_eq_true_eq] at hc
    have hk' : k < L.length := by omega
    obtain ⟨x, hx⟩ := hr.at_ hk' (show 0 < 20 by decide)
    have hx' : (L.getD k []).getD 0 undef = .int .i64 x := hx
    refine ⟨?_, ?_, ?_⟩
    iterate 2 (simp only [Te.ev, RT.ev, syL, List.getD_cons_zero, List.getD_cons_succ, binV, Value.bool.injEq, decide_eq_true_eq]; omega)
    refine ⟨fun he => ?_, fun he => ?_⟩
    · simp only [Te.ev, RT.ev, syL, List.getD_cons_zero, List.getD_cons_succ, natOf, Int.toNat_natCast, hx', binV, Value.bool.injEq, decide_eq_true_eq] at he
      subst he
      exact ⟨k, rfl, hk', hx, hn⟩
    · simp only [Te.ev, RT.ev, syL, List.getD_cons_zero, List.getD_cons_succ, natOf, Int.toNat_natCast, hx', binV, Value.bool.injEq, decide_eq_false_iff_not] at he
      refine ⟨⟨⟨k + 1, c, a, b, L, ?_, rfl, hk', hm, hr, ?_⟩, ?_⟩, fun vs' ls' hv hl hf => ?_, fun vs' ls' hv hl hf => ?_⟩
      · simp only [Out.OkL, Te.ev, RT.ev, TL.ev, RL.ev, syL, List.getD_cons_zero, List.getD_cons_succ, List.nil_append, List.cons_append, List.append_nil, binV, natOf, Int.toNat_natCast, Value.bool.injEq, decide_eq_true_eq, decide_eq_false_iff_not, Bool.not_eq_true', Bool.not_eq_false', Bool.not_eq_true, Bool.not_eq_false]
        rw [wrap64 (by omega) (by omega)]
        rfl
      · intro j hj
        rcases Nat.lt_or_ge j k with h | h
        · exact hn j h
        · obtain rfl : j = k := by omega
          rw [hx]
          intro h
          exact he (Value.int.inj h).2
      · show mu50 _ _ < mu50 _ _
        simp only [Out.OkL, Te.ev, RT.ev, TL.ev, RL.ev, syL, List.getD_cons_zero, List.getD_cons_succ, List.nil_append, List.cons_append, List.append_nil, binV, natOf, Int.toNat_natCast, Value.bool.injEq, decide_eq_true_eq, decide_eq_false_iff_not, Bool.not_eq_true', Bool.not_eq_false', Bool.not_eq_true, Bool.not_eq_false]
        simp only [mu50, List.getD_cons_zero, List.getD_cons_succ, natOf]
        rw [wrap64 (by omega) (by omega)]
        omega
      · obtain ⟨i, rfl, hi⟩ := hf
        exact ⟨i, rfl, hi⟩
      · exact hf
  · simp only [Te.ev, RT.ev, syL, List.getD_cons_zero, List.getD_cons_succ, binV, Value.bool.injEq, decide_eq_false_iff_not] at hc
    have : k = L.length := by omega
    subst this
    exact hn

def mu52 (vs : List Value) (ls : List Rw) : Nat := (ls.getD 0 []).length - natOf (vs.getD 2 undef)
theorem t52L_ok : LpOk C0 ⟨52, 0, sa2L⟩ := by
  refine loop_tree C0_ok (DbOk.nil C0) 10 10 t52_fn t52_body t52_only t52_in (fun al h => by simp [sa2L] at h; rcases h with h | h <;> subst h <;> rfl) (by decide) (by decide) mu52 t52L_run t52L_b ?_
  rintro vs ls _ _ ⟨k, c, L, rfl, rfl, hk, hm, hr, hn⟩
  unfold t52L
  refine ⟨fun hc => ?_, fun hc => ?_⟩
  · simp only [Te.ev, RT.ev, syL, List.getD_cons_zero, List.getD_cons_succ, binV, Value.bool.injEq, decide_eq_true_eq] at hc
    have hk' : k < L.length := by omega
    obtain ⟨x, hx⟩ := hr.at_ hk' (show 0 < 20 by decide)
    have hx' : (L.getD k []).getD 0 undef = .int .i64 x := hx
    refine ⟨?_, ?_, ?_⟩
    iterate 2 (simp only [Te.ev, RT.ev, syL, List.getD_cons_zero, List.getD_cons_succ, binV, Value.bool.injEq, decide_eq_true_eq]; omega)
    refine ⟨fun he => ?_, fun he => ?_⟩
    · simp only [Te.ev, RT.ev, syL, List.getD_cons_zero, List.getD_cons_succ, natOf, Int.toNat_natCast, hx', binV, Value.bool.injEq, decide_eq_true_eq] at he
      subst he
      exact ⟨k, rfl, hk', hx, hn⟩
    · simp only [Te.ev, RT.ev, syL, List.getD_cons_zero, List.getD_cons_succ, natOf, Int.toNat_natCast, hx', binV, Value.bool.injEq, decide_eq_false_iff_not] at he
      refine ⟨⟨⟨k + 1, c, L, ?_, rfl, hk', hm, hr, ?_⟩, ?_⟩, fun vs' ls' hv hl hf => ?_, fun vs' ls' hv hl hf => ?_⟩
      · simp only [Out.OkL, Te.ev, RT.ev, TL.ev, RL.ev, syL, List.getD_cons_zero, List.getD_cons_succ, List.nil_append, List.cons_append, List.append_nil, binV, natOf, Int.toNat_natCast, Value.bool.injEq, decide_eq_true_eq, decide_eq_false_iff_not, Bool.not_eq_true', Bool.not_eq_false', Bool.not_eq_true, Bool.not_eq_false]
        rw [wrap64 (by omega) (by omega)]
        rfl
      · intro j hj
        rcases Nat.lt_or_ge j k with h | h
        · exact hn j h
        · obtain rfl : j = k := by omega
          rw [hx]
          intro h
          exact he (Value.int.inj h).2
      · show mu52 _ _ < mu52 _ _
        simp only [Out.OkL, Te.ev, RT.ev, TL.ev, RL.ev, syL, List.getD_cons_zero, List.getD_cons_succ, List.nil_append, List.cons_append, List.append_nil, binV, natOf, Int.toNat_natCast, Value.bool.injEq, decide_eq_true_eq, decide_eq_false_iff_not, Bool.not_eq_true', Bool.not_eq_false', Bool.not_eq_true, Bool.not_eq_false]
        simp only [mu52, List.getD_cons_zero, List.getD_cons_succ, natOf]
        rw [wrap64 (by omega) (by omega)]
        omega
      · obtain ⟨i, rfl, hi⟩ := hf
        exact ⟨i, rfl, hi⟩
      · exact hf
  · simp only [Te.ev, RT.ev, syL, List.getD_cons_zero, List.getD_cons_succ, binV, Value.bool.injEq, decide_eq_false_iff_not] at hc
    have : k = L.length := by omega
    subst this
    exact hn
end Go.Proofs.Ytdfhkmekmockkaa.Rs
