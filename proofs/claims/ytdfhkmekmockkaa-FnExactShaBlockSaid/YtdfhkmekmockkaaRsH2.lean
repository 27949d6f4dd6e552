/- Rows of whole numbers: copies, comparisons, marks: that what is told of them is so. -/
import Derived.Test.YtdfhkmekmockkaaRsH1
namespace Go.Proofs.Ytdfhkmekmockkaa.Rs
open Go.RowKit
set_option linter.unusedVariables false
set_option linter.unusedSimpArgs false
set_option maxRecDepth 100000

theorem nil_of {α : Type} {l : List α} (h : l.length = 0) : l = [] := List.eq_nil_of_length_eq_zero h
theorem row1 {e : List Value} (h : e.length = 1) : [e.getD 0 undef] = e := by
  match e, h with
  | [_], _ => rfl
theorem row2 {e : List Value} (h : e.length = 2) : [e.getD 0 undef, e.getD 1 undef] = e := by
  match e, h with
  | [_, _], _ => rfl
theorem row3 {e : List Value} (h : e.length = 3) : [e.getD 0 undef, e.getD 1 undef, e.getD 2 undef] = e := by
  match e, h with
  | [_, _, _], _ => rfl
theorem row5 {e : List Value} (h : e.length = 5) : [e.getD 0 undef, e.getD 1 undef, e.getD 2 undef, e.getD 3 undef, e.getD 4 undef] = e := by
  match e, h with
  | [_, _, _, _, _], _ => rfl
theorem row20 {e : List Value} (h : e.length = 20) : [e.getD 0 undef, e.getD 1 undef, e.getD 2 undef, e.getD 3 undef, e.getD 4 undef, e.getD 5 undef, e.getD 6 undef, e.getD 7 undef, e.getD 8 undef, e.getD 9 undef, e.getD 10 undef, e.getD 11 undef, e.getD 12 undef, e.getD 13 undef, e.getD 14 undef, e.getD 15 undef, e.getD 16 undef, e.getD 17 undef, e.getD 18 undef, e.getD 19 undef] = e := by
  match e, h with
  | [_, _, _, _, _, _, _, _, _, _, _, _, _, _, _, _, _, _, _, _], _ => rfl

theorem t25L_ok : LpOk C0 ⟨25, 0, toL 3 3 1⟩ := by
  refine loop_tree C0_ok (DbOk.nil C0) 10 10 t25_fn t25_body t25L_only t25L_in (fun al h => by simp [toL] at h; subst h; rfl) (by decide) (by decide) mu0 t25L_run t25L_b ?_
  rintro vs ls _ _ ⟨k, L0, L1, rfl, rfl, hk, hl, hm, h0, h1, ht⟩
  unfold t25L
  simp only [Out.OkL, Te.ev, RT.ev, TL.ev, RL.ev, syL, List.getD_cons_zero, List.getD_cons_succ, List.nil_append, List.cons_append, List.append_nil, binV, natOf, Int.toNat_natCast, Value.bool.injEq, decide_eq_true_eq, decide_eq_false_iff_not, Bool.not_eq_true', Bool.not_eq_false', Bool.not_eq_true, Bool.not_eq_false]
  refine ⟨fun hc => ⟨by omega, by omega, by omega, by omega, ⟨?_, ?_⟩, ?_⟩, fun hc => ?_⟩
  · exact toInv_next (row1 (h0 _ (getD_mem (by omega)))) (by omega) hl hm h0 h1 ht rfl
  · show mu0 _ _ < mu0 _ _
    simp only [mu0, List.getD_cons_zero, natOf]
    rw [wrap64 (by omega) (by omega)]
    omega
  · intro vs' ls' hv hl' hf
    exact hf ▸ rfl
  · show [L1] = [L0]
    have : k = L0.length := by omega
    subst this
    rw [← List.take_length (l := L0), ← ht, ← hl, List.take_length]
theorem t25S_ok : SumOk C0 25 (toS 3 3 1) := by
  refine fn_tree C0_ok ((DbOk.nil C0).addL t25L_ok) 10 10 t25_fn t25S_run t25S_b ?_
  rintro vs ls hv _ ⟨L0, rfl, hm, h0⟩
  obtain rfl := nil_of hv
  unfold t25S
  simp only [Out.OkL, Te.ev, RT.ev, TL.ev, RL.ev, syL, List.getD_cons_zero, List.getD_cons_succ, List.nil_append, List.cons_append, List.append_nil, binV, natOf, Int.toNat_natCast, Value.bool.injEq, decide_eq_true_eq, decide_eq_false_iff_not, Bool.not_eq_true', Bool.not_eq_false', Bool.not_eq_true, Bool.not_eq_false]
  refine ⟨trivial, by omega, by omega, toInv_start rfl hm h0, ?_⟩
  intro vs' ls' hv hl' hf
  exact hf ▸ rfl

/-- A question whose answer is no. -/
theorem ask_no {C : Cfg} {vs : List Value} {ls : List Rw} {c : Te} {y : Out} (h : c.ev (syL vs ls) = .bool false) (k : y.OkL C vs ls) : (Out.ask c .fail y).OkL C vs ls :=
  ⟨fun h' => absurd (h.symm.trans h') (by simp), fun _ => k⟩
theorem neq_cell {L : Rw} {k j z : Nat} (h : IntRows z L) (hk : k < L.length) (hj : j < z) : binV .neq ((L.getD k []).getD j undef) ((L.getD k []).getD j undef) = .bool false := by
  obtain ⟨a, ha⟩ := h.at_ hk hj
  rw [cel] at ha
  rw [ha]
  exact binV_neq_int _ _

theorem t27L_ok : LpOk C0 ⟨27, 0, eqL 3 1⟩ := by
  refine loop_tree C0_ok (DbOk.nil C0) 10 10 t27_fn t27_body t27L_only t27L_in (fun al h => by simp [eqL] at h; subst h; rfl) (by decide) (by decide) mu0 t27L_run t27L_b ?_
  rintro vs ls _ _ ⟨k, L, rfl, rfl, hk, hm, hr⟩
  unfold t27L
  refine ⟨fun hc => ?_, fun hc => trivial⟩
  simp only [Te.ev, RT.ev, syL, List.getD_cons_zero, binV, Value.bool.injEq, decide_eq_true_eq] at hc
  have hk' : k < L.length := by omega
  refine ⟨?_, ?_, ?_, ?_, ?_⟩
  iterate 4 (simp only [Te.ev, RT.ev, syL, List.getD_cons_zero, List.getD_cons_succ, binV, Value.bool.injEq, decide_eq_true_eq]; omega)
  iterate 1 (refine ask_no (neq_cell hr hk' (by decide)) ?_)
  refine ⟨⟨⟨k + 1, L, ?_, rfl, hk', hm, hr⟩, ?_⟩, fun _ _ _ _ _ => trivial⟩
  · simp only [Out.OkL, Te.ev, RT.ev, TL.ev, RL.ev, syL, List.getD_cons_zero, List.getD_cons_succ, List.nil_append, List.cons_append, List.append_nil, binV, natOf, Int.toNat_natCast, Value.bool.injEq, decide_eq_true_eq, decide_eq_false_iff_not, Bool.not_eq_true', Bool.not_eq_false', Bool.not_eq_true, Bool.not_eq_false]
    rw [wrap64 (by omega) (by omega)]
    rfl
  · show mu0 _ _ < mu0 _ _
    simp only [Out.OkL, Te.ev, RT.ev, TL.ev, RL.ev, syL, List.getD_cons_zero, List.getD_cons_succ, List.nil_append, List.cons_append, List.append_nil, binV, natOf, Int.toNat_natCast, Value.bool.injEq, decide_eq_true_eq, decide_eq_false_iff_not, Bool.not_eq_true', Bool.not_eq_false', Bool.not_eq_true, Bool.not_eq_false]
    simp only [mu0, List.getD_cons_zero, natOf]
    rw [wrap64 (by omega) (by omega)]
    omega
theorem t27S_ok : SumOk C0 27 (eqS 3 1) := by
  refine fn_tree C0_ok ((DbOk.nil C0).addL t27L_ok) 10 10 t27_fn t27S_run t27S_b ?_
  rintro vs ls hv _ ⟨L, rfl, hm, hr⟩
  obtain rfl := nil_of hv
  unfold t27S
  refine ask_no ?_ ⟨⟨0, L, rfl, rfl, Nat.zero_le _, hm, hr⟩, fun _ _ _ _ _ => trivial⟩
  simp only [Out.OkL, Te.ev, RT.ev, TL.ev, RL.ev, syL, List.getD_cons_zero, List.getD_cons_succ, List.nil_append, List.cons_append, List.append_nil, binV, natOf, Int.toNat_natCast, Value.bool.injEq, decide_eq_true_eq, decide_eq_false_iff_not, Bool.not_eq_true', Bool.not_eq_false', Bool.not_eq_true, Bool.not_eq_false]
theorem okl_ask {C : Cfg} {vs : List Value} {ls : List Rw} {c : Te} {x y : Out} (h : c.ev (syL vs ls) = .bool true → x.OkL C vs ls) (k : c.ev (syL vs ls) = .bool false → y.OkL C vs ls) : (Out.ask c x y).OkL C vs ls := ⟨h, k⟩

theorem okl_need {C : Cfg} {vs : List Value} {ls : List Rw} {c : Te} {x : Out} (h : c.ev (syL vs ls) = .bool true) (k : x.OkL C vs ls) : (Out.need c x).OkL C vs ls := ⟨h, k⟩
theorem len_set (S : Sy) (r : RT) (i : Te) (j : Nat) (cs : TL) : ((RT.set r i j cs).ev S).length = (r.ev S).length := by simp only [RT.ev, setRw_length]
theorem lss_true {a b : Int} (h : a < b) : binV .lss (.int .i64 a) (.int .i64 b) = .bool true := by simp [binV, h]
theorem leq_true {a b : Int} (h : a ≤ b) : binV .leq (.int .i64 a) (.int .i64 b) = .bool true := by simp [binV, h]
theorem add_int {a b c : Int} (h0 : 0 ≤ a + b) (h1 : a + b ≤ 2000000000000000) (h : a + b = c) : binV .add (.int .i64 a) (.int .i64 b) = .int .i64 c := by
  subst h
  simp only [binV]
  rw [wrap64 (by omega) (by omega)]
/-- A pair of a place and a bound: the place is there. -/
theorem okl_in {C : Cfg} {vs : List Value} {ls : List Rw} {c r : Te} {x : Out} {i n : Int} (hc : c.ev (syL vs ls) = .int .i64 i) (hr : r.ev (syL vs ls) = .int .i64 n) (h0 : 0 ≤ i) (h1 : i < n) (k : x.OkL C vs ls) : (Out.need (.bin .leq (.l (.int .i64 0)) c) (.need (.bin .lss c r) x)).OkL C vs ls :=
  ⟨by simp only [Te.ev]; rw [hc]; exact leq_true h0, by simp only [Te.ev]; rw [hc, hr]; exact lss_true h1, k⟩

theorem upds1 (e : List Value) (he : e.length = 1) (v0 : Value) : upd (e) 0 [v0] = [v0] := by
  match e, he with
  | [x0], _ =>
    rw [show upd [x0] 0 [v0] = [v0] from rfl]
theorem sets1 {L : Rw} {i : Nat} (hi : i < L.length) (hl : ∀ e ∈ L, e.length = 1) (v0 : Value) : setRw (L) i 0 [v0] = L.set i [v0] := by
  have h : ∀ L', L' = L.set i (L.getD i []) → setRw (L') i 0 [v0] = L.set i [v0] := by
    rintro _ rfl
    simp only [setRw_upd]
    rw [upds1 _ (hl _ (getD_mem hi))]
  exact h L (set_self hi).symm
theorem markRow1 (k : Int) : markRow 1 k = [.int .i64 k] := by
  simp [markRow, List.range_succ]
theorem t28L_ok : LpOk C0 ⟨28, 0, mkL 3 1⟩ := by
  refine loop_tree C0_ok (DbOk.nil C0) 10 10 t28_fn t28_body t28L_only t28L_in (fun al h => by simp [mkL] at h; subst h; rfl) (by decide) (by decide) mu1 t28L_run t28L_b ?_
  intro vs ls _ _ hpre
  obtain ⟨k, i, L, rfl, rfl, hi, hm, hk, hb, hl⟩ : mkInv 1 vs ls := hpre
  unfold t28L
  refine okl_ask (fun hc => ?_) (fun hc => ?_)
  · simp only [Te.ev, RT.ev, syL, List.getD_cons_zero, List.getD_cons_succ, binV, Value.bool.injEq, decide_eq_true_eq] at hc
    have hi' : i < L.length := by omega
    have hb' : k + 1 * ((L.length - (i + 1) : Nat) : Int) + 1 ≤ 1000000000000000 := by omega
    have b1 : binV .add (.int .i64 k) (.int .i64 1) = .int .i64 (k + 1) := add_int (by omega) (by omega) (by omega)
    have bi : binV .add (.int .i64 (i : Int)) (.int .i64 1) = .int .i64 ((i + 1 : Nat) : Int) := add_int (by omega) (by omega) (by omega)
    have hS : ∀ r : Rw, r.length = L.length → (Value.int .i64 ((r.length : Nat) : Int)) = .int .i64 (L.length : Int) := fun r hr => by rw [hr]
    iterate 1 (refine okl_in rfl (by simp only [Te.ev, len_set]; exact hS _ rfl) (by omega) (by omega) ?_)
    have hset : setRw L i 0 [.int .i64 k] = L.set i (markRow 1 k) := by rw [markRow1]; exact sets1 hi' hl (.int .i64 k)
    have e1 : ∀ S : Sy, S.v 0 = .int .i64 k → S.v 1 = .int .i64 (i : Int) → S.r 0 = L → True := fun _ _ _ _ => trivial
    refine ⟨⟨show mkInv 1 _ _ from ⟨k + 1, i + 1, L.set i (markRow 1 k), ?_, ?_, by rw [List.length_set]; exact hi', by rw [List.length_set]; exact hm, by omega, ?_, ?_⟩, ?_⟩, ?_⟩
    · simp only [Te.ev, TL.ev, syL, List.getD_cons_zero, List.getD_cons_succ, b1, bi]
    · simp only [Te.ev, TL.ev, RT.ev, RL.ev, syL, List.getD_cons_zero, List.getD_cons_succ, natOf, Int.toNat_natCast, b1, hset]
    · rw [List.length_set]; omega
    · intro e he
      rcases List.mem_or_eq_of_mem_set he with h | h
      · exact hl e h
      · rw [h, markRow_length]
    · show mu1 _ _ < mu1 _ _
      simp only [Te.ev, TL.ev, RT.ev, RL.ev, syL, List.getD_cons_zero, List.getD_cons_succ, mu1, natOf, Int.toNat_natCast, bi, setRw_length]
      omega
    · intro vs' ls' hv hl' hf
      obtain ⟨f1, f2⟩ := hf
      simp only [Te.ev, TL.ev, RT.ev, RL.ev, syL, List.getD_cons_zero, List.getD_cons_succ, natOf, Int.toNat_natCast, b1, bi, hset, intV, List.length_set] at f1 f2
      subst f1 f2
      refine ⟨?_, ?_⟩
      · simp only [Te.ev, TL.ev, RT.ev, RL.ev, syL, List.getD_cons_zero, List.getD_cons_succ, natOf, Int.toNat_natCast, intV, List.cons_append, List.nil_append]
        congr 2
        omega
      · have hn := mk_next (z := 1) (k := k) hi'
        simp only [Te.ev, TL.ev, RT.ev, RL.ev, syL, List.getD_cons_zero, List.getD_cons_succ, natOf, Int.toNat_natCast, intV, List.cons_append, List.nil_append]
        rw [← hn]
        rfl
  · simp only [Te.ev, RT.ev, syL, List.getD_cons_zero, List.getD_cons_succ, binV, Value.bool.injEq, decide_eq_false_iff_not] at hc
    have : i = L.length := by omega
    subst this
    refine ⟨?_, ?_⟩
    · simp [Te.ev, TL.ev, RT.ev, RL.ev, syL, natOf, intV]
    · simp [Te.ev, TL.ev, RT.ev, RL.ev, syL, natOf, intV, marks]
theorem t28S_ok : SumOk C0 28 (mkS 3 1) := by
  refine fn_tree C0_ok ((DbOk.nil C0).addL t28L_ok) 10 10 t28_fn t28S_run t28S_b ?_
  intro vs ls _ _ hpre
  obtain ⟨k, L, rfl, rfl, hm, hk, hb, hl⟩ : mkPre 1 vs ls := hpre
  unfold t28S
  refine ⟨show mkInv 1 _ _ from ⟨k, 0, L, rfl, rfl, Nat.zero_le _, hm, hk, by simpa using hb, hl⟩, fun vs' ls' hv hl' hf => ?_⟩
  obtain ⟨f1, f2⟩ := hf
  simp [Te.ev, TL.ev, RT.ev, RL.ev, syL, natOf, intV] at f1 f2
  subst f1 f2
  exact ⟨by simp [TL.ev, Te.ev, syL, intV, RL.ev, RT.ev], rfl⟩

theorem t29L_ok : LpOk C0 ⟨29, 0, hdL 3 1⟩ := by
  refine loop_tree C0_ok (DbOk.nil C0) 10 10 t29_fn t29_body t29L_only t29L_in (fun al h => by simp [hdL] at h; subst h; rfl) (by decide) (by decide) mu1 t29L_run t29L_b ?_
  intro vs ls _ _ hpre
  obtain ⟨k, i, L, rfl, rfl, hi, hm, hk, hb, hd⟩ : hdInv 1 vs ls := hpre
  unfold t29L
  refine okl_ask (fun hc => ?_) (fun hc => ?_)
  · simp only [Te.ev, RT.ev, syL, List.getD_cons_zero, List.getD_cons_succ, binV, Value.bool.injEq, decide_eq_true_eq] at hc
    have hi' : i < L.length := by omega
    obtain ⟨hL, hd'⟩ := hd_next hi' hd
    rw [markRow1] at hL
    have hb' : k + 1 * ((L.length - (i + 1) : Nat) : Int) + 1 ≤ 1000000000000000 := by omega
    have b1 : binV .add (.int .i64 k) (.int .i64 1) = .int .i64 (k + 1) := add_int (by omega) (by omega) (by omega)
    have bi : binV .add (.int .i64 (i : Int)) (.int .i64 1) = .int .i64 ((i + 1 : Nat) : Int) := add_int (by omega) (by omega) (by omega)
    iterate 1 (refine okl_in (i := (i : Int)) (n := (L.length : Int)) rfl rfl (by omega) (by omega) (ask_no (by simp only [Te.ev, RT.ev, syL, List.getD_cons_zero, List.getD_cons_succ, natOf, Int.toNat_natCast, hL, b1]; exact binV_neq_int _ _) ?_))
    refine ⟨⟨show hdInv 1 _ _ from ⟨k + 1, i + 1, L, ?_, rfl, hi', hm, by omega, by omega, hd'⟩, ?_⟩, ?_⟩
    · simp only [Te.ev, TL.ev, syL, List.getD_cons_zero, List.getD_cons_succ, b1, bi]
    · show mu1 _ _ < mu1 _ _
      simp only [Te.ev, TL.ev, RT.ev, RL.ev, syL, List.getD_cons_zero, List.getD_cons_succ, mu1, natOf, Int.toNat_natCast, bi]
      omega
    · intro vs' ls' hv hl' hf
      have f1 : vs' = _ := hf
      simp only [Te.ev, TL.ev, RT.ev, RL.ev, syL, List.getD_cons_zero, List.getD_cons_succ, natOf, Int.toNat_natCast, b1, bi, intV] at f1
      subst f1
      show [_] = [_]
      simp only [Te.ev, TL.ev, RT.ev, RL.ev, syL, List.getD_cons_zero, List.getD_cons_succ, natOf, Int.toNat_natCast, intV, List.cons_append, List.nil_append]
      congr 2
      omega
  · simp only [Te.ev, RT.ev, syL, List.getD_cons_zero, List.getD_cons_succ, binV, Value.bool.injEq, decide_eq_false_iff_not] at hc
    have : i = L.length := by omega
    subst this
    show [_] = [_]
    simp [Te.ev, TL.ev, RT.ev, RL.ev, syL, natOf, intV]
theorem t29S_ok : SumOk C0 29 (hdS 3 1) := by
  refine fn_tree C0_ok ((DbOk.nil C0).addL t29L_ok) 10 10 t29_fn t29S_run t29S_b ?_
  intro vs ls _ _ hpre
  obtain ⟨k, n, rfl, rfl, hm, hk, hb⟩ : hdPre 1 vs ls := hpre
  unfold t29S
  refine ⟨show hdInv 1 _ _ from ⟨k, 0, marks 1 k n, rfl, rfl, Nat.zero_le _, by rw [marks_length]; exact hm, hk, by simpa [marks_length] using hb, by simp [marks_length]⟩, fun vs' ls' hv hl' hf => ?_⟩
  have f1 : vs' = _ := hf
  simp [Te.ev, TL.ev, RT.ev, RL.ev, syL, natOf, intV] at f1
  subst f1
  show [_] = [_]
  simp [TL.ev, Te.ev, syL, intV, RL.ev, RT.ev]
end Go.Proofs.Ytdfhkmekmockkaa.Rs
