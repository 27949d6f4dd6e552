/- Marks: that what is told of them is so. -/
import Derived.Test.YtdfhkmekmockkaaRsG3
namespace Go.Proofs.Ytdfhkmekmockkaa.Rs
open Go.RowKit
set_option linter.unusedVariables false
set_option linter.unusedSimpArgs false
set_option maxRecDepth 100000
theorem okl_ask {C : Cfg} {vs : List Value} {ls : List Rw} {c : Te} {x y : Out} (h : c.ev (syL vs ls) = .bool true → x.OkL C vs ls) (k : c.ev (syL vs ls) = .bool false → y.OkL C vs ls) : (Out.ask c x y).OkL C vs ls := ⟨h, k⟩

theorem okl_need {C : Cfg} {vs : List Value} {ls : List Rw} {c : Te} {x : Out} (h : c.ev (syL vs ls) = .bool true) (k : x.OkL C vs ls) : (Out.need c x).OkL C vs ls := ⟨h, k⟩
theorem len_set (S : Sy) (r : RT) (i : Te) (j : Nat) (cs : TL) : ((RT.set r i j cs).ev S).length = (r.ev S).length := by simp only [RT.ev, setRw_length]
theorem lss_true {a b : Int} (h : a < b) : binV .lss (.int .i64 a) (.int .i64 b) = .bool true := by simp [binV, h]
theorem leq_true {a b : Int} (h : a ≤ b) : binV .leq (.int .i64 a) (.int .i64 b) = .bool true := by simp [binV, h]
theorem add_int {a b c : Int} (h0 : 0 ≤ a + b) (h1 : a + b ≤ 2000000000000000) (h : a + b = c) : binV .add (.int .i64 a) (.int .i64 b) = .int .i64 c := by
  subst h
  simp only [binV]
  rw [wrap64 (by omega) (by omega)]
/-- A pair of a place and a bound: the place is there. -/
theorem okl_in {C : Cfg} {vs : List Value} {ls : List Rw} {c r : Te} {x : Out} {i n : Int} (hc : c.ev (syL vs ls) = .int .i64 i) (hr : r.ev (syL vs ls) = .int .i64 n) (h0 : 0 ≤ i) (h1 : i < n) (k : x.OkL C vs ls) : (Out.need (.bin .leq (.l (.int .i64 0)) c) (.need (.bin .lss c r) x)).OkL C vs ls :=
  ⟨by simp only [Te.ev]; rw [hc]; exact leq_true h0, by simp only [Te.ev]; rw [hc, hr]; exact lss_true h1, k⟩

theorem upds2 (e : List Value) (he : e.length = 2) (v0 v1 : Value) : upd (upd (e) 0 [v0]) 1 [v1] = [v0, v1] := by
  match e, he with
  | [x0, x1], _ =>
    rw [show upd [x0, x1] 0 [v0] = [v0, x1] from rfl]
    rw [show upd [v0, x1] 1 [v1] = [v0, v1] from rfl]
theorem sets2 {L : Rw} {i : Nat} (hi : i < L.length) (hl : ∀ e ∈ L, e.length = 2) (v0 v1 : Value) : setRw (setRw (L) i 0 [v0]) i 1 [v1] = L.set i [v0, v1] := by
  have h : ∀ L', L' = L.set i (L.getD i []) → setRw (setRw (L') i 0 [v0]) i 1 [v1] = L.set i [v0, v1] := by
    rintro _ rfl
    simp only [setRw_upd]
    rw [upds2 _ (hl _ (getD_mem hi))]
  exact h L (set_self hi).symm
theorem markRow2 (k : Int) : markRow 2 k = [.int .i64 k, .int .i64 (k + 1)] := by
  simp [markRow, List.range_succ]
theorem t22L_ok : LpOk C0 ⟨22, 0, mkL 109 2⟩ := by
  refine loop_tree C0_ok (DbOk.nil C0) 10 10 t22_fn t22_body t22_only t22_in (fun al h => by simp [mkL] at h; subst h; rfl) (by decide) (by decide) mu1 t22L_run t22L_b ?_
  intro vs ls _ _ hpre
  obtain ⟨k, i, L, rfl, rfl, hi, hm, hk, hb, hl⟩ : mkInv 2 vs ls := hpre
  unfold t22L
  refine okl_ask (fun hc => ?_) (fun hc => ?_)
  · simp only [Te.ev, RT.ev, syL, List.getD_cons_zero, List.getD_cons_succ, binV, Value.bool.injEq, decide_eq_true_eq] at hc
    have hi' : i < L.length := by omega
    have hb' : k + 2 * ((L.length - (i + 1) : Nat) : Int) + 2 ≤ 1000000000000000 := by omega
    have b1 : binV .add (.int .i64 k) (.int .i64 1) = .int .i64 (k + 1) := add_int (by omega) (by omega) (by omega)
    have b2 : binV .add (.int .i64 (k + 1)) (.int .i64 1) = .int .i64 (k + 2) := add_int (by omega) (by omega) (by omega)
    have bi : binV .add (.int .i64 (i : Int)) (.int .i64 1) = .int .i64 ((i + 1 : Nat) : Int) := add_int (by omega) (by omega) (by omega)
    have hS : ∀ r : Rw, r.length = L.length → (Value.int .i64 ((r.length : Nat) : Int)) = .int .i64 (L.length : Int) := fun r hr => by rw [hr]
    iterate 2 (refine okl_in rfl (by simp only [Te.ev, len_set]; exact hS _ rfl) (by omega) (by omega) ?_)
    have hset := sets2 hi' hl (.int .i64 k) (.int .i64 (k + 1))
    rw [← markRow2] at hset
    have e1 : ∀ S : Sy, S.v 0 = .int .i64 k → S.v 1 = .int .i64 (i : Int) → S.r 0 = L → True := fun _ _ _ _ => trivial
    refine ⟨⟨show mkInv 2 _ _ from ⟨k + 2, i + 1, L.set i (markRow 2 k), ?_, ?_, by rw [List.length_set]; exact hi', by rw [List.length_set]; exact hm, by omega, ?_, ?_⟩, ?_⟩, ?_⟩
    · simp only [Te.ev, TL.ev, syL, List.getD_cons_zero, List.getD_cons_succ, b1, b2, bi]
    · simp only [Te.ev, TL.ev, RT.ev, RL.ev, syL, List.getD_cons_zero, List.getD_cons_succ, natOf, Int.toNat_natCast, b1, b2, hset]
    · rw [List.length_set]; omega
    · intro e he
      rcases List.mem_or_eq_of_mem_set he with h | h
      · exact hl e h
      · rw [h, markRow_length]
    · show mu1 _ _ < mu1 _ _
      simp only [Te.ev, TL.ev, RT.ev, RL.ev, syL, List.getD_cons_zero, List.getD_cons_succ, mu1, natOf, Int.toNat_natCast, bi, setRw_length]
      omega
    · intro vs' ls' hv hl' hf
      obtain ⟨f1, f2⟩ := hf
      simp only [Te.ev, TL.ev, RT.ev, RL.ev, syL, List.getD_cons_zero, List.getD_cons_succ, natOf, Int.toNat_natCast, b1, b2, bi, hset, intV, List.length_set] at f1 f2
      subst f1 f2
      refine ⟨?_, ?_⟩
      · simp only [Te.ev, TL.ev, RT.ev, RL.ev, syL, List.getD_cons_zero, List.getD_cons_succ, natOf, Int.toNat_natCast, intV, List.cons_append, List.nil_append]
        congr 2
        omega
      · have hn := mk_next (z := 2) (k := k) hi'
        simp only [Te.ev, TL.ev, RT.ev, RL.ev, syL, List.getD_cons_zero, List.getD_cons_succ, natOf, Int.toNat_natCast, intV, List.cons_append, List.nil_append]
        rw [← hn]
        rfl
  · simp only [Te.ev, RT.ev, syL, List.getD_cons_zero, List.getD_cons_succ, binV, Value.bool.injEq, decide_eq_false_iff_not] at hc
    have : i = L.length := by omega
    subst this
    refine ⟨?_, ?_⟩
    · simp [Te.ev, TL.ev, RT.ev, RL.ev, syL, natOf, intV]
    · simp [Te.ev, TL.ev, RT.ev, RL.ev, syL, natOf, intV, marks]
theorem t22S_ok : SumOk C0 22 (mkS 109 2) := by
  refine fn_tree C0_ok ((DbOk.nil C0).addL t22L_ok) 10 10 t22_fn t22S_run t22S_b ?_
  intro vs ls _ _ hpre
  obtain ⟨k, L, rfl, rfl, hm, hk, hb, hl⟩ : mkPre 2 vs ls := hpre
  unfold t22S
  refine ⟨show mkInv 2 _ _ from ⟨k, 0, L, rfl, rfl, Nat.zero_le _, hm, hk, by simpa using hb, hl⟩, fun vs' ls' hv hl' hf => ?_⟩
  obtain ⟨f1, f2⟩ := hf
  simp [Te.ev, TL.ev, RT.ev, RL.ev, syL, natOf, intV] at f1 f2
  subst f1 f2
  exact ⟨rfl, rfl⟩

theorem upds3 (e : List Value) (he : e.length = 3) (v0 v1 v2 : Value) : upd (upd (upd (e) 0 [v0]) 1 [v1]) 2 [v2] = [v0, v1, v2] := by
  match e, he with
  | [x0, x1, x2], _ =>
    rw [show upd [x0, x1, x2] 0 [v0] = [v0, x1, x2] from rfl]
    rw [show upd [v0, x1, x2] 1 [v1] = [v0, v1, x2] from rfl]
    rw [show upd [v0, v1, x2] 2 [v2] = [v0, v1, v2] from rfl]
theorem sets3 {L : Rw} {i : Nat} (hi : i < L.length) (hl : ∀ e ∈ L, e.length = 3) (v0 v1 v2 : Value) : setRw (setRw (setRw (L) i 0 [v0]) i 1 [v1]) i 2 [v2] = L.set i [v0, v1, v2] := by
  have h : ∀ L', L' = L.set i (L.getD i []) → setRw (setRw (setRw (L') i 0 [v0]) i 1 [v1]) i 2 [v2] = L.set i [v0, v1, v2] := by
    rintro _ rfl
    simp only [setRw_upd]
    rw [upds3 _ (hl _ (getD_mem hi))]
  exact h L (set_self hi).symm
theorem markRow3 (k : Int) : markRow 3 k = [.int .i64 k, .int .i64 (k + 1), .int .i64 (k + 2)] := by
  simp [markRow, List.range_succ]
theorem t59L_ok : LpOk C0 ⟨59, 0, mkL 154 3⟩ := by
  refine loop_tree C0_ok (DbOk.nil C0) 10 10 t59_fn t59_body t59_only t59_in (fun al h => by simp [mkL] at h; subst h; rfl) (by decide) (by decide) mu1 t59L_run t59L_b ?_
  intro vs ls _ _ hpre
  obtain ⟨k, i, L, rfl, rfl, hi, hm, hk, hb, hl⟩ : mkInv 3 vs ls := hpre
  unfold t59L
  refine okl_ask (fun hc => ?_) (fun hc => ?_)
  · simp only [Te.ev, RT.ev, syL, List.getD_cons_zero, List.getD_cons_succ, binV, Value.bool.injEq, decide_eq_true_eq] at hc
    have hi' : i < L.length := by omega
    have hb' : k + 3 * ((L.length - (i + 1) : Nat) : Int) + 3 ≤ 1000000000000000 := by omega
    have b1 : binV .add (.int .i64 k) (.int .i64 1) = .int .i64 (k + 1) := add_int (by omega) (by omega) (by omega)
    have b2 : binV .add (.int .i64 (k + 1)) (.int .i64 1) = .int .i64 (k + 2) := add_int (by omega) (by omega) (by omega)
    have b3 : binV .add (.int .i64 (k + 2)) (.int .i64 1) = .int .i64 (k + 3) := add_int (by omega) (by omega) (by omega)
    have bi : binV .add (.int .i64 (i : Int)) (.int .i64 1) = .int .i64 ((i + 1 : Nat) : Int) := add_int (by omega) (by omega) (by omega)
    have hS : ∀ r : Rw, r.length = L.length → (Value.int .i64 ((r.length : Nat) : Int)) = .int .i64 (L.length : Int) := fun r hr => by rw [hr]
    iterate 3 (refine okl_in rfl (by simp only [Te.ev, len_set]; exact hS _ rfl) (by omega) (by omega) ?_)
    have hset := sets3 hi' hl (.int .i64 k) (.int .i64 (k + 1)) (.int .i64 (k + 2))
    rw [← markRow3] at hset
    have e1 : ∀ S : Sy, S.v 0 = .int .i64 k → S.v 1 = .int .i64 (i : Int) → S.r 0 = L → True := fun _ _ _ _ => trivial
    refine ⟨⟨show mkInv 3 _ _ from ⟨k + 3, i + 1, L.set i (markRow 3 k), ?_, ?_, by rw [List.length_set]; exact hi', by rw [List.length_set]; exact hm, by omega, ?_, ?_⟩, ?_⟩, ?_⟩
    · simp only [Te.ev, TL.ev, syL, List.getD_cons_zero, List.getD_cons_succ, b1, b2, b3, bi]
    · simp only [Te.ev, TL.ev, RT.ev, RL.ev, syL, List.getD_cons_zero, List.getD_cons_succ, natOf, Int.toNat_natCast, b1, b2, b3, hset]
    · rw [List.length_set]; omega
    · intro e he
      rcases List.mem_or_eq_of_mem_set he with h | h
      · exact hl e h
      · rw [h, markRow_length]
    · show mu1 _ _ < mu1 _ _
      simp only [Te.ev, TL.ev, RT.ev, RL.ev, syL, List.getD_cons_zero, List.getD_cons_succ, mu1, natOf, Int.toNat_natCast, bi, setRw_length]
      omega
    · intro vs' ls' hv hl' hf
      obtain ⟨f1, f2⟩ := hf
      simp only [Te.ev, TL.ev, RT.ev, RL.ev, syL, List.getD_cons_zero, List.getD_cons_succ, natOf, Int.toNat_natCast, b1, b2, b3, bi, hset, intV, List.length_set] at f1 f2
      subst f1 f2
      refine ⟨?_, ?_⟩
      · simp only [Te.ev, TL.ev, RT.ev, RL.ev, syL, List.getD_cons_zero, List.getD_cons_succ, natOf, Int.toNat_natCast, intV, List.cons_append, List.nil_append]
        congr 2
        omega
      · have hn := mk_next (z := 3) (k := k) hi'
        simp only [Te.ev, TL.ev, RT.ev, RL.ev, syL, List.getD_cons_zero, List.getD_cons_succ, natOf, Int.toNat_natCast, intV, List.cons_append, List.nil_append]
        rw [← hn]
        rfl
  · simp only [Te.ev, RT.ev, syL, List.getD_cons_zero, List.getD_cons_succ, binV, Value.bool.injEq, decide_eq_false_iff_not] at hc
    have : i = L.length := by omega
    subst this
    refine ⟨?_, ?_⟩
    · simp [Te.ev, TL.ev, RT.ev, RL.ev, syL, natOf, intV]
    · simp [Te.ev, TL.ev, RT.ev, RL.ev, syL, natOf, intV, marks]
theorem t59S_ok : SumOk C0 59 (mkS 154 3) := by
  refine fn_tree C0_ok ((DbOk.nil C0).addL t59L_ok) 10 10 t59_fn t59S_run t59S_b ?_
  intro vs ls _ _ hpre
  obtain ⟨k, L, rfl, rfl, hm, hk, hb, hl⟩ : mkPre 3 vs ls := hpre
  unfold t59S
  refine ⟨show mkInv 3 _ _ from ⟨k, 0, L, rfl, rfl, Nat.zero_le _, hm, hk, by simpa using hb, hl⟩, fun vs' ls' hv hl' hf => ?_⟩
  obtain ⟨f1, f2⟩ := hf
  simp [Te.ev, TL.ev, RT.ev, RL.ev, syL, natOf, intV] at f1 f2
  subst f1 f2
  exact ⟨rfl, rfl⟩

theorem upds5 (e : List Value) (he : e.length = 5) (v0 v1 v2 v3 v4 : Value) : upd (upd (upd (upd (upd (e) 0 [v0]) 1 [v1]) 2 [v2]) 3 [v3]) 4 [v4] = [v0, v1, v2, v3, v4] := by
  match e, he with
  | [x0, x1, x2, x3, x4], _ =>
    rw [show upd [x0, x1, x2, x3, x4] 0 [v0] = [v0, x1, x2, x3, x4] from rfl]
    rw [show upd [v0, x1, x2, x3, x4] 1 [v1] = [v0, v1, x2, x3, x4] from rfl]
    rw [show upd [v0, v1, x2, x3, x4] 2 [v2] = [v0, v1, v2, x3, x4] from rfl]
    rw [show upd [v0, v1, v2, x3, x4] 3 [v3] = [v0, v1, v2, v3, x4] from rfl]
    rw [show upd [v0, v1, v2, v3, x4] 4 [v4] = [v0, v1, v2, v3, v4] from rfl]
theorem sets5 {L : Rw} {i : Nat} (hi : i < L.length) (hl : ∀ e ∈ L, e.length = 5) (v0 v1 v2 v3 v4 : Value) : setRw (setRw (setRw (setRw (setRw (L) i 0 [v0]) i 1 [v1]) i 2 [v2]) i 3 [v3]) i 4 [v4] = L.set i [v0, v1, v2, v3, v4] := by
  have h : ∀ L', L' = L.set i (L.getD i []) → setRw (setRw (setRw (setRw (setRw (L') i 0 [v0]) i 1 [v1]) i 2 [v2]) i 3 [v3]) i 4 [v4] = L.set i [v0, v1, v2, v3, v4] := by
    rintro _ rfl
    simp only [setRw_upd]
    rw [upds5 _ (hl _ (getD_mem hi))]
  exact h L (set_self hi).symm
theorem markRow5 (k : Int) : markRow 5 k = [.int .i64 k, .int .i64 (k + 1), .int .i64 (k + 2), .int .i64 (k + 3), .int .i64 (k + 4)] := by
  simp [markRow, List.range_succ]
theorem t109L_ok : LpOk C0 ⟨109, 0, mkL 203 5⟩ := by
  refine loop_tree C0_ok (DbOk.nil C0) 10 10 t109_fn t109_body t109_only t109_in (fun al h => by simp [mkL] at h; subst h; rfl) (by decide) (by decide) mu1 t109L_run t109L_b ?_
  intro vs ls _ _ hpre
  obtain ⟨k, i, L, rfl, rfl, hi, hm, hk, hb, hl⟩ : mkInv 5 vs ls := hpre
  unfold t109L
  refine okl_ask (fun hc => ?_) (fun hc => ?_)
  · simp only [Te.ev, RT.ev, syL, List.getD_cons_zero, List.getD_cons_succ, binV, Value.bool.injEq, decide_eq_true_eq] at hc
    have hi' : i < L.length := by omega
    have hb' : k + 5 * ((L.length - (i + 1) : Nat) : Int) + 5 ≤ 1000000000000000 := by omega
    have b1 : binV .add (.int .i64 k) (.int .i64 1) = .int .i64 (k + 1) := add_int (by omega) (by omega) (by omega)
    have b2 : binV .add (.int .i64 (k + 1)) (.int .i64 1) = .int .i64 (k + 2) := add_int (by omega) (by omega) (by omega)
    have b3 : binV .add (.int .i64 (k + 2)) (.int .i64 1) = .int .i64 (k + 3) := add_int (by omega) (by omega) (by omega)
    have b4 : binV .add (.int .i64 (k + 3)) (.int .i64 1) = .int .i64 (k + 4) := add_int (by omega) (by omega) (by omega)
    have b5 : binV .add (.int .i64 (k + 4)) (.int .i64 1) = .int .i64 (k + 5) := add_int (by omega) (by omega) (by omega)
    have bi : binV .add (.int .i64 (i : Int)) (.int .i64 1) = .int .i64 ((i + 1 : Nat) : Int) := add_int (by omega) (by omega) (by omega)
    have hS : ∀ r : Rw, r.length = L.length → (Value.int .i64 ((r.length : Nat) : Int)) = .int .i64 (L.length : Int) := fun r hr => by rw [hr]
    iterate 5 (refine okl_in rfl (by simp only [Te.ev, len_set]; exact hS _ rfl) (by omega) (by omega) ?_)
    have hset := sets5 hi' hl (.int .i64 k) (.int .i64 (k + 1)) (.int .i64 (k + 2)) (.int .i64 (k + 3)) (.int .i64 (k + 4))
    rw [← markRow5] at hset
    have e1 : ∀ S : Sy, S.v 0 = .int .i64 k → S.v 1 = .int .i64 (i : Int) → S.r 0 = L → True := fun _ _ _ _ => trivial
    refine ⟨⟨show mkInv 5 _ _ from ⟨k + 5, i + 1, L.set i (markRow 5 k), ?_, ?_, by rw [List.length_set]; exact hi', by rw [List.length_set]; exact hm, by omega, ?_, ?_⟩, ?_⟩, ?_⟩
    · simp only [Te.ev, TL.ev, syL, List.getD_cons_zero, List.getD_cons_succ, b1, b2, b3, b4, b5, bi]
    · simp only [Te.ev, TL.ev, RT.ev, RL.ev, syL, List.getD_cons_zero, List.getD_cons_succ, natOf, Int.toNat_natCast, b1, b2, b3, b4, b5, hset]
    · rw [List.length_set]; omega
    · intro e he
      rcases List.mem_or_eq_of_mem_set he with h | h
      · exact hl e h
      · rw [h, markRow_length]
    · show mu1 _ _ < mu1 _ _
      simp only [Te.ev, TL.ev, RT.ev, RL.ev, syL, List.getD_cons_zero, List.getD_cons_succ, mu1, natOf, Int.toNat_natCast, bi, setRw_length]
      omega
    · intro vs' ls' hv hl' hf
      obtain ⟨f1, f2⟩ := hf
      simp only [Te.ev, TL.ev, RT.ev, RL.ev, syL, List.getD_cons_zero, List.getD_cons_succ, natOf, Int.toNat_natCast, b1, b2, b3, b4, b5, bi, hset, intV, List.length_set] at f1 f2
      subst f1 f2
      refine ⟨?_, ?_⟩
      · simp only [Te.ev, TL.ev, RT.ev, RL.ev, syL, List.getD_cons_zero, List.getD_cons_succ, natOf, Int.toNat_natCast, intV, List.cons_append, List.nil_append]
        congr 2
        omega
      · have hn := mk_next (z := 5) (k := k) hi'
        simp only [Te.ev, TL.ev, RT.ev, RL.ev, syL, List.getD_cons_zero, List.getD_cons_succ, natOf, Int.toNat_natCast, intV, List.cons_append, List.nil_append]
        rw [← hn]
        rfl
  · simp only [Te.ev, RT.ev, syL, List.getD_cons_zero, List.getD_cons_succ, binV, Value.bool.injEq, decide_eq_false_iff_not] at hc
    have : i = L.length := by omega
    subst this
    refine ⟨?_, ?_⟩
    · simp [Te.ev, TL.ev, RT.ev, RL.ev, syL, natOf, intV]
    · simp [Te.ev, TL.ev, RT.ev, RL.ev, syL, natOf, intV, marks]
theorem t109S_ok : SumOk C0 109 (mkS 203 5) := by
  refine fn_tree C0_ok ((DbOk.nil C0).addL t109L_ok) 10 10 t109_fn t109S_run t109S_b ?_
  intro vs ls _ _ hpre
  obtain ⟨k, L, rfl, rfl, hm, hk, hb, hl⟩ : mkPre 5 vs ls := hpre
  unfold t109S
  refine ⟨show mkInv 5 _ _ from ⟨k, 0, L, rfl, rfl, Nat.zero_le _, hm, hk, by simpa using hb, hl⟩, fun vs' ls' hv hl' hf => ?_⟩
  obtain ⟨f1, f2⟩ := hf
  simp [Te.ev, TL.ev, RT.ev, RL.ev, syL, natOf, intV] at f1 f2
  subst f1 f2
  exact ⟨rfl, rfl⟩

theorem upds20 (e : List Value) (he : e.length = 20) (v0 v1 v2 v3 v4 v5 v6 v7 v8 v9 v10 v11 v12 v13 v14 v15 v16 v17 v18 v19 : Value) : upd (upd (upd (upd (upd (upd (upd (upd (upd (upd (upd (upd (upd (upd (upd (upd (upd (upd (upd (upd (e) 0 [v0]) 1 [v1]) 2 [v2]) 3 [v3]) 4 [v4]) 5 [v5]) 6 [v6]) 7 [v7]) 8 [v8]) 9 [v9]) 10 [v10]) 11 [v11]) 12 [v12]) 13 [v13]) 14 [v14]) 15 [v15]) 16 [v16]) 17 [v17]) 18 [v18]) 19 [v19] = [v0, v1, v2, v3, v4, v5, v6, v7, v8, v9, v10, v11, v12, v13, v14, v15, v16, v17, v18, v19] := by
  match e, he with
  | [x0, x1, x2, x3, x4, x5, x6, x7, x8, x9, x10, x11, x12, x13, x14, x15, x16, x17, x18, x19], _ =>
    rw [show upd [x0, x1, x2, x3, x4, x5, x6, x7, x8, x9, x10, x11, x12, x13, x14, x15, x16, x17, x18, x19] 0 [v0] = [v0, x1, x2, x3, x4, x5, x6, x7, x8, x9, x10, x11, x12, x13, x14, x15, x16, x17, x18, x19] from rfl]
    rw [show upd [v0, x1, x2, x3, x4, x5, x6, x7, x8, x9, x10, x11, x12, x13, x14, x15, x16, x17, x18, x19] 1 [v1] = [v0, v1, x2, x3, x4, x5, x6, x7, x8, x9, x10, x11, x12, x13, x14, x15, x16, x17, x18, x19] from rfl]
    rw [show upd [v0, v1, x2, x3, x4, x5, x6, x7, x8, x9, x10, x11, x12, x13, x14, x15, x16, x17, x18, x19] 2 [v2] = [v0, v1, v2, x3, x4, x5, x6, x7, x8, x9, x10, x11, x12, x13, x14, x15, x16, x17, x18, x19] from rfl]
    rw [show upd [v0, v1, v2, x3, x4, x5, x6, x7, x8, x9, x10, x11, x12, x13, x14, x15, x16, x17, x18, x19] 3 [v3] = [v0, v1, v2, v3, x4, x5, x6, x7, x8, x9, x10, x11, x12, x13, x14, x15, x16, x17, x18, x19] from rfl]
    rw [show upd [v0, v1, v2, v3, x4, x5, x6, x7, x8, x9, x10, x11, x12, x13, x14, x15, x16, x17, x18, x19] 4 [v4] = [v0, v1, v2, v3, v4, x5, x6, x7, x8, x9, x10, x11, x12, x13, x14, x15, x16, x17, x18, x19] from rfl]
    rw [show upd [v0, v1, v2, v3, v4, x5, x6, x7, x8, x9, x10, x11, x12, x13, x14, x15, x16, x17, x18, x19] 5 [v5] = [v0, v1, v2, v3, v4, v5, x6, x7, x8, x9, x10, x11, x12, x13, x14, x15, x16, x17, x18, x19] from rfl]
    rw [show upd [v0, v1, v2, v3, v4, v5, x6, x7, x8, x9, x10, x11, x12, x13, x14, x15, x16, x17, x18, x19] 6 [v6] = [v0, v1, v2, v3, v4, v5, v6, x7, x8, x9, x10, x11, x12, x13, x14, x15, x16, x17, x18, x19] from rfl]
    rw [show upd [v0, v1, v2, v3, v4, v5, v6, x7, x8, x9, x10, x11, x12, x13, x14, x15, x16, x17, x18, x19] 7 [v7] = [v0, v1, v2, v3, v4, v5, v6, v7, x8, x9, x10, x11, x12, x13, x14, x15, x16, x17, x18, x19] from rfl]
    rw [show upd [v0, v1, v2, v3, v4, v5, v6, v7, x8, x9, x10, x11, x12, x13, x14, x15, x16, x17, x18, x19] 8 [v8] = [v0, v1, v2, v3, v4, v5, v6, v7, v8, x9, x10, x11, x12, x13, x14, x15, x16, x17, x18, x19] from rfl]
    rw [show upd [v0, v1, v2, v3, v4, v5, v6, v7, v8, x9, x10, x11, x12, x13, x14, x15, x16, x17, x18, x19] 9 [v9] = [v0, v1, v2, v3, v4, v5, v6, v7, v8, v9, x10, x11, x12, x13, x14, x15, x16, x17, x18, x19] from rfl]
    rw [show upd [v0, v1, v2, v3, v4, v5, v6, v7, v8, v9, x10, x11, x12, x13, x14, x15, x16, x17, x18, x19] 10 [v10] = [v0, v1, v2, v3, v4, v5, v6, v7, v8, v9, v10, x11, x12, x13, x14, x15, x16, x17, x18, x19] from rfl]
    rw [show upd [v0, v1, v2, v3, v4, v5, v6, v7, v8, v9, v10, x11, x12, x13, x14, x15, x16, x17, x18, x19] 11 [v11] = [v0, v1, v2, v3, v4, v5, v6, v7, v8, v9, v10, v11, x12, x13, x14, x15, x16, x17, x18, x19] from rfl]
    rw [show upd [v0, v1, v2, v3, v4, v5, v6, v7, v8, v9, v10, v11, x12, x13, x14, x15, x16, x17, x18, x19] 12 [v12] = [v0, v1, v2, v3, v4, v5, v6, v7, v8, v9, v10, v11, v12, x13, x14, x15, x16, x17, x18, x19] from rfl]
    rw [show upd [v0, v1, v2, v3, v4, v5, v6, v7, v8, v9, v10, v11, v12, x13, x14, x15, x16, x17, x18, x19] 13 [v13] = [v0, v1, v2, v3, v4, v5, v6, v7, v8, v9, v10, v11, v12, v13, x14, x15, x16, x17, x18, x19] from rfl]
    rw [show upd [v0, v1, v2, v3, v4, v5, v6, v7, v8, v9, v10, v11, v12, v13, x14, x15, x16, x17, x18, x19] 14 [v14] = [v0, v1, v2, v3, v4, v5, v6, v7, v8, v9, v10, v11, v12, v13, v14, x15, x16, x17, x18, x19] from rfl]
    rw [show upd [v0, v1, v2, v3, v4, v5, v6, v7, v8, v9, v10, v11, v12, v13, v14, x15, x16, x17, x18, x19] 15 [v15] = [v0, v1, v2, v3, v4, v5, v6, v7, v8, v9, v10, v11, v12, v13, v14, v15, x16, x17, x18, x19] from rfl]
    rw [show upd [v0, v1, v2, v3, v4, v5, v6, v7, v8, v9, v10, v11, v12, v13, v14, v15, x16, x17, x18, x19] 16 [v16] = [v0, v1, v2, v3, v4, v5, v6, v7, v8, v9, v10, v11, v12, v13, v14, v15, v16, x17, x18, x19] from rfl]
    rw [show upd [v0, v1, v2, v3, v4, v5, v6, v7, v8, v9, v10, v11, v12, v13, v14, v15, v16, x17, x18, x19] 17 [v17] = [v0, v1, v2, v3, v4, v5, v6, v7, v8, v9, v10, v11, v12, v13, v14, v15, v16, v17, x18, x19] from rfl]
    rw [show upd [v0, v1, v2, v3, v4, v5, v6, v7, v8, v9, v10, v11, v12, v13, v14, v15, v16, v17, x18, x19] 18 [v18] = [v0, v1, v2, v3, v4, v5, v6, v7, v8, v9, v10, v11, v12, v13, v14, v15, v16, v17, v18, x19] from rfl]
    rw [show upd [v0, v1, v2, v3, v4, v5, v6, v7, v8, v9, v10, v11, v12, v13, v14, v15, v16, v17, v18, x19] 19 [v19] = [v0, v1, v2, v3, v4, v5, v6, v7, v8, v9, v10, v11, v12, v13, v14, v15, v16, v17, v18, v19] from rfl]
theorem sets20 {L : Rw} {i : Nat} (hi : i < L.length) (hl : ∀ e ∈ L, e.length = 20) (v0 v1 v2 v3 v4 v5 v6 v7 v8 v9 v10 v11 v12 v13 v14 v15 v16 v17 v18 v19 : Value) : setRw (setRw (setRw (setRw (setRw (setRw (setRw (setRw (setRw (setRw (setRw (setRw (setRw (setRw (setRw (setRw (setRw (setRw (setRw (setRw (L) i 0 [v0]) i 1 [v1]) i 2 [v2]) i 3 [v3]) i 4 [v4]) i 5 [v5]) i 6 [v6]) i 7 [v7]) i 8 [v8]) i 9 [v9]) i 10 [v10]) i 11 [v11]) i 12 [v12]) i 13 [v13]) i 14 [v14]) i 15 [v15]) i 16 [v16]) i 17 [v17]) i 18 [v18]) i 19 [v19] = L.set i [v0, v1, v2, v3, v4, v5, v6, v7, v8, v9, v10, v11, v12, v13, v14, v15, v16, v17, v18, v19] := by
  have h : ∀ L', L' = L.set i (L.getD i []) → setRw (setRw (setRw (setRw (setRw (setRw (setRw (setRw (setRw (setRw (setRw (setRw (setRw (setRw (setRw (setRw (setRw (setRw (setRw (setRw (L') i 0 [v0]) i 1 [v1]) i 2 [v2]) i 3 [v3]) i 4 [v4]) i 5 [v5]) i 6 [v6]) i 7 [v7]) i 8 [v8]) i 9 [v9]) i 10 [v10]) i 11 [v11]) i 12 [v12]) i 13 [v13]) i 14 [v14]) i 15 [v15]) i 16 [v16]) i 17 [v17]) i 18 [v18]) i 19 [v19] = L.set i [v0, v1, v2, v3, v4, v5, v6, v7, v8, v9, v10, v11, v12, v13, v14, v15, v16, v17, v18, v19] := by
    rintro _ rfl
    simp only [setRw_upd]
    rw [upds20 _ (hl _ (getD_mem hi))]
  exact h L (set_self hi).symm
theorem markRow20 (k : Int) : markRow 20 k = [.int .i64 k, .int .i64 (k + 1), .int .i64 (k + 2), .int .i64 (k + 3), .int .i64 (k + 4), .int .i64 (k + 5), .int .i64 (k + 6), .int .i64 (k + 7), .int .i64 (k + 8), .int .i64 (k + 9), .int .i64 (k + 10), .int .i64 (k + 11), .int .i64 (k + 12), .int .i64 (k + 13), .int .i64 (k + 14), .int .i64 (k + 15), .int .i64 (k + 16), .int .i64 (k + 17), .int .i64 (k + 18), .int .i64 (k + 19)] := by
  simp [markRow, List.range_succ]
theorem t108L_ok : LpOk C0 ⟨108, 0, mkL 148 20⟩ := by
  refine loop_tree C0_ok (DbOk.nil C0) 10 10 t108_fn t108_body t108_only t108_in (fun al h => by simp [mkL] at h; subst h; rfl) (by decide) (by decide) mu1 t108L_run t108L_b ?_
  intro vs ls _ _ hpre
  obtain ⟨k, i, L, rfl, rfl, hi, hm, hk, hb, hl⟩ : mkInv 20 vs ls := hpre
  unfold t108L
  refine okl_ask (fun hc => ?_) (fun hc => ?_)
  · simp only [Te.ev, RT.ev, syL, List.getD_cons_zero, List.getD_cons_succ, binV, Value.bool.injEq, decide_eq_true_eq] at hc
    have hi' : i < L.length := by omega
    have hb' : k + 20 * ((L.length - (i + 1) : Nat) : Int) + 20 ≤ 1000000000000000 := by omega
    have b1 : binV .add (.int .i64 k) (.int .i64 1) = .int .i64 (k + 1) := add_int (by omega) (by omega) (by omega)
    have b2 : binV .add (.int .i64 (k + 1)) (.int .i64 1) = .int .i64 (k + 2) := add_int (by omega) (by omega) (by omega)
    have b3 : binV .add (.int .i64 (k + 2)) (.int .i64 1) = .int .i64 (k + 3) := add_int (by omega) (by omega) (by omega)
    have b4 : binV .add (.int .i64 (k + 3)) (.int .i64 1) = .int .i64 (k + 4) := add_int (by omega) (by omega) (by omega)
    have b5 : binV .add (.int .i64 (k + 4)) (.int .i64 1) = .int .i64 (k + 5) := add_int (by omega) (by omega) (by omega)
    have b6 : binV .add (.int .i64 (k + 5)) (.int .i64 1) = .int .i64 (k + 6) := add_int (by omega) (by omega) (by omega)
    have b7 : binV .add (.int .i64 (k + 6)) (.int .i64 1) = .int .i64 (k + 7) := add_int (by omega) (by omega) (by omega)
    have b8 : binV .add (.int .i64 (k + 7)) (.int .i64 1) = .int .i64 (k + 8) := add_int (by omega) (by omega) (by omega)
    have b9 : binV .add (.int .i64 (k + 8)) (.int .i64 1) = .int .i64 (k + 9) := add_int (by omega) (by omega) (by omega)
    have b10 : binV .add (.int .i64 (k + 9)) (.int .i64 1) = .int .i64 (k + 10) := add_int (by omega) (by omega) (by omega)
    have b11 : binV .add (.int .i64 (k + 10)) (.int .i64 1) = .int .i64 (k + 11) := add_int (by omega) (by omega) (by omega)
    have b12 : binV .add (.int .i64 (k + 11)) (.int .i64 1) = .int .i64 (k + 12) := add_int (by omega) (by omega) (by omega)
    have b13 : binV .add (.int .i64 (k + 12)) (.int .i64 1) = .int .i64 (k + 13) := add_int (by omega) (by omega) (by omega)
    have b14 : binV .add (.int .i64 (k + 13)) (.int .i64 1) = .int .i64 (k + 14) := add_int (by omega) (by omega) (by omega)
    have b15 : binV .add (.int .i64 (k + 14)) (.int .i64 1) = .int .i64 (k + 15) := add_int (by omega) (by omega) (by omega)
    have b16 : binV .add (.int .i64 (k + 15)) (.int .i64 1) = .int .i64 (k + 16) := add_int (by omega) (by omega) (by omega)
    have b17 : binV .add (.int .i64 (k + 16)) (.int .i64 1) = .int .i64 (k + 17) := add_int (by omega) (by omega) (by omega)
    have b18 : binV .add (.int .i64 (k + 17)) (.int .i64 1) = .int .i64 (k + 18) := add_int (by omega) (by omega) (by omega)
    have b19 : binV .add (.int .i64 (k + 18)) (.int .i64 1) = .int .i64 (k + 19) := add_int (by omega) (by omega) (by omega)
    have b20 : binV .add (.int .i64 (k + 19)) (.int .i64 1) = .int .i64 (k + 20) := add_int (by omega) (by omega) (by omega)
    have bi : binV .add (.int .i64 (i : Int)) (.int .i64 1) = .int .i64 ((i + 1 : Nat) : Int) := add_int (by omega) (by omega) (by omega)
    have hS : ∀ r : Rw, r.length = L.length → (Value.int .i64 ((r.length : Nat) : Int)) = .int .i64 (L.length : Int) := fun r hr => by rw [hr]
    iterate 20 (refine okl_in rfl (by simp only [Te.ev, len_set]; exact hS _ rfl) (by omega) (by omega) ?_)
    have hset := sets20 hi' hl (.int .i64 k) (.int .i64 (k + 1)) (.int .i64 (k + 2)) (.int .i64 (k + 3)) (.int .i64 (k + 4)) (.int .i64 (k + 5)) (.int .i64 (k + 6)) (.int .i64 (k + 7)) (.int .i64 (k + 8)) (.int .i64 (k + 9)) (.int .i64 (k + 10)) (.int .i64 (k + 11)) (.int .i64 (k + 12)) (.int .i64 (k + 13)) (.int .i64 (k + 14)) (.int .i64 (k + 15)) (.int .i64 (k + 16)) (.int .i64 (k + 17)) (.int .i64 (k + 18)) (.int .i64 (k + 19))
    rw [← markRow20] at hset
    have e1 : ∀ S : Sy, S.v 0 = .int .i64 k → S.v 1 = .int .i64 (i : Int) → S.r 0 = L → True := fun _ _ _ _ => trivial
    refine ⟨⟨show mkInv 20 _ _ from ⟨k + 20, i + 1, L.set i (markRow 20 k), ?_, ?_, by rw [List.length_set]; exact hi', by rw [List.length_set]; exact hm, by omega, ?_, ?_⟩, ?_⟩, ?_⟩
    · simp only [Te.ev, TL.ev, syL, List.getD_cons_zero, List.getD_cons_succ, b1, b2, b3, b4, b5, b6, b7, b8, b9, b10, b11, b12, b13, b14, b15, b16, b17, b18, b19, b20, bi]
    · simp only [Te.ev, TL.ev, RT.ev, RL.ev, syL, List.getD_cons_zero, List.getD_cons_succ, natOf, Int.toNat_natCast, b1, b2, b3, b4, b5, b6, b7, b8, b9, b10, b11, b12, b13, b14, b15, b16, b17, b18, b19, b20, hset]
    · rw [List.length_set]; omega
    · intro e he
      rcases List.mem_or_eq_of_mem_set he with h | h
      · exact hl e h
      · rw [h, markRow_length]
    · show mu1 _ _ < mu1 _ _
      simp only [Te.ev, TL.ev, RT.ev, RL.ev, syL, List.getD_cons_zero, List.getD_cons_succ, mu1, natOf, Int.toNat_natCast, bi, setRw_length]
      omega
    · intro vs' ls' hv hl' hf
      obtain ⟨f1, f2⟩ := hf
      simp only [Te.ev, TL.ev, RT.ev, RL.ev, syL, List.getD_cons_zero, List.getD_cons_succ, natOf, Int.toNat_natCast, b1, b2, b3, b4, b5, b6, b7, b8, b9, b10, b11, b12, b13, b14, b15, b16, b17, b18, b19, b20, bi, hset, intV, List.length_set] at f1 f2
      subst f1 f2
      refine ⟨?_, ?_⟩
      · simp only [Te.ev, TL.ev, RT.ev, RL.ev, syL, List.getD_cons_zero, List.getD_cons_succ, natOf, Int.toNat_natCast, intV, List.cons_append, List.nil_append]
        congr 2
        omega
      · have hn := mk_next (z := 20) (k := k) hi'
        simp only [Te.ev, TL.ev, RT.ev, RL.ev, syL, List.getD_cons_zero, List.getD_cons_succ, natOf, Int.toNat_natCast, intV, List.cons_append, List.nil_append]
        rw [← hn]
        rfl
  · simp only [Te.ev, RT.ev, syL, List.getD_cons_zero, List.getD_cons_succ, binV, Value.bool.injEq, decide_eq_false_iff_not] at hc
    have : i = L.length := by omega
    subst this
    refine ⟨?_, ?_⟩
    · simp [Te.ev, TL.ev, RT.ev, RL.ev, syL, natOf, intV]
    · simp [Te.ev, TL.ev, RT.ev, RL.ev, syL, natOf, intV, marks]
theorem t108S_ok : SumOk C0 108 (mkS 148 20) := by
  refine fn_tree C0_ok ((DbOk.nil C0).addL t108L_ok) 10 10 t108_fn t108S_run t108S_b ?_
  intro vs ls _ _ hpre
  obtain ⟨k, L, rfl, rfl, hm, hk, hb, hl⟩ : mkPre 20 vs ls := hpre
  unfold t108S
  refine ⟨show mkInv 20 _ _ from ⟨k, 0, L, rfl, rfl, Nat.zero_le _, hm, hk, by simpa using hb, hl⟩, fun vs' ls' hv hl' hf => ?_⟩
  obtain ⟨f1, f2⟩ := hf
  simp [Te.ev, TL.ev, RT.ev, RL.ev, syL, natOf, intV] at f1 f2
  subst f1 f2
  exact ⟨rfl, rfl⟩

theorem t23L_ok : LpOk C0 ⟨23, 0, hdL 109 2⟩ := by
  refine loop_tree C0_ok (DbOk.nil C0) 10 10 t23_fn t23_body t23_only t23_in (fun al h => by simp [hdL] at h; subst h; rfl) (by decide) (by decide) mu1 t23L_run t23L_b ?_
  intro vs ls _ _ hpre
  obtain ⟨k, i, L, rfl, rfl, hi, hm, hk, hb, hd⟩ : hdInv 2 vs ls := hpre
  unfold t23L
  refine okl_ask (fun hc => ?_) (fun hc => ?_)
  · simp only [Te.ev, RT.ev, syL, List.getD_cons_zero, List.getD_cons_succ, binV, Value.bool.injEq, decide_eq_true_eq] at hc
    have hi' : i < L.length := by omega
    obtain ⟨hL, hd'⟩ := hd_next hi' hd
    rw [markRow2] at hL
    have hb' : k + 2 * ((L.length - (i + 1) : Nat) : Int) + 2 ≤ 1000000000000000 := by omega
    have b1 : binV .add (.int .i64 k) (.int .i64 1) = .int .i64 (k + 1) := add_int (by omega) (by omega) (by omega)
    have b2 : binV .add (.int .i64 (k + 1)) (.int .i64 1) = .int .i64 (k + 2) := add_int (by omega) (by omega) (by omega)
    have bi : binV .add (.int .i64 (i : Int)) (.int .i64 1) = .int .i64 ((i + 1 : Nat) : Int) := add_int (by omega) (by omega) (by omega)
    iterate 2 (refine okl_in (i := (i : Int)) (n := (L.length : Int)) rfl rfl (by omega) (by omega) (ask_no (by simp only [Te.ev, RT.ev, syL, List.getD_cons_zero, List.getD_cons_succ, natOf, Int.toNat_natCast, hL, b1, b2]; exact binV_neq_int _ _) ?_))
    refine ⟨⟨show hdInv 2 _ _ from ⟨k + 2, i + 1, L, ?_, rfl, hi', hm, by omega, by omega, hd'⟩, ?_⟩, ?_⟩
    · simp only [Te.ev, TL.ev, syL, List.getD_cons_zero, List.getD_cons_succ, b1, b2, bi]
    · show mu1 _ _ < mu1 _ _
      simp only [Te.ev, TL.ev, RT.ev, RL.ev, syL, List.getD_cons_zero, List.getD_cons_succ, mu1, natOf, Int.toNat_natCast, bi]
      omega
    · intro vs' ls' hv hl' hf
      have f1 : vs' = _ := hf
      simp only [Te.ev, TL.ev, RT.ev, RL.ev, syL, List.getD_cons_zero, List.getD_cons_succ, natOf, Int.toNat_natCast, b1, b2, bi, intV] at f1
      subst f1
      show [_] = [_]
      simp only [Te.ev, TL.ev, RT.ev, RL.ev, syL, List.getD_cons_zero, List.getD_cons_succ, natOf, Int.toNat_natCast, intV, List.cons_append, List.nil_append]
      congr 2
      omega
  · simp only [Te.ev, RT.ev, syL, List.getD_cons_zero, List.getD_cons_succ, binV, Value.bool.injEq, decide_eq_false_iff_not] at hc
    have : i = L.length := by omega
    subst this
    show [_] = [_]
    simp [Te.ev, TL.ev, RT.ev, RL.ev, syL, natOf, intV]
theorem t23S_ok : SumOk C0 23 (hdS 109 2) := by
  refine fn_tree C0_ok ((DbOk.nil C0).addL t23L_ok) 10 10 t23_fn t23S_run t23S_b ?_
  intro vs ls _ _ hpre
  obtain ⟨k, n, rfl, rfl, hm, hk, hb⟩ : hdPre 2 vs ls := hpre
  unfold t23S
  refine ⟨show hdInv 2 _ _ from ⟨k, 0, marks 2 k n, rfl, rfl, Nat.zero_le _, by rw [marks_length]; exact hm, hk, by simpa [marks_length] using hb, by simp [marks_length]⟩, fun vs' ls' hv hl' hf => ?_⟩
  have f1 : vs' = _ := hf
  simp [Te.ev, TL.ev, RT.ev, RL.ev, syL, natOf, intV] at f1
  subst f1
  rfl

theorem t111L_ok : LpOk C0 ⟨111, 0, hdL 154 3⟩ := by
  refine loop_tree C0_ok (DbOk.nil C0) 10 10 t111_fn t111_body t111_only t111_in (fun al h => by simp [hdL] at h; subst h; rfl) (by decide) (by decide) mu1 t111L_run t111L_b ?_
  intro vs ls _ _ hpre
  obtain ⟨k, i, L, rfl, rfl, hi, hm, hk, hb, hd⟩ : hdInv 3 vs ls := hpre
  unfold t111L
  refine okl_ask (fun hc => ?_) (fun hc => ?_)
  · simp only [Te.ev, RT.ev, syL, List.getD_cons_zero, List.getD_cons_succ, binV, Value.bool.injEq, decide_eq_true_eq] at hc
    have hi' : i < L.length := by omega
    obtain ⟨hL, hd'⟩ := hd_next hi' hd
    rw [markRow3] at hL
    have hb' : k + 3 * ((L.length - (i + 1) : Nat) : Int) + 3 ≤ 1000000000000000 := by omega
    have b1 : binV .add (.int .i64 k) (.int .i64 1) = .int .i64 (k + 1) := add_int (by omega) (by omega) (by omega)
    have b2 : binV .add (.int .i64 (k + 1)) (.int .i64 1) = .int .i64 (k + 2) := add_int (by omega) (by omega) (by omega)
    have b3 : binV .add (.int .i64 (k + 2)) (.int .i64 1) = .int .i64 (k + 3) := add_int (by omega) (by omega) (by omega)
    have bi : binV .add (.int .i64 (i : Int)) (.int .i64 1) = .int .i64 ((i + 1 : Nat) : Int) := add_int (by omega) (by omega) (by omega)
    iterate 3 (refine okl_in (i := (i : Int)) (n := (L.length : Int)) rfl rfl (by omega) (by omega) (ask_no (by simp only [Te.ev, RT.ev, syL, List.getD_cons_zero, List.getD_cons_succ, natOf, Int.toNat_natCast, hL, b1, b2, b3]; exact binV_neq_int _ _) ?_))
    refine ⟨⟨show hdInv 3 _ _ from ⟨k + 3, i + 1, L, ?_, rfl, hi', hm, by omega, by omega, hd'⟩, ?_⟩, ?_⟩
    · simp only [Te.ev, TL.ev, syL, List.getD_cons_zero, List.getD_cons_succ, b1, b2, b3, bi]
    · show mu1 _ _ < mu1 _ _
      simp only [Te.ev, TL.ev, RT.ev, RL.ev, syL, List.getD_cons_zero, List.getD_cons_succ, mu1, natOf, Int.toNat_natCast, bi]
      omega
    · intro vs' ls' hv hl' hf
      have f1 : vs' = _ := hf
      simp only [Te.ev, TL.ev, RT.ev, RL.ev, syL, List.getD_cons_zero, List.getD_cons_succ, natOf, Int.toNat_natCast, b1, b2, b3, bi, intV] at f1
      subst f1
      show [_] = [_]
      simp only [Te.ev, TL.ev, RT.ev, RL.ev, syL, List.getD_cons_zero, List.getD_cons_succ, natOf, Int.toNat_natCast, intV, List.cons_append, List.nil_append]
      congr 2
      omega
  · simp only [Te.ev, RT.ev, syL, List.getD_cons_zero, List.getD_cons_succ, binV, Value.bool.injEq, decide_eq_false_iff_not] at hc
    have : i = L.length := by omega
    subst this
    show [_] = [_]
    simp [Te.ev, TL.ev, RT.ev, RL.ev, syL, natOf, intV]
theorem t111S_ok : SumOk C0 111 (hdS 154 3) := by
  refine fn_tree C0_ok ((DbOk.nil C0).addL t111L_ok) 10 10 t111_fn t111S_run t111S_b ?_
  intro vs ls _ _ hpre
  obtain ⟨k, n, rfl, rfl, hm, hk, hb⟩ : hdPre 3 vs ls := hpre
  unfold t111S
  refine ⟨show hdInv 3 _ _ from ⟨k, 0, marks 3 k n, rfl, rfl, Nat.zero_le _, by rw [marks_length]; exact hm, hk, by simpa [marks_length] using hb, by simp [marks_length]⟩, fun vs' ls' hv hl' hf => ?_⟩
  have f1 : vs' = _ := hf
  simp [Te.ev, TL.ev, RT.ev, RL.ev, syL, natOf, intV] at f1
  subst f1
  rfl

theorem t112L_ok : LpOk C0 ⟨112, 0, hdL 203 5⟩ := by
  refine loop_tree C0_ok (DbOk.nil C0) 10 10 t112_fn t112_body t112_only t112_in (fun al h => by simp [hdL] at h; subst h; rfl) (by decide) (by decide) mu1 t112L_run t112L_b ?_
  intro vs ls _ _ hpre
  obtain ⟨k, i, L, rfl, rfl, hi, hm, hk, hb, hd⟩ : hdInv 5 vs ls := hpre
  unfold t112L
  refine okl_ask (fun hc => ?_) (fun hc => ?_)
  · simp only [Te.ev, RT.ev, syL, List.getD_cons_zero, List.getD_cons_succ, binV, Value.bool.injEq, decide_eq_true_eq] at hc
    have hi' : i < L.length := by omega
    obtain ⟨hL, hd'⟩ := hd_next hi' hd
    rw [markRow5] at hL
    have hb' : k + 5 * ((L.length - (i + 1) : Nat) : Int) + 5 ≤ 1000000000000000 := by omega
    have b1 : binV .add (.int .i64 k) (.int .i64 1) = .int .i64 (k + 1) := add_int (by omega) (by omega) (by omega)
    have b2 : binV .add (.int .i64 (k + 1)) (.int .i64 1) = .int .i64 (k + 2) := add_int (by omega) (by omega) (by omega)
    have b3 : binV .add (.int .i64 (k + 2)) (.int .i64 1) = .int .i64 (k + 3) := add_int (by omega) (by omega) (by omega)
    have b4 : binV .add (.int .i64 (k + 3)) (.int .i64 1) = .int .i64 (k + 4) := add_int (by omega) (by omega) (by omega)
    have b5 : binV .add (.int .i64 (k + 4)) (.int .i64 1) = .int .i64 (k + 5) := add_int (by omega) (by omega) (by omega)
    have bi : binV .add (.int .i64 (i : Int)) (.int .i64 1) = .int .i64 ((i + 1 : Nat) : Int) := add_int (by omega) (by omega) (by omega)
    iterate 5 (refine okl_in (i := (i : Int)) (n := (L.length : Int)) rfl rfl (by omega) (by omega) (ask_no (by simp only [Te.ev, RT.ev, syL, List.getD_cons_zero, List.getD_cons_succ, natOf, Int.toNat_natCast, hL, b1, b2, b3, b4, b5]; exact binV_neq_int _ _) ?_))
    refine ⟨⟨show hdInv 5 _ _ from ⟨k + 5, i + 1, L, ?_, rfl, hi', hm, by omega, by omega, hd'⟩, ?_⟩, ?_⟩
    · simp only [Te.ev, TL.ev, syL, List.getD_cons_zero, List.getD_cons_succ, b1, b2, b3, b4, b5, bi]
    · show mu1 _ _ < mu1 _ _
      simp only [Te.ev, TL.ev, RT.ev, RL.ev, syL, List.getD_cons_zero, List.getD_cons_succ, mu1, natOf, Int.toNat_natCast, bi]
      omega
    · intro vs' ls' hv hl' hf
      have f1 : vs' = _ := hf
      simp only [Te.ev, TL.ev, RT.ev, RL.ev, syL, List.getD_cons_zero, List.getD_cons_succ, natOf, Int.toNat_natCast, b1, b2, b3, b4, b5, bi, intV] at f1
      subst f1
      show [_] = [_]
      simp only [Te.ev, TL.ev, RT.ev, RL.ev, syL, List.getD_cons_zero, List.getD_cons_succ, natOf, Int.toNat_natCast, intV, List.cons_append, List.nil_append]
      congr 2
      omega
  · simp only [Te.ev, RT.ev, syL, List.getD_cons_zero, List.getD_cons_succ, binV, Value.bool.injEq, decide_eq_false_iff_not] at hc
    have : i = L.length := by omega
    subst this
    show [_] = [_]
    simp [Te.ev, TL.ev, RT.ev, RL.ev, syL, natOf, intV]
theorem t112S_ok : SumOk C0 112 (hdS 203 5) := by
  refine fn_tree C0_ok ((DbOk.nil C0).addL t112L_ok) 10 10 t112_fn t112S_run t112S_b ?_
  intro vs ls _ _ hpre
  obtain ⟨k, n, rfl, rfl, hm, hk, hb⟩ : hdPre 5 vs ls := hpre
  unfold t112S
  refine ⟨show hdInv 5 _ _ from ⟨k, 0, marks 5 k n, rfl, rfl, Nat.zero_le _, by rw [marks_length]; exact hm, hk, by simpa [marks_length] using hb, by simp [marks_length]⟩, fun vs' ls' hv hl' hf => ?_⟩
  have f1 : vs' = _ := hf
  simp [Te.ev, TL.ev, RT.ev, RL.ev, syL, natOf, intV] at f1
  subst f1
  rfl

theorem t110L_ok : LpOk C0 ⟨110, 0, hdL 148 20⟩ := by
  refine loop_tree C0_ok (DbOk.nil C0) 10 10 t110_fn t110_body t110_only t110_in (fun al h => by simp [hdL] at h; subst h; rfl) (by decide) (by decide) mu1 t110L_run t110L_b ?_
  intro vs ls _ _ hpre
  obtain ⟨k, i, L, rfl, rfl, hi, hm, hk, hb, hd⟩ : hdInv 20 vs ls := hpre
  unfold t110L
  refine okl_ask (fun hc => ?_) (fun hc => ?_)
  · simp only [Te.ev, RT.ev, syL, List.getD_cons_zero, List.getD_cons_succ, binV, Value.bool.injEq, decide_eq_true_eq] at hc
    have hi' : i < L.length := by omega
    obtain ⟨hL, hd'⟩ := hd_next hi' hd
    rw [markRow20] at hL
    have hb' : k + 20 * ((L.length - (i + 1) : Nat) : Int) + 20 ≤ 1000000000000000 := by omega
    have b1 : binV .add (.int .i64 k) (.int .i64 1) = .int .i64 (k + 1) := add_int (by omega) (by omega) (by omega)
    have b2 : binV .add (.int .i64 (k + 1)) (.int .i64 1) = .int .i64 (k + 2) := add_int (by omega) (by omega) (by omega)
    have b3 : binV .add (.int .i64 (k + 2)) (.int .i64 1) = .int .i64 (k + 3) := add_int (by omega) (by omega) (by omega)
    have b4 : binV .add (.int .i64 (k + 3)) (.int .i64 1) = .int .i64 (k + 4) := add_int (by omega) (by omega) (by omega)
    have b5 : binV .add (.int .i64 (k + 4)) (.int .i64 1) = .int .i64 (k + 5) := add_int (by omega) (by omega) (by omega)
    have b6 : binV .add (.int .i64 (k + 5)) (.int .i64 1) = .int .i64 (k + 6) := add_int (by omega) (by omega) (by omega)
    have b7 : binV .add (.int .i64 (k + 6)) (.int .i64 1) = .int .i64 (k + 7) := add_int (by omega) (by omega) (by omega)
    have b8 : binV .add (.int .i64 (k + 7)) (.int .i64 1) = .int .i64 (k + 8) := add_int (by omega) (by omega) (by omega)
    have b9 : binV .add (.int .i64 (k + 8)) (.int .i64 1) = .int .i64 (k + 9) := add_int (by omega) (by omega) (by omega)
    have b10 : binV .add (.int .i64 (k + 9)) (.int .i64 1) = .int .i64 (k + 10) := add_int (by omega) (by omega) (by omega)
    have b11 : binV .add (.int .i64 (k + 10)) (.int .i64 1) = .int .i64 (k + 11) := add_int (by omega) (by omega) (by omega)
    have b12 : binV .add (.int .i64 (k + 11)) (.int .i64 1) = .int .i64 (k + 12) := add_int (by omega) (by omega) (by omega)
    have b13 : binV .add (.int .i64 (k + 12)) (.int .i64 1) = .int .i64 (k + 13) := add_int (by omega) (by omega) (by omega)
    have b14 : binV .add (.int .i64 (k + 13)) (.int .i64 1) = .int .i64 (k + 14) := add_int (by omega) (by omega) (by omega)
    have b15 : binV .add (.int .i64 (k + 14)) (.int .i64 1) = .int .i64 (k + 15) := add_int (by omega) (by omega) (by omega)
    have b16 : binV .add (.int .i64 (k + 15)) (.int .i64 1) = .int .i64 (k + 16) := add_int (by omega) (by omega) (by omega)
    have b17 : binV .add (.int .i64 (k + 16)) (.int .i64 1) = .int .i64 (k + 17) := add_int (by omega) (by omega) (by omega)
    have b18 : binV .add (.int .i64 (k + 17)) (.int .i64 1) = .int .i64 (k + 18) := add_int (by omega) (by omega) (by omega)
    have b19 : binV .add (.int .i64 (k + 18)) (.int .i64 1) = .int .i64 (k + 19) := add_int (by omega) (by omega) (by omega)
    have b20 : binV .add (.int .i64 (k + 19)) (.int .i64 1) = .int .i64 (k + 20) := add_int (by omega) (by omega) (by omega)
    have bi : binV .add (.int .i64 (i : Int)) (.int .i64 1) = .int .i64 ((i + 1 : Nat) : Int) := add_int (by omega) (by omega) (by omega)
    iterate 20 (refine okl_in (i := (i : Int)) (n := (L.length : Int)) rfl rfl (by omega) (by omega) (ask_no (by simp only [Te.ev, RT.ev, syL, List.getD_cons_zero, List.getD_cons_succ, natOf, Int.toNat_natCast, hL, b1, b2, b3, b4, b5, b6, b7, b8, b9, b10, b11, b12, b13, b14, b15, b16, b17, b18, b19, b20]; exact binV_neq_int _ _) ?_))
    refine ⟨⟨show hdInv 20 _ _ from ⟨k + 20, i + 1, L, ?_, rfl, hi', hm, by omega, by omega, hd'⟩, ?_⟩, ?_⟩
    · simp only [Te.ev, TL.ev, syL, List.getD_cons_zero, List.getD_cons_succ, b1, b2, b3, b4, b5, b6, b7, b8, b9, b10, b11, b12, b13, b14, b15, b16, b17, b18, b19, b20, bi]
    · show mu1 _ _ < mu1 _ _
      simp only [Te.ev, TL.ev, RT.ev, RL.ev, syL, List.getD_cons_zero, List.getD_cons_succ, mu1, natOf, Int.toNat_natCast, bi]
      omega
    · intro vs' ls' hv hl' hf
      have f1 : vs' = _ := hf
      simp only [Te.ev, TL.ev, RT.ev, RL.ev, syL, List.getD_cons_zero, List.getD_cons_succ, natOf, Int.toNat_natCast, b1, b2, b3, b4, b5, b6, b7, b8, b9, b10, b11, b12, b13, b14, b15, b16, b17, b18, b19, b20, bi, intV] at f1
      subst f1
      show [_] = [_]
      simp only [Te.ev, TL.ev, RT.ev, RL.ev, syL, List.getD_cons_zero, List.getD_cons_succ, natOf, Int.toNat_natCast, intV, List.cons_append, List.nil_append]
      congr 2
      omega
  · simp only [Te.ev, RT.ev, syL, List.getD_cons_zero, List.getD_cons_succ, binV, Value.bool.injEq, decide_eq_false_iff_not] at hc
    have : i = L.length := by omega
    subst this
    show [_] = [_]
    simp [Te.ev, TL.ev, RT.ev, RL.ev, syL, natOf, intV]
theorem t110S_ok : SumOk C0 110 (hdS 148 20) := by
  refine fn_tree C0_ok ((DbOk.nil C0).addL t110L_ok) 10 10 t110_fn t110S_run t110S_b ?_
  intro vs ls _ _ hpre
  obtain ⟨k, n, rfl, rfl, hm, hk, hb⟩ : hdPre 20 vs ls := hpre
  unfold t110S
  refine ⟨show hdInv 20 _ _ from ⟨k, 0, marks 20 k n, rfl, rfl, Nat.zero_le _, by rw [marks_length]; exact hm, hk, by simpa [marks_length] using hb, by simp [marks_length]⟩, fun vs' ls' hv hl' hf => ?_⟩
  have f1 : vs' = _ := hf
  simp [Te.ev, TL.ev, RT.ev, RL.ev, syL, natOf, intV] at f1
  subst f1
  rfl
end Go.Proofs.Ytdfhkmekmockkaa.Rs
