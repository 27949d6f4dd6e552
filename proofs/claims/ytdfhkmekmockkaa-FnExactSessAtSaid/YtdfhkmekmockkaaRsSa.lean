/- FnExactSessAt, out of its tree. -/
import Derived.Test.YtdfhkmekmockkaaRsG3
namespace Go.Proofs.Ytdfhkmekmockkaa.Rs
open Go.RowKit
set_option linter.unusedVariables false
set_option linter.unusedSimpArgs false
set_option maxRecDepth 100000

theorem okl_ask {C : Cfg} {vs : List Value} {ls : List Rw} {c : Te} {x y : Out} (h : c.ev (syL vs ls) = .bool true → x.OkL C vs ls) (k : c.ev (syL vs ls) = .bool false → y.OkL C vs ls) : (Out.ask c x y).OkL C vs ls := ⟨h, k⟩
/-- A copy. -/
theorem okl_to {C : Cfg} {vs : List Value} {ls : List Rw} {pid : Nat} {a : TL} {r : RL} {x : Out} {L : Rw} (ls2 : List Rw) (hfc : C.fact = fc) (hp : C.pre pid (a.ev (syL vs ls)) (r.ev (syL vs ls))) (hL : (r.ev (syL vs ls)).getD 0 [] = L) (h2 : ls ++ [L] = ls2) (h : x.OkL C vs ls2) : (Out.pre pid a r (.fresh 0 1 1 a r x)).OkL C vs ls := by
  refine ⟨hp, fun vs' ls' hv hl hf => ?_⟩
  obtain rfl := nil_of hv
  rw [hfc] at hf
  obtain rfl : ls' = [(r.ev (syL vs ls)).getD 0 []] := hf
  rw [List.append_nil, hL, h2]
  exact h
/-- A comparison of what is the same. -/
theorem okl_eq {C : Cfg} {vs : List Value} {ls : List Rw} {pid : Nat} {a : TL} {r : RL} {x : Out} (hp : C.pre pid (a.ev (syL vs ls)) (r.ev (syL vs ls))) (h : x.OkL C vs ls) : (Out.pre pid a r (.fresh 0 0 0 a r x)).OkL C vs ls := by
  refine ⟨hp, fun vs' ls' hv hl hf => ?_⟩
  obtain rfl := nil_of hv
  obtain rfl := nil_of hl
  rw [List.append_nil, List.append_nil]
  exact h
/-- A search. -/
theorem okl_at {C : Cfg} {vs : List Value} {ls : List Rw} {pid : Nat} {a : TL} {r : RL} {x y : Out} {L : Rw} {c : Value} (g : Nat → List Value) (hfc : C.fact = fc) (hp : C.pre pid (a.ev (syL vs ls)) (r.ev (syL vs ls))) (hL : (r.ev (syL vs ls)).getD 0 [] = L) (hc : (a.ev (syL vs ls)).getD 0 undef = c)
    (hg : ∀ i : Nat, vs ++ [.int .i64 i] = g i) (hx : ∀ i, First L c i → x.OkL C (g i) ls) (hy : Nowhere L c → y.OkL C vs ls) : (Out.pre pid a r (.both (.fresh 1 0 2 a r x) (.fresh 0 0 3 a r y))).OkL C vs ls := by
  refine ⟨hp, fun vs' ls' hv hl hf => ?_, fun vs' ls' hv hl hf => ?_⟩
  · rw [hfc] at hf
    obtain ⟨k, rfl, hk⟩ : ∃ k : Nat, vs' = [.int .i64 k] ∧ First ((r.ev (syL vs ls)).getD 0 []) ((a.ev (syL vs ls)).getD 0 undef) k := hf
    obtain rfl := nil_of hl
    rw [hL, hc] at hk
    rw [List.append_nil, hg]
    exact hx k hk
  · rw [hfc] at hf
    obtain rfl := nil_of hv
    obtain rfl := nil_of hl
    have hk : Nowhere ((r.ev (syL vs ls)).getD 0 []) ((a.ev (syL vs ls)).getD 0 undef) := hf
    rw [hL, hc] at hk
    rw [List.append_nil, List.append_nil]
    exact hy hk
theorem ask_same {C : Cfg} {vs : List Value} {ls : List Rw} {x y : Te} {o : Out} {k : IntKind} {a : Int} (hx : x.ev (syL vs ls) = .int k a) (hy : y.ev (syL vs ls) = .int k a) (h : o.OkL C vs ls) : (Out.ask (.bin .neq x y) .fail o).OkL C vs ls :=
  ask_no (by simp only [Te.ev]; rw [hx, hy]; exact binV_neq_int _ _) h

theorem t9_db : DbOk C0 ⟨fnsG, lpsG⟩ :=
  ((((((((DbOk.nil C0).addL t52L_ok).addL t50L_ok).addS (by decide) t105S_ok).addS (by decide) t58S_ok).addS (by decide) t21S_ok).addS (by decide) t104S_ok).addS (by decide) t103S_ok).addS (by decide) t56S_ok |>.addS (by decide) t19S_ok |>.addS (by decide) t102S_ok
theorem t9S_ok : SumOk C0 9 lawG := by
  refine fn_tree C0_ok t9_db 10 10 t9_fn t9S_run t9S_b ?_
  rintro vs ls _ _ ⟨a, b, c, d, L0, L1, L2, L3, rfl, rfl, h0, h1, h2, h3, m0, m1, m2, m3⟩
  unfold t9S
  -- sizes
  refine okl_ask (fun _ => trivial) fun g0 => ?_
  simp only [Te.ev, RT.ev, syL, List.getD_cons_zero, List.getD_cons_succ, binV, Value.bool.injEq, decide_eq_false_iff_not, Int.toNat_natCast, natOf] at g0
  rw [wrap64 (by omega) (by omega)] at g0
  refine okl_ask (fun _ => trivial) fun _ => ?_
  refine okl_ask (fun _ => trivial) fun g1 => ?_
  simp only [Te.ev, RT.ev, syL, List.getD_cons_zero, List.getD_cons_succ, binV, Value.bool.injEq, decide_eq_false_iff_not, Int.toNat_natCast, natOf] at g1
  rw [wrap64 (x := 1048576 - _) (by omega) (by omega), wrap64 (by omega) (by omega)] at g1
  refine okl_ask (fun _ => trivial) fun _ => ?_
  refine okl_ask (fun _ => trivial) fun g2 => ?_
  simp only [Te.ev, RT.ev, syL, List.getD_cons_zero, List.getD_cons_succ, binV, Value.bool.injEq, decide_eq_false_iff_not, Int.toNat_natCast, natOf] at g2
  rw [wrap64 (x := 1048576 - _) (by omega) (by omega), wrap64 (x := 1048576 - _ - _) (by omega) (by omega), wrap64 (by omega) (by omega)] at g2
  refine okl_ask (fun _ => trivial) fun _ => ?_
  refine okl_ask (fun _ => trivial) fun g3 => ?_
  simp only [Te.ev, RT.ev, syL, List.getD_cons_zero, List.getD_cons_succ, binV, Value.bool.injEq, decide_eq_false_iff_not, Int.toNat_natCast, natOf] at g3
  rw [wrap64 (x := 1048576 - _) (by omega) (by omega), wrap64 (x := 1048576 - _ - _) (by omega) (by omega), wrap64 (x := 1048576 - _ - _ - _) (by omega) (by omega), wrap64 (by omega) (by omega)] at g3
  refine okl_ask (fun _ => trivial) fun _ => ?_
  refine okl_ask (fun _ => trivial) fun _ => ?_
  refine okl_to [L0, L1, L2, L3, L0] rfl ⟨L0, rfl, by omega, h0.len⟩ rfl rfl ?_
  refine okl_to [L0, L1, L2, L3, L0, L1] rfl ⟨L1, rfl, by omega, h1.len⟩ rfl rfl ?_
  refine okl_to [L0, L1, L2, L3, L0, L1, L2] rfl ⟨L2, rfl, by omega, h2.len⟩ rfl rfl ?_
  refine okl_to [L0, L1, L2, L3, L0, L1, L2, L3] rfl ⟨L3, rfl, by omega, h3.len⟩ rfl rfl ?_
  refine okl_at (L := L0) (c := .int .i64 d) (fun i => [.int .i64 a, .int .i64 b, .int .i64 c, .int .i64 d, .int .i64 i]) rfl ⟨0, d, .int .i64 a, .int .i64 b, L0, rfl, rfl, Nat.zero_le _, by omega, h0, fun j hj => by omega⟩ rfl rfl (fun _ => rfl) (fun i hi => ?_) (fun hi => ?_)
  · refine okl_to [L0, L1, L2, L3, L0, L1, L2, L3, L0] rfl ⟨L0, rfl, by omega, h0.len⟩ rfl rfl ?_
    refine okl_to [L0, L1, L2, L3, L0, L1, L2, L3, L0, L1] rfl ⟨L1, rfl, by omega, h1.len⟩ rfl rfl ?_
    refine okl_to [L0, L1, L2, L3, L0, L1, L2, L3, L0, L1, L2] rfl ⟨L2, rfl, by omega, h2.len⟩ rfl rfl ?_
    refine okl_to [L0, L1, L2, L3, L0, L1, L2, L3, L0, L1, L2, L3] rfl ⟨L3, rfl, by omega, h3.len⟩ rfl rfl ?_
    refine okl_at (L := L0) (c := .int .i64 d) (fun k => [.int .i64 a, .int .i64 b, .int .i64 c, .int .i64 d, .int .i64 i, .int .i64 k]) rfl ⟨0, d, L0, rfl, rfl, Nat.zero_le _, by omega, h0, fun j hj => by omega⟩ rfl rfl (fun _ => rfl) (fun k hk => ?_) (fun hk => ?_)
    · obtain rfl := First.unique hi hk
      refine ask_same rfl rfl ?_
      refine okl_to [L0, L1, L2, L3, L0, L1, L2, L3, L0, L1, L2, L3, L0] rfl ⟨L0, rfl, by omega, h0.len⟩ rfl rfl ?_
      refine okl_to [L0, L1, L2, L3, L0, L1, L2, L3, L0, L1, L2, L3, L0, L1] rfl ⟨L1, rfl, by omega, h1.len⟩ rfl rfl ?_
      refine okl_to [L0, L1, L2, L3, L0, L1, L2, L3, L0, L1, L2, L3, L0, L1, L2] rfl ⟨L2, rfl, by omega, h2.len⟩ rfl rfl ?_
      refine okl_to [L0, L1, L2, L3, L0, L1, L2, L3, L0, L1, L2, L3, L0, L1, L2, L3] rfl ⟨L3, rfl, by omega, h3.len⟩ rfl rfl ?_
      refine ask_same rfl rfl ?_
      refine ask_same rfl rfl ?_
      refine okl_eq ⟨L0, rfl, by omega, h0⟩ ?_
      refine okl_eq ⟨L1, rfl, by omega, h1⟩ ?_
      refine okl_eq ⟨L2, rfl, by omega, h2⟩ ?_
      refine okl_eq ⟨L3, rfl, by omega, h3⟩ ?_
      exact ask_same rfl rfl trivial
    · exact (First.some hi hk).elim
  · refine okl_to [L0, L1, L2, L3, L0, L1, L2, L3, L0] rfl ⟨L0, rfl, by omega, h0.len⟩ rfl rfl ?_
    refine okl_to [L0, L1, L2, L3, L0, L1, L2, L3, L0, L1] rfl ⟨L1, rfl, by omega, h1.len⟩ rfl rfl ?_
    refine okl_to [L0, L1, L2, L3, L0, L1, L2, L3, L0, L1, L2] rfl ⟨L2, rfl, by omega, h2.len⟩ rfl rfl ?_
    refine okl_to [L0, L1, L2, L3, L0, L1, L2, L3, L0, L1, L2, L3] rfl ⟨L3, rfl, by omega, h3.len⟩ rfl rfl ?_
    refine okl_at (L := L0) (c := .int .i64 d) (fun k => [.int .i64 a, .int .i64 b, .int .i64 c, .int .i64 d, .int .i64 k]) rfl ⟨0, d, L0, rfl, rfl, Nat.zero_le _, by omega, h0, fun j hj => by omega⟩ rfl rfl (fun _ => rfl) (fun k hk => ?_) (fun hk => ?_)
    · exact (First.some hk hi).elim
    · refine okl_to [L0, L1, L2, L3, L0, L1, L2, L3, L0, L1, L2, L3, L0] rfl ⟨L0, rfl, by omega, h0.len⟩ rfl rfl ?_
      refine okl_to [L0, L1, L2, L3, L0, L1, L2, L3, L0, L1, L2, L3, L0, L1] rfl ⟨L1, rfl, by omega, h1.len⟩ rfl rfl ?_
      refine okl_to [L0, L1, L2, L3, L0, L1, L2, L3, L0, L1, L2, L3, L0, L1, L2] rfl ⟨L2, rfl, by omega, h2.len⟩ rfl rfl ?_
      refine okl_to [L0, L1, L2, L3, L0, L1, L2, L3, L0, L1, L2, L3, L0, L1, L2, L3] rfl ⟨L3, rfl, by omega, h3.len⟩ rfl rfl ?_
      refine ask_same rfl rfl ?_
      refine ask_same rfl rfl ?_
      refine okl_eq ⟨L0, rfl, by omega, h0⟩ ?_
      refine okl_eq ⟨L1, rfl, by omega, h1⟩ ?_
      refine okl_eq ⟨L2, rfl, by omega, h2⟩ ?_
      refine okl_eq ⟨L3, rfl, by omega, h3⟩ ?_
      exact ask_same rfl rfl trivial
end Go.Proofs.Ytdfhkmekmockkaa.Rs
