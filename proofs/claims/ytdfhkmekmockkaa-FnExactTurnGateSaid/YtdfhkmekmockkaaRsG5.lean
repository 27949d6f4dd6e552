/- SessAt and TurnGate, told out of their trees. -/
import Derived.Test.YtdfhkmekmockkaaRsG4
namespace Go.Proofs.Ytdfhkmekmockkaa.Rs
open Go.RowKit
set_option linter.unusedVariables false
set_option linter.unusedSimpArgs false
set_option maxRecDepth 100000
/-- A copy. -/
theorem okl_to {C : Cfg} {vs : List Value} {ls : List Rw} {pid : Nat} {a : TL} {r : RL} {x : Out} {L : Rw} (ls2 : List Rw) (hfc : C.fact = fc) (hp : C.pre pid (a.ev (syL vs ls)) (r.ev (syL vs ls))) (hL : (r.ev (syL vs ls)).getD 0 [] = L) (h2 : ls ++ [L] = ls2) (h : x.OkL C vs ls2) : (Out.pre pid a r (.fresh 0 1 1 a r x)).OkL C vs ls := by
  refine ⟨hp, fun vs' ls' hv hl hf => ?_⟩
  obtain rfl := nil_of hv
  rw [hfc] at hf
  obtain rfl : ls' = [(r.ev (syL vs ls)).getD 0 []] := hf
  rw [List.append_nil, hL, h2]
  exact h
/-- A comparison of what is the same. -/
theorem okl_eq {C : Cfg} {vs : List Value} {ls : List Rw} {pid : Nat} {a : TL} {r : RL} {x : Out} (hp : C.pre pid (a.ev (syL vs ls)) (r.ev (syL vs ls))) (h : x.OkL C vs ls) : (Out.pre pid a r (.fresh 0 0 0 a r x)).OkL C vs ls := by
  refine ⟨hp, fun vs' ls' hv hl hf => ?_⟩
  obtain rfl := nil_of hv
  obtain rfl := nil_of hl
  rw [List.append_nil, List.append_nil]
  exact h
/-- A search. -/
theorem okl_at {C : Cfg} {vs : List Value} {ls : List Rw} {pid : Nat} {a : TL} {r : RL} {x y : Out} {L : Rw} {c : Value} (g : Nat → List Value) (hfc : C.fact = fc) (hp : C.pre pid (a.ev (syL vs ls)) (r.ev (syL vs ls))) (hL : (r.ev (syL vs ls)).getD 0 [] = L) (hc : (a.ev (syL vs ls)).getD 0 undef = c)
    (hg : ∀ i : Nat, vs ++ [.int .i64 i] = g i) (hx : ∀ i, First L c i → x.OkL C (g i) ls) (hy : Nowhere L c → y.OkL C vs ls) : (Out.pre pid a r (.both (.fresh 1 0 2 a r x) (.fresh 0 0 3 a r y))).OkL C vs ls := by
  refine ⟨hp, fun vs' ls' hv hl hf => ?_, fun vs' ls' hv hl hf => ?_⟩
  · rw [hfc] at hf
    obtain ⟨k, rfl, hk⟩ : ∃ k : Nat, vs' = [.int .i64 k] ∧ First ((r.ev (syL vs ls)).getD 0 []) ((a.ev (syL vs ls)).getD 0 undef) k := hf
    obtain rfl := nil_of hl
    rw [hL, hc] at hk
    rw [List.append_nil, hg]
    exact hx k hk
  · rw [hfc] at hf
    obtain rfl := nil_of hv
    obtain rfl := nil_of hl
    have hk : Nowhere ((r.ev (syL vs ls)).getD 0 []) ((a.ev (syL vs ls)).getD 0 undef) := hf
    rw [hL, hc] at hk
    rw [List.append_nil, List.append_nil]
    exact hy hk
theorem ask_same {C : Cfg} {vs : List Value} {ls : List Rw} {x y : Te} {o : Out} {k : IntKind} {a : Int} (hx : x.ev (syL vs ls) = .int k a) (hy : y.ev (syL vs ls) = .int k a) (h : o.OkL C vs ls) : (Out.ask (.bin .neq x y) .fail o).OkL C vs ls :=
  ask_no (by simp only [Te.ev]; rw [hx, hy]; exact binV_neq_int _ _) h

theorem t50S_ok : SumOk C0 50 atS := by
  refine fn_tree C0_ok ((DbOk.nil C0).addL t50L_ok) 10 10 t50_fn t50S_run t50S_b ?_
  intro vs ls _ _ hpre
  obtain ⟨a, b, c, d, L0, L1, L2, L3, rfl, rfl, h0, m0, m1, m2, m3⟩ : gtPre vs ls := hpre
  unfold t50S
  refine okl_at (L := L0) (c := .int .i64 d) (fun i => [.int .i64 a, .int .i64 b, .int .i64 c, .int .i64 d, .int .i64 i]) rfl ⟨0, d, _, _, L0, rfl, rfl, Nat.zero_le _, m0, h0, fun j hj => by omega⟩ rfl rfl (fun _ => rfl) (fun i hi => ?_) (fun hi => ?_)
  · show [Value.int .i64 (i : Int)] = [.int .i64 (idxOf L0 (.int .i64 d))]
    rw [idx_first hi]
  · show [Value.int .i64 (-1)] = [.int .i64 (idxOf L0 (.int .i64 d))]
    rw [idx_none hi]

theorem t52S_ok : SumOk C0 52 atS := by
  refine fn_tree C0_ok ((DbOk.nil C0).addL t52L_ok) 10 10 t52_fn t52S_run t52S_b ?_
  intro vs ls _ _ hpre
  obtain ⟨a, b, c, d, L0, L1, L2, L3, rfl, rfl, h0, m0, m1, m2, m3⟩ : gtPre vs ls := hpre
  unfold t52S
  refine okl_at (L := L0) (c := .int .i64 d) (fun i => [.int .i64 a, .int .i64 b, .int .i64 c, .int .i64 d, .int .i64 i]) rfl ⟨0, d, L0, rfl, rfl, Nat.zero_le _, m0, h0, fun j hj => by omega⟩ rfl rfl (fun _ => rfl) (fun i hi => ?_) (fun hi => ?_)
  · show [Value.int .i64 (i : Int)] = [.int .i64 (idxOf L0 (.int .i64 d))]
    rw [idx_first hi]
  · show [Value.int .i64 (-1)] = [.int .i64 (idxOf L0 (.int .i64 d))]
    rw [idx_none hi]

theorem okl_idx {C : Cfg} {vs : List Value} {ls : List Rw} {pid : Nat} {a : TL} {r : RL} {x : Out} {L : Rw} {c : Value} (vs2 : List Value) (hfc : C.fact = fc) (hp : C.pre pid (a.ev (syL vs ls)) (r.ev (syL vs ls))) (hL : (r.ev (syL vs ls)).getD 0 [] = L) (hc : (a.ev (syL vs ls)).getD 3 undef = c) (h2 : vs ++ [.int .i64 (idxOf L c)] = vs2) (h : x.OkL C vs2 ls) : (Out.pre pid a r (.fresh 1 0 4 a r x)).OkL C vs ls := by
  refine ⟨hp, fun vs' ls' hv hl hf => ?_⟩
  rw [hfc] at hf
  obtain rfl : vs' = [.int .i64 (idxOf ((r.ev (syL vs ls)).getD 0 []) ((a.ev (syL vs ls)).getD 3 undef))] := hf
  obtain rfl := nil_of hl
  rw [hL, hc, h2, List.append_nil]
  exact h
theorem turn_no1 {L : Rw} {c : Value} (h : idxOf L c < 0) : turnOf L c = (L, false) := by rw [turnOf, if_pos h]
theorem turn_no2 {L : Rw} {c : Value} {i : Nat} (hi : idxOf L c = (i : Int)) (h : ¬ (intV (cel L i 2) = 2 ∧ 0 ≤ intV (cel L i 12) ∧ intV (cel L i 12) ≤ 7 ∧ intV (cel L i 12) ≤ intV (cel L i 14))) : turnOf L c = (L, false) := by
  rw [turnOf]
  split
  · rfl
  · rw [hi, Int.toNat_natCast, if_neg h]
theorem turn_yes {L : Rw} {c : Value} {i : Nat} (hi : idxOf L c = (i : Int)) (h : intV (cel L i 2) = 2 ∧ 0 ≤ intV (cel L i 12) ∧ intV (cel L i 12) ≤ 7 ∧ intV (cel L i 12) ≤ intV (cel L i 14)) : turnOf L c = (turned L i, true) := by
  rw [turnOf, if_neg (by rw [hi]; omega), hi, Int.toNat_natCast, if_pos h]
theorem fc5 {vs : List Value} {L0 L1 L2 L3 R : Rw} {c : Value} {q : Bool} (hc : vs.getD 3 undef = c) (h : turnOf L0 c = (R, q)) : fc 5 vs [L0, L1, L2, L3] [.bool q] [R, L1, L2, L3] := by
  subst hc
  show [Value.bool q] = [.bool (turnOf L0 (vs.getD 3 undef)).2] ∧ [R, L1, L2, L3] = [(turnOf L0 (vs.getD 3 undef)).1, L1, L2, L3]
  rw [h]
  exact ⟨rfl, rfl⟩

theorem t66S_ok : SumOk C0 66 tgS := by
  refine fn_tree C0_ok ((DbOk.nil C0).addS (by decide) t50S_ok) 10 10 t66_fn t66S_run t66S_b ?_
  intro vs ls _ _ hpre
  obtain ⟨a, b, c, d, L0, L1, L2, L3, rfl, rfl, h0, m0, m1, m2, m3⟩ : gtPre vs ls := hpre
  unfold t66S
  iterate 4 (refine okl_need (by simp only [Te.ev, RT.ev, TL.ev, RL.ev, syL, List.getD_cons_zero, List.getD_cons_succ, natOf, Int.toNat_natCast, List.nil_append]; exact leq_true (by omega)) ?_)
  refine okl_idx (L := L0) (c := .int .i64 d) [.int .i64 a, .int .i64 b, .int .i64 c, .int .i64 d, .int .i64 (idxOf L0 (.int .i64 d))] rfl (show gtPre _ _ from ⟨a, b, c, d, L0, L1, L2, L3, rfl, rfl, h0, m0, m1, m2, m3⟩) rfl rfl rfl ?_
  rcases idx_or L0 (.int .i64 d) with hx | ⟨i, hx, hi⟩
  · have hn1 : turnOf L0 (.int .i64 d) = (L0, false) := turn_no1 (by rw [hx]; decide)
    rw [hx]
    refine okl_ask (fun _ => fc5 (c := .int .i64 d) rfl hn1) (fun hq => absurd hq (by simp [Te.ev, syL, binV]))
  · rw [hx]
    have hlt := hi.1
    obtain ⟨x2, e2⟩ := h0.at_ hlt (show 2 < 20 by decide)
    obtain ⟨x12, e12⟩ := h0.at_ hlt (show 12 < 20 by decide)
    obtain ⟨x14, e14⟩ := h0.at_ hlt (show 14 < 20 by decide)
    have g2 : (L0.getD i []).getD 2 undef = .int .i64 x2 := e2
    have g12 : (L0.getD i []).getD 12 undef = .int .i64 x12 := e12
    have g14 : (L0.getD i []).getD 14 undef = .int .i64 x14 := e14
    have hno : ¬ (x2 = 2 ∧ 0 ≤ x12 ∧ x12 ≤ 7 ∧ x12 ≤ x14) → turnOf L0 (.int .i64 d) = (L0, false) := fun h => turn_no2 hx (by rw [e2, e12, e14]; exact h)
    have hsame : ∀ h : ¬ (x2 = 2 ∧ 0 ≤ x12 ∧ x12 ≤ 7 ∧ x12 ≤ x14), turnOf L0 (.int .i64 d) = (setRw L0 i 10 [cel L0 i 10, cel L0 i 11, cel L0 i 12, cel L0 i 13, cel L0 i 14, cel L0 i 15, cel L0 i 16, cel L0 i 17, cel L0 i 18], false) := fun h => by rw [turn_same h0 hlt]; exact hno h
    refine okl_ask (fun hq => absurd hq (by simp [Te.ev, syL, binV])) (fun _ => ?_)
    refine okl_in (i := (i : Int)) (n := (L0.length : Int)) rfl rfl (by omega) (by omega) ?_
    refine okl_ask (fun hq => ?_) (fun hq => ?_)
    · simp only [Te.ev, RT.ev, TL.ev, RL.ev, syL, List.getD_cons_zero, List.getD_cons_succ, natOf, Int.toNat_natCast, List.nil_append, g2, binV, Value.bool.injEq, Bool.not_eq_true', decide_eq_false_iff_not] at hq
      exact fc5 (c := .int .i64 d) rfl (hno (fun h => hq h.1))
    simp only [Te.ev, RT.ev, TL.ev, RL.ev, syL, List.getD_cons_zero, List.getD_cons_succ, natOf, Int.toNat_natCast, List.nil_append, g2, binV, Value.bool.injEq, Bool.not_eq_false', decide_eq_true_eq] at hq
    refine okl_in (i := (i : Int)) (n := (L0.length : Int)) rfl rfl (by omega) (by omega) ?_
    refine okl_ask (fun hq1 => ?_) (fun hq1 => ?_)
    · simp only [Te.ev, RT.ev, TL.ev, RL.ev, syL, List.getD_cons_zero, List.getD_cons_succ, natOf, Int.toNat_natCast, List.nil_append, g12, binV, Value.bool.injEq, decide_eq_true_eq] at hq1
      refine okl_ask (fun hq2 => ?_) (fun hq2 => ?_)
      · simp only [Te.ev, RT.ev, TL.ev, RL.ev, syL, List.getD_cons_zero, List.getD_cons_succ, natOf, Int.toNat_natCast, List.nil_append, g12, binV, isT, Value.bool.injEq, Bool.not_eq_true', decide_eq_false_iff_not] at hq2
        refine okl_in (i := (i : Int)) (n := (L0.length : Int)) rfl rfl (by omega) (by omega) ?_
        exact fc5 (c := .int .i64 d) rfl (hsame (fun h => hq2 h.2.2.1))
      · simp only [Te.ev, RT.ev, TL.ev, RL.ev, syL, List.getD_cons_zero, List.getD_cons_succ, natOf, Int.toNat_natCast, List.nil_append, g12, binV, isT, Value.bool.injEq, Bool.not_eq_false', decide_eq_true_eq] at hq2
        refine okl_ask (fun hq3 => ?_) (fun hq3 => ?_)
        · simp only [Te.ev, RT.ev, TL.ev, RL.ev, syL, List.getD_cons_zero, List.getD_cons_succ, natOf, Int.toNat_natCast, List.nil_append, g12, g14, binV, Value.bool.injEq, decide_eq_true_eq] at hq3
          refine okl_in (i := (i : Int)) (n := (L0.length : Int)) rfl rfl (by omega) (by omega) ?_
          exact fc5 (c := .int .i64 d) rfl (hsame (fun h => by omega))
        · simp only [Te.ev, RT.ev, TL.ev, RL.ev, syL, List.getD_cons_zero, List.getD_cons_succ, natOf, Int.toNat_natCast, List.nil_append, g12, g14, binV, Value.bool.injEq, decide_eq_false_iff_not] at hq3
          refine okl_in (i := (i : Int)) (n := (L0.length : Int)) rfl rfl (by omega) (by omega) ?_
          have ht := turn_yes hx (by rw [e2, e12, e14]; exact ⟨hq, hq1, hq2, show x12 ≤ x14 from by omega⟩)
          have hb : binV .add (cel L0 i 12) (.int .i64 1) = .int .i64 (IntKind.i64.wrap (intV (cel L0 i 12) + 1)) := by rw [e12]; rfl
          have ht2 : turnOf L0 (.int .i64 d) = (setRw L0 i 10 [cel L0 i 10, cel L0 i 11, binV .add (cel L0 i 12) (.int .i64 1), .int .i64 0, cel L0 i 14, cel L0 i 15, cel L0 i 16, cel L0 i 17, cel L0 i 18], true) := by rw [hb]; exact ht
          exact fc5 (c := .int .i64 d) rfl ht2
    · simp only [Te.ev, RT.ev, TL.ev, RL.ev, syL, List.getD_cons_zero, List.getD_cons_succ, natOf, Int.toNat_natCast, List.nil_append, g12, binV, Value.bool.injEq, decide_eq_false_iff_not] at hq1
      refine okl_in (i := (i : Int)) (n := (L0.length : Int)) rfl rfl (by omega) (by omega) ?_
      exact fc5 (c := .int .i64 d) rfl (hsame (fun h => hq1 h.2.1))

theorem t67S_ok : SumOk C0 67 tgS := by
  refine fn_tree C0_ok ((DbOk.nil C0).addS (by decide) t52S_ok) 10 10 t67_fn t67S_run t67S_b ?_
  intro vs ls _ _ hpre
  obtain ⟨a, b, c, d, L0, L1, L2, L3, rfl, rfl, h0, m0, m1, m2, m3⟩ : gtPre vs ls := hpre
  unfold t67S
  iterate 4 (refine okl_need (by simp only [Te.ev, RT.ev, TL.ev, RL.ev, syL, List.getD_cons_zero, List.getD_cons_succ, natOf, Int.toNat_natCast, List.nil_append]; exact leq_true (by omega)) ?_)
  refine okl_idx (L := L0) (c := .int .i64 d) [.int .i64 a, .int .i64 b, .int .i64 c, .int .i64 d, .int .i64 (idxOf L0 (.int .i64 d))] rfl (show gtPre _ _ from ⟨a, b, c, d, L0, L1, L2, L3, rfl, rfl, h0, m0, m1, m2, m3⟩) rfl rfl rfl ?_
  rcases idx_or L0 (.int .i64 d) with hx | ⟨i, hx, hi⟩
  · have hn1 : turnOf L0 (.int .i64 d) = (L0, false) := turn_no1 (by rw [hx]; decide)
    rw [hx]
    refine okl_ask (fun _ => fc5 (c := .int .i64 d) rfl hn1) (fun hq => absurd hq (by simp [Te.ev, syL, binV]))
  · rw [hx]
    have hlt := hi.1
    obtain ⟨x2, e2⟩ := h0.at_ hlt (show 2 < 20 by decide)
    obtain ⟨x12, e12⟩ := h0.at_ hlt (show 12 < 20 by decide)
    obtain ⟨x14, e14⟩ := h0.at_ hlt (show 14 < 20 by decide)
    have g2 : (L0.getD i []).getD 2 undef = .int .i64 x2 := e2
    have g12 : (L0.getD i []).getD 12 undef = .int .i64 x12 := e12
    have g14 : (L0.getD i []).getD 14 undef = .int .i64 x14 := e14
    have hno : ¬ (x2 = 2 ∧ 0 ≤ x12 ∧ x12 ≤ 7 ∧ x12 ≤ x14) → turnOf L0 (.int .i64 d) = (L0, false) := fun h => turn_no2 hx (by rw [e2, e12, e14]; exact h)
    have hsame : ∀ h : ¬ (x2 = 2 ∧ 0 ≤ x12 ∧ x12 ≤ 7 ∧ x12 ≤ x14), turnOf L0 (.int .i64 d) = (setRw L0 i 10 [cel L0 i 10, cel L0 i 11, cel L0 i 12, cel L0 i 13, cel L0 i 14, cel L0 i 15, cel L0 i 16, cel L0 i 17, cel L0 i 18], false) := fun h => by rw [turn_same h0 hlt]; exact hno h
    refine okl_ask (fun hq => absurd hq (by simp [Te.ev, syL, binV])) (fun _ => ?_)
    refine okl_in (i := (i : Int)) (n := (L0.length : Int)) rfl rfl (by omega) (by omega) ?_
    refine okl_ask (fun hq => ?_) (fun hq => ?_)
    · simp only [Te.ev, RT.ev, TL.ev, RL.ev, syL, List.getD_cons_zero, List.getD_cons_succ, natOf, Int.toNat_natCast, List.nil_append, g2, binV, Value.bool.injEq, Bool.not_eq_true', decide_eq_false_iff_not] at hq
      exact fc5 (c := .int .i64 d) rfl (hno (fun h => hq h.1))
    simp only [Te.ev, RT.ev, TL.ev, RL.ev, syL, List.getD_cons_zero, List.getD_cons_succ, natOf, Int.toNat_natCast, List.nil_append, g2, binV, Value.bool.injEq, Bool.not_eq_false', decide_eq_true_eq] at hq
    refine okl_ask (fun hq' => absurd hq' (by simp [Te.ev, syL, binV])) (fun _ => ?_)
    refine okl_in (i := (i : Int)) (n := (L0.length : Int)) rfl rfl (by omega) (by omega) ?_
    refine okl_ask (fun hq1 => ?_) (fun hq1 => ?_)
    · simp only [Te.ev, RT.ev, TL.ev, RL.ev, syL, List.getD_cons_zero, List.getD_cons_succ, natOf, Int.toNat_natCast, List.nil_append, g12, binV, Value.bool.injEq, decide_eq_true_eq] at hq1
      refine okl_ask (fun hq2 => ?_) (fun hq2 => ?_)
      · simp only [Te.ev, RT.ev, TL.ev, RL.ev, syL, List.getD_cons_zero, List.getD_cons_succ, natOf, Int.toNat_natCast, List.nil_append, g12, binV, isT, Value.bool.injEq, Bool.not_eq_true', decide_eq_false_iff_not] at hq2
        refine okl_in (i := (i : Int)) (n := (L0.length : Int)) rfl rfl (by omega) (by omega) ?_
        exact fc5 (c := .int .i64 d) rfl (hsame (fun h => hq2 h.2.2.1))
      · simp only [Te.ev, RT.ev, TL.ev, RL.ev, syL, List.getD_cons_zero, List.getD_cons_succ, natOf, Int.toNat_natCast, List.nil_append, g12, binV, isT, Value.bool.injEq, Bool.not_eq_false', decide_eq_true_eq] at hq2
        refine okl_ask (fun hq3 => ?_) (fun hq3 => ?_)
        · simp only [Te.ev, RT.ev, TL.ev, RL.ev, syL, List.getD_cons_zero, List.getD_cons_succ, natOf, Int.toNat_natCast, List.nil_append, g12, g14, binV, Value.bool.injEq, decide_eq_true_eq] at hq3
          refine okl_in (i := (i : Int)) (n := (L0.length : Int)) rfl rfl (by omega) (by omega) ?_
          exact fc5 (c := .int .i64 d) rfl (hsame (fun h => by omega))
        · simp only [Te.ev, RT.ev, TL.ev, RL.ev, syL, List.getD_cons_zero, List.getD_cons_succ, natOf, Int.toNat_natCast, List.nil_append, g12, g14, binV, Value.bool.injEq, decide_eq_false_iff_not] at hq3
          refine okl_in (i := (i : Int)) (n := (L0.length : Int)) rfl rfl (by omega) (by omega) ?_
          have ht := turn_yes hx (by rw [e2, e12, e14]; exact ⟨hq, hq1, hq2, show x12 ≤ x14 from by omega⟩)
          have hb : binV .add (cel L0 i 12) (.int .i64 1) = .int .i64 (IntKind.i64.wrap (intV (cel L0 i 12) + 1)) := by rw [e12]; rfl
          have ht2 : turnOf L0 (.int .i64 d) = (setRw L0 i 10 [cel L0 i 10, cel L0 i 11, binV .add (cel L0 i 12) (.int .i64 1), .int .i64 0, cel L0 i 14, cel L0 i 15, cel L0 i 16, cel L0 i 17, cel L0 i 18], true) := by rw [hb]; exact ht
          exact fc5 (c := .int .i64 d) rfl ht2
    · simp only [Te.ev, RT.ev, TL.ev, RL.ev, syL, List.getD_cons_zero, List.getD_cons_succ, natOf, Int.toNat_natCast, List.nil_append, g12, binV, Value.bool.injEq, decide_eq_false_iff_not] at hq1
      refine okl_in (i := (i : Int)) (n := (L0.length : Int)) rfl rfl (by omega) (by omega) ?_
      exact fc5 (c := .int .i64 d) rfl (hsame (fun h => hq1 h.2.1))
end Go.Proofs.Ytdfhkmekmockkaa.Rs
