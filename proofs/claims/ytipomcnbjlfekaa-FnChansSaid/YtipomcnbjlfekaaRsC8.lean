import Derived.Test.YtipomcnbjlfekaaRsC7
/- Records opened. -/
namespace Go.Proofs.Ytipomcnbjlfekaa.Rs
open Go.RowKit
set_option linter.unusedVariables false
set_option linter.unusedSimpArgs false
set_option maxRecDepth 100000
theorem f_parts_no {a : Ar} (hl : a.length ≤ 90000000) {k : Int} (hk : isK a k 2 = false) : fin trA 21 [I k, I 3] [encA a] = some (0, [B false], [[]]) := by
  have h0 : fin trA 20 [I k, I 3, B false, I 0] [encA a, [], []] = some (1, [B false], [[]]) := by
    refine fin_tree trA ?_
    show o61_0.go _ _ _ = _
    simp only [o61_0, go_ask, go_need, go_call, go_ret, go_one, go_more, Te.ev, RT.ev, TL.ev, syL, List.getD_cons_zero, List.getD_cons_succ, List.map_cons, List.map_nil, List.cons_append, List.nil_append, List.append_nil, bv_add, bv_sub, bv_mul, bv_eql, bv_neq, bv_lss, bv_leq, bv_gtr, bv_geq, bv_rem, isT_bool, natOf_int, askV_bool, needV_bool, callV_some, decide_eq_true_eq, decide_true, decide_false, Bool.not_eq_true', decide_eq_false_iff_not, selfP, Nat.reduceEqDiff, Nat.succ_ne_zero, ↓reduceIte, if_true, if_false, f_is a _ _ hl, hk, Int.reduceLT, Bool.not_false]
  refine fin_tree trA ?_
  show o61.go _ _ _ = _
  simp only [o61, go_ask, go_need, go_call, go_ret, go_one, go_more, Te.ev, RT.ev, TL.ev, syL, List.getD_cons_zero, List.getD_cons_succ, List.map_cons, List.map_nil, List.cons_append, List.nil_append, List.append_nil, bv_add, bv_sub, bv_mul, bv_eql, bv_neq, bv_lss, bv_leq, bv_gtr, bv_geq, bv_rem, isT_bool, natOf_int, askV_bool, needV_bool, callV_some, decide_eq_true_eq, decide_true, decide_false, Bool.not_eq_true', decide_eq_false_iff_not, selfP, Nat.reduceEqDiff, Nat.succ_ne_zero, ↓reduceIte, if_true, if_false, h0]
theorem isK_neg (a : Ar) (c : Int) : isK a (-1) c = false := by simp [isK, ndAt]
theorem f_open_yes {a : Ar} (ha : AOk a) (hl : a.length ≤ 90000000) {x k : Int} {t u : Tm'} (hx : Den a x t) (hk : Den a k (.bin 5 t u)) : ∃ j, fin trA 27 [I x, I k] [encA a] = some (0, [I j, B true], []) ∧ Den a j u := by
  obtain ⟨p, hp, i, j, rfl, hnd, h1, h2, h3⟩ := den_bin ha hk
  obtain rfl := h1.inj ha hx
  refine ⟨j, fin_tree trA ?_, h2⟩
  show o64.go _ _ _ = _
  have g0 : (0 : Int) ≤ (p : Int) := by omega
  have g1 : (p : Int) < (a.length : Int) := by omega
  simp only [o64, go_ask, go_need, go_call, go_ret, go_one, go_more, Te.ev, RT.ev, TL.ev, syL, List.getD_cons_zero, List.getD_cons_succ, List.map_cons, List.map_nil, List.cons_append, List.nil_append, List.append_nil, bv_add, bv_sub, bv_mul, bv_eql, bv_neq, bv_lss, bv_leq, bv_gtr, bv_geq, bv_rem, isT_bool, natOf_int, askV_bool, needV_bool, callV_some, decide_eq_true_eq, decide_true, decide_false, Bool.not_eq_true', decide_eq_false_iff_not, selfP, Nat.reduceEqDiff, Nat.succ_ne_zero, ↓reduceIte, if_true, if_false, f_is a _ _ hl, h3, encA_len, Int.toNat_natCast, encA_get a p hp, hnd, Nd.enc, g0, g1, Bool.not_true, Bool.false_eq_true, decide_true]
theorem f_open_no {a : Ar} (ha : AOk a) (hl : a.length ≤ 90000000) {x k : Int} {t t' u : Tm'} (hx : Den a x t') (hne : t' ≠ t) (hk : Den a k (.bin 5 t u)) : fin trA 27 [I x, I k] [encA a] = some (0, [I (-1), B false], []) := by
  obtain ⟨p, hp, i, j, rfl, hnd, h1, h2, h3⟩ := den_bin ha hk
  have hix : ¬ i = x := fun h => hne ((h ▸ hx : Den a i t').fun h1)
  refine fin_tree trA ?_
  show o64.go _ _ _ = _
  have g0 : (0 : Int) ≤ (p : Int) := by omega
  have g1 : (p : Int) < (a.length : Int) := by omega
  simp only [o64, go_ask, go_need, go_call, go_ret, go_one, go_more, Te.ev, RT.ev, TL.ev, syL, List.getD_cons_zero, List.getD_cons_succ, List.map_cons, List.map_nil, List.cons_append, List.nil_append, List.append_nil, bv_add, bv_sub, bv_mul, bv_eql, bv_neq, bv_lss, bv_leq, bv_gtr, bv_geq, bv_rem, isT_bool, natOf_int, askV_bool, needV_bool, callV_some, decide_eq_true_eq, decide_true, decide_false, Bool.not_eq_true', decide_eq_false_iff_not, selfP, Nat.reduceEqDiff, Nat.succ_ne_zero, ↓reduceIte, if_true, if_false, f_is a _ _ hl, h3, encA_len, Int.toNat_natCast, encA_get a p hp, hnd, Nd.enc, g0, g1, hix, Bool.not_true, Bool.false_eq_true, Bool.not_false]
end Go.Proofs.Ytipomcnbjlfekaa.Rs
