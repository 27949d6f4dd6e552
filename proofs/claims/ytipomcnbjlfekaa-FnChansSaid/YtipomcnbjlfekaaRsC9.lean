import Derived.Test.YtipomcnbjlfekaaRsC8
/- Records opened, whole. -/
namespace Go.Proofs.Ytipomcnbjlfekaa.Rs
open Go.RowKit
set_option linter.unusedVariables false
set_option linter.unusedSimpArgs false
set_option maxRecDepth 100000
theorem f_openRec_yes {a : Ar} (ha : AOk a) (hl : a.length ≤ 90000000) {x k e s : Int} {t u : Tm'} (he : 0 ≤ e ∧ e ≤ 8) (hs : 0 ≤ s ∧ s ≤ 9999) (hx : Den a x t) (hk : Den a k (t.record e s u)) : ∃ j, fin trA 28 [I x, I k] [encA a] = some (0, [I j, B true], []) ∧ Den a j u := by
  obtain ⟨y1, y2, y3, e1, d1, d2, d3⟩ := f_parts3 ha hl hk
  obtain ⟨j, e2, d4⟩ := f_open_yes ha hl hx d3
  obtain ⟨z1, z2, z3, e3, c1, c2, c3⟩ := f_parts3 ha hl d4
  obtain rfl := c1.inj ha d1
  obtain rfl := c2.inj ha d2
  refine ⟨z3, fin_tree trA ?_, c3⟩
  show o48.go _ _ _ = _
  simp only [o48, go_ask, go_need, go_call, go_ret, go_one, go_more, Te.ev, RT.ev, TL.ev, syL, List.getD_cons_zero, List.getD_cons_succ, List.map_cons, List.map_nil, List.cons_append, List.nil_append, List.append_nil, bv_add, bv_sub, bv_mul, bv_eql, bv_neq, bv_lss, bv_leq, bv_gtr, bv_geq, bv_rem, isT_bool, natOf_int, askV_bool, needV_bool, callV_some, decide_eq_true_eq, decide_true, decide_false, Bool.not_eq_true', decide_eq_false_iff_not, selfP, Nat.reduceEqDiff, Nat.succ_ne_zero, ↓reduceIte, if_true, if_false, f_head (key := 0) (t := t) ha hl he hs hk, e1, e2, e3, Bool.not_true, Bool.false_eq_true, List.length_cons, List.length_nil, Nat.zero_add, Nat.reduceAdd, Int.cast_ofNat_Int, Int.reduceLT, Int.reduceLE, Int.toNat_zero, Int.toNat_one, Int.le_refl, Int.reduceToNat]
theorem f_openRec_no {a : Ar} (ha : AOk a) (hl : a.length ≤ 90000000) {x k e s : Int} {t t' u : Tm'} (he : 0 ≤ e ∧ e ≤ 8) (hs : 0 ≤ s ∧ s ≤ 9999) (hx : Den a x t') (hne : t' ≠ t) (hk : Den a k (t.record e s u)) : fin trA 28 [I x, I k] [encA a] = some (0, [I (-1), B false], []) := by
  obtain ⟨y1, y2, y3, e1, d1, d2, d3⟩ := f_parts3 ha hl hk
  have e2 := f_open_no ha hl hx hne d3
  have e3 := f_parts_no hl (isK_neg a 2)
  refine fin_tree trA ?_
  show o48.go _ _ _ = _
  simp only [o48, go_ask, go_need, go_call, go_ret, go_one, go_more, Te.ev, RT.ev, TL.ev, syL, List.getD_cons_zero, List.getD_cons_succ, List.map_cons, List.map_nil, List.cons_append, List.nil_append, List.append_nil, bv_add, bv_sub, bv_mul, bv_eql, bv_neq, bv_lss, bv_leq, bv_gtr, bv_geq, bv_rem, isT_bool, natOf_int, askV_bool, needV_bool, callV_some, decide_eq_true_eq, decide_true, decide_false, Bool.not_eq_true', decide_eq_false_iff_not, selfP, Nat.reduceEqDiff, Nat.succ_ne_zero, ↓reduceIte, if_true, if_false, f_head (key := 0) (t := t) ha hl he hs hk, e1, e2, e3, Bool.not_true, Bool.not_false, Bool.false_eq_true, List.length_cons, List.length_nil, Nat.zero_add, Nat.reduceAdd, Int.cast_ofNat_Int, Int.reduceLT, Int.reduceLE, Int.toNat_zero, Int.toNat_one, Int.le_refl, Int.reduceToNat]
end Go.Proofs.Ytipomcnbjlfekaa.Rs
