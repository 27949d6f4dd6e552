import Derived.Test.YtipomcnbjlfekaaRsC4
/- Records: contracts. -/
namespace Go.Proofs.Ytipomcnbjlfekaa.Rs
open Go.RowKit
set_option linter.unusedVariables false
set_option linter.unusedSimpArgs false
set_option maxRecDepth 100000
def Tm'.record (key : Tm') (e s : Int) (body : Tm') : Tm' := .list [.atom e, .atom s, .bin 5 key (.list [.atom e, .atom s, body])]
theorem den3 {a : Ar} {x y z : Int} {t u v : Tm'} (h1 : Den a x t) (h2 : Den a y u) (h3 : Den a z v) : ∀ j (h : j < [x, y, z].length) (h' : j < [t, u, v].length), Den a [x, y, z][j] [t, u, v][j]
  | 0, _, _ => h1
  | 1, _, _ => h2
  | 2, _, _ => h3
  | n + 3, h, _ => absurd h (by simp)
theorem f_record {a : Ar} {key e s body : Int} {t u : Tm'} (ha : AOk a) (hk : Den a key t) (hb : Den a body u) (he : 0 ≤ e ∧ e ≤ 8) (hs : 0 ≤ s ∧ s ≤ 9999) (hl : a.length + 11 ≤ 3000) :
    ∃ a' k, fin trA 36 [I key, I e, I s, I body] [encA a] = some (0, [I k], [encA a']) ∧ Ext a a' 11 ∧ Den a' k (t.record e s u) := by
  obtain ⟨a1, k1, e1, x1, d1⟩ := f_atomD (n := e) ha he.1 (by omega) (by omega)
  have l1 := x1.len
  obtain ⟨a2, k2, e2, x2, d2⟩ := f_atomD (n := s) x1.ok hs.1 (by omega) (by omega)
  have l2 := x2.len
  have d1' := d1.mono x2.pre
  have hb' := (hb.mono x1.pre).mono x2.pre
  obtain ⟨a3, k3, e3, x3, d3⟩ := f_list (xs := [k1, k2, body]) (ts := [.atom e, .atom s, u]) rfl (by simp) x2.ok (den3 d1' d2 hb') (by simp; omega)
  have l3 := x3.len
  have l3' : ([k1, k2, body] : List Int).length = 3 := rfl
  have hk3 := ((hk.mono x1.pre).mono x2.pre).mono x3.pre
  obtain ⟨a4, k4, e4, x4, d4⟩ := f_make2 (c := 5) x3.ok (by omega) hk3 d3 (by omega)
  have l4 := x4.len
  obtain ⟨a5, k5, e5, x5, d5⟩ := f_list (xs := [k1, k2, k4]) (ts := [.atom e, .atom s, _]) rfl (by simp) x4.ok (den3 ((d1'.mono x3.pre).mono x4.pre) ((d2.mono x3.pre).mono x4.pre) d4) (by simp; omega)
  refine ⟨a5, k5, fin_tree trA ?_, ((((x1.trans x2).trans x3).trans x4).trans x5).le (by simp), d5⟩
  show o51.go _ _ _ = _
  have g1 : inB e 0 8 = true := by simp [inB]; omega
  have g2 : inB s 0 9999 = true := by simp [inB]; omega
  have q1 : ∀ x y z : Int, [] ++ [[I x]] ++ [[I y]] ++ [[I z]] = encI [x, y, z] := fun _ _ _ => rfl
  simp only [o51, go_ask, go_need, go_call, go_ret, go_one, go_more, Te.ev, RT.ev, TL.ev, syL, List.getD_cons_zero, List.getD_cons_succ, List.map_cons, List.map_nil, List.cons_append, List.nil_append, List.append_nil, bv_add, bv_sub, bv_mul, bv_eql, bv_neq, bv_lss, bv_leq, bv_gtr, bv_geq, bv_rem, isT_bool, natOf_int, askV_bool, needV_bool, callV_some, decide_eq_true_eq, decide_true, decide_false, Bool.not_eq_true', decide_eq_false_iff_not, selfP, Nat.reduceEqDiff, Nat.succ_ne_zero, ↓reduceIte, if_true, if_false, f_in, g1, g2, f_nodeOk _ _ (show a.length ≤ 90000000 by omega), hk.nodeOk ha, hb.nodeOk ha, Bool.not_true, Bool.false_eq_true, e1, e2, e4]
  simp only [encI, List.map_cons, List.map_nil] at e3 e5
  simp only [go_ask, go_need, go_call, go_ret, go_one, go_more, Te.ev, RT.ev, TL.ev, syL, List.getD_cons_zero, List.getD_cons_succ, List.map_cons, List.map_nil, List.cons_append, List.nil_append, List.append_nil, bv_add, bv_sub, bv_mul, bv_eql, bv_neq, bv_lss, bv_leq, bv_gtr, bv_geq, bv_rem, isT_bool, natOf_int, askV_bool, needV_bool, callV_some, decide_eq_true_eq, decide_true, decide_false, Bool.not_eq_true', decide_eq_false_iff_not, selfP, Nat.reduceEqDiff, Nat.succ_ne_zero, ↓reduceIte, if_true, if_false, e3, e4, e5]
end Go.Proofs.Ytipomcnbjlfekaa.Rs
