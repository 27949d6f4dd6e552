import Derived.Test.YtipomcnbjlfekaaRsC2
/- Nodes looked at, terms made: contracts. -/
namespace Go.Proofs.Ytipomcnbjlfekaa.Rs
open Go.RowKit
set_option linter.unusedVariables false
set_option linter.unusedSimpArgs false
set_option maxRecDepth 100000
/-- The node at a place. -/
def ndAt (a : Ar) (x : Int) : Option Nd := if 0 ≤ x then a[x.toNat]? else none
theorem ndAt_none {a : Ar} {x : Int} (hl : a.length ≤ 90000000) (h : ndAt a x = none) : inB x 0 (wr ((a.length : Int) - 1)) = false := by
  rw [wr_id (by omega) (by omega)]
  unfold ndAt at h
  split at h
  · have := List.getElem?_eq_none_iff.1 h
    simp [inB]; omega
  · simp [inB]; omega
theorem ndAt_some {a : Ar} {x : Int} {n : Nd} (h : ndAt a x = some n) : ∃ (i : Nat) (hi : i < a.length), x = (i : Int) ∧ a[i] = n := by
  unfold ndAt at h
  split at h
  · obtain ⟨h1, h2⟩ := List.getElem?_eq_some_iff.1 h
    exact ⟨x.toNat, h1, by omega, h2⟩
  · cases h
theorem inB_lt {a : Ar} {i : Nat} (hl : a.length ≤ 90000000) (hi : i < a.length) : inB (i : Int) 0 (wr ((a.length : Int) - 1)) = true := by
  rw [wr_id (by omega) (by omega)]
  simp [inB]; omega
def nodeOk (a : Ar) (x : Int) : Bool := match ndAt a x with | some n => n.right x | none => false
theorem f_nodeOk (a : Ar) (x : Int) (hl : a.length ≤ 90000000) : fin trA 15 [I x] [encA a] = some (0, [B (nodeOk a x)], []) := by
  refine fin_tree trA ?_
  show o24.go _ _ _ = _
  unfold nodeOk
  cases h : ndAt a x with
  | none =>
    simp only [o24, go_ask, go_need, go_call, go_ret, go_one, go_more, Te.ev, RT.ev, TL.ev, syL, List.getD_cons_zero, List.getD_cons_succ, List.map_cons, List.map_nil, List.cons_append, List.nil_append, List.append_nil, bv_add, bv_sub, bv_mul, bv_eql, bv_neq, bv_lss, bv_leq, bv_gtr, bv_geq, bv_rem, isT_bool, natOf_int, askV_bool, needV_bool, callV_some, decide_eq_true_eq, decide_true, decide_false, Bool.not_eq_true', decide_eq_false_iff_not, selfP, Nat.reduceEqDiff, Nat.succ_ne_zero, ↓reduceIte, if_true, if_false, f_in, encA_len, ndAt_none hl h]
    simp
  | some n =>
    obtain ⟨i, hi, rfl, rfl⟩ := ndAt_some h
    simp only [o24, go_ask, go_need, go_call, go_ret, go_one, go_more, Te.ev, RT.ev, TL.ev, syL, List.getD_cons_zero, List.getD_cons_succ, List.map_cons, List.map_nil, List.cons_append, List.nil_append, List.append_nil, bv_add, bv_sub, bv_mul, bv_eql, bv_neq, bv_lss, bv_leq, bv_gtr, bv_geq, bv_rem, isT_bool, natOf_int, askV_bool, needV_bool, callV_some, decide_eq_true_eq, decide_true, decide_false, Bool.not_eq_true', decide_eq_false_iff_not, selfP, Nat.reduceEqDiff, Nat.succ_ne_zero, ↓reduceIte, if_true, if_false, f_in, encA_len, inB_lt hl hi, Int.toNat_natCast, encA_get a i hi, Nd.enc, f_node]
    rw [if_pos (by omega), if_pos (by omega)]
def isK (a : Ar) (x k : Int) : Bool := match ndAt a x with | some n => n.right x && decide (n.k = k) | none => false
theorem f_is (a : Ar) (x k : Int) (hl : a.length ≤ 90000000) : fin trA 18 [I x, I k] [encA a] = some (0, [B (isK a x k)], []) := by
  refine fin_tree trA ?_
  show o69.go _ _ _ = _
  unfold isK
  have hn := f_nodeOk a x hl
  unfold nodeOk at hn
  cases h : ndAt a x with
  | none =>
    rw [h] at hn
    simp only [o69, go_ask, go_need, go_call, go_ret, go_one, go_more, Te.ev, RT.ev, TL.ev, syL, List.getD_cons_zero, List.getD_cons_succ, List.map_cons, List.map_nil, List.cons_append, List.nil_append, List.append_nil, bv_add, bv_sub, bv_mul, bv_eql, bv_neq, bv_lss, bv_leq, bv_gtr, bv_geq, bv_rem, isT_bool, natOf_int, askV_bool, needV_bool, callV_some, decide_eq_true_eq, decide_true, decide_false, Bool.not_eq_true', decide_eq_false_iff_not, selfP, Nat.reduceEqDiff, Nat.succ_ne_zero, ↓reduceIte, if_true, if_false, hn]
    simp
  | some n =>
    rw [h] at hn
    dsimp only at hn
    obtain ⟨i, hi, rfl, rfl⟩ := ndAt_some h
    have g0 : (0 : Int) ≤ (i : Int) := by omega
    have g1 : (i : Int) < (a.length : Int) := by omega
    simp only [o69, go_ask, go_need, go_call, go_ret, go_one, go_more, Te.ev, RT.ev, TL.ev, syL, List.getD_cons_zero, List.getD_cons_succ, List.map_cons, List.map_nil, List.cons_append, List.nil_append, List.append_nil, bv_add, bv_sub, bv_mul, bv_eql, bv_neq, bv_lss, bv_leq, bv_gtr, bv_geq, bv_rem, isT_bool, natOf_int, askV_bool, needV_bool, callV_some, decide_eq_true_eq, decide_true, decide_false, Bool.not_eq_true', decide_eq_false_iff_not, selfP, Nat.reduceEqDiff, Nat.succ_ne_zero, ↓reduceIte, if_true, if_false, hn, encA_len, Int.toNat_natCast, encA_get a i hi, Nd.enc]
    cases Nd.right a[i] (i : Int) <;> simp [g0, hi]
def numOf (a : Ar) (x : Int) : Int × Bool := match ndAt a x with | some n => if n.right x = true ∧ n.k = 1 then (n.num, true) else (0, false) | none => (0, false)
theorem f_num (a : Ar) (x : Int) (hl : a.length ≤ 90000000) : fin trA 19 [I x] [encA a] = some (0, [I (numOf a x).1, B (numOf a x).2], []) := by
  refine fin_tree trA ?_
  show o62.go _ _ _ = _
  unfold numOf
  have hn := f_is a x 1 hl
  unfold isK at hn
  cases h : ndAt a x with
  | none =>
    rw [h] at hn
    simp only [o62, go_ask, go_need, go_call, go_ret, go_one, go_more, Te.ev, RT.ev, TL.ev, syL, List.getD_cons_zero, List.getD_cons_succ, List.map_cons, List.map_nil, List.cons_append, List.nil_append, List.append_nil, bv_add, bv_sub, bv_mul, bv_eql, bv_neq, bv_lss, bv_leq, bv_gtr, bv_geq, bv_rem, isT_bool, natOf_int, askV_bool, needV_bool, callV_some, decide_eq_true_eq, decide_true, decide_false, Bool.not_eq_true', decide_eq_false_iff_not, selfP, Nat.reduceEqDiff, Nat.succ_ne_zero, ↓reduceIte, if_true, if_false, hn]
  | some n =>
    rw [h] at hn
    dsimp only at hn
    obtain ⟨i, hi, rfl, rfl⟩ := ndAt_some h
    have g0 : (0 : Int) ≤ (i : Int) := by omega
    have g1 : (i : Int) < (a.length : Int) := by omega
    simp only [o62, go_ask, go_need, go_call, go_ret, go_one, go_more, Te.ev, RT.ev, TL.ev, syL, List.getD_cons_zero, List.getD_cons_succ, List.map_cons, List.map_nil, List.cons_append, List.nil_append, List.append_nil, bv_add, bv_sub, bv_mul, bv_eql, bv_neq, bv_lss, bv_leq, bv_gtr, bv_geq, bv_rem, isT_bool, natOf_int, askV_bool, needV_bool, callV_some, decide_eq_true_eq, decide_true, decide_false, Bool.not_eq_true', decide_eq_false_iff_not, selfP, Nat.reduceEqDiff, Nat.succ_ne_zero, ↓reduceIte, if_true, if_false, hn, encA_len, Int.toNat_natCast, encA_get a i hi, Nd.enc]
    cases Nd.right a[i] (i : Int) <;> by_cases h1 : a[i].k = 1 <;> simp [h1, g0, hi]
/-- A term of two is made. -/
theorem f_make2 {a : Ar} {c x y : Int} {t u : Tm'} (ha : AOk a) (hc : c = 2 ∨ c = 4 ∨ c = 5 ∨ c = 8 ∨ c = 9) (hx : Den a x t) (hy : Den a y u) (hl : a.length < 3000) :
    ∃ a' k, fin trA 23 [I c, I x, I y] [encA a] = some (0, [I k], [encA a']) ∧ Ext a a' 1 ∧ Den a' k (.bin c t u) := by
  obtain ⟨h1, h2⟩ := put_bin (c := c) ha (by omega) hx hy hl
  refine ⟨_, _, fin_tree trA ?_, h1, h2⟩
  show o63.go _ _ _ = _
  have hx0 := hx.nonneg; have hy0 := hy.nonneg
  have ho : isOne c = false := by simp [isOne]; omega
  simp only [o63, go_ask, go_need, go_call, go_ret, go_one, go_more, Te.ev, RT.ev, TL.ev, syL, List.getD_cons_zero, List.getD_cons_succ, List.map_cons, List.map_nil, List.cons_append, List.nil_append, List.append_nil, bv_add, bv_sub, bv_mul, bv_eql, bv_neq, bv_lss, bv_leq, bv_gtr, bv_geq, bv_rem, isT_bool, natOf_int, askV_bool, needV_bool, callV_some, decide_eq_true_eq, decide_true, decide_false, Bool.not_eq_true', decide_eq_false_iff_not, selfP, Nat.reduceEqDiff, Nat.succ_ne_zero, ↓reduceIte, if_true, if_false, f_one, ho, f_put _ _ _ _ _ (show a.length ≤ 90000000 by omega)]
  rw [if_neg Bool.false_ne_true, if_neg (by omega), if_neg (by omega), if_neg (by omega), if_neg (by omega)]
theorem f_atomD {a : Ar} {n : Int} (ha : AOk a) (h0 : 0 ≤ n) (h1 : n ≤ 999999) (hl : a.length < 3000) :
    ∃ a' k, fin trA 11 [I n] [encA a] = some (0, [I k], [encA a']) ∧ Ext a a' 1 ∧ Den a' k (.atom n) := by
  obtain ⟨h2, h3⟩ := put_atom ha h0 h1 hl
  exact ⟨_, _, f_atom a n (by omega), h2, h3⟩
/-- The key of a side. -/
def Tm'.key (t : Tm') (n : Int) : Tm' := .bin 4 t (.atom n)
theorem f_side {a : Ar} {x n : Int} {t : Tm'} (ha : AOk a) (hx : Den a x t) (h0 : 0 ≤ n) (h1 : n ≤ 999999) (hl : a.length + 2 ≤ 3000) :
    ∃ a' k, fin trA 24 [I x, I n] [encA a] = some (0, [I k], [encA a']) ∧ Ext a a' 2 ∧ Den a' k (t.key n) := by
  obtain ⟨a1, k1, e1, x1, d1⟩ := f_atomD ha h0 h1 (by omega)
  have l1 := x1.len
  obtain ⟨a2, k2, e2, x2, d2⟩ := f_make2 (c := 4) x1.ok (by omega) (hx.mono x1.pre) d1 (by omega)
  refine ⟨a2, k2, fin_tree trA ?_, x1.trans x2, d2⟩
  show o46.go _ _ _ = _
  simp only [o46, go_ask, go_need, go_call, go_ret, go_one, go_more, Te.ev, RT.ev, TL.ev, syL, List.getD_cons_zero, List.getD_cons_succ, List.map_cons, List.map_nil, List.cons_append, List.nil_append, List.append_nil, bv_add, bv_sub, bv_mul, bv_eql, bv_neq, bv_lss, bv_leq, bv_gtr, bv_geq, bv_rem, isT_bool, natOf_int, askV_bool, needV_bool, callV_some, decide_eq_true_eq, decide_true, decide_false, Bool.not_eq_true', decide_eq_false_iff_not, selfP, Nat.reduceEqDiff, Nat.succ_ne_zero, ↓reduceIte, if_true, if_false, e1, e2]
end Go.Proofs.Ytipomcnbjlfekaa.Rs
