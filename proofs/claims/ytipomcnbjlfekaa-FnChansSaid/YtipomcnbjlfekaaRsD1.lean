import Derived.Test.YtipomcnbjlfekaaRsC13
/- The program's terms: contracts. -/
namespace Go.Proofs.Ytipomcnbjlfekaa.Rs
open Go.RowKit
set_option linter.unusedVariables false
set_option linter.unusedSimpArgs false
set_option maxRecDepth 100000
theorem f_i_in (x a b : Int) : fin trA 46 [I x, I a, I b] [] = some (0, [B (inB x a b)], []) := by
  refine fin_tree trA ?_
  show o17.go _ _ _ = _
  simp only [o17, go_ask, go_need, go_call, go_ret, go_one, go_more, Te.ev, RT.ev, TL.ev, syL, List.getD_cons_zero, List.getD_cons_succ, List.map_cons, List.map_nil, List.cons_append, List.nil_append, List.append_nil, bv_add, bv_sub, bv_mul, bv_eql, bv_neq, bv_lss, bv_leq, bv_gtr, bv_geq, bv_rem, isT_bool, natOf_int, askV_bool, needV_bool, callV_some, decide_eq_true_eq, decide_true, decide_false, Bool.not_eq_true', decide_eq_false_iff_not, selfP, Nat.reduceEqDiff, Nat.succ_ne_zero, ↓reduceIte, if_true, if_false, Bool.false_eq_true, Bool.not_true, Bool.not_false]
  by_cases h : a ≤ x <;> simp [h, inB]
theorem f_i_has (a : Ar) (x : Int) : fin trA 47 [I x] [encA a] = some (0, [B (inB x 0 (wr ((a.length : Int) - 1)))], []) := by
  refine fin_tree trA ?_
  show o35.go _ _ _ = _
  simp only [o35, go_ask, go_need, go_call, go_ret, go_one, go_more, Te.ev, RT.ev, TL.ev, syL, List.getD_cons_zero, List.getD_cons_succ, List.map_cons, List.map_nil, List.cons_append, List.nil_append, List.append_nil, bv_add, bv_sub, bv_mul, bv_eql, bv_neq, bv_lss, bv_leq, bv_gtr, bv_geq, bv_rem, isT_bool, natOf_int, askV_bool, needV_bool, callV_some, decide_eq_true_eq, decide_true, decide_false, Bool.not_eq_true', decide_eq_false_iff_not, selfP, Nat.reduceEqDiff, Nat.succ_ne_zero, ↓reduceIte, if_true, if_false, Bool.false_eq_true, Bool.not_true, Bool.not_false, f_i_in, encA_len]
def isI (a : Ar) (x k : Int) : Bool := match ndAt a x with | some n => decide (n.k = k) | none => false
theorem f_i_is (a : Ar) (x k : Int) (hl : a.length ≤ 90000000) : fin trA 48 [I x, I k] [encA a] = some (0, [B (isI a x k)], []) := by
  refine fin_tree trA ?_
  show o33.go _ _ _ = _
  unfold isI
  cases h : ndAt a x with
  | none => simp only [o33, go_ask, go_need, go_call, go_ret, go_one, go_more, Te.ev, RT.ev, TL.ev, syL, List.getD_cons_zero, List.getD_cons_succ, List.map_cons, List.map_nil, List.cons_append, List.nil_append, List.append_nil, bv_add, bv_sub, bv_mul, bv_eql, bv_neq, bv_lss, bv_leq, bv_gtr, bv_geq, bv_rem, isT_bool, natOf_int, askV_bool, needV_bool, callV_some, decide_eq_true_eq, decide_true, decide_false, Bool.not_eq_true', decide_eq_false_iff_not, selfP, Nat.reduceEqDiff, Nat.succ_ne_zero, ↓reduceIte, if_true, if_false, Bool.false_eq_true, Bool.not_true, Bool.not_false, f_i_has, ndAt_none hl h, Bool.false_eq_true]
  | some n =>
    obtain ⟨i, hi, rfl, rfl⟩ := ndAt_some h
    have g0 : (0 : Int) ≤ (i : Int) := by omega
    have g1 : (i : Int) < (a.length : Int) := by omega
    simp only [o33, go_ask, go_need, go_call, go_ret, go_one, go_more, Te.ev, RT.ev, TL.ev, syL, List.getD_cons_zero, List.getD_cons_succ, List.map_cons, List.map_nil, List.cons_append, List.nil_append, List.append_nil, bv_add, bv_sub, bv_mul, bv_eql, bv_neq, bv_lss, bv_leq, bv_gtr, bv_geq, bv_rem, isT_bool, natOf_int, askV_bool, needV_bool, callV_some, decide_eq_true_eq, decide_true, decide_false, Bool.not_eq_true', decide_eq_false_iff_not, selfP, Nat.reduceEqDiff, Nat.succ_ne_zero, ↓reduceIte, if_true, if_false, Bool.false_eq_true, Bool.not_true, Bool.not_false, f_i_has, inB_lt hl hi, encA_len, Int.toNat_natCast, encA_get a i hi, Nd.enc, g0, g1]
def isA (a : Ar) (x n : Int) : Bool := match ndAt a x with | some m => decide (m = ⟨1, n, 0, 0⟩) | none => false
theorem f_i_isAtom (a : Ar) (x n : Int) (hl : a.length ≤ 90000000) : fin trA 49 [I x, I n] [encA a] = some (0, [B (isA a x n)], []) := by
  refine fin_tree trA ?_
  show o52.go _ _ _ = _
  unfold isA
  cases h : ndAt a x with
  | none => simp only [o52, go_ask, go_need, go_call, go_ret, go_one, go_more, Te.ev, RT.ev, TL.ev, syL, List.getD_cons_zero, List.getD_cons_succ, List.map_cons, List.map_nil, List.cons_append, List.nil_append, List.append_nil, bv_add, bv_sub, bv_mul, bv_eql, bv_neq, bv_lss, bv_leq, bv_gtr, bv_geq, bv_rem, isT_bool, natOf_int, askV_bool, needV_bool, callV_some, decide_eq_true_eq, decide_true, decide_false, Bool.not_eq_true', decide_eq_false_iff_not, selfP, Nat.reduceEqDiff, Nat.succ_ne_zero, ↓reduceIte, if_true, if_false, Bool.false_eq_true, Bool.not_true, Bool.not_false, f_i_has, ndAt_none hl h, Bool.false_eq_true]
  | some m =>
    obtain ⟨i, hi, rfl, rfl⟩ := ndAt_some h
    have g0 : (0 : Int) ≤ (i : Int) := by omega
    have g1 : (i : Int) < (a.length : Int) := by omega
    have q := nd_eq a[i] ⟨1, n, 0, 0⟩
    dsimp only at q
    simp only [o52, go_ask, go_need, go_call, go_ret, go_one, go_more, Te.ev, RT.ev, TL.ev, syL, List.getD_cons_zero, List.getD_cons_succ, List.map_cons, List.map_nil, List.cons_append, List.nil_append, List.append_nil, bv_add, bv_sub, bv_mul, bv_eql, bv_neq, bv_lss, bv_leq, bv_gtr, bv_geq, bv_rem, isT_bool, natOf_int, askV_bool, needV_bool, callV_some, decide_eq_true_eq, decide_true, decide_false, Bool.not_eq_true', decide_eq_false_iff_not, selfP, Nat.reduceEqDiff, Nat.succ_ne_zero, ↓reduceIte, if_true, if_false, Bool.false_eq_true, Bool.not_true, Bool.not_false, f_i_has, inB_lt hl hi, encA_len, Int.toNat_natCast, encA_get a i hi, Nd.enc, g0, g1, q]
theorem f_i_node (k num a b p : Int) : fin trA 58 [I k, I num, I a, I b, I p] [] = some (0, [B (Nd.right ⟨k, num, a, b⟩ p)], []) := by
  refine fin_tree trA ?_
  show o67.go _ _ _ = _
  simp only [o67, go_ask, go_need, go_call, go_ret, go_one, go_more, Te.ev, RT.ev, TL.ev, syL, List.getD_cons_zero, List.getD_cons_succ, List.map_cons, List.map_nil, List.cons_append, List.nil_append, List.append_nil, bv_add, bv_sub, bv_mul, bv_eql, bv_neq, bv_lss, bv_leq, bv_gtr, bv_geq, bv_rem, isT_bool, natOf_int, askV_bool, needV_bool, callV_some, decide_eq_true_eq, decide_true, decide_false, Bool.not_eq_true', decide_eq_false_iff_not, selfP, Nat.reduceEqDiff, Nat.succ_ne_zero, ↓reduceIte, if_true, if_false, Bool.false_eq_true, Bool.not_true, Bool.not_false, f_i_in, Nd.right]
  by_cases h1 : k = 1
  · subst h1
    have q : inB 1 1 9 = true := rfl
    cases inB num 0 999999 <;> by_cases h3 : a = 0 <;> simp [h3, q]
  by_cases h2 : k = 3
  · subst h2
    have q : inB 3 1 9 = true := rfl
    cases inB a 0 (wr (p - 1)) <;> by_cases h3 : num = 0 <;> simp [h3, q, isOne]
  by_cases h3 : k = 6
  · subst h3
    have q : inB 6 1 9 = true := rfl
    cases inB a 0 (wr (p - 1)) <;> by_cases h3 : num = 0 <;> simp [h3, q, isOne]
  have q : inB k 2 9 = inB k 1 9 := by
    unfold inB
    rw [decide_eq_decide.2 (show 2 ≤ k ↔ 1 ≤ k by omega)]
  have q2 : isOne k = false := by simp [isOne, h2, h3]
  rw [q, q2]
  cases inB k 1 9 <;> cases inB a 0 (wr (p - 1)) <;> by_cases h4 : num = 0 <;> simp [h1, h2, h3, h4]
theorem f_i_put0 (l : Ar) (n : Nd) (u : Int) (hl : l.length ≤ 90000000) : ∀ (d i : Nat), i + d = l.length → fin trA 59 [B false, I n.k, I n.num, I n.a, I n.b, I u, I (l.length : Int), I i] [encA l] = some (match atFrom n (l.drop i) i with | some j => (1, [I j], []) | none => (0, [], [])) := by
  intro d
  induction d with
  | zero =>
    intro i hi
    refine fin_tree trA ?_
    show o68_0.go _ _ _ = _
    rw [List.drop_eq_nil_of_le (by omega)]
    simp only [o68_0, go_ask, go_need, go_call, go_ret, go_one, go_more, Te.ev, RT.ev, TL.ev, syL, List.getD_cons_zero, List.getD_cons_succ, List.map_cons, List.map_nil, List.cons_append, List.nil_append, List.append_nil, bv_add, bv_sub, bv_mul, bv_eql, bv_neq, bv_lss, bv_leq, bv_gtr, bv_geq, bv_rem, isT_bool, natOf_int, askV_bool, needV_bool, callV_some, decide_eq_true_eq, decide_true, decide_false, Bool.not_eq_true', decide_eq_false_iff_not, selfP, Nat.reduceEqDiff, Nat.succ_ne_zero, ↓reduceIte, if_true, if_false, Bool.false_eq_true, Bool.not_true, Bool.not_false, encA_len, atFrom]
    rw [if_neg (by omega)]
  | succ d ih =>
    intro i hi
    refine fin_tree trA ?_
    show o68_0.go _ _ _ = _
    have hlt : i < l.length := by omega
    have e : wr ((i : Int) + 1) = ((i + 1 : Nat) : Int) := by rw [wr_id (by omega) (by omega)]; omega
    rw [List.drop_eq_getElem_cons hlt]
    simp only [o68_0, go_ask, go_need, go_call, go_ret, go_one, go_more, Te.ev, RT.ev, TL.ev, syL, List.getD_cons_zero, List.getD_cons_succ, List.map_cons, List.map_nil, List.cons_append, List.nil_append, List.append_nil, bv_add, bv_sub, bv_mul, bv_eql, bv_neq, bv_lss, bv_leq, bv_gtr, bv_geq, bv_rem, isT_bool, natOf_int, askV_bool, needV_bool, callV_some, decide_eq_true_eq, decide_true, decide_false, Bool.not_eq_true', decide_eq_false_iff_not, selfP, Nat.reduceEqDiff, Nat.succ_ne_zero, ↓reduceIte, if_true, if_false, Bool.false_eq_true, Bool.not_true, Bool.not_false, encA_len, atFrom, Int.toNat_natCast, encA_get l i hlt, Nd.enc, nd_eq, e, ih (i + 1) (by omega)]
    rw [if_pos (by omega), if_pos (by omega), if_pos (by omega)]
    by_cases hx : l[i] = n
    · simp only [hx, ↓reduceIte]
    · simp only [hx, ↓reduceIte]
      rw [show ((i + 1 : Nat) : Int) = (i : Int) + 1 by omega]
      cases atFrom n (l.drop (i + 1)) ((i : Int) + 1) <;> simp only [go_ask, go_need, go_call, go_ret, go_one, go_more, Te.ev, RT.ev, TL.ev, syL, List.getD_cons_zero, List.getD_cons_succ, List.map_cons, List.map_nil, List.cons_append, List.nil_append, List.append_nil, bv_add, bv_sub, bv_mul, bv_eql, bv_neq, bv_lss, bv_leq, bv_gtr, bv_geq, bv_rem, isT_bool, natOf_int, askV_bool, needV_bool, callV_some, decide_eq_true_eq, decide_true, decide_false, Bool.not_eq_true', decide_eq_false_iff_not, selfP, Nat.reduceEqDiff, Nat.succ_ne_zero, ↓reduceIte, if_true, if_false, Bool.false_eq_true, Bool.not_true, Bool.not_false]
theorem f_i_put {l : Ar} {n : Nd} (hn : n.right l.length = true) (hl : l.length < 3000) : fin trA 60 [B false, I n.k, I n.num, I n.a, I n.b] [encA l] = some (0, [B false, I (put l n).2], [encA (put l n).1]) := by
  refine fin_tree trA ?_
  show o68.go _ _ _ = _
  have h := f_i_put0 l n 0 (by omega) l.length 0 (by omega)
  rw [List.drop_zero, show ((0 : Nat) : Int) = 0 from rfl] at h
  have e0 : fin trA 58 [I n.k, I n.num, I n.a, I n.b, I (l.length : Int)] [] = some (0, [B true], []) := by
    rw [f_i_node, ← hn]
  have e1 : [[I n.k, I n.num, I n.a, I n.b]] = encA [n] := rfl
  cases e : atFrom n l 0 with
  | some j =>
    have := (atFrom_some e).1
    rw [e] at h
    dsimp only at h
    have e2 : put l n = (l, j) := by simp only [put, hn, at_, e, Option.getD_some, Bool.true_eq_false, ↓reduceIte]; rw [if_pos (.inl this)]
    simp only [o68, go_ask, go_need, go_call, go_ret, go_one, go_more, Te.ev, RT.ev, TL.ev, syL, List.getD_cons_zero, List.getD_cons_succ, List.map_cons, List.map_nil, List.cons_append, List.nil_append, List.append_nil, bv_add, bv_sub, bv_mul, bv_eql, bv_neq, bv_lss, bv_leq, bv_gtr, bv_geq, bv_rem, isT_bool, natOf_int, askV_bool, needV_bool, callV_some, decide_eq_true_eq, decide_true, decide_false, Bool.not_eq_true', decide_eq_false_iff_not, selfP, Nat.reduceEqDiff, Nat.succ_ne_zero, ↓reduceIte, if_true, if_false, Bool.false_eq_true, Bool.not_true, Bool.not_false, encA_len, e0, h, e2]
  | none =>
    have h3 : ((l ++ [n]).length : Int) = (l.length : Int) + 1 := by simp
    have g : ¬ (3000 : Int) ≤ (l.length : Int) := by omega
    have g2 : (l.length : Int) + 1 ≤ 100000000 := by omega
    have g3 : wr ((l.length : Int) + 1 - 1) = (l.length : Int) := by rw [wr_id (by omega) (by omega)]; omega
    rw [e] at h
    dsimp only at h
    have e2 : put l n = (l ++ [n], (l.length : Int)) := by simp only [put, hn, at_, e, Option.getD_none, Bool.true_eq_false, ↓reduceIte]; rw [if_neg (by omega)]
    simp only [o68, go_ask, go_need, go_call, go_ret, go_one, go_more, Te.ev, RT.ev, TL.ev, syL, List.getD_cons_zero, List.getD_cons_succ, List.map_cons, List.map_nil, List.cons_append, List.nil_append, List.append_nil, bv_add, bv_sub, bv_mul, bv_eql, bv_neq, bv_lss, bv_leq, bv_gtr, bv_geq, bv_rem, isT_bool, natOf_int, askV_bool, needV_bool, callV_some, decide_eq_true_eq, decide_true, decide_false, Bool.not_eq_true', decide_eq_false_iff_not, selfP, Nat.reduceEqDiff, Nat.succ_ne_zero, ↓reduceIte, if_true, if_false, Bool.false_eq_true, Bool.not_true, Bool.not_false, encA_len, e0, h, e1, encA_app, h3, g, g2, g3, e2]
section
variable {a a' : Ar} {t u : Tm'} {x y n c : Int}
theorem f_i_atom (ha : AOk a) (h0 : 0 ≤ n) (h1 : n ≤ 999999) (hl : a.length < 3000) :
    ∃ a' k, fin trA 61 [B false, I n] [encA a] = some (0, [B false, I k], [encA a']) ∧ Ext a a' 1 ∧ Den a' k (.atom n) := by
  obtain ⟨h2, h3⟩ := put_atom ha h0 h1 hl
  refine ⟨_, _, fin_tree trA ?_, h2, h3⟩
  show o55.go _ _ _ = _
  have e := f_i_put (l := a) (n := ⟨1, n, 0, 0⟩) (by simp [Nd.right, inB, h0, h1]) hl
  simp only [] at e
  simp only [o55, go_ask, go_need, go_call, go_ret, go_one, go_more, Te.ev, RT.ev, TL.ev, syL, List.getD_cons_zero, List.getD_cons_succ, List.map_cons, List.map_nil, List.cons_append, List.nil_append, List.append_nil, bv_add, bv_sub, bv_mul, bv_eql, bv_neq, bv_lss, bv_leq, bv_gtr, bv_geq, bv_rem, isT_bool, natOf_int, askV_bool, needV_bool, callV_some, decide_eq_true_eq, decide_true, decide_false, Bool.not_eq_true', decide_eq_false_iff_not, selfP, Nat.reduceEqDiff, Nat.succ_ne_zero, ↓reduceIte, if_true, if_false, Bool.false_eq_true, Bool.not_true, Bool.not_false, e]
theorem f_i_of (ha : AOk a) (hc : c = 2 ∨ c = 4 ∨ c = 5 ∨ c = 7 ∨ c = 8 ∨ c = 9) (hx : Den a x t) (hy : Den a y u) (hl : a.length < 3000) :
    ∃ a' k, fin trA 62 [B false, I c, I x, I y] [encA a] = some (0, [B false, I k], [encA a']) ∧ Ext a a' 1 ∧ Den a' k (.bin c t u) := by
  obtain ⟨h2, h3⟩ := put_bin (c := c) ha hc hx hy hl
  refine ⟨_, _, fin_tree trA ?_, h2, h3⟩
  show o56.go _ _ _ = _
  have hx0 := hx.nonneg; have hx1 := hx.lt; have hy0 := hy.nonneg; have hy1 := hy.lt
  have e := f_i_put (l := a) (n := ⟨c, 0, x, y⟩) (by
    have e : wr ((a.length : Int) - 1) = (a.length : Int) - 1 := wr_id (by omega) (by omega)
    rcases hc with rfl | rfl | rfl | rfl | rfl | rfl <;> simp [Nd.right, inB, e, isOne] <;> omega) hl
  simp only [] at e
  simp only [o56, go_ask, go_need, go_call, go_ret, go_one, go_more, Te.ev, RT.ev, TL.ev, syL, List.getD_cons_zero, List.getD_cons_succ, List.map_cons, List.map_nil, List.cons_append, List.nil_append, List.append_nil, bv_add, bv_sub, bv_mul, bv_eql, bv_neq, bv_lss, bv_leq, bv_gtr, bv_geq, bv_rem, isT_bool, natOf_int, askV_bool, needV_bool, callV_some, decide_eq_true_eq, decide_true, decide_false, Bool.not_eq_true', decide_eq_false_iff_not, selfP, Nat.reduceEqDiff, Nat.succ_ne_zero, ↓reduceIte, if_true, if_false, Bool.false_eq_true, Bool.not_true, Bool.not_false, e]
theorem f_i_kdf (ha : AOk a) (hx : Den a x t) (h0 : 0 ≤ n) (h1 : n ≤ 999999) (hl : a.length + 2 ≤ 3000) :
    ∃ a' k, fin trA 63 [B false, I x, I n] [encA a] = some (0, [B false, I k], [encA a']) ∧ Ext a a' 2 ∧ Den a' k (t.key n) := by
  obtain ⟨a1, k1, e1, x1, d1⟩ := f_i_atom ha h0 h1 (by omega)
  have l1 := x1.len
  obtain ⟨a2, k2, e2, x2, d2⟩ := f_i_of (c := 4) x1.ok (by omega) (hx.mono x1.pre) d1 (by omega)
  refine ⟨a2, k2, fin_tree trA ?_, x1.trans x2, d2⟩
  show o38.go _ _ _ = _
  simp only [o38, go_ask, go_need, go_call, go_ret, go_one, go_more, Te.ev, RT.ev, TL.ev, syL, List.getD_cons_zero, List.getD_cons_succ, List.map_cons, List.map_nil, List.cons_append, List.nil_append, List.append_nil, bv_add, bv_sub, bv_mul, bv_eql, bv_neq, bv_lss, bv_leq, bv_gtr, bv_geq, bv_rem, isT_bool, natOf_int, askV_bool, needV_bool, callV_some, decide_eq_true_eq, decide_true, decide_false, Bool.not_eq_true', decide_eq_false_iff_not, selfP, Nat.reduceEqDiff, Nat.succ_ne_zero, ↓reduceIte, if_true, if_false, Bool.false_eq_true, Bool.not_true, Bool.not_false, e1, e2]
theorem f_i_nodeOk (hl : a.length ≤ 90000000) : fin trA 64 [I x] [encA a] = some (0, [B (nodeOk a x)], []) := by
  refine fin_tree trA ?_
  show o54.go _ _ _ = _
  unfold nodeOk
  cases h : ndAt a x with
  | none =>
    simp only [o54, go_ask, go_need, go_call, go_ret, go_one, go_more, Te.ev, RT.ev, TL.ev, syL, List.getD_cons_zero, List.getD_cons_succ, List.map_cons, List.map_nil, List.cons_append, List.nil_append, List.append_nil, bv_add, bv_sub, bv_mul, bv_eql, bv_neq, bv_lss, bv_leq, bv_gtr, bv_geq, bv_rem, isT_bool, natOf_int, askV_bool, needV_bool, callV_some, decide_eq_true_eq, decide_true, decide_false, Bool.not_eq_true', decide_eq_false_iff_not, selfP, Nat.reduceEqDiff, Nat.succ_ne_zero, ↓reduceIte, if_true, if_false, Bool.false_eq_true, Bool.not_true, Bool.not_false, f_i_has, ndAt_none hl h]
  | some n =>
    obtain ⟨i, hi, rfl, rfl⟩ := ndAt_some h
    simp only [o54, go_ask, go_need, go_call, go_ret, go_one, go_more, Te.ev, RT.ev, TL.ev, syL, List.getD_cons_zero, List.getD_cons_succ, List.map_cons, List.map_nil, List.cons_append, List.nil_append, List.append_nil, bv_add, bv_sub, bv_mul, bv_eql, bv_neq, bv_lss, bv_leq, bv_gtr, bv_geq, bv_rem, isT_bool, natOf_int, askV_bool, needV_bool, callV_some, decide_eq_true_eq, decide_true, decide_false, Bool.not_eq_true', decide_eq_false_iff_not, selfP, Nat.reduceEqDiff, Nat.succ_ne_zero, ↓reduceIte, if_true, if_false, Bool.false_eq_true, Bool.not_true, Bool.not_false, f_i_has, encA_len, inB_lt hl hi, Int.toNat_natCast, encA_get a i hi, Nd.enc, f_i_node]
    rw [if_pos (by omega), if_pos (by omega)]
end
theorem f_i_epoch0 {e : Nat} (he : e ≤ 8) (u : Int) : ∀ (d i : Nat) {a : Ar} {x : Int} {t : Tm'}, i + d = e → AOk a → Den a x t → a.length + 2 * d ≤ 3000 →
    ∃ a' k, fin trA 65 [B false, I x, I u, I e, I i] [encA a] = some (0, [B false, I k], [encA a']) ∧ Ext a a' (2 * d) ∧ Den a' k (t.turn d)
  | 0, i, a, x, t, hi, ha, hx, hl => by
    refine ⟨a, x, fin_tree trA ?_, Ext.refl ha, hx⟩
    show o37_0.go _ _ _ = _
    simp only [o37_0, go_ask, go_need, go_call, go_ret, go_one, go_more, Te.ev, RT.ev, TL.ev, syL, List.getD_cons_zero, List.getD_cons_succ, List.map_cons, List.map_nil, List.cons_append, List.nil_append, List.append_nil, bv_add, bv_sub, bv_mul, bv_eql, bv_neq, bv_lss, bv_leq, bv_gtr, bv_geq, bv_rem, isT_bool, natOf_int, askV_bool, needV_bool, callV_some, decide_eq_true_eq, decide_true, decide_false, Bool.not_eq_true', decide_eq_false_iff_not, selfP, Nat.reduceEqDiff, Nat.succ_ne_zero, ↓reduceIte, if_true, if_false, Bool.false_eq_true, Bool.not_true, Bool.not_false]
    rw [if_neg (by omega)]
  | d + 1, i, a, x, t, hi, ha, hx, hl => by
    obtain ⟨a1, k1, e1, x1, d1⟩ := f_i_kdf (n := 30) ha hx (by omega) (by omega) (by omega)
    have l1 := x1.len
    obtain ⟨a2, k2, e2, x2, d2⟩ := f_i_epoch0 he u d (i + 1) (by omega) x1.ok d1 (by omega)
    refine ⟨a2, k2, fin_tree trA ?_, (x1.trans x2).le (by omega), d2⟩
    show o37_0.go _ _ _ = _
    have e : wr ((i : Int) + 1) = ((i + 1 : Nat) : Int) := by rw [wr_id (by omega) (by omega)]; omega
    simp only [o37_0, go_ask, go_need, go_call, go_ret, go_one, go_more, Te.ev, RT.ev, TL.ev, syL, List.getD_cons_zero, List.getD_cons_succ, List.map_cons, List.map_nil, List.cons_append, List.nil_append, List.append_nil, bv_add, bv_sub, bv_mul, bv_eql, bv_neq, bv_lss, bv_leq, bv_gtr, bv_geq, bv_rem, isT_bool, natOf_int, askV_bool, needV_bool, callV_some, decide_eq_true_eq, decide_true, decide_false, Bool.not_eq_true', decide_eq_false_iff_not, selfP, Nat.reduceEqDiff, Nat.succ_ne_zero, ↓reduceIte, if_true, if_false, Bool.false_eq_true, Bool.not_true, Bool.not_false, e1, e, e2]
    rw [if_pos (by omega)]
theorem f_i_epoch {e : Nat} (he : e ≤ 8) {a : Ar} {x : Int} {t : Tm'} (ha : AOk a) (hx : Den a x t) (hl : a.length + 16 ≤ 3000) :
    ∃ a' k, fin trA 66 [B false, I x, I e] [encA a] = some (0, [B false, I k], [encA a']) ∧ Ext a a' (2 * e) ∧ Den a' k (t.turn e) := by
  obtain ⟨a1, k1, e1, x1, d1⟩ := f_i_epoch0 he 0 e 0 (by omega) ha hx (by omega)
  refine ⟨a1, k1, fin_tree trA ?_, x1, d1⟩
  show o37.go _ _ _ = _
  have h1 : inB (e : Int) 0 8 = true := by simp [inB]; omega
  rw [show ((0 : Nat) : Int) = 0 from rfl] at e1
  simp only [o37, go_ask, go_need, go_call, go_ret, go_one, go_more, Te.ev, RT.ev, TL.ev, syL, List.getD_cons_zero, List.getD_cons_succ, List.map_cons, List.map_nil, List.cons_append, List.nil_append, List.append_nil, bv_add, bv_sub, bv_mul, bv_eql, bv_neq, bv_lss, bv_leq, bv_gtr, bv_geq, bv_rem, isT_bool, natOf_int, askV_bool, needV_bool, callV_some, decide_eq_true_eq, decide_true, decide_false, Bool.not_eq_true', decide_eq_false_iff_not, selfP, Nat.reduceEqDiff, Nat.succ_ne_zero, ↓reduceIte, if_true, if_false, Bool.false_eq_true, Bool.not_true, Bool.not_false, f_i_in, h1, f_i_nodeOk (show a.length ≤ 90000000 by omega), hx.nodeOk ha, e1, Bool.not_true, Bool.false_eq_true]
theorem f_i_list0 {xs : List Int} {ts : List Tm'} (hlen : xs.length = ts.length) (hm : xs.length ≤ 100) (u : Int) : ∀ (i : Nat) {a : Ar} {k : Int}, i ≤ xs.length → AOk a → (∀ j (h : j < xs.length) (h' : j < ts.length), Den a xs[j] ts[j]) → Den a k (Tm'.list (ts.drop i)) → a.length + i ≤ 3000 →
    ∃ a' k', fin trA 74 [B false, I u, I k, I ((i : Int) - 1)] [encA a, encI xs] = some (0, [B false, I k'], [encA a']) ∧ Ext a a' i ∧ Den a' k' (Tm'.list ts)
  | 0, a, k, hi, ha, hx, hk, hl => by
    refine ⟨a, k, fin_tree trA ?_, Ext.refl ha, hk⟩
    show o58_0.go _ _ _ = _
    simp only [o58_0, go_ask, go_need, go_call, go_ret, go_one, go_more, Te.ev, RT.ev, TL.ev, syL, List.getD_cons_zero, List.getD_cons_succ, List.map_cons, List.map_nil, List.cons_append, List.nil_append, List.append_nil, bv_add, bv_sub, bv_mul, bv_eql, bv_neq, bv_lss, bv_leq, bv_gtr, bv_geq, bv_rem, isT_bool, natOf_int, askV_bool, needV_bool, callV_some, decide_eq_true_eq, decide_true, decide_false, Bool.not_eq_true', decide_eq_false_iff_not, selfP, Nat.reduceEqDiff, Nat.succ_ne_zero, ↓reduceIte, if_true, if_false, Bool.false_eq_true, Bool.not_true, Bool.not_false]
    rw [if_neg (by omega)]
  | i + 1, a, k, hi, ha, hx, hk, hl => by
    have h1 : i < xs.length := by omega
    have h2 : i < ts.length := by omega
    obtain ⟨a1, k1, e1, x1, d1⟩ := f_i_of (c := 2) ha (by omega) (hx i h1 h2) hk (by omega)
    have l1 := x1.len
    obtain ⟨a2, k2, e2, x2, d2⟩ := f_i_list0 hlen hm u i (a := a1) (k := k1) (by omega) x1.ok (fun j h h' => (hx j h h').mono x1.pre) (by rw [List.drop_eq_getElem_cons h2]; exact d1) (by omega)
    refine ⟨a2, k2, fin_tree trA ?_, (x1.trans x2).le (by omega), d2⟩
    show o58_0.go _ _ _ = _
    have e : wr ((i : Int) - 1) = (i : Int) - 1 := wr_id (by omega) (by omega)
    rw [show ((i + 1 : Nat) : Int) - 1 = (i : Int) by omega]
    have g0 : (0 : Int) ≤ (i : Int) := by omega
    have g1 : (i : Int) < (xs.length : Int) := by omega
    simp only [o58_0, go_ask, go_need, go_call, go_ret, go_one, go_more, Te.ev, RT.ev, TL.ev, syL, List.getD_cons_zero, List.getD_cons_succ, List.map_cons, List.map_nil, List.cons_append, List.nil_append, List.append_nil, bv_add, bv_sub, bv_mul, bv_eql, bv_neq, bv_lss, bv_leq, bv_gtr, bv_geq, bv_rem, isT_bool, natOf_int, askV_bool, needV_bool, callV_some, decide_eq_true_eq, decide_true, decide_false, Bool.not_eq_true', decide_eq_false_iff_not, selfP, Nat.reduceEqDiff, Nat.succ_ne_zero, ↓reduceIte, if_true, if_false, Bool.false_eq_true, Bool.not_true, Bool.not_false, encI_len, Int.toNat_natCast, encI_get xs i h1, e1, e, e2, g0, g1]
theorem f_i_list {xs : List Int} {ts : List Tm'} (hlen : xs.length = ts.length) (hm : xs.length ≤ 100) {a : Ar} (ha : AOk a) (hx : ∀ j (h : j < xs.length) (h' : j < ts.length), Den a xs[j] ts[j]) (hl : a.length + xs.length + 1 ≤ 3000) :
    ∃ a' k', fin trA 75 [B false] [encA a, encI xs] = some (0, [B false, I k'], [encA a']) ∧ Ext a a' (1 + xs.length) ∧ Den a' k' (Tm'.list ts) := by
  obtain ⟨a1, k1, e1, x1, d1⟩ := f_i_atom (n := 0) ha (by omega) (by omega) (by omega)
  have l1 := x1.len
  obtain ⟨a2, k2, e2, x2, d2⟩ := f_i_list0 hlen hm 0 xs.length (a := a1) (k := k1) (by omega) x1.ok (fun j h h' => (hx j h h').mono x1.pre) (by rw [List.drop_eq_nil_of_le (by omega)]; exact d1) (by omega)
  refine ⟨a2, k2, fin_tree trA ?_, x1.trans x2, d2⟩
  show o58.go _ _ _ = _
  have e : wr ((xs.length : Int) - 1) = (xs.length : Int) - 1 := wr_id (by omega) (by omega)
  simp only [o58, go_ask, go_need, go_call, go_ret, go_one, go_more, Te.ev, RT.ev, TL.ev, syL, List.getD_cons_zero, List.getD_cons_succ, List.map_cons, List.map_nil, List.cons_append, List.nil_append, List.append_nil, bv_add, bv_sub, bv_mul, bv_eql, bv_neq, bv_lss, bv_leq, bv_gtr, bv_geq, bv_rem, isT_bool, natOf_int, askV_bool, needV_bool, callV_some, decide_eq_true_eq, decide_true, decide_false, Bool.not_eq_true', decide_eq_false_iff_not, selfP, Nat.reduceEqDiff, Nat.succ_ne_zero, ↓reduceIte, if_true, if_false, Bool.false_eq_true, Bool.not_true, Bool.not_false, e1, encI_len, e, e2]
theorem f_i_record {a : Ar} {key e s body : Int} {t u : Tm'} (ha : AOk a) (hk : Den a key t) (hb : Den a body u) (he : 0 ≤ e ∧ e ≤ 8) (hs : 0 ≤ s ∧ s ≤ 9999) (hl : a.length + 11 ≤ 3000) :
    ∃ a' k, fin trA 76 [B false, I key, I e, I s, I body] [encA a] = some (0, [B false, I k], [encA a']) ∧ Ext a a' 11 ∧ Den a' k (t.record e s u) := by
  obtain ⟨a1, k1, e1, x1, d1⟩ := f_i_atom (n := e) ha he.1 (by omega) (by omega)
  have l1 := x1.len
  obtain ⟨a2, k2, e2, x2, d2⟩ := f_i_atom (n := s) x1.ok hs.1 (by omega) (by omega)
  have l2 := x2.len
  have d1' := d1.mono x2.pre
  have hb' := (hb.mono x1.pre).mono x2.pre
  obtain ⟨a3, k3, e3, x3, d3⟩ := f_i_list (xs := [k1, k2, body]) (ts := [.atom e, .atom s, u]) rfl (by simp) x2.ok (den3 d1' d2 hb') (by simp; omega)
  have l3 := x3.len
  have l3' : ([k1, k2, body] : List Int).length = 3 := rfl
  have hk3 := ((hk.mono x1.pre).mono x2.pre).mono x3.pre
  obtain ⟨a4, k4, e4, x4, d4⟩ := f_i_of (c := 5) x3.ok (by omega) hk3 d3 (by omega)
  have l4 := x4.len
  obtain ⟨a5, k5, e5, x5, d5⟩ := f_i_list (xs := [k1, k2, k4]) (ts := [.atom e, .atom s, _]) rfl (by simp) x4.ok (den3 ((d1'.mono x3.pre).mono x4.pre) ((d2.mono x3.pre).mono x4.pre) d4) (by simp; omega)
  refine ⟨a5, k5, fin_tree trA ?_, ((((x1.trans x2).trans x3).trans x4).trans x5).le (by simp), d5⟩
  show o41.go _ _ _ = _
  have g1 : inB e 0 8 = true := by simp [inB]; omega
  have g2 : inB s 0 9999 = true := by simp [inB]; omega
  simp only [o41, go_ask, go_need, go_call, go_ret, go_one, go_more, Te.ev, RT.ev, TL.ev, syL, List.getD_cons_zero, List.getD_cons_succ, List.map_cons, List.map_nil, List.cons_append, List.nil_append, List.append_nil, bv_add, bv_sub, bv_mul, bv_eql, bv_neq, bv_lss, bv_leq, bv_gtr, bv_geq, bv_rem, isT_bool, natOf_int, askV_bool, needV_bool, callV_some, decide_eq_true_eq, decide_true, decide_false, Bool.not_eq_true', decide_eq_false_iff_not, selfP, Nat.reduceEqDiff, Nat.succ_ne_zero, ↓reduceIte, if_true, if_false, Bool.false_eq_true, Bool.not_true, Bool.not_false, f_i_in, g1, g2, f_i_nodeOk (show a.length ≤ 90000000 by omega), hk.nodeOk ha, hb.nodeOk ha, Bool.not_true, Bool.false_eq_true, e1, e2, e4]
  simp only [encI, List.map_cons, List.map_nil] at e3 e5
  simp only [go_ask, go_need, go_call, go_ret, go_one, go_more, Te.ev, RT.ev, TL.ev, syL, List.getD_cons_zero, List.getD_cons_succ, List.map_cons, List.map_nil, List.cons_append, List.nil_append, List.append_nil, bv_add, bv_sub, bv_mul, bv_eql, bv_neq, bv_lss, bv_leq, bv_gtr, bv_geq, bv_rem, isT_bool, natOf_int, askV_bool, needV_bool, callV_some, decide_eq_true_eq, decide_true, decide_false, Bool.not_eq_true', decide_eq_false_iff_not, selfP, Nat.reduceEqDiff, Nat.succ_ne_zero, ↓reduceIte, if_true, if_false, Bool.false_eq_true, Bool.not_true, Bool.not_false, e3, e4, e5]
theorem f_copy {a : Ar} (hl : a.length ≤ 90000000) : fin trA 45 [] [encA a] = some (0, [], [encA a]) := by
  refine fin_tree trA ?_
  show o14.go _ _ _ = _
  have g : (a.length : Int) ≤ 100000000 := by omega
  simp only [o14, go_ask, go_need, go_call, go_ret, go_one, go_more, Te.ev, RT.ev, TL.ev, syL, List.getD_cons_zero, List.getD_cons_succ, List.map_cons, List.map_nil, List.cons_append, List.nil_append, List.append_nil, bv_add, bv_sub, bv_mul, bv_eql, bv_neq, bv_lss, bv_leq, bv_gtr, bv_geq, bv_rem, isT_bool, natOf_int, askV_bool, needV_bool, callV_some, decide_eq_true_eq, decide_true, decide_false, Bool.not_eq_true', decide_eq_false_iff_not, selfP, Nat.reduceEqDiff, Nat.succ_ne_zero, ↓reduceIte, if_true, if_false, Bool.false_eq_true, Bool.not_true, Bool.not_false, encA_len, g]
theorem f_bench {a : Ar} (hl : a.length ≤ 90000000) : fin trA 57 [] [encA a] = some (0, [B false], [encA a]) := by
  refine fin_tree trA ?_
  show o21.go _ _ _ = _
  simp only [o21, go_ask, go_need, go_call, go_ret, go_one, go_more, Te.ev, RT.ev, TL.ev, syL, List.getD_cons_zero, List.getD_cons_succ, List.map_cons, List.map_nil, List.cons_append, List.nil_append, List.append_nil, bv_add, bv_sub, bv_mul, bv_eql, bv_neq, bv_lss, bv_leq, bv_gtr, bv_geq, bv_rem, isT_bool, natOf_int, askV_bool, needV_bool, callV_some, decide_eq_true_eq, decide_true, decide_false, Bool.not_eq_true', decide_eq_false_iff_not, selfP, Nat.reduceEqDiff, Nat.succ_ne_zero, ↓reduceIte, if_true, if_false, Bool.false_eq_true, Bool.not_true, Bool.not_false, f_copy hl]
theorem f_i_winOk {top seen : Int} {S : Nat → Prop} (h : WR top seen S) : fin trA 55 [I top, I seen] [] = some (0, [B true], []) := by
  refine fin_tree trA ?_
  show o36.go _ _ _ = _
  rcases h with ⟨rfl, rfl, _⟩ | ⟨t, m, rfl, rfl, h1, h2, h3, h4, _⟩
  · simp only [o36, go_ask, go_need, go_call, go_ret, go_one, go_more, Te.ev, RT.ev, TL.ev, syL, List.getD_cons_zero, List.getD_cons_succ, List.map_cons, List.map_nil, List.cons_append, List.nil_append, List.append_nil, bv_add, bv_sub, bv_mul, bv_eql, bv_neq, bv_lss, bv_leq, bv_gtr, bv_geq, bv_rem, isT_bool, natOf_int, askV_bool, needV_bool, callV_some, decide_eq_true_eq, decide_true, decide_false, Bool.not_eq_true', decide_eq_false_iff_not, selfP, Nat.reduceEqDiff, Nat.succ_ne_zero, ↓reduceIte, if_true, if_false, Bool.false_eq_true, Bool.not_true, Bool.not_false, f_i_in, show inB (-1) (-1) 9999 = true from rfl, show inB 0 0 65535 = true from rfl, Bool.not_true, Bool.false_eq_true]
  · have g1 : inB (t : Int) (-1) 9999 = true := by simp [inB]; omega
    have g2 : inB (m : Int) 0 65535 = true := by simp [inB]; omega
    have g3 : ¬ (t : Int) = -1 := by omega
    have g4 : ((m : Int).tmod 2 = 1) := by rw [Int.tmod_eq_emod_of_nonneg (by omega)]; omega
    have e : wr ((t : Int) + 1) = ((t + 1 : Nat) : Int) := by rw [wr_id (by omega) (by omega)]; omega
    simp only [o36, go_ask, go_need, go_call, go_ret, go_one, go_more, Te.ev, RT.ev, TL.ev, syL, List.getD_cons_zero, List.getD_cons_succ, List.map_cons, List.map_nil, List.cons_append, List.nil_append, List.append_nil, bv_add, bv_sub, bv_mul, bv_eql, bv_neq, bv_lss, bv_leq, bv_gtr, bv_geq, bv_rem, isT_bool, natOf_int, askV_bool, needV_bool, callV_some, decide_eq_true_eq, decide_true, decide_false, Bool.not_eq_true', decide_eq_false_iff_not, selfP, Nat.reduceEqDiff, Nat.succ_ne_zero, ↓reduceIte, if_true, if_false, Bool.false_eq_true, Bool.not_true, Bool.not_false, f_i_in, g1, g2, g3, g4, e, Bool.not_true, Bool.false_eq_true]
    by_cases g5 : (15 : Int) ≤ t
    · simp [g5]
    · rw [bv_shl_one _ (by omega)]
      have g6 : (m : Int) < ((2 ^ (t + 1) : Nat) : Int) := by omega
      simp only [go_ask, go_need, go_call, go_ret, go_one, go_more, Te.ev, RT.ev, TL.ev, syL, List.getD_cons_zero, List.getD_cons_succ, List.map_cons, List.map_nil, List.cons_append, List.nil_append, List.append_nil, bv_add, bv_sub, bv_mul, bv_eql, bv_neq, bv_lss, bv_leq, bv_gtr, bv_geq, bv_rem, isT_bool, natOf_int, askV_bool, needV_bool, callV_some, decide_eq_true_eq, decide_true, decide_false, Bool.not_eq_true', decide_eq_false_iff_not, selfP, Nat.reduceEqDiff, Nat.succ_ne_zero, ↓reduceIte, if_true, if_false, Bool.false_eq_true, Bool.not_true, Bool.not_false, g5, g6]
      rw [if_pos (by omega)]
section
variable {a a' : Ar} {c : Ch} {t : Tm'} {SN SL : Nat → Prop}
theorem f_i_chanOk (hl : a.length ≤ 90000000) (h : CR a c t SN SL) : fin trA 56 c.v [encA a] = some (0, [B true], []) := by
  refine fin_tree trA ?_
  show o16.go _ _ _ = _
  have g0 : inB c.app 0 (wr ((a.length : Int) - 1)) = true := by
    have := h.app.nonneg; have := h.app.lt
    rw [wr_id (by omega) (by omega)]; simp [inB]; omega
  have g1 : inB c.side 1 2 = true := by have := h.side; simp [inB]; omega
  have g2 : inB (c.ep : Int) 0 8 = true := by have := h.ep; simp [inB]; omega
  have g3 : inB (c.heard : Int) 0 8 = true := by have := h.heard; simp [inB]; omega
  have g4 : inB (c.seq : Int) 0 10000 = true := by have := h.seq; simp [inB]; omega
  simp only [Ch.v, o16, go_ask, go_need, go_call, go_ret, go_one, go_more, Te.ev, RT.ev, TL.ev, syL, List.getD_cons_zero, List.getD_cons_succ, List.map_cons, List.map_nil, List.cons_append, List.nil_append, List.append_nil, bv_add, bv_sub, bv_mul, bv_eql, bv_neq, bv_lss, bv_leq, bv_gtr, bv_geq, bv_rem, isT_bool, natOf_int, askV_bool, needV_bool, callV_some, decide_eq_true_eq, decide_true, decide_false, Bool.not_eq_true', decide_eq_false_iff_not, selfP, Nat.reduceEqDiff, Nat.succ_ne_zero, ↓reduceIte, if_true, if_false, Bool.false_eq_true, Bool.not_true, Bool.not_false, f_i_has, g0, f_i_in, g1, g2, g3, g4, f_i_winOk h.now, f_i_winOk h.last, Bool.not_true, Bool.false_eq_true]
theorem f_i_end {k : Int} (hk : 0 ≤ k) : fin trA 78 [B false, I k] [encA a', encA a] = some (0, [I k], [encA a']) := by
  refine fin_tree trA ?_
  show o23.go _ _ _ = _
  have g : ¬ k < 0 := by omega
  simp only [o23, go_ask, go_need, go_call, go_ret, go_one, go_more, Te.ev, RT.ev, TL.ev, syL, List.getD_cons_zero, List.getD_cons_succ, List.map_cons, List.map_nil, List.cons_append, List.nil_append, List.append_nil, bv_add, bv_sub, bv_mul, bv_eql, bv_neq, bv_lss, bv_leq, bv_gtr, bv_geq, bv_rem, isT_bool, natOf_int, askV_bool, needV_bool, callV_some, decide_eq_true_eq, decide_true, decide_false, Bool.not_eq_true', decide_eq_false_iff_not, selfP, Nat.reduceEqDiff, Nat.succ_ne_zero, ↓reduceIte, if_true, if_false, Bool.false_eq_true, Bool.not_true, Bool.not_false, g, Bool.false_eq_true]
theorem f_sayOn {body : Int} {u : Tm'} (ha : AOk a) (h : CR a c t SN SL) (hb : Den a body u) (hl : a.length + 40 ≤ 3000) :
    ∃ a' k, fin trA 79 (c.v ++ [I body]) [encA a] = some (0, ({ c with seq := c.seq + 1 } : Ch).v ++ [I k], [encA a']) ∧ Ext a a' 29 ∧ Den a' k (((t.turn c.ep).key c.side).record c.ep c.seq u) := by
  have hep := h.ep; have hsd := h.side; have hsq := h.seq
  obtain ⟨a1, k1, e1, x1, d1⟩ := f_i_epoch hep ha h.app (by omega)
  have l1 := x1.len
  obtain ⟨a2, k2, e2, x2, d2⟩ := f_i_kdf (n := c.side) x1.ok d1 (by omega) (by omega) (by omega)
  have l2 := x2.len
  obtain ⟨a3, k3, e3, x3, d3⟩ := f_i_record (e := c.ep) (s := c.seq) x2.ok d2 ((hb.mono x1.pre).mono x2.pre) (by omega) (by omega) (by omega)
  refine ⟨a3, k3, fin_tree trA ?_, ((x1.trans x2).trans x3).le (by omega), d3⟩
  show o8.go _ _ _ = _
  have e0 := f_i_chanOk (show a.length ≤ 90000000 by omega) h
  have e4 : wr ((c.seq : Int) + 1) = ((c.seq + 1 : Nat) : Int) := by rw [wr_id (by omega) (by omega)]; omega
  have hk3 : (0 : Int) ≤ k3 := d3.nonneg
  simp only [Ch.v] at e0
  have e5 : fin trA 77 [B false, I c.app, I c.side, I c.ep, I c.seq, I c.heard, I c.nt, I c.ns, I c.lt, I c.ls, I body] [encA a] = some (0, [B false, I k3], [encA a3]) := by
    refine fin_tree trA ?_
    show o22.go _ _ _ = _
    simp only [o22, go_ask, go_need, go_call, go_ret, go_one, go_more, Te.ev, RT.ev, TL.ev, syL, List.getD_cons_zero, List.getD_cons_succ, List.map_cons, List.map_nil, List.cons_append, List.nil_append, List.append_nil, bv_add, bv_sub, bv_mul, bv_eql, bv_neq, bv_lss, bv_leq, bv_gtr, bv_geq, bv_rem, isT_bool, natOf_int, askV_bool, needV_bool, callV_some, decide_eq_true_eq, decide_true, decide_false, Bool.not_eq_true', decide_eq_false_iff_not, selfP, Nat.reduceEqDiff, Nat.succ_ne_zero, ↓reduceIte, if_true, if_false, Bool.false_eq_true, Bool.not_true, Bool.not_false, e0, e1, e2, e3, Bool.not_true, Bool.false_eq_true]
  have e6 := f_i_end (a := a) (a' := a3) hk3
  simp only [Ch.v, o8, go_ask, go_need, go_call, go_ret, go_one, go_more, Te.ev, RT.ev, TL.ev, syL, List.getD_cons_zero, List.getD_cons_succ, List.map_cons, List.map_nil, List.cons_append, List.nil_append, List.append_nil, bv_add, bv_sub, bv_mul, bv_eql, bv_neq, bv_lss, bv_leq, bv_gtr, bv_geq, bv_rem, isT_bool, natOf_int, askV_bool, needV_bool, callV_some, decide_eq_true_eq, decide_true, decide_false, Bool.not_eq_true', decide_eq_false_iff_not, selfP, Nat.reduceEqDiff, Nat.succ_ne_zero, ↓reduceIte, if_true, if_false, Bool.false_eq_true, Bool.not_true, Bool.not_false, f_bench (show a.length ≤ 90000000 by omega), e5, e6, e4, hk3]
end
end Go.Proofs.Ytipomcnbjlfekaa.Rs
