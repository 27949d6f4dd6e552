import Derived.Test.YtipomcnbjlfekaaRsC3
/- Keys of epochs, lists of terms, records: contracts. -/
namespace Go.Proofs.Ytipomcnbjlfekaa.Rs
open Go.RowKit
set_option linter.unusedVariables false
set_option linter.unusedSimpArgs false
set_option maxRecDepth 100000
theorem Den.ndAt {a : Ar} {x : Int} {t : Tm'} (h : Den a x t) : ∃ n, ndAt a x = some n := by
  refine ⟨a[x.toNat]'h.lt, ?_⟩
  unfold Rs.ndAt
  rw [if_pos h.nonneg, List.getElem?_eq_getElem h.lt]
theorem Den.nodeOk {a : Ar} (ha : AOk a) {x : Int} {t : Tm'} (h : Den a x t) : nodeOk a x = true := by
  obtain ⟨n, hn⟩ := h.ndAt
  unfold Rs.nodeOk
  rw [hn]
  obtain ⟨i, hi, rfl, rfl⟩ := ndAt_some hn
  exact ha.right i _ (List.getElem?_eq_getElem hi)
/-- The secret some epochs on. -/
def Tm'.turn : Nat → Tm' → Tm'
  | 0, t => t
  | d + 1, t => (t.key 30).turn d
theorem f_epoch0 {e : Nat} (he : e ≤ 8) (u : Int) : ∀ (d i : Nat) {a : Ar} {x : Int} {t : Tm'}, i + d = e → AOk a → Den a x t → a.length + 2 * d ≤ 3000 →
    ∃ a' k, fin trA 25 [I x, I e, I u, I i] [encA a] = some (0, [I k], [encA a']) ∧ Ext a a' (2 * d) ∧ Den a' k (t.turn d)
  | 0, i, a, x, t, hi, ha, hx, hl => by
    refine ⟨a, x, fin_tree trA ?_, Ext.refl ha, hx⟩
    show o47_0.go _ _ _ = _
    simp only [o47_0, go_ask, go_need, go_call, go_ret, go_one, go_more, Te.ev, RT.ev, TL.ev, syL, List.getD_cons_zero, List.getD_cons_succ, List.map_cons, List.map_nil, List.cons_append, List.nil_append, List.append_nil, bv_add, bv_sub, bv_mul, bv_eql, bv_neq, bv_lss, bv_leq, bv_gtr, bv_geq, bv_rem, isT_bool, natOf_int, askV_bool, needV_bool, callV_some, decide_eq_true_eq, decide_true, decide_false, Bool.not_eq_true', decide_eq_false_iff_not, selfP, Nat.reduceEqDiff, Nat.succ_ne_zero, ↓reduceIte, if_true, if_false]
    rw [if_neg (by omega)]
  | d + 1, i, a, x, t, hi, ha, hx, hl => by
    obtain ⟨a1, k1, e1, x1, d1⟩ := f_side (n := 30) ha hx (by omega) (by omega) (by omega)
    have l1 := x1.len
    obtain ⟨a2, k2, e2, x2, d2⟩ := f_epoch0 he u d (i + 1) (by omega) x1.ok d1 (by omega)
    refine ⟨a2, k2, fin_tree trA ?_, (x1.trans x2).le (by omega), d2⟩
    show o47_0.go _ _ _ = _
    have e : wr ((i : Int) + 1) = ((i + 1 : Nat) : Int) := by rw [wr_id (by omega) (by omega)]; omega
    simp only [o47_0, go_ask, go_need, go_call, go_ret, go_one, go_more, Te.ev, RT.ev, TL.ev, syL, List.getD_cons_zero, List.getD_cons_succ, List.map_cons, List.map_nil, List.cons_append, List.nil_append, List.append_nil, bv_add, bv_sub, bv_mul, bv_eql, bv_neq, bv_lss, bv_leq, bv_gtr, bv_geq, bv_rem, isT_bool, natOf_int, askV_bool, needV_bool, callV_some, decide_eq_true_eq, decide_true, decide_false, Bool.not_eq_true', decide_eq_false_iff_not, selfP, Nat.reduceEqDiff, Nat.succ_ne_zero, ↓reduceIte, if_true, if_false, e1, e, e2]
    rw [if_pos (by omega)]
theorem f_epoch {e : Nat} (he : e ≤ 8) {a : Ar} {x : Int} {t : Tm'} (ha : AOk a) (hx : Den a x t) (hl : a.length + 16 ≤ 3000) :
    ∃ a' k, fin trA 26 [I x, I e] [encA a] = some (0, [I k], [encA a']) ∧ Ext a a' (2 * e) ∧ Den a' k (t.turn e) := by
  obtain ⟨a1, k1, e1, x1, d1⟩ := f_epoch0 he 0 e 0 (by omega) ha hx (by omega)
  refine ⟨a1, k1, fin_tree trA ?_, x1, d1⟩
  show o47.go _ _ _ = _
  have h1 : inB (e : Int) 0 8 = true := by simp [inB]; omega
  rw [show ((0 : Nat) : Int) = 0 from rfl] at e1
  simp only [o47, go_ask, go_need, go_call, go_ret, go_one, go_more, Te.ev, RT.ev, TL.ev, syL, List.getD_cons_zero, List.getD_cons_succ, List.map_cons, List.map_nil, List.cons_append, List.nil_append, List.append_nil, bv_add, bv_sub, bv_mul, bv_eql, bv_neq, bv_lss, bv_leq, bv_gtr, bv_geq, bv_rem, isT_bool, natOf_int, askV_bool, needV_bool, callV_some, decide_eq_true_eq, decide_true, decide_false, Bool.not_eq_true', decide_eq_false_iff_not, selfP, Nat.reduceEqDiff, Nat.succ_ne_zero, ↓reduceIte, if_true, if_false, f_in, h1, f_nodeOk a x (by omega), hx.nodeOk ha, e1, Bool.not_true, Bool.false_eq_true]
/-- A list of terms. -/
def Tm'.list : List Tm' → Tm'
  | [] => .atom 0
  | t :: l => .bin 2 t (Tm'.list l)
def encI (l : List Int) : Rw := l.map fun x => [I x]
theorem encI_len (l : List Int) : (encI l).length = l.length := List.length_map ..
theorem encI_get (l : List Int) (i : Nat) (h : i < l.length) : (encI l).getD i [] = [I l[i]] := by
  simp [encI, List.getD_eq_getElem?_getD, List.getElem?_eq_getElem h]
theorem f_list0 {xs : List Int} {ts : List Tm'} (hlen : xs.length = ts.length) (hm : xs.length ≤ 100) (u : Int) : ∀ (i : Nat) {a : Ar} {k : Int}, i ≤ xs.length → AOk a → (∀ j (h : j < xs.length) (h' : j < ts.length), Den a xs[j] ts[j]) → Den a k (Tm'.list (ts.drop i)) → a.length + i ≤ 3000 →
    ∃ a' k', fin trA 34 [I u, I k, I ((i : Int) - 1)] [encA a, encI xs] = some (0, [I k'], [encA a']) ∧ Ext a a' i ∧ Den a' k' (Tm'.list ts)
  | 0, a, k, hi, ha, hx, hk, hl => by
    refine ⟨a, k, fin_tree trA ?_, Ext.refl ha, hk⟩
    show o66_0.go _ _ _ = _
    simp only [o66_0, go_ask, go_need, go_call, go_ret, go_one, go_more, Te.ev, RT.ev, TL.ev, syL, List.getD_cons_zero, List.getD_cons_succ, List.map_cons, List.map_nil, List.cons_append, List.nil_append, List.append_nil, bv_add, bv_sub, bv_mul, bv_eql, bv_neq, bv_lss, bv_leq, bv_gtr, bv_geq, bv_rem, isT_bool, natOf_int, askV_bool, needV_bool, callV_some, decide_eq_true_eq, decide_true, decide_false, Bool.not_eq_true', decide_eq_false_iff_not, selfP, Nat.reduceEqDiff, Nat.succ_ne_zero, ↓reduceIte, if_true, if_false]
    rw [if_neg (by omega)]
  | i + 1, a, k, hi, ha, hx, hk, hl => by
    have h1 : i < xs.length := by omega
    have h2 : i < ts.length := by omega
    obtain ⟨a1, k1, e1, x1, d1⟩ := f_make2 (c := 2) ha (by omega) (hx i h1 h2) hk (by omega)
    have l1 := x1.len
    obtain ⟨a2, k2, e2, x2, d2⟩ := f_list0 hlen hm u i (a := a1) (k := k1) (by omega) x1.ok (fun j h h' => (hx j h h').mono x1.pre) (by rw [List.drop_eq_getElem_cons h2]; exact d1) (by omega)
    refine ⟨a2, k2, fin_tree trA ?_, (x1.trans x2).le (by omega), d2⟩
    show o66_0.go _ _ _ = _
    have e : wr ((i : Int) - 1) = (i : Int) - 1 := wr_id (by omega) (by omega)
    rw [show ((i + 1 : Nat) : Int) - 1 = (i : Int) by omega]
    have g0 : (0 : Int) ≤ (i : Int) := by omega
    have g1 : (i : Int) < (xs.length : Int) := by omega
    simp only [o66_0, go_ask, go_need, go_call, go_ret, go_one, go_more, Te.ev, RT.ev, TL.ev, syL, List.getD_cons_zero, List.getD_cons_succ, List.map_cons, List.map_nil, List.cons_append, List.nil_append, List.append_nil, bv_add, bv_sub, bv_mul, bv_eql, bv_neq, bv_lss, bv_leq, bv_gtr, bv_geq, bv_rem, isT_bool, natOf_int, askV_bool, needV_bool, callV_some, decide_eq_true_eq, decide_true, decide_false, Bool.not_eq_true', decide_eq_false_iff_not, selfP, Nat.reduceEqDiff, Nat.succ_ne_zero, ↓reduceIte, if_true, if_false, encI_len, Int.toNat_natCast, encI_get xs i h1, e1, e, e2, g0, g1]
theorem f_list {xs : List Int} {ts : List Tm'} (hlen : xs.length = ts.length) (hm : xs.length ≤ 100) {a : Ar} (ha : AOk a) (hx : ∀ j (h : j < xs.length) (h' : j < ts.length), Den a xs[j] ts[j]) (hl : a.length + xs.length + 1 ≤ 3000) :
    ∃ a' k', fin trA 35 [] [encA a, encI xs] = some (0, [I k'], [encA a']) ∧ Ext a a' (1 + xs.length) ∧ Den a' k' (Tm'.list ts) := by
  obtain ⟨a1, k1, e1, x1, d1⟩ := f_atomD (n := 0) ha (by omega) (by omega) (by omega)
  have l1 := x1.len
  obtain ⟨a2, k2, e2, x2, d2⟩ := f_list0 hlen hm 0 xs.length (a := a1) (k := k1) (by omega) x1.ok (fun j h h' => (hx j h h').mono x1.pre) (by rw [List.drop_eq_nil_of_le (by omega)]; exact d1) (by omega)
  refine ⟨a2, k2, fin_tree trA ?_, x1.trans x2, d2⟩
  show o66.go _ _ _ = _
  have e : wr ((xs.length : Int) - 1) = (xs.length : Int) - 1 := wr_id (by omega) (by omega)
  simp only [o66, go_ask, go_need, go_call, go_ret, go_one, go_more, Te.ev, RT.ev, TL.ev, syL, List.getD_cons_zero, List.getD_cons_succ, List.map_cons, List.map_nil, List.cons_append, List.nil_append, List.append_nil, bv_add, bv_sub, bv_mul, bv_eql, bv_neq, bv_lss, bv_leq, bv_gtr, bv_geq, bv_rem, isT_bool, natOf_int, askV_bool, needV_bool, callV_some, decide_eq_true_eq, decide_true, decide_false, Bool.not_eq_true', decide_eq_false_iff_not, selfP, Nat.reduceEqDiff, Nat.succ_ne_zero, ↓reduceIte, if_true, if_false, e1, encI_len, e, e2]
end Go.Proofs.Ytipomcnbjlfekaa.Rs
