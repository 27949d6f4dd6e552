import Derived.Test.YtipomcnbjlfekaaRsC5
/- Lists taken apart. -/
namespace Go.Proofs.Ytipomcnbjlfekaa.Rs
open Go.RowKit
set_option linter.unusedVariables false
set_option linter.unusedSimpArgs false
set_option maxRecDepth 100000
theorem den_bin {a : Ar} (ha : AOk a) {k c : Int} {t u : Tm'} (h : Den a k (.bin c t u)) : ∃ (p : Nat) (hp : p < a.length) (i j : Int), k = (p : Int) ∧ a[p] = ⟨c, 0, i, j⟩ ∧ Den a i t ∧ Den a j u ∧ isK a k c = true := by
  have hlt := h.lt
  obtain ⟨h0, i, j, h1, hc, h2, h3⟩ := h
  obtain ⟨hp, h1'⟩ := List.getElem?_eq_some_iff.1 h1
  refine ⟨k.toNat, hp, i, j, by omega, h1', h2, h3, ?_⟩
  unfold isK ndAt
  rw [if_pos h0, h1]
  have := ha.right _ _ h1
  rw [show ((k.toNat : Nat) : Int) = k by omega] at this
  simp [this]
theorem den_num {a : Ar} (ha : AOk a) {k n : Int} (h : Den a k (.atom n)) : numOf a k = (n, true) := by
  obtain ⟨h0, h1⟩ := h
  have := ha.right _ _ h1
  rw [show ((k.toNat : Nat) : Int) = k by omega] at this
  unfold numOf ndAt
  rw [if_pos h0, h1]
  simp [this]
inductive Dens (a : Ar) : List Int → List Tm' → Prop where
  | nil : Dens a [] []
  | cons {x : Int} {t : Tm'} {xs : List Int} {ts : List Tm'} (h : Den a x t) (hs : Dens a xs ts) : Dens a (x :: xs) (t :: ts)
theorem f_parts0 {a : Ar} (ha : AOk a) (hl : a.length ≤ 90000000) {n : Nat} (hn : n ≤ 100) (r : Bool) (z : Rw) : ∀ (ts : List Tm') {i : Nat} {k : Int} {xs : List Int}, i + ts.length = n → xs.length = i → Den a k (.list ts) →
    ∃ ys k', fin trA 20 [I k, I n, B r, I i] [encA a, z, encI xs] = some (0, [I k'], [encI (xs ++ ys)]) ∧ Den a k' (.atom 0) ∧ Dens a ys ts
  | [], i, k, xs, hi, hx, hk => by
    refine ⟨[], k, fin_tree trA ?_, hk, .nil⟩
    show o61_0.go _ _ _ = _
    simp only [List.length_nil] at hi
    simp only [o61_0, go_ask, go_need, go_call, go_ret, go_one, go_more, Te.ev, RT.ev, TL.ev, syL, List.getD_cons_zero, List.getD_cons_succ, List.map_cons, List.map_nil, List.cons_append, List.nil_append, List.append_nil, bv_add, bv_sub, bv_mul, bv_eql, bv_neq, bv_lss, bv_leq, bv_gtr, bv_geq, bv_rem, isT_bool, natOf_int, askV_bool, needV_bool, callV_some, decide_eq_true_eq, decide_true, decide_false, Bool.not_eq_true', decide_eq_false_iff_not, selfP, Nat.reduceEqDiff, Nat.succ_ne_zero, ↓reduceIte, if_true, if_false]
    rw [if_neg (by omega)]
  | t :: ts, i, k, xs, hi, hx, hk => by
    obtain ⟨p, hp, x, y, rfl, hnd, h1, h2, h3⟩ := den_bin ha hk
    simp only [List.length_cons] at hi
    obtain ⟨ys, k', e1, d1, d2⟩ := f_parts0 ha hl hn r z ts (i := i + 1) (k := y) (xs := xs ++ [x]) (by omega) (by simp [hx]) h2
    refine ⟨x :: ys, k', fin_tree trA ?_, d1, .cons h1 d2⟩
    show o61_0.go _ _ _ = _
    have e : wr ((i : Int) + 1) = ((i + 1 : Nat) : Int) := by rw [wr_id (by omega) (by omega)]; omega
    have q : encI xs ++ [[Value.int .i64 x]] = encI (xs ++ [x]) := by simp [encI]
    have g0 : (0 : Int) ≤ (p : Int) := by omega
    have g1 : (p : Int) < (a.length : Int) := by omega
    have g2 : (i : Int) < (n : Int) := by omega
    have g3 : ((xs ++ [x]).length : Int) ≤ 100000000 := by simp; omega
    simp only [o61_0, go_ask, go_need, go_call, go_ret, go_one, go_more, Te.ev, RT.ev, TL.ev, syL, List.getD_cons_zero, List.getD_cons_succ, List.map_cons, List.map_nil, List.cons_append, List.nil_append, List.append_nil, bv_add, bv_sub, bv_mul, bv_eql, bv_neq, bv_lss, bv_leq, bv_gtr, bv_geq, bv_rem, isT_bool, natOf_int, askV_bool, needV_bool, callV_some, decide_eq_true_eq, decide_true, decide_false, Bool.not_eq_true', decide_eq_false_iff_not, selfP, Nat.reduceEqDiff, Nat.succ_ne_zero, ↓reduceIte, if_true, if_false, f_is a _ _ hl, h3, Bool.not_true, Bool.false_eq_true, encA_len, Int.toNat_natCast, encA_get a p hp, hnd, Nd.enc, q, encI_len, e, g0, g1, g2, g3, e1]
    simp
theorem f_parts {a : Ar} (ha : AOk a) (hl : a.length ≤ 90000000) {ts : List Tm'} (hn : ts.length ≤ 100) {k : Int} (hk : Den a k (.list ts)) :
    ∃ ys, fin trA 21 [I k, I (ts.length : Int)] [encA a] = some (0, [B true], [encI ys]) ∧ Dens a ys ts := by
  obtain ⟨ys, k', e1, d1, d2⟩ := f_parts0 ha hl hn false [] ts (i := 0) (xs := []) (by omega) rfl hk
  refine ⟨ys, fin_tree trA ?_, d2⟩
  show o61.go _ _ _ = _
  rw [show ((0 : Nat) : Int) = 0 from rfl, show encI [] = [] from rfl, List.nil_append] at e1
  simp only [o61, go_ask, go_need, go_call, go_ret, go_one, go_more, Te.ev, RT.ev, TL.ev, syL, List.getD_cons_zero, List.getD_cons_succ, List.map_cons, List.map_nil, List.cons_append, List.nil_append, List.append_nil, bv_add, bv_sub, bv_mul, bv_eql, bv_neq, bv_lss, bv_leq, bv_gtr, bv_geq, bv_rem, isT_bool, natOf_int, askV_bool, needV_bool, callV_some, decide_eq_true_eq, decide_true, decide_false, Bool.not_eq_true', decide_eq_false_iff_not, selfP, Nat.reduceEqDiff, Nat.succ_ne_zero, ↓reduceIte, if_true, if_false, e1, f_num a k' hl, den_num ha d1, Bool.not_true, Bool.false_eq_true]
  simp
end Go.Proofs.Ytipomcnbjlfekaa.Rs
