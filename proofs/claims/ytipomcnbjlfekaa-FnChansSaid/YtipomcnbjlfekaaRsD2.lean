import Derived.Test.YtipomcnbjlfekaaRsD1
/- The program's records taken apart, its windows: contracts. -/
namespace Go.Proofs.Ytipomcnbjlfekaa.Rs
open Go.RowKit
set_option linter.unusedVariables false
set_option linter.unusedSimpArgs false
set_option maxRecDepth 100000
section
variable {a : Ar}
theorem isI_of {k c : Int} (h : isK a k c = true) : isI a k c = true := by
  unfold isK at h
  unfold isI
  cases e : ndAt a k with
  | none => rw [e] at h; cases h
  | some n => rw [e] at h; simp at h; simp [h.2]
theorem isI_neg (c : Int) : isI a (-1) c = false := by simp [isI, ndAt]
theorem isA_of {x n : Int} (h : Den a x (.atom n)) : isA a x n = true := by
  obtain ⟨h0, h1⟩ := h
  unfold isA ndAt
  rw [if_pos h0, h1]
  simp
theorem f_i_num {x n : Int} (hl : a.length ≤ 90000000) (h : Den a x (.atom n)) : fin trA 52 [I x] [encA a] = some (0, [I n, B true], []) := by
  refine fin_tree trA ?_
  show o53.go _ _ _ = _
  have hlt := h.lt
  obtain ⟨h0, h1⟩ := h
  obtain ⟨hp, h2⟩ := List.getElem?_eq_some_iff.1 h1
  obtain ⟨i, rfl⟩ : ∃ i : Nat, x = i := ⟨x.toNat, by omega⟩
  simp only [Int.toNat_natCast] at h2 hp h1
  have e : isI a (i : Int) 1 = true := by unfold isI ndAt; rw [if_pos h0, Int.toNat_natCast, h1]; simp
  have g1 : (i : Int) < (a.length : Int) := by omega
  simp only [o53, go_ask, go_need, go_call, go_ret, go_one, go_more, Te.ev, RT.ev, TL.ev, syL, List.getD_cons_zero, List.getD_cons_succ, List.map_cons, List.map_nil, List.cons_append, List.nil_append, List.append_nil, bv_add, bv_sub, bv_mul, bv_eql, bv_neq, bv_lss, bv_leq, bv_gtr, bv_geq, bv_rem, isT_bool, natOf_int, askV_bool, needV_bool, callV_some, decide_eq_true_eq, decide_true, decide_false, Bool.not_eq_true', decide_eq_false_iff_not, selfP, Nat.reduceEqDiff, Nat.succ_ne_zero, ↓reduceIte, if_true, if_false, Bool.false_eq_true, Bool.not_true, Bool.not_false, f_i_is a _ _ hl, e, h0, g1, encA_len, Int.toNat_natCast, encA_get a i hp, h2, Nd.enc]
theorem f_i_parts0 (ha : AOk a) (hl : a.length ≤ 90000000) {n : Nat} (hn : n ≤ 100) (r : Bool) (z : Rw) : ∀ (ts : List Tm') {k : Int} {xs : List Int}, xs.length + ts.length = n → Den a k (.list ts) →
    ∃ ys k', fin trA 50 [I k, I n, B r] [encA a, z, encI xs] = some (0, [I k'], [encI (xs ++ ys)]) ∧ Den a k' (.atom 0) ∧ Dens a ys ts
  | [], k, xs, hi, hk => by
    refine ⟨[], k, fin_tree trA ?_, hk, .nil⟩
    show o32_0.go _ _ _ = _
    simp only [List.length_nil] at hi
    simp only [o32_0, go_ask, go_need, go_call, go_ret, go_one, go_more, Te.ev, RT.ev, TL.ev, syL, List.getD_cons_zero, List.getD_cons_succ, List.map_cons, List.map_nil, List.cons_append, List.nil_append, List.append_nil, bv_add, bv_sub, bv_mul, bv_eql, bv_neq, bv_lss, bv_leq, bv_gtr, bv_geq, bv_rem, isT_bool, natOf_int, askV_bool, needV_bool, callV_some, decide_eq_true_eq, decide_true, decide_false, Bool.not_eq_true', decide_eq_false_iff_not, selfP, Nat.reduceEqDiff, Nat.succ_ne_zero, ↓reduceIte, if_true, if_false, Bool.false_eq_true, Bool.not_true, Bool.not_false, encI_len, List.append_nil]
    rw [if_neg (by omega)]
  | t :: ts, k, xs, hi, hk => by
    obtain ⟨p, hp, x, y, rfl, hnd, h1, h2, h3⟩ := den_bin ha hk
    simp only [List.length_cons] at hi
    obtain ⟨ys, k', e1, d1, d2⟩ := f_i_parts0 ha hl hn r z ts (k := y) (xs := xs ++ [x]) (by simp; omega) h2
    refine ⟨x :: ys, k', fin_tree trA ?_, d1, .cons h1 d2⟩
    show o32_0.go _ _ _ = _
    have q : encI xs ++ [[Value.int .i64 x]] = encI (xs ++ [x]) := by simp [encI]
    have g0 : (0 : Int) ≤ (p : Int) := by omega
    have g1 : (p : Int) < (a.length : Int) := by omega
    have g2 : (xs.length : Int) < (n : Int) := by omega
    have g3 : ((xs ++ [x]).length : Int) ≤ 100000000 := by simp; omega
    have q2 : xs ++ [x] ++ ys = xs ++ x :: ys := by simp
    rw [q2] at e1
    simp only [o32_0, go_ask, go_need, go_call, go_ret, go_one, go_more, Te.ev, RT.ev, TL.ev, syL, List.getD_cons_zero, List.getD_cons_succ, List.map_cons, List.map_nil, List.cons_append, List.nil_append, List.append_nil, bv_add, bv_sub, bv_mul, bv_eql, bv_neq, bv_lss, bv_leq, bv_gtr, bv_geq, bv_rem, isT_bool, natOf_int, askV_bool, needV_bool, callV_some, decide_eq_true_eq, decide_true, decide_false, Bool.not_eq_true', decide_eq_false_iff_not, selfP, Nat.reduceEqDiff, Nat.succ_ne_zero, ↓reduceIte, if_true, if_false, Bool.false_eq_true, Bool.not_true, Bool.not_false, f_i_is a _ _ hl, isI_of h3, encA_len, Int.toNat_natCast, encA_get a p hp, hnd, Nd.enc, q, encI_len, g0, g1, g2, g3, e1]
theorem f_i_parts (ha : AOk a) (hl : a.length ≤ 90000000) {ts : List Tm'} (hn : ts.length ≤ 100) (hm : ts.length ≤ a.length) {k : Int} (hk : Den a k (.list ts)) :
    ∃ ys, fin trA 51 [I k, I (ts.length : Int)] [encA a] = some (0, [B true], [encI ys]) ∧ Dens a ys ts := by
  obtain ⟨ys, k', e1, d1, d2⟩ := f_i_parts0 ha hl hn false [] ts (xs := []) (by simp) hk
  refine ⟨ys, fin_tree trA ?_, d2⟩
  show o32.go _ _ _ = _
  rw [show encI [] = [] from rfl, List.nil_append] at e1
  have g0 : ¬ (ts.length : Int) < 0 := by omega
  have g1 : ¬ (a.length : Int) < (ts.length : Int) := by omega
  simp only [o32, go_ask, go_need, go_call, go_ret, go_one, go_more, Te.ev, RT.ev, TL.ev, syL, List.getD_cons_zero, List.getD_cons_succ, List.map_cons, List.map_nil, List.cons_append, List.nil_append, List.append_nil, bv_add, bv_sub, bv_mul, bv_eql, bv_neq, bv_lss, bv_leq, bv_gtr, bv_geq, bv_rem, isT_bool, natOf_int, askV_bool, needV_bool, callV_some, decide_eq_true_eq, decide_true, decide_false, Bool.not_eq_true', decide_eq_false_iff_not, selfP, Nat.reduceEqDiff, Nat.succ_ne_zero, ↓reduceIte, if_true, if_false, Bool.false_eq_true, Bool.not_true, Bool.not_false, encA_len, g0, g1, e1, f_i_isAtom a k' 0 hl, isA_of d1]
theorem den_big (ha : AOk a) (hl : a.length ≤ 90000000) {k : Int} {t u v : Tm'} (hk : Den a k (.list [t, u, v])) : 3 ≤ a.length := by
  have key : ∀ (p : Nat) (hp : p < a.length) i j, a[p] = ⟨2, 0, i, j⟩ → j < (p : Int) := by
    intro p hp i j h
    have := ha.right p _ (List.getElem?_eq_getElem hp)
    rw [h] at this
    simp only [Nd.right, inB] at this
    rw [wr_id (by omega) (by omega)] at this
    simp [isOne] at this
    omega
  obtain ⟨p, hp, i, j, rfl, hnd, h1, h2, h3⟩ := den_bin ha hk
  obtain ⟨p2, hp2, i2, j2, rfl, hnd2, h12, h22, h32⟩ := den_bin ha h2
  obtain ⟨p3, hp3, i3, j3, rfl, hnd3, h13, h23, h33⟩ := den_bin ha h22
  have := key _ _ _ _ hnd
  have := key _ _ _ _ hnd2
  have := key _ _ _ _ hnd3
  have := h23.nonneg
  omega
theorem f_i_parts3 (ha : AOk a) (hl : a.length ≤ 90000000) {t u v : Tm'} {k : Int} (hk : Den a k (.list [t, u, v])) :
    ∃ x y z, fin trA 51 [I k, I 3] [encA a] = some (0, [B true], [[[I x], [I y], [I z]]]) ∧ Den a x t ∧ Den a y u ∧ Den a z v := by
  obtain ⟨ys, h1, h2⟩ := f_i_parts ha hl (by simp) (by have := den_big ha hl hk; simpa using this) hk
  obtain ⟨x, y, z, rfl, d1, d2, d3⟩ := dens3 h2
  exact ⟨x, y, z, h1, d1, d2, d3⟩
theorem f_i_parts_no (hl : a.length ≤ 90000000) {k : Int} (hk : isI a k 2 = false) (h3 : 3 ≤ a.length) : fin trA 51 [I k, I 3] [encA a] = some (0, [B false], [[]]) := by
  have h0 : fin trA 50 [I k, I 3, B false] [encA a, [], []] = some (1, [B false], [[]]) := by
    refine fin_tree trA ?_
    show o32_0.go _ _ _ = _
    have g : (((([] : Rw).length) : Nat) : Int) < 3 := by simp
    simp only [o32_0, go_ask, go_need, go_call, go_ret, go_one, go_more, Te.ev, RT.ev, TL.ev, syL, List.getD_cons_zero, List.getD_cons_succ, List.map_cons, List.map_nil, List.cons_append, List.nil_append, List.append_nil, bv_add, bv_sub, bv_mul, bv_eql, bv_neq, bv_lss, bv_leq, bv_gtr, bv_geq, bv_rem, isT_bool, natOf_int, askV_bool, needV_bool, callV_some, decide_eq_true_eq, decide_true, decide_false, Bool.not_eq_true', decide_eq_false_iff_not, selfP, Nat.reduceEqDiff, Nat.succ_ne_zero, ↓reduceIte, if_true, if_false, Bool.false_eq_true, Bool.not_true, Bool.not_false, f_i_is a _ _ hl, hk, g]
  refine fin_tree trA ?_
  show o32.go _ _ _ = _
  have g1 : ¬ (a.length : Int) < 3 := by omega
  have g0 : ¬ (3 : Int) < 0 := by omega
  simp only [o32, go_ask, go_need, go_call, go_ret, go_one, go_more, Te.ev, RT.ev, TL.ev, syL, List.getD_cons_zero, List.getD_cons_succ, List.map_cons, List.map_nil, List.cons_append, List.nil_append, List.append_nil, bv_add, bv_sub, bv_mul, bv_eql, bv_neq, bv_lss, bv_leq, bv_gtr, bv_geq, bv_rem, isT_bool, natOf_int, askV_bool, needV_bool, callV_some, decide_eq_true_eq, decide_true, decide_false, Bool.not_eq_true', decide_eq_false_iff_not, selfP, Nat.reduceEqDiff, Nat.succ_ne_zero, ↓reduceIte, if_true, if_false, Bool.false_eq_true, Bool.not_true, Bool.not_false, encA_len, g0, g1, h0]
theorem f_i_atomIn {x n m : Int} (hl : a.length ≤ 90000000) (h : Den a x (.atom n)) (h0 : 0 ≤ n) (h1 : n ≤ m) : fin trA 53 [I x, I m] [encA a] = some (0, [I n, B true], []) := by
  refine fin_tree trA ?_
  show o34.go _ _ _ = _
  have g : inB n 0 m = true := by simp [inB]; omega
  simp only [o34, go_ask, go_need, go_call, go_ret, go_one, go_more, Te.ev, RT.ev, TL.ev, syL, List.getD_cons_zero, List.getD_cons_succ, List.map_cons, List.map_nil, List.cons_append, List.nil_append, List.append_nil, bv_add, bv_sub, bv_mul, bv_eql, bv_neq, bv_lss, bv_leq, bv_gtr, bv_geq, bv_rem, isT_bool, natOf_int, askV_bool, needV_bool, callV_some, decide_eq_true_eq, decide_true, decide_false, Bool.not_eq_true', decide_eq_false_iff_not, selfP, Nat.reduceEqDiff, Nat.succ_ne_zero, ↓reduceIte, if_true, if_false, Bool.false_eq_true, Bool.not_true, Bool.not_false, f_i_num hl h, f_i_in, g]
theorem f_i_head (ha : AOk a) (hl : a.length ≤ 90000000) {e s : Int} {t v : Tm'} {k : Int} (he : 0 ≤ e ∧ e ≤ 8) (hs : 0 ≤ s ∧ s ≤ 9999) (hk : Den a k (.list [.atom e, .atom s, .bin 5 t v])) :
    fin trA 54 [I k] [encA a] = some (0, [I e, I s, B true], []) := by
  obtain ⟨x, y, z, e1, d1, d2, d3⟩ := f_i_parts3 ha hl hk
  obtain ⟨p, hp, i, j, hz, hnd, h1, h2, h3⟩ := den_bin ha d3
  refine fin_tree trA ?_
  show o15.go _ _ _ = _
  simp only [o15, go_ask, go_need, go_call, go_ret, go_one, go_more, Te.ev, RT.ev, TL.ev, syL, List.getD_cons_zero, List.getD_cons_succ, List.map_cons, List.map_nil, List.cons_append, List.nil_append, List.append_nil, bv_add, bv_sub, bv_mul, bv_eql, bv_neq, bv_lss, bv_leq, bv_gtr, bv_geq, bv_rem, isT_bool, natOf_int, askV_bool, needV_bool, callV_some, decide_eq_true_eq, decide_true, decide_false, Bool.not_eq_true', decide_eq_false_iff_not, selfP, Nat.reduceEqDiff, Nat.succ_ne_zero, ↓reduceIte, if_true, if_false, Bool.false_eq_true, Bool.not_true, Bool.not_false, e1, f_i_is a _ _ hl, isI_of h3, f_i_atomIn hl d1 he.1 he.2, f_i_atomIn hl d2 hs.1 hs.2, List.length_cons, List.length_nil, Nat.zero_add, Nat.reduceAdd, Int.cast_ofNat_Int, Int.reduceLT, Int.reduceLE, Int.toNat_zero, Int.toNat_one, Int.le_refl, Int.reduceToNat]
theorem f_i_open_yes (ha : AOk a) (hl : a.length ≤ 90000000) {x k : Int} {t u : Tm'} (hx : ∀ i, Den a i t → i = x) (hk : Den a k (.bin 5 t u)) : ∃ j, fin trA 67 [I x, I k] [encA a] = some (0, [I j, B true], []) ∧ Den a j u := by
  obtain ⟨p, hp, i, j, rfl, hnd, h1, h2, h3⟩ := den_bin ha hk
  obtain rfl := hx _ h1
  refine ⟨j, fin_tree trA ?_, h2⟩
  show o57.go _ _ _ = _
  have g0 : (0 : Int) ≤ (p : Int) := by omega
  have g1 : (p : Int) < (a.length : Int) := by omega
  simp only [o57, go_ask, go_need, go_call, go_ret, go_one, go_more, Te.ev, RT.ev, TL.ev, syL, List.getD_cons_zero, List.getD_cons_succ, List.map_cons, List.map_nil, List.cons_append, List.nil_append, List.append_nil, bv_add, bv_sub, bv_mul, bv_eql, bv_neq, bv_lss, bv_leq, bv_gtr, bv_geq, bv_rem, isT_bool, natOf_int, askV_bool, needV_bool, callV_some, decide_eq_true_eq, decide_true, decide_false, Bool.not_eq_true', decide_eq_false_iff_not, selfP, Nat.reduceEqDiff, Nat.succ_ne_zero, ↓reduceIte, if_true, if_false, Bool.false_eq_true, Bool.not_true, Bool.not_false, f_i_is a _ _ hl, isI_of h3, encA_len, Int.toNat_natCast, encA_get a p hp, hnd, Nd.enc, g0, g1]
theorem f_i_open_no (ha : AOk a) (hl : a.length ≤ 90000000) {x k : Int} {t u : Tm'} (hx : ∀ i, Den a i t → i ≠ x) (hk : Den a k (.bin 5 t u)) : fin trA 67 [I x, I k] [encA a] = some (0, [I (-1), B false], []) := by
  obtain ⟨p, hp, i, j, rfl, hnd, h1, h2, h3⟩ := den_bin ha hk
  have hix := hx _ h1
  refine fin_tree trA ?_
  show o57.go _ _ _ = _
  have g0 : (0 : Int) ≤ (p : Int) := by omega
  have g1 : (p : Int) < (a.length : Int) := by omega
  simp only [o57, go_ask, go_need, go_call, go_ret, go_one, go_more, Te.ev, RT.ev, TL.ev, syL, List.getD_cons_zero, List.getD_cons_succ, List.map_cons, List.map_nil, List.cons_append, List.nil_append, List.append_nil, bv_add, bv_sub, bv_mul, bv_eql, bv_neq, bv_lss, bv_leq, bv_gtr, bv_geq, bv_rem, isT_bool, natOf_int, askV_bool, needV_bool, callV_some, decide_eq_true_eq, decide_true, decide_false, Bool.not_eq_true', decide_eq_false_iff_not, selfP, Nat.reduceEqDiff, Nat.succ_ne_zero, ↓reduceIte, if_true, if_false, Bool.false_eq_true, Bool.not_true, Bool.not_false, f_i_is a _ _ hl, isI_of h3, encA_len, Int.toNat_natCast, encA_get a p hp, hnd, Nd.enc, g0, g1, hix]
theorem f_i_openRec_yes (ha : AOk a) (hl : a.length ≤ 90000000) {x k e s : Int} {t u : Tm'} (he : 0 ≤ e ∧ e ≤ 8) (hs : 0 ≤ s ∧ s ≤ 9999) (hx : ∀ i, Den a i t → i = x) (hk : Den a k (t.record e s u)) : ∃ j, fin trA 68 [I x, I k] [encA a] = some (0, [I j, B true], []) ∧ Den a j u := by
  obtain ⟨y1, y2, y3, e1, d1, d2, d3⟩ := f_i_parts3 ha hl hk
  obtain ⟨j, e2, d4⟩ := f_i_open_yes ha hl hx d3
  obtain ⟨z1, z2, z3, e3, c1, c2, c3⟩ := f_i_parts3 ha hl d4
  refine ⟨z3, fin_tree trA ?_, c3⟩
  show o39.go _ _ _ = _
  simp only [o39, go_ask, go_need, go_call, go_ret, go_one, go_more, Te.ev, RT.ev, TL.ev, syL, List.getD_cons_zero, List.getD_cons_succ, List.map_cons, List.map_nil, List.cons_append, List.nil_append, List.append_nil, bv_add, bv_sub, bv_mul, bv_eql, bv_neq, bv_lss, bv_leq, bv_gtr, bv_geq, bv_rem, isT_bool, natOf_int, askV_bool, needV_bool, callV_some, decide_eq_true_eq, decide_true, decide_false, Bool.not_eq_true', decide_eq_false_iff_not, selfP, Nat.reduceEqDiff, Nat.succ_ne_zero, ↓reduceIte, if_true, if_false, Bool.false_eq_true, Bool.not_true, Bool.not_false, f_i_head ha hl he hs hk, e1, e2, e3, f_i_isAtom a _ _ hl, isA_of c1, isA_of c2, List.length_cons, List.length_nil, Nat.zero_add, Nat.reduceAdd, Int.cast_ofNat_Int, Int.reduceLT, Int.reduceLE, Int.toNat_zero, Int.toNat_one, Int.le_refl, Int.reduceToNat]
theorem f_i_openRec_no (ha : AOk a) (hl : a.length ≤ 90000000) {x k e s : Int} {t u : Tm'} (he : 0 ≤ e ∧ e ≤ 8) (hs : 0 ≤ s ∧ s ≤ 9999) (hx : ∀ i, Den a i t → i ≠ x) (hk : Den a k (t.record e s u)) : fin trA 68 [I x, I k] [encA a] = some (0, [I (-1), B false], []) := by
  obtain ⟨y1, y2, y3, e1, d1, d2, d3⟩ := f_i_parts3 ha hl hk
  have e2 := f_i_open_no ha hl hx d3
  have e3 := f_i_parts_no hl (isI_neg 2) (den_big ha hl hk)
  refine fin_tree trA ?_
  show o39.go _ _ _ = _
  simp only [o39, go_ask, go_need, go_call, go_ret, go_one, go_more, Te.ev, RT.ev, TL.ev, syL, List.getD_cons_zero, List.getD_cons_succ, List.map_cons, List.map_nil, List.cons_append, List.nil_append, List.append_nil, bv_add, bv_sub, bv_mul, bv_eql, bv_neq, bv_lss, bv_leq, bv_gtr, bv_geq, bv_rem, isT_bool, natOf_int, askV_bool, needV_bool, callV_some, decide_eq_true_eq, decide_true, decide_false, Bool.not_eq_true', decide_eq_false_iff_not, selfP, Nat.reduceEqDiff, Nat.succ_ne_zero, ↓reduceIte, if_true, if_false, Bool.false_eq_true, Bool.not_true, Bool.not_false, f_i_head ha hl he hs hk, e1, e2, e3, List.length_cons, List.length_nil, Nat.zero_add, Nat.reduceAdd, Int.cast_ofNat_Int, Int.reduceLT, Int.reduceLE, Int.toNat_zero, Int.toNat_one, Int.le_refl, Int.reduceToNat]
end
theorem tmod2 (n : Nat) : ((n : Int).tmod 2 = 0) ↔ n % 2 = 0 := by
  rw [Int.tmod_eq_emod_of_nonneg (by omega)]; omega
theorem f_i_fresh {top seen : Int} {S : Nat → Prop} (h : WR top seen S) {s : Nat} (hs : s ≤ 9999) : ∃ b, fin trA 70 [I top, I seen, I s] [] = some (0, [B b], []) ∧ (b = true ↔ ¬ S s) := by
  have hok := f_i_winOk h
  have g0 : inB (s : Int) 0 9999 = true := by simp [inB]; omega
  rcases h with ⟨rfl, rfl, hS⟩ | ⟨t, m, rfl, rfl, h1, h2, h3, h4, hS⟩
  · refine ⟨true, fin_tree trA ?_, by simp [hS]⟩
    show o40.go _ _ _ = _
    have w : wr (-1 - (s : Int)) = -1 - (s : Int) := wr_id (by omega) (by omega)
    have g : (-1 - (s : Int)) < 0 := by omega
    simp only [o40, go_ask, go_need, go_call, go_ret, go_one, go_more, Te.ev, RT.ev, TL.ev, syL, List.getD_cons_zero, List.getD_cons_succ, List.map_cons, List.map_nil, List.cons_append, List.nil_append, List.append_nil, bv_add, bv_sub, bv_mul, bv_eql, bv_neq, bv_lss, bv_leq, bv_gtr, bv_geq, bv_rem, isT_bool, natOf_int, askV_bool, needV_bool, callV_some, decide_eq_true_eq, decide_true, decide_false, Bool.not_eq_true', decide_eq_false_iff_not, selfP, Nat.reduceEqDiff, Nat.succ_ne_zero, ↓reduceIte, if_true, if_false, Bool.false_eq_true, Bool.not_true, Bool.not_false, hok, f_i_in, g0, w, g]
  · have w : wr ((t : Int) - s) = (t : Int) - s := wr_id (by omega) (by omega)
    by_cases g1 : (t : Int) - s < 0
    · refine ⟨true, fin_tree trA ?_, by rw [hS]; simp; omega⟩
      show o40.go _ _ _ = _
      simp only [o40, go_ask, go_need, go_call, go_ret, go_one, go_more, Te.ev, RT.ev, TL.ev, syL, List.getD_cons_zero, List.getD_cons_succ, List.map_cons, List.map_nil, List.cons_append, List.nil_append, List.append_nil, bv_add, bv_sub, bv_mul, bv_eql, bv_neq, bv_lss, bv_leq, bv_gtr, bv_geq, bv_rem, isT_bool, natOf_int, askV_bool, needV_bool, callV_some, decide_eq_true_eq, decide_true, decide_false, Bool.not_eq_true', decide_eq_false_iff_not, selfP, Nat.reduceEqDiff, Nat.succ_ne_zero, ↓reduceIte, if_true, if_false, Bool.false_eq_true, Bool.not_true, Bool.not_false, hok, f_i_in, g0, w, g1]
    · have e : (t : Int) - s = ((t - s : Nat) : Int) := by omega
      by_cases g2 : t - s < 16
      · have g3 : (t : Int) - s < 16 := by omega
        have g4 : (0 : Int) ≤ (t : Int) - s := by omega
        have e2 := bv_shr_nat (a := m) (n := t - s) .i64 (by omega)
        rw [← e] at e2
        refine ⟨decide (((m / 2 ^ (t - s) : Nat) : Int).tmod 2 = 0), fin_tree trA ?_, ?_⟩
        · show o40.go _ _ _ = _
          simp only [o40, go_ask, go_need, go_call, go_ret, go_one, go_more, Te.ev, RT.ev, TL.ev, syL, List.getD_cons_zero, List.getD_cons_succ, List.map_cons, List.map_nil, List.cons_append, List.nil_append, List.append_nil, bv_add, bv_sub, bv_mul, bv_eql, bv_neq, bv_lss, bv_leq, bv_gtr, bv_geq, bv_rem, isT_bool, natOf_int, askV_bool, needV_bool, callV_some, decide_eq_true_eq, decide_true, decide_false, Bool.not_eq_true', decide_eq_false_iff_not, selfP, Nat.reduceEqDiff, Nat.succ_ne_zero, ↓reduceIte, if_true, if_false, Bool.false_eq_true, Bool.not_true, Bool.not_false, hok, f_i_in, g0, g1, w, g3, g4, e2]
        · rw [hS, decide_eq_true_eq, tmod2, ← Nat.and_one_is_mod, bit_and_one]
          constructor
          · rintro h ⟨_, h | h'⟩
            · omega
            · rw [h] at h'; cases h'
          · intro h
            cases hb : m.testBit (t - s)
            · rfl
            · exact absurd ⟨by omega, .inr hb⟩ h
      · refine ⟨false, fin_tree trA ?_, by rw [hS]; simp; omega⟩
        have g3 : ¬ (t : Int) - s < 16 := by omega
        show o40.go _ _ _ = _
        simp only [o40, go_ask, go_need, go_call, go_ret, go_one, go_more, Te.ev, RT.ev, TL.ev, syL, List.getD_cons_zero, List.getD_cons_succ, List.map_cons, List.map_nil, List.cons_append, List.nil_append, List.append_nil, bv_add, bv_sub, bv_mul, bv_eql, bv_neq, bv_lss, bv_leq, bv_gtr, bv_geq, bv_rem, isT_bool, natOf_int, askV_bool, needV_bool, callV_some, decide_eq_true_eq, decide_true, decide_false, Bool.not_eq_true', decide_eq_false_iff_not, selfP, Nat.reduceEqDiff, Nat.succ_ne_zero, ↓reduceIte, if_true, if_false, Bool.false_eq_true, Bool.not_true, Bool.not_false, hok, f_i_in, g0, g1, w, g3]
theorem f_i_noted_no {top seen : Int} {S : Nat → Prop} (h : WR top seen S) {s : Nat} (hs : s ≤ 9999) (hS : S s) : fin trA 71 [I top, I seen, I s] [] = some (0, [I top, I seen, B false], []) := by
  obtain ⟨b, e1, hb⟩ := f_i_fresh h hs
  have : b = false := by cases b; rfl; exact absurd hS (hb.1 rfl)
  subst this
  refine fin_tree trA ?_
  show o19.go _ _ _ = _
  simp only [o19, go_ask, go_need, go_call, go_ret, go_one, go_more, Te.ev, RT.ev, TL.ev, syL, List.getD_cons_zero, List.getD_cons_succ, List.map_cons, List.map_nil, List.cons_append, List.nil_append, List.append_nil, bv_add, bv_sub, bv_mul, bv_eql, bv_neq, bv_lss, bv_leq, bv_gtr, bv_geq, bv_rem, isT_bool, natOf_int, askV_bool, needV_bool, callV_some, decide_eq_true_eq, decide_true, decide_false, Bool.not_eq_true', decide_eq_false_iff_not, selfP, Nat.reduceEqDiff, Nat.succ_ne_zero, ↓reduceIte, if_true, if_false, Bool.false_eq_true, Bool.not_true, Bool.not_false, e1]
theorem f_i_noted_yes {top seen : Int} {S : Nat → Prop} (h : WR top seen S) {s : Nat} (hs : s ≤ 9999) (hS : ¬ S s) : ∃ t' m' S', fin trA 71 [I top, I seen, I s] [] = some (0, [I t', I m', B true], []) ∧ Noted top S s t' m' S' := by
  obtain ⟨b, e1, hb⟩ := f_i_fresh h hs
  have : b = true := hb.2 hS
  subst this
  have mask : ∀ x : Nat, x < 2 ^ 40 → binV .and (binV .or (.int .i64 (x : Int)) (.int .i64 1)) (.int .i64 65535) = .int .i64 ((x &&& 65535 ||| 1 : Nat) : Int) := by
    intro x hx
    have e1 : binV .or (.int .i64 (x : Int)) (.int .i64 1) = .int .i64 ((x ||| 1 : Nat) : Int) := bv_or_nat (b := 1) (by omega) (by omega)
    have h1 : x ||| 1 < 2 ^ 40 := Nat.or_lt_two_pow hx (by omega)
    have e2 : binV .and (.int .i64 ((x ||| 1 : Nat) : Int)) (.int .i64 65535) = .int .i64 (((x ||| 1) &&& 65535 : Nat) : Int) := bv_and_nat (b := 65535) (by omega) (by omega)
    rw [e1, e2, Nat.and_or_distrib_right, show (1 &&& 65535 : Nat) = 1 from rfl]
  rcases h with ⟨rfl, rfl, h⟩ | ⟨t, m, rfl, rfl, h1, h2, h3, h4, hSS⟩
  · refine ⟨_, _, _, fin_tree trA ?_, noted_first hs h⟩
    show o19.go _ _ _ = _
    have w : wr ((s : Int) - -1) = ((s + 1 : Nat) : Int) := by rw [wr_id (by omega) (by omega)]; omega
    have g : ¬ (s : Int) < -1 := by omega
    by_cases g2 : (16 : Int) < ((s + 1 : Nat) : Int)
    · have e2 : binV .shl (.int .i64 0) (.int .i64 16) = .int .i64 ((0 : Nat) : Int) := bv_shl_nat (a := 0) (n := 16) .i64 (by omega) (by omega)
      simp only [o19, go_ask, go_need, go_call, go_ret, go_one, go_more, Te.ev, RT.ev, TL.ev, syL, List.getD_cons_zero, List.getD_cons_succ, List.map_cons, List.map_nil, List.cons_append, List.nil_append, List.append_nil, bv_add, bv_sub, bv_mul, bv_eql, bv_neq, bv_lss, bv_leq, bv_gtr, bv_geq, bv_rem, isT_bool, natOf_int, askV_bool, needV_bool, callV_some, decide_eq_true_eq, decide_true, decide_false, Bool.not_eq_true', decide_eq_false_iff_not, selfP, Nat.reduceEqDiff, Nat.succ_ne_zero, ↓reduceIte, if_true, if_false, Bool.false_eq_true, Bool.not_true, Bool.not_false, e1, w, g, g2, cond_true, e2, mask 0 (by omega)]
      rfl
    · have e2 : binV .shl (.int .i64 0) (.int .i64 ((s + 1 : Nat) : Int)) = .int .i64 ((0 : Nat) : Int) := by
        have := bv_shl_nat (a := 0) (n := s + 1) .i64 (by omega) (by rw [Nat.zero_mul]; omega)
        rw [Nat.zero_mul] at this
        exact this
      have g3 : (0 : Int) ≤ ((s + 1 : Nat) : Int) := by omega
      simp only [o19, go_ask, go_need, go_call, go_ret, go_one, go_more, Te.ev, RT.ev, TL.ev, syL, List.getD_cons_zero, List.getD_cons_succ, List.map_cons, List.map_nil, List.cons_append, List.nil_append, List.append_nil, bv_add, bv_sub, bv_mul, bv_eql, bv_neq, bv_lss, bv_leq, bv_gtr, bv_geq, bv_rem, isT_bool, natOf_int, askV_bool, needV_bool, callV_some, decide_eq_true_eq, decide_true, decide_false, Bool.not_eq_true', decide_eq_false_iff_not, selfP, Nat.reduceEqDiff, Nat.succ_ne_zero, ↓reduceIte, if_true, if_false, Bool.false_eq_true, Bool.not_true, Bool.not_false, e1, w, g, g2, g3, cond_false, e2, mask 0 (by omega)]
      rfl
  · by_cases g : (s : Int) < t
    · have hb : t - s < 16 := by
        apply Classical.byContradiction
        intro hn
        exact hS ((hSS s).2 ⟨by omega, .inl (by omega)⟩)
      refine ⟨_, _, _, fin_tree trA ?_, noted_set h1 h2 h3 h4 (by omega) hb hSS⟩
      have e : wr ((t : Int) - s) = ((t - s : Nat) : Int) := by rw [wr_id (by omega) (by omega)]; omega
      have q : 2 ^ (t - s) < 2 ^ 62 := Nat.pow_lt_pow_right (by omega) (by omega)
      have g3 : (0 : Int) ≤ ((t - s : Nat) : Int) := by omega
      show o19.go _ _ _ = _
      simp only [o19, go_ask, go_need, go_call, go_ret, go_one, go_more, Te.ev, RT.ev, TL.ev, syL, List.getD_cons_zero, List.getD_cons_succ, List.map_cons, List.map_nil, List.cons_append, List.nil_append, List.append_nil, bv_add, bv_sub, bv_mul, bv_eql, bv_neq, bv_lss, bv_leq, bv_gtr, bv_geq, bv_rem, isT_bool, natOf_int, askV_bool, needV_bool, callV_some, decide_eq_true_eq, decide_true, decide_false, Bool.not_eq_true', decide_eq_false_iff_not, selfP, Nat.reduceEqDiff, Nat.succ_ne_zero, ↓reduceIte, if_true, if_false, Bool.false_eq_true, Bool.not_true, Bool.not_false, e1, g, e, g3, bv_shl_one _ (show t - s ≤ 61 by omega), bv_or_nat (show m < 2 ^ 62 by omega) q]
    · have hne : t ≠ s := by
        rintro rfl
        refine hS ((hSS t).2 ⟨Nat.le_refl _, .inr ?_⟩)
        rw [Nat.sub_self, Nat.testBit_zero, h4]; rfl
      have e : wr ((s : Int) - t) = ((s - t : Nat) : Int) := by rw [wr_id (by omega) (by omega)]; omega
      by_cases hb : s - t < 16
      · refine ⟨_, _, _, fin_tree trA ?_, noted_on h2 (by omega) hs hb hSS h3⟩
        have g2 : ¬ (16 : Int) < ((s - t : Nat) : Int) := by omega
        have g3 : (0 : Int) ≤ ((s - t : Nat) : Int) := by omega
        have q : 2 ^ (s - t) ≤ 2 ^ 15 := Nat.pow_le_pow_right (by omega) (by omega)
        have q2 : m * 2 ^ (s - t) < 2 ^ 40 := Nat.lt_of_le_of_lt (Nat.mul_le_mul (show m ≤ 65536 by omega) q) (by omega)
        show o19.go _ _ _ = _
        simp only [o19, go_ask, go_need, go_call, go_ret, go_one, go_more, Te.ev, RT.ev, TL.ev, syL, List.getD_cons_zero, List.getD_cons_succ, List.map_cons, List.map_nil, List.cons_append, List.nil_append, List.append_nil, bv_add, bv_sub, bv_mul, bv_eql, bv_neq, bv_lss, bv_leq, bv_gtr, bv_geq, bv_rem, isT_bool, natOf_int, askV_bool, needV_bool, callV_some, decide_eq_true_eq, decide_true, decide_false, Bool.not_eq_true', decide_eq_false_iff_not, selfP, Nat.reduceEqDiff, Nat.succ_ne_zero, ↓reduceIte, if_true, if_false, Bool.false_eq_true, Bool.not_true, Bool.not_false, e1, g, e, g2, g3, cond_false, bv_shl_nat _ (show s - t ≤ 64 by omega) (show m * 2 ^ (s - t) < 2 ^ 62 by omega), mask _ q2]
      · refine ⟨_, _, _, fin_tree trA ?_, noted_far (t := t) (by omega) hs (by omega) (fun r hr => ((hSS r).1 hr).1)⟩
        have e3 : m * 2 ^ 16 &&& 65535 ||| 1 = 1 := by
          rw [show (65535 : Nat) = 2 ^ 16 - 1 from rfl, Nat.and_two_pow_sub_one_eq_mod, Nat.mul_mod_left]; rfl
        have e2 : binV .shl (.int .i64 (m : Int)) (.int .i64 16) = .int .i64 ((m * 2 ^ 16 : Nat) : Int) := bv_shl_nat (n := 16) .i64 (by omega) (by omega)
        have e4 := mask (m * 2 ^ 16) (by omega)
        rw [e3] at e4
        show o19.go _ _ _ = _
        by_cases g2 : (16 : Int) < ((s - t : Nat) : Int)
        · simp only [o19, go_ask, go_need, go_call, go_ret, go_one, go_more, Te.ev, RT.ev, TL.ev, syL, List.getD_cons_zero, List.getD_cons_succ, List.map_cons, List.map_nil, List.cons_append, List.nil_append, List.append_nil, bv_add, bv_sub, bv_mul, bv_eql, bv_neq, bv_lss, bv_leq, bv_gtr, bv_geq, bv_rem, isT_bool, natOf_int, askV_bool, needV_bool, callV_some, decide_eq_true_eq, decide_true, decide_false, Bool.not_eq_true', decide_eq_false_iff_not, selfP, Nat.reduceEqDiff, Nat.succ_ne_zero, ↓reduceIte, if_true, if_false, Bool.false_eq_true, Bool.not_true, Bool.not_false, e1, g, e, g2, cond_true, e2, e4, Int.reduceLE]
          rfl
        · have g4 : ((s - t : Nat) : Int) = 16 := by omega
          simp only [o19, go_ask, go_need, go_call, go_ret, go_one, go_more, Te.ev, RT.ev, TL.ev, syL, List.getD_cons_zero, List.getD_cons_succ, List.map_cons, List.map_nil, List.cons_append, List.nil_append, List.append_nil, bv_add, bv_sub, bv_mul, bv_eql, bv_neq, bv_lss, bv_leq, bv_gtr, bv_geq, bv_rem, isT_bool, natOf_int, askV_bool, needV_bool, callV_some, decide_eq_true_eq, decide_true, decide_false, Bool.not_eq_true', decide_eq_false_iff_not, selfP, Nat.reduceEqDiff, Nat.succ_ne_zero, ↓reduceIte, if_true, if_false, Bool.false_eq_true, Bool.not_true, Bool.not_false, e1, g, e, g4, Int.lt_irrefl, cond_false, e2, e4, Int.reduceLE]
          rfl
end Go.Proofs.Ytipomcnbjlfekaa.Rs
