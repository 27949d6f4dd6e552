import Derived.Test.YtipomcnbjlfekaaRsC13
import Derived.Test.YtipomcnbjlfekaaRsC14
/- Both ends of a channel, drawn: what holds of them. -/
namespace Go.Proofs.Ytipomcnbjlfekaa.Rs
open Go.RowKit
set_option linter.unusedVariables false
set_option linter.unusedSimpArgs false
set_option maxRecDepth 100000
def App : Tm' := .atom 10005
/-- A record that x said. -/
structure Rc where
  e : Nat
  s : Nat
  t : Tm'
def Rc.tm (r : Rc) : Tm' := ((App.turn r.e).key 1).record r.e r.s r.t
structure Two (n : Nat) (a : Ar) (x y : Ch) (ks : List Int) (rs : List Rc) (XN XL YN YL : Nat → Prop) : Prop where
  ok : AOk a
  len : a.length ≤ 1 + 70 * n
  app : Den a 0 App
  xr : CR a x App XN XL
  yr : CR a y App YN YL
  xa : x.app = 0
  ya : y.app = 0
  xs : x.side = 1
  ys : y.side = 2
  xe : x.ep ≤ 1
  xh : x.heard = 0
  xq : x.seq ≤ n
  ye : y.ep = 0
  yq : y.seq ≤ n
  yh : y.heard ≤ x.ep
  top : y.heard = x.ep → y.nt < x.seq
  lens : ks.length = rs.length
  few : ks.length ≤ n
  recs : ∀ (j : Nat) k r, ks[j]? = some k → rs[j]? = some r → Den a k r.tm
  old : ∀ r ∈ rs, r.e ≤ x.ep ∧ (r.e = x.ep → r.s < x.seq) ∧ r.s ≤ 9999
section
variable {n : Nat} {a a' : Ar} {x y x' y' : Ch} {ks : List Int} {rs : List Rc} {XN XL YN YL : Nat → Prop}
theorem Two.next (h : Two n a x y ks rs XN XL YN YL) : Two (n + 1) a x y ks rs XN XL YN YL :=
  { h with len := by have := h.len; omega, xq := by have := h.xq; omega, yq := by have := h.yq; omega, few := by have := h.few; omega }
theorem Two.turn (h : Two n a x y ks rs XN XL YN YL) (h0 : x.ep = 0) : Two (n + 1) a { x with ep := x.ep + 1, seq := 0 } y ks rs XN XL YN YL :=
  { h.next with
    xr := ⟨h.xr.app, h.xr.side, by show x.ep + 1 ≤ 8; omega, by show 0 ≤ 9999; omega, h.xr.heard, h.xr.now, h.xr.last⟩
    xe := by show x.ep + 1 ≤ 1; omega
    xq := by show 0 ≤ n + 1; omega
    yh := by have := h.yh; show y.heard ≤ x.ep + 1; omega
    top := fun k => by have := h.yh; have k : y.heard = x.ep + 1 := k; omega
    old := fun r hr => by
      obtain ⟨h1, h2, h3⟩ := h.old r hr
      exact ⟨by show r.e ≤ x.ep + 1; omega, fun k => by have k : r.e = x.ep + 1 := k; omega, h3⟩ }
theorem Two.heard {e s : Nat} {YN' YL' : Nat → Prop} (h : Two n a x y ks rs XN XL YN YL) (k : Heard y YN YL e s y' YN' YL') (h1 : e ≤ x.ep) (h2 : e = x.ep → s < x.seq) : Two n a x y' ks rs XN XL YN' YL' :=
  { h with
    yr := k.cr h.yr (by have := h.xe; omega)
    ya := by rw [k.app]; exact h.ya
    ys := by rw [k.side]; exact h.ys
    ye := by rw [k.ep]; exact h.ye
    yq := by rw [k.seq]; exact h.yq
    yh := by rw [k.heard]; have := h.yh; omega
    top := k.top x.ep x.seq h.top (fun e' => by have := h2 e'; omega) }
theorem Two.heardX {s : Nat} {XN' XL' : Nat → Prop} (h : Two n a x y ks rs XN XL YN YL) (k : Heard x XN XL 0 s x' XN' XL') : Two n a x' y ks rs XN' XL' YN YL :=
  { h with
    xr := k.cr h.xr (by omega)
    xa := by rw [k.app]; exact h.xa
    xs := by rw [k.side]; exact h.xs
    xe := by rw [k.ep]; exact h.xe
    xh := by rw [k.heard]; have := h.xh; omega
    xq := by rw [k.seq]; exact h.xq
    yh := by rw [k.ep]; exact h.yh
    top := by rw [k.ep, k.seq]; exact h.top
    old := by rw [k.ep, k.seq]; exact h.old }
theorem Two.grow {c : Nat} (h : Two n a x y ks rs XN XL YN YL) (x1 : Ext a a' c) (hl : a'.length ≤ 1 + 70 * n) : Two n a' x y ks rs XN XL YN YL :=
  { h with
    ok := x1.ok
    len := hl
    app := h.app.mono x1.pre
    xr := h.xr.mono x1.pre
    yr := h.yr.mono x1.pre
    recs := fun j k r h1 h2 => (h.recs j k r h1 h2).mono x1.pre }
theorem f_two0 {L : Rw} (hL : Cd L) (hn : L.length ≤ 2000000) : ∀ (d n : Nat), n + d = 8 → ∀ {i h : Int} {a : Ar} {x y : Ch} {ks : List Int} {rs : List Rc} {XN XL YN YL : Nat → Prop}, 0 ≤ i → Two n a x y ks rs XN XL YN YL →
    ∃ i' h' a' x' y' ks' rs' XN' XL' YN' YL', fin trA 38 ([I i, I h, I 0, I 0, I 0, I 0, I 0, I 0, I 0, I 0, I 0, I 0, I 0, I 0, I 0, I 0, I 0, I 0, I 0, I 0, I 0] ++ x.v ++ y.v ++ [I n]) [L, [], [], encA a, encI ks] = some (0, [I i', I h'] ++ x'.v ++ y'.v, [encA a', encI ks']) ∧ Two 8 a' x' y' ks' rs' XN' XL' YN' YL' := by
  intro d
  induction d with
  | zero =>
    intro n hd i h a x y ks rs XN XL YN YL hi H
    obtain ⟨i1, q1, r1, e1, p1, b1, c1⟩ := f_below hL hn (h := h) (n := 8) hi (by omega) (by omega)
    have w1 : wr (1 + r1) = 1 + r1 := wr_id (by omega) (by omega)
    have g : ¬ (n : Int) < 1 + r1 := by omega
    refine ⟨i1, q1, a, x, y, ks, rs, XN, XL, YN, YL, fin_tree trA ?_, ?_⟩
    · show o10_0.go _ _ _ = _
      simp only [Ch.v, o10_0, go_ask, go_need, go_call, go_ret, go_one, go_more, Te.ev, RT.ev, TL.ev, syL, List.getD_cons_zero, List.getD_cons_succ, List.map_cons, List.map_nil, List.cons_append, List.nil_append, List.append_nil, bv_add, bv_sub, bv_mul, bv_eql, bv_neq, bv_lss, bv_leq, bv_gtr, bv_geq, bv_rem, isT_bool, natOf_int, askV_bool, needV_bool, callV_some, decide_eq_true_eq, decide_true, decide_false, Bool.not_eq_true', decide_eq_false_iff_not, selfP, Nat.reduceEqDiff, Nat.succ_ne_zero, ↓reduceIte, if_true, if_false, Bool.false_eq_true, Bool.not_true, Bool.not_false, e1, w1, g]
    · have hlen := H.len; have hxq := H.xq; have hyq := H.yq; have hfew := H.few
      exact { H with len := by omega, xq := by omega, yq := by omega, few := by omega }
  | succ d ih =>
    intro n hd i h a x y ks rs XN XL YN YL hi H
    obtain ⟨i1, q1, r1, e1, p1, b1, c1⟩ := f_below hL hn (h := h) (n := 8) hi (by omega) (by omega)
    have w1 : wr (1 + r1) = 1 + r1 := wr_id (by omega) (by omega)
    by_cases g : (n : Int) < 1 + r1
    · obtain ⟨i2, q2, r2, e2, p2, b2, c2⟩ := f_below hL hn (h := q1) (n := 6) p1 (by omega) (by omega)
      have w2 : wr ((n : Int) + 1) = ((n + 1 : Nat) : Int) := by rw [wr_id (by omega) (by omega)]; omega
      have hlen := H.len; have hxe := H.xe; have hxh := H.xh; have hxq := H.xq; have hyq := H.yq; have hye := H.ye; have hfew := H.few
      by_cases g0 : r2 = 0
      · subst g0
        by_cases k0 : x.ep = 0
        · have e3 := f_turn_yes (c := x) (by omega) (by omega)
          have H2 := H.turn k0
          obtain ⟨i', h', a', x', y', ks', rs', XN', XL', YN', YL', e4, H4⟩ := ih (n + 1) (by omega) (h := q2) p2 H2
          refine ⟨i', h', a', x', y', ks', rs', XN', XL', YN', YL', fin_tree trA ?_, H4⟩
          show o10_0.go _ _ _ = _
          simp only [Ch.v, go_ask, go_need, go_call, go_ret, go_one, go_more, Te.ev, RT.ev, TL.ev, syL, List.getD_cons_zero, List.getD_cons_succ, List.map_cons, List.map_nil, List.cons_append, List.nil_append, List.append_nil, bv_add, bv_sub, bv_mul, bv_eql, bv_neq, bv_lss, bv_leq, bv_gtr, bv_geq, bv_rem, isT_bool, natOf_int, askV_bool, needV_bool, callV_some, decide_eq_true_eq, decide_true, decide_false, Bool.not_eq_true', decide_eq_false_iff_not, selfP, Nat.reduceEqDiff, Nat.succ_ne_zero, ↓reduceIte, if_true, if_false, Bool.false_eq_true, Bool.not_true, Bool.not_false] at e3 e4
          simp only [Ch.v, o10_0, go_ask, go_need, go_call, go_ret, go_one, go_more, Te.ev, RT.ev, TL.ev, syL, List.getD_cons_zero, List.getD_cons_succ, List.map_cons, List.map_nil, List.cons_append, List.nil_append, List.append_nil, bv_add, bv_sub, bv_mul, bv_eql, bv_neq, bv_lss, bv_leq, bv_gtr, bv_geq, bv_rem, isT_bool, natOf_int, askV_bool, needV_bool, callV_some, decide_eq_true_eq, decide_true, decide_false, Bool.not_eq_true', decide_eq_false_iff_not, selfP, Nat.reduceEqDiff, Nat.succ_ne_zero, ↓reduceIte, if_true, if_false, Bool.false_eq_true, Bool.not_true, Bool.not_false, e1, w1, g, e2, e3, w2, e4]
        · have e3 := f_turn_no (c := x) (by omega) (by omega)
          obtain ⟨i', h', a', x', y', ks', rs', XN', XL', YN', YL', e4, H4⟩ := ih (n + 1) (by omega) (h := q2) p2 H.next
          refine ⟨i', h', a', x', y', ks', rs', XN', XL', YN', YL', fin_tree trA ?_, H4⟩
          show o10_0.go _ _ _ = _
          simp only [Ch.v, go_ask, go_need, go_call, go_ret, go_one, go_more, Te.ev, RT.ev, TL.ev, syL, List.getD_cons_zero, List.getD_cons_succ, List.map_cons, List.map_nil, List.cons_append, List.nil_append, List.append_nil, bv_add, bv_sub, bv_mul, bv_eql, bv_neq, bv_lss, bv_leq, bv_gtr, bv_geq, bv_rem, isT_bool, natOf_int, askV_bool, needV_bool, callV_some, decide_eq_true_eq, decide_true, decide_false, Bool.not_eq_true', decide_eq_false_iff_not, selfP, Nat.reduceEqDiff, Nat.succ_ne_zero, ↓reduceIte, if_true, if_false, Bool.false_eq_true, Bool.not_true, Bool.not_false] at e3 e4
          simp only [Ch.v, o10_0, go_ask, go_need, go_call, go_ret, go_one, go_more, Te.ev, RT.ev, TL.ev, syL, List.getD_cons_zero, List.getD_cons_succ, List.map_cons, List.map_nil, List.cons_append, List.nil_append, List.append_nil, bv_add, bv_sub, bv_mul, bv_eql, bv_neq, bv_lss, bv_leq, bv_gtr, bv_geq, bv_rem, isT_bool, natOf_int, askV_bool, needV_bool, callV_some, decide_eq_true_eq, decide_true, decide_false, Bool.not_eq_true', decide_eq_false_iff_not, selfP, Nat.reduceEqDiff, Nat.succ_ne_zero, ↓reduceIte, if_true, if_false, Bool.false_eq_true, Bool.not_true, Bool.not_false, e1, w1, g, e2, e3, w2, e4]
      by_cases g1 : r2 = 1
      · subst g1
        by_cases k0 : ks.length = 0
        · have k0' : ¬ (0 : Int) < (ks.length : Int) := by omega
          obtain ⟨i', h', a', x', y', ks', rs', XN', XL', YN', YL', e4, H4⟩ := ih (n + 1) (by omega) (h := q2) p2 H.next
          refine ⟨i', h', a', x', y', ks', rs', XN', XL', YN', YL', fin_tree trA ?_, H4⟩
          show o10_0.go _ _ _ = _
          simp only [Ch.v, go_ask, go_need, go_call, go_ret, go_one, go_more, Te.ev, RT.ev, TL.ev, syL, List.getD_cons_zero, List.getD_cons_succ, List.map_cons, List.map_nil, List.cons_append, List.nil_append, List.append_nil, bv_add, bv_sub, bv_mul, bv_eql, bv_neq, bv_lss, bv_leq, bv_gtr, bv_geq, bv_rem, isT_bool, natOf_int, askV_bool, needV_bool, callV_some, decide_eq_true_eq, decide_true, decide_false, Bool.not_eq_true', decide_eq_false_iff_not, selfP, Nat.reduceEqDiff, Nat.succ_ne_zero, ↓reduceIte, if_true, if_false, Bool.false_eq_true, Bool.not_true, Bool.not_false] at e4
          simp only [Ch.v, o10_0, go_ask, go_need, go_call, go_ret, go_one, go_more, Te.ev, RT.ev, TL.ev, syL, List.getD_cons_zero, List.getD_cons_succ, List.map_cons, List.map_nil, List.cons_append, List.nil_append, List.append_nil, bv_add, bv_sub, bv_mul, bv_eql, bv_neq, bv_lss, bv_leq, bv_gtr, bv_geq, bv_rem, isT_bool, natOf_int, askV_bool, needV_bool, callV_some, decide_eq_true_eq, decide_true, decide_false, Bool.not_eq_true', decide_eq_false_iff_not, selfP, Nat.reduceEqDiff, Nat.succ_ne_zero, ↓reduceIte, if_true, if_false, Bool.false_eq_true, Bool.not_true, Bool.not_false, e1, w1, g, g0, e2, encI_len, k0', w2, e4]
        · have k0' : (0 : Int) < (ks.length : Int) := by omega
          obtain ⟨i3, q3, r3, e3, p3, b3, c3⟩ := f_below hL hn (h := q2) (n := ks.length) p2 (by omega) (by omega)
          obtain ⟨j, rfl⟩ : ∃ j : Nat, r3 = j := ⟨r3.toNat, by omega⟩
          have hj : j < ks.length := by omega
          have hr := H.recs j ks[j] (rs[j]'(by rw [← H.lens]; exact hj)) (List.getElem?_eq_getElem hj) (List.getElem?_eq_getElem _)
          obtain ⟨o1, o2, o3⟩ := H.old _ (List.getElem_mem (l := rs) (n := j) (by rw [← H.lens]; exact hj))
          have hj0 : (0 : Int) ≤ (j : Int) := by omega
          have hj1 : (j : Int) < (ks.length : Int) := by omega
          rcases f_hear (c := y) (k := ks[j]) H.ok H.yr (by rw [H.ys]; exact hr) (by omega) o3 (by omega) with ⟨c', SN', SL', body, e5, k5, _, _⟩ | ⟨code, e5, _⟩
          · obtain ⟨i', h', a', x', y', ks', rs', XN', XL', YN', YL', e4, H4⟩ := ih (n + 1) (by omega) (h := q3) p3 (H.heard k5 o1 o2).next
            refine ⟨i', h', a', x', y', ks', rs', XN', XL', YN', YL', fin_tree trA ?_, H4⟩
            show o10_0.go _ _ _ = _
            simp only [Ch.v, go_ask, go_need, go_call, go_ret, go_one, go_more, Te.ev, RT.ev, TL.ev, syL, List.getD_cons_zero, List.getD_cons_succ, List.map_cons, List.map_nil, List.cons_append, List.nil_append, List.append_nil, bv_add, bv_sub, bv_mul, bv_eql, bv_neq, bv_lss, bv_leq, bv_gtr, bv_geq, bv_rem, isT_bool, natOf_int, askV_bool, needV_bool, callV_some, decide_eq_true_eq, decide_true, decide_false, Bool.not_eq_true', decide_eq_false_iff_not, selfP, Nat.reduceEqDiff, Nat.succ_ne_zero, ↓reduceIte, if_true, if_false, Bool.false_eq_true, Bool.not_true, Bool.not_false] at e4 e5
            simp only [Ch.v, o10_0, go_ask, go_need, go_call, go_ret, go_one, go_more, Te.ev, RT.ev, TL.ev, syL, List.getD_cons_zero, List.getD_cons_succ, List.map_cons, List.map_nil, List.cons_append, List.nil_append, List.append_nil, bv_add, bv_sub, bv_mul, bv_eql, bv_neq, bv_lss, bv_leq, bv_gtr, bv_geq, bv_rem, isT_bool, natOf_int, askV_bool, needV_bool, callV_some, decide_eq_true_eq, decide_true, decide_false, Bool.not_eq_true', decide_eq_false_iff_not, selfP, Nat.reduceEqDiff, Nat.succ_ne_zero, ↓reduceIte, if_true, if_false, Bool.false_eq_true, Bool.not_true, Bool.not_false, e1, w1, g, g0, e2, encI_len, k0', e3, hj0, hj1, Int.toNat_natCast, encI_get ks j hj, e5, w2, e4]
          · obtain ⟨i', h', a', x', y', ks', rs', XN', XL', YN', YL', e4, H4⟩ := ih (n + 1) (by omega) (h := q3) p3 H.next
            refine ⟨i', h', a', x', y', ks', rs', XN', XL', YN', YL', fin_tree trA ?_, H4⟩
            show o10_0.go _ _ _ = _
            simp only [Ch.v, go_ask, go_need, go_call, go_ret, go_one, go_more, Te.ev, RT.ev, TL.ev, syL, List.getD_cons_zero, List.getD_cons_succ, List.map_cons, List.map_nil, List.cons_append, List.nil_append, List.append_nil, bv_add, bv_sub, bv_mul, bv_eql, bv_neq, bv_lss, bv_leq, bv_gtr, bv_geq, bv_rem, isT_bool, natOf_int, askV_bool, needV_bool, callV_some, decide_eq_true_eq, decide_true, decide_false, Bool.not_eq_true', decide_eq_false_iff_not, selfP, Nat.reduceEqDiff, Nat.succ_ne_zero, ↓reduceIte, if_true, if_false, Bool.false_eq_true, Bool.not_true, Bool.not_false] at e4 e5
            simp only [Ch.v, o10_0, go_ask, go_need, go_call, go_ret, go_one, go_more, Te.ev, RT.ev, TL.ev, syL, List.getD_cons_zero, List.getD_cons_succ, List.map_cons, List.map_nil, List.cons_append, List.nil_append, List.append_nil, bv_add, bv_sub, bv_mul, bv_eql, bv_neq, bv_lss, bv_leq, bv_gtr, bv_geq, bv_rem, isT_bool, natOf_int, askV_bool, needV_bool, callV_some, decide_eq_true_eq, decide_true, decide_false, Bool.not_eq_true', decide_eq_false_iff_not, selfP, Nat.reduceEqDiff, Nat.succ_ne_zero, ↓reduceIte, if_true, if_false, Bool.false_eq_true, Bool.not_true, Bool.not_false, e1, w1, g, g0, e2, encI_len, k0', e3, hj0, hj1, Int.toNat_natCast, encI_get ks j hj, e5, w2, e4]
      by_cases g2 : r2 = 2
      · subst g2
        obtain ⟨a1, k1, e3, x1, d1⟩ := f_say (c := y) H.ok H.yr H.app (by omega)
        have l1 := x1.len
        have H1 : Two (n + 1) a1 x { y with seq := y.seq + 1 } ks rs XN XL YN YL :=
          { H.next.grow x1 (by omega) with
            yr := ⟨(H.yr.mono x1.pre).app, H.yr.side, H.yr.ep, by show y.seq + 1 ≤ 9999; omega, H.yr.heard, H.yr.now, H.yr.last⟩
            yq := by show y.seq + 1 ≤ n + 1; omega }
        have hx1 : (3 : Int) - x.side = y.side := by rw [H.xs, H.ys]; rfl
        rcases f_hear (c := x) (k := k1) (e := y.ep) (s := y.seq) x1.ok (H.xr.mono x1.pre) (by rw [hx1]; exact d1) (by omega) (by omega) (by omega) with ⟨c', SN', SL', body, e5, k5, _, _⟩ | ⟨code, e5, _⟩
        · rw [hye] at k5
          obtain ⟨i', h', a', x', y', ks', rs', XN', XL', YN', YL', e4, H4⟩ := ih (n + 1) (by omega) (h := q2) p2 (H1.heardX k5)
          refine ⟨i', h', a', x', y', ks', rs', XN', XL', YN', YL', fin_tree trA ?_, H4⟩
          show o10_0.go _ _ _ = _
          simp only [Ch.v, go_ask, go_need, go_call, go_ret, go_one, go_more, Te.ev, RT.ev, TL.ev, syL, List.getD_cons_zero, List.getD_cons_succ, List.map_cons, List.map_nil, List.cons_append, List.nil_append, List.append_nil, bv_add, bv_sub, bv_mul, bv_eql, bv_neq, bv_lss, bv_leq, bv_gtr, bv_geq, bv_rem, isT_bool, natOf_int, askV_bool, needV_bool, callV_some, decide_eq_true_eq, decide_true, decide_false, Bool.not_eq_true', decide_eq_false_iff_not, selfP, Nat.reduceEqDiff, Nat.succ_ne_zero, ↓reduceIte, if_true, if_false, Bool.false_eq_true, Bool.not_true, Bool.not_false] at e3 e4 e5
          simp only [Ch.v, o10_0, go_ask, go_need, go_call, go_ret, go_one, go_more, Te.ev, RT.ev, TL.ev, syL, List.getD_cons_zero, List.getD_cons_succ, List.map_cons, List.map_nil, List.cons_append, List.nil_append, List.append_nil, bv_add, bv_sub, bv_mul, bv_eql, bv_neq, bv_lss, bv_leq, bv_gtr, bv_geq, bv_rem, isT_bool, natOf_int, askV_bool, needV_bool, callV_some, decide_eq_true_eq, decide_true, decide_false, Bool.not_eq_true', decide_eq_false_iff_not, selfP, Nat.reduceEqDiff, Nat.succ_ne_zero, ↓reduceIte, if_true, if_false, Bool.false_eq_true, Bool.not_true, Bool.not_false, e1, w1, g, g0, g1, e2, e3, e5, w2, e4]
        · obtain ⟨i', h', a', x', y', ks', rs', XN', XL', YN', YL', e4, H4⟩ := ih (n + 1) (by omega) (h := q2) p2 H1
          refine ⟨i', h', a', x', y', ks', rs', XN', XL', YN', YL', fin_tree trA ?_, H4⟩
          show o10_0.go _ _ _ = _
          simp only [Ch.v, go_ask, go_need, go_call, go_ret, go_one, go_more, Te.ev, RT.ev, TL.ev, syL, List.getD_cons_zero, List.getD_cons_succ, List.map_cons, List.map_nil, List.cons_append, List.nil_append, List.append_nil, bv_add, bv_sub, bv_mul, bv_eql, bv_neq, bv_lss, bv_leq, bv_gtr, bv_geq, bv_rem, isT_bool, natOf_int, askV_bool, needV_bool, callV_some, decide_eq_true_eq, decide_true, decide_false, Bool.not_eq_true', decide_eq_false_iff_not, selfP, Nat.reduceEqDiff, Nat.succ_ne_zero, ↓reduceIte, if_true, if_false, Bool.false_eq_true, Bool.not_true, Bool.not_false] at e3 e4 e5
          simp only [Ch.v, o10_0, go_ask, go_need, go_call, go_ret, go_one, go_more, Te.ev, RT.ev, TL.ev, syL, List.getD_cons_zero, List.getD_cons_succ, List.map_cons, List.map_nil, List.cons_append, List.nil_append, List.append_nil, bv_add, bv_sub, bv_mul, bv_eql, bv_neq, bv_lss, bv_leq, bv_gtr, bv_geq, bv_rem, isT_bool, natOf_int, askV_bool, needV_bool, callV_some, decide_eq_true_eq, decide_true, decide_false, Bool.not_eq_true', decide_eq_false_iff_not, selfP, Nat.reduceEqDiff, Nat.succ_ne_zero, ↓reduceIte, if_true, if_false, Bool.false_eq_true, Bool.not_true, Bool.not_false, e1, w1, g, g0, g1, e2, e3, e5, w2, e4]
      · obtain ⟨a1, k1, e3, x1, d1⟩ := f_atomD (n := 100 + n) H.ok (by omega) (by omega) (by omega)
        have l1 := x1.len
        obtain ⟨a2, k2, e5, x2, d2⟩ := f_say (c := x) x1.ok (H.xr.mono x1.pre) d1 (by omega)
        have l2 := x2.len
        have H2 : Two (n + 1) a2 { x with seq := x.seq + 1 } y (ks ++ [k2]) (rs ++ [⟨x.ep, x.seq, .atom (100 + n)⟩]) XN XL YN YL :=
          { H.next.grow (x1.trans x2) (by omega) with
            xr := ⟨((H.xr.mono x1.pre).mono x2.pre).app, H.xr.side, H.xr.ep, by show x.seq + 1 ≤ 9999; omega, H.xr.heard, H.xr.now, H.xr.last⟩
            xq := by show x.seq + 1 ≤ n + 1; omega
            top := fun k => by have := H.top k; show y.nt < ((x.seq + 1 : Nat) : Int); omega
            lens := by simp [H.lens]
            few := by simp; omega
            recs := fun j k r h1 h2 => by
              rcases Nat.lt_trichotomy j ks.length with g | g | g
              · rw [List.getElem?_append_left g] at h1
                rw [List.getElem?_append_left (by rw [← H.lens]; exact g)] at h2
                exact ((H.recs j k r h1 h2).mono x1.pre).mono x2.pre
              · subst g
                rw [List.getElem?_concat_length] at h1
                rw [H.lens, List.getElem?_concat_length] at h2
                cases h1; cases h2
                have := d2
                rw [H.xs] at this
                exact this
              · rw [List.getElem?_eq_none (by simp; omega)] at h1; cases h1
            old := fun r hr => by
              rcases List.mem_append.1 hr with hr | hr
              · obtain ⟨o1, o2, o3⟩ := H.old r hr
                exact ⟨o1, fun k => by have := o2 k; show r.s < x.seq + 1; omega, o3⟩
              · simp at hr; subst hr
                exact ⟨Nat.le_refl _, fun _ => Nat.lt_succ_self _, by show x.seq ≤ 9999; omega⟩ }
        obtain ⟨i', h', a', x', y', ks', rs', XN', XL', YN', YL', e4, H4⟩ := ih (n + 1) (by omega) (h := q2) p2 H2
        refine ⟨i', h', a', x', y', ks', rs', XN', XL', YN', YL', fin_tree trA ?_, H4⟩
        show o10_0.go _ _ _ = _
        have w3 : wr (100 + (n : Int)) = 100 + (n : Int) := wr_id (by omega) (by omega)
        have q : encI ks ++ [[Value.int .i64 k2]] = encI (ks ++ [k2]) := by simp [encI]
        have g3 : ((ks ++ [k2]).length : Int) ≤ 100000000 := by simp; omega
        simp only [Ch.v, go_ask, go_need, go_call, go_ret, go_one, go_more, Te.ev, RT.ev, TL.ev, syL, List.getD_cons_zero, List.getD_cons_succ, List.map_cons, List.map_nil, List.cons_append, List.nil_append, List.append_nil, bv_add, bv_sub, bv_mul, bv_eql, bv_neq, bv_lss, bv_leq, bv_gtr, bv_geq, bv_rem, isT_bool, natOf_int, askV_bool, needV_bool, callV_some, decide_eq_true_eq, decide_true, decide_false, Bool.not_eq_true', decide_eq_false_iff_not, selfP, Nat.reduceEqDiff, Nat.succ_ne_zero, ↓reduceIte, if_true, if_false, Bool.false_eq_true, Bool.not_true, Bool.not_false] at e4 e5
        simp only [Ch.v, o10_0, go_ask, go_need, go_call, go_ret, go_one, go_more, Te.ev, RT.ev, TL.ev, syL, List.getD_cons_zero, List.getD_cons_succ, List.map_cons, List.map_nil, List.cons_append, List.nil_append, List.append_nil, bv_add, bv_sub, bv_mul, bv_eql, bv_neq, bv_lss, bv_leq, bv_gtr, bv_geq, bv_rem, isT_bool, natOf_int, askV_bool, needV_bool, callV_some, decide_eq_true_eq, decide_true, decide_false, Bool.not_eq_true', decide_eq_false_iff_not, selfP, Nat.reduceEqDiff, Nat.succ_ne_zero, ↓reduceIte, if_true, if_false, Bool.false_eq_true, Bool.not_true, Bool.not_false, e1, w1, g, g0, g1, g2, e2, w3, e3, e5, q, encI_len, g3, w2, e4]
    · refine ⟨i1, q1, a, x, y, ks, rs, XN, XL, YN, YL, fin_tree trA ?_, ?_⟩
      · show o10_0.go _ _ _ = _
        simp only [Ch.v, o10_0, go_ask, go_need, go_call, go_ret, go_one, go_more, Te.ev, RT.ev, TL.ev, syL, List.getD_cons_zero, List.getD_cons_succ, List.map_cons, List.map_nil, List.cons_append, List.nil_append, List.append_nil, bv_add, bv_sub, bv_mul, bv_eql, bv_neq, bv_lss, bv_leq, bv_gtr, bv_geq, bv_rem, isT_bool, natOf_int, askV_bool, needV_bool, callV_some, decide_eq_true_eq, decide_true, decide_false, Bool.not_eq_true', decide_eq_false_iff_not, selfP, Nat.reduceEqDiff, Nat.succ_ne_zero, ↓reduceIte, if_true, if_false, Bool.false_eq_true, Bool.not_true, Bool.not_false, e1, w1, g]
      · have hlen := H.len; have hxq := H.xq; have hyq := H.yq; have hfew := H.few
        exact { H with len := by omega, xq := by omega, yq := by omega, few := by omega }
theorem f_drawTwo {L : Rw} (hL : Cd L) (hn : L.length ≤ 2000000) : ∃ a x y ks rs XN XL YN YL, fin trA 42 [] [L] = some (0, x.v ++ y.v, [encA a, encI ks]) ∧ Two 8 a x y ks rs XN XL YN YL := by
  obtain ⟨h', e0⟩ := f_new hL hn
  have hA : AOk [] := ⟨fun i n h => by simp at h, fun i j n h => by simp at h⟩
  obtain ⟨a1, k1, e1, x1, d1⟩ := f_atomD (n := 10005) hA (by omega) (by omega) (by simp)
  have l1 := x1.len
  obtain rfl : k1 = 0 := by
    have := d1.lt; have := d1.nonneg; simp at l1; omega
  have cr : ∀ s, s = 1 ∨ s = 2 → CR a1 ⟨0, s, 0, 0, 0, -1, 0, -1, 0⟩ App (fun _ => False) (fun _ => False) := fun s hs => ⟨d1, hs, by show 0 ≤ 8; omega, by show 0 ≤ 9999; omega, by show 0 ≤ 8; omega, WR_new, WR_new⟩
  have H : Two 0 a1 ⟨0, 1, 0, 0, 0, -1, 0, -1, 0⟩ ⟨0, 2, 0, 0, 0, -1, 0, -1, 0⟩ [] [] (fun _ => False) (fun _ => False) (fun _ => False) (fun _ => False) :=
    { ok := x1.ok, len := by simpa using l1, app := d1, xr := cr 1 (.inl rfl), yr := cr 2 (.inr rfl), xa := rfl, ya := rfl, xs := rfl, ys := rfl, xe := by show 0 ≤ 1; omega, xh := rfl, xq := by show 0 ≤ 0; omega, ye := rfl, yq := by show 0 ≤ 0; omega, yh := by show 0 ≤ 0; omega, top := fun _ => by show (-1 : Int) < ((0 : Nat) : Int); omega, lens := rfl, few := by simp, recs := fun j k r h => by simp at h, old := fun r h => by cases h }
  obtain ⟨i2, h2, a2, x2, y2, ks2, rs2, XN, XL, YN, YL, e2, H2⟩ := f_two0 hL hn 8 0 (by omega) (i := 0) (h := h') (by omega) H
  refine ⟨a2, x2, y2, ks2, rs2, XN, XL, YN, YL, fin_tree trA ?_, H2⟩
  show o5.go _ _ _ = _
  have e3 : fin trA 39 [I 0, I h'] [L] = some (0, [I i2, I h2] ++ x2.v ++ y2.v, [encA a2, encI ks2]) := by
    refine fin_tree trA ?_
    show o10.go _ _ _ = _
    have c1 := f_chanNew 0 1
    have c2 := f_chanNew 0 2
    rw [show encA [] = [] from rfl] at e1
    rw [show encI [] = [] from rfl] at e2
    simp only [Ch.v, go_ask, go_need, go_call, go_ret, go_one, go_more, Te.ev, RT.ev, TL.ev, syL, List.getD_cons_zero, List.getD_cons_succ, List.map_cons, List.map_nil, List.cons_append, List.nil_append, List.append_nil, bv_add, bv_sub, bv_mul, bv_eql, bv_neq, bv_lss, bv_leq, bv_gtr, bv_geq, bv_rem, isT_bool, natOf_int, askV_bool, needV_bool, callV_some, decide_eq_true_eq, decide_true, decide_false, Bool.not_eq_true', decide_eq_false_iff_not, selfP, Nat.reduceEqDiff, Nat.succ_ne_zero, ↓reduceIte, if_true, if_false, Bool.false_eq_true, Bool.not_true, Bool.not_false, Int.ofNat_zero, Int.cast_ofNat_Int] at c1 c2 e2
    simp only [Ch.v, o10, go_ask, go_need, go_call, go_ret, go_one, go_more, Te.ev, RT.ev, TL.ev, syL, List.getD_cons_zero, List.getD_cons_succ, List.map_cons, List.map_nil, List.cons_append, List.nil_append, List.append_nil, bv_add, bv_sub, bv_mul, bv_eql, bv_neq, bv_lss, bv_leq, bv_gtr, bv_geq, bv_rem, isT_bool, natOf_int, askV_bool, needV_bool, callV_some, decide_eq_true_eq, decide_true, decide_false, Bool.not_eq_true', decide_eq_false_iff_not, selfP, Nat.reduceEqDiff, Nat.succ_ne_zero, ↓reduceIte, if_true, if_false, Bool.false_eq_true, Bool.not_true, Bool.not_false, e1, c1, c2, e2]
  simp only [Ch.v, go_ask, go_need, go_call, go_ret, go_one, go_more, Te.ev, RT.ev, TL.ev, syL, List.getD_cons_zero, List.getD_cons_succ, List.map_cons, List.map_nil, List.cons_append, List.nil_append, List.append_nil, bv_add, bv_sub, bv_mul, bv_eql, bv_neq, bv_lss, bv_leq, bv_gtr, bv_geq, bv_rem, isT_bool, natOf_int, askV_bool, needV_bool, callV_some, decide_eq_true_eq, decide_true, decide_false, Bool.not_eq_true', decide_eq_false_iff_not, selfP, Nat.reduceEqDiff, Nat.succ_ne_zero, ↓reduceIte, if_true, if_false, Bool.false_eq_true, Bool.not_true, Bool.not_false] at e3
  simp only [Ch.v, o5, go_ask, go_need, go_call, go_ret, go_one, go_more, Te.ev, RT.ev, TL.ev, syL, List.getD_cons_zero, List.getD_cons_succ, List.map_cons, List.map_nil, List.cons_append, List.nil_append, List.append_nil, bv_add, bv_sub, bv_mul, bv_eql, bv_neq, bv_lss, bv_leq, bv_gtr, bv_geq, bv_rem, isT_bool, natOf_int, askV_bool, needV_bool, callV_some, decide_eq_true_eq, decide_true, decide_false, Bool.not_eq_true', decide_eq_false_iff_not, selfP, Nat.reduceEqDiff, Nat.succ_ne_zero, ↓reduceIte, if_true, if_false, Bool.false_eq_true, Bool.not_true, Bool.not_false, e0, e3]
end
end Go.Proofs.Ytipomcnbjlfekaa.Rs
