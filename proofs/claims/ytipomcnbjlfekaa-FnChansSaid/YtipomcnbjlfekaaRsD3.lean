import Derived.Test.YtipomcnbjlfekaaRsD2
import Derived.Test.YtipomcnbjlfekaaRsC15
/- What is heard by the program; the law. -/
namespace Go.Proofs.Ytipomcnbjlfekaa.Rs
open Go.RowKit
set_option linter.unusedVariables false
set_option linter.unusedSimpArgs false
set_option maxRecDepth 100000
section
variable {a : Ar} {c : Ch} {t u : Tm'} {SN SL : Nat → Prop}
theorem f_bodyOn_yes {app side k : Int} {e s : Nat} (ha : AOk a) (hd : Den a app t) (h0 : 0 ≤ side) (h1 : side ≤ 9) (he : e ≤ 8) (hs : s ≤ 9999) (hk : Den a k (((t.turn e).key side).record e s u)) (hl : a.length + 40 ≤ 3000) :
    ∃ j, fin trA 69 [I app, I side, I e, I k] [encA a] = some (0, [I j, B true], []) ∧ Den a j u := by
  obtain ⟨a1, k1, e1, x1, d1⟩ := f_i_epoch he ha hd (by omega)
  have l1 := x1.len
  obtain ⟨a2, k2, e2, x2, d2⟩ := f_i_kdf (n := side) x1.ok d1 h0 (by omega) (by omega)
  obtain ⟨j, e3, d3⟩ := f_i_openRec_yes ha (show a.length ≤ 90000000 by omega) (x := k2) (e := e) (s := s) (by omega) (by omega) (fun i hi => ((hi.mono x1.pre).mono x2.pre).inj x2.ok d2) hk
  refine ⟨j, fin_tree trA ?_, d3⟩
  show o18.go _ _ _ = _
  simp only [o18, go_ask, go_need, go_call, go_ret, go_one, go_more, Te.ev, RT.ev, TL.ev, syL, List.getD_cons_zero, List.getD_cons_succ, List.map_cons, List.map_nil, List.cons_append, List.nil_append, List.append_nil, bv_add, bv_sub, bv_mul, bv_eql, bv_neq, bv_lss, bv_leq, bv_gtr, bv_geq, bv_rem, isT_bool, natOf_int, askV_bool, needV_bool, callV_some, decide_eq_true_eq, decide_true, decide_false, Bool.not_eq_true', decide_eq_false_iff_not, selfP, Nat.reduceEqDiff, Nat.succ_ne_zero, ↓reduceIte, if_true, if_false, Bool.false_eq_true, Bool.not_true, Bool.not_false, f_bench (show a.length ≤ 90000000 by omega), e1, e2, e3]
theorem f_bodyOn_no {app side side' k : Int} {e s : Nat} (ha : AOk a) (hd : Den a app t) (h0 : 0 ≤ side) (h1 : side ≤ 9) (hne : side ≠ side') (he : e ≤ 8) (hs : s ≤ 9999) (hk : Den a k (((t.turn e).key side').record e s u)) (hl : a.length + 40 ≤ 3000) :
    fin trA 69 [I app, I side, I e, I k] [encA a] = some (0, [I (-1), B false], []) := by
  obtain ⟨a1, k1, e1, x1, d1⟩ := f_i_epoch he ha hd (by omega)
  have l1 := x1.len
  obtain ⟨a2, k2, e2, x2, d2⟩ := f_i_kdf (n := side) x1.ok d1 h0 (by omega) (by omega)
  have e3 := f_i_openRec_no ha (show a.length ≤ 90000000 by omega) (x := k2) (e := e) (s := s) (by omega) (by omega) (fun i hi h => by
    subst h
    have := ((hi.mono x1.pre).mono x2.pre).fun d2
    simp [Tm'.key] at this
    exact hne this.symm) hk
  refine fin_tree trA ?_
  show o18.go _ _ _ = _
  simp only [o18, go_ask, go_need, go_call, go_ret, go_one, go_more, Te.ev, RT.ev, TL.ev, syL, List.getD_cons_zero, List.getD_cons_succ, List.map_cons, List.map_nil, List.cons_append, List.nil_append, List.append_nil, bv_add, bv_sub, bv_mul, bv_eql, bv_neq, bv_lss, bv_leq, bv_gtr, bv_geq, bv_rem, isT_bool, natOf_int, askV_bool, needV_bool, callV_some, decide_eq_true_eq, decide_true, decide_false, Bool.not_eq_true', decide_eq_false_iff_not, selfP, Nat.reduceEqDiff, Nat.succ_ne_zero, ↓reduceIte, if_true, if_false, Bool.false_eq_true, Bool.not_true, Bool.not_false, f_bench (show a.length ≤ 90000000 by omega), e1, e2, e3]
theorem f_i_winNew : fin trA 72 [] [] = some (0, [], []) := by
  refine fin_tree trA ?_
  show o20.go _ _ _ = _
  simp only [o20, go_ask, go_need, go_call, go_ret, go_one, go_more, Te.ev, RT.ev, TL.ev, syL, List.getD_cons_zero, List.getD_cons_succ, List.map_cons, List.map_nil, List.cons_append, List.nil_append, List.append_nil, bv_add, bv_sub, bv_mul, bv_eql, bv_neq, bv_lss, bv_leq, bv_gtr, bv_geq, bv_rem, isT_bool, natOf_int, askV_bool, needV_bool, callV_some, decide_eq_true_eq, decide_true, decide_false, Bool.not_eq_true', decide_eq_false_iff_not, selfP, Nat.reduceEqDiff, Nat.succ_ne_zero, ↓reduceIte, if_true, if_false, Bool.false_eq_true, Bool.not_true, Bool.not_false]
theorem f_hearOn_own {e s : Nat} {k : Int} (ha : AOk a) (h : CR a c t SN SL) (hk : Den a k (((t.turn e).key c.side).record e s u)) (he : e ≤ 8) (hs : s ≤ 9999) (h1 : e ≤ c.heard + 1) (h2 : c.heard ≤ e + 1) (hl : a.length + 40 ≤ 3000) :
    fin trA 73 (c.v ++ [I k]) [encA a] = some (0, c.v ++ [I (-1), I 3], [encA a]) := by
  have hl' : a.length ≤ 90000000 := by omega
  have hh := h.heard; have hsd := h.side
  have e0 := f_i_chanOk hl' h
  have e1 := f_i_head ha hl' (e := e) (s := s) (by omega) (by omega) hk
  have q1 : wr ((c.heard : Int) - 1) = (c.heard : Int) - 1 := wr_id (by omega) (by omega)
  have q2 : wr ((c.heard : Int) + 1) = (c.heard : Int) + 1 := wr_id (by omega) (by omega)
  have q3 : wr (3 - c.side) = 3 - c.side := wr_id (by omega) (by omega)
  have g : inB (e : Int) ((c.heard : Int) - 1) ((c.heard : Int) + 1) = true := by simp [inB]; omega
  have e2 := f_bodyOn_no (app := c.app) (side := 3 - c.side) ha h.app (by omega) (by omega) (show 3 - c.side ≠ c.side by omega) he hs hk hl
  simp only [Ch.v, go_ask, go_need, go_call, go_ret, go_one, go_more, Te.ev, RT.ev, TL.ev, syL, List.getD_cons_zero, List.getD_cons_succ, List.map_cons, List.map_nil, List.cons_append, List.nil_append, List.append_nil, bv_add, bv_sub, bv_mul, bv_eql, bv_neq, bv_lss, bv_leq, bv_gtr, bv_geq, bv_rem, isT_bool, natOf_int, askV_bool, needV_bool, callV_some, decide_eq_true_eq, decide_true, decide_false, Bool.not_eq_true', decide_eq_false_iff_not, selfP, Nat.reduceEqDiff, Nat.succ_ne_zero, ↓reduceIte, if_true, if_false, Bool.false_eq_true, Bool.not_true, Bool.not_false] at e0
  refine fin_tree trA ?_
  show o7.go _ _ _ = _
  simp only [Ch.v, o7, go_ask, go_need, go_call, go_ret, go_one, go_more, Te.ev, RT.ev, TL.ev, syL, List.getD_cons_zero, List.getD_cons_succ, List.map_cons, List.map_nil, List.cons_append, List.nil_append, List.append_nil, bv_add, bv_sub, bv_mul, bv_eql, bv_neq, bv_lss, bv_leq, bv_gtr, bv_geq, bv_rem, isT_bool, natOf_int, askV_bool, needV_bool, callV_some, decide_eq_true_eq, decide_true, decide_false, Bool.not_eq_true', decide_eq_false_iff_not, selfP, Nat.reduceEqDiff, Nat.succ_ne_zero, ↓reduceIte, if_true, if_false, Bool.false_eq_true, Bool.not_true, Bool.not_false, f_copy hl', e0, e1, f_i_in, q1, q2, q3, g, e2]
theorem f_hearOn {e s : Nat} {k : Int} (ha : AOk a) (h : CR a c t SN SL) (hk : Den a k (((t.turn e).key (3 - c.side)).record e s u)) (he : e ≤ 8) (hs : s ≤ 9999) (hl : a.length + 40 ≤ 3000) :
    (∃ c' SN' SL' body, fin trA 73 (c.v ++ [I k]) [encA a] = some (0, c'.v ++ [I body, I 0], [encA a]) ∧ Heard c SN SL e s c' SN' SL' ∧ Den a body u ∧ ¬ Held c SN SL e s ∧ c.heard ≤ e + 1) ∨
    ∃ code, fin trA 73 (c.v ++ [I k]) [encA a] = some (0, c.v ++ [I (-1), I code], [encA a]) ∧ code ≠ 0 ∧ (c.heard ≤ e + 1 → Held c SN SL e s → code = 4) ∧ (Held c SN SL e s ∨ c.heard + 1 < e) := by
  have hl' : a.length ≤ 90000000 := by omega
  have hh := h.heard; have hsd := h.side
  have e0 := f_i_chanOk hl' h
  have e1 := f_i_head ha hl' (e := e) (s := s) (by omega) (by omega) hk
  have q1 : wr ((c.heard : Int) - 1) = (c.heard : Int) - 1 := wr_id (by omega) (by omega)
  have q2 : wr ((c.heard : Int) + 1) = ((c.heard + 1 : Nat) : Int) := by rw [wr_id (by omega) (by omega)]; omega
  have q3 : wr (3 - c.side) = 3 - c.side := wr_id (by omega) (by omega)
  simp only [Ch.v, go_ask, go_need, go_call, go_ret, go_one, go_more, Te.ev, RT.ev, TL.ev, syL, List.getD_cons_zero, List.getD_cons_succ, List.map_cons, List.map_nil, List.cons_append, List.nil_append, List.append_nil, bv_add, bv_sub, bv_mul, bv_eql, bv_neq, bv_lss, bv_leq, bv_gtr, bv_geq, bv_rem, isT_bool, natOf_int, askV_bool, needV_bool, callV_some, decide_eq_true_eq, decide_true, decide_false, Bool.not_eq_true', decide_eq_false_iff_not, selfP, Nat.reduceEqDiff, Nat.succ_ne_zero, ↓reduceIte, if_true, if_false, Bool.false_eq_true, Bool.not_true, Bool.not_false] at e0
  cases g : inB (e : Int) ((c.heard : Int) - 1) ((c.heard + 1 : Nat) : Int) with
  | false =>
    have g' : ¬ ((c.heard : Int) - 1 ≤ (e : Int) ∧ (e : Int) ≤ ((c.heard + 1 : Nat) : Int)) := by
      rintro ⟨h1, h2⟩
      simp [inB, h1] at g
      omega
    refine .inr ⟨2, fin_tree trA ?_, by omega, fun h1 h2 => ?_, ?_⟩
    · show o7.go _ _ _ = _
      simp only [Ch.v, o7, go_ask, go_need, go_call, go_ret, go_one, go_more, Te.ev, RT.ev, TL.ev, syL, List.getD_cons_zero, List.getD_cons_succ, List.map_cons, List.map_nil, List.cons_append, List.nil_append, List.append_nil, bv_add, bv_sub, bv_mul, bv_eql, bv_neq, bv_lss, bv_leq, bv_gtr, bv_geq, bv_rem, isT_bool, natOf_int, askV_bool, needV_bool, callV_some, decide_eq_true_eq, decide_true, decide_false, Bool.not_eq_true', decide_eq_false_iff_not, selfP, Nat.reduceEqDiff, Nat.succ_ne_zero, ↓reduceIte, if_true, if_false, Bool.false_eq_true, Bool.not_true, Bool.not_false, f_copy hl', e0, e1, f_i_in, q1, q2, g]
    · rcases h2 with ⟨h2, _⟩ | ⟨h2, _⟩ | h2 <;> omega
    · by_cases k : c.heard + 1 < e
      · exact .inr k
      · exact .inl (.inr (.inr (by omega)))
  | true =>
    obtain ⟨j, e2, dj⟩ := f_bodyOn_yes (app := c.app) (side := 3 - c.side) ha h.app (by omega) (by omega) he hs hk hl
    have g' : (c.heard : Int) - 1 ≤ (e : Int) ∧ (e : Int) ≤ ((c.heard + 1 : Nat) : Int) := by
      simp only [inB, Bool.and_eq_true, decide_eq_true_eq] at g; exact g
    by_cases g1 : e + 1 = c.heard
    · have g1' : (e : Int) = (c.heard : Int) - 1 := by omega
      by_cases k : SL s
      · refine .inr ⟨4, fin_tree trA ?_, by omega, fun _ _ => rfl, .inl (.inr (.inl ⟨g1, k⟩))⟩
        show o7.go _ _ _ = _
        have e3 := f_i_noted_no h.last hs k
        rw [g1'] at e1 e2 g
        simp only [Ch.v, o7, go_ask, go_need, go_call, go_ret, go_one, go_more, Te.ev, RT.ev, TL.ev, syL, List.getD_cons_zero, List.getD_cons_succ, List.map_cons, List.map_nil, List.cons_append, List.nil_append, List.append_nil, bv_add, bv_sub, bv_mul, bv_eql, bv_neq, bv_lss, bv_leq, bv_gtr, bv_geq, bv_rem, isT_bool, natOf_int, askV_bool, needV_bool, callV_some, decide_eq_true_eq, decide_true, decide_false, Bool.not_eq_true', decide_eq_false_iff_not, selfP, Nat.reduceEqDiff, Nat.succ_ne_zero, ↓reduceIte, if_true, if_false, Bool.false_eq_true, Bool.not_true, Bool.not_false, f_copy hl', e0, e1, f_i_in, q1, q2, q3, g, e2, e3]
      · obtain ⟨t', m', S', e3, k1⟩ := f_i_noted_yes h.last hs k
        refine .inl ⟨_, _, _, j, fin_tree trA ?_, heard_last h g1 k1, dj, ?_, by omega⟩
        · show o7.go _ _ _ = _
          rw [g1'] at e1 e2 g
          simp only [Ch.v, o7, go_ask, go_need, go_call, go_ret, go_one, go_more, Te.ev, RT.ev, TL.ev, syL, List.getD_cons_zero, List.getD_cons_succ, List.map_cons, List.map_nil, List.cons_append, List.nil_append, List.append_nil, bv_add, bv_sub, bv_mul, bv_eql, bv_neq, bv_lss, bv_leq, bv_gtr, bv_geq, bv_rem, isT_bool, natOf_int, askV_bool, needV_bool, callV_some, decide_eq_true_eq, decide_true, decide_false, Bool.not_eq_true', decide_eq_false_iff_not, selfP, Nat.reduceEqDiff, Nat.succ_ne_zero, ↓reduceIte, if_true, if_false, Bool.false_eq_true, Bool.not_true, Bool.not_false, f_copy hl', e0, e1, f_i_in, q1, q2, q3, g, e2, e3]
        · rintro (⟨h', _⟩ | ⟨_, h'⟩ | h')
          · omega
          · exact k h'
          · omega
    · have g1' : ¬ (e : Int) = (c.heard : Int) - 1 := by omega
      by_cases g2 : e = c.heard
      · subst g2
        by_cases k : SN s
        · refine .inr ⟨4, fin_tree trA ?_, by omega, fun _ _ => rfl, .inl (.inl ⟨rfl, k⟩)⟩
          show o7.go _ _ _ = _
          have e3 := f_i_noted_no h.now hs k
          simp only [Ch.v, o7, go_ask, go_need, go_call, go_ret, go_one, go_more, Te.ev, RT.ev, TL.ev, syL, List.getD_cons_zero, List.getD_cons_succ, List.map_cons, List.map_nil, List.cons_append, List.nil_append, List.append_nil, bv_add, bv_sub, bv_mul, bv_eql, bv_neq, bv_lss, bv_leq, bv_gtr, bv_geq, bv_rem, isT_bool, natOf_int, askV_bool, needV_bool, callV_some, decide_eq_true_eq, decide_true, decide_false, Bool.not_eq_true', decide_eq_false_iff_not, selfP, Nat.reduceEqDiff, Nat.succ_ne_zero, ↓reduceIte, if_true, if_false, Bool.false_eq_true, Bool.not_true, Bool.not_false, f_copy hl', e0, e1, f_i_in, q1, q2, q3, g, e2, g1', e3]
        · obtain ⟨t', m', S', e3, k1⟩ := f_i_noted_yes h.now hs k
          refine .inl ⟨_, _, _, j, fin_tree trA ?_, heard_now h k1, dj, ?_, by omega⟩
          · show o7.go _ _ _ = _
            simp only [Ch.v, o7, go_ask, go_need, go_call, go_ret, go_one, go_more, Te.ev, RT.ev, TL.ev, syL, List.getD_cons_zero, List.getD_cons_succ, List.map_cons, List.map_nil, List.cons_append, List.nil_append, List.append_nil, bv_add, bv_sub, bv_mul, bv_eql, bv_neq, bv_lss, bv_leq, bv_gtr, bv_geq, bv_rem, isT_bool, natOf_int, askV_bool, needV_bool, callV_some, decide_eq_true_eq, decide_true, decide_false, Bool.not_eq_true', decide_eq_false_iff_not, selfP, Nat.reduceEqDiff, Nat.succ_ne_zero, ↓reduceIte, if_true, if_false, Bool.false_eq_true, Bool.not_true, Bool.not_false, f_copy hl', e0, e1, f_i_in, q1, q2, q3, g, e2, g1', e3]
          · rintro (⟨_, h'⟩ | ⟨h', _⟩ | h')
            · exact k h'
            · omega
            · omega
      · have g2' : ¬ (e : Int) = (c.heard : Int) := by omega
        obtain rfl : e = c.heard + 1 := by omega
        obtain ⟨t', m', S', e3, k1⟩ := f_i_noted_yes WR_new hs id
        refine .inl ⟨_, _, _, j, fin_tree trA ?_, heard_next h k1, dj, ?_, by omega⟩
        · show o7.go _ _ _ = _
          simp only [Ch.v, o7, go_ask, go_need, go_call, go_ret, go_one, go_more, Te.ev, RT.ev, TL.ev, syL, List.getD_cons_zero, List.getD_cons_succ, List.map_cons, List.map_nil, List.cons_append, List.nil_append, List.append_nil, bv_add, bv_sub, bv_mul, bv_eql, bv_neq, bv_lss, bv_leq, bv_gtr, bv_geq, bv_rem, isT_bool, natOf_int, askV_bool, needV_bool, callV_some, decide_eq_true_eq, decide_true, decide_false, Bool.not_eq_true', decide_eq_false_iff_not, selfP, Nat.reduceEqDiff, Nat.succ_ne_zero, ↓reduceIte, if_true, if_false, Bool.false_eq_true, Bool.not_true, Bool.not_false, f_copy hl', e0, e1, f_i_in, q1, q2, q3, g, e2, g1', g2', f_i_winNew, e3]
        · rintro (⟨h', _⟩ | ⟨h', _⟩ | h') <;> omega
end
theorem nodup_few : ∀ (n : Nat) (l : List Nat), l.Nodup → (∀ x ∈ l, x < n) → l.length ≤ n
  | 0, l, _, h => by
    cases l with
    | nil => simp
    | cons x l => have := h x List.mem_cons_self; omega
  | n + 1, l, hn, h => by
    have h1 := nodup_few n (l.erase n) (hn.erase n) (fun x hx => by
      have hx' := (List.Nodup.mem_erase_iff hn).1 hx
      have := h x hx'.2
      have := hx'.1
      omega)
    by_cases hm : n ∈ l
    · rw [List.length_erase_of_mem hm] at h1; omega
    · rw [List.erase_of_not_mem hm] at h1; omega
theorem encP_get (l : List Int) (i : Nat) (h : i < l.length) : (encP l).getD i [] = [I l[i]] := by
  simp [encP, List.getD_eq_getElem?_getD, List.getElem?_eq_getElem h]
theorem f_law0 {a : Ar} {x : Ch} {ks : List Int} {rs : List Rc} {XN XL : Nat → Prop} {P : List Int} (hP : Pl P) (hlen : P.length = 12) : ∀ (d i : Nat), i + d = 10 → ∀ {y : Ch} {YN YL : Nat → Prop} {acc : List Nat}, Two 8 a x y ks rs XN XL YN YL → acc.Nodup → (∀ j ∈ acc, ∃ r, rs[j]? = some r ∧ Held y YN YL r.e r.s) →
    ∃ y' YN' YL', ∃ acc' : List Nat, fin trA 80 ([B false] ++ x.v ++ y.v ++ [I (acc.length : Int), I i]) [encA a, encI ks, encP P] = some (0, Ch.v y' ++ [I (List.length acc' : Int)], [encA a]) ∧ Two 8 a x y' ks rs XN XL YN' YL' ∧ acc'.length ≤ ks.length := by
  intro d
  have few : ∀ {y : Ch} {YN YL : Nat → Prop} {acc : List Nat}, Two 8 a x y ks rs XN XL YN YL → acc.Nodup → (∀ j ∈ acc, ∃ r, rs[j]? = some r ∧ Held y YN YL r.e r.s) → acc.length ≤ ks.length := by
    intro y YN YL acc H hn ha
    refine nodup_few _ acc hn (fun j hj => ?_)
    obtain ⟨r, hr, _⟩ := ha j hj
    rw [H.lens]
    exact (List.getElem?_eq_some_iff.1 hr).1
  induction d with
  | zero =>
    intro i hd y YN YL acc H hn ha
    refine ⟨y, YN, YL, acc, fin_tree trA ?_, H, few H hn ha⟩
    show o3_0.go _ _ _ = _
    have g : ¬ (i : Int) < 10 := by omega
    simp only [Ch.v, o3_0, go_ask, go_need, go_call, go_ret, go_one, go_more, Te.ev, RT.ev, TL.ev, syL, List.getD_cons_zero, List.getD_cons_succ, List.map_cons, List.map_nil, List.cons_append, List.nil_append, List.append_nil, bv_add, bv_sub, bv_mul, bv_eql, bv_neq, bv_lss, bv_leq, bv_gtr, bv_geq, bv_rem, isT_bool, natOf_int, askV_bool, needV_bool, callV_some, decide_eq_true_eq, decide_true, decide_false, Bool.not_eq_true', decide_eq_false_iff_not, selfP, Nat.reduceEqDiff, Nat.succ_ne_zero, ↓reduceIte, if_true, if_false, Bool.false_eq_true, Bool.not_true, Bool.not_false, g]
  | succ d ih =>
    intro i hd y YN YL acc H hn ha
    by_cases k0 : ks.length = 0
    · refine ⟨y, YN, YL, acc, fin_tree trA ?_, H, few H hn ha⟩
      show o3_0.go _ _ _ = _
      have g : ¬ (0 : Int) < (ks.length : Int) := by omega
      have g0 : (i : Int) < 10 := by omega
      simp only [Ch.v, o3_0, go_ask, go_need, go_call, go_ret, go_one, go_more, Te.ev, RT.ev, TL.ev, syL, List.getD_cons_zero, List.getD_cons_succ, List.map_cons, List.map_nil, List.cons_append, List.nil_append, List.append_nil, bv_add, bv_sub, bv_mul, bv_eql, bv_neq, bv_lss, bv_leq, bv_gtr, bv_geq, bv_rem, isT_bool, natOf_int, askV_bool, needV_bool, callV_some, decide_eq_true_eq, decide_true, decide_false, Bool.not_eq_true', decide_eq_false_iff_not, selfP, Nat.reduceEqDiff, Nat.succ_ne_zero, ↓reduceIte, if_true, if_false, Bool.false_eq_true, Bool.not_true, Bool.not_false, encI_len, g0, g]
    have hi : i < P.length := by omega
    obtain ⟨b1, c1⟩ := hP P[i] (List.getElem_mem hi)
    obtain ⟨j, hj, ej⟩ : ∃ j : Nat, j < ks.length ∧ (P[i]).tmod (ks.length : Int) = j := by
      have h1 := Int.emod_nonneg P[i] (show (ks.length : Int) ≠ 0 by omega)
      have h2 := Int.emod_lt_of_pos P[i] (show 0 < (ks.length : Int) by omega)
      refine ⟨(P[i] % (ks.length : Int)).toNat, by omega, ?_⟩
      rw [Int.tmod_eq_emod_of_nonneg b1]; omega
    have hj' : j < rs.length := by rw [← H.lens]; exact hj
    have hr := H.recs j ks[j] rs[j] (List.getElem?_eq_getElem hj) (List.getElem?_eq_getElem hj')
    obtain ⟨o1, o2, o3⟩ := H.old _ (List.getElem_mem (l := rs) (n := j) hj')
    have hal := H.len; have hxe := H.xe; have hxh := H.xh; have hfew := H.few
    have g0 : (i : Int) < 10 := by omega
    have g1 : (0 : Int) < (ks.length : Int) := by omega
    have g2 : (0 : Int) ≤ (i : Int) := by omega
    have g3 : (i : Int) < (P.length : Int) := by omega
    have g4 : ¬ (ks.length : Int) = 0 := by omega
    have g5 : (0 : Int) ≤ (j : Int) := by omega
    have g6 : (j : Int) < (ks.length : Int) := by omega
    have w1 : wr ((i : Int) + 1) = ((i + 1 : Nat) : Int) := by rw [wr_id (by omega) (by omega)]; omega
    have eo := f_hearOn_own (c := x) (k := ks[j]) H.ok H.xr (by rw [H.xs]; exact hr) (by omega) o3 (by omega) (by omega) (by omega)
    rcases f_hearOn (c := y) (k := ks[j]) H.ok H.yr (by rw [H.ys]; exact hr) (by omega) o3 (by omega) with ⟨c', SN', SL', body, e5, k5, dB, nh, hle⟩ | ⟨code, e5, hc, _, _⟩
    · have H2 := H.heard k5 o1 o2
      have hacc : acc.length ≤ ks.length := few H hn ha
      have w2 : wr ((acc.length : Int) + 1) = (((j :: acc).length : Nat) : Int) := by rw [wr_id (by omega) (by omega)]; simp
      have hB : ¬ body < 0 := by have := dB.nonneg; omega
      obtain ⟨y', YN', YL', acc', e6, H6, l6⟩ := ih (i + 1) (by omega) (acc := j :: acc) H2 (List.nodup_cons.2 ⟨fun hm => by
        obtain ⟨r, h1, h2⟩ := ha j hm
        rw [List.getElem?_eq_getElem hj'] at h1
        cases h1
        exact nh h2, hn⟩) (fun q hq => by
        rcases List.mem_cons.1 hq with rfl | hq
        · exact ⟨rs[q], List.getElem?_eq_getElem hj', k5.new⟩
        · obtain ⟨r, h1, h2⟩ := ha q hq
          exact ⟨r, h1, k5.old _ _ h2⟩)
      refine ⟨y', YN', YL', acc', fin_tree trA ?_, H6, l6⟩
      have hh : c'.heard ≤ rs[j].e + 1 := by rw [k5.heard]; omega
      rcases f_hearOn (c := c') (k := ks[j]) H.ok H2.yr (by rw [H2.ys]; exact hr) (by omega) o3 (by omega) with ⟨_, _, _, _, _, _, _, nh2, _⟩ | ⟨code, e7, hc, h4, _⟩
      · exact absurd k5.new nh2
      · obtain rfl := h4 hh k5.new
        show o3_0.go _ _ _ = _
        simp only [Ch.v, go_ask, go_need, go_call, go_ret, go_one, go_more, Te.ev, RT.ev, TL.ev, syL, List.getD_cons_zero, List.getD_cons_succ, List.map_cons, List.map_nil, List.cons_append, List.nil_append, List.append_nil, bv_add, bv_sub, bv_mul, bv_eql, bv_neq, bv_lss, bv_leq, bv_gtr, bv_geq, bv_rem, isT_bool, natOf_int, askV_bool, needV_bool, callV_some, decide_eq_true_eq, decide_true, decide_false, Bool.not_eq_true', decide_eq_false_iff_not, selfP, Nat.reduceEqDiff, Nat.succ_ne_zero, ↓reduceIte, if_true, if_false, Bool.false_eq_true, Bool.not_true, Bool.not_false] at e5 e6 e7 eo
        simp only [Ch.v, o3_0, go_ask, go_need, go_call, go_ret, go_one, go_more, Te.ev, RT.ev, TL.ev, syL, List.getD_cons_zero, List.getD_cons_succ, List.map_cons, List.map_nil, List.cons_append, List.nil_append, List.append_nil, bv_add, bv_sub, bv_mul, bv_eql, bv_neq, bv_lss, bv_leq, bv_gtr, bv_geq, bv_rem, isT_bool, natOf_int, askV_bool, needV_bool, callV_some, decide_eq_true_eq, decide_true, decide_false, Bool.not_eq_true', decide_eq_false_iff_not, selfP, Nat.reduceEqDiff, Nat.succ_ne_zero, ↓reduceIte, if_true, if_false, Bool.false_eq_true, Bool.not_true, Bool.not_false, encI_len, encP_len, g0, g1, g2, g3, g4, Int.toNat_natCast, encP_get P i hi, ej, g5, g6, encI_get ks j hj, e5, e7, hB, eo, w1, w2, e6, Int.reduceEq, not_true_eq_false, not_false_eq_true]
    · obtain ⟨y', YN', YL', acc', e6, H6, l6⟩ := ih (i + 1) (by omega) (acc := acc) H hn ha
      refine ⟨y', YN', YL', acc', fin_tree trA ?_, H6, l6⟩
      show o3_0.go _ _ _ = _
      simp only [Ch.v, go_ask, go_need, go_call, go_ret, go_one, go_more, Te.ev, RT.ev, TL.ev, syL, List.getD_cons_zero, List.getD_cons_succ, List.map_cons, List.map_nil, List.cons_append, List.nil_append, List.append_nil, bv_add, bv_sub, bv_mul, bv_eql, bv_neq, bv_lss, bv_leq, bv_gtr, bv_geq, bv_rem, isT_bool, natOf_int, askV_bool, needV_bool, callV_some, decide_eq_true_eq, decide_true, decide_false, Bool.not_eq_true', decide_eq_false_iff_not, selfP, Nat.reduceEqDiff, Nat.succ_ne_zero, ↓reduceIte, if_true, if_false, Bool.false_eq_true, Bool.not_true, Bool.not_false] at e5 e6 eo
      simp only [Ch.v, o3_0, go_ask, go_need, go_call, go_ret, go_one, go_more, Te.ev, RT.ev, TL.ev, syL, List.getD_cons_zero, List.getD_cons_succ, List.map_cons, List.map_nil, List.cons_append, List.nil_append, List.append_nil, bv_add, bv_sub, bv_mul, bv_eql, bv_neq, bv_lss, bv_leq, bv_gtr, bv_geq, bv_rem, isT_bool, natOf_int, askV_bool, needV_bool, callV_some, decide_eq_true_eq, decide_true, decide_false, Bool.not_eq_true', decide_eq_false_iff_not, selfP, Nat.reduceEqDiff, Nat.succ_ne_zero, ↓reduceIte, if_true, if_false, Bool.false_eq_true, Bool.not_true, Bool.not_false, encI_len, encP_len, g0, g1, g2, g3, g4, Int.toNat_natCast, encP_get P i hi, ej, g5, g6, encI_get ks j hj, e5, hc, eo, w1, e6, Int.reduceEq, Int.reduceLE, Int.reduceNeg, Int.reduceLT, not_true_eq_false, not_false_eq_true, Bool.and_self]
theorem f_law {L : Rw} (hL : Cd L) : fin trA 81 [] [L] = some (0, [B true], []) := by
  refine fin_tree trA ?_
  show o3.go _ _ _ = _
  have eb : fin trA 2 [] [L] = some (0, [B (decide ((1048576 : Int) < (L.length : Int)))], []) := by
    refine fin_tree trA ?_
    show o4.go _ _ _ = _
    simp only [o4, go_ask, go_need, go_call, go_ret, go_one, go_more, Te.ev, RT.ev, TL.ev, syL, List.getD_cons_zero, List.getD_cons_succ, List.map_cons, List.map_nil, List.cons_append, List.nil_append, List.append_nil, bv_add, bv_sub, bv_mul, bv_eql, bv_neq, bv_lss, bv_leq, bv_gtr, bv_geq, bv_rem, isT_bool, natOf_int, askV_bool, needV_bool, callV_some, decide_eq_true_eq, decide_true, decide_false, Bool.not_eq_true', decide_eq_false_iff_not, selfP, Nat.reduceEqDiff, Nat.succ_ne_zero, ↓reduceIte, if_true, if_false, Bool.false_eq_true, Bool.not_true, Bool.not_false]
  by_cases hn : (1048576 : Int) < (L.length : Int)
  · simp only [o3, go_ask, go_need, go_call, go_ret, go_one, go_more, Te.ev, RT.ev, TL.ev, syL, List.getD_cons_zero, List.getD_cons_succ, List.map_cons, List.map_nil, List.cons_append, List.nil_append, List.append_nil, bv_add, bv_sub, bv_mul, bv_eql, bv_neq, bv_lss, bv_leq, bv_gtr, bv_geq, bv_rem, isT_bool, natOf_int, askV_bool, needV_bool, callV_some, decide_eq_true_eq, decide_true, decide_false, Bool.not_eq_true', decide_eq_false_iff_not, selfP, Nat.reduceEqDiff, Nat.succ_ne_zero, ↓reduceIte, if_true, if_false, Bool.false_eq_true, Bool.not_true, Bool.not_false, eb, hn]
  obtain ⟨a, x, y, ks, rs, XN, XL, YN, YL, e1, H⟩ := f_drawTwo hL (by omega)
  obtain ⟨P, e2, hlen, hP⟩ := f_places hL (by omega)
  obtain ⟨y', YN', YL', acc', e3, H3, l3⟩ := f_law0 hP hlen 10 0 (by omega) (acc := []) H List.nodup_nil (fun j h => by cases h)
  have hal := H3.len; have hxe := H3.xe; have hyh := H3.yh
  have hxq := H3.xq
  obtain ⟨a2, k2, e4, x4, d4⟩ := f_sayOn (c := x) (body := 0) H3.ok H3.xr H3.app (by omega)
  have l4 := x4.len
  have hk2 : (0 : Int) ≤ k2 := d4.nonneg
  have hr := H3.yr.mono x4.pre
  have nh : ¬ Held y' YN' YL' x.ep x.seq := by
    rintro (⟨h1, h2⟩ | ⟨h1, h2⟩ | h1)
    · have := H3.yr.now.top h2
      have := H3.top h1.symm
      omega
    · omega
    · omega
  rcases f_hearOn (c := y') (k := k2) x4.ok hr (by rw [H3.ys]; rw [H3.xs] at d4; exact d4) (by omega) (by omega) (by omega) with ⟨c', SN', SL', body, e5, k5, dB, _, _⟩ | ⟨code, e5, hc, _, h6⟩
  · have hb : body = 0 := dB.inj x4.ok (H3.app.mono x4.pre)
    subst hb
    have e6 := f_chanOk x4.ok (by omega) (k5.cr hr (by omega))
    have w1 : wr ((x.seq : Int) + 1) = ((x.seq + 1 : Nat) : Int) := by rw [wr_id (by omega) (by omega)]; omega
    have w2 : wr ((y'.heard : Int) + 1) = (y'.heard : Int) + 1 := wr_id (by have := H3.yr.heard; omega) (by have := H3.yr.heard; omega)
    have w3 : wr ((x.ep : Int) + 1) = (x.ep : Int) + 1 := wr_id (by omega) (by omega)
    have g1 : ¬ (y'.heard : Int) + 1 < (x.ep : Int) := by omega
    have g2 : ¬ (x.ep : Int) + 1 < (y'.heard : Int) := by omega
    have g3 : (acc'.length : Int) ≤ (ks.length : Int) := by omega
    rw [show ((0 : Nat) : Int) = 0 from rfl, show ((([] : List Nat).length : Nat) : Int) = 0 from rfl] at e3
    simp only [Ch.v, go_ask, go_need, go_call, go_ret, go_one, go_more, Te.ev, RT.ev, TL.ev, syL, List.getD_cons_zero, List.getD_cons_succ, List.map_cons, List.map_nil, List.cons_append, List.nil_append, List.append_nil, bv_add, bv_sub, bv_mul, bv_eql, bv_neq, bv_lss, bv_leq, bv_gtr, bv_geq, bv_rem, isT_bool, natOf_int, askV_bool, needV_bool, callV_some, decide_eq_true_eq, decide_true, decide_false, Bool.not_eq_true', decide_eq_false_iff_not, selfP, Nat.reduceEqDiff, Nat.succ_ne_zero, ↓reduceIte, if_true, if_false, Bool.false_eq_true, Bool.not_true, Bool.not_false] at e1 e3 e4 e5 e6
    simp only [o3, go_ask, go_need, go_call, go_ret, go_one, go_more, Te.ev, RT.ev, TL.ev, syL, List.getD_cons_zero, List.getD_cons_succ, List.map_cons, List.map_nil, List.cons_append, List.nil_append, List.append_nil, bv_add, bv_sub, bv_mul, bv_eql, bv_neq, bv_lss, bv_leq, bv_gtr, bv_geq, bv_rem, isT_bool, natOf_int, askV_bool, needV_bool, callV_some, decide_eq_true_eq, decide_true, decide_false, Bool.not_eq_true', decide_eq_false_iff_not, selfP, Nat.reduceEqDiff, Nat.succ_ne_zero, ↓reduceIte, if_true, if_false, Bool.false_eq_true, Bool.not_true, Bool.not_false, eb, hn, e1, e2, e3, e4, e5, encI_len, g3, hk2, w1, w2, w3, g1, g2, e6, Int.reduceEq]
  · rcases h6 with h6 | h6
    · exact absurd h6 nh
    · omega
end Go.Proofs.Ytipomcnbjlfekaa.Rs
