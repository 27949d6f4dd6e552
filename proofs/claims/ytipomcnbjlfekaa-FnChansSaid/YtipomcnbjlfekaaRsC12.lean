import Derived.Test.YtipomcnbjlfekaaRsC11
/- Windows: what is noted. -/
namespace Go.Proofs.Ytipomcnbjlfekaa.Rs
open Go.RowKit
set_option linter.unusedVariables false
set_option linter.unusedSimpArgs false
set_option maxRecDepth 100000
theorem f_noted_no {top seen : Int} {S : Nat → Prop} (h : WR top seen S) {s : Nat} (hs : s ≤ 9999) (hS : S s) : fin trA 31 [I top, I seen, I s] [] = some (0, [I top, I seen, B false], []) := by
  obtain ⟨b, e1, hb⟩ := f_fresh h hs
  have : b = false := by cases b; rfl; exact absurd hS (hb.1 rfl)
  subst this
  refine fin_tree trA ?_
  show o65.go _ _ _ = _
  simp only [o65, go_ask, go_need, go_call, go_ret, go_one, go_more, Te.ev, RT.ev, TL.ev, syL, List.getD_cons_zero, List.getD_cons_succ, List.map_cons, List.map_nil, List.cons_append, List.nil_append, List.append_nil, bv_add, bv_sub, bv_mul, bv_eql, bv_neq, bv_lss, bv_leq, bv_gtr, bv_geq, bv_rem, isT_bool, natOf_int, askV_bool, needV_bool, callV_some, decide_eq_true_eq, decide_true, decide_false, Bool.not_eq_true', decide_eq_false_iff_not, selfP, Nat.reduceEqDiff, Nat.succ_ne_zero, ↓reduceIte, if_true, if_false, e1, Bool.not_false]
/-- What is noted: it is held, and what was held stays so. -/
structure Noted (top : Int) (S : Nat → Prop) (s : Nat) (top' seen' : Int) (S' : Nat → Prop) : Prop where
  ok : WR top' seen' S'
  top : top' = max top s
  new : S' s
  old : ∀ r, S r → S' r
theorem noted_set {t m s : Nat} (h1 : t ≤ 9999) (h2 : m < 65536) (h3 : m < 2 ^ (t + 1)) (h4 : m % 2 = 1) (hst : s ≤ t) (hb : t - s < 16) {S : Nat → Prop} (hS : ∀ r, S r ↔ r ≤ t ∧ (16 ≤ t - r ∨ m.testBit (t - r) = true)) :
    Noted t S s t ((m ||| 2 ^ (t - s) : Nat) : Int) (fun r => r ≤ t ∧ (16 ≤ t - r ∨ (m ||| 2 ^ (t - s)).testBit (t - r) = true)) := by
  refine ⟨.inr ⟨t, _, rfl, rfl, h1, ?_, ?_, ?_, fun r => Iff.rfl⟩, by omega, ⟨hst, .inr ?_⟩, fun r hr => ?_⟩
  · exact Nat.or_lt_two_pow (n := 16) h2 (Nat.pow_lt_pow_right (by omega) (by omega))
  · exact Nat.or_lt_two_pow h3 (Nat.pow_lt_pow_right (by omega) (by omega))
  · have : (m ||| 2 ^ (t - s)).testBit 0 = true := by rw [Nat.testBit_or, Nat.testBit_zero, h4]; simp
    rw [Nat.testBit_zero] at this
    simpa using this
  · rw [Nat.testBit_or, Nat.testBit_two_pow_self]; simp
  · obtain ⟨a, b⟩ := (hS r).1 hr
    refine ⟨a, b.imp id fun b => ?_⟩
    rw [Nat.testBit_or, b]; rfl
theorem noted_on {t m s : Nat} (h2 : m < 65536) (hst : t < s) (hs : s ≤ 9999) (hb : s - t < 16) {S : Nat → Prop} (hS : ∀ r, S r ↔ r ≤ t ∧ (16 ≤ t - r ∨ m.testBit (t - r) = true)) (hm : m < 2 ^ (t + 1)) :
    Noted t S s s (((m * 2 ^ (s - t) &&& 65535) ||| 1 : Nat) : Int) (fun r => r ≤ s ∧ (16 ≤ s - r ∨ ((m * 2 ^ (s - t) &&& 65535) ||| 1).testBit (s - r) = true)) := by
  have hx : m * 2 ^ (s - t) &&& 65535 ≤ 65535 := Nat.and_le_right
  have hy : m * 2 ^ (s - t) &&& 65535 ≤ m * 2 ^ (s - t) := Nat.and_le_left
  have hz : m * 2 ^ (s - t) < 2 ^ (s + 1) := by
    have : m * 2 ^ (s - t) < 2 ^ (t + 1) * 2 ^ (s - t) := Nat.mul_lt_mul_of_pos_right hm (Nat.two_pow_pos _)
    rwa [← Nat.pow_add, show t + 1 + (s - t) = s + 1 by omega] at this
  refine ⟨.inr ⟨s, _, rfl, rfl, hs, ?_, ?_, ?_, fun r => Iff.rfl⟩, by omega, ⟨by omega, .inr ?_⟩, fun r hr => ?_⟩
  · exact Nat.or_lt_two_pow (n := 16) (by omega) (by omega)
  · exact Nat.or_lt_two_pow (by omega) (Nat.one_lt_two_pow (by omega))
  · have : ((m * 2 ^ (s - t) &&& 65535) ||| 1).testBit 0 = true := by rw [Nat.testBit_or]; simp
    rw [Nat.testBit_zero] at this
    simp
  · rw [Nat.sub_self, Nat.testBit_or]; simp
  · obtain ⟨a, b⟩ := (hS r).1 hr
    refine ⟨by omega, ?_⟩
    by_cases g : 16 ≤ s - r
    · exact .inl g
    · right
      rcases b with b | b
      · omega
      · rw [Nat.testBit_or, Nat.testBit_and, ← Nat.shiftLeft_eq, Nat.testBit_shiftLeft, show s - r - (s - t) = t - r by omega, b, show (65535 : Nat) = 2 ^ 16 - 1 by rfl, Nat.testBit_two_pow_sub_one]
        simp; omega
theorem noted_far {t s : Nat} (hst : t < s) (hs : s ≤ 9999) (hb : 16 ≤ s - t) {S : Nat → Prop} (hS : ∀ r, S r → r ≤ t) :
    Noted t S s s 1 (fun r => r ≤ s ∧ (16 ≤ s - r ∨ (1 : Nat).testBit (s - r) = true)) := by
  refine ⟨.inr ⟨s, 1, rfl, rfl, hs, by omega, Nat.one_lt_two_pow (by omega), rfl, fun r => Iff.rfl⟩, by omega, ⟨by omega, .inr (by simp)⟩, fun r hr => ?_⟩
  have := hS r hr
  exact ⟨by omega, .inl (by omega)⟩
theorem noted_first {s : Nat} (hs : s ≤ 9999) {S : Nat → Prop} (hS : ∀ r, ¬ S r) :
    Noted (-1) S s s 1 (fun r => r ≤ s ∧ (16 ≤ s - r ∨ (1 : Nat).testBit (s - r) = true)) := by
  refine ⟨.inr ⟨s, 1, rfl, rfl, hs, by omega, Nat.one_lt_two_pow (by omega), rfl, fun r => Iff.rfl⟩, by omega, ⟨by omega, .inr (by simp)⟩, fun r hr => absurd hr (hS r)⟩
theorem f_noted_yes {top seen : Int} {S : Nat → Prop} (h : WR top seen S) {s : Nat} (hs : s ≤ 9999) (hS : ¬ S s) : ∃ t' m' S', fin trA 31 [I top, I seen, I s] [] = some (0, [I t', I m', B true], []) ∧ Noted top S s t' m' S' := by
  obtain ⟨b, e1, hb⟩ := f_fresh h hs
  have : b = true := hb.2 hS
  subst this
  rcases h with ⟨rfl, rfl, h⟩ | ⟨t, m, rfl, rfl, h1, h2, h3, h4, hSS⟩
  · refine ⟨_, _, _, fin_tree trA ?_, noted_first hs h⟩
    show o65.go _ _ _ = _
    simp only [o65, go_ask, go_need, go_call, go_ret, go_one, go_more, Te.ev, RT.ev, TL.ev, syL, List.getD_cons_zero, List.getD_cons_succ, List.map_cons, List.map_nil, List.cons_append, List.nil_append, List.append_nil, bv_add, bv_sub, bv_mul, bv_eql, bv_neq, bv_lss, bv_leq, bv_gtr, bv_geq, bv_rem, isT_bool, natOf_int, askV_bool, needV_bool, callV_some, decide_eq_true_eq, decide_true, decide_false, Bool.not_eq_true', decide_eq_false_iff_not, selfP, Nat.reduceEqDiff, Nat.succ_ne_zero, ↓reduceIte, if_true, if_false, e1, Bool.not_true, Bool.false_eq_true]
    rw [if_neg (by omega), if_neg (by omega)]
  · by_cases g : (s : Int) ≤ t
    · have hb : t - s < 16 := by
        apply Classical.byContradiction
        intro hn
        exact hS ((hSS s).2 ⟨by omega, .inl (by omega)⟩)
      refine ⟨_, _, _, fin_tree trA ?_, noted_set h1 h2 h3 h4 (by omega) hb hSS⟩
      have e : wr ((t : Int) - s) = ((t - s : Nat) : Int) := by rw [wr_id (by omega) (by omega)]; omega
      have q : 2 ^ (t - s) < 2 ^ 62 := Nat.pow_lt_pow_right (by omega) (by omega)
      show o65.go _ _ _ = _
      simp only [o65, go_ask, go_need, go_call, go_ret, go_one, go_more, Te.ev, RT.ev, TL.ev, syL, List.getD_cons_zero, List.getD_cons_succ, List.map_cons, List.map_nil, List.cons_append, List.nil_append, List.append_nil, bv_add, bv_sub, bv_mul, bv_eql, bv_neq, bv_lss, bv_leq, bv_gtr, bv_geq, bv_rem, isT_bool, natOf_int, askV_bool, needV_bool, callV_some, decide_eq_true_eq, decide_true, decide_false, Bool.not_eq_true', decide_eq_false_iff_not, selfP, Nat.reduceEqDiff, Nat.succ_ne_zero, ↓reduceIte, if_true, if_false, e1, g, e, cv_u64 (show t - s < 2 ^ 62 by omega), bv_shl_one _ (show t - s ≤ 61 by omega), bv_or_nat (show m < 2 ^ 62 by omega) q, Bool.not_true, Bool.false_eq_true]
      rw [if_pos (by omega)]
    · have g' : (0 : Int) ≤ (t : Int) := by omega
      have e : wr ((s : Int) - t) = ((s - t : Nat) : Int) := by rw [wr_id (by omega) (by omega)]; omega
      by_cases hb : s - t < 16
      · refine ⟨_, _, _, fin_tree trA ?_, noted_on h2 (by omega) hs hb hSS h3⟩
        have g2 : ((s - t : Nat) : Int) < 16 := by omega
        have q : 2 ^ (s - t) ≤ 2 ^ 15 := Nat.pow_le_pow_right (by omega) (by omega)
        have q2 : m * 2 ^ (s - t) < 2 ^ 62 := Nat.lt_of_le_of_lt (Nat.mul_le_mul (show m ≤ 65536 by omega) q) (by omega)
        have q3 : m * 2 ^ (s - t) &&& 65535 < 2 ^ 62 := Nat.lt_of_le_of_lt Nat.and_le_left q2
        have e2 : binV .and (.int .i64 ((m * 2 ^ (s - t) : Nat) : Int)) (.int .i64 65535) = .int .i64 ((m * 2 ^ (s - t) &&& 65535 : Nat) : Int) := bv_and_nat (b := 65535) q2 (by omega)
        have e3 : binV .or (.int .i64 ((m * 2 ^ (s - t) &&& 65535 : Nat) : Int)) (.int .i64 1) = .int .i64 ((m * 2 ^ (s - t) &&& 65535 ||| 1 : Nat) : Int) := bv_or_nat (b := 1) q3 (by omega)
        show o65.go _ _ _ = _
        simp only [o65, go_ask, go_need, go_call, go_ret, go_one, go_more, Te.ev, RT.ev, TL.ev, syL, List.getD_cons_zero, List.getD_cons_succ, List.map_cons, List.map_nil, List.cons_append, List.nil_append, List.append_nil, bv_add, bv_sub, bv_mul, bv_eql, bv_neq, bv_lss, bv_leq, bv_gtr, bv_geq, bv_rem, isT_bool, natOf_int, askV_bool, needV_bool, callV_some, decide_eq_true_eq, decide_true, decide_false, Bool.not_eq_true', decide_eq_false_iff_not, selfP, Nat.reduceEqDiff, Nat.succ_ne_zero, ↓reduceIte, if_true, if_false, e1, g, g', e, g2, cv_u64 (show s - t < 2 ^ 62 by omega), bv_shl_nat _ (show s - t ≤ 64 by omega) q2, e2, e3, Bool.not_true, Bool.false_eq_true]
        rw [if_pos (by omega)]
      · refine ⟨_, _, _, fin_tree trA ?_, noted_far (t := t) (by omega) hs (by omega) (fun r hr => ((hSS r).1 hr).1)⟩
        have g2 : ¬ ((s - t : Nat) : Int) < 16 := by omega
        show o65.go _ _ _ = _
        simp only [o65, go_ask, go_need, go_call, go_ret, go_one, go_more, Te.ev, RT.ev, TL.ev, syL, List.getD_cons_zero, List.getD_cons_succ, List.map_cons, List.map_nil, List.cons_append, List.nil_append, List.append_nil, bv_add, bv_sub, bv_mul, bv_eql, bv_neq, bv_lss, bv_leq, bv_gtr, bv_geq, bv_rem, isT_bool, natOf_int, askV_bool, needV_bool, callV_some, decide_eq_true_eq, decide_true, decide_false, Bool.not_eq_true', decide_eq_false_iff_not, selfP, Nat.reduceEqDiff, Nat.succ_ne_zero, ↓reduceIte, if_true, if_false, e1, g, g', e, g2, Bool.not_true, Bool.false_eq_true]
end Go.Proofs.Ytipomcnbjlfekaa.Rs
