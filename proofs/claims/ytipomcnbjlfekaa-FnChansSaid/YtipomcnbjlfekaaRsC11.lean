import Derived.Test.YtipomcnbjlfekaaRsC10
/- Windows: what is fresh. -/
namespace Go.Proofs.Ytipomcnbjlfekaa.Rs
open Go.RowKit
set_option linter.unusedVariables false
set_option linter.unusedSimpArgs false
set_option maxRecDepth 100000
theorem bit_and_one (m b : Nat) : (m / 2 ^ b &&& 1 = 0) ↔ m.testBit b = false := by
  rw [Nat.and_one_is_mod, Nat.testBit_eq_decide_div_mod_eq]
  simp
theorem f_fresh {top seen : Int} {S : Nat → Prop} (h : WR top seen S) {s : Nat} (hs : s ≤ 9999) : ∃ b, fin trA 30 [I top, I seen, I s] [] = some (0, [B b], []) ∧ (b = true ↔ ¬ S s) := by
  have hok := f_winOk h
  have g0 : inB (s : Int) 0 9999 = true := by simp [inB]; omega
  rcases h with ⟨rfl, rfl, hS⟩ | ⟨t, m, rfl, rfl, h1, h2, h3, h4, hS⟩
  · refine ⟨true, fin_tree trA ?_, by simp [hS]⟩
    show o70.go _ _ _ = _
    simp only [o70, go_ask, go_need, go_call, go_ret, go_one, go_more, Te.ev, RT.ev, TL.ev, syL, List.getD_cons_zero, List.getD_cons_succ, List.map_cons, List.map_nil, List.cons_append, List.nil_append, List.append_nil, bv_add, bv_sub, bv_mul, bv_eql, bv_neq, bv_lss, bv_leq, bv_gtr, bv_geq, bv_rem, isT_bool, natOf_int, askV_bool, needV_bool, callV_some, decide_eq_true_eq, decide_true, decide_false, Bool.not_eq_true', decide_eq_false_iff_not, selfP, Nat.reduceEqDiff, Nat.succ_ne_zero, ↓reduceIte, if_true, if_false, hok, f_in, g0, Bool.not_true, Bool.false_eq_true]
    rw [if_pos (by omega)]
  · by_cases g1 : (t : Int) < s
    · refine ⟨true, fin_tree trA ?_, by rw [hS]; simp; omega⟩
      show o70.go _ _ _ = _
      simp only [o70, go_ask, go_need, go_call, go_ret, go_one, go_more, Te.ev, RT.ev, TL.ev, syL, List.getD_cons_zero, List.getD_cons_succ, List.map_cons, List.map_nil, List.cons_append, List.nil_append, List.append_nil, bv_add, bv_sub, bv_mul, bv_eql, bv_neq, bv_lss, bv_leq, bv_gtr, bv_geq, bv_rem, isT_bool, natOf_int, askV_bool, needV_bool, callV_some, decide_eq_true_eq, decide_true, decide_false, Bool.not_eq_true', decide_eq_false_iff_not, selfP, Nat.reduceEqDiff, Nat.succ_ne_zero, ↓reduceIte, if_true, if_false, hok, f_in, g0, g1, Bool.not_true, Bool.false_eq_true]
    · have e : wr ((t : Int) - s) = ((t - s : Nat) : Int) := by rw [wr_id (by omega) (by omega)]; omega
      by_cases g2 : t - s < 16
      · have g3 : ((t - s : Nat) : Int) < 16 := by omega
        have g4 : (0 : Int) ≤ ((t - s : Nat) : Int) := by omega
        have hx : (m / 2 ^ (t - s)) < 2 ^ 62 := Nat.lt_of_le_of_lt (Nat.div_le_self _ _) (by omega)
        have e2 : binV .and (.int .i64 ((m / 2 ^ (t - s) : Nat) : Int)) (.int .i64 1) = .int .i64 ((m / 2 ^ (t - s) &&& 1 : Nat) : Int) := bv_and_nat (b := 1) hx (by omega)
        refine ⟨decide (((m / 2 ^ (t - s) &&& 1 : Nat) : Int) = 0), fin_tree trA ?_, ?_⟩
        · show o70.go _ _ _ = _
          simp only [o70, go_ask, go_need, go_call, go_ret, go_one, go_more, Te.ev, RT.ev, TL.ev, syL, List.getD_cons_zero, List.getD_cons_succ, List.map_cons, List.map_nil, List.cons_append, List.nil_append, List.append_nil, bv_add, bv_sub, bv_mul, bv_eql, bv_neq, bv_lss, bv_leq, bv_gtr, bv_geq, bv_rem, isT_bool, natOf_int, askV_bool, needV_bool, callV_some, decide_eq_true_eq, decide_true, decide_false, Bool.not_eq_true', decide_eq_false_iff_not, selfP, Nat.reduceEqDiff, Nat.succ_ne_zero, ↓reduceIte, if_true, if_false, hok, f_in, g0, g1, e, g3, cv_u64 (show t - s < 2 ^ 62 by omega), bv_shr_nat _ (show t - s ≤ 64 by omega), e2, g4, Bool.not_true, Bool.false_eq_true]
        · rw [hS, decide_eq_true_eq, show (((m / 2 ^ (t - s) &&& 1 : Nat) : Int) = 0) ↔ (m / 2 ^ (t - s) &&& 1 = 0) by omega, bit_and_one]
          constructor
          · rintro h ⟨_, h | h'⟩
            · omega
            · rw [h] at h'; cases h'
          · intro h
            cases hb : m.testBit (t - s)
            · rfl
            · exact absurd ⟨by omega, .inr hb⟩ h
      · refine ⟨false, fin_tree trA ?_, by rw [hS]; simp; omega⟩
        have g3 : ¬ ((t - s : Nat) : Int) < 16 := by omega
        show o70.go _ _ _ = _
        simp only [o70, go_ask, go_need, go_call, go_ret, go_one, go_more, Te.ev, RT.ev, TL.ev, syL, List.getD_cons_zero, List.getD_cons_succ, List.map_cons, List.map_nil, List.cons_append, List.nil_append, List.append_nil, bv_add, bv_sub, bv_mul, bv_eql, bv_neq, bv_lss, bv_leq, bv_gtr, bv_geq, bv_rem, isT_bool, natOf_int, askV_bool, needV_bool, callV_some, decide_eq_true_eq, decide_true, decide_false, Bool.not_eq_true', decide_eq_false_iff_not, selfP, Nat.reduceEqDiff, Nat.succ_ne_zero, ↓reduceIte, if_true, if_false, hok, f_in, g0, g1, e, g3, Bool.not_true, Bool.false_eq_true]
end Go.Proofs.Ytipomcnbjlfekaa.Rs
