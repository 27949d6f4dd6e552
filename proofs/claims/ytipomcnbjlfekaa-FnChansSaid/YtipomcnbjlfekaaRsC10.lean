import Derived.Test.YtipomcnbjlfekaaRsC9
import Derived.Test.YtipomcnbjlfekaaRsW
/- Windows: what numbers they hold. -/
namespace Go.Proofs.Ytipomcnbjlfekaa.Rs
open Go.RowKit
set_option linter.unusedVariables false
set_option linter.unusedSimpArgs false
set_option maxRecDepth 100000
/-- A right window that holds some numbers. -/
def WR (top seen : Int) (S : Nat → Prop) : Prop :=
  (top = -1 ∧ seen = 0 ∧ ∀ s, ¬ S s) ∨ ∃ t m : Nat, top = t ∧ seen = m ∧ t ≤ 9999 ∧ m < 65536 ∧ m < 2 ^ (t + 1) ∧ m % 2 = 1 ∧ ∀ s, S s ↔ s ≤ t ∧ (16 ≤ t - s ∨ m.testBit (t - s) = true)
theorem bv_shl_one {n : Nat} (j : IntKind) (hn : n ≤ 61) : binV .shl (.int .i64 1) (.int j n) = .int .i64 ((2 ^ n : Nat) : Int) := by
  have := bv_shl_nat (a := 1) j (show n ≤ 64 by omega) (by rw [Nat.one_mul]; exact Nat.pow_lt_pow_right (by omega) (by omega))
  rw [Nat.one_mul] at this
  exact this
theorem f_winOk {top seen : Int} {S : Nat → Prop} (h : WR top seen S) : fin trA 16 [I top, I seen] [] = some (0, [B true], []) := by
  refine fin_tree trA ?_
  show o26.go _ _ _ = _
  rcases h with ⟨rfl, rfl, _⟩ | ⟨t, m, rfl, rfl, h1, h2, h3, h4, _⟩
  · simp only [o26, go_ask, go_need, go_call, go_ret, go_one, go_more, Te.ev, RT.ev, TL.ev, syL, List.getD_cons_zero, List.getD_cons_succ, List.map_cons, List.map_nil, List.cons_append, List.nil_append, List.append_nil, bv_add, bv_sub, bv_mul, bv_eql, bv_neq, bv_lss, bv_leq, bv_gtr, bv_geq, bv_rem, isT_bool, natOf_int, askV_bool, needV_bool, callV_some, decide_eq_true_eq, decide_true, decide_false, Bool.not_eq_true', decide_eq_false_iff_not, selfP, Nat.reduceEqDiff, Nat.succ_ne_zero, ↓reduceIte, if_true, if_false, f_in, show inB (-1) (-1) 9999 = true from rfl, show inB 0 0 65535 = true from rfl, Bool.not_true, Bool.false_eq_true]
    simp
  · have g1 : inB (t : Int) (-1) 9999 = true := by simp [inB]; omega
    have g2 : inB (m : Int) 0 65535 = true := by simp [inB]; omega
    have g3 : ¬ (t : Int) < 0 := by omega
    have g4 : ((m : Int).tmod 2 = 1) := by rw [Int.tmod_eq_emod_of_nonneg (by omega)]; omega
    have e : wr ((t : Int) + 1) = ((t + 1 : Nat) : Int) := by rw [wr_id (by omega) (by omega)]; omega
    simp only [o26, go_ask, go_need, go_call, go_ret, go_one, go_more, Te.ev, RT.ev, TL.ev, syL, List.getD_cons_zero, List.getD_cons_succ, List.map_cons, List.map_nil, List.cons_append, List.nil_append, List.append_nil, bv_add, bv_sub, bv_mul, bv_eql, bv_neq, bv_lss, bv_leq, bv_gtr, bv_geq, bv_rem, isT_bool, natOf_int, askV_bool, needV_bool, callV_some, decide_eq_true_eq, decide_true, decide_false, Bool.not_eq_true', decide_eq_false_iff_not, selfP, Nat.reduceEqDiff, Nat.succ_ne_zero, ↓reduceIte, if_true, if_false, f_in, g1, g2, g3, g4, e, cv_u64 (show t + 1 < 2 ^ 62 by omega), Bool.not_true, Bool.false_eq_true]
    by_cases g5 : (15 : Int) ≤ t
    · simp [g5]
    · rw [bv_shl_one _ (by omega)]
      have g6 : (m : Int) < ((2 ^ (t + 1) : Nat) : Int) := by omega
      simp only [go_ask, go_need, go_call, go_ret, go_one, go_more, Te.ev, RT.ev, TL.ev, syL, List.getD_cons_zero, List.getD_cons_succ, List.map_cons, List.map_nil, List.cons_append, List.nil_append, List.append_nil, bv_add, bv_sub, bv_mul, bv_eql, bv_neq, bv_lss, bv_leq, bv_gtr, bv_geq, bv_rem, isT_bool, natOf_int, askV_bool, needV_bool, callV_some, decide_eq_true_eq, decide_true, decide_false, Bool.not_eq_true', decide_eq_false_iff_not, selfP, Nat.reduceEqDiff, Nat.succ_ne_zero, ↓reduceIte, if_true, if_false, g5, g6]
      rw [if_pos (by omega)]
end Go.Proofs.Ytipomcnbjlfekaa.Rs
