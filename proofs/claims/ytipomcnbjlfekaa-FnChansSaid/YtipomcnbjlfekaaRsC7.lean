import Derived.Test.YtipomcnbjlfekaaRsC6
/- Records read. -/
namespace Go.Proofs.Ytipomcnbjlfekaa.Rs
open Go.RowKit
set_option linter.unusedVariables false
set_option linter.unusedSimpArgs false
set_option maxRecDepth 100000
theorem dens3 {a : Ar} {ys : List Int} {t u v : Tm'} (h : Dens a ys [t, u, v]) : ∃ x y z, ys = [x, y, z] ∧ Den a x t ∧ Den a y u ∧ Den a z v := by
  cases h with
  | cons h1 h => cases h with
    | cons h2 h => cases h with
      | cons h3 h => cases h; exact ⟨_, _, _, rfl, h1, h2, h3⟩
theorem f_parts3 {a : Ar} (ha : AOk a) (hl : a.length ≤ 90000000) {t u v : Tm'} {k : Int} (hk : Den a k (.list [t, u, v])) :
    ∃ x y z, fin trA 21 [I k, I 3] [encA a] = some (0, [B true], [[[I x], [I y], [I z]]]) ∧ Den a x t ∧ Den a y u ∧ Den a z v := by
  obtain ⟨ys, h1, h2⟩ := f_parts ha hl (by simp) hk
  obtain ⟨x, y, z, rfl, d1, d2, d3⟩ := dens3 h2
  exact ⟨x, y, z, h1, d1, d2, d3⟩
theorem f_head {a : Ar} (ha : AOk a) (hl : a.length ≤ 90000000) {key e s : Int} {t v : Tm'} {k : Int} (he : 0 ≤ e ∧ e ≤ 8) (hs : 0 ≤ s ∧ s ≤ 9999) (hk : Den a k (.list [.atom e, .atom s, v])) :
    fin trA 22 [I k] [encA a] = some (0, [I e, I s, B true], []) := by
  obtain ⟨x, y, z, e1, d1, d2, d3⟩ := f_parts3 ha hl hk
  refine fin_tree trA ?_
  show o45.go _ _ _ = _
  have g1 : inB e 0 8 = true := by simp [inB]; omega
  have g2 : inB s 0 9999 = true := by simp [inB]; omega
  simp only [o45, go_ask, go_need, go_call, go_ret, go_one, go_more, Te.ev, RT.ev, TL.ev, syL, List.getD_cons_zero, List.getD_cons_succ, List.map_cons, List.map_nil, List.cons_append, List.nil_append, List.append_nil, bv_add, bv_sub, bv_mul, bv_eql, bv_neq, bv_lss, bv_leq, bv_gtr, bv_geq, bv_rem, isT_bool, natOf_int, askV_bool, needV_bool, callV_some, decide_eq_true_eq, decide_true, decide_false, Bool.not_eq_true', decide_eq_false_iff_not, selfP, Nat.reduceEqDiff, Nat.succ_ne_zero, ↓reduceIte, if_true, if_false, e1, f_num a _ hl, den_num ha d1, den_num ha d2, f_in, g1, g2, Bool.not_true, Bool.false_eq_true, List.length_cons, List.length_nil, Nat.zero_add, Nat.reduceAdd, Int.cast_ofNat_Int, Int.reduceLT, Int.reduceLE, Int.toNat_zero, Int.toNat_one, Int.le_refl]
end Go.Proofs.Ytipomcnbjlfekaa.Rs
