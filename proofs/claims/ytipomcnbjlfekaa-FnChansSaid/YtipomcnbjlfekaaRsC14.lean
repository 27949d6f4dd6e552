import Derived.Test.YtipomcnbjlfekaaRsC2
/- What is drawn: ranges only. -/
namespace Go.Proofs.Ytipomcnbjlfekaa.Rs
open Go.RowKit
set_option linter.unusedVariables false
set_option linter.unusedSimpArgs false
set_option maxRecDepth 100000
/-- A row of bytes. -/
def Cd (L : Rw) : Prop := ∀ i : Nat, i < L.length → ∃ x : Int, L.getD i [] = [.int .u8 x]
def an64 (a b : Int) : Int := IntKind.i64.wrap ((BitVec.ofInt 64 a &&& BitVec.ofInt 64 b).toNat : Int)
def xo64 (a b : Int) : Int := IntKind.i64.wrap ((BitVec.ofInt 64 a ^^^ BitVec.ofInt 64 b).toNat : Int)
def sh64 (a b : Int) : Int := a.fdiv (2 ^ (min b.toNat 64))
theorem bv_an (a b : Int) : binV .and (.int .i64 a) (.int .i64 b) = .int .i64 (an64 a b) := rfl
theorem bv_xo (a b : Int) : binV .xor (.int .i64 a) (.int .i64 b) = .int .i64 (xo64 a b) := rfl
theorem bv_sh (j : IntKind) (a b : Int) : binV .shr (.int .i64 a) (.int j b) = .int .i64 (sh64 a b) := rfl
theorem cv_i64 (j : IntKind) (a : Int) : cvV .i64 (.int j a) = .int .i64 (wr a) := rfl
theorem an_255 (a : Int) : 0 ≤ an64 a 255 ∧ an64 a 255 ≤ 255 := by
  unfold an64
  have h : (BitVec.ofInt 64 a &&& BitVec.ofInt 64 255).toNat ≤ 255 := by
    rw [BitVec.toNat_and]
    exact Nat.and_le_right
  have := wr_id (x := ((BitVec.ofInt 64 a &&& BitVec.ofInt 64 255).toNat : Int)) (by omega) (by omega)
  unfold wr at this
  rw [this]
  omega
theorem f_byte {L : Rw} (hL : Cd L) (hn : L.length ≤ 2000000) {i h : Int} (hi : 0 ≤ i) : ∃ i' h' r, fin trA 3 [I i, I h] [L] = some (0, [I i', I h', I r], []) ∧ 0 ≤ i' ∧ 0 ≤ r ∧ r ≤ 255 := by
  by_cases g : i < (L.length : Int)
  · obtain ⟨x, hx⟩ := hL i.toNat (by omega)
    have e : wr (i + 1) = i + 1 := wr_id (by omega) (by omega)
    refine ⟨i + 1, (wr (wr (h * 6364136223846793005) + 1442695040888963407)), an64 (wr (an64 (xo64 (sh64 (wr (wr (h * 6364136223846793005) + 1442695040888963407)) 33) (sh64 (wr (wr (h * 6364136223846793005) + 1442695040888963407)) 45)) 255 + wr x)) 255, fin_tree trA ?_, by omega, an_255 _⟩
    show o12.go _ _ _ = _
    simp only [o12, go_ask, go_need, go_call, go_ret, go_one, go_more, Te.ev, RT.ev, TL.ev, syL, List.getD_cons_zero, List.getD_cons_succ, List.map_cons, List.map_nil, List.cons_append, List.nil_append, List.append_nil, bv_add, bv_sub, bv_mul, bv_eql, bv_neq, bv_lss, bv_leq, bv_gtr, bv_geq, bv_rem, isT_bool, natOf_int, askV_bool, needV_bool, callV_some, decide_eq_true_eq, decide_true, decide_false, Bool.not_eq_true', decide_eq_false_iff_not, selfP, Nat.reduceEqDiff, Nat.succ_ne_zero, ↓reduceIte, if_true, if_false, Bool.false_eq_true, Bool.not_true, Bool.not_false, g, hi, hx, cv_i64, bv_an, bv_xo, bv_sh, e]
  · refine ⟨i, (wr (wr (h * 6364136223846793005) + 1442695040888963407)), an64 (xo64 (sh64 (wr (wr (h * 6364136223846793005) + 1442695040888963407)) 33) (sh64 (wr (wr (h * 6364136223846793005) + 1442695040888963407)) 45)) 255, fin_tree trA ?_, hi, an_255 _⟩
    show o12.go _ _ _ = _
    simp only [o12, go_ask, go_need, go_call, go_ret, go_one, go_more, Te.ev, RT.ev, TL.ev, syL, List.getD_cons_zero, List.getD_cons_succ, List.map_cons, List.map_nil, List.cons_append, List.nil_append, List.append_nil, bv_add, bv_sub, bv_mul, bv_eql, bv_neq, bv_lss, bv_leq, bv_gtr, bv_geq, bv_rem, isT_bool, natOf_int, askV_bool, needV_bool, callV_some, decide_eq_true_eq, decide_true, decide_false, Bool.not_eq_true', decide_eq_false_iff_not, selfP, Nat.reduceEqDiff, Nat.succ_ne_zero, ↓reduceIte, if_true, if_false, Bool.false_eq_true, Bool.not_true, Bool.not_false, g, bv_an, bv_xo, bv_sh, Bool.false_eq_true]
theorem f_below {L : Rw} (hL : Cd L) (hn : L.length ≤ 2000000) {i h n : Int} (hi : 0 ≤ i) (h1 : 1 ≤ n) (h2 : n ≤ 100000) : ∃ i' h' r, fin trA 4 [I i, I h, I n] [L] = some (0, [I i', I h', I r], []) ∧ 0 ≤ i' ∧ 0 ≤ r ∧ r < n := by
  have g0 : ¬ n ≤ 0 := by omega
  have g2 : ¬ n = 0 := by omega
  obtain ⟨i1, q1, r1, e1, p1, b1, c1⟩ := f_byte hL hn (h := h) hi
  by_cases g1 : n ≤ 256
  · refine ⟨i1, q1, r1.tmod n, fin_tree trA ?_, p1, ?_, ?_⟩
    · show o13.go _ _ _ = _
      simp only [o13, go_ask, go_need, go_call, go_ret, go_one, go_more, Te.ev, RT.ev, TL.ev, syL, List.getD_cons_zero, List.getD_cons_succ, List.map_cons, List.map_nil, List.cons_append, List.nil_append, List.append_nil, bv_add, bv_sub, bv_mul, bv_eql, bv_neq, bv_lss, bv_leq, bv_gtr, bv_geq, bv_rem, isT_bool, natOf_int, askV_bool, needV_bool, callV_some, decide_eq_true_eq, decide_true, decide_false, Bool.not_eq_true', decide_eq_false_iff_not, selfP, Nat.reduceEqDiff, Nat.succ_ne_zero, ↓reduceIte, if_true, if_false, Bool.false_eq_true, Bool.not_true, Bool.not_false, g0, g1, e1, g2, Bool.not_true, Bool.not_false]
    · rw [Int.tmod_eq_emod_of_nonneg b1]; exact Int.emod_nonneg _ g2
    · rw [Int.tmod_eq_emod_of_nonneg b1]; exact Int.emod_lt_of_pos _ (by omega)
  · obtain ⟨i2, q2, r2, e2, p2, b2, c2⟩ := f_byte hL hn (h := q1) p1
    obtain ⟨i3, q3, r3, e3, p3, b3, c3⟩ := f_byte hL hn (h := q2) p2
    obtain ⟨i4, q4, r4, e4, p4, b4, c4⟩ := f_byte hL hn (h := q3) p3
    have w1 : wr (r1 * 16777216) = r1 * 16777216 := wr_id (by omega) (by omega)
    have w2 : wr (r2 * 65536) = r2 * 65536 := wr_id (by omega) (by omega)
    have w3 : wr (r3 * 256) = r3 * 256 := wr_id (by omega) (by omega)
    have w4 : wr (r1 * 16777216 + r2 * 65536) = r1 * 16777216 + r2 * 65536 := wr_id (by omega) (by omega)
    have w5 : wr (r1 * 16777216 + r2 * 65536 + r3 * 256) = r1 * 16777216 + r2 * 65536 + r3 * 256 := wr_id (by omega) (by omega)
    have w6 : wr (r1 * 16777216 + r2 * 65536 + r3 * 256 + r4) = r1 * 16777216 + r2 * 65536 + r3 * 256 + r4 := wr_id (by omega) (by omega)
    refine ⟨i4, q4, (r1 * 16777216 + r2 * 65536 + r3 * 256 + r4).tmod n, fin_tree trA ?_, p4, ?_, ?_⟩
    · show o13.go _ _ _ = _
      simp only [o13, go_ask, go_need, go_call, go_ret, go_one, go_more, Te.ev, RT.ev, TL.ev, syL, List.getD_cons_zero, List.getD_cons_succ, List.map_cons, List.map_nil, List.cons_append, List.nil_append, List.append_nil, bv_add, bv_sub, bv_mul, bv_eql, bv_neq, bv_lss, bv_leq, bv_gtr, bv_geq, bv_rem, isT_bool, natOf_int, askV_bool, needV_bool, callV_some, decide_eq_true_eq, decide_true, decide_false, Bool.not_eq_true', decide_eq_false_iff_not, selfP, Nat.reduceEqDiff, Nat.succ_ne_zero, ↓reduceIte, if_true, if_false, Bool.false_eq_true, Bool.not_true, Bool.not_false, g0, g1, e1, e2, e3, e4, g2, w1, w2, w3, w4, w5, w6, Bool.not_true, Bool.not_false]
    · rw [Int.tmod_eq_emod_of_nonneg (by omega)]; exact Int.emod_nonneg _ g2
    · rw [Int.tmod_eq_emod_of_nonneg (by omega)]; exact Int.emod_lt_of_pos _ (by omega)
theorem f_new0 {L : Rw} (hL : Cd L) (hn : L.length ≤ 2000000) : ∀ (d i : Nat) (h : Int), i + d = 4000 → ∃ h', fin trA 40 [I h, I i] [L] = some (0, [I h'], [])
  | 0, i, h, hi => by
    refine ⟨h, fin_tree trA ?_⟩
    show o11_0.go _ _ _ = _
    have g : ¬ (i : Int) < 4000 := by omega
    by_cases g1 : (i : Int) < (L.length : Int) <;> simp only [o11_0, go_ask, go_need, go_call, go_ret, go_one, go_more, Te.ev, RT.ev, TL.ev, syL, List.getD_cons_zero, List.getD_cons_succ, List.map_cons, List.map_nil, List.cons_append, List.nil_append, List.append_nil, bv_add, bv_sub, bv_mul, bv_eql, bv_neq, bv_lss, bv_leq, bv_gtr, bv_geq, bv_rem, isT_bool, natOf_int, askV_bool, needV_bool, callV_some, decide_eq_true_eq, decide_true, decide_false, Bool.not_eq_true', decide_eq_false_iff_not, selfP, Nat.reduceEqDiff, Nat.succ_ne_zero, ↓reduceIte, if_true, if_false, Bool.false_eq_true, Bool.not_true, Bool.not_false, g, g1]
  | d + 1, i, h, hi => by
    by_cases g1 : (i : Int) < (L.length : Int)
    · obtain ⟨x, hx⟩ := hL i (by omega)
      have e : wr ((i : Int) + 1) = ((i + 1 : Nat) : Int) := by rw [wr_id (by omega) (by omega)]; omega
      have g : (i : Int) < 4000 := by omega
      have g0 : (0 : Int) ≤ (i : Int) := by omega
      obtain ⟨h', e1⟩ := f_new0 hL hn d (i + 1) (an64 (wr (wr (wr (h * 131) + wr x) + 7)) 1073741823) (by omega)
      refine ⟨h', fin_tree trA ?_⟩
      show o11_0.go _ _ _ = _
      simp only [o11_0, go_ask, go_need, go_call, go_ret, go_one, go_more, Te.ev, RT.ev, TL.ev, syL, List.getD_cons_zero, List.getD_cons_succ, List.map_cons, List.map_nil, List.cons_append, List.nil_append, List.append_nil, bv_add, bv_sub, bv_mul, bv_eql, bv_neq, bv_lss, bv_leq, bv_gtr, bv_geq, bv_rem, isT_bool, natOf_int, askV_bool, needV_bool, callV_some, decide_eq_true_eq, decide_true, decide_false, Bool.not_eq_true', decide_eq_false_iff_not, selfP, Nat.reduceEqDiff, Nat.succ_ne_zero, ↓reduceIte, if_true, if_false, Bool.false_eq_true, Bool.not_true, Bool.not_false, g, g0, g1, hx, Int.toNat_natCast, cv_i64, bv_an, e, e1]
    · refine ⟨h, fin_tree trA ?_⟩
      show o11_0.go _ _ _ = _
      simp only [o11_0, go_ask, go_need, go_call, go_ret, go_one, go_more, Te.ev, RT.ev, TL.ev, syL, List.getD_cons_zero, List.getD_cons_succ, List.map_cons, List.map_nil, List.cons_append, List.nil_append, List.append_nil, bv_add, bv_sub, bv_mul, bv_eql, bv_neq, bv_lss, bv_leq, bv_gtr, bv_geq, bv_rem, isT_bool, natOf_int, askV_bool, needV_bool, callV_some, decide_eq_true_eq, decide_true, decide_false, Bool.not_eq_true', decide_eq_false_iff_not, selfP, Nat.reduceEqDiff, Nat.succ_ne_zero, ↓reduceIte, if_true, if_false, Bool.false_eq_true, Bool.not_true, Bool.not_false, g1]
theorem f_new {L : Rw} (hL : Cd L) (hn : L.length ≤ 2000000) : ∃ h', fin trA 41 [] [L] = some (0, [I 0, I h'], []) := by
  have w : wr (94701 + (L.length : Int)) = 94701 + (L.length : Int) := wr_id (by omega) (by omega)
  obtain ⟨h', e1⟩ := f_new0 hL hn 4000 0 (94701 + (L.length : Int)) (by omega)
  refine ⟨h', fin_tree trA ?_⟩
  show o11.go _ _ _ = _
  rw [show ((0 : Nat) : Int) = 0 from rfl] at e1
  simp only [o11, go_ask, go_need, go_call, go_ret, go_one, go_more, Te.ev, RT.ev, TL.ev, syL, List.getD_cons_zero, List.getD_cons_succ, List.map_cons, List.map_nil, List.cons_append, List.nil_append, List.append_nil, bv_add, bv_sub, bv_mul, bv_eql, bv_neq, bv_lss, bv_leq, bv_gtr, bv_geq, bv_rem, isT_bool, natOf_int, askV_bool, needV_bool, callV_some, decide_eq_true_eq, decide_true, decide_false, Bool.not_eq_true', decide_eq_false_iff_not, selfP, Nat.reduceEqDiff, Nat.succ_ne_zero, ↓reduceIte, if_true, if_false, Bool.false_eq_true, Bool.not_true, Bool.not_false, w, e1]
/-- A row of small numbers. -/
def Pl (P : List Int) : Prop := ∀ x ∈ P, 0 ≤ x ∧ x < 10000
def encP (l : List Int) : Rw := l.map fun x => [I x]
theorem encP_len (l : List Int) : (encP l).length = l.length := List.length_map ..
theorem f_places0 {L : Rw} (hL : Cd L) (hn : L.length ≤ 2000000) (z : Rw) : ∀ (d n : Nat) {i h : Int} {P : List Int}, n + d = 12 → 0 ≤ i → P.length = n → Pl P → ∃ i' h' P', fin trA 43 [I i, I h, I n] [z, L, encP P] = some (0, [I i', I h'], [encP P']) ∧ P'.length = 12 ∧ Pl P'
  | 0, n, i, h, P, hd, hi, hp, hP => by
    refine ⟨i, h, P, fin_tree trA ?_, by omega, hP⟩
    show o6_0.go _ _ _ = _
    have g : ¬ (n : Int) < 12 := by omega
    simp only [o6_0, go_ask, go_need, go_call, go_ret, go_one, go_more, Te.ev, RT.ev, TL.ev, syL, List.getD_cons_zero, List.getD_cons_succ, List.map_cons, List.map_nil, List.cons_append, List.nil_append, List.append_nil, bv_add, bv_sub, bv_mul, bv_eql, bv_neq, bv_lss, bv_leq, bv_gtr, bv_geq, bv_rem, isT_bool, natOf_int, askV_bool, needV_bool, callV_some, decide_eq_true_eq, decide_true, decide_false, Bool.not_eq_true', decide_eq_false_iff_not, selfP, Nat.reduceEqDiff, Nat.succ_ne_zero, ↓reduceIte, if_true, if_false, Bool.false_eq_true, Bool.not_true, Bool.not_false, g]
  | d + 1, n, i, h, P, hd, hi, hp, hP => by
    obtain ⟨i1, q1, r1, e1, p1, b1, c1⟩ := f_below hL hn (h := h) (n := 10000) hi (by omega) (by omega)
    have e : wr ((n : Int) + 1) = ((n + 1 : Nat) : Int) := by rw [wr_id (by omega) (by omega)]; omega
    obtain ⟨i2, q2, P2, e2, l2, k2⟩ := f_places0 hL hn z d (n + 1) (i := i1) (h := q1) (P := P ++ [r1]) (by omega) p1 (by simp [hp]) (by
      intro x hx
      rcases List.mem_append.1 hx with hx | hx
      · exact hP x hx
      · simp at hx; omega)
    refine ⟨i2, q2, P2, fin_tree trA ?_, l2, k2⟩
    show o6_0.go _ _ _ = _
    have g : (n : Int) < 12 := by omega
    have q : encP P ++ [[Value.int .i64 r1]] = encP (P ++ [r1]) := by simp [encP]
    have g3 : ((P ++ [r1]).length : Int) ≤ 100000000 := by simp; omega
    simp only [o6_0, go_ask, go_need, go_call, go_ret, go_one, go_more, Te.ev, RT.ev, TL.ev, syL, List.getD_cons_zero, List.getD_cons_succ, List.map_cons, List.map_nil, List.cons_append, List.nil_append, List.append_nil, bv_add, bv_sub, bv_mul, bv_eql, bv_neq, bv_lss, bv_leq, bv_gtr, bv_geq, bv_rem, isT_bool, natOf_int, askV_bool, needV_bool, callV_some, decide_eq_true_eq, decide_true, decide_false, Bool.not_eq_true', decide_eq_false_iff_not, selfP, Nat.reduceEqDiff, Nat.succ_ne_zero, ↓reduceIte, if_true, if_false, Bool.false_eq_true, Bool.not_true, Bool.not_false, g, e1, q, encP_len, g3, e, e2]
theorem f_places {L : Rw} (hL : Cd L) (hn : L.length ≤ 2000000) : ∃ P, fin trA 44 [] [L] = some (0, [], [encP P]) ∧ P.length = 12 ∧ Pl P := by
  obtain ⟨h', e0⟩ := f_new hL hn
  obtain ⟨i1, q1, r1, e1, p1, b1, c1⟩ := f_byte hL hn (i := 0) (h := h') (by omega)
  obtain ⟨i2, q2, P2, e2, l2, k2⟩ := f_places0 hL hn [] 12 0 (i := i1) (h := q1) (P := []) (by omega) p1 rfl (fun x hx => by cases hx)
  refine ⟨P2, fin_tree trA ?_, l2, k2⟩
  show o6.go _ _ _ = _
  rw [show ((0 : Nat) : Int) = 0 from rfl, show encP [] = [] from rfl] at e2
  simp only [o6, go_ask, go_need, go_call, go_ret, go_one, go_more, Te.ev, RT.ev, TL.ev, syL, List.getD_cons_zero, List.getD_cons_succ, List.map_cons, List.map_nil, List.cons_append, List.nil_append, List.append_nil, bv_add, bv_sub, bv_mul, bv_eql, bv_neq, bv_lss, bv_leq, bv_gtr, bv_geq, bv_rem, isT_bool, natOf_int, askV_bool, needV_bool, callV_some, decide_eq_true_eq, decide_true, decide_false, Bool.not_eq_true', decide_eq_false_iff_not, selfP, Nat.reduceEqDiff, Nat.succ_ne_zero, ↓reduceIte, if_true, if_false, Bool.false_eq_true, Bool.not_true, Bool.not_false, e0, e1, e2]
end Go.Proofs.Ytipomcnbjlfekaa.Rs
