import Derived.Test.YtipomcnbjlfekaaRs21
import Derived.Test.YtipomcnbjlfekaaRsF
/- What the functions come to: typed. -/
namespace Go.Proofs.Ytipomcnbjlfekaa.Rs
open Go.RowKit
set_option linter.unusedVariables false
set_option linter.unusedSimpArgs false
set_option maxRecDepth 100000
structure Nd where
  k : Int
  num : Int
  a : Int
  b : Int
deriving DecidableEq
def Nd.enc (n : Nd) : List Value := [I n.k, I n.num, I n.a, I n.b]
abbrev Ar := List Nd
def encA (l : Ar) : Rw := l.map Nd.enc
theorem encA_len (l : Ar) : (encA l).length = l.length := List.length_map ..
theorem encA_app (l m : Ar) : encA l ++ encA m = encA (l ++ m) := (List.map_append ..).symm
theorem encA_get (l : Ar) (i : Nat) (h : i < l.length) : (encA l).getD i [] = (l[i]).enc := by
  simp [encA, List.getD_eq_getElem?_getD, List.getElem?_eq_getElem h]
def inB (x a b : Int) : Bool := decide (a ≤ x) && decide (x ≤ b)
theorem f_in (x a b : Int) : fin trA 5 [I x, I a, I b] [] = some (0, [B (inB x a b)], []) := by
  refine fin_tree trA ?_
  show o25.go _ _ _ = _
  simp only [o25, go_ask, go_need, go_call, go_ret, go_one, go_more, Te.ev, RT.ev, TL.ev, syL, List.getD_cons_zero, List.getD_cons_succ, List.map_cons, List.map_nil, List.cons_append, List.nil_append, List.append_nil, bv_add, bv_sub, bv_mul, bv_eql, bv_neq, bv_lss, bv_leq, bv_gtr, bv_geq, bv_rem, isT_bool, natOf_int, askV_bool, needV_bool, callV_some, decide_eq_true_eq, decide_true, decide_false, Bool.not_eq_true', decide_eq_false_iff_not, selfP, Nat.reduceEqDiff, Nat.succ_ne_zero, ↓reduceIte, if_true, if_false]
  by_cases h : a ≤ x <;> simp [h, inB]
def isOne (k : Int) : Bool := decide (k = 3) || decide (k = 6)
theorem f_one (k : Int) : fin trA 6 [I k] [] = some (0, [B (isOne k)], []) := by
  refine fin_tree trA ?_
  show o59.go _ _ _ = _
  simp only [o59, go_ask, go_need, go_call, go_ret, go_one, go_more, Te.ev, RT.ev, TL.ev, syL, List.getD_cons_zero, List.getD_cons_succ, List.map_cons, List.map_nil, List.cons_append, List.nil_append, List.append_nil, bv_add, bv_sub, bv_mul, bv_eql, bv_neq, bv_lss, bv_leq, bv_gtr, bv_geq, bv_rem, isT_bool, natOf_int, askV_bool, needV_bool, callV_some, decide_eq_true_eq, decide_true, decide_false, Bool.not_eq_true', decide_eq_false_iff_not, selfP, Nat.reduceEqDiff, Nat.succ_ne_zero, ↓reduceIte, if_true, if_false]
  by_cases h : k = 3 <;> simp [h, isOne]
def Nd.right (n : Nd) (k : Int) : Bool :=
  if inB n.k 1 9 = false then false
  else if n.k = 1 then inB n.num 0 999999 && (decide (n.a = 0) && decide (n.b = 0))
  else if n.num ≠ 0 then false
  else if inB n.a 0 (wr (k - 1)) = false then false
  else if isOne n.k = true then decide (n.b = 0)
  else inB n.b 0 (wr (k - 1))
theorem f_node (k num a b p : Int) : fin trA 7 [I k, I num, I a, I b, I p] [] = some (0, [B (Nd.right ⟨k, num, a, b⟩ p)], []) := by
  refine fin_tree trA ?_
  show o42.go _ _ _ = _
  simp only [o42, go_ask, go_need, go_call, go_ret, go_one, go_more, Te.ev, RT.ev, TL.ev, syL, List.getD_cons_zero, List.getD_cons_succ, List.map_cons, List.map_nil, List.cons_append, List.nil_append, List.append_nil, bv_add, bv_sub, bv_mul, bv_eql, bv_neq, bv_lss, bv_leq, bv_gtr, bv_geq, bv_rem, isT_bool, natOf_int, askV_bool, needV_bool, callV_some, decide_eq_true_eq, decide_true, decide_false, Bool.not_eq_true', decide_eq_false_iff_not, selfP, Nat.reduceEqDiff, Nat.succ_ne_zero, ↓reduceIte, if_true, if_false, f_in, f_one, Nd.right]
  cases inB k 1 9 <;> cases inB num 0 999999 <;> cases inB a 0 (wr (p - 1)) <;> cases isOne k <;> by_cases h1 : k = 1 <;> by_cases h2 : num = 0 <;> by_cases h3 : a = 0 <;> simp [h1, h2, h3]
/-- The first place of a node from a place on. -/
def atFrom (n : Nd) : Ar → Int → Option Int
  | [], _ => none
  | x :: l, i => if x = n then some i else atFrom n l (i + 1)
def at_ (l : Ar) (n : Nd) : Int := (atFrom n l 0).getD (-1)
theorem nd_eq (x n : Nd) : (decide (x.k = n.k) && (decide (x.num = n.num) && (decide (x.a = n.a) && (decide (x.b = n.b) && true)))) = decide (x = n) := by
  cases x; cases n; simp
theorem f_at0 (l : Ar) (n : Nd) (u : Int) (hl : l.length ≤ 100000000) : ∀ (d i : Nat), i + d = l.length → fin trA 8 [I n.k, I n.num, I n.a, I n.b, I u, I i] [encA l] = some (match atFrom n (l.drop i) i with | some j => (1, [I j], []) | none => (0, [], [])) := by
  intro d
  induction d with
  | zero =>
    intro i hi
    refine fin_tree trA ?_
    show o60_0.go _ _ _ = _
    rw [List.drop_eq_nil_of_le (by omega)]
    simp only [o60_0, go_ask, go_need, go_call, go_ret, go_one, go_more, Te.ev, RT.ev, TL.ev, syL, List.getD_cons_zero, List.getD_cons_succ, List.map_cons, List.map_nil, List.cons_append, List.nil_append, List.append_nil, bv_add, bv_sub, bv_mul, bv_eql, bv_neq, bv_lss, bv_leq, bv_gtr, bv_geq, bv_rem, isT_bool, natOf_int, askV_bool, needV_bool, callV_some, decide_eq_true_eq, decide_true, decide_false, Bool.not_eq_true', decide_eq_false_iff_not, selfP, Nat.reduceEqDiff, Nat.succ_ne_zero, ↓reduceIte, if_true, if_false, encA_len, atFrom]
    rw [if_neg (by omega)]
  | succ d ih =>
    intro i hi
    refine fin_tree trA ?_
    show o60_0.go _ _ _ = _
    have hlt : i < l.length := by omega
    have e : wr ((i : Int) + 1) = ((i + 1 : Nat) : Int) := by rw [wr_id (by omega) (by omega)]; omega
    rw [List.drop_eq_getElem_cons hlt]
    simp only [o60_0, go_ask, go_need, go_call, go_ret, go_one, go_more, Te.ev, RT.ev, TL.ev, syL, List.getD_cons_zero, List.getD_cons_succ, List.map_cons, List.map_nil, List.cons_append, List.nil_append, List.append_nil, bv_add, bv_sub, bv_mul, bv_eql, bv_neq, bv_lss, bv_leq, bv_gtr, bv_geq, bv_rem, isT_bool, natOf_int, askV_bool, needV_bool, callV_some, decide_eq_true_eq, decide_true, decide_false, Bool.not_eq_true', decide_eq_false_iff_not, selfP, Nat.reduceEqDiff, Nat.succ_ne_zero, ↓reduceIte, if_true, if_false, encA_len, atFrom, Int.toNat_natCast, encA_get l i hlt, Nd.enc, nd_eq, e, ih (i + 1) (by omega)]
    rw [if_pos (by omega), if_pos (by omega), if_pos (by omega)]
    by_cases hx : l[i] = n
    · simp only [hx, ↓reduceIte]
    · simp only [hx, ↓reduceIte]
      rw [show ((i + 1 : Nat) : Int) = (i : Int) + 1 by omega]
      cases atFrom n (l.drop (i + 1)) ((i : Int) + 1) <;> simp only [go_ask, go_need, go_call, go_ret, go_one, go_more, Te.ev, RT.ev, TL.ev, syL, List.getD_cons_zero, List.getD_cons_succ, List.map_cons, List.map_nil, List.cons_append, List.nil_append, List.append_nil, bv_add, bv_sub, bv_mul, bv_eql, bv_neq, bv_lss, bv_leq, bv_gtr, bv_geq, bv_rem, isT_bool, natOf_int, askV_bool, needV_bool, callV_some, decide_eq_true_eq, decide_true, decide_false, Bool.not_eq_true', decide_eq_false_iff_not, selfP, Nat.reduceEqDiff, Nat.succ_ne_zero, ↓reduceIte, if_true, if_false]
theorem f_at (l : Ar) (n : Nd) (hl : l.length ≤ 100000000) : fin trA 9 [I n.k, I n.num, I n.a, I n.b] [encA l] = some (0, [I (at_ l n)], []) := by
  refine fin_tree trA ?_
  show o60.go _ _ _ = _
  have h := f_at0 l n 0 hl l.length 0 (by omega)
  rw [List.drop_zero, show ((0 : Nat) : Int) = 0 from rfl] at h
  simp only [o60, go_ask, go_need, go_call, go_ret, go_one, go_more, Te.ev, RT.ev, TL.ev, syL, List.getD_cons_zero, List.getD_cons_succ, List.map_cons, List.map_nil, List.cons_append, List.nil_append, List.append_nil, bv_add, bv_sub, bv_mul, bv_eql, bv_neq, bv_lss, bv_leq, bv_gtr, bv_geq, bv_rem, isT_bool, natOf_int, askV_bool, needV_bool, callV_some, decide_eq_true_eq, decide_true, decide_false, Bool.not_eq_true', decide_eq_false_iff_not, selfP, Nat.reduceEqDiff, Nat.succ_ne_zero, ↓reduceIte, if_true, if_false, h]
  unfold at_
  cases atFrom n l 0 <;> simp [go_ask, go_need, go_call, go_ret, go_one, go_more, Te.ev, RT.ev, TL.ev, syL, List.getD_cons_zero, List.getD_cons_succ, List.map_cons, List.map_nil, List.cons_append, List.nil_append, List.append_nil, bv_add, bv_sub, bv_mul, bv_eql, bv_neq, bv_lss, bv_leq, bv_gtr, bv_geq, bv_rem, isT_bool, natOf_int, askV_bool, needV_bool, callV_some, decide_eq_true_eq, decide_true, decide_false, Bool.not_eq_true', decide_eq_false_iff_not, selfP, Nat.reduceEqDiff, Nat.succ_ne_zero, ↓reduceIte, if_true, if_false]
/-- A node is put. -/
def put (l : Ar) (n : Nd) : Ar × Int :=
  if n.right l.length = false then (l, -1)
  else if 0 ≤ at_ l n ∨ (3000 : Int) ≤ (l.length : Int) then (l, at_ l n)
  else (l ++ [n], l.length)
theorem f_put (l : Ar) (k num a b : Int) (hl : l.length ≤ 90000000) : fin trA 10 [I k, I num, I a, I b] [encA l] = some (0, [I (put l ⟨k, num, a, b⟩).2], [encA (put l ⟨k, num, a, b⟩).1]) := by
  refine fin_tree trA ?_
  show o43.go _ _ _ = _
  have h := f_at l ⟨k, num, a, b⟩ (by omega)
  have e : [[I k, I num, I a, I b]] = encA [⟨k, num, a, b⟩] := rfl
  simp only [o43, go_ask, go_need, go_call, go_ret, go_one, go_more, Te.ev, RT.ev, TL.ev, syL, List.getD_cons_zero, List.getD_cons_succ, List.map_cons, List.map_nil, List.cons_append, List.nil_append, List.append_nil, bv_add, bv_sub, bv_mul, bv_eql, bv_neq, bv_lss, bv_leq, bv_gtr, bv_geq, bv_rem, isT_bool, natOf_int, askV_bool, needV_bool, callV_some, decide_eq_true_eq, decide_true, decide_false, Bool.not_eq_true', decide_eq_false_iff_not, selfP, Nat.reduceEqDiff, Nat.succ_ne_zero, ↓reduceIte, if_true, if_false, f_node, encA_len, h]
  simp only [put]
  cases Nd.right ⟨k, num, a, b⟩ l.length
  · simp
  · by_cases h1 : 0 ≤ at_ l ⟨k, num, a, b⟩
    · simp [h1]
    · by_cases h2 : (3000 : Int) ≤ (l.length : Int)
      · simp [h1, h2]
      · have h3 : ((l ++ [(⟨k, num, a, b⟩ : Nd)]).length : Int) = (l.length : Int) + 1 := by simp
        rw [e, encA_app, encA_len, h3, wr_id (by omega) (by omega)]
        simp [h1, h2, show (l.length : Int) + 1 ≤ 100000000 by omega]
theorem f_atom (l : Ar) (x : Int) (hl : l.length ≤ 90000000) : fin trA 11 [I x] [encA l] = some (0, [I (put l ⟨1, x, 0, 0⟩).2], [encA (put l ⟨1, x, 0, 0⟩).1]) := by
  refine fin_tree trA ?_
  show o27.go _ _ _ = _
  simp only [o27, go_ask, go_need, go_call, go_ret, go_one, go_more, Te.ev, RT.ev, TL.ev, syL, List.getD_cons_zero, List.getD_cons_succ, List.map_cons, List.map_nil, List.cons_append, List.nil_append, List.append_nil, bv_add, bv_sub, bv_mul, bv_eql, bv_neq, bv_lss, bv_leq, bv_gtr, bv_geq, bv_rem, isT_bool, natOf_int, askV_bool, needV_bool, callV_some, decide_eq_true_eq, decide_true, decide_false, Bool.not_eq_true', decide_eq_false_iff_not, selfP, Nat.reduceEqDiff, Nat.succ_ne_zero, ↓reduceIte, if_true, if_false, f_put _ _ _ _ _ hl]
end Go.Proofs.Ytipomcnbjlfekaa.Rs
