import Derived.Test.YtipomcnbjlfekaaRsC9
import Derived.Test.YtipomcnbjlfekaaRsC12
/- Channels: what is said. -/
namespace Go.Proofs.Ytipomcnbjlfekaa.Rs
open Go.RowKit
set_option linter.unusedVariables false
set_option linter.unusedSimpArgs false
set_option maxRecDepth 100000
structure Ch where
  app : Int
  side : Int
  ep : Nat
  seq : Nat
  heard : Nat
  nt : Int
  ns : Int
  lt : Int
  ls : Int
def Ch.v (c : Ch) : List Value := [I c.app, I c.side, I c.ep, I c.seq, I c.heard, I c.nt, I c.ns, I c.lt, I c.ls]
/-- A right channel: its secret, and what its windows hold. -/
structure CR (a : Ar) (c : Ch) (t : Tm') (SN SL : Nat → Prop) : Prop where
  app : Den a c.app t
  side : c.side = 1 ∨ c.side = 2
  ep : c.ep ≤ 8
  seq : c.seq ≤ 9999
  heard : c.heard ≤ 8
  now : WR c.nt c.ns SN
  last : WR c.lt c.ls SL
section
variable {a a' : Ar} {c : Ch} {t : Tm'} {SN SL : Nat → Prop}
theorem CR.mono (h : CR a c t SN SL) (x : a <+: a') : CR a' c t SN SL := { h with app := h.app.mono x }
theorem f_chanOk (ha : AOk a) (hl : a.length ≤ 90000000) (h : CR a c t SN SL) : fin trA 17 c.v [encA a] = some (0, [B true], []) := by
  refine fin_tree trA ?_
  show o9.go _ _ _ = _
  have g1 : inB c.side 1 2 = true := by have := h.side; simp [inB]; omega
  have g2 : inB (c.ep : Int) 0 8 = true := by have := h.ep; simp [inB]; omega
  have g3 : inB (c.heard : Int) 0 8 = true := by have := h.heard; simp [inB]; omega
  have g4 : inB (c.seq : Int) 0 10000 = true := by have := h.seq; simp [inB]; omega
  simp only [Ch.v, o9, go_ask, go_need, go_call, go_ret, go_one, go_more, Te.ev, RT.ev, TL.ev, syL, List.getD_cons_zero, List.getD_cons_succ, List.map_cons, List.map_nil, List.cons_append, List.nil_append, List.append_nil, bv_add, bv_sub, bv_mul, bv_eql, bv_neq, bv_lss, bv_leq, bv_gtr, bv_geq, bv_rem, isT_bool, natOf_int, askV_bool, needV_bool, callV_some, decide_eq_true_eq, decide_true, decide_false, Bool.not_eq_true', decide_eq_false_iff_not, selfP, Nat.reduceEqDiff, Nat.succ_ne_zero, ↓reduceIte, if_true, if_false, Bool.false_eq_true, Bool.not_true, Bool.not_false, f_nodeOk _ _ hl, h.app.nodeOk ha, f_in, g1, g2, g3, g4, f_winOk h.now, f_winOk h.last]
theorem f_say {body : Int} {u : Tm'} (ha : AOk a) (h : CR a c t SN SL) (hb : Den a body u) (hl : a.length + 40 ≤ 3000) :
    ∃ a' k, fin trA 37 (c.v ++ [I body]) [encA a] = some (0, ({ c with seq := c.seq + 1 } : Ch).v ++ [I k], [encA a']) ∧ Ext a a' 29 ∧ Den a' k (((t.turn c.ep).key c.side).record c.ep c.seq u) := by
  have hep := h.ep; have hsd := h.side; have hsq := h.seq
  obtain ⟨a1, k1, e1, x1, d1⟩ := f_epoch hep ha h.app (by omega)
  have l1 := x1.len
  obtain ⟨a2, k2, e2, x2, d2⟩ := f_side (n := c.side) x1.ok d1 (by omega) (by omega) (by omega)
  have l2 := x2.len
  obtain ⟨a3, k3, e3, x3, d3⟩ := f_record (e := c.ep) (s := c.seq) x2.ok d2 ((hb.mono x1.pre).mono x2.pre) (by omega) (by omega) (by omega)
  refine ⟨a3, k3, fin_tree trA ?_, ((x1.trans x2).trans x3).le (by omega), d3⟩
  show o31.go _ _ _ = _
  have e0 := f_chanOk ha (by omega) h
  have e4 : wr ((c.seq : Int) + 1) = ((c.seq + 1 : Nat) : Int) := by rw [wr_id (by omega) (by omega)]; omega
  have hk3 : ¬ k3 < 0 := by have := d3.nonneg; omega
  simp only [Ch.v] at e0
  simp only [Ch.v, o31, go_ask, go_need, go_call, go_ret, go_one, go_more, Te.ev, RT.ev, TL.ev, syL, List.getD_cons_zero, List.getD_cons_succ, List.map_cons, List.map_nil, List.cons_append, List.nil_append, List.append_nil, bv_add, bv_sub, bv_mul, bv_eql, bv_neq, bv_lss, bv_leq, bv_gtr, bv_geq, bv_rem, isT_bool, natOf_int, askV_bool, needV_bool, callV_some, decide_eq_true_eq, decide_true, decide_false, Bool.not_eq_true', decide_eq_false_iff_not, selfP, Nat.reduceEqDiff, Nat.succ_ne_zero, ↓reduceIte, if_true, if_false, Bool.false_eq_true, Bool.not_true, Bool.not_false, e0, e1, e2, e3, e4, hk3, Bool.not_true, Bool.false_eq_true]
theorem f_winNew : fin trA 12 [] [] = some (0, [], []) := by
  refine fin_tree trA ?_
  show o44.go _ _ _ = _
  simp only [o44, go_ask, go_need, go_call, go_ret, go_one, go_more, Te.ev, RT.ev, TL.ev, syL, List.getD_cons_zero, List.getD_cons_succ, List.map_cons, List.map_nil, List.cons_append, List.nil_append, List.append_nil, bv_add, bv_sub, bv_mul, bv_eql, bv_neq, bv_lss, bv_leq, bv_gtr, bv_geq, bv_rem, isT_bool, natOf_int, askV_bool, needV_bool, callV_some, decide_eq_true_eq, decide_true, decide_false, Bool.not_eq_true', decide_eq_false_iff_not, selfP, Nat.reduceEqDiff, Nat.succ_ne_zero, ↓reduceIte, if_true, if_false, Bool.false_eq_true, Bool.not_true, Bool.not_false]
theorem f_chanNew (x s : Int) : fin trA 13 [I x, I s] [] = some (0, (⟨x, s, 0, 0, 0, -1, 0, -1, 0⟩ : Ch).v, []) := by
  refine fin_tree trA ?_
  show o28.go _ _ _ = _
  simp only [o28, go_ask, go_need, go_call, go_ret, go_one, go_more, Te.ev, RT.ev, TL.ev, syL, List.getD_cons_zero, List.getD_cons_succ, List.map_cons, List.map_nil, List.cons_append, List.nil_append, List.append_nil, bv_add, bv_sub, bv_mul, bv_eql, bv_neq, bv_lss, bv_leq, bv_gtr, bv_geq, bv_rem, isT_bool, natOf_int, askV_bool, needV_bool, callV_some, decide_eq_true_eq, decide_true, decide_false, Bool.not_eq_true', decide_eq_false_iff_not, selfP, Nat.reduceEqDiff, Nat.succ_ne_zero, ↓reduceIte, if_true, if_false, Bool.false_eq_true, Bool.not_true, Bool.not_false, f_winNew, Ch.v]
  rfl
theorem f_turn_no (h : c.heard < c.ep) (he : c.ep ≤ 8) : fin trA 14 c.v [] = some (0, c.v ++ [B false], []) := by
  refine fin_tree trA ?_
  show o29.go _ _ _ = _
  simp only [Ch.v, o29, go_ask, go_need, go_call, go_ret, go_one, go_more, Te.ev, RT.ev, TL.ev, syL, List.getD_cons_zero, List.getD_cons_succ, List.map_cons, List.map_nil, List.cons_append, List.nil_append, List.append_nil, bv_add, bv_sub, bv_mul, bv_eql, bv_neq, bv_lss, bv_leq, bv_gtr, bv_geq, bv_rem, isT_bool, natOf_int, askV_bool, needV_bool, callV_some, decide_eq_true_eq, decide_true, decide_false, Bool.not_eq_true', decide_eq_false_iff_not, selfP, Nat.reduceEqDiff, Nat.succ_ne_zero, ↓reduceIte, if_true, if_false, Bool.false_eq_true, Bool.not_true, Bool.not_false, f_in]
  have g : (c.heard : Int) < (c.ep : Int) := by omega
  cases inB (c.ep : Int) 0 7 <;> simp [g]
theorem f_turn_yes (h : c.ep ≤ c.heard) (he : c.ep ≤ 7) : fin trA 14 c.v [] = some (0, ({ c with ep := c.ep + 1, seq := 0 } : Ch).v ++ [B true], []) := by
  refine fin_tree trA ?_
  show o29.go _ _ _ = _
  have g : ¬ (c.heard : Int) < (c.ep : Int) := by omega
  have g1 : inB (c.ep : Int) 0 7 = true := by simp [inB]; omega
  have e4 : wr ((c.ep : Int) + 1) = ((c.ep + 1 : Nat) : Int) := by rw [wr_id (by omega) (by omega)]; omega
  simp only [Ch.v, o29, go_ask, go_need, go_call, go_ret, go_one, go_more, Te.ev, RT.ev, TL.ev, syL, List.getD_cons_zero, List.getD_cons_succ, List.map_cons, List.map_nil, List.cons_append, List.nil_append, List.append_nil, bv_add, bv_sub, bv_mul, bv_eql, bv_neq, bv_lss, bv_leq, bv_gtr, bv_geq, bv_rem, isT_bool, natOf_int, askV_bool, needV_bool, callV_some, decide_eq_true_eq, decide_true, decide_false, Bool.not_eq_true', decide_eq_false_iff_not, selfP, Nat.reduceEqDiff, Nat.succ_ne_zero, ↓reduceIte, if_true, if_false, Bool.false_eq_true, Bool.not_true, Bool.not_false, f_in, g1, g, e4, Bool.not_true, Bool.false_eq_true]
  rfl
/-- What has been heard. -/
def Held (c : Ch) (SN SL : Nat → Prop) (e s : Nat) : Prop := (e = c.heard ∧ SN s) ∨ (e + 1 = c.heard ∧ SL s) ∨ e + 1 < c.heard
/-- A channel that heard a record. -/
structure Heard (c : Ch) (SN SL : Nat → Prop) (e s : Nat) (c' : Ch) (SN' SL' : Nat → Prop) : Prop where
  app : c'.app = c.app
  side : c'.side = c.side
  ep : c'.ep = c.ep
  seq : c'.seq = c.seq
  heard : c'.heard = max c.heard e
  now : WR c'.nt c'.ns SN'
  last : WR c'.lt c'.ls SL'
  new : Held c' SN' SL' e s
  old : ∀ e' s', Held c SN SL e' s' → Held c' SN' SL' e' s'
  top : ∀ (E : Nat) (b : Int), (c.heard = E → c.nt < b) → (e = E → (s : Int) < b) → c'.heard = E → c'.nt < b
theorem Heard.cr {e s : Nat} {c' : Ch} {SN' SL' : Nat → Prop} (h : CR a c t SN SL) (k : Heard c SN SL e s c' SN' SL') (he : e ≤ 8) : CR a c' t SN' SL' :=
  ⟨by rw [k.app]; exact h.app, by rw [k.side]; exact h.side, by rw [k.ep]; exact h.ep, by rw [k.seq]; exact h.seq, by rw [k.heard]; have := h.heard; omega, k.now, k.last⟩
theorem WR_new : WR (-1) 0 (fun _ => False) := .inl ⟨rfl, rfl, fun _ h => h⟩
theorem WR.top {top seen : Int} {S : Nat → Prop} (h : WR top seen S) {s : Nat} (hs : S s) : (s : Int) ≤ top := by
  rcases h with ⟨rfl, rfl, h⟩ | ⟨t, m, rfl, rfl, h1, h2, h3, h4, hSS⟩
  · exact absurd hs (h s)
  · have := ((hSS s).1 hs).1; omega
theorem heard_now {s : Nat} {t' m' : Int} {S' : Nat → Prop} (h : CR a c t SN SL) (k : Noted c.nt SN s t' m' S') : Heard c SN SL c.heard s { c with nt := t', ns := m' } S' SL :=
  ⟨rfl, rfl, rfl, rfl, by simp, k.ok, h.last, .inl ⟨rfl, k.new⟩, fun e' s' h' => by
    rcases h' with ⟨h1, h2⟩ | h' | h'
    · exact .inl ⟨h1, k.old _ h2⟩
    · exact .inr (.inl h')
    · exact .inr (.inr h'), fun E b h1 h2 h3 => by have := k.top; have := h1 h3; have := h2 h3; show t' < b; omega⟩
theorem heard_last {e s : Nat} {t' m' : Int} {S' : Nat → Prop} (h : CR a c t SN SL) (he : e + 1 = c.heard) (k : Noted c.lt SL s t' m' S') : Heard c SN SL e s { c with lt := t', ls := m' } SN S' :=
  ⟨rfl, rfl, rfl, rfl, by show c.heard = _; omega, h.now, k.ok, .inr (.inl ⟨he, k.new⟩), fun e' s' h' => by
    rcases h' with h' | ⟨h1, h2⟩ | h'
    · exact .inl h'
    · exact .inr (.inl ⟨h1, k.old _ h2⟩)
    · exact .inr (.inr h'), fun E b h1 h2 h3 => h1 h3⟩
theorem heard_next {s : Nat} {t' m' : Int} {S' : Nat → Prop} (h : CR a c t SN SL) (k : Noted (-1) (fun _ => False) s t' m' S') : Heard c SN SL (c.heard + 1) s { c with heard := c.heard + 1, nt := t', ns := m', lt := c.nt, ls := c.ns } S' SN :=
  ⟨rfl, rfl, rfl, rfl, by show c.heard + 1 = _; omega, k.ok, h.now, .inl ⟨rfl, k.new⟩, fun e' s' h' => by
    rcases h' with ⟨h1, h2⟩ | ⟨h1, h2⟩ | h'
    · exact .inr (.inl ⟨by show e' + 1 = c.heard + 1; omega, h2⟩)
    · exact .inr (.inr (by show e' + 1 < c.heard + 1; omega))
    · exact .inr (.inr (by show e' + 1 < c.heard + 1; omega)), fun E b h1 h2 h3 => by have := k.top; have := h2 h3; show t' < b; omega⟩
theorem f_note {e s : Nat} (h : CR a c t SN SL) (hs : s ≤ 9999) (he : e ≤ c.heard + 1) (he' : c.heard ≤ e + 1) :
    (Held c SN SL e s ∧ ∃ c' : Ch, fin trA 32 (c.v ++ [I e, I s]) [] = some (0, c'.v ++ [B false], [])) ∨
    (¬ Held c SN SL e s ∧ ∃ c' SN' SL', fin trA 32 (c.v ++ [I e, I s]) [] = some (0, c'.v ++ [B true], []) ∧ Heard c SN SL e s c' SN' SL') := by
  have hh := h.heard
  have e4 : wr ((c.heard : Int) + 1) = ((c.heard + 1 : Nat) : Int) := by rw [wr_id (by omega) (by omega)]; omega
  by_cases g1 : e = c.heard
  · subst g1
    by_cases k : SN s
    · refine .inl ⟨.inl ⟨rfl, k⟩, c, fin_tree trA ?_⟩
      show o50.go _ _ _ = _
      have e1 := f_noted_no h.now hs k
      simp only [Ch.v, o50, go_ask, go_need, go_call, go_ret, go_one, go_more, Te.ev, RT.ev, TL.ev, syL, List.getD_cons_zero, List.getD_cons_succ, List.map_cons, List.map_nil, List.cons_append, List.nil_append, List.append_nil, bv_add, bv_sub, bv_mul, bv_eql, bv_neq, bv_lss, bv_leq, bv_gtr, bv_geq, bv_rem, isT_bool, natOf_int, askV_bool, needV_bool, callV_some, decide_eq_true_eq, decide_true, decide_false, Bool.not_eq_true', decide_eq_false_iff_not, selfP, Nat.reduceEqDiff, Nat.succ_ne_zero, ↓reduceIte, if_true, if_false, Bool.false_eq_true, Bool.not_true, Bool.not_false, e1]
    · refine .inr ⟨?_, ?_⟩
      · rintro (⟨_, h'⟩ | ⟨h', _⟩ | h')
        · exact k h'
        · omega
        · omega
      obtain ⟨t', m', S', e1, k1⟩ := f_noted_yes h.now hs k
      refine ⟨_, _, _, fin_tree trA ?_, heard_now h k1⟩
      show o50.go _ _ _ = _
      simp only [Ch.v, o50, go_ask, go_need, go_call, go_ret, go_one, go_more, Te.ev, RT.ev, TL.ev, syL, List.getD_cons_zero, List.getD_cons_succ, List.map_cons, List.map_nil, List.cons_append, List.nil_append, List.append_nil, bv_add, bv_sub, bv_mul, bv_eql, bv_neq, bv_lss, bv_leq, bv_gtr, bv_geq, bv_rem, isT_bool, natOf_int, askV_bool, needV_bool, callV_some, decide_eq_true_eq, decide_true, decide_false, Bool.not_eq_true', decide_eq_false_iff_not, selfP, Nat.reduceEqDiff, Nat.succ_ne_zero, ↓reduceIte, if_true, if_false, Bool.false_eq_true, Bool.not_true, Bool.not_false, e1]
  · have g1' : ¬ (e : Int) = (c.heard : Int) := by omega
    by_cases g2 : e = c.heard + 1
    · subst g2
      refine .inr ⟨?_, ?_⟩
      · rintro (⟨h', _⟩ | ⟨h', _⟩ | h') <;> omega
      obtain ⟨t', m', S', e1, k1⟩ := f_noted_yes WR_new hs id
      refine ⟨_, _, _, fin_tree trA ?_, heard_next h k1⟩
      show o50.go _ _ _ = _
      simp only [Ch.v, o50, go_ask, go_need, go_call, go_ret, go_one, go_more, Te.ev, RT.ev, TL.ev, syL, List.getD_cons_zero, List.getD_cons_succ, List.map_cons, List.map_nil, List.cons_append, List.nil_append, List.append_nil, bv_add, bv_sub, bv_mul, bv_eql, bv_neq, bv_lss, bv_leq, bv_gtr, bv_geq, bv_rem, isT_bool, natOf_int, askV_bool, needV_bool, callV_some, decide_eq_true_eq, decide_true, decide_false, Bool.not_eq_true', decide_eq_false_iff_not, selfP, Nat.reduceEqDiff, Nat.succ_ne_zero, ↓reduceIte, if_true, if_false, Bool.false_eq_true, Bool.not_true, Bool.not_false, g1', e4, f_winNew, e1]
    · have g2' : ¬ (e : Int) = ((c.heard + 1 : Nat) : Int) := by omega
      have g3 : e + 1 = c.heard := by omega
      by_cases k : SL s
      · refine .inl ⟨.inr (.inl ⟨g3, k⟩), c, fin_tree trA ?_⟩
        show o50.go _ _ _ = _
        have e1 := f_noted_no h.last hs k
        simp only [Ch.v, o50, go_ask, go_need, go_call, go_ret, go_one, go_more, Te.ev, RT.ev, TL.ev, syL, List.getD_cons_zero, List.getD_cons_succ, List.map_cons, List.map_nil, List.cons_append, List.nil_append, List.append_nil, bv_add, bv_sub, bv_mul, bv_eql, bv_neq, bv_lss, bv_leq, bv_gtr, bv_geq, bv_rem, isT_bool, natOf_int, askV_bool, needV_bool, callV_some, decide_eq_true_eq, decide_true, decide_false, Bool.not_eq_true', decide_eq_false_iff_not, selfP, Nat.reduceEqDiff, Nat.succ_ne_zero, ↓reduceIte, if_true, if_false, Bool.false_eq_true, Bool.not_true, Bool.not_false, g1', e4, g2', e1]
      · refine .inr ⟨?_, ?_⟩
        · rintro (⟨h', _⟩ | ⟨_, h'⟩ | h')
          · omega
          · exact k h'
          · omega
        obtain ⟨t', m', S', e1, k1⟩ := f_noted_yes h.last hs k
        refine ⟨_, _, _, fin_tree trA ?_, heard_last h g3 k1⟩
        show o50.go _ _ _ = _
        simp only [Ch.v, o50, go_ask, go_need, go_call, go_ret, go_one, go_more, Te.ev, RT.ev, TL.ev, syL, List.getD_cons_zero, List.getD_cons_succ, List.map_cons, List.map_nil, List.cons_append, List.nil_append, List.append_nil, bv_add, bv_sub, bv_mul, bv_eql, bv_neq, bv_lss, bv_leq, bv_gtr, bv_geq, bv_rem, isT_bool, natOf_int, askV_bool, needV_bool, callV_some, decide_eq_true_eq, decide_true, decide_false, Bool.not_eq_true', decide_eq_false_iff_not, selfP, Nat.reduceEqDiff, Nat.succ_ne_zero, ↓reduceIte, if_true, if_false, Bool.false_eq_true, Bool.not_true, Bool.not_false, g1', e4, g2', e1]
theorem f_undo {n : Nat} (hp : a <+: a') (hl : a'.length ≤ 90000000) : fin trA 29 [I (a.length : Int)] [encA a'] = some (0, [], [encA a]) := by
  refine fin_tree trA ?_
  show o49.go _ _ _ = _
  have hle := hp.length_le
  have e1 : wr ((a.length : Int) - 0) = (a.length : Int) := by rw [wr_id (by omega) (by omega)]; omega
  have e2 : (encA a').take a.length = encA a := by
    obtain ⟨s, rfl⟩ := hp
    simp [encA]
  have g0 : (0 : Int) ≤ (a.length : Int) := by omega
  simp only [o49, go_ask, go_need, go_call, go_ret, go_one, go_more, Te.ev, RT.ev, TL.ev, syL, List.getD_cons_zero, List.getD_cons_succ, List.map_cons, List.map_nil, List.cons_append, List.nil_append, List.append_nil, bv_add, bv_sub, bv_mul, bv_eql, bv_neq, bv_lss, bv_leq, bv_gtr, bv_geq, bv_rem, isT_bool, natOf_int, askV_bool, needV_bool, callV_some, decide_eq_true_eq, decide_true, decide_false, Bool.not_eq_true', decide_eq_false_iff_not, selfP, Nat.reduceEqDiff, Nat.succ_ne_zero, ↓reduceIte, if_true, if_false, Bool.false_eq_true, Bool.not_true, Bool.not_false, encA_len]
  by_cases g : (a.length : Int) < (a'.length : Int)
  · have g1 : (a.length : Int) ≤ (a'.length : Int) := by omega
    simp only [go_ask, go_need, go_call, go_ret, go_one, go_more, Te.ev, RT.ev, TL.ev, syL, List.getD_cons_zero, List.getD_cons_succ, List.map_cons, List.map_nil, List.cons_append, List.nil_append, List.append_nil, bv_add, bv_sub, bv_mul, bv_eql, bv_neq, bv_lss, bv_leq, bv_gtr, bv_geq, bv_rem, isT_bool, natOf_int, askV_bool, needV_bool, callV_some, decide_eq_true_eq, decide_true, decide_false, Bool.not_eq_true', decide_eq_false_iff_not, selfP, Nat.reduceEqDiff, Nat.succ_ne_zero, ↓reduceIte, if_true, if_false, Bool.false_eq_true, Bool.not_true, Bool.not_false, g, g0, g1, e1, e2, Int.le_refl, Int.toNat_natCast]
  · have : a = a' := hp.eq_of_length (by omega)
    subst this
    simp only [go_ask, go_need, go_call, go_ret, go_one, go_more, Te.ev, RT.ev, TL.ev, syL, List.getD_cons_zero, List.getD_cons_succ, List.map_cons, List.map_nil, List.cons_append, List.nil_append, List.append_nil, bv_add, bv_sub, bv_mul, bv_eql, bv_neq, bv_lss, bv_leq, bv_gtr, bv_geq, bv_rem, isT_bool, natOf_int, askV_bool, needV_bool, callV_some, decide_eq_true_eq, decide_true, decide_false, Bool.not_eq_true', decide_eq_false_iff_not, selfP, Nat.reduceEqDiff, Nat.succ_ne_zero, ↓reduceIte, if_true, if_false, Bool.false_eq_true, Bool.not_true, Bool.not_false, g]
theorem f_hear {e s : Nat} {k : Int} {u : Tm'} (ha : AOk a) (h : CR a c t SN SL) (hk : Den a k (((t.turn e).key (3 - c.side)).record e s u)) (he : e ≤ 8) (hs : s ≤ 9999) (hl : a.length + 40 ≤ 3000) :
    (∃ c' SN' SL' body, fin trA 33 (c.v ++ [I k]) [encA a] = some (0, c'.v ++ [I body, I 0], [encA a]) ∧ Heard c SN SL e s c' SN' SL' ∧ Den a body u ∧ ¬ Held c SN SL e s) ∨
    ∃ code, fin trA 33 (c.v ++ [I k]) [encA a] = some (0, c.v ++ [I (-1), I code], [encA a]) ∧ code ≠ 0 := by
  have hl' : a.length ≤ 90000000 := by omega
  have hh := h.heard; have hsd := h.side
  have e0 := f_chanOk ha hl' h
  have e1 := f_head ha hl' (key := 0) (t := t) (e := e) (s := s) (by omega) (by omega) hk
  have q1 : wr ((c.heard : Int) - 1) = (c.heard : Int) - 1 := wr_id (by omega) (by omega)
  have q2 : wr ((c.heard : Int) + 1) = (c.heard : Int) + 1 := wr_id (by omega) (by omega)
  have q3 : wr (3 - c.side) = 3 - c.side := wr_id (by omega) (by omega)
  simp only [Ch.v, go_ask, go_need, go_call, go_ret, go_one, go_more, Te.ev, RT.ev, TL.ev, syL, List.getD_cons_zero, List.getD_cons_succ, List.map_cons, List.map_nil, List.cons_append, List.nil_append, List.append_nil, bv_add, bv_sub, bv_mul, bv_eql, bv_neq, bv_lss, bv_leq, bv_gtr, bv_geq, bv_rem, isT_bool, natOf_int, askV_bool, needV_bool, callV_some, decide_eq_true_eq, decide_true, decide_false, Bool.not_eq_true', decide_eq_false_iff_not, selfP, Nat.reduceEqDiff, Nat.succ_ne_zero, ↓reduceIte, if_true, if_false, Bool.false_eq_true, Bool.not_true, Bool.not_false] at e0
  cases g : inB (e : Int) ((c.heard : Int) - 1) ((c.heard : Int) + 1) with
  | false =>
    refine .inr ⟨2, fin_tree trA ?_, by omega⟩
    show o30.go _ _ _ = _
    simp only [Ch.v, o30, go_ask, go_need, go_call, go_ret, go_one, go_more, Te.ev, RT.ev, TL.ev, syL, List.getD_cons_zero, List.getD_cons_succ, List.map_cons, List.map_nil, List.cons_append, List.nil_append, List.append_nil, bv_add, bv_sub, bv_mul, bv_eql, bv_neq, bv_lss, bv_leq, bv_gtr, bv_geq, bv_rem, isT_bool, natOf_int, askV_bool, needV_bool, callV_some, decide_eq_true_eq, decide_true, decide_false, Bool.not_eq_true', decide_eq_false_iff_not, selfP, Nat.reduceEqDiff, Nat.succ_ne_zero, ↓reduceIte, if_true, if_false, Bool.false_eq_true, Bool.not_true, Bool.not_false, e0, e1, f_in, q1, q2, g, Bool.not_true, Bool.false_eq_true, Bool.not_false]
  | true =>
    obtain ⟨a1, k1, e2, x1, d1⟩ := f_epoch he ha h.app (by omega)
    have l1 := x1.len
    obtain ⟨a2, k2, e3, x2, d2⟩ := f_side (n := 3 - c.side) x1.ok d1 (by omega) (by omega) (by omega)
    have l2 := x2.len
    have hk2 := (hk.mono x1.pre).mono x2.pre
    obtain ⟨j, e4, d4⟩ := f_openRec_yes x2.ok (by omega) (e := e) (s := s) (by omega) (by omega) d2 hk2
    have e5 := f_undo (n := 0) (x1.pre.trans x2.pre) (show a2.length ≤ 90000000 by omega)
    have dj : Den a j u := by
      obtain ⟨_, _, z, _, _, _, d⟩ := f_parts3 ha hl' hk
      obtain ⟨p, hp, i, jj, hz, _, _, d', _⟩ := den_bin ha d
      obtain ⟨_, _, z', _, _, _, d''⟩ := f_parts3 ha hl' d'
      have := d4.inj x2.ok ((d''.mono x1.pre).mono x2.pre)
      rw [this]; exact d''
    simp [inB] at g
    rcases f_note h hs (show e ≤ c.heard + 1 by omega) (by omega) with ⟨hh, c', e6⟩ | ⟨hh, c', SN', SL', e6, k6⟩
    · refine .inr ⟨4, fin_tree trA ?_, by omega⟩
      show o30.go _ _ _ = _
      have g' : inB (e : Int) ((c.heard : Int) - 1) ((c.heard : Int) + 1) = true := by simp [inB]; omega
      simp only [Ch.v, go_ask, go_need, go_call, go_ret, go_one, go_more, Te.ev, RT.ev, TL.ev, syL, List.getD_cons_zero, List.getD_cons_succ, List.map_cons, List.map_nil, List.cons_append, List.nil_append, List.append_nil, bv_add, bv_sub, bv_mul, bv_eql, bv_neq, bv_lss, bv_leq, bv_gtr, bv_geq, bv_rem, isT_bool, natOf_int, askV_bool, needV_bool, callV_some, decide_eq_true_eq, decide_true, decide_false, Bool.not_eq_true', decide_eq_false_iff_not, selfP, Nat.reduceEqDiff, Nat.succ_ne_zero, ↓reduceIte, if_true, if_false, Bool.false_eq_true, Bool.not_true, Bool.not_false] at e6
      simp only [Ch.v, o30, go_ask, go_need, go_call, go_ret, go_one, go_more, Te.ev, RT.ev, TL.ev, syL, List.getD_cons_zero, List.getD_cons_succ, List.map_cons, List.map_nil, List.cons_append, List.nil_append, List.append_nil, bv_add, bv_sub, bv_mul, bv_eql, bv_neq, bv_lss, bv_leq, bv_gtr, bv_geq, bv_rem, isT_bool, natOf_int, askV_bool, needV_bool, callV_some, decide_eq_true_eq, decide_true, decide_false, Bool.not_eq_true', decide_eq_false_iff_not, selfP, Nat.reduceEqDiff, Nat.succ_ne_zero, ↓reduceIte, if_true, if_false, Bool.false_eq_true, Bool.not_true, Bool.not_false, e0, e1, f_in, q1, q2, q3, g', e2, e3, e4, e5, e6, encA_len, Bool.not_true, Bool.false_eq_true, Bool.not_false]
    · refine .inl ⟨c', SN', SL', j, fin_tree trA ?_, k6, dj, hh⟩
      show o30.go _ _ _ = _
      have g' : inB (e : Int) ((c.heard : Int) - 1) ((c.heard : Int) + 1) = true := by simp [inB]; omega
      simp only [Ch.v, go_ask, go_need, go_call, go_ret, go_one, go_more, Te.ev, RT.ev, TL.ev, syL, List.getD_cons_zero, List.getD_cons_succ, List.map_cons, List.map_nil, List.cons_append, List.nil_append, List.append_nil, bv_add, bv_sub, bv_mul, bv_eql, bv_neq, bv_lss, bv_leq, bv_gtr, bv_geq, bv_rem, isT_bool, natOf_int, askV_bool, needV_bool, callV_some, decide_eq_true_eq, decide_true, decide_false, Bool.not_eq_true', decide_eq_false_iff_not, selfP, Nat.reduceEqDiff, Nat.succ_ne_zero, ↓reduceIte, if_true, if_false, Bool.false_eq_true, Bool.not_true, Bool.not_false] at e6
      simp only [Ch.v, o30, go_ask, go_need, go_call, go_ret, go_one, go_more, Te.ev, RT.ev, TL.ev, syL, List.getD_cons_zero, List.getD_cons_succ, List.map_cons, List.map_nil, List.cons_append, List.nil_append, List.append_nil, bv_add, bv_sub, bv_mul, bv_eql, bv_neq, bv_lss, bv_leq, bv_gtr, bv_geq, bv_rem, isT_bool, natOf_int, askV_bool, needV_bool, callV_some, decide_eq_true_eq, decide_true, decide_false, Bool.not_eq_true', decide_eq_false_iff_not, selfP, Nat.reduceEqDiff, Nat.succ_ne_zero, ↓reduceIte, if_true, if_false, Bool.false_eq_true, Bool.not_true, Bool.not_false, e0, e1, f_in, q1, q2, q3, g', e2, e3, e4, e5, e6, encA_len, Bool.not_true, Bool.false_eq_true, Bool.not_false]
end
end Go.Proofs.Ytipomcnbjlfekaa.Rs
