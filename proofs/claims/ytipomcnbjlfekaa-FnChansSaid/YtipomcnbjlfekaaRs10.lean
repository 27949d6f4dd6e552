/- A symbolic machine over the model's operations. Part 10: what is told of a function or a loop, in the caller's heap: that it fits. No program in sight. -/
import Derived.Test.YtipomcnbjlfekaaRs9
namespace Go.Proofs.Ytipomcnbjlfekaa.Rs
open Go.RowKit
set_option linter.unusedVariables false
set_option linter.unusedSimpArgs false
/-! ### Terms over symbols that there are; other terms for symbols -/
mutual
def bT (n m : Nat) : Te → Bool
  | .s i => Nat.blt i n
  | .l _ => true
  | .bin _ a b => bT n m a && bT n m b
  | .not a => bT n m a
  | .and a b => bT n m a && bT n m b
  | .cv _ a => bT n m a
  | .sl a => bT n m a
  | .len r => bR n m r
  | .cell r i _ => bR n m r && bT n m i
  | .ite c a b => bT n m c && bT n m a && bT n m b
  | .sub a i j => bT n m a && bT n m i && bT n m j
  | .str r => bR n m r
def bR (n m : Nat) : RT → Bool
  | .s i => Nat.blt i m
  | .nil => true
  | .one cs => bTL n m cs
  | .app a b => bR n m a && bR n m b
  | .set r i _ cs => bR n m r && bT n m i && bTL n m cs
  | .take r k => bR n m r && bT n m k
  | .drop r k => bR n m r && bT n m k
  | .rep cs k => bTL n m cs && bT n m k
  | .by a => bT n m a
def bTL (n m : Nat) : TL → Bool
  | .nil => true
  | .cons x xs => bT n m x && bTL n m xs
end
mutual
theorem bT_ev {q : Qn} {S : Sy} (hS : q.has S) : ∀ (x : Te), bT q.n q.m x = true → x.ev S = x.ev q.S
  | .s i, h => hS.1 i (by simpa [bT] using h)
  | .l _, _ => rfl
  | .bin _ a b, h => by simp only [bT, Bool.and_eq_true] at h; simp only [Te.ev, bT_ev hS a h.1, bT_ev hS b h.2]
  | .not a, h => by simp only [bT] at h; simp only [Te.ev, bT_ev hS a h]
  | .and a b, h => by simp only [bT, Bool.and_eq_true] at h; simp only [Te.ev, bT_ev hS a h.1, bT_ev hS b h.2]
  | .cv _ a, h => by simp only [bT] at h; simp only [Te.ev, bT_ev hS a h]
  | .sl a, h => by simp only [bT] at h; simp only [Te.ev, bT_ev hS a h]
  | .len r, h => by simp only [bT] at h; simp only [Te.ev, bR_ev hS r h]
  | .cell r i _, h => by simp only [bT, Bool.and_eq_true] at h; simp only [Te.ev, bR_ev hS r h.1, bT_ev hS i h.2]
  | .ite c a b, h => by simp only [bT, Bool.and_eq_true] at h; simp only [Te.ev, bT_ev hS c h.1.1, bT_ev hS a h.1.2, bT_ev hS b h.2]
  | .sub a i j, h => by simp only [bT, Bool.and_eq_true] at h; simp only [Te.ev, bT_ev hS a h.1.1, bT_ev hS i h.1.2, bT_ev hS j h.2]
  | .str r, h => by simp only [bT] at h; simp only [Te.ev, bR_ev hS r h]
theorem bR_ev {q : Qn} {S : Sy} (hS : q.has S) : ∀ (x : RT), bR q.n q.m x = true → x.ev S = x.ev q.S
  | .s i, h => hS.2 i (by simpa [bR] using h)
  | .nil, _ => rfl
  | .one cs, h => by simp only [bR] at h; simp only [RT.ev, bTL_ev hS cs h]
  | .app a b, h => by simp only [bR, Bool.and_eq_true] at h; simp only [RT.ev, bR_ev hS a h.1, bR_ev hS b h.2]
  | .set r i _ cs, h => by simp only [bR, Bool.and_eq_true] at h; simp only [RT.ev, bR_ev hS r h.1.1, bT_ev hS i h.1.2, bTL_ev hS cs h.2]
  | .take r k, h => by simp only [bR, Bool.and_eq_true] at h; simp only [RT.ev, bR_ev hS r h.1, bT_ev hS k h.2]
  | .drop r k, h => by simp only [bR, Bool.and_eq_true] at h; simp only [RT.ev, bR_ev hS r h.1, bT_ev hS k h.2]
  | .rep cs k, h => by simp only [bR, Bool.and_eq_true] at h; simp only [RT.ev, bTL_ev hS cs h.1, bT_ev hS k h.2]
  | .by a, h => by simp only [bR] at h; simp only [RT.ev, bT_ev hS a h]
theorem bTL_ev {q : Qn} {S : Sy} (hS : q.has S) : ∀ (x : TL), bTL q.n q.m x = true → x.ev S = x.ev q.S
  | .nil, _ => rfl
  | .cons x xs, h => by simp only [bTL, Bool.and_eq_true] at h; simp only [TL.ev, bT_ev hS x h.1, bTL_ev hS xs h.2]
end
section
variable (gv : Nat → Te) (gr : Nat → RT)
mutual
def sT : Te → Te
  | .s i => gv i
  | .l v => .l v
  | .bin op a b => .bin op (sT a) (sT b)
  | .not a => .not (sT a)
  | .and a b => .and (sT a) (sT b)
  | .cv k a => .cv k (sT a)
  | .sl a => .sl (sT a)
  | .len r => .len (sR r)
  | .cell r i j => .cell (sR r) (sT i) j
  | .ite c a b => .ite (sT c) (sT a) (sT b)
  | .sub a i j => .sub (sT a) (sT i) (sT j)
  | .str r => .str (sR r)
def sR : RT → RT
  | .s i => gr i
  | .nil => .nil
  | .one cs => .one (sTL cs)
  | .app a b => .app (sR a) (sR b)
  | .set r i j cs => .set (sR r) (sT i) j (sTL cs)
  | .take r k => .take (sR r) (sT k)
  | .drop r k => .drop (sR r) (sT k)
  | .rep cs k => .rep (sTL cs) (sT k)
  | .by a => .by (sT a)
def sTL : TL → TL
  | .nil => .nil
  | .cons x xs => .cons (sT x) (sTL xs)
end
/-- What canonical symbols mean. -/
def syOf (S : Sy) : Sy := ⟨fun i => (gv i).ev S, fun j => (gr j).ev S⟩
mutual
theorem sT_ev (S : Sy) : ∀ (x : Te), (sT gv gr x).ev S = x.ev (syOf gv gr S)
  | .s i => rfl
  | .l _ => rfl
  | .bin _ a b => by simp only [sT, Te.ev, sT_ev S a, sT_ev S b]
  | .not a => by simp only [sT, Te.ev, sT_ev S a]
  | .and a b => by simp only [sT, Te.ev, sT_ev S a, sT_ev S b]
  | .cv _ a => by simp only [sT, Te.ev, sT_ev S a]
  | .sl a => by simp only [sT, Te.ev, sT_ev S a]
  | .len r => by simp only [sT, Te.ev, sR_ev S r]
  | .cell r i _ => by simp only [sT, Te.ev, sR_ev S r, sT_ev S i]
  | .ite c a b => by simp only [sT, Te.ev, sT_ev S c, sT_ev S a, sT_ev S b]
  | .sub a i j => by simp only [sT, Te.ev, sT_ev S a, sT_ev S i, sT_ev S j]
  | .str r => by simp only [sT, Te.ev, sR_ev S r]
theorem sR_ev (S : Sy) : ∀ (x : RT), (sR gv gr x).ev S = x.ev (syOf gv gr S)
  | .s i => rfl
  | .nil => rfl
  | .one cs => by simp only [sR, RT.ev, sTL_ev S cs]
  | .app a b => by simp only [sR, RT.ev, sR_ev S a, sR_ev S b]
  | .set r i _ cs => by simp only [sR, RT.ev, sR_ev S r, sT_ev S i, sTL_ev S cs]
  | .take r k => by simp only [sR, RT.ev, sR_ev S r, sT_ev S k]
  | .drop r k => by simp only [sR, RT.ev, sR_ev S r, sT_ev S k]
  | .rep cs k => by simp only [sR, RT.ev, sTL_ev S cs, sT_ev S k]
  | .by a => by simp only [sR, RT.ev, sT_ev S a]
theorem sTL_ev (S : Sy) : ∀ (x : TL), (sTL gv gr x).ev S = x.ev (syOf gv gr S)
  | .nil => rfl
  | .cons x xs => by simp only [sTL, TL.ev, sT_ev S x, sTL_ev S xs]
end
end
/-! ### It fits -/
def gvOf (s : Sum) (m : Mt) (i : Nat) : Te := bif Nat.blt i s.nv then (m.v.get i).getD (.l undef) else .s (i - s.nv + m.H.n)
def grOf (s : Sum) (m : Mt) (j : Nat) : RT := bif Nat.blt j s.nr then (m.r.get j).getD .nil else .s (j - s.nr + m.H.m)
def isRowsB : Option Bl → Bool
  | some (.rows _ _ _ _) => true
  | _ => false
def isSyB : Option Bl → Bool
  | some (.sy _ _ _ _) => true
  | _ => false
def vC (s : Sum) (m : Mt) : AC → AC → Bool
  | .v x, .v y => valEq x y
  | .t k (.s i), y =>
    match teO y, m.v.get i with
    | some (k', te), some te' => Nat.blt i s.nv && ckEq k k' && teEq te' te
    | _, _ => false
  | .p c o, .p b o' =>
    match m.b.get c with
    | some (b', oc) => bif isSyB (s.bl[c]?) then Nat.beq b b' && Nat.beq o o' else isRowsB (s.bl[c]?) && Nat.beq b b' && Nat.beq (oc + o) o'
    | none => false
  | .sr c, .sr b =>
    match m.b.get c with
    | some (b', _) => isSyB (s.bl[c]?) && Nat.beq b b'
    | none => false
  | _, _ => false
def vL (s : Sum) (m : Mt) : List AC → List AC → Bool
  | [], [] => true
  | p :: ps, x :: xs => vC s m p x && vL s m ps xs
  | _, _ => false
def vV (s : Sum) (m : Mt) : AV → AV → Bool
  | .c p, .c x => vC s m p x
  | .ag ps, .ag xs => vL s m ps xs
  | _, _ => false
def vA (s : Sum) (m : Mt) : List SV → List SV → Bool
  | [], [] => true
  | .o p :: ps, .o x :: xs => vV s m p x && vA s m ps xs
  | _, _ => false
def vB (s : Sum) (m : Mt) (c : Nat) : Bool :=
  match s.bl[c]?, m.b.get c with
  | some (.rows none z 1 es0), some (b, o) =>
    match m.H.bs.get b, es0.get 0 with
    | some (.rows tb zb 1 es), some ps =>
      match es.get 0 with
      | some xs => vL s m ps ((xs.drop o).take z) && Nat.ble (o + z) zb && Nat.blt 0 z
      | none => false
    | _, _ => false
  | some (.sy own t ks (.s j)), some (b, _) =>
    match m.H.bs.get b, m.r.get j with
    | some (.sy own' t' ks' rt), some rt' => (own == own') && Nat.beq t t' && ksEq ks ks' && Nat.blt j s.nr && rtEq rt' rt
    | _, _ => false
  | _, _ => false
/-- Two blocks that are asked for lie apart. -/
def vD (s : Sum) (m : Mt) (c d : Nat) : Bool :=
  match s.bl[c]?, m.b.get c, s.bl[d]?, m.b.get d with
  | some (.rows _ z _ _), some (b, o), some (.rows _ z' _ _), some (b', o') => !(Nat.beq b b') || Nat.ble (o + z) o' || Nat.ble (o' + z') o
  | some _, some (b, _), some _, some (b', _) => !(Nat.beq b b')
  | _, _, _, _ => false
def allN (f : Nat → Bool) : Nat → Bool
  | 0 => true
  | n + 1 => allN f n && f n
theorem allN_get {f : Nat → Bool} : ∀ {n : Nat}, allN f n = true → ∀ k, k < n → f k = true
  | n + 1, h, k, hk => by
    simp only [allN, Bool.and_eq_true] at h
    by_cases e : k = n
    · rw [e]; exact h.2
    · exact allN_get h.1 k (by omega)
def okM (s : Sum) (as : List SV) (m : Mt) : Bool :=
  vA s m s.as0 as && allN (vB s m) s.bl.length && allN (fun c => allN (fun d => vD s m c d) c) s.bl.length && allN (fun i => bT m.H.n m.H.m (gvOf s m i)) s.nv && allN (fun j => bR m.H.n m.H.m (grOf s m j)) s.nr
/-- Where what is asked for lies. -/
def rgOf (s : Sum) (m : Mt) (E : Env) (c : Nat) : Option Rg :=
  match s.bl[c]?, m.b.get c with
  | some (.rows _ z _ _), some (b, o) => (E b).map fun r => ⟨r.own, r.lo + o, 1, z, r.t, false, undef⟩
  | some (.sy _ _ _ _), some (b, _) => E b
  | _, _ => none
def e0Of (s : Sum) (m : Mt) (E : Env) : Env := ⟨rgOf s m E, ⟨s.nv, s.nr, syOf (gvOf s m) (grOf s m) E.q.S⟩⟩
/-- What the callee may not touch: all that there is and is not handed on. -/
def frOf (s : Sum) (m : Mt) (E : Env) (w : World) : Fr := fun g o => g < w.heap.size ∧ ¬ ∃ c r, rgOf s m E c = some r ∧ r.has g o
section
variable {C : Cfg} {fr : Fr} {E : Env} {w0 : World} {w w' : World} {s : Sum} {m : Mt} {as : List SV}
structure Fits (s : Sum) (as : List SV) (m : Mt) : Prop where
  args : vA s m s.as0 as = true
  blks : ∀ c, c < s.bl.length → vB s m c = true
  dist : ∀ c, c < s.bl.length → ∀ d, d < c → vD s m c d = true
  bv : ∀ i, i < s.nv → bT m.H.n m.H.m (gvOf s m i) = true
  br : ∀ j, j < s.nr → bR m.H.n m.H.m (grOf s m j) = true
theorem okM_fits (h : okM s as m = true) : Fits s as m := by
  simp only [okM, Bool.and_eq_true] at h
  exact ⟨h.1.1.1.1, allN_get h.1.1.1.2, fun c hc => allN_get (allN_get h.1.1.2 c hc), allN_get h.1.2, allN_get h.2⟩
/-- Symbols that were bound mean what they are bound to. -/
theorem e0_v (hf : Fits s as m) (hH : RelH fr w0 E m.H w) {i : Nat} (hi : i < s.nv) {S : Sy} (hS : E.q.has S) : (gvOf s m i).ev S = (e0Of s m E).q.S.v i := by
  have h := hf.bv i hi
  rw [← hH.cnt.1, ← hH.cnt.2] at h
  exact bT_ev hS _ h
theorem e0_r (hf : Fits s as m) (hH : RelH fr w0 E m.H w) {j : Nat} (hj : j < s.nr) {S : Sy} (hS : E.q.has S) : (grOf s m j).ev S = (e0Of s m E).q.S.r j := by
  have h := hf.br j hj
  rw [← hH.cnt.1, ← hH.cnt.2] at h
  exact bR_ev hS _ h
theorem isRowsB_ex {x : Option Bl} (h : isRowsB x = true) : ∃ t z n es, x = some (.rows t z n es) := by
  unfold isRowsB at h
  split at h
  · exact ⟨_, _, _, _, rfl⟩
  · cases h
theorem isSyB_ex {x : Option Bl} (h : isSyB x = true) : ∃ o t ks rt, x = some (.sy o t ks rt) := by
  unfold isSyB at h
  split at h
  · exact ⟨_, _, _, _, rfl⟩
  · cases h
/-- A cell that is asked for. -/
theorem vC_ok (hf : Fits s as m) (hH : RelH fr w0 E m.H w) {p x : AC} (h : vC s m p x = true) {u : Value} (hu : RelC E x u) : RelC (e0Of s m E) p u := by
  unfold vC at h
  split at h
  · rw [valEq_eq h]; exact hu
  · rename_i y k i
    split at h
    · rename_i k' te te' h1 h2
      simp only [Bool.and_eq_true, Nat.blt_eq] at h
      obtain ⟨⟨hi, hk⟩, ht⟩ := h
      obtain rfl := ckEq_eq hk
      obtain rfl := teEq_eq _ _ ht
      obtain ⟨g1, g2⟩ := teO_rel h1 hu
      refine ⟨g1, fun S hS => ?_⟩
      have e1 : S.v i = (e0Of s m E).q.S.v i := hS.1 i hi
      simp only [Te.ev]
      rw [e1, ← e0_v hf hH hi E.q.has_self]
      have : gvOf s m i = te' := by
        unfold gvOf
        rw [show Nat.blt i s.nv = true by simpa using hi, cond_true, h2]
        rfl
      rw [this]
      exact g2 _ E.q.has_self
    · cases h
  · rename_i c o b o'
    split at h
    · rename_i b' oc hb
      cases hsy : isSyB (s.bl[c]?) with
      | true =>
        rw [hsy, cond_true] at h
        simp only [Bool.and_eq_true, beq_eq, decide_eq_true_eq] at h
        obtain ⟨rfl, rfl⟩ := h
        obtain ⟨o1, t, ks, rt, hc⟩ := isSyB_ex hsy
        obtain ⟨r, g, hE, hg, rfl⟩ := hu
        exact ⟨r, g, by show rgOf s m E c = _; simp only [rgOf, hc, hb, hE], hg, rfl⟩
      | false =>
      rw [hsy, cond_false] at h
      simp only [Bool.and_eq_true, beq_eq, decide_eq_true_eq] at h
      obtain ⟨⟨hr, rfl⟩, rfl⟩ := h
      obtain ⟨t, z, n, es, hc⟩ := isRowsB_ex hr
      obtain ⟨r, g, hE, hg, rfl⟩ := hu
      exact ⟨⟨r.own, r.lo + oc, 1, z, r.t, false, undef⟩, g, by show rgOf s m E c = _; simp only [rgOf, hc, hb, hE, Option.map_some], hg, by simp only [Nat.add_assoc]⟩
    · cases h
  · rename_i c b
    split at h
    · rename_i b' oc hb
      simp only [Bool.and_eq_true, beq_eq, decide_eq_true_eq] at h
      obtain ⟨hr, rfl⟩ := h
      obtain ⟨o, t, ks, rt, hc⟩ := isSyB_ex hr
      obtain ⟨r, hE, hv⟩ := hu
      exact ⟨r, by show rgOf s m E c = _; simp only [rgOf, hc, hb, hE], hv⟩
    · cases h
  · cases h
theorem vL_ok (hf : Fits s as m) (hH : RelH fr w0 E m.H w) : ∀ {ps xs : List AC} {us : List Value}, vL s m ps xs = true → RelL E xs us → RelL (e0Of s m E) ps us
  | [], [], us, h, hr => by
    have : us = [] := List.eq_nil_of_length_eq_zero (by rw [← hr.1]; rfl)
    subst this
    exact RelL.nil
  | p :: ps, x :: xs, us, h, hr => by
    simp only [vL, Bool.and_eq_true] at h
    cases us with
    | nil => exact absurd hr.1 (by simp)
    | cons u us => exact RelL.cons (vC_ok hf hH h.1 (hr.2 0 x u rfl rfl)) (vL_ok hf hH h.2 ⟨by simpa using hr.1, fun j y v hy hv => hr.2 (j + 1) y v (by simpa using hy) (by simpa using hv)⟩)
  | [], _ :: _, us, h, hr => by cases h
  | _ :: _, [], us, h, hr => by cases h
theorem vA_ok (hf : Fits s as m) (hH : RelH fr w0 E m.H w) : ∀ {ps xs : List SV} {us : List Value}, vA s m ps xs = true → xs.length = us.length → (∀ (j : Nat) x v, xs[j]? = some x → us[j]? = some v → RelS E x v) →
    ps.length = us.length ∧ ∀ (j : Nat) x v, ps[j]? = some x → us[j]? = some v → RelS (e0Of s m E) x v
  | [], [], us, h, hl, hr => ⟨hl, fun j x v hx => by simp at hx⟩
  | .o p :: ps, .o x :: xs, us, h, hl, hr => by
    simp only [vA, Bool.and_eq_true] at h
    cases us with
    | nil => exact absurd hl (by simp)
    | cons u us =>
      obtain ⟨k1, k2⟩ := vA_ok hf hH h.2 (us := us) (by simpa using hl) (fun j y v hy hv => hr (j + 1) y v (by simpa using hy) (by simpa using hv))
      refine ⟨by simp [k1], fun j y v hy hv => ?_⟩
      cases j with
      | zero =>
        simp at hy hv
        subst hy hv
        have h0 := hr 0 (.o x) u rfl rfl
        cases p with
        | c p => cases x with
          | c x => exact vC_ok hf hH h.1 h0
          | ag x => cases h.1
        | ag p => cases x with
          | c x => cases h.1
          | ag x => obtain ⟨arr, e, hl⟩ := h0; exact ⟨arr, e, vL_ok hf hH h.1 hl⟩
      | succ j => exact k2 j y v (by simpa using hy) (by simpa using hv)
  | [], _ :: _, us, h, hl, hr => by cases h
  | .o _ :: _, [], us, h, hl, hr => by cases h
  | .tu _ :: _, _, us, h, hl, hr => by cases h
  | .o _ :: _, .tu _ :: _, us, h, hl, hr => by cases h
/-- What is asked for lies within the caller's blocks. -/
theorem rgOf_in (hf : Fits s as m) {c : Nat} {r0 : Rg} (h : rgOf s m E c = some r0) : ∃ b o r bl, c < s.bl.length ∧ m.b.get c = some (b, o) ∧ E b = some r ∧ m.H.bs.get b = some bl ∧ ((∃ t z n es tb zb es', s.bl[c]? = some (.rows t z n es) ∧ bl = .rows tb zb 1 es' ∧ o + z ≤ zb ∧ r0 = ⟨r.own, r.lo + o, 1, z, r.t, false, undef⟩) ∨ (∃ own t ks rt own' t' ks' rt', s.bl[c]? = some (.sy own t ks rt) ∧ bl = .sy own' t' ks' rt' ∧ r0 = r)) := by
  unfold rgOf at h
  split at h
  · rename_i t z n es b o hc hb
    obtain ⟨r, hE, rfl⟩ := Option.map_eq_some_iff.1 h
    have hlt : c < s.bl.length := (List.getElem?_eq_some_iff.1 hc).1
    have hv := hf.blks c hlt
    unfold vB at hv
    split at hv
    · rename_i z' es0 b' o' hc' hb'
      rw [hc] at hc'
      cases hc'
      rw [hb] at hb'
      cases hb'
      split at hv
      · rename_i tb zb es' ps hbs hps
        split at hv
        · rename_i xs hx
          simp only [Bool.and_eq_true, Nat.ble_eq] at hv
          exact ⟨b, o, r, _, hlt, hb, hE, hbs, .inl ⟨_, z, _, es, tb, zb, es', hc, rfl, hv.1.2, rfl⟩⟩
        · cases hv
      · cases hv
    · rename_i hc' _
      rw [hc] at hc'
      cases hc'
    · cases hv
  · rename_i own t ks rt b o hc hb
    have hlt : c < s.bl.length := (List.getElem?_eq_some_iff.1 hc).1
    have hv := hf.blks c hlt
    unfold vB at hv
    split at hv
    · rename_i hc' _
      rw [hc] at hc'
      cases hc'
    · rename_i own' t' ks' j b' o' hc' hb'
      rw [hb] at hb'
      cases hb'
      split at hv
      · rename_i own2 t2 ks2 rt2 rt3 hbs hr
        exact ⟨b, o, r0, _, hlt, hb, h, hbs, .inr ⟨own, t, ks, rt, own2, t2, ks2, rt2, hc, rfl, rfl⟩⟩
      · cases hv
    · cases hv
  · cases h
theorem rgOf_has (hf : Fits s as m) (hH : RelH fr w0 E m.H w) {c : Nat} {r0 : Rg} (h : rgOf s m E c = some r0) {g o : Nat} (ho : r0.has g o) : ∃ b p r bl, m.b.get c = some (b, p) ∧ E b = some r ∧ m.H.bs.get b = some bl ∧ r.has g o := by
  obtain ⟨b, p, r, bl, hlt, hb, hE, hbs, hor⟩ := rgOf_in hf h
  refine ⟨b, p, r, bl, hb, hE, hbs, ?_⟩
  rcases hor with ⟨t, z, n, es, tb, zb, es', hc, rfl, hz, rfl⟩ | ⟨_, _, _, _, _, _, _, _, _, _, rfl⟩
  · obtain ⟨_, r', g', arr, hE', hg', hrz, _, _, _, _, hn, _⟩ := hH.blk _ _ hbs
    rw [hE] at hE'; cases hE'
    obtain ⟨h1, h2⟩ := ho
    rcases h2 with h2 | ⟨h2, h3⟩
    · cases h2
    · simp only [Nat.one_mul] at h2 h3
      refine ⟨h1, .inr ⟨by omega, ?_⟩⟩
      have : 1 * r.z ≤ r.cap * r.z := Nat.mul_le_mul_right _ hn
      rw [hrz] at this ⊢
      omega
  · exact ho
theorem fr_sub (hf : Fits s as m) (hH : RelH fr w0 E m.H w) : ∀ g o, fr g o → frOf s m E w g o := by
  intro g o h
  refine ⟨Nat.lt_of_lt_of_le (hH.frlt g o h) hH.keep.size, ?_⟩
  rintro ⟨c, r0, hc, ho⟩
  obtain ⟨b, p, r, bl, _, hE, hbs, hr⟩ := rgOf_has hf hH hc ho
  exact hH.free b bl r g o hbs hE hr h
/-- The callee's heap. -/
theorem callee (hf : Fits s as m) (hH : RelH fr w0 E m.H w) : RelH (frOf s m E w) w (e0Of s m E) s.H0 w := by
  have hget : ∀ c bl, s.H0.bs.get c = some bl → s.bl[c]? = some bl := by
    intro c bl h
    simp only [Sum.H0, hpOf_get, List.getElem?_map] at h
    cases hq : s.bl[c]? with
    | none => rw [hq] at h; cases h
    | some x => rw [hq] at h; exact h
  have hlt : ∀ c bl, s.bl[c]? = some bl → c < s.bl.length := fun c bl h => (List.getElem?_eq_some_iff.1 h).1
  refine ⟨fun c bl h => ⟨by simpa [Sum.H0, hpOf] using hlt c bl (hget c bl h), ?_⟩, fun c hc => ?_, ?_, ?_, fun g o h => h.1, Keeps.refl _ _, ⟨rfl, rfl⟩⟩
  · have hc := hget c bl h
    have hv := hf.blks c (hlt c bl hc)
    unfold vB at hv
    split at hv
    · rename_i z es0 b o hc' hb
      rw [hc] at hc'
      cases hc'
      split at hv
      · rename_i tb zb es ps hbs hps
        split at hv
        · rename_i xs hx
          simp only [Bool.and_eq_true, Nat.ble_eq, Nat.blt_eq] at hv
          obtain ⟨⟨hvl, hoz⟩, hz0⟩ := hv
          obtain ⟨_, r, g, arr, hE, hg, hrz, hheap, q1, q2, q3, hn, q4, q5, hes⟩ := hH.blk _ _ hbs
          obtain ⟨xs', hx', hrel⟩ := hes 0 (by omega)
          rw [hx] at hx'; cases hx'
          have h1 : 1 * zb ≤ r.cap * zb := Nat.mul_le_mul_right _ hn
          refine ⟨⟨r.own, r.lo + o, 1, z, r.t, false, undef⟩, g, arr, by show rgOf s m E c = _; simp only [rgOf, hc, hb, hE, Option.map_some], hg, rfl, hheap, fun h => (by cases h), (by simp only; omega), .inr (by simp only; omega), Nat.le_refl _, (by simp [maxLen]), fun t' h => (by cases h), fun i hi => ?_⟩
          obtain rfl : i = 0 := by omega
          refine ⟨ps, hps, ?_⟩
          have := vL_ok hf hH hvl ((hrel.drop o).take z)
          simp only [Nat.zero_mul, Nat.add_zero] at this ⊢
          rw [take_of_take _ _ _ _ hoz, List.drop_drop] at this
          exact this
        · cases hv
      · cases hv
    · rename_i own t ks j b o hc' hb
      rw [hc] at hc'
      cases hc'
      split at hv
      · rename_i own' t' ks' rt rt' hbs hr
        simp only [Bool.and_eq_true, beq_iff_eq, Nat.blt_eq, beq_eq, decide_eq_true_eq] at hv
        obtain ⟨⟨⟨⟨rfl, rfl⟩, hk⟩, hj⟩, hrt⟩ := hv
        obtain rfl := ksEq_eq hk
        obtain rfl := rtEq_eq _ _ hrt
        obtain ⟨_, r, L, hE, k1, k2, k3, k4⟩ := hH.blk _ _ hbs
        refine ⟨r, L, by show rgOf s m E c = _; simp only [rgOf, hc, hb, hE], k1, fun S hS => ?_, k3, ?_⟩
        · have e1 : S.r j = (e0Of s m E).q.S.r j := hS.2 j hj
          simp only [RT.ev]
          rw [e1, ← e0_r hf hH hj E.q.has_self]
          have : grOf s m j = rt' := by
            unfold grOf
            rw [show Nat.blt j s.nr = true by simpa using hj, cond_true, hr]
            rfl
          rw [this]
          exact k2 _ E.q.has_self
        · cases own with
          | true => exact k4
          | false =>
            obtain ⟨p1, a, cc, p2, p3, p4, p5⟩ := k4
            refine ⟨p1, a, cc, p2, p3, p4, fun hp => ?_⟩
            obtain ⟨g, oo, arr, t2, fz, a1, a2, a3, a4, a5⟩ := p5 hp
            exact ⟨g, oo, arr, t2, fz, a1, a2, a3, a4, fun x h1 h2 => fr_sub hf hH _ _ (a5 x h1 h2)⟩
      · cases hv
    · cases hv
  · show rgOf s m E c = none
    unfold rgOf
    rw [List.getElem?_eq_none (by simpa [Sum.H0, hpOf] using hc)]
  · intro c d bl bl' r r' g o hc hd e1 e2 h1 h2
    have key : ∀ c d bl bl' r r', s.bl[c]? = some bl → s.bl[d]? = some bl' → rgOf s m E c = some r → rgOf s m E d = some r' → r.has g o → r'.has g o → d < c → False := by
      intro c d bl bl' r r' hc hd e1 e2 h1 h2 hlt'
      have hv := hf.dist c (hlt c bl hc) d hlt'
      obtain ⟨b, p, q, bb, hb, hE, hbs, hq⟩ := rgOf_has hf hH e1 h1
      obtain ⟨b', p', q', bb', hb', hE', hbs', hq'⟩ := rgOf_has hf hH e2 h2
      have hbb := hH.apart b b' bb bb' q q' g o hbs hbs' hE hE' hq hq'
      subst hbb
      rw [hE] at hE'; cases hE'
      unfold vD at hv
      rw [hc, hd, hb, hb'] at hv
      split at hv
      · rename_i t1 z1 n1 es1 b1 o1 t2 z2 n2 es2 b2 o2 heq1 heq2 heq3 heq4
        cases heq1; cases heq2; cases heq3; cases heq4
        have a1 : r = ⟨q.own, q.lo + p, 1, z1, q.t, false, undef⟩ := by
          have : rgOf s m E c = some ⟨q.own, q.lo + p, 1, z1, q.t, false, undef⟩ := by simp only [rgOf, hc, hb, hE, Option.map_some]
          rw [e1] at this
          exact Option.some.inj this
        have a2 : r' = ⟨q.own, q.lo + p', 1, z2, q.t, false, undef⟩ := by
          have : rgOf s m E d = some ⟨q.own, q.lo + p', 1, z2, q.t, false, undef⟩ := by simp only [rgOf, hd, hb', hE, Option.map_some]
          rw [e2] at this
          exact Option.some.inj this
        subst a1 a2
        obtain ⟨_, h1⟩ := h1
        obtain ⟨_, h2⟩ := h2
        rcases h1 with h1 | ⟨h1, h3⟩
        · cases h1
        · rcases h2 with h2 | ⟨h2, h4⟩
          · cases h2
          · simp only [Nat.one_mul] at h1 h2 h3 h4
            have hbb : Nat.beq b b = true := by simp
            simp only [hbb, Bool.not_true, Bool.false_or, Bool.or_eq_true, Nat.ble_eq] at hv
            rcases hv with hv | hv
            · omega
            · omega
      · rename_i b1 _ _ b2 _ _ heq1 heq2 heq3 heq4
        cases heq2; cases heq4
        have hbb : Nat.beq b b = true := by simp
        rw [hbb] at hv
        cases hv
      · cases hv
    rcases Nat.lt_trichotomy c d with hcd | hcd | hcd
    · exact (key d c bl' bl r' r (hget d bl' hd) (hget c bl hc) e2 e1 h2 h1 hcd).elim
    · exact hcd
    · exact (key c d bl bl' r r' (hget c bl hc) (hget d bl' hd) e1 e2 h1 h2 hcd).elim
  · intro c bl r g o hc e1 h1 h2
    exact h2.2 ⟨c, r, e1, h1⟩
end
end Go.Proofs.Ytipomcnbjlfekaa.Rs
