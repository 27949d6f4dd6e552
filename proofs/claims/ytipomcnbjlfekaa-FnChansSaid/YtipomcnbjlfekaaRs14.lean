/- A symbolic machine over the model's operations. Part 14: an end, as what is told. No program in sight. -/
import Derived.Test.YtipomcnbjlfekaaRs13
namespace Go.Proofs.Ytipomcnbjlfekaa.Rs
open Go.RowKit
set_option linter.unusedVariables false
set_option linter.unusedSimpArgs false
def oldB : Nat → Tr (Nat × Nat) → Tr (Nat × Nat)
  | 0, t => t
  | n + 1, t => (oldB n t).put n (some (n, 0))
/-- Ends are bound: what is new. -/
def bindE (s : Sum) (al : Alt) (xs : List SV) (H : Hp) : List SV × Mt :=
  ((nA (s.H1 al) H al.res xs).1, bBs (s.H1 al) (s.H1 al).next 0 (bA ⟨.e, .e, oldB s.bl.length .e, (nA (s.H1 al) H al.res xs).2⟩ al.res (nA (s.H1 al) H al.res xs).1))
def lv (s : Sum) (m : Mt) (i : Nat) : Te := bif Nat.blt i s.nv then .s i else (m.v.get i).getD (.l undef)
def lr (s : Sum) (m : Mt) (j : Nat) : RT := bif Nat.blt j s.nr then .s j else (m.r.get j).getD .nil
def lb (s : Sum) (m : Mt) (c : Nat) : Option Nat := bif Nat.blt c s.bl.length then some c else (m.b.get c).map (·.1)
def isB (s : Sum) (al : Alt) (m : Mt) (c b : Nat) : Bool :=
  match lb s m c with
  | some b' => Nat.beq b' b && Nat.blt c al.bl.length
  | none => false
theorem isB_eq {s : Sum} {al : Alt} {m : Mt} {c b : Nat} (h : isB s al m c b = true) : lb s m c = some b ∧ c < al.bl.length := by
  unfold isB at h
  split at h
  · rename_i b' hb
    simp only [Bool.and_eq_true, Nat.blt_eq] at h
    rw [hb, Nat.eq_of_beq_eq_true h.1]
    exact ⟨rfl, h.2⟩
  · cases h
def wC (s : Sum) (al : Alt) (m : Mt) : AC → AC → Bool
  | .v x, .v y => valEq x y
  | .t k pt, y =>
    match teO y with
    | some (k', te) => ckEq k k' && teEq (sT (lv s m) (lr s m) pt) te && bT (s.nv + al.mv) (s.nr + al.mr) pt
    | none => false
  | .p c o, .p b o' => isB s al m c b && Nat.beq o o'
  | .sr c, .sr b => isB s al m c b
  | .em, .em => true
  | _, _ => false
def wL (s : Sum) (al : Alt) (m : Mt) : List AC → List AC → Bool
  | [], [] => true
  | p :: ps, x :: xs => wC s al m p x && wL s al m ps xs
  | _, _ => false
def wV (s : Sum) (al : Alt) (m : Mt) : AV → AV → Bool
  | .c p, .c x => wC s al m p x
  | .ag ps, .ag xs => wL s al m ps xs
  | _, _ => false
def wVs (s : Sum) (al : Alt) (m : Mt) : List AV → List AV → Bool
  | [], [] => true
  | p :: ps, x :: xs => wV s al m p x && wVs s al m ps xs
  | _, _ => false
def wS (s : Sum) (al : Alt) (m : Mt) : SV → SV → Bool
  | .o p, .o x => wV s al m p x
  | .tu ps, .tu xs => wVs s al m ps xs
  | _, _ => false
def wA (s : Sum) (al : Alt) (m : Mt) : List SV → List SV → Bool
  | [], [] => true
  | p :: ps, x :: xs => wS s al m p x && wA s al m ps xs
  | _, _ => false
def eqO : Option Nat → Option Nat → Bool
  | none, none => true
  | some a, some b => Nat.beq a b
  | _, _ => false
def wB (s : Sum) (al : Alt) (m : Mt) (c : Nat) : Bool :=
  match (al.bl[c]?).join with
  | none => true
  | some (.rows t z 1 es0) =>
    match (lb s m c).bind m.H.bs.get with
    | some (.rows t' z' 1 es) =>
      match es0.get 0, es.get 0 with
      | some ps, some xs => eqO t t' && Nat.beq z z' && wL s al m ps xs
      | _, _ => false
    | _ => false
  | some (.sy own t ks prt) =>
    match (lb s m c).bind m.H.bs.get with
    | some (.sy own' t' ks' rt) => (own == own') && Nat.beq t t' && ksEq ks ks' && rtEq (sR (lv s m) (lr s m) prt) rt && bR (s.nv + al.mv) (s.nr + al.mr) prt
    | _ => false
  | _ => false
def wD (s : Sum) (al : Alt) (m : Mt) (c d : Nat) : Bool :=
  match (al.bl[c]?).join, (al.bl[d]?).join, lb s m c, lb s m d with
  | some _, some _, some b, some b' => !(Nat.beq b b')
  | _, _, _, _ => true
def okE (s : Sum) (al : Alt) (xs : List SV) (m : Mt) : Bool :=
  wA s al m al.res xs && allN (wB s al m) al.bl.length && allN (fun c => allN (fun d => wD s al m c d) c) al.bl.length && Nat.ble s.bl.length al.bl.length
section
variable {C : Cfg} {fr : Fr} {E E0 : Env} {w0 : World} {w w' : World} {s : Sum} {al : Alt} {m : Mt} {xs : List SV}
structure FitE (s : Sum) (al : Alt) (xs : List SV) (m : Mt) : Prop where
  res : wA s al m al.res xs = true
  blk : ∀ c, c < al.bl.length → wB s al m c = true
  dist : ∀ c, c < al.bl.length → ∀ d, d < c → wD s al m c d = true
  len : s.bl.length ≤ al.bl.length
theorem okE_fits (h : okE s al xs m = true) : FitE s al xs m := by
  simp only [okE, Bool.and_eq_true, Nat.ble_eq] at h
  exact ⟨h.1.1.1, allN_get h.1.1.2, fun c hc => allN_get (allN_get h.1.2 c hc), h.2⟩
/-- The blocks of the end, by their names in what is told. -/
def eeOf (s : Sum) (al : Alt) (m : Mt) (E : Env) : Env :=
  ⟨fun c => if c < al.bl.length then (lb s m c).bind fun b => E b else none, ⟨s.nv + al.mv, s.nr + al.mr, syOf (lv s m) (lr s m) E.q.S⟩⟩
theorem ee_rg {c b : Nat} (hc : c < al.bl.length) (hb : lb s m c = some b) : (eeOf s al m E) c = E b := by
  show (if c < al.bl.length then _ else _) = _
  rw [if_pos hc, hb]
  rfl
theorem wC_ok {p x : AC} (h : wC s al m p x = true) {u : Value} (hu : RelC E x u) : RelC (eeOf s al m E) p u := by
  unfold wC at h
  split at h
  · rw [valEq_eq h]; exact hu
  · rename_i y k pt
    split at h
    · rename_i k' te h1
      simp only [Bool.and_eq_true] at h
      obtain ⟨⟨hk, ht⟩, hb⟩ := h
      obtain rfl := ckEq_eq hk
      obtain ⟨g1, g2⟩ := teO_rel h1 hu
      refine ⟨g1, fun S hS => ?_⟩
      have := bT_ev (q := (eeOf s al m E).q) hS pt hb
      rw [this]
      have e2 := sT_ev (lv s m) (lr s m) E.q.S pt
      rw [teEq_eq _ _ ht] at e2
      rw [← g2 _ E.q.has_self]
      exact e2.symm
    · cases h
  · rename_i c o b o'
    simp only [Bool.and_eq_true, beq_eq, decide_eq_true_eq] at h
    obtain ⟨hb, rfl⟩ := h
    obtain ⟨r, g, hE, hg, rfl⟩ := hu
    obtain ⟨hb, hc⟩ := isB_eq hb
    exact ⟨r, g, by rw [ee_rg hc hb]; exact hE, hg, rfl⟩
  · rename_i c b
    obtain ⟨r, hE, hv⟩ := hu
    obtain ⟨hb, hc⟩ := isB_eq h
    exact ⟨r, by rw [ee_rg hc hb]; exact hE, hv⟩
  · exact hu
  · cases h
theorem wL_ok : ∀ {ps xs : List AC} {us : List Value}, wL s al m ps xs = true → RelL E xs us → RelL (eeOf s al m E) ps us
  | [], [], us, h, hr => by
    have : us = [] := List.eq_nil_of_length_eq_zero (by rw [← hr.1]; rfl)
    subst this
    exact RelL.nil
  | p :: ps, x :: xs, us, h, hr => by
    simp only [wL, Bool.and_eq_true] at h
    cases us with
    | nil => exact absurd hr.1 (by simp)
    | cons u us => exact RelL.cons (wC_ok h.1 (hr.2 0 x u rfl rfl)) (wL_ok h.2 ⟨by simpa using hr.1, fun j y v hy hv => hr.2 (j + 1) y v (by simpa using hy) (by simpa using hv)⟩)
  | [], _ :: _, us, h, hr => by cases h
  | _ :: _, [], us, h, hr => by cases h
theorem wV_ok : ∀ {p x : AV} {u : Value}, wV s al m p x = true → RelV E x u → RelV (eeOf s al m E) p u
  | .c p, .c x, u, h, hr => wC_ok h hr
  | .ag p, .ag x, u, h, ⟨arr, e, hr⟩ => ⟨arr, e, wL_ok h hr⟩
  | .c p, .ag x, u, h, hr => by cases h
  | .ag p, .c x, u, h, hr => by cases h
theorem wVs_get : ∀ {ps xs : List AV}, wVs s al m ps xs = true → ps.length = xs.length ∧ ∀ (j : Nat) p, ps[j]? = some p → ∃ x, xs[j]? = some x ∧ wV s al m p x = true
  | [], [], h => ⟨rfl, fun j p h => by simp at h⟩
  | p :: ps, x :: xs, h => by
    simp only [wVs, Bool.and_eq_true] at h
    obtain ⟨h1, h2⟩ := wVs_get h.2
    refine ⟨by simp [h1], fun j q hq => ?_⟩
    cases j with
    | zero => simp at hq; subst hq; exact ⟨x, rfl, h.1⟩
    | succ j => simpa using h2 j q (by simpa using hq)
  | [], _ :: _, h => by cases h
  | _ :: _, [], h => by cases h
theorem wS_ok : ∀ {p x : SV} {u : Value}, wS s al m p x = true → RelS E x u → RelS (eeOf s al m E) p u
  | .o p, .o x, u, h, hr => wV_ok h hr
  | .tu ps, .tu xs, u, h, ⟨arr, e, hl, hr⟩ => by
    obtain ⟨h1, h2⟩ := wVs_get h
    refine ⟨arr, e, by rw [h1]; exact hl, fun j p v hp hv => ?_⟩
    obtain ⟨x, hx, hw⟩ := h2 j p hp
    exact wV_ok hw (hr j x v hx hv)
  | .o p, .tu x, u, h, hr => by cases h
  | .tu p, .o x, u, h, hr => by cases h
theorem wA_ok : ∀ {ps xs : List SV}, wA s al m ps xs = true → ps.length = xs.length ∧ ∀ (j : Nat) p, ps[j]? = some p → ∃ x, xs[j]? = some x ∧ ∀ u, RelS E x u → RelS (eeOf s al m E) p u
  | [], [], h => ⟨rfl, fun j p h => by simp at h⟩
  | p :: ps, x :: xs, h => by
    simp only [wA, Bool.and_eq_true] at h
    obtain ⟨h1, h2⟩ := wA_ok h.2
    refine ⟨by simp [h1], fun j q hq => ?_⟩
    cases j with
    | zero => simp at hq; subst hq; exact ⟨x, rfl, fun u hu => wS_ok h.1 hu⟩
    | succ j => simpa using h2 j q (by simpa using hq)
  | [], _ :: _, h => by cases h
  | _ :: _, [], h => by cases h
/-- An end is as it is told. -/
theorem ends_ok (hf : FitE s al xs m) (hH : RelH fr w0 E m.H w) (h0 : E0.le E) (hn : E0.q.n = s.nv ∧ E0.q.m = s.nr) (hdef : ∀ c, c < s.bl.length → ∃ r, E0 c = some r) (hfr : ∀ c, s.bl.length ≤ c → E0 c = none)
    (hfact : C.fact al.id (vals E0.q s.nv) (rowsOf E0.q s.nr) (newV (eeOf s al m E).q s.nv al.mv) (newR (eeOf s al m E).q s.nr al.mr)) : Told1 C fr w0 s E0 al (eeOf s al m E) w := by
  have hold : ∀ i, i < s.nv → (lv s m i) = .s i := fun i hi => by unfold lv; rw [show Nat.blt i s.nv = true by simpa using hi]; rfl
  have holdr : ∀ i, i < s.nr → (lr s m i) = .s i := fun i hi => by unfold lr; rw [show Nat.blt i s.nr = true by simpa using hi]; rfl
  have hlb : ∀ c, c < s.bl.length → lb s m c = some c := fun c hc => by unfold lb; rw [show Nat.blt c s.bl.length = true by simpa using hc]; rfl
  refine ⟨⟨fun c r hr => ?_, ?_, ?_, fun i hi => ?_, fun j hj => ?_⟩, ⟨rfl, rfl⟩, hfact, ?_⟩
  · have hc : c < s.bl.length := by
      rcases Nat.lt_or_ge c s.bl.length with h | h
      · exact h
      · rw [hfr c h] at hr; cases hr
    rw [ee_rg (Nat.lt_of_lt_of_le hc hf.len) (hlb c hc)]
    exact h0.1 _ _ hr
  · show _ ≤ s.nv + al.mv; rw [hn.1]; omega
  · show _ ≤ s.nr + al.mr; rw [hn.2]; omega
  · rw [hn.1] at hi
    show (lv s m i).ev E.q.S = _
    rw [hold i hi]
    exact h0.2.2.2.1 i (by rw [hn.1]; exact hi)
  · rw [hn.2] at hj
    show (lr s m j).ev E.q.S = _
    rw [holdr j hj]
    exact h0.2.2.2.2 j (by rw [hn.2]; exact hj)
  · have hget : ∀ c bl, (s.H1 al).bs.get c = some bl → c < al.bl.length ∧ (al.bl[c]?).join = some bl := fun c bl h => by
      have := (H1_get c bl).1 h
      exact ⟨(List.getElem?_eq_some_iff.1 this).1, by rw [this]; rfl⟩
    -- where a block lies
    have hwh : ∀ c bl, (s.H1 al).bs.get c = some bl → ∃ b bl', lb s m c = some b ∧ m.H.bs.get b = some bl' ∧ (eeOf s al m E) c = E b := by
      intro c bl h
      obtain ⟨hc, hj⟩ := hget c bl h
      have hv := hf.blk c hc
      unfold wB at hv
      rw [hj] at hv
      cases hb : lb s m c with
      | none =>
        rw [hb] at hv
        cases bl with
        | rows t z n es => simp only [Option.bind_none] at hv; split at hv <;> simp_all
        | sy own t ks rt => simp at hv
      | some b =>
        cases hx : m.H.bs.get b with
        | none =>
          rw [hb] at hv
          simp only [Option.bind_some, hx] at hv
          cases bl with
          | rows t z n es => split at hv <;> simp_all
          | sy own t ks rt => simp at hv
        | some bl' => exact ⟨b, bl', rfl, hx, ee_rg hc hb⟩
    refine ⟨fun c bl h => ⟨by simpa [Sum.H1, hpOf] using (hget c bl h).1, ?_⟩, fun c hc => ?_, fun c c' bl bl' r r' g o h h' e1 e2 a1 a2 => ?_, fun c bl r g o h e1 a1 => ?_, hH.frlt, hH.keep, ⟨rfl, rfl⟩⟩
    · obtain ⟨hc, hj⟩ := hget c bl h
      obtain ⟨b, bl', hb, hbs, hee⟩ := hwh c bl h
      have hv := hf.blk c hc
      unfold wB at hv
      rw [hj, hb] at hv
      simp only [Option.bind_some, hbs] at hv
      split at hv
      · cases ‹some bl = none›
      · rename_i t z es0 heq
        cases heq
        split at hv
        · rename_i t' z' es heq2
          cases heq2
          split at hv
          · rename_i ps xs' h1 h2
            simp only [Bool.and_eq_true, beq_eq, decide_eq_true_eq] at hv
            obtain ⟨⟨ht, rfl⟩, hw⟩ := hv
            obtain ⟨_, r, g, arr, a1, a2, a3, a4, a5, a6, a7, a8, a9, a10, hes⟩ := hH.blk _ _ hbs
            refine ⟨r, g, arr, by rw [hee]; exact a1, a2, a3, a4, a5, a6, a7, a8, a9, fun t1 h1 => a10 t1 ?_, fun i hi => ?_⟩
            · subst h1
              cases t' with
              | none => cases ht
              | some t2 => simp only [eqO] at ht; rw [Nat.eq_of_beq_eq_true ht]
            · obtain rfl : i = 0 := by omega
              obtain ⟨xs2, h3, h4⟩ := hes 0 (by omega)
              rw [h2] at h3; cases h3
              exact ⟨ps, h1, wL_ok hw h4⟩
          · cases hv
        · cases hv
      · rename_i own t ks prt heq
        cases heq
        split at hv
        · rename_i own' t' ks' rt heq2
          cases heq2
          simp only [Bool.and_eq_true, beq_iff_eq, beq_eq, decide_eq_true_eq] at hv
          obtain ⟨⟨⟨⟨rfl, rfl⟩, hk⟩, hrt⟩, hbd⟩ := hv
          obtain rfl := ksEq_eq hk
          obtain ⟨_, r, L, a1, a2, a3, a4, a5⟩ := hH.blk _ _ hbs
          refine ⟨r, L, by rw [hee]; exact a1, a2, fun S hS => ?_, a4, a5⟩
          have e1 := bR_ev (q := (eeOf s al m E).q) hS prt hbd
          rw [e1]
          have e2 := sR_ev (lv s m) (lr s m) E.q.S prt
          rw [rtEq_eq _ _ hrt] at e2
          rw [← a3 _ E.q.has_self]
          exact e2.symm
        · cases hv
      · cases hv
    · show (if c < al.bl.length then _ else _) = _
      rw [if_neg (by simpa [Sum.H1, hpOf] using hc)]
    · obtain ⟨b, x, hb, hbs, hee⟩ := hwh c bl h
      obtain ⟨b', x', hb', hbs', hee'⟩ := hwh c' bl' h'
      rw [hee] at e1
      rw [hee'] at e2
      have hbb := hH.apart b b' x x' r r' g o hbs hbs' e1 e2 a1 a2
      subst hbb
      have key : ∀ c c' bl bl', (s.H1 al).bs.get c = some bl → (s.H1 al).bs.get c' = some bl' → lb s m c = some b → lb s m c' = some b → c' < c → False := by
        intro c c' bl bl' h h' hb hb' hlt2
        obtain ⟨hc, hj⟩ := hget c bl h
        obtain ⟨hc', hj'⟩ := hget c' bl' h'
        have hv := hf.dist c hc c' hlt2
        unfold wD at hv
        rw [hj, hj', hb, hb'] at hv
        simp at hv
      rcases Nat.lt_trichotomy c c' with h1 | h1 | h1
      · exact (key c' c bl' bl h' h hb' hb h1).elim
      · exact h1
      · exact (key c c' bl bl' h h' hb hb' h1).elim
    · obtain ⟨b, x, hb, hbs, hee⟩ := hwh c bl h
      rw [hee] at e1
      exact hH.free b x r g o hbs e1 a1
end
end Go.Proofs.Ytipomcnbjlfekaa.Rs
