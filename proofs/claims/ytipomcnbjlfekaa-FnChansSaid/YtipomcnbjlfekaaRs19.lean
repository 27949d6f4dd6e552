/- A symbolic machine over the model's operations. Part 19: trees that compute. What functions and loops come to, as functions of values and rows: all told at once. No program in sight. -/
import Derived.Test.YtipomcnbjlfekaaRs18
namespace Go.Proofs.Ytipomcnbjlfekaa.Rs
open Go.RowKit
set_option linter.unusedVariables false
set_option linter.unusedSimpArgs false
/-! ### Trees -/
mutual
inductive Ot where
  | ask (c : Te) (x y : Ot)
  | need (c : Te) (x : Ot)
  | call (p : Nat) (a : List Te) (r : List RT) (k : Os)
  | name (te : Te) (x : Ot)
  | ret (k : Nat) (v : List Te) (l : List RT)
  | fail
inductive Os where
  | one (mv mr k : Nat) (x : Ot)
  | more (mv mr k : Nat) (x : Ot) (rest : Os)
end
def tl : List Te → TL
  | [] => .nil
  | x :: xs => .cons x (tl xs)
def rl : List RT → RL
  | [] => .nil
  | x :: xs => .cons x (rl xs)
theorem tl_ev (S : Sy) : ∀ xs, (tl xs).ev S = xs.map (Te.ev S)
  | [] => rfl
  | x :: xs => by simp only [tl, TL.ev, tl_ev S xs, List.map_cons]
theorem rl_ev (S : Sy) : ∀ xs, (rl xs).ev S = xs.map (RT.ev S)
  | [] => rfl
  | x :: xs => by simp only [rl, RL.ev, rl_ev S xs, List.map_cons]
mutual
/-- The tree as the machine yields it. -/
def Ot.out (self nv nr : Nat) : Ot → Out
  | .ask c x y => .ask c (x.out self nv nr) (y.out self nv nr)
  | .need c x => .need c (x.out self nv nr)
  | .call p a r k => .pre p (tl a) (rl r) (k.out self nv nr (bif Nat.beq p 0 then self else p) (tl a) (rl r))
  | .name te x => .name te (x.out self nv nr)
  | .ret k v l => .prove (self * 8 + k) (tlF .s 0 nv) (rlF .s 0 nr) (tl v) (rl l)
  | .fail => .fail
def Os.out (self nv nr p : Nat) (a : TL) (r : RL) : Os → Out
  | .one mv mr k x => .fresh mv mr (p * 8 + k) a r (x.out self nv nr)
  | .more mv mr k x rest => .both (.fresh mv mr (p * 8 + k) a r (x.out self nv nr)) (rest.out self nv nr p a r)
end
/-- How it ended, new values, new rows. -/
abbrev Res := Nat × List Value × List Rw
abbrev Phi := Nat → List Value → List Rw → Option Res
mutual
/-- What a tree comes to. -/
def Ot.go (F : Phi) : Ot → List Value → List Rw → Option Res
  | .ask c x y, vs, ls => match c.ev (syL vs ls) with
    | .bool true => x.go F vs ls
    | .bool false => y.go F vs ls
    | _ => none
  | .need c x, vs, ls => match c.ev (syL vs ls) with
    | .bool true => x.go F vs ls
    | _ => none
  | .call p a r k, vs, ls => match F p (a.map (Te.ev (syL vs ls))) (r.map (RT.ev (syL vs ls))) with
    | some res => k.go F res vs ls
    | none => none
  | .name te x, vs, ls => x.go F (vs ++ [te.ev (syL vs ls)]) ls
  | .ret k v l, vs, ls => some (k, v.map (Te.ev (syL vs ls)), l.map (RT.ev (syL vs ls)))
  | .fail, _, _ => none
def Os.go (F : Phi) : Os → Res → List Value → List Rw → Option Res
  | .one _ _ k x, res, vs, ls => if res.1 = k then x.go F (vs ++ res.2.1) (ls ++ res.2.2) else none
  | .more _ _ k x rest, res, vs, ls => if res.1 = k then x.go F (vs ++ res.2.1) (ls ++ res.2.2) else rest.go F res vs ls
end
/-- No end of this number. -/
def Os.no (j : Nat) : Os → Bool
  | .one _ _ k _ => !Nat.beq k j
  | .more _ _ k _ rest => !Nat.beq k j && rest.no j
mutual
/-- All ends have small numbers. -/
def Ot.sm : Ot → Bool
  | .ask _ x y => x.sm && y.sm
  | .need _ x => x.sm
  | .call _ _ _ k => k.sm
  | .name _ x => x.sm
  | .ret k _ _ => Nat.blt k 8
  | .fail => true
def Os.sm : Os → Bool
  | .one _ _ k x => Nat.blt k 8 && x.sm
  | .more _ _ k x rest => Nat.blt k 8 && (x.sm && (rest.sm && rest.no k))
end
def Phi.le (F G : Phi) : Prop := ∀ p vs ls res, F p vs ls = some res → G p vs ls = some res
mutual
theorem Ot.go_mono {F G : Phi} (h : F.le G) : ∀ (x : Ot) {vs ls res}, x.go F vs ls = some res → x.go G vs ls = some res
  | .ask c x y, vs, ls, res, k => by
    simp only [Ot.go] at k ⊢
    split at k
    · exact Ot.go_mono h x k
    · exact Ot.go_mono h y k
    · cases k
  | .need c x, vs, ls, res, k => by
    simp only [Ot.go] at k ⊢
    split at k
    · exact Ot.go_mono h x k
    · cases k
  | .call p a r x, vs, ls, res, k => by
    simp only [Ot.go] at k ⊢
    split at k
    · rename_i res' e
      rw [h _ _ _ _ e]
      exact Os.go_mono h x k
    · cases k
  | .name te x, vs, ls, res, k => by
    simp only [Ot.go] at k ⊢
    exact Ot.go_mono h x k
  | .ret k v l, vs, ls, res, e => e
  | .fail, vs, ls, res, e => e
theorem Os.go_mono {F G : Phi} (h : F.le G) : ∀ (x : Os) {rs vs ls res}, x.go F rs vs ls = some res → x.go G rs vs ls = some res
  | .one _ _ k x, rs, vs, ls, res, e => by
    simp only [Os.go] at e ⊢
    split at e
    · rename_i hk; rw [if_pos hk]; exact Ot.go_mono h x e
    · cases e
  | .more _ _ k x rest, rs, vs, ls, res, e => by
    simp only [Os.go] at e ⊢
    split at e
    · rename_i hk; rw [if_pos hk]; exact Ot.go_mono h x e
    · rename_i hk; rw [if_neg hk]; exact Os.go_mono h rest e
end
/-! ### A table of trees, and what it computes -/
def selfP (F : Phi) (self : Nat) : Phi := fun p => F (if p = 0 then self else p)
def phi (tr : Nat → Ot) : Nat → Phi
  | 0 => fun _ _ _ => none
  | n + 1 => fun p vs ls => (tr p).go (selfP (phi tr n) p) vs ls
theorem selfP_mono {F G : Phi} (h : F.le G) (self : Nat) : (selfP F self).le (selfP G self) := fun p vs ls res k => h _ _ _ _ k
theorem phi_succ (tr : Nat → Ot) : ∀ n, (phi tr n).le (phi tr (n + 1))
  | 0 => fun p vs ls res h => by cases h
  | n + 1 => fun p vs ls res h => Ot.go_mono (selfP_mono (phi_succ tr n) p) (tr p) h
theorem phi_le (tr : Nat → Ot) {n m : Nat} (h : n ≤ m) : (phi tr n).le (phi tr m) := by
  induction h with
  | refl => exact fun _ _ _ _ k => k
  | step h ih => exact fun p vs ls res k => phi_succ tr _ _ _ _ _ (ih _ _ _ _ k)
theorem phi_unique (tr : Nat → Ot) {n m p : Nat} {vs : List Value} {ls : List Rw} {r r' : Res} (h : phi tr n p vs ls = some r) (h' : phi tr m p vs ls = some r') : r = r' := by
  have h1 := phi_le tr (Nat.le_max_left n m) _ _ _ _ h
  have h2 := phi_le tr (Nat.le_max_right n m) _ _ _ _ h'
  rw [h1] at h2
  exact Option.some.inj h2
open Classical in
/-- What a function or a loop comes to. -/
noncomputable def fin (tr : Nat → Ot) : Phi := fun p vs ls => if h : ∃ n r, phi tr n p vs ls = some r then some h.choose_spec.choose else none
theorem fin_of (tr : Nat → Ot) {n p : Nat} {vs : List Value} {ls : List Rw} {r : Res} (h : phi tr n p vs ls = some r) : fin tr p vs ls = some r := by
  have hx : ∃ n r, phi tr n p vs ls = some r := ⟨n, r, h⟩
  unfold fin
  rw [dif_pos hx]
  exact congrArg some (phi_unique tr hx.choose_spec.choose_spec h)
theorem of_fin (tr : Nat → Ot) {p : Nat} {vs : List Value} {ls : List Rw} {r : Res} (h : fin tr p vs ls = some r) : ∃ n, phi tr n p vs ls = some r := by
  unfold fin at h
  split at h
  · rename_i hx
    cases h
    exact ⟨_, hx.choose_spec.choose_spec⟩
  · cases h
mutual
theorem Ot.go_fin (tr : Nat → Ot) (self : Nat) : ∀ (x : Ot) {vs ls res}, x.go (selfP (fin tr) self) vs ls = some res → ∃ n, x.go (selfP (phi tr n) self) vs ls = some res
  | .ask c x y, vs, ls, res, k => by
    simp only [Ot.go] at k ⊢
    split at k
    · exact Ot.go_fin tr self x k
    · exact Ot.go_fin tr self y k
    · cases k
  | .need c x, vs, ls, res, k => by
    simp only [Ot.go] at k ⊢
    split at k
    · exact Ot.go_fin tr self x k
    · cases k
  | .call p a r x, vs, ls, res, k => by
    simp only [Ot.go] at k ⊢
    split at k
    · rename_i res' e
      obtain ⟨n, hn⟩ := of_fin tr (show fin tr _ _ _ = some res' from e)
      obtain ⟨m, hm⟩ := Os.go_fin tr self x k
      refine ⟨max n m, ?_⟩
      have e1 : selfP (phi tr (max n m)) self p (a.map (Te.ev (syL vs ls))) (r.map (RT.ev (syL vs ls))) = some res' := phi_le tr (Nat.le_max_left n m) _ _ _ _ hn
      rw [e1]
      exact Os.go_mono (selfP_mono (phi_le tr (Nat.le_max_right n m)) self) x hm
    · cases k
  | .name te x, vs, ls, res, k => by
    simp only [Ot.go] at k ⊢
    exact Ot.go_fin tr self x k
  | .ret k v l, vs, ls, res, e => ⟨0, e⟩
  | .fail, vs, ls, res, e => by cases e
theorem Os.go_fin (tr : Nat → Ot) (self : Nat) : ∀ (x : Os) {rs vs ls res}, x.go (selfP (fin tr) self) rs vs ls = some res → ∃ n, x.go (selfP (phi tr n) self) rs vs ls = some res
  | .one _ _ k x, rs, vs, ls, res, e => by
    simp only [Os.go] at e ⊢
    split at e
    · rename_i hk; simp only [if_pos hk]; exact Ot.go_fin tr self x e
    · cases e
  | .more _ _ k x rest, rs, vs, ls, res, e => by
    simp only [Os.go] at e ⊢
    split at e
    · rename_i hk; simp only [if_pos hk]; exact Ot.go_fin tr self x e
    · rename_i hk; simp only [if_neg hk]; exact Os.go_fin tr self rest e
end
/-- The equation of what is computed: from the tree to the end. -/
theorem fin_tree (tr : Nat → Ot) {p : Nat} {vs : List Value} {ls : List Rw} {r : Res} (h : (tr p).go (selfP (fin tr) p) vs ls = some r) : fin tr p vs ls = some r := by
  obtain ⟨n, hn⟩ := Ot.go_fin tr p (tr p) h
  exact fin_of tr (n := n + 1) hn
/-! ### It is so -/
theorem syL_take {vs0 t : List Value} {ls0 u : List Rw} : (tlF .s 0 vs0.length).ev (syL (vs0 ++ t) (ls0 ++ u)) = vs0 ∧ (rlF .s 0 ls0.length).ev (syL (vs0 ++ t) (ls0 ++ u)) = ls0 := by
  constructor
  · rw [tlF_ev]
    apply List.ext_getElem
    · simp
    · intro i h1 h2
      simp [Te.ev, syL, List.getD_eq_getElem?_getD, List.getElem?_append_left h2, List.getElem?_eq_getElem h2]
  · rw [rlF_ev]
    apply List.ext_getElem
    · simp
    · intro i h1 h2
      simp [RT.ev, syL, List.getD_eq_getElem?_getD, List.getElem?_append_left h2, List.getElem?_eq_getElem h2]
/-- What is asked and told, read off what is computed. -/
structure Means (C : Cfg) (F : Phi) (me : Nat) : Prop where
  pre : ∀ p a r res, F p a r = some res → C.pre p a r
  fact : ∀ p k a r vs ls res, k < 8 → C.fact ((if p = 0 then me else p) * 8 + k) a r vs ls → F p a r = some res → res = (k, vs, ls)
theorem Os.okL_no {C : Cfg} {F : Phi} {self nv nr p : Nat} (hM : Means C F self) {vs : List Value} {ls : List Rw} {a : TL} {r : RL} {rs : Res} (e : F p (a.ev (syL vs ls)) (r.ev (syL vs ls)) = some rs) : ∀ (x : Os), x.sm = true → x.no rs.1 = true → (x.out self nv nr (if p = 0 then self else p) a r).OkL C vs ls
  | .one mv mr k x, hs, hn => by
    simp only [Os.sm, Bool.and_eq_true, Nat.blt_eq] at hs
    intro vs' ls' hv hl hfa
    have := hM.fact _ _ _ _ _ _ _ hs.1 hfa e
    subst this
    simp [Os.no] at hn
  | .more mv mr k x rest, hs, hn => by
    simp only [Os.sm, Bool.and_eq_true, Nat.blt_eq] at hs
    simp only [Os.no, Bool.and_eq_true] at hn
    refine ⟨fun vs' ls' hv hl hfa => ?_, Os.okL_no hM e rest hs.2.2.1 hn.2⟩
    have := hM.fact _ _ _ _ _ _ _ hs.1 hfa e
    subst this
    simp at hn
mutual
theorem Ot.okL {C : Cfg} {F : Phi} {self : Nat} (hM : Means C F self) {vs0 : List Value} {ls0 : List Rw} : ∀ (x : Ot) {t : List Value} {u : List Rw} {res : Res}, x.sm = true → x.go F (vs0 ++ t) (ls0 ++ u) = some res → C.fact (self * 8 + res.1) vs0 ls0 res.2.1 res.2.2 → (x.out self vs0.length ls0.length).OkL C (vs0 ++ t) (ls0 ++ u)
  | .ask c x y, t, u, res, hs, h, hf => by
    simp only [Ot.sm, Bool.and_eq_true] at hs
    simp only [Ot.go] at h
    split at h
    · rename_i hc
      exact ⟨fun _ => Ot.okL hM x hs.1 h hf, fun hc' => absurd (hc.symm.trans hc') (by simp)⟩
    · rename_i hc
      exact ⟨fun hc' => absurd (hc.symm.trans hc') (by simp), fun _ => Ot.okL hM y hs.2 h hf⟩
    · cases h
  | .need c x, t, u, res, hs, h, hf => by
    simp only [Ot.sm] at hs
    simp only [Ot.go] at h
    split at h
    · rename_i hc
      exact ⟨hc, Ot.okL hM x hs h hf⟩
    · cases h
  | .call p a r x, t, u, res, hs, h, hf => by
    simp only [Ot.sm] at hs
    simp only [Ot.go] at h
    split at h
    · rename_i res' e
      rw [← tl_ev, ← rl_ev] at e
      refine ⟨hM.pre _ _ _ _ e, ?_⟩
      have := Os.okL hM x (p := p) (a := tl a) (r := rl r) hs e h hf
      rw [beq_eq, cond_decide]
      exact this
    · cases h
  | .name te x, t, u, res, hs, h, hf => by
    simp only [Ot.sm] at hs
    simp only [Ot.go] at h
    show (x.out self vs0.length ls0.length).OkL C (vs0 ++ t ++ [te.ev (syL (vs0 ++ t) (ls0 ++ u))]) (ls0 ++ u)
    rw [List.append_assoc] at h ⊢
    exact Ot.okL hM x hs h hf
  | .ret k v l, t, u, res, hs, h, hf => by
    simp only [Ot.go] at h
    cases h
    show C.fact _ _ _ _ _
    rw [syL_take.1, syL_take.2, tl_ev, rl_ev]
    exact hf
  | .fail, t, u, res, hs, h, hf => by cases h
theorem Os.okL {C : Cfg} {F : Phi} {self : Nat} (hM : Means C F self) {vs0 : List Value} {ls0 : List Rw} {p : Nat} {a : TL} {r : RL} : ∀ (x : Os) {t : List Value} {u : List Rw} {res rs : Res}, x.sm = true → F p (a.ev (syL (vs0 ++ t) (ls0 ++ u))) (r.ev (syL (vs0 ++ t) (ls0 ++ u))) = some rs → x.go F rs (vs0 ++ t) (ls0 ++ u) = some res → C.fact (self * 8 + res.1) vs0 ls0 res.2.1 res.2.2 → (x.out self vs0.length ls0.length (if p = 0 then self else p) a r).OkL C (vs0 ++ t) (ls0 ++ u)
  | .one mv mr k x, t, u, res, rs, hs, e, h, hf => by
    simp only [Os.sm, Bool.and_eq_true, Nat.blt_eq] at hs
    simp only [Os.go] at h
    intro vs' ls' hv hl hfa
    have := hM.fact _ _ _ _ _ _ _ hs.1 hfa e
    subst this
    rw [if_pos rfl] at h
    rw [List.append_assoc, List.append_assoc] at h ⊢
    exact Ot.okL hM x hs.2 h hf
  | .more mv mr k x rest, t, u, res, rs, hs, e, h, hf => by
    simp only [Os.sm, Bool.and_eq_true, Nat.blt_eq] at hs
    simp only [Os.go] at h
    by_cases hk : rs.1 = k
    · rw [if_pos hk] at h
      refine ⟨fun vs' ls' hv hl hfa => ?_, Os.okL_no hM e rest hs.2.2.1 (by rw [hk]; exact hs.2.2.2)⟩
      have := hM.fact _ _ _ _ _ _ _ hs.1 hfa e
      subst this
      rw [List.append_assoc, List.append_assoc] at h ⊢
      exact Ot.okL hM x hs.2.1 h hf
    · rw [if_neg hk] at h
      refine ⟨fun vs' ls' hv hl hfa => ?_, Os.okL hM rest hs.2.2.1 e h hf⟩
      have := hM.fact _ _ _ _ _ _ _ hs.1 hfa e
      subst this
      exact absurd rfl hk
end
end Go.Proofs.Ytipomcnbjlfekaa.Rs
