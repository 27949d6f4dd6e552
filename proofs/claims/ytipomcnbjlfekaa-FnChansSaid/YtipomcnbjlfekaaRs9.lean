/- A symbolic machine over the model's operations. Part 9: what is told of a function or a loop, found in the caller's heap: rows made terms, symbols and blocks bound, and what comes back. No program in sight. -/
import Derived.Test.YtipomcnbjlfekaaRs8
namespace Go.Proofs.Ytipomcnbjlfekaa.Rs
open Go.RowKit
set_option linter.unusedVariables false
set_option linter.unusedSimpArgs false

/-! ### Rows made terms -/
def isRow : AC → Bool
  | .v (.slice none 0 0) => true
  | .sl _ _ _ => true
  | .ss _ (.l (.int .i64 i)) _ => intEq i 0
  | _ => false
/-- A row of the caller's that is asked for as a row of terms. -/
def nC (H0 H : Hp) (p x : AC) : AC × Hp :=
  match p with
  | .sr c =>
    match H0.bs.get c with
    | some (.sy true t ks _) =>
      bif isRow x then
        match ownX H t ks.length ks x with
        | some (rt, ob) => (.sr H.next, (dropO H ob).push (.sy true t ks rt))
        | none => (x, H)
      else (x, H)
    | _ => (x, H)
  | _ => (x, H)
def nL (H0 : Hp) : Hp → List AC → List AC → List AC × Hp
  | H, p :: ps, x :: xs => ((nC H0 H p x).1 :: (nL H0 (nC H0 H p x).2 ps xs).1, (nL H0 (nC H0 H p x).2 ps xs).2)
  | H, _, xs => (xs, H)
def nV (H0 H : Hp) : AV → AV → AV × Hp
  | .c p, .c x => (.c (nC H0 H p x).1, (nC H0 H p x).2)
  | .ag ps, .ag xs => (.ag (nL H0 H ps xs).1, (nL H0 H ps xs).2)
  | _, x => (x, H)
def nVs (H0 : Hp) : Hp → List AV → List AV → List AV × Hp
  | H, p :: ps, x :: xs => ((nV H0 H p x).1 :: (nVs H0 (nV H0 H p x).2 ps xs).1, (nVs H0 (nV H0 H p x).2 ps xs).2)
  | H, _, xs => (xs, H)
def nS (H0 H : Hp) : SV → SV → SV × Hp
  | .o p, .o x => (.o (nV H0 H p x).1, (nV H0 H p x).2)
  | .tu ps, .tu xs => (.tu (nVs H0 H ps xs).1, (nVs H0 H ps xs).2)
  | _, x => (x, H)
def nA (H0 : Hp) : Hp → List SV → List SV → List SV × Hp
  | H, p :: ps, x :: xs => ((nS H0 H p x).1 :: (nA H0 (nS H0 H p x).2 ps xs).1, (nA H0 (nS H0 H p x).2 ps xs).2)
  | H, _, xs => (xs, H)
/-! ### Symbols and blocks bound (what is bound is looked at again, below) -/
structure Mt where
  v : Tr Te
  r : Tr RT
  b : Tr (Nat × Nat)
  H : Hp
def bC (m : Mt) : AC → AC → Mt
  | .t _ (.s i), y =>
    match teO y with
    | some (_, te) => { m with v := m.v.put i (some te) }
    | none => m
  | .p c 0, .p b o => { m with b := m.b.put c (some (b, o)) }
  | .sr c, .sr b => { m with b := m.b.put c (some (b, 0)) }
  | _, _ => m
def bL : Mt → List AC → List AC → Mt
  | m, p :: ps, x :: xs => bL (bC m p x) ps xs
  | m, _, _ => m
def bV (m : Mt) : AV → AV → Mt
  | .c p, .c x => bC m p x
  | .ag ps, .ag xs => bL m ps xs
  | _, _ => m
def bVs : Mt → List AV → List AV → Mt
  | m, p :: ps, x :: xs => bVs (bV m p x) ps xs
  | m, _, _ => m
def bA : Mt → List SV → List SV → Mt
  | m, .o p :: ps, .o x :: xs => bA (bV m p x) ps xs
  | m, .tu p :: ps, .tu x :: xs => bA (bVs m p x) ps xs
  | m, _ :: ps, _ :: xs => bA m ps xs
  | m, _, _ => m
def bB (H0 : Hp) (m : Mt) (c : Nat) : Mt :=
  match H0.bs.get c, m.b.get c with
  | some (.sy _ _ _ (.s j)), some (b, _) =>
    match m.H.bs.get b with
    | some (.sy _ _ _ rt) => { m with r := m.r.put j (some rt) }
    | _ => m
  | some (.rows _ z 1 es0), some (b, o) =>
    match m.H.bs.get b, es0.get 0 with
    | some (.rows tb zb 1 es), some ps =>
      match es.get 0 with
      | some xs =>
        match (nL H0 m.H ps ((xs.drop o).take z)).2.bs.get b with
        | some (.rows tb' zb' 1 es') =>
          match es'.get 0 with
          | some xs' =>
            bif Nat.beq zb' zb && Nat.beq xs'.length zb && Nat.beq xs.length zb && Nat.ble (o + z) zb then
              bL { m with H := { (nL H0 m.H ps ((xs.drop o).take z)).2 with bs := (nL H0 m.H ps ((xs.drop o).take z)).2.bs.put b (some (.rows tb' zb' 1 (es'.put 0 (some (xs'.take o ++ ((nL H0 m.H ps ((xs.drop o).take z)).1 ++ xs'.drop (o + z))))))) } } ps (nL H0 m.H ps ((xs.drop o).take z)).1
            else m
          | none => m
        | _ => m
      | none => m
    | _, _ => m
  | _, _ => m
/-- All blocks that are asked for, from c on, n of them. -/
def bBs (H0 : Hp) : Nat → Nat → Mt → Mt
  | 0, _, m => m
  | n + 1, c, m => bBs H0 n (c + 1) (bB H0 m c)
def bind1 (s : Sum) (as : List SV) (H : Hp) : List SV × Mt :=
  ((nA s.H0 H s.as0 as).1, bBs s.H0 s.H0.next 0 (bA ⟨.e, .e, .e, (nA s.H0 H s.as0 as).2⟩ s.as0 (nA s.H0 H s.as0 as).1))
section
variable {C : Cfg} {fr : Fr} {E : Env} {w0 : World} {H H0 : Hp} {w w' : World}
theorem own_push (hH : RelH fr w0 E H w) {e : Nat} {ks : List CK} {x : AC} {rt : RT} {ob : Option Nat} (hx : ownX H e ks.length ks x = some (rt, ob)) {u : Value} (hu : RelC E x u) :
    ∃ r, E.le (E.new H.next r) ∧ RelH fr w0 (E.new H.next r) ((dropO H ob).push (.sy true e ks rt)) w ∧ RelC (E.new H.next r) (.sr H.next) u := by
  obtain ⟨r, L, x1, x2, x3, x4, x5, x6⟩ := ownX_ok hH rfl hx hu
  have hHd : RelH fr w0 E (dropO H ob) w := by cases ob with
    | none => exact hH
    | some b => exact hH.drop b
  have hnx : (dropO H ob).next = H.next := by cases ob <;> rfl
  have hpa : (∀ c bc q g' o, (dropO H ob).bs.get c = some bc → E c = some q → q.has g' o → ¬ r.has g' o) ∧ (∀ g' o, r.has g' o → ¬ fr g' o) := by
    cases hro : r.own with
    | none => exact ⟨fun _ _ _ _ _ _ _ _ h => (by have := h.1; rw [hro] at this; cases this), fun _ _ h => (by have := h.1; rw [hro] at this; cases this)⟩
    | some g =>
      rcases x6 with ⟨_, hown⟩ | ⟨b, bl, r1, hob, hb, hr1, hown, hwh⟩
      · rw [hro] at hown; cases hown
      · subst hob
        obtain ⟨_, p2, _, p4⟩ := hH.grown_facts hb hr1 (by rw [hown, hro]) (hwh g hro) hro (.inl rfl)
        exact ⟨p2, p4⟩
  have hval : ∃ a n c, r.val = .slice a n c := by
    rcases x5 with ⟨_, k2, _⟩ | ⟨g, arr, _, _, _, _, k3, _⟩
    · exact ⟨_, _, _, k2⟩
    · exact ⟨_, _, _, k3⟩
  have hnew := hHd.push_at (r := r) (bl := .sy true e ks rt) (K := fun _ _ => True) (Keeps.refl _ _) (fun _ _ _ _ _ _ _ _ => trivial) hpa.1 (fun _ _ _ => trivial) hpa.2 ⟨r, L, Env.new_get _ _ _, x3, x1, x2, x5⟩
  rw [hnx] at hnew
  exact ⟨r, by have := hHd.le_new r; rw [hnx] at this; exact this, hnew, ⟨r, Env.new_get _ _ _, x4.symm, hval⟩⟩
theorem nC_ok (hH : RelH fr w0 E H w) (p : AC) {x : AC} {u : Value} (hu : RelC E x u) : ∃ E', E.le E' ∧ E'.q = E.q ∧ RelH fr w0 E' (nC H0 H p x).2 w ∧ RelC E' (nC H0 H p x).1 u := by
  have hid : ∃ E', E.le E' ∧ E'.q = E.q ∧ RelH fr w0 E' H w ∧ RelC E' x u := ⟨E, Env.le_refl E, rfl, hH, hu⟩
  unfold nC
  split
  · split
    · cases hr : isRow x with
      | false => exact hid
      | true =>
        rw [cond_true]
        split
        · rename_i hx
          obtain ⟨r, h1, h2, h3⟩ := own_push hH hx hu
          exact ⟨_, h1, rfl, h2, h3⟩
        · exact hid
    · exact hid
  · exact hid
theorem nL_ok : ∀ (ps xs : List AC) (us : List Value) {E : Env} {H : Hp}, RelH fr w0 E H w → RelL E xs us → ∃ E', E.le E' ∧ E'.q = E.q ∧ RelH fr w0 E' (nL H0 H ps xs).2 w ∧ RelL E' (nL H0 H ps xs).1 us
  | [], xs, us, E, H, hH, hr => by
    refine ⟨E, Env.le_refl E, rfl, ?_, ?_⟩ <;> cases xs <;> assumption
  | p :: ps, [], us, E, H, hH, hr => ⟨E, Env.le_refl E, rfl, hH, hr⟩
  | p :: ps, x :: xs, [], E, H, hH, hr => absurd hr.1 (by simp)
  | p :: ps, x :: xs, u :: us, E, H, hH, hr => by
    obtain ⟨E1, h1, h2, h3, h4⟩ := nC_ok (H0 := H0) hH p (hr.2 0 x u rfl rfl)
    have hr' : RelL E xs us := ⟨by simpa using hr.1, fun j y v hy hv => hr.2 (j + 1) y v (by simpa using hy) (by simpa using hv)⟩
    obtain ⟨E2, k1, k2, k3, k4⟩ := nL_ok ps xs us h3 (hr'.mono h1)
    exact ⟨E2, Env.le_trans h1 k1, k2.trans h2, k3, RelL.cons (h4.mono k1) k4⟩
theorem nV_ok (hH : RelH fr w0 E H w) : ∀ (p x : AV) {u : Value}, RelV E x u → ∃ E', E.le E' ∧ E'.q = E.q ∧ RelH fr w0 E' (nV H0 H p x).2 w ∧ RelV E' (nV H0 H p x).1 u
  | .c p, .c x, u, hu => nC_ok hH p hu
  | .ag ps, .ag xs, u, ⟨arr, e, hu⟩ => by
    obtain ⟨E1, h1, h2, h3, h4⟩ := nL_ok (H0 := H0) ps xs _ hH hu
    exact ⟨E1, h1, h2, h3, arr, e, h4⟩
  | .c p, .ag x, u, hu => ⟨E, Env.le_refl E, rfl, hH, hu⟩
  | .ag p, .c x, u, hu => ⟨E, Env.le_refl E, rfl, hH, hu⟩
theorem nVs_ok : ∀ (ps xs : List AV) (us : List Value) {E : Env} {H : Hp}, RelH fr w0 E H w → xs.length = us.length → (∀ (j : Nat) x v, xs[j]? = some x → us[j]? = some v → RelV E x v) →
    ∃ E', E.le E' ∧ E'.q = E.q ∧ RelH fr w0 E' (nVs H0 H ps xs).2 w ∧ (nVs H0 H ps xs).1.length = us.length ∧ ∀ (j : Nat) x v, (nVs H0 H ps xs).1[j]? = some x → us[j]? = some v → RelV E' x v
  | [], xs, us, E, H, hH, hl, hr => by
    refine ⟨E, Env.le_refl E, rfl, ?_, ?_, ?_⟩ <;> cases xs <;> assumption
  | p :: ps, [], us, E, H, hH, hl, hr => ⟨E, Env.le_refl E, rfl, hH, hl, hr⟩
  | p :: ps, x :: xs, [], E, H, hH, hl, hr => absurd hl (by simp)
  | p :: ps, x :: xs, u :: us, E, H, hH, hl, hr => by
    obtain ⟨E1, h1, h2, h3, h4⟩ := nV_ok (H0 := H0) hH p x (hr 0 x u rfl rfl)
    obtain ⟨E2, k1, k2, k3, k4, k5⟩ := nVs_ok ps xs us h3 (by simpa using hl) (fun j y v hy hv => (hr (j + 1) y v (by simpa using hy) (by simpa using hv)).mono h1)
    refine ⟨E2, Env.le_trans h1 k1, k2.trans h2, k3, by simp only [nVs, List.length_cons, k4], fun j y v hy hv => ?_⟩
    cases j with
    | zero =>
      simp only [nVs, List.getElem?_cons_zero, Option.some.injEq] at hy hv
      subst hy hv
      exact h4.mono k1
    | succ j => exact k5 j y v (by simpa [nVs] using hy) (by simpa using hv)
theorem nS_ok (hH : RelH fr w0 E H w) : ∀ (p x : SV) {u : Value}, RelS E x u → ∃ E', E.le E' ∧ E'.q = E.q ∧ RelH fr w0 E' (nS H0 H p x).2 w ∧ RelS E' (nS H0 H p x).1 u
  | .o p, .o x, u, hu => nV_ok hH p x hu
  | .o p, .tu x, u, hu => ⟨E, Env.le_refl E, rfl, hH, hu⟩
  | .tu p, .o x, u, hu => ⟨E, Env.le_refl E, rfl, hH, hu⟩
  | .tu p, .tu x, u, ⟨arr, e, hl, hu⟩ => by
    obtain ⟨E1, h1, h2, h3, h4, h5⟩ := nVs_ok (H0 := H0) p x arr.toList hH (by simpa using hl) (fun j y v hy hv => hu j y v hy (by simpa using hv))
    exact ⟨E1, h1, h2, h3, arr, e, by simpa using h4, fun j y v hy hv => h5 j y v hy (by simpa using hv)⟩
theorem nA_ok : ∀ (ps xs : List SV) (us : List Value) {E : Env} {H : Hp}, RelH fr w0 E H w → xs.length = us.length → (∀ (j : Nat) x v, xs[j]? = some x → us[j]? = some v → RelS E x v) →
    ∃ E', E.le E' ∧ E'.q = E.q ∧ RelH fr w0 E' (nA H0 H ps xs).2 w ∧ (nA H0 H ps xs).1.length = us.length ∧ ∀ (j : Nat) x v, (nA H0 H ps xs).1[j]? = some x → us[j]? = some v → RelS E' x v
  | [], xs, us, E, H, hH, hl, hr => by
    refine ⟨E, Env.le_refl E, rfl, ?_, ?_, ?_⟩ <;> cases xs <;> assumption
  | p :: ps, [], us, E, H, hH, hl, hr => ⟨E, Env.le_refl E, rfl, hH, hl, hr⟩
  | p :: ps, x :: xs, [], E, H, hH, hl, hr => absurd hl (by simp)
  | p :: ps, x :: xs, u :: us, E, H, hH, hl, hr => by
    obtain ⟨E1, h1, h2, h3, h4⟩ := nS_ok (H0 := H0) hH p x (hr 0 x u rfl rfl)
    obtain ⟨E2, k1, k2, k3, k4, k5⟩ := nA_ok ps xs us h3 (by simpa using hl) (fun j y v hy hv => (hr (j + 1) y v (by simpa using hy) (by simpa using hv)).mono h1)
    refine ⟨E2, Env.le_trans h1 k1, k2.trans h2, k3, by simp only [nA, List.length_cons, k4], fun j y v hy hv => ?_⟩
    cases j with
    | zero =>
      simp only [nA, List.getElem?_cons_zero, Option.some.injEq] at hy hv
      subst hy hv
      exact h4.mono k1
    | succ j => exact k5 j y v (by simpa [nA] using hy) (by simpa using hv)
theorem bC_H (m : Mt) (p x : AC) : (bC m p x).H = m.H := by
  unfold bC
  split
  · split <;> rfl
  · rfl
  · rfl
  · rfl
theorem bL_H : ∀ (m : Mt) (ps xs : List AC), (bL m ps xs).H = m.H
  | m, [], xs => by cases xs <;> rfl
  | m, p :: ps, [] => rfl
  | m, p :: ps, x :: xs => by simp only [bL]; rw [bL_H, bC_H]
theorem bV_H (m : Mt) : ∀ (p x : AV), (bV m p x).H = m.H
  | .c p, .c x => bC_H m p x
  | .ag p, .ag x => bL_H m p x
  | .c p, .ag x => rfl
  | .ag p, .c x => rfl
theorem bVs_H : ∀ (m : Mt) (ps xs : List AV), (bVs m ps xs).H = m.H
  | m, [], xs => by cases xs <;> rfl
  | m, p :: ps, [] => rfl
  | m, p :: ps, x :: xs => by simp only [bVs]; rw [bVs_H, bV_H]
theorem bA_H : ∀ (m : Mt) (ps xs : List SV), (bA m ps xs).H = m.H
  | m, [], xs => by cases xs <;> rfl
  | m, p :: ps, [] => by cases p <;> rfl
  | m, .o p :: ps, .o x :: xs => by simp only [bA]; rw [bA_H, bV_H]
  | m, .o p :: ps, .tu x :: xs => by simp only [bA]; rw [bA_H]
  | m, .tu p :: ps, .o x :: xs => by simp only [bA]; rw [bA_H]
  | m, .tu p :: ps, .tu x :: xs => by simp only [bA]; rw [bA_H, bVs_H]
theorem split3 {α : Type} (l : List α) (o z : Nat) : l = l.take o ++ ((l.drop o).take z ++ l.drop (o + z)) := by
  have h : l.drop (o + z) = (l.drop o).drop z := by rw [List.drop_drop]
  rw [h, List.take_append_drop, List.take_append_drop]
theorem bB_ok (m : Mt) (c : Nat) {E : Env} (hH : RelH fr w0 E m.H w) : ∃ E', E.le E' ∧ E'.q = E.q ∧ RelH fr w0 E' (bB H0 m c).H w := by
  have hid : ∃ E', E.le E' ∧ E'.q = E.q ∧ RelH fr w0 E' m.H w := ⟨E, Env.le_refl E, rfl, hH⟩
  unfold bB
  split
  · split <;> exact hid
  · rename_i t0 z es0 b o _ _
    split
    · rename_i tb zb es ps hb hps
      split
      · rename_i xs hx
        split
        · rename_i tb' zb' es' hb'
          split
          · rename_i xs' hx'
            cases hc : (Nat.beq zb' zb && Nat.beq xs'.length zb && Nat.beq xs.length zb && Nat.ble (o + z) zb) with
            | false => exact hid
            | true =>
              rw [cond_true, bL_H]
              simp only [Bool.and_eq_true, beq_eq, decide_eq_true_eq, Nat.ble_eq] at hc
              obtain ⟨⟨⟨c1, c2⟩, c3⟩, c4⟩ := hc
              subst c1
              obtain ⟨_, r, g, arr, hr, hg, hz, hheap, _, _, _, hn, _, _, hes⟩ := hH.blk _ _ hb
              obtain ⟨xs1, hx1, hrel⟩ := hes 0 (by omega)
              rw [hx] at hx1; cases hx1
              have hseg := (hrel.drop o).take z
              obtain ⟨E', k1, k2, k3, k4⟩ := nL_ok (H0 := H0) ps _ _ hH hseg
              refine ⟨E', k1, k2, ?_⟩
              obtain ⟨_, r', g', arr', hr', hg', hz', hheap', q1, q2, q3, hn', q4, q5, hes'⟩ := k3.blk _ _ hb'
              rw [k1.1 _ _ hr] at hr'; cases hr'
              rw [hg] at hg'; cases hg'
              rw [hheap] at hheap'; cases hheap'
              refine k3.turn hb' (k1.1 _ _ hr) (Keeps.refl _ _) ⟨r, g, arr, k1.1 _ _ hr, hg, hz, hheap, q1, q2, q3, hn, q4, q5, fun i hi => ?_⟩
              obtain rfl : i = 0 := by omega
              obtain ⟨xs2, hx2, hrel2⟩ := hes' 0 (by omega)
              rw [hx'] at hx2; cases hx2
              refine ⟨_, by rw [Tr.get_put]; rfl, ?_⟩
              have hl := hrel2.1
              have e1 := split3 ((arr.toList.drop (r.lo + 0 * zb')).take zb') o z
              rw [e1]
              exact (hrel2.take o).append (k4.append (hrel2.drop (o + z)))
          · exact hid
        · exact hid
      · exact hid
    · exact hid
  · exact hid
theorem bBs_ok : ∀ (n c : Nat) (m : Mt) {E : Env}, RelH fr w0 E m.H w → ∃ E', E.le E' ∧ E'.q = E.q ∧ RelH fr w0 E' (bBs H0 n c m).H w
  | 0, c, m, E, hH => ⟨E, Env.le_refl E, rfl, hH⟩
  | n + 1, c, m, E, hH => by
    obtain ⟨E1, h1, h2, h3⟩ := bB_ok (H0 := H0) m c hH
    obtain ⟨E2, k1, k2, k3⟩ := bBs_ok n (c + 1) (bB H0 m c) h3
    exact ⟨E2, Env.le_trans h1 k1, k2.trans h2, k3⟩
/-- What is bound leaves the world as it was. -/
theorem bind1_ok {s : Sum} {as : List SV} {vs : List Value} (hH : RelH fr w0 E H w) (hl : as.length = vs.length) (hr : ∀ (j : Nat) x v, as[j]? = some x → vs[j]? = some v → RelS E x v) :
    ∃ E', E.le E' ∧ E'.q = E.q ∧ RelH fr w0 E' (bind1 s as H).2.H w ∧ (bind1 s as H).1.length = vs.length ∧ ∀ (j : Nat) x v, (bind1 s as H).1[j]? = some x → vs[j]? = some v → RelS E' x v := by
  obtain ⟨E1, h1, h2, h3, h4, h5⟩ := nA_ok (H0 := s.H0) s.as0 as vs hH hl hr
  have hm : (bA ⟨.e, .e, .e, (nA s.H0 H s.as0 as).2⟩ s.as0 (nA s.H0 H s.as0 as).1).H = (nA s.H0 H s.as0 as).2 := bA_H _ _ _
  obtain ⟨E2, k1, k2, k3⟩ := bBs_ok (fr := fr) (w0 := w0) (w := w) (H0 := s.H0) s.H0.next 0 (bA ⟨.e, .e, .e, (nA s.H0 H s.as0 as).2⟩ s.as0 (nA s.H0 H s.as0 as).1) (E := E1) (by rw [hm]; exact h3)
  exact ⟨E2, Env.le_trans h1 k1, k2.trans h2, k3, h4, fun j x v hx hv => (h5 j x v hx hv).mono k1⟩
end
end Go.Proofs.Ytipomcnbjlfekaa.Rs
