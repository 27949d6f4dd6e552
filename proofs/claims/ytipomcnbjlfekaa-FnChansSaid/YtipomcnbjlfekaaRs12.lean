/- A symbolic machine over the model's operations. Part 12: the caller's heap behind a function or a loop that is told of. No program in sight. -/
import Derived.Test.YtipomcnbjlfekaaRs11
namespace Go.Proofs.Ytipomcnbjlfekaa.Rs
open Go.RowKit
set_option linter.unusedVariables false
set_option linter.unusedSimpArgs false
/-- A block that is handed on as a row of terms. -/
def bndS (s : Sum) (m : Mt) (c b : Nat) : Prop := ∃ t ks rt o, s.bl[c]? = some (.sy true t ks rt) ∧ m.b.get c = some (b, o)
/-- A cell that is handed on. -/
def segS (s : Sum) (m : Mt) (c b p : Nat) : Prop := ∃ t z n es o, s.bl[c]? = some (.rows t z n es) ∧ m.b.get c = some (b, o) ∧ o ≤ p ∧ p < o + z
section
variable {C : Cfg} {fr : Fr} {E E1 : Env} {w0 : World} {w w' : World} {s : Sum} {al : Alt} {m : Mt} {as : List SV}
/-- A block, as far as it is known: what is handed on from c on is not. -/
def JB (fr : Fr) (s : Sum) (m : Mt) (E E2 : Env) (w' : World) (k b : Nat) : Bl → Prop
  | .rows t z n es => ∃ r g arr, E b = some r ∧ r.own = some g ∧ r.z = z ∧ w'.heap[g]? = some (.cells arr r.t (0, 0)) ∧ (r.whole = true → r.lo = 0 ∧ arr.size = r.cap * z) ∧ r.lo + r.cap * z ≤ arr.size ∧ (r.whole = true ∨ 0 < r.cap * z) ∧ n ≤ r.cap ∧ r.cap ≤ maxLen ∧ (∀ t', t = some t' → r.whole = true ∧ r.t = t') ∧
      ∀ i, i < n → ∃ xs, es.get i = some xs ∧ xs.length = z ∧ ∀ p x u, xs[p]? = some x → ((arr.toList.drop (r.lo + i * z)).take z)[p]? = some u → (i = 0 ∧ ∃ c, k ≤ c ∧ segS s m c b p) ∨ RelC E2 x u
  | .sy own t ks rt => (∃ c, k ≤ c ∧ bndS s m c b) ∨ RelB fr E2 w' b (.sy own t ks rt)
def JH (fr : Fr) (s : Sum) (al : Alt) (m : Mt) (E E2 : Env) (w' : World) (k : Nat) (bs : Tr Bl) : Prop := ∀ b bl, bs.get b = some bl → (∃ bl0, m.H.bs.get b = some bl0) ∧ JB fr s m E E2 w' k b bl ∧ ∀ c, c < k → bndS s m c b → ∃ x, al.bl[c]? = some (some x)
theorem Back.inB (h : Back fr w0 w w' s al m E E1 as) {b : Nat} {bl : Bl} {r : Rg} (hb : m.H.bs.get b = some bl) (hE : E b = some r) {g o : Nat} (ho : r.has g o) : frOf s m E w g o ∨ ∃ c r0 p, rgOf s m E c = some r0 ∧ r0.has g o ∧ m.b.get c = some (b, p) := by
  by_cases hx : ∃ c r0, rgOf s m E c = some r0 ∧ r0.has g o
  · obtain ⟨c, r0, hc, h0⟩ := hx
    obtain ⟨b', p, q, bb, hb', hE', hbs', hq⟩ := rgOf_has h.fits h.hH hc h0
    have := h.hH.apart b b' bl bb r q g o hb hbs' hE hE' ho hq
    subst this
    exact .inr ⟨c, r0, p, hc, h0, hb'⟩
  · obtain ⟨r', hE', hlt⟩ := (h.hH.blk b bl hb).2.lt
    rw [hE] at hE'; cases hE'
    exact .inl ⟨hlt g ho.1, hx⟩
/-- The model's block of a block of cells is as large as it was. -/
theorem Back.shape (h : Back fr w0 w w' s al m E E1 as) {b : Nat} {t : Option Nat} {z n : Nat} {es : Tr (List AC)} (hb : m.H.bs.get b = some (.rows t z n es)) {r : Rg} {g : Nat} {arr : Array Value} (hE : E b = some r) (hg : r.own = some g) (hheap : w.heap[g]? = some (.cells arr r.t (0, 0)))
    (hne : r.has g r.lo) : ∃ arr', w'.heap[g]? = some (.cells arr' r.t (0, 0)) ∧ arr'.size = arr.size ∧ ∀ o, frOf s m E w g o → arr'[o]? = arr[o]? := by
  refine h.h1.keep.blk g ⟨arr.size, (Array.getElem?_eq_some_iff.1 hheap).1, ?_⟩ arr _ _ hheap
  rintro ⟨c, r0, hc, h0⟩
  obtain ⟨b', p, q, bl, hlt, hb', hE', hbs', hor⟩ := rgOf_in h.fits hc
  rcases hor with ⟨t', z', n', es', tb, zb, es2, hs, rfl, hz, rfl⟩ | ⟨own, t', ks, rt, own', t2, ks2, rt2, hs, rfl, rfl⟩
  · obtain ⟨_, q', g', arr', hE2, hg', hrz, hheap', _, q2, _, hn, _⟩ := h.hH.blk _ _ hbs'
    rw [hE'] at hE2; cases hE2
    obtain ⟨k1, k2 | ⟨_, k2⟩⟩ := h0
    · cases k2
    · rw [hg'] at k1
      cases k1
      rw [hheap] at hheap'
      injection Option.some.inj hheap' with e1 _ _
      subst e1
      have : 1 * zb ≤ q.cap * zb := Nat.mul_le_mul_right _ hn
      simp only [Nat.one_mul] at k2 this
      omega
  · have hq : r0.has g r.lo := by
      obtain ⟨k1, k2 | ⟨k2, k3⟩⟩ := h0
      · exact ⟨k1, .inl k2⟩
      · obtain ⟨_, q', L, hE2, _, _, _, k4⟩ := h.hH.blk _ _ hbs'
        rw [hE'] at hE2; cases hE2
        cases own' with
        | true =>
          rcases k4 with ⟨k5, _⟩ | ⟨_, _, _, k5, _⟩
          · rw [k5] at k1; cases k1
          · exact ⟨k1, .inl k5⟩
        | false => rw [k4.1] at k1; cases k1
    have := h.hH.apart b b' _ _ r r0 g r.lo hb hbs' hE hE' hne hq
    subst this
    rw [hb] at hbs'
    cases hbs'
theorem JH_start (h : Back fr w0 w w' s al m E E1 as) : JH fr s al m E (e2Of s al m E E1) w' 0 m.H.bs := by
  intro b bl hb
  refine ⟨⟨bl, hb⟩, ?_, fun c hc => absurd hc (Nat.not_lt_zero _)⟩
  have hB := (h.hH.blk b bl hb).2
  cases bl with
  | rows t z n es =>
    obtain ⟨r, g, arr, hE, hg, hz, hheap, q1, q2, q3, q4, q5, q6, hes⟩ := hB
    have hne : r.has g r.lo := ⟨hg, by rcases q3 with q3 | q3; exact .inl q3; exact .inr ⟨Nat.le_refl _, by rw [hz]; omega⟩⟩
    obtain ⟨arr', e1, s1, c1⟩ := h.shape hb hE hg hheap hne
    refine ⟨r, g, arr', hE, hg, hz, e1, fun hw => by rw [s1]; exact q1 hw, by rw [s1]; exact q2, q3, q4, q5, q6, fun i hi => ?_⟩
    obtain ⟨xs, hx, hrel⟩ := hes i hi
    have hiz : i * z + z ≤ r.cap * z := by have := Nat.mul_le_mul_right z (show i + 1 ≤ r.cap by omega); rw [Nat.succ_mul] at this; exact this
    have hxl : xs.length = z := by rw [hrel.1, List.length_take, List.length_drop, Array.length_toList]; omega
    refine ⟨xs, hx, hxl, fun p x u hpx hpu => ?_⟩
    have hp : p < z := by rw [← hxl]; exact (List.getElem?_eq_some_iff.1 hpx).1
    rw [seg_get, if_pos hp] at hpu
    have hhas : r.has g (r.lo + i * z + p) := ⟨hg, .inr ⟨by omega, by rw [hz]; omega⟩⟩
    rcases h.inB hb hE hhas with hf | ⟨c, r0, o, hc, h0, hbc⟩
    · right
      refine (hrel.2 p x u hpx ?_).mono h.leE
      rw [seg_get, if_pos hp]
      have := c1 _ hf
      rw [← Array.getElem?_toList, ← Array.getElem?_toList] at this
      rw [← this]
      exact hpu
    · left
      obtain ⟨b', o', q, bl, hlt, hb', hE', hbs', hor⟩ := rgOf_in h.fits hc
      rw [hbc] at hb'; cases hb'
      rw [hb] at hbs'; cases hbs'
      rw [hE] at hE'; cases hE'
      rcases hor with ⟨t', z', n', es', tb, zb, es2, hs, heq, hzz, rfl⟩ | ⟨_, _, _, _, _, _, _, _, _, heq, _⟩
      · cases heq
        obtain rfl : i = 0 := by omega
        refine ⟨rfl, c, Nat.zero_le _, t', z', n', es', o, hs, hbc, ?_⟩
        obtain ⟨_, k2 | ⟨k2, k3⟩⟩ := h0
        · cases k2
        · simp only [Nat.one_mul, Nat.zero_mul, Nat.add_zero] at k2 k3
          omega
      · cases heq
  | sy own t ks rt =>
    by_cases hx : ∃ c, 0 ≤ c ∧ bndS s m c b
    · exact .inl hx
    · right
      refine RelB.mono h.leE (RelB.same h.h1.keep (fun r g o hE ho => ?_) (fr_sub h.fits h.hH) (fun _ _ k => k) hB)
      rcases h.inB hb hE ho with hf | ⟨c, r0, p, hc, h0, hbc⟩
      · exact hf
      · exfalso
        obtain ⟨b', o', q, bl, hlt, hb', hE', hbs', hor⟩ := rgOf_in h.fits hc
        rw [hbc] at hb'; cases hb'
        rw [hb] at hbs'; cases hbs'
        rw [hE] at hE'; cases hE'
        rcases hor with ⟨_, _, _, _, _, _, _, _, heq, _⟩ | ⟨own1, t1, ks1, rt1, own2, t2, ks2, rt2, hs, heq, _⟩
        · cases heq
        · cases heq
          have hv := h.fits.blks c hlt
          unfold vB at hv
          rw [hs, hbc] at hv
          split at hv
          · rename_i heq1 heq2; cases heq1
          · rename_i own3 t3 ks3 j b3 o3 heq1 heq2
            cases heq1
            cases heq2
            rw [hb] at hv
            split at hv
            · rename_i heq3 heq4
              cases heq3
              simp only [Bool.and_eq_true, beq_iff_eq] at hv
              obtain ⟨⟨⟨⟨ho1, _⟩, _⟩, _⟩, _⟩ := hv
              subst ho1
              cases own1 with
              | true => exact hx ⟨c, Nat.zero_le _, _, _, _, _, hs, hbc⟩
              | false =>
                obtain ⟨r', L, hE2, _, _, _, k4⟩ := hB
                rw [hE] at hE2; cases hE2
                have := ho.1
                rw [k4.1] at this
                cases this
            · cases hv
          · cases hv
theorem JB.up {E2 : Env} {k k' b : Nat} (hk : ∀ c, k ≤ c → (∃ p, segS s m c b p) ∨ bndS s m c b → k' ≤ c) : ∀ {bl : Bl}, JB fr s m E E2 w' k b bl → JB fr s m E E2 w' k' b bl
  | .rows t z n es, ⟨r, g, arr, a1, a2, a3, a4, a5, a6, a7, a8, a9, a10, hes⟩ => ⟨r, g, arr, a1, a2, a3, a4, a5, a6, a7, a8, a9, a10, fun i hi => by
    obtain ⟨xs, h1, h2, h3⟩ := hes i hi
    refine ⟨xs, h1, h2, fun p x u hx hu => ?_⟩
    rcases h3 p x u hx hu with ⟨h4, c, h5, h6⟩ | h4
    · exact .inl ⟨h4, c, hk c h5 (.inl ⟨p, h6⟩), h6⟩
    · exact .inr h4⟩
  | .sy own t ks rt, h => by
    rcases h with ⟨c, h5, h6⟩ | h
    · exact .inl ⟨c, hk c h5 (.inr h6), h6⟩
    · exact .inr h
theorem H1_get (c : Nat) (bl : Bl) : (s.H1 al).bs.get c = some bl ↔ al.bl[c]? = some (some bl) := by
  simp only [Sum.H1, hpOf_get]
  cases al.bl[c]? with
  | none => simp
  | some x => cases x <;> simp
theorem two_bnd (hf : Fits s as m) {c c' b : Nat} (h : bndS s m c b) (h' : bndS s m c' b) : c = c' := by
  have key : ∀ c c', bndS s m c b → bndS s m c' b → c' < c → False := by
    rintro c c' ⟨t, ks, rt, o, h1, h2⟩ ⟨t', ks', rt', o', h3, h4⟩ hlt
    have hv := hf.dist c (List.getElem?_eq_some_iff.1 h1).1 c' hlt
    unfold vD at hv
    rw [h1, h2, h3, h4] at hv
    simp at hv
  rcases Nat.lt_trichotomy c c' with h1 | h1 | h1
  · exact (key c' c h' h h1).elim
  · exact h1
  · exact (key c c' h h' h1).elim
theorem old1_ok (h : Back fr w0 w w' s al m E E1 as) {bs bs' : Tr Bl} {c : Nat} (ho : old1 s al m bs c = some bs') (hJ : JH fr s al m E (e2Of s al m E E1) w' c bs) : JH fr s al m E (e2Of s al m E E1) w' (c + 1) bs' := by
  unfold old1 at ho
  split at ho
  · rename_i t z n es0 b o t2 z' es1 hs hb ha
    split at ho
    · rename_i tb zb es ps hbs hps
      split at ho
      · rename_i xs ys hx hy
        cases hc : (Nat.beq z z' && Nat.beq ys.length z && Nat.ble (o + z) zb && Nat.beq xs.length zb) with
        | false => rw [hc] at ho; cases ho
        | true =>
          rw [hc, cond_true] at ho
          cases ho
          simp only [Bool.and_eq_true, beq_eq, decide_eq_true_eq, Nat.ble_eq] at hc
          obtain ⟨⟨⟨rfl, hyl⟩, hoz⟩, hxl⟩ := hc
          intro b2 bl2 hb2
          rw [Tr.get_put] at hb2
          by_cases hbb : b2 = b
          · rw [if_pos hbb] at hb2
            cases hb2
            subst hbb
            obtain ⟨k0, ⟨r, g, arr, a1, a2, a3, a4, a5, a6, a7, a8, a9, a10, hes⟩, k2⟩ := hJ _ _ hbs
            refine ⟨k0, ⟨r, g, arr, a1, a2, a3, a4, a5, a6, a7, a8, a9, a10, fun i hi => ?_⟩, fun c' hc' hbn => by
              rcases Nat.eq_or_lt_of_le (Nat.le_of_lt_succ hc') with h7 | h7
              · subst h7; obtain ⟨_, _, _, _, f1, _⟩ := hbn; rw [hs] at f1; cases f1
              · exact k2 c' h7 hbn⟩
            obtain rfl : i = 0 := by omega
            obtain ⟨xs0, h1, h2, h3⟩ := hes 0 (by omega)
            rw [hx] at h1; cases h1
            refine ⟨_, by rw [Tr.get_put]; rfl, by simp only [List.length_append, List.length_take, List.length_drop]; omega, fun p x u hpx hpu => ?_⟩
            -- the callee's cells
            obtain ⟨_, r1, g1, arr1, d1, d2, d3, d4, d5, d6, d7, d8, d9, d10, hes1⟩ := h.h1.blk c _ ((H1_get c _).2 ha)
            obtain ⟨ps0, e1, e2⟩ := hes1 0 (by omega)
            rw [hps] at e1; cases e1
            obtain ⟨r0, hr0⟩ := rg_def h.fits h.hH (c := c) (List.getElem?_eq_some_iff.1 hs).1
            have hr1 := h.le.1 c r0 hr0
            rw [d1] at hr1; cases hr1
            have hr0' : r1 = ⟨r.own, r.lo + o, 1, z, r.t, false, undef⟩ := by
              have : rgOf s m E c = some ⟨r.own, r.lo + o, 1, z, r.t, false, undef⟩ := by simp only [rgOf, hs, hb, a1, Option.map_some]
              rw [hr0] at this
              exact Option.some.inj this
            have hgg : g1 = g := by rw [hr0'] at d2; simp only at d2; rw [a2] at d2; exact (Option.some.inj d2).symm
            subst hgg
            rw [a4] at d4
            have hrt : r1.t = r.t := by rw [hr0']
            rw [hrt] at d4
            cases d4
            have hrel := h.cells hy e2
            have hlo : r1.lo = r.lo + o := by rw [hr0']
            rw [hlo] at hrel
            simp only [Nat.zero_mul, Nat.add_zero] at hrel hpu h3
            have hp : p < zb := by
              have := (List.getElem?_eq_some_iff.1 hpx).1
              simp only [List.length_append, List.length_take, List.length_drop] at this
              omega
            rw [← hyl, splice_get xs ys o (by omega)] at hpx
            split at hpx
            · rcases h3 p x u hpx hpu with ⟨_, c', h5, h6⟩ | h4
              · refine .inl ⟨rfl, c', ?_, h6⟩
                rcases Nat.eq_or_lt_of_le h5 with h7 | h7
                · subst h7
                  obtain ⟨_, _, _, _, _, f1, f2, f3, f4⟩ := h6
                  rw [hs] at f1; cases f1
                  rw [hb] at f2; cases f2
                  omega
                · omega
              · exact .inr h4
            · split at hpx
              · right
                refine hrel.2 (p - o) x u hpx ?_
                rw [seg_get, if_pos hp] at hpu
                rw [seg_get, if_pos (by omega), ← hpu]
                congr 1
                omega
              · rcases h3 p x u hpx hpu with ⟨_, c', h5, h6⟩ | h4
                · refine .inl ⟨rfl, c', ?_, h6⟩
                  rcases Nat.eq_or_lt_of_le h5 with h7 | h7
                  · subst h7
                    obtain ⟨_, _, _, _, _, f1, f2, f3, f4⟩ := h6
                    rw [hs] at f1; cases f1
                    rw [hb] at f2; cases f2
                    omega
                  · omega
                · exact .inr h4
          · rw [if_neg hbb] at hb2
            obtain ⟨k0, k1, k2⟩ := hJ b2 bl2 hb2
            refine ⟨k0, k1.up fun c' hc' hor => ?_, fun c' hc' hbn => by
              rcases Nat.eq_or_lt_of_le (Nat.le_of_lt_succ hc') with h7 | h7
              · subst h7; obtain ⟨_, _, _, _, f1, _⟩ := hbn; rw [hs] at f1; cases f1
              · exact k2 c' h7 hbn⟩
            rcases Nat.eq_or_lt_of_le hc' with h7 | h7
            · subst h7
              rcases hor with ⟨p, _, _, _, _, _, f1, f2, _⟩ | ⟨_, _, _, _, f1, _⟩
              · rw [hb] at f2; cases f2; exact absurd rfl hbb
              · rw [hs] at f1; cases f1
            · omega
      · cases ho
    · cases ho
  · rename_i t0 ks0 rt0 b o hs hb ha
    cases ho
    intro b2 bl2 hb2
    rw [Tr.get_put] at hb2
    by_cases hbb : b2 = b
    · rw [if_pos hbb] at hb2; cases hb2
    · rw [if_neg hbb] at hb2
      obtain ⟨k0, k1, k2⟩ := hJ b2 bl2 hb2
      refine ⟨k0, k1.up fun c' hc' hor => ?_, fun c' hc' hbn => by
        rcases Nat.eq_or_lt_of_le (Nat.le_of_lt_succ hc') with h7 | h7
        · subst h7; obtain ⟨_, _, _, _, _, f2⟩ := hbn; rw [hb] at f2; cases f2; exact absurd rfl hbb
        · exact k2 c' h7 hbn⟩
      rcases Nat.eq_or_lt_of_le hc' with h7 | h7
      · subst h7
        rcases hor with ⟨p, _, _, _, _, _, f1, _⟩ | ⟨_, _, _, _, f1, f2⟩
        · rw [hs] at f1; cases f1
        · rw [hb] at f2; cases f2; exact absurd rfl hbb
      · omega
  · rename_i t0 ks0 rt0 b o t ks rt hs hb ha
    cases ho
    intro b2 bl2 hb2
    rw [Tr.get_put] at hb2
    by_cases hbb : b2 = b
    · rw [if_pos hbb] at hb2
      cases hb2
      subst hbb
      have hlt : c < s.bl.length := (List.getElem?_eq_some_iff.1 hs).1
      obtain ⟨r0, hr0⟩ := rg_def h.fits h.hH hlt
      obtain ⟨b', o', q, bl, _, hb', hE', hbs', hor⟩ := rgOf_in h.fits hr0
      rw [hb] at hb'; cases hb'
      refine ⟨⟨bl, hbs'⟩, .inr ?_, fun c' hc' hbn => by
        obtain rfl := two_bnd h.fits (⟨_, _, _, _, hs, hb⟩ : bndS s m c b2) hbn
        exact ⟨_, ha⟩⟩
      rcases hor with ⟨_, _, _, _, _, _, _, hs2, _⟩ | ⟨_, _, _, _, _, _, _, _, hs2, _, rfl⟩
      · rw [hs] at hs2; cases hs2
      · obtain ⟨_, r1, L, d1, d2, d3, d4, d5⟩ := h.h1.blk c _ ((H1_get c _).2 ha)
        have hr1 := h.le.1 c r0 hr0
        rw [d1] at hr1; cases hr1
        exact ⟨_, L, h.leE.1 _ _ hE', d2, fun S hS => by rw [sR_ev]; exact d3 _ (h.has hS), d4, d5⟩
    · rw [if_neg hbb] at hb2
      obtain ⟨k0, k1, k2⟩ := hJ b2 bl2 hb2
      refine ⟨k0, k1.up fun c' hc' hor => ?_, fun c' hc' hbn => by
        rcases Nat.eq_or_lt_of_le (Nat.le_of_lt_succ hc') with h7 | h7
        · subst h7; obtain ⟨_, _, _, _, _, f2⟩ := hbn; rw [hb] at f2; cases f2; exact absurd rfl hbb
        · exact k2 c' h7 hbn⟩
      rcases Nat.eq_or_lt_of_le hc' with h7 | h7
      · subst h7
        rcases hor with ⟨p, _, _, _, _, _, f1, _⟩ | ⟨_, _, _, _, f1, f2⟩
        · rw [hs] at f1; cases f1
        · rw [hb] at f2; cases f2; exact absurd rfl hbb
      · omega
  · rename_i t0 ks0 rt0 hs
    cases ho
    intro b2 bl2 hb2
    obtain ⟨k0, k1, k2⟩ := hJ b2 bl2 hb2
    refine ⟨k0, k1.up fun c' hc' hor => ?_, fun c' hc' hbn => by
      rcases Nat.eq_or_lt_of_le (Nat.le_of_lt_succ hc') with h7 | h7
      · subst h7; obtain ⟨_, _, _, _, f1, _⟩ := hbn; rw [hs] at f1; cases f1
      · exact k2 c' h7 hbn⟩
    rcases Nat.eq_or_lt_of_le hc' with h7 | h7
    · subst h7
      rcases hor with ⟨p, _, _, _, _, _, f1, _⟩ | ⟨_, _, _, _, f1, _⟩
      · rw [hs] at f1; cases f1
      · rw [hs] at f1; cases f1
    · omega
  · cases ho
theorem olds_ok (h : Back fr w0 w w' s al m E E1 as) : ∀ (n c : Nat) {bs bs' : Tr Bl}, olds s al m n c bs = some bs' → JH fr s al m E (e2Of s al m E E1) w' c bs → JH fr s al m E (e2Of s al m E E1) w' (c + n) bs'
  | 0, c, bs, bs', ho, hJ => by cases ho; exact hJ
  | n + 1, c, bs, bs', ho, hJ => by
    simp only [olds] at ho
    split at ho
    · rename_i bs1 h1
      have := olds_ok h n (c + 1) ho (old1_ok h h1 hJ)
      rw [show c + (n + 1) = c + 1 + n by omega]
      exact this
    · cases ho
theorem news_get : ∀ {l : List (Option Bl)} {i : Nat} {bs bs' : Tr Bl}, news s m l i bs = some bs' → (∀ b, b < i ∨ i + l.length ≤ b → bs'.get b = bs.get b) ∧ ∀ (j : Nat) x, l[j]? = some x → bs'.get (i + j) = x.bind (iB s m) ∧ ∀ y, x = some y → ∃ z, iB s m y = some z
  | [], i, bs, bs', h => by cases h; exact ⟨fun _ _ => rfl, fun j x h => by simp at h⟩
  | none :: xs, i, bs, bs', h => by
    simp only [news] at h
    obtain ⟨h1, h2⟩ := news_get h
    refine ⟨fun b hb => ?_, fun j x hj => ?_⟩
    · rw [h1 b (by simp only [List.length_cons] at hb; omega), Tr.get_put, if_neg (by simp only [List.length_cons] at hb; omega)]
    · cases j with
      | zero =>
        simp at hj
        subst hj
        refine ⟨?_, fun y hy => by cases hy⟩
        rw [Nat.add_zero, h1 i (by omega), Tr.get_put, if_pos rfl]
        rfl
      | succ j => rw [show i + (j + 1) = i + 1 + j by omega]; exact h2 j x (by simpa using hj)
  | some x0 :: xs, i, bs, bs', h => by
    simp only [news] at h
    split at h
    · rename_i y0 hy0
      obtain ⟨h1, h2⟩ := news_get h
      refine ⟨fun b hb => ?_, fun j x hj => ?_⟩
      · rw [h1 b (by simp only [List.length_cons] at hb; omega), Tr.get_put, if_neg (by simp only [List.length_cons] at hb; omega)]
      · cases j with
        | zero =>
          simp at hj
          subst hj
          refine ⟨?_, fun y hy => by cases hy; exact ⟨y0, hy0⟩⟩
          rw [Nat.add_zero, h1 i (by omega), Tr.get_put, if_pos rfl]
          exact hy0.symm
        | succ j => rw [show i + (j + 1) = i + 1 + j by omega]; exact h2 j x (by simpa using hj)
    · cases h
theorem JB.done {E2 : Env} {k b : Nat} (hle : E.le E2) (hk : s.bl.length ≤ k) : ∀ {bl : Bl}, JB fr s m E E2 w' k b bl → RelB fr E2 w' b bl
  | .rows t z n es, ⟨r, g, arr, a1, a2, a3, a4, a5, a6, a7, a8, a9, a10, hes⟩ => ⟨r, g, arr, hle.1 _ _ a1, a2, a3, a4, a5, a6, a7, a8, a9, a10, fun i hi => by
    obtain ⟨xs, h1, h2, h3⟩ := hes i hi
    have hiz : i * z + z ≤ r.cap * z := by have := Nat.mul_le_mul_right z (show i + 1 ≤ r.cap by omega); rw [Nat.succ_mul] at this; exact this
    refine ⟨xs, h1, by rw [h2, List.length_take, List.length_drop, Array.length_toList]; omega, fun p x u hx hu => ?_⟩
    rcases h3 p x u hx hu with ⟨_, c, h5, h6⟩ | h4
    · obtain ⟨_, _, _, _, _, f1, _⟩ := h6
      have := (List.getElem?_eq_some_iff.1 f1).1
      omega
    · exact h4⟩
  | .sy own t ks rt, h => by
    rcases h with ⟨c, h5, h6⟩ | h
    · obtain ⟨_, _, _, _, f1, _⟩ := h6
      have := (List.getElem?_eq_some_iff.1 f1).1
      omega
    · exact h
theorem after_ok (h : Back fr w0 w w' s al m E E1 as) {H2 : Hp} (ha : after s al m = some H2) : RelH fr w0 (e2Of s al m E E1) H2 w' := by
  unfold after at ha
  cases hl : Nat.ble s.bl.length al.bl.length with
  | false => rw [hl] at ha; cases ha
  | true =>
    rw [hl, cond_true] at ha
    simp only [Nat.ble_eq] at hl
    split at ha
    · rename_i bs ho
      split at ha
      · rename_i bs' hn
        cases ha
        have hJ := olds_ok h _ _ ho (JH_start h)
        rw [Nat.zero_add] at hJ
        obtain ⟨n1, n2⟩ := news_get hn
        have hdl : (al.bl.drop s.bl.length).length = al.bl.length - s.bl.length := by simp
        rw [hdl] at n1
        -- where a block is from
        have hwhere : ∀ b bl, bs'.get b = some bl → (b < m.H.next ∧ bs.get b = some bl) ∨ ∃ c y, s.bl.length ≤ c ∧ b = m.H.next + (c - s.bl.length) ∧ al.bl[c]? = some (some y) ∧ iB s m y = some bl := by
          intro b bl hb
          by_cases c1 : b < m.H.next
          · rw [n1 b (.inl c1)] at hb; exact .inl ⟨c1, hb⟩
          · by_cases c2 : b < m.H.next + (al.bl.length - s.bl.length)
            · have hx : (al.bl.drop s.bl.length)[b - m.H.next]? = some (al.bl[b - m.H.next + s.bl.length]'(by omega)) := by
                rw [List.getElem?_drop, Nat.add_comm, List.getElem?_eq_getElem (by omega)]
              obtain ⟨k1, k2⟩ := n2 _ _ hx
              rw [show m.H.next + (b - m.H.next) = b by omega, hb] at k1
              cases hy : al.bl[b - m.H.next + s.bl.length]'(by omega) with
              | none => rw [hy] at k1; cases k1
              | some y =>
                rw [hy] at k1
                refine .inr ⟨b - m.H.next + s.bl.length, y, by omega, by omega, ?_, k1.symm⟩
                rw [List.getElem?_eq_getElem (by omega), hy]
            · rw [n1 b (.inr (by omega))] at hb
              obtain ⟨⟨bl0, k0⟩, _⟩ := hJ b bl hb
              have := (h.hH.blk b bl0 k0).1
              omega
        have hold : ∀ b, b < m.H.next → (e2Of s al m E E1) b = E b := fun b hb => by show (if b < m.H.next then _ else _) = _; rw [if_pos hb]
        have hnew : ∀ c, s.bl.length ≤ c → c < al.bl.length → (e2Of s al m E E1) (m.H.next + (c - s.bl.length)) = E1 c := fun c h1 h2 => by
          show (if _ then _ else if _ then E1 _ else none) = _
          rw [if_neg (by omega), if_pos (by omega)]
          show E1.rg _ = E1.rg _
          congr 1
          omega
        have hlt : ∀ {c y}, al.bl[c]? = some (some y) → c < al.bl.length := fun h => (List.getElem?_eq_some_iff.1 h).1
        -- a new block lies apart from those that were there
        have hon : ∀ b bl c y r r1 g o, bs.get b = some bl → s.bl.length ≤ c → al.bl[c]? = some (some y) → E b = some r → E1 c = some r1 → r.has g o → r1.has g o → False := by
          intro b bl c y r r1 g o hb hc hy hE hE1 h1 h2
          obtain ⟨⟨bl0, k0⟩, _, k2⟩ := hJ b bl hb
          rcases h.inB k0 hE h1 with hf | ⟨c0, r0, p, hc0, h0, hbc⟩
          · exact h.h1.free c y r1 g o ((H1_get c y).2 hy) hE1 h2 hf
          · obtain ⟨b', o', q, bl', hlt', hb', hE', hbs', hor⟩ := rgOf_in h.fits hc0
            have hx : ∃ x, al.bl[c0]? = some (some x) := by
              rcases hor with ⟨t, z, n, es, tb, zb, es', hs, _, _, _⟩ | ⟨own, t, ks, rt, own', t', ks', rt', hs, heq, hrr⟩
              · obtain ⟨z1, b1, o1, es1, hbad⟩ : ∃ z1 t1 es1 n1, al.bl[c0]? = some (some (.rows t1 z1 n1 es1)) := by
                  -- every step has succeeded
                  have : ∀ (n c : Nat) (bs bs' : Tr Bl), olds s al m n c bs = some bs' → c ≤ c0 → c0 < c + n → ∃ z1 t1 es1 n1, al.bl[c0]? = some (some (.rows t1 z1 n1 es1)) := by
                    intro n
                    induction n with
                    | zero => intro c bs bs' _ h1 h2; omega
                    | succ n ih =>
                      intro c bs bs' ho h1 h2
                      simp only [olds] at ho
                      split at ho
                      · rename_i bs1 hb1
                        rcases Nat.eq_or_lt_of_le h1 with h3 | h3
                        · subst h3
                          unfold old1 at hb1
                          rw [hs] at hb1
                          split at hb1
                          · rename_i ha3; exact ⟨_, _, _, _, ha3⟩
                          · rename_i heq _ _; cases heq
                          · rename_i heq _ _; cases heq
                          · rename_i heq; cases heq
                          · cases hb1
                        · exact ih (c + 1) bs1 bs' ho h3 (by omega)
                      · cases ho
                  exact this _ _ _ _ ho (Nat.zero_le _) (by omega)
                exact ⟨_, hbad⟩
              · subst hrr
                cases own with
                | true => exact k2 c0 hlt' ⟨_, _, _, _, hs, hbc⟩
                | false =>
                  exfalso
                  have hv := h.fits.blks c0 hlt'
                  unfold vB at hv
                  rw [hs, hb'] at hv
                  split at hv
                  · rename_i heq1 _; cases heq1
                  · rename_i own3 t3 ks3 j b3 o3 heq1 heq2
                    cases heq1; cases heq2
                    rw [hbs', heq] at hv
                    split at hv
                    · rename_i heq3 heq4
                      cases heq3
                      simp only [Bool.and_eq_true, beq_iff_eq] at hv
                      obtain ⟨⟨⟨⟨ho1, _⟩, _⟩, _⟩, _⟩ := hv
                      subst ho1
                      rw [heq] at hbs'
                      obtain ⟨_, r', L, hE2, _, _, _, k4⟩ := h.hH.blk _ _ hbs'
                      rw [hE'] at hE2; cases hE2
                      have := h0.1
                      rw [k4.1] at this
                      cases this
                    · cases hv
                  · cases hv
            obtain ⟨x, hx⟩ := hx
            have := h.h1.apart c0 c x y r0 r1 g o ((H1_get c0 x).2 hx) ((H1_get c y).2 hy) (h.le.1 _ _ hc0) hE1 h0 h2
            omega
        refine ⟨fun b bl hb => ?_, fun b hb => ?_, fun b b' bl bl' r r' g o hb hb' e1 e2 h1 h2 => ?_, fun b bl r g o hb e1 h1 hf => ?_, h.hH.frlt, h.hH.keep.trans (h.h1.keep.sub (fr_sub h.fits h.hH)), ⟨by show E.q.n + (newV E1.q s.nv al.mv).length = _; rw [newV_length, h.hH.cnt.1], by show E.q.m + (newR E1.q s.nr al.mr).length = _; rw [newR_length, h.hH.cnt.2]⟩⟩
        · rcases hwhere b bl hb with ⟨c1, c2⟩ | ⟨c, y, hc, rfl, hy, hi⟩
          · exact ⟨by simp only; omega, (hJ b bl c2).2.1.done h.leE (Nat.le_refl _)⟩
          · have hcl := hlt hy
            refine ⟨by simp only; omega, ?_⟩
            have hB := (h.h1.blk c y ((H1_get c y).2 hy)).2
            cases y with
            | rows t z n es =>
              simp only [iB, Option.map_eq_some_iff] at hi
              obtain ⟨es', hes', rfl⟩ := hi
              obtain ⟨r, g, arr, a1, a2, a3, a4, a5, a6, a7, a8, a9, a10, hes⟩ := hB
              refine ⟨r, g, arr, by rw [hnew c hc hcl]; exact a1, a2, a3, a4, a5, a6, a7, a8, a9, a10, fun i hi => ?_⟩
              obtain ⟨xs, h1, h2⟩ := hes i hi
              obtain ⟨ys, h3, h4⟩ := iTr_get hes' h1
              exact ⟨ys, h4, h.cells h3 h2⟩
            | sy own t ks rt =>
              cases own with
              | false => cases hi
              | true =>
                cases hi
                obtain ⟨r, L, a1, a2, a3, a4, a5⟩ := hB
                exact ⟨r, L, by rw [hnew c hc hcl]; exact a1, a2, fun S hS => by rw [sR_ev]; exact a3 _ (h.has hS), a4, a5⟩
        · show (if b < m.H.next then _ else if _ then _ else none) = none
          simp only at hb
          rw [if_neg (by omega), if_neg (by omega)]
        · rcases hwhere b bl hb with ⟨c1, c2⟩ | ⟨c, y, hc, rfl, hy, hi⟩
          · rw [hold b c1] at e1
            rcases hwhere b' bl' hb' with ⟨d1, d2⟩ | ⟨d, y', hd, rfl, hy', hi'⟩
            · rw [hold b' d1] at e2
              obtain ⟨⟨x1, k1⟩, _⟩ := hJ b bl c2
              obtain ⟨⟨x2, k2⟩, _⟩ := hJ b' bl' d2
              exact h.hH.apart b b' x1 x2 r r' g o k1 k2 e1 e2 h1 h2
            · rw [hnew d hd (hlt hy')] at e2
              exact (hon b bl d y' r r' g o c2 hd hy' e1 e2 h1 h2).elim
          · rw [hnew c hc (hlt hy)] at e1
            rcases hwhere b' bl' hb' with ⟨d1, d2⟩ | ⟨d, y', hd, rfl, hy', hi'⟩
            · rw [hold b' d1] at e2
              exact (hon b' bl' c y r' r g o d2 hc hy e2 e1 h2 h1).elim
            · rw [hnew d hd (hlt hy')] at e2
              have := h.h1.apart c d y y' r r' g o ((H1_get c y).2 hy) ((H1_get d y').2 hy') e1 e2 h1 h2
              rw [this]
        · rcases hwhere b bl hb with ⟨c1, c2⟩ | ⟨c, y, hc, rfl, hy, hi⟩
          · rw [hold b c1] at e1
            obtain ⟨⟨x1, k1⟩, _⟩ := hJ b bl c2
            exact h.hH.free b x1 r g o k1 e1 h1 hf
          · rw [hnew c hc (hlt hy)] at e1
            exact h.h1.free c y r g o ((H1_get c y).2 hy) e1 h1 (fr_sub h.fits h.hH g o hf)
      · cases ha
    · cases ha
end
end Go.Proofs.Ytipomcnbjlfekaa.Rs
