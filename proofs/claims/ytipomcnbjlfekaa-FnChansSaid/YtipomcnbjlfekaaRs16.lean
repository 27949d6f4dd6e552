/- A symbolic machine over the model's operations. Part 16: what is told of functions and loops, out of runs; laws. No program in sight. -/
import Derived.Test.YtipomcnbjlfekaaRs15
namespace Go.Proofs.Ytipomcnbjlfekaa.Rs
open Go.RowKit
set_option linter.unusedVariables false
set_option linter.unusedSimpArgs false
section
variable {C : Cfg} {K0 : Qn → Ex → Tm → Hp → Prop} {fr : Fr} {E E0 : Env} {N lf : Nat} {w0 : World} {H : Hp} {w w' : World} {s : Sum}
theorem H0_def (hH : RelH fr w0 E0 s.H0 w) : (∀ c, c < s.bl.length → ∃ r, E0 c = some r) ∧ (∀ c, s.bl.length ≤ c → E0 c = none) := by
  refine ⟨fun c hc => ?_, fun c hc => hH.fresh c (by simpa [Sum.H0, hpOf] using hc)⟩
  have hg : s.H0.bs.get c = some s.bl[c] := by
    simp only [Sum.H0, hpOf_get, List.getElem?_map, List.getElem?_eq_getElem hc]
    rfl
  obtain ⟨r, hr, _⟩ := (hH.blk c _ hg).2.lt
  exact ⟨r, hr⟩
/-- The run of a function that shows what is told of it. -/
noncomputable def runF (C : Cfg) (lf d f : Nat) (F : Func) (s : Sum) : Out := funT C (runT C lf d) lf f F s.as0 s.H0 (fun r H => endT s .ret (fun _ => some [r]) H s.outs)
theorem sum_of_run (hC : C.Ok) (hT : C.Told) (lf d : Nat) {f : FuncId} {F : Func} (hF : C.fn f = some F)
    (h : ∀ q : Qn, q.n = s.nv → q.m = s.nr → C.pre s.pid (vals q s.nv) (rowsOf q s.nr) → (runF C lf d f F s).Ok C (fun _ _ _ _ => True) q) : SumOk C f s := by
  intro fr w0 w E0 vs hn hm hH hl hr hpre
  obtain ⟨d1, d2⟩ := H0_def hH
  refine (funT_ok hC (runT_ok hC hT d) hF (fun c hc => hT.loops f F c hF hc) (h E0.q hn hm hpre) hH hl hr).mono ?_
  rintro e w' ⟨E', v, r, H', rfl, hle, hv, hH', hk⟩
  obtain ⟨al, hal, _, _, E1, ht, hlen, hrel⟩ := endT_ok (usOf := fun _ => [v]) hH' hle ⟨hn, hm⟩ d1 d2 (fun al xs hx => by cases hx; exact ⟨rfl, fun j x u hx hu => by
    cases j with
    | zero => simp at hx hu; subst hx hu; exact hv
    | succ j => simp at hx⟩) s.outs hk
  match hres : al.res, hlen with
  | [r1], _ => exact ⟨al, hal, E1, v, r1, rfl, hres, hrel 0 r1 v (by rw [hres]; rfl) rfl, ht⟩
/-- What is done at the end of a round: another one, or an end. -/
def loopK (s s' : Sum) (id : Nat) : Ex → Tm → Hp → Out
  | .nrm, tm, H =>
    match slotsO tm s.sl with
    | some as =>
      match callS s' as H (fun al rs H2 => endT s al.ex (fun al' => slotsO (tmOf al.sl rs) al'.sl) H2 s.outs) with
      | some o => o
      | none => .fail
    | none => .fail
  | .ext j, tm, H => bif Nat.beq j id then endT s .nrm (fun al => slotsO tm al.sl) H s.outs else endT s (.ext j) (fun al => slotsO tm al.sl) H s.outs
  | .ret, tm, H => endT s .ret (fun al => slotsO tm al.sl) H s.outs
noncomputable def runL (C : Cfg) (lf d N f : Nat) (x : Code) (s s' : Sum) (id : Nat) : Out := codeT C (runT C lf d) N lf f x (tmOf s.sl s.as0) s.H0 (loopK s s' id)
theorem rounds_mono {P : Program} {c : Code} {Q Q' : Exit → Act → World → Prop} (hq : ∀ e a w, Q e a w → Q' e a w) : ∀ {n : Nat} {a : Act} {w : World}, Code.rounds P c Q n a w → Code.rounds P c Q' n a w
  | 0, a, w, h => h.elim
  | n + 1, a, w, h => by
    rw [rounds_succ] at h ⊢
    refine wp_mono h ?_
    intro e a w hh
    cases e <;> first | exact rounds_mono hq hh | exact hq _ _ _ hh
/-- Slots, by other names. -/
theorem tm_move {E1 E2 : Env} {a : Act} {sl : List Nat} {xs ys : List SV} (hT : RelT E1 N (tmOf sl xs) a) (hlen : xs.length = ys.length) (hxy : ∀ (j : Nat) y, ys[j]? = some y → ∃ x, xs[j]? = some x ∧ ∀ u, RelS E1 x u → RelS E2 y u) : RelT E2 N (tmOf sl ys) a := by
  have hh : ∀ (sl : List Nat) (xs ys : List SV), xs.length = ys.length → (∀ (j : Nat) y, ys[j]? = some y → ∃ x, xs[j]? = some x ∧ ∀ u, RelS E1 x u → RelS E2 y u) → ∀ d y, (tmOf sl ys).get d = some y → ∃ x, (tmOf sl xs).get d = some x ∧ ∀ u, RelS E1 x u → RelS E2 y u := by
    intro sl
    induction sl with
    | nil => intro xs ys _ _ d y hy; cases ys <;> simp [tmOf, Tr.get] at hy
    | cons e sl ih =>
      intro xs ys hlen hxy d y hy
      match xs, ys, hlen, hxy, hy with
      | [], [], _, _, hy => simp [tmOf, Tr.get] at hy
      | x0 :: xs, y0 :: ys, hlen, hxy, hy =>
        simp only [tmOf, Tr.get_put] at hy ⊢
        by_cases hde : d = e
        · rw [if_pos hde] at hy ⊢
          cases hy
          obtain ⟨x, hx, hu⟩ := hxy 0 _ rfl
          simp at hx
          subst hx
          exact ⟨_, rfl, hu⟩
        · rw [if_neg hde] at hy ⊢
          exact ih xs ys (by simpa using hlen) (fun j y hy => by simpa using hxy (j + 1) y (by simpa using hy)) d y hy
  refine ⟨hT.size, hT.defers, fun d y hy => ?_⟩
  obtain ⟨x, hx, hu⟩ := hh sl xs ys hlen hxy d y hy
  obtain ⟨q1, q2⟩ := hT.at_ d x hx
  exact ⟨q1, hu _ q2⟩
/-- The same loop, told for a smaller measure. -/
def Sum.rec' (s : Sum) (pid : Nat) : Sum := { s with pid := pid }
theorem told_cast {C C' : Cfg} (h : C.fact = C'.fact) {s : Sum} {al : Alt} {E1 : Env} (ht : Told1 C fr w0 s E0 al E1 w) : Told1 C' fr w0 s E0 al E1 w := by
  obtain ⟨a, b, c, d⟩ := ht
  exact ⟨a, b, by rw [← h]; exact c, d⟩
/-- A loop, by rounds: what is told of it, for each bound on the measure. -/
theorem loop_of_run {C0 : Cfg} {preM : Nat → Nat → List Value → List Rw → Prop} {mu : List Value → List Rw → Nat} {pid' : Nat}
    (hC : ∀ m, ({ C0 with pre := preM m } : Cfg).Ok) (hT : ∀ m, ({ C0 with pre := preM m } : Cfg).Told)
    (hpre : ∀ m m' vs ls, preM m s.pid vs ls → preM m' s.pid vs ls) (hrec : ∀ m vs ls, preM m pid' vs ls → preM m s.pid vs ls ∧ mu vs ls < m)
    (lf d N f id : Nat) (x : Code) (hL : ∀ m, ({ C0 with pre := preM m } : Cfg).Loops N f x) (hsl : ∀ al ∈ s.outs, al.res.length = al.sl.length) (hnd : s.sl.Nodup)
    (h : ∀ m, ∀ q : Qn, q.n = s.nv → q.m = s.nr → preM m s.pid (vals q s.nv) (rowsOf q s.nr) → mu (vals q s.nv) (rowsOf q s.nr) = m → (runL { C0 with pre := preM m } lf d N f x s (s.rec' pid') id).Ok { C0 with pre := preM m } (fun _ _ _ _ => True) q) :
    ∀ m0, LoopOk { C0 with pre := preM m0 } N (.block id (.loop x)) s := by
  -- what a round may come to
  have main : ∀ (fuel : Nat) (fr : Fr) (w0 w : World) (E0 : Env) (a : Act), E0.q.n = s.nv → E0.q.m = s.nr → RelH fr w0 E0 s.H0 w → RelT E0 N (tmOf s.sl s.as0) a → s.sl.length = s.as0.length → preM 0 s.pid (vals E0.q s.nv) (rowsOf E0.q s.nr) → mu (vals E0.q s.nv) (rowsOf E0.q s.nr) < fuel →
      Code.rounds C0.P x (Post fun e a' w' => match e with
        | .nrm => False
        | .ext j => ∃ al ∈ s.outs, al.ex = (if j = id then .nrm else .ext j) ∧ ∃ E1, Told1 { C0 with pre := preM 0 } fr w0 s E0 al E1 w' ∧ RelT E1 N (tmOf al.sl al.res) a'
        | .ret => ∃ al ∈ s.outs, al.ex = .ret ∧ ∃ E1, Told1 { C0 with pre := preM 0 } fr w0 s E0 al E1 w' ∧ RelT E1 N (tmOf al.sl al.res) a') fuel a w := by
    intro fuel
    induction fuel with
    | zero => intro _ _ _ _ _ _ _ _ _ _ _ hmu; omega
    | succ fuel ih =>
      intro fr w0 w E0 a hn hm hH hTm hlen hp hmu
      obtain ⟨d1, d2⟩ := H0_def hH
      rw [rounds_succ]
      have hrun := h (mu (vals E0.q s.nv) (rowsOf E0.q s.nr)) E0.q hn hm (hpre _ _ _ _ hp) rfl
      -- an end, as it is told
      have hend : ∀ (E' : Env) (a' : Act) (w' : World) (e : Ex) (tm' : Tm) (H' : Hp), E0.le E' → RelH fr w0 E' H' w' → RelT E' N tm' a' → (endT s e (fun al => slotsO tm' al.sl) H' s.outs).Ok { C0 with pre := preM (mu (vals E0.q s.nv) (rowsOf E0.q s.nr)) } (fun _ _ _ _ => True) E'.q →
          ∃ al ∈ s.outs, al.ex = e ∧ ∃ E1, Told1 { C0 with pre := preM 0 } fr w0 s E0 al E1 w' ∧ RelT E1 N (tmOf al.sl al.res) a' := by
        intro E' a' w' e tm' H' hle hH' hT' hk
        obtain ⟨al, hal, hex, ⟨xs, hxs⟩, E1, ht, hl1, hr1⟩ := endT_ok (usOf := fun al => al.sl.map fun d => a'.tmps.getD d undef) hH' hle ⟨hn, hm⟩ d1 d2 (fun al xs hx => slots_rel hT' hx) s.outs hk
        refine ⟨al, hal, hex, E1, told_cast rfl ht, tmOf_rel hT'.size hT'.defers (fun j dd hd => ?_) hr1⟩
        obtain ⟨g1, g2⟩ := slotsO_get hxs
        obtain ⟨y, hy⟩ : ∃ y, xs[j]? = some y := ⟨_, List.getElem?_eq_getElem (by rw [g1]; exact (List.getElem?_eq_some_iff.1 hd).1)⟩
        obtain ⟨d', hd', hg⟩ := g2 j y hy
        rw [hd] at hd'; cases hd'
        exact (hT'.at_ dd y hg).1
      refine wp_mono (codeT_ok (hC _) (runT_ok (hC _) (hT _) d) x (fun e a' w' => match e with
        | .nrm => Code.rounds C0.P x (Post fun e a' w' => match e with
          | .nrm => False
          | .ext j => ∃ al ∈ s.outs, al.ex = (if j = id then .nrm else .ext j) ∧ ∃ E1, Told1 { C0 with pre := preM 0 } fr w0 s E0 al E1 w' ∧ RelT E1 N (tmOf al.sl al.res) a'
          | .ret => ∃ al ∈ s.outs, al.ex = .ret ∧ ∃ E1, Told1 { C0 with pre := preM 0 } fr w0 s E0 al E1 w' ∧ RelT E1 N (tmOf al.sl al.res) a') fuel a' w'
        | .ext j => ∃ al ∈ s.outs, al.ex = (if j = id then .nrm else .ext j) ∧ ∃ E1, Told1 { C0 with pre := preM 0 } fr w0 s E0 al E1 w' ∧ RelT E1 N (tmOf al.sl al.res) a'
        | .ret => ∃ al ∈ s.outs, al.ex = .ret ∧ ∃ E1, Told1 { C0 with pre := preM 0 } fr w0 s E0 al E1 w' ∧ RelT E1 N (tmOf al.sl al.res) a') _ _ _ E0 a w (hL _) hrun hH hTm (fun E' a' w' e tm' H' hle hH' hT' hk => ?_)) ?_
      · cases e with
        | ret => exact hend E' a' w' .ret tm' H' hle hH' hT' hk
        | ext j =>
          simp only [loopK] at hk
          rw [beq_eq, cond_decide] at hk
          dsimp only
          split at hk
          · rename_i hj; rw [if_pos hj]; exact hend E' a' w' .nrm tm' H' hle hH' hT' hk
          · rename_i hj; rw [if_neg hj]; exact hend E' a' w' (.ext j) tm' H' hle hH' hT' hk
        | nrm =>
          simp only [loopK] at hk
          split at hk
          · rename_i as hsl1
            split at hk
            · rename_i o hc
              obtain ⟨l1, l2⟩ := slots_rel hT' hsl1
              obtain ⟨E2, m, as', h1, h2, hf, h3, h4, h5, h6, h7, h8⟩ := callS_begin hc hk hH' l1 l2
              have hslt : ∀ (j d : Nat), s.sl[j]? = some d → d < N := fun j d hd => by
                obtain ⟨g1, g2⟩ := slotsO_get hsl1
                obtain ⟨x, hx⟩ : ∃ x, as[j]? = some x := ⟨_, List.getElem?_eq_getElem (by rw [g1]; exact (List.getElem?_eq_some_iff.1 hd).1)⟩
                obtain ⟨d', hd', hg⟩ := g2 j x hx
                rw [hd] at hd'; cases hd'
                exact (hT'.at_ d x hg).1
              obtain ⟨p1, p2⟩ := hrec _ _ _ h7
              have hround := ih (frOf (s.rec' pid') m E2 w') w' w' (e0Of (s.rec' pid') m E2) a' rfl rfl h4 (tmOf_rel hT'.size hT'.defers hslt h6) hlen (hpre _ _ _ _ p1) (by
                have : mu (vals (e0Of (s.rec' pid') m E2).q s.nv) (rowsOf (e0Of (s.rec' pid') m E2).q s.nr) < mu (vals E0.q s.nv) (rowsOf E0.q s.nr) := p2
                omega)
              have step : ∀ (e1 : Ex) (a2 : Act) (w2 : World), (∃ al ∈ s.outs, al.ex = e1 ∧ ∃ E1, Told1 { C0 with pre := preM 0 } (frOf (s.rec' pid') m E2 w') w' s (e0Of (s.rec' pid') m E2) al E1 w2 ∧ RelT E1 N (tmOf al.sl al.res) a2) →
                  ∃ al ∈ s.outs, al.ex = e1 ∧ ∃ E1, Told1 { C0 with pre := preM 0 } fr w0 s E0 al E1 w2 ∧ RelT E1 N (tmOf al.sl al.res) a2 := by
                rintro e1 a2 w2 ⟨al, hal, rfl, E3, ht, hT3⟩
                obtain ⟨E4, rs, H4, g1, g2, g3, g4, g5⟩ := callS_end hf h3 (h8 al hal) (told_cast (C' := { C0 with pre := preM (mu (vals E0.q s.nv) (rowsOf E0.q s.nr)) }) rfl (show Told1 { C0 with pre := preM 0 } (frOf (s.rec' pid') m E2 w') w' (s.rec' pid') (e0Of (s.rec' pid') m E2) al E3 w2 from ht))
                exact hend E4 a2 w2 al.ex (tmOf al.sl rs) H4 (Env.le_trans hle (Env.le_trans h1 g1)) g2 (tm_move hT3 g4 g5) g3
              refine rounds_mono ?_ hround
              intro e a2 w2 hq
              cases e with
              | exit j => exact step _ _ _ hq
              | ret => exact step _ _ _ hq
              | normal => exact hq.elim
              | goto l => exact hq.elim
              | panic c => exact hq.elim
              | outgrown => exact hq.elim
            · exact hk.elim
          · exact hk.elim
      · intro e a w hq
        cases e <;> first | exact hq | exact hq.elim
  intro m0 fr w0 w E0 a hn hm hH hTm hlen hp _ _
  refine wp_block (wp_loop_rounds (mu (vals E0.q s.nv) (rowsOf E0.q s.nr) + 1) (rounds_mono ?_ (main _ fr w0 w E0 a hn hm hH hTm hlen (hpre _ _ _ _ hp) (Nat.lt_succ_self _))))
  intro e a w hq
  have hc : ∀ {e1 : Ex} {a2 : Act} {w2 : World}, (∃ al ∈ s.outs, al.ex = e1 ∧ ∃ E1, Told1 { C0 with pre := preM 0 } fr w0 s E0 al E1 w2 ∧ RelT E1 N (tmOf al.sl al.res) a2) → ∃ al ∈ s.outs, al.ex = e1 ∧ ∃ E1, Told1 { C0 with pre := preM m0 } fr w0 s E0 al E1 w2 ∧ al.res.length = al.sl.length ∧ RelT E1 N (tmOf al.sl al.res) a2 := by
    rintro e1 a2 w2 ⟨al, hal, hex, E1, ht, hT1⟩
    exact ⟨al, hal, hex, E1, told_cast rfl ht, hsl al hal, hT1⟩
  cases e with
  | exit j =>
    simp only [Exit.inBlock, Post] at hq ⊢
    by_cases hj : j = id
    · rw [if_pos hj] at hq ⊢; exact hc hq
    · rw [if_neg hj] at hq ⊢; exact hc hq
  | ret => exact hc hq
  | normal => exact hq.elim
  | goto l => exact hq.elim
  | panic c => exact hq.elim
  | outgrown => exact hq.elim
end
end Go.Proofs.Ytipomcnbjlfekaa.Rs
