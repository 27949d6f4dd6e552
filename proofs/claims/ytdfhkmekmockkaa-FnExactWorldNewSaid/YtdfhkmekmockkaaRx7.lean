/- A small machine over the model's operations. Part 7: code, functions, and that the model does what the machine does. No program in sight. -/
import Derived.Test.YtdfhkmekmockkaaRx6
namespace Go.Proofs.Ytdfhkmekmockkaa.Rx
open Go.RowKit
set_option linter.unusedVariables false
set_option linter.unusedSimpArgs false

inductive Ex where
  | nrm
  | ext (id : Nat)
  | ret
def iterE (f : Tm → Hp → Option (Ex × Tm × Hp)) : Nat → Tm → Hp → Option (Ex × Tm × Hp)
  | 0, _, _ => none
  | n + 1, tm, H =>
    match f tm H with
    | some (.nrm, tm', H') => iterE f n tm' H'
    | some (.ext id, tm', H') => some (.ext id, tm', H')
    | some (.ret, tm', H') => some (.ret, tm', H')
    | none => none
def codeE (C : Cfg) (ce : Ce) (N lf : Nat) : Code → Tm → Hp → Option (Ex × Tm × Hp)
  | .skip, tm, H => some (.nrm, tm, H)
  | .region _ ops false, tm, H =>
    match opsE C ce N ops ops.toList tm H with
    | some (tm', H') => some (.nrm, tm', H')
    | none => none
  | .region _ ops true, tm, H =>
    match drawR C ce N ops tm H with
    | some (tm', H') => some (.nrm, tm', H')
    | none => none
  | .seq x y, tm, H =>
    match codeE C ce N lf x tm H with
    | some (.nrm, tm', H') => codeE C ce N lf y tm' H'
    | some (.ext id, tm', H') => some (.ext id, tm', H')
    | some (.ret, tm', H') => some (.ret, tm', H')
    | none => none
  | .cond c x y, tm, H =>
    match boolO tm c with
    | some true => codeE C ce N lf x tm H
    | some false => codeE C ce N lf y tm H
    | none => none
  | .block id x, tm, H =>
    match codeE C ce N lf x tm H with
    | some (.ext j, tm', H') => bif Nat.beq j id then some (.nrm, tm', H') else some (.ext j, tm', H')
    | some (.nrm, tm', H') => some (.nrm, tm', H')
    | some (.ret, tm', H') => some (.ret, tm', H')
    | none => none
  | .loop x, tm, H => iterE (fun tm H => codeE C ce N lf x tm H) lf tm H
  | .exit id, tm, H => some (.ext id, tm, H)
  | .ret, tm, H => some (.ret, tm, H)
  | _, _, _ => none
def Post (K : Ex → Act → World → Prop) : Exit → Act → World → Prop
  | .normal, a, w => K .nrm a w
  | .exit id, a, w => K (.ext id) a w
  | .ret, a, w => K .ret a w
  | _, _, _ => False
section
variable {C : Cfg} {σ : Nat → Value} {O : Opq} {N lf : Nat} {w0 : World} {ce : Ce}
theorem codeE_ok (hC : C.Ok σ) (hce : CeOk C σ O w0 ce) : ∀ (c : Code) (K : Ex → Act → World → Prop) (tm : Tm) (H : Hp) (E : Env) (a : Act) (w : World) (e : Ex) (tm' : Tm) (H' : Hp), codeE C ce N lf c tm H = some (e, tm', H') → RelH σ O w0 E H w → RelT σ E N tm a →
    (∀ E' a' w', E.le E' → RelH σ O w0 E' H' w' → RelT σ E' N tm' a' → K e a' w') → c.wp C.P (Post K) a w
  | .skip, K, tm, H, E, a, w, e, tm', H', h, hH, hT, hK => by
    cases h
    exact wp_skip (hK E a w (Env.le_refl E) hH hT)
  | .region id ops false, K, tm, H, E, a, w, e, tm', H', h, hH, hT, hK => by
    simp only [codeE] at h
    split at h
    · rename_i tm2 H2 ho
      cases h
      exact wp_region_list (opsE_ok hC hce ops.toList tm H E a w ho hH hT hK)
    · cases h
  | .region id ops true, K, tm, H, E, a, w, e, tm', H', h, hH, hT, hK => by
    simp only [codeE] at h
    split at h
    · rename_i tm2 H2 ho
      cases h
      exact drawR_ok hC hce (fun _ _ _ _ h => h) ho hH hT hK
    · cases h
  | .seq x y, K, tm, H, E, a, w, e, tm', H', h, hH, hT, hK => by
    simp only [codeE] at h
    refine wp_seq ?_
    split at h
    · rename_i tm2 H2 hx
      refine wp_mono (codeE_ok hC hce x (fun e a w => match e with | .nrm => y.wp C.P (Post K) a w | _ => False) tm H E a w _ _ _ hx hH hT (fun E' a' w' hle hH' hT' => ?_)) ?_
      · exact codeE_ok hC hce y K tm2 H2 E' a' w' e tm' H' h hH' hT' fun E2 a2 w2 hle2 => hK E2 a2 w2 (Env.le_trans hle hle2)
      · intro e a w hq
        cases e <;> first | exact hq | exact hq.elim
    · rename_i id tm2 H2 hx
      cases h
      refine wp_mono (codeE_ok hC hce x (fun e a w => match e with | .nrm => False | e => K e a w) tm H E a w _ _ _ hx hH hT (fun E' a' w' hle hH' hT' => hK E' a' w' hle hH' hT')) ?_
      intro e a w hq
      cases e <;> first | exact hq | exact hq.elim
    · rename_i tm2 H2 hx
      cases h
      refine wp_mono (codeE_ok hC hce x (fun e a w => match e with | .nrm => False | e => K e a w) tm H E a w _ _ _ hx hH hT (fun E' a' w' hle hH' hT' => hK E' a' w' hle hH' hT')) ?_
      intro e a w hq
      cases e <;> first | exact hq | exact hq.elim
    · cases h
  | .cond c x y, K, tm, H, E, a, w, e, tm', H', h, hH, hT, hK => by
    simp only [codeE] at h
    split at h
    · rename_i hb
      exact wp_cond_true (boolO_eq hT hb) (codeE_ok hC hce x K tm H E a w e tm' H' h hH hT hK)
    · rename_i hb
      exact wp_cond_false (boolO_eq hT hb) (codeE_ok hC hce y K tm H E a w e tm' H' h hH hT hK)
    · cases h
  | .block id x, K, tm, H, E, a, w, e, tm', H', h, hH, hT, hK => by
    simp only [codeE] at h
    refine wp_block ?_
    have hto : ∀ e2, (∀ E' a' w', E.le E' → RelH σ O w0 E' H' w' → RelT σ E' N tm' a' → (match e2 with | .ext j => if j = id then K .nrm a' w' else K (.ext j) a' w' | e => K e a' w')) → codeE C ce N lf x tm H = some (e2, tm', H') → x.wp C.P (Exit.inBlock id (Post K)) a w := by
      intro e2 hk hx
      refine wp_mono (codeE_ok hC hce x (fun e a w => match e with | .ext j => if j = id then K .nrm a w else K (.ext j) a w | e => K e a w) tm H E a w e2 tm' H' hx hH hT hk) ?_
      intro e a w hq
      cases e with
      | exit j => simp only [Exit.inBlock, Post] at hq ⊢; exact hq
      | normal => exact hq
      | ret => exact hq
      | goto l => exact hq
      | panic c => exact hq
      | outgrown => exact hq
    split at h
    · rename_i j tm2 H2 hx
      rw [beq_eq, cond_decide] at h
      split at h
      · rename_i hj
        cases h
        exact hto _ (fun E' a' w' hle hH' hT' => by simp only [hj, if_true]; exact hK E' a' w' hle hH' hT') hx
      · rename_i hj
        cases h
        exact hto _ (fun E' a' w' hle hH' hT' => by simp only [hj, if_false]; exact hK E' a' w' hle hH' hT') hx
    · rename_i tm2 H2 hx
      cases h
      exact hto _ (fun E' a' w' hle hH' hT' => hK E' a' w' hle hH' hT') hx
    · rename_i tm2 H2 hx
      cases h
      exact hto _ (fun E' a' w' hle hH' hT' => hK E' a' w' hle hH' hT') hx
    · cases h
  | .loop x, K, tm, H, E, a, w, e, tm', H', h, hH, hT, hK => by
    simp only [codeE] at h
    have key : ∀ n (tm : Tm) (H : Hp) (E : Env) (a : Act) (w : World), iterE (fun tm H => codeE C ce N lf x tm H) n tm H = some (e, tm', H') → RelH σ O w0 E H w → RelT σ E N tm a → (∀ E' a' w', E.le E' → RelH σ O w0 E' H' w' → RelT σ E' N tm' a' → K e a' w') → Code.rounds C.P x (Post K) n a w := by
      intro n
      induction n with
      | zero => intro tm H E a w h; cases h
      | succ n ih =>
        intro tm H E a w h hH hT hK
        rw [rounds_succ]
        simp only [iterE] at h
        split at h
        · rename_i tm2 H2 hx
          refine wp_mono (codeE_ok hC hce x (fun e a w => match e with | .nrm => Code.rounds C.P x (Post K) n a w | _ => False) tm H E a w _ _ _ hx hH hT (fun E' a' w' hle hH' hT' => ih tm2 H2 E' a' w' h hH' hT' fun E2 a2 w2 hle2 => hK E2 a2 w2 (Env.le_trans hle hle2))) ?_
          intro e a w hq
          cases e <;> first | exact hq | exact hq.elim
        · rename_i id tm2 H2 hx
          cases h
          refine wp_mono (codeE_ok hC hce x (fun e a w => match e with | .nrm => False | e => K e a w) tm H E a w _ _ _ hx hH hT (fun E' a' w' hle hH' hT' => hK E' a' w' hle hH' hT')) ?_
          intro e a w hq
          cases e <;> first | exact hq | exact hq.elim
        · rename_i tm2 H2 hx
          cases h
          refine wp_mono (codeE_ok hC hce x (fun e a w => match e with | .nrm => False | e => K e a w) tm H E a w _ _ _ hx hH hT (fun E' a' w' hle hH' hT' => hK E' a' w' hle hH' hT')) ?_
          intro e a w hq
          cases e <;> first | exact hq | exact hq.elim
        · cases h
    exact wp_loop_rounds lf (key lf tm H E a w h hH hT hK)
  | .exit id, K, tm, H, E, a, w, e, tm', H', h, hH, hT, hK => by
    cases h
    exact wp_exit (hK E a w (Env.le_refl E) hH hT)
  | .ret, K, tm, H, E, a, w, e, tm', H', h, hH, hT, hK => by
    cases h
    exact wp_ret (hK E a w (Env.le_refl E) hH hT)
  | .rangeFunc .., K, tm, H, E, a, w, e, tm', H', h, hH, hT, hK => by cases h
  | .scope .., K, tm, H, E, a, w, e, tm', H', h, hH, hT, hK => by cases h
  | .label .., K, tm, H, E, a, w, e, tm', H', h, hH, hT, hK => by cases h
  | .goto .., K, tm, H, E, a, w, e, tm', H', h, hH, hT, hK => by cases h
  | .refuse .., K, tm, H, E, a, w, e, tm', H', h, hH, hT, hK => by cases h
end

/-! ### Functions -/
def argTm : List SV → Nat → Tm
  | [], _ => .e
  | x :: xs, i => (argTm xs (i + 1)).put i (some x)
def resE (C : Cfg) (H : Hp) (tm : Tm) : List ResultVar → Option (List AV)
  | [] => some []
  | .tmp t :: rest =>
    match tm.get t, resE C H tm rest with
    | some (.o u), some r => some (u :: r)
    | _, _ => none
  | .cell p t :: rest =>
    match tm.get p, resE C H tm rest with
    | some (.o (.c (.p b off))), some r =>
      match peekA C H t b off with
      | some u => some (u :: r)
      | none => none
    | _, _ => none
def packE : List AV → SV
  | [x] => .o x
  | xs => .tu xs
def funE (C : Cfg) (ce : Ce) (lf : Nat) (F : Func) (as : List SV) (H : Hp) : Option (SV × Hp) :=
  match F.body with
  | none => none
  | some c =>
    bif Nat.ble as.length F.ntmps then
      match codeE C ce F.ntmps lf c (argTm as 0) H with
      | some (.nrm, tm, H') => (match resE C H' tm F.results.toList with | some us => some (packE us, H') | none => none)
      | some (.ret, tm, H') => (match resE C H' tm F.results.toList with | some us => some (packE us, H') | none => none)
      | _ => none
    else none
def runE (C : Cfg) (lf : Nat) : Nat → Ce
  | 0 => fun _ _ _ => none
  | n + 1 => fun f as H =>
    match C.orc f as H with
    | some r => some r
    | none =>
      match C.fn f with
      | some F => funE C (runE C lf n) lf F as H
      | none => none
section
variable {C : Cfg} {σ : Nat → Value} {O : Opq} {E : Env} {N lf : Nat} {tm : Tm} {a : Act} {w0 : World} {H H' : Hp} {w : World} {ce : Ce}
theorem argTm_get : ∀ (xs : List SV) (i t : Nat), (argTm xs i).get t = if i ≤ t then xs[t - i]? else none
  | [], i, t => by simp [argTm, Tr.get]
  | x :: xs, i, t => by
    simp only [argTm, Tr.get_put]
    by_cases h : t = i
    · subst h; simp
    · rw [if_neg h, argTm_get xs (i + 1) t]
      by_cases h2 : i ≤ t
      · rw [if_pos (by omega), if_pos h2]
        obtain ⟨q, hq⟩ : ∃ q, t - i = q + 1 := ⟨t - i - 1, by omega⟩
        rw [hq, show t - (i + 1) = q by omega]
        simp
      · rw [if_neg (by omega), if_neg h2]
def resOne (tmps : Array Value) (x : ResultVar) : Sem Value :=
  match x with
  | .tmp t => pure (tmps.getD t undef)
  | .cell p t => do loadVar t (← asAddr (tmps.getD p undef))
theorem results_eq (F : Func) (tmps : Array Value) : results F tmps = (do let vs ← F.results.mapM (resOne tmps); pure (if h : vs.size = 1 then vs[0] else .tuple vs)) := rfl
theorem resE_ok (hC : C.Ok σ) (hH : RelH σ O w0 E H w) (hT : RelT σ E N tm a) : ∀ (l : List ResultVar) {us : List AV}, resE C H tm l = some us → ∃ vs : List Value,
    (l.mapM (resOne a.tmps)).run C.P w = .ok vs w ∧ us.length = vs.length ∧ ∀ (j : Nat) x v, us[j]? = some x → vs[j]? = some v → RelV σ E x v
  | [], us, h => by
    cases h
    exact ⟨[], by simp [List.mapM_nil, Sem.run_pure], rfl, fun j x v hx => by simp at hx⟩
  | .tmp t :: rest, us, h => by
    simp only [resE] at h
    split at h
    · rename_i u r hu hr
      cases h
      obtain ⟨vs, h1, h2, h3⟩ := resE_ok hC hH hT rest hr
      have h0 : (resOne a.tmps (.tmp t)).run C.P w = .ok (a.tmps.getD t undef) w := rfl
      refine ⟨a.tmps.getD t undef :: vs, ?_, by simp [h2], fun j x v hx hv => ?_⟩
      · simp only [List.mapM_cons, Sem.run_bind, h0, h1, Sem.run_pure, Result.andThen_ok]
      · cases j with
        | zero =>
          have e1 : x = u := by simpa using hx.symm
          have e2 : v = a.tmps.getD t undef := by simpa using hv.symm
          rw [e1, e2]
          exact (hT.at_ t _ hu).2
        | succ j => simp at hx hv; exact h3 j x v hx hv
    · cases h
  | .cell p t :: rest, us, h => by
    simp only [resE] at h
    split at h
    · rename_i b off r hu hr
      split at h
      · rename_i u hpk
        cases h
        obtain ⟨vs, h1, h2, h3⟩ := resE_ok hC hH hT rest hr
        obtain ⟨q, hq, hev⟩ := (hT.at_ p _ hu).2
        obtain ⟨v0, hv0, hrun⟩ := peek_ok hC hH hpk hq
        have h0 : (resOne a.tmps (.cell p t)).run C.P w = .ok v0 w := by
          show (do loadVar t (← asAddr (a.tmps.getD p undef)) : Sem Value).run C.P w = .ok v0 w
          rw [hev]
          exact hrun
        refine ⟨v0 :: vs, ?_, by simp [h2], fun j x v hx hv => ?_⟩
        · simp only [List.mapM_cons, Sem.run_bind, h0, h1, Sem.run_pure, Result.andThen_ok]
        · cases j with
          | zero => simp at hx hv; subst hx hv; exact hv0
          | succ j => simp at hx hv; exact h3 j x v hx hv
      · cases h
    · cases h
theorem results_ok (hC : C.Ok σ) (hH : RelH σ O w0 E H w) (hT : RelT σ E N tm a) {F : Func} {us : List AV} (h : resE C H tm F.results.toList = some us) : ∃ v, RelS σ E (packE us) v ∧ (results F a.tmps).run C.P w = .ok v w := by
  obtain ⟨vs, h1, h2, h3⟩ := resE_ok hC hH hT F.results.toList h
  have hr : (F.results.mapM (resOne a.tmps)).run C.P w = .ok vs.toArray w := by
    rw [Array.mapM_eq_mapM_toList]
    rw [show (List.toArray <$> F.results.toList.mapM (resOne a.tmps)) = (do pure (List.toArray (← F.results.toList.mapM (resOne a.tmps)))) from rfl]
    rw [Sem.run_bind, h1]
    rfl
  have hrun : (results F a.tmps).run C.P w = .ok (if h : vs.toArray.size = 1 then vs.toArray[0] else .tuple vs.toArray) w := by
    rw [results_eq, Sem.run_bind, hr]
    rfl
  match us, vs, h2, h3, hrun with
  | [x], [v], _, h3, hrun => exact ⟨v, h3 0 x v rfl rfl, by rw [hrun]; rfl⟩
  | [], [], _, h3, hrun => exact ⟨.tuple #[], ⟨#[], rfl, rfl, fun j x v hx => by simp at hx⟩, by rw [hrun]; rfl⟩
  | x :: y :: us, v1 :: v2 :: vs, h2, h3, hrun =>
    refine ⟨.tuple (v1 :: v2 :: vs).toArray, ⟨(v1 :: v2 :: vs).toArray, rfl, by simpa using h2, fun j x v hx hv => h3 j x v hx (by simpa using hv)⟩, ?_⟩
    rw [hrun, dif_neg (by simp)]
theorem funE_ok (hC : C.Ok σ) (hce : CeOk C σ O w0 ce) {f : FuncId} {F : Func} (hF : C.fn f = some F) {as : List SV} {r : SV} (h : funE C ce lf F as H = some (r, H')) (hH : RelH σ O w0 E H w) {vs : Array Value} (hl : as.length = vs.size) (hr : ∀ (j : Nat) x v, as[j]? = some x → vs[j]? = some v → RelS σ E x v) :
    Calls C.P f vs w fun e w' => ∃ E' v, e = .returned v ∧ E.le E' ∧ RelS σ E' r v ∧ RelH σ O w0 E' H' w' := by
  unfold funE at h
  split at h
  · cases h
  · rename_i c hb
    cases hn : Nat.ble as.length F.ntmps with
    | false => rw [hn] at h; cases h
    | true =>
      rw [hn, cond_true] at h
      simp only [Nat.ble_eq] at hn
      refine calls_of_wp (hC.fn _ _ hF).1 hb ?_
      have hT : RelT σ E F.ntmps (argTm as 0) { tmps := vs ++ Array.replicate (F.ntmps - vs.size) undef, defers := [] } := by
        refine ⟨by simp; omega, rfl, fun t sv ht => ?_⟩
        rw [argTm_get, if_pos (Nat.zero_le _), Nat.sub_zero] at ht
        have hlt : t < as.length := (List.getElem?_eq_some_iff.1 ht).1
        refine ⟨by omega, ?_⟩
        have hvt : vs[t]? = some (vs[t]'(by omega)) := Array.getElem?_eq_getElem (by omega)
        have he : (vs ++ Array.replicate (F.ntmps - vs.size) undef).getD t undef = vs[t]'(by omega) := by
          rw [Array.getD_eq_getD_getElem?, Array.getElem?_append_left (by omega), hvt]
          rfl
        simp only [he]
        exact hr t sv _ ht hvt
      have fin : ∀ e tm H2, codeE C ce F.ntmps lf c (argTm as 0) H = some (e, tm, H2) → (e = .nrm ∨ e = .ret) → (match resE C H2 tm F.results.toList with | some us => some (packE us, H2) | none => none) = some (r, H') → c.wp C.P (bodyPost C.P F fun e w' => ∃ E' v, e = .returned v ∧ E.le E' ∧ RelS σ E' r v ∧ RelH σ O w0 E' H' w') { tmps := vs ++ Array.replicate (F.ntmps - vs.size) undef, defers := [] } w := by
        intro e tm H2 hc he hres
        split at hres
        · rename_i us hus
          cases hres
          refine wp_mono (codeE_ok hC hce c (fun e' a' w' => (e' = .nrm ∨ e' = .ret) ∧ a'.defers = [] ∧ ∃ v, (results F a'.tmps).run C.P w' = .ok v w' ∧ ∃ E', E.le E' ∧ RelS σ E' (packE us) v ∧ RelH σ O w0 E' H' w') _ H E _ w e tm H' hc hH hT (fun E' a' w' hle hH' hT' => ?_)) ?_
          · obtain ⟨v, hv, hrun⟩ := results_ok hC hH' hT' hus
            exact ⟨he, hT'.defers, v, hrun, E', hle, hv, hH'⟩
          · intro e a' w' hq
            cases e with
            | normal => obtain ⟨_, hd, v, hrun, E', hle, hv, hH'⟩ := hq; exact ⟨hd, v, hrun, E', v, rfl, hle, hv, hH'⟩
            | ret => obtain ⟨_, hd, v, hrun, E', hle, hv, hH'⟩ := hq; exact ⟨hd, v, hrun, E', v, rfl, hle, hv, hH'⟩
            | exit j => rcases hq.1 with h | h <;> cases h
            | goto l => exact hq.elim
            | panic c => exact hq.elim
            | outgrown => exact hq.elim
        · cases hres
      split at h
      · rename_i tm H2 hc
        exact fin _ tm H2 hc (.inl rfl) h
      · rename_i tm H2 hc
        exact fin _ tm H2 hc (.inr rfl) h
      · cases h
/-- THE MACHINE IS RIGHT: what it computes is what the model computes. -/
theorem runE_ok (hC : C.Ok σ) (hO : CeOk C σ O w0 C.orc) : ∀ n, CeOk C σ O w0 (runE C lf n)
  | 0 => fun f as H r H' E w vs h => by cases h
  | n + 1 => by
    intro f as H r H' E w vs h hH hl hr
    simp only [runE] at h
    split at h
    · rename_i q hq
      cases h
      exact hO f as H r H' E w vs hq hH hl hr
    · split at h
      · rename_i F hF
        exact funE_ok hC (runE_ok hC hO n) hF h hH hl hr
      · cases h
theorem start (w : World) : RelH σ O w (fun _ => none) ⟨0, .e⟩ w := ⟨fun b bl h => by simp [Tr.get] at h, fun _ _ => rfl, fun b b' bl bl' r r' h => by simp [Tr.get] at h, fun b bl r h => by simp [Tr.get] at h, Below.refl _ _⟩
def isTrue : Option (SV × Hp) → Bool
  | some (.o (.c (.v (.bool b))), _) => b
  | _ => false
/-- A function that the machine says returns true. -/
theorem law_true (hC : C.Ok σ) (w : World) (hO : CeOk C σ O w C.orc) {f : FuncId} {as : List SV} {vs : Array Value} (n : Nat) (h : isTrue (runE C lf n f as ⟨0, .e⟩) = true) (hl : as.length = vs.size) (hr : ∀ (j : Nat) x v, as[j]? = some x → vs[j]? = some v → RelS σ (fun _ => none) x v) :
    Calls C.P f vs w fun e w' => e = .returned (.bool true) ∧ Below w.heap.size w w' := by
  cases hx : runE C lf n f as ⟨0, .e⟩ with
  | none => rw [hx] at h; cases h
  | some q =>
    obtain ⟨r, H'⟩ := q
    rw [hx] at h
    have := runE_ok (lf := lf) hC hO n f as ⟨0, .e⟩ r H' (fun _ => none) w vs hx (start w) hl hr
    refine this.mono ?_
    rintro e w' ⟨E', v, rfl, _, hv, hH'⟩
    unfold isTrue at h
    split at h
    · rename_i b H2 he
      cases he
      subst h
      exact ⟨by rw [show v = .bool true from hv.1], hH'.below⟩
    · cases h
end
end Go.Proofs.Ytdfhkmekmockkaa.Rx
