/- A small machine over the model's operations. Part 6: regions in text order and in any order; code; functions; and that the model does what the machine does. No program in sight. -/
import Derived.Test.YtdfhkmekmockkaaRx5
namespace Go.Proofs.Ytdfhkmekmockkaa.Rx
open Go.RowKit
set_option linter.unusedVariables false
set_option linter.unusedSimpArgs false

/-! ### One operation, calls too -/
abbrev Ce := FuncId → List SV → Hp → Option (SV × Hp)
def argsO (tm : Tm) : List Operand → Option (List SV)
  | [] => some []
  | x :: xs =>
    match getO tm x, argsO tm xs with
    | some u, some r => some (u :: r)
    | _, _ => none
def putS (N : Nat) (tm : Tm) : Option Tmp → Option SV → Option Tm
  | none, _ => some tm
  | some d, some sv => bif Nat.blt d N then some (tm.put d (some sv)) else none
  | some d, none => some (tm.put d none)
def stepE (C : Cfg) (ce : Ce) (N : Nat) (H : Hp) (tm : Tm) (o : Oper) : Option (Tm × Hp) :=
  match pureE C H tm o.op with
  | some r =>
    match putS N tm o.dst (some r) with
    | some tm' => some (tm', H)
    | none => none
  | none =>
    match o.op with
    | .load t x =>
      match getO tm x with
      | some (.o (.c (.p b off))) =>
        match peekA C H t b off with
        | some av =>
          match putS N tm o.dst (some (.o av)) with
          | some tm' => some (tm', H)
          | none => none
        | none => none
      | _ => none
    | .call { callee := .value (.func f), args, argTypes } =>
      match C.fn f, argsO tm args.toList with
      | some F, some as =>
        bif F.body.isSome then
          match ce f as H with
          | some (r, H') =>
            match putS N tm o.dst (some r) with
            | some tm' => some (tm', H')
            | none => none
          | none => none
        else none
      | _, _ => none
    | op =>
      match writeE C H tm op with
      | some (r, H') =>
        match putS N tm o.dst r with
        | some tm' => some (tm', H')
        | none => none
      | none => none
/-- What a function that is called does. -/
def CeOk (C : Cfg) (σ : Nat → Value) (O : Opq) (w0 : World) (ce : Ce) : Prop :=
  ∀ f as H r H' E w (vs : Array Value), ce f as H = some (r, H') → RelH σ O w0 E H w → as.length = vs.size → (∀ (j : Nat) x v, as[j]? = some x → vs[j]? = some v → RelS σ E x v) →
    Calls C.P f vs w fun e w' => ∃ E' v, e = .returned v ∧ E.le E' ∧ RelS σ E' r v ∧ RelH σ O w0 E' H' w'
section
variable {C : Cfg} {σ : Nat → Value} {O : Opq} {E : Env} {N : Nat} {tm tm' : Tm} {a : Act} {w0 : World} {H H' : Hp} {w w' : World} {ce : Ce}
theorem argsO_rel (hT : RelT σ E N tm a) : ∀ (l : List Operand) {as : List SV}, argsO tm l = some as → as.length = l.length ∧ ∀ (j : Nat) x v, as[j]? = some x → (l.map a.eval)[j]? = some v → RelS σ E x v
  | [], as, h => by cases h; exact ⟨rfl, fun j x v hx => by simp at hx⟩
  | x :: xs, as, h => by
    simp only [argsO] at h
    split at h
    · rename_i u r hu hr
      cases h
      obtain ⟨h1, h2⟩ := argsO_rel hT xs hr
      refine ⟨by simp [h1], fun j y v hy hv => ?_⟩
      cases j with
      | zero => simp at hy hv; subst hy hv; exact getO_rel hT hu
      | succ j => simp at hy; exact h2 j y v hy (by simpa using hv)
    · cases h
theorem putS_ok (hT : RelT σ E N tm a) {d : Option Tmp} {r : Option SV} (h : putS N tm d r = some tm') {v : Value} (hv : Told σ E r v) : RelT σ E N tm' (a.put d v) := by
  cases d with
  | none => cases h; exact hT
  | some d =>
    cases r with
    | none => cases h; exact hT.strike d v
    | some sv =>
      simp only [putS] at h
      cases hc : Nat.blt d N with
      | false => rw [hc] at h; cases h
      | true =>
        rw [hc] at h
        cases h
        exact hT.put (by simpa using hc) hv
theorem stepE_ok (hC : C.Ok σ) (hce : CeOk C σ O w0 ce) (hH : RelH σ O w0 E H w) (hT : RelT σ E N tm a) {o : Oper} (h : stepE C ce N H tm o = some (tm', H')) {Q : Exit → Act → World → Prop} {K : Act → World → Prop}
    (hK : ∀ E' w' v, E.le E' → RelH σ O w0 E' H' w' → RelT σ E' N tm' (a.put o.dst v) → K (a.put o.dst v) w') : o.wp C.P a w K Q := by
  unfold stepE at h
  split at h
  · rename_i r hp
    split at h
    · rename_i tm2 hput
      cases h
      obtain ⟨v, hv, hrun⟩ := pureE_ok hC hH hT hp
      exact wp_value (hrun w) (hK E w v (Env.le_refl E) hH (putS_ok hT hput hv))
    · cases h
  · split at h
    · rename_i t x ho
      split at h
      · rename_i b off hx
        split at h
        · rename_i av hpk
          split at h
          · rename_i tm2 hput
            cases h
            obtain ⟨q, hq, hev⟩ := getO_rel hT hx
            obtain ⟨v, hv, hrun⟩ := peek_ok hC hH hpk hq
            refine wp_value (v := v) ?_ (hK E w v (Env.le_refl E) hH (putS_ok hT hput hv))
            unfold execOp; rw [ho]
            refine alloc_run ?_
            simp only [Instr.loadAt, hev, Sem.run_bind, sureAddr_run, Result.andThen_ok, hrun]
          · cases h
        · cases h
      · cases h
    · rename_i f args argTypes ho
      split at h
      · rename_i F as hF has
        cases hb : F.body.isSome with
        | false => rw [hb] at h; cases h
        | true =>
          rw [hb, cond_true] at h
          split at h
          · rename_i r H2 hc
            split at h
            · rename_i tm2 hput
              cases h
              obtain ⟨hf, hnm⟩ := hC.fn _ _ hF
              obtain ⟨hl, hr⟩ := argsO_rel hT args.toList has
              have hcall := hce f as H r H' E w (args.map a.eval) hc hH (by rw [hl]; simp) (fun j x v hx hv => hr j x v hx (by simpa using hv))
              have hrun : (execOp a.eval o).run C.P w = .ok (.enter f (args.map a.eval)) w := by
                unfold execOp; rw [ho]
                have hnn : F.body.isNone = false := by cases hbb : F.body <;> simp_all
                simp only [resolve, Act.eval, Deferred.ofValue, invoke, callFunc, Sem.run_bind, Sem.run_pure, Result.andThen_ok, run_program, hf]
                simp [hnm, hnn]
              unfold Oper.wp
              rw [hrun]
              refine Calls.mono hcall ?_
              rintro e w' ⟨E', v, rfl, hle, hv, hH'⟩
              exact hK E' w' v hle hH' (putS_ok (hT.mono hle) hput hv)
            · cases h
          · cases h
      · cases h
    · rename_i op ho1 ho2
      split at h
      · rename_i r H2 hw
        split at h
        · rename_i tm2 hput
          cases h
          exact writeE_ok hC hH hT hw fun E' w' v hle hH' hv => hK E' w' v hle hH' (putS_ok (hT.mono hle) hput hv)
        · cases h
      · cases h
end

/-! ### Regions in text order -/
def guardE (all : Array Oper) (tm : Tm) (o : Oper) : Option Bool :=
  match o.guard with
  | none => some true
  | some (j, want) =>
    match (all[j]?).bind (·.dst) with
    | some d =>
      match tm.get d with
      | some (.o (.c (.v (.bool b)))) => some (b == want)
      | _ => none
    | none => none
def strikeE (tm : Tm) : Option Tmp → Tm
  | none => tm
  | some d => tm.put d none
def opsE (C : Cfg) (ce : Ce) (N : Nat) (all : Array Oper) : List Oper → Tm → Hp → Option (Tm × Hp)
  | [], tm, H => some (tm, H)
  | o :: rest, tm, H =>
    match guardE all tm o with
    | some true =>
      match stepE C ce N H tm o with
      | some (tm', H') => opsE C ce N all rest tm' H'
      | none => none
    | some false => opsE C ce N all rest (strikeE tm o.dst) H
    | none => none
section
variable {C : Cfg} {σ : Nat → Value} {O : Opq} {E : Env} {N : Nat} {tm tm' : Tm} {a : Act} {w0 : World} {H H' : Hp} {w w' : World} {ce : Ce}
theorem guardE_eq (hT : RelT σ E N tm a) {all : Array Oper} {o : Oper} {b : Bool} (h : guardE all tm o = some b) : Region.wanted o (yielded all a.tmps) = b := by
  unfold guardE at h
  unfold Region.wanted
  split at h
  · rename_i hg
    cases h
    rw [hg]
  · rename_i j want hg
    rw [hg]
    simp only
    split at h
    · rename_i d hd
      split at h
      · rename_i c hc
        cases h
        obtain ⟨hdn, hv⟩ := hT.at_ d _ hc
        have hv' : a.tmps.getD d undef = .bool c := hv.1
        have hlt : d < a.tmps.size := by rw [hT.size]; exact hdn
        have hq : a.tmps[d]? = some (.bool c) := by
          rw [Array.getElem?_eq_getElem hlt]
          simp only [Array.getD, hlt, dif_pos] at hv'
          rw [← hv']
          rfl
        have : yielded all a.tmps j = some c := by
          unfold yielded
          rw [hd]
          simp only [Option.bind_some, hq]
        rw [this]
        cases c <;> cases want <;> rfl
      · cases h
    · cases h
theorem strikeE_ok (hT : RelT σ E N tm a) (d : Option Tmp) (v : Value) : RelT σ E N (strikeE tm d) (a.put d v) := by
  cases d with
  | none => exact hT
  | some d => exact hT.strike d v
theorem opsE_ok (hC : C.Ok σ) (hce : CeOk C σ O w0 ce) {all : Array Oper} {Q : Exit → Act → World → Prop} {tm' : Tm} {H' : Hp} : ∀ (l : List Oper) (tm : Tm) (H : Hp) (E : Env) (a : Act) (w : World), opsE C ce N all l tm H = some (tm', H') → RelH σ O w0 E H w → RelT σ E N tm a →
    (∀ E' a' w', E.le E' → RelH σ O w0 E' H' w' → RelT σ E' N tm' a' → Q .normal a' w') → wpList C.P all Q l a w
  | [], tm, H, E, a, w, h, hH, hT, hQ => by
    cases h
    exact wpList_nil (hQ E a w (Env.le_refl E) hH hT)
  | o :: rest, tm, H, E, a, w, h, hH, hT, hQ => by
    simp only [opsE] at h
    split at h
    · rename_i hg
      split at h
      · rename_i tm2 H2 hs
        refine wpList_step fun K hK => ?_
        rw [if_pos (guardE_eq hT hg)]
        refine stepE_ok hC hce hH hT hs fun E' w' v hle hH' hT' => hK _ _ ?_
        exact opsE_ok hC hce rest tm2 H2 E' _ w' h hH' hT' fun E2 a2 w2 hle2 => hQ E2 a2 w2 (Env.le_trans hle hle2)
      · cases h
    · rename_i hg
      refine wpList_step fun K hK => ?_
      rw [if_neg (by rw [guardE_eq hT hg]; decide)]
      refine hK _ _ ?_
      exact opsE_ok hC hce rest _ H E _ w h hH (strikeE_ok hT o.dst undef) hQ
    · cases h
end

/-! ### Regions in any order -/
def isWriter : Op → Bool
  | .store .. | .alloc _ | .box .. | .buildSlice .. | .makeSlice .. => true
  | .call { callee := .builtin .append, .. } => true
  | .call { callee := .value _, .. } => true
  | _ => false
def mkPlan (ops : Array Oper) : Nat → Array Bool → List (Nat × Bool)
  | 0, _ => []
  | n + 1, listed =>
    match (Region.ready .any ops listed).find? (fun i => !isWriter (ops.getD i default).op) with
    | some i => (i, true) :: mkPlan ops n (listed.setIfInBounds i true)
    | none =>
      match Region.ready .any ops listed with
      | i :: _ => (i, false) :: mkPlan ops n (listed.setIfInBounds i true)
      | [] => []
def oneOf : List Nat → Nat → Bool
  | [j], i => Nat.beq j i
  | _, _ => false
def planOk (ops : Array Oper) : List (Nat × Bool) → Array Bool → Bool
  | [], listed => (Region.ready .any ops listed).isEmpty
  | (i, true) :: rest, listed => Region.free .any ops listed i && (Region.ready .any ops listed).contains i && planOk ops rest (listed.setIfInBounds i true)
  | (i, false) :: rest, listed => oneOf (Region.ready .any ops listed) i && planOk ops rest (listed.setIfInBounds i true)
def planned (ops : Array Oper) : Option (List (Nat × Bool)) :=
  let p := mkPlan ops ops.size (Array.replicate ops.size false)
  bif Region.noSelect ops && planOk ops p (Array.replicate ops.size false) && Nat.ble p.length ops.size then some p else none
def valEq : Value → Value → Bool
  | .bool a, .bool b => a == b
  | .int k a, .int j b => decide (k = j) && intEq a b
  | .string s, .string t => decide (s = t)
  | .slice none 0 0, .slice none 0 0 => true
  | .pointer none, .pointer none => true
  | _, _ => false
theorem valEq_eq {x y : Value} (h : valEq x y = true) : x = y := by
  unfold valEq at h
  split at h
  · simp only [beq_iff_eq] at h; rw [h]
  · simp only [Bool.and_eq_true, decide_eq_true_eq] at h; rw [intEq_eq] at h; rw [h.1, of_decide_eq_true h.2]
  · simp only [decide_eq_true_eq] at h; rw [h]
  · rfl
  · rfl
  · cases h
def acEq : AC → AC → Bool
  | .v x, .v y => valEq x y
  | .s i, .s j => Nat.beq i j
  | .p b o, .p c q => Nat.beq b c && Nat.beq o q
  | .sl b i n, .sl c j m => Nat.beq b c && Nat.beq i j && Nat.beq n m
  | .os b, .os c => Nat.beq b c
  | _, _ => false
theorem acEq_eq {x y : AC} (h : acEq x y = true) : x = y ∧ x.sure = true := by
  unfold acEq at h
  split at h
  · exact ⟨by rw [valEq_eq h], rfl⟩
  · exact ⟨by rw [Nat.eq_of_beq_eq_true h], rfl⟩
  · simp only [Bool.and_eq_true] at h; exact ⟨by rw [Nat.eq_of_beq_eq_true h.1, Nat.eq_of_beq_eq_true h.2], rfl⟩
  · simp only [Bool.and_eq_true] at h; exact ⟨by rw [Nat.eq_of_beq_eq_true h.1.1, Nat.eq_of_beq_eq_true h.1.2, Nat.eq_of_beq_eq_true h.2], rfl⟩
  · exact ⟨by rw [Nat.eq_of_beq_eq_true h], rfl⟩
  · cases h
def allEq : List AC → List AC → Bool
  | [], [] => true
  | x :: xs, y :: ys => acEq x y && allEq xs ys
  | _, _ => false
theorem allEq_eq : ∀ {xs ys : List AC}, allEq xs ys = true → xs = ys ∧ ∀ x ∈ xs, x.sure = true
  | [], [], _ => ⟨rfl, fun x h => by cases h⟩
  | x :: xs, y :: ys, h => by
    simp only [allEq, Bool.and_eq_true] at h
    obtain ⟨rfl, hs⟩ := acEq_eq h.1
    obtain ⟨rfl, hs2⟩ := allEq_eq h.2
    exact ⟨rfl, fun z hz => by rcases List.mem_cons.1 hz with rfl | hz; exact hs; exact hs2 z hz⟩
  | [], _ :: _, h => by cases h
  | _ :: _, [], h => by cases h
def avEq : AV → AV → Bool
  | .c x, .c y => acEq x y
  | .ag xs, .ag ys => allEq xs ys
  | _, _ => false
structure Ld where
  i : Nat
  t : Nat
  b : Nat
  o : Nat
  av : AV
def waitsB (ops : Array Oper) (j k : Nat) : Bool :=
  match ops[j]? with
  | some o => o.after.any fun e => Region.binds .any e && Nat.beq e.on k
  | none => false
/-- What an operation yields that comes up whenever it may: what needs no memory; what loads. -/
def takeE (C : Cfg) (H : Hp) (tm : Tm) (i : Nat) (o : Oper) : Option (SV × List Ld) :=
  match pureE C H tm o.op with
  | some r => some (r, [])
  | none =>
    match o.op with
    | .load t x =>
      match getO tm x with
      | some (.o (.c (.p b off))) =>
        match peekA C H t b off with
        | some av => some (.o av, [⟨i, t, b, off, av⟩])
        | none => none
      | _ => none
    | _ => none
def sameAt (C : Cfg) (H : Hp) (l : Ld) : Bool :=
  match peekA C H l.t l.b l.o with
  | some y => avEq l.av y
  | none => false
def drawE (C : Cfg) (ce : Ce) (N : Nat) (ops : Array Oper) : List (Nat × Bool) → List Ld → Tm → Hp → Option (Tm × Hp)
  | [], _, tm, H => some (tm, H)
  | (i, tk) :: rest, pend, tm, H =>
    match ops[i]? with
    | none => none
    | some o =>
      match guardE ops tm o with
      | none => none
      | some false => drawE C ce N ops rest pend (strikeE tm o.dst) H
      | some true =>
        match tk with
        | true =>
          match takeE C H tm i o with
          | none => none
          | some (r, l) =>
            match putS N tm o.dst (some r) with
            | none => none
            | some tm' => drawE C ce N ops rest (l ++ pend) tm' H
        | false =>
          match stepE C ce N H tm o with
          | none => none
          | some (tm', H') =>
            bif (pend.filter fun l => !waitsB ops i l.i).all (sameAt C H') then drawE C ce N ops rest (pend.filter fun l => !waitsB ops i l.i) tm' H' else none
def drawR (C : Cfg) (ce : Ce) (N : Nat) (ops : Array Oper) (tm : Tm) (H : Hp) : Option (Tm × Hp) :=
  match planned ops with
  | none => none
  | some p => drawE C ce N ops p [] tm H

/-! ### Any order: what has been taken first may come up later, until somebody comes up who waits for it -/
section
variable {P : Program} {ops : Array Oper} {Q : Exit → Act → World → Prop}
abbrev Pd := List (Nat × (World → Prop))
def keep (ops : Array Oper) (pend : Pd) (j : Nat) : Pd := pend.filter fun p => !waitsB ops j p.1
def wpAnyW (P : Program) (ops : Array Oper) (Q : Exit → Act → World → Prop) : Nat → Pd → Array Bool → Act → World → Prop
  | 0, _, listed, a, w => Region.ready .any ops listed = [] ∧ Q .normal a w
  | fuel + 1, pend, listed, a, w =>
    (Region.ready .any ops listed = [] → Q .normal a w) ∧
    ∀ i ∈ Region.ready .any ops listed, wpOp P ops Q i (fun a' w' => (∀ p ∈ keep ops pend i, p.2 w') ∧ wpAnyW P ops Q fuel (keep ops pend i) (listed.setIfInBounds i true) a' w') a w
theorem wpAny_of_W : ∀ (fuel : Nat) (pend : Pd) (listed : Array Bool) (a : Act) (w : World), wpAnyW P ops Q fuel pend listed a w → wpAny P .any ops Q fuel listed a w
  | 0, _, _, _, _, h => h
  | fuel + 1, _, _, _, _, h => ⟨h.1, fun i hi => wpOp_mono (fun a' w' h' => wpAny_of_W fuel _ _ a' w' h'.2) (h.2 i hi)⟩
theorem keep_sub {p q : Pd} (h : ∀ x ∈ p, x ∈ q) (j : Nat) : ∀ x ∈ keep ops p j, x ∈ keep ops q j := fun x hx => by
  have := List.mem_filter.1 hx
  exact List.mem_filter.2 ⟨h x this.1, this.2⟩
theorem keep_in {p : Pd} {j : Nat} : ∀ x ∈ keep ops p j, x ∈ p := fun x hx => (List.mem_filter.1 hx).1
theorem wpAnyW_less : ∀ (fuel : Nat) (p q : Pd) (listed : Array Bool) (a : Act) (w : World), (∀ x ∈ p, x ∈ q) → wpAnyW P ops Q fuel q listed a w → wpAnyW P ops Q fuel p listed a w
  | 0, _, _, _, _, _, _, h => h
  | fuel + 1, p, q, _, _, _, hs, h => ⟨h.1, fun i hi => wpOp_mono (fun a' w' h' => ⟨fun x hx => h'.1 x (keep_sub hs i x hx), wpAnyW_less fuel _ _ _ a' w' (keep_sub hs i) h'.2⟩) (h.2 i hi)⟩
theorem no_wait {i j : Nat} {listed : Array Bool} (hi : i ∈ Region.ready .any ops listed) (hj : j ∈ Region.ready .any ops listed) : waitsB ops j i = false := by
  obtain ⟨hjun, oj, hoj, hall⟩ := mem_ready.1 hj
  have h0 := (mem_ready.1 hi).1
  unfold waitsB
  rw [hoj]
  simp only [Array.any_eq_false]
  intro k hk hb
  simp only [Bool.and_eq_true, beq_eq, decide_eq_true_eq] at hb
  have h1 := hall oj.after[k] (Array.getElem_mem hk) hb.1
  rw [hb.2] at h1
  rcases Nat.lt_or_ge i listed.size with h' | h'
  · simp [h'] at h0 h1; rw [h0] at h1; cases h1
  · simp [Array.getElem?_eq_none h'] at h1
theorem wpAnyW_first {i : Nat} {oi : Oper} {v : Value} {Y : World → Prop} (hi : ops[i]? = some oi) (hsel : ∀ (j : Nat) (o : Oper) cs b, ops[j]? = some o → o.op ≠ .select cs b)
    (hQ : ∀ c a w, Q (.panic c) (a.put oi.dst v) w → Q (.panic c) a w) :
    ∀ (fuel : Nat) (pend : Pd) (listed : Array Bool) (a : Act) (w : World),
      (∀ j oj, ops[j]? = some oj → j ≠ i → listed.getD j true = false → (∀ e ∈ oj.after, Region.binds .any e = true → e.on ≠ i) → oi.apart ops oj = true) →
      i ∈ Region.ready .any ops listed → YieldsIf P ops Y oi v a → Y w → (∀ p ∈ pend, p.2 w) →
      wpAnyW P ops Q fuel ((i, Y) :: pend) (listed.setIfInBounds i true) (a.put oi.dst v) w → wpAnyW P ops Q (fuel + 1) pend listed a w := by
  intro fuel
  induction fuel with
  | zero =>
    intro pend listed a w _ hr hy hS hp H
    refine ⟨fun h => (by rw [h] at hr; cases hr), fun j hj => ?_⟩
    by_cases hji : j = i
    · subst hji; exact hy.wpOp hi hS ⟨fun x hx => hp x (keep_in x hx), H⟩
    · have := ready_mono hj hji
      rw [H.1] at this
      cases this
  | succ fuel ih =>
    intro pend listed a w hfree hr hy hS hp H
    refine ⟨fun h => (by rw [h] at hr; cases hr), fun j hj => ?_⟩
    by_cases hji : j = i
    · subst hji; exact hy.wpOp hi hS ⟨fun x hx => hp x (keep_in x hx), wpAnyW_less _ _ _ _ _ _ (fun x hx => List.mem_cons_of_mem _ (keep_in x hx)) H⟩
    · have h1 := H.2 j (ready_mono hj hji)
      obtain ⟨hjun, oj, hoj, hall⟩ := mem_ready.1 hj
      have hnot : ∀ e ∈ oj.after, Region.binds .any e = true → e.on ≠ i := fun e he hb heq => by
        have h1 := hall e he hb
        have h0 := (mem_ready.1 hr).1
        rw [heq] at h1
        rcases Nat.lt_or_ge i listed.size with h' | h'
        · simp [h'] at h0 h1; rw [h0] at h1; cases h1
        · simp [Array.getElem?_eq_none h'] at h1
      have hk : keep ops ((i, Y) :: pend) j = (i, Y) :: keep ops pend j := by
        unfold keep
        rw [List.filter_cons_of_pos]
        simp only [no_wait hr hj, Bool.not_false]
      rw [hk] at h1
      have h2 := wpOp_putIf hoj (hfree j oj hoj hji hjun hnot) (fun cs b => hsel i oi cs b hi) (fun cs b => hsel j oj cs b hoj) hQ hy h1
      have hfree' : ∀ k ok, ops[k]? = some ok → k ≠ i → (listed.setIfInBounds j true).getD k true = false →
          (∀ e ∈ ok.after, Region.binds .any e = true → e.on ≠ i) → oi.apart ops ok = true := fun k ok hk hki hun hno => by
        refine hfree k ok hk hki ?_ hno
        by_cases hjk : j = k
        · subst hjk; exact hjun
        · rw [getD_set_ne true hjk] at hun; exact hun
      refine wpOp_mono (fun a' w' h3 => ?_) h2
      obtain ⟨hy', hs', hW⟩ := h3
      refine ⟨fun x hx => hs' x (List.mem_cons_of_mem _ hx), ih (keep ops pend j) (listed.setIfInBounds j true) a' w' hfree' (ready_mono hr (Ne.symm hji)) hy' (hs' (i, Y) List.mem_cons_self) (fun x hx => hs' x (List.mem_cons_of_mem _ hx)) ?_⟩
      rw [Array.setIfInBounds_comm _ _ hji]
      exact hW
theorem wpAnyW_true {i : Nat} : ∀ (fuel : Nat) (p : Pd) (listed : Array Bool) (a : Act) (w : World), wpAnyW P ops Q fuel p listed a w → wpAnyW P ops Q fuel ((i, fun _ => True) :: p) listed a w
  | 0, _, _, _, _, h => h
  | fuel + 1, p, _, _, _, h => ⟨h.1, fun j hj => wpOp_mono (fun a' w' h' => by
      unfold keep at h' ⊢
      cases hw : waitsB ops j i with
      | true => rw [List.filter_cons_of_neg (by simp [hw])]; exact h'
      | false =>
        rw [List.filter_cons_of_pos (by simp [hw])]
        refine ⟨fun x hx => ?_, wpAnyW_true fuel _ _ a' w' h'.2⟩
        rcases List.mem_cons.1 hx with rfl | hx
        · trivial
        · exact h'.1 x hx) (h.2 j hj)⟩
theorem wpAnyW_done {pend : Pd} {listed : Array Bool} {a : Act} {w : World} (hr : Region.ready .any ops listed = []) (h : Q .normal a w) : ∀ fuel, wpAnyW P ops Q fuel pend listed a w
  | 0 => ⟨hr, h⟩
  | _ + 1 => ⟨fun _ => h, by rw [hr]; simp⟩
end
section
variable {C : Cfg} {σ : Nat → Value} {O : Opq} {E E0 : Env} {N : Nat} {tm tm' : Tm} {a : Act} {w0 w1 : World} {H H0 H' : Hp} {w w' : World} {ce : Ce}
theorem RelL.unique {xs : List AC} {us vs : List Value} (hs : ∀ x ∈ xs, x.sure = true) (h : RelL σ E xs us) (h' : RelL σ E xs vs) : us = vs := by
  apply List.ext_getElem?
  intro j
  by_cases hj : j < xs.length
  · have h1 : j < us.length := by rw [← h.1]; exact hj
    have h2 : j < vs.length := by rw [← h'.1]; exact hj
    rw [List.getElem?_eq_getElem h1, List.getElem?_eq_getElem h2]
    congr 1
    exact RelC.unique (hs _ (List.getElem_mem hj)) (h.2 j xs[j] us[j] (List.getElem?_eq_getElem hj) (List.getElem?_eq_getElem h1)) (h'.2 j xs[j] vs[j] (List.getElem?_eq_getElem hj) (List.getElem?_eq_getElem h2))
  · rw [List.getElem?_eq_none (by rw [← h.1]; omega), List.getElem?_eq_none (by rw [← h'.1]; omega)]
theorem avEq_unique {x y : AV} (h : avEq x y = true) {u v : Value} (hu : RelV σ E x u) (hv : RelV σ E y v) : u = v := by
  unfold avEq at h
  split at h
  · obtain ⟨rfl, hs⟩ := acEq_eq h
    exact RelC.unique hs hu hv
  · obtain ⟨rfl, hs⟩ := allEq_eq h
    obtain ⟨a1, rfl, h1⟩ := hu
    obtain ⟨a2, rfl, h2⟩ := hv
    rw [Array.toList_inj.1 (RelL.unique hs h1 h2)]
  · cases h
/-- What was taken, as the machine has it, and as a condition on the world. -/
def PdRel (C : Cfg) (σ : Nat → Value) (E : Env) : List Ld → Pd → Prop
  | [], [] => True
  | l :: ls, p :: ps => (l.i = p.1 ∧ ∃ r v, E l.b = some r ∧ RelV σ E l.av v ∧ p.2 = fun w => (loadVar l.t ⟨r.g, l.o, none⟩).run C.P w = .ok v w) ∧ PdRel C σ E ls ps
  | _, _ => False
theorem PdRel.mono {E' : Env} (h : E.le E') : ∀ {ls : List Ld} {ps : Pd}, PdRel C σ E ls ps → PdRel C σ E' ls ps
  | [], [], _ => trivial
  | _ :: _, _ :: _, ⟨⟨hi, r, v, hr, hv, hp⟩, k⟩ => ⟨⟨hi, r, v, h _ _ hr, hv.mono h, hp⟩, PdRel.mono h k⟩
  | [], _ :: _, k => k.elim
  | _ :: _, [], k => k.elim
theorem PdRel.filter {ops : Array Oper} {j : Nat} : ∀ {ls : List Ld} {ps : Pd}, PdRel C σ E ls ps → PdRel C σ E (ls.filter fun l => !waitsB ops j l.i) (keep ops ps j)
  | [], [], _ => trivial
  | l :: ls, p :: ps, ⟨h1, k⟩ => by
    have hi := h1.1
    unfold keep
    cases hw : waitsB ops j l.i with
    | true =>
      rw [List.filter_cons_of_neg (by simp [hw]), List.filter_cons_of_neg (by rw [← hi]; simp [hw])]
      exact k.filter
    | false =>
      rw [List.filter_cons_of_pos (by simp [hw]), List.filter_cons_of_pos (by rw [← hi]; simp [hw])]
      exact ⟨h1, k.filter⟩
  | [], _ :: _, k => k.elim
  | _ :: _, [], k => k.elim
theorem PdRel.holds (hC : C.Ok σ) (hH : RelH σ O w0 E H w) : ∀ {ls : List Ld} {ps : Pd}, PdRel C σ E ls ps → ls.all (sameAt C H) = true → ∀ p ∈ ps, p.2 w
  | [], [], _, _, p, hp => by cases hp
  | l :: ls, q :: ps, ⟨⟨hi, r, v, hr, hv, hq⟩, k⟩, h, p, hp => by
    simp only [List.all_cons, Bool.and_eq_true] at h
    rcases List.mem_cons.1 hp with rfl | hp
    · have hs := h.1
      unfold sameAt at hs
      split at hs
      · rename_i y hy
        obtain ⟨u, hu, hru⟩ := peek_ok hC hH hy hr
        rw [hq]
        show (loadVar l.t ⟨r.g, l.o, none⟩).run C.P w = .ok v w
        rw [hru, avEq_unique hs hv hu]
      · cases hs
    · exact PdRel.holds hC hH k h.2 p hp
  | [], _ :: _, k, _, _, _ => k.elim
  | _ :: _, [], k, _, _, _ => k.elim
theorem drawE_ok (hC : C.Ok σ) (hce : CeOk C σ O w0 ce) {ops : Array Oper} (hsel : Region.noSelect ops = true) {Q : Exit → Act → World → Prop} (hQ : ∀ c a a' w, Q (.panic c) a w → Q (.panic c) a' w) {tm' : Tm} {H' : Hp} (fuel : Nat) :
    ∀ (plan : List (Nat × Bool)) (pend : List Ld) (ps : Pd) (tm : Tm) (H : Hp) (listed : Array Bool) (E : Env) (a : Act) (w : World), drawE C ce N ops plan pend tm H = some (tm', H') → planOk ops plan listed = true →
      RelH σ O w0 E H w → RelT σ E N tm a → PdRel C σ E pend ps → (∀ p ∈ ps, p.2 w) →
      (∀ E' a' w', E.le E' → RelH σ O w0 E' H' w' → RelT σ E' N tm' a' → Q .normal a' w') → wpAnyW C.P ops Q (plan.length + fuel) ps listed a w
  | [], pend, ps, tm, H, listed, E, a, w, h, hp, hH, hT, hpd, hps, hK => by
    cases h
    exact wpAnyW_done (by simpa [planOk] using hp) (hK E a w (Env.le_refl E) hH hT) _
  | (i, tk) :: rest, pend, ps, tm, H, listed, E, a, w, h, hp, hH, hT, hpd, hps, hK => by
    simp only [drawE] at h
    split at h
    · cases h
    · rename_i o ho
      rw [show ((i, tk) :: rest).length + fuel = (rest.length + fuel) + 1 by simp; omega]
      cases tk with
      | true =>
        simp only [planOk, Bool.and_eq_true] at hp
        obtain ⟨⟨hfree, hready⟩, hrest⟩ := hp
        have hr : i ∈ Region.ready .any ops listed := by simpa using hready
        split at h
        · cases h
        · rename_i hg
          refine wpAnyW_first (v := undef) (Y := fun _ => True) ho (Region.noSelect_spec hsel) (fun c a w => hQ c _ _ w) _ ps listed a w (Region.free_spec ho hfree) hr (.inr ⟨guardE_eq hT hg, rfl⟩) trivial hps ?_
          exact wpAnyW_true _ _ _ _ _ (drawE_ok hC hce hsel hQ fuel rest pend ps _ H _ E _ w h hrest hH (strikeE_ok hT o.dst undef) hpd hps hK)
        · rename_i hg
          dsimp only at h
          split at h
          · cases h
          · rename_i r l htk
            split at h
            · cases h
            · rename_i tm2 hput
              unfold takeE at htk
              split at htk
              · rename_i q hpu
                cases htk
                obtain ⟨v, hv, hrun⟩ := pureE_ok hC hH hT hpu
                refine wpAnyW_first (v := v) (Y := fun _ => True) ho (Region.noSelect_spec hsel) (fun c a w => hQ c _ _ w) _ ps listed a w (Region.free_spec ho hfree) hr (.inl ⟨guardE_eq hT hg, fun w' _ => hrun w'⟩) trivial hps ?_
                exact wpAnyW_true _ _ _ _ _ (drawE_ok hC hce hsel hQ fuel rest pend ps _ H _ E _ w h hrest hH (putS_ok hT hput hv) hpd hps hK)
              · split at htk
                · rename_i t x hop
                  split at htk
                  · rename_i b off hx
                    split at htk
                    · rename_i av hpk
                      cases htk
                      obtain ⟨q, hq, hev⟩ := getO_rel hT hx
                      obtain ⟨v, hv, hrun⟩ := peek_ok hC hH hpk hq
                      refine wpAnyW_first (v := v) (Y := fun w => (loadVar t ⟨q.g, off, none⟩).run C.P w = .ok v w) ho (Region.noSelect_spec hsel) (fun c a w => hQ c _ _ w) _ ps listed a w (Region.free_spec ho hfree) hr (.inl ⟨guardE_eq hT hg, fun w' hw' => ?_⟩) hrun hps ?_
                      · unfold execOp; rw [hop]
                        refine alloc_run ?_
                        simp only [Instr.loadAt, hev, Sem.run_bind, sureAddr_run, Result.andThen_ok]
                        exact hw'
                      · refine drawE_ok hC hce hsel hQ fuel rest _ ((i, fun w => (loadVar t ⟨q.g, off, none⟩).run C.P w = .ok v w) :: ps) _ H _ E _ w h hrest hH (putS_ok hT hput hv) ⟨⟨rfl, q, v, hq, hv, rfl⟩, hpd⟩ (fun p hp => ?_) hK
                        rcases List.mem_cons.1 hp with rfl | hp
                        · exact hrun
                        · exact hps p hp
                    · cases htk
                  · cases htk
                · cases htk
      | false =>
        simp only [planOk, Bool.and_eq_true] at hp
        obtain ⟨hone, hrest⟩ := hp
        have hr : Region.ready .any ops listed = [i] := by
          unfold oneOf at hone
          split at hone
          · rename_i j hj; rw [hj, Nat.eq_of_beq_eq_true hone]
          · cases hone
        refine ⟨fun h0 => (by rw [hr] at h0; cases h0), fun i' hi' => ?_⟩
        obtain rfl : i' = i := by rw [hr] at hi'; simpa using hi'
        unfold wpOp
        rw [ho]
        simp only
        split at h
        · cases h
        · rename_i hg
          rw [if_neg (by rw [guardE_eq hT hg]; decide)]
          refine ⟨fun x hx => hps x (keep_in x hx), wpAnyW_less _ _ _ _ _ _ (fun x hx => keep_in x hx) (drawE_ok hC hce hsel hQ fuel rest pend ps _ H _ E _ w h hrest hH (strikeE_ok hT o.dst undef) hpd hps hK)⟩
        · rename_i hg
          rw [if_pos (guardE_eq hT hg)]
          dsimp only at h
          split at h
          · cases h
          · rename_i tm2 H2 hst
            cases hall : (pend.filter fun l => !waitsB ops i' l.i).all (sameAt C H2) with
            | false => rw [hall] at h; cases h
            | true =>
              rw [hall, cond_true] at h
              refine .inl (stepE_ok hC hce hH hT hst fun E' w' v hle' hH' hT' => ?_)
              have hpd' : PdRel C σ E' (pend.filter fun l => !waitsB ops i' l.i) (keep ops ps i') := (hpd.mono hle').filter
              have hh := hpd'.holds hC hH' hall
              exact ⟨hh, drawE_ok hC hce hsel hQ fuel rest _ _ _ H2 _ E' _ w' h hrest hH' hT' hpd' hh (fun E2 a2 w2 hle2 => hK E2 a2 w2 (Env.le_trans hle' hle2))⟩
theorem drawR_ok (hC : C.Ok σ) (hce : CeOk C σ O w0 ce) {id : Nat} {ops : Array Oper} {Q : Exit → Act → World → Prop} (hQ : ∀ c a a' w, Q (.panic c) a w → Q (.panic c) a' w) (h : drawR C ce N ops tm H = some (tm', H')) (hH : RelH σ O w0 E H w) (hT : RelT σ E N tm a)
    (hK : ∀ E' a' w', E.le E' → RelH σ O w0 E' H' w' → RelT σ E' N tm' a' → Q .normal a' w') : (Code.region id ops true).wp C.P Q a w := by
  unfold drawR at h
  split at h
  · cases h
  · rename_i p hp
    unfold planned at hp
    simp only at hp
    cases hc : (Region.noSelect ops && planOk ops (mkPlan ops ops.size (Array.replicate ops.size false)) (Array.replicate ops.size false) && Nat.ble (mkPlan ops ops.size (Array.replicate ops.size false)).length ops.size) with
    | false => rw [hc] at hp; cases hp
    | true =>
      rw [hc] at hp
      cases hp
      simp only [Bool.and_eq_true, Nat.ble_eq] at hc
      obtain ⟨⟨hsel, hok⟩, hlen⟩ := hc
      have hHd : RelH σ O w0 E H w.drew := hH.drew
      have := drawE_ok hC hce hsel hQ (ops.size - (mkPlan ops ops.size (Array.replicate ops.size false)).length) _ [] [] tm H (Array.replicate ops.size false) E a w.drew h hok hHd hT trivial (fun p hp => by cases hp) hK
      rw [show (mkPlan ops ops.size (Array.replicate ops.size false)).length + (ops.size - (mkPlan ops ops.size (Array.replicate ops.size false)).length) = ops.size by omega] at this
      exact wp_region_any hC.mixed (wpAny_of_W _ _ _ _ _ this)
end
end Go.Proofs.Ytdfhkmekmockkaa.Rx
