/- A symbolic machine over the model's operations. Part 8: regions in text order and in any order. No program in sight. -/
import Derived.Test.YtipomcnbjlfekaaRsX
namespace Go.Proofs.Ytipomcnbjlfekaa.Rs
open Go.RowKit
set_option linter.unusedVariables false
set_option linter.unusedSimpArgs false

def argsO (tm : Tm) : List Operand → Option (List SV)
  | [] => some []
  | x :: xs =>
    match getO tm x, argsO tm xs with
    | some u, some r => some (u :: r)
    | _, _ => none
def putS (N : Nat) (tm : Tm) : Option Tmp → Option SV → Option Tm
  | none, _ => some tm
  | some d, some sv => bif Nat.blt d N then some (tm.put d (some sv)) else none
  | some d, none => some (tm.put d none)
def needs : List Te → Out → Out
  | [], x => x
  | c :: cs, x => .need c (needs cs x)
def peekC (C : Cfg) (H : Hp) (t : Nat) : AC → Option AV
  | .p b o => peekA C H t b o
  | .pe b i j => peekP C H t b i j
  | _ => none
/-- What is done behind: with a slot filled. -/
def putK (N : Nat) (tm : Tm) (d : Option Tmp) (r : Option SV) (H : Hp) (k : Tm → Hp → Out) : Out :=
  match putS N tm d r with
  | some tm' => k tm' H
  | none => .fail
abbrev Ce := FuncId → List SV → Hp → (SV → Hp → Out) → Out
def stepT (C : Cfg) (ce : Ce) (N : Nat) (H : Hp) (tm : Tm) (o : Oper) (k : Tm → Hp → Out) : Out :=
  match pureT C H tm o.op with
  | some (r, ns) => needs ns (putK N tm o.dst (some r) H k)
  | none =>
    match o.op with
    | .load t x =>
      match cO tm x with
      | some c =>
        match peekC C H t c with
        | some av => putK N tm o.dst (some (.o av)) H k
        | none =>
          match arrL C H t c with
          | some (av, ns) => needs ns (putK N tm o.dst (some (.o av)) H k)
          | none => .fail
      | none => .fail
    | .call { callee := .value (.func f), args, argTypes } =>
      match C.fn f, argsO tm args.toList with
      | some F, some as => bif F.body.isSome then ce f as H (fun r H' => putK N tm o.dst (some r) H' k) else .fail
      | _, _ => .fail
    | op =>
      match writeE C H tm op with
      | some (r, H') => putK N tm o.dst r H' k
      | none =>
        match symW C H tm op with
        | some (r, H', ns) => needs ns (putK N tm o.dst r H' k)
        | none =>
          match arrW C H tm op with
          | some (r, H', ns) => needs ns (putK N tm o.dst r H' k)
          | none => .fail
section
variable {C : Cfg} {K0 : Qn → Ex → Tm → Hp → Prop}
theorem needs_ok {q : Qn} : ∀ {ns : List Te} {x : Out}, (needs ns x).Ok C K0 q → (∀ c ∈ ns, c.ev q.S = .bool true) ∧ x.Ok C K0 q
  | [], x, h => ⟨fun c hc => (by cases hc), h⟩
  | c :: cs, x, h => by
    obtain ⟨h1, h2⟩ := h
    obtain ⟨h3, h4⟩ := needs_ok (ns := cs) h2
    exact ⟨fun d hd => by rcases List.mem_cons.1 hd with rfl | hd; exact h1; exact h3 d hd, h4⟩
/-- What a function that is called does. -/
def CeOk (C : Cfg) (K0 : Qn → Ex → Tm → Hp → Prop) (fr : Fr) (w0 : World) (ce : Ce) : Prop :=
  ∀ f as H k E w (vs : Array Value), (ce f as H k).Ok C K0 E.q → RelH fr w0 E H w → as.length = vs.size → (∀ (j : Nat) x v, as[j]? = some x → vs[j]? = some v → RelS E x v) →
    Calls C.P f vs w fun e w' => ∃ E' v r H', e = .returned v ∧ E.le E' ∧ RelS E' r v ∧ RelH fr w0 E' H' w' ∧ (k r H').Ok C K0 E'.q
end
section
variable {C : Cfg} {K0 : Qn → Ex → Tm → Hp → Prop} {fr : Fr} {E : Env} {N : Nat} {tm tm' : Tm} {a : Act} {w0 : World} {H H' : Hp} {w w' : World} {ce : Ce}
theorem argsO_rel (hT : RelT E N tm a) : ∀ (l : List Operand) {as : List SV}, argsO tm l = some as → as.length = l.length ∧ ∀ (j : Nat) x v, as[j]? = some x → (l.map a.eval)[j]? = some v → RelS E x v
  | [], as, h => by cases h; exact ⟨rfl, fun j x v hx => by simp at hx⟩
  | x :: xs, as, h => by
    simp only [argsO] at h
    split at h
    · rename_i u r hu hr
      cases h
      obtain ⟨h1, h2⟩ := argsO_rel hT xs hr
      refine ⟨by simp [h1], fun j y v hy hv => ?_⟩
      cases j with
      | zero => simp at hy hv; subst hy hv; exact getO_rel hT hu
      | succ j => simp at hy; exact h2 j y v hy (by simpa using hv)
    · cases h
theorem putS_ok (hT : RelT E N tm a) {d : Option Tmp} {r : Option SV} (h : putS N tm d r = some tm') {v : Value} (hv : Told E r v) : RelT E N tm' (a.put d v) := by
  cases d with
  | none => cases h; exact hT
  | some d =>
    cases r with
    | none => cases h; exact hT.strike d v
    | some sv =>
      simp only [putS] at h
      cases hc : Nat.blt d N with
      | false => rw [hc] at h; cases h
      | true =>
        rw [hc] at h
        cases h
        exact hT.put (by simpa using hc) hv
theorem peekC_ok (hC : C.Ok) (hH : RelH fr w0 E H w) {t : Nat} {c : AC} {av : AV} (h : peekC C H t c = some av) {u : Value} (hu : RelC E c u) : ∃ ad v, u = .pointer (some ad) ∧ RelV E av v ∧ (loadVar t ad).run C.P w = .ok v w := by
  cases c with
  | p b o =>
    obtain ⟨r, g, hr, hg, rfl⟩ := hu
    obtain ⟨v, h1, h2⟩ := peek_ok hC hH h hr hg
    exact ⟨_, v, rfl, h1, h2⟩
  | pe b i j => exact peekP_ok hC hH h hu
  | _ => cases h
theorem putK_ok (hT : RelT E N tm a) {d : Option Tmp} {r : Option SV} {k : Tm → Hp → Out} {q : Qn} (h : (putK N tm d r H k).Ok C K0 q) {v : Value} (hv : Told E r v) : ∃ tm', RelT E N tm' (a.put d v) ∧ (k tm' H).Ok C K0 q := by
  unfold putK at h
  split at h
  · rename_i tm' hp
    exact ⟨tm', putS_ok hT hp hv, h⟩
  · exact h.elim
theorem stepT_ok (hC : C.Ok) (hce : CeOk C K0 fr w0 ce) (hH : RelH fr w0 E H w) (hT : RelT E N tm a) {o : Oper} {k : Tm → Hp → Out} (h : (stepT C ce N H tm o k).Ok C K0 E.q) {Q : Exit → Act → World → Prop} {K : Act → World → Prop}
    (hK : ∀ E' w' v tm' H', E.le E' → RelH fr w0 E' H' w' → RelT E' N tm' (a.put o.dst v) → (k tm' H').Ok C K0 E'.q → K (a.put o.dst v) w') : o.wp C.P a w K Q := by
  unfold stepT at h
  split at h
  · rename_i r ns hp
    obtain ⟨h1, h2⟩ := needs_ok h
    obtain ⟨v, hv, hrun⟩ := pureT_ok hC hH hT hp h1
    obtain ⟨tm', h3, h4⟩ := putK_ok (r := some r) hT h2 hv
    exact wp_value (hrun w) (hK E w v tm' H (Env.le_refl E) hH h3 h4)
  · split at h
    · rename_i t x ho
      split at h
      · rename_i c hx
        split at h
        · rename_i av hpk
          obtain ⟨ad, v, hev, hv, hrun⟩ := peekC_ok hC hH hpk (cO_rel hT hx)
          obtain ⟨tm', h3, h4⟩ := putK_ok (r := some (.o av)) hT h hv
          refine wp_value (v := v) ?_ (hK E w v tm' H (Env.le_refl E) hH h3 h4)
          unfold execOp; rw [ho]
          refine alloc_run ?_
          simp only [Instr.loadAt, hev, Sem.run_bind, sureAddr_run, Result.andThen_ok, hrun]
        · split at h
          · rename_i av ns hpk
            obtain ⟨h1, h2⟩ := needs_ok h
            obtain ⟨ad, v, hev, hv, hrun⟩ := arrL_ok hC hH hpk h1 (cO_rel hT hx)
            obtain ⟨tm', h3, h4⟩ := putK_ok (r := some (.o av)) hT h2 hv
            refine wp_value (v := v) ?_ (hK E w v tm' H (Env.le_refl E) hH h3 h4)
            unfold execOp; rw [ho]
            refine alloc_run ?_
            simp only [Instr.loadAt, hev, Sem.run_bind, sureAddr_run, Result.andThen_ok, hrun]
          · exact h.elim
      · exact h.elim
    · rename_i f args argTypes ho
      split at h
      · rename_i F as hF has
        cases hb : F.body.isSome with
        | false => rw [hb] at h; exact h.elim
        | true =>
          rw [hb, cond_true] at h
          obtain ⟨hf, hnm⟩ := hC.fn _ _ hF
          obtain ⟨hl, hr⟩ := argsO_rel hT args.toList has
          have hcall := hce f as H _ E w (args.map a.eval) h hH (by rw [hl]; simp) (fun j x v hx hv => hr j x v hx (by simpa using hv))
          have hrun : (execOp a.eval o).run C.P w = .ok (.enter f (args.map a.eval)) w := by
            unfold execOp; rw [ho]
            have hnn : F.body.isNone = false := by cases hbb : F.body <;> simp_all
            simp only [resolve, Act.eval, Deferred.ofValue, invoke, callFunc, Sem.run_bind, Sem.run_pure, Result.andThen_ok, run_program, hf]
            simp [hnm, hnn]
          unfold Oper.wp
          rw [hrun]
          refine Calls.mono hcall ?_
          rintro e w' ⟨E', v, r, H', rfl, hle, hv, hH', hk⟩
          obtain ⟨tm', h3, h4⟩ := putK_ok (r := some r) (hT.mono hle) hk hv
          exact hK E' w' v tm' H' hle hH' h3 h4
      · exact h.elim
    · rename_i op ho1 ho2
      split at h
      · rename_i r H2 hw
        refine writeE_ok hC hH hT hw fun E' w' v hle hq hH' hv => ?_
        rw [← hq] at h
        obtain ⟨tm', h3, h4⟩ := putK_ok (hT.mono hle) h hv
        exact hK E' w' v tm' H2 hle hH' h3 h4
      · split at h
        · rename_i r H2 ns hw
          obtain ⟨h1, h2⟩ := needs_ok h
          refine symW_ok hC hH hT hw h1 fun E' w' v hle hq hH' hv => ?_
          rw [← hq] at h2
          obtain ⟨tm', h3, h4⟩ := putK_ok (hT.mono hle) h2 hv
          exact hK E' w' v tm' H2 hle hH' h3 h4
        · split at h
          · rename_i r H2 ns hw
            obtain ⟨h1, h2⟩ := needs_ok h
            refine arrW_ok hC hH hT hw h1 fun E' w' v hle hq hH' hv => ?_
            rw [← hq] at h2
            obtain ⟨tm', h3, h4⟩ := putK_ok (hT.mono hle) h2 hv
            exact hK E' w' v tm' H2 hle hH' h3 h4
          · exact h.elim
end

/-! ### Names for big terms -/
mutual
def teSz : Te → Nat
  | .s _ => 1
  | .l _ => 1
  | .bin _ a b => teSz a + teSz b + 1
  | .not a => teSz a + 1
  | .and a b => teSz a + teSz b + 1
  | .cv _ a => teSz a + 1
  | .sl a => teSz a + 1
  | .len _ => 1
  | .cell _ _ _ => 1
  | .ite c a b => teSz c + teSz a + teSz b + 1
  | .sub a i j => teSz a + teSz i + teSz j + 1
  | .str _ => 1
def rtSz : RT → Nat
  | _ => 1
def tlSz : TL → Nat
  | _ => 1
end
def bigT (b : Nat) (te : Te) : Bool := bif Nat.beq b 0 then false else Nat.ble b (teSz te)
def nameL (C : Cfg) : List Nat → Tm → Hp → (Tm → Hp → Out) → Out
  | [], tm, H, k => k tm H
  | d :: ds, tm, H, k =>
    match tm.get d with
    | some (.o (.c (.t ck te))) => bif bigT C.big te then .name te (nameL C ds (tm.put d (some (.o (.c (.t ck (.s H.n)))))) ⟨H.next, H.bs, H.n + 1, H.m⟩ k) else nameL C ds tm H k
    | _ => nameL C ds tm H k
def srcOf (o : Oper) : List Nat :=
  match o.op with
  | .store _ _ (.tmp d) => [d]
  | _ => []
def asgs : List Oper → List Nat
  | [] => []
  | o :: l =>
    match o.op, o.dst with
    | .assign _, some d => d :: asgs l
    | _, _ => asgs l
def stepN (C : Cfg) (ce : Ce) (N : Nat) (H : Hp) (tm : Tm) (o : Oper) (k : Tm → Hp → Out) : Out := nameL C (srcOf o) tm H fun tm H => stepT C ce N H tm o k
def Env.nm (E : Env) (v : Value) : Env := ⟨E.rg, E.q.ext [v] []⟩
section
variable {C : Cfg} {K0 : Qn → Ex → Tm → Hp → Prop} {fr : Fr} {E : Env} {N : Nat} {tm tm' : Tm} {a : Act} {w0 : World} {H H' : Hp} {w w' : World} {ce : Ce}
theorem Env.le_nm (E : Env) (v : Value) : E.le (E.nm v) := ⟨fun _ _ h => h, Qn.le_ext _ _ _⟩
theorem RelH.named (hH : RelH fr w0 E H w) (v : Value) : RelH fr w0 (E.nm v) ⟨H.next, H.bs, H.n + 1, H.m⟩ w where
  blk b bl hb := ⟨(hH.blk b bl hb).1, RelB.mono (Env.le_nm E v) (hH.blk b bl hb).2⟩
  fresh := hH.fresh
  apart := hH.apart
  free := hH.free
  frlt := hH.frlt
  keep := hH.keep
  cnt := ⟨by show E.q.n + 1 = H.n + 1; rw [hH.cnt.1], hH.cnt.2⟩
theorem RelT.reput (hT : RelT E N tm a) {E' : Env} (hle : E.le E') {d : Nat} {sv sv' : SV} (hc : tm.get d = some sv) (h : RelS E' sv' (a.tmps.getD d undef)) : RelT E' N (tm.put d (some sv')) a := by
  refine ⟨hT.size, hT.defers, fun t q hq => ?_⟩
  rw [Tr.get_put] at hq
  split at hq
  · rename_i e
    cases hq
    subst e
    exact ⟨(hT.at_ _ _ hc).1, h⟩
  · exact ⟨(hT.at_ _ _ hq).1, (hT.at_ _ _ hq).2.mono hle⟩
theorem nameL_ok {k : Tm → Hp → Out} : ∀ (ds : List Nat) (E : Env) (tm : Tm) (H : Hp), (nameL C ds tm H k).Ok C K0 E.q → RelH fr w0 E H w → RelT E N tm a → ∃ E' tm' H', E.le E' ∧ RelH fr w0 E' H' w ∧ RelT E' N tm' a ∧ (k tm' H').Ok C K0 E'.q
  | [], E, tm, H, h, hH, hT => ⟨E, tm, H, Env.le_refl E, hH, hT, h⟩
  | d :: ds, E, tm, H, h, hH, hT => by
    simp only [nameL] at h
    split at h
    · rename_i ck te hg
      cases hb : bigT C.big te with
      | false => rw [hb] at h; exact nameL_ok ds E tm H h hH hT
      | true =>
        rw [hb, cond_true] at h
        obtain ⟨hd, hk, hev⟩ := hT.at_ d _ hg
        have hv := hev _ E.q.has_self
        have h : (nameL C ds (tm.put d (some (.o (.c (.t ck (.s H.n)))))) ⟨H.next, H.bs, H.n + 1, H.m⟩ k).Ok C K0 (E.nm (te.ev E.q.S)).q := h
        obtain ⟨E', tm', H', h1, h2, h3, h4⟩ := nameL_ok ds (E.nm (te.ev E.q.S)) _ _ h (hH.named _) (hT.reput (Env.le_nm E _) hg (sv' := .o (.c (.t ck (.s H.n)))) ⟨hk, fun S hS => by
          have hn : H.n < (E.nm (te.ev E.q.S)).q.n := by show H.n < E.q.n + 1; rw [hH.cnt.1]; omega
          show S.v H.n = _
          rw [hS.1 _ hn]
          show (if H.n < E.q.n then E.q.S.v H.n else [te.ev E.q.S].getD (H.n - E.q.n) undef) = _
          rw [if_neg (by rw [hH.cnt.1]; omega), show H.n - E.q.n = 0 from by rw [hH.cnt.1]; omega]
          exact hv⟩)
        exact ⟨E', tm', H', Env.le_trans (Env.le_nm E _) h1, h2, h3, h4⟩
    · exact nameL_ok ds E tm H h hH hT
theorem stepN_ok (hC : C.Ok) (hce : CeOk C K0 fr w0 ce) (hH : RelH fr w0 E H w) (hT : RelT E N tm a) {o : Oper} {k : Tm → Hp → Out} (h : (stepN C ce N H tm o k).Ok C K0 E.q) {Q : Exit → Act → World → Prop} {K : Act → World → Prop}
    (hK : ∀ E' w' v tm' H', E.le E' → RelH fr w0 E' H' w' → RelT E' N tm' (a.put o.dst v) → (k tm' H').Ok C K0 E'.q → K (a.put o.dst v) w') : o.wp C.P a w K Q := by
  obtain ⟨E1, tm1, H1, h1, h2, h3, h4⟩ := nameL_ok (srcOf o) E tm H h hH hT
  exact stepT_ok hC hce h2 h3 h4 fun E' w' v tm' H' hle => hK E' w' v tm' H' (Env.le_trans h1 hle)
end

/-! ### Regions in text order -/
inductive Gd where
  | yes
  | no
  | ask (d : Nat) (te : Te) (want : Bool)
  | bad
def guardT (all : Array Oper) (tm : Tm) (o : Oper) : Gd :=
  match o.guard with
  | none => .yes
  | some (j, want) =>
    match (all[j]?).bind (·.dst) with
    | some d =>
      match tm.get d with
      | some (.o (.c (.v (.bool b)))) => bif b == want then .yes else .no
      | some (.o (.c (.t .b te))) => .ask d te want
      | some (.tu []) => .no
      | _ => .bad
    | none => .bad
def strikeE (N : Nat) (tm : Tm) : Option Tmp → Tm
  | none => tm
  | some d => bif Nat.blt d N then tm.put d (some (.tu [])) else tm.put d none
def knownB (b : Bool) : SV := .o (.c (.v (.bool b)))
/-- Both ways: an operation is wanted, or not. -/
def askG (d : Nat) (te : Te) (want : Bool) (tm : Tm) (yes no : Tm → Out) : Out :=
  bif want then .ask te (yes (tm.put d (some (knownB true)))) (no (tm.put d (some (knownB false)))) else .ask te (no (tm.put d (some (knownB true)))) (yes (tm.put d (some (knownB false))))
def opsT (C : Cfg) (ce : Ce) (N : Nat) (all : Array Oper) : List Oper → Tm → Hp → (Tm → Hp → Out) → Out
  | [], tm, H, k => k tm H
  | o :: rest, tm, H, k =>
    match guardT all tm o with
    | .yes => stepN C ce N H tm o (fun tm' H' => opsT C ce N all rest tm' H' k)
    | .no => opsT C ce N all rest (strikeE N tm o.dst) H k
    | .ask d te want => askG d te want tm (fun tm => stepN C ce N H tm o (fun tm' H' => opsT C ce N all rest tm' H' k)) (fun tm => opsT C ce N all rest (strikeE N tm o.dst) H k)
    | .bad => .fail
section
variable {C : Cfg} {K0 : Qn → Ex → Tm → Hp → Prop} {fr : Fr} {E : Env} {N : Nat} {tm tm' : Tm} {a : Act} {w0 : World} {H H' : Hp} {w w' : World} {ce : Ce}
theorem wanted_at (hT : RelT E N tm a) {all : Array Oper} {o : Oper} {j d : Nat} {want c : Bool} (hg : o.guard = some (j, want)) (hd : (all[j]?).bind (·.dst) = some d) {sv : SV} (hc : tm.get d = some sv) (hv : a.tmps.getD d undef = .bool c) : Region.wanted o (yielded all a.tmps) = (c == want) := by
  unfold Region.wanted
  rw [hg]
  simp only
  obtain ⟨hdn, _⟩ := hT.at_ d _ hc
  have hlt : d < a.tmps.size := by rw [hT.size]; exact hdn
  have hq : a.tmps[d]? = some (.bool c) := by
    rw [Array.getElem?_eq_getElem hlt]
    simp only [Array.getD, hlt, dif_pos] at hv
    rw [← hv]
    rfl
  have : yielded all a.tmps j = some c := by
    unfold yielded
    rw [hd]
    simp only [Option.bind_some, hq]
  rw [this]
  cases c <;> cases want <;> rfl
theorem RelT.know (hT : RelT E N tm a) {d : Nat} {sv : SV} (hc : tm.get d = some sv) {b : Bool} (hv : a.tmps.getD d undef = .bool b) : RelT E N (tm.put d (some (knownB b))) a := by
  refine ⟨hT.size, hT.defers, fun t q hq => ?_⟩
  rw [Tr.get_put] at hq
  split at hq
  · rename_i e
    cases hq
    subst e
    exact ⟨(hT.at_ _ _ hc).1, by rw [hv]; exact ⟨rfl, rfl⟩⟩
  · exact hT.at_ t q hq
theorem strikeE_ok (hT : RelT E N tm a) (d : Option Tmp) : RelT E N (strikeE N tm d) (a.put d undef) := by
  cases d with
  | none => exact hT
  | some d =>
    simp only [strikeE]
    cases hc : Nat.blt d N with
    | false => exact hT.strike d undef
    | true => exact hT.put (sv := .tu []) (by simpa using hc) (show RelS E (.tu []) undef from ⟨#[], rfl, rfl, fun j x v h => by simp at h⟩)
/-- What a guard tells. -/
theorem guardT_cases (hT : RelT E N tm a) {all : Array Oper} {o : Oper} {yes no : Tm → Out} (h : (match guardT all tm o with | .yes => yes tm | .no => no tm | .ask d te want => askG d te want tm yes no | .bad => .fail).Ok C K0 E.q) :
    ∃ tm', RelT E N tm' a ∧ ((Region.wanted o (yielded all a.tmps) = true ∧ (yes tm').Ok C K0 E.q) ∨ (Region.wanted o (yielded all a.tmps) = false ∧ (no tm').Ok C K0 E.q)) := by
  unfold guardT at h
  cases hg : o.guard with
  | none =>
    rw [hg] at h
    exact ⟨tm, hT, .inl ⟨by unfold Region.wanted; rw [hg], h⟩⟩
  | some p =>
    obtain ⟨j, want⟩ := p
    rw [hg] at h
    dsimp only at h
    cases hd : (all[j]?).bind (·.dst) with
    | none => rw [hd] at h; exact h.elim
    | some d =>
      rw [hd] at h
      dsimp only at h
      by_cases htu : tm.get d = some (.tu [])
      · rw [htu] at h
        obtain ⟨hdn, arr, hu, hsz, _⟩ := hT.at_ d _ htu
        have harr : arr = #[] := Array.eq_empty_of_size_eq_zero (by simpa using hsz.symm)
        have hlt : d < a.tmps.size := by rw [hT.size]; exact hdn
        have hq : a.tmps[d]? = some undef := by
          rw [Array.getElem?_eq_getElem hlt]
          simp only [Array.getD, hlt, dif_pos] at hu
          rw [harr] at hu
          exact congrArg some hu
        refine ⟨tm, hT, .inr ⟨?_, h⟩⟩
        unfold Region.wanted
        rw [hg]
        simp only
        have : yielded all a.tmps j = none := by
          unfold yielded
          rw [hd]
          simp only [Option.bind_some, hq]
          rfl
        rw [this]
        rfl
      split at h
      · rename_i heq
        split at heq
        · rename_i b hc
          cases hbw : (b == want) with
          | false => rw [hbw] at heq; cases heq
          | true => exact ⟨tm, hT, .inl ⟨by rw [wanted_at hT hg hd hc (hT.at_ d _ hc).2.1, hbw], h⟩⟩
        · cases heq
        · cases heq
        · cases heq
      · rename_i heq
        split at heq
        · rename_i b hc
          cases hbw : (b == want) with
          | true => rw [hbw] at heq; cases heq
          | false => exact ⟨tm, hT, .inr ⟨by rw [wanted_at hT hg hd hc (hT.at_ d _ hc).2.1, hbw], h⟩⟩
        · cases heq
        · rename_i hc
          exact absurd hc htu
        · cases heq
      · rename_i d' te want' heq
        split at heq
        · rename_i b hc
          cases hbw : (b == want) with
          | true => rw [hbw] at heq; cases heq
          | false => rw [hbw] at heq; cases heq
        · rename_i te' hc
          cases heq
          obtain ⟨⟨b, hb⟩, hev⟩ := (hT.at_ d _ hc).2
          have hbe := hev _ E.q.has_self
          rw [hb] at hbe
          have hwt := wanted_at hT hg hd hc hb
          have hkn := hT.know hc hb
          unfold askG at h
          cases want with
          | true =>
            rw [cond_true] at h
            cases b with
            | true => exact ⟨_, hkn, .inl ⟨hwt, h.1 hbe⟩⟩
            | false => exact ⟨_, hkn, .inr ⟨hwt, h.2 hbe⟩⟩
          | false =>
            rw [cond_false] at h
            cases b with
            | true => exact ⟨_, hkn, .inr ⟨hwt, h.1 hbe⟩⟩
            | false => exact ⟨_, hkn, .inl ⟨hwt, h.2 hbe⟩⟩
        · cases heq
        · cases heq
      · exact h.elim
theorem opsT_ok (hC : C.Ok) (hce : CeOk C K0 fr w0 ce) {all : Array Oper} {Q : Exit → Act → World → Prop} {k : Tm → Hp → Out} : ∀ (l : List Oper) (tm : Tm) (H : Hp) (E : Env) (a : Act) (w : World), (opsT C ce N all l tm H k).Ok C K0 E.q → RelH fr w0 E H w → RelT E N tm a →
    (∀ E' a' w' tm' H', E.le E' → RelH fr w0 E' H' w' → RelT E' N tm' a' → (k tm' H').Ok C K0 E'.q → Q .normal a' w') → wpList C.P all Q l a w
  | [], tm, H, E, a, w, h, hH, hT, hQ => wpList_nil (hQ E a w tm H (Env.le_refl E) hH hT h)
  | o :: rest, tm, H, E, a, w, h, hH, hT, hQ => by
    simp only [opsT] at h
    obtain ⟨tm1, hT1, ⟨hw, h1⟩ | ⟨hw, h1⟩⟩ := guardT_cases (yes := fun tm => stepN C ce N H tm o (fun tm' H' => opsT C ce N all rest tm' H' k)) (no := fun tm => opsT C ce N all rest (strikeE N tm o.dst) H k) hT h
    · refine wpList_step fun K hK => ?_
      rw [if_pos hw]
      refine stepN_ok hC hce hH hT1 h1 fun E' w' v tm' H' hle hH' hT' hk => hK _ _ ?_
      exact opsT_ok hC hce rest tm' H' E' _ w' hk hH' hT' fun E2 a2 w2 tm2 H2 hle2 => hQ E2 a2 w2 tm2 H2 (Env.le_trans hle hle2)
    · refine wpList_step fun K hK => ?_
      rw [if_neg (by rw [hw]; decide)]
      refine hK _ _ ?_
      exact opsT_ok hC hce rest _ H E _ w h1 hH (strikeE_ok hT1 o.dst) hQ
end

/-! ### Terms, compared -/
/-! ### Regions in any order -/
def isWriter : Op → Bool
  | .store .. | .alloc _ | .box .. | .buildSlice .. | .makeSlice .. => true
  | .call { callee := .builtin .append, .. } => true
  | .call { callee := .value _, .. } => true
  | _ => false
def mkPlan (ops : Array Oper) : Nat → Array Bool → List (Nat × Bool)
  | 0, _ => []
  | n + 1, listed =>
    match (Region.ready .any ops listed).find? (fun i => !isWriter (ops.getD i default).op) with
    | some i => (i, true) :: mkPlan ops n (listed.setIfInBounds i true)
    | none =>
      match Region.ready .any ops listed with
      | i :: _ => (i, false) :: mkPlan ops n (listed.setIfInBounds i true)
      | [] => []
def oneOf : List Nat → Nat → Bool
  | [j], i => Nat.beq j i
  | _, _ => false
def planOk (ops : Array Oper) : List (Nat × Bool) → Array Bool → Bool
  | [], listed => (Region.ready .any ops listed).isEmpty
  | (i, true) :: rest, listed => Region.free .any ops listed i && (Region.ready .any ops listed).contains i && planOk ops rest (listed.setIfInBounds i true)
  | (i, false) :: rest, listed => oneOf (Region.ready .any ops listed) i && planOk ops rest (listed.setIfInBounds i true)
def planned (ops : Array Oper) : Option (List (Nat × Bool)) :=
  let p := mkPlan ops ops.size (Array.replicate ops.size false)
  bif Region.noSelect ops && planOk ops p (Array.replicate ops.size false) && Nat.ble p.length ops.size then some p else none
def valEq : Value → Value → Bool
  | .bool a, .bool b => a == b
  | .int k a, .int j b => decide (k = j) && intEq a b
  | .string s, .string t => decide (s = t)
  | .slice none 0 0, .slice none 0 0 => true
  | .pointer none, .pointer none => true
  | _, _ => false
theorem valEq_eq {x y : Value} (h : valEq x y = true) : x = y := by
  unfold valEq at h
  split at h
  · simp only [beq_iff_eq] at h; rw [h]
  · simp only [Bool.and_eq_true, decide_eq_true_eq] at h; rw [intEq_eq] at h; rw [h.1, of_decide_eq_true h.2]
  · simp only [decide_eq_true_eq] at h; rw [h]
  · rfl
  · rfl
  · cases h
mutual
def teEq : Te → Te → Bool
  | .s i, .s j => Nat.beq i j
  | .l v, .l w => valEq v w
  | .bin op a b, .bin op' a' b' => decide (op = op') && teEq a a' && teEq b b'
  | .not a, .not a' => teEq a a'
  | .and a b, .and a' b' => teEq a a' && teEq b b'
  | .cv k a, .cv k' a' => decide (k = k') && teEq a a'
  | .sl a, .sl a' => teEq a a'
  | .len r, .len r' => rtEq r r'
  | .cell r i j, .cell r' i' j' => rtEq r r' && teEq i i' && Nat.beq j j'
  | .ite c a b, .ite c' a' b' => teEq c c' && teEq a a' && teEq b b'
  | .sub a i j, .sub a' i' j' => teEq a a' && teEq i i' && teEq j j'
  | .str r, .str r' => rtEq r r'
  | _, _ => false
def rtEq : RT → RT → Bool
  | .s i, .s j => Nat.beq i j
  | .nil, .nil => true
  | .one cs, .one cs' => tlEq cs cs'
  | .app a b, .app a' b' => rtEq a a' && rtEq b b'
  | .set r i j cs, .set r' i' j' cs' => rtEq r r' && teEq i i' && Nat.beq j j' && tlEq cs cs'
  | .take r n, .take r' n' => rtEq r r' && teEq n n'
  | .drop r n, .drop r' n' => rtEq r r' && teEq n n'
  | .rep cs n, .rep cs' n' => tlEq cs cs' && teEq n n'
  | .by a, .by a' => teEq a a'
  | _, _ => false
def tlEq : TL → TL → Bool
  | .nil, .nil => true
  | .cons x xs, .cons y ys => teEq x y && tlEq xs ys
  | _, _ => false
end
mutual
theorem teEq_eq : ∀ (x y : Te), teEq x y = true → x = y
  | .s i, y, h => by cases y <;> simp only [teEq] at h <;> first | (rw [Nat.eq_of_beq_eq_true h]; done) | cases h
  | .l v, y, h => by cases y <;> simp only [teEq] at h <;> first | (rw [valEq_eq h]; done) | cases h
  | .bin op a b, y, h => by
    cases y <;> simp only [teEq] at h <;> first | cases h | skip
    simp only [Bool.and_eq_true, decide_eq_true_eq] at h
    rw [h.1.1, teEq_eq _ _ h.1.2, teEq_eq _ _ h.2]
  | .not a, y, h => by cases y <;> simp only [teEq] at h <;> first | (rw [teEq_eq _ _ h]; done) | cases h
  | .and a b, y, h => by
    cases y <;> simp only [teEq] at h <;> first | cases h | skip
    simp only [Bool.and_eq_true] at h
    rw [teEq_eq _ _ h.1, teEq_eq _ _ h.2]
  | .cv k a, y, h => by
    cases y <;> simp only [teEq] at h <;> first | cases h | skip
    simp only [Bool.and_eq_true, decide_eq_true_eq] at h
    rw [h.1, teEq_eq _ _ h.2]
  | .sl a, y, h => by cases y <;> simp only [teEq] at h <;> first | (rw [teEq_eq _ _ h]; done) | cases h
  | .len r, y, h => by cases y <;> simp only [teEq] at h <;> first | (rw [rtEq_eq _ _ h]; done) | cases h
  | .cell r i j, y, h => by
    cases y <;> simp only [teEq] at h <;> first | cases h | skip
    simp only [Bool.and_eq_true] at h
    rw [rtEq_eq _ _ h.1.1, teEq_eq _ _ h.1.2, Nat.eq_of_beq_eq_true h.2]
  | .ite c a b, y, h => by
    cases y <;> simp only [teEq] at h <;> first | cases h | skip
    simp only [Bool.and_eq_true] at h
    rw [teEq_eq _ _ h.1.1, teEq_eq _ _ h.1.2, teEq_eq _ _ h.2]
  | .sub a i j, y, h => by
    cases y <;> simp only [teEq] at h <;> first | cases h | skip
    simp only [Bool.and_eq_true] at h
    rw [teEq_eq _ _ h.1.1, teEq_eq _ _ h.1.2, teEq_eq _ _ h.2]
  | .str r, y, h => by cases y <;> simp only [teEq] at h <;> first | (rw [rtEq_eq _ _ h]; done) | cases h
theorem rtEq_eq : ∀ (x y : RT), rtEq x y = true → x = y
  | .s i, y, h => by cases y <;> simp only [rtEq] at h <;> first | (rw [Nat.eq_of_beq_eq_true h]; done) | cases h
  | .nil, y, h => by cases y <;> simp only [rtEq] at h <;> first | rfl | cases h
  | .one cs, y, h => by cases y <;> simp only [rtEq] at h <;> first | (rw [tlEq_eq _ _ h]; done) | cases h
  | .app a b, y, h => by
    cases y <;> simp only [rtEq] at h <;> first | cases h | skip
    simp only [Bool.and_eq_true] at h
    rw [rtEq_eq _ _ h.1, rtEq_eq _ _ h.2]
  | .set r i j cs, y, h => by
    cases y <;> simp only [rtEq] at h <;> first | cases h | skip
    simp only [Bool.and_eq_true] at h
    rw [rtEq_eq _ _ h.1.1.1, teEq_eq _ _ h.1.1.2, Nat.eq_of_beq_eq_true h.1.2, tlEq_eq _ _ h.2]
  | .take r n, y, h => by
    cases y <;> simp only [rtEq] at h <;> first | cases h | skip
    simp only [Bool.and_eq_true] at h
    rw [rtEq_eq _ _ h.1, teEq_eq _ _ h.2]
  | .drop r n, y, h => by
    cases y <;> simp only [rtEq] at h <;> first | cases h | skip
    simp only [Bool.and_eq_true] at h
    rw [rtEq_eq _ _ h.1, teEq_eq _ _ h.2]
  | .rep cs n, y, h => by
    cases y <;> simp only [rtEq] at h <;> first | cases h | skip
    simp only [Bool.and_eq_true] at h
    rw [tlEq_eq _ _ h.1, teEq_eq _ _ h.2]
  | .by a, y, h => by cases y <;> simp only [rtEq] at h <;> first | (rw [teEq_eq _ _ h]; done) | cases h
theorem tlEq_eq : ∀ (x y : TL), tlEq x y = true → x = y
  | .nil, y, h => by cases y <;> simp only [tlEq] at h <;> first | rfl | cases h
  | .cons x xs, y, h => by
    cases y <;> simp only [tlEq] at h <;> first | cases h | skip
    simp only [Bool.and_eq_true] at h
    rw [teEq_eq _ _ h.1, tlEq_eq _ _ h.2]
end
def acEq : AC → AC → Bool
  | .v x, .v y => valEq x y
  | .t k te, .t k' te' => ckEq k k' && teEq te te'
  | .p b o, .p c q => Nat.beq b c && Nat.beq o q
  | .pe b i j, .pe c i' j' => Nat.beq b c && teEq i i' && Nat.beq j j'
  | .sl b i n, .sl c j m => Nat.beq b c && Nat.beq i j && Nat.beq n m
  | .sr b, .sr c => Nat.beq b c
  | _, _ => false
theorem acEq_eq {x y : AC} (h : acEq x y = true) : x = y ∧ x.sure = true := by
  unfold acEq at h
  split at h
  · exact ⟨by rw [valEq_eq h], rfl⟩
  · simp only [Bool.and_eq_true] at h; exact ⟨by rw [ckEq_eq h.1, teEq_eq _ _ h.2], rfl⟩
  · simp only [Bool.and_eq_true] at h; exact ⟨by rw [Nat.eq_of_beq_eq_true h.1, Nat.eq_of_beq_eq_true h.2], rfl⟩
  · simp only [Bool.and_eq_true] at h; exact ⟨by rw [Nat.eq_of_beq_eq_true h.1.1, teEq_eq _ _ h.1.2, Nat.eq_of_beq_eq_true h.2], rfl⟩
  · simp only [Bool.and_eq_true] at h; exact ⟨by rw [Nat.eq_of_beq_eq_true h.1.1, Nat.eq_of_beq_eq_true h.1.2, Nat.eq_of_beq_eq_true h.2], rfl⟩
  · exact ⟨by rw [Nat.eq_of_beq_eq_true h], rfl⟩
  · cases h
def allEq : List AC → List AC → Bool
  | [], [] => true
  | x :: xs, y :: ys => acEq x y && allEq xs ys
  | _, _ => false
theorem allEq_eq : ∀ {xs ys : List AC}, allEq xs ys = true → xs = ys ∧ ∀ x ∈ xs, x.sure = true
  | [], [], _ => ⟨rfl, fun x h => by cases h⟩
  | x :: xs, y :: ys, h => by
    simp only [allEq, Bool.and_eq_true] at h
    obtain ⟨rfl, hs⟩ := acEq_eq h.1
    obtain ⟨rfl, hs2⟩ := allEq_eq h.2
    exact ⟨rfl, fun z hz => by rcases List.mem_cons.1 hz with rfl | hz; exact hs; exact hs2 z hz⟩
  | [], _ :: _, h => by cases h
  | _ :: _, [], h => by cases h
def avEq : AV → AV → Bool
  | .c x, .c y => acEq x y
  | .ag xs, .ag ys => allEq xs ys
  | _, _ => false
structure Ld where
  i : Nat
  t : Nat
  c : AC
  av : AV
def waitsB (ops : Array Oper) (j k : Nat) : Bool :=
  match ops[j]? with
  | some o => o.after.any fun e => Region.binds .any e && Nat.beq e.on k
  | none => false
/-- What an operation yields that comes up whenever it may: what needs no memory; what loads. -/
def takeT (C : Cfg) (H : Hp) (tm : Tm) (i : Nat) (o : Oper) : Option (SV × List Te × List Ld) :=
  match pureT C H tm o.op with
  | some (r, ns) => some (r, ns, [])
  | none =>
    match o.op with
    | .load t x =>
      match cO tm x with
      | some c =>
        match peekC C H t c with
        | some av => some (.o av, [], [⟨i, t, c, av⟩])
        | none => none
      | _ => none
    | _ => none
def sameAt (C : Cfg) (H : Hp) (l : Ld) : Bool :=
  match peekC C H l.t l.c with
  | some y => avEq l.av y
  | none => false
/-- An operation that comes up whenever it may (tk), or alone; and what comes behind. -/
def drawY (C : Cfg) (ce : Ce) (N : Nat) (ops : Array Oper) (i : Nat) (tk : Bool) (o : Oper) (pend : List Ld) (H : Hp) (next : List Ld → Tm → Hp → Out) (tm : Tm) : Out :=
  match tk with
  | true =>
    match takeT C H tm i o with
    | none => .fail
    | some (r, ns, l) => needs ns (putK N tm o.dst (some r) H fun tm' H => next (l ++ pend) tm' H)
  | false => stepN C ce N H tm o fun tm' H' => bif (pend.filter fun l => !waitsB ops i l.i).all (sameAt C H') then next (pend.filter fun l => !waitsB ops i l.i) tm' H' else .fail
def drawT (C : Cfg) (ce : Ce) (N : Nat) (ops : Array Oper) : List (Nat × Bool) → List Ld → Tm → Hp → (Tm → Hp → Out) → Out
  | [], _, tm, H, k => k tm H
  | (i, tk) :: rest, pend, tm, H, k =>
    match ops[i]? with
    | none => .fail
    | some o =>
      match guardT ops tm o with
      | .yes => drawY C ce N ops i tk o pend H (fun pend tm H => drawT C ce N ops rest pend tm H k) tm
      | .no => drawT C ce N ops rest pend (strikeE N tm o.dst) H k
      | .ask d te want => askG d te want tm (drawY C ce N ops i tk o pend H (fun pend tm H => drawT C ce N ops rest pend tm H k)) (fun tm => drawT C ce N ops rest pend (strikeE N tm o.dst) H k)
      | .bad => .fail
def drawR (C : Cfg) (ce : Ce) (N : Nat) (ops : Array Oper) (tm : Tm) (H : Hp) (k : Tm → Hp → Out) : Out :=
  match planned ops with
  | none => .fail
  | some p => drawT C ce N ops p [] tm H k

/-! ### Any order: what has been taken first may come up later, until somebody comes up who waits for it -/
section
variable {P : Program} {ops : Array Oper} {Q : Exit → Act → World → Prop}
abbrev Pd := List (Nat × (World → Prop))
def keep (ops : Array Oper) (pend : Pd) (j : Nat) : Pd := pend.filter fun p => !waitsB ops j p.1
def wpAnyW (P : Program) (ops : Array Oper) (Q : Exit → Act → World → Prop) : Nat → Pd → Array Bool → Act → World → Prop
  | 0, _, listed, a, w => Region.ready .any ops listed = [] ∧ Q .normal a w
  | fuel + 1, pend, listed, a, w =>
    (Region.ready .any ops listed = [] → Q .normal a w) ∧
    ∀ i ∈ Region.ready .any ops listed, wpOp P ops Q i (fun a' w' => (∀ p ∈ keep ops pend i, p.2 w') ∧ wpAnyW P ops Q fuel (keep ops pend i) (listed.setIfInBounds i true) a' w') a w
theorem wpAny_of_W : ∀ (fuel : Nat) (pend : Pd) (listed : Array Bool) (a : Act) (w : World), wpAnyW P ops Q fuel pend listed a w → wpAny P .any ops Q fuel listed a w
  | 0, _, _, _, _, h => h
  | fuel + 1, _, _, _, _, h => ⟨h.1, fun i hi => wpOp_mono (fun a' w' h' => wpAny_of_W fuel _ _ a' w' h'.2) (h.2 i hi)⟩
theorem keep_sub {p q : Pd} (h : ∀ x ∈ p, x ∈ q) (j : Nat) : ∀ x ∈ keep ops p j, x ∈ keep ops q j := fun x hx => by
  have := List.mem_filter.1 hx
  exact List.mem_filter.2 ⟨h x this.1, this.2⟩
theorem keep_in {p : Pd} {j : Nat} : ∀ x ∈ keep ops p j, x ∈ p := fun x hx => (List.mem_filter.1 hx).1
theorem wpAnyW_less : ∀ (fuel : Nat) (p q : Pd) (listed : Array Bool) (a : Act) (w : World), (∀ x ∈ p, x ∈ q) → wpAnyW P ops Q fuel q listed a w → wpAnyW P ops Q fuel p listed a w
  | 0, _, _, _, _, _, _, h => h
  | fuel + 1, p, q, _, _, _, hs, h => ⟨h.1, fun i hi => wpOp_mono (fun a' w' h' => ⟨fun x hx => h'.1 x (keep_sub hs i x hx), wpAnyW_less fuel _ _ _ a' w' (keep_sub hs i) h'.2⟩) (h.2 i hi)⟩
theorem no_wait {i j : Nat} {listed : Array Bool} (hi : i ∈ Region.ready .any ops listed) (hj : j ∈ Region.ready .any ops listed) : waitsB ops j i = false := by
  obtain ⟨hjun, oj, hoj, hall⟩ := mem_ready.1 hj
  have h0 := (mem_ready.1 hi).1
  unfold waitsB
  rw [hoj]
  simp only [Array.any_eq_false]
  intro k hk hb
  simp only [Bool.and_eq_true, beq_eq, decide_eq_true_eq] at hb
  have h1 := hall oj.after[k] (Array.getElem_mem hk) hb.1
  rw [hb.2] at h1
  rcases Nat.lt_or_ge i listed.size with h' | h'
  · simp [h'] at h0 h1; rw [h0] at h1; cases h1
  · simp [Array.getElem?_eq_none h'] at h1
theorem wpAnyW_first {i : Nat} {oi : Oper} {v : Value} {Y : World → Prop} (hi : ops[i]? = some oi) (hsel : ∀ (j : Nat) (o : Oper) cs b, ops[j]? = some o → o.op ≠ .select cs b)
    (hQ : ∀ c a w, Q (.panic c) (a.put oi.dst v) w → Q (.panic c) a w) :
    ∀ (fuel : Nat) (pend : Pd) (listed : Array Bool) (a : Act) (w : World),
      (∀ j oj, ops[j]? = some oj → j ≠ i → listed.getD j true = false → (∀ e ∈ oj.after, Region.binds .any e = true → e.on ≠ i) → oi.apart ops oj = true) →
      i ∈ Region.ready .any ops listed → YieldsIf P ops Y oi v a → Y w → (∀ p ∈ pend, p.2 w) →
      wpAnyW P ops Q fuel ((i, Y) :: pend) (listed.setIfInBounds i true) (a.put oi.dst v) w → wpAnyW P ops Q (fuel + 1) pend listed a w := by
  intro fuel
  induction fuel with
  | zero =>
    intro pend listed a w _ hr hy hS hp H
    refine ⟨fun h => (by rw [h] at hr; cases hr), fun j hj => ?_⟩
    by_cases hji : j = i
    · subst hji; exact hy.wpOp hi hS ⟨fun x hx => hp x (keep_in x hx), H⟩
    · have := ready_mono hj hji
      rw [H.1] at this
      cases this
  | succ fuel ih =>
    intro pend listed a w hfree hr hy hS hp H
    refine ⟨fun h => (by rw [h] at hr; cases hr), fun j hj => ?_⟩
    by_cases hji : j = i
    · subst hji; exact hy.wpOp hi hS ⟨fun x hx => hp x (keep_in x hx), wpAnyW_less _ _ _ _ _ _ (fun x hx => List.mem_cons_of_mem _ (keep_in x hx)) H⟩
    · have h1 := H.2 j (ready_mono hj hji)
      obtain ⟨hjun, oj, hoj, hall⟩ := mem_ready.1 hj
      have hnot : ∀ e ∈ oj.after, Region.binds .any e = true → e.on ≠ i := fun e he hb heq => by
        have h1 := hall e he hb
        have h0 := (mem_ready.1 hr).1
        rw [heq] at h1
        rcases Nat.lt_or_ge i listed.size with h' | h'
        · simp [h'] at h0 h1; rw [h0] at h1; cases h1
        · simp [Array.getElem?_eq_none h'] at h1
      have hk : keep ops ((i, Y) :: pend) j = (i, Y) :: keep ops pend j := by
        unfold keep
        rw [List.filter_cons_of_pos]
        simp only [no_wait hr hj, Bool.not_false]
      rw [hk] at h1
      have h2 := wpOp_putIf hoj (hfree j oj hoj hji hjun hnot) (fun cs b => hsel i oi cs b hi) (fun cs b => hsel j oj cs b hoj) hQ hy h1
      have hfree' : ∀ k ok, ops[k]? = some ok → k ≠ i → (listed.setIfInBounds j true).getD k true = false →
          (∀ e ∈ ok.after, Region.binds .any e = true → e.on ≠ i) → oi.apart ops ok = true := fun k ok hk hki hun hno => by
        refine hfree k ok hk hki ?_ hno
        by_cases hjk : j = k
        · subst hjk; exact hjun
        · rw [getD_set_ne true hjk] at hun; exact hun
      refine wpOp_mono (fun a' w' h3 => ?_) h2
      obtain ⟨hy', hs', hW⟩ := h3
      refine ⟨fun x hx => hs' x (List.mem_cons_of_mem _ hx), ih (keep ops pend j) (listed.setIfInBounds j true) a' w' hfree' (ready_mono hr (Ne.symm hji)) hy' (hs' (i, Y) List.mem_cons_self) (fun x hx => hs' x (List.mem_cons_of_mem _ hx)) ?_⟩
      rw [Array.setIfInBounds_comm _ _ hji]
      exact hW
theorem wpAnyW_true {i : Nat} : ∀ (fuel : Nat) (p : Pd) (listed : Array Bool) (a : Act) (w : World), wpAnyW P ops Q fuel p listed a w → wpAnyW P ops Q fuel ((i, fun _ => True) :: p) listed a w
  | 0, _, _, _, _, h => h
  | fuel + 1, p, _, _, _, h => ⟨h.1, fun j hj => wpOp_mono (fun a' w' h' => by
      unfold keep at h' ⊢
      cases hw : waitsB ops j i with
      | true => rw [List.filter_cons_of_neg (by simp [hw])]; exact h'
      | false =>
        rw [List.filter_cons_of_pos (by simp [hw])]
        refine ⟨fun x hx => ?_, wpAnyW_true fuel _ _ a' w' h'.2⟩
        rcases List.mem_cons.1 hx with rfl | hx
        · trivial
        · exact h'.1 x hx) (h.2 j hj)⟩
theorem wpAnyW_done {pend : Pd} {listed : Array Bool} {a : Act} {w : World} (hr : Region.ready .any ops listed = []) (h : Q .normal a w) : ∀ fuel, wpAnyW P ops Q fuel pend listed a w
  | 0 => ⟨hr, h⟩
  | _ + 1 => ⟨fun _ => h, by rw [hr]; simp⟩
end
section
variable {C : Cfg} {K0 : Qn → Ex → Tm → Hp → Prop} {fr : Fr} {E : Env} {N : Nat} {tm tm' : Tm} {a : Act} {w0 : World} {H H' : Hp} {w w' : World} {ce : Ce}
theorem RelL.unique {xs : List AC} {us vs : List Value} (hs : ∀ x ∈ xs, x.sure = true) (h : RelL E xs us) (h' : RelL E xs vs) : us = vs := by
  apply List.ext_getElem?
  intro j
  by_cases hj : j < xs.length
  · have h1 : j < us.length := by rw [← h.1]; exact hj
    have h2 : j < vs.length := by rw [← h'.1]; exact hj
    rw [List.getElem?_eq_getElem h1, List.getElem?_eq_getElem h2]
    congr 1
    exact RelC.unique (hs _ (List.getElem_mem hj)) (h.2 j xs[j] us[j] (List.getElem?_eq_getElem hj) (List.getElem?_eq_getElem h1)) (h'.2 j xs[j] vs[j] (List.getElem?_eq_getElem hj) (List.getElem?_eq_getElem h2))
  · rw [List.getElem?_eq_none (by rw [← h.1]; omega), List.getElem?_eq_none (by rw [← h'.1]; omega)]
theorem avEq_unique {x y : AV} (h : avEq x y = true) {u v : Value} (hu : RelV E x u) (hv : RelV E y v) : u = v := by
  unfold avEq at h
  split at h
  · obtain ⟨rfl, hs⟩ := acEq_eq h
    exact RelC.unique hs hu hv
  · obtain ⟨rfl, hs⟩ := allEq_eq h
    obtain ⟨a1, rfl, h1⟩ := hu
    obtain ⟨a2, rfl, h2⟩ := hv
    rw [Array.toList_inj.1 (RelL.unique hs h1 h2)]
  · cases h
/-- What was taken, as the machine has it, and as a condition on the world. -/
def PdRel (C : Cfg) (E : Env) : List Ld → Pd → Prop
  | [], [] => True
  | l :: ls, p :: ps => (l.i = p.1 ∧ ∃ u v, RelC E l.c u ∧ RelV E l.av v ∧ p.2 = fun w => ∃ ad, u = .pointer (some ad) ∧ (loadVar l.t ad).run C.P w = .ok v w) ∧ PdRel C E ls ps
  | _, _ => False
theorem PdRel.mono {E' : Env} (h : E.le E') : ∀ {ls : List Ld} {ps : Pd}, PdRel C E ls ps → PdRel C E' ls ps
  | [], [], _ => trivial
  | _ :: _, _ :: _, ⟨⟨hi, u, v, hr, hv, hp⟩, k⟩ => ⟨⟨hi, u, v, hr.mono h, hv.mono h, hp⟩, PdRel.mono h k⟩
  | [], _ :: _, k => k.elim
  | _ :: _, [], k => k.elim
theorem PdRel.filter {ops : Array Oper} {j : Nat} : ∀ {ls : List Ld} {ps : Pd}, PdRel C E ls ps → PdRel C E (ls.filter fun l => !waitsB ops j l.i) (keep ops ps j)
  | [], [], _ => trivial
  | l :: ls, p :: ps, ⟨h1, k⟩ => by
    have hi := h1.1
    unfold keep
    cases hw : waitsB ops j l.i with
    | true =>
      rw [List.filter_cons_of_neg (by simp [hw]), List.filter_cons_of_neg (by rw [← hi]; simp [hw])]
      exact k.filter
    | false =>
      rw [List.filter_cons_of_pos (by simp [hw]), List.filter_cons_of_pos (by rw [← hi]; simp [hw])]
      exact ⟨h1, k.filter⟩
  | [], _ :: _, k => k.elim
  | _ :: _, [], k => k.elim
theorem PdRel.holds (hC : C.Ok) (hH : RelH fr w0 E H w) : ∀ {ls : List Ld} {ps : Pd}, PdRel C E ls ps → ls.all (sameAt C H) = true → ∀ p ∈ ps, p.2 w
  | [], [], _, _, p, hp => by cases hp
  | l :: ls, q :: ps, ⟨⟨hi, u, v, hr, hv, hq⟩, k⟩, h, p, hp => by
    simp only [List.all_cons, Bool.and_eq_true] at h
    rcases List.mem_cons.1 hp with rfl | hp
    · have hs := h.1
      unfold sameAt at hs
      split at hs
      · rename_i y hy
        obtain ⟨ad, v2, hu, hv2, hru⟩ := peekC_ok hC hH hy hr
        rw [hq]
        exact ⟨ad, hu, by rw [hru, avEq_unique hs hv hv2]⟩
      · cases hs
    · exact PdRel.holds hC hH k h.2 p hp
  | [], _ :: _, k, _, _, _ => k.elim
  | _ :: _, [], k, _, _, _ => k.elim
theorem drawT_ok (hC : C.Ok) (hce : CeOk C K0 fr w0 ce) {ops : Array Oper} (hsel : Region.noSelect ops = true) {Q : Exit → Act → World → Prop} (hQ : ∀ c a a' w, Q (.panic c) a w → Q (.panic c) a' w) {k : Tm → Hp → Out} (fuel : Nat) :
    ∀ (plan : List (Nat × Bool)) (pend : List Ld) (ps : Pd) (tm : Tm) (H : Hp) (listed : Array Bool) (E : Env) (a : Act) (w : World), (drawT C ce N ops plan pend tm H k).Ok C K0 E.q → planOk ops plan listed = true →
      RelH fr w0 E H w → RelT E N tm a → PdRel C E pend ps → (∀ p ∈ ps, p.2 w) →
      (∀ E' a' w' tm' H', E.le E' → RelH fr w0 E' H' w' → RelT E' N tm' a' → (k tm' H').Ok C K0 E'.q → Q .normal a' w') → wpAnyW C.P ops Q (plan.length + fuel) ps listed a w
  | [], pend, ps, tm, H, listed, E, a, w, h, hp, hH, hT, hpd, hps, hK => wpAnyW_done (by simpa [planOk] using hp) (hK E a w tm H (Env.le_refl E) hH hT h) _
  | (i, tk) :: rest, pend, ps, tm, H, listed, E, a, w, h, hp, hH, hT, hpd, hps, hK => by
    simp only [drawT] at h
    split at h
    · exact h.elim
    · rename_i o ho
      rw [show ((i, tk) :: rest).length + fuel = (rest.length + fuel) + 1 by simp; omega]
      obtain ⟨tm1, hT1, hor⟩ := guardT_cases (yes := drawY C ce N ops i tk o pend H (fun pend tm H => drawT C ce N ops rest pend tm H k)) (no := fun tm => drawT C ce N ops rest pend (strikeE N tm o.dst) H k) hT h
      cases tk with
      | true =>
        simp only [planOk, Bool.and_eq_true] at hp
        obtain ⟨⟨hfree, hready⟩, hrest⟩ := hp
        have hr : i ∈ Region.ready .any ops listed := by simpa using hready
        rcases hor with ⟨hw, h1⟩ | ⟨hw, h1⟩
        · simp only [drawY] at h1
          split at h1
          · exact h1.elim
          · rename_i r ns l htk
            obtain ⟨hns, h2⟩ := needs_ok h1
            unfold takeT at htk
            split at htk
            · rename_i q ns' hpu
              cases htk
              obtain ⟨v, hv, hrun⟩ := pureT_ok hC hH hT1 hpu hns
              obtain ⟨tm2, hT2, h3⟩ := putK_ok (r := some r) hT1 h2 hv
              refine wpAnyW_first (v := v) (Y := fun _ => True) ho (Region.noSelect_spec hsel) (fun c a w => hQ c _ _ w) _ ps listed a w (Region.free_spec ho hfree) hr (.inl ⟨hw, fun w' _ => hrun w'⟩) trivial hps ?_
              exact wpAnyW_true _ _ _ _ _ (drawT_ok hC hce hsel hQ fuel rest pend ps tm2 H _ E _ w h3 hrest hH hT2 hpd hps hK)
            · split at htk
              · rename_i t x hop
                split at htk
                · rename_i c hx
                  split at htk
                  · rename_i av hpk
                    cases htk
                    have hu := cO_rel hT1 hx
                    obtain ⟨ad, v, hev, hv, hrun⟩ := peekC_ok hC hH hpk hu
                    obtain ⟨tm2, hT2, h3⟩ := putK_ok (r := some (.o av)) hT1 h2 hv
                    refine wpAnyW_first (v := v) (Y := fun w => ∃ ad, a.eval x = .pointer (some ad) ∧ (loadVar t ad).run C.P w = .ok v w) ho (Region.noSelect_spec hsel) (fun c a w => hQ c _ _ w) _ ps listed a w (Region.free_spec ho hfree) hr (.inl ⟨hw, fun w' hw' => ?_⟩) ⟨ad, hev, hrun⟩ hps ?_
                    · obtain ⟨ad', hev', hw'⟩ := hw'
                      unfold execOp; rw [hop]
                      refine alloc_run ?_
                      simp only [Instr.loadAt, hev', Sem.run_bind, sureAddr_run, Result.andThen_ok]
                      exact hw'
                    · refine drawT_ok hC hce hsel hQ fuel rest _ ((i, fun w => ∃ ad, a.eval x = .pointer (some ad) ∧ (loadVar t ad).run C.P w = .ok v w) :: ps) tm2 H _ E _ w h3 hrest hH hT2 ⟨⟨rfl, _, v, hu, hv, rfl⟩, hpd⟩ (fun p hp => ?_) hK
                      rcases List.mem_cons.1 hp with rfl | hp
                      · exact ⟨ad, hev, hrun⟩
                      · exact hps p hp
                  · cases htk
                · cases htk
              · cases htk
        · refine wpAnyW_first (v := undef) (Y := fun _ => True) ho (Region.noSelect_spec hsel) (fun c a w => hQ c _ _ w) _ ps listed a w (Region.free_spec ho hfree) hr (.inr ⟨hw, rfl⟩) trivial hps ?_
          exact wpAnyW_true _ _ _ _ _ (drawT_ok hC hce hsel hQ fuel rest pend ps _ H _ E _ w h1 hrest hH (strikeE_ok hT1 o.dst) hpd hps hK)
      | false =>
        simp only [planOk, Bool.and_eq_true] at hp
        obtain ⟨hone, hrest⟩ := hp
        have hr : Region.ready .any ops listed = [i] := by
          unfold oneOf at hone
          split at hone
          · rename_i j hj; rw [hj, Nat.eq_of_beq_eq_true hone]
          · cases hone
        refine ⟨fun h0 => (by rw [hr] at h0; cases h0), fun i' hi' => ?_⟩
        obtain rfl : i' = i := by rw [hr] at hi'; simpa using hi'
        unfold wpOp
        rw [ho]
        simp only
        rcases hor with ⟨hw, h1⟩ | ⟨hw, h1⟩
        · rw [if_pos hw]
          simp only [drawY] at h1
          refine .inl (stepN_ok hC hce hH hT1 h1 fun E' w' v tm' H' hle' hH' hT' hk => ?_)
          cases hall : (pend.filter fun l => !waitsB ops i' l.i).all (sameAt C H') with
          | false => rw [hall] at hk; exact hk.elim
          | true =>
            rw [hall, cond_true] at hk
            have hpd' : PdRel C E' (pend.filter fun l => !waitsB ops i' l.i) (keep ops ps i') := (hpd.mono hle').filter
            have hh := hpd'.holds hC hH' hall
            exact ⟨hh, drawT_ok hC hce hsel hQ fuel rest _ _ tm' H' _ E' _ w' hk hrest hH' hT' hpd' hh (fun E2 a2 w2 tm2 H2 hle2 => hK E2 a2 w2 tm2 H2 (Env.le_trans hle' hle2))⟩
        · rw [if_neg (by rw [hw]; decide)]
          refine ⟨fun x hx => hps x (keep_in x hx), wpAnyW_less _ _ _ _ _ _ (fun x hx => keep_in x hx) (drawT_ok hC hce hsel hQ fuel rest pend ps _ H _ E _ w h1 hrest hH (strikeE_ok hT1 o.dst) hpd hps hK)⟩
theorem drawR_ok (hC : C.Ok) (hce : CeOk C K0 fr w0 ce) {id : Nat} {ops : Array Oper} {Q : Exit → Act → World → Prop} (hQ : ∀ c a a' w, Q (.panic c) a w → Q (.panic c) a' w) {k : Tm → Hp → Out} (h : (drawR C ce N ops tm H k).Ok C K0 E.q) (hH : RelH fr w0 E H w) (hT : RelT E N tm a)
    (hK : ∀ E' a' w' tm' H', E.le E' → RelH fr w0 E' H' w' → RelT E' N tm' a' → (k tm' H').Ok C K0 E'.q → Q .normal a' w') : (Code.region id ops true).wp C.P Q a w := by
  unfold drawR at h
  split at h
  · exact h.elim
  · rename_i p hp
    unfold planned at hp
    simp only at hp
    cases hc : (Region.noSelect ops && planOk ops (mkPlan ops ops.size (Array.replicate ops.size false)) (Array.replicate ops.size false) && Nat.ble (mkPlan ops ops.size (Array.replicate ops.size false)).length ops.size) with
    | false => rw [hc] at hp; cases hp
    | true =>
      rw [hc] at hp
      cases hp
      simp only [Bool.and_eq_true, Nat.ble_eq] at hc
      obtain ⟨⟨hsel, hok⟩, hlen⟩ := hc
      have hHd : RelH fr w0 E H w.drew := hH.drew
      have := drawT_ok hC hce hsel hQ (ops.size - (mkPlan ops ops.size (Array.replicate ops.size false)).length) _ [] [] tm H (Array.replicate ops.size false) E a w.drew h hok hHd hT trivial (fun p hp => by cases hp) hK
      rw [show (mkPlan ops ops.size (Array.replicate ops.size false)).length + (ops.size - (mkPlan ops ops.size (Array.replicate ops.size false)).length) = ops.size by omega] at this
      exact wp_region_any hC.mixed (wpAny_of_W _ _ _ _ _ this)
end
end Go.Proofs.Ytipomcnbjlfekaa.Rs
