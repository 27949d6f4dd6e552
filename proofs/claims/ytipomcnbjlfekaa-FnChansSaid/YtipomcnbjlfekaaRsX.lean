/- A symbolic machine over the model's operations. More that computes without memory: shifts and remainders by what is not known, structs compared, least and greatest, texts joined. No program in sight. -/
import Derived.Test.YtipomcnbjlfekaaRsA
import Derived.Laws.StructEq
namespace Go.Proofs.Ytipomcnbjlfekaa.Rs
open Go.RowKit
set_option linter.unusedVariables false
set_option linter.unusedSimpArgs false
def eqTe : List Te → List Te → Te
  | x :: xs, y :: ys => .and (.bin .eql x y) (eqTe xs ys)
  | _, _ => .l (.bool true)
def teL : List CK → List AC → Option (List Te)
  | [], [] => some []
  | k :: ks, x :: xs =>
    match teO x, teL ks xs with
    | some (k', te), some r => bif ckEq k k' then some (te :: r) else none
    | _, _ => none
  | _, _ => none
def symX (C : Cfg) (H : Hp) (tm : Tm) : Op → Option (SV × List Te)
  | .binOp op t x y _ =>
    match avO tm x, avO tm y with
    | some (.c a), some (.c b) =>
      match teO a, teO b with
      | some (.n k, tx), some (.n j, ty) =>
        match op with
        | .shl => some (.o (.c (.t (.n k) (.bin .shl tx ty))), [.bin .leq i0 ty])
        | .shr => some (.o (.c (.t (.n k) (.bin .shr tx ty))), [.bin .leq i0 ty])
        | .quo => bif decide (k = j) then some (.o (.c (.t (.n k) (.bin .quo tx ty))), [.bin .neq ty i0]) else none
        | .rem => bif decide (k = j) then some (.o (.c (.t (.n k) (.bin .rem tx ty))), [.bin .neq ty i0]) else none
        | _ => none
      | some (.s, tx), some (.s, ty) =>
        match op with
        | .add => some (.o (.c (.t .s (.bin .add tx ty))), [.bin .leq (.sl tx) (.l (.int .i64 1000000000)), .bin .leq (.sl ty) (.l (.int .i64 1000000000))])
        | _ => none
      | _, _ => none
    | some (.ag xs), some (.ag ys) =>
      match C.eqs t with
      | some ks =>
        match teL ks xs, teL ks ys with
        | some txs, some tys =>
          match op with
          | .eql => some (.o (.c (.t .b (eqTe txs tys))), [])
          | .neq => some (.o (.c (.t .b (.not (eqTe txs tys)))), [])
          | _ => none
        | _, _ => none
      | none => none
    | _, _ => none
  | .call { callee := .builtin .min, args, argTypes } =>
    match args.toList with
    | [x, y] =>
      match cO tm x, cO tm y with
      | some a, some b =>
        match teO a, teO b with
        | some (.n k, tx), some (.n j, ty) => bif decide (k = j) then some (.o (.c (.t (.n k) (.ite (.bin .lss ty tx) ty tx))), []) else none
        | _, _ => none
      | _, _ => none
    | _ => none
  | .call { callee := .builtin .max, args, argTypes } =>
    match args.toList with
    | [x, y] =>
      match cO tm x, cO tm y with
      | some a, some b =>
        match teO a, teO b with
        | some (.n k, tx), some (.n j, ty) => bif decide (k = j) then some (.o (.c (.t (.n k) (.ite (.bin .gtr ty tx) ty tx))), []) else none
        | _, _ => none
      | _, _ => none
    | _ => none
  | _ => none
def pureT (C : Cfg) (H : Hp) (tm : Tm) (op : Op) : Option (SV × List Te) :=
  match pureE C H tm op with
  | some r => some (r, [])
  | none =>
    match symT C H tm op with
    | some r => some r
    | none => symX C H tm op
section
variable {C : Cfg} {fr : Fr} {E : Env} {N : Nat} {tm : Tm} {a : Act} {w0 : World} {H : Hp} {w w' : World}
theorem teL_rel : ∀ (ks : List CK) (xs : List AC) {ts : List Te} {us : List Value}, teL ks xs = some ts → RelL E xs us → Fit ks us ∧ ∀ S, E.q.has S → ts.map (Te.ev S) = us
  | [], [], ts, us, h, hr => by
    cases h
    have : us = [] := List.eq_nil_of_length_eq_zero (by rw [← hr.1]; rfl)
    subst this
    exact ⟨⟨rfl, fun j k u h => by simp at h⟩, fun _ _ => rfl⟩
  | k :: ks, x :: xs, ts, us, h, hr => by
    simp only [teL] at h
    split at h
    · rename_i k' te r h1 h2
      cases hc : ckEq k k' with
      | false => rw [hc] at h; cases h
      | true =>
        rw [hc, cond_true] at h
        cases h
        obtain rfl := ckEq_eq hc
        match us, hr with
        | u :: us, hr =>
          obtain ⟨g1, g2⟩ := teO_rel h1 (hr.2 0 x u rfl rfl)
          obtain ⟨⟨g3, g4⟩, g5⟩ := teL_rel ks xs h2 (⟨by simpa using hr.1, fun j y v hy hv => hr.2 (j + 1) y v (by simpa using hy) (by simpa using hv)⟩ : RelL E xs us)
          refine ⟨⟨by simp [g3], fun j kk v hk hv => ?_⟩, fun S hS => by simp only [List.map_cons, g2 S hS, g5 S hS]⟩
          cases j with
          | zero => simp at hk hv; subst hk hv; exact g1
          | succ j => exact g4 j kk v (by simpa using hk) (by simpa using hv)
        | [], hr => exact absurd hr.1 (by simp)
    · cases h
  | [], _ :: _, ts, us, h, hr => by cases h
  | _ :: _, [], ts, us, h, hr => by cases h
theorem eqTe_ev (S : Sy) : ∀ (xs ys : List Te), (eqTe xs ys).ev S = .bool (eqL (xs.map (Te.ev S)) (ys.map (Te.ev S)))
  | x :: xs, y :: ys => by simp only [eqTe, Te.ev, eqTe_ev S xs ys, List.map_cons, eqL, isT]
  | [], [] => rfl
  | [], _ :: _ => rfl
  | _ :: _, [] => rfl
theorem symX_ok (hC : C.Ok) (hH : RelH fr w0 E H w) (hT : RelT E N tm a) {o : Oper} {r : SV} {ns : List Te} (h : symX C H tm o.op = some (r, ns)) (hn : ∀ c ∈ ns, c.ev E.q.S = .bool true) : ∃ v, RelS E r v ∧ ∀ w', (execOp a.eval o).run C.P w' = .ok (.value v) w' := by
  cases ho : o.op with
  | binOp op t x y lt =>
    rw [ho] at h
    simp only [symX] at h
    have hex : ∀ v, (∀ w', ((do eqGuard op t x y (a.eval x) (a.eval y); binOp op t (a.eval x) (a.eval y)) : Sem Value).run C.P w' = .ok v w') → ∀ w', (execOp a.eval o).run C.P w' = .ok (.value v) w' := by
      intro v hv w'
      unfold execOp; rw [ho]
      exact alloc_run (hv w')
    split at h
    · rename_i ca cb hx hy
      have rx : RelC E ca (a.eval x) := avO_rel hT hx
      have ry : RelC E cb (a.eval y) := avO_rel hT hy
      split at h
      · rename_i k tx j ty htx hty
        obtain ⟨⟨u, hu⟩, eu⟩ := teO_rel htx rx
        obtain ⟨⟨v, hv⟩, ev⟩ := teO_rel hty ry
        cases op <;> simp only at h <;> first | (cases h; done) | skip
        · -- quo
          rw [cond_decide] at h
          split at h
          · rename_i hkj
            subst hkj
            cases h
            have q := hn _ List.mem_cons_self
            simp only [Te.ev, i0, ev _ E.q.has_self, hv, binV, Value.bool.injEq, Bool.not_eq_true', decide_eq_false_iff_not] at q
            refine ⟨_, ⟨⟨_, rfl⟩, fun S hS => by simp only [Te.ev, eu S hS, ev S hS, hu, hv, binV]; rfl⟩, hex _ fun w' => ?_⟩
            rw [hu, hv]
            simp [eqGuard, Sem.run_bind, binOp, Op.intDiv, q]
          · cases h
        · -- rem
          rw [cond_decide] at h
          split at h
          · rename_i hkj
            subst hkj
            cases h
            have q := hn _ List.mem_cons_self
            simp only [Te.ev, i0, ev _ E.q.has_self, hv, binV, Value.bool.injEq, Bool.not_eq_true', decide_eq_false_iff_not] at q
            refine ⟨_, ⟨⟨_, rfl⟩, fun S hS => by simp only [Te.ev, eu S hS, ev S hS, hu, hv, binV]; rfl⟩, hex _ fun w' => ?_⟩
            rw [hu, hv]
            simp [eqGuard, Sem.run_bind, binOp, Op.intDiv, q]
          · cases h
        · -- shl
          cases h
          have q := hn _ List.mem_cons_self
          simp only [Te.ev, i0, ev _ E.q.has_self, hv, binV] at q
          have q := bool_dec q
          refine ⟨_, ⟨⟨_, rfl⟩, fun S hS => by simp only [Te.ev, eu S hS, ev S hS, hu, hv, binV]; rfl⟩, hex _ fun w' => ?_⟩
          rw [hu, hv]
          simp [eqGuard, Sem.run_bind, binOp, Op.shift, show ¬ v < 0 by omega]
        · -- shr
          cases h
          have q := hn _ List.mem_cons_self
          simp only [Te.ev, i0, ev _ E.q.has_self, hv, binV] at q
          have q := bool_dec q
          refine ⟨_, ⟨⟨_, rfl⟩, fun S hS => by simp only [Te.ev, eu S hS, ev S hS, hu, hv, binV]; rfl⟩, hex _ fun w' => ?_⟩
          rw [hu, hv]
          simp [eqGuard, Sem.run_bind, binOp, Op.shift, show ¬ v < 0 by omega]
      · rename_i tx ty htx hty
        obtain ⟨⟨u, hu⟩, eu⟩ := teO_rel htx rx
        obtain ⟨⟨v, hv⟩, ev⟩ := teO_rel hty ry
        cases op <;> simp only at h <;> first | (cases h; done) | skip
        cases h
        have q1 := hn _ List.mem_cons_self
        have q2 := hn _ (List.mem_cons_of_mem _ List.mem_cons_self)
        simp only [Te.ev, eu _ E.q.has_self, ev _ E.q.has_self, hu, hv, sizeV, binV] at q1 q2
        have q1 := bool_dec q1
        have q2 := bool_dec q2
        refine ⟨.string (u ++ v), ⟨⟨_, rfl⟩, fun S hS => by simp only [Te.ev, eu S hS, ev S hS, hu, hv, binV]⟩, hex _ fun w' => ?_⟩
        rw [hu, hv]
        have hb : ¬ ((u.size + v.size : Nat) : Int) > IntKind.i64.max := by
          have : IntKind.i64.max = 9223372036854775807 := rfl
          omega
        simp only [eqGuard, Sem.run_bind, binOp, Op.stringOp]
        simp only [if_neg hb]
        rfl
      · cases h
    · rename_i xs ys hx hy
      split at h
      · rename_i ks hks
        split at h
        · rename_i txs tys htx hty
          obtain ⟨arrx, ex, rx⟩ : RelV E (.ag xs) (a.eval x) := avO_rel hT hx
          obtain ⟨arry, ey, ry⟩ : RelV E (.ag ys) (a.eval y) := avO_rel hT hy
          obtain ⟨fx, gx⟩ := teL_rel ks xs htx rx
          obtain ⟨fy, gy⟩ := teL_rel ks ys hty ry
          have key := hC.eqs t ks hks arrx.toList arry.toList fx fy op x y
          simp only [Array.toArray_toList] at key
          cases op <;> simp only at h <;> first | (cases h; done) | skip
          · cases h
            refine ⟨.bool (eqL arrx.toList arry.toList), ⟨⟨_, rfl⟩, fun S hS => by rw [eqTe_ev, gx S hS, gy S hS]⟩, hex _ fun w' => ?_⟩
            rw [ex, ey]
            exact key w' (.inl rfl)
          · cases h
            refine ⟨.bool (!eqL arrx.toList arry.toList), ⟨⟨_, rfl⟩, fun S hS => by simp only [Te.ev]; rw [eqTe_ev, gx S hS, gy S hS]; rfl⟩, hex _ fun w' => ?_⟩
            rw [ex, ey]
            exact key w' (.inr rfl)
        · cases h
      · cases h
    · cases h
  | call c =>
    rw [ho] at h
    obtain ⟨callee, args, argTypes⟩ := c
    cases callee with
    | value f => simp [symX] at h
    | invoke f m => simp [symX] at h
    | builtin b =>
      have hex : ∀ v, (∀ w', (builtin b argTypes o.type (args.map fun | .const _ => true | _ => false) (args.map a.eval)).run C.P w' = .ok (.value v) w') → ∀ w', (execOp a.eval o).run C.P w' = .ok (.value v) w' := by
        intro v hv w'
        unfold execOp; rw [ho]
        simp only [resolve, Sem.run_bind, Sem.run_pure, Result.andThen_ok, invoke]
        exact hv w'
      cases b with
      | min =>
        simp only [symX] at h
        split at h
        · rename_i x y hargs
          obtain rfl : args = #[x, y] := by apply Array.toList_inj.1; simpa using hargs
          split at h
          · rename_i ca cb hx hy
            split at h
            · rename_i k tx j ty htx hty
              rw [cond_decide] at h
              split at h
              · rename_i hkj
                subst hkj
                cases h
                obtain ⟨⟨u, hu⟩, eu⟩ := teO_rel htx (cO_rel hT hx)
                obtain ⟨⟨v, hv⟩, ev⟩ := teO_rel hty (cO_rel hT hy)
                refine ⟨.int k (if v < u then v else u), ⟨⟨_, rfl⟩, fun S hS => ?_⟩, hex _ fun w' => ?_⟩
                · simp only [Te.ev, eu S hS, ev S hS, hu, hv, binV, isT]
                  rw [cond_decide]
                  split <;> rfl
                · simp [builtin, Builtin.min_, Builtin.min2, Sem.run_bind, hu, hv]
              · cases h
            · cases h
          · cases h
        · cases h
      | max =>
        simp only [symX] at h
        split at h
        · rename_i x y hargs
          obtain rfl : args = #[x, y] := by apply Array.toList_inj.1; simpa using hargs
          split at h
          · rename_i ca cb hx hy
            split at h
            · rename_i k tx j ty htx hty
              rw [cond_decide] at h
              split at h
              · rename_i hkj
                subst hkj
                cases h
                obtain ⟨⟨u, hu⟩, eu⟩ := teO_rel htx (cO_rel hT hx)
                obtain ⟨⟨v, hv⟩, ev⟩ := teO_rel hty (cO_rel hT hy)
                refine ⟨.int k (if v > u then v else u), ⟨⟨_, rfl⟩, fun S hS => ?_⟩, hex _ fun w' => ?_⟩
                · simp only [Te.ev, eu S hS, ev S hS, hu, hv, binV, isT]
                  rw [cond_decide]
                  split <;> rfl
                · simp [builtin, Builtin.max_, Builtin.max2, Sem.run_bind, hu, hv]
              · cases h
            · cases h
          · cases h
        · cases h
      | _ => simp [symX] at h
  | _ => rw [ho] at h; simp [symX] at h
theorem pureT_ok (hC : C.Ok) (hH : RelH fr w0 E H w) (hT : RelT E N tm a) {o : Oper} {r : SV} {ns : List Te} (h : pureT C H tm o.op = some (r, ns)) (hn : ∀ c ∈ ns, c.ev E.q.S = .bool true) : ∃ v, RelS E r v ∧ ∀ w', (execOp a.eval o).run C.P w' = .ok (.value v) w' := by
  unfold pureT at h
  split at h
  · rename_i r' hp
    cases h
    exact pureE_ok hC hH hT hp
  · split at h
    · rename_i r' hs
      cases h
      exact symT_ok hC hH hT hs hn
    · exact symX_ok hC hH hT h hn
end
/-! ### Structs compared: how it is shown of a type -/
section
variable {P : Program} {d : Nat} {xs ys : Array Value} {f : Field} {fs : List Field} {a b : Value} {r s : Bool} {w : World}
theorem eqf_nil : (Op.eqFields d xs ys []).run P w = .ok true w := by simp [Op.eqFields]
theorem eqf_cons (hn : (f.name == "_") = false) (ha : (part f.type xs f.offset).run P w = .ok a w) (hb : (part f.type ys f.offset).run P w = .ok b w) (he : (Op.equalIn d f.type a b).run P w = .ok r w) (hr : (Op.eqFields d xs ys fs).run P w = .ok s w) : (Op.eqFields d xs ys (f :: fs)).run P w = .ok (r && s) w := by
  have hn' : f.name ≠ "_" := by simpa using hn
  rw [Op.eqFields]
  simp only [if_pos hn', Sem.run_bind, ha, hb, he, Result.andThen_ok]
  cases r
  · simp
  · simpa using hr
theorem eqA_of {t : TypeId} {fs : Array Field} (hu : P.underlying t = some (.struct fs)) (hp : P.stoodInHeld t = false) (h : (Op.eqFields d xs ys fs.toList).run P w = .ok r w) : (Op.equalIn (d + 1) t (.agg xs) (.agg ys)).run P w = .ok r w := by
  have hf : P.fieldsOf t = fs := by simp [Program.fieldsOf, hu]
  rw [run_equalIn_struct (P := P) w d t xs ys (by rw [hf]; exact hu) hp, hf]
  exact h
theorem eq_int {t : TypeId} {k : IntKind} (hu : P.underlying t = some (.int k)) (x y : Int) : (Op.equalIn (d + 1) t (.int k x) (.int k y)).run P w = .ok (x == y) w := by
  simp [Op.equalIn, Sem.run_bind, underlying_run' hu]
theorem eq_bool {t : TypeId} (hu : P.underlying t = some .bool) (x y : Bool) : (Op.equalIn (d + 1) t (.bool x) (.bool y)).run P w = .ok (x == y) w := by
  simp [Op.equalIn, Sem.run_bind, underlying_run' hu]
/-- A type is compared cell by cell. -/
theorem eqOk_of {t : TypeId} {ks : List CK} (hg : P.eqGuardType P.depth t = false) (h : ∀ (us vs : List Value) (w : World), Fit ks us → Fit ks vs → (Op.equalIn Op.maxDepth t (.agg us.toArray) (.agg vs.toArray)).run P w = .ok (eqL us vs) w) : EqOk P t ks := by
  intro us vs hu hv op x y w hop
  have h1 := h us vs w hu hv
  rcases hop with rfl | rfl
  · simp [eqGuard, Sem.run_bind, hg, binOp, Op.equal, h1]
  · simp [eqGuard, Sem.run_bind, hg, binOp, Op.equal, h1]
end
end Go.Proofs.Ytipomcnbjlfekaa.Rs
