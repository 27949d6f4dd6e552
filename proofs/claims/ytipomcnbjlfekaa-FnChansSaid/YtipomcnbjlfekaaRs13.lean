/- A symbolic machine over the model's operations. Part 13: calls of what is told, code, functions. No program in sight. -/
import Derived.Test.YtipomcnbjlfekaaRs12
namespace Go.Proofs.Ytipomcnbjlfekaa.Rs
open Go.RowKit
set_option linter.unusedVariables false
set_option linter.unusedSimpArgs false
def tlF (f : Nat → Te) : Nat → Nat → TL
  | _, 0 => .nil
  | i, n + 1 => .cons (f i) (tlF f (i + 1) n)
def rlF (f : Nat → RT) : Nat → Nat → RL
  | _, 0 => .nil
  | i, n + 1 => .cons (f i) (rlF f (i + 1) n)
theorem tlF_ev (f : Nat → Te) (S : Sy) : ∀ (i n : Nat), (tlF f i n).ev S = (List.range n).map fun j => (f (i + j)).ev S
  | i, 0 => rfl
  | i, n + 1 => by
    simp only [tlF, TL.ev, tlF_ev f S (i + 1) n, List.range_succ_eq_map, List.map_cons, List.map_map, Nat.add_zero]
    congr 1
    apply List.map_congr_left
    intro j _
    simp only [Function.comp, Nat.succ_eq_add_one]
    congr 2
    omega
theorem rlF_ev (f : Nat → RT) (S : Sy) : ∀ (i n : Nat), (rlF f i n).ev S = (List.range n).map fun j => (f (i + j)).ev S
  | i, 0 => rfl
  | i, n + 1 => by
    simp only [rlF, RL.ev, rlF_ev f S (i + 1) n, List.range_succ_eq_map, List.map_cons, List.map_map, Nat.add_zero]
    congr 1
    apply List.map_congr_left
    intro j _
    simp only [Function.comp, Nat.succ_eq_add_one]
    congr 2
    omega
/-- The values of the first symbols. -/
def vals (q : Qn) (n : Nat) : List Value := (List.range n).map q.S.v
def rowsOf (q : Qn) (n : Nat) : List Rw := (List.range n).map q.S.r
def alt1 (s : Sum) (m : Mt) (k : Alt → List SV → Hp → Out) (al : Alt) : Out :=
  .fresh al.mv al.mr al.id (tlF (gvOf s m) 0 s.nv) (rlF (grOf s m) 0 s.nr) (match after s al m, iSs s m al.res with
    | some H2, some rs => k al rs H2
    | _, _ => .fail)
def altsT (s : Sum) (m : Mt) (k : Alt → List SV → Hp → Out) : List Alt → Out
  | [] => .fail
  | [al] => alt1 s m k al
  | al :: rest => .both (alt1 s m k al) (altsT s m k rest)
def callS (s : Sum) (as : List SV) (H : Hp) (k : Alt → List SV → Hp → Out) : Option Out :=
  bif okM s (bind1 s as H).1 (bind1 s as H).2 then
    some (.pre s.pid (tlF (gvOf s (bind1 s as H).2) 0 s.nv) (rlF (grOf s (bind1 s as H).2) 0 s.nr) (altsT s (bind1 s as H).2 k s.outs))
  else none
def callL (as : List SV) (H : Hp) (k : Alt → List SV → Hp → Out) : List Sum → Out
  | [] => .fail
  | s :: rest =>
    match callS s as H k with
    | some o => o
    | none => callL as H k rest
section
variable {C : Cfg} {K0 : Qn → Ex → Tm → Hp → Prop} {fr : Fr} {E : Env} {w0 : World} {H : Hp} {w w' : World}
/-- Behind a piece that is told of. -/
def Told1 (C : Cfg) (fr : Fr) (w0 : World) (s : Sum) (E0 : Env) (al : Alt) (E1 : Env) (w' : World) : Prop :=
  E0.le E1 ∧ (E1.q.n = s.nv + al.mv ∧ E1.q.m = s.nr + al.mr) ∧ C.fact al.id (vals E0.q s.nv) (rowsOf E0.q s.nr) (newV E1.q s.nv al.mv) (newR E1.q s.nr al.mr) ∧ RelH fr w0 E1 (s.H1 al) w'
/-- What is told of a function is so. -/
def SumOk (C : Cfg) (f : FuncId) (s : Sum) : Prop :=
  ∀ fr w0 w (E0 : Env) (vs : Array Value), E0.q.n = s.nv → E0.q.m = s.nr → RelH fr w0 E0 s.H0 w → s.as0.length = vs.size → (∀ (j : Nat) x v, s.as0[j]? = some x → vs[j]? = some v → RelS E0 x v) → C.pre s.pid (vals E0.q s.nv) (rowsOf E0.q s.nr) →
    Calls C.P f vs w fun e w' => ∃ al ∈ s.outs, ∃ E1 v r, e = .returned v ∧ al.res = [r] ∧ RelS E1 r v ∧ Told1 C fr w0 s E0 al E1 w'
theorem altsT_ok {q : Qn} {s : Sum} {m : Mt} {k : Alt → List SV → Hp → Out} : ∀ {l : List Alt}, (altsT s m k l).Ok C K0 q → ∀ al ∈ l, (alt1 s m k al).Ok C K0 q
  | [al], h, a, ha => by
    simp at ha
    subst ha
    exact h
  | al :: al2 :: rest, h, a, ha => by
    rcases List.mem_cons.1 ha with rfl | ha
    · exact h.1
    · exact altsT_ok (l := al2 :: rest) h.2 a ha
/-- A call (a loop) that is told of: how it begins. -/
theorem callS_begin {s : Sum} {as : List SV} {k : Alt → List SV → Hp → Out} {o : Out} (hc : callS s as H k = some o) (ho : o.Ok C K0 E.q) (hH : RelH fr w0 E H w) {vs : List Value} (hl : as.length = vs.length) (hr : ∀ (j : Nat) x v, as[j]? = some x → vs[j]? = some v → RelS E x v) :
    ∃ E' m as', E.le E' ∧ E'.q = E.q ∧ Fits s as' m ∧ RelH fr w0 E' m.H w ∧ RelH (frOf s m E' w) w (e0Of s m E') s.H0 w ∧ s.as0.length = vs.length ∧ (∀ (j : Nat) x v, s.as0[j]? = some x → vs[j]? = some v → RelS (e0Of s m E') x v) ∧ C.pre s.pid (vals (e0Of s m E').q s.nv) (rowsOf (e0Of s m E').q s.nr) ∧
      ∀ al ∈ s.outs, (alt1 s m k al).Ok C K0 E'.q := by
  unfold callS at hc
  cases hok : okM s (bind1 s as H).1 (bind1 s as H).2 with
  | false => rw [hok] at hc; cases hc
  | true =>
    rw [hok, cond_true] at hc
    cases hc
    obtain ⟨E', h1, h2, h3, h4, h5⟩ := bind1_ok (s := s) hH hl hr
    have hf := okM_fits hok
    obtain ⟨k1, k2⟩ := vA_ok hf h3 hf.args h4 h5
    obtain ⟨p1, p2⟩ := ho
    refine ⟨E', _, _, h1, h2, hf, h3, callee hf h3, k1, k2, ?_, fun al hal => by rw [h2]; exact altsT_ok p2 al hal⟩
    rw [tlF_ev, rlF_ev] at p1
    rw [← h2] at p1
    have e1 : (List.range s.nv).map (fun j => (gvOf s (bind1 s as H).2 (0 + j)).ev E'.q.S) = vals (e0Of s (bind1 s as H).2 E').q s.nv := by
      apply List.map_congr_left
      intro j hj
      rw [Nat.zero_add]
      rfl
    have e2 : (List.range s.nr).map (fun j => (grOf s (bind1 s as H).2 (0 + j)).ev E'.q.S) = rowsOf (e0Of s (bind1 s as H).2 E').q s.nr := by
      apply List.map_congr_left
      intro j hj
      rw [Nat.zero_add]
      rfl
    rw [e1, e2] at p1
    exact p1
theorem iSs_get {s : Sum} {m : Mt} : ∀ {xs ys : List SV}, iSs s m xs = some ys → xs.length = ys.length ∧ ∀ (j : Nat) y, ys[j]? = some y → ∃ x, xs[j]? = some x ∧ iS s m x = some y
  | [], _, h => by cases h; exact ⟨rfl, fun j y h => by simp at h⟩
  | x :: xs, ys, h => by
    simp only [iSs] at h
    split at h
    · rename_i y ys' hy hys
      cases h
      obtain ⟨h1, h2⟩ := iSs_get hys
      refine ⟨by simp [h1], fun j z hz => ?_⟩
      cases j with
      | zero => simp at hz; subst hz; exact ⟨x, rfl, hy⟩
      | succ j => simpa using h2 j z (by simpa using hz)
    · cases h
/-- A call (a loop) that is told of: how it ends. -/
theorem callS_end {s : Sum} {as' : List SV} {m : Mt} {k : Alt → List SV → Hp → Out} {E' : Env} (hf : Fits s as' m) (hH : RelH fr w0 E' m.H w) {al : Alt} (hk : (alt1 s m k al).Ok C K0 E'.q) {E1 : Env} (ht : Told1 C (frOf s m E' w) w s (e0Of s m E') al E1 w') :
    ∃ E2 rs H2, E'.le E2 ∧ RelH fr w0 E2 H2 w' ∧ (k al rs H2).Ok C K0 E2.q ∧ al.res.length = rs.length ∧ ∀ (j : Nat) y, rs[j]? = some y → ∃ x, al.res[j]? = some x ∧ ∀ u, RelS E1 x u → RelS E2 y u := by
  obtain ⟨t1, t2, t3, t4⟩ := ht
  have hb : Back fr w0 w w' s al m E' E1 as' := ⟨hf, hH, t1, t2, t4⟩
  unfold alt1 at hk
  have := hk (newV E1.q s.nv al.mv) (newR E1.q s.nr al.mr) (newV_length _ _ _) (newR_length _ _ _) (by
    rw [tlF_ev, rlF_ev]
    have e1 : (List.range s.nv).map (fun j => (gvOf s m (0 + j)).ev E'.q.S) = vals (e0Of s m E').q s.nv := by
      apply List.map_congr_left
      intro j hj
      rw [Nat.zero_add]
      rfl
    have e2 : (List.range s.nr).map (fun j => (grOf s m (0 + j)).ev E'.q.S) = rowsOf (e0Of s m E').q s.nr := by
      apply List.map_congr_left
      intro j hj
      rw [Nat.zero_add]
      rfl
    rw [e1, e2]
    exact t3)
  split at this
  · rename_i H2 rs ha hi
    obtain ⟨i1, i2⟩ := iSs_get hi
    refine ⟨e2Of s al m E' E1, rs, H2, hb.leE, after_ok hb ha, this, i1, fun j y hy => ?_⟩
    obtain ⟨x, hx, hxy⟩ := i2 j y hy
    exact ⟨x, hx, fun u hu => hb.sval hxy hu⟩
  · exact this.elim
def one (k : SV → Hp → Out) : Alt → List SV → Hp → Out := fun al rs H =>
  match rs with
  | [r] => k r H
  | _ => .fail
theorem callL_ok {f : FuncId} {as : List SV} {k : SV → Hp → Out} {vs : Array Value} (hH : RelH fr w0 E H w) (hl : as.length = vs.size) (hr : ∀ (j : Nat) x v, as[j]? = some x → vs[j]? = some v → RelS E x v) : ∀ (l : List Sum), (∀ s ∈ l, SumOk C f s) → (callL as H (one k) l).Ok C K0 E.q →
    Calls C.P f vs w fun e w' => ∃ E' v r H', e = .returned v ∧ E.le E' ∧ RelS E' r v ∧ RelH fr w0 E' H' w' ∧ (k r H').Ok C K0 E'.q
  | [], _, h => h.elim
  | s :: rest, hs, h => by
    simp only [callL] at h
    split at h
    · rename_i o hc
      obtain ⟨E', m, as', h1, h2, hf, h3, h4, h5, h6, h7, h8⟩ := callS_begin hc h hH (vs := vs.toList) (by rw [hl]; simp) (fun j x v hx hv => hr j x v hx (by simpa using hv))
      refine (hs s (by simp) (frOf s m E' w) w w (e0Of s m E') vs rfl rfl h4 (by rw [h5]; simp) (fun j x v hx hv => h6 j x v hx (by simpa using hv)) h7).mono ?_
      rintro e w' ⟨al, hal, E1, v, r, rfl, hres, hrv, ht⟩
      obtain ⟨E2, rs, H2, g1, g2, g3, g4, g5⟩ := callS_end hf h3 (h8 al hal) ht
      rw [hres] at g4 g5
      match rs, g4, g5, g3 with
      | [r'], _, g5, g3 =>
        obtain ⟨x, hx, hxu⟩ := g5 0 r' rfl
        simp at hx
        subst hx
        exact ⟨E2, v, r', H2, rfl, Env.le_trans h1 g1, hxu v hrv, g2, g3⟩
    · exact callL_ok hH hl hr rest (fun s' hs' => hs s' (List.mem_cons_of_mem _ hs')) h
end
end Go.Proofs.Ytipomcnbjlfekaa.Rs
