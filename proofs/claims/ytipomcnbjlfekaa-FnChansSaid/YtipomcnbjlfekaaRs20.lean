/- A symbolic machine over the model's operations. Part 20: a table of functions and loops is right, all at once. No program in sight. -/
import Derived.Test.YtipomcnbjlfekaaRs19
namespace Go.Proofs.Ytipomcnbjlfekaa.Rs
open Go.RowKit
set_option linter.unusedVariables false
set_option linter.unusedSimpArgs false
/-- What is asked and told at a level. -/
def Cfg.lv (C : Cfg) (tr : Nat → Ot) (n : Nat) : Cfg :=
  { C with pre := fun p vs ls => ∃ r, phi tr n p vs ls = some r, fact := fun id a r vs ls => ∃ m, phi tr m (id / 8) a r = some (id % 8, vs, ls) }
def Cfg.pf (C : Cfg) (pre : Nat → List Value → List Rw → Prop) (fact : Nat → List Value → List Rw → List Value → List Rw → Prop) : Cfg := { C with pre := pre, fact := fact }
/-- What is looked at of a function. -/
structure FnIn (C : Cfg) (d : Db) (tr : Nat → Ot) (f : Nat) (s : Sum) : Prop where
  pid : 2 ≤ s.pid
  run : ∃ F lf n, C.fn f = some F ∧ ∀ pre fact, runF ((C.pf pre fact).db d) lf n f F s = (tr s.pid).out s.pid s.nv s.nr
  bo : bO s.nv s.nr ((tr s.pid).out s.pid s.nv s.nr) = true
  sm : (tr s.pid).sm = true
/-- What is looked at of a loop. -/
structure LpIn (C : Cfg) (d : Db) (tr : Nat → Ot) (f id : Nat) (s : Sum) : Prop where
  pid : 2 ≤ s.pid
  run : ∃ F c x lf n, C.fn f = some F ∧ F.body = some c ∧ only id (blocksOf c) = [.loop x] ∧ ∀ pre fact, runL ((C.pf pre fact).db d) lf n F.ntmps f x (s.rec' 1) (s.rec' 0) id = (tr s.pid).out s.pid s.nv s.nr
  bo : bO s.nv s.nr ((tr s.pid).out s.pid s.nv s.nr) = true
  sm : (tr s.pid).sm = true
  len : ∀ al ∈ s.outs, al.res.length = al.sl.length
  nodup : s.sl.Nodup
structure Tab (C : Cfg) (d : Db) (tr : Nat → Ot) : Prop where
  ok : C.Ok
  one : tr 1 = .fail
  fns : ∀ p ∈ d.sums, FnIn C d tr p.1 p.2
  lps : ∀ p ∈ d.lps, LpIn C d tr p.f p.id p.s
section
variable {C : Cfg} {d : Db} {tr : Nat → Ot} {fr : Fr} {E E0 : Env} {w0 w w' : World} {s : Sum}
mutual
theorem Ot.go_sm {F : Phi} : ∀ (x : Ot) {vs ls res}, x.sm = true → x.go F vs ls = some res → res.1 < 8
  | .ask c x y, vs, ls, res, hs, k => by
    simp only [Ot.sm, Bool.and_eq_true] at hs
    simp only [Ot.go] at k
    split at k
    · exact Ot.go_sm x hs.1 k
    · exact Ot.go_sm y hs.2 k
    · cases k
  | .need c x, vs, ls, res, hs, k => by
    simp only [Ot.sm] at hs
    simp only [Ot.go] at k
    split at k
    · exact Ot.go_sm x hs k
    · cases k
  | .call p a r x, vs, ls, res, hs, k => by
    simp only [Ot.sm] at hs
    simp only [Ot.go] at k
    split at k
    · exact Os.go_sm x hs k
    · cases k
  | .name te x, vs, ls, res, hs, k => by
    simp only [Ot.sm] at hs
    simp only [Ot.go] at k
    exact Ot.go_sm x hs k
  | .ret k v l, vs, ls, res, hs, e => by
    simp only [Ot.sm, Nat.blt_eq] at hs
    simp only [Ot.go] at e
    cases e
    exact hs
  | .fail, vs, ls, res, hs, e => by cases e
theorem Os.go_sm {F : Phi} : ∀ (x : Os) {rs vs ls res}, x.sm = true → x.go F rs vs ls = some res → res.1 < 8
  | .one _ _ k x, rs, vs, ls, res, hs, e => by
    simp only [Os.sm, Bool.and_eq_true] at hs
    simp only [Os.go] at e
    split at e
    · exact Ot.go_sm x hs.2 e
    · cases e
  | .more _ _ k x rest, rs, vs, ls, res, hs, e => by
    simp only [Os.sm, Bool.and_eq_true] at hs
    simp only [Os.go] at e
    split at e
    · exact Ot.go_sm x hs.2.1 e
    · exact Os.go_sm rest hs.2.2.1 e
end
theorem fact_at {tr : Nat → Ot} {p k : Nat} {a : List Value} {r : List Rw} {vs : List Value} {ls : List Rw} (hk : k < 8) : (C.lv tr 0).fact (p * 8 + k) a r vs ls ↔ ∃ m, phi tr m p a r = some (k, vs, ls) := by
  show (∃ m, phi tr m ((p * 8 + k) / 8) a r = some ((p * 8 + k) % 8, vs, ls)) ↔ _
  rw [show (p * 8 + k) / 8 = p by omega, show (p * 8 + k) % 8 = k by omega]
theorem sumOk_congr {C' : Cfg} {f : Nat} (hP : C.P = C'.P) (hf : C.fact = C'.fact) (hp : ∀ vs ls, C'.pre s.pid vs ls → C.pre s.pid vs ls) (h : SumOk C f s) : SumOk C' f s := by
  intro fr w0 w E0 vs a1 a2 a3 a4 a5 a6
  rw [← hP]
  refine (h fr w0 w E0 vs a1 a2 a3 a4 a5 (hp _ _ a6)).mono ?_
  rintro e w' ⟨al, hal, E1, v, r, b1, b2, b3, b4⟩
  exact ⟨al, hal, E1, v, r, b1, b2, b3, told_cast hf b4⟩
theorem loopOk_congr {C' : Cfg} {N : Nat} {c : Code} {s' : Sum} (hs : s' = { s with pid := s'.pid }) (hP : C.P = C'.P) (hf : C.fact = C'.fact) (hp : ∀ vs ls, C'.pre s'.pid vs ls → C.pre s.pid vs ls) (h : LoopOk C N c s) : LoopOk C' N c s' := by
  intro fr w0 w E0 a a1 a2 a3 a4 a5 a6 a7 a8
  rw [← hP]
  rw [hs] at a1 a2 a3 a4 a5 a7 a8
  refine wp_mono (h fr w0 w E0 a a1 a2 a3 a4 a5 (hp _ _ (by rw [hs] at a6; exact a6)) a7 a8) ?_
  intro e a' w' hq
  have key : ∀ e1, (∃ al ∈ s.outs, al.ex = e1 ∧ ∃ E1, Told1 C fr w0 s E0 al E1 w' ∧ al.res.length = al.sl.length ∧ RelT E1 N (tmOf al.sl al.res) a') → ∃ al ∈ s'.outs, al.ex = e1 ∧ ∃ E1, Told1 C' fr w0 s' E0 al E1 w' ∧ al.res.length = al.sl.length ∧ RelT E1 N (tmOf al.sl al.res) a' := by
    rintro e1 ⟨al, b1, b2, E1, b3, b4, b5⟩
    rw [hs]
    exact ⟨al, b1, b2, E1, told_cast hf b3, b4, b5⟩
  cases e with
  | normal => exact key _ hq
  | exit j => exact key _ hq
  | ret => exact key _ hq
  | goto l => exact hq.elim
  | panic c => exact hq.elim
  | outgrown => exact hq.elim
theorem blocksOf_sub : ∀ (c : Code) {id : Nat} {x : Code}, (id, x) ∈ blocksOf c → ∀ q ∈ blocksOf x, q ∈ blocksOf c
  | .seq x y, id, z, h, q, hq => by
    rcases List.mem_append.1 h with h | h
    · exact List.mem_append_left _ (blocksOf_sub x h q hq)
    · exact List.mem_append_right _ (blocksOf_sub y h q hq)
  | .cond _ x y, id, z, h, q, hq => by
    rcases List.mem_append.1 h with h | h
    · exact List.mem_append_left _ (blocksOf_sub x h q hq)
    · exact List.mem_append_right _ (blocksOf_sub y h q hq)
  | .block i x, id, z, h, q, hq => by
    rcases List.mem_cons.1 h with h | h
    · cases h; exact List.mem_cons_of_mem _ hq
    · exact List.mem_cons_of_mem _ (blocksOf_sub x h q hq)
  | .loop x, id, z, h, q, hq => blocksOf_sub x h q hq
  | .skip, id, z, h, q, hq => by cases h
  | .region .., id, z, h, q, hq => by cases h
  | .exit .., id, z, h, q, hq => by cases h
  | .ret, id, z, h, q, hq => by cases h
  | .scope .., id, z, h, q, hq => by cases h
  | .label .., id, z, h, q, hq => by cases h
  | .goto .., id, z, h, q, hq => by cases h
  | .refuse .., id, z, h, q, hq => by cases h
  | .rangeFunc .., id, z, h, q, hq => by cases h
theorem only_of {id : Nat} {x : Code} : ∀ {l : List (Nat × Code)}, only id l = [x] → (id, x) ∈ l
  | p :: l, h => by
    simp only [only] at h
    cases hb : Nat.beq p.1 id with
    | true =>
      rw [hb, cond_true] at h
      obtain rfl := Nat.eq_of_beq_eq_true hb
      injection h with h1 h2
      rw [← h1]
      exact List.mem_cons_self
    | false =>
      rw [hb, cond_false] at h
      exact List.mem_cons_of_mem _ (only_of h)
theorem lv_fn (hT : Tab C d tr) {n : Nat} (hd : DbOk (C.lv tr n) d) {f : Nat} (hin : FnIn C d tr f s) : SumOk (C.lv tr (n + 1)) f s := by
  obtain ⟨F, lf, k, hF, hrun⟩ := hin.run
  intro fr w0 w E0 vs hn hm hH hl hr hpre
  obtain ⟨res, hres⟩ : ∃ r, phi tr (n + 1) s.pid (vals E0.q s.nv) (rowsOf E0.q s.nr) = some r := hpre
  have h8 := Ot.go_sm _ hin.sm (show (tr s.pid).go (selfP (phi tr n) s.pid) _ _ = some res from hres)
  have hM : Means (((C.lv tr n).rc (fun a r => ∃ x, phi tr n s.pid a r = some x)).db d) (selfP (phi tr n) s.pid) s.pid := by
    refine ⟨fun p a r x hx => ?_, fun p q a r v l x hq hf hx => ?_⟩
    · by_cases hp : p = 0
      · subst hp
        exact ⟨x, hx⟩
      · show ((C.lv tr n).rc _).pre p a r
        rw [rc_pre hp]
        exact ⟨x, by simpa [selfP, hp] using hx⟩
    · obtain ⟨m, hm'⟩ := (fact_at (C := C) hq).1 hf
      exact phi_unique tr (show phi tr n (if p = 0 then s.pid else p) a r = some x from hx) hm'
  have hlen : (vals E0.q s.nv).length = s.nv := by simp [vals]
  have hlen2 : (rowsOf E0.q s.nr).length = s.nr := by simp [rowsOf]
  have hokL := Ot.okL hM (vs0 := vals E0.q s.nv) (ls0 := rowsOf E0.q s.nr) (tr s.pid) (t := []) (u := []) hin.sm (by rw [List.append_nil, List.append_nil]; exact hres) ((fact_at (C := C) h8).2 ⟨n + 1, hres⟩)
  rw [List.append_nil, List.append_nil, hlen, hlen2] at hokL
  have hOk : (runF (((C.lv tr n).rc (fun a r => ∃ x, phi tr n s.pid a r = some x)).db d) lf k f F s).Ok (((C.lv tr n).rc (fun a r => ∃ x, phi tr n s.pid a r = some x)).db d) (fun _ _ _ _ => True) E0.q := by
    have e := hrun ((C.lv tr n).rc (fun a r => ∃ x, phi tr n s.pid a r = some x)).pre (C.lv tr n).fact
    have e2 : runF (((C.lv tr n).rc (fun a r => ∃ x, phi tr n s.pid a r = some x)).db d) lf k f F s = (tr s.pid).out s.pid s.nv s.nr := e
    rw [e2]
    refine okL_ok _ E0.q _ _ (by rw [hn, hm]; exact hin.bo) (by rw [hlen, hn]) (by rw [hlen2, hm]) ?_ hokL
    rw [← hn, ← hm]
    exact q_has E0.q
  have hC : (((C.lv tr n).rc (fun a r => ∃ x, phi tr n s.pid a r = some x)).db d).Ok := ⟨hT.ok.ty, hT.ok.fn, hT.ok.mixed, hT.ok.eqs⟩
  have hTd := (hd.rc (fun a r => ∃ x, phi tr n s.pid a r = some x)).told
  obtain ⟨d1, d2⟩ := H0_def hH
  refine (funT_ok hC (runT_ok hC hTd k) hF (fun c hc => hTd.loops f F c hF hc) hOk hH hl hr).mono ?_
  rintro e w' ⟨E', v, r, H', rfl, hle, hv, hH', hk⟩
  obtain ⟨al, hal, _, _, E1, ht, hlen, hrel⟩ := endT_ok (usOf := fun _ => [v]) hH' hle ⟨hn, hm⟩ d1 d2 (fun al xs hx => by cases hx; exact ⟨rfl, fun j x u hx hu => by
    cases j with
    | zero => simp at hx hu; subst hx hu; exact hv
    | succ j => simp at hx⟩) s.outs hk
  match hres : al.res, hlen with
  | [r1], _ => exact ⟨al, hal, E1, v, r1, rfl, hres, hrel 0 r1 v (by rw [hres]; rfl) rfl, told_cast rfl ht⟩
theorem least {p : Nat → Prop} : ∀ (n : Nat), p n → ∃ m, m ≤ n ∧ p m ∧ ∀ k, p k → m ≤ k := by
  intro n
  induction n using Nat.strongRecOn with
  | ind n ih =>
    intro h
    by_cases hk : ∃ k, k < n ∧ p k
    · obtain ⟨k, hlt, hp⟩ := hk
      obtain ⟨m, h1, h2, h3⟩ := ih k hlt hp
      exact ⟨m, by omega, h2, h3⟩
    · exact ⟨n, Nat.le_refl _, h, fun k hp => by
        rcases Nat.lt_or_ge k n with h4 | h4
        · exact absurd ⟨k, h4, hp⟩ hk
        · exact h4⟩
open Classical in
/-- How much it takes. -/
noncomputable def fuel (tr : Nat → Ot) (p : Nat) (vs : List Value) (ls : List Rw) : Nat := if h : ∃ m, (∃ r, phi tr m p vs ls = some r) ∧ ∀ k, (∃ r, phi tr k p vs ls = some r) → m ≤ k then h.choose else 0
theorem fuel_le {p n : Nat} {vs : List Value} {ls : List Rw} {r : Res} (h : phi tr n p vs ls = some r) : fuel tr p vs ls ≤ n ∧ ∃ r, phi tr (fuel tr p vs ls) p vs ls = some r := by
  have hx : ∃ m, (∃ r, phi tr m p vs ls = some r) ∧ ∀ k, (∃ r, phi tr k p vs ls = some r) → m ≤ k := by
    obtain ⟨m, _, h2, h3⟩ := least (p := fun m => ∃ r, phi tr m p vs ls = some r) n ⟨r, h⟩
    exact ⟨m, h2, h3⟩
  unfold fuel
  rw [dif_pos hx]
  exact ⟨hx.choose_spec.2 n ⟨r, h⟩, hx.choose_spec.1⟩
theorem lv_lp (hT : Tab C d tr) {n : Nat} (hd : DbOk (C.lv tr n) d) {f id : Nat} (hin : LpIn C d tr f id s) : ∃ F c x, C.fn f = some F ∧ F.body = some c ∧ only id (blocksOf c) = [.loop x] ∧ LoopOk (C.lv tr (n + 1)) F.ntmps (.block id (.loop x)) s := by
  obtain ⟨F, c, x, lf, k, hF, hc, ho, hrun⟩ := hin.run
  refine ⟨F, c, x, hF, hc, ho, ?_⟩
  have hpid : s.pid ≠ 0 ∧ s.pid ≠ 1 := by have := hin.pid; omega
  let P1 : List Value → List Rw → Prop := fun vs ls => ∃ r, phi tr (n + 1) s.pid vs ls = some r
  let preM : Nat → Nat → List Value → List Rw → Prop := fun m p vs ls => if p = 0 then P1 vs ls ∧ fuel tr s.pid vs ls < m else if p = 1 then P1 vs ls else (C.lv tr n).pre p vs ls
  have hTd : ∀ m, DbOk { (C.lv tr n) with pre := preM m } d := fun m => by
    refine ⟨fun p hp => ⟨(hd.sums p hp).pid, sumOk_congr (C := C.lv tr n) rfl rfl (fun vs ls h => ?_) (hd.sums p hp).ok⟩, fun p hp => ⟨(hd.lps p hp).pid, ?_⟩⟩
    · have h2 := (hT.fns p hp).pid
      simpa [preM, show p.2.pid ≠ 0 by omega, show p.2.pid ≠ 1 by omega] using h
    · obtain ⟨F', c', x', h1, h2, h3, h4⟩ := (hd.lps p hp).ok
      refine ⟨F', c', x', h1, h2, h3, loopOk_congr (C := C.lv tr n) rfl rfl rfl (fun vs ls h => ?_) h4⟩
      have h2 := (hT.lps p hp).pid
      simpa [preM, show p.s.pid ≠ 0 by omega, show p.s.pid ≠ 1 by omega] using h
  have key : ∀ m, LoopOk { ((C.lv tr n).db d) with pre := preM m } F.ntmps (.block id (.loop x)) (s.rec' 1) := by
    refine loop_of_run (s := s.rec' 1) (C0 := (C.lv tr n).db d) (preM := preM) (mu := fuel tr s.pid) (pid' := 0) (fun m => ⟨hT.ok.ty, hT.ok.fn, hT.ok.mixed, hT.ok.eqs⟩) (fun m => (hTd m).told) (fun m m' vs ls hh => ?_) (fun m vs ls hh => ?_) lf k F.ntmps f id x (fun m p hp => ?_) hin.len hin.nodup ?_
    · simpa [preM, Sum.rec'] using hh
    · simpa [preM, Sum.rec'] using hh
    · exact (hTd m).told.loops f F c hF hc p (blocksOf_sub c (only_of ho) p hp)
    · intro m q hn hm hp hmu
      obtain ⟨r0, hr0⟩ : P1 (vals q s.nv) (rowsOf q s.nr) := by simpa [preM, Sum.rec'] using hp
      obtain ⟨hle, res, hres⟩ := fuel_le hr0
      rw [show fuel tr s.pid (vals q s.nv) (rowsOf q s.nr) = m from hmu] at hle hres
      cases m with
      | zero => cases hres
      | succ j =>
        have h8 := Ot.go_sm _ hin.sm (show (tr s.pid).go (selfP (phi tr j) s.pid) _ _ = some res from hres)
        have hM : Means ({ ((C.lv tr n).db d) with pre := preM (j + 1) } : Cfg) (selfP (phi tr j) s.pid) s.pid := by
          refine ⟨fun p a r x hx => ?_, fun p q a r v l x hq hf hx => ?_⟩
          · by_cases hp : p = 0
            · subst hp
              have hx : phi tr j s.pid a r = some x := hx
              have := fuel_le hx
              exact ⟨⟨x, phi_le tr (by omega) _ _ _ _ hx⟩, by omega⟩
            · have hx : phi tr j p a r = some x := by simpa [selfP, hp] using hx
              by_cases hp1 : p = 1
              · subst hp1
                cases j with
                | zero => cases hx
                | succ j =>
                  have : (tr 1).go (selfP (phi tr j) 1) a r = some x := hx
                  rw [hT.one] at this
                  cases this
              · show preM _ p a r
                simp only [preM, if_neg hp, if_neg hp1]
                exact ⟨x, phi_le tr (by omega) _ _ _ _ hx⟩
          · obtain ⟨m, hm'⟩ := (fact_at (C := C) hq).1 hf
            exact phi_unique tr (show phi tr j (if p = 0 then s.pid else p) a r = some x from hx) hm'
        have hlen : (vals q s.nv).length = s.nv := by simp [vals]
        have hlen2 : (rowsOf q s.nr).length = s.nr := by simp [rowsOf]
        have hokL := Ot.okL hM (vs0 := vals q s.nv) (ls0 := rowsOf q s.nr) (tr s.pid) (t := []) (u := []) hin.sm (by rw [List.append_nil, List.append_nil]; exact hres) ((fact_at (C := C) h8).2 ⟨j + 1, hres⟩)
        rw [List.append_nil, List.append_nil, hlen, hlen2] at hokL
        have e2 : runL ({ ((C.lv tr n).db d) with pre := preM (j + 1) } : Cfg) lf k F.ntmps f x (s.rec' 1) ((s.rec' 1).rec' 0) id = (tr s.pid).out s.pid s.nv s.nr := hrun (preM (j + 1)) (C.lv tr n).fact
        rw [e2]
        have hn : q.n = s.nv := hn
        have hm : q.m = s.nr := hm
        refine okL_ok _ q _ _ (by rw [hn, hm]; exact hin.bo) (by rw [hlen, hn]) (by rw [hlen2, hm]) ?_ hokL
        rw [← hn, ← hm]
        exact q_has q
  refine loopOk_congr (C := { ((C.lv tr n).db d) with pre := preM 0 }) (s := s.rec' 1) (s' := s) rfl rfl rfl (fun vs ls h => ?_) (key 0)
  show preM 0 1 vs ls
  simp only [preM, if_neg (show ¬ (1 : Nat) = 0 by decide), if_true]
  exact h
/-- All that a table holds is told rightly, at every level. -/
theorem tab_ok (hT : Tab C d tr) : ∀ n, DbOk (C.lv tr n) d
  | 0 => by
    refine ⟨fun p hp => ⟨by have := (hT.fns p hp).pid; omega, ?_⟩, fun p hp => ⟨by have := (hT.lps p hp).pid; omega, ?_⟩⟩
    · intro fr w0 w E0 vs _ _ _ _ _ h
      obtain ⟨r, h⟩ := h
      cases h
    · obtain ⟨F, c, x, lf, k, hF, hc, ho, _⟩ := (hT.lps p hp).run
      refine ⟨F, c, _, hF, hc, ho, ?_⟩
      intro fr w0 w E0 a _ _ _ _ _ h
      obtain ⟨r, h⟩ := h
      cases h
  | n + 1 => by
    have ih := tab_ok hT n
    refine ⟨fun p hp => ⟨by have := (hT.fns p hp).pid; omega, lv_fn hT ih (hT.fns p hp)⟩, fun p hp => ⟨by have := (hT.lps p hp).pid; omega, ?_⟩⟩
    obtain ⟨F, c, x, h1, h2, h3, h4⟩ := lv_lp hT ih (hT.lps p hp)
    exact ⟨F, c, _, h1, h2, h3, h4⟩
/-- A law, out of what its tree comes to. -/
theorem law_fin (hT : Tab C d tr) (w : World) {f : FuncId} {bs : List (Nat × List CK)} {as : List SV} {nv pid id : Nat} (hf : (f, lawS bs as nv pid id) ∈ d.sums) {us vs : List Value} {Ls : List Rw} {args : Array Value} {res : Res} (hv : vs.length = nv) (hl : bs.length = us.length) (hl2 : bs.length = Ls.length)
    (h : ∀ (b : Nat) p u L, bs[b]? = some p → us[b]? = some u → Ls[b]? = some L → Ro w u p.2 L) (hn : as.length = args.size)
    (ha : ∀ (j : Nat) x v, as[j]? = some x → args[j]? = some v → RelS (envOf (zipU bs us) vs Ls) x v) (hp : fin tr pid vs Ls = some res) :
    Calls C.P f args w fun e w' => e = .returned (.bool true) ∧ Below w.heap.size w w' := by
  obtain ⟨n, hn'⟩ := of_fin tr hp
  exact law_of (C := C.lv tr n) w ((tab_ok hT n).sums _ hf).ok hv hl hl2 h hn ha ⟨res, hn'⟩
/-- What is told of a law that answers by a symbol. -/
def lawS2 (bs : List (Nat × List CK)) (as : List SV) (nv pid : Nat) (id : Nat := 0) : Sum := ⟨[], as, roBl bs 0, nv, bs.length, pid, [⟨.ret, [], [.o (.c (.t .b (.s nv)))], (roBl bs 0).map some, 1, 0, id⟩]⟩
theorem law_of2 {C : Cfg} (w : World) {f : FuncId} {bs : List (Nat × List CK)} {as : List SV} {nv pid id : Nat} (hs : SumOk C f (lawS2 bs as nv pid id)) {us vs : List Value} {Ls : List Rw} {args : Array Value} (hv : vs.length = nv) (hl : bs.length = us.length) (hl2 : bs.length = Ls.length)
    (h : ∀ (b : Nat) p u L, bs[b]? = some p → us[b]? = some u → Ls[b]? = some L → Ro w u p.2 L) (hn : as.length = args.size)
    (ha : ∀ (j : Nat) x v, as[j]? = some x → args[j]? = some v → RelS (envOf (zipU bs us) vs Ls) x v) (hp : C.pre pid vs Ls) (hq : ∀ xs ls, C.fact id vs Ls xs ls → xs = [.bool true]) :
    Calls C.P f args w fun e w' => e = .returned (.bool true) ∧ Below w.heap.size w w' := by
  have hvals : vals (envOf (zipU bs us) vs Ls).q vs.length = vs := by
    apply List.ext_getElem
    · simp [vals]
    · intro i h1 h2
      simp [vals, envOf, List.getD_eq_getElem?_getD, List.getElem?_eq_getElem h2]
  have hrows : rowsOf (envOf (zipU bs us) vs Ls).q Ls.length = Ls := by
    apply List.ext_getElem
    · simp [rowsOf]
    · intro i h1 h2
      simp [rowsOf, envOf, List.getD_eq_getElem?_getD, List.getElem?_eq_getElem h2]
  subst hv
  refine (hs (fun g _ => g < w.heap.size) w w (envOf (zipU bs us) vs Ls) args rfl hl2.symm ?_ hn ha ?_).mono ?_
  · have := law_start w bs us vs Ls hl hl2 h
    rw [← hl2] at this
    exact this
  · show C.pre pid (vals _ vs.length) (rowsOf _ bs.length)
    rw [hvals, hl2, hrows]
    exact hp
  · rintro e w' ⟨al, hal, E1, v, r, rfl, hres, hv, hle, hcnt, hfa, hH⟩
    simp [lawS2] at hal
    subst hal
    simp at hres
    subst hres
    have e1 : Te.ev E1.q.S (.s vs.length) = v := hv.2 _ E1.q.has_self
    have hfa : C.fact id (vals _ vs.length) (rowsOf _ bs.length) (newV E1.q vs.length 1) (newR E1.q bs.length 0) := hfa
    rw [hvals, hl2, hrows] at hfa
    have e2 := hq _ _ hfa
    have e3 : E1.q.S.v vs.length = .bool true := by simpa [newV] using e2
    have e4 : v = .bool true := e1.symm.trans e3
    refine ⟨by rw [e4], hH.keep.os, hH.keep.tape, hH.keep.output, hH.keep.size, fun k hk => hH.keep.full k (fun _ => hk) hk⟩
/-- A law, out of what its tree comes to. -/
theorem law_fin2 (hT : Tab C d tr) (w : World) {f : FuncId} {bs : List (Nat × List CK)} {as : List SV} {nv pid : Nat} (hf : (f, lawS2 bs as nv pid (pid * 8)) ∈ d.sums) {us vs : List Value} {Ls : List Rw} {args : Array Value} (hv : vs.length = nv) (hl : bs.length = us.length) (hl2 : bs.length = Ls.length)
    (h : ∀ (b : Nat) p u L, bs[b]? = some p → us[b]? = some u → Ls[b]? = some L → Ro w u p.2 L) (hn : as.length = args.size)
    (ha : ∀ (j : Nat) x v, as[j]? = some x → args[j]? = some v → RelS (envOf (zipU bs us) vs Ls) x v) (hp : fin tr pid vs Ls = some (0, [.bool true], [])) :
    Calls C.P f args w fun e w' => e = .returned (.bool true) ∧ Below w.heap.size w w' := by
  obtain ⟨n, hn'⟩ := of_fin tr hp
  refine law_of2 (C := C.lv tr n) w ((tab_ok hT n).sums _ hf).ok hv hl hl2 h hn ha ⟨_, hn'⟩ ?_
  intro xs ls hx
  obtain ⟨m, hm⟩ := (fact_at (C := C) (show 0 < 8 by omega)).1 hx
  have := phi_unique tr hm hn'
  simp at this
  exact this.1
end
end Go.Proofs.Ytipomcnbjlfekaa.Rs
