/- A symbolic machine over the model's operations. Part 18: trees over lists. No program in sight. -/
import Derived.Test.YtipomcnbjlfekaaRs17
namespace Go.Proofs.Ytipomcnbjlfekaa.Rs
open Go.RowKit
set_option linter.unusedVariables false
set_option linter.unusedSimpArgs false
def bRL (n m : Nat) : RL → Bool
  | .nil => true
  | .cons x xs => bR n m x && bRL n m xs
theorem bRL_ev {q : Qn} {S : Sy} (hS : q.has S) : ∀ (x : RL), bRL q.n q.m x = true → x.ev S = x.ev q.S
  | .nil, _ => rfl
  | .cons x xs, h => by simp only [bRL, Bool.and_eq_true] at h; simp only [RL.ev, bR_ev hS x h.1, bRL_ev hS xs h.2]
/-- All symbols are known. -/
def bO : Nat → Nat → Out → Bool
  | _, _, .done _ _ _ => false
  | n, m, .ask c x y => bT n m c && (bO n m x && bO n m y)
  | n, m, .need c x => bT n m c && bO n m x
  | n, m, .pre _ a r x => bTL n m a && (bRL n m r && bO n m x)
  | n, m, .fresh mv mr _ a r x => bTL n m a && (bRL n m r && bO (n + mv) (m + mr) x)
  | n, m, .both x y => bO n m x && bO n m y
  | n, m, .name te x => bT n m te && bO (n + 1) m x
  | n, m, .prove _ a r v l => bTL n m a && (bRL n m r && (bTL n m v && bRL n m l))
  | _, _, .fail => true
def syL (vs : List Value) (ls : List Rw) : Sy := ⟨fun i => vs.getD i undef, fun j => ls.getD j []⟩
def Out.OkL (C : Cfg) : List Value → List Rw → Out → Prop
  | _, _, .done _ _ _ => False
  | vs, ls, .ask c x y => (c.ev (syL vs ls) = .bool true → x.OkL C vs ls) ∧ (c.ev (syL vs ls) = .bool false → y.OkL C vs ls)
  | vs, ls, .need c x => c.ev (syL vs ls) = .bool true ∧ x.OkL C vs ls
  | vs, ls, .pre id a r x => C.pre id (a.ev (syL vs ls)) (r.ev (syL vs ls)) ∧ x.OkL C vs ls
  | vs, ls, .fresh mv mr id a r x => ∀ vs' ls', vs'.length = mv → ls'.length = mr → C.fact id (a.ev (syL vs ls)) (r.ev (syL vs ls)) vs' ls' → x.OkL C (vs ++ vs') (ls ++ ls')
  | vs, ls, .both x y => x.OkL C vs ls ∧ y.OkL C vs ls
  | vs, ls, .name te x => x.OkL C (vs ++ [te.ev (syL vs ls)]) ls
  | vs, ls, .prove id a r v l => C.fact id (a.ev (syL vs ls)) (r.ev (syL vs ls)) (v.ev (syL vs ls)) (l.ev (syL vs ls))
  | _, _, .fail => False
theorem has_app {q : Qn} {vs vs' : List Value} {ls ls' : List Rw} (hn : q.n = vs.length) (hm : q.m = ls.length) (hq : q.has (syL vs ls)) : (q.ext vs' ls').has (syL (vs ++ vs') (ls ++ ls')) := by
  refine ⟨fun i hi => ?_, fun i hi => ?_⟩
  · simp only [syL, Qn.ext]
    by_cases hlt : i < q.n
    · rw [if_pos hlt, ← hq.1 i hlt]
      simp only [syL, List.getD_eq_getElem?_getD]
      rw [List.getElem?_append_left (by omega)]
    · rw [if_neg hlt, List.getD_eq_getElem?_getD, List.getD_eq_getElem?_getD, List.getElem?_append_right (by omega), hn]
  · simp only [syL, Qn.ext]
    by_cases hlt : i < q.m
    · rw [if_pos hlt, ← hq.2 i hlt]
      simp only [syL, List.getD_eq_getElem?_getD]
      rw [List.getElem?_append_left (by omega)]
    · rw [if_neg hlt, List.getD_eq_getElem?_getD, List.getD_eq_getElem?_getD, List.getElem?_append_right (by omega), hm]
theorem okL_ok {C : Cfg} {K : Qn → Ex → Tm → Hp → Prop} : ∀ (o : Out) (q : Qn) (vs : List Value) (ls : List Rw), bO q.n q.m o = true → q.n = vs.length → q.m = ls.length → q.has (syL vs ls) → o.OkL C vs ls → o.Ok C K q
  | .done _ _ _, _, _, _, h, _, _, _, _ => by cases h
  | .ask c x y, q, vs, ls, h, hn, hm, hq, k => by
    simp only [bO, Bool.and_eq_true] at h
    have e := bT_ev hq c h.1
    exact ⟨fun hc => okL_ok x q vs ls h.2.1 hn hm hq (k.1 (e.trans hc)), fun hc => okL_ok y q vs ls h.2.2 hn hm hq (k.2 (e.trans hc))⟩
  | .need c x, q, vs, ls, h, hn, hm, hq, k => by
    simp only [bO, Bool.and_eq_true] at h
    have e := bT_ev hq c h.1
    exact ⟨e.symm.trans k.1, okL_ok x q vs ls h.2 hn hm hq k.2⟩
  | .pre id a r x, q, vs, ls, h, hn, hm, hq, k => by
    simp only [bO, Bool.and_eq_true] at h
    refine ⟨?_, okL_ok x q vs ls h.2.2 hn hm hq k.2⟩
    rw [← bTL_ev hq a h.1, ← bRL_ev hq r h.2.1]
    exact k.1
  | .fresh mv mr id a r x, q, vs, ls, h, hn, hm, hq, k => by
    simp only [bO, Bool.and_eq_true] at h
    intro vs' ls' h1 h2 hf
    rw [← bTL_ev hq a h.1, ← bRL_ev hq r h.2.1] at hf
    refine okL_ok x (q.ext vs' ls') (vs ++ vs') (ls ++ ls') (by rw [show (q.ext vs' ls').n = q.n + vs'.length from rfl, show (q.ext vs' ls').m = q.m + ls'.length from rfl, h1, h2]; exact h.2.2) (by simp [Qn.ext, hn]) (by simp [Qn.ext, hm]) ⟨fun i hi => ?_, fun i hi => ?_⟩ (k vs' ls' h1 h2 hf)
    · simp only [syL, Qn.ext]
      by_cases hlt : i < q.n
      · rw [if_pos hlt, ← hq.1 i hlt]
        simp only [syL, List.getD_eq_getElem?_getD]
        rw [List.getElem?_append_left (by omega)]
      · rw [if_neg hlt, List.getD_eq_getElem?_getD, List.getD_eq_getElem?_getD, List.getElem?_append_right (by omega), hn]
    · simp only [syL, Qn.ext]
      by_cases hlt : i < q.m
      · rw [if_pos hlt, ← hq.2 i hlt]
        simp only [syL, List.getD_eq_getElem?_getD]
        rw [List.getElem?_append_left (by omega)]
      · rw [if_neg hlt, List.getD_eq_getElem?_getD, List.getD_eq_getElem?_getD, List.getElem?_append_right (by omega), hm]
  | .name te x, q, vs, ls, h, hn, hm, hq, k => by
    simp only [bO, Bool.and_eq_true] at h
    have e := bT_ev hq te h.1
    have k : x.OkL C (vs ++ [te.ev (syL vs ls)]) ls := k
    rw [e] at k
    have ha := has_app (vs' := [te.ev q.S]) (ls' := []) hn hm hq
    rw [List.append_nil] at ha
    exact okL_ok x (q.ext [te.ev q.S] []) (vs ++ [te.ev q.S]) ls (by show bO (q.n + 1) (q.m + 0) x = true; exact h.2) (by simp [Qn.ext, hn]) (by simp [Qn.ext, hm]) ha k
  | .both x y, q, vs, ls, h, hn, hm, hq, k => by
    simp only [bO, Bool.and_eq_true] at h
    exact ⟨okL_ok x q vs ls h.1 hn hm hq k.1, okL_ok y q vs ls h.2 hn hm hq k.2⟩
  | .prove id a r v l, q, vs, ls, h, hn, hm, hq, k => by
    simp only [bO, Bool.and_eq_true] at h
    show C.fact id _ _ _ _
    rw [← bTL_ev hq a h.1, ← bRL_ev hq r h.2.1, ← bTL_ev hq v h.2.2.1, ← bRL_ev hq l h.2.2.2]
    exact k
  | .fail, _, _, _, _, _, _, _, k => k
theorem q_has (q : Qn) : q.has (syL (vals q q.n) (rowsOf q q.m)) :=
  ⟨fun i hi => by simp [syL, vals, List.getD_eq_getElem?_getD, hi], fun i hi => by simp [syL, rowsOf, List.getD_eq_getElem?_getD, hi]⟩
theorem tree_ok {C C' : Cfg} {K : Qn → Ex → Tm → Hp → Prop} {nv nr pid : Nat} {o : Out} (hb : bO nv nr o = true) (h : ∀ vs ls, vs.length = nv → ls.length = nr → C.pre pid vs ls → o.OkL C' vs ls) (q : Qn) (hn : q.n = nv) (hm : q.m = nr) (hp : C.pre pid (vals q nv) (rowsOf q nr)) : o.Ok C' K q := by
  subst hn hm
  exact okL_ok o q _ _ hb (by simp [vals]) (by simp [rowsOf]) (q_has q) (h _ _ (by simp [vals]) (by simp [rowsOf]) hp)
section
variable {C : Cfg} {d : Db} {s : Sum}
/-- A loop, told out of the tree of one round. -/
theorem loop_tree (hC : C.Ok) (hd : DbOk C d) (lf n : Nat) {f id : Nat} {F : Func} {c x : Code} {o : Out} (hF : C.fn f = some F) (hc : F.body = some c) (ho : only id (blocksOf c) = [.loop x]) (hin : noL d f (blocksOf x) = true)
    (hsl : ∀ al ∈ s.outs, al.res.length = al.sl.length) (hnd : s.sl.Nodup) (hp : s.pid ≠ 0) (mu : List Value → List Rw → Nat)
    (he : ∀ r, roundT ((C.rc r).db d) lf n F.ntmps f x s id = o) (hb : bO s.nv s.nr o = true)
    (h : ∀ vs ls, vs.length = s.nv → ls.length = s.nr → C.pre s.pid vs ls → o.OkL ((C.rc (fun vs' ls' => C.pre s.pid vs' ls' ∧ mu vs' ls' < mu vs ls)).db d) vs ls) : LpOk C ⟨f, id, s⟩ := by
  refine loop_told hC hd lf n hF hc ho hin hsl hnd hp mu fun q hn hm hpre => ?_
  rw [he]
  generalize hv : vals q s.nv = vs at hpre ⊢
  generalize hl : rowsOf q s.nr = ls at hpre ⊢
  refine okL_ok o q vs ls (by rw [hn, hm]; exact hb) (by rw [← hv]; simp [vals, hn]) (by rw [← hl]; simp [rowsOf, hm]) ?_ (h vs ls (by rw [← hv]; simp [vals]) (by rw [← hl]; simp [rowsOf]) hpre)
  rw [← hv, ← hl, ← hn, ← hm]
  exact q_has q
/-- A function, told out of its tree. -/
theorem fn_tree (hC : C.Ok) (hd : DbOk C d) (lf n : Nat) {f : FuncId} {F : Func} {o : Out} (hF : C.fn f = some F) (he : runF (C.db d) lf n f F s = o) (hb : bO s.nv s.nr o = true)
    (h : ∀ vs ls, vs.length = s.nv → ls.length = s.nr → C.pre s.pid vs ls → o.OkL (C.db d) vs ls) : SumOk C f s :=
  fn_told hC hd lf n hF fun q hn hm hp => by
    rw [he]
    exact tree_ok (C := C) hb h q hn hm hp
end
end Go.Proofs.Ytipomcnbjlfekaa.Rs
