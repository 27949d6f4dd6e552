/- A symbolic machine over the model's operations. Part 11: what comes back from a function or a loop that is told of, in the caller's heap. No program in sight. -/
import Derived.Test.YtipomcnbjlfekaaRs10
namespace Go.Proofs.Ytipomcnbjlfekaa.Rs
open Go.RowKit
set_option linter.unusedVariables false
set_option linter.unusedSimpArgs false
def gbOf (s : Sum) (m : Mt) (c : Nat) : Option (Nat × Nat) := bif Nat.blt c s.bl.length then m.b.get c else some (m.H.next + (c - s.bl.length), 0)
def notSy (s : Sum) (c : Nat) : Bool := !(isSyB (s.bl[c]?))
def iC (s : Sum) (m : Mt) : AC → Option AC
  | .v x => some (.v x)
  | .t k te => some (.t k (sT (gvOf s m) (grOf s m) te))
  | .p c o => match gbOf s m c with
    | some (b, p) => bif notSy s c then some (.p b (p + o)) else some (.p b o)
    | none => none
  | .pe c i j => match gbOf s m c with
    | some (b, _) => bif !(isRowsB (s.bl[c]?)) then some (.pe b (sT (gvOf s m) (grOf s m) i) j) else none
    | none => none
  | .sl c i n => match gbOf s m c with
    | some (b, _) => bif !(isRowsB (s.bl[c]?)) then some (.sl b i n) else none
    | none => none
  | .sr c => match gbOf s m c with
    | some (b, _) => bif !(isRowsB (s.bl[c]?)) then some (.sr b) else none
    | none => none
  | .ss c i n => match gbOf s m c with
    | some (b, _) => bif !(isRowsB (s.bl[c]?)) then some (.ss b (sT (gvOf s m) (grOf s m) i) (sT (gvOf s m) (grOf s m) n)) else none
    | none => none
  | .em => some .em
def iL (s : Sum) (m : Mt) : List AC → Option (List AC)
  | [] => some []
  | x :: xs => match iC s m x, iL s m xs with
    | some y, some ys => some (y :: ys)
    | _, _ => none
def iTr (s : Sum) (m : Mt) : Tr (List AC) → Option (Tr (List AC))
  | .e => some .e
  | .n v l r => match (match v with | none => some none | some xs => (iL s m xs).map some), iTr s m l, iTr s m r with
    | some v', some l', some r' => some (.n v' l' r')
    | _, _, _ => none
def iB (s : Sum) (m : Mt) : Bl → Option Bl
  | .rows t z n es => (iTr s m es).map fun es => .rows t z n es
  | .sy true t ks rt => some (.sy true t ks (sR (gvOf s m) (grOf s m) rt))
  | .sy false _ _ _ => none
def iV (s : Sum) (m : Mt) : AV → Option AV
  | .c x => (iC s m x).map .c
  | .ag xs => (iL s m xs).map .ag
def iVs (s : Sum) (m : Mt) : List AV → Option (List AV)
  | [] => some []
  | x :: xs => match iV s m x, iVs s m xs with
    | some y, some ys => some (y :: ys)
    | _, _ => none
def iS (s : Sum) (m : Mt) : SV → Option SV
  | .o x => (iV s m x).map .o
  | .tu xs => (iVs s m xs).map .tu
def iSs (s : Sum) (m : Mt) : List SV → Option (List SV)
  | [] => some []
  | x :: xs => match iS s m x, iSs s m xs with
    | some y, some ys => some (y :: ys)
    | _, _ => none
/-- A block that was handed on, as it is behind. -/
def old1 (s : Sum) (al : Alt) (m : Mt) (bs : Tr Bl) (c : Nat) : Option (Tr Bl) :=
  match s.bl[c]?, m.b.get c, al.bl[c]? with
  | some (.rows _ z _ _), some (b, o), some (some (.rows _ z' 1 es1)) =>
    match bs.get b, es1.get 0 with
    | some (.rows tb zb 1 es), some ps =>
      match es.get 0, iL s m ps with
      | some xs, some ys => bif Nat.beq z z' && Nat.beq ys.length z && Nat.ble (o + z) zb && Nat.beq xs.length zb then some (bs.put b (some (.rows tb zb 1 (es.put 0 (some (xs.take o ++ (ys ++ xs.drop (o + z)))))))) else none
      | _, _ => none
    | _, _ => none
  | some (.sy true _ _ _), some (b, _), some none => some (bs.put b none)
  | some (.sy true _ _ _), some (b, _), some (some (.sy true t ks rt)) => some (bs.put b (some (.sy true t ks (sR (gvOf s m) (grOf s m) rt))))
  | some (.sy false _ _ _), _, _ => some bs
  | _, _, _ => none
def olds (s : Sum) (al : Alt) (m : Mt) : Nat → Nat → Tr Bl → Option (Tr Bl)
  | 0, _, bs => some bs
  | n + 1, c, bs => match old1 s al m bs c with
    | some bs' => olds s al m n (c + 1) bs'
    | none => none
/-- The blocks that it made. -/
def news (s : Sum) (m : Mt) : List (Option Bl) → Nat → Tr Bl → Option (Tr Bl)
  | [], _, bs => some bs
  | none :: xs, i, bs => news s m xs (i + 1) (bs.put i none)
  | some x :: xs, i, bs => match iB s m x with
    | some y => news s m xs (i + 1) (bs.put i (some y))
    | none => none
def after (s : Sum) (al : Alt) (m : Mt) : Option Hp :=
  bif Nat.ble s.bl.length al.bl.length then
    match olds s al m s.bl.length 0 m.H.bs with
    | some bs => match news s m (al.bl.drop s.bl.length) m.H.next bs with
      | some bs' => some ⟨m.H.next + (al.bl.length - s.bl.length), bs', m.H.n + al.mv, m.H.m + al.mr⟩
      | none => none
    | none => none
  else none
def newV (q : Qn) (nv mv : Nat) : List Value := (List.range mv).map fun i => q.S.v (nv + i)
def newR (q : Qn) (nr mr : Nat) : List Rw := (List.range mr).map fun i => q.S.r (nr + i)
theorem newV_length (q : Qn) (nv mv : Nat) : (newV q nv mv).length = mv := by simp [newV]
theorem newR_length (q : Qn) (nr mr : Nat) : (newR q nr mr).length = mr := by simp [newR]
theorem newV_get (q : Qn) (nv mv i : Nat) (h : i < mv) : (newV q nv mv).getD i undef = q.S.v (nv + i) := by simp [newV, h]
theorem newR_get (q : Qn) (nr mr i : Nat) (h : i < mr) : (newR q nr mr).getD i [] = q.S.r (nr + i) := by simp [newR, h]
def e2Of (s : Sum) (al : Alt) (m : Mt) (E E1 : Env) : Env :=
  ⟨fun b => if b < m.H.next then E b else if b < m.H.next + (al.bl.length - s.bl.length) then E1 (b - m.H.next + s.bl.length) else none, E.q.ext (newV E1.q s.nv al.mv) (newR E1.q s.nr al.mr)⟩
section
variable {C : Cfg} {fr : Fr} {E E1 : Env} {w0 : World} {w w' : World} {s : Sum} {al : Alt} {m : Mt} {as : List SV}
/-- What is known when it comes back. -/
structure Back (fr : Fr) (w0 w w' : World) (s : Sum) (al : Alt) (m : Mt) (E E1 : Env) (as : List SV) : Prop where
  fits : Fits s as m
  hH : RelH fr w0 E m.H w
  le : (e0Of s m E).le E1
  nq : E1.q.n = s.nv + al.mv ∧ E1.q.m = s.nr + al.mr
  h1 : RelH (frOf s m E w) w E1 (s.H1 al) w'
theorem Back.has (h : Back fr w0 w w' s al m E E1 as) {S : Sy} (hS : (e2Of s al m E E1).q.has S) : E1.q.has (syOf (gvOf s m) (grOf s m) S) := by
  have hE : E.q.has S := (Qn.le_ext E.q _ _).sub hS
  refine ⟨fun i hi => ?_, fun j hj => ?_⟩
  · by_cases hn : i < s.nv
    · show (gvOf s m i).ev S = _
      rw [e0_v h.fits h.hH hn hE]
      exact (h.le.2.2.2.1 i hn).symm
    · have e : gvOf s m i = .s (i - s.nv + m.H.n) := by
        unfold gvOf
        rw [show Nat.blt i s.nv = false by cases hb : Nat.blt i s.nv with | false => rfl | true => exact absurd (by simpa using hb) hn]
        rfl
      show (gvOf s m i).ev S = _
      rw [e]
      have hlt : i - s.nv < al.mv := by have := h.nq.1; omega
      have := hS.1 (i - s.nv + m.H.n) (by show _ < E.q.n + (newV E1.q s.nv al.mv).length; rw [newV_length, h.hH.cnt.1]; omega)
      simp only [Te.ev]
      rw [this]
      show (if _ < E.q.n then _ else _) = _
      rw [if_neg (by rw [h.hH.cnt.1]; omega), show i - s.nv + m.H.n - E.q.n = i - s.nv by rw [h.hH.cnt.1]; omega, newV_get _ _ _ _ hlt]
      congr 1
      omega
  · by_cases hn : j < s.nr
    · show (grOf s m j).ev S = _
      rw [e0_r h.fits h.hH hn hE]
      exact (h.le.2.2.2.2 j hn).symm
    · have e : grOf s m j = .s (j - s.nr + m.H.m) := by
        unfold grOf
        rw [show Nat.blt j s.nr = false by cases hb : Nat.blt j s.nr with | false => rfl | true => exact absurd (by simpa using hb) hn]
        rfl
      show (grOf s m j).ev S = _
      rw [e]
      have hlt : j - s.nr < al.mr := by have := h.nq.2; omega
      have := hS.2 (j - s.nr + m.H.m) (by show _ < E.q.m + (newR E1.q s.nr al.mr).length; rw [newR_length, h.hH.cnt.2]; omega)
      simp only [RT.ev]
      rw [this]
      show (if _ < E.q.m then _ else _) = _
      rw [if_neg (by rw [h.hH.cnt.2]; omega), show j - s.nr + m.H.m - E.q.m = j - s.nr by rw [h.hH.cnt.2]; omega, newR_get _ _ _ _ hlt]
      congr 1
      omega
theorem Back.leE (h : Back fr w0 w w' s al m E E1 as) : E.le (e2Of s al m E E1) := by
  refine ⟨fun b r e => ?_, Qn.le_ext _ _ _⟩
  show (if b < m.H.next then E b else _) = some r
  by_cases hb : b < m.H.next
  · rw [if_pos hb]; exact e
  · rw [h.hH.fresh b (by omega)] at e; cases e
theorem rg_def (hf : Fits s as m) (hH : RelH fr w0 E m.H w) {c : Nat} (hc : c < s.bl.length) : ∃ r0, rgOf s m E c = some r0 := by
  have hv := hf.blks c hc
  unfold vB at hv
  split at hv
  · rename_i z es0 b o hc' hb
    split at hv
    · rename_i tb zb es ps hbs hps
      obtain ⟨_, r, g, arr, hE, _⟩ := hH.blk _ _ hbs
      exact ⟨⟨r.own, r.lo + o, 1, z, r.t, false, undef⟩, by simp only [rgOf, hc', hb, hE, Option.map_some]⟩
    · cases hv
  · rename_i own t ks j b o hc' hb
    split at hv
    · rename_i own' t' ks' rt rt' hbs hr
      obtain ⟨_, r, L, hE, _⟩ := hH.blk _ _ hbs
      exact ⟨r, by simp only [rgOf, hc', hb, hE]⟩
    · cases hv
  · cases hv
/-- A block of the callee's, by the caller's name. -/
theorem Back.rg (h : Back fr w0 w w' s al m E E1 as) {c b p : Nat} (hg : gbOf s m c = some (b, p)) {r1 : Rg} (he : E1 c = some r1) (hlt : c < al.bl.length) :
    (c < s.bl.length ∧ m.b.get c = some (b, p) ∧ rgOf s m E c = some r1 ∧ ∃ r, (e2Of s al m E E1) b = some r ∧ E b = some r ∧ ((isRowsB (s.bl[c]?) = true ∧ r1.own = r.own ∧ r1.lo = r.lo + p ∧ r1.whole = false) ∨ (isSyB (s.bl[c]?) = true ∧ r1 = r))) ∨
    (s.bl.length ≤ c ∧ p = 0 ∧ b = m.H.next + (c - s.bl.length) ∧ (e2Of s al m E E1) b = some r1) := by
  unfold gbOf at hg
  cases hc : Nat.blt c s.bl.length with
  | true =>
    rw [hc, cond_true] at hg
    have hc : c < s.bl.length := by simpa using hc
    obtain ⟨r0, h0⟩ := rg_def h.fits h.hH hc
    have := h.le.1 c r0 h0
    rw [he] at this; cases this
    obtain ⟨b', o', r, bl, _, hb, hE, hbs, hor⟩ := rgOf_in h.fits h0
    rw [hg] at hb; cases hb
    refine .inl ⟨hc, hg, h0, r, h.leE.1 _ _ hE, hE, ?_⟩
    rcases hor with ⟨t, z, n, es, tb, zb, es', hs, _, _, rfl⟩ | ⟨_, _, _, _, _, _, _, _, hs, _, rfl⟩
    · exact .inl ⟨by rw [hs]; rfl, rfl, rfl, rfl⟩
    · exact .inr ⟨by rw [hs]; rfl, rfl⟩
  | false =>
    rw [hc, cond_false] at hg
    cases hg
    have hc : s.bl.length ≤ c := by
      rcases Nat.lt_or_ge c s.bl.length with hh | hh
      · rw [show Nat.blt c s.bl.length = true by simpa using hh] at hc; cases hc
      · exact hh
    refine .inr ⟨hc, rfl, rfl, ?_⟩
    show (if _ < m.H.next then _ else if _ then E1 _ else none) = _
    rw [if_neg (by omega), if_pos (by omega), ← he]
    show E1.rg _ = E1.rg _
    congr 1
    omega
theorem Back.lt (h : Back fr w0 w w' s al m E E1 as) {c : Nat} {r1 : Rg} (he : E1 c = some r1) : c < al.bl.length := by
  rcases Nat.lt_or_ge c al.bl.length with hh | hh
  · exact hh
  · rw [h.h1.fresh c (by simpa [Sum.H1, hpOf] using hh)] at he; cases he
theorem not_rows {x : Option Bl} (h : isSyB x = true) : isRowsB x = false := by
  obtain ⟨_, _, _, _, rfl⟩ := isSyB_ex h
  rfl
theorem not_sy {x : Option Bl} (h : isRowsB x = true) : isSyB x = false := by
  obtain ⟨_, _, _, _, rfl⟩ := isRowsB_ex h
  rfl
theorem Back.cell (h : Back fr w0 w w' s al m E E1 as) {x y : AC} (hi : iC s m x = some y) {u : Value} (hu : RelC E1 x u) : RelC (e2Of s al m E E1) y u := by
  cases x with
  | v x => cases hi; exact hu
  | t k te =>
    cases hi
    exact ⟨hu.1, fun S hS => by rw [sT_ev]; exact hu.2 _ (h.has hS)⟩
  | p c o =>
    simp only [iC] at hi
    split at hi
    · rename_i b p hg
      cases hn : notSy s c with
      | false =>
        rw [hn, cond_false] at hi
        cases hi
        obtain ⟨r1, g, he, hown, rfl⟩ := hu
        have hs : isSyB (s.bl[c]?) = true := by simpa [notSy] using hn
        rcases h.rg hg he (h.lt he) with ⟨_, _, _, r, h2, _, ⟨k4, _⟩ | ⟨_, rfl⟩⟩ | ⟨_, _, _, h2⟩
        · rw [not_rows hs] at k4; cases k4
        · exact ⟨r1, g, h2, hown, rfl⟩
        · exact ⟨r1, g, h2, hown, rfl⟩
      | true =>
        rw [hn, cond_true] at hi
        cases hi
        obtain ⟨r1, g, he, hown, rfl⟩ := hu
        rcases h.rg hg he (h.lt he) with ⟨_, _, _, r, h2, _, ⟨_, k1, k2, _⟩ | ⟨k1, _⟩⟩ | ⟨_, rfl, _, h2⟩
        · exact ⟨r, g, h2, by rw [← k1]; exact hown, by rw [k2, Nat.add_assoc]⟩
        · unfold notSy at hn; rw [k1] at hn; cases hn
        · exact ⟨r1, g, h2, hown, by rw [Nat.zero_add]⟩
    · cases hi
  | pe c i j =>
    simp only [iC] at hi
    split at hi
    · rename_i b p hg
      cases hn : isRowsB (s.bl[c]?) with
      | true => rw [hn] at hi; cases hi
      | false =>
        rw [hn] at hi
        cases hi
        obtain ⟨r1, g, o, n, cc, k, he, k1, k2, k3, rfl⟩ := hu
        have hev : ∀ S, (e2Of s al m E E1).q.has S → natOf ((sT (gvOf s m) (grOf s m) i).ev S) = k := fun S hS => by rw [sT_ev]; exact k3 _ (h.has hS)
        rcases h.rg hg he (h.lt he) with ⟨_, _, _, r, h2, _, ⟨k4, _⟩ | ⟨_, rfl⟩⟩ | ⟨_, _, _, h2⟩
        · rw [hn] at k4; cases k4
        · exact ⟨r1, g, o, n, cc, k, h2, k1, k2, hev, rfl⟩
        · exact ⟨r1, g, o, n, cc, k, h2, k1, k2, hev, rfl⟩
    · cases hi
  | sl c i n =>
    simp only [iC] at hi
    split at hi
    · rename_i b p hg
      cases hn : isRowsB (s.bl[c]?) with
      | true => rw [hn] at hi; cases hi
      | false =>
        rw [hn] at hi
        cases hi
        obtain ⟨r1, g, he, k1, k2, k3, rfl⟩ := hu
        rcases h.rg hg he (h.lt he) with ⟨_, _, _, r, h2, _, ⟨k4, _⟩ | ⟨_, rfl⟩⟩ | ⟨_, _, _, h2⟩
        · rw [hn] at k4; cases k4
        · exact ⟨r1, g, h2, k1, k2, k3, rfl⟩
        · exact ⟨r1, g, h2, k1, k2, k3, rfl⟩
    · cases hi
  | sr c =>
    simp only [iC] at hi
    split at hi
    · rename_i b p hg
      cases hn : isRowsB (s.bl[c]?) with
      | true => rw [hn] at hi; cases hi
      | false =>
        rw [hn] at hi
        cases hi
        obtain ⟨r1, he, rfl, k1⟩ := hu
        rcases h.rg hg he (h.lt he) with ⟨_, _, _, r, h2, _, ⟨k4, _⟩ | ⟨_, rfl⟩⟩ | ⟨_, _, _, h2⟩
        · rw [hn] at k4; cases k4
        · exact ⟨r1, h2, rfl, k1⟩
        · exact ⟨r1, h2, rfl, k1⟩
    · cases hi
  | ss c i n =>
    simp only [iC] at hi
    split at hi
    · rename_i b p hg
      cases hn : isRowsB (s.bl[c]?) with
      | true => rw [hn] at hi; cases hi
      | false =>
        rw [hn] at hi
        cases hi
        obtain ⟨r1, a, N, cc, k, mm, he, k1, k2, k3, k4⟩ := hu
        have hev : ∀ S, (e2Of s al m E E1).q.has S → (sT (gvOf s m) (grOf s m) i).ev S = .int .i64 (k : Int) ∧ (sT (gvOf s m) (grOf s m) n).ev S = .int .i64 (mm : Int) := fun S hS => by rw [sT_ev, sT_ev]; exact k3 _ (h.has hS)
        rcases h.rg hg he (h.lt he) with ⟨_, _, _, r, h2, _, ⟨k5, _⟩ | ⟨_, rfl⟩⟩ | ⟨_, _, _, h2⟩
        · rw [hn] at k5; cases k5
        · exact ⟨r1, a, N, cc, k, mm, h2, k1, k2, hev, k4⟩
        · exact ⟨r1, a, N, cc, k, mm, h2, k1, k2, hev, k4⟩
    · cases hi
  | em => cases hi; exact hu
theorem Back.cells (h : Back fr w0 w w' s al m E E1 as) : ∀ {xs ys : List AC} {us : List Value}, iL s m xs = some ys → RelL E1 xs us → RelL (e2Of s al m E E1) ys us
  | [], ys, us, hi, hr => by
    cases hi
    have : us = [] := List.eq_nil_of_length_eq_zero (by rw [← hr.1]; rfl)
    subst this
    exact RelL.nil
  | x :: xs, ys, us, hi, hr => by
    simp only [iL] at hi
    split at hi
    · rename_i y ys' hy hys
      cases hi
      cases us with
      | nil => exact absurd hr.1 (by simp)
      | cons u us => exact RelL.cons (h.cell hy (hr.2 0 x u rfl rfl)) (h.cells hys ⟨by simpa using hr.1, fun j z v hz hv => hr.2 (j + 1) z v (by simpa using hz) (by simpa using hv)⟩)
    · cases hi
theorem iTr_get : ∀ {t t' : Tr (List AC)} {i : Nat} {xs : List AC}, iTr s m t = some t' → t.get i = some xs → ∃ ys, iL s m xs = some ys ∧ t'.get i = some ys
  | .e, _, i, xs, h, k => by simp [Tr.get] at k
  | .n v l r, t', i, xs, h, k => by
    simp only [iTr] at h
    split at h
    · rename_i v' l' r' hv hl hr
      cases h
      simp only [Tr.get, beq_eq, cond_decide] at k ⊢
      split at k
      · rename_i h0
        rw [if_pos h0]
        subst k
        simp only [Option.map_eq_some_iff] at hv
        obtain ⟨ys, h1, h2⟩ := hv
        exact ⟨ys, h1, h2.symm⟩
      · rename_i h0
        rw [if_neg h0]
        split at k
        · rename_i h1
          rw [if_pos h1]
          exact iTr_get hl k
        · rename_i h1
          rw [if_neg h1]
          exact iTr_get hr k
    · cases h
theorem Back.val (h : Back fr w0 w w' s al m E E1 as) {x y : AV} (hi : iV s m x = some y) {u : Value} (hu : RelV E1 x u) : RelV (e2Of s al m E E1) y u := by
  cases x with
  | c x =>
    simp only [iV, Option.map_eq_some_iff] at hi
    obtain ⟨z, hz, rfl⟩ := hi
    exact h.cell hz hu
  | ag xs =>
    simp only [iV, Option.map_eq_some_iff] at hi
    obtain ⟨z, hz, rfl⟩ := hi
    obtain ⟨arr, e, hr⟩ := hu
    exact ⟨arr, e, h.cells hz hr⟩
theorem iVs_get : ∀ {xs ys : List AV}, iVs s m xs = some ys → xs.length = ys.length ∧ ∀ (j : Nat) y, ys[j]? = some y → ∃ x, xs[j]? = some x ∧ iV s m x = some y
  | [], _, h => by cases h; exact ⟨rfl, fun j y h => by simp at h⟩
  | x :: xs, ys, h => by
    simp only [iVs] at h
    split at h
    · rename_i y ys' hy hys
      cases h
      obtain ⟨h1, h2⟩ := iVs_get hys
      refine ⟨by simp [h1], fun j z hz => ?_⟩
      cases j with
      | zero => simp at hz; subst hz; exact ⟨x, rfl, hy⟩
      | succ j => simpa using h2 j z (by simpa using hz)
    · cases h
theorem Back.sval (h : Back fr w0 w w' s al m E E1 as) {x y : SV} (hi : iS s m x = some y) {u : Value} (hu : RelS E1 x u) : RelS (e2Of s al m E E1) y u := by
  cases x with
  | o x =>
    simp only [iS, Option.map_eq_some_iff] at hi
    obtain ⟨z, hz, rfl⟩ := hi
    exact h.val hz hu
  | tu xs =>
    simp only [iS, Option.map_eq_some_iff] at hi
    obtain ⟨z, hz, rfl⟩ := hi
    obtain ⟨arr, e, hl, hr⟩ := hu
    obtain ⟨k1, k2⟩ := iVs_get hz
    refine ⟨arr, e, by rw [← k1]; exact hl, fun j y v hy hv => ?_⟩
    obtain ⟨x, hx, hi⟩ := k2 j y hy
    exact h.val hi (hr j x v hx hv)
end
end Go.Proofs.Ytipomcnbjlfekaa.Rs
