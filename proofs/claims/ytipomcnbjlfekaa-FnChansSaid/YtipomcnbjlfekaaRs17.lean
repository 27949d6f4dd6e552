/- A symbolic machine over the model's operations. Part 17: what is told so far; laws out of runs. No program in sight. -/
import Derived.Test.YtipomcnbjlfekaaRs16
namespace Go.Proofs.Ytipomcnbjlfekaa.Rs
open Go.RowKit
set_option linter.unusedVariables false
set_option linter.unusedSimpArgs false
/-! ### What is told so far -/
structure Lp where
  f : Nat
  id : Nat
  s : Sum
def findS (f : Nat) : List (Nat × Sum) → List Sum
  | [] => []
  | p :: l => bif Nat.beq p.1 f then p.2 :: findS f l else findS f l
def findL (f id : Nat) : List Lp → List Sum
  | [] => []
  | p :: l => bif Nat.beq p.f f && Nat.beq p.id id then p.s :: findL f id l else findL f id l
theorem findS_mem {f : Nat} {s : Sum} : ∀ {l : List (Nat × Sum)}, s ∈ findS f l → (f, s) ∈ l
  | [], h => by cases h
  | (g, x) :: l, h => by
    simp only [findS] at h
    cases hb : Nat.beq g f with
    | false => rw [hb] at h; exact List.mem_cons_of_mem _ (findS_mem h)
    | true =>
      rw [hb] at h
      obtain rfl := Nat.eq_of_beq_eq_true hb
      rcases List.mem_cons.1 h with rfl | h
      · exact List.mem_cons_self
      · exact List.mem_cons_of_mem _ (findS_mem h)
theorem findL_mem {f id : Nat} {s : Sum} : ∀ {l : List Lp}, s ∈ findL f id l → (⟨f, id, s⟩ : Lp) ∈ l
  | [], h => by cases h
  | ⟨g, i, x⟩ :: l, h => by
    simp only [findL] at h
    cases hb : (Nat.beq g f && Nat.beq i id) with
    | false => rw [hb] at h; exact List.mem_cons_of_mem _ (findL_mem h)
    | true =>
      rw [hb] at h
      simp only [Bool.and_eq_true] at hb
      obtain rfl := Nat.eq_of_beq_eq_true hb.1
      obtain rfl := Nat.eq_of_beq_eq_true hb.2
      rcases List.mem_cons.1 h with rfl | h
      · exact List.mem_cons_self
      · exact List.mem_cons_of_mem _ (findL_mem h)
structure Db where
  sums : List (Nat × Sum)
  lps : List Lp
def Cfg.db (C : Cfg) (d : Db) : Cfg := { C with sums := fun f => findS f d.sums, lps := fun f id => findL f id d.lps }
/-- Another premise under the name 0: that of the next round. -/
def Cfg.rc (C : Cfg) (r : List Value → List Rw → Prop) : Cfg := { C with pre := fun p => bif Nat.beq p 0 then r else C.pre p }
/-- The code of the blocks of this name. -/
def only (id : Nat) : List (Nat × Code) → List Code
  | [] => []
  | p :: l => bif Nat.beq p.1 id then p.2 :: only id l else only id l
theorem only_mem {id : Nat} {x : Code} : ∀ {l : List (Nat × Code)}, (id, x) ∈ l → x ∈ only id l
  | p :: l, h => by
    simp only [only]
    rcases List.mem_cons.1 h with rfl | h
    · rw [show Nat.beq id id = true from Nat.beq_refl _]
      exact List.mem_cons_self
    · cases hb : Nat.beq p.1 id with
      | true => exact List.mem_cons_of_mem _ (only_mem h)
      | false => exact only_mem h
structure LpOk (C : Cfg) (p : Lp) : Prop where
  pid : p.s.pid ≠ 0
  ok : ∃ F c x, C.fn p.f = some F ∧ F.body = some c ∧ only p.id (blocksOf c) = [x] ∧ LoopOk C F.ntmps (.block p.id x) p.s
structure FnOk (C : Cfg) (p : Nat × Sum) : Prop where
  pid : p.2.pid ≠ 0
  ok : SumOk C p.1 p.2
structure DbOk (C : Cfg) (d : Db) : Prop where
  sums : ∀ p ∈ d.sums, FnOk C p
  lps : ∀ p ∈ d.lps, LpOk C p
theorem DbOk.nil (C : Cfg) : DbOk C ⟨[], []⟩ := ⟨(fun p h => by cases h), (fun p h => by cases h)⟩
theorem DbOk.addS {C : Cfg} {d : Db} (h : DbOk C d) {f : Nat} {s : Sum} (hp : s.pid ≠ 0) (k : SumOk C f s) : DbOk C ⟨(f, s) :: d.sums, d.lps⟩ := ⟨(fun p hp' => by
  rcases List.mem_cons.1 hp' with rfl | hp'
  · exact ⟨hp, k⟩
  · exact h.sums p hp'), h.lps⟩
theorem DbOk.addL {C : Cfg} {d : Db} (h : DbOk C d) {p : Lp} (k : LpOk C p) : DbOk C ⟨d.sums, p :: d.lps⟩ := ⟨h.sums, fun p' hp' => by
  rcases List.mem_cons.1 hp' with rfl | hp'
  · exact k
  · exact h.lps p' hp'⟩
section
variable {C : Cfg} {d : Db} {fr : Fr} {E E0 : Env} {w0 w w' : World} {s : Sum}
theorem Cfg.Ok.db (h : C.Ok) (d : Db) : (C.db d).Ok := ⟨h.ty, h.fn, h.mixed, h.eqs⟩
theorem Cfg.Ok.rc (h : C.Ok) (r : List Value → List Rw → Prop) : (C.rc r).Ok := ⟨h.ty, h.fn, h.mixed, h.eqs⟩
theorem rc_pre {r : List Value → List Rw → Prop} {p : Nat} (hp : p ≠ 0) : (C.rc r).pre p = C.pre p := by
  show (bif Nat.beq p 0 then r else C.pre p) = _
  rw [beq_eq, decide_eq_false hp]
  rfl
theorem sumOk_rc {r : List Value → List Rw → Prop} {f : Nat} (hp : s.pid ≠ 0) (h : SumOk C f s) : SumOk (C.rc r) f s := fun fr w0 w E0 vs a1 a2 a3 a4 a5 a6 => h fr w0 w E0 vs a1 a2 a3 a4 a5 (by rw [rc_pre hp] at a6; exact a6)
theorem loopOk_rc {r : List Value → List Rw → Prop} {N : Nat} {c : Code} (hp : s.pid ≠ 0) (h : LoopOk C N c s) : LoopOk (C.rc r) N c s := fun fr w0 w E0 a a1 a2 a3 a4 a5 a6 a7 a8 => h fr w0 w E0 a a1 a2 a3 a4 a5 (by rw [rc_pre hp] at a6; exact a6) a7 a8
theorem DbOk.rc (h : DbOk C d) (r : List Value → List Rw → Prop) : DbOk (C.rc r) d :=
  ⟨fun p hp => ⟨(h.sums p hp).pid, sumOk_rc (h.sums p hp).pid (h.sums p hp).ok⟩, fun p hp => ⟨(h.lps p hp).pid, by
    obtain ⟨F, c, x, h1, h2, h3, h4⟩ := (h.lps p hp).ok
    exact ⟨F, c, x, h1, h2, h3, loopOk_rc (h.lps p hp).pid h4⟩⟩⟩
theorem DbOk.told (h : DbOk C d) : (C.db d).Told where
  sums f s hs := (h.sums (f, s) (findS_mem hs)).ok
  loops f F c hF hc p hp s hs := by
    obtain ⟨F', c', x, h1, h2, h3, h4⟩ := (h.lps ⟨f, p.1, s⟩ (findL_mem hs)).ok
    have hF' : C.fn f = some F := hF
    rw [hF'] at h1
    cases h1
    rw [hc] at h2
    cases h2
    have hm := only_mem (x := p.2) (show (p.1, p.2) ∈ blocksOf c from hp)
    rw [h3] at hm
    simp at hm
    rw [hm]
    exact h4
def noL (d : Db) (f : Nat) : List (Nat × Code) → Bool
  | [] => true
  | p :: l => (match findL f p.1 d.lps with | [] => true | _ => false) && noL d f l
theorem noL_get {f : Nat} : ∀ {l : List (Nat × Code)}, noL d f l = true → ∀ p ∈ l, findL f p.1 d.lps = []
  | p :: l, h, q, hq => by
    simp only [noL, Bool.and_eq_true] at h
    rcases List.mem_cons.1 hq with rfl | hq
    · have := h.1
      split at this
      · rename_i e; exact e
      · cases this
    · exact noL_get h.2 q hq
/-- The run of a round that shows what is told of a loop. -/
noncomputable def roundT (C : Cfg) (lf n N f : Nat) (x : Code) (s : Sum) (id : Nat) : Out := runL C lf n N f x s (s.rec' 0) id
/-- A loop, told out of a run of one round. -/
theorem loop_told (hC : C.Ok) (hd : DbOk C d) (lf n : Nat) {f id : Nat} {F : Func} {c x : Code} (hF : C.fn f = some F) (hc : F.body = some c) (ho : only id (blocksOf c) = [.loop x]) (hin : noL d f (blocksOf x) = true)
    (hsl : ∀ al ∈ s.outs, al.res.length = al.sl.length) (hnd : s.sl.Nodup) (hp : s.pid ≠ 0) (mu : List Value → List Rw → Nat)
    (h : ∀ q : Qn, q.n = s.nv → q.m = s.nr → C.pre s.pid (vals q s.nv) (rowsOf q s.nr) →
      (roundT ((C.rc (fun vs ls => C.pre s.pid vs ls ∧ mu vs ls < mu (vals q s.nv) (rowsOf q s.nr))).db d) lf n F.ntmps f x s id).Ok ((C.rc (fun vs ls => C.pre s.pid vs ls ∧ mu vs ls < mu (vals q s.nv) (rowsOf q s.nr))).db d) (fun _ _ _ _ => True) q) : LpOk C ⟨f, id, s⟩ := by
  refine ⟨hp, F, c, _, hF, hc, ho, ?_⟩
  have key : ∀ m, LoopOk ((C.rc (fun vs ls => C.pre s.pid vs ls ∧ mu vs ls < m)).db d) F.ntmps (.block id (.loop x)) s := by
    refine loop_of_run (C0 := C.db d) (preM := fun m => (C.rc (fun vs ls => C.pre s.pid vs ls ∧ mu vs ls < m)).pre) (mu := mu) (pid' := 0)
      (fun m => (hC.rc _).db d) (fun m => (hd.rc _).told) (fun m m' vs ls hh => ?_) (fun m vs ls hh => ?_) lf n F.ntmps f id x (fun m p hp s hs => ?_) hsl hnd ?_
    · rw [rc_pre hp] at hh ⊢; exact hh
    · rw [rc_pre hp]; exact hh
    · have := noL_get hin p hp
      rw [show Cfg.lps _ f p.1 = findL f p.1 d.lps from rfl, this] at hs
      cases hs
    · intro m q h1 h2 h3 h4
      subst h4
      exact h q h1 h2 (by rw [rc_pre hp] at h3; exact h3)
  intro fr w0 w E0 a a1 a2 a3 a4 a5 a6 a7 a8
  exact key 0 fr w0 w E0 a a1 a2 a3 a4 a5 (by
    show (C.rc fun vs ls => C.pre s.pid vs ls ∧ mu vs ls < 0).pre s.pid _ _
    rw [rc_pre hp]; exact a6) a7 a8
/-- A function, told out of a run. -/
theorem fn_told (hC : C.Ok) (hd : DbOk C d) (lf n : Nat) {f : FuncId} {F : Func} (hF : C.fn f = some F)
    (h : ∀ q : Qn, q.n = s.nv → q.m = s.nr → C.pre s.pid (vals q s.nv) (rowsOf q s.nr) → (runF (C.db d) lf n f F s).Ok (C.db d) (fun _ _ _ _ => True) q) : SumOk C f s :=
  fun fr w0 w E0 vs a1 a2 a3 a4 a5 a6 => sum_of_run (hC.db d) hd.told lf n hF h fr w0 w E0 vs a1 a2 a3 a4 a5 a6
/-! ### A law -/
/-- A row that is only read, cell by cell. -/
def Ro (w : World) (u : Value) (ks : List CK) (L : Rw) : Prop :=
  RowOk ks L ∧ ∃ A c, u = .slice A L.length c ∧ L.length ≤ c ∧ L.length ≤ maxLen ∧ (0 < L.length → ∃ ad, A = some ad ∧ ∀ j e, L[j]? = some e → ∀ i v, e[i]? = some v → w.cell? (ad.add (j * ks.length + i)) = some v)
theorem cells_flat {l : List Value} {z : Nat} : ∀ (L : Rw) (o : Nat), (∀ e ∈ L, e.length = z) → (∀ j e, L[j]? = some e → ∀ i u, e[i]? = some u → l[o + (j * z + i)]? = some u) → (l.drop o).take (L.length * z) = L.flatten
  | [], o, _, _ => by simp
  | e :: L, o, hz, h => by
    have he : e.length = z := hz e (by simp)
    have ih := cells_flat L (o + z) (fun e' he' => hz e' (by simp [he'])) (fun j e' hj i u hu => by
      have := h (j + 1) e' (by simpa using hj) i u hu
      rw [← this]
      congr 1
      rw [Nat.add_mul]
      omega)
    have h0 : (l.drop o).take z = e := by
      apply List.ext_getElem?
      intro i
      rw [List.getElem?_take, List.getElem?_drop]
      by_cases hi : i < z
      · rw [if_pos hi]
        have hie : e[i]? = some e[i] := List.getElem?_eq_getElem (by omega)
        rw [hie, ← h 0 e rfl i _ hie]
        congr 1
        omega
      · rw [if_neg hi, List.getElem?_eq_none (by omega)]
    have hs : (l.drop o).take ((L.length + 1) * z) = (l.drop o).take z ++ (l.drop (o + z)).take (L.length * z) := by
      rw [show (L.length + 1) * z = z + L.length * z from by rw [Nat.add_mul]; omega, List.take_add, List.drop_drop]
    rw [List.length_cons, hs, h0, ih, List.flatten_cons]
theorem ro_lies {u : Value} {ks : List CK} {L : Rw} (h : Ro w u ks L) (t : Nat) (r : Rg) (hr : r = ⟨none, 0, 0, ks.length, t, false, u⟩) : RowOk ks L ∧ Lies (fun g _ => g < w.heap.size) w r t L false := by
  subst hr
  obtain ⟨h1, A, c, rfl, h2, h3, h4⟩ := h
  refine ⟨h1, rfl, A, c, rfl, h2, h3, fun hpos => ?_⟩
  have hz : 0 < ks.length := Nat.pos_of_mul_pos_left hpos
  have hL : 0 < L.length := Nat.pos_of_mul_pos_right hpos
  obtain ⟨ad, rfl, hc⟩ := h4 hL
  have hlen : ∀ e ∈ L, e.length = ks.length := fun e he => (h1 e he).1
  have he0 : L[0]? = some L[0] := List.getElem?_eq_getElem hL
  have hl0 : L[0].length = ks.length := hlen _ (List.getElem_mem _)
  obtain ⟨arr, t', fz, hh, hsp⟩ : ∃ arr t' fz, w.heap[ad.block]? = some (.cells arr t' fz) ∧ ad.spot = none := by
    have := hc 0 L[0] he0 0 _ (List.getElem?_eq_getElem (by omega))
    rw [show 0 * ks.length + 0 = 0 from by omega, show ad.add 0 = ad from rfl] at this
    unfold World.cell? at this
    split at this
    · rename_i arr t' fz hh
      cases hsp : ad.spot with
      | some x => rw [hsp] at this; cases this
      | none => exact ⟨arr, t', fz, hh, rfl⟩
    · cases this
  have hadd : ∀ n, ad.add n = ⟨ad.block, ad.off + n, none⟩ := by
    intro n
    unfold Addr.add
    split
    · rename_i h0; subst h0; cases ad; simp at hsp; subst hsp; rfl
    · rfl
  have hcell : ∀ j e, L[j]? = some e → ∀ i v, e[i]? = some v → ∃ arr t' fz, w.heap[ad.block]? = some (.cells arr t' fz) ∧ arr[ad.off + (j * ks.length + i)]? = some v := by
    intro j e hj i v hv
    have := hc j e hj i v hv
    rw [hadd] at this
    unfold World.cell? at this
    split at this
    · rename_i arr t' fz hh
      exact ⟨arr, t', fz, hh, by simpa using this⟩
    · cases this
  have hall : ∀ j e, L[j]? = some e → ∀ i v, e[i]? = some v → arr[ad.off + (j * ks.length + i)]? = some v := by
    intro j e hj i v hv
    obtain ⟨arr2, t2, f2, e2, e3⟩ := hcell j e hj i v hv
    rw [hh] at e2
    cases e2
    exact e3
  refine ⟨ad.block, ad.off, arr, t', fz, ?_, hh, ?_, ?_, ?_⟩
  · cases ad; simp at hsp; subst hsp; rfl
  · have hlast : L[L.length - 1]? = some (L[L.length - 1]'(by omega)) := List.getElem?_eq_getElem (by omega)
    have hll : (L[L.length - 1]'(by omega)).length = ks.length := hlen _ (List.getElem_mem _)
    have := hall _ _ hlast (ks.length - 1) _ (List.getElem?_eq_getElem (by omega))
    obtain ⟨hb, _⟩ := Array.getElem?_eq_some_iff.1 this
    have : L.length * ks.length = (L.length - 1) * ks.length + ks.length := by
      conv => lhs; rw [show L.length = (L.length - 1) + 1 from by omega, Nat.add_mul, Nat.one_mul]
    show ad.off + L.length * ks.length ≤ arr.size
    omega
  · exact cells_flat L ad.off hlen (fun j e hj i v hv => by simpa using hall j e hj i v hv)
  · intro j _ _
    exact (Array.getElem?_eq_some_iff.1 (show w.heap[ad.block]? = _ from hh)).1
/-- How a law begins: nothing is owned. -/
def envOf (us : List (Nat × Nat × Value)) (vs : List Value) (Ls : List Rw) : Env :=
  ⟨fun b => (us[b]?).map fun p => ⟨none, 0, 0, p.1, p.2.1, false, p.2.2⟩, ⟨vs.length, Ls.length, ⟨fun i => vs.getD i undef, fun j => Ls.getD j []⟩⟩⟩
def zipU (bs : List (Nat × List CK)) (us : List Value) : List (Nat × Nat × Value) := (bs.zip us).map fun p => (p.1.2.length, p.1.1, p.2)
def roBl : List (Nat × List CK) → Nat → List Bl
  | [], _ => []
  | p :: l, j => .sy false p.1 p.2 (.s j) :: roBl l (j + 1)
theorem roBl_get : ∀ (l : List (Nat × List CK)) (j k : Nat), (roBl l j)[k]? = (l[k]?).map fun p => .sy false p.1 p.2 (.s (j + k))
  | [], _, _ => rfl
  | p :: l, j, 0 => rfl
  | p :: l, j, k + 1 => by
    simp only [roBl, List.getElem?_cons_succ, roBl_get l (j + 1) k]
    rw [show j + 1 + k = j + (k + 1) from by omega]
theorem roBl_length : ∀ (l : List (Nat × List CK)) (j : Nat), (roBl l j).length = l.length
  | [], _ => rfl
  | p :: l, j => by simp [roBl, roBl_length l (j + 1)]
theorem law_start (w : World) (bs : List (Nat × List CK)) (us : List Value) (vs : List Value) (Ls : List Rw) (hl : bs.length = us.length) (hl2 : bs.length = Ls.length) (h : ∀ (b : Nat) p u L, bs[b]? = some p → us[b]? = some u → Ls[b]? = some L → Ro w u p.2 L) :
    RelH (fun g _ => g < w.heap.size) w (envOf (zipU bs us) vs Ls) (hpOf vs.length Ls.length ((roBl bs 0).map some)) w := by
  have hget : ∀ b bl, (hpOf vs.length Ls.length ((roBl bs 0).map some)).bs.get b = some bl → ∃ p u L, bs[b]? = some p ∧ us[b]? = some u ∧ Ls[b]? = some L ∧ bl = .sy false p.1 p.2 (.s b) ∧ (envOf (zipU bs us) vs Ls) b = some ⟨none, 0, 0, p.2.length, p.1, false, u⟩ := by
    intro b bl hb
    rw [hpOf_get, List.getElem?_map, roBl_get] at hb
    cases hp : bs[b]? with
    | none => rw [hp] at hb; cases hb
    | some p =>
      rw [hp] at hb
      simp at hb
      have hlt := (List.getElem?_eq_some_iff.1 hp).1
      have hu : us[b]? = some (us[b]'(by omega)) := List.getElem?_eq_getElem (by omega)
      have hL : Ls[b]? = some (Ls[b]'(by omega)) := List.getElem?_eq_getElem (by omega)
      refine ⟨p, _, _, rfl, hu, hL, hb.symm, ?_⟩
      show ((zipU bs us)[b]?).map _ = _
      simp [zipU, List.getElem?_zip_eq_some, List.getElem?_map, hp, hu, List.zip, List.getElem?_zipWith]
  refine ⟨fun b bl hb => ?_, fun b hb => ?_, fun b b' bl bl' r r' g o h1 h2 h3 h4 h5 h6 => ?_, fun b bl r g o h1 h2 h3 => ?_, fun g o h => h, Keeps.refl _ _, ⟨rfl, rfl⟩⟩
  · obtain ⟨p, u, L, hp, hu, hL, rfl, hE⟩ := hget b bl hb
    refine ⟨?_, ?_⟩
    · show b < ((roBl bs 0).map some).length
      rw [List.length_map, roBl_length]
      exact (List.getElem?_eq_some_iff.1 hp).1
    · obtain ⟨k1, k2⟩ := ro_lies (h b p u L hp hu hL) p.1 _ rfl
      refine ⟨_, L, hE, rfl, fun S hS => ?_, k1, k2⟩
      have hb : b < Ls.length := (List.getElem?_eq_some_iff.1 hL).1
      show S.r b = L
      rw [hS.2 b hb]
      show Ls.getD b [] = L
      rw [List.getD_eq_getElem?_getD, hL]
      rfl
  · have : ((roBl bs 0).map some).length ≤ b := hb
    rw [List.length_map, roBl_length] at this
    show ((zipU bs us)[b]?).map _ = none
    rw [List.getElem?_eq_none (by simp [zipU]; omega)]
    rfl
  · obtain ⟨p, u, L, _, _, _, _, hE⟩ := hget b bl h1
    rw [hE] at h3
    cases h3
    cases h5.1
  · obtain ⟨p, u, L, _, _, _, _, hE⟩ := hget b bl h1
    rw [hE] at h2
    cases h2
    cases h3.1
/-- What is told of a law. -/
def lawS (bs : List (Nat × List CK)) (as : List SV) (nv pid : Nat) (id : Nat := 0) : Sum := ⟨[], as, roBl bs 0, nv, bs.length, pid, [⟨.ret, [], [.o (.c (.v (.bool true)))], (roBl bs 0).map some, 0, 0, id⟩]⟩
theorem law_of (w : World) {f : FuncId} {bs : List (Nat × List CK)} {as : List SV} {nv pid id : Nat} (hs : SumOk C f (lawS bs as nv pid id)) {us vs : List Value} {Ls : List Rw} {args : Array Value} (hv : vs.length = nv) (hl : bs.length = us.length) (hl2 : bs.length = Ls.length)
    (h : ∀ (b : Nat) p u L, bs[b]? = some p → us[b]? = some u → Ls[b]? = some L → Ro w u p.2 L) (hn : as.length = args.size)
    (ha : ∀ (j : Nat) x v, as[j]? = some x → args[j]? = some v → RelS (envOf (zipU bs us) vs Ls) x v) (hp : C.pre pid vs Ls) :
    Calls C.P f args w fun e w' => e = .returned (.bool true) ∧ Below w.heap.size w w' := by
  have hvals : vals (envOf (zipU bs us) vs Ls).q vs.length = vs := by
    apply List.ext_getElem
    · simp [vals]
    · intro i h1 h2
      simp [vals, envOf, List.getD_eq_getElem?_getD, List.getElem?_eq_getElem h2]
  have hrows : rowsOf (envOf (zipU bs us) vs Ls).q Ls.length = Ls := by
    apply List.ext_getElem
    · simp [rowsOf]
    · intro i h1 h2
      simp [rowsOf, envOf, List.getD_eq_getElem?_getD, List.getElem?_eq_getElem h2]
  subst hv
  refine (hs (fun g _ => g < w.heap.size) w w (envOf (zipU bs us) vs Ls) args rfl hl2.symm ?_ hn ha ?_).mono ?_
  · have := law_start w bs us vs Ls hl hl2 h
    rw [← hl2] at this
    exact this
  · show C.pre pid (vals _ vs.length) (rowsOf _ bs.length)
    rw [hvals, hl2, hrows]
    exact hp
  · rintro e w' ⟨al, hal, E1, v, r, rfl, hres, hv, hle, hcnt, _, hH⟩
    simp [lawS] at hal
    subst hal
    simp at hres
    subst hres
    refine ⟨by rw [show v = .bool true from hv.1], hH.keep.os, hH.keep.tape, hH.keep.output, hH.keep.size, fun k hk => hH.keep.full k (fun _ => hk) hk⟩
end
end Go.Proofs.Ytipomcnbjlfekaa.Rs
