/- A symbolic machine over the model's operations. Part 5: what loads and stores. No program in sight. -/
import Derived.Test.YtipomcnbjlfekaaRs4
import Derived.Laws.CopyRow
namespace Go.Proofs.Ytipomcnbjlfekaa.Rs
open Go.RowKit
set_option linter.unusedVariables false
set_option linter.unusedSimpArgs false

/-! ### The model's side -/
theorem run_storeVar_seg {P : Program} (w : World) (g i : Nat) (t ty : TypeId) (cs : Array Value) (v : Value) (hg : w.heap[g]? = some (.cells cs t (0, 0))) (hi : (P.info? ty).map (·.size) = some v.cells.size)
    (hl : i + v.cells.size ≤ cs.size) (h1 : ∀ u ∈ v.cells.toList, u.oneCell' = true) :
    (storeVar ty ⟨g, i, none⟩ v).run P w = .ok () (w.setRow g (cs.toList.take i ++ (v.cells.toList ++ cs.toList.drop (i + v.cells.size))).toArray) := by
  have := run_storeCells_at (P := P) g i t v.cells.toList 0 cs w hg (by simpa using hl) h1
  cases hq : P.info? ty with
  | none => simp [hq] at hi
  | some q =>
    have hs : v.cells.size = q.size := by simp [hq] at hi; omega
    simp [storeVar, sizeOf, typeInfo, hq, hs, this]
theorem run_loadCellsFrom_row {P : Program} (w : World) (g o : Nat) (t : TypeId) (cs : Array Value) (fr : Nat × Nat) (hg : w.heap[g]? = some (.cells cs t fr)) : ∀ (n i : Nat) (acc : Array Value), o + i + n ≤ cs.size →
    (loadCellsFrom ⟨g, o, none⟩ i n acc).run P w = .ok (acc ++ ((cs.toList.drop (o + i)).take n).toArray) w
  | 0, i, acc, _ => by simp [loadCellsFrom]
  | n + 1, i, acc, h => by
    have hi : o + i < cs.size := by omega
    have hcell : w.cell? ⟨g, o + i, none⟩ = some cs[o + i] := by simp [World.cell?, hg, hi]
    have ih := run_loadCellsFrom_row (P := P) w g o t cs fr hg n (i + 1) (acc.push cs[o + i]) (by omega)
    have hd : cs.toList.drop (o + i) = cs[o + i] :: cs.toList.drop (o + (i + 1)) := by
      rw [show o + (i + 1) = (o + i) + 1 by omega, ← List.getElem_cons_drop (by simpa using hi)]
      simp
    simp only [loadCellsFrom, Sem.run_bind, addr_add]
    rw [show (load ⟨g, o + i, none⟩).run P w = .ok cs[o + i] w from by simp [load, Sem.run, hcell]]
    simp only [Result.andThen_ok, ih]
    rw [hd]
    simp
theorem run_loadVar_seg {P : Program} (w : World) (g i : Nat) (t ty : TypeId) (cs : Array Value) (fr : Nat × Nat) (n : Nat) (hg : w.heap[g]? = some (.cells cs t fr))
    (ha : (isAgg ty).run P w = .ok true w) (hi : (sizeOf ty).run P w = .ok n w) (hl : i + n ≤ cs.size) :
    (loadVar ty ⟨g, i, none⟩).run P w = .ok (.agg ((cs.toList.drop i).take n).toArray) w := by
  have := run_loadCellsFrom_row (P := P) w g i t cs fr hg n 0 #[] (by simpa using hl)
  simp only [loadVar, Sem.run_bind, ha, Result.andThen_ok, if_true, hi, loadCells, this]
  simp
theorem isAgg_run {P : Program} {t : TypeId} {d : Td} (h : d.Ok P t) (w : World) : (isAgg t).run P w = .ok d.d.agg w := by
  have hd := h.desc
  unfold isAgg
  rw [Sem.run_bind]
  cases hk : d.d with
  | struct fs => rw [hk] at hd; obtain ⟨f, hu, _⟩ := hd; simp [underlying_run' hu, D.agg]
  | int k => rw [hk] at hd; rw [underlying_run' hd]; rfl
  | bool => rw [hk] at hd; rw [underlying_run' hd]; rfl
  | str => rw [hk] at hd; rw [underlying_run' hd]; rfl
  | arr n e => rw [hk] at hd; rw [underlying_run' hd]; rfl
  | slice e => rw [hk] at hd; rw [underlying_run' hd]; rfl
  | ptr e => rw [hk] at hd; rw [underlying_run' hd]; rfl

/-! ### The machine's side -/
/-- The value that lies at a place. -/
def peekA (C : Cfg) (H : Hp) (t b o : Nat) : Option AV :=
  match C.ty t, H.bs.get b with
  | some td, some (.rows _ z n es) =>
    bif Nat.blt 0 td.z && Nat.blt (o / z) n && Nat.ble (o % z + td.z) z then
      match es.get (o / z) with
      | some xs => (match td.d.agg, (xs.drop (o % z)).take td.z with
        | true, ys => some (.ag ys)
        | false, [x] => some (.c x)
        | false, _ => none)
      | none => none
    else none
  | _, _ => none
def pokeA (C : Cfg) (H : Hp) (t b o : Nat) (ys : List AC) : Option Hp :=
  match C.ty t, H.bs.get b with
  | some td, some (.rows tb z n es) =>
    bif Nat.blt 0 td.z && Nat.blt (o / z) n && Nat.ble (o % z + td.z) z && Nat.beq ys.length td.z then
      match es.get (o / z) with
      | some xs => some { H with bs := H.bs.put b (some (.rows tb z n (es.put (o / z) (some (xs.take (o % z) ++ (ys ++ xs.drop (o % z + td.z))))))) }
      | none => none
    else none
  | _, _ => none
def copyE (src : Tr (List AC)) (i : Nat) : Nat → Tr (List AC) → Nat → Tr (List AC)
  | 0, es, _ => es
  | m + 1, es, n => (copyE src i m es n).put (n + m) (src.get (i + m))
def chunkE (z : Nat) (cs : List AC) : Nat → Tr (List AC)
  | 0 => .e
  | n + 1 => (chunkE z cs n).put n (some ((cs.drop (n * z)).take z))
theorem copyE_get (src : Tr (List AC)) (i : Nat) (es : Tr (List AC)) (n : Nat) : ∀ m j, (copyE src i m es n).get j = if n ≤ j ∧ j < n + m then src.get (i + (j - n)) else es.get j
  | 0, j => by rw [if_neg (by omega)]; rfl
  | m + 1, j => by
    simp only [copyE, Tr.get_put]
    by_cases e : j = n + m
    · rw [if_pos e, if_pos (by omega)]; congr 1; omega
    · rw [if_neg e, copyE_get src i es n m j]
      by_cases h : n ≤ j ∧ j < n + m
      · rw [if_pos h, if_pos (by omega)]
      · rw [if_neg h, if_neg (by omega)]
theorem chunkE_get (z : Nat) (cs : List AC) : ∀ n j, j < n → (chunkE z cs n).get j = some ((cs.drop (j * z)).take z)
  | n + 1, j, h => by
    simp only [chunkE, Tr.get_put]
    by_cases e : j = n
    · rw [if_pos e, e]
    · rw [if_neg e, chunkE_get z cs n j (by omega)]

/-! ### Rows in pieces -/
theorem take_of_take {α : Type} (l : List α) (N a z : Nat) (h : a + z ≤ N) : ((l.take N).drop a).take z = (l.drop a).take z := by
  rw [List.drop_take, List.take_take, Nat.min_eq_left (by omega)]
theorem splice_get {α : Type} (l vs : List α) (o : Nat) (h : o + vs.length ≤ l.length) (q : Nat) : (l.take o ++ (vs ++ l.drop (o + vs.length)))[q]? = if q < o then l[q]? else if q < o + vs.length then vs[q - o]? else l[q]? := by
  have h0 : (l.take o).length = o := by rw [List.length_take]; omega
  by_cases h1 : q < o
  · rw [if_pos h1, List.getElem?_append_left (by omega), List.getElem?_take, if_pos h1]
  · rw [if_neg h1, List.getElem?_append_right (by omega), h0]
    by_cases h2 : q < o + vs.length
    · rw [if_pos h2, List.getElem?_append_left (by omega)]
    · rw [if_neg h2, List.getElem?_append_right (by omega), List.getElem?_drop]
      congr 1; omega
theorem seg_get {α : Type} (l : List α) (a z k : Nat) : ((l.drop a).take z)[k]? = if k < z then l[a + k]? else none := by
  rw [List.getElem?_take, List.getElem?_drop]
theorem seg_other {α : Type} (l vs : List α) (i k z j : Nat) (hj : j + vs.length ≤ z) (hl : i * z + z ≤ l.length) (hk : k ≠ i) :
    ((l.take (i * z + j) ++ (vs ++ l.drop (i * z + j + vs.length))).drop (k * z)).take z = (l.drop (k * z)).take z := by
  apply List.ext_getElem?
  intro q
  rw [seg_get, seg_get]
  by_cases hq : q < z
  · rw [if_pos hq, if_pos hq, splice_get _ _ _ (by omega)]
    rcases Nat.lt_or_gt_of_ne hk with h | h
    · have : (k + 1) * z ≤ i * z := Nat.mul_le_mul_right z h
      rw [Nat.succ_mul] at this
      rw [if_pos (by omega)]
    · have : (i + 1) * z ≤ k * z := Nat.mul_le_mul_right z h
      rw [Nat.succ_mul] at this
      rw [if_neg (by omega), if_neg (by omega)]
  · rw [if_neg hq, if_neg hq]
theorem seg_hit {α : Type} (l vs : List α) (i z j : Nat) (hj : j + vs.length ≤ z) (hl : i * z + z ≤ l.length) :
    ((l.take (i * z + j) ++ (vs ++ l.drop (i * z + j + vs.length))).drop (i * z)).take z = ((l.drop (i * z)).take z).take j ++ (vs ++ ((l.drop (i * z)).take z).drop (j + vs.length)) := by
  apply List.ext_getElem?
  intro q
  have hs : ((l.drop (i * z)).take z).length = z := by rw [List.length_take, List.length_drop]; omega
  rw [seg_get, splice_get _ _ _ (by omega), splice_get ((l.drop (i * z)).take z) vs j (by rw [hs]; omega), seg_get]
  by_cases hq : q < z
  · rw [if_pos hq, if_pos hq]
    by_cases h1 : q < j
    · rw [if_pos (by omega), if_pos h1]
    · rw [if_neg (by omega), if_neg h1]
      by_cases h2 : q < j + vs.length
      · rw [if_pos (by omega), if_pos h2]; congr 1; omega
      · rw [if_neg (by omega), if_neg h2]
  · rw [if_neg hq, if_neg hq, if_neg (by omega), if_neg (by omega)]


/-! ### Rows of terms -/
/-- What was stored at other known places does not matter. -/
def skipSet (i : Te) : RT → RT
  | .set r i' j cs =>
    match i, i' with
    | .l (.int _ (.ofNat a)), .l (.int _ (.ofNat b)) => bif Nat.beq a b then .set r i' j cs else skipSet i r
    | _, _ => .set r i' j cs
  | r => r
theorem skipSet_ev (S : Sy) (i : Te) : ∀ rt : RT, ((skipSet i rt).ev S).getD (natOf (i.ev S)) [] = (rt.ev S).getD (natOf (i.ev S)) []
  | .set r i' j cs => by
    unfold skipSet
    split
    · rename_i k1 a k2 b
      cases hc : Nat.beq a b with
      | true => rfl
      | false =>
        rw [cond_false, skipSet_ev S _ r]
        have hne := Nat.ne_of_beq_eq_false hc
        simp only [RT.ev, Te.ev, natOf, setRw, List.getD_eq_getElem?_getD]
        rw [List.getElem?_modify]
        simp only [Int.ofNat_eq_natCast, Int.toNat_natCast]
        have hne2 : ¬ b = a := fun e => hne e.symm
        simp [hne2]
    · rfl
  | .s _ => rfl
  | .nil => rfl
  | .one _ => rfl
  | .app _ _ => rfl
  | .take _ _ => rfl
  | .drop _ _ => rfl
  | .rep _ _ => rfl
  | .by _ => rfl
def cellsT (rt : RT) (i : Te) : List CK → Nat → List AC
  | [], _ => []
  | k :: ks, j => .t k (.cell (skipSet i rt) i j) :: cellsT rt i ks (j + 1)
def peekP (C : Cfg) (H : Hp) (t b : Nat) (i : Te) (j : Nat) : Option AV :=
  match C.ty t, H.bs.get b with
  | some td, some (.sy _ _ ks rt) =>
    bif Nat.blt 0 td.z && Nat.ble (j + td.z) ks.length then
      match td.d.agg, cellsT rt i ((ks.drop j).take td.z) j with
      | true, ys => some (.ag ys)
      | false, [x] => some (.c x)
      | false, _ => none
    else none
  | _, _ => none
/-- Cells as terms of these kinds. -/
def asT : List CK → List AC → Option TL
  | [], [] => some .nil
  | k :: ks, x :: xs =>
    match teO x, asT ks xs with
    | some (k', te), some r => bif ckEq k k' then some (.cons te r) else none
    | _, _ => none
  | _, _ => none
def pokeP (C : Cfg) (H : Hp) (t b : Nat) (i : Te) (j : Nat) (ys : List AC) : Option Hp :=
  match C.ty t, H.bs.get b with
  | some td, some (.sy true tb ks rt) =>
    bif Nat.blt 0 td.z && Nat.ble (j + td.z) ks.length && Nat.beq ys.length td.z then
      match asT ((ks.drop j).take td.z) ys with
      | some cs => some { H with bs := H.bs.put b (some (.sy true tb ks (.set rt i j cs))) }
      | none => none
    else none
  | _, _ => none
theorem take_add_app {α : Type} (e F : List α) (m : Nat) : (e ++ F).take (e.length + m) = e ++ F.take m := by
  rw [List.take_append, List.take_of_length_le (by omega)]; simp
theorem drop_add_app {α : Type} (e F : List α) (m : Nat) : (e ++ F).drop (e.length + m) = F.drop m := by
  rw [List.drop_append, List.drop_of_length_le (by omega)]; simp
theorem flat_len {z : Nat} : ∀ (L : Rw), (∀ e ∈ L, e.length = z) → L.flatten.length = L.length * z
  | [], _ => by simp
  | e :: L, h => by
    rw [List.flatten_cons, List.length_append, flat_len L (fun x hx => h x (by simp [hx])), h e (by simp), List.length_cons, Nat.succ_mul]; omega
theorem flat_seg {z : Nat} : ∀ (L : Rw) (k : Nat) (hk : k < L.length), (∀ e ∈ L, e.length = z) → (L.flatten.drop (k * z)).take z = L[k]
  | e :: L, 0, _, h => by
    have he := h e (by simp)
    simp only [List.flatten_cons, Nat.zero_mul, List.drop_zero, List.getElem_cons_zero]
    rw [← he]
    exact List.take_left
  | e :: L, k + 1, hk, h => by
    have he := h e (by simp)
    rw [List.flatten_cons, show (k + 1) * z = e.length + k * z by rw [he, Nat.succ_mul]; omega, drop_add_app, flat_seg L k (by simpa using hk) (fun x hx => h x (by simp [hx]))]
    rfl
theorem setRw_length (L : Rw) (k j : Nat) (vs : List Value) : (setRw L k j vs).length = L.length := by simp [setRw]
theorem flat_set {z : Nat} : ∀ (L : Rw) (k j : Nat) (vs : List Value), k < L.length → (∀ e ∈ L, e.length = z) → j + vs.length ≤ z → (setRw L k j vs).flatten = L.flatten.take (k * z + j) ++ (vs ++ L.flatten.drop (k * z + j + vs.length))
  | e :: L, 0, j, vs, _, h, hj => by
    have he := h e (by simp)
    simp only [setRw, List.modify_cons, if_true, List.flatten_cons, Nat.zero_mul, Nat.zero_add]
    rw [List.take_append_of_le_length (by omega), List.drop_append_of_le_length (by omega)]
    simp
  | e :: L, k + 1, j, vs, hk, h, hj => by
    have he := h e (by simp)
    have ih := flat_set L k j vs (by simpa using hk) (fun x hx => h x (by simp [hx])) hj
    have e1 : (setRw (e :: L) (k + 1) j vs) = e :: setRw L k j vs := by simp [setRw]
    rw [e1, List.flatten_cons, ih, List.flatten_cons, show (k + 1) * z + j = e.length + (k * z + j) by rw [he, Nat.succ_mul]; omega, take_add_app, show e.length + (k * z + j) + vs.length = e.length + (k * z + j + vs.length) by omega, drop_add_app]
    simp
theorem RowOk.len {ks : List CK} {L : Rw} (h : RowOk ks L) : ∀ e ∈ L, e.length = ks.length := fun e he => (h e he).1
theorem ck_list : ∀ (ks : List CK) (j : Nat) (rt : RT) (i : Te) (x : Nat) (c : AC), (cellsT rt i ks j)[x]? = some c → ∃ k, ks[x]? = some k ∧ c = .t k (.cell (skipSet i rt) i (j + x))
  | [], j, rt, i, x, c, h => by simp [cellsT] at h
  | k :: ks, j, rt, i, 0, c, h => by simp [cellsT] at h; exact ⟨k, rfl, by rw [← h]; simp⟩
  | k :: ks, j, rt, i, x + 1, c, h => by
    simp only [cellsT, List.getElem?_cons_succ] at h
    obtain ⟨k', h1, h2⟩ := ck_list ks (j + 1) rt i x c h
    exact ⟨k', by simpa using h1, by rw [h2]; congr 2; omega⟩
theorem cellsT_length : ∀ (ks : List CK) (j : Nat) (rt : RT) (i : Te), (cellsT rt i ks j).length = ks.length
  | [], _, _, _ => rfl
  | k :: ks, j, rt, i => by simp [cellsT, cellsT_length ks]
section
variable {C : Cfg} {fr : Fr} {E : Env} {N : Nat} {tm : Tm} {a : Act} {w0 : World} {H : Hp} {w w' : World}
theorem asT_rel : ∀ (ks : List CK) (xs : List AC) (cs : TL) (us : List Value), asT ks xs = some cs → RelL E xs us → us.length = ks.length ∧ (∀ S, E.q.has S → cs.ev S = us) ∧ ∀ (j : Nat) k u, ks[j]? = some k → us[j]? = some u → k.has u
  | [], [], cs, us, h, hr => by
    cases h
    have : us = [] := List.eq_nil_of_length_eq_zero (by rw [← hr.1]; rfl)
    subst this
    exact ⟨rfl, fun _ _ => rfl, fun j k u h => by simp at h⟩
  | k :: ks, x :: xs, cs, us, h, hr => by
    simp only [asT] at h
    split at h
    · rename_i k' te r h1 h2
      cases hc : ckEq k k' with
      | false => rw [hc] at h; cases h
      | true =>
        rw [hc, cond_true] at h
        cases h
        obtain rfl := ckEq_eq hc
        cases us with
        | nil => exact absurd hr.1 (by simp)
        | cons u us =>
          obtain ⟨g1, g2⟩ := teO_rel h1 (hr.2 0 x u rfl rfl)
          obtain ⟨g3, g4, g5⟩ := asT_rel ks xs r us h2 ⟨by simpa using hr.1, fun j y v hy hv => hr.2 (j + 1) y v (by simpa using hy) (by simpa using hv)⟩
          refine ⟨by simp [g3], fun S hS => by simp only [TL.ev, g2 S hS, g4 S hS], fun j q v hq hv => ?_⟩
          cases j with
          | zero => simp at hq hv; subst hq hv; exact g1
          | succ j => exact g5 j q v (by simpa using hq) (by simpa using hv)
    · cases h
  | [], _ :: _, cs, us, h, hr => by cases h
  | _ :: _, [], cs, us, h, hr => by cases h
theorem Lies.cells {r : Rg} {t : Nat} {L : Rw} {own : Bool} (h : Lies fr w r t L own) {g o n c : Nat} (hv : r.val = .slice (some ⟨g, o, none⟩) n c) (hp : 0 < L.length * r.z) :
    n = L.length ∧ ∃ arr t' fz, w.heap[g]? = some (.cells arr t' fz) ∧ o + L.length * r.z ≤ arr.size ∧ (arr.toList.drop o).take (L.length * r.z) = L.flatten := by
  cases own with
  | true =>
    rcases h with ⟨_, q2, _⟩ | ⟨g', arr, q1, q2, q0, qt, q3, q4, q5, q6, q7, q8⟩
    · rw [q2] at hv; cases hv
    · rw [q3] at hv
      cases hv
      exact ⟨rfl, arr, _, _, q4, by rw [q5, Nat.zero_add]; exact Nat.mul_le_mul_right _ q6, by simpa using q8⟩
  | false =>
    obtain ⟨_, ad, c', q2, q3, q4, q5⟩ := h
    rw [q2] at hv
    injection hv with e1 e2 e3
    obtain ⟨g', o', arr, t', fz, h1, h2, h3, h4, h5⟩ := q5 hp
    rw [h1] at e1
    cases e1
    exact ⟨e2.symm, arr, t', fz, h2, h3, h4⟩
theorem peekP_ok (hC : C.Ok) (hH : RelH fr w0 E H w) {t b j : Nat} {i : Te} {av : AV} (h : peekP C H t b i j = some av) {p : Value} (hp : RelC E (.pe b i j) p) : ∃ ad v, p = .pointer (some ad) ∧ RelV E av v ∧ (loadVar t ad).run C.P w = .ok v w := by
  unfold peekP at h
  split at h
  · rename_i td own tb ks rt ht hb
    cases hc : (Nat.blt 0 td.z && Nat.ble (j + td.z) ks.length) with
    | false => rw [hc] at h; cases h
    | true =>
      rw [hc, cond_true] at h
      simp only [Bool.and_eq_true, Nat.blt_eq, Nat.ble_eq] at hc
      obtain ⟨h0, hj⟩ := hc
      obtain ⟨r, g, oo, n, c, k, hE, hv, hk, hi, rfl⟩ := hp
      obtain ⟨_, r', L, hE', q1, q2, q3, q4⟩ := hH.blk _ _ hb
      rw [hE] at hE'; cases hE'
      have hks : 0 < r.z := by rw [q1]; omega
      have hkL : k < L.length := by
        rcases Nat.eq_zero_or_pos L.length with hz | hz
        · exfalso
          cases own with
          | true =>
            rcases q4 with ⟨_, q5, _⟩ | ⟨_, _, _, _, _, _, q5, _⟩
            · rw [q5] at hv; cases hv
            · rw [q5] at hv; injection hv with _ e2 _; omega
          | false => obtain ⟨_, _, _, q5, _⟩ := q4; rw [q5] at hv; injection hv with _ e2 _; omega
        · have := (q4.cells hv (Nat.mul_pos hz hks)).1; omega
      obtain ⟨rfl, arr, t', fz, h1, h2, h3⟩ := q4.cells hv (Nat.mul_pos (by omega) hks)
      have hlen := q3.len
      rw [← q1] at hlen hj
      have hkz : k * r.z + r.z ≤ L.length * r.z := by have := Nat.mul_le_mul_right r.z (show k + 1 ≤ L.length from hkL); rw [Nat.succ_mul] at this; exact this
      have hseg : (arr.toList.drop (oo + (k * r.z + j))).take td.z = ((L[k].drop j).take td.z) := by
        rw [← flat_seg L k hkL hlen, ← h3, take_of_take _ _ _ _ hkz, List.drop_drop, List.drop_take, List.take_take, Nat.min_eq_left (by omega), List.drop_drop]
        congr 2
        omega
      have hLk : L[k].length = r.z := hlen _ (List.getElem_mem hkL)
      have hrel : RelL E (cellsT rt i ((ks.drop j).take td.z) j) ((arr.toList.drop (oo + (k * r.z + j))).take td.z) := by
        rw [hseg]
        refine ⟨by rw [cellsT_length, List.length_take, List.length_drop, List.length_take, List.length_drop, hLk, ← q1], fun x cc u hx hu => ?_⟩
        obtain ⟨ck, hck, rfl⟩ := ck_list _ _ _ _ _ _ hx
        rw [seg_get] at hck hu
        split at hck
        · rename_i hxz
          rw [if_pos hxz] at hu
          refine ⟨(q3 _ (List.getElem_mem hkL)).2 _ _ _ hck hu, fun S hS => ?_⟩
          have hsk := skipSet_ev S i rt
          rw [hi S hS, q2 S hS] at hsk
          simp only [Te.ev, hi S hS, hsk]
          rw [show L.getD k [] = L[k] by rw [List.getD_eq_getElem?_getD, List.getElem?_eq_getElem hkL]; rfl, List.getD_eq_getElem?_getD, hu]
          rfl
        · cases hck
      have hok := hC.ty _ _ ht
      have ha := isAgg_run hok w
      have hsz : oo + (k * r.z + j) + td.z ≤ arr.size := by omega
      cases hagg : td.d.agg with
      | true =>
        rw [hagg] at h ha
        cases h
        exact ⟨_, _, rfl, ⟨_, rfl, by simpa using hrel⟩, run_loadVar_seg w g _ t' t arr fz td.z h1 ha (sizeOf_run hok w) hsz⟩
      | false =>
        rw [hagg] at h ha
        split at h
        · cases ‹false = true›
        · rename_i x _ hxs
          cases h
          rw [hxs] at hrel
          have hl := hrel.1
          match hu : (arr.toList.drop (oo + (k * r.z + j))).take td.z, hl with
          | [u], _ =>
            rw [hu] at hrel
            refine ⟨_, u, rfl, hrel.2 0 x u rfl rfl, ?_⟩
            have hcell : w.cell? ⟨g, oo + (k * r.z + j), none⟩ = some u := by
              have h1' : ((arr.toList.drop (oo + (k * r.z + j))).take td.z)[0]? = some u := by rw [hu]; rfl
              rw [seg_get, if_pos h0] at h1'
              simpa [World.cell?, h1] using h1'
            simp only [loadVar, Sem.run_bind, ha, Result.andThen_ok]
            simp [load, Sem.run, hcell]
        · cases h
  · cases h
/-- A store into an element. -/
theorem pokeP_ok (hC : C.Ok) (hH : RelH fr w0 E H w) {t b j : Nat} {i : Te} {ys : List AC} {H' : Hp} (h : pokeP C H t b i j ys = some H') {p : Value} (hp : RelC E (.pe b i j) p) {v : Value} (hv : RelL E ys v.cells.toList) :
    ∃ ad w', p = .pointer (some ad) ∧ (storeVar t ad v).run C.P w = .ok () w' ∧ RelH fr w0 E H' w' := by
  unfold pokeP at h
  split at h
  · rename_i td tb ks rt ht hb
    cases hc : (Nat.blt 0 td.z && Nat.ble (j + td.z) ks.length && Nat.beq ys.length td.z) with
    | false => rw [hc] at h; cases h
    | true =>
      rw [hc, cond_true] at h
      simp only [Bool.and_eq_true, Nat.blt_eq, Nat.ble_eq, beq_eq, decide_eq_true_eq] at hc
      obtain ⟨⟨h0, hj⟩, hy⟩ := hc
      split at h
      · rename_i cs hcs
        cases h
        obtain ⟨r, g, oo, n, c, k, hE, hval, hk, hi, rfl⟩ := hp
        obtain ⟨_, r', L, hE', q1, q2, q3, q4⟩ := hH.blk _ _ hb
        rw [hE] at hE'; cases hE'
        have hks : 0 < r.z := by rw [q1]; omega
        rcases q4 with ⟨_, q5, _⟩ | ⟨g', arr, p1, p2, p0, pt, p3, p4, p5, p6, p7, p8⟩
        · rw [q5] at hval; cases hval
        · rw [p3] at hval
          cases hval
          have hlen := q3.len
          rw [← q1] at hlen hj
          obtain ⟨c1, c2, c3⟩ := asT_rel _ _ _ _ hcs hv
          have hvl : v.cells.toList.length = td.z := by rw [← hv.1, hy]
          have hvs : v.cells.size = td.z := by simpa using hvl
          have hkz : k * r.z + r.z ≤ L.length * r.z := by have := Nat.mul_le_mul_right r.z (show k + 1 ≤ L.length from hk); rw [Nat.succ_mul] at this; exact this
          have hcap : L.length * r.z ≤ arr.size := by rw [p5]; exact Nat.mul_le_mul_right _ p6
          have hok := hC.ty _ _ ht
          obtain ⟨inf, zv, hinf, hs, _⟩ := info_of hok
          have hrun := run_storeVar_seg (P := C.P) w g (0 + (k * r.z + j)) tb t arr v p4 (by simp [hinf, hs, hvs]) (by rw [hvs]; omega) hv.one
          refine ⟨_, _, rfl, hrun, ?_⟩
          have e1 : v.cells.size = v.cells.toList.length := by simp
          have hsize : (arr.toList.take (0 + (k * r.z + j)) ++ (v.cells.toList ++ arr.toList.drop (0 + (k * r.z + j) + v.cells.size))).toArray.size = arr.size := by
            simp only [List.size_toArray, List.length_append, List.length_take, List.length_drop, hvs, hvl, Array.length_toList]
            omega
          refine hH.turn hb hE ((Keeps.setRow p4 hsize (fun _ => True) (fun o ho => absurd trivial ho)).sub fun g2 o2 hno he2 => hno ⟨by rw [p1, he2.1], .inl p2⟩) ?_
          refine ⟨r, setRw L k j v.cells.toList, hE, q1, fun S hS => by simp only [RT.ev, q2 S hS, hi S hS, c2 S hS], ?_, .inr ⟨g, _, p1, p2, p0, pt, by rw [setRw_length]; exact p3, setRow_heap w g arr _ tb _ p4, by rw [hsize]; exact p5, by rw [setRw_length]; exact p6, p7, ?_⟩⟩
          · intro e he
            obtain ⟨x, hx⟩ := List.getElem?_of_mem he
            unfold setRw at hx
            rw [List.getElem?_modify] at hx
            obtain ⟨e0, he0, hee⟩ := Option.map_eq_some_iff.1 hx
            have hmem := List.mem_of_getElem? he0
            obtain ⟨o1, o2⟩ := q3 e0 hmem
            split at hee
            · subst hee
              have hz2 : ks.length = r.z := q1.symm
              refine ⟨by simp only [List.length_append, List.length_take, List.length_drop, hvl, o1]; omega, fun y kk u hy hu => ?_⟩
              rw [splice_get e0 v.cells.toList j (by rw [hvl, o1]; omega)] at hu
              split at hu
              · exact o2 y kk u hy hu
              · split at hu
                · rename_i hy1 hy2
                  refine c3 (y - j) kk u ?_ hu
                  rw [seg_get, if_pos (by omega), show j + (y - j) = y by omega]
                  exact hy
                · exact o2 y kk u hy hu
            · subst hee
              exact ⟨o1, o2⟩
          · rw [setRw_length, flat_set L k j v.cells.toList hk hlen (by omega), ← p8]
            simp only [Nat.zero_add, e1]
            apply List.ext_getElem?
            intro q
            have hA : arr.toList.length = arr.size := Array.length_toList
            have l1 : (arr.toList.take (L.length * r.z)).length = L.length * r.z := by rw [List.length_take]; omega
            rw [List.getElem?_take, splice_get arr.toList v.cells.toList (k * r.z + j) (by omega), splice_get (arr.toList.take (L.length * r.z)) v.cells.toList (k * r.z + j) (by omega)]
            by_cases hq : q < L.length * r.z
            · rw [if_pos hq]
              by_cases h1 : q < k * r.z + j
              · rw [if_pos h1, if_pos h1, List.getElem?_take, if_pos hq]
              · rw [if_neg h1, if_neg h1]
                by_cases h2 : q < k * r.z + j + v.cells.toList.length
                · rw [if_pos h2, if_pos h2]
                · rw [if_neg h2, if_neg h2, List.getElem?_take, if_pos hq]
            · rw [if_neg hq, if_neg (by omega), if_neg (by omega), List.getElem?_take, if_neg hq]
      · cases h
  · cases h
end
end Go.Proofs.Ytipomcnbjlfekaa.Rs
