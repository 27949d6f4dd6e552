/- A small machine over the model's operations. Part 4: what loads, stores and makes memory. No program in sight. -/
import Derived.Test.YtdfhkmekmockkaaRx3
import Derived.Laws.CopyRow
namespace Go.Proofs.Ytdfhkmekmockkaa.Rx
open Go.RowKit
set_option linter.unusedVariables false
set_option linter.unusedSimpArgs false

/-! ### The model's side -/
theorem run_storeVar_seg {P : Program} (w : World) (g i : Nat) (t ty : TypeId) (cs : Array Value) (v : Value) (hg : w.heap[g]? = some (.cells cs t (0, 0))) (hi : (P.info? ty).map (·.size) = some v.cells.size)
    (hl : i + v.cells.size ≤ cs.size) (h1 : ∀ u ∈ v.cells.toList, u.oneCell' = true) :
    (storeVar ty ⟨g, i, none⟩ v).run P w = .ok () (w.setRow g (cs.toList.take i ++ (v.cells.toList ++ cs.toList.drop (i + v.cells.size))).toArray) := by
  have := run_storeCells_at (P := P) g i t v.cells.toList 0 cs w hg (by simpa using hl) h1
  cases hq : P.info? ty with
  | none => simp [hq] at hi
  | some q =>
    have hs : v.cells.size = q.size := by simp [hq] at hi; omega
    simp [storeVar, sizeOf, typeInfo, hq, hs, this]
theorem run_loadCellsFrom_row {P : Program} (w : World) (g o : Nat) (t : TypeId) (cs : Array Value) (fr : Nat × Nat) (hg : w.heap[g]? = some (.cells cs t fr)) : ∀ (n i : Nat) (acc : Array Value), o + i + n ≤ cs.size →
    (loadCellsFrom ⟨g, o, none⟩ i n acc).run P w = .ok (acc ++ ((cs.toList.drop (o + i)).take n).toArray) w
  | 0, i, acc, _ => by simp [loadCellsFrom]
  | n + 1, i, acc, h => by
    have hi : o + i < cs.size := by omega
    have hcell : w.cell? ⟨g, o + i, none⟩ = some cs[o + i] := by simp [World.cell?, hg, hi]
    have ih := run_loadCellsFrom_row (P := P) w g o t cs fr hg n (i + 1) (acc.push cs[o + i]) (by omega)
    have hd : cs.toList.drop (o + i) = cs[o + i] :: cs.toList.drop (o + (i + 1)) := by
      rw [show o + (i + 1) = (o + i) + 1 by omega, ← List.getElem_cons_drop (by simpa using hi)]
      simp
    simp only [loadCellsFrom, Sem.run_bind, addr_add]
    rw [show (load ⟨g, o + i, none⟩).run P w = .ok cs[o + i] w from by simp [load, Sem.run, hcell]]
    simp only [Result.andThen_ok, ih]
    rw [hd]
    simp
theorem run_loadVar_seg {P : Program} (w : World) (g i : Nat) (t ty : TypeId) (cs : Array Value) (fr : Nat × Nat) (n : Nat) (hg : w.heap[g]? = some (.cells cs t fr))
    (ha : (isAgg ty).run P w = .ok true w) (hi : (sizeOf ty).run P w = .ok n w) (hl : i + n ≤ cs.size) :
    (loadVar ty ⟨g, i, none⟩).run P w = .ok (.agg ((cs.toList.drop i).take n).toArray) w := by
  have := run_loadCellsFrom_row (P := P) w g i t cs fr hg n 0 #[] (by simpa using hl)
  simp only [loadVar, Sem.run_bind, ha, Result.andThen_ok, if_true, hi, loadCells, this]
  simp
theorem isAgg_run {P : Program} {t : TypeId} {d : Td} (h : d.Ok P t) (w : World) : (isAgg t).run P w = .ok d.d.agg w := by
  have hd := h.desc
  unfold isAgg
  rw [Sem.run_bind]
  cases hk : d.d with
  | struct fs => rw [hk] at hd; obtain ⟨f, hu, _⟩ := hd; simp [underlying_run' hu, D.agg]
  | int k => rw [hk] at hd; rw [underlying_run' hd]; rfl
  | bool => rw [hk] at hd; rw [underlying_run' hd]; rfl
  | str => rw [hk] at hd; rw [underlying_run' hd]; rfl
  | arr n e => rw [hk] at hd; rw [underlying_run' hd]; rfl
  | slice e => rw [hk] at hd; rw [underlying_run' hd]; rfl
  | ptr e => rw [hk] at hd; rw [underlying_run' hd]; rfl

/-! ### The machine's side -/
/-- The value that lies at a place. -/
def peekA (C : Cfg) (H : Hp) (t b o : Nat) : Option AV :=
  match C.ty t, H.bs.get b with
  | some td, some (.rows _ z n es) =>
    bif Nat.blt 0 td.z && Nat.blt (o / z) n && Nat.ble (o % z + td.z) z then
      match es.get (o / z) with
      | some xs => (match td.d.agg, (xs.drop (o % z)).take td.z with
        | true, ys => some (.ag ys)
        | false, [x] => some (.c x)
        | false, _ => none)
      | none => none
    else none
  | _, _ => none
def pokeA (C : Cfg) (H : Hp) (t b o : Nat) (ys : List AC) : Option Hp :=
  match C.ty t, H.bs.get b with
  | some td, some (.rows tb z n es) =>
    bif Nat.blt 0 td.z && Nat.blt (o / z) n && Nat.ble (o % z + td.z) z && Nat.beq ys.length td.z then
      match es.get (o / z) with
      | some xs => some ⟨H.next, H.bs.put b (some (.rows tb z n (es.put (o / z) (some (xs.take (o % z) ++ (ys ++ xs.drop (o % z + td.z)))))))⟩
      | none => none
    else none
  | _, _ => none
def copyE (src : Tr (List AC)) (i : Nat) : Nat → Tr (List AC) → Nat → Tr (List AC)
  | 0, es, _ => es
  | m + 1, es, n => (copyE src i m es n).put (n + m) (src.get (i + m))
def chunkE (z : Nat) (cs : List AC) : Nat → Tr (List AC)
  | 0 => .e
  | n + 1 => (chunkE z cs n).put n (some ((cs.drop (n * z)).take z))
theorem copyE_get (src : Tr (List AC)) (i : Nat) (es : Tr (List AC)) (n : Nat) : ∀ m j, (copyE src i m es n).get j = if n ≤ j ∧ j < n + m then src.get (i + (j - n)) else es.get j
  | 0, j => by rw [if_neg (by omega)]; rfl
  | m + 1, j => by
    simp only [copyE, Tr.get_put]
    by_cases e : j = n + m
    · rw [if_pos e, if_pos (by omega)]; congr 1; omega
    · rw [if_neg e, copyE_get src i es n m j]
      by_cases h : n ≤ j ∧ j < n + m
      · rw [if_pos h, if_pos (by omega)]
      · rw [if_neg h, if_neg (by omega)]
theorem chunkE_get (z : Nat) (cs : List AC) : ∀ n j, j < n → (chunkE z cs n).get j = some ((cs.drop (j * z)).take z)
  | n + 1, j, h => by
    simp only [chunkE, Tr.get_put]
    by_cases e : j = n
    · rw [if_pos e, e]
    · rw [if_neg e, chunkE_get z cs n j (by omega)]

/-! ### Rows in pieces -/
theorem take_of_take {α : Type} (l : List α) (N a z : Nat) (h : a + z ≤ N) : ((l.take N).drop a).take z = (l.drop a).take z := by
  rw [List.drop_take, List.take_take, Nat.min_eq_left (by omega)]
theorem splice_get {α : Type} (l vs : List α) (o : Nat) (h : o + vs.length ≤ l.length) (q : Nat) : (l.take o ++ (vs ++ l.drop (o + vs.length)))[q]? = if q < o then l[q]? else if q < o + vs.length then vs[q - o]? else l[q]? := by
  have h0 : (l.take o).length = o := by rw [List.length_take]; omega
  by_cases h1 : q < o
  · rw [if_pos h1, List.getElem?_append_left (by omega), List.getElem?_take, if_pos h1]
  · rw [if_neg h1, List.getElem?_append_right (by omega), h0]
    by_cases h2 : q < o + vs.length
    · rw [if_pos h2, List.getElem?_append_left (by omega)]
    · rw [if_neg h2, List.getElem?_append_right (by omega), List.getElem?_drop]
      congr 1; omega
theorem seg_get {α : Type} (l : List α) (a z k : Nat) : ((l.drop a).take z)[k]? = if k < z then l[a + k]? else none := by
  rw [List.getElem?_take, List.getElem?_drop]
theorem seg_other {α : Type} (l vs : List α) (i k z j : Nat) (hj : j + vs.length ≤ z) (hl : i * z + z ≤ l.length) (hk : k ≠ i) :
    ((l.take (i * z + j) ++ (vs ++ l.drop (i * z + j + vs.length))).drop (k * z)).take z = (l.drop (k * z)).take z := by
  apply List.ext_getElem?
  intro q
  rw [seg_get, seg_get]
  by_cases hq : q < z
  · rw [if_pos hq, if_pos hq, splice_get _ _ _ (by omega)]
    rcases Nat.lt_or_gt_of_ne hk with h | h
    · have : (k + 1) * z ≤ i * z := Nat.mul_le_mul_right z h
      rw [Nat.succ_mul] at this
      rw [if_pos (by omega)]
    · have : (i + 1) * z ≤ k * z := Nat.mul_le_mul_right z h
      rw [Nat.succ_mul] at this
      rw [if_neg (by omega), if_neg (by omega)]
  · rw [if_neg hq, if_neg hq]
theorem seg_hit {α : Type} (l vs : List α) (i z j : Nat) (hj : j + vs.length ≤ z) (hl : i * z + z ≤ l.length) :
    ((l.take (i * z + j) ++ (vs ++ l.drop (i * z + j + vs.length))).drop (i * z)).take z = ((l.drop (i * z)).take z).take j ++ (vs ++ ((l.drop (i * z)).take z).drop (j + vs.length)) := by
  apply List.ext_getElem?
  intro q
  have hs : ((l.drop (i * z)).take z).length = z := by rw [List.length_take, List.length_drop]; omega
  rw [seg_get, splice_get _ _ _ (by omega), splice_get ((l.drop (i * z)).take z) vs j (by rw [hs]; omega), seg_get]
  by_cases hq : q < z
  · rw [if_pos hq, if_pos hq]
    by_cases h1 : q < j
    · rw [if_pos (by omega), if_pos h1]
    · rw [if_neg (by omega), if_neg h1]
      by_cases h2 : q < j + vs.length
      · rw [if_pos (by omega), if_pos h2]; congr 1; omega
      · rw [if_neg (by omega), if_neg h2]
  · rw [if_neg hq, if_neg hq, if_neg (by omega), if_neg (by omega)]

section
variable {C : Cfg} {σ : Nat → Value} {O : Opq} {E : Env} {N : Nat} {tm : Tm} {a : Act} {w0 : World} {H : Hp} {w w' : World}
theorem divmod (o z : Nat) : o / z * z + o % z = o := by rw [Nat.mul_comm]; exact Nat.div_add_mod o z
/-- What lies at a place is what the model loads there. -/
theorem peek_ok (hC : C.Ok σ) (hH : RelH σ O w0 E H w) {t b o : Nat} {av : AV} (h : peekA C H t b o = some av) {r : Rg} (hr : E b = some r) : ∃ v, RelV σ E av v ∧ (loadVar t ⟨r.g, o, none⟩).run C.P w = .ok v w := by
  unfold peekA at h
  split at h
  · rename_i td tb z n es ht hb
    cases hc : (Nat.blt 0 td.z && Nat.blt (o / z) n && Nat.ble (o % z + td.z) z) with
    | false => rw [hc] at h; cases h
    | true =>
      rw [hc] at h
      simp only [Bool.and_eq_true, Nat.blt_eq, Nat.ble_eq] at hc
      obtain ⟨⟨h0, hi⟩, hj⟩ := hc
      obtain ⟨_, q, arr, hq, hz, hheap, hsz, hn, hcap, hes⟩ := hH.blk _ _ hb
      rw [hr] at hq
      cases hq
      obtain ⟨xs, hx, hrel⟩ := hes _ hi
      have hdm := divmod o z
      have hlen : o / z * z + z ≤ arr.toList.length := by
        have : (o / z + 1) * z ≤ r.cap * z := Nat.mul_le_mul_right z (by omega)
        rw [Nat.succ_mul] at this
        simp only [Array.length_toList]; omega
      have hseg : RelL σ E ((xs.drop (o % z)).take td.z) ((arr.toList.drop o).take td.z) := by
        have := (hrel.drop (o % z)).take td.z
        rw [List.drop_take, List.take_take, Nat.min_eq_left (by omega), List.drop_drop, hdm] at this
        exact this
      rw [cond_true, hx] at h
      have hok := hC.ty _ _ ht
      have ha := isAgg_run hok w
      cases hagg : td.d.agg with
      | true =>
        rw [hagg] at h ha
        cases h
        exact ⟨_, ⟨_, rfl, by simpa using hseg⟩, run_loadVar_seg w r.g o tb t arr (0, 0) td.z hheap ha (sizeOf_run hok w) (by simp only [Array.length_toList] at hlen; omega)⟩
      | false =>
        rw [hagg] at h ha
        simp only at h
        split at h
        · cases ‹false = true›
        · rename_i x _ hxs
          cases h
          rw [hxs] at hseg
          have hl := hseg.1
          match hu : (arr.toList.drop o).take td.z, hl with
          | [u], _ =>
            rw [hu] at hseg
            have hr0 := hseg.2 0 x u rfl rfl
            refine ⟨u, hr0, ?_⟩
            have hcell : w.cell? ⟨r.g, o, none⟩ = some u := by
              have h1 : ((arr.toList.drop o).take td.z)[0]? = some u := by rw [hu]; rfl
              rw [seg_get, if_pos h0] at h1
              simpa [World.cell?, hheap] using h1
            simp only [loadVar, Sem.run_bind, ha, Result.andThen_ok]
            simp [load, Sem.run, hcell]
        · cases h
  · cases h
/-- A store. -/
theorem poke_ok (hC : C.Ok σ) (hH : RelH σ O w0 E H w) {t b o : Nat} {ys : List AC} {H' : Hp} (h : pokeA C H t b o ys = some H') {r : Rg} (hr : E b = some r) {v : Value} (hv : RelL σ E ys v.cells.toList) :
    ∃ w', (storeVar t ⟨r.g, o, none⟩ v).run C.P w = .ok () w' ∧ RelH σ O w0 E H' w' := by
  unfold pokeA at h
  split at h
  · rename_i td tb z n es ht hb
    cases hc : (Nat.blt 0 td.z && Nat.blt (o / z) n && Nat.ble (o % z + td.z) z && Nat.beq ys.length td.z) with
    | false => rw [hc] at h; cases h
    | true =>
      rw [hc] at h
      simp only [Bool.and_eq_true, Nat.blt_eq, Nat.ble_eq, beq_eq, decide_eq_true_eq] at hc
      obtain ⟨⟨⟨h0, hi⟩, hj⟩, hy⟩ := hc
      obtain ⟨_, q, arr, hq, hz, hheap, hsz, hn, hcap, hes⟩ := hH.blk _ _ hb
      rw [hr] at hq
      cases hq
      obtain ⟨xs, hx, hrel⟩ := hes _ hi
      rw [cond_true, hx] at h
      cases h
      have hdm := divmod o z
      have hlen : o / z * z + z ≤ arr.toList.length := by
        have : (o / z + 1) * z ≤ r.cap * z := Nat.mul_le_mul_right z (by omega)
        rw [Nat.succ_mul] at this
        simp only [Array.length_toList]; omega
      have hvl : v.cells.toList.length = td.z := by rw [← hv.1, hy]
      have hvs : v.cells.size = td.z := by simpa using hvl
      have hok := hC.ty _ _ ht
      obtain ⟨i, zv, hinf, hs, _⟩ := info_of hok
      have hrun := run_storeVar_seg (P := C.P) w r.g o tb t arr v hheap (by simp [hinf, hs, hvs]) (by simp only [Array.length_toList] at hlen; omega) hv.one
      refine ⟨_, hrun, hH.turn hb hr rfl rfl rfl (by simp) (fun k _ hk => setRow_other w r.g k _ hk) ?_⟩
      refine ⟨r, _, hr, hz, setRow_heap w r.g arr _ tb _ hheap, ?_, hn, hcap, fun k hk => ?_⟩
      · simp only [List.size_toArray, List.length_append, List.length_take, List.length_drop, hvs, hvl]
        simp only [Array.length_toList] at hlen ⊢
        omega
      · rw [Tr.get_put]
        have e1 : v.cells.size = v.cells.toList.length := by simp
        rw [e1]
        by_cases hki : k = o / z
        · rw [if_pos hki, hki]
          refine ⟨_, rfl, ?_⟩
          have hh := seg_hit arr.toList v.cells.toList (o / z) z (o % z) (by omega) hlen
          rw [hdm] at hh
          rw [hh]
          exact (hrel.take _).append (hv.append (by rw [hvl]; exact hrel.drop _))
        · rw [if_neg hki]
          obtain ⟨ks, hks, hkr⟩ := hes k hk
          refine ⟨ks, hks, ?_⟩
          have hh := seg_other arr.toList v.cells.toList (o / z) k z (o % z) (by omega) hlen hki
          rw [hdm] at hh
          rw [hh]
          exact hkr
  · cases h
/-- A block that the call makes. -/
theorem new_ok (hH : RelH σ O w0 E H w) {t z n : Nat} {es : Tr (List AC)} {arr : Array Value} (hsz : arr.size = n * z) (hn : n ≤ maxLen) (hes : ∀ i, i < n → ∃ xs, es.get i = some xs ∧ RelL σ E xs ((arr.toList.drop (i * z)).take z)) :
    RelH σ O w0 (E.new H.next ⟨w.heap.size, n, z, 0⟩) (H.push (.rows t z n es)) (w.alloc (.cells arr t (0, 0))) := by
  have hle := hH.le_new ⟨w.heap.size, n, z, 0⟩
  refine hH.push_at (r := ⟨w.heap.size, n, z, 0⟩) ((Below.refl _ _).alloc (Nat.le_refl _) _) (Nat.le_refl _) ⟨⟨w.heap.size, n, z, 0⟩, arr, by simp [Env.new], rfl, by show (w.heap.push _)[w.heap.size]? = _; simp, hsz, Nat.le_refl _, hn, fun i hi => ?_⟩
  obtain ⟨xs, h1, h2⟩ := hes i hi
  exact ⟨xs, h1, h2.mono hle⟩
/-- A new block, or a row that was given up, grown. -/
theorem RelH.push_gen (h : RelH σ O w0 E H w) {bl : Bl} {r : Rg} (hos : w'.os = w.os) (htp : w'.tape = w.tape) (hout : w'.output = w.output) (hsz : w.heap.size ≤ w'.heap.size)
    (hoth : ∀ c bc q, H.bs.get c = some bc → E c = some q → w'.heap[q.g]? = w.heap[q.g]? ∧ q.g ≠ r.g) (hlow : ∀ k, k < w0.heap.size → w'.heap[k]? = w.heap[k]?) (hr : w0.heap.size ≤ r.g)
    (hbl : RelB σ O (E.new H.next r) w' H.next bl) : RelH σ O w0 (E.new H.next r) (H.push bl) w' := by
  have hle := h.le_new r
  have hnew : (E.new H.next r) H.next = some r := by simp [Env.new]
  have hothE : ∀ b, b ≠ H.next → (E.new H.next r) b = E b := fun b hb => by simp [Env.new, hb]
  constructor
  · intro b bl' hget
    simp only [Hp.push, Tr.get_put] at hget
    split at hget
    · rename_i hb'
      subst hb'
      cases hget
      exact ⟨by simp [Hp.push], hbl⟩
    · have h2 := h.blk b bl' hget
      exact ⟨Nat.lt_succ_of_lt h2.1, (h2.2.same fun q e => (hoth b bl' q hget e).1).mono hle⟩
  · intro b hb'
    simp only [Hp.push] at hb'
    rw [hothE b (by omega)]
    exact h.fresh b (by omega)
  · intro b b' bl1 bl2 r1 r2 g1 g2 e1 e2 er
    simp only [Hp.push, Tr.get_put] at g1 g2
    by_cases c1 : b = H.next
    · by_cases c2 : b' = H.next
      · rw [c1, c2]
      · rw [if_neg c2] at g2
        rw [c1, hnew] at e1
        cases e1
        rw [hothE b' c2] at e2
        exact absurd er.symm (hoth b' bl2 r2 g2 e2).2
    · rw [if_neg c1] at g1
      rw [hothE b c1] at e1
      by_cases c2 : b' = H.next
      · rw [c2, hnew] at e2
        cases e2
        exact absurd er (hoth b bl1 r1 g1 e1).2
      · rw [if_neg c2] at g2
        rw [hothE b' c2] at e2
        exact h.apart b b' bl1 bl2 r1 r2 g1 g2 e1 e2 er
  · intro b bl' q g1 e1
    simp only [Hp.push, Tr.get_put] at g1
    by_cases c1 : b = H.next
    · rw [c1, hnew] at e1
      cases e1
      exact hr
    · rw [if_neg c1] at g1
      rw [hothE b c1] at e1
      exact h.high b bl' q g1 e1
  · refine ⟨hos.trans h.below.os, htp.trans h.below.tape, hout.trans h.below.output, Nat.le_trans h.below.size hsz, fun k hk => ?_⟩
    rw [hlow k hk]
    exact h.below.block k hk
end
end Go.Proofs.Ytdfhkmekmockkaa.Rx
