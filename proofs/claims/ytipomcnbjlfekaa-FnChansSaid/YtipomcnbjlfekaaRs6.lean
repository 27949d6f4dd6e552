/- A symbolic machine over the model's operations. Part 6: what makes memory, on values that are known. No program in sight. -/
import Derived.Test.YtipomcnbjlfekaaRs5
namespace Go.Proofs.Ytipomcnbjlfekaa.Rs
open Go.RowKit
set_option linter.unusedVariables false
set_option linter.unusedSimpArgs false

/-! ### Rows of zeros -/
def zeroRep (zero : List Value) : Nat → List AC
  | 0 => []
  | n + 1 => zero.map .v ++ zeroRep zero n
theorem zeroRep_get (zero : List Value) : ∀ n j, (zeroRep zero n)[j]? = if j < n * zero.length then (zero.map AC.v)[j % zero.length]? else none
  | 0, j => by simp [zeroRep]
  | n + 1, j => by
    simp only [zeroRep]
    by_cases h : j < zero.length
    · rw [List.getElem?_append_left (by simpa using h), if_pos (by rw [Nat.succ_mul]; omega), Nat.mod_eq_of_lt h]
    · rw [List.getElem?_append_right (by simp; omega), List.length_map, zeroRep_get zero n]
      rw [Nat.succ_mul]
      by_cases h2 : j < n * zero.length + zero.length
      · rw [if_pos (by omega), if_pos h2, show j % zero.length = (j - zero.length) % zero.length from Nat.mod_eq_sub_mod (by omega)]
      · rw [if_neg (by omega), if_neg h2]
theorem zeroRep_len (zero : List Value) : ∀ n, (zeroRep zero n).length = n * zero.length
  | 0 => by simp [zeroRep]
  | n + 1 => by simp only [zeroRep, List.length_append, List.length_map, zeroRep_len zero n, Nat.succ_mul]; omega
def lenZero (u : AV) : Bool :=
  match lenA u with
  | some n => Nat.beq n 0
  | none => false
/-- What stores and makes memory (no call of a Go function): what it yields, and the heap. -/
def writeE (C : Cfg) (H : Hp) (tm : Tm) : Op → Option (Option SV × Hp)
  | .store t x y =>
    match getO tm x, avO tm y with
    | some (.o (.c (.p b off))), some u => (pokeA C H t b off u.cells).map fun H' => (none, H')
    | _, _ => none
  | .alloc t =>
    match isArr C t, C.ty t with
    | none, some td => some (some (.o (.c (.p H.next 0))), H.push (.rows (some t) td.z 1 (Tr.put .e 0 (some (td.zero.map .v)))))
    | _, _ => none
  | .box t x =>
    match isArr C t, avO tm x with
    | none, some u => some (some (.o (.c (.p H.next 0))), H.push (.rows (some t) u.cells.length 1 (Tr.put .e 0 (some u.cells))))
    | _, _ => none
  | .buildSlice t len parts =>
    match C.ty t with
    | some ⟨.slice e, _, _, _⟩ =>
      match C.ty e, partsO tm parts.toList with
      | some de, some ps =>
        bif Nat.blt 0 de.z && Nat.ble (len * de.z) 16777216 then
          match fillA (fun i => some (i * de.z, de.z)) (zeroRep de.zero len) ps with
          | some cs => some (some (.o (.c (.sl H.next 0 len))), H.push (.rows (some e) de.z len (chunkE de.z cs len)))
          | none => none
        else none
      | _, _ => none
    | _ => none
  | .call { callee := .builtin .append, args, argTypes } =>
    match args.toList, argTypes.toList with
    | [x, y], [t, t'] =>
      match C.ty t, avO tm x, avO tm y with
      | some ⟨.slice e, _, _, _⟩, some u, some v =>
        bif Nat.beq t t' then
          match C.ty e with
          | some de =>
            bif lenZero v then
              match u with
              | .c (.v (.slice none 0 0)) => some (some (.o u), H)
              | .c (.sl b i n) => some (some (.o u), H)
              | _ => none
            else
              match v with
              | .c (.sl b2 i2 m) =>
                match H.bs.get b2 with
                | some (.rows _ z2 n2 es2) =>
                  match u with
                  | .c (.v (.slice none 0 0)) =>
                    bif Nat.beq z2 de.z && Nat.ble (i2 + m) n2 && Nat.blt 0 m && Nat.blt 0 de.z && Nat.ble (m * de.bytes) 1000000000000 && Nat.ble m 1000000000 then
                      some (some (.o (.c (.sl H.next 0 m))), H.push (.rows (some e) de.z m (copyE es2 i2 m .e 0)))
                    else none
                  | .c (.sl b 0 n) =>
                    match H.bs.get b with
                    | some (.rows (some tb) z nb es) =>
                      bif Nat.beq z2 de.z && Nat.ble (i2 + m) n2 && Nat.blt 0 m && Nat.blt 0 de.z && Nat.ble ((n + m) * de.bytes) 1000000000000 && Nat.ble (n + m) 1000000000 && (Nat.beq tb e && Nat.beq z de.z && Nat.ble n nb) then
                        some (some (.o (.c (.sl H.next 0 (n + m)))), Hp.push { H with bs := H.bs.put b none } (.rows (some e) de.z (n + m) (copyE es2 i2 m es n)))
                      else none
                    | _ => none
                  | _ => none
                | _ => none
              | _ => none
          | none => none
        else none
      | _, _, _ => none
    | _, _ => none
  | _ => none

section
variable {C : Cfg} {fr : Fr} {E : Env} {N : Nat} {tm : Tm} {a : Act} {w0 : World} {H : Hp} {w w' : World}
theorem divmod (o z : Nat) : o / z * z + o % z = o := by rw [Nat.mul_comm]; exact Nat.div_add_mod o z
/-- What lies at a place is what the model loads there. -/
theorem peek_ok (hC : C.Ok) (hH : RelH fr w0 E H w) {t b o : Nat} {av : AV} (h : peekA C H t b o = some av) {r : Rg} {g : Nat} (hr : E b = some r) (hg : r.own = some g) : ∃ v, RelV E av v ∧ (loadVar t ⟨g, r.lo + o, none⟩).run C.P w = .ok v w := by
  unfold peekA at h
  split at h
  · rename_i td tb z n es ht hb
    cases hc : (Nat.blt 0 td.z && Nat.blt (o / z) n && Nat.ble (o % z + td.z) z) with
    | false => rw [hc] at h; cases h
    | true =>
      rw [hc] at h
      simp only [Bool.and_eq_true, Nat.blt_eq, Nat.ble_eq] at hc
      obtain ⟨⟨h0, hi⟩, hj⟩ := hc
      obtain ⟨_, q, g', arr, hq, hg', hz, hheap, hwh, hsz, _, hn, hcap, _, hes⟩ := hH.blk _ _ hb
      rw [hr] at hq
      cases hq
      rw [hg] at hg'; cases hg'
      obtain ⟨xs, hx, hrel⟩ := hes _ hi
      have hdm := divmod o z
      have hlen : o / z * z + z ≤ r.cap * z := by
        have : (o / z + 1) * z ≤ r.cap * z := Nat.mul_le_mul_right z (by omega)
        rw [Nat.succ_mul] at this
        exact this
      have hseg : RelL E ((xs.drop (o % z)).take td.z) ((arr.toList.drop (r.lo + o)).take td.z) := by
        have := (hrel.drop (o % z)).take td.z
        rw [List.drop_take, List.take_take, Nat.min_eq_left (by omega), List.drop_drop, show r.lo + o / z * z + o % z = r.lo + o by omega] at this
        exact this
      rw [cond_true, hx] at h
      have hok := hC.ty _ _ ht
      have ha := isAgg_run hok w
      cases hagg : td.d.agg with
      | true =>
        rw [hagg] at h ha
        cases h
        exact ⟨_, ⟨_, rfl, by simpa using hseg⟩, run_loadVar_seg w g (r.lo + o) r.t t arr (0, 0) td.z hheap ha (sizeOf_run hok w) (by omega)⟩
      | false =>
        rw [hagg] at h ha
        simp only at h
        split at h
        · cases ‹false = true›
        · rename_i x _ hxs
          cases h
          rw [hxs] at hseg
          have hl := hseg.1
          match hu : (arr.toList.drop (r.lo + o)).take td.z, hl with
          | [u], _ =>
            rw [hu] at hseg
            have hr0 := hseg.2 0 x u rfl rfl
            refine ⟨u, hr0, ?_⟩
            have hcell : w.cell? ⟨g, r.lo + o, none⟩ = some u := by
              have h1 : ((arr.toList.drop (r.lo + o)).take td.z)[0]? = some u := by rw [hu]; rfl
              rw [seg_get, if_pos h0] at h1
              simpa [World.cell?, hheap] using h1
            simp only [loadVar, Sem.run_bind, ha, Result.andThen_ok]
            simp [load, Sem.run, hcell]
        · cases h
  · cases h
theorem splice_drop {α : Type} (l vs : List α) (lo x : Nat) (h : lo + x + vs.length ≤ l.length) : (l.take (lo + x) ++ (vs ++ l.drop (lo + x + vs.length))).drop lo = (l.drop lo).take x ++ (vs ++ (l.drop lo).drop (x + vs.length)) := by
  rw [List.drop_append_of_le_length (by rw [List.length_take]; omega), List.drop_take, List.drop_drop, show lo + x - lo = x by omega, Nat.add_assoc]
/-- A store. -/
theorem poke_ok (hC : C.Ok) (hH : RelH fr w0 E H w) {t b o : Nat} {ys : List AC} {H' : Hp} (h : pokeA C H t b o ys = some H') {r : Rg} {g : Nat} (hr : E b = some r) (hg : r.own = some g) {v : Value} (hv : RelL E ys v.cells.toList) :
    ∃ w', (storeVar t ⟨g, r.lo + o, none⟩ v).run C.P w = .ok () w' ∧ RelH fr w0 E H' w' := by
  unfold pokeA at h
  split at h
  · rename_i td tb z n es ht hb
    cases hc : (Nat.blt 0 td.z && Nat.blt (o / z) n && Nat.ble (o % z + td.z) z && Nat.beq ys.length td.z) with
    | false => rw [hc] at h; cases h
    | true =>
      rw [hc] at h
      simp only [Bool.and_eq_true, Nat.blt_eq, Nat.ble_eq, beq_eq, decide_eq_true_eq] at hc
      obtain ⟨⟨⟨h0, hi⟩, hj⟩, hy⟩ := hc
      obtain ⟨_, q, g', arr, hq, hg', hz, hheap, hwh, hsz, hne, hn, hcap, htt, hes⟩ := hH.blk _ _ hb
      rw [hr] at hq
      cases hq
      rw [hg] at hg'; cases hg'
      obtain ⟨xs, hx, hrel⟩ := hes _ hi
      rw [cond_true, hx] at h
      cases h
      have hdm := divmod o z
      have hlen0 : o / z * z + z ≤ r.cap * z := by
        have : (o / z + 1) * z ≤ r.cap * z := Nat.mul_le_mul_right z (by omega)
        rw [Nat.succ_mul] at this
        exact this
      have hA : arr.toList.length = arr.size := Array.length_toList
      have hvl : v.cells.toList.length = td.z := by rw [← hv.1, hy]
      have hvs : v.cells.size = td.z := by simpa using hvl
      have hok := hC.ty _ _ ht
      obtain ⟨i, zv, hinf, hs, _⟩ := info_of hok
      have hrun := run_storeVar_seg (P := C.P) w g (r.lo + o) r.t t arr v hheap (by simp [hinf, hs, hvs]) (by omega) hv.one
      have e1 : v.cells.size = v.cells.toList.length := by simp
      have hsize : (arr.toList.take (r.lo + o) ++ (v.cells.toList ++ arr.toList.drop (r.lo + o + v.cells.size))).toArray.size = arr.size := by
        simp only [List.size_toArray, List.length_append, List.length_take, List.length_drop, hvs, hvl]
        omega
      refine ⟨_, hrun, hH.turn hb hr ((Keeps.setRow hheap hsize (fun x => r.lo + o ≤ x ∧ x < r.lo + o + v.cells.size) ?_).sub ?_) ?_⟩
      · intro x hx
        simp only [List.getElem?_toArray]
        rw [e1, splice_get arr.toList v.cells.toList (r.lo + o) (by omega)]
        rw [e1] at hx
        by_cases h1 : x < r.lo + o
        · rw [if_pos h1]; simp
        · rw [if_neg h1, if_neg (by omega)]; simp
      · intro g2 o2 hno he2
        refine hno ⟨by rw [hg, he2.1], .inr ⟨by omega, ?_⟩⟩
        have := he2.2
        rw [hz]
        omega
      · refine ⟨r, g, _, hr, hg, hz, setRow_heap w g arr _ r.t _ hheap, fun hw => by rw [hsize]; exact hwh hw, by rw [hsize]; exact hsz, hne, hn, hcap, htt, fun k hk => ?_⟩
        rw [Tr.get_put]
        have hlen : o / z * z + z ≤ (arr.toList.drop r.lo).length := by rw [List.length_drop]; omega
        have hd := splice_drop arr.toList v.cells.toList r.lo o (by omega)
        have e3 : ∀ m, (arr.toList.take (r.lo + o) ++ (v.cells.toList ++ arr.toList.drop (r.lo + o + v.cells.size))).toArray.toList.drop (r.lo + m) = ((arr.toList.drop r.lo).take o ++ (v.cells.toList ++ (arr.toList.drop r.lo).drop (o + v.cells.toList.length))).drop m := fun m => by
          rw [show (arr.toList.take (r.lo + o) ++ (v.cells.toList ++ arr.toList.drop (r.lo + o + v.cells.size))).toArray.toList = arr.toList.take (r.lo + o) ++ (v.cells.toList ++ arr.toList.drop (r.lo + o + v.cells.size)) from rfl, show r.lo + m = m + r.lo by omega]
          rw [show ∀ (l : List Value), l.drop (m + r.lo) = (l.drop r.lo).drop m from fun l => by rw [List.drop_drop]; congr 1; omega]
          rw [e1, hd]
        by_cases hki : k = o / z
        · rw [if_pos hki, hki]
          refine ⟨_, rfl, ?_⟩
          have hh := seg_hit (arr.toList.drop r.lo) v.cells.toList (o / z) z (o % z) (by omega) hlen
          rw [hdm] at hh
          rw [e3, hh, List.drop_drop]
          exact (hrel.take _).append (hv.append (by rw [hvl]; exact hrel.drop _))
        · rw [if_neg hki]
          obtain ⟨ks, hks, hkr⟩ := hes k hk
          refine ⟨ks, hks, ?_⟩
          have hh := seg_other (arr.toList.drop r.lo) v.cells.toList (o / z) k z (o % z) (by omega) hlen hki
          rw [hdm] at hh
          rw [e3, hh, List.drop_drop]
          exact hkr
  · cases h
/-- A block that the call makes. -/
theorem new_ok (hH : RelH fr w0 E H w) {t z n : Nat} {es : Tr (List AC)} {arr : Array Value} (hsz : arr.size = n * z) (hn : n ≤ maxLen) (hes : ∀ i, i < n → ∃ xs, es.get i = some xs ∧ RelL E xs ((arr.toList.drop (i * z)).take z)) :
    RelH fr w0 (E.new H.next ⟨some w.heap.size, 0, n, z, t, true, .slice (some ⟨w.heap.size, 0, none⟩) n n⟩) (H.push (.rows (some t) z n es)) (w.alloc (.cells arr t (0, 0))) := by
  have hle := hH.le_new ⟨some w.heap.size, 0, n, z, t, true, .slice (some ⟨w.heap.size, 0, none⟩) n n⟩
  obtain ⟨n1, n2⟩ := hH.newg (r := ⟨some w.heap.size, 0, n, z, t, true, .slice (some ⟨w.heap.size, 0, none⟩) n n⟩) (g := w.heap.size) rfl (Nat.le_refl _)
  refine hH.push_at (K := fun _ _ => True) (Keeps.of_below ((Below.refl _ _).alloc (Nat.le_refl _) _)) (fun _ _ _ _ _ _ _ _ => trivial) n1 (fun _ _ _ => trivial) n2 ⟨_, w.heap.size, arr, Env.new_get _ _ _, rfl, rfl, by show (w.heap.push _)[w.heap.size]? = _; simp, fun _ => ⟨rfl, hsz⟩, by simp [hsz], .inl rfl, Nat.le_refl _, hn, fun t' h => by cases h; exact ⟨rfl, rfl⟩, fun i hi => ?_⟩
  obtain ⟨xs, h1, h2⟩ := hes i hi
  exact ⟨xs, h1, by rw [Nat.zero_add]; exact h2.mono hle⟩
end

section
variable {C : Cfg} {fr : Fr} {E : Env} {N : Nat} {tm : Tm} {a : Act} {w0 : World} {H : Hp} {w w' : World}
theorem repl_rel {P : Program} {t : TypeId} {d : Td} (h : d.Ok P t) (zv : Array Value) (hzv : zv.toList = d.zero) (n : Nat) (hz : 0 < d.z) : RelL E (zeroRep d.zero n) ((Array.range (n * d.z)).map (zv[· % zv.size]!)).toList := by
  have hs : zv.size = d.z := by rw [← h.len, ← hzv]; simp
  refine ⟨by rw [zeroRep_len, h.len]; simp, fun j x u hx hu => ?_⟩
  rw [zeroRep_get, h.len] at hx
  split at hx
  · rename_i hj
    have hlt : j % d.z < zv.size := by rw [hs]; exact Nat.mod_lt _ hz
    have hx' : d.zero[j % d.z]? = some zv[j % d.z] := by rw [← hzv]; simp [hlt]
    rw [List.getElem?_map, hx'] at hx
    cases hx
    have hu' : u = zv[j % zv.size]! := by
      simp [Array.getElem?_map, hj] at hu
      exact hu.symm
    have h2 : j % zv.size < zv.size := Nat.mod_lt _ (by rw [hs]; exact hz)
    have hbang : zv[j % zv.size]! = zv[j % d.z] := by
      rw [getElem!_pos zv _ h2]
      simp only [hs]
    rw [hu', hbang]
    exact ⟨rfl, List.all_eq_true.1 h.one _ (List.mem_of_getElem? hx')⟩
  · cases hx
/-- The elements of a row, as they are appended. -/
theorem news_of {E : Env} {w : World} {b2 i2 m n2 z : Nat} {t2 : Option Nat} {es2 : Tr (List AC)} {r2 : Rg} {g2 : Nat} (hb : RelB fr E w b2 (.rows t2 z n2 es2)) (hr : E b2 = some r2) (hg : r2.own = some g2) (hw : r2.whole = true) (hm : i2 + m ≤ n2) :
    ∃ news : List Value, news.length = m * z ∧ (∀ j u, news[j]? = some u → w.cell? ((⟨g2, i2 * r2.z, none⟩ : Addr).add j) = some u) ∧ (∀ u ∈ news, u.oneCell' = true) ∧
      ∀ k, k < m → ∃ xs, es2.get (i2 + k) = some xs ∧ RelL E xs ((news.drop (k * z)).take z) := by
  obtain ⟨q, g', arr, hq, hg', hz, hheap, hwh, hsz, _, hn, hcap, _, hes⟩ := hb
  rw [hr] at hq
  cases hq
  rw [hg] at hg'; cases hg'
  obtain ⟨hlo, hsz⟩ := hwh hw
  rw [hlo] at hes
  simp only [Nat.zero_add] at hes
  have hlen : (i2 + m) * z ≤ arr.toList.length := by
    have : (i2 + m) * z ≤ r2.cap * z := Nat.mul_le_mul_right z (by omega)
    simp only [Array.length_toList]; omega
  rw [Nat.add_mul] at hlen
  have hseg : ∀ k, k < m → (((arr.toList.drop (i2 * z)).take (m * z)).drop (k * z)).take z = (arr.toList.drop ((i2 + k) * z)).take z := by
    intro k hk
    have : (k + 1) * z ≤ m * z := Nat.mul_le_mul_right z hk
    rw [Nat.succ_mul] at this
    rw [take_of_take _ _ _ _ this, List.drop_drop, Nat.add_mul]
  refine ⟨(arr.toList.drop (i2 * z)).take (m * z), by rw [List.length_take, List.length_drop]; omega, fun j u hu => ?_, fun u hu => ?_, fun k hk => ?_⟩
  · rw [addr_add, hz]
    rw [seg_get] at hu
    split at hu
    · simpa [World.cell?, hheap] using hu
    · cases hu
  · obtain ⟨j, hj⟩ := List.getElem?_of_mem hu
    have hj' := hj
    rw [seg_get] at hj
    split at hj
    · rename_i hlt
      have hz0 : 0 < z := by rcases Nat.eq_zero_or_pos z with h | h; subst h; omega; exact h
      have hk : j / z < m := by rw [Nat.div_lt_iff_lt_mul hz0]; exact hlt
      obtain ⟨xs, _, hx⟩ := hes (i2 + j / z) (by omega)
      refine hx.one u ?_
      refine List.mem_of_getElem? (i := j % z) ?_
      rw [seg_get, if_pos (Nat.mod_lt _ hz0)]
      rw [← hj]
      congr 1
      have := divmod j z
      rw [Nat.add_mul]; omega
    · cases hj
  · obtain ⟨xs, h1, h2⟩ := hes (i2 + k) (by omega)
    refine ⟨xs, h1, ?_⟩
    rw [hseg k hk]
    exact h2
theorem append_none {t e : TypeId} {inf : TypeInfo} (hun : C.P.underlying t = some (.slice e)) (hinf : C.P.info? e = some inf) {o : Oper} {x y : Operand} (ho : o.op = .call { callee := .builtin .append, args := #[x, y], argTypes := #[t, t] }) {ad : Option Addr} {c : Nat} (hey : a.eval y = .slice ad 0 c) :
    ∀ base n cap, n ≤ cap → a.eval x = .slice base n cap → (execOp a.eval o).run C.P w = .ok (.value (.slice base n cap)) w := by
  intro base n cap hle hex
  unfold execOp; rw [ho]
  have hr0 : (Builtin.append_ #[t, t] o.type #[.slice base n cap, .slice ad 0 c]).run C.P w = .ok (.slice base n cap) w := by
    cases base <;> cases ad <;> simp [Builtin.append_, Builtin.lenOf, Builtin.firstCells, loadCells, loadCellsFrom, underlying_run' hun, sizeOf, typeInfo, hinf, hle, storeCells, Sem.run_bind]
  simp only [resolve, invoke, builtin, Sem.run_bind, Sem.run_pure, Result.andThen_ok, List.map_toArray, List.map_cons, List.map_nil, hex, hey, hr0]
/-- A row that is given up and grown: what else there is lies elsewhere. -/
theorem RelH.grown_facts (hH : RelH fr w0 E H w) {b : Nat} {bl : Bl} {r1 : Rg} {g1 : Nat} (hb : H.bs.get b = some bl) (hr1 : E b = some r1) (hg1 : r1.own = some g1) (hwh : r1.whole = true) {r : Rg} {g : Nat} (ho : r.own = some g) (hg : g = g1 ∨ w.heap.size ≤ g) :
    (∀ c bc q g' o, (H.bs.put b none).get c = some bc → E c = some q → q.has g' o → some g1 ≠ some g') ∧ (∀ c bc q g' o, (H.bs.put b none).get c = some bc → E c = some q → q.has g' o → ¬ r.has g' o) ∧ (∀ g' o, fr g' o → some g1 ≠ some g') ∧ (∀ g' o, r.has g' o → ¬ fr g' o) := by
  have hget : ∀ c bc, (H.bs.put b none).get c = some bc → c ≠ b ∧ H.bs.get c = some bc := fun c bc hc => by
    rw [Tr.get_put] at hc
    split at hc
    · cases hc
    · exact ⟨by assumption, hc⟩
  have hall : ∀ o, r1.has g1 o := fun o => ⟨hg1, .inl hwh⟩
  have k1 : ∀ c bc q g' o, (H.bs.put b none).get c = some bc → E c = some q → q.has g' o → some g1 ≠ some g' := fun c bc q g' o hc he hq e => by
    cases e
    obtain ⟨hne, hc⟩ := hget c bc hc
    exact hne (hH.apart c b bc bl q r1 g1 o hc hb he hr1 hq (hall o))
  have k3 : ∀ g' o, fr g' o → some g1 ≠ some g' := fun g' o hf e => by cases e; exact hH.free b bl r1 g1 o hb hr1 (hall o) hf
  refine ⟨k1, fun c bc q g' o hc he hq hr => ?_, k3, fun g' o hr hf => ?_⟩
  · have e := hr.1
    rw [ho] at e; cases e
    rcases hg with rfl | hg
    · exact k1 c bc q g o hc he hq rfl
    · obtain ⟨q', e', hlt⟩ := (hH.blk c bc (hget c bc hc).2).2.lt
      rw [he] at e'; cases e'
      have := hlt g hq.1
      omega
  · have e := hr.1
    rw [ho] at e; cases e
    rcases hg with rfl | hg
    · exact k3 g o hf rfl
    · have := hH.frlt g o hf
      have := hH.keep.size
      omega
theorem wp_value {o : Oper} {Q : Exit → Act → World → Prop} {K : Act → World → Prop} {v : Value} {w w' : World} {P : Program} (h : (execOp a.eval o).run P w = .ok (.value v) w') (hk : K (a.put o.dst v) w') : o.wp P a w K Q := by
  unfold Oper.wp
  rw [h]
  exact hk
theorem wp_skip' {o : Oper} {Q : Exit → Act → World → Prop} {K : Act → World → Prop} {w w' : World} {P : Program} (h : (execOp a.eval o).run P w = .ok .skip w') (hk : K (a.put o.dst undef) w') : o.wp P a w K Q := by
  unfold Oper.wp
  rw [h]
  exact hk
theorem alloc_run {P : Program} {s : Sem Value} {v : Value} {w w' : World} (h : s.run P w = .ok v w') : ((do pure (.value (← s))) : Sem Next).run P w = .ok (.value v) w' := by
  simp [Sem.run_bind, h]
theorem newVar_run {P : Program} (t : TypeId) (v : Value) (w : World) : ((do pure (.pointer (some (← newVar t v)))) : Sem Value).run P w = .ok (.pointer (some ⟨w.heap.size, 0, none⟩)) (w.alloc (.cells v.cells t (0, 0))) := by
  simp only [newVar, newRow, newObj, Sem.run_bind]
  rfl
def Told (E : Env) : Option SV → Value → Prop
  | some sv, v => RelS E sv v
  | none, v => v = undef
/-- What stores and makes memory is done by the model. -/
theorem writeE_ok (hC : C.Ok) (hH : RelH fr w0 E H w) (hT : RelT E N tm a) {o : Oper} {r : Option SV} {H' : Hp} (h : writeE C H tm o.op = some (r, H')) {Q : Exit → Act → World → Prop} {K : Act → World → Prop}
    (hK : ∀ E' w' v, E.le E' → E'.q = E.q → RelH fr w0 E' H' w' → Told E' r v → K (a.put o.dst v) w') : o.wp C.P a w K Q := by
  cases ho : o.op with
  | store t x y =>
    rw [ho] at h
    simp only [writeE] at h
    split at h
    · rename_i b off u hx hu
      obtain ⟨H2, hp, he⟩ := Option.map_eq_some_iff.1 h
      cases he
      obtain ⟨q, g, hq, hg, hev⟩ := getO_rel hT hx
      obtain ⟨w', hrun, hH'⟩ := poke_ok hC hH hp hq hg (avO_rel hT hu).cells
      refine wp_skip' ?_ (hK E w' undef (Env.le_refl E) rfl hH' rfl)
      unfold execOp; rw [ho]
      simp [Instr.storeAt, Instr.sureAddr, Sem.run_bind, hev, hrun]
    · cases h
  | alloc t =>
    rw [ho] at h
    simp only [writeE] at h
    split at h
    · rename_i td _ ht
      cases h
      have hok := hC.ty _ _ ht
      obtain ⟨zv, hz, hzc⟩ := zeroValue_run hok w
      have hsz : zv.cells.size = 1 * td.z := by rw [Nat.one_mul, ← hok.len, ← hzc]; simp
      have hnew := new_ok (t := t) (z := td.z) (n := 1) (es := Tr.put .e 0 (some (td.zero.map .v))) (arr := zv.cells) hH hsz (by simp [maxLen]) (fun i hi => by
        obtain rfl : i = 0 := by omega
        refine ⟨_, by rw [Tr.get_put]; rfl, ?_⟩
        rw [Nat.zero_mul, List.drop_zero, hzc, List.take_of_length_le (by rw [hok.len]; exact Nat.le_refl _)]
        exact zero_rel hok)
      refine wp_value ?_ (hK _ _ (.pointer (some ⟨w.heap.size, 0, none⟩)) (hH.le_new _) rfl hnew ⟨_, w.heap.size, Env.new_get _ _ _, rfl, rfl⟩)
      unfold execOp; rw [ho]
      refine alloc_run ?_
      simp only [Instr.alloc, Sem.run_bind, hz, Result.andThen_ok]
      exact newVar_run t zv w
    · cases h
  | box t x =>
    rw [ho] at h
    simp only [writeE] at h
    split at h
    · rename_i u _ hu
      cases h
      have hr := (avO_rel hT hu).cells
      have hsz : (a.eval x).cells.size = 1 * u.cells.length := by rw [Nat.one_mul, hr.1]; simp
      have hnew := new_ok (t := t) (z := u.cells.length) (n := 1) (es := Tr.put .e 0 (some u.cells)) (arr := (a.eval x).cells) hH hsz (by simp [maxLen]) (fun i hi => by
        obtain rfl : i = 0 := by omega
        refine ⟨_, by rw [Tr.get_put]; rfl, ?_⟩
        rw [Nat.zero_mul, List.drop_zero, List.take_of_length_le (by rw [hr.1]; exact Nat.le_refl _)]
        exact hr)
      refine wp_value ?_ (hK _ _ (.pointer (some ⟨w.heap.size, 0, none⟩)) (hH.le_new _) rfl hnew ⟨_, w.heap.size, Env.new_get _ _ _, rfl, rfl⟩)
      unfold execOp; rw [ho]
      exact alloc_run (newVar_run t (a.eval x) w)
    · cases h
  | buildSlice t len parts =>
    rw [ho] at h
    simp only [writeE] at h
    split at h
    · rename_i e z zero bt ht
      split at h
      · rename_i de ps he hp
        cases hc : (Nat.blt 0 de.z && Nat.ble (len * de.z) 16777216) with
        | false => rw [hc] at h; cases h
        | true =>
          rw [hc, cond_true] at h
          simp only [Bool.and_eq_true, Nat.blt_eq, Nat.ble_eq] at hc
          split at h
          · rename_i cs hf
            cases h
            have hok := hC.ty _ _ he
            have hu : C.P.underlying t = some (.slice e) := (hC.ty _ _ ht).desc
            obtain ⟨zv, hz, hzc⟩ := zeroValue_run hok w
            obtain ⟨hl, hr⟩ := partsO_rel hT parts.toList hp
            have hzr : RelL E (zeroRep de.zero len) ((Array.range (len * de.z)).map ((if len * de.z = 0 then #[] else zv.cells)[· % (if len * de.z = 0 then #[] else zv.cells).size]!)).toList := by
              by_cases h0 : len * de.z = 0
              · rw [h0]
                have : len = 0 := by rcases Nat.mul_eq_zero.1 h0 with h | h; exact h; omega
                subst this
                simpa [zeroRep] using (RelL.nil : RelL E [] [])
              · rw [if_neg h0]
                exact repl_rel hok zv.cells hzc len hc.1
            obtain ⟨arr, h1, h2⟩ := fill_rel (E := E) (place := fun i => some (i * de.z, de.z)) ps (parts.toList.map fun (i, x) => (i, a.eval x)) _ _ hzr hl hr hf
            have hlen : cs.length = len * de.z := by
              have : ∀ (l : List (Nat × List AC)) (c0 c1 : List AC), fillA (fun i => some (i * de.z, de.z)) c0 l = some c1 → c1.length = c0.length := by
                intro l
                induction l with
                | nil => intro c0 c1 hc1; cases hc1; rfl
                | cons p l ih =>
                  intro c0 c1 hc1
                  obtain ⟨i, ys⟩ := p
                  simp only [fillA] at hc1
                  cases hq : (Nat.beq ys.length de.z && Nat.ble (i * de.z + ys.length) c0.length) with
                  | false => rw [hq] at hc1; cases hc1
                  | true =>
                    rw [hq] at hc1
                    simp only [Bool.and_eq_true, Nat.ble_eq] at hq
                    have := ih _ _ hc1
                    simp only [List.length_append, List.length_take, List.length_drop] at this
                    omega
              rw [this _ _ _ hf, zeroRep_len, hok.len]
            have hasz : arr.size = len * de.z := by rw [← hlen, h2.1]; simp
            have hnew := new_ok (t := e) (z := de.z) (n := len) (es := chunkE de.z cs len) (arr := arr) hH hasz (by have := Nat.le_mul_of_pos_right len hc.1; simp only [maxLen]; omega) (fun i hi => ⟨_, chunkE_get de.z cs len i hi, (h2.drop _).take _⟩)
            refine wp_value ?_ (hK _ _ (.slice (some ⟨w.heap.size, 0, none⟩) len len) (hH.le_new _) rfl hnew ⟨_, w.heap.size, Env.new_get _ _ _, rfl, rfl, by simp, by simp⟩)
            unfold execOp; rw [ho]
            refine alloc_run ?_
            have hps : (parts.map fun (i, x) => (i, a.eval x)).toList = parts.toList.map fun (i, x) => (i, a.eval x) := by simp
            have hlim : ¬ len * de.z > 2 ^ 24 := by omega
            by_cases h0 : len * de.z = 0
            · simp only [if_pos h0] at h1
              simp only [Instr.buildSlice, Sem.run_bind, underlying_run' hu, Result.andThen_ok, sizeOf_run hok, hlim, if_false, if_pos h0, Sem.run_pure, hps, h1, newRow, newObj]
              rfl
            · simp only [if_neg h0] at h1
              simp only [Instr.buildSlice, Sem.run_bind, underlying_run' hu, Result.andThen_ok, sizeOf_run hok, hlim, if_false, if_neg h0, hz, Sem.run_pure, hps, h1, newRow, newObj]
              rfl
          · cases h
      · cases h
    · cases h
  | call c =>
    rw [ho] at h
    obtain ⟨callee, args, argTypes⟩ := c
    cases callee with
    | value f => simp [writeE] at h
    | invoke f m => simp [writeE] at h
    | builtin b =>
      cases b with
      | append =>
        simp only [writeE] at h
        split at h
        · rename_i x y t t' hargs htys
          obtain rfl : args = #[x, y] := by apply Array.toList_inj.1; simpa using hargs
          obtain rfl : argTypes = #[t, t'] := by apply Array.toList_inj.1; simpa using htys
          split at h
          · rename_i e z zero bt u v ht hu hv
            rw [beq_eq, cond_decide] at h
            split at h
            · rename_i htt
              subst htt
              split at h
              · rename_i de he
                have hok := hC.ty _ _ he
                have hun : C.P.underlying t = some (.slice e) := (hC.ty _ _ ht).desc
                obtain ⟨inf, zv, hinf, hisz, hiz, hzc, hby⟩ := info_of hok
                have hru := avO_rel hT hu
                have hrv := avO_rel hT hv
                cases hz0 : lenZero v with
                | true =>
                  rw [hz0, cond_true] at h
                  have hs : ∃ ad c, a.eval y = .slice ad 0 c := by
                    unfold lenZero at hz0
                    split at hz0
                    · rename_i n hn
                      have hn0 : n = 0 := Nat.eq_of_beq_eq_true hz0
                      subst hn0
                      unfold lenA at hn
                      split at hn
                      · exact ⟨none, 0, hrv.1⟩
                      · cases hn; obtain ⟨q, _, _, _, _, _, he⟩ := hrv; exact ⟨_, _, he⟩
                      · obtain ⟨ad, c, he⟩ := hrv; exact ⟨ad, c, he⟩
                      · cases hn
                    · cases hz0
                  obtain ⟨ad, c, hey⟩ := hs
                  have hrun := append_none hun hinf ho (a := a) (w := w) (C := C) hey
                  split at h
                  · cases h
                    exact wp_value (hrun none 0 0 (Nat.le_refl _) hru.1) (hK E w _ (Env.le_refl E) rfl hH ⟨rfl, rfl⟩)
                  · rename_i b i n
                    cases h
                    obtain ⟨q, g, hq, hg, hwh, hle, hex⟩ := hru
                    exact wp_value (hrun _ _ _ (by omega) hex) (hK E w _ (Env.le_refl E) rfl hH ⟨q, g, hq, hg, hwh, hle, rfl⟩)
                  · cases h
                | false =>
                  rw [hz0, cond_false] at h
                  split at h
                  · rename_i b2 i2 m
                    split at h
                    · rename_i t2 z2 n2 es2 hb2
                      obtain ⟨_, hB2⟩ := hH.blk _ _ hb2
                      obtain ⟨r2, g2, hr2, hg2, hwh2, hle2, hey⟩ := hrv
                      split at h
                      · -- onto a nil slice
                        cases hc : (Nat.beq z2 de.z && Nat.ble (i2 + m) n2 && Nat.blt 0 m && Nat.blt 0 de.z && Nat.ble (m * de.bytes) 1000000000000 && Nat.ble m 1000000000) with
                        | false => rw [hc] at h; cases h
                        | true =>
                          rw [hc, cond_true] at h
                          cases h
                          simp only [Bool.and_eq_true, Nat.blt_eq, Nat.ble_eq, beq_eq, decide_eq_true_eq] at hc
                          obtain ⟨⟨⟨⟨⟨hzz, hm2⟩, hm0⟩, hde⟩, hbb⟩, hmm⟩ := hc
                          subst hzz
                          obtain ⟨news, hnl, hnc, hn1, hns⟩ := news_of hB2 hr2 hg2 hwh2 hm2
                          refine wp_append_lies w x y t ho 0 e inf zv de.z de.bytes hun hinf hiz hisz hby (by rw [← hok.len, ← hzc]; simp) hde (.slice none 0 0) 0 [] hru.1 ⟨by simp, .inl ⟨rfl, rfl⟩⟩ _ m _ news hey hnl hnc hn1 hm0 (by simp only [maxLen]; omega) (by rw [Nat.zero_add]; omega) (Nat.zero_le _) _ rfl ?_
                          intro g cap w' hown hgrow hat hlt
                          simp only [Nat.zero_add, List.nil_append] at hown ⊢
                          have hg : g = w.heap.size := by rcases hat with h | h; cases h; exact h
                          obtain ⟨hol, hoo⟩ := hown
                          rcases hoo with ⟨_, hbad⟩ | ⟨g', cap', cur, hv', _, hheap, hnc', hcm, hcs, htake⟩
                          · omega
                          · cases hv'
                            obtain ⟨n1, n2⟩ := hH.newg (r := ⟨some g, 0, cap, de.z, e, true, .slice (some ⟨g, 0, none⟩) m cap⟩) (g := g) rfl (by omega)
                            have hnew := hH.push_at (bl := .rows (some e) de.z m (copyE es2 i2 m .e 0)) (Keeps.grown hgrow) (fun _ _ _ _ _ _ _ _ => by simp [Value.ownBlock]) n1 (fun _ _ _ => by simp [Value.ownBlock]) n2 ⟨_, g, cur, Env.new_get _ _ _, rfl, rfl, hheap, fun _ => ⟨rfl, hcs⟩, by simp [hcs], .inl rfl, hnc', hcm, fun t' h => by cases h; exact ⟨rfl, rfl⟩, fun k hk => by
                              obtain ⟨xs, h1, h2⟩ := hns k hk
                              refine ⟨xs, by rw [copyE_get, if_pos (by omega), Nat.sub_zero]; exact h1, ?_⟩
                              have hk2 : k * de.z + de.z ≤ m * de.z := by have : (k + 1) * de.z ≤ m * de.z := Nat.mul_le_mul_right _ hk; rw [Nat.succ_mul] at this; exact this
                              rw [Nat.zero_add, ← take_of_take _ (m * de.z) _ _ hk2, htake]
                              exact h2.mono (hH.le_new _)⟩
                            exact hK _ w' _ (hH.le_new _) rfl hnew ⟨_, g, Env.new_get _ _ _, rfl, rfl, by simp; omega, by simp⟩
                      · -- onto a row
                        rename_i b n
                        split at h
                        · rename_i tb zb nb es hb
                          cases hc : (Nat.beq z2 de.z && Nat.ble (i2 + m) n2 && Nat.blt 0 m && Nat.blt 0 de.z && Nat.ble ((n + m) * de.bytes) 1000000000000 && Nat.ble (n + m) 1000000000 && (Nat.beq tb e && Nat.beq zb de.z && Nat.ble n nb)) with
                          | false => rw [hc] at h; cases h
                          | true =>
                            rw [hc, cond_true] at h
                            cases h
                            simp only [Bool.and_eq_true, Nat.blt_eq, Nat.ble_eq, beq_eq, decide_eq_true_eq] at hc
                            obtain ⟨⟨⟨⟨⟨⟨hzz, hm2⟩, hm0⟩, hde⟩, hbb⟩, hmm⟩, ⟨⟨hte, hzb⟩, hnn⟩⟩ := hc
                            subst hzz hte hzb
                            obtain ⟨news, hnl, hnc, hn1, hns⟩ := news_of hB2 hr2 hg2 hwh2 hm2
                            obtain ⟨_, r1, g1, arr, hr1, hg1, hrz, hheap1, hwl1, hsz1, _, hn1', hcap1, htt1, hes1⟩ := hH.blk _ _ hb
                            obtain ⟨hwh1, ht1⟩ := htt1 _ rfl
                            obtain ⟨hlo1, hsz1⟩ := hwl1 hwh1
                            rw [ht1] at hheap1
                            obtain ⟨q1, gq, hq1, hgq, _, hle1, hex⟩ := hru
                            rw [hr1] at hq1; cases hq1
                            rw [hg1] at hgq; cases hgq
                            rw [Nat.zero_mul, Nat.sub_zero] at hex
                            have hownr : w.ownsRow 0 tb de.z (.slice (some ⟨g1, 0, none⟩) n r1.cap) n (arr.toList.take (n * de.z)) := by
                              refine ⟨?_, .inr ⟨g1, r1.cap, arr, rfl, Nat.zero_le _, hheap1, by omega, hcap1, hsz1, rfl⟩⟩
                              have : n * de.z ≤ r1.cap * de.z := Nat.mul_le_mul_right _ (by omega)
                              rw [List.length_take, Array.length_toList]; omega
                            refine wp_append_lies w x y t ho 0 tb inf zv de.z de.bytes hun hinf hiz hisz hby (by rw [← hok.len, ← hzc]; simp) hde _ n _ hex hownr _ m _ news hey hnl hnc hn1 hm0 (by simp only [maxLen]; omega) (by omega) (Nat.zero_le _) _ rfl ?_
                            intro g cap w' hown hgrow hat hlt
                            obtain ⟨hol, hoo⟩ := hown
                            rcases hoo with ⟨hbad, _⟩ | ⟨g', cap', cur, hv', _, hheap, hnc', hcm, hcs, htake⟩
                            · cases hbad
                            · cases hv'
                              obtain ⟨hk1, hk2, hk3, hk4⟩ := hH.grown_facts hb hr1 hg1 hwh1 (r := ⟨some g, 0, cap, de.z, tb, true, .slice (some ⟨g, 0, none⟩) (n + m) cap⟩) (g := g) rfl (by rcases hat with h | h; exact .inl (by cases h; rfl); exact .inr (by omega))
                              have hnew := (hH.drop b).push_at (bl := .rows (some tb) de.z (n + m) (copyE es2 i2 m es n)) (K := fun g' _ => some g1 ≠ some g') (Keeps.grown hgrow) hk1 hk2 hk3 hk4 ⟨_, g, cur, Env.new_get _ _ _, rfl, rfl, hheap, fun _ => ⟨rfl, hcs⟩, by simp [hcs], .inl rfl, hnc', hcm, fun t' h => by cases h; exact ⟨rfl, rfl⟩, fun k hk => by
                                have hk2 : k * de.z + de.z ≤ (n + m) * de.z := by have : (k + 1) * de.z ≤ (n + m) * de.z := Nat.mul_le_mul_right _ hk; rw [Nat.succ_mul] at this; exact this
                                have hnl1 : (arr.toList.take (n * de.z)).length = n * de.z := hownr.1
                                rw [Nat.zero_add, ← take_of_take _ ((n + m) * de.z) _ _ hk2, htake, copyE_get]
                                by_cases hkn : k < n
                                · rw [if_neg (by omega)]
                                  obtain ⟨xs, h1, h2⟩ := hes1 k (by omega)
                                  refine ⟨xs, h1, ?_⟩
                                  have hk3 : k * de.z + de.z ≤ n * de.z := by have : (k + 1) * de.z ≤ n * de.z := Nat.mul_le_mul_right _ hkn; rw [Nat.succ_mul] at this; exact this
                                  have e1 : ((arr.toList.take (n * de.z) ++ news).drop (k * de.z)).take de.z = (arr.toList.drop (k * de.z)).take de.z := by
                                    rw [List.drop_append_of_le_length (by omega), List.take_append_of_le_length (by rw [List.length_drop]; omega), take_of_take _ _ _ _ hk3]
                                  rw [e1]
                                  rw [hlo1, Nat.zero_add] at h2
                                  exact h2.mono (hH.le_new _)
                                · rw [if_pos (by omega)]
                                  obtain ⟨xs, h1, h2⟩ := hns (k - n) (by omega)
                                  refine ⟨xs, h1, ?_⟩
                                  have e1 : (arr.toList.take (n * de.z) ++ news).drop (k * de.z) = news.drop ((k - n) * de.z) := by
                                    have : k * de.z = n * de.z + (k - n) * de.z := by rw [← Nat.add_mul]; congr 1; omega
                                    rw [List.drop_append, List.drop_of_length_le (by omega), List.nil_append, hnl1, this]
                                    congr 1; omega
                                  rw [e1]
                                  exact h2.mono (hH.le_new _)⟩
                              exact hK _ w' _ (hH.le_new _) rfl hnew ⟨_, g, Env.new_get _ _ _, rfl, rfl, by simp only; omega, by simp⟩
                        · cases h
                      · cases h
                    · cases h
                  · cases h
              · cases h
            · cases h
          · cases h
        · cases h
      | _ => simp [writeE] at h
  | _ => rw [ho] at h; simp [writeE] at h
end
end Go.Proofs.Ytipomcnbjlfekaa.Rs
