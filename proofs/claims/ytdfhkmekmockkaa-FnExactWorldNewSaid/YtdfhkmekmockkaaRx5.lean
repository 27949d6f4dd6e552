/- A small machine over the model's operations. Part 5: one operation. No program in sight. -/
import Derived.Test.YtdfhkmekmockkaaRx4
namespace Go.Proofs.Ytdfhkmekmockkaa.Rx
open Go.RowKit
set_option linter.unusedVariables false
set_option linter.unusedSimpArgs false

/-! ### Rows of zeros -/
def zeroRep (zero : List Value) : Nat → List AC
  | 0 => []
  | n + 1 => zero.map .v ++ zeroRep zero n
theorem zeroRep_get (zero : List Value) : ∀ n j, (zeroRep zero n)[j]? = if j < n * zero.length then (zero.map AC.v)[j % zero.length]? else none
  | 0, j => by simp [zeroRep]
  | n + 1, j => by
    simp only [zeroRep]
    by_cases h : j < zero.length
    · rw [List.getElem?_append_left (by simpa using h), if_pos (by rw [Nat.succ_mul]; omega), Nat.mod_eq_of_lt h]
    · rw [List.getElem?_append_right (by simp; omega), List.length_map, zeroRep_get zero n]
      rw [Nat.succ_mul]
      by_cases h2 : j < n * zero.length + zero.length
      · rw [if_pos (by omega), if_pos h2, show j % zero.length = (j - zero.length) % zero.length from Nat.mod_eq_sub_mod (by omega)]
      · rw [if_neg (by omega), if_neg h2]
theorem zeroRep_len (zero : List Value) : ∀ n, (zeroRep zero n).length = n * zero.length
  | 0 => by simp [zeroRep]
  | n + 1 => by simp only [zeroRep, List.length_append, List.length_map, zeroRep_len zero n, Nat.succ_mul]; omega
def lenZero (u : AV) : Bool :=
  match lenA u with
  | some n => Nat.beq n 0
  | none => false
/-- What stores and makes memory (no call of a Go function): what it yields, and the heap. -/
def writeE (C : Cfg) (H : Hp) (tm : Tm) : Op → Option (Option SV × Hp)
  | .store t x y =>
    match getO tm x, avO tm y with
    | some (.o (.c (.p b off))), some u => (pokeA C H t b off u.cells).map fun H' => (none, H')
    | _, _ => none
  | .alloc t =>
    match C.ty t with
    | some td => some (some (.o (.c (.p H.next 0))), H.push (.rows t td.z 1 (Tr.put .e 0 (some (td.zero.map .v)))))
    | none => none
  | .box t x =>
    match avO tm x with
    | some u => some (some (.o (.c (.p H.next 0))), H.push (.rows t u.cells.length 1 (Tr.put .e 0 (some u.cells))))
    | none => none
  | .buildSlice t len parts =>
    match C.ty t with
    | some ⟨.slice e, _, _, _⟩ =>
      match C.ty e, partsO tm parts.toList with
      | some de, some ps =>
        bif Nat.blt 0 de.z && Nat.ble (len * de.z) 16777216 then
          match fillA (fun i => some (i * de.z, de.z)) (zeroRep de.zero len) ps with
          | some cs => some (some (.o (.c (.sl H.next 0 len))), H.push (.rows e de.z len (chunkE de.z cs len)))
          | none => none
        else none
      | _, _ => none
    | _ => none
  | .call { callee := .builtin .append, args, argTypes } =>
    match args.toList, argTypes.toList with
    | [x, y], [t, t'] =>
      match C.ty t, avO tm x, avO tm y with
      | some ⟨.slice e, _, _, _⟩, some u, some v =>
        bif Nat.beq t t' then
          match C.ty e with
          | some de =>
            bif lenZero v then
              match u with
              | .c (.v (.slice none 0 0)) => some (some (.o u), H)
              | .c (.sl b i n) => some (some (.o u), H)
              | _ => none
            else
              match v with
              | .c (.sl b2 i2 m) =>
                match H.bs.get b2 with
                | some (.rows _ z2 n2 es2) =>
                  match u with
                  | .c (.v (.slice none 0 0)) =>
                    bif Nat.beq z2 de.z && Nat.ble (i2 + m) n2 && Nat.blt 0 m && Nat.blt 0 de.z && Nat.ble (m * de.bytes) 1000000000000 && Nat.ble m 1000000000 then
                      some (some (.o (.c (.sl H.next 0 m))), H.push (.rows e de.z m (copyE es2 i2 m .e 0)))
                    else none
                  | .c (.sl b 0 n) =>
                    match H.bs.get b with
                    | some (.rows tb z nb es) =>
                      bif Nat.beq z2 de.z && Nat.ble (i2 + m) n2 && Nat.blt 0 m && Nat.blt 0 de.z && Nat.ble ((n + m) * de.bytes) 1000000000000 && Nat.ble (n + m) 1000000000 && (Nat.beq tb e && Nat.beq z de.z && Nat.ble n nb) then
                        some (some (.o (.c (.sl H.next 0 (n + m)))), Hp.push ⟨H.next, H.bs.put b none⟩ (.rows e de.z (n + m) (copyE es2 i2 m es n)))
                      else none
                    | _ => none
                  | _ => none
                | _ => none
              | _ => none
          | none => none
        else none
      | _, _, _ => none
    | _, _ => none
  | _ => none

section
variable {C : Cfg} {σ : Nat → Value} {O : Opq} {E : Env} {N : Nat} {tm : Tm} {a : Act} {w0 : World} {H : Hp} {w w' : World}
theorem repl_rel {P : Program} {t : TypeId} {d : Td} (h : d.Ok P t) (zv : Array Value) (hzv : zv.toList = d.zero) (n : Nat) (hz : 0 < d.z) : RelL σ E (zeroRep d.zero n) ((Array.range (n * d.z)).map (zv[· % zv.size]!)).toList := by
  have hs : zv.size = d.z := by rw [← h.len, ← hzv]; simp
  refine ⟨by rw [zeroRep_len, h.len]; simp, fun j x u hx hu => ?_⟩
  rw [zeroRep_get, h.len] at hx
  split at hx
  · rename_i hj
    have hlt : j % d.z < zv.size := by rw [hs]; exact Nat.mod_lt _ hz
    have hx' : d.zero[j % d.z]? = some zv[j % d.z] := by rw [← hzv]; simp [hlt]
    rw [List.getElem?_map, hx'] at hx
    cases hx
    have hu' : u = zv[j % zv.size]! := by
      simp [Array.getElem?_map, hj] at hu
      exact hu.symm
    have h2 : j % zv.size < zv.size := Nat.mod_lt _ (by rw [hs]; exact hz)
    have hbang : zv[j % zv.size]! = zv[j % d.z] := by
      rw [getElem!_pos zv _ h2]
      simp only [hs]
    rw [hu', hbang]
    exact ⟨rfl, List.all_eq_true.1 h.one _ (List.mem_of_getElem? hx')⟩
  · cases hx
theorem eval_sl {b i n : Nat} {u : Value} (h : RelC σ E (.sl b i n) u) {r : Rg} (hr : E b = some r) : i + n ≤ r.cap ∧ u = .slice (some ⟨r.g, i * r.z, none⟩) n (r.cap - i) := by
  obtain ⟨q, hq, h1, h2⟩ := h
  rw [hr] at hq
  cases hq
  exact ⟨h1, h2⟩
/-- The elements of a row, as they are appended. -/
theorem news_of {E : Env} {w : World} {b2 i2 m n2 z t2 : Nat} {es2 : Tr (List AC)} {r2 : Rg} (hb : RelB σ O E w b2 (.rows t2 z n2 es2)) (hr : E b2 = some r2) (hm : i2 + m ≤ n2) :
    ∃ news : List Value, news.length = m * z ∧ (∀ j u, news[j]? = some u → w.cell? ((⟨r2.g, i2 * r2.z, none⟩ : Addr).add j) = some u) ∧ (∀ u ∈ news, u.oneCell' = true) ∧
      ∀ k, k < m → ∃ xs, es2.get (i2 + k) = some xs ∧ RelL σ E xs ((news.drop (k * z)).take z) := by
  obtain ⟨q, arr, hq, hz, hheap, hsz, hn, hcap, hes⟩ := hb
  rw [hr] at hq
  cases hq
  have hlen : (i2 + m) * z ≤ arr.toList.length := by
    have : (i2 + m) * z ≤ r2.cap * z := Nat.mul_le_mul_right z (by omega)
    simp only [Array.length_toList]; omega
  rw [Nat.add_mul] at hlen
  have hseg : ∀ k, k < m → (((arr.toList.drop (i2 * z)).take (m * z)).drop (k * z)).take z = (arr.toList.drop ((i2 + k) * z)).take z := by
    intro k hk
    have : (k + 1) * z ≤ m * z := Nat.mul_le_mul_right z hk
    rw [Nat.succ_mul] at this
    rw [take_of_take _ _ _ _ this, List.drop_drop, Nat.add_mul]
  refine ⟨(arr.toList.drop (i2 * z)).take (m * z), by rw [List.length_take, List.length_drop]; omega, fun j u hu => ?_, fun u hu => ?_, fun k hk => ?_⟩
  · rw [addr_add, hz]
    rw [seg_get] at hu
    split at hu
    · simpa [World.cell?, hheap] using hu
    · cases hu
  · obtain ⟨j, hj⟩ := List.getElem?_of_mem hu
    have hj' := hj
    rw [seg_get] at hj
    split at hj
    · rename_i hlt
      have hz0 : 0 < z := by rcases Nat.eq_zero_or_pos z with h | h; subst h; omega; exact h
      have hk : j / z < m := by rw [Nat.div_lt_iff_lt_mul hz0]; exact hlt
      obtain ⟨xs, _, hx⟩ := hes (i2 + j / z) (by omega)
      refine hx.one u ?_
      refine List.mem_of_getElem? (i := j % z) ?_
      rw [seg_get, if_pos (Nat.mod_lt _ hz0)]
      rw [← hj]
      congr 1
      have := divmod j z
      rw [Nat.add_mul]; omega
    · cases hj
  · obtain ⟨xs, h1, h2⟩ := hes (i2 + k) (by omega)
    refine ⟨xs, h1, ?_⟩
    rw [hseg k hk]
    exact h2
theorem wp_value {o : Oper} {Q : Exit → Act → World → Prop} {K : Act → World → Prop} {v : Value} {w w' : World} {P : Program} (h : (execOp a.eval o).run P w = .ok (.value v) w') (hk : K (a.put o.dst v) w') : o.wp P a w K Q := by
  unfold Oper.wp
  rw [h]
  exact hk
theorem wp_skip' {o : Oper} {Q : Exit → Act → World → Prop} {K : Act → World → Prop} {w w' : World} {P : Program} (h : (execOp a.eval o).run P w = .ok .skip w') (hk : K (a.put o.dst undef) w') : o.wp P a w K Q := by
  unfold Oper.wp
  rw [h]
  exact hk
theorem alloc_run {P : Program} {s : Sem Value} {v : Value} {w w' : World} (h : s.run P w = .ok v w') : ((do pure (.value (← s))) : Sem Next).run P w = .ok (.value v) w' := by
  simp [Sem.run_bind, h]
theorem newVar_run {P : Program} (t : TypeId) (v : Value) (w : World) : ((do pure (.pointer (some (← newVar t v)))) : Sem Value).run P w = .ok (.pointer (some ⟨w.heap.size, 0, none⟩)) (w.alloc (.cells v.cells t (0, 0))) := by
  simp only [newVar, newRow, newObj, Sem.run_bind]
  rfl
def Told (σ : Nat → Value) (E : Env) : Option SV → Value → Prop
  | some sv, v => RelS σ E sv v
  | none, v => v = undef
/-- What stores and makes memory is done by the model. -/
theorem writeE_ok (hC : C.Ok σ) (hH : RelH σ O w0 E H w) (hT : RelT σ E N tm a) {o : Oper} {r : Option SV} {H' : Hp} (h : writeE C H tm o.op = some (r, H')) {Q : Exit → Act → World → Prop} {K : Act → World → Prop}
    (hK : ∀ E' w' v, E.le E' → RelH σ O w0 E' H' w' → Told σ E' r v → K (a.put o.dst v) w') : o.wp C.P a w K Q := by
  cases ho : o.op with
  | store t x y =>
    rw [ho] at h
    simp only [writeE] at h
    split at h
    · rename_i b off u hx hu
      obtain ⟨H2, hp, he⟩ := Option.map_eq_some_iff.1 h
      cases he
      obtain ⟨q, hq, hev⟩ := getO_rel hT hx
      obtain ⟨w', hrun, hH'⟩ := poke_ok hC hH hp hq (avO_rel hT hu).cells
      refine wp_skip' ?_ (hK E w' undef (Env.le_refl E) hH' rfl)
      unfold execOp; rw [ho]
      simp [Instr.storeAt, Instr.sureAddr, Sem.run_bind, hev, hrun]
    · cases h
  | alloc t =>
    rw [ho] at h
    simp only [writeE] at h
    split at h
    · rename_i td ht
      cases h
      have hok := hC.ty _ _ ht
      obtain ⟨zv, hz, hzc⟩ := zeroValue_run hok w
      have hsz : zv.cells.size = 1 * td.z := by rw [Nat.one_mul, ← hok.len, ← hzc]; simp
      have hnew := new_ok (t := t) (z := td.z) (n := 1) (es := Tr.put .e 0 (some (td.zero.map .v))) (arr := zv.cells) hH hsz (by simp [maxLen]) (fun i hi => by
        obtain rfl : i = 0 := by omega
        refine ⟨_, by rw [Tr.get_put]; rfl, ?_⟩
        rw [Nat.zero_mul, List.drop_zero, hzc, List.take_of_length_le (by rw [hok.len]; exact Nat.le_refl _)]
        exact zero_rel hok)
      refine wp_value ?_ (hK _ _ (.pointer (some ⟨w.heap.size, 0, none⟩)) (hH.le_new _) hnew ⟨⟨w.heap.size, 1, td.z, 0⟩, by simp [Env.new], rfl⟩)
      unfold execOp; rw [ho]
      refine alloc_run ?_
      simp only [Instr.alloc, Sem.run_bind, hz, Result.andThen_ok]
      exact newVar_run t zv w
    · cases h
  | box t x =>
    rw [ho] at h
    simp only [writeE] at h
    split at h
    · rename_i u hu
      cases h
      have hr := (avO_rel hT hu).cells
      have hsz : (a.eval x).cells.size = 1 * u.cells.length := by rw [Nat.one_mul, hr.1]; simp
      have hnew := new_ok (t := t) (z := u.cells.length) (n := 1) (es := Tr.put .e 0 (some u.cells)) (arr := (a.eval x).cells) hH hsz (by simp [maxLen]) (fun i hi => by
        obtain rfl : i = 0 := by omega
        refine ⟨_, by rw [Tr.get_put]; rfl, ?_⟩
        rw [Nat.zero_mul, List.drop_zero, List.take_of_length_le (by rw [hr.1]; exact Nat.le_refl _)]
        exact hr)
      refine wp_value ?_ (hK _ _ (.pointer (some ⟨w.heap.size, 0, none⟩)) (hH.le_new _) hnew ⟨⟨w.heap.size, 1, u.cells.length, 0⟩, by simp [Env.new], rfl⟩)
      unfold execOp; rw [ho]
      exact alloc_run (newVar_run t (a.eval x) w)
    · cases h
  | buildSlice t len parts =>
    rw [ho] at h
    simp only [writeE] at h
    split at h
    · rename_i e z zero bt ht
      split at h
      · rename_i de ps he hp
        cases hc : (Nat.blt 0 de.z && Nat.ble (len * de.z) 16777216) with
        | false => rw [hc] at h; cases h
        | true =>
          rw [hc, cond_true] at h
          simp only [Bool.and_eq_true, Nat.blt_eq, Nat.ble_eq] at hc
          split at h
          · rename_i cs hf
            cases h
            have hok := hC.ty _ _ he
            have hu : C.P.underlying t = some (.slice e) := (hC.ty _ _ ht).desc
            obtain ⟨zv, hz, hzc⟩ := zeroValue_run hok w
            obtain ⟨hl, hr⟩ := partsO_rel hT parts.toList hp
            have hzr : RelL σ E (zeroRep de.zero len) ((Array.range (len * de.z)).map ((if len * de.z = 0 then #[] else zv.cells)[· % (if len * de.z = 0 then #[] else zv.cells).size]!)).toList := by
              by_cases h0 : len * de.z = 0
              · rw [h0]
                have : len = 0 := by rcases Nat.mul_eq_zero.1 h0 with h | h; exact h; omega
                subst this
                simpa [zeroRep] using (RelL.nil : RelL σ E [] [])
              · rw [if_neg h0]
                exact repl_rel hok zv.cells hzc len hc.1
            obtain ⟨arr, h1, h2⟩ := fill_rel (σ := σ) (E := E) (place := fun i => some (i * de.z, de.z)) ps (parts.toList.map fun (i, x) => (i, a.eval x)) _ _ hzr hl hr hf
            have hlen : cs.length = len * de.z := by
              have : ∀ (l : List (Nat × List AC)) (c0 c1 : List AC), fillA (fun i => some (i * de.z, de.z)) c0 l = some c1 → c1.length = c0.length := by
                intro l
                induction l with
                | nil => intro c0 c1 hc1; cases hc1; rfl
                | cons p l ih =>
                  intro c0 c1 hc1
                  obtain ⟨i, ys⟩ := p
                  simp only [fillA] at hc1
                  cases hq : (Nat.beq ys.length de.z && Nat.ble (i * de.z + ys.length) c0.length) with
                  | false => rw [hq] at hc1; cases hc1
                  | true =>
                    rw [hq] at hc1
                    simp only [Bool.and_eq_true, Nat.ble_eq] at hq
                    have := ih _ _ hc1
                    simp only [List.length_append, List.length_take, List.length_drop] at this
                    omega
              rw [this _ _ _ hf, zeroRep_len, hok.len]
            have hasz : arr.size = len * de.z := by rw [← hlen, h2.1]; simp
            have hnew := new_ok (t := e) (z := de.z) (n := len) (es := chunkE de.z cs len) (arr := arr) hH hasz (by have := Nat.le_mul_of_pos_right len hc.1; simp only [maxLen]; omega) (fun i hi => ⟨_, chunkE_get de.z cs len i hi, (h2.drop _).take _⟩)
            refine wp_value ?_ (hK _ _ (.slice (some ⟨w.heap.size, 0, none⟩) len len) (hH.le_new _) hnew ⟨⟨w.heap.size, len, de.z, 0⟩, by simp [Env.new], by simp, by simp⟩)
            unfold execOp; rw [ho]
            refine alloc_run ?_
            have hps : (parts.map fun (i, x) => (i, a.eval x)).toList = parts.toList.map fun (i, x) => (i, a.eval x) := by simp
            have hlim : ¬ len * de.z > 2 ^ 24 := by omega
            by_cases h0 : len * de.z = 0
            · simp only [if_pos h0] at h1
              simp only [Instr.buildSlice, Sem.run_bind, underlying_run' hu, Result.andThen_ok, sizeOf_run hok, hlim, if_false, if_pos h0, Sem.run_pure, hps, h1, newRow, newObj]
              rfl
            · simp only [if_neg h0] at h1
              simp only [Instr.buildSlice, Sem.run_bind, underlying_run' hu, Result.andThen_ok, sizeOf_run hok, hlim, if_false, if_neg h0, hz, Sem.run_pure, hps, h1, newRow, newObj]
              rfl
          · cases h
      · cases h
    · cases h
  | call c =>
    rw [ho] at h
    obtain ⟨callee, args, argTypes⟩ := c
    cases callee with
    | value f => simp [writeE] at h
    | invoke f m => simp [writeE] at h
    | builtin b =>
      cases b with
      | append =>
        simp only [writeE] at h
        split at h
        · rename_i x y t t' hargs htys
          obtain rfl : args = #[x, y] := by apply Array.toList_inj.1; simpa using hargs
          obtain rfl : argTypes = #[t, t'] := by apply Array.toList_inj.1; simpa using htys
          split at h
          · rename_i e z zero bt u v ht hu hv
            rw [beq_eq, cond_decide] at h
            split at h
            · rename_i htt
              subst htt
              split at h
              · rename_i de he
                have hok := hC.ty _ _ he
                have hun : C.P.underlying t = some (.slice e) := (hC.ty _ _ ht).desc
                obtain ⟨inf, zv, hinf, hisz, hiz, hzc, hby⟩ := info_of hok
                have hru := avO_rel hT hu
                have hrv := avO_rel hT hv
                cases hz0 : lenZero v with
                | true =>
                  rw [hz0, cond_true] at h
                  -- nothing is appended
                  have hs : ∃ ad c, a.eval y = .slice ad 0 c := by
                    unfold lenZero at hz0
                    split at hz0
                    · rename_i n hn
                      have hn0 : n = 0 := Nat.eq_of_beq_eq_true hz0
                      subst hn0
                      unfold lenA at hn
                      split at hn
                      · exact ⟨none, 0, hrv.1⟩
                      · cases hn; obtain ⟨q, _, _, he⟩ := hrv; exact ⟨_, _, he⟩
                      · obtain ⟨ad, c, he⟩ := hrv; exact ⟨ad, c, he⟩
                      · cases hn
                    · cases hz0
                  obtain ⟨ad, c, hey⟩ := hs
                  have hrun : ∀ base n cap, n ≤ cap → a.eval x = .slice base n cap → (execOp a.eval o).run C.P w = .ok (.value (.slice base n cap)) w := by
                    intro base n cap hle hex
                    unfold execOp; rw [ho]
                    have hr0 : (Builtin.append_ #[t, t] o.type #[.slice base n cap, .slice ad 0 c]).run C.P w = .ok (.slice base n cap) w := by
                      cases base <;> cases ad <;> simp [Builtin.append_, Builtin.lenOf, Builtin.firstCells, loadCells, loadCellsFrom, underlying_run' hun, sizeOf, typeInfo, hinf, hle, storeCells, Sem.run_bind]
                    simp only [resolve, invoke, builtin, Sem.run_bind, Sem.run_pure, Result.andThen_ok, List.map_toArray, List.map_cons, List.map_nil, hex, hey, hr0]
                  split at h
                  · cases h
                    exact wp_value (hrun none 0 0 (Nat.le_refl _) hru.1) (hK E w _ (Env.le_refl E) hH ⟨rfl, rfl⟩)
                  · rename_i b i n
                    cases h
                    obtain ⟨q, hq, hle, hex⟩ := hru
                    exact wp_value (hrun _ _ _ (by omega) hex) (hK E w _ (Env.le_refl E) hH ⟨q, hq, hle, rfl⟩)
                  · cases h
                | false =>
                  rw [hz0, cond_false] at h
                  split at h
                  · rename_i b2 i2 m
                    split at h
                    · rename_i t2 z2 n2 es2 hb2
                      obtain ⟨_, hB2⟩ := hH.blk _ _ hb2
                      obtain ⟨r2, hr2, _⟩ := hB2.has
                      obtain ⟨hle2, hey⟩ := eval_sl (σ := σ) hrv hr2
                      split at h
                      · -- onto a nil slice
                        cases hc : (Nat.beq z2 de.z && Nat.ble (i2 + m) n2 && Nat.blt 0 m && Nat.blt 0 de.z && Nat.ble (m * de.bytes) 1000000000000 && Nat.ble m 1000000000) with
                        | false => rw [hc] at h; cases h
                        | true =>
                          rw [hc, cond_true] at h
                          cases h
                          simp only [Bool.and_eq_true, Nat.blt_eq, Nat.ble_eq, beq_eq, decide_eq_true_eq] at hc
                          obtain ⟨⟨⟨⟨⟨hzz, hm2⟩, hm0⟩, hde⟩, hbb⟩, hmm⟩ := hc
                          subst hzz
                          obtain ⟨news, hnl, hnc, hn1, hns⟩ := news_of hB2 hr2 hm2
                          refine wp_append_lies w x y t ho 0 e inf zv de.z de.bytes hun hinf hiz hisz hby (by rw [← hok.len, ← hzc]; simp) hde (.slice none 0 0) 0 [] hru.1 ⟨by simp, .inl ⟨rfl, rfl⟩⟩ _ m _ news hey hnl hnc hn1 hm0 (by simp only [maxLen]; omega) (by rw [Nat.zero_add]; omega) (Nat.zero_le _) _ rfl ?_
                          intro g cap w' hown hgrow hat hlt
                          simp only [Nat.zero_add, List.nil_append] at hown ⊢
                          have hg : g = w.heap.size := by rcases hat with h | h; cases h; exact h
                          obtain ⟨hol, hoo⟩ := hown
                          rcases hoo with ⟨_, hbad⟩ | ⟨g', cap', cur, hv', _, hheap, hnc', hcm, hcs, htake⟩
                          · omega
                          · cases hv'
                            have hblk : RelB σ O (E.new H.next ⟨g, cap, de.z, 0⟩) w' H.next (.rows e de.z m (copyE es2 i2 m .e 0)) := by
                              refine ⟨⟨g, cap, de.z, 0⟩, cur, by simp [Env.new], rfl, hheap, hcs, by omega, hcm, fun k hk => ?_⟩
                              obtain ⟨xs, h1, h2⟩ := hns k hk
                              refine ⟨xs, by rw [copyE_get, if_pos (by omega), Nat.sub_zero]; exact h1, ?_⟩
                              have hk2 : k * de.z + de.z ≤ m * de.z := by have : (k + 1) * de.z ≤ m * de.z := Nat.mul_le_mul_right _ hk; rw [Nat.succ_mul] at this; exact this
                              rw [← take_of_take _ (m * de.z) _ _ hk2, htake]
                              exact h2.mono (hH.le_new _)
                            have hnew := hH.push_gen (r := ⟨g, cap, de.z, 0⟩) hgrow.os hgrow.tape hgrow.output hgrow.size (fun c bc q hc he => by
                                obtain ⟨q', hq', hlt'⟩ := (hH.blk c bc hc).2.has
                                rw [he] at hq'; cases hq'
                                exact ⟨hgrow.block _ hlt' (by simp [Value.ownBlock]), by simp only; omega⟩) (fun k hk => hgrow.block _ (Nat.lt_of_lt_of_le hk hH.below.size) (by simp [Value.ownBlock])) (by simp only; rw [hg]; exact hH.below.size) hblk
                            refine hK _ w' _ (hH.le_new _) hnew ⟨⟨g, cap, de.z, 0⟩, by simp [Env.new], by simp; omega, by simp⟩
                      · -- onto a row
                        rename_i b n
                        split at h
                        · rename_i tb zb nb es hb
                          cases hc : (Nat.beq z2 de.z && Nat.ble (i2 + m) n2 && Nat.blt 0 m && Nat.blt 0 de.z && Nat.ble ((n + m) * de.bytes) 1000000000000 && Nat.ble (n + m) 1000000000 && (Nat.beq tb e && Nat.beq zb de.z && Nat.ble n nb)) with
                          | false => rw [hc] at h; cases h
                          | true =>
                            rw [hc, cond_true] at h
                            cases h
                            simp only [Bool.and_eq_true, Nat.blt_eq, Nat.ble_eq, beq_eq, decide_eq_true_eq] at hc
                            obtain ⟨⟨⟨⟨⟨⟨hzz, hm2⟩, hm0⟩, hde⟩, hbb⟩, hmm⟩, ⟨⟨hte, hzb⟩, hnn⟩⟩ := hc
                            subst hzz hte hzb
                            obtain ⟨news, hnl, hnc, hn1, hns⟩ := news_of hB2 hr2 hm2
                            obtain ⟨_, r1, arr, hr1, hrz, hheap1, hsz1, hn1', hcap1, hes1⟩ := hH.blk _ _ hb
                            obtain ⟨hle1, hex⟩ := eval_sl (σ := σ) hru hr1
                            rw [Nat.zero_mul, Nat.sub_zero] at hex
                            have hownr : w.ownsRow 0 tb de.z (.slice (some ⟨r1.g, 0, none⟩) n r1.cap) n (arr.toList.take (n * de.z)) := by
                              refine ⟨?_, .inr ⟨r1.g, r1.cap, arr, rfl, Nat.zero_le _, hheap1, by omega, hcap1, hsz1, rfl⟩⟩
                              have : n * de.z ≤ r1.cap * de.z := Nat.mul_le_mul_right _ (by omega)
                              rw [List.length_take, Array.length_toList]; omega
                            refine wp_append_lies w x y t ho 0 tb inf zv de.z de.bytes hun hinf hiz hisz hby (by rw [← hok.len, ← hzc]; simp) hde _ n _ hex hownr _ m _ news hey hnl hnc hn1 hm0 (by simp only [maxLen]; omega) (by omega) (Nat.zero_le _) _ rfl ?_
                            intro g cap w' hown hgrow hat hlt
                            have hgr1 := hH.high _ _ _ hb hr1
                            have hg : g = r1.g ∨ g = w.heap.size := by rcases hat with h | h; exact .inl (by cases h; rfl); exact .inr h
                            obtain ⟨hol, hoo⟩ := hown
                            rcases hoo with ⟨hbad, _⟩ | ⟨g', cap', cur, hv', _, hheap, hnc', hcm, hcs, htake⟩
                            · cases hbad
                            · cases hv'
                              have hHd := hH.drop b
                              have hblk : RelB σ O (E.new H.next ⟨g, cap, de.z, 0⟩) w' H.next (.rows tb de.z (n + m) (copyE es2 i2 m es n)) := by
                                refine ⟨⟨g, cap, de.z, 0⟩, cur, by simp [Env.new], rfl, hheap, hcs, hnc', hcm, fun k hk => ?_⟩
                                have hk2 : k * de.z + de.z ≤ (n + m) * de.z := by have : (k + 1) * de.z ≤ (n + m) * de.z := Nat.mul_le_mul_right _ hk; rw [Nat.succ_mul] at this; exact this
                                have hnl1 : (arr.toList.take (n * de.z)).length = n * de.z := hownr.1
                                rw [← take_of_take _ ((n + m) * de.z) _ _ hk2, htake, copyE_get]
                                by_cases hkn : k < n
                                · rw [if_neg (by omega)]
                                  obtain ⟨xs, h1, h2⟩ := hes1 k (by omega)
                                  refine ⟨xs, h1, ?_⟩
                                  have hk3 : k * de.z + de.z ≤ n * de.z := by have : (k + 1) * de.z ≤ n * de.z := Nat.mul_le_mul_right _ hkn; rw [Nat.succ_mul] at this; exact this
                                  have e1 : ((arr.toList.take (n * de.z) ++ news).drop (k * de.z)).take de.z = (arr.toList.drop (k * de.z)).take de.z := by
                                    rw [List.drop_append_of_le_length (by omega), List.take_append_of_le_length (by rw [List.length_drop]; omega), take_of_take _ _ _ _ hk3]
                                  rw [e1]
                                  exact h2.mono (hH.le_new _)
                                · rw [if_pos (by omega)]
                                  obtain ⟨xs, h1, h2⟩ := hns (k - n) (by omega)
                                  refine ⟨xs, h1, ?_⟩
                                  have e1 : (arr.toList.take (n * de.z) ++ news).drop (k * de.z) = news.drop ((k - n) * de.z) := by
                                    have : k * de.z = n * de.z + (k - n) * de.z := by rw [← Nat.add_mul]; congr 1; omega
                                    rw [List.drop_append, List.drop_of_length_le (by omega), List.nil_append, hnl1, this]
                                    congr 1; omega
                                  rw [e1]
                                  exact h2.mono (hH.le_new _)
                              have hnew := hHd.push_gen (r := ⟨g, cap, de.z, 0⟩) hgrow.os hgrow.tape hgrow.output hgrow.size (fun c bc q hc he => by
                                  obtain ⟨q', hq', hlt'⟩ := (hHd.blk c bc hc).2.has
                                  rw [he] at hq'; cases hq'
                                  have hcb : c ≠ b := fun e => by rw [e] at hc; simp only [Tr.get_put, if_true] at hc; cases hc
                                  have hc' : H.bs.get c = some bc := by simp only [Tr.get_put, if_neg hcb] at hc; exact hc
                                  have hne : q.g ≠ r1.g := fun e => hcb (hH.apart c b _ _ _ _ hc' hb he hr1 e)
                                  refine ⟨hgrow.block _ hlt' (by simp only [Value.ownBlock, ne_eq, Option.some.injEq]; exact hne), ?_⟩
                                  simp only
                                  rcases hg with h | h
                                  · rw [h]; exact hne
                                  · omega) (fun k hk => hgrow.block _ (Nat.lt_of_lt_of_le hk hH.below.size) (by simp only [Value.ownBlock, ne_eq, Option.some.injEq]; omega)) (by
                                  simp only
                                  rcases hg with h | h
                                  · rw [h]; exact hgr1
                                  · rw [h]; exact hH.below.size) hblk
                              refine hK _ w' _ (hH.le_new _) hnew ⟨⟨g, cap, de.z, 0⟩, by simp [Env.new], by simp only; omega, by simp⟩
                        · cases h
                      · cases h
                    · cases h
                  · cases h
              · cases h
            · cases h
          · cases h
        · cases h
      | _ => simp [writeE] at h
  | _ => rw [ho] at h; simp [writeE] at h
end
end Go.Proofs.Ytdfhkmekmockkaa.Rx
