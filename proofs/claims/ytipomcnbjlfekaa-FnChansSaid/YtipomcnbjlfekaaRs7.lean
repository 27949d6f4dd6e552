/- A symbolic machine over the model's operations. Part 7: what makes memory, rows of terms. No program in sight. -/
import Derived.Test.YtipomcnbjlfekaaRs6
namespace Go.Proofs.Ytipomcnbjlfekaa.Rs
open Go.RowKit
set_option linter.unusedVariables false
set_option linter.unusedSimpArgs false
def ksV : Value → Option CK
  | .int k _ => some (.n k)
  | .bool _ => some .b
  | .string _ => some .s
  | _ => none
def ksOf : List Value → Option (List CK)
  | [] => some []
  | v :: vs =>
    match ksV v, ksOf vs with
    | some k, some ks => some (k :: ks)
    | _, _ => none
def ksEq : List CK → List CK → Bool
  | [], [] => true
  | x :: xs, y :: ys => ckEq x y && ksEq xs ys
  | _, _ => false
theorem ksEq_eq : ∀ {xs ys : List CK}, ksEq xs ys = true → xs = ys
  | [], [], _ => rfl
  | x :: xs, y :: ys, h => by
    simp only [ksEq, Bool.and_eq_true] at h
    rw [ckEq_eq h.1, ksEq_eq h.2]
  | [], _ :: _, h => by cases h
  | _ :: _, [], h => by cases h
def rowsT (ks : List CK) (es : Tr (List AC)) (i : Nat) : Nat → Option RT
  | 0 => some .nil
  | n + 1 =>
    match rowsT ks es i n, es.get (i + n) with
    | some r, some xs =>
      match asT ks xs with
      | some cs => some (.app r (.one cs))
      | none => none
    | _, _ => none
def ownX (H : Hp) (e z : Nat) (ks : List CK) : AC → Option (RT × Option Nat)
  | .v (.slice none 0 0) => some (.nil, none)
  | .sl b 0 n =>
    match H.bs.get b with
    | some (.rows (some tb) z' nb es) =>
      bif Nat.beq tb e && Nat.beq z' z && Nat.ble n nb then
        match rowsT ks es 0 n with
        | some rt => some (rt, some b)
        | none => none
      else none
    | _ => none
  | .sr b =>
    match H.bs.get b with
    | some (.sy true tb ks' rt) => bif Nat.beq tb e && ksEq ks' ks then some (rt, some b) else none
    | _ => none
  | .ss b (.l (.int .i64 i)) n =>
    match H.bs.get b with
    | some (.sy true tb ks' rt) => bif Nat.beq tb e && ksEq ks' ks && intEq i 0 then some (.take rt n, some b) else none
    | _ => none
  | _ => none
def newY (H : Hp) (z : Nat) (ks : List CK) : AC → Option RT
  | .v (.slice none 0 0) => some .nil
  | .sl b i n =>
    match H.bs.get b with
    | some (.rows _ z' nb es) => bif Nat.beq z' z && Nat.ble (i + n) nb then rowsT ks es i n else none
    | _ => none
  | .sr b =>
    match H.bs.get b with
    | some (.sy _ _ ks' rt) => bif ksEq ks' ks then some rt else none
    | _ => none
  | .ss b i n =>
    match H.bs.get b with
    | some (.sy _ _ ks' rt) => bif ksEq ks' ks then some (.take (.drop rt i) n) else none
    | _ => none
  | _ => none
def dropO (H : Hp) : Option Nat → Hp
  | none => H
  | some b => { H with bs := H.bs.put b none }
def tlOf : List Value → TL
  | [] => .nil
  | v :: vs => .cons (.l v) (tlOf vs)
def symW (C : Cfg) (H : Hp) (tm : Tm) : Op → Option (Option SV × Hp × List Te)
  | .store t x y =>
    match cO tm x, avO tm y with
    | some (.pe b i j), some u => (pokeP C H t b i j u.cells).map fun H' => (none, H', [])
    | _, _ => none
  | .makeSlice t len cap =>
    match C.ty t, loT tm (some len), loT tm (some cap) with
    | some ⟨.slice e, _, _, _⟩, some tl, some tc =>
      match C.ty e with
      | some de =>
        match ksOf de.zero with
        | some ks => bif Nat.blt 0 de.z && Nat.ble de.bytes 100000 && Nat.ble de.z 1000 then some (some (.o (.c (.sr H.next))), H.push (.sy true e ks (.rep (tlOf de.zero) tl)), [.bin .eql tl tc, .bin .leq i0 tl, .bin .leq tl (.l (.int .i64 100000000))]) else none
        | none => none
      | none => none
    | _, _, _ => none
  | .call { callee := .builtin .append, args, argTypes } =>
    match args.toList, argTypes.toList with
    | [x, y], [t, t'] =>
      match C.ty t, cO tm x, cO tm y with
      | some ⟨.slice e, _, _, _⟩, some u, some v =>
        match C.ty e with
        | some de =>
          match ksOf de.zero with
          | some ks =>
            bif Nat.beq t t' && Nat.blt 0 de.z && Nat.ble de.bytes 100000 then
              match ownX H e de.z ks u, newY H de.z ks v with
              | some (rx, ob), some ry => some (some (.o (.c (.sr H.next))), (dropO H ob).push (.sy true e ks (.app rx ry)), [.bin .leq (.len (.app rx ry)) (.l (.int .i64 100000000))])
              | _, _ => none
            else none
          | none => none
        | none => none
      | _, _, _ => none
    | _, _ => none
  | _ => none
section
variable {C : Cfg} {fr : Fr} {E : Env} {N : Nat} {tm : Tm} {a : Act} {w0 : World} {H : Hp} {w w' : World}
theorem rowsT_rel {ks : List CK} {es : Tr (List AC)} {i : Nat} {segs : Nat → List Value} : ∀ (n : Nat) {rt : RT}, rowsT ks es i n = some rt → (∀ k, k < n → ∃ xs, es.get (i + k) = some xs ∧ RelL E xs (segs k)) →
    (∀ S, E.q.has S → rt.ev S = (List.range n).map segs) ∧ RowOk ks ((List.range n).map segs)
  | 0, rt, h, hr => by
    cases h
    exact ⟨fun _ _ => rfl, fun e he => by simp at he⟩
  | n + 1, rt, h, hr => by
    simp only [rowsT] at h
    split at h
    · rename_i r xs h1 h2
      split at h
      · rename_i cs h3
        cases h
        obtain ⟨g1, g2⟩ := rowsT_rel n h1 (fun k hk => hr k (by omega))
        obtain ⟨xs', hx, hrel⟩ := hr n (by omega)
        rw [h2] at hx; cases hx
        obtain ⟨c1, c2, c3⟩ := asT_rel _ _ _ _ h3 hrel
        have e1 : (List.range (n + 1)).map segs = (List.range n).map segs ++ [segs n] := by simp [List.range_succ]
        refine ⟨fun S hS => ?_, ?_⟩
        · simp only [RT.ev, g1 S hS, c2 S hS, e1]
        · rw [e1]
          intro e he
          rcases List.mem_append.1 he with he | he
          · exact g2 e he
          · simp at he
            subst he
            exact ⟨c1, c3⟩
      · cases h
    · cases h
theorem flat_segs (l : List Value) (z : Nat) : ∀ n, n * z ≤ l.length → ((List.range n).map fun k => (l.drop (k * z)).take z).flatten = l.take (n * z)
  | 0, _ => by simp
  | n + 1, h => by
    have hs : (n + 1) * z = n * z + z := Nat.succ_mul n z
    rw [List.range_succ, List.map_append, List.flatten_append, flat_segs l z n (by omega), hs, List.take_add]
    simp
/-- A row that is appended to. -/
theorem ownX_ok (hH : RelH fr w0 E H w) {e z : Nat} {ks : List CK} {x : AC} {rt : RT} {ob : Option Nat} (hz : ks.length = z) (h : ownX H e z ks x = some (rt, ob)) {u : Value} (hu : RelC E x u) :
    ∃ r L, (∀ S, E.q.has S → rt.ev S = L) ∧ RowOk ks L ∧ r.z = z ∧ r.val = u ∧ Lies fr w r e L true ∧ ((ob = none ∧ r.own = none) ∨ ∃ b bl r1, ob = some b ∧ H.bs.get b = some bl ∧ E b = some r1 ∧ r1.own = r.own ∧ (∀ g, r.own = some g → r1.whole = true)) := by
  unfold ownX at h
  split at h
  · cases h
    obtain rfl := hu.1
    exact ⟨⟨none, 0, 0, z, e, false, .slice none 0 0⟩, [], fun _ _ => rfl, fun e he => by simp at he, rfl, rfl, .inl ⟨rfl, rfl, rfl⟩, .inl ⟨rfl, rfl⟩⟩
  · rename_i b n
    split at h
    · rename_i tb z' nb es hb
      cases hc : (Nat.beq tb e && Nat.beq z' z && Nat.ble n nb) with
      | false => rw [hc] at h; cases h
      | true =>
        rw [hc, cond_true] at h
        simp only [Bool.and_eq_true, beq_eq, decide_eq_true_eq, Nat.ble_eq] at hc
        obtain ⟨⟨rfl, rfl⟩, hn⟩ := hc
        split at h
        · rename_i rt' hrt
          cases h
          obtain ⟨r, g, hr, hg, hwh, hle, rfl⟩ := hu
          obtain ⟨_, r', g', arr, hr', hg', hrz, hheap, hwl, hsz, _, hnn, hcap, htt, hes⟩ := hH.blk _ _ hb
          rw [hr] at hr'; cases hr'
          rw [hg] at hg'; cases hg'
          obtain ⟨hlo, hsz⟩ := hwl hwh
          obtain ⟨_, htb⟩ := htt _ rfl
          rw [htb] at hheap
          have hlen : n * z' ≤ arr.toList.length := by rw [Array.length_toList, hsz]; exact Nat.mul_le_mul_right _ (by omega)
          obtain ⟨g1, g2⟩ := rowsT_rel (E := E) (segs := fun k => (arr.toList.drop (k * z')).take z') n hrt (fun k hk => by
            obtain ⟨xs, h1, h2⟩ := hes k (by omega)
            rw [hlo, Nat.zero_add] at h2
            exact ⟨xs, by rw [Nat.zero_add]; exact h1, h2⟩)
          refine ⟨⟨some g, 0, r.cap, z', tb, true, .slice (some ⟨g, 0, none⟩) n r.cap⟩, _, g1, g2, rfl, by simp, .inr ⟨g, arr, rfl, rfl, rfl, rfl, by simp, hheap, hsz, by simp; omega, hcap, ?_⟩, .inr ⟨b, _, r, rfl, hb, hr, hg, fun _ _ => hwh⟩⟩
          simp only [List.length_map, List.length_range]
          exact (flat_segs arr.toList z' n hlen).symm
        · cases h
    · cases h
  · rename_i b
    split at h
    · rename_i tb ks' rt' hb
      cases hc : (Nat.beq tb e && ksEq ks' ks) with
      | false => rw [hc] at h; cases h
      | true =>
        rw [hc, cond_true] at h
        simp only [Bool.and_eq_true, beq_eq, decide_eq_true_eq] at hc
        obtain ⟨rfl, hk⟩ := hc
        obtain rfl := ksEq_eq hk
        cases h
        obtain ⟨r, hr, rfl, _⟩ := hu
        obtain ⟨_, r', L, hr', k1, k2, k3, k4⟩ := hH.blk _ _ hb
        rw [hr] at hr'; cases hr'
        refine ⟨r, L, k2, k3, by rw [k1, hz], rfl, k4, .inr ⟨b, _, r, rfl, hb, hr, rfl, fun g hg => ?_⟩⟩
        rcases k4 with ⟨k4, _⟩ | ⟨g', arr, q1, q2, _⟩
        · rw [k4] at hg; cases hg
        · exact q2
    · cases h
  · rename_i b i n
    split at h
    · rename_i tb ks' rt' hb
      cases hc : (Nat.beq tb e && ksEq ks' ks && intEq i 0) with
      | false => rw [hc] at h; cases h
      | true =>
        rw [hc, cond_true] at h
        simp only [Bool.and_eq_true, beq_eq, decide_eq_true_eq, intEq_eq] at hc
        obtain ⟨⟨rfl, hk⟩, rfl⟩ := hc
        obtain rfl := ksEq_eq hk
        cases h
        obtain ⟨r, a0, N0, c0, k, m, hr, hv, hkm, hq, a', c', rfl, hpos, hz0⟩ := hu
        have hk0 : k = 0 := by
          have := (hq _ E.q.has_self).1
          simp only [Te.ev, Value.int.injEq, true_and] at this
          omega
        subst hk0
        obtain ⟨rfl, rfl⟩ := hz0 rfl
        obtain ⟨_, r', L, hr', k1, k2, k3, k4⟩ := hH.blk _ _ hb
        rw [hr] at hr'; cases hr'
        have hev : ∀ S, E.q.has S → (RT.take rt' n).ev S = L.take m := fun S hS => by
          simp only [RT.ev, k2 S hS, (hq S hS).2, natOf, Int.toNat_natCast]
        rcases k4 with ⟨q1, q2, q3⟩ | ⟨g, arr, q1, q2, q0, qt, q3, q4, q5, q6, q7, q8⟩
        · rw [q2] at hv
          cases hv
          obtain rfl : m = 0 := by omega
          subst q3
          exact ⟨r, [], fun S hS => by rw [hev S hS]; rfl, fun e he => by simp at he, by rw [k1, hz], q2, .inl ⟨q1, q2, rfl⟩, .inr ⟨b, _, r, rfl, hb, hr, rfl, fun g hg => by rw [q1] at hg; cases hg⟩⟩
        · rw [q3] at hv
          cases hv
          have hm : m ≤ L.length := by omega
          have hlen : (L.take m).length = m := by rw [List.length_take]; omega
          refine ⟨⟨r.own, r.lo, r.cap, r.z, r.t, r.whole, .slice (some ⟨g, 0, none⟩) m r.cap⟩, L.take m, hev, fun e he => k3 e (List.mem_of_mem_take he), by simp only [k1, hz], rfl, .inr ⟨g, arr, q1, q2, q0, qt, by rw [hlen], q4, q5, by rw [hlen]; simp only; omega, q7, ?_⟩, .inr ⟨b, _, r, rfl, hb, hr, rfl, fun g' hg => q2⟩⟩
          rw [hlen]
          have hl := k3.len
          rw [← k1] at hl
          have h1 : (L.take m).flatten.length = m * r.z := by rw [flat_len (z := r.z) _ (fun e he => hl e (List.mem_of_mem_take he)), hlen]
          have h2 : L.flatten = (L.take m).flatten ++ (L.drop m).flatten := by rw [← List.flatten_append, List.take_append_drop]
          have hmz : m * r.z ≤ L.length * r.z := Nat.mul_le_mul_right _ hm
          have h3 : arr.toList.take (m * r.z) = (arr.toList.take (L.length * r.z)).take (m * r.z) := by rw [List.take_take, Nat.min_eq_left hmz]
          show arr.toList.take (m * r.z) = _
          rw [h3, q8, h2, List.take_left' h1]
    · cases h
  · cases h
/-- A row that is appended. -/
theorem newY_ok (hH : RelH fr w0 E H w) {z : Nat} {ks : List CK} {x : AC} {rt : RT} (hz : ks.length = z) (hz0 : 0 < z) (h : newY H z ks x = some rt) {u : Value} (hu : RelC E x u) :
    ∃ L ad c, (∀ S, E.q.has S → rt.ev S = L) ∧ RowOk ks L ∧ u = .slice ad L.length c ∧ (0 < L.length → ∃ p, ad = some p ∧ ∀ (j : Nat) v, L.flatten[j]? = some v → w.cell? (p.add j) = some v) := by
  have hcell : ∀ {g o : Nat} {arr : Array Value} {t' : TypeId} {fz : Nat × Nat} {n : Nat} {l : List Value}, w.heap[g]? = some (.cells arr t' fz) → (arr.toList.drop o).take n = l → ∀ (j : Nat) v, l[j]? = some v → w.cell? ((⟨g, o, none⟩ : Addr).add j) = some v := by
    intro g o arr t' fz n l h1 h2 j v hj
    subst h2
    rw [seg_get] at hj
    split at hj
    · rw [addr_add]
      simpa [World.cell?, h1] using hj
    · cases hj
  unfold newY at h
  split at h
  · cases h
    obtain rfl := hu.1
    exact ⟨[], none, 0, fun _ _ => rfl, fun e he => by simp at he, rfl, fun h => by simp at h⟩
  · rename_i b i n
    split at h
    · rename_i tb z' nb es hb
      cases hc : (Nat.beq z' z && Nat.ble (i + n) nb) with
      | false => rw [hc] at h; cases h
      | true =>
        rw [hc, cond_true] at h
        simp only [Bool.and_eq_true, beq_eq, decide_eq_true_eq, Nat.ble_eq] at hc
        obtain ⟨rfl, hn⟩ := hc
        obtain ⟨r, g, hr, hg, hwh, hle, rfl⟩ := hu
        obtain ⟨_, r', g', arr, hr', hg', hrz, hheap, hwl, hsz, _, hnn, hcap, htt, hes⟩ := hH.blk _ _ hb
        rw [hr] at hr'; cases hr'
        rw [hg] at hg'; cases hg'
        obtain ⟨hlo, hsz⟩ := hwl hwh
        have hlen : n * z' ≤ (arr.toList.drop (i * z')).length := by
          rw [List.length_drop, Array.length_toList, hsz]
          have : (i + n) * z' ≤ r.cap * z' := Nat.mul_le_mul_right _ (by omega)
          rw [Nat.add_mul] at this
          omega
        obtain ⟨g1, g2⟩ := rowsT_rel (E := E) (segs := fun k => ((arr.toList.drop (i * z')).drop (k * z')).take z') n h (fun k hk => by
          obtain ⟨xs, h1, h2⟩ := hes (i + k) (by omega)
          rw [hlo, Nat.zero_add] at h2
          refine ⟨xs, h1, ?_⟩
          rw [List.drop_drop, ← Nat.add_mul]
          exact h2)
        refine ⟨_, some ⟨g, i * r.z, none⟩, r.cap - i, g1, g2, by simp, fun _ => ⟨_, rfl, ?_⟩⟩
        rw [hrz]
        exact hcell hheap (flat_segs (arr.toList.drop (i * z')) z' n hlen).symm
    · cases h
  · rename_i b
    split at h
    · rename_i own tb ks' rt' hb
      cases hc : ksEq ks' ks with
      | false => rw [hc] at h; cases h
      | true =>
        rw [hc, cond_true] at h
        obtain rfl := ksEq_eq hc
        cases h
        obtain ⟨r, hr, rfl, _⟩ := hu
        obtain ⟨r', L, ad, c, hr', q1, q2, q3, q4, q5, q6, q7, q8⟩ := (hH.blk _ _ hb).2.val
        rw [hr] at hr'; cases hr'
        refine ⟨L, ad, c, q2, q3, q5, fun hp => ?_⟩
        have hp2 : 0 < L.length * r.z := Nat.mul_pos hp (by omega)
        obtain ⟨g, o, rfl⟩ := q8 hp2
        obtain ⟨_, arr, t', fz, h1, h2, h3⟩ := q4.cells q5 hp2
        exact ⟨_, rfl, hcell h1 h3⟩
    · cases h
  · rename_i b i n
    split at h
    · rename_i own tb ks' rt' hb
      cases hc : ksEq ks' ks with
      | false => rw [hc] at h; cases h
      | true =>
        rw [hc, cond_true] at h
        obtain rfl := ksEq_eq hc
        cases h
        obtain ⟨r, ad0, Nn, c0, k, m, hr, hv, hkm, hq, a', c', rfl, hpos, _⟩ := hu
        obtain ⟨r', L, ad, c, hr', q1, q2, q3, q4, q5, q6, q7, q8⟩ := (hH.blk _ _ hb).2.val
        rw [hr] at hr'; cases hr'
        rw [hv] at q5
        injection q5 with e1 e2 e3
        subst e1 e2 e3
        have hev : ∀ S, E.q.has S → (RT.take (.drop rt' i) n).ev S = (L.drop k).take m := fun S hS => by
          simp only [RT.ev, q2 S hS, (hq S hS).1, (hq S hS).2, natOf, Int.toNat_natCast]
        have hlen : ((L.drop k).take m).length = m := by rw [List.length_take, List.length_drop]; omega
        refine ⟨(L.drop k).take m, a', c', hev, fun e he => q3 e (List.mem_of_mem_drop (List.mem_of_mem_take he)), by rw [hlen], fun hp => ?_⟩
        rw [hlen] at hp
        obtain ⟨g, o, rfl, rfl⟩ := hpos hp
        have hp2 : 0 < L.length * r.z := Nat.mul_pos (by omega) (by omega)
        obtain ⟨_, arr, t', fz, h1, h2, h3⟩ := q4.cells hv hp2
        refine ⟨_, rfl, hcell (n := m * r.z) h1 ?_⟩
        have hl := q3.len
        rw [← q1] at hl
        have f1 : ((L.drop k).take m).flatten = (L.flatten.drop (k * r.z)).take (m * r.z) := by
          have a1 : L.flatten = (L.take k).flatten ++ (L.drop k).flatten := by rw [← List.flatten_append, List.take_append_drop]
          have a2 : (L.drop k).flatten = ((L.drop k).take m).flatten ++ ((L.drop k).drop m).flatten := by rw [← List.flatten_append, List.take_append_drop]
          have l1 : (L.take k).flatten.length = k * r.z := by rw [flat_len (z := r.z) _ (fun e he => hl e (List.mem_of_mem_take he)), List.length_take]; congr 1; omega
          have l2 : ((L.drop k).take m).flatten.length = m * r.z := by rw [flat_len (z := r.z) _ (fun e he => hl e (List.mem_of_mem_drop (List.mem_of_mem_take he))), hlen]
          rw [a1, List.drop_left' l1, a2, List.take_left' l2]
        have hkz : k * r.z + m * r.z ≤ L.length * r.z := by rw [← Nat.add_mul]; exact Nat.mul_le_mul_right _ hkm
        rw [f1, ← h3, take_of_take _ _ _ _ hkz, List.drop_drop]
    · cases h
  · cases h
theorem ksOf_ok : ∀ {vs : List Value} {ks : List CK}, ksOf vs = some ks → vs.length = ks.length ∧ ∀ (j : Nat) k u, ks[j]? = some k → vs[j]? = some u → k.has u
  | [], ks, h => by cases h; exact ⟨rfl, fun j k u h => by simp at h⟩
  | v :: vs, ks, h => by
    simp only [ksOf] at h
    split at h
    · rename_i k ks' h1 h2
      cases h
      obtain ⟨g1, g2⟩ := ksOf_ok h2
      refine ⟨by simp [g1], fun j k' u hk hu => ?_⟩
      cases j with
      | zero =>
        simp at hk hu
        subst hk hu
        unfold ksV at h1
        split at h1 <;> cases h1
        · exact ⟨_, rfl⟩
        · exact ⟨_, rfl⟩
        · exact ⟨_, rfl⟩
      | succ j => exact g2 j k' u (by simpa using hk) (by simpa using hu)
    · cases h
theorem tlOf_ev (S : Sy) : ∀ (vs : List Value), (tlOf vs).ev S = vs
  | [] => rfl
  | v :: vs => by simp only [tlOf, TL.ev, Te.ev, tlOf_ev S vs]
theorem repFlat_get (l : List Value) : ∀ n j, (List.replicate n l).flatten[j]? = if j < n * l.length then l[j % l.length]? else none
  | 0, j => by simp
  | n + 1, j => by
    rw [List.replicate_succ, List.flatten_cons]
    by_cases h : j < l.length
    · rw [List.getElem?_append_left h, if_pos (by rw [Nat.succ_mul]; omega), Nat.mod_eq_of_lt h]
    · rw [List.getElem?_append_right (by omega), repFlat_get l n, Nat.succ_mul]
      by_cases h2 : j < n * l.length + l.length
      · rw [if_pos (by omega), if_pos h2, show j % l.length = (j - l.length) % l.length from Nat.mod_eq_sub_mod (by omega)]
      · rw [if_neg (by omega), if_neg h2]
theorem made_flat (z : Array Value) (n : Nat) (hz : 0 < z.size) : (List.replicate n z.toList).flatten = (madeCells z (n * z.size)).toList := by
  apply List.ext_getElem?
  intro j
  rw [repFlat_get]
  simp only [madeCells, Array.length_toList, Array.getElem?_toList, Array.getElem?_map, Array.getElem?_range]
  by_cases h : j < n * z.size
  · rw [if_pos h, if_pos h]
    have : j % z.size < z.size := Nat.mod_lt _ hz
    simp [this]
  · rw [if_neg h, if_neg h]
    rfl
/-- What makes memory is done by the model, on terms. -/
theorem symW_ok (hC : C.Ok) (hH : RelH fr w0 E H w) (hT : RelT E N tm a) {o : Oper} {r : Option SV} {H' : Hp} {ns : List Te} (h : symW C H tm o.op = some (r, H', ns)) (hn : ∀ c ∈ ns, c.ev E.q.S = .bool true) {Q : Exit → Act → World → Prop} {K : Act → World → Prop}
    (hK : ∀ E' w' v, E.le E' → E'.q = E.q → RelH fr w0 E' H' w' → Told E' r v → K (a.put o.dst v) w') : o.wp C.P a w K Q := by
  cases ho : o.op with
  | store t x y =>
    rw [ho] at h
    simp only [symW] at h
    split at h
    · rename_i b i j u hx hu
      obtain ⟨H2, hp, he⟩ := Option.map_eq_some_iff.1 h
      cases he
      obtain ⟨ad, w', hev, hrun, hH'⟩ := pokeP_ok hC hH hp (cO_rel hT hx) (avO_rel hT hu).cells
      refine wp_skip' ?_ (hK E w' undef (Env.le_refl E) rfl hH' rfl)
      unfold execOp; rw [ho]
      simp [Instr.storeAt, Instr.sureAddr, Sem.run_bind, hev, hrun]
    · cases h
  | makeSlice t len cap =>
    rw [ho] at h
    simp only [symW] at h
    split at h
    · rename_i e z zero bt tl tc ht hl hcp
      split at h
      · rename_i de he
        split at h
        · rename_i ks hks
          cases hc : (Nat.blt 0 de.z && Nat.ble de.bytes 100000 && Nat.ble de.z 1000) with
          | false => rw [hc] at h; cases h
          | true =>
            rw [hc, cond_true] at h
            cases h
            simp only [Bool.and_eq_true, Nat.blt_eq, Nat.ble_eq] at hc
            obtain ⟨⟨hz0, hby⟩, hz1⟩ := hc
            have hok := hC.ty _ _ he
            have hun : C.P.underlying t = some (.slice e) := (hC.ty _ _ ht).desc
            obtain ⟨inf, zv, hinf, hisz, hiz, hzc, hbb⟩ := info_of hok
            obtain ⟨n1, hv1, he1⟩ := loT_rel hT hl
            obtain ⟨n2, hv2, he2⟩ := loT_rel hT hcp
            have q1 := hn _ (List.mem_cons_self)
            have q2 := hn _ (List.mem_cons_of_mem _ List.mem_cons_self)
            have q3 := hn _ (List.mem_cons_of_mem _ (List.mem_cons_of_mem _ List.mem_cons_self))
            simp only [Te.ev, i0, he1 _ E.q.has_self, he2 _ E.q.has_self, binV] at q1 q2 q3
            have q1 := bool_dec q1
            have q2 := bool_dec q2
            have q3 := bool_dec q3
            subst q1
            obtain ⟨n, rfl⟩ : ∃ k : Nat, n1 = (k : Int) := ⟨n1.toNat, by omega⟩
            have hbn : inf.bytes * n ≤ 281474976710656 := by
              rw [hbb]
              have : de.bytes * n ≤ 100000 * 100000000 := Nat.mul_le_mul hby (by omega)
              omega
            obtain ⟨w', hrun, hown, hgrow⟩ := run_make_full (P := C.P) w 0 t e inf zv de.z hun hinf hiz hisz .i64 .i64 n hbn (by simp only [maxLen]; omega) (Nat.zero_le _)
            obtain ⟨hol, hoo⟩ := hown
            have hzs : zv.cells.size = de.z := by rw [← hok.len, ← hzc]; simp
            have hfl := made_flat zv.cells n (by omega)
            rw [hzs, hzc] at hfl
            obtain ⟨hk1, hk2⟩ := ksOf_ok hks
            rcases hoo with ⟨hbad, _⟩ | ⟨g', cap', cur, hv', _, hheap, hnc', hcm, hcs, htake⟩
            · cases hbad
            · cases hv'
              obtain ⟨p1, p2⟩ := hH.newg (r := ⟨some w.heap.size, 0, n, de.z, e, true, .slice (some ⟨w.heap.size, 0, none⟩) n n⟩) rfl (Nat.le_refl _)
              have hLn : (List.replicate n de.zero).length = n := by simp
              have hnew := hH.push_at (bl := .sy true e ks (.rep (tlOf de.zero) tl)) (K := fun _ _ => True) ((Keeps.grown hgrow).sub fun g o _ => by simp) (fun _ _ _ _ _ _ _ _ => trivial) p1 (fun _ _ _ => trivial) p2
                ⟨_, List.replicate n de.zero, Env.new_get _ _ _, by simp only; rw [← hk1, hok.len], fun S hS => by simp only [RT.ev, he1 S hS, tlOf_ev, natOf, Int.toNat_natCast], fun x hx => by rw [List.eq_of_mem_replicate hx]; exact ⟨hk1, hk2⟩, .inr ⟨w.heap.size, cur, rfl, rfl, rfl, rfl, by rw [hLn], hheap, hcs, by rw [hLn]; exact Nat.le_refl _, hcm, by rw [hLn, hfl]; exact htake⟩⟩
              refine wp_value ?_ (hK _ w' _ (hH.le_new _) rfl hnew ⟨_, Env.new_get _ _ _, rfl, _, _, _, rfl⟩)
              unfold execOp; rw [ho]
              simp only [hv1, hv2]
              exact alloc_run hrun
        · cases h
      · cases h
    · cases h
  | call c =>
    rw [ho] at h
    obtain ⟨callee, args, argTypes⟩ := c
    cases callee with
    | value f => simp [symW] at h
    | invoke f m => simp [symW] at h
    | builtin b =>
      cases b with
      | append =>
        simp only [symW] at h
        split at h
        · rename_i x y t t' hargs htys
          obtain rfl : args = #[x, y] := by apply Array.toList_inj.1; simpa using hargs
          obtain rfl : argTypes = #[t, t'] := by apply Array.toList_inj.1; simpa using htys
          split at h
          · rename_i e z zero bt u v ht hu hv
            split at h
            · rename_i de he
              split at h
              · rename_i ks hks
                cases hc : (Nat.beq t t' && Nat.blt 0 de.z && Nat.ble de.bytes 100000) with
                | false => rw [hc] at h; cases h
                | true =>
                  rw [hc, cond_true] at h
                  simp only [Bool.and_eq_true, beq_eq, decide_eq_true_eq, Nat.blt_eq, Nat.ble_eq] at hc
                  obtain ⟨⟨htt, hz0⟩, hby⟩ := hc
                  subst htt
                  split at h
                  · rename_i rx ob ry hx hy
                    cases h
                    have hok := hC.ty _ _ he
                    have hun : C.P.underlying t = some (.slice e) := (hC.ty _ _ ht).desc
                    obtain ⟨inf, zv, hinf, hisz, hiz, hzc, hbb⟩ := info_of hok
                    obtain ⟨hk1, hk2⟩ := ksOf_ok hks
                    have hkz : ks.length = de.z := by rw [← hk1, hok.len]
                    obtain ⟨r, L, x1, x2, x3, x4, x5, x6⟩ := ownX_ok hH hkz hx (cO_rel hT hu)
                    obtain ⟨M, ad, c, y1, y2, y3, y4⟩ := newY_ok hH hkz hz0 hy (cO_rel hT hv)
                    have q1 := hn _ (List.mem_cons_self)
                    simp only [Te.ev, RT.ev, x1 _ E.q.has_self, y1 _ E.q.has_self, binV] at q1
                    have q1 := bool_dec q1
                    simp only [List.length_append] at q1
                    have hev : ∀ S, E.q.has S → (RT.app rx ry).ev S = L ++ M := fun S hS => by simp only [RT.ev, x1 S hS, y1 S hS]
                    have hrow : RowOk ks (L ++ M) := fun e he => by rcases List.mem_append.1 he with he | he; exact x2 e he; exact y2 e he
                    -- what else there is
                    have hoth : ∀ (r2 : Rg) (g : Nat), r2.own = some g → (r.own = some g ∨ w.heap.size ≤ g) → (∀ c bc q g' o, (dropO H ob).bs.get c = some bc → E c = some q → q.has g' o → r.own ≠ some g') ∧ (∀ c bc q g' o, (dropO H ob).bs.get c = some bc → E c = some q → q.has g' o → ¬ r2.has g' o) ∧ (∀ g' o, fr g' o → r.own ≠ some g') ∧ (∀ g' o, r2.has g' o → ¬ fr g' o) := by
                      intro r2 g h2 hg
                      rcases x6 with ⟨hob, hown⟩ | ⟨b, bl, r1, hob, hb, hr1, hown, hwh⟩
                      · subst hob
                        rcases hg with hg | hg
                        · rw [hown] at hg; cases hg
                        · obtain ⟨p1, p2⟩ := hH.newg (r := r2) h2 hg
                          exact ⟨fun _ _ _ g' _ _ _ _ => by rw [hown]; simp, p1, fun g' _ _ => by rw [hown]; simp, p2⟩
                      · subst hob
                        cases hro : r.own with
                        | none =>
                          rcases hg with hg | hg
                          · rw [hro] at hg; cases hg
                          · obtain ⟨p1, p2⟩ := (hH.drop b).newg (r := r2) h2 hg
                            exact ⟨fun _ _ _ g' _ _ _ _ => by simp, p1, fun g' _ _ => by simp, p2⟩
                        | some g1 =>
                          rw [hro] at hg
                          exact hH.grown_facts hb hr1 (by rw [hown, hro]) (hwh g1 hro) h2 (by rcases hg with hg | hg; exact .inl (Option.some.inj hg).symm; exact .inr hg)
                    have hHd : RelH fr w0 E (dropO H ob) w := by cases ob with
                      | none => exact hH
                      | some b => exact hH.drop b
                    have hnx : (dropO H ob).next = H.next := by cases ob <;> rfl
                    rcases Nat.eq_zero_or_pos M.length with hM | hM
                    · -- nothing is appended
                      have hM0 : M = [] := List.eq_nil_of_length_eq_zero hM
                      subst hM0
                      have hvv : ∃ base n cap, a.eval x = .slice base n cap ∧ n ≤ cap := by
                        rcases x5 with ⟨_, k2, _⟩ | ⟨g, arr, _, _, _, _, k3, _, _, k6, _⟩
                        · exact ⟨none, 0, 0, by rw [← x4, k2], Nat.le_refl _⟩
                        · exact ⟨_, _, _, by rw [← x4, k3], k6⟩
                      obtain ⟨base, n, cap, hxv, hle⟩ := hvv
                      have hrun := append_none hun hinf ho (a := a) (w := w) (C := C) (by rw [y3]; rfl) base n cap hle hxv
                      have hpa : (∀ c bc q g' o, (dropO H ob).bs.get c = some bc → E c = some q → q.has g' o → ¬ r.has g' o) ∧ (∀ g' o, r.has g' o → ¬ fr g' o) := by
                        cases hro : r.own with
                        | none => exact ⟨fun _ _ _ _ _ _ _ _ h => (by have := h.1; rw [hro] at this; cases this), fun _ _ h => (by have := h.1; rw [hro] at this; cases this)⟩
                        | some g => obtain ⟨_, p2, _, p4⟩ := hoth r g hro (.inl hro); exact ⟨p2, p4⟩
                      have hnew := hHd.push_at (r := r) (bl := .sy true e ks (.app rx ry)) (K := fun _ _ => True) (Keeps.refl _ _) (fun _ _ _ _ _ _ _ _ => trivial) hpa.1 (fun _ _ _ => trivial) hpa.2 ⟨r, L ++ [], Env.new_get _ _ _, by rw [x3, hkz], hev, hrow, by rw [List.append_nil]; exact x5⟩
                      rw [hnx] at hnew
                      exact wp_value hrun (hK (E.new H.next r) w _ (by have := hHd.le_new r; rw [hnx] at this; exact this) rfl hnew ⟨r, Env.new_get _ _ _, by rw [x4, hxv], _, _, _, by rw [x4]; exact hxv⟩)
                    · obtain ⟨p, rfl, hnc⟩ := y4 hM
                      have hlenM := flat_len (z := de.z) M (fun e he => by rw [(y2 e he).1, hkz])
                      have hlenL := flat_len (z := de.z) L (fun e he => by rw [(x2 e he).1, hkz])
                      have hone : ∀ u ∈ M.flatten, u.oneCell' = true := by
                        intro u hu
                        obtain ⟨e, he, hue⟩ := List.mem_flatten.1 hu
                        obtain ⟨j, hj⟩ := List.getElem?_of_mem hue
                        have hjl : j < ks.length := by rw [← (y2 e he).1]; exact (List.getElem?_eq_some_iff.1 hj).1
                        exact ((y2 e he).2 j _ u (List.getElem?_eq_getElem hjl) hj).one
                      have hown : w.ownsRow 0 e de.z (a.eval x) L.length L.flatten := by
                        refine ⟨hlenL, ?_⟩
                        rcases x5 with ⟨_, k2, k3⟩ | ⟨g, arr, _, _, _, _, k3, k4, k5, k6, k7, k8⟩
                        · subst k3
                          exact .inl ⟨by rw [← x4, k2], rfl⟩
                        · exact .inr ⟨g, r.cap, arr, by rw [← x4, k3], Nat.zero_le _, k4, k6, k7, by rw [k5, x3], by rw [← x3]; exact k8⟩
                      have hbb2 : (L.length + M.length) * de.bytes ≤ 140737488355328 := by
                        have : (L.length + M.length) * de.bytes ≤ 100000000 * 100000 := Nat.mul_le_mul (by omega) hby
                        omega
                      refine wp_append_lies w x y t ho 0 e inf zv de.z de.bytes hun hinf hiz hisz hbb (by rw [← hok.len, ← hzc]; simp) hz0 _ L.length L.flatten rfl hown p M.length c M.flatten y3 hlenM hnc hone hM (by simp only [maxLen]; omega) hbb2 (Nat.zero_le _) _ rfl ?_
                      intro g cap w' hown' hgrow hat hlt
                      obtain ⟨hol, hoo⟩ := hown'
                      rcases hoo with ⟨hbad, _⟩ | ⟨g', cap', cur, hv', _, hheap, hnc', hcm, hcs, htake⟩
                      · cases hbad
                      · cases hv'
                        have hob : (a.eval x).ownBlock = r.own := by
                          rcases x5 with ⟨k1, k2, _⟩ | ⟨g, arr, k1, _, _, _, k3, _⟩
                          · rw [← x4, k2, k1]; rfl
                          · rw [← x4, k3, k1]; rfl
                        rw [hob] at hgrow hat
                        obtain ⟨p1, p2, p3, p4⟩ := hoth ⟨some g, 0, cap, de.z, e, true, .slice (some ⟨g, 0, none⟩) (L.length + M.length) cap⟩ g rfl (by rcases hat with h | h; exact .inl h; exact .inr (by omega))
                        have hLM : (L ++ M).length = L.length + M.length := List.length_append
                        have hnew := hHd.push_at (bl := .sy true e ks (.app rx ry)) (K := fun g' _ => r.own ≠ some g') (Keeps.grown hgrow) p1 p2 p3 p4 ⟨_, L ++ M, Env.new_get _ _ _, hkz.symm, hev, hrow, .inr ⟨g, cur, rfl, rfl, rfl, rfl, by rw [hLM], hheap, hcs, by rw [hLM]; exact hnc', hcm, by rw [hLM, List.flatten_append]; exact htake⟩⟩
                        rw [hnx] at hnew
                        exact hK (E.new H.next ⟨some g, 0, cap, de.z, e, true, .slice (some ⟨g, 0, none⟩) (L.length + M.length) cap⟩) w' _ (by have := hHd.le_new ⟨some g, 0, cap, de.z, e, true, .slice (some ⟨g, 0, none⟩) (L.length + M.length) cap⟩; rw [hnx] at this; exact this) rfl hnew ⟨_, Env.new_get _ _ _, rfl, _, _, _, rfl⟩
                  · cases h
              · cases h
            · cases h
          · cases h
        · cases h
      | _ => simp [symW] at h
  | _ => rw [ho] at h; simp [symW] at h
end
end Go.Proofs.Ytipomcnbjlfekaa.Rs
