/- A symbolic machine over the model's operations. Arrays of whole numbers that lie as rows of terms: making, storing, loading them whole. No program in sight. -/
import Derived.Test.YtipomcnbjlfekaaRs7
namespace Go.Proofs.Ytipomcnbjlfekaa.Rs
open Go.RowKit
set_option linter.unusedVariables false
set_option linter.unusedSimpArgs false
def rtK (k : IntKind) : List AC → Option RT
  | [] => some .nil
  | x :: xs =>
    match teO x, rtK k xs with
    | some (k', te), some r => bif ckEq k' (.n k) then some (.app (.one (.cons te .nil)) r) else none
    | _, _ => none
def zK (k : IntKind) : List AC → Bool
  | [] => true
  | .v (.int k' a) :: xs => ckEq (.n k') (.n k) && intEq a 0 && zK k xs
  | _ => false
/-- The row of an array's cells. -/
def rtZ (k : IntKind) (xs : List AC) : Option RT := bif zK k xs then some (.rep (.cons (.l (.int k 0)) .nil) (.l (.int .i64 (xs.length : Int)))) else rtK k xs
def avL : AV → List AC := AV.cells
def chainT : RT → Option (List Te)
  | .nil => some []
  | .app (.one (.cons te .nil)) r => (chainT r).map (te :: ·)
  | _ => none
theorem chainT_ev (S : Sy) : ∀ (rt : RT) {ts : List Te}, chainT rt = some ts → rt.ev S = ts.map fun t => [t.ev S]
  | .nil, ts, h => by cases h; rfl
  | .app (.one (.cons te .nil)) r, ts, h => by
    simp only [chainT] at h
    obtain ⟨ts', h1, rfl⟩ := Option.map_eq_some_iff.1 h
    simp only [RT.ev, TL.ev, chainT_ev S r h1, List.map_cons]
    rfl
  | .s _, ts, h => by simp [chainT] at h
  | .one _, ts, h => by simp [chainT] at h
  | .set .., ts, h => by simp [chainT] at h
  | .take .., ts, h => by simp [chainT] at h
  | .drop .., ts, h => by simp [chainT] at h
  | .rep .., ts, h => by simp [chainT] at h
  | .by .., ts, h => by simp [chainT] at h
  | .app (.s _) r, ts, h => by simp [chainT] at h
  | .app .nil r, ts, h => by simp [chainT] at h
  | .app (.one .nil) r, ts, h => by simp [chainT] at h
  | .app (.one (.cons _ (.cons _ _))) r, ts, h => by simp [chainT] at h
  | .app (.app _ _) r, ts, h => by simp [chainT] at h
  | .app (.set ..) r, ts, h => by simp [chainT] at h
  | .app (.take ..) r, ts, h => by simp [chainT] at h
  | .app (.drop ..) r, ts, h => by simp [chainT] at h
  | .app (.rep ..) r, ts, h => by simp [chainT] at h
  | .app (.by ..) r, ts, h => by simp [chainT] at h
def cellsR (k : IntKind) (rt : RT) (n : Nat) : List AC := (List.range n).map fun (i : Nat) => .t (.n k) (.cell rt (.l (.int .i64 (i : Int))) 0)
def arrW (C : Cfg) (H : Hp) (tm : Tm) : Op → Option (Option SV × Hp × List Te)
  | .alloc t =>
    match isArr C t, C.ty t with
    | some (n, k), some td =>
      match rtZ k (td.zero.map .v) with
      | some rt => bif Nat.ble n 1000000 then some (some (.o (.c (.p H.next 0))), H.push (.sy true t [.n k] rt), []) else none
      | none => none
    | _, _ => none
  | .box t x =>
    match isArr C t, avO tm x with
    | some (n, k), some (.ag xs) =>
      match rtZ k xs with
      | some rt => bif Nat.ble n 1000000 && Nat.beq xs.length n then some (some (.o (.c (.p H.next 0))), H.push (.sy true t [.n k] rt), []) else none
      | none => none
    | _, _ => none
  | .store t x y =>
    match isArr C t, cO tm x, avO tm y with
    | some (n, k), some (.p b 0), some (.ag xs) =>
      match rtZ k xs, H.bs.get b with
      | some rt, some (.sy true t' [k'] rt0) =>
        bif Nat.beq xs.length n && ckEq k' (.n k) && Nat.beq t t' then some (none, { H with bs := H.bs.put b (some (.sy true t [.n k] rt)) }, [.bin .eql (.len rt0) (.l (.int .i64 (n : Int)))]) else none
      | _, _ => none
    | _, _, _ => none
  | _ => none
/-- The cells of an array. -/
def cellsA (k : IntKind) (rt : RT) (n : Nat) : List AC :=
  match chainT rt with
  | some ts => ts.map fun t => .t (.n k) t
  | none => cellsR k rt n
/-- A whole array that lies as a row. -/
def arrL (C : Cfg) (H : Hp) (t : Nat) : AC → Option (AV × List Te)
  | .p b 0 =>
    match isArr C t, H.bs.get b with
    | some (n, k), some (.sy true _ [k'] rt) => bif ckEq k' (.n k) then some (.ag (cellsA k rt n), [.bin .eql (.len rt) (.l (.int .i64 (n : Int)))]) else none
    | _, _ => none
  | _ => none
section
variable {C : Cfg} {fr : Fr} {E : Env} {N : Nat} {tm : Tm} {a : Act} {w0 : World} {H : Hp} {w w' : World}
theorem rtK_rel {k : IntKind} : ∀ (xs : List AC) {rt : RT} {us : List Value}, rtK k xs = some rt → RelL E xs us → (∀ S, E.q.has S → rt.ev S = us.map fun u => [u]) ∧ RowOk [.n k] (us.map fun u => [u])
  | [], rt, us, h, hr => by
    cases h
    have : us = [] := List.eq_nil_of_length_eq_zero (by rw [← hr.1]; rfl)
    subst this
    exact ⟨fun _ _ => rfl, fun e he => by simp at he⟩
  | x :: xs, rt, us, h, hr => by
    simp only [rtK] at h
    split at h
    · rename_i k' te r h1 h2
      cases hc : ckEq k' (.n k) with
      | false => rw [hc] at h; cases h
      | true =>
        rw [hc, cond_true] at h
        cases h
        obtain rfl := ckEq_eq hc
        match us, hr with
        | u :: us, hr =>
          obtain ⟨g1, g2⟩ := teO_rel h1 (hr.2 0 x u rfl rfl)
          obtain ⟨g3, g4⟩ := rtK_rel xs h2 (⟨by simpa using hr.1, fun j y v hy hv => hr.2 (j + 1) y v (by simpa using hy) (by simpa using hv)⟩ : RelL E xs us)
          refine ⟨fun S hS => by simp only [RT.ev, TL.ev, g2 S hS, g3 S hS, List.map_cons]; rfl, fun e he => ?_⟩
          rcases List.mem_cons.1 (by simpa using he : e ∈ [u] :: us.map fun u => [u]) with rfl | he
          · refine ⟨rfl, fun j kk v hk hv => ?_⟩
            cases j with
            | zero => simp at hk hv; subst hk hv; exact g1
            | succ j => simp at hk
          · exact g4 e he
        | [], hr => exact absurd hr.1 (by simp)
    · cases h
theorem zK_ok {k : IntKind} : ∀ (xs : List AC), zK k xs = true → xs = List.replicate xs.length (.v (.int k 0))
  | [], _ => rfl
  | .v (.int k' b) :: xs, h => by
    simp only [zK, Bool.and_eq_true, intEq_eq, decide_eq_true_eq] at h
    obtain ⟨⟨h1, rfl⟩, h2⟩ := h
    have h1 := ckEq_eq h1
    injection h1 with h1
    subst h1
    rw [List.length_cons, List.replicate_succ, ← zK_ok xs h2]
theorem rtZ_rel {k : IntKind} {xs : List AC} {rt : RT} {us : List Value} (h : rtZ k xs = some rt) (hr : RelL E xs us) : (∀ S, E.q.has S → rt.ev S = us.map fun u => [u]) ∧ RowOk [.n k] (us.map fun u => [u]) := by
  unfold rtZ at h
  cases hc : zK k xs with
  | false => rw [hc] at h; exact rtK_rel xs h hr
  | true =>
    rw [hc, cond_true] at h
    cases h
    have hx := zK_ok xs hc
    have hu : us = List.replicate us.length (.int k 0) := by
      refine List.eq_replicate_iff.2 ⟨rfl, fun u hu => ?_⟩
      obtain ⟨j, hj⟩ := List.getElem?_of_mem hu
      have hlt : j < xs.length := by rw [hr.1]; exact (List.getElem?_eq_some_iff.1 hj).1
      have := hr.2 j (.v (.int k 0)) u (by rw [hx, List.getElem?_replicate, if_pos hlt]) hj
      exact this.1
    refine ⟨fun S hS => ?_, fun e he => ?_⟩
    · simp only [RT.ev, TL.ev, Te.ev, natOf, Int.toNat_natCast]
      rw [hr.1, hu]
      simp
    · rw [hu] at he
      simp at he
      rw [he.2]
      refine ⟨rfl, fun j kk v hk hv => ?_⟩
      cases j with
      | zero => simp at hk hv; subst hk hv; exact ⟨_, rfl⟩
      | succ j => simp at hk
theorem flat_one (us : List Value) : (us.map fun u => [u]).flatten = us := by
  induction us with
  | nil => rfl
  | cons u us ih => simp [ih]
/-- A block of an array that the call makes. -/
theorem newA_ok (hH : RelH fr w0 E H w) {t n : Nat} {k : IntKind} {rt : RT} {xs : List AC} {arr : Array Value} (hsz : arr.size = n) (hn0 : 0 < n) (hn : n ≤ maxLen) (hrt : rtZ k xs = some rt) (hr : RelL E xs arr.toList) :
    RelH fr w0 (E.new H.next ⟨some w.heap.size, 0, n, 1, t, true, .slice (some ⟨w.heap.size, 0, none⟩) n n⟩) (H.push (.sy true t [.n k] rt)) (w.alloc (.cells arr t (0, 0))) := by
  obtain ⟨g1, g2⟩ := rtZ_rel hrt hr
  have hl : arr.toList.length = n := by simpa using hsz
  obtain ⟨n1, n2⟩ := hH.newg (r := ⟨some w.heap.size, 0, n, 1, t, true, .slice (some ⟨w.heap.size, 0, none⟩) n n⟩) (g := w.heap.size) rfl (Nat.le_refl _)
  refine hH.push_at (K := fun _ _ => True) (Keeps.of_below ((Below.refl _ _).alloc (Nat.le_refl _) _)) (fun _ _ _ _ _ _ _ _ => trivial) n1 (fun _ _ _ => trivial) n2
    ⟨_, arr.toList.map fun u => [u], Env.new_get _ _ _, rfl, g1, g2, .inr ⟨w.heap.size, arr, rfl, rfl, rfl, rfl, by rw [List.length_map, hl], by show (w.heap.push _)[w.heap.size]? = _; simp, by rw [hsz, Nat.mul_one], by rw [List.length_map, hl]; exact Nat.le_refl _, hn, ?_⟩⟩
  rw [flat_one, List.length_map, hl, Nat.mul_one, List.take_of_length_le (by omega)]
theorem arrW_ok (hC : C.Ok) (hH : RelH fr w0 E H w) (hT : RelT E N tm a) {o : Oper} {r : Option SV} {H' : Hp} {ns : List Te} (h : arrW C H tm o.op = some (r, H', ns)) (hn : ∀ c ∈ ns, c.ev E.q.S = .bool true) {Q : Exit → Act → World → Prop} {K : Act → World → Prop}
    (hK : ∀ E' w' v, E.le E' → E'.q = E.q → RelH fr w0 E' H' w' → Told E' r v → K (a.put o.dst v) w') : o.wp C.P a w K Q := by
  cases ho : o.op with
  | alloc t =>
    rw [ho] at h
    simp only [arrW] at h
    split at h
    · rename_i n k td hia ht
      split at h
      · rename_i rt hrt
        cases hc : Nat.ble n 1000000 with
        | false => rw [hc] at h; cases h
        | true =>
          rw [hc, cond_true] at h
          cases h
          rw [Nat.ble_eq] at hc
          obtain ⟨hn0, e, zero, bt, zero', bt', ht', _⟩ := isArr_ok hia
          rw [ht] at ht'; cases ht'
          have hok := hC.ty _ _ ht
          obtain ⟨zv, hz, hzc⟩ := zeroValue_run hok w
          have hsz : zv.cells.size = n := by have := hok.len; rw [← hzc] at this; simpa using this
          have hnew := newA_ok (t := t) hH hsz hn0 (by simp only [maxLen]; omega) hrt (by rw [hzc]; exact zero_rel hok)
          refine wp_value ?_ (hK _ _ (.pointer (some ⟨w.heap.size, 0, none⟩)) (hH.le_new _) rfl hnew ⟨_, w.heap.size, Env.new_get _ _ _, rfl, rfl⟩)
          unfold execOp; rw [ho]
          refine alloc_run ?_
          simp only [Instr.alloc, Sem.run_bind, hz, Result.andThen_ok]
          exact newVar_run t zv w
      · cases h
    · cases h
  | box t x =>
    rw [ho] at h
    simp only [arrW] at h
    split at h
    · rename_i n k xs hia hu
      split at h
      · rename_i rt hrt
        cases hc : (Nat.ble n 1000000 && Nat.beq xs.length n) with
        | false => rw [hc] at h; cases h
        | true =>
          rw [hc, cond_true] at h
          cases h
          simp only [Bool.and_eq_true, Nat.ble_eq, beq_eq, decide_eq_true_eq] at hc
          obtain ⟨hn0, _⟩ := isArr_ok hia
          have hr := (avO_rel hT hu).cells
          have hsz : (a.eval x).cells.size = n := by rw [← hc.2]; have := hr.1; simpa [AV.cells] using this.symm
          have hnew := newA_ok (t := t) hH hsz hn0 (by simp only [maxLen]; omega) hrt hr
          refine wp_value ?_ (hK _ _ (.pointer (some ⟨w.heap.size, 0, none⟩)) (hH.le_new _) rfl hnew ⟨_, w.heap.size, Env.new_get _ _ _, rfl, rfl⟩)
          unfold execOp; rw [ho]
          exact alloc_run (newVar_run t (a.eval x) w)
      · cases h
    · cases h
  | store t x y =>
    rw [ho] at h
    simp only [arrW] at h
    split at h
    · rename_i n k b xs hia hx hu
      split at h
      · rename_i rt t' k' rt0 hrt hb
        cases hc : (Nat.beq xs.length n && ckEq k' (.n k) && Nat.beq t t') with
        | false => rw [hc] at h; cases h
        | true =>
          rw [hc, cond_true] at h
          cases h
          simp only [Bool.and_eq_true, beq_eq, decide_eq_true_eq] at hc
          obtain ⟨⟨hxl, hk⟩, rfl⟩ := hc
          obtain rfl := ckEq_eq hk
          obtain ⟨hn0, e, zero, bt, zero', bt', ht, _⟩ := isArr_ok hia
          have hok := hC.ty _ _ ht
          obtain ⟨r, g, hE, hg, hev⟩ := cO_rel hT hx
          have hr := (avO_rel hT hu).cells
          have hvs : (a.eval y).cells.size = n := by rw [← hxl]; have := hr.1; simpa [AV.cells] using this.symm
          have hvl : (a.eval y).cells.toList.length = n := by simpa using hvs
          obtain ⟨_, r', L, hE', q1, q2, q3, q4⟩ := hH.blk _ _ hb
          rw [hE] at hE'; cases hE'
          have hlen := hn _ List.mem_cons_self
          simp only [Te.ev, q2 _ E.q.has_self, binV] at hlen
          have hlen := bool_dec hlen
          have hlen : L.length = n := by omega
          have q1 : r.z = 1 := q1
          rcases q4 with ⟨q5, _⟩ | ⟨g', arr, p1, p2, p0, pt, p3, p4, p5, p6, p7, p8⟩
          · rw [q5] at hg; cases hg
          · rw [hg] at p1; cases p1
            obtain ⟨inf, zv, hinf, hs, _⟩ := info_of hok
            have hcap : n ≤ arr.size := by rw [p5, q1]; omega
            have hrun := run_storeVar_seg (P := C.P) w g 0 t t arr (a.eval y) p4 (by simp [hinf, hs, hvs]) (by rw [hvs]; omega) hr.one
            have hsize : (arr.toList.take 0 ++ ((a.eval y).cells.toList ++ arr.toList.drop (0 + (a.eval y).cells.size))).toArray.size = arr.size := by
              simp only [List.size_toArray, List.length_append, List.length_take, List.length_drop, hvs, hvl, Array.length_toList]
              omega
            obtain ⟨g1, g2⟩ := rtZ_rel hrt hr
            refine wp_skip' ?_ (hK E _ undef (Env.le_refl E) rfl (hH.turn hb hE ((Keeps.setRow p4 hsize (fun _ => True) (fun o ho => absurd trivial ho)).sub fun g2 o2 hno he2 => hno ⟨by rw [hg, he2.1], .inl p2⟩)
              ⟨r, (a.eval y).cells.toList.map fun u => [u], hE, q1, g1, g2, .inr ⟨g, _, hg, p2, p0, pt, by rw [List.length_map, hvl, ← hlen]; exact p3, setRow_heap w g arr _ t _ p4, by rw [hsize]; exact p5, by rw [List.length_map, hvl, ← hlen]; exact p6, p7, ?_⟩⟩) rfl)
            · unfold execOp; rw [ho]
              rw [p0] at hev
              simp only [Nat.add_zero] at hev
              simp [Instr.storeAt, Instr.sureAddr, Sem.run_bind, hev, hrun]
            · rw [flat_one, List.length_map, hvl, q1, Nat.mul_one]
              simp [List.take_append_of_le_length, hvl]
      · cases h
    · cases h
  | _ => rw [ho] at h; simp [arrW] at h
theorem arrL_ok (hC : C.Ok) (hH : RelH fr w0 E H w) {t : Nat} {c : AC} {av : AV} {ns : List Te} (h : arrL C H t c = some (av, ns)) (hn : ∀ c ∈ ns, c.ev E.q.S = .bool true) {u : Value} (hu : RelC E c u) : ∃ ad v, u = .pointer (some ad) ∧ RelV E av v ∧ (loadVar t ad).run C.P w = .ok v w := by
  unfold arrL at h
  split at h
  · rename_i b
    split at h
    · rename_i n k t' k' rt hia hb
      cases hc : ckEq k' (.n k) with
      | false => rw [hc] at h; cases h
      | true =>
        rw [hc, cond_true] at h
        cases h
        obtain rfl := ckEq_eq hc
        obtain ⟨hn0, e, zero, bt, zero', bt', ht, _⟩ := isArr_ok hia
        have hok := hC.ty _ _ ht
        obtain ⟨r, g, hE, hg, rfl⟩ := hu
        obtain ⟨_, r', L, hE', q1, q2, q3, q4⟩ := hH.blk _ _ hb
        rw [hE] at hE'; cases hE'
        have hlen := hn _ List.mem_cons_self
        simp only [Te.ev, q2 _ E.q.has_self, binV] at hlen
        have hlen := bool_dec hlen
        have hlen : L.length = n := by omega
        have q1 : r.z = 1 := q1
        rcases q4 with ⟨q5, _⟩ | ⟨g', arr, p1, p2, p0, pt, p3, p4, p5, p6, p7, p8⟩
        · rw [q5] at hg; cases hg
        · rw [hg] at p1; cases p1
          have hcap : n ≤ arr.size := by rw [p5, q1]; omega
          have ha := isAgg_run hok w
          refine ⟨_, _, rfl, ?_, run_loadVar_seg w g (r.lo + 0) t' t arr (0, 0) n p4 ha (sizeOf_run hok w) (by rw [p0]; omega)⟩
          refine ⟨_, rfl, ?_⟩
          rw [hlen, q1, Nat.mul_one] at p8
          have hsz : ((arr.toList.drop (r.lo + 0)).take n) = L.flatten := by rw [p0]; simpa using p8
          have hL1 : ∀ (L : Rw), (∀ e ∈ L, e.length = 1) → ∀ (j : Nat), L.flatten[j]? = (L[j]?).bind (fun (e : List Value) => e[0]?) := by
            intro L
            induction L with
            | nil => intro _ j; simp
            | cons e L ih =>
              intro hl j
              have he := hl e List.mem_cons_self
              match e, he with
              | [x], _ =>
                cases j with
                | zero => simp
                | succ j => simpa using ih (fun e he => hl e (List.mem_cons_of_mem _ he)) j
          have hL := hL1 L (fun e he => (q3 e he).1)
          have hlx : (cellsA k rt n).length = n := by
            unfold cellsA
            split
            · rename_i ts hts
              have := congrArg List.length (chainT_ev E.q.S rt hts)
              rw [q2 _ E.q.has_self] at this
              simp at this ⊢
              omega
            · simp [cellsR]
          refine ⟨?_, fun j x v hx hv => ?_⟩
          · have : ((arr.toList.drop (r.lo + 0)).take n).length = n := by rw [List.length_take, List.length_drop, p0, Array.length_toList]; omega
            rw [hlx]
            simpa using this.symm
          · have hv2 : L.flatten[j]? = some v := by rw [← hsz]; simpa using hv
            rw [hL] at hv2
            have hjn : j < n := by
              have := (List.getElem?_eq_some_iff.1 hx).1
              rwa [hlx] at this
            have hjl : j < L.length := by omega
            rw [List.getElem?_eq_getElem hjl] at hv2
            have hmem := List.getElem_mem hjl
            obtain ⟨o1, o2⟩ := q3 _ hmem
            have hv3 : (L[j])[0]? = some v := hv2
            unfold cellsA at hx
            split at hx
            · rename_i ts hts
              rw [List.getElem?_map] at hx
              obtain ⟨te, hte, rfl⟩ := Option.map_eq_some_iff.1 hx
              refine ⟨o2 0 (.n k) v rfl hv2, fun S hS => ?_⟩
              have he := chainT_ev S rt hts
              rw [q2 S hS] at he
              have : L[j] = [te.ev S] := by
                have h5 : L[j]? = some [te.ev S] := by rw [he, List.getElem?_map, hte]; rfl
                rw [List.getElem?_eq_getElem hjl] at h5
                exact Option.some.inj h5
              rw [this] at hv3
              simpa using hv3
            · simp only [cellsR, List.getElem?_map, List.getElem?_range hjn, Option.map_some, Option.some.injEq] at hx
              subst hx
              refine ⟨o2 0 (.n k) v rfl hv2, fun S hS => ?_⟩
              simp only [Te.ev, q2 S hS, natOf, Int.toNat_natCast, List.getD_eq_getElem?_getD, List.getElem?_eq_getElem hjl, Option.getD_some]
              rw [hv3]
              rfl
    · cases h
  · cases h
end
end Go.Proofs.Ytipomcnbjlfekaa.Rs
