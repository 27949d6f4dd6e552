/- FnExactWorldNew: what is asked of numbers, and functions over lists of routes as contracts. -/
import Derived.Test.YtdfhkmekmockkaaRxJ
import Derived.Test.YtdfhkmekmockkaaRxT
import Derived.Test.YtdfhkmekmockkaaGnPure
namespace Go.Proofs.Ytdfhkmekmockkaa.Wn
open Go.RowKit Go.Proofs.Ytdfhkmekmockkaa.PFnExactGateNew Go.Proofs.YtdfhkmekmockkaaW.PrintWords Go.Proofs.YtdfhkmekmockkaaW.PrintLast Go.Proofs.Ytdfhkmekmockkaa.Rx Go.Proofs.Ytdfhkmekmockkaa.Gen
set_option linter.unusedVariables false
set_option maxRecDepth 100000
/-- Numbers that nobody knows: 0 the mode; 2 what is left; from 100 on: one after the other, none below 0. -/
def ar (neg : Bool) : BinOp → TypeId → AV → AV → Option AV
  | .lss, 3, .c (.s q), .c (.v (.int .i64 (.ofNat 0))) => bif Nat.beq q 2 then some (.c (.v (.bool neg))) else bif Nat.ble 100 q then some (.c (.v (.bool false))) else none
  | .neq, 3, .c (.s i), .c (.s j) => bif Nat.beq i j && (Nat.beq i 0 || Nat.ble 100 i) then some (.c (.v (.bool false))) else none
  | .add, 3, .c (.s q), .c (.v (.int .i64 (.ofNat 1))) => bif Nat.ble 100 q && Nat.blt q 100000 then some (.c (.s (q + 1))) else none
  | _, _, _, _ => none
def orcS : FuncId → List SV → Hp → Option (SV × Hp)
  | 54, [.o (.c (.s 1)), .o (.c (.v (.int .i64 (.ofNat 1048576))))], H => some (.o (.c (.s 2)), H)
  | _, _, _ => none
def orcE : FuncId → List SV → Hp → Option (SV × Hp)
  | 54, [.o (.c (.s 1)), .o (.c (.v (.int .i64 (.ofNat 1048576))))], H => some (.o (.c (.s 2)), H)
  | 56, [.o (.c (.s 1))], H => some (.o (.c .em), H)
  | 55, [.o (.c (.v (.int .i64 a))), .o (.c .em)], H => some (.o (.ag [.v (.int .i64 a), .v (.int .i64 1), .em, .em, .em, .em, .v (.int .i64 0)]), H)
  | 57, [.o (.c (.v (.int .i64 a))), .o (.c .em)], H => some (.o (.ag [.v (.int .i64 a), .v (.int .i64 1), .em, .em, .em, .em, .v (.int .i64 0)]), H)
  | _, _, _ => none
def orcF : FuncId → List SV → Hp → Option (SV × Hp)
  | 54, [.o (.c (.s 1)), .o (.c (.v (.int .i64 (.ofNat 1048576))))], H => some (.o (.c (.s 2)), H)
  | 56, [.o (.c (.s 1))], H => some (.o (.c (.os H.next)), H.push (.opq 154 0))
  | 55, [.o (.c (.v (.int .i64 a))), .o (.c (.os b))], H => bif isO H b 154 0 then some (.o (.ag [.v (.int .i64 a), .v (.int .i64 1), .em, .em, .os H.next, .em, .v (.int .i64 0)]), H.push (.opq 154 0)) else none
  | 57, [.o (.c (.v (.int .i64 a))), .o (.c (.os b))], H => bif isO H b 154 0 then some (.o (.ag [.v (.int .i64 a), .v (.int .i64 1), .em, .em, .os H.next, .em, .v (.int .i64 0)]), H.push (.opq 154 0)) else none
  | 58, [.o (.c (.os b)), .o (.c (.os d))], H => bif isO H b 154 0 && isO H d 154 0 then some (.o (.c (.v (.bool true))), H) else none
  | 59, [.o (.c (.os b)), .o (.c (.v (.int .i64 (.ofNat n))))], H => bif isO H b 154 0 && (Nat.blt 0 n && Nat.blt n 100000) then some (.o (.c (.s (100 + n))), ⟨H.next, H.bs.put b (some (.opq 154 n))⟩) else none
  | 111, [.o (.c (.os b)), .o (.c (.v (.int .i64 (.ofNat n))))], H => bif isO H b 154 n && (Nat.blt 0 n && Nat.blt n 100000) then some (.o (.c (.s (100 + n))), H) else none
  | _, _, _ => none
def sg (a : Int) (v : Value) (z t : Int) : Nat → Value
  | 0 => .int .i64 a
  | 1 => v
  | 2 => .int .i64 z
  | q => .int .i64 (t + ((q : Int) - 100))
theorem sg_big (a : Int) (v : Value) (z t : Int) (q : Nat) (h : 100 ≤ q) : sg a v z t q = .int .i64 (t + ((q : Int) - 100)) := by
  match q with
  | 0 => omega
  | 1 => omega
  | 2 => omega
  | q + 3 => rfl
theorem wrap_ok (x : Int) (h0 : 0 ≤ x) (h1 : x ≤ 4398046511104) : IntKind.i64.wrap x = x := by
  rw [← wrapF_eq]
  unfold wrapF
  cases x with
  | ofNat n =>
    have hn : n < 9223372036854775808 := by have : (Int.ofNat n) = (n : Int) := rfl; omega
    simp only [blt_eq, cond_decide]
    rw [if_pos hn]
  | negSucc n => omega
theorem cf_ok (orc : FuncId → List SV → Hp → Option (SV × Hp)) (neg : Bool) (a : Int) (v : Value) (z t : Int) (hz : decide (z < 0) = neg) (h0 : 0 ≤ t) (h1 : t ≤ 3145728) : (cfg (ar neg) orc).Ok (sg a v z t) := by
  refine cfg_ok ?_
  intro op ty x y E u v' r uv vv h hu hv
  unfold ar at h
  split at h
  · rename_i q
    rw [beq_eq, cond_decide] at h
    split at h
    · rename_i hq
      subst hq
      cases h
      obtain rfl : uv = .int .i64 z := hu.1
      obtain rfl : vv = .int .i64 0 := hv.1
      refine ⟨.bool neg, ⟨rfl, rfl⟩, fun w => ?_⟩
      rw [← hz]
      rfl
    · cases hb : Nat.ble 100 q with
      | false => rw [hb] at h; cases h
      | true =>
        rw [hb] at h
        cases h
        have hq := Nat.le_of_ble_eq_true hb
        obtain rfl : uv = .int .i64 (t + ((q : Int) - 100)) := hu.1.trans (sg_big a v z t q hq)
        obtain rfl : vv = .int .i64 0 := hv.1
        refine ⟨.bool false, ⟨rfl, rfl⟩, fun w => ?_⟩
        rw [← show decide (t + ((q : Int) - 100) < 0) = false from decide_eq_false (by omega)]
        rfl
  · rename_i i j
    cases hb : (Nat.beq i j && (Nat.beq i 0 || Nat.ble 100 i)) with
    | false => rw [hb] at h; cases h
    | true =>
      rw [hb] at h
      cases h
      obtain ⟨e, he⟩ := Bool.and_eq_true_iff.1 hb
      obtain rfl := Nat.eq_of_beq_eq_true e
      obtain ⟨n, hn⟩ : ∃ n, sg a v z t i = .int .i64 n := by
        rcases Bool.or_eq_true_iff.1 he with e | e
        · obtain rfl := Nat.eq_of_beq_eq_true e
          exact ⟨_, rfl⟩
        · exact ⟨_, sg_big a v z t i (Nat.le_of_ble_eq_true e)⟩
      obtain rfl : uv = .int .i64 n := hu.1.trans hn
      obtain rfl : vv = .int .i64 n := hv.1.trans hn
      refine ⟨.bool false, ⟨rfl, rfl⟩, fun w => ?_⟩
      rw [← show (!decide (n = n)) = false from by simp]
      rfl
  · rename_i q
    cases hb : (Nat.ble 100 q && Nat.blt q 100000) with
    | false => rw [hb] at h; cases h
    | true =>
      rw [hb] at h
      cases h
      obtain ⟨e1, e2⟩ := Bool.and_eq_true_iff.1 hb
      have hq := Nat.le_of_ble_eq_true e1
      have hq2 : q < 100000 := by rw [blt_eq] at e2; exact of_decide_eq_true e2
      obtain rfl : uv = .int .i64 (t + ((q : Int) - 100)) := hu.1.trans (sg_big a v z t q hq)
      obtain rfl : vv = .int .i64 1 := hv.1
      refine ⟨.int .i64 (t + ((q : Int) - 100) + 1), ⟨?_, rfl⟩, fun w => ?_⟩
      · rw [sg_big a v z t (q + 1) (by omega)]
        congr 1
        omega
      · rw [← wrap_ok (t + ((q : Int) - 100) + 1) (by omega) (by omega)]
        rfl
  · cases h
def cts (L : List S154) : Nat → Ct
  | 0 => ctOf k154 L
  | n + 1 => ctOf k154 (marked mk adv L ((n + 1 : Nat) : Int))
theorem flat154 : Flat k154 := fun _ _ _ _ _ _ _ _ h => h
theorem cts_pos (L : List S154) {n : Nat} (h : 0 < n) : cts L n = ctOf k154 (marked mk adv L (n : Int)) := by
  cases n with
  | zero => omega
  | succ n => rfl
theorem count_n (L : List S154) (n : Nat) (hn : L.length ≤ 1048576) (h : n < 100000) : count adv L.length (n : Int) = (n : Int) + (L.length : Int) * 3 :=
  count_add adv 3 (by omega) (fun c h0 h1 => by unfold adv wrap64; omega) L.length (n : Int) (by omega) (by omega)
section
variable (A : Option Addr) (c : Nat) (l : List S156) (a0 : Int) (w : World)
theorem sz_eq (z : Int) (hz : wrap64 (1048576 - (l.length : Int)) = z) : laws_szRouteS.f l 1048576 = some (if z < 0 then -1 else z) := by
  unfold laws_szRouteS.f
  rw [hz]
  by_cases h : z < 0
  · rw [if_pos h, if_pos h]
  · rw [if_neg h, if_neg h]
theorem sz_ok {O : Opq} {H : Hp} {E : Env} {w1 : World} {m z : Int} (hr : Kd.C k156 w A l.length l) (hc : l.length ≤ c) (hH : RelH (sg a0 (.slice A l.length c) z m) O w E H w1) (hz : laws_szRouteS.f l 1048576 = some z) :
    Calls Try.prog 54 #[.slice A l.length c, .int .i64 1048576] w1 fun e w' => ∃ E' v, e = .returned v ∧ E.le E' ∧ RelS (sg a0 (.slice A l.length c) z m) E' (.o (.c (.s 2))) v ∧ RelH (sg a0 (.slice A l.length c) z m) O w E' H w' := by
  refine (laws_szRouteS.calls A c l 1048576 z w1 (Kd.C_below hr hH.below) hc hz).mono ?_
  rintro e w' ⟨rfl, hd⟩
  exact ⟨E, _, rfl, Env.le_refl E, ⟨rfl, rfl⟩, hH.grow hd.below⟩
theorem orcS_ok (m z : Int) (hr : Kd.C k156 w A l.length l) (hc : l.length ≤ c) (hz : laws_szRouteS.f l 1048576 = some z) :
    CeOk (cfg (ar true) orcS) (sg a0 (.slice A l.length c) z m) (opqOf (cts [])) w orcS := by
  intro f xs H r H' E w1 vs h hH hl hv
  unfold orcS at h
  split at h
  · cases h
    obtain ⟨u, v, rfl, hu, hv2⟩ := arg2 hl hv _ _ rfl
    obtain rfl : u = .slice A l.length c := hu.1
    obtain rfl : v = .int .i64 1048576 := hv2.1
    exact sz_ok A c l a0 w hr hc hH hz
  · cases h
theorem new_em (a1 : Int) {O : Opq} {H : Hp} {E : Env} {w1 w' : World} {m z : Int} {v : Value} (hH : RelH (sg a0 (.slice A l.length c) z m) O w E H w1) {v2 v3 v4 v5 : Value} (h2 : Kd.R k148 148 w' w1.heap.size (fun _ => True) v2 []) (h3 : Kd.R k109 109 w' w1.heap.size (fun _ => True) v3 [])
    (h4 : Kd.R k154 154 w' w1.heap.size (fun _ => True) v4 []) (h5 : Kd.R k203 203 w' w1.heap.size (fun _ => True) v5 []) (hb : Below w1.heap.size w1 w') :
    ∃ E' v, Ending.returned (.agg #[.int .i64 a1, .int .i64 1, v2, v3, v4, v5, .int .i64 0]) = .returned v ∧ E.le E' ∧ RelS (sg a0 (.slice A l.length c) z m) E' (.o (.ag [.v (.int .i64 a1), .v (.int .i64 1), .em, .em, .em, .em, .v (.int .i64 0)])) v ∧ RelH (sg a0 (.slice A l.length c) z m) O w E' H w' :=
  ⟨E, _, rfl, Env.le_refl E, ⟨_, rfl, RelL.cons ⟨rfl, rfl⟩ (RelL.cons ⟨rfl, rfl⟩ (RelL.cons (em_of_R h2) (RelL.cons (em_of_R h3) (RelL.cons (em_of_R h4) (RelL.cons (em_of_R h5) (RelL.cons ⟨rfl, rfl⟩ RelL.nil))))))⟩, hH.grow hb⟩
theorem orcE_ok (m z : Int) (hr : Kd.C k156 w A l.length l) (hc : l.length ≤ c) (hz : laws_szRouteS.f l 1048576 = some z) (h0 : l = []) :
    CeOk (cfg (ar false) orcE) (sg a0 (.slice A l.length c) z m) (opqOf (cts [])) w orcE := by
  intro f xs H r H' E w1 vs h hH hl hv
  have hn : l.length ≤ 1048576 := by rw [h0]; simp
  unfold orcE at h
  split at h
  · cases h
    obtain ⟨u, v, rfl, hu, hv2⟩ := arg2 hl hv _ _ rfl
    obtain rfl : u = .slice A l.length c := hu.1
    obtain rfl : v = .int .i64 1048576 := hv2.1
    exact sz_ok A c l a0 w hr hc hH hz
  · cases h
    obtain ⟨u, rfl, hu⟩ := arg1 hl hv _ rfl
    obtain rfl : u = .slice A l.length c := hu.1
    obtain ⟨K, hK⟩ := to_ev l hn
    refine (laws_toRouteS.calls K A c l _ w1 (Kd.C_below hr hH.below) hc (hK K (Nat.le_refl _))).mono ?_
    rintro e w' ⟨v0, rfl, hR, hb⟩
    rw [h0] at hR
    have hem := em_of_R (σ := sg a0 (.slice A l.length c) z m) (E := E) hR
    exact ⟨E, _, rfl, Env.le_refl E, hem, hH.grow hb⟩
  · cases h
    obtain ⟨u, v, rfl, hu, hv2⟩ := arg2 hl hv _ _ rfl
    rename_i a1
    obtain rfl : u = .int .i64 a1 := hu.1
    obtain ⟨A1, c1, rfl⟩ := hv2
    refine (spec_GateNew.calls a1 A1 c1 [] _ _ _ _ _ _ _ w1 ⟨rfl, by simp, fun h => by simp at h⟩ (by simp) (spec_new a1 [] (by simp))).mono ?_
    rintro e w' ⟨v2, v3, v4, v5, rfl, h2, h3, h4, h5, hb⟩
    exact new_em A c l a0 w a1 (v := v2) hH h2 h3 h4 h5 hb
  · cases h
    obtain ⟨u, v, rfl, hu, hv2⟩ := arg2 hl hv _ _ rfl
    rename_i a1
    obtain rfl : u = .int .i64 a1 := hu.1
    obtain ⟨A1, c1, rfl⟩ := hv2
    refine (impl_GateNew.calls a1 A1 c1 [] _ _ _ _ _ _ _ w1 ⟨rfl, by simp, fun h => by simp at h⟩ (by simp) (impl_new a1 [] (by simp))).mono ?_
    rintro e w' ⟨v2, v3, v4, v5, rfl, h2, h3, h4, h5, hb⟩
    exact new_em A c l a0 w a1 (v := v2) hH h2 h3 h4 h5 hb
  · cases h
theorem new_os (a1 : Int) {L : List S154} {H : Hp} {E : Env} {w1 w' : World} {m z : Int} {v : Value} (hL : L ≠ []) (hH : RelH (sg a0 (.slice A l.length c) z m) (opqOf (cts L)) w E H w1) {v2 v3 v4 v5 : Value} (h2 : Kd.R k148 148 w' w1.heap.size (fun _ => True) v2 []) (h3 : Kd.R k109 109 w' w1.heap.size (fun _ => True) v3 [])
    (h4 : Kd.R k154 154 w' w1.heap.size (fun _ => True) v4 L) (h5 : Kd.R k203 203 w' w1.heap.size (fun _ => True) v5 []) (hb : Below w1.heap.size w1 w') :
    ∃ E' v, Ending.returned (.agg #[.int .i64 a1, .int .i64 1, v2, v3, v4, v5, .int .i64 0]) = .returned v ∧ E.le E' ∧ RelS (sg a0 (.slice A l.length c) z m) E' (.o (.ag [.v (.int .i64 a1), .v (.int .i64 1), .em, .em, .os H.next, .em, .v (.int .i64 0)])) v ∧ RelH (sg a0 (.slice A l.length c) z m) (opqOf (cts L)) w E' (H.push (.opq 154 0)) w' := by
  obtain ⟨r, k1, k2, k3⟩ := RelH.push_opq (k := 0) flat154 rfl hH hb h4 hL
  exact ⟨_, _, rfl, k1, ⟨_, rfl, RelL.cons ⟨rfl, rfl⟩ (RelL.cons ⟨rfl, rfl⟩ (RelL.cons (em_of_R h2) (RelL.cons (em_of_R h3) (RelL.cons k2 (RelL.cons (em_of_R h5) (RelL.cons ⟨rfl, rfl⟩ RelL.nil))))))⟩, k3⟩
theorem orcF_ok (m z : Int) (hr : Kd.C k156 w A l.length l) (hc : l.length ≤ c) (hz : laws_szRouteS.f l 1048576 = some z) (hl0 : l ≠ []) (hn : l.length ≤ 1048576) (hm : ((l.map cv).length : Int) * 3 = m) :
    CeOk (cfg (ar false) orcF) (sg a0 (.slice A l.length c) z m) (opqOf (cts (l.map cv))) w orcF := by
  intro f xs H r H' E w1 vs h hH hl hv
  have hL : l.map cv ≠ [] := by simpa using hl0
  have hn' : (l.map cv).length ≤ 1048576 := by simpa using hn
  unfold orcF at h
  split at h
  · cases h
    obtain ⟨u, v, rfl, hu, hv2⟩ := arg2 hl hv _ _ rfl
    obtain rfl : u = .slice A l.length c := hu.1
    obtain rfl : v = .int .i64 1048576 := hv2.1
    exact sz_ok A c l a0 w hr hc hH hz
  · cases h
    obtain ⟨u, rfl, hu⟩ := arg1 hl hv _ rfl
    obtain rfl : u = .slice A l.length c := hu.1
    obtain ⟨K, hK⟩ := to_ev l hn
    refine (laws_toRouteS.calls K A c l _ w1 (Kd.C_below hr hH.below) hc (hK K (Nat.le_refl _))).mono ?_
    rintro e w' ⟨v0, rfl, hR, hb⟩
    obtain ⟨r, k1, k2, k3⟩ := RelH.push_opq (k := 0) flat154 rfl hH hb hR hL
    exact ⟨_, _, rfl, k1, k2, k3⟩
  · rename_i a1 b
    cases hb : isO H b 154 0 with
    | false => rw [hb] at h; cases h
    | true =>
      rw [hb] at h
      cases h
      obtain ⟨u, v, rfl, hu, hv2⟩ := arg2 hl hv _ _ rfl
      obtain rfl : u = .int .i64 a1 := hu.1
      obtain ⟨q, hE, hlt, rfl, hcap, hR, hC⟩ := RelH.opq_R (d := k154) (l := l.map cv) rfl hH (isO_eq hb) hv2
      refine (spec_GateNew.calls a1 _ _ (l.map cv) _ _ _ _ _ _ _ w1 hC hcap (spec_new a1 _ hn')).mono ?_
      rintro e w' ⟨v2, v3, v4, v5, rfl, h2, h3, h4, h5, hb⟩
      exact new_os A c l a0 w a1 (v := v2) hL hH h2 h3 h4 h5 hb
  · rename_i a1 b
    cases hb : isO H b 154 0 with
    | false => rw [hb] at h; cases h
    | true =>
      rw [hb] at h
      cases h
      obtain ⟨u, v, rfl, hu, hv2⟩ := arg2 hl hv _ _ rfl
      obtain rfl : u = .int .i64 a1 := hu.1
      obtain ⟨q, hE, hlt, rfl, hcap, hR, hC⟩ := RelH.opq_R (d := k154) (l := l.map cv) rfl hH (isO_eq hb) hv2
      refine (impl_GateNew.calls a1 _ _ (l.map cv) _ _ _ _ _ _ _ w1 hC hcap (impl_new a1 _ hn')).mono ?_
      rintro e w' ⟨v2, v3, v4, v5, rfl, h2, h3, h4, h5, hb⟩
      exact new_os A c l a0 w a1 (v := v2) hL hH h2 h3 h4 h5 hb
  · rename_i b d
    cases hb : (isO H b 154 0 && isO H d 154 0) with
    | false => rw [hb] at h; cases h
    | true =>
      rw [hb] at h
      cases h
      obtain ⟨g1, g2⟩ := Bool.and_eq_true_iff.1 hb
      obtain ⟨u, v, rfl, hu, hv2⟩ := arg2 hl hv _ _ rfl
      obtain ⟨q, hE, hlt, rfl, hcap, hR, hC⟩ := RelH.opq_R (d := k154) (l := l.map cv) rfl hH (isO_eq g1) hu
      obtain ⟨q2, hE2, hlt2, rfl, hcap2, hR2, hC2⟩ := RelH.opq_R (d := k154) (l := l.map cv) rfl hH (isO_eq g2) hv2
      obtain ⟨K, hK⟩ := eq_ev (l.map cv) hn'
      refine (laws_eqRouteS.calls K _ _ _ _ _ _ true w1 hC hcap hC2 hcap2 (hK K (Nat.le_refl _))).mono ?_
      rintro e w' ⟨rfl, hb⟩
      exact ⟨E, _, rfl, Env.le_refl E, ⟨rfl, rfl⟩, hH.grow hb⟩
  · rename_i b n
    cases hb : (isO H b 154 0 && (Nat.blt 0 n && Nat.blt n 100000)) with
    | false => rw [hb] at h; cases h
    | true =>
      rw [hb] at h
      cases h
      obtain ⟨g1, g2⟩ := Bool.and_eq_true_iff.1 hb
      obtain ⟨g2, g3⟩ := Bool.and_eq_true_iff.1 g2
      rw [blt_eq] at g2 g3
      have p0 := of_decide_eq_true g2
      have p1 := of_decide_eq_true g3
      obtain ⟨u, v, rfl, hu, hv2⟩ := arg2 hl hv _ _ rfl
      obtain rfl : v = .int .i64 (n : Int) := hv2.1
      obtain ⟨q, hE, hlt, rfl, hcap, hR, hC⟩ := RelH.opq_R (d := k154) (l := l.map cv) rfl hH (isO_eq g1) hu
      obtain ⟨q', hE', he⟩ := hu
      rw [hE] at hE'
      obtain rfl := Option.some.inj hE'
      have hql : q.len = (l.map cv).length := by
        injection he with _ e2 _
        exact e2.symm
      obtain ⟨K, hK⟩ := mark_ev (l.map cv) (n : Int) hn'
      refine (laws_markRouteS.calls K _ _ (l.map cv) (n : Int) _ _ w w1 hH.below hR (hK K (Nat.le_refl _))).mono ?_
      rintro e w' ⟨rfl, hR', hB, hKp⟩
      have hlen := marked_length mk adv (l.map cv) (n : Int)
      rw [← hlen] at hR'
      have hne : marked mk adv (l.map cv) (n : Int) ≠ [] := fun e => hL (List.eq_nil_of_length_eq_zero (by rw [← marked_length mk adv (l.map cv) (n : Int), e]; rfl))
      refine ⟨E, _, rfl, Env.le_refl E, ⟨?_, rfl⟩, ?_⟩
      · rw [sg_big _ _ _ _ _ (by omega), count_n _ _ hn' p1, hm]
        congr 1
        omega
      · exact RelH.turn_opq (k' := n) flat154 (cts_pos _ p0) hH (isO_eq g1) hE (by rw [hlen]; exact hql) (by rw [hlen]; exact hcap) hB hKp hR' hne
  · rename_i b n
    cases hb : (isO H b 154 n && (Nat.blt 0 n && Nat.blt n 100000)) with
    | false => rw [hb] at h; cases h
    | true =>
      rw [hb] at h
      cases h
      obtain ⟨g1, g2⟩ := Bool.and_eq_true_iff.1 hb
      obtain ⟨g2, g3⟩ := Bool.and_eq_true_iff.1 g2
      rw [blt_eq] at g2 g3
      have p0 := of_decide_eq_true g2
      have p1 := of_decide_eq_true g3
      obtain ⟨u, v, rfl, hu, hv2⟩ := arg2 hl hv _ _ rfl
      obtain rfl : v = .int .i64 (n : Int) := hv2.1
      obtain ⟨q, hE, hlt, rfl, hcap, hR, hC⟩ := RelH.opq_R (d := k154) (l := marked mk adv (l.map cv) (n : Int)) (cts_pos _ p0) hH (isO_eq g1) hu
      obtain ⟨K, hK⟩ := held_ev (l.map cv) (n : Int) hn'
      refine (laws_heldRouteS.calls K _ _ _ (n : Int) _ w1 hC hcap (hK K (Nat.le_refl _))).mono ?_
      rintro e w' ⟨rfl, hd⟩
      refine ⟨E, _, rfl, Env.le_refl E, ⟨?_, rfl⟩, hH.grow hd.below⟩
      rw [sg_big _ _ _ _ _ (by omega), count_n _ _ hn' p1, hm]
      congr 1
      omega
  · cases h
end
def trF : Nat → List (List AC) → Tr (List AC)
  | _, [] => .e
  | i, x :: xs => (trF (i + 1) xs).put i (some x)
def trL (l : List (List AC)) : Tr (List AC) := trF 0 l
/-- What a new world's lists hold: nodes, clients, places, what is known, what is taken. -/
def bls : List Bl := [.rows 142 4 36 (trL [[.v (.int .i64 1), .v (.int .i64 1000), .v (.int .i64 0), .v (.int .i64 0)], [.v (.int .i64 1), .v (.int .i64 60), .v (.int .i64 0), .v (.int .i64 0)], [.v (.int .i64 1), .v (.int .i64 1), .v (.int .i64 0), .v (.int .i64 0)], [.v (.int .i64 1), .v (.int .i64 2001), .v (.int .i64 0), .v (.int .i64 0)], [.v (.int .i64 6), .v (.int .i64 0), .v (.int .i64 3), .v (.int .i64 0)], [.v (.int .i64 1), .v (.int .i64 0), .v (.int .i64 0), .v (.int .i64 0)], [.v (.int .i64 2), .v (.int .i64 0), .v (.int .i64 4), .v (.int .i64 5)], [.v (.int .i64 2), .v (.int .i64 0), .v (.int .i64 2), .v (.int .i64 6)], [.v (.int .i64 2), .v (.int .i64 0), .v (.int .i64 1), .v (.int .i64 7)], [.v (.int .i64 8), .v (.int .i64 0), .v (.int .i64 0), .v (.int .i64 8)], [.v (.int .i64 1), .v (.int .i64 2), .v (.int .i64 0), .v (.int .i64 0)], [.v (.int .i64 1), .v (.int .i64 2002), .v (.int .i64 0), .v (.int .i64 0)], [.v (.int .i64 6), .v (.int .i64 0), .v (.int .i64 11), .v (.int .i64 0)], [.v (.int .i64 2), .v (.int .i64 0), .v (.int .i64 12), .v (.int .i64 5)], [.v (.int .i64 2), .v (.int .i64 0), .v (.int .i64 10), .v (.int .i64 13)], [.v (.int .i64 2), .v (.int .i64 0), .v (.int .i64 1), .v (.int .i64 14)], [.v (.int .i64 8), .v (.int .i64 0), .v (.int .i64 0), .v (.int .i64 15)], [.v (.int .i64 1), .v (.int .i64 3), .v (.int .i64 0), .v (.int .i64 0)], [.v (.int .i64 1), .v (.int .i64 2003), .v (.int .i64 0), .v (.int .i64 0)], [.v (.int .i64 6), .v (.int .i64 0), .v (.int .i64 18), .v (.int .i64 0)], [.v (.int .i64 2), .v (.int .i64 0), .v (.int .i64 19), .v (.int .i64 5)], [.v (.int .i64 2), .v (.int .i64 0), .v (.int .i64 17), .v (.int .i64 20)], [.v (.int .i64 2), .v (.int .i64 0), .v (.int .i64 1), .v (.int .i64 21)], [.v (.int .i64 8), .v (.int .i64 0), .v (.int .i64 0), .v (.int .i64 22)], [.v (.int .i64 1), .v (.int .i64 9), .v (.int .i64 0), .v (.int .i64 0)], [.v (.int .i64 1), .v (.int .i64 2009), .v (.int .i64 0), .v (.int .i64 0)], [.v (.int .i64 6), .v (.int .i64 0), .v (.int .i64 25), .v (.int .i64 0)], [.v (.int .i64 2), .v (.int .i64 0), .v (.int .i64 26), .v (.int .i64 5)], [.v (.int .i64 2), .v (.int .i64 0), .v (.int .i64 24), .v (.int .i64 27)], [.v (.int .i64 2), .v (.int .i64 0), .v (.int .i64 1), .v (.int .i64 28)], [.v (.int .i64 8), .v (.int .i64 0), .v (.int .i64 0), .v (.int .i64 29)], [.v (.int .i64 1), .v (.int .i64 3039), .v (.int .i64 0), .v (.int .i64 0)], [.v (.int .i64 1), .v (.int .i64 5000), .v (.int .i64 0), .v (.int .i64 0)], [.v (.int .i64 1), .v (.int .i64 5001), .v (.int .i64 0), .v (.int .i64 0)], [.v (.int .i64 1), .v (.int .i64 5002), .v (.int .i64 0), .v (.int .i64 0)], [.v (.int .i64 1), .v (.int .i64 5003), .v (.int .i64 0), .v (.int .i64 0)]]),
  .rows 27 23 2 (trL [[.v (.int .i64 1), .v (.int .i64 9), .s 0, .v (.int .i64 0), .v (.int .i64 0), .v (.bool false), .v (.int .i64 0), .v (.int .i64 0), .v (.int .i64 0), .v (.int .i64 0), .v (.int .i64 0), .v (.int .i64 0), .v (.int .i64 0), .v (.int .i64 0), .v (.int .i64 0), .v (.int .i64 0), .v (.int .i64 0), .v (.int .i64 0), .v (.int .i64 0), .v (.int .i64 0), .v (.int .i64 0), .v (.int .i64 0), .v (.int .i64 0)], [.v (.int .i64 2), .v (.int .i64 9), .s 0, .v (.int .i64 0), .v (.int .i64 0), .v (.bool false), .v (.int .i64 0), .v (.int .i64 0), .v (.int .i64 0), .v (.int .i64 0), .v (.int .i64 0), .v (.int .i64 0), .v (.int .i64 0), .v (.int .i64 0), .v (.int .i64 0), .v (.int .i64 0), .v (.int .i64 0), .v (.int .i64 0), .v (.int .i64 0), .v (.int .i64 0), .v (.int .i64 0), .v (.int .i64 0), .v (.int .i64 0)]]),
  .rows 3 1 2 (trL [[.v (.int .i64 1)], [.v (.int .i64 2)]]),
  .rows 3 1 10 (trL [[.v (.int .i64 9)], [.v (.int .i64 16)], [.v (.int .i64 23)], [.v (.int .i64 30)], [.v (.int .i64 18)], [.v (.int .i64 31)], [.v (.int .i64 32)], [.v (.int .i64 33)], [.v (.int .i64 34)], [.v (.int .i64 35)]]),
  .rows 3 1 1 (trL [[.v (.int .i64 3)]])]
/-- A new world, its ways aside. -/
def res (g : AC) : List AC := ([.sl 0 0 36, .sl 1 0 2, .sl 2 0 2, .v (.int .i64 9), .v (.int .i64 1), .em, .em, g, .em, .v (.int .i64 0), .v (.slice none 0 0), .v (.int .i64 0), .v (.int .i64 10000), .sl 3 0 10, .sl 4 0 1, .v (.slice none 0 0), .v (.slice none 0 0), .v (.slice none 0 0), .v (.slice none 0 0), .v (.slice none 0 0)])

def orcCE : FuncId → List SV → Hp → Option (SV × Hp)
  | 55, [.o (.c (.v (.int .i64 a))), .o (.c .em)], H => some (.o (.ag [.v (.int .i64 a), .v (.int .i64 1), .em, .em, .em, .em, .v (.int .i64 0)]), H)
  | 57, [.o (.c (.v (.int .i64 a))), .o (.c .em)], H => some (.o (.ag [.v (.int .i64 a), .v (.int .i64 1), .em, .em, .em, .em, .v (.int .i64 0)]), H)
  | _, _, _ => none
def orcCF : FuncId → List SV → Hp → Option (SV × Hp)
  | 55, [.o (.c (.v (.int .i64 a))), .o (.c (.s 1))], H => some (.o (.ag [.v (.int .i64 a), .v (.int .i64 1), .em, .em, .os H.next, .em, .v (.int .i64 0)]), H.push (.opq 154 0))
  | 57, [.o (.c (.v (.int .i64 a))), .o (.c (.s 1))], H => some (.o (.ag [.v (.int .i64 a), .v (.int .i64 1), .em, .em, .os H.next, .em, .v (.int .i64 0)]), H.push (.opq 154 0))
  | _, _, _ => none
def mkW (bls : List Bl) (r : List AC) (H : Hp) : Option (SV × Hp) :=
  match pushAll (fun j => some (j + H.next)) H bls, renL (fun j => some (j + H.next)) r with
  | some H', some r' => some (.o (.ag r'), H')
  | _, _ => none
theorem mkW_eq {bls : List Bl} {r : List AC} {H H' : Hp} {x : SV} (h : mkW bls r H = some (x, H')) : ∃ r', x = .o (.ag r') ∧ pushAll (fun j => some (j + H.next)) H bls = some H' ∧ renV (fun j => some (j + H.next)) (.ag r) = some (.ag r') := by
  unfold mkW at h
  split at h
  · rename_i h1 h2
    cases h
    exact ⟨_, rfl, h1, by simp only [renV, h2, Option.map_some]⟩
  · cases h
def blsF : List Bl := bls ++ [.opq 154 0]
def orcE2 (f : FuncId) (xs : List SV) (H : Hp) : Option (SV × Hp) :=
  match f, xs with
  | 68, [.o (.c (.s 0)), .o (.c .em)] => mkW bls (res .em) H
  | 69, [.o (.c (.s 0)), .o (.c .em)] => mkW bls (res .em) H
  | f, xs => orcE f xs H
def orcF2 (f : FuncId) (xs : List SV) (H : Hp) : Option (SV × Hp) :=
  match f, xs with
  | 68, [.o (.c (.s 0)), .o (.c (.os b))] => bif isO H b 154 0 then mkW blsF (res (.os 5)) H else none
  | 69, [.o (.c (.s 0)), .o (.c (.os b))] => bif isO H b 154 0 then mkW blsF (res (.os 5)) H else none
  | f, xs => orcF f xs H
end Go.Proofs.Ytdfhkmekmockkaa.Wn
