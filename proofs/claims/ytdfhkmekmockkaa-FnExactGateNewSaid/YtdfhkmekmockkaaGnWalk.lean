/- FnExactGateNew: the machine computes 'true', whatever the name and the ways are. -/
import Derived.Test.YtdfhkmekmockkaaRxK
import Derived.Test.YtdfhkmekmockkaaRxT
import Derived.Test.YtdfhkmekmockkaaGnPure
namespace Go.Proofs.Ytdfhkmekmockkaa.Gn
open Go.RowKit Go.Proofs.Ytdfhkmekmockkaa.PFnExactGateNew Go.Proofs.YtdfhkmekmockkaaW.PrintWords Go.Proofs.YtdfhkmekmockkaaW.PrintLast Go.Proofs.Ytdfhkmekmockkaa.Rx Go.Proofs.Ytdfhkmekmockkaa.Gen
set_option linter.unusedVariables false
set_option maxRecDepth 100000
/-- What is asked of numbers that nobody knows: each is itself; the third is below 0 or not; the fourth is not. -/
def ar (neg : Bool) : BinOp → TypeId → AV → AV → Option AV
  | .lss, 3, .c (.s 2), .c (.v (.int .i64 (.ofNat 0))) => some (.c (.v (.bool neg)))
  | .lss, 3, .c (.s 3), .c (.v (.int .i64 (.ofNat 0))) => some (.c (.v (.bool false)))
  | .neq, 3, .c (.s 0), .c (.s 0) => some (.c (.v (.bool false)))
  | .neq, 3, .c (.s 3), .c (.s 3) => some (.c (.v (.bool false)))
  | _, _, _, _ => none
def isO (H : Hp) (b k : Nat) : Bool := match H.bs.get b with
  | some (.opq t q) => Nat.beq t 154 && Nat.beq q k
  | _ => false
theorem isO_eq {H : Hp} {b k : Nat} (h : isO H b k = true) : H.bs.get b = some (.opq 154 k) := by
  unfold isO at h
  split at h
  · rename_i t q he
    simp only [Bool.and_eq_true, beq_eq, decide_eq_true_eq] at h
    rw [he, h.1, h.2]
  · cases h
def orcS : FuncId → List SV → Hp → Option (SV × Hp)
  | 54, [.o (.c (.s 1)), .o (.c (.v (.int .i64 (.ofNat 1048576))))], H => some (.o (.c (.s 2)), H)
  | _, _, _ => none
def orcE : FuncId → List SV → Hp → Option (SV × Hp)
  | 54, [.o (.c (.s 1)), .o (.c (.v (.int .i64 (.ofNat 1048576))))], H => some (.o (.c (.s 2)), H)
  | 56, [.o (.c (.s 1))], H => some (.o (.c .em), H)
  | 55, [.o (.c (.s 0)), .o (.c .em)], H => some (.o (.ag [.s 0, .v (.int .i64 1), .em, .em, .em, .em, .v (.int .i64 0)]), H)
  | 57, [.o (.c (.s 0)), .o (.c .em)], H => some (.o (.ag [.s 0, .v (.int .i64 1), .em, .em, .em, .em, .v (.int .i64 0)]), H)
  | _, _, _ => none
def orcF : FuncId → List SV → Hp → Option (SV × Hp)
  | 54, [.o (.c (.s 1)), .o (.c (.v (.int .i64 (.ofNat 1048576))))], H => some (.o (.c (.s 2)), H)
  | 56, [.o (.c (.s 1))], H => some (.o (.c (.os H.next)), H.push (.opq 154 0))
  | 55, [.o (.c (.s 0)), .o (.c (.os b))], H => bif isO H b 0 then some (.o (.ag [.s 0, .v (.int .i64 1), .em, .em, .os H.next, .em, .v (.int .i64 0)]), H.push (.opq 154 0)) else none
  | 57, [.o (.c (.s 0)), .o (.c (.os b))], H => bif isO H b 0 then some (.o (.ag [.s 0, .v (.int .i64 1), .em, .em, .os H.next, .em, .v (.int .i64 0)]), H.push (.opq 154 0)) else none
  | 58, [.o (.c (.os b)), .o (.c (.os d))], H => bif isO H b 0 then (bif isO H d 0 then some (.o (.c (.v (.bool true))), H) else none) else none
  | 59, [.o (.c (.os b)), .o (.c (.v (.int .i64 (.ofNat 1))))], H => bif isO H b 0 then some (.o (.c (.s 3)), ⟨H.next, H.bs.put b (some (.opq 154 1))⟩) else none
  | 111, [.o (.c (.os b)), .o (.c (.v (.int .i64 (.ofNat 1))))], H => bif isO H b 1 then some (.o (.c (.s 3)), H) else none
  | _, _, _ => none
theorem run_big : isTrue (runE (cfg (ar true) orcS) 10 10 10 [.o (.c (.s 0)), .o (.c (.s 1))] ⟨0, .e⟩) = true := by kernel_rfl
theorem run_none : isTrue (runE (cfg (ar false) orcE) 10 10 10 [.o (.c (.s 0)), .o (.c (.s 1))] ⟨0, .e⟩) = true := by kernel_rfl
theorem run_some : isTrue (runE (cfg (ar false) orcF) 10 10 10 [.o (.c (.s 0)), .o (.c (.s 1))] ⟨0, .e⟩) = true := by kernel_rfl
def sg (a : Int) (v : Value) (z m : Int) : Nat → Value
  | 0 => .int .i64 a
  | 1 => v
  | 2 => .int .i64 z
  | _ => .int .i64 m
theorem cf_ok (orc : FuncId → List SV → Hp → Option (SV × Hp)) (neg : Bool) (a : Int) (v : Value) (z m : Int) (hz : decide (z < 0) = neg) (hm : 0 ≤ m) : (cfg (ar neg) orc).Ok (sg a v z m) := by
  refine cfg_ok ?_
  intro op t x y E u v' r uv vv h hu hv
  unfold ar at h
  split at h
  · cases h
    obtain rfl : uv = .int .i64 z := hu.1
    obtain rfl : vv = .int .i64 0 := hv.1
    refine ⟨.bool neg, ⟨rfl, rfl⟩, fun w => ?_⟩
    rw [← hz]
    rfl
  · cases h
    obtain rfl : uv = .int .i64 m := hu.1
    obtain rfl : vv = .int .i64 0 := hv.1
    refine ⟨.bool false, ⟨rfl, rfl⟩, fun w => ?_⟩
    rw [← show decide (m < 0) = false from decide_eq_false (by omega)]
    rfl
  · cases h
    obtain rfl : uv = .int .i64 a := hu.1
    obtain rfl : vv = .int .i64 a := hv.1
    refine ⟨.bool false, ⟨rfl, rfl⟩, fun w => ?_⟩
    rw [← show (!decide (a = a)) = false from by simp]
    rfl
  · cases h
    obtain rfl : uv = .int .i64 m := hu.1
    obtain rfl : vv = .int .i64 m := hv.1
    refine ⟨.bool false, ⟨rfl, rfl⟩, fun w => ?_⟩
    rw [← show (!decide (m = m)) = false from by simp]
    rfl
  · cases h
def cts (L : List S154) : Nat → Ct
  | 0 => ctOf k154 L
  | _ => ctOf k154 (marked mk adv L 1)
theorem flat154 : Flat k154 := fun _ _ _ _ _ _ _ _ h => h
section
variable {σ : Nat → Value} {E : Env} {xs : List SV} {vs : Array Value}
theorem arg1 (hl : xs.length = vs.size) (hv : ∀ (j : Nat) x v, xs[j]? = some x → vs[j]? = some v → RelS σ E x v) (x : SV) (hx : xs = [x]) : ∃ u, vs = #[u] ∧ RelS σ E x u := by
  subst hx
  have hs : vs.size = 1 := by rw [← hl]; rfl
  refine ⟨vs[0], ?_, hv 0 x vs[0] rfl (Array.getElem?_eq_getElem (by omega))⟩
  apply Array.ext
  · simp [hs]
  · intro i h1 h2
    have : i = 0 := by omega
    subst this
    rfl
theorem arg2 (hl : xs.length = vs.size) (hv : ∀ (j : Nat) x v, xs[j]? = some x → vs[j]? = some v → RelS σ E x v) (x y : SV) (hx : xs = [x, y]) : ∃ u v, vs = #[u, v] ∧ RelS σ E x u ∧ RelS σ E y v := by
  subst hx
  have hs : vs.size = 2 := by rw [← hl]; rfl
  refine ⟨vs[0], vs[1], ?_, hv 0 x vs[0] rfl (Array.getElem?_eq_getElem (by omega)), hv 1 y vs[1] rfl (Array.getElem?_eq_getElem (by omega))⟩
  apply Array.ext
  · simp [hs]
  · intro i h1 h2
    have : i = 0 ∨ i = 1 := by omega
    rcases this with rfl | rfl <;> rfl
end
section
variable (A : Option Addr) (c : Nat) (l : List S156) (a0 : Int) (w : World)
theorem sz_eq (z : Int) (hz : wrap64 (1048576 - (l.length : Int)) = z) : laws_szRouteS.f l 1048576 = some (if z < 0 then -1 else z) := by
  unfold laws_szRouteS.f
  rw [hz]
  by_cases h : z < 0
  · rw [if_pos h, if_pos h]
  · rw [if_neg h, if_neg h]
theorem sz_ok {O : Opq} {H : Hp} {E : Env} {w1 : World} {m z : Int} (hr : Kd.C k156 w A l.length l) (hc : l.length ≤ c) (hH : RelH (sg a0 (.slice A l.length c) z m) O w E H w1) (hz : laws_szRouteS.f l 1048576 = some z) :
    Calls Try.prog 54 #[.slice A l.length c, .int .i64 1048576] w1 fun e w' => ∃ E' v, e = .returned v ∧ E.le E' ∧ RelS (sg a0 (.slice A l.length c) z m) E' (.o (.c (.s 2))) v ∧ RelH (sg a0 (.slice A l.length c) z m) O w E' H w' := by
  refine (laws_szRouteS.calls A c l 1048576 z w1 (Kd.C_below hr hH.below) hc hz).mono ?_
  rintro e w' ⟨rfl, hd⟩
  exact ⟨E, _, rfl, Env.le_refl E, ⟨rfl, rfl⟩, hH.grow hd.below⟩
theorem orcS_ok (m z : Int) (hr : Kd.C k156 w A l.length l) (hc : l.length ≤ c) (hz : laws_szRouteS.f l 1048576 = some z) :
    CeOk (cfg (ar true) orcS) (sg a0 (.slice A l.length c) z m) (opqOf (cts [])) w orcS := by
  intro f xs H r H' E w1 vs h hH hl hv
  unfold orcS at h
  split at h
  · cases h
    obtain ⟨u, v, rfl, hu, hv2⟩ := arg2 hl hv _ _ rfl
    obtain rfl : u = .slice A l.length c := hu.1
    obtain rfl : v = .int .i64 1048576 := hv2.1
    exact sz_ok A c l a0 w hr hc hH hz
  · cases h
theorem new_em {O : Opq} {H : Hp} {E : Env} {w1 w' : World} {m z : Int} {v : Value} (hH : RelH (sg a0 (.slice A l.length c) z m) O w E H w1) {v2 v3 v4 v5 : Value} (h2 : Kd.R k148 148 w' w1.heap.size (fun _ => True) v2 []) (h3 : Kd.R k109 109 w' w1.heap.size (fun _ => True) v3 [])
    (h4 : Kd.R k154 154 w' w1.heap.size (fun _ => True) v4 []) (h5 : Kd.R k203 203 w' w1.heap.size (fun _ => True) v5 []) (hb : Below w1.heap.size w1 w') :
    ∃ E' v, Ending.returned (.agg #[.int .i64 a0, .int .i64 1, v2, v3, v4, v5, .int .i64 0]) = .returned v ∧ E.le E' ∧ RelS (sg a0 (.slice A l.length c) z m) E' (.o (.ag [.s 0, .v (.int .i64 1), .em, .em, .em, .em, .v (.int .i64 0)])) v ∧ RelH (sg a0 (.slice A l.length c) z m) O w E' H w' :=
  ⟨E, _, rfl, Env.le_refl E, ⟨_, rfl, RelL.cons ⟨rfl, rfl⟩ (RelL.cons ⟨rfl, rfl⟩ (RelL.cons (em_of_R h2) (RelL.cons (em_of_R h3) (RelL.cons (em_of_R h4) (RelL.cons (em_of_R h5) (RelL.cons ⟨rfl, rfl⟩ RelL.nil))))))⟩, hH.grow hb⟩
theorem orcE_ok (m z : Int) (hr : Kd.C k156 w A l.length l) (hc : l.length ≤ c) (hz : laws_szRouteS.f l 1048576 = some z) (h0 : l = []) :
    CeOk (cfg (ar false) orcE) (sg a0 (.slice A l.length c) z m) (opqOf (cts [])) w orcE := by
  intro f xs H r H' E w1 vs h hH hl hv
  have hn : l.length ≤ 1048576 := by rw [h0]; simp
  unfold orcE at h
  split at h
  · cases h
    obtain ⟨u, v, rfl, hu, hv2⟩ := arg2 hl hv _ _ rfl
    obtain rfl : u = .slice A l.length c := hu.1
    obtain rfl : v = .int .i64 1048576 := hv2.1
    exact sz_ok A c l a0 w hr hc hH hz
  · cases h
    obtain ⟨u, rfl, hu⟩ := arg1 hl hv _ rfl
    obtain rfl : u = .slice A l.length c := hu.1
    obtain ⟨K, hK⟩ := to_ev l hn
    refine (laws_toRouteS.calls K A c l _ w1 (Kd.C_below hr hH.below) hc (hK K (Nat.le_refl _))).mono ?_
    rintro e w' ⟨v0, rfl, hR, hb⟩
    rw [h0] at hR
    have hem := em_of_R (σ := sg a0 (.slice A l.length c) z m) (E := E) hR
    exact ⟨E, _, rfl, Env.le_refl E, hem, hH.grow hb⟩
  · cases h
    obtain ⟨u, v, rfl, hu, hv2⟩ := arg2 hl hv _ _ rfl
    obtain rfl : u = .int .i64 a0 := hu.1
    obtain ⟨A1, c1, rfl⟩ := hv2
    refine (spec_GateNew.calls a0 A1 c1 [] _ _ _ _ _ _ _ w1 ⟨rfl, by simp, fun h => by simp at h⟩ (by simp) (spec_new a0 [] (by simp))).mono ?_
    rintro e w' ⟨v2, v3, v4, v5, rfl, h2, h3, h4, h5, hb⟩
    exact new_em A c l a0 w (v := v2) hH h2 h3 h4 h5 hb
  · cases h
    obtain ⟨u, v, rfl, hu, hv2⟩ := arg2 hl hv _ _ rfl
    obtain rfl : u = .int .i64 a0 := hu.1
    obtain ⟨A1, c1, rfl⟩ := hv2
    refine (impl_GateNew.calls a0 A1 c1 [] _ _ _ _ _ _ _ w1 ⟨rfl, by simp, fun h => by simp at h⟩ (by simp) (impl_new a0 [] (by simp))).mono ?_
    rintro e w' ⟨v2, v3, v4, v5, rfl, h2, h3, h4, h5, hb⟩
    exact new_em A c l a0 w (v := v2) hH h2 h3 h4 h5 hb
  · cases h
theorem new_os {L : List S154} {H : Hp} {E : Env} {w1 w' : World} {m z : Int} {v : Value} (hL : L ≠ []) (hH : RelH (sg a0 (.slice A l.length c) z m) (opqOf (cts L)) w E H w1) {v2 v3 v4 v5 : Value} (h2 : Kd.R k148 148 w' w1.heap.size (fun _ => True) v2 []) (h3 : Kd.R k109 109 w' w1.heap.size (fun _ => True) v3 [])
    (h4 : Kd.R k154 154 w' w1.heap.size (fun _ => True) v4 L) (h5 : Kd.R k203 203 w' w1.heap.size (fun _ => True) v5 []) (hb : Below w1.heap.size w1 w') :
    ∃ E' v, Ending.returned (.agg #[.int .i64 a0, .int .i64 1, v2, v3, v4, v5, .int .i64 0]) = .returned v ∧ E.le E' ∧ RelS (sg a0 (.slice A l.length c) z m) E' (.o (.ag [.s 0, .v (.int .i64 1), .em, .em, .os H.next, .em, .v (.int .i64 0)])) v ∧ RelH (sg a0 (.slice A l.length c) z m) (opqOf (cts L)) w E' (H.push (.opq 154 0)) w' := by
  obtain ⟨r, k1, k2, k3⟩ := RelH.push_opq (k := 0) flat154 rfl hH hb h4 hL
  exact ⟨_, _, rfl, k1, ⟨_, rfl, RelL.cons ⟨rfl, rfl⟩ (RelL.cons ⟨rfl, rfl⟩ (RelL.cons (em_of_R h2) (RelL.cons (em_of_R h3) (RelL.cons k2 (RelL.cons (em_of_R h5) (RelL.cons ⟨rfl, rfl⟩ RelL.nil))))))⟩, k3⟩
theorem orcF_ok (m z : Int) (hr : Kd.C k156 w A l.length l) (hc : l.length ≤ c) (hz : laws_szRouteS.f l 1048576 = some z) (hl0 : l ≠ []) (hn : l.length ≤ 1048576) (hm : count adv (l.map cv).length 1 = m) :
    CeOk (cfg (ar false) orcF) (sg a0 (.slice A l.length c) z m) (opqOf (cts (l.map cv))) w orcF := by
  intro f xs H r H' E w1 vs h hH hl hv
  have hL : l.map cv ≠ [] := by simpa using hl0
  have hn' : (l.map cv).length ≤ 1048576 := by simpa using hn
  have hmk : marked mk adv (l.map cv) 1 ≠ [] := fun e => hL (List.eq_nil_of_length_eq_zero (by rw [← marked_length mk adv (l.map cv) 1, e]; rfl))
  unfold orcF at h
  split at h
  · cases h
    obtain ⟨u, v, rfl, hu, hv2⟩ := arg2 hl hv _ _ rfl
    obtain rfl : u = .slice A l.length c := hu.1
    obtain rfl : v = .int .i64 1048576 := hv2.1
    exact sz_ok A c l a0 w hr hc hH hz
  · cases h
    obtain ⟨u, rfl, hu⟩ := arg1 hl hv _ rfl
    obtain rfl : u = .slice A l.length c := hu.1
    obtain ⟨K, hK⟩ := to_ev l hn
    refine (laws_toRouteS.calls K A c l _ w1 (Kd.C_below hr hH.below) hc (hK K (Nat.le_refl _))).mono ?_
    rintro e w' ⟨v0, rfl, hR, hb⟩
    obtain ⟨r, k1, k2, k3⟩ := RelH.push_opq (k := 0) flat154 rfl hH hb hR hL
    exact ⟨_, _, rfl, k1, k2, k3⟩
  · rename_i b
    cases hb : isO H b 0 with
    | false => rw [hb] at h; cases h
    | true =>
      rw [hb] at h
      cases h
      obtain ⟨u, v, rfl, hu, hv2⟩ := arg2 hl hv _ _ rfl
      obtain rfl : u = .int .i64 a0 := hu.1
      obtain ⟨q, hE, hlt, rfl, hcap, hR, hC⟩ := RelH.opq_R (d := k154) (l := l.map cv) rfl hH (isO_eq hb) hv2
      refine (spec_GateNew.calls a0 _ _ (l.map cv) _ _ _ _ _ _ _ w1 hC hcap (spec_new a0 _ hn')).mono ?_
      rintro e w' ⟨v2, v3, v4, v5, rfl, h2, h3, h4, h5, hb⟩
      exact new_os A c l a0 w (v := v2) hL hH h2 h3 h4 h5 hb
  · rename_i b
    cases hb : isO H b 0 with
    | false => rw [hb] at h; cases h
    | true =>
      rw [hb] at h
      cases h
      obtain ⟨u, v, rfl, hu, hv2⟩ := arg2 hl hv _ _ rfl
      obtain rfl : u = .int .i64 a0 := hu.1
      obtain ⟨q, hE, hlt, rfl, hcap, hR, hC⟩ := RelH.opq_R (d := k154) (l := l.map cv) rfl hH (isO_eq hb) hv2
      refine (impl_GateNew.calls a0 _ _ (l.map cv) _ _ _ _ _ _ _ w1 hC hcap (impl_new a0 _ hn')).mono ?_
      rintro e w' ⟨v2, v3, v4, v5, rfl, h2, h3, h4, h5, hb⟩
      exact new_os A c l a0 w (v := v2) hL hH h2 h3 h4 h5 hb
  · rename_i b d
    cases hb : isO H b 0 with
    | false => rw [hb] at h; cases h
    | true =>
      cases hd : isO H d 0 with
      | false => rw [hb, hd] at h; cases h
      | true =>
        rw [hb, hd] at h
        cases h
        obtain ⟨u, v, rfl, hu, hv2⟩ := arg2 hl hv _ _ rfl
        obtain ⟨q, hE, hlt, rfl, hcap, hR, hC⟩ := RelH.opq_R (d := k154) (l := l.map cv) rfl hH (isO_eq hb) hu
        obtain ⟨q2, hE2, hlt2, rfl, hcap2, hR2, hC2⟩ := RelH.opq_R (d := k154) (l := l.map cv) rfl hH (isO_eq hd) hv2
        obtain ⟨K, hK⟩ := eq_ev (l.map cv) hn'
        refine (laws_eqRouteS.calls K _ _ _ _ _ _ true w1 hC hcap hC2 hcap2 (hK K (Nat.le_refl _))).mono ?_
        rintro e w' ⟨rfl, hb⟩
        exact ⟨E, _, rfl, Env.le_refl E, ⟨rfl, rfl⟩, hH.grow hb⟩
  · rename_i b
    cases hb : isO H b 0 with
    | false => rw [hb] at h; cases h
    | true =>
      rw [hb] at h
      cases h
      obtain ⟨u, v, rfl, hu, hv2⟩ := arg2 hl hv _ _ rfl
      obtain rfl : v = .int .i64 1 := hv2.1
      obtain ⟨q, hE, hlt, rfl, hcap, hR, hC⟩ := RelH.opq_R (d := k154) (l := l.map cv) rfl hH (isO_eq hb) hu
      obtain ⟨q', hE', he⟩ := hu
      rw [hE] at hE'
      obtain rfl := Option.some.inj hE'
      have hql : q.len = (l.map cv).length := by
        injection he with _ e2 _
        exact e2.symm
      obtain ⟨K, hK⟩ := mark_ev (l.map cv) 1 hn'
      refine (laws_markRouteS.calls K _ _ (l.map cv) 1 _ _ w w1 hH.below hR (hK K (Nat.le_refl _))).mono ?_
      rintro e w' ⟨rfl, hR', hB, hKp⟩
      have hlen := marked_length mk adv (l.map cv) 1
      rw [← hlen] at hR'
      refine ⟨E, _, rfl, Env.le_refl E, ⟨by rw [hm]; rfl, rfl⟩, ?_⟩
      refine RelH.turn_opq (k' := 1) flat154 rfl hH (isO_eq hb) hE (by rw [hlen]; exact hql) (by rw [hlen]; exact hcap) hB hKp hR' hmk
  · rename_i b
    cases hb : isO H b 1 with
    | false => rw [hb] at h; cases h
    | true =>
      rw [hb] at h
      cases h
      obtain ⟨u, v, rfl, hu, hv2⟩ := arg2 hl hv _ _ rfl
      obtain rfl : v = .int .i64 1 := hv2.1
      obtain ⟨q, hE, hlt, rfl, hcap, hR, hC⟩ := RelH.opq_R (d := k154) (l := marked mk adv (l.map cv) 1) rfl hH (isO_eq hb) hu
      obtain ⟨K, hK⟩ := held_ev (l.map cv) 1 hn'
      refine (laws_heldRouteS.calls K _ _ _ 1 _ w1 hC hcap (hK K (Nat.le_refl _))).mono ?_
      rintro e w' ⟨rfl, hd⟩
      exact ⟨E, _, rfl, Env.le_refl E, ⟨by rw [hm]; rfl, rfl⟩, hH.grow hd.below⟩
  · cases h
theorem law (hl : l.length ≤ 9223372036854775807) (hr : Kd.C k156 w A l.length l) (hc : l.length ≤ c) :
    Calls Try.prog 10 #[.int .i64 a0, .slice A l.length c] w fun e w' => e = .returned (.bool true) ∧ Below w.heap.size w w' := by
  obtain ⟨z, hz⟩ : ∃ z, wrap64 (1048576 - (l.length : Int)) = z := ⟨_, rfl⟩
  have hargs : ∀ (z m : Int) (j : Nat) x v, [SV.o (.c (.s 0)), SV.o (.c (.s 1))][j]? = some x → (#[Value.int .i64 a0, Value.slice A l.length c])[j]? = some v → RelS (sg a0 (.slice A l.length c) z m) (fun _ => none) x v := by
    intro z m j x v hx hv
    match j with
    | 0 => simp at hx hv; subst hx hv; exact ⟨rfl, rfl⟩
    | 1 => simp at hx hv; subst hx hv; exact ⟨rfl, rfl⟩
    | j + 2 => simp at hx
  have hsz := sz_eq l z hz
  by_cases hneg : z < 0
  · rw [if_pos hneg] at hsz
    exact law_true (cf_ok orcS true a0 _ (-1) 0 (by decide) (by omega)) w (orcS_ok A c l a0 w 0 (-1) hr hc hsz) 10 run_big rfl (hargs _ _)
  · rw [if_neg hneg] at hsz
    have hn : l.length ≤ 1048576 := len_of_guard (by rw [hz]; exact hneg) hl
    by_cases h0 : l = []
    · exact law_true (cf_ok orcE false a0 _ z 0 (decide_eq_false hneg) (by omega)) w (orcE_ok A c l a0 w 0 z hr hc hsz h0) 10 run_none rfl (hargs _ _)
    · have hm := count_eq (l.map cv) (by simpa using hn)
      refine law_true (cf_ok orcF false a0 _ z _ (decide_eq_false hneg) ?_) w (orcF_ok A c l a0 w _ z hr hc hsz h0 hn hm) 10 run_some rfl (hargs _ _)
      omega
end
end Go.Proofs.Ytdfhkmekmockkaa.Gn
