/- FnExactWorldNew: the machine computes 'true', whatever the mode and the ways are. -/
import Derived.Test.YtdfhkmekmockkaaWnRun1
import Derived.Test.YtdfhkmekmockkaaWnRun2
import Derived.Test.YtdfhkmekmockkaaWnRun3
import Derived.Test.YtdfhkmekmockkaaWnRun4
import Derived.Test.YtdfhkmekmockkaaWnLaw1
import Derived.Test.YtdfhkmekmockkaaWnLaw2
namespace Go.Proofs.Ytdfhkmekmockkaa.Wn
open Go.RowKit Go.Proofs.Ytdfhkmekmockkaa.PFnExactGateNew Go.Proofs.YtdfhkmekmockkaaW.PrintWords Go.Proofs.YtdfhkmekmockkaaW.PrintLast Go.Proofs.Ytdfhkmekmockkaa.Rx Go.Proofs.Ytdfhkmekmockkaa.Gen
set_option linter.unusedVariables false
set_option maxRecDepth 100000
section
variable (w : World) {σ : Nat → Value}
theorem orcCE_ok {O : Opq} : CeOk (cfg (ar false) orcCE) σ O w orcCE := by
  intro f xs H r H' E w1 vs h hH hl hv
  unfold orcCE at h
  split at h
  · rename_i a1
    cases h
    obtain ⟨u, v, rfl, hu, hv2⟩ := arg2 hl hv _ _ rfl
    obtain rfl : u = .int .i64 a1 := hu.1
    obtain ⟨A1, c1, rfl⟩ := hv2
    refine (spec_GateNew.calls a1 A1 c1 [] _ _ _ _ _ _ _ w1 ⟨rfl, by simp, fun h => by simp at h⟩ (by simp) (spec_new a1 [] (by simp))).mono ?_
    rintro e w' ⟨v2, v3, v4, v5, rfl, h2, h3, h4, h5, hb⟩
    exact ⟨E, _, rfl, Env.le_refl E, ⟨_, rfl, RelL.cons ⟨rfl, rfl⟩ (RelL.cons ⟨rfl, rfl⟩ (RelL.cons (em_of_R h2) (RelL.cons (em_of_R h3) (RelL.cons (em_of_R h4) (RelL.cons (em_of_R h5) (RelL.cons ⟨rfl, rfl⟩ RelL.nil))))))⟩, hH.grow hb⟩
  · rename_i a1
    cases h
    obtain ⟨u, v, rfl, hu, hv2⟩ := arg2 hl hv _ _ rfl
    obtain rfl : u = .int .i64 a1 := hu.1
    obtain ⟨A1, c1, rfl⟩ := hv2
    refine (impl_GateNew.calls a1 A1 c1 [] _ _ _ _ _ _ _ w1 ⟨rfl, by simp, fun h => by simp at h⟩ (by simp) (impl_new a1 [] (by simp))).mono ?_
    rintro e w' ⟨v2, v3, v4, v5, rfl, h2, h3, h4, h5, hb⟩
    exact ⟨E, _, rfl, Env.le_refl E, ⟨_, rfl, RelL.cons ⟨rfl, rfl⟩ (RelL.cons ⟨rfl, rfl⟩ (RelL.cons (em_of_R h2) (RelL.cons (em_of_R h3) (RelL.cons (em_of_R h4) (RelL.cons (em_of_R h5) (RelL.cons ⟨rfl, rfl⟩ RelL.nil))))))⟩, hH.grow hb⟩
  · cases h
theorem orcCF_ok {L : List S154} {A2 : Option Addr} {c2 : Nat} (hs : σ 1 = .slice A2 L.length c2) (hC : Kd.C k154 w A2 L.length L) (hcap : L.length ≤ c2) (hL : L ≠ []) (hn : L.length ≤ 1048576) :
    CeOk (cfg (ar false) orcCF) σ (opqOf (cts L)) w orcCF := by
  intro f xs H r H' E w1 vs h hH hl hv
  unfold orcCF at h
  split at h
  · rename_i a1
    cases h
    obtain ⟨u, v, rfl, hu, hv2⟩ := arg2 hl hv _ _ rfl
    obtain rfl : u = .int .i64 a1 := hu.1
    obtain rfl : v = .slice A2 L.length c2 := hv2.1.trans hs
    refine (spec_GateNew.calls a1 A2 c2 L _ _ _ _ _ _ _ w1 (Kd.C_below hC hH.below) hcap (spec_new a1 L hn)).mono ?_
    rintro e w' ⟨v2, v3, v4, v5, rfl, h2, h3, h4, h5, hb⟩
    obtain ⟨r, k1, k2, k3⟩ := RelH.push_opq (k := 0) flat154 rfl hH hb h4 hL
    exact ⟨_, _, rfl, k1, ⟨_, rfl, RelL.cons ⟨rfl, rfl⟩ (RelL.cons ⟨rfl, rfl⟩ (RelL.cons (em_of_R h2) (RelL.cons (em_of_R h3) (RelL.cons k2 (RelL.cons (em_of_R h5) (RelL.cons ⟨rfl, rfl⟩ RelL.nil))))))⟩, k3⟩
  · rename_i a1
    cases h
    obtain ⟨u, v, rfl, hu, hv2⟩ := arg2 hl hv _ _ rfl
    obtain rfl : u = .int .i64 a1 := hu.1
    obtain rfl : v = .slice A2 L.length c2 := hv2.1.trans hs
    refine (impl_GateNew.calls a1 A2 c2 L _ _ _ _ _ _ _ w1 (Kd.C_below hC hH.below) hcap (impl_new a1 L hn)).mono ?_
    rintro e w' ⟨v2, v3, v4, v5, rfl, h2, h3, h4, h5, hb⟩
    obtain ⟨r, k1, k2, k3⟩ := RelH.push_opq (k := 0) flat154 rfl hH hb h4 hL
    exact ⟨_, _, rfl, k1, ⟨_, rfl, RelL.cons ⟨rfl, rfl⟩ (RelL.cons ⟨rfl, rfl⟩ (RelL.cons (em_of_R h2) (RelL.cons (em_of_R h3) (RelL.cons k2 (RelL.cons (em_of_R h5) (RelL.cons ⟨rfl, rfl⟩ RelL.nil))))))⟩, k3⟩
  · cases h
end
section
variable (A : Option Addr) (c : Nat) (l : List S156) (a0 : Int) (w : World)
theorem orcE2_ok (m z : Int) (hneg : ¬ z < 0) (hm0 : 0 ≤ m) (hm1 : m ≤ 3145728) (hr : Kd.C k156 w A l.length l) (hc : l.length ≤ c) (hz : laws_szRouteS.f l 1048576 = some z) (h0 : l = []) :
    CeOk (cfg (ar false) orcE2) (sg a0 (.slice A l.length c) z m) (opqOf (cts [])) w orcE2 := by
  intro f xs H r H' E w1 vs h hH hl hv
  unfold orcE2 at h
  split at h
  · obtain ⟨r', rfl, hp, hr'⟩ := mkW_eq h
    obtain ⟨u, v, rfl, hu, hv2⟩ := arg2 hl hv _ _ rfl
    refine adopted (C := cfg (ar false) orcCE) (cf_ok orcCE false a0 (.slice A l.length c) z m (decide_eq_false hneg) hm0 hm1) rfl (orcCE_ok w1) hH run68E (by decide) (by decide) (by decide) hp hr' rfl ?_
    intro j x q hx hq
    match j with
    | 0 => simp at hx hq; subst hx hq; exact hu
    | 1 => simp at hx hq; subst hx hq; exact hv2
    | j + 2 => simp at hx
  · obtain ⟨r', rfl, hp, hr'⟩ := mkW_eq h
    obtain ⟨u, v, rfl, hu, hv2⟩ := arg2 hl hv _ _ rfl
    refine adopted (C := cfg (ar false) orcCE) (cf_ok orcCE false a0 (.slice A l.length c) z m (decide_eq_false hneg) hm0 hm1) rfl (orcCE_ok w1) hH run69E (by decide) (by decide) (by decide) hp hr' rfl ?_
    intro j x q hx hq
    match j with
    | 0 => simp at hx hq; subst hx hq; exact hu
    | 1 => simp at hx hq; subst hx hq; exact hv2
    | j + 2 => simp at hx
  · exact orcE_ok A c l a0 w m z hr hc hz h0 _ _ _ _ _ _ _ _ h hH hl hv
theorem orcF2_ok (m z : Int) (hneg : ¬ z < 0) (hm0 : 0 ≤ m) (hm1 : m ≤ 3145728) (hr : Kd.C k156 w A l.length l) (hc : l.length ≤ c) (hz : laws_szRouteS.f l 1048576 = some z) (hl0 : l ≠ []) (hn : l.length ≤ 1048576) (hm : ((l.map cv).length : Int) * 3 = m) :
    CeOk (cfg (ar false) orcF2) (sg a0 (.slice A l.length c) z m) (opqOf (cts (l.map cv))) w orcF2 := by
  intro f xs H r H' E w1 vs h hH hl hv
  have hL : l.map cv ≠ [] := by simpa using hl0
  have hn' : (l.map cv).length ≤ 1048576 := by simpa using hn
  unfold orcF2 at h
  split at h
  · rename_i b
    cases hb : isO H b 154 0 with
    | false => rw [hb] at h; cases h
    | true =>
      rw [hb, cond_true] at h
      obtain ⟨r', rfl, hp, hr'⟩ := mkW_eq h
      obtain ⟨u, v, rfl, hu, hv2⟩ := arg2 hl hv _ _ rfl
      obtain ⟨q, hE, hlt, rfl, hcap, hR, hC⟩ := RelH.opq_R (d := k154) (l := l.map cv) rfl hH (isO_eq hb) hv2
      refine adopted (C := cfg (ar false) orcCF) (σ := sg a0 (.slice A l.length c) z m) (σ' := sg a0 (.slice (some ⟨q.g, 0, none⟩) (l.map cv).length q.cap) z m) (cf_ok orcCF false a0 _ z m (decide_eq_false hneg) hm0 hm1) rfl (orcCF_ok w1 rfl hC hcap hL hn') hH run68F (by decide) (by decide) (by decide) hp hr' rfl ?_
      intro j x p hx hq
      match j with
      | 0 => simp at hx hq; subst hx hq; exact hu
      | 1 =>
        have e1 : SV.o (.c (.s 1)) = x := Option.some.inj hx
        have e2 : Value.slice (some ⟨q.g, 0, none⟩) (l.map cv).length q.cap = p := Option.some.inj hq
        subst e1 e2
        exact ⟨rfl, rfl⟩
      | j + 2 => simp at hx
  · rename_i b
    cases hb : isO H b 154 0 with
    | false => rw [hb] at h; cases h
    | true =>
      rw [hb, cond_true] at h
      obtain ⟨r', rfl, hp, hr'⟩ := mkW_eq h
      obtain ⟨u, v, rfl, hu, hv2⟩ := arg2 hl hv _ _ rfl
      obtain ⟨q, hE, hlt, rfl, hcap, hR, hC⟩ := RelH.opq_R (d := k154) (l := l.map cv) rfl hH (isO_eq hb) hv2
      refine adopted (C := cfg (ar false) orcCF) (σ := sg a0 (.slice A l.length c) z m) (σ' := sg a0 (.slice (some ⟨q.g, 0, none⟩) (l.map cv).length q.cap) z m) (cf_ok orcCF false a0 _ z m (decide_eq_false hneg) hm0 hm1) rfl (orcCF_ok w1 rfl hC hcap hL hn') hH run69F (by decide) (by decide) (by decide) hp hr' rfl ?_
      intro j x p hx hq
      match j with
      | 0 => simp at hx hq; subst hx hq; exact hu
      | 1 =>
        have e1 : SV.o (.c (.s 1)) = x := Option.some.inj hx
        have e2 : Value.slice (some ⟨q.g, 0, none⟩) (l.map cv).length q.cap = p := Option.some.inj hq
        subst e1 e2
        exact ⟨rfl, rfl⟩
      | j + 2 => simp at hx
  · exact orcF_ok A c l a0 w m z hr hc hz hl0 hn hm _ _ _ _ _ _ _ _ h hH hl hv
theorem law (hl : l.length ≤ 9223372036854775807) (hr : Kd.C k156 w A l.length l) (hc : l.length ≤ c) :
    Calls Try.prog 13 #[.int .i64 a0, .slice A l.length c] w fun e w' => e = .returned (.bool true) ∧ Below w.heap.size w w' := by
  obtain ⟨z, hz⟩ : ∃ z, wrap64 (1048576 - (l.length : Int)) = z := ⟨_, rfl⟩
  have hargs : ∀ (z m : Int) (j : Nat) x v, [SV.o (.c (.s 0)), SV.o (.c (.s 1))][j]? = some x → (#[Value.int .i64 a0, Value.slice A l.length c])[j]? = some v → RelS (sg a0 (.slice A l.length c) z m) (fun _ => none) x v := by
    intro z m j x v hx hv
    match j with
    | 0 => simp at hx hv; subst hx hv; exact ⟨rfl, rfl⟩
    | 1 => simp at hx hv; subst hx hv; exact ⟨rfl, rfl⟩
    | j + 2 => simp at hx
  have hsz := sz_eq l z hz
  by_cases hneg : z < 0
  · rw [if_pos hneg] at hsz
    exact law_true (cf_ok orcS true a0 _ (-1) 0 (by decide) (by omega) (by omega)) w (orcS_ok A c l a0 w 0 (-1) hr hc hsz) 10 run_big rfl (hargs _ _)
  · rw [if_neg hneg] at hsz
    have hn : l.length ≤ 1048576 := len_of_guard (by rw [hz]; exact hneg) hl
    by_cases h0 : l = []
    · exact law_true (cf_ok orcE2 false a0 _ z 0 (decide_eq_false hneg) (by omega) (by omega)) w (orcE2_ok A c l a0 w 0 z hneg (by omega) (by omega) hr hc hsz h0) 40 run_none rfl (hargs _ _)
    · have hn' : (l.map cv).length ≤ 1048576 := by simpa using hn
      exact law_true (cf_ok orcF2 false a0 _ z _ (decide_eq_false hneg) (by omega) (by omega)) w (orcF2_ok A c l a0 w _ z hneg (by omega) (by omega) hr hc hsz h0 hn rfl) 40 run_some rfl (hargs _ _)
end
end Go.Proofs.Ytdfhkmekmockkaa.Wn
