/- Lists that nobody looks into: empty ones as 'em', others as blocks. No program in sight. -/
import Derived.Test.YtdfhkmekmockkaaRxK
namespace Go.Proofs.Ytdfhkmekmockkaa.Rx
open Go.RowKit Go.Proofs.YtdfhkmekmockkaaW.PrintWords
set_option linter.unusedVariables false
def isO (H : Hp) (b t k : Nat) : Bool := match H.bs.get b with
  | some (.opq t' q) => Nat.beq t' t && Nat.beq q k
  | _ => false
theorem isO_eq {H : Hp} {b t k : Nat} (h : isO H b t k = true) : H.bs.get b = some (.opq t k) := by
  unfold isO at h
  split at h
  · rename_i t q he
    simp only [Bool.and_eq_true, beq_eq, decide_eq_true_eq] at h
    rw [he, h.1, h.2]
  · cases h
/-- Is the cell the list with this number? e: the list is empty. -/
def isL (e : Bool) (H : Hp) (t k : Nat) : AC → Bool
  | .em => e
  | .os b => isO H b t k
  | _ => false
/-- A new list. -/
def mkL (e : Bool) (H : Hp) (t k : Nat) : AC × Hp := match e with
  | true => (.em, H)
  | false => (.os H.next, H.push (.opq t k))
section
variable {σ : Nat → Value} {c : Nat → Ct} {E : Env} {w0 : World} {H : Hp} {w w' : World} {α : Type} {d : Kd α} {t k : Nat} {l : List α}
theorem den (hc : c k = ctOf d l) (hH : RelH σ (opqOf c) w0 E H w) {e : Bool} (he : e = true → l = []) {x : AC} (h : isL e H t k x = true) {v : Value} (hv : RelC σ E x v) :
    ∃ A cp, v = .slice A l.length cp ∧ l.length ≤ cp ∧ Kd.C d w A l.length l := by
  cases x with
  | em =>
    have he := he h
    subst he
    obtain ⟨A, cp, rfl⟩ := hv
    exact ⟨A, cp, rfl, by simp, rfl, by simp, fun h => by simp at h⟩
  | os b =>
    obtain ⟨r, hE, hlt, rfl, hcap, hR, hC⟩ := RelH.opq_R (d := d) (l := l) hc hH (isO_eq h) hv
    exact ⟨_, _, rfl, hcap, hC⟩
  | _ => exact absurd h (by simp [isL])
theorem made (hd : Flat d) (hc : c k = ctOf d l) (h : RelH σ (opqOf c) w0 E H w) (hb : Below w.heap.size w w') {ok : Nat → Prop} {v : Value} (hR : Kd.R d t w' w.heap.size ok v l) {e : Bool} (he : e = l.isEmpty) :
    ∃ E', E.le E' ∧ RelC σ E' (mkL e H t k).1 v ∧ RelH σ (opqOf c) w0 E' (mkL e H t k).2 w' := by
  subst he
  cases l with
  | nil => exact ⟨E, Env.le_refl E, em_of_R hR, h.grow hb⟩
  | cons x l =>
    obtain ⟨r, k1, k2, k3⟩ := RelH.push_opq (k := k) hd hc h hb hR (by simp)
    exact ⟨_, k1, k2, k3⟩
theorem arg1 {xs : List SV} {vs : Array Value} (hl : xs.length = vs.size) (hv : ∀ (j : Nat) x v, xs[j]? = some x → vs[j]? = some v → RelS σ E x v) (x : SV) (hx : xs = [x]) : ∃ u, vs = #[u] ∧ RelS σ E x u := by
  subst hx
  have hs : vs.size = 1 := by rw [← hl]; rfl
  refine ⟨vs[0], ?_, hv 0 x vs[0] rfl (Array.getElem?_eq_getElem (by omega))⟩
  apply Array.ext
  · simp [hs]
  · intro i h1 h2
    have : i = 0 := by omega
    subst this
    rfl
theorem arg2 {xs : List SV} {vs : Array Value} (hl : xs.length = vs.size) (hv : ∀ (j : Nat) x v, xs[j]? = some x → vs[j]? = some v → RelS σ E x v) (x y : SV) (hx : xs = [x, y]) : ∃ u v, vs = #[u, v] ∧ RelS σ E x u ∧ RelS σ E y v := by
  subst hx
  have hs : vs.size = 2 := by rw [← hl]; rfl
  refine ⟨vs[0], vs[1], ?_, hv 0 x vs[0] rfl (Array.getElem?_eq_getElem (by omega)), hv 1 y vs[1] rfl (Array.getElem?_eq_getElem (by omega))⟩
  apply Array.ext
  · simp [hs]
  · intro i h1 h2
    have : i = 0 ∨ i = 1 := by omega
    rcases this with rfl | rfl <;> rfl
theorem RelL.uncons {x : AC} {xs : List AC} {us : List Value} (h : RelL σ E (x :: xs) us) : ∃ u us', us = u :: us' ∧ RelC σ E x u ∧ RelL σ E xs us' := by
  cases us with
  | nil => exact absurd h.1 (by simp)
  | cons u us => exact ⟨u, us, rfl, h.2 0 x u rfl rfl, by simpa using h.1, fun j y v hy hv => h.2 (j + 1) y v (by simpa using hy) (by simpa using hv)⟩
theorem RelL.unnil {us : List Value} (h : RelL σ E [] us) : us = [] := by
  cases us with
  | nil => rfl
  | cons u us => exact absurd h.1 (by simp)
end
end Go.Proofs.Ytdfhkmekmockkaa.Rx
