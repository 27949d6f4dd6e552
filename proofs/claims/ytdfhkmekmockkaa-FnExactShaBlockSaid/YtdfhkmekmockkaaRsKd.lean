/- Rows of the law's arguments, as the machine reads them. -/
import Derived.Test.YtdfhkmekmockkaaRsP
import Derived.Test.YtdfhkmekmockkaaWWords
namespace Go.Proofs.Ytdfhkmekmockkaa.Rs
open Go.RowKit Go.Proofs.YtdfhkmekmockkaaW.PrintWords
set_option linter.unusedVariables false
theorem ro_of {α : Type} {d : Kd α} {w : World} {A : Option Addr} {c z : Nat} {l : List α} (f : α → List Value) (hz : d.sz = z) (hr : Kd.C d w A l.length l) (hc : l.length ≤ c) (hf : ∀ x cs, d.K w x cs → cs = f x) (hk : ∀ x, (f x).length = z ∧ ∀ u ∈ f x, ∃ a, u = .int .i64 a) :
    Ro w (.slice A l.length c) (ks z) (l.map f) := by
  obtain ⟨_, h2, h3⟩ := hr
  subst hz
  refine ⟨fun e he => ?_, A, c, by simp, by simpa using hc, by simpa [maxLen] using h2, fun hp => ?_⟩
  · obtain ⟨x, _, rfl⟩ := List.mem_map.1 he
    refine ⟨by simpa [ks] using (hk x).1, fun j k u hj hu => ?_⟩
    obtain rfl : k = i64 := by
      rw [List.getElem?_replicate] at hj
      split at hj
      · exact (Option.some.inj hj).symm
      · cases hj
    exact (hk x).2 u (List.mem_of_getElem? hu)
  · obtain ⟨ad, rfl, hcell⟩ := h3 (by simpa using hp)
    refine ⟨ad, rfl, fun j e he i v hv => ?_⟩
    rw [List.getElem?_map] at he
    cases hj : l[j]? with
    | none => rw [hj] at he; cases he
    | some x =>
      rw [hj] at he
      obtain rfl := Option.some.inj he
      obtain ⟨cs, h4, h5, h6⟩ := hcell j x hj
      obtain rfl := hf x cs h5
      have := h6 i v hv
      simpa [ks] using this
theorem ro_rows {α : Type} {z : Nat} {l : List α} (f : α → List Value) (hk : ∀ x, (f x).length = z ∧ ∀ u ∈ f x, ∃ a, u = .int .i64 a) : IntRows z (l.map f) := by
  intro e he
  obtain ⟨x, _, rfl⟩ := List.mem_map.1 he
  refine ⟨by simpa [ks] using (hk x).1, fun j k u hj hu => ?_⟩
  obtain rfl : k = i64 := by
    rw [List.getElem?_replicate] at hj
    split at hj
    · exact (Option.some.inj hj).symm
    · cases hj
  exact (hk x).2 u (List.mem_of_getElem? hu)
theorem rel_s {us : List (Nat × Nat × Value)} {vs : List Value} {Ls : List Rw} {i : Nat} {k : IntKind} {x : Int} (h : vs[i]? = some (.int k x)) : RelC (envOf us vs Ls) (.t (.n k) (.s i)) (.int k x) := by
  refine ⟨⟨x, rfl⟩, fun S hS => ?_⟩
  have hi : i < vs.length := (List.getElem?_eq_some_iff.1 h).1
  rw [show Te.ev S (.s i) = S.v i from by simp only [Te.ev], hS.1 i hi]
  show vs.getD i undef = _
  rw [List.getD_eq_getElem?_getD, h]
  rfl
theorem rel_sr {us : List (Nat × Nat × Value)} {vs : List Value} {Ls : List Rw} {b z t : Nat} {a : Option Addr} {n c : Nat} (h : us[b]? = some (z, t, .slice a n c)) : RelC (envOf us vs Ls) (.sr b) (.slice a n c) :=
  ⟨⟨none, 0, 0, z, t, false, .slice a n c⟩, by show (us[b]?).map _ = _; rw [h]; rfl, rfl, a, n, c, rfl⟩
theorem four {P : Nat → Nat × List CK → Value → Rw → Prop} {b0 b1 b2 b3 : Nat × List CK} {u0 u1 u2 u3 : Value} {L0 L1 L2 L3 : Rw} (h0 : P 0 b0 u0 L0) (h1 : P 1 b1 u1 L1) (h2 : P 2 b2 u2 L2) (h3 : P 3 b3 u3 L3) :
    ∀ (b : Nat) p u L, [b0, b1, b2, b3][b]? = some p → [u0, u1, u2, u3][b]? = some u → [L0, L1, L2, L3][b]? = some L → P b p u L := by
  intro b p u L hp hu hL
  match b, hp, hu, hL with
  | 0, hp, hu, hL => cases hp; cases hu; cases hL; exact h0
  | 1, hp, hu, hL => cases hp; cases hu; cases hL; exact h1
  | 2, hp, hu, hL => cases hp; cases hu; cases hL; exact h2
  | 3, hp, hu, hL => cases hp; cases hu; cases hL; exact h3
  | b + 4, hp, _, _ => simp at hp
end Go.Proofs.Ytdfhkmekmockkaa.Rs
