/- The pure statement of FnExactFitsRoute: over numbers alone. -/
import Derived.Test.YtgikbhkbgfppoaaOpnFnExactFitsRoute
namespace Go.Proofs.Ytgikbhkbgfppoaa.PFnExactFitsRoute
open Go.RowKit Go.Proofs.YtgikbhkbgfppoaaW.PrintWords Go.Proofs.YtgikbhkbgfppoaaW.PrintLast Go.Proofs.YtgikbhkbgfppoaaW.PrintMore

theorem in_eq (a b c : Int) : spec_l01In.f a b c = some (decide (b ≤ a ∧ a ≤ c)) := by
  unfold spec_l01In.f
  by_cases h : a ≥ b
  · rw [if_pos h]; congr 1; simp [show b ≤ a from h]
  · rw [if_neg h]; congr 1; simp [show ¬ b ≤ a from h]
theorem in_eq' (a b c : Int) : impl_within.f a b c = some (decide (b ≤ a ∧ a ≤ c)) := in_eq a b c
theorem both (net bits dst : Int) : ∃ r, spec_FitsRoute.f net bits 0 dst = some r ∧ impl_FitsRoute.f net bits 0 dst = some r := by
  unfold spec_FitsRoute.f impl_FitsRoute.f
  simp only [in_eq, in_eq', Option.bind_some]
  by_cases hb : 0 ≤ bits ∧ bits ≤ 8
  · rw [if_pos (decide_eq_true hb), if_pos (decide_eq_true hb)]
    by_cases hd : 0 ≤ dst ∧ dst ≤ 255
    · rw [if_pos (decide_eq_true hd), if_pos (decide_eq_true hd)]
      have hw : wrap64 (8 - bits) = 8 - bits := by unfold wrap64; omega
      have hu : IntKind.u64.wrap (8 - bits) = 8 - bits := by
        obtain ⟨h0, h8⟩ := hb
        have : bits = 0 ∨ bits = 1 ∨ bits = 2 ∨ bits = 3 ∨ bits = 4 ∨ bits = 5 ∨ bits = 6 ∨ bits = 7 ∨ bits = 8 := by omega
        rcases this with rfl | rfl | rfl | rfl | rfl | rfl | rfl | rfl | rfl <;> rfl
      rw [hw, hu, if_pos (show (0 : Int) ≤ 8 - bits by omega), if_pos (show (0 : Int) ≤ 8 - bits by omega)]
      have sh : ∀ x : Int, shr .i64 x (8 - bits) = x / 2 ^ (8 - bits).toNat := fun x => by
        have : (8 - bits).toNat ≤ 64 := by omega
        unfold shr
        rw [Nat.min_eq_left (show (8 - bits).toNat ≤ IntKind.i64.bits from this)]
      rw [sh, sh]
      obtain ⟨h0, h8⟩ := hb
      have : bits = 0 ∨ bits = 1 ∨ bits = 2 ∨ bits = 3 ∨ bits = 4 ∨ bits = 5 ∨ bits = 6 ∨ bits = 7 ∨ bits = 8 := by omega
      by_cases hn : 0 ≤ net ∧ net ≤ 255
      · rw [if_pos (decide_eq_true hn)]
        exact ⟨_, rfl, by rw [Bool.beq_comm]⟩
      · rw [if_neg (by simpa using hn)]
        refine ⟨false, rfl, ?_⟩
        congr 1
        rw [beq_eq_false_iff_ne]
        rcases this with rfl | rfl | rfl | rfl | rfl | rfl | rfl | rfl | rfl <;> simp <;> omega
    · rw [if_neg (by simpa using hd), if_neg (by simpa using hd)]
      exact ⟨_, rfl, rfl⟩
  · rw [if_neg (by simpa using hb), if_neg (by simpa using hb)]
    exact ⟨_, rfl, rfl⟩
theorem said : Said := by
  intro a b c d _ _ _ _
  obtain ⟨r, hr, hr'⟩ := both a b d
  have hr1 : spec_FitsRoute.f a b c d = some r := hr
  have hr2 : impl_FitsRoute.f a b c d = some r := hr'
  unfold laws_FnExactFitsRoute.f laws_toRoute.f
  simp only [Option.bind_some, hr1, hr2]
  simp
end Go.Proofs.Ytgikbhkbgfppoaa.PFnExactFitsRoute
