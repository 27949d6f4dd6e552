/- The pure statement of FnExactEventOk: over numbers and a text alone. -/
import Derived.Test.YtgikbhkbgfppoaaOpnFnExactEventOk
namespace Go.Proofs.Ytgikbhkbgfppoaa.PFnExactEventOk
open Go.RowKit Go.Proofs.YtgikbhkbgfppoaaW.PrintWords Go.Proofs.YtgikbhkbgfppoaaW.PrintLast Go.Proofs.YtgikbhkbgfppoaaW.PrintMore

theorem in_eq (a b c : Int) : spec_l01In.f a b c = some (decide (b ≤ a ∧ a ≤ c)) := by
  unfold spec_l01In.f
  by_cases h : a ≥ b
  · rw [if_pos h]; congr 1; simp [show b ≤ a from h]
  · rw [if_neg h]; congr 1; simp [show ¬ b ≤ a from h]
theorem in_eq' (a b c : Int) : impl_within.f a b c = some (decide (b ≤ a ∧ a ≤ c)) := in_eq a b c
theorem j_eq (x : Bool) (a b c : Int) (t : ByteArray) : ∃ r, spec_EventOk.j0 1 x a b c t = some r ∧ impl_EventOk.j0 1 x a b c t = some r := by
  show ∃ r, (if x = true then some false else (if a = 9 then (some (decide ((t.size : Int) ≤ 4000))) else (some (t.toList == ([] : List UInt8))))) = some r ∧
    (if x = true then some false else (if a = 9 then (some (decide ((t.size : Int) ≤ 4000))) else (some (t.toList == ([] : List UInt8))))) = some r
  by_cases h : x = true
  · rw [if_pos h]; exact ⟨_, rfl, rfl⟩
  · rw [if_neg h]
    by_cases h9 : a = 9
    · rw [if_pos h9]; exact ⟨_, rfl, rfl⟩
    · rw [if_neg h9]; exact ⟨_, rfl, rfl⟩
theorem both (a b c : Int) (t : ByteArray) : ∃ r, spec_EventOk.f 1 a b c t = some r ∧ impl_EventOk.f 1 a b c t = some r := by
  unfold spec_EventOk.f impl_EventOk.f
  simp only [in_eq, in_eq', Option.bind_some]
  by_cases h : decide ((1 : Int) ≤ a ∧ a ≤ 10) = true
  · rw [if_pos h, if_pos h]
    by_cases hb : b < 0
    · rw [if_pos hb, if_pos hb]; exact j_eq _ _ _ _ _
    · rw [if_neg hb, if_neg hb]; exact j_eq _ _ _ _ _
  · rw [if_neg h, if_neg h]; exact j_eq _ _ _ _ _
theorem said : Said := by
  intro a b c t _ _ _ _
  obtain ⟨r, hr, hr'⟩ := both a b c t
  refine ⟨1, ?_⟩
  unfold laws_FnExactEventOk.f laws_toEvent.f laws_szEvent.f
  by_cases h : wrap64 (1048576 - (t.size : Int)) < 0
  · rw [if_pos h]; rfl
  · rw [if_neg h]
    simp only [Option.bind_some, hr, hr']
    rw [if_neg h]
    simp
end Go.Proofs.Ytgikbhkbgfppoaa.PFnExactEventOk
