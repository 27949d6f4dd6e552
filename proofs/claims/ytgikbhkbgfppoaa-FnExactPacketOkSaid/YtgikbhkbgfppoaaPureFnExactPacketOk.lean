/- The pure statement of FnExactPacketOk: over numbers alone. -/
import Derived.Test.YtgikbhkbgfppoaaOpnFnExactPacketOk
namespace Go.Proofs.Ytgikbhkbgfppoaa.PFnExactPacketOk
open Go.RowKit Go.Proofs.YtgikbhkbgfppoaaW.PrintWords Go.Proofs.YtgikbhkbgfppoaaW.PrintLast Go.Proofs.YtgikbhkbgfppoaaW.PrintMore

theorem in_eq (a b c : Int) : spec_l01In.f a b c = some (decide (b ≤ a ∧ a ≤ c)) := by
  unfold spec_l01In.f
  by_cases h : a ≥ b
  · rw [if_pos h]; congr 1; simp [show b ≤ a from h]
  · rw [if_neg h]; congr 1; simp [show ¬ b ≤ a from h]
theorem same (a b c d : Int) : impl_PacketOk.f a b c d = spec_PacketOk.f a b c d := rfl
theorem tells (a b c d : Int) : ∃ r, spec_PacketOk.f a b c d = some r := by
  unfold spec_PacketOk.f
  simp only [in_eq, Option.bind_some]
  repeat' split
  all_goals exact ⟨_, rfl⟩
theorem said : Said := by
  intro a b c d _ _ _ _
  obtain ⟨r, hr⟩ := tells a b c d
  unfold laws_FnExactPacketOk.f laws_toPacket.f
  simp only [Option.bind_some, same, hr]
  simp
end Go.Proofs.Ytgikbhkbgfppoaa.PFnExactPacketOk
