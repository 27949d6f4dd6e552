/- A row that a called function made, as a block of the machine's. No program in sight. -/
import Derived.Test.YtdfhkmekmockkaaRx7
namespace Go.Proofs.Ytdfhkmekmockkaa.Rx
open Go.RowKit
set_option linter.unusedVariables false
section
variable {σ : Nat → Value} {O : Opq} {E : Env} {w0 : World} {H : Hp} {w w' : World}
/-- A row of the callee's own: a new block. -/
theorem RelH.push_row (h : RelH σ O w0 E H w) (hb : Below w.heap.size w w') {e size n : Nat} {v : Value} {inner : List Value} (ho : w'.ownsRow w.heap.size e size v n inner) (hn : 0 < n) (es : Tr (List AC))
    (hes : ∀ i, i < n → ∃ xs, es.get i = some xs ∧ RelL σ E xs ((inner.drop (i * size)).take size)) :
    ∃ r, E.le (E.new H.next r) ∧ RelS σ (E.new H.next r) (.o (.c (.sl H.next 0 n))) v ∧ RelH σ O w0 (E.new H.next r) (H.push (.rows e size n es)) w' := by
  obtain ⟨hl, ho⟩ := ho
  rcases ho with ⟨_, h0⟩ | ⟨g, cap, cur, rfl, hg, hheap, hnc, hcm, hcs, htake⟩
  · omega
  · refine ⟨⟨g, cap, size, 0⟩, h.le_new _, ⟨⟨g, cap, size, 0⟩, by simp [Env.new], by simpa using hnc, by simp⟩, h.push_at hb hg ⟨⟨g, cap, size, 0⟩, cur, by simp [Env.new], rfl, hheap, hcs, hnc, hcm, fun i hi => ?_⟩⟩
    obtain ⟨xs, h1, h2⟩ := hes i hi
    refine ⟨xs, h1, ?_⟩
    have hk : i * size + size ≤ n * size := by have : (i + 1) * size ≤ n * size := Nat.mul_le_mul_right _ hi; rw [Nat.succ_mul] at this; exact this
    rw [← take_of_take _ (n * size) _ _ hk, htake]
    exact h2.mono (h.le_new _)
end
end Go.Proofs.Ytdfhkmekmockkaa.Rx
