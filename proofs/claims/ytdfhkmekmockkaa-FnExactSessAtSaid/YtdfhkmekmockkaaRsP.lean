/- Plain lists: what copies, comparisons and searches come to. No program in sight. -/
import Derived.Test.YtdfhkmekmockkaaRs18
namespace Go.Proofs.Ytdfhkmekmockkaa.Rs
open Go.RowKit
set_option linter.unusedVariables false
set_option linter.unusedSimpArgs false
abbrev i64 : CK := .n .i64
abbrev ks (n : Nat) : List CK := List.replicate n i64
theorem wrap64 {x : Int} (h0 : -9223372036854775808 ≤ x) (h1 : x ≤ 9223372036854775807) : IntKind.i64.wrap x = x := by
  rw [IntKind.wrap_i64]; omega
theorem setRw_set {L : Rw} {k z : Nat} {cs : List Value} (hc : cs.length = z) (h : ∀ e ∈ L, e.length = z) : setRw L k 0 cs = L.set k cs := by
  apply List.ext_getElem?
  intro i
  simp only [setRw, List.getElem?_modify, List.getElem?_set]
  by_cases e : k = i
  · subst e
    simp only [if_true]
    by_cases hk : k < L.length
    · rw [if_pos hk, List.getElem?_eq_getElem hk]
      have := h L[k] (List.getElem_mem _)
      simp [hc, this]
    · rw [if_neg hk, List.getElem?_eq_none (by omega)]
      rfl
  · simp [e]
theorem getD_mem {L : Rw} {k : Nat} (hk : k < L.length) : L.getD k [] ∈ L := by
  rw [List.getD_eq_getElem?_getD, List.getElem?_eq_getElem hk]
  exact List.getElem_mem _
/-- A copy, one element on. -/
theorem to_step {z k : Nat} {L0 L1 : Rw} {cs : List Value} (hcs : cs = L0.getD k []) (hk : k < L0.length) (hl : L1.length = L0.length) (h0 : ∀ e ∈ L0, e.length = z) (h1 : ∀ e ∈ L1, e.length = z) (ht : L1.take k = L0.take k) :
    (setRw L1 k 0 cs).length = L0.length ∧ (∀ e ∈ setRw L1 k 0 cs, e.length = z) ∧ (setRw L1 k 0 cs).take (k + 1) = L0.take (k + 1) := by
  have hc : cs.length = z := by rw [hcs]; exact h0 _ (getD_mem hk)
  rw [setRw_set hc h1]
  refine ⟨by simp [hl], fun e he => ?_, ?_⟩
  · rcases List.mem_or_eq_of_mem_set he with h | h
    · exact h1 e h
    · rw [h]; exact hc
  · rw [List.take_add_one, List.take_add_one, List.take_set_of_le (by omega), ht, List.getElem?_set_self (by omega), hcs, List.getD_eq_getElem?_getD, List.getElem?_eq_getElem hk]
    rfl
def toInv (z : Nat) (vs : List Value) (ls : List Rw) : Prop := ∃ (k : Nat) (L0 L1 : Rw), vs = [.int .i64 k] ∧ ls = [L0, L1] ∧ k ≤ L0.length ∧ L1.length = L0.length ∧ L0.length ≤ 100000000 ∧ (∀ e ∈ L0, e.length = z) ∧ (∀ e ∈ L1, e.length = z) ∧ L1.take k = L0.take k
def toPre (z : Nat) (vs : List Value) (ls : List Rw) : Prop := ∃ L0 : Rw, ls = [L0] ∧ L0.length ≤ 100000000 ∧ (∀ e ∈ L0, e.length = z)
theorem toInv_next {z k : Nat} {L0 L1 : Rw} {cs : List Value} {x : Value} (hcs : cs = L0.getD k []) (hk : k < L0.length) (hl : L1.length = L0.length) (hm : L0.length ≤ 100000000) (h0 : ∀ e ∈ L0, e.length = z) (h1 : ∀ e ∈ L1, e.length = z) (ht : L1.take k = L0.take k) (hx : x = .int .i64 (IntKind.i64.wrap ((k : Int) + 1))) :
    toInv z [x] [L0, setRw L1 k 0 cs] := by
  obtain ⟨a, b, c⟩ := to_step hcs hk hl h0 h1 ht
  refine ⟨k + 1, L0, _, ?_, rfl, by omega, a, hm, h0, b, c⟩
  rw [hx, wrap64 (by omega) (by omega)]
  rfl
theorem toInv_start {z : Nat} {L0 : Rw} {cs : List Value} (hcs : cs.length = z) (hm : L0.length ≤ 100000000) (h0 : ∀ e ∈ L0, e.length = z) : toInv z [.int .i64 0] [L0, List.replicate L0.length cs] :=
  ⟨0, L0, _, rfl, rfl, by omega, by simp, hm, h0, fun e he => by rw [List.eq_of_mem_replicate he]; exact hcs, by simp⟩
def mu0 (vs : List Value) (ls : List Rw) : Nat := (ls.getD 0 []).length - natOf (vs.getD 0 undef)
/-! ### Comparisons of what is the same -/
/-- Kinds that are the same at both. -/
theorem binV_neq_int (k : IntKind) (a : Int) : binV .neq (.int k a) (.int k a) = .bool false := by simp [binV]
/-! ### Searches -/
def cel (L : Rw) (k j : Nat) : Value := (L.getD k []).getD j undef
def First (L : Rw) (c : Value) (k : Nat) : Prop := k < L.length ∧ cel L k 0 = c ∧ ∀ j, j < k → cel L j 0 ≠ c
def Nowhere (L : Rw) (c : Value) : Prop := ∀ j, j < L.length → cel L j 0 ≠ c
theorem First.unique {L : Rw} {c : Value} {i k : Nat} (h : First L c i) (h' : First L c k) : i = k := by
  rcases Nat.lt_trichotomy i k with g | g | g
  · exact absurd h.2.1 (h'.2.2 i g)
  · exact g
  · exact absurd h'.2.1 (h.2.2 k g)
theorem First.some {L : Rw} {c : Value} {i : Nat} (h : First L c i) (h' : Nowhere L c) : False := h' i h.1 h.2.1
def IntRows (z : Nat) (L : Rw) : Prop := RowOk (ks z) L
theorem IntRows.len {z : Nat} {L : Rw} (h : IntRows z L) : ∀ e ∈ L, e.length = z := fun e he => by simpa [ks] using (h e he).1
theorem IntRows.at_ {z k j : Nat} {L : Rw} (h : IntRows z L) (hk : k < L.length) (hj : j < z) : ∃ a, cel L k j = .int .i64 a := by
  have hm := getD_mem hk
  have hl := h.len _ hm
  obtain ⟨_, h2⟩ := h _ hm
  have hj' : j < (L.getD k []).length := by omega
  obtain ⟨a, ha⟩ := h2 j i64 (L.getD k [])[j] (by rw [List.getElem?_replicate, if_pos hj]) (List.getElem?_eq_getElem hj')
  refine ⟨a, ?_⟩
  rw [cel, List.getD_eq_getElem?_getD, List.getElem?_eq_getElem hj']
  exact ha
def eqInv (z : Nat) (vs : List Value) (ls : List Rw) : Prop := ∃ (k : Nat) (L : Rw), vs = [.int .i64 k] ∧ ls = [L, L] ∧ k ≤ L.length ∧ L.length ≤ 100000000 ∧ IntRows z L
def eqPre (z : Nat) (vs : List Value) (ls : List Rw) : Prop := ∃ L : Rw, ls = [L, L] ∧ L.length ≤ 100000000 ∧ IntRows z L
end Go.Proofs.Ytdfhkmekmockkaa.Rs
