/- What is drawn for FnClients: twelve numbers that are not below 0. Numbers and lists alone. -/
import Derived.Test.YtdfhkmekmockkaaPFnPoolsx5
import Derived.Test.YtdfhkmekmockkaaGen
namespace Go.Proofs.Ytdfhkmekmockkaa.Cl
open Go.RowKit Go.Proofs.Ytdfhkmekmockkaa.PFnPools Go.Proofs.YtdfhkmekmockkaaW.PrintWords Go.Proofs.YtdfhkmekmockkaaW.PrintLast Go.Proofs.YtdfhkmekmockkaaW.PrintMore Go.Proofs.Ytdfhkmekmockkaa.Gen
set_option linter.unusedVariables false
set_option linter.unusedSimpArgs false

theorem mask (x : Int) : 0 ≤ Go.bits .and .i64 x 255 ∧ Go.bits .and .i64 x 255 ≤ 255 := by
  unfold Go.bits
  have h : ((BitVec.ofInt 64 x) &&& (BitVec.ofInt 64 255)).toNat ≤ 255 := by
    rw [BitVec.toNat_and]
    exact Nat.le_trans Nat.and_le_right (by decide)
  have e : IntKind.i64.wrap (((BitVec.ofInt 64 x) &&& (BitVec.ofInt 64 255)).toNat : Int) = ((((BitVec.ofInt 64 x) &&& (BitVec.ofInt 64 255)).toNat : Nat) : Int) := by
    rw [IntKind.wrap_i64]; omega
  show 0 ≤ IntKind.i64.wrap (((BitVec.ofInt 64 x) &&& (BitVec.ofInt 64 255)).toNat : Int) ∧ IntKind.i64.wrap (((BitVec.ofInt 64 x) &&& (BitVec.ofInt 64 255)).toNat : Int) ≤ 255
  rw [e]
  omega
/-- Where a cursor stands. -/
def At (c : List Int) (i : Int) : Prop := c.length ≤ 140737488355328 ∧ 0 ≤ i ∧ i ≤ c.length
theorem byte_ok (c : List Int) (i h : Int) (hc : At c i) : ∃ b i' h', spec_l01Byte.f c i h = some (b, i', h') ∧ 0 ≤ b ∧ b ≤ 255 ∧ At c i' := by
  obtain ⟨hl, h0, h1⟩ := hc
  unfold spec_l01Byte.f
  by_cases hlt : i < (c.length : Int)
  · rw [if_pos hlt, if_pos h0]
    exact ⟨_, _, _, rfl, (mask _).1, (mask _).2, hl, by unfold wrap64; omega, by unfold wrap64; omega⟩
  · rw [if_neg hlt]
    exact ⟨_, _, _, rfl, (mask _).1, (mask _).2, hl, h0, h1⟩
theorem below_ok (c : List Int) (i h n : Int) (hc : At c i) (hn : 1 ≤ n) : ∃ b i' h', spec_l01Below.f c i h n = some (b, i', h') ∧ 0 ≤ b ∧ b < n ∧ At c i' := by
  unfold spec_l01Below.f
  rw [if_neg (by omega)]
  by_cases hs : n ≤ 256
  · rw [if_pos hs]
    obtain ⟨b, i', h', e, hb0, hb1, hc'⟩ := byte_ok c i h hc
    rw [e]
    simp only [Option.bind_some]
    rw [if_neg (by omega)]
    exact ⟨_, _, _, rfl, Int.tmod_nonneg _ hb0, Int.tmod_lt_of_pos _ (by omega), hc'⟩
  · rw [if_neg hs]
    obtain ⟨b1, i1, h1, e1, p1, q1, c1⟩ := byte_ok c i h hc
    obtain ⟨b2, i2, h2, e2, p2, q2, c2⟩ := byte_ok c i1 h1 c1
    obtain ⟨b3, i3, h3, e3, p3, q3, c3⟩ := byte_ok c i2 h2 c2
    obtain ⟨b4, i4, h4, e4, p4, q4, c4⟩ := byte_ok c i3 h3 c3
    simp only [e1, e2, e3, e4, Option.bind_some]
    rw [if_neg (by omega)]
    refine ⟨_, _, _, rfl, Int.tmod_nonneg _ ?_, Int.tmod_lt_of_pos _ (by omega), c4⟩
    unfold wrap64
    omega
theorem new_ok (l : List Int) (hl : l.length ≤ 140737488355328) : ∃ h, Ev (fun k => spec_l01New.f k l) (l, 0, h) := by
  have main : ∀ (d j : Nat) (h : Int), j + d = l.length → ∃ h', Ev (fun k => spec_l01New.l0 k l h (j : Int)) (l, 0, h') := by
    intro d
    induction d with
    | zero =>
      intro j h hj
      refine ⟨h, ev_to (f := fun _ => some (l, 0, h)) ev_const fun k => ?_⟩
      simp only [spec_l01New.l0]
      rw [if_neg (by omega)]
    | succ d ih =>
      intro j h hj
      by_cases h4 : (j : Int) < 4000
      · obtain ⟨h', hh⟩ := ih (j + 1) (Go.bits .and .i64 (wrap64 ((wrap64 ((wrap64 (h * 131)) + (wrap64 (rd l j)))) + 7)) 1073741823) (by omega)
        refine ⟨h', ev_to hh fun k => ?_⟩
        simp only [spec_l01New.l0]
        rw [if_pos (by omega), if_pos h4, if_pos (by omega), show wrap64 ((j : Int) + 1) = ((j + 1 : Nat) : Int) by unfold wrap64; omega]
      · refine ⟨h, ev_to (f := fun _ => some (l, 0, h)) ev_const fun k => ?_⟩
        simp only [spec_l01New.l0]
        rw [if_pos (by omega), if_neg h4]
  exact main l.length 0 _ (by omega)
theorem places_ok (l : List Int) (hl : l.length ≤ 140737488355328) : ∃ ps, Ev (fun k => spec_DrawPlaces.f k l) ps ∧ ps.length = 12 ∧ 0 ≤ rd ps 0 := by
  have main : ∀ (d j : Nat) (xs : List Int) (i h : Int), j + d = 12 → xs.length = j → (∀ x ∈ xs, 0 ≤ x) → At l i → ∃ ps, Ev (fun k => spec_DrawPlaces.l0 k xs (j : Int) l i h) ps ∧ ps.length = 12 ∧ ∀ x ∈ ps, 0 ≤ x := by
    intro d
    induction d with
    | zero =>
      intro j xs i h hj hx hp hc
      refine ⟨xs, ev_to (f := fun _ => some xs) ev_const fun k => ?_, by omega, hp⟩
      simp only [spec_DrawPlaces.l0]
      rw [if_neg (by omega)]
    | succ d ih =>
      intro j xs i h hj hx hp hc
      obtain ⟨b, i', h', e, hb0, hb1, hc'⟩ := below_ok l i h 10000 hc (by omega)
      obtain ⟨ps, he, h1, h2⟩ := ih (j + 1) (xs ++ [b]) i' h' (by omega) (by simp; omega) (fun x hx => by simp at hx; rcases hx with hx | rfl; exact hp x hx; exact hb0) hc'
      refine ⟨ps, ev_to he fun k => ?_, h1, h2⟩
      simp only [spec_DrawPlaces.l0]
      rw [if_pos (by omega), e]
      simp only [Option.bind_some]
      rw [if_pos (by omega), show wrap64 ((j : Int) + 1) = ((j + 1 : Nat) : Int) by unfold wrap64; omega]
  obtain ⟨h, hn⟩ := new_ok l hl
  obtain ⟨b, i', h', e, _, _, hc'⟩ := byte_ok l 0 h ⟨hl, by omega, by omega⟩
  obtain ⟨ps, he, h1, h2⟩ := main 12 0 [] i' h' rfl rfl (by simp) hc'
  refine ⟨ps, ev_bind hn ?_, h1, h2 _ ?_⟩
  · simp only [e, Option.bind_some]
    exact he
  · unfold rd
    rw [List.getD_eq_getElem?_getD, List.getElem?_eq_getElem (by simp; omega)]
    exact List.getElem_mem _

end Go.Proofs.Ytdfhkmekmockkaa.Cl
