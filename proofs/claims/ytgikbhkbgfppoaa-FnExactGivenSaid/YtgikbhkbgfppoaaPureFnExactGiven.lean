/- The pure statement of FnExactGiven: over numbers and lists alone. -/
import Derived.Test.YtgikbhkbgfppoaaOpnFnExactGiven
import Derived.Test.YtgikbhkbgfppoaaGen
namespace Go.Proofs.Ytgikbhkbgfppoaa.PFnExactGiven
open Go.RowKit Go.Proofs.YtgikbhkbgfppoaaW.PrintWords Go.Proofs.YtgikbhkbgfppoaaW.PrintLast Go.Proofs.YtgikbhkbgfppoaaW.PrintMore Go.Proofs.Ytgikbhkbgfppoaa.Gen
set_option linter.unusedVariables false

def cv (x : S91) : S89 := ⟨x.f0, x.f1⟩
theorem to_ev (l : List S91) (hn : l.length ≤ 1048576) : Ev (fun k => laws_toLeaseS.f k l) (l.map cv) := by
  have e : (fun k => laws_toLeaseS.f k l) = fun k => laws_toLeaseS.l0 k l (List.replicate l.length z89) 0 := by
    funext k
    unfold laws_toLeaseS.f
    rw [if_pos (by omega), if_pos (by omega)]
    rfl
  rw [e]
  refine fill_loop l z89 z91 cv (fun k x i => laws_toLeaseS.l0 k l x i) (fun k x j hj hx => ?_) (fun k x => ?_) hn
  · simp only [laws_toLeaseS.l0]
    rw [if_pos (by omega), if_pos (by omega)]
    simp only [laws_toLease.f, Option.bind_some]
    rw [if_pos (by omega)]
    rfl
  · simp only [laws_toLeaseS.l0]
    rw [if_neg (by omega)]
theorem eq_one (x : S89) : laws_eqLease.f x.f0 x.f1 x.f0 x.f1 = some true := by simp [laws_eqLease.f]
theorem eq_ev (l : List S89) (hn : l.length ≤ 1048576) : Ev (fun k => laws_eqLeaseS.f k l l) true := by
  have e : (fun k => laws_eqLeaseS.f k l l) = fun k => laws_eqLeaseS.l0 k l l 0 := by
    funext k
    unfold laws_eqLeaseS.f
    rw [if_pos rfl]
  rw [e]
  refine all_loop l.length true (fun k i => laws_eqLeaseS.l0 k l l i) (fun k j hj => ?_) (fun k => ?_) hn
  · simp only [laws_eqLeaseS.l0]
    rw [if_pos (by omega), if_pos (by omega), if_pos (by omega), eq_one]
    simp only [Option.bind_some, if_true]
  · simp only [laws_eqLeaseS.l0]
    rw [if_neg (by omega)]

def keep (l : List S89) (p : Int) : Nat → Nat → List S89 → List S89
  | 0, _, a => a
  | d + 1, j, a => keep l p d (j + 1) (if (l.getD j z89).f1 = p then a else a ++ [l.getD j z89])
theorem keep_len (l : List S89) (p : Int) : ∀ (d j : Nat) (a : List S89), (keep l p d j a).length ≤ a.length + d
  | 0, _, a => by simp [keep]
  | d + 1, j, a => by
    have := keep_len l p d (j + 1) (if (l.getD j z89).f1 = p then a else a ++ [l.getD j z89])
    have h2 : (if (l.getD j z89).f1 = p then a else a ++ [l.getD j z89]).length ≤ a.length + 1 := by split <;> simp
    show (keep l p d (j + 1) _).length ≤ _
    omega
theorem spec_ev (l : List S89) (p : Int) (hn : l.length ≤ 1048576) : Ev (fun k => spec_Given.f k l p) (keep l p l.length 0 []) := by
  have main : ∀ (d j k : Nat) (a : List S89), j + d = l.length → a.length ≤ j → d < k → spec_Given.l0 k l p a (j : Int) = some (keep l p d j a) := by
    intro d
    induction d with
    | zero =>
      intro j k a hj ha hk
      obtain ⟨k, rfl⟩ : ∃ m, k = m + 1 := ⟨k - 1, by omega⟩
      simp only [spec_Given.l0]
      rw [if_neg (by omega)]
      rfl
    | succ d ih =>
      intro j k a hj ha hk
      obtain ⟨k, rfl⟩ : ∃ m, k = m + 1 := ⟨k - 1, by omega⟩
      simp only [spec_Given.l0]
      rw [if_pos (by omega), if_pos (by omega), wrap_succ (show j < l.length by omega) hn]
      show (if (l.getD j z89).f1 = p then _ else if a.length < 8796093022208 then spec_Given.l0 k l p (a ++ [l.getD j z89]) _ else none) = some (keep l p d (j + 1) _)
      by_cases h : (l.getD j z89).f1 = p
      · rw [if_pos h, if_pos h]
        exact ih (j + 1) k a (by omega) (by omega) (by omega)
      · rw [if_neg h, if_neg h, if_pos (by omega)]
        exact ih (j + 1) k _ (by omega) (by simp; omega) (by omega)
  exact ⟨l.length + 1, fun k hk => main l.length 0 k [] (by omega) (by simp) (by omega)⟩
theorem impl_ev (l : List S89) (p : Int) (hn : l.length ≤ 1048576) : Ev (fun k => impl_Given.f k l p) (keep l p l.length 0 []) := by
  have main : ∀ (d j k : Nat) (a : List S89), j + d = l.length → a.length ≤ j → d < k → impl_Given.l0 k p a l (l.length : Int) (j : Int) = some (keep l p d j a) := by
    intro d
    induction d with
    | zero =>
      intro j k a hj ha hk
      obtain ⟨k, rfl⟩ : ∃ m, k = m + 1 := ⟨k - 1, by omega⟩
      simp only [impl_Given.l0]
      rw [if_neg (by omega)]
      rfl
    | succ d ih =>
      intro j k a hj ha hk
      obtain ⟨k, rfl⟩ : ∃ m, k = m + 1 := ⟨k - 1, by omega⟩
      simp only [impl_Given.l0]
      rw [if_pos (by omega), if_pos (by omega), if_pos (by omega), wrap_succ (show j < l.length by omega) hn]
      show (if (l.getD j z89).f1 = p then _ else if a.length < 8796093022208 then impl_Given.l0 k p (a ++ [l.getD j z89]) l (l.length : Int) _ else none) = some (keep l p d (j + 1) _)
      by_cases h : (l.getD j z89).f1 = p
      · rw [if_pos h, if_pos h]
        exact ih (j + 1) k a (by omega) (by omega) (by omega)
      · rw [if_neg h, if_neg h, if_pos (by omega)]
        exact ih (j + 1) k _ (by omega) (by simp; omega) (by omega)
  exact ⟨l.length + 1, fun k hk => main l.length 0 k [] (by omega) (by simp) (by omega)⟩

def mk (c : Int) (x : S89) : S89 := ⟨c, wrap64 (c + 1)⟩
def adv (c : Int) : Int := wrap64 ((wrap64 (c + 1)) + 1)
theorem mark_ev (l : List S89) (c : Int) (hn : l.length ≤ 1048576) : Ev (fun k => laws_markLeaseS.f k l c) (count adv l.length c, marked mk adv l c) := by
  refine mark_loop z89 mk adv (fun k x c i => laws_markLeaseS.l0 k x c i) (fun k x c j hj => ?_) (fun k x c => ?_) l c hn
  · simp only [laws_markLeaseS.l0]
    rw [if_pos (by omega), if_pos (by omega)]
    simp only [Option.bind_some]
    show laws_markLeaseS.l0 k ((x.set j ⟨c, _⟩).set j ⟨((x.set j ⟨c, (x.getD j z89).f1⟩).getD j z89).f0, wrap64 (c + 1)⟩) _ _ = _
    have e : (x.set j (⟨c, (x.getD j z89).f1⟩ : S89)).getD j z89 = ⟨c, (x.getD j z89).f1⟩ := by simp [List.getD, hj]
    rw [e, List.set_set]
    rfl
  · simp only [laws_markLeaseS.l0]
    rw [if_neg (by omega)]
theorem held_ev (l : List S89) (c : Int) (hn : l.length ≤ 1048576) : Ev (fun k => laws_heldLeaseS.f k (marked mk adv l c) c) (count adv l.length c) := by
  obtain ⟨x, hx⟩ : ∃ x, x = marked mk adv l c := ⟨_, rfl⟩
  rw [← hx]
  refine held_loop z89 mk adv x (fun k c' i => laws_heldLeaseS.l0 k x c' i) (fun k c' => ?_) l c hx (fun k c' j y hj hg => ?_) hn
  · simp only [laws_heldLeaseS.l0]
    rw [if_neg (by omega)]
  · simp only [laws_heldLeaseS.l0]
    rw [if_pos (by omega), if_pos (by omega)]
    have e0 : (rd_T89 x (j : Int)) = mk c' y := hg
    rw [e0]
    simp only [mk, if_true]
    rfl
theorem count_eq (l : List S89) (hn : l.length ≤ 1048576) : count adv l.length 1 = 1 + (l.length : Int) * ((2 : Nat) : Int) :=
  count_add adv 2 (by omega) (fun c h0 h1 => by unfold adv wrap64; omega) l.length 1 (by omega) (by omega)
theorem said : Said := by
  intro l p _ hl _
  by_cases h : wrap64 (1048576 - (l.length : Int)) < 0
  · refine ⟨0, ?_⟩
    simp only [laws_FnExactGiven.f, laws_szLeaseS.f]
    rw [if_pos h]
    rfl
  · have hn := len_of_guard h hl
    have hm : (l.map cv).length ≤ 1048576 := by simpa using hn
    have hk : (keep (l.map cv) p (l.map cv).length 0 []).length ≤ 1048576 := by
      have := keep_len (l.map cv) p (l.map cv).length 0 []
      simp only [List.length_nil] at this
      omega
    generalize hr : keep (l.map cv) p (l.map cv).length 0 [] = r at hk
    have hs : Ev (fun k => spec_Given.f k (l.map cv) p) r := hr ▸ spec_ev _ p hm
    have hi : Ev (fun k => impl_Given.f k (l.map cv) p) r := hr ▸ impl_ev _ p hm
    refine ev_some (r := true) ?_
    have e : (fun k => laws_FnExactGiven.f k l p) = fun k => ((laws_toLeaseS.f k l).bind fun t137 => ((spec_Given.f k t137 p).bind fun t140 => ((laws_toLeaseS.f k l).bind fun t143 => ((impl_Given.f k t143 p).bind fun t146 => ((laws_eqLeaseS.f k t146 t140).bind fun t149 => (if t149 = true then ((laws_toLeaseS.f k l).bind fun t150 => ((laws_eqLeaseS.f k t143 t150).bind fun t153 => (if t153 = true then ((laws_markLeaseS.f k t143 1).bind fun bt154 => (if bt154.1 < 0 then (laws_FnExactGiven.j0 k l p t140 t146 true) else ((laws_eqLeaseS.f k t146 t140).bind fun t156 => (laws_FnExactGiven.j0 k l p t140 t146 (!t156))))) else (some false)))) else (some false))))))) := by
      funext k
      simp only [laws_FnExactGiven.f, laws_szLeaseS.f]
      rw [if_neg h]
      simp only [Option.bind_some]
      rw [if_neg h]
    rw [e]
    refine ev_bind (to_ev l hn) (ev_bind hs (ev_bind (to_ev l hn) (ev_bind hi (ev_bind (eq_ev r hk) ?_))))
    simp only [if_true]
    refine ev_bind (to_ev l hn) (ev_bind (eq_ev _ hm) ?_)
    simp only [if_true]
    refine ev_bind (mark_ev _ 1 hm) ?_
    have hc := count_eq (l.map cv) hm
    have hcr := count_eq r hk
    simp only [if_neg (show ¬ count adv (l.map cv).length 1 < 0 by omega)]
    refine ev_bind (eq_ev r hk) ?_
    have ej : ∀ k, laws_FnExactGiven.j0 (k + 1) l p r r (!true) = ((laws_markLeaseS.f k r 1).bind fun bt157 => ((laws_heldLeaseS.f k bt157.2 1).bind fun t159 => (if t159 < 0 then (some false) else (if t159 = bt157.1 then ((laws_toLeaseS.f k l).bind fun t160 => ((impl_Given.f k t160 p).bind fun t163 => ((laws_eqLeaseS.f k t163 r).bind fun t166 => (if t166 = true then ((laws_heldLeaseS.f k bt157.2 1).bind fun t167 => (if t167 < 0 then (some false) else (if t167 = bt157.1 then (some true) else (some false)))) else (some false))))) else (some false))))) := fun k => rfl
    have goal : Ev (fun k => laws_FnExactGiven.j0 (k + 1) l p r r (!true)) true := by
      simp only [ej]
      refine ev_bind (mark_ev r 1 hk) (ev_bind (held_ev r 1 hk) ?_)
      simp only [if_neg (show ¬ count adv r.length 1 < 0 by omega), if_true]
      refine ev_bind (to_ev l hn) (ev_bind hi (ev_bind (eq_ev r hk) ?_))
      simp only [if_true]
      refine ev_bind (held_ev r 1 hk) ?_
      simp only [if_neg (show ¬ count adv r.length 1 < 0 by omega), if_true]
      exact ev_const
    obtain ⟨K, hK⟩ := goal
    exact ⟨K + 1, fun k hk' => by
      obtain ⟨k, rfl⟩ : ∃ m, k = m + 1 := ⟨k - 1, by omega⟩
      exact hK k (by omega)⟩
end Go.Proofs.Ytgikbhkbgfppoaa.PFnExactGiven
