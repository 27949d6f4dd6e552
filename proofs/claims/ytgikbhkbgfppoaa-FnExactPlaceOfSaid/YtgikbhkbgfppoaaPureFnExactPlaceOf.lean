/- The pure statement of FnExactPlaceOf: over numbers and lists alone. -/
import Derived.Test.YtgikbhkbgfppoaaOpnFnExactPlaceOf
import Derived.Test.YtgikbhkbgfppoaaGen
namespace Go.Proofs.Ytgikbhkbgfppoaa.PFnExactPlaceOf
open Go.RowKit Go.Proofs.YtgikbhkbgfppoaaW.PrintWords Go.Proofs.YtgikbhkbgfppoaaW.PrintLast Go.Proofs.YtgikbhkbgfppoaaW.PrintMore Go.Proofs.Ytgikbhkbgfppoaa.Gen
set_option linter.unusedVariables false

def cv (x : S91) : S89 := ⟨x.f0, x.f1⟩
theorem to_ev (l : List S91) (hn : l.length ≤ 1048576) : Ev (fun k => laws_toLeaseS.f k l) (l.map cv) := by
  have e : (fun k => laws_toLeaseS.f k l) = fun k => laws_toLeaseS.l0 k l (List.replicate l.length z89) 0 := by
    funext k
    unfold laws_toLeaseS.f
    rw [if_pos (by omega), if_pos (by omega)]
    rfl
  rw [e]
  refine fill_loop l z89 z91 cv (fun k x i => laws_toLeaseS.l0 k l x i) (fun k x j hj hx => ?_) (fun k x => ?_) hn
  · simp only [laws_toLeaseS.l0]
    rw [if_pos (by omega), if_pos (by omega)]
    simp only [laws_toLease.f, Option.bind_some]
    rw [if_pos (by omega)]
    rfl
  · simp only [laws_toLeaseS.l0]
    rw [if_neg (by omega)]
theorem eq_one (x : S89) : laws_eqLease.f x.f0 x.f1 x.f0 x.f1 = some true := by simp [laws_eqLease.f]
theorem eq_ev (l : List S89) (hn : l.length ≤ 1048576) : Ev (fun k => laws_eqLeaseS.f k l l) true := by
  have e : (fun k => laws_eqLeaseS.f k l l) = fun k => laws_eqLeaseS.l0 k l l 0 := by
    funext k
    unfold laws_eqLeaseS.f
    rw [if_pos rfl]
  rw [e]
  refine all_loop l.length true (fun k i => laws_eqLeaseS.l0 k l l i) (fun k j hj => ?_) (fun k => ?_) hn
  · simp only [laws_eqLeaseS.l0]
    rw [if_pos (by omega), if_pos (by omega), if_pos (by omega), eq_one]
    simp only [Option.bind_some, if_true]
  · simp only [laws_eqLeaseS.l0]
    rw [if_neg (by omega)]

def tell (l : List S89) (p : Int) : Nat → Nat → Int
  | 0, _ => 0
  | d + 1, j => if (l.getD j z89).f1 = p then (l.getD j z89).f0 else tell l p d (j + 1)
theorem spec_ev (l : List S89) (p : Int) (hn : l.length ≤ 1048576) : Ev (fun k => spec_PlaceOf.f k l p) (tell l p l.length 0) := by
  refine fold_loop l.length (fun k (_ : Unit) i => spec_PlaceOf.l0 k l p i) (fun j _ => tell l p (l.length - j) j) (fun _ s => s) (fun j _ => if (l.getD j z89).f1 = p then some (l.getD j z89).f0 else none) (fun k s j hj => ?_) (fun k s => ?_) (fun j s hj => ?_) hn ()
  · simp only [spec_PlaceOf.l0]
    rw [if_pos (by omega), if_pos (by omega)]
    show (if (l.getD j z89).f1 = p then some (l.getD j z89).f0 else _) = _
    by_cases h : (l.getD j z89).f1 = p
    · rw [if_pos h, if_pos h]
    · rw [if_neg h, if_neg h]
  · simp only [spec_PlaceOf.l0]
    rw [if_neg (by omega), Nat.sub_self]
    rfl
  · obtain ⟨d, hd⟩ : ∃ d, l.length - j = d + 1 := ⟨l.length - j - 1, by omega⟩
    have hd' : l.length - (j + 1) = d := by omega
    simp only [hd, hd', tell]
    by_cases h : (l.getD j z89).f1 = p
    · rw [if_pos h, if_pos h]
    · rw [if_neg h, if_neg h]
theorem impl_ev (l : List S89) (p : Int) (hn : l.length ≤ 1048576) : Ev (fun k => impl_PlaceOf.f k l p) (tell l p l.length 0) := by
  refine fold_loop l.length (fun k (_ : Unit) i => impl_PlaceOf.l0 k p l (l.length : Int) i) (fun j _ => tell l p (l.length - j) j) (fun _ s => s) (fun j _ => if (l.getD j z89).f1 = p then some (l.getD j z89).f0 else none) (fun k s j hj => ?_) (fun k s => ?_) (fun j s hj => ?_) hn ()
  · simp only [impl_PlaceOf.l0]
    rw [if_pos (by omega), if_pos (by omega), if_pos (by omega)]
    show (if (l.getD j z89).f1 = p then some (l.getD j z89).f0 else _) = _
    by_cases h : (l.getD j z89).f1 = p
    · rw [if_pos h, if_pos h]
    · rw [if_neg h, if_neg h]
  · simp only [impl_PlaceOf.l0]
    rw [if_neg (by omega), Nat.sub_self]
    rfl
  · obtain ⟨d, hd⟩ : ∃ d, l.length - j = d + 1 := ⟨l.length - j - 1, by omega⟩
    have hd' : l.length - (j + 1) = d := by omega
    simp only [hd, hd', tell]
    by_cases h : (l.getD j z89).f1 = p
    · rw [if_pos h, if_pos h]
    · rw [if_neg h, if_neg h]
theorem said : Said := by
  intro l p _ hl _
  by_cases h : wrap64 (1048576 - (l.length : Int)) < 0
  · refine ⟨0, ?_⟩
    simp only [laws_FnExactPlaceOf.f, laws_szLeaseS.f]
    rw [if_pos h]
    rfl
  · have hn := len_of_guard h hl
    have hm : (l.map cv).length ≤ 1048576 := by simpa using hn
    refine ev_some (r := true) ?_
    have e : (fun k => laws_FnExactPlaceOf.f k l p) = fun k => ((laws_toLeaseS.f k l).bind fun t121 => ((spec_PlaceOf.f k t121 p).bind fun t124 => ((laws_toLeaseS.f k l).bind fun t125 => ((impl_PlaceOf.f k t125 p).bind fun t128 => (if t128 = t124 then ((laws_toLeaseS.f k l).bind fun t129 => ((laws_eqLeaseS.f k t125 t129).bind fun t132 => (if t132 = true then (some true) else (some false)))) else (some false)))))) := by
      funext k
      simp only [laws_FnExactPlaceOf.f, laws_szLeaseS.f]
      rw [if_neg h]
      simp only [Option.bind_some]
      rw [if_neg h]
    rw [e]
    refine ev_bind (to_ev l hn) (ev_bind (spec_ev _ p hm) (ev_bind (to_ev l hn) (ev_bind (impl_ev _ p hm) ?_)))
    simp only [if_true]
    refine ev_bind (to_ev l hn) (ev_bind (eq_ev _ hm) ?_)
    simp only [if_true]
    exact ev_const
end Go.Proofs.Ytgikbhkbgfppoaa.PFnExactPlaceOf
