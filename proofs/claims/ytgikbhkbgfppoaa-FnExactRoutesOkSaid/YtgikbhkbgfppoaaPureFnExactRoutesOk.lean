/- The pure statement of FnExactRoutesOk: over numbers and lists alone. -/
import Derived.Test.YtgikbhkbgfppoaaOpnFnExactRoutesOk
import Derived.Test.YtgikbhkbgfppoaaGen
namespace Go.Proofs.Ytgikbhkbgfppoaa.PFnExactRoutesOk
open Go.RowKit Go.Proofs.YtgikbhkbgfppoaaW.PrintWords Go.Proofs.YtgikbhkbgfppoaaW.PrintLast Go.Proofs.YtgikbhkbgfppoaaW.PrintMore Go.Proofs.Ytgikbhkbgfppoaa.Gen
set_option linter.unusedVariables false

def cv (x : S29) : S31 := ⟨x.f0, x.f1, x.f2⟩
theorem to_ev (l : List S29) (hn : l.length ≤ 1048576) : Ev (fun k => laws_toRouteS.f k l) (l.map cv) := by
  have e : (fun k => laws_toRouteS.f k l) = fun k => laws_toRouteS.l0 k l (List.replicate l.length z31) 0 := by
    funext k
    unfold laws_toRouteS.f
    rw [if_pos (by omega), if_pos (by omega)]
    rfl
  rw [e]
  refine fill_loop l z31 z29 cv (fun k x i => laws_toRouteS.l0 k l x i) (fun k x j hj hx => ?_) (fun k x => ?_) hn
  · simp only [laws_toRouteS.l0]
    rw [if_pos (by omega), if_pos (by omega)]
    simp only [laws_toRoute.f, Option.bind_some]
    rw [if_pos (by omega)]
    rfl
  · simp only [laws_toRouteS.l0]
    rw [if_neg (by omega)]
theorem eq_one (x : S31) : laws_eqRoute.f x.f0 x.f1 x.f2 x.f0 x.f1 x.f2 = some true := by simp [laws_eqRoute.f]
theorem eq_ev (l : List S31) (hn : l.length ≤ 1048576) : Ev (fun k => laws_eqRouteS.f k l l) true := by
  have e : (fun k => laws_eqRouteS.f k l l) = fun k => laws_eqRouteS.l0 k l l 0 := by
    funext k
    unfold laws_eqRouteS.f
    rw [if_pos rfl]
  rw [e]
  refine all_loop l.length true (fun k i => laws_eqRouteS.l0 k l l i) (fun k j hj => ?_) (fun k => ?_) hn
  · simp only [laws_eqRouteS.l0]
    rw [if_pos (by omega), if_pos (by omega), if_pos (by omega), eq_one]
    simp only [Option.bind_some, if_true]
  · simp only [laws_eqRouteS.l0]
    rw [if_neg (by omega)]

theorem in_eq (a b c : Int) : spec_l01In.f a b c = some (decide (b ≤ a ∧ a ≤ c)) := by
  unfold spec_l01In.f
  by_cases h : a ≥ b
  · rw [if_pos h]; congr 1; simp [show b ≤ a from h]
  · rw [if_neg h]; congr 1; simp [show ¬ b ≤ a from h]
theorem in_eq' (a b c : Int) : impl_within.f a b c = some (decide (b ≤ a ∧ a ≤ c)) := in_eq a b c
theorem succ {j : Nat} (hn : j ≤ 1048576) : wrap64 ((j : Int) + 1) = ((j + 1 : Nat) : Int) := by unfold wrap64; omega

/-- The amounts of a turn: of bits in 0 .. 8. -/
theorem amount {b : Int} (h : 0 ≤ b ∧ b ≤ 8) : wrap64 (8 - b) = 8 - b ∧ IntKind.u64.wrap (8 - b) = 8 - b ∧ 0 ≤ 8 - b ∧ shl .i64 1 (8 - b) ≠ 0 := by
  have : b = 0 ∨ b = 1 ∨ b = 2 ∨ b = 3 ∨ b = 4 ∨ b = 5 ∨ b = 6 ∨ b = 7 ∨ b = 8 := by omega
  rcases this with rfl | rfl | rfl | rfl | rfl | rfl | rfl | rfl | rfl <;> decide +kernel
/-- Is the element at a place right by itself? -/
def okA (l : List S31) (j : Nat) : Bool := decide (0 ≤ (l.getD j z31).f1 ∧ (l.getD j z31).f1 ≤ 8) && (decide (0 ≤ (l.getD j z31).f0 ∧ (l.getD j z31).f0 ≤ 255) && (decide (0 ≤ (l.getD j z31).f2 ∧ (l.getD j z31).f2 ≤ 9) && !(Int.tmod (l.getD j z31).f0 (shl .i64 1 (8 - (l.getD j z31).f1)) != 0)))
/-- Is there one alike ahead of it, from m on? -/
def dup (l : List S31) (j : Nat) : Nat → Nat → Bool
  | 0, _ => false
  | d + 1, m => if (l.getD m z31).f0 = (l.getD j z31).f0 then (if (l.getD m z31).f1 = (l.getD j z31).f1 then true else dup l j d (m + 1)) else dup l j d (m + 1)
def tell (l : List S31) : Nat → Nat → Bool
  | 0, _ => decide ((l.length : Int) ≤ 8)
  | d + 1, j => if okA l j = true then (if dup l j j 0 = true then false else tell l d (j + 1)) else false

theorem take_at (l : List S31) (j m : Nat) (h : m < j) : (l.take j).getD m z31 = l.getD m z31 := by simp [List.getD, List.getElem?_take_of_lt h]

theorem spec_ev' (l : List S31) (hn : l.length ≤ 1048576) : ∀ (d j : Nat), j + d = l.length → Ev (fun k => spec_RoutesOk.l0 k l (j : Int)) (tell l d j) := by
  intro d
  induction d with
  | zero =>
    intro j hj
    refine ev_to (f := fun _ => some (decide ((l.length : Int) ≤ 8))) ev_const (fun k => ?_)
    simp only [spec_RoutesOk.l0]
    rw [if_neg (by omega)]
  | succ d ih =>
    intro j hj
    have hlt : j < l.length := by omega
    have hlen : (l.take j).length = j := by rw [List.length_take]; omega
    have inner : ∀ (e m : Nat), m + e = j → Ev (fun k => spec_RoutesOk.l1 k l (j : Int) (m : Int) ((rd_T31 l (j : Int)).f0) ((rd_T31 l (j : Int)).f1) ((rd_T31 l (j : Int)).f2)) (if dup l j e m = true then false else tell l d (j + 1)) := by
      intro e
      induction e with
      | zero =>
        intro m hm
        simp only [dup, Bool.false_eq_true, if_false]
        refine ev_to (ih (j + 1) (by omega)) (fun k => ?_)
        simp only [spec_RoutesOk.l1]
        rw [if_neg (by omega), succ (by omega)]
      | succ e ih2 =>
        intro m hm
        by_cases hc : (l.getD m z31).f0 = (l.getD j z31).f0
        · by_cases hd : (l.getD m z31).f1 = (l.getD j z31).f1
          · simp only [dup, if_pos hc, if_pos hd, if_true]
            refine ev_to (f := fun _ => some false) ev_const (fun k => ?_)
            simp only [spec_RoutesOk.l1]
            rw [if_pos (by omega), if_pos (by omega), if_pos (by omega), if_pos (show (rd_T31 l (m : Int)).f0 = (rd_T31 l (j : Int)).f0 from hc), if_pos (show (rd_T31 l (m : Int)).f1 = (rd_T31 l (j : Int)).f1 from hd)]
          · simp only [dup, if_pos hc, if_neg hd]
            refine ev_to (ih2 (m + 1) (by omega)) (fun k => ?_)
            simp only [spec_RoutesOk.l1]
            rw [if_pos (by omega), if_pos (by omega), if_pos (by omega), if_pos (show (rd_T31 l (m : Int)).f0 = (rd_T31 l (j : Int)).f0 from hc), if_neg (show ¬ (rd_T31 l (m : Int)).f1 = (rd_T31 l (j : Int)).f1 from hd), succ (by omega)]
        · simp only [dup, if_neg hc]
          refine ev_to (ih2 (m + 1) (by omega)) (fun k => ?_)
          simp only [spec_RoutesOk.l1]
          rw [if_pos (by omega), if_pos (by omega), if_pos (by omega), if_neg (show ¬ (rd_T31 l (m : Int)).f0 = (rd_T31 l (j : Int)).f0 from hc), succ (by omega)]
    have j1 : ∀ b : Bool, Ev (fun k => spec_RoutesOk.j1 k l (j : Int) b ((rd_T31 l (j : Int)).f0) ((rd_T31 l (j : Int)).f1) ((rd_T31 l (j : Int)).f2)) (if b = true then false else if dup l j j 0 = true then false else tell l d (j + 1)) := by
      intro b
      cases b with
      | true => exact ev_to (f := fun _ => some false) ev_const (fun k => by simp [spec_RoutesOk.j1])
      | false =>
        refine ev_to (inner j 0 (by omega)) (fun k => ?_)
        simp only [spec_RoutesOk.j1, Bool.false_eq_true, if_false]
        rfl
    have go : ∀ b : Bool, okA l j = !b → Ev (fun k => spec_RoutesOk.j1 k l (j : Int) b ((rd_T31 l (j : Int)).f0) ((rd_T31 l (j : Int)).f1) ((rd_T31 l (j : Int)).f2)) (tell l (d + 1) j) := by
      intro b hb
      have := j1 b
      simp only [tell, hb]
      cases b <;> simpa using this
    by_cases hr : decide (0 ≤ (l.getD j z31).f1 ∧ (l.getD j z31).f1 ≤ 8) = true
    · by_cases hr2 : decide (0 ≤ (l.getD j z31).f0 ∧ (l.getD j z31).f0 ≤ 255) = true
      · by_cases hr3 : decide (0 ≤ (l.getD j z31).f2 ∧ (l.getD j z31).f2 ≤ 9) = true
        · obtain ⟨a1, a2, a3, a4⟩ := amount (of_decide_eq_true hr)
          refine ev_to (go (Int.tmod (l.getD j z31).f0 (shl .i64 1 (8 - (l.getD j z31).f1)) != 0) (by unfold okA; rw [hr, hr2, hr3]; rfl)) (fun k => ?_)
          simp only [spec_RoutesOk.l0, in_eq]
          rw [if_pos (by omega), if_pos (by omega)]
          simp only [Option.bind_some]
          rw [if_pos (show decide (0 ≤ (rd_T31 l (j : Int)).f1 ∧ (rd_T31 l (j : Int)).f1 ≤ 8) = true from hr), if_pos (show decide (0 ≤ (rd_T31 l (j : Int)).f0 ∧ (rd_T31 l (j : Int)).f0 ≤ 255) = true from hr2), if_pos (show decide (0 ≤ (rd_T31 l (j : Int)).f2 ∧ (rd_T31 l (j : Int)).f2 ≤ 9) = true from hr3)]
          rw [show wrap64 (8 - (rd_T31 l (j : Int)).f1) = 8 - (rd_T31 l (j : Int)).f1 from a1, show IntKind.u64.wrap (8 - (rd_T31 l (j : Int)).f1) = 8 - (rd_T31 l (j : Int)).f1 from a2, if_pos (show (0 : Int) ≤ 8 - (rd_T31 l (j : Int)).f1 from a3), if_neg (show ¬ shl .i64 1 (8 - (rd_T31 l (j : Int)).f1) = 0 from a4)]
          rfl
        · refine ev_to (go true (by unfold okA; rw [Bool.eq_false_iff.mpr hr3]; simp)) (fun k => ?_)
          simp only [spec_RoutesOk.l0, in_eq]
          rw [if_pos (by omega), if_pos (by omega)]
          simp only [Option.bind_some]
          rw [if_pos (show decide (0 ≤ (rd_T31 l (j : Int)).f1 ∧ (rd_T31 l (j : Int)).f1 ≤ 8) = true from hr), if_pos (show decide (0 ≤ (rd_T31 l (j : Int)).f0 ∧ (rd_T31 l (j : Int)).f0 ≤ 255) = true from hr2), if_neg (show ¬ decide (0 ≤ (rd_T31 l (j : Int)).f2 ∧ (rd_T31 l (j : Int)).f2 ≤ 9) = true from hr3)]
      · refine ev_to (go true (by unfold okA; rw [Bool.eq_false_iff.mpr hr2]; simp)) (fun k => ?_)
        simp only [spec_RoutesOk.l0, in_eq]
        rw [if_pos (by omega), if_pos (by omega)]
        simp only [Option.bind_some]
        rw [if_pos (show decide (0 ≤ (rd_T31 l (j : Int)).f1 ∧ (rd_T31 l (j : Int)).f1 ≤ 8) = true from hr), if_neg (show ¬ decide (0 ≤ (rd_T31 l (j : Int)).f0 ∧ (rd_T31 l (j : Int)).f0 ≤ 255) = true from hr2)]
    · refine ev_to (go true (by unfold okA; rw [Bool.eq_false_iff.mpr hr]; rfl)) (fun k => ?_)
      simp only [spec_RoutesOk.l0, in_eq]
      rw [if_pos (by omega), if_pos (by omega)]
      simp only [Option.bind_some]
      rw [if_neg (show ¬ decide (0 ≤ (rd_T31 l (j : Int)).f1 ∧ (rd_T31 l (j : Int)).f1 ≤ 8) = true from hr)]
theorem spec_ev (l : List S31) (hn : l.length ≤ 1048576) : Ev (fun k => spec_RoutesOk.f k l) (tell l l.length 0) := spec_ev' l hn l.length 0 (by omega)

theorem impl_ev' (l : List S31) (hn : l.length ≤ 1048576) : ∀ (d j : Nat), j + d = l.length → Ev (fun k => impl_RoutesOk.l0 k l l (l.length : Int) (j : Int)) (tell l d j) := by
  intro d
  induction d with
  | zero =>
    intro j hj
    refine ev_to (f := fun _ => some (decide ((l.length : Int) ≤ 8))) ev_const (fun k => ?_)
    simp only [impl_RoutesOk.l0]
    rw [if_neg (by omega)]
  | succ d ih =>
    intro j hj
    have hlt : j < l.length := by omega
    have hlen : (l.take j).length = j := by rw [List.length_take]; omega
    have inner : ∀ (e m : Nat), m + e = j → Ev (fun k => impl_RoutesOk.l1 k l l (l.length : Int) (j : Int) (l.take j) ((l.take j).length : Int) (m : Int) ((rd_T31 l (j : Int)).f0) ((rd_T31 l (j : Int)).f1) ((rd_T31 l (j : Int)).f2)) (if dup l j e m = true then false else tell l d (j + 1)) := by
      intro e
      induction e with
      | zero =>
        intro m hm
        simp only [dup, Bool.false_eq_true, if_false]
        refine ev_to (ih (j + 1) (by omega)) (fun k => ?_)
        simp only [impl_RoutesOk.l1]
        rw [if_neg (by omega), succ (by omega)]
      | succ e ih2 =>
        intro m hm
        have ht : rd_T31 (l.take j) (m : Int) = rd_T31 l (m : Int) := take_at l j m (by omega)
        by_cases hc : (l.getD m z31).f0 = (l.getD j z31).f0
        · by_cases hd : (l.getD m z31).f1 = (l.getD j z31).f1
          · simp only [dup, if_pos hc, if_pos hd, if_true]
            refine ev_to (f := fun _ => some false) ev_const (fun k => ?_)
            simp only [impl_RoutesOk.l1]
            rw [if_pos (by omega), if_pos (by omega), if_pos (by omega), ht, if_pos (show (rd_T31 l (m : Int)).f0 = (rd_T31 l (j : Int)).f0 from hc), if_pos (show (rd_T31 l (m : Int)).f1 = (rd_T31 l (j : Int)).f1 from hd)]
          · simp only [dup, if_pos hc, if_neg hd]
            refine ev_to (ih2 (m + 1) (by omega)) (fun k => ?_)
            simp only [impl_RoutesOk.l1]
            rw [if_pos (by omega), if_pos (by omega), if_pos (by omega), ht, if_pos (show (rd_T31 l (m : Int)).f0 = (rd_T31 l (j : Int)).f0 from hc), if_neg (show ¬ (rd_T31 l (m : Int)).f1 = (rd_T31 l (j : Int)).f1 from hd), succ (by omega)]
        · simp only [dup, if_neg hc]
          refine ev_to (ih2 (m + 1) (by omega)) (fun k => ?_)
          simp only [impl_RoutesOk.l1]
          rw [if_pos (by omega), if_pos (by omega), if_pos (by omega), ht, if_neg (show ¬ (rd_T31 l (m : Int)).f0 = (rd_T31 l (j : Int)).f0 from hc), succ (by omega)]
    have j1 : ∀ b : Bool, Ev (fun k => impl_RoutesOk.j1 k l (j : Int) l (l.length : Int) (j : Int) b ((rd_T31 l (j : Int)).f0) ((rd_T31 l (j : Int)).f1) ((rd_T31 l (j : Int)).f2)) (if b = true then false else if dup l j j 0 = true then false else tell l d (j + 1)) := by
      intro b
      cases b with
      | true => exact ev_to (f := fun _ => some false) ev_const (fun k => by simp [impl_RoutesOk.j1])
      | false =>
        refine ev_to (inner j 0 (by omega)) (fun k => ?_)
        simp only [impl_RoutesOk.j1, Bool.false_eq_true, if_false]
        rw [if_pos (by omega), if_pos (by omega)]
        rfl
    have go : ∀ b : Bool, okA l j = !b → Ev (fun k => impl_RoutesOk.j1 k l (j : Int) l (l.length : Int) (j : Int) b ((rd_T31 l (j : Int)).f0) ((rd_T31 l (j : Int)).f1) ((rd_T31 l (j : Int)).f2)) (tell l (d + 1) j) := by
      intro b hb
      have := j1 b
      simp only [tell, hb]
      cases b <;> simpa using this
    by_cases hr : decide (0 ≤ (l.getD j z31).f1 ∧ (l.getD j z31).f1 ≤ 8) = true
    · by_cases hr2 : decide (0 ≤ (l.getD j z31).f0 ∧ (l.getD j z31).f0 ≤ 255) = true
      · by_cases hr3 : decide (0 ≤ (l.getD j z31).f2 ∧ (l.getD j z31).f2 ≤ 9) = true
        · obtain ⟨a1, a2, a3, a4⟩ := amount (of_decide_eq_true hr)
          refine ev_to (go (Int.tmod (l.getD j z31).f0 (shl .i64 1 (8 - (l.getD j z31).f1)) != 0) (by unfold okA; rw [hr, hr2, hr3]; rfl)) (fun k => ?_)
          simp only [impl_RoutesOk.l0, in_eq']
          rw [if_pos (by omega), if_pos (by omega), if_pos (by omega)]
          simp only [Option.bind_some]
          rw [if_pos (show decide (0 ≤ (rd_T31 l (j : Int)).f1 ∧ (rd_T31 l (j : Int)).f1 ≤ 8) = true from hr), if_pos (show decide (0 ≤ (rd_T31 l (j : Int)).f0 ∧ (rd_T31 l (j : Int)).f0 ≤ 255) = true from hr2), if_pos (show decide (0 ≤ (rd_T31 l (j : Int)).f2 ∧ (rd_T31 l (j : Int)).f2 ≤ 9) = true from hr3)]
          rw [show wrap64 (8 - (rd_T31 l (j : Int)).f1) = 8 - (rd_T31 l (j : Int)).f1 from a1, if_pos (show (0 : Int) ≤ 8 - (rd_T31 l (j : Int)).f1 from a3), if_neg (show ¬ shl .i64 1 (8 - (rd_T31 l (j : Int)).f1) = 0 from a4)]
          rfl
        · refine ev_to (go true (by unfold okA; rw [Bool.eq_false_iff.mpr hr3]; simp)) (fun k => ?_)
          simp only [impl_RoutesOk.l0, in_eq']
          rw [if_pos (by omega), if_pos (by omega), if_pos (by omega)]
          simp only [Option.bind_some]
          rw [if_pos (show decide (0 ≤ (rd_T31 l (j : Int)).f1 ∧ (rd_T31 l (j : Int)).f1 ≤ 8) = true from hr), if_pos (show decide (0 ≤ (rd_T31 l (j : Int)).f0 ∧ (rd_T31 l (j : Int)).f0 ≤ 255) = true from hr2), if_neg (show ¬ decide (0 ≤ (rd_T31 l (j : Int)).f2 ∧ (rd_T31 l (j : Int)).f2 ≤ 9) = true from hr3)]
      · refine ev_to (go true (by unfold okA; rw [Bool.eq_false_iff.mpr hr2]; simp)) (fun k => ?_)
        simp only [impl_RoutesOk.l0, in_eq']
        rw [if_pos (by omega), if_pos (by omega), if_pos (by omega)]
        simp only [Option.bind_some]
        rw [if_pos (show decide (0 ≤ (rd_T31 l (j : Int)).f1 ∧ (rd_T31 l (j : Int)).f1 ≤ 8) = true from hr), if_neg (show ¬ decide (0 ≤ (rd_T31 l (j : Int)).f0 ∧ (rd_T31 l (j : Int)).f0 ≤ 255) = true from hr2)]
    · refine ev_to (go true (by unfold okA; rw [Bool.eq_false_iff.mpr hr]; rfl)) (fun k => ?_)
      simp only [impl_RoutesOk.l0, in_eq']
      rw [if_pos (by omega), if_pos (by omega), if_pos (by omega)]
      simp only [Option.bind_some]
      rw [if_neg (show ¬ decide (0 ≤ (rd_T31 l (j : Int)).f1 ∧ (rd_T31 l (j : Int)).f1 ≤ 8) = true from hr)]
theorem impl_ev (l : List S31) (hn : l.length ≤ 1048576) : Ev (fun k => impl_RoutesOk.f k l) (tell l l.length 0) := impl_ev' l hn l.length 0 (by omega)

theorem said : Said := by
  intro l _ hl
  by_cases h : wrap64 (1048576 - (l.length : Int)) < 0
  · refine ⟨0, ?_⟩
    simp only [laws_FnExactRoutesOk.f, laws_szRouteS.f]
    rw [if_pos h]
    rfl
  · have hn := len_of_guard h hl
    have hm : (l.map cv).length ≤ 1048576 := by simpa using hn
    refine ev_some (r := true) ?_
    have e : (fun k => laws_FnExactRoutesOk.f k l) = fun k => ((laws_toRouteS.f k l).bind fun t133 => ((spec_RoutesOk.f k t133).bind fun t136 => ((laws_toRouteS.f k l).bind fun t137 => ((impl_RoutesOk.f k t137).bind fun t140 => (if (t140 != t136) = true then (some false) else ((laws_toRouteS.f k l).bind fun t141 => ((laws_eqRouteS.f k t137 t141).bind fun t144 => (if t144 = true then (some true) else (some false))))))))) := by
      funext k
      simp only [laws_FnExactRoutesOk.f, laws_szRouteS.f]
      rw [if_neg h]
      simp only [Option.bind_some]
      rw [if_neg h]
    rw [e]
    refine ev_bind (to_ev l hn) (ev_bind (spec_ev _ hm) (ev_bind (to_ev l hn) (ev_bind (impl_ev _ hm) ?_)))
    simp only [bne_self_eq_false, Bool.false_eq_true, if_false]
    refine ev_bind (to_ev l hn) (ev_bind (eq_ev _ hm) ?_)
    simp only [if_true]
    exact ev_const
end Go.Proofs.Ytgikbhkbgfppoaa.PFnExactRoutesOk
