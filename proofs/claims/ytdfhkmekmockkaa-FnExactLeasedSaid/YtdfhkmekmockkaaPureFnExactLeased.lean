/- The pure statement of FnExactLeased: over numbers and lists alone. -/
import Derived.Test.YtdfhkmekmockkaaOpnFnExactLeased
import Derived.Test.YtdfhkmekmockkaaGen
namespace Go.Proofs.Ytdfhkmekmockkaa.PFnExactLeased
open Go.RowKit Go.Proofs.YtdfhkmekmockkaaW.PrintWords Go.Proofs.YtdfhkmekmockkaaW.PrintLast Go.Proofs.YtdfhkmekmockkaaW.PrintMore Go.Proofs.Ytdfhkmekmockkaa.Gen
set_option linter.unusedVariables false
set_option linter.unusedSimpArgs false

def cv (x : S111) : S109 := ⟨x.f0, x.f1⟩
theorem to_ev (l : List S111) (hn : l.length ≤ 1048576) : Ev (fun k => laws_toLeaseS.f k l) (l.map cv) := by
  have e : (fun k => laws_toLeaseS.f k l) = fun k => laws_toLeaseS.l0 k l (List.replicate l.length z109) 0 := by
    funext k
    unfold laws_toLeaseS.f
    rw [if_pos (by omega), if_pos (by omega)]
    rfl
  rw [e]
  refine fill_loop l z109 z111 cv (fun k x i => laws_toLeaseS.l0 k l x i) (fun k x j hj hx => ?_) (fun k x => ?_) hn
  · simp only [laws_toLeaseS.l0]
    rw [if_pos (by omega), if_pos (by omega)]
    simp only [laws_toLease.f, Option.bind_some]
    rw [if_pos (by omega)]
    rfl
  · simp only [laws_toLeaseS.l0]
    rw [if_neg (by omega)]
theorem eq_one (x : S109) : laws_eqLease.f x.f0 x.f1 x.f0 x.f1 = some true := by simp [laws_eqLease.f]
theorem eq_ev (l : List S109) (hn : l.length ≤ 1048576) : Ev (fun k => laws_eqLeaseS.f k l l) true := by
  have e : (fun k => laws_eqLeaseS.f k l l) = fun k => laws_eqLeaseS.l0 k l l 0 := by
    funext k
    unfold laws_eqLeaseS.f
    rw [if_pos rfl]
  rw [e]
  refine all_loop l.length true (fun k i => laws_eqLeaseS.l0 k l l i) (fun k j hj => ?_) (fun k => ?_) hn
  · simp only [laws_eqLeaseS.l0]
    rw [if_pos (by omega), if_pos (by omega), if_pos (by omega), eq_one]
    simp only [Option.bind_some, if_true]
  · simp only [laws_eqLeaseS.l0]
    rw [if_neg (by omega)]

theorem in_eq (a b c : Int) : spec_l01In.f a b c = some (decide (b ≤ a ∧ a ≤ c)) := by
  unfold spec_l01In.f
  by_cases h : a ≥ b
  · rw [if_pos h]; congr 1; simp [show b ≤ a from h]
  · rw [if_neg h]; congr 1; simp [show ¬ b ≤ a from h]
theorem in_eq' (a b c : Int) : impl_within.f a b c = some (decide (b ≤ a ∧ a ≤ c)) := in_eq a b c
theorem pred {j : Nat} (h : 0 < j) (hn : j ≤ 1048576) : wrap64 ((j : Int) - 1) = ((j - 1 : Nat) : Int) := by unfold wrap64; omega
theorem succ {j : Nat} (hn : j ≤ 1048576) : wrap64 ((j : Int) + 1) = ((j + 1 : Nat) : Int) := by unfold wrap64; omega

/-- Is the element at a place right by itself, and beside the one ahead? -/
def okA (l : List S109) (j : Nat) : Bool := (decide (10 ≤ (l.getD j z109).f0 ∧ (l.getD j z109).f0 ≤ 12)) && !(decide (0 < j) && decide ((l.getD (j - 1) z109).f0 ≥ (l.getD j z109).f0))
/-- Is there one alike ahead of it, from m on? -/
def dup (l : List S109) (j : Nat) : Nat → Nat → Bool
  | 0, _ => false
  | d + 1, m => if (l.getD m z109).f1 = (l.getD j z109).f1 then true else dup l j d (m + 1)
def tell (l : List S109) : Nat → Nat → Bool
  | 0, _ => decide ((l.length : Int) ≤ 3)
  | d + 1, j => if okA l j = true then (if dup l j j 0 = true then false else tell l d (j + 1)) else false

theorem spec_ev' (l : List S109) (hn : l.length ≤ 1048576) : ∀ (d j : Nat), j + d = l.length → Ev (fun k => spec_PoolOk.l0 k l (j : Int)) (tell l d j) := by
  intro d
  induction d with
  | zero =>
    intro j hj
    refine ev_to (f := fun _ => some (decide ((l.length : Int) ≤ 3))) ev_const (fun k => ?_)
    simp only [spec_PoolOk.l0]
    rw [if_neg (by omega)]
  | succ d ih =>
    intro j hj
    have hlt : j < l.length := by omega
    have inner : ∀ (e m : Nat), m + e = j → Ev (fun k => spec_PoolOk.l1 k l (j : Int) (m : Int)) (if dup l j e m = true then false else tell l d (j + 1)) := by
      intro e
      induction e with
      | zero =>
        intro m hm
        simp only [dup, Bool.false_eq_true, if_false]
        refine ev_to (ih (j + 1) (by omega)) (fun k => ?_)
        simp only [spec_PoolOk.l1]
        rw [if_neg (by omega), succ (by omega)]
      | succ e ih2 =>
        intro m hm
        by_cases hc : (l.getD m z109).f1 = (l.getD j z109).f1
        · simp only [dup, if_pos hc, if_true]
          refine ev_to (f := fun _ => some false) ev_const (fun k => ?_)
          simp only [spec_PoolOk.l1]
          rw [if_pos (by omega), if_pos (by omega), if_pos (by omega), if_pos (by omega), if_pos (by omega), if_pos (show (rd_T109 l (m : Int)).f1 = (rd_T109 l (j : Int)).f1 from hc)]
        · simp only [dup, if_neg hc]
          refine ev_to (ih2 (m + 1) (by omega)) (fun k => ?_)
          simp only [spec_PoolOk.l1]
          rw [if_pos (by omega), if_pos (by omega), if_pos (by omega), if_pos (by omega), if_pos (by omega), if_neg (show ¬ (rd_T109 l (m : Int)).f1 = (rd_T109 l (j : Int)).f1 from hc), succ (by omega)]
    have j1 : ∀ b : Bool, Ev (fun k => spec_PoolOk.j1 k l (j : Int) b) (if b = true then false else if dup l j j 0 = true then false else tell l d (j + 1)) := by
      intro b
      cases b with
      | true => exact ev_to (f := fun _ => some false) ev_const (fun k => by simp [spec_PoolOk.j1])
      | false => exact ev_to (inner j 0 (by omega)) (fun k => by simp [spec_PoolOk.j1])
    have go : ∀ b : Bool, okA l j = !b → Ev (fun k => spec_PoolOk.j1 k l (j : Int) b) (tell l (d + 1) j) := by
      intro b hb
      have := j1 b
      simp only [tell, hb]
      cases b <;> simpa using this
    by_cases hr : decide (10 ≤ (l.getD j z109).f0 ∧ (l.getD j z109).f0 ≤ 12) = true
    · by_cases h0 : 0 < j
      · refine ev_to (go (decide ((l.getD (j - 1) z109).f0 ≥ (l.getD j z109).f0)) (by unfold okA; rw [hr]; simp [h0])) (fun k => ?_)
        simp only [spec_PoolOk.l0, in_eq]
        rw [if_pos (by omega), if_pos (by omega)]
        simp only [Option.bind_some]
        rw [if_pos (show decide (10 ≤ (rd_T109 l (j : Int)).f0 ∧ (rd_T109 l (j : Int)).f0 ≤ 12) = true from hr), if_pos (by omega), pred h0 (by omega), if_pos (by omega), if_pos (by omega)]
        rfl
      · refine ev_to (go false (by unfold okA; rw [hr]; simp [h0])) (fun k => ?_)
        simp only [spec_PoolOk.l0, in_eq]
        rw [if_pos (by omega), if_pos (by omega)]
        simp only [Option.bind_some]
        rw [if_pos (show decide (10 ≤ (rd_T109 l (j : Int)).f0 ∧ (rd_T109 l (j : Int)).f0 ≤ 12) = true from hr), if_neg (by omega)]
    · refine ev_to (go true (by unfold okA; rw [Bool.eq_false_iff.mpr hr]; rfl)) (fun k => ?_)
      simp only [spec_PoolOk.l0, in_eq]
      rw [if_pos (by omega), if_pos (by omega)]
      simp only [Option.bind_some]
      rw [if_neg (show ¬ decide (10 ≤ (rd_T109 l (j : Int)).f0 ∧ (rd_T109 l (j : Int)).f0 ≤ 12) = true from hr)]
theorem spec_ev (l : List S109) (hn : l.length ≤ 1048576) : Ev (fun k => spec_PoolOk.f k l) (tell l l.length 0) := spec_ev' l hn l.length 0 (by omega)

theorem take_at (l : List S109) (j m : Nat) (h : m < j) : (l.take j).getD m z109 = l.getD m z109 := by simp [List.getD, List.getElem?_take_of_lt h]
theorem impl_ev' (l : List S109) (hn : l.length ≤ 1048576) : ∀ (d j : Nat), j + d = l.length → Ev (fun k => impl_PoolOk.l0 k l l (l.length : Int) (j : Int)) (tell l d j) := by
  intro d
  induction d with
  | zero =>
    intro j hj
    refine ev_to (f := fun _ => some (decide ((l.length : Int) ≤ 3))) ev_const (fun k => ?_)
    simp only [impl_PoolOk.l0]
    rw [if_neg (by omega)]
  | succ d ih =>
    intro j hj
    have hlt : j < l.length := by omega
    have hlen : (l.take j).length = j := by rw [List.length_take]; omega
    have inner : ∀ (e m : Nat), m + e = j → Ev (fun k => impl_PoolOk.l1 k l l (l.length : Int) (j : Int) (l.take j) ((l.take j).length : Int) (m : Int) ((rd_T109 l (j : Int)).f0) ((rd_T109 l (j : Int)).f1)) (if dup l j e m = true then false else tell l d (j + 1)) := by
      intro e
      induction e with
      | zero =>
        intro m hm
        simp only [dup, Bool.false_eq_true, if_false]
        refine ev_to (ih (j + 1) (by omega)) (fun k => ?_)
        simp only [impl_PoolOk.l1]
        rw [if_neg (by omega), succ (by omega)]
      | succ e ih2 =>
        intro m hm
        have ht : rd_T109 (l.take j) (m : Int) = l.getD m z109 := take_at l j m (by omega)
        by_cases hc : (l.getD m z109).f1 = (l.getD j z109).f1
        · simp only [dup, if_pos hc, if_true]
          refine ev_to (f := fun _ => some false) ev_const (fun k => ?_)
          simp only [impl_PoolOk.l1]
          rw [if_pos (by omega), if_pos (by omega), if_pos (by omega), ht, if_pos (show (l.getD m z109).f1 = (rd_T109 l (j : Int)).f1 from hc)]
        · simp only [dup, if_neg hc]
          refine ev_to (ih2 (m + 1) (by omega)) (fun k => ?_)
          simp only [impl_PoolOk.l1]
          rw [if_pos (by omega), if_pos (by omega), if_pos (by omega), ht, if_neg (show ¬ (l.getD m z109).f1 = (rd_T109 l (j : Int)).f1 from hc), succ (by omega)]
    have j1 : ∀ b : Bool, Ev (fun k => impl_PoolOk.j1 k l (j : Int) l (l.length : Int) (j : Int) b ((rd_T109 l (j : Int)).f0) ((rd_T109 l (j : Int)).f1)) (if b = true then false else if dup l j j 0 = true then false else tell l d (j + 1)) := by
      intro b
      cases b with
      | true => exact ev_to (f := fun _ => some false) ev_const (fun k => by simp [impl_PoolOk.j1])
      | false =>
        refine ev_to (inner j 0 (by omega)) (fun k => ?_)
        simp only [impl_PoolOk.j1, Bool.false_eq_true, if_false]
        rw [if_pos (by omega), if_pos (by omega)]
        rfl
    have go : ∀ b : Bool, okA l j = !b → Ev (fun k => impl_PoolOk.j1 k l (j : Int) l (l.length : Int) (j : Int) b ((rd_T109 l (j : Int)).f0) ((rd_T109 l (j : Int)).f1)) (tell l (d + 1) j) := by
      intro b hb
      have := j1 b
      simp only [tell, hb]
      cases b <;> simpa using this
    by_cases hr : decide (10 ≤ (l.getD j z109).f0 ∧ (l.getD j z109).f0 ≤ 12) = true
    · by_cases h0 : 0 < j
      · refine ev_to (go (decide ((l.getD (j - 1) z109).f0 ≥ (l.getD j z109).f0)) (by unfold okA; rw [hr]; simp [h0])) (fun k => ?_)
        simp only [impl_PoolOk.l0, in_eq']
        rw [if_pos (by omega), if_pos (by omega), if_pos (by omega)]
        simp only [Option.bind_some]
        rw [if_pos (show decide (10 ≤ (rd_T109 l (j : Int)).f0 ∧ (rd_T109 l (j : Int)).f0 ≤ 12) = true from hr), if_pos (by omega), pred h0 (by omega), if_pos (by omega), if_pos (by omega)]
        rfl
      · refine ev_to (go false (by unfold okA; rw [hr]; simp [h0])) (fun k => ?_)
        simp only [impl_PoolOk.l0, in_eq']
        rw [if_pos (by omega), if_pos (by omega), if_pos (by omega)]
        simp only [Option.bind_some]
        rw [if_pos (show decide (10 ≤ (rd_T109 l (j : Int)).f0 ∧ (rd_T109 l (j : Int)).f0 ≤ 12) = true from hr), if_neg (by omega)]
    · refine ev_to (go true (by unfold okA; rw [Bool.eq_false_iff.mpr hr]; rfl)) (fun k => ?_)
      simp only [impl_PoolOk.l0, in_eq']
      rw [if_pos (by omega), if_pos (by omega), if_pos (by omega)]
      simp only [Option.bind_some]
      rw [if_neg (show ¬ decide (10 ≤ (rd_T109 l (j : Int)).f0 ∧ (rd_T109 l (j : Int)).f0 ≤ 12) = true from hr)]
theorem impl_ev (l : List S109) (hn : l.length ≤ 1048576) : Ev (fun k => impl_PoolOk.f k l) (tell l l.length 0) := impl_ev' l hn l.length 0 (by omega)


def mk (c : Int) (x : S109) : S109 := ⟨c, wrap64 (c + 1)⟩
def adv (c : Int) : Int := wrap64 ((wrap64 (c + 1)) + 1)
theorem mark_ev (l : List S109) (c : Int) (hn : l.length ≤ 1048576) : Ev (fun k => laws_markLeaseS.f k l c) (count adv l.length c, marked mk adv l c) := by
  refine mark_loop z109 mk adv (fun k x c i => laws_markLeaseS.l0 k x c i) (fun k x c j hj => ?_) (fun k x c => ?_) l c hn
  · simp only [laws_markLeaseS.l0]
    rw [if_pos (by omega), if_pos (by omega)]
    simp only [Option.bind_some]
    show laws_markLeaseS.l0 k ((x.set j ⟨c, _⟩).set j ⟨((x.set j ⟨c, (x.getD j z109).f1⟩).getD j z109).f0, wrap64 (c + 1)⟩) _ _ = _
    have e : (x.set j (⟨c, (x.getD j z109).f1⟩ : S109)).getD j z109 = ⟨c, (x.getD j z109).f1⟩ := by simp [List.getD, hj]
    rw [e, List.set_set]
    rfl
  · simp only [laws_markLeaseS.l0]
    rw [if_neg (by omega)]
theorem held_ev (l : List S109) (c : Int) (hn : l.length ≤ 1048576) : Ev (fun k => laws_heldLeaseS.f k (marked mk adv l c) c) (count adv l.length c) := by
  obtain ⟨x, hx⟩ : ∃ x, x = marked mk adv l c := ⟨_, rfl⟩
  rw [← hx]
  refine held_loop z109 mk adv x (fun k c' i => laws_heldLeaseS.l0 k x c' i) (fun k c' => ?_) l c hx (fun k c' j y hj hg => ?_) hn
  · simp only [laws_heldLeaseS.l0]
    rw [if_neg (by omega)]
  · simp only [laws_heldLeaseS.l0]
    rw [if_pos (by omega), if_pos (by omega)]
    have e0 : (rd_T109 x (j : Int)) = mk c' y := hg
    rw [e0]
    simp only [mk, if_true]
    rfl
theorem count_eq (l : List S109) (hn : l.length ≤ 1048576) : count adv l.length 1 = 1 + (l.length : Int) * ((2 : Nat) : Int) :=
  count_add adv 2 (by omega) (fun c h0 h1 => by unfold adv wrap64; omega) l.length 1 (by omega) (by omega)

theorem ev_0 (p : Int) (hp : tell ([] : List S109) 0 0 = true) : ∃ r : List S109 × Int × Bool, r.1.length ≤ 4 ∧ Ev (fun k => spec_Leased.f k ([] : List S109) p) r ∧ Ev (fun k => impl_Leased.f k ([] : List S109) p) r := by
  have hs : Ev (fun k => spec_PoolOk.f k ([] : List S109)) true := by have h := spec_ev ([] : List S109) (by simp); rwa [show tell ([] : List S109) ([] : List S109).length 0 = true from hp] at h
  have hi : Ev (fun k => impl_PoolOk.f k ([] : List S109)) true := by have h := impl_ev ([] : List S109) (by simp); rwa [show tell ([] : List S109) ([] : List S109).length 0 = true from hp] at h
  obtain ⟨K1, hs⟩ := hs
  obtain ⟨K2, hi⟩ := hi
  refine ⟨([⟨10, p⟩], 10, true), by simp, ⟨K1 + 40, fun k hk => ?_⟩, ⟨K2 + 40, fun k hk => ?_⟩⟩
  · obtain ⟨m, rfl⟩ : ∃ m, k = m + 40 := ⟨k - 40, by omega⟩
    have h1 := hs (m + 40) (by omega)
    simp only [spec_Leased.f, Option.bind_some, h1]
    simp [spec_Leased.l0, spec_Leased.l1, spec_Leased.l2, wrap64, rd_T109, List.getD]
  · obtain ⟨m, rfl⟩ : ∃ m, k = m + 40 := ⟨k - 40, by omega⟩
    have h1 := hi (m + 40) (by omega)
    simp only [impl_Leased.f, impl_copyPool.f, Option.bind_some, h1]
    simp [impl_PlaceOf.f, impl_PlaceOf.l0, impl_Leased.l0, impl_copyPool.f, wrap64, rd_T109, List.getD]
theorem ev_1 (c0 : Int) (p : Int) (hp : tell ([⟨10, c0⟩] : List S109) 1 0 = true) : ∃ r : List S109 × Int × Bool, r.1.length ≤ 4 ∧ Ev (fun k => spec_Leased.f k ([⟨10, c0⟩] : List S109) p) r ∧ Ev (fun k => impl_Leased.f k ([⟨10, c0⟩] : List S109) p) r := by
  have hs : Ev (fun k => spec_PoolOk.f k ([⟨10, c0⟩] : List S109)) true := by have h := spec_ev ([⟨10, c0⟩] : List S109) (by simp); rwa [show tell ([⟨10, c0⟩] : List S109) ([⟨10, c0⟩] : List S109).length 0 = true from hp] at h
  have hi : Ev (fun k => impl_PoolOk.f k ([⟨10, c0⟩] : List S109)) true := by have h := impl_ev ([⟨10, c0⟩] : List S109) (by simp); rwa [show tell ([⟨10, c0⟩] : List S109) ([⟨10, c0⟩] : List S109).length 0 = true from hp] at h
  obtain ⟨K1, hs⟩ := hs
  obtain ⟨K2, hi⟩ := hi
  by_cases e0 : c0 = p
  · subst e0
    refine ⟨([⟨10, c0⟩], 10, true), by simp, ⟨K1 + 40, fun k hk => ?_⟩, ⟨K2 + 40, fun k hk => ?_⟩⟩
    · obtain ⟨m, rfl⟩ : ∃ m, k = m + 40 := ⟨k - 40, by omega⟩
      have h1 := hs (m + 40) (by omega)
      simp only [spec_Leased.f, Option.bind_some, h1]
      simp [spec_Leased.l0, spec_Leased.l1, spec_Leased.l2, wrap64, rd_T109, List.getD]
    · obtain ⟨m, rfl⟩ : ∃ m, k = m + 40 := ⟨k - 40, by omega⟩
      have h1 := hi (m + 40) (by omega)
      simp only [impl_Leased.f, impl_copyPool.f, Option.bind_some, h1]
      simp [impl_PlaceOf.f, impl_PlaceOf.l0, impl_Leased.l0, impl_copyPool.f, wrap64, rd_T109, List.getD]
  · skip
    refine ⟨([⟨10, c0⟩, ⟨11, p⟩], 11, true), by simp, ⟨K1 + 40, fun k hk => ?_⟩, ⟨K2 + 40, fun k hk => ?_⟩⟩
    · obtain ⟨m, rfl⟩ : ∃ m, k = m + 40 := ⟨k - 40, by omega⟩
      have h1 := hs (m + 40) (by omega)
      simp only [spec_Leased.f, Option.bind_some, h1]
      simp [spec_Leased.l0, spec_Leased.l1, spec_Leased.l2, wrap64, rd_T109, List.getD, e0]
    · obtain ⟨m, rfl⟩ : ∃ m, k = m + 40 := ⟨k - 40, by omega⟩
      have h1 := hi (m + 40) (by omega)
      simp only [impl_Leased.f, impl_copyPool.f, Option.bind_some, h1]
      simp [impl_PlaceOf.f, impl_PlaceOf.l0, impl_Leased.l0, impl_copyPool.f, wrap64, rd_T109, List.getD, e0]
theorem ev_2 (c0 : Int) (p : Int) (hp : tell ([⟨11, c0⟩] : List S109) 1 0 = true) : ∃ r : List S109 × Int × Bool, r.1.length ≤ 4 ∧ Ev (fun k => spec_Leased.f k ([⟨11, c0⟩] : List S109) p) r ∧ Ev (fun k => impl_Leased.f k ([⟨11, c0⟩] : List S109) p) r := by
  have hs : Ev (fun k => spec_PoolOk.f k ([⟨11, c0⟩] : List S109)) true := by have h := spec_ev ([⟨11, c0⟩] : List S109) (by simp); rwa [show tell ([⟨11, c0⟩] : List S109) ([⟨11, c0⟩] : List S109).length 0 = true from hp] at h
  have hi : Ev (fun k => impl_PoolOk.f k ([⟨11, c0⟩] : List S109)) true := by have h := impl_ev ([⟨11, c0⟩] : List S109) (by simp); rwa [show tell ([⟨11, c0⟩] : List S109) ([⟨11, c0⟩] : List S109).length 0 = true from hp] at h
  obtain ⟨K1, hs⟩ := hs
  obtain ⟨K2, hi⟩ := hi
  by_cases e0 : c0 = p
  · subst e0
    refine ⟨([⟨11, c0⟩], 11, true), by simp, ⟨K1 + 40, fun k hk => ?_⟩, ⟨K2 + 40, fun k hk => ?_⟩⟩
    · obtain ⟨m, rfl⟩ : ∃ m, k = m + 40 := ⟨k - 40, by omega⟩
      have h1 := hs (m + 40) (by omega)
      simp only [spec_Leased.f, Option.bind_some, h1]
      simp [spec_Leased.l0, spec_Leased.l1, spec_Leased.l2, wrap64, rd_T109, List.getD]
    · obtain ⟨m, rfl⟩ : ∃ m, k = m + 40 := ⟨k - 40, by omega⟩
      have h1 := hi (m + 40) (by omega)
      simp only [impl_Leased.f, impl_copyPool.f, Option.bind_some, h1]
      simp [impl_PlaceOf.f, impl_PlaceOf.l0, impl_Leased.l0, impl_copyPool.f, wrap64, rd_T109, List.getD]
  · skip
    refine ⟨([⟨10, p⟩, ⟨11, c0⟩], 10, true), by simp, ⟨K1 + 40, fun k hk => ?_⟩, ⟨K2 + 40, fun k hk => ?_⟩⟩
    · obtain ⟨m, rfl⟩ : ∃ m, k = m + 40 := ⟨k - 40, by omega⟩
      have h1 := hs (m + 40) (by omega)
      simp only [spec_Leased.f, Option.bind_some, h1]
      simp [spec_Leased.l0, spec_Leased.l1, spec_Leased.l2, wrap64, rd_T109, List.getD, e0]
    · obtain ⟨m, rfl⟩ : ∃ m, k = m + 40 := ⟨k - 40, by omega⟩
      have h1 := hi (m + 40) (by omega)
      simp only [impl_Leased.f, impl_copyPool.f, Option.bind_some, h1]
      simp [impl_PlaceOf.f, impl_PlaceOf.l0, impl_Leased.l0, impl_copyPool.f, wrap64, rd_T109, List.getD, e0]
theorem ev_3 (c0 : Int) (p : Int) (hp : tell ([⟨12, c0⟩] : List S109) 1 0 = true) : ∃ r : List S109 × Int × Bool, r.1.length ≤ 4 ∧ Ev (fun k => spec_Leased.f k ([⟨12, c0⟩] : List S109) p) r ∧ Ev (fun k => impl_Leased.f k ([⟨12, c0⟩] : List S109) p) r := by
  have hs : Ev (fun k => spec_PoolOk.f k ([⟨12, c0⟩] : List S109)) true := by have h := spec_ev ([⟨12, c0⟩] : List S109) (by simp); rwa [show tell ([⟨12, c0⟩] : List S109) ([⟨12, c0⟩] : List S109).length 0 = true from hp] at h
  have hi : Ev (fun k => impl_PoolOk.f k ([⟨12, c0⟩] : List S109)) true := by have h := impl_ev ([⟨12, c0⟩] : List S109) (by simp); rwa [show tell ([⟨12, c0⟩] : List S109) ([⟨12, c0⟩] : List S109).length 0 = true from hp] at h
  obtain ⟨K1, hs⟩ := hs
  obtain ⟨K2, hi⟩ := hi
  by_cases e0 : c0 = p
  · subst e0
    refine ⟨([⟨12, c0⟩], 12, true), by simp, ⟨K1 + 40, fun k hk => ?_⟩, ⟨K2 + 40, fun k hk => ?_⟩⟩
    · obtain ⟨m, rfl⟩ : ∃ m, k = m + 40 := ⟨k - 40, by omega⟩
      have h1 := hs (m + 40) (by omega)
      simp only [spec_Leased.f, Option.bind_some, h1]
      simp [spec_Leased.l0, spec_Leased.l1, spec_Leased.l2, wrap64, rd_T109, List.getD]
    · obtain ⟨m, rfl⟩ : ∃ m, k = m + 40 := ⟨k - 40, by omega⟩
      have h1 := hi (m + 40) (by omega)
      simp only [impl_Leased.f, impl_copyPool.f, Option.bind_some, h1]
      simp [impl_PlaceOf.f, impl_PlaceOf.l0, impl_Leased.l0, impl_copyPool.f, wrap64, rd_T109, List.getD]
  · skip
    refine ⟨([⟨10, p⟩, ⟨12, c0⟩], 10, true), by simp, ⟨K1 + 40, fun k hk => ?_⟩, ⟨K2 + 40, fun k hk => ?_⟩⟩
    · obtain ⟨m, rfl⟩ : ∃ m, k = m + 40 := ⟨k - 40, by omega⟩
      have h1 := hs (m + 40) (by omega)
      simp only [spec_Leased.f, Option.bind_some, h1]
      simp [spec_Leased.l0, spec_Leased.l1, spec_Leased.l2, wrap64, rd_T109, List.getD, e0]
    · obtain ⟨m, rfl⟩ : ∃ m, k = m + 40 := ⟨k - 40, by omega⟩
      have h1 := hi (m + 40) (by omega)
      simp only [impl_Leased.f, impl_copyPool.f, Option.bind_some, h1]
      simp [impl_PlaceOf.f, impl_PlaceOf.l0, impl_Leased.l0, impl_copyPool.f, wrap64, rd_T109, List.getD, e0]
theorem ev_4 (c0 c1 : Int) (p : Int) (hp : tell ([⟨10, c0⟩, ⟨11, c1⟩] : List S109) 2 0 = true) : ∃ r : List S109 × Int × Bool, r.1.length ≤ 4 ∧ Ev (fun k => spec_Leased.f k ([⟨10, c0⟩, ⟨11, c1⟩] : List S109) p) r ∧ Ev (fun k => impl_Leased.f k ([⟨10, c0⟩, ⟨11, c1⟩] : List S109) p) r := by
  have hs : Ev (fun k => spec_PoolOk.f k ([⟨10, c0⟩, ⟨11, c1⟩] : List S109)) true := by have h := spec_ev ([⟨10, c0⟩, ⟨11, c1⟩] : List S109) (by simp); rwa [show tell ([⟨10, c0⟩, ⟨11, c1⟩] : List S109) ([⟨10, c0⟩, ⟨11, c1⟩] : List S109).length 0 = true from hp] at h
  have hi : Ev (fun k => impl_PoolOk.f k ([⟨10, c0⟩, ⟨11, c1⟩] : List S109)) true := by have h := impl_ev ([⟨10, c0⟩, ⟨11, c1⟩] : List S109) (by simp); rwa [show tell ([⟨10, c0⟩, ⟨11, c1⟩] : List S109) ([⟨10, c0⟩, ⟨11, c1⟩] : List S109).length 0 = true from hp] at h
  obtain ⟨K1, hs⟩ := hs
  obtain ⟨K2, hi⟩ := hi
  by_cases e0 : c0 = p
  · subst e0
    refine ⟨([⟨10, c0⟩, ⟨11, c1⟩], 10, true), by simp, ⟨K1 + 40, fun k hk => ?_⟩, ⟨K2 + 40, fun k hk => ?_⟩⟩
    · obtain ⟨m, rfl⟩ : ∃ m, k = m + 40 := ⟨k - 40, by omega⟩
      have h1 := hs (m + 40) (by omega)
      simp only [spec_Leased.f, Option.bind_some, h1]
      simp [spec_Leased.l0, spec_Leased.l1, spec_Leased.l2, wrap64, rd_T109, List.getD]
    · obtain ⟨m, rfl⟩ : ∃ m, k = m + 40 := ⟨k - 40, by omega⟩
      have h1 := hi (m + 40) (by omega)
      simp only [impl_Leased.f, impl_copyPool.f, Option.bind_some, h1]
      simp [impl_PlaceOf.f, impl_PlaceOf.l0, impl_Leased.l0, impl_copyPool.f, wrap64, rd_T109, List.getD]
  · skip
    by_cases e1 : c1 = p
    · subst e1
      refine ⟨([⟨10, c0⟩, ⟨11, c1⟩], 11, true), by simp, ⟨K1 + 40, fun k hk => ?_⟩, ⟨K2 + 40, fun k hk => ?_⟩⟩
      · obtain ⟨m, rfl⟩ : ∃ m, k = m + 40 := ⟨k - 40, by omega⟩
        have h1 := hs (m + 40) (by omega)
        simp only [spec_Leased.f, Option.bind_some, h1]
        simp [spec_Leased.l0, spec_Leased.l1, spec_Leased.l2, wrap64, rd_T109, List.getD, e0]
      · obtain ⟨m, rfl⟩ : ∃ m, k = m + 40 := ⟨k - 40, by omega⟩
        have h1 := hi (m + 40) (by omega)
        simp only [impl_Leased.f, impl_copyPool.f, Option.bind_some, h1]
        simp [impl_PlaceOf.f, impl_PlaceOf.l0, impl_Leased.l0, impl_copyPool.f, wrap64, rd_T109, List.getD, e0]
    · skip
      refine ⟨([⟨10, c0⟩, ⟨11, c1⟩, ⟨12, p⟩], 12, true), by simp, ⟨K1 + 40, fun k hk => ?_⟩, ⟨K2 + 40, fun k hk => ?_⟩⟩
      · obtain ⟨m, rfl⟩ : ∃ m, k = m + 40 := ⟨k - 40, by omega⟩
        have h1 := hs (m + 40) (by omega)
        simp only [spec_Leased.f, Option.bind_some, h1]
        simp [spec_Leased.l0, spec_Leased.l1, spec_Leased.l2, wrap64, rd_T109, List.getD, e0, e1]
      · obtain ⟨m, rfl⟩ : ∃ m, k = m + 40 := ⟨k - 40, by omega⟩
        have h1 := hi (m + 40) (by omega)
        simp only [impl_Leased.f, impl_copyPool.f, Option.bind_some, h1]
        simp [impl_PlaceOf.f, impl_PlaceOf.l0, impl_Leased.l0, impl_copyPool.f, wrap64, rd_T109, List.getD, e0, e1]
theorem ev_5 (c0 c1 : Int) (p : Int) (hp : tell ([⟨10, c0⟩, ⟨12, c1⟩] : List S109) 2 0 = true) : ∃ r : List S109 × Int × Bool, r.1.length ≤ 4 ∧ Ev (fun k => spec_Leased.f k ([⟨10, c0⟩, ⟨12, c1⟩] : List S109) p) r ∧ Ev (fun k => impl_Leased.f k ([⟨10, c0⟩, ⟨12, c1⟩] : List S109) p) r := by
  have hs : Ev (fun k => spec_PoolOk.f k ([⟨10, c0⟩, ⟨12, c1⟩] : List S109)) true := by have h := spec_ev ([⟨10, c0⟩, ⟨12, c1⟩] : List S109) (by simp); rwa [show tell ([⟨10, c0⟩, ⟨12, c1⟩] : List S109) ([⟨10, c0⟩, ⟨12, c1⟩] : List S109).length 0 = true from hp] at h
  have hi : Ev (fun k => impl_PoolOk.f k ([⟨10, c0⟩, ⟨12, c1⟩] : List S109)) true := by have h := impl_ev ([⟨10, c0⟩, ⟨12, c1⟩] : List S109) (by simp); rwa [show tell ([⟨10, c0⟩, ⟨12, c1⟩] : List S109) ([⟨10, c0⟩, ⟨12, c1⟩] : List S109).length 0 = true from hp] at h
  obtain ⟨K1, hs⟩ := hs
  obtain ⟨K2, hi⟩ := hi
  by_cases e0 : c0 = p
  · subst e0
    refine ⟨([⟨10, c0⟩, ⟨12, c1⟩], 10, true), by simp, ⟨K1 + 40, fun k hk => ?_⟩, ⟨K2 + 40, fun k hk => ?_⟩⟩
    · obtain ⟨m, rfl⟩ : ∃ m, k = m + 40 := ⟨k - 40, by omega⟩
      have h1 := hs (m + 40) (by omega)
      simp only [spec_Leased.f, Option.bind_some, h1]
      simp [spec_Leased.l0, spec_Leased.l1, spec_Leased.l2, wrap64, rd_T109, List.getD]
    · obtain ⟨m, rfl⟩ : ∃ m, k = m + 40 := ⟨k - 40, by omega⟩
      have h1 := hi (m + 40) (by omega)
      simp only [impl_Leased.f, impl_copyPool.f, Option.bind_some, h1]
      simp [impl_PlaceOf.f, impl_PlaceOf.l0, impl_Leased.l0, impl_copyPool.f, wrap64, rd_T109, List.getD]
  · skip
    by_cases e1 : c1 = p
    · subst e1
      refine ⟨([⟨10, c0⟩, ⟨12, c1⟩], 12, true), by simp, ⟨K1 + 40, fun k hk => ?_⟩, ⟨K2 + 40, fun k hk => ?_⟩⟩
      · obtain ⟨m, rfl⟩ : ∃ m, k = m + 40 := ⟨k - 40, by omega⟩
        have h1 := hs (m + 40) (by omega)
        simp only [spec_Leased.f, Option.bind_some, h1]
        simp [spec_Leased.l0, spec_Leased.l1, spec_Leased.l2, wrap64, rd_T109, List.getD, e0]
      · obtain ⟨m, rfl⟩ : ∃ m, k = m + 40 := ⟨k - 40, by omega⟩
        have h1 := hi (m + 40) (by omega)
        simp only [impl_Leased.f, impl_copyPool.f, Option.bind_some, h1]
        simp [impl_PlaceOf.f, impl_PlaceOf.l0, impl_Leased.l0, impl_copyPool.f, wrap64, rd_T109, List.getD, e0]
    · skip
      refine ⟨([⟨10, c0⟩, ⟨11, p⟩, ⟨12, c1⟩], 11, true), by simp, ⟨K1 + 40, fun k hk => ?_⟩, ⟨K2 + 40, fun k hk => ?_⟩⟩
      · obtain ⟨m, rfl⟩ : ∃ m, k = m + 40 := ⟨k - 40, by omega⟩
        have h1 := hs (m + 40) (by omega)
        simp only [spec_Leased.f, Option.bind_some, h1]
        simp [spec_Leased.l0, spec_Leased.l1, spec_Leased.l2, wrap64, rd_T109, List.getD, e0, e1]
      · obtain ⟨m, rfl⟩ : ∃ m, k = m + 40 := ⟨k - 40, by omega⟩
        have h1 := hi (m + 40) (by omega)
        simp only [impl_Leased.f, impl_copyPool.f, Option.bind_some, h1]
        simp [impl_PlaceOf.f, impl_PlaceOf.l0, impl_Leased.l0, impl_copyPool.f, wrap64, rd_T109, List.getD, e0, e1]
theorem ev_6 (c0 c1 : Int) (p : Int) (hp : tell ([⟨11, c0⟩, ⟨12, c1⟩] : List S109) 2 0 = true) : ∃ r : List S109 × Int × Bool, r.1.length ≤ 4 ∧ Ev (fun k => spec_Leased.f k ([⟨11, c0⟩, ⟨12, c1⟩] : List S109) p) r ∧ Ev (fun k => impl_Leased.f k ([⟨11, c0⟩, ⟨12, c1⟩] : List S109) p) r := by
  have hs : Ev (fun k => spec_PoolOk.f k ([⟨11, c0⟩, ⟨12, c1⟩] : List S109)) true := by have h := spec_ev ([⟨11, c0⟩, ⟨12, c1⟩] : List S109) (by simp); rwa [show tell ([⟨11, c0⟩, ⟨12, c1⟩] : List S109) ([⟨11, c0⟩, ⟨12, c1⟩] : List S109).length 0 = true from hp] at h
  have hi : Ev (fun k => impl_PoolOk.f k ([⟨11, c0⟩, ⟨12, c1⟩] : List S109)) true := by have h := impl_ev ([⟨11, c0⟩, ⟨12, c1⟩] : List S109) (by simp); rwa [show tell ([⟨11, c0⟩, ⟨12, c1⟩] : List S109) ([⟨11, c0⟩, ⟨12, c1⟩] : List S109).length 0 = true from hp] at h
  obtain ⟨K1, hs⟩ := hs
  obtain ⟨K2, hi⟩ := hi
  by_cases e0 : c0 = p
  · subst e0
    refine ⟨([⟨11, c0⟩, ⟨12, c1⟩], 11, true), by simp, ⟨K1 + 40, fun k hk => ?_⟩, ⟨K2 + 40, fun k hk => ?_⟩⟩
    · obtain ⟨m, rfl⟩ : ∃ m, k = m + 40 := ⟨k - 40, by omega⟩
      have h1 := hs (m + 40) (by omega)
      simp only [spec_Leased.f, Option.bind_some, h1]
      simp [spec_Leased.l0, spec_Leased.l1, spec_Leased.l2, wrap64, rd_T109, List.getD]
    · obtain ⟨m, rfl⟩ : ∃ m, k = m + 40 := ⟨k - 40, by omega⟩
      have h1 := hi (m + 40) (by omega)
      simp only [impl_Leased.f, impl_copyPool.f, Option.bind_some, h1]
      simp [impl_PlaceOf.f, impl_PlaceOf.l0, impl_Leased.l0, impl_copyPool.f, wrap64, rd_T109, List.getD]
  · skip
    by_cases e1 : c1 = p
    · subst e1
      refine ⟨([⟨11, c0⟩, ⟨12, c1⟩], 12, true), by simp, ⟨K1 + 40, fun k hk => ?_⟩, ⟨K2 + 40, fun k hk => ?_⟩⟩
      · obtain ⟨m, rfl⟩ : ∃ m, k = m + 40 := ⟨k - 40, by omega⟩
        have h1 := hs (m + 40) (by omega)
        simp only [spec_Leased.f, Option.bind_some, h1]
        simp [spec_Leased.l0, spec_Leased.l1, spec_Leased.l2, wrap64, rd_T109, List.getD, e0]
      · obtain ⟨m, rfl⟩ : ∃ m, k = m + 40 := ⟨k - 40, by omega⟩
        have h1 := hi (m + 40) (by omega)
        simp only [impl_Leased.f, impl_copyPool.f, Option.bind_some, h1]
        simp [impl_PlaceOf.f, impl_PlaceOf.l0, impl_Leased.l0, impl_copyPool.f, wrap64, rd_T109, List.getD, e0]
    · skip
      refine ⟨([⟨10, p⟩, ⟨11, c0⟩, ⟨12, c1⟩], 10, true), by simp, ⟨K1 + 40, fun k hk => ?_⟩, ⟨K2 + 40, fun k hk => ?_⟩⟩
      · obtain ⟨m, rfl⟩ : ∃ m, k = m + 40 := ⟨k - 40, by omega⟩
        have h1 := hs (m + 40) (by omega)
        simp only [spec_Leased.f, Option.bind_some, h1]
        simp [spec_Leased.l0, spec_Leased.l1, spec_Leased.l2, wrap64, rd_T109, List.getD, e0, e1]
      · obtain ⟨m, rfl⟩ : ∃ m, k = m + 40 := ⟨k - 40, by omega⟩
        have h1 := hi (m + 40) (by omega)
        simp only [impl_Leased.f, impl_copyPool.f, Option.bind_some, h1]
        simp [impl_PlaceOf.f, impl_PlaceOf.l0, impl_Leased.l0, impl_copyPool.f, wrap64, rd_T109, List.getD, e0, e1]
theorem ev_7 (c0 c1 c2 : Int) (p : Int) (hp : tell ([⟨10, c0⟩, ⟨11, c1⟩, ⟨12, c2⟩] : List S109) 3 0 = true) : ∃ r : List S109 × Int × Bool, r.1.length ≤ 4 ∧ Ev (fun k => spec_Leased.f k ([⟨10, c0⟩, ⟨11, c1⟩, ⟨12, c2⟩] : List S109) p) r ∧ Ev (fun k => impl_Leased.f k ([⟨10, c0⟩, ⟨11, c1⟩, ⟨12, c2⟩] : List S109) p) r := by
  have hs : Ev (fun k => spec_PoolOk.f k ([⟨10, c0⟩, ⟨11, c1⟩, ⟨12, c2⟩] : List S109)) true := by have h := spec_ev ([⟨10, c0⟩, ⟨11, c1⟩, ⟨12, c2⟩] : List S109) (by simp); rwa [show tell ([⟨10, c0⟩, ⟨11, c1⟩, ⟨12, c2⟩] : List S109) ([⟨10, c0⟩, ⟨11, c1⟩, ⟨12, c2⟩] : List S109).length 0 = true from hp] at h
  have hi : Ev (fun k => impl_PoolOk.f k ([⟨10, c0⟩, ⟨11, c1⟩, ⟨12, c2⟩] : List S109)) true := by have h := impl_ev ([⟨10, c0⟩, ⟨11, c1⟩, ⟨12, c2⟩] : List S109) (by simp); rwa [show tell ([⟨10, c0⟩, ⟨11, c1⟩, ⟨12, c2⟩] : List S109) ([⟨10, c0⟩, ⟨11, c1⟩, ⟨12, c2⟩] : List S109).length 0 = true from hp] at h
  obtain ⟨K1, hs⟩ := hs
  obtain ⟨K2, hi⟩ := hi
  by_cases e0 : c0 = p
  · subst e0
    refine ⟨([⟨10, c0⟩, ⟨11, c1⟩, ⟨12, c2⟩], 10, true), by simp, ⟨K1 + 40, fun k hk => ?_⟩, ⟨K2 + 40, fun k hk => ?_⟩⟩
    · obtain ⟨m, rfl⟩ : ∃ m, k = m + 40 := ⟨k - 40, by omega⟩
      have h1 := hs (m + 40) (by omega)
      simp only [spec_Leased.f, Option.bind_some, h1]
      simp [spec_Leased.l0, spec_Leased.l1, spec_Leased.l2, wrap64, rd_T109, List.getD]
    · obtain ⟨m, rfl⟩ : ∃ m, k = m + 40 := ⟨k - 40, by omega⟩
      have h1 := hi (m + 40) (by omega)
      simp only [impl_Leased.f, impl_copyPool.f, Option.bind_some, h1]
      simp [impl_PlaceOf.f, impl_PlaceOf.l0, impl_Leased.l0, impl_copyPool.f, wrap64, rd_T109, List.getD]
  · skip
    by_cases e1 : c1 = p
    · subst e1
      refine ⟨([⟨10, c0⟩, ⟨11, c1⟩, ⟨12, c2⟩], 11, true), by simp, ⟨K1 + 40, fun k hk => ?_⟩, ⟨K2 + 40, fun k hk => ?_⟩⟩
      · obtain ⟨m, rfl⟩ : ∃ m, k = m + 40 := ⟨k - 40, by omega⟩
        have h1 := hs (m + 40) (by omega)
        simp only [spec_Leased.f, Option.bind_some, h1]
        simp [spec_Leased.l0, spec_Leased.l1, spec_Leased.l2, wrap64, rd_T109, List.getD, e0]
      · obtain ⟨m, rfl⟩ : ∃ m, k = m + 40 := ⟨k - 40, by omega⟩
        have h1 := hi (m + 40) (by omega)
        simp only [impl_Leased.f, impl_copyPool.f, Option.bind_some, h1]
        simp [impl_PlaceOf.f, impl_PlaceOf.l0, impl_Leased.l0, impl_copyPool.f, wrap64, rd_T109, List.getD, e0]
    · skip
      by_cases e2 : c2 = p
      · subst e2
        refine ⟨([⟨10, c0⟩, ⟨11, c1⟩, ⟨12, c2⟩], 12, true), by simp, ⟨K1 + 40, fun k hk => ?_⟩, ⟨K2 + 40, fun k hk => ?_⟩⟩
        · obtain ⟨m, rfl⟩ : ∃ m, k = m + 40 := ⟨k - 40, by omega⟩
          have h1 := hs (m + 40) (by omega)
          simp only [spec_Leased.f, Option.bind_some, h1]
          simp [spec_Leased.l0, spec_Leased.l1, spec_Leased.l2, wrap64, rd_T109, List.getD, e0, e1]
        · obtain ⟨m, rfl⟩ : ∃ m, k = m + 40 := ⟨k - 40, by omega⟩
          have h1 := hi (m + 40) (by omega)
          simp only [impl_Leased.f, impl_copyPool.f, Option.bind_some, h1]
          simp [impl_PlaceOf.f, impl_PlaceOf.l0, impl_Leased.l0, impl_copyPool.f, wrap64, rd_T109, List.getD, e0, e1]
      · skip
        refine ⟨([⟨10, c0⟩, ⟨11, c1⟩, ⟨12, c2⟩], 0, false), by simp, ⟨K1 + 40, fun k hk => ?_⟩, ⟨K2 + 40, fun k hk => ?_⟩⟩
        · obtain ⟨m, rfl⟩ : ∃ m, k = m + 40 := ⟨k - 40, by omega⟩
          have h1 := hs (m + 40) (by omega)
          simp only [spec_Leased.f, Option.bind_some, h1]
          simp [spec_Leased.l0, spec_Leased.l1, spec_Leased.l2, wrap64, rd_T109, List.getD, e0, e1, e2]
        · obtain ⟨m, rfl⟩ : ∃ m, k = m + 40 := ⟨k - 40, by omega⟩
          have h1 := hi (m + 40) (by omega)
          simp only [impl_Leased.f, impl_copyPool.f, Option.bind_some, h1]
          simp [impl_PlaceOf.f, impl_PlaceOf.l0, impl_Leased.l0, impl_copyPool.f, wrap64, rd_T109, List.getD, e0, e1, e2]


theorem tell_len (l : List S109) : ∀ d j, tell l d j = true → l.length ≤ 3
  | 0, j, h => by have := of_decide_eq_true (show decide ((l.length : Int) ≤ 3) = true from h); omega
  | d + 1, j, h => by
    simp only [tell] at h
    split at h
    · split at h
      · cases h
      · exact tell_len l d (j + 1) h
    · cases h
theorem both (l : List S109) (p : Int) (h : tell l l.length 0 = true) : ∃ r : List S109 × Int × Bool, r.1.length ≤ 4 ∧ Ev (fun k => spec_Leased.f k l p) r ∧ Ev (fun k => impl_Leased.f k l p) r := by
  have hl := tell_len l _ _ h
  match l, hl, h with
  | [], _, h => exact ev_0 p h
  | [⟨a, c0⟩], _, h =>
    have h2 := h
    simp [tell, okA, dup] at h2
    have : a = 10 ∨ a = 11 ∨ a = 12 := by omega
    rcases this with rfl | rfl | rfl
    · exact ev_1 c0 p h
    · exact ev_2 c0 p h
    · exact ev_3 c0 p h
  | [⟨a, c0⟩, ⟨b, c1⟩], _, h =>
    have h2 := h
    simp [tell, okA, dup] at h2
    have : (a = 10 ∧ b = 11) ∨ (a = 10 ∧ b = 12) ∨ (a = 11 ∧ b = 12) := by omega
    rcases this with ⟨rfl, rfl⟩ | ⟨rfl, rfl⟩ | ⟨rfl, rfl⟩
    · exact ev_4 c0 c1 p h
    · exact ev_5 c0 c1 p h
    · exact ev_6 c0 c1 p h
  | [⟨a, c0⟩, ⟨b, c1⟩, ⟨c, c2⟩], _, h =>
    have h2 := h
    simp [tell, okA, dup] at h2
    have : a = 10 ∧ b = 11 ∧ c = 12 := by omega
    obtain ⟨rfl, rfl, rfl⟩ := this
    exact ev_7 c0 c1 c2 p h
theorem leased_ev (l : List S109) (p : Int) (hn : l.length ≤ 1048576) : ∃ r : List S109 × Int × Bool, r.1.length ≤ 1048576 ∧ Ev (fun k => spec_Leased.f k l p) r ∧ Ev (fun k => impl_Leased.f k l p) r := by
  cases h : tell l l.length 0 with
  | true =>
    obtain ⟨r, h1, h2⟩ := both l p h
    exact ⟨r, by omega, h2⟩
  | false =>
    have hs := spec_ev l hn
    have hi := impl_ev l hn
    rw [h] at hs hi
    obtain ⟨K1, hs⟩ := hs
    obtain ⟨K2, hi⟩ := hi
    refine ⟨(l, 0, false), hn, ⟨K1, fun k hk => ?_⟩, ⟨K2, fun k hk => ?_⟩⟩
    · simp only [spec_Leased.f, Option.bind_some, hs k hk]
      rw [if_pos (by simp; omega)]
      simp
    · simp only [impl_Leased.f, impl_copyPool.f, Option.bind_some, hi k hk]
      rw [if_pos (by simp; omega)]
      simp


theorem said : Said := by
  intro l p _ hl _
  by_cases h : wrap64 (1048576 - (l.length : Int)) < 0
  · refine ⟨0, ?_⟩
    simp only [laws_FnExactLeased.f, laws_szLeaseS.f]
    rw [if_pos h]
    rfl
  · have hn := len_of_guard h hl
    have hm : (l.map cv).length ≤ 1048576 := by simpa using hn
    obtain ⟨r, hk, hs, hi⟩ := leased_ev (l.map cv) p hm
    have hc := count_eq (l.map cv) hm
    have hcr := count_eq r.1 hk
    refine ev_some (r := true) ?_
    have e : (fun k => laws_FnExactLeased.f k l p) = fun k => ((laws_toLeaseS.f k l).bind fun t205 => ((spec_Leased.f k t205 p).bind fun bt208 => ((laws_toLeaseS.f k l).bind fun t213 => ((impl_Leased.f k t213 p).bind fun bt216 => ((laws_eqLeaseS.f k bt216.1 bt208.1).bind fun t221 => (if t221 = true then (if bt216.2.1 = bt208.2.1 then (laws_FnExactLeased.j0 k l p bt208.1 bt208.2.1 bt208.2.2 t213 bt216.1 bt216.2.1 bt216.2.2 (bt216.2.2 != bt208.2.2)) else (laws_FnExactLeased.j0 k l p bt208.1 bt208.2.1 bt208.2.2 t213 bt216.1 bt216.2.1 bt216.2.2 true)) else (laws_FnExactLeased.j0 k l p bt208.1 bt208.2.1 bt208.2.2 t213 bt216.1 bt216.2.1 bt216.2.2 true))))))) := by
      funext k
      simp only [laws_FnExactLeased.f, laws_szLeaseS.f]
      rw [if_neg h]
      simp only [Option.bind_some]
      rw [if_neg h]
    have j2 : Ev (fun k => laws_FnExactLeased.j2 k (marked mk adv r.1 1) (count adv r.1.length 1) (r.2.2 != r.2.2)) true := by
      refine ev_to (f := fun k => (laws_heldLeaseS.f k (marked mk adv r.1 1) 1).bind fun t241 => (if t241 < 0 then (some false) else (if t241 = count adv r.1.length 1 then (some true) else (some false)))) ?_ (fun k => by simp [laws_FnExactLeased.j2])
      refine ev_bind (held_ev r.1 1 hk) ?_
      simp only [if_neg (show ¬ count adv r.1.length 1 < 0 by omega), if_true]
      exact ev_const
    have j1 : Ev (fun k => laws_FnExactLeased.j1 k l p r.1 r.2.1 r.2.2 r.1 (r.2.2 != r.2.2)) true := by
      refine ev_to (f := fun k => ((laws_markLeaseS.f k r.1 1).bind fun bt229 => ((laws_heldLeaseS.f k bt229.2 1).bind fun t231 => (if t231 < 0 then (some false) else (if t231 = bt229.1 then ((laws_toLeaseS.f k l).bind fun t232 => ((impl_Leased.f k t232 p).bind fun bt235 => ((laws_eqLeaseS.f k bt235.1 r.1).bind fun t240 => (if t240 = true then (if bt235.2.1 = r.2.1 then (laws_FnExactLeased.j2 k bt229.2 bt229.1 (bt235.2.2 != r.2.2)) else (laws_FnExactLeased.j2 k bt229.2 bt229.1 true)) else (laws_FnExactLeased.j2 k bt229.2 bt229.1 true))))) else (some false))))))  ?_ (fun k => by simp [laws_FnExactLeased.j1])
      refine ev_bind (mark_ev r.1 1 hk) (ev_bind (held_ev r.1 1 hk) ?_)
      simp only [if_neg (show ¬ count adv r.1.length 1 < 0 by omega), if_true]
      refine ev_bind (to_ev l hn) (ev_bind hi (ev_bind (eq_ev r.1 hk) ?_))
      simp only [if_true]
      exact j2
    rw [e]
    refine ev_bind (to_ev l hn) (ev_bind hs (ev_bind (to_ev l hn) (ev_bind hi (ev_bind (eq_ev r.1 hk) ?_))))
    simp only [if_true]
    refine ev_to (f := fun k => ((laws_toLeaseS.f k l).bind fun t222 => ((laws_eqLeaseS.f k (l.map cv) t222).bind fun t225 => (if t225 = true then ((laws_markLeaseS.f k (l.map cv) 1).bind fun bt226 => (if bt226.1 < 0 then (laws_FnExactLeased.j1 k l p r.1 r.2.1 r.2.2 r.1 true) else ((laws_eqLeaseS.f k r.1 r.1).bind fun t228 => (if t228 = true then (if r.2.1 = r.2.1 then (laws_FnExactLeased.j1 k l p r.1 r.2.1 r.2.2 r.1 (r.2.2 != r.2.2)) else (laws_FnExactLeased.j1 k l p r.1 r.2.1 r.2.2 r.1 true)) else (laws_FnExactLeased.j1 k l p r.1 r.2.1 r.2.2 r.1 true))))) else (some false)))) ) ?_ (fun k => by simp [laws_FnExactLeased.j0])
    refine ev_bind (to_ev l hn) (ev_bind (eq_ev _ hm) ?_)
    simp only [if_true]
    refine ev_bind (mark_ev _ 1 hm) ?_
    simp only [if_neg (show ¬ count adv (l.map cv).length 1 < 0 by omega)]
    refine ev_bind (eq_ev r.1 hk) ?_
    simp only [if_true]
    exact j1

end Go.Proofs.Ytdfhkmekmockkaa.PFnExactLeased
