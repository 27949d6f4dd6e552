/- The pure statement of FnPools: over numbers and lists alone. -/
import Derived.Test.YtdfhkmekmockkaaPFnPoolsx7
import Derived.Test.YtdfhkmekmockkaaGen
namespace Go.Proofs.Ytdfhkmekmockkaa.Pure
open Go.RowKit Go.Proofs.Ytdfhkmekmockkaa.PFnPools Go.Proofs.YtdfhkmekmockkaaW.PrintWords Go.Proofs.YtdfhkmekmockkaaW.PrintLast Go.Proofs.YtdfhkmekmockkaaW.PrintMore Go.Proofs.Ytdfhkmekmockkaa.Gen
set_option linter.unusedVariables false
set_option linter.unusedSimpArgs false
theorem ev_to' {α : Type} {g f : Nat → Option α} {r : α} (h : Ev f r) (e : ∀ k, g k = f k) : Ev g r := by obtain ⟨K, hK⟩ := h; exact ⟨K, fun k hk => (e k).trans (hK k hk)⟩
namespace Pool
theorem in_eq (a b c : Int) : spec_l01In.f a b c = some (decide (b ≤ a ∧ a ≤ c)) := by
  unfold spec_l01In.f
  by_cases h : a ≥ b
  · rw [if_pos h]; congr 1; simp [show b ≤ a from h]
  · rw [if_neg h]; congr 1; simp [show ¬ b ≤ a from h]
theorem in_eq' (a b c : Int) : impl_within.f a b c = some (decide (b ≤ a ∧ a ≤ c)) := in_eq a b c
theorem pred {j : Nat} (h : 0 < j) (hn : j ≤ 1048576) : wrap64 ((j : Int) - 1) = ((j - 1 : Nat) : Int) := by unfold wrap64; omega
theorem succ {j : Nat} (hn : j ≤ 1048576) : wrap64 ((j : Int) + 1) = ((j + 1 : Nat) : Int) := by unfold wrap64; omega

/-- Is the element at a place right by itself, and beside the one ahead? -/
def okA (l : List S109) (j : Nat) : Bool := (decide (10 ≤ (l.getD j z109).f0 ∧ (l.getD j z109).f0 ≤ 12)) && !(decide (0 < j) && decide ((l.getD (j - 1) z109).f0 ≥ (l.getD j z109).f0))
/-- Is there one alike ahead of it, from m on? -/
def dup (l : List S109) (j : Nat) : Nat → Nat → Bool
  | 0, _ => false
  | d + 1, m => if (l.getD m z109).f1 = (l.getD j z109).f1 then true else dup l j d (m + 1)
def tell (l : List S109) : Nat → Nat → Bool
  | 0, _ => decide ((l.length : Int) ≤ 3)
  | d + 1, j => if okA l j = true then (if dup l j j 0 = true then false else tell l d (j + 1)) else false

theorem spec_ev' (l : List S109) (hn : l.length ≤ 1048576) : ∀ (d j : Nat), j + d = l.length → Ev (fun k => spec_PoolOk.l0 k l (j : Int)) (tell l d j) := by
  intro d
  induction d with
  | zero =>
    intro j hj
    refine ev_to (f := fun _ => some (decide ((l.length : Int) ≤ 3))) ev_const (fun k => ?_)
    simp only [spec_PoolOk.l0]
    rw [if_neg (by omega)]
  | succ d ih =>
    intro j hj
    have hlt : j < l.length := by omega
    have inner : ∀ (e m : Nat), m + e = j → Ev (fun k => spec_PoolOk.l1 k l (j : Int) (m : Int)) (if dup l j e m = true then false else tell l d (j + 1)) := by
      intro e
      induction e with
      | zero =>
        intro m hm
        simp only [dup, Bool.false_eq_true, if_false]
        refine ev_to (ih (j + 1) (by omega)) (fun k => ?_)
        simp only [spec_PoolOk.l1]
        rw [if_neg (by omega), succ (by omega)]
      | succ e ih2 =>
        intro m hm
        by_cases hc : (l.getD m z109).f1 = (l.getD j z109).f1
        · simp only [dup, if_pos hc, if_true]
          refine ev_to (f := fun _ => some false) ev_const (fun k => ?_)
          simp only [spec_PoolOk.l1]
          rw [if_pos (by omega), if_pos (by omega), if_pos (by omega), if_pos (by omega), if_pos (by omega), if_pos (show (rd_T109 l (m : Int)).f1 = (rd_T109 l (j : Int)).f1 from hc)]
        · simp only [dup, if_neg hc]
          refine ev_to (ih2 (m + 1) (by omega)) (fun k => ?_)
          simp only [spec_PoolOk.l1]
          rw [if_pos (by omega), if_pos (by omega), if_pos (by omega), if_pos (by omega), if_pos (by omega), if_neg (show ¬ (rd_T109 l (m : Int)).f1 = (rd_T109 l (j : Int)).f1 from hc), succ (by omega)]
    have j1 : ∀ b : Bool, Ev (fun k => spec_PoolOk.j1 k l (j : Int) b) (if b = true then false else if dup l j j 0 = true then false else tell l d (j + 1)) := by
      intro b
      cases b with
      | true => exact ev_to (f := fun _ => some false) ev_const (fun k => by simp [spec_PoolOk.j1])
      | false => exact ev_to (inner j 0 (by omega)) (fun k => by simp [spec_PoolOk.j1])
    have go : ∀ b : Bool, okA l j = !b → Ev (fun k => spec_PoolOk.j1 k l (j : Int) b) (tell l (d + 1) j) := by
      intro b hb
      have := j1 b
      simp only [tell, hb]
      cases b <;> simpa using this
    by_cases hr : decide (10 ≤ (l.getD j z109).f0 ∧ (l.getD j z109).f0 ≤ 12) = true
    · by_cases h0 : 0 < j
      · refine ev_to (go (decide ((l.getD (j - 1) z109).f0 ≥ (l.getD j z109).f0)) (by unfold okA; rw [hr]; simp [h0])) (fun k => ?_)
        simp only [spec_PoolOk.l0, in_eq]
        rw [if_pos (by omega), if_pos (by omega)]
        simp only [Option.bind_some]
        rw [if_pos (show decide (10 ≤ (rd_T109 l (j : Int)).f0 ∧ (rd_T109 l (j : Int)).f0 ≤ 12) = true from hr), if_pos (by omega), pred h0 (by omega), if_pos (by omega), if_pos (by omega)]
        rfl
      · refine ev_to (go false (by unfold okA; rw [hr]; simp [h0])) (fun k => ?_)
        simp only [spec_PoolOk.l0, in_eq]
        rw [if_pos (by omega), if_pos (by omega)]
        simp only [Option.bind_some]
        rw [if_pos (show decide (10 ≤ (rd_T109 l (j : Int)).f0 ∧ (rd_T109 l (j : Int)).f0 ≤ 12) = true from hr), if_neg (by omega)]
    · refine ev_to (go true (by unfold okA; rw [Bool.eq_false_iff.mpr hr]; rfl)) (fun k => ?_)
      simp only [spec_PoolOk.l0, in_eq]
      rw [if_pos (by omega), if_pos (by omega)]
      simp only [Option.bind_some]
      rw [if_neg (show ¬ decide (10 ≤ (rd_T109 l (j : Int)).f0 ∧ (rd_T109 l (j : Int)).f0 ≤ 12) = true from hr)]
theorem spec_ev (l : List S109) (hn : l.length ≤ 1048576) : Ev (fun k => spec_PoolOk.f k l) (tell l l.length 0) := spec_ev' l hn l.length 0 (by omega)

theorem take_at (l : List S109) (j m : Nat) (h : m < j) : (l.take j).getD m z109 = l.getD m z109 := by simp [List.getD, List.getElem?_take_of_lt h]
theorem impl_ev' (l : List S109) (hn : l.length ≤ 1048576) : ∀ (d j : Nat), j + d = l.length → Ev (fun k => impl_PoolOk.l0 k l l (l.length : Int) (j : Int)) (tell l d j) := by
  intro d
  induction d with
  | zero =>
    intro j hj
    refine ev_to (f := fun _ => some (decide ((l.length : Int) ≤ 3))) ev_const (fun k => ?_)
    simp only [impl_PoolOk.l0]
    rw [if_neg (by omega)]
  | succ d ih =>
    intro j hj
    have hlt : j < l.length := by omega
    have hlen : (l.take j).length = j := by rw [List.length_take]; omega
    have inner : ∀ (e m : Nat), m + e = j → Ev (fun k => impl_PoolOk.l1 k l l (l.length : Int) (j : Int) (l.take j) ((l.take j).length : Int) (m : Int) ((rd_T109 l (j : Int)).f0) ((rd_T109 l (j : Int)).f1)) (if dup l j e m = true then false else tell l d (j + 1)) := by
      intro e
      induction e with
      | zero =>
        intro m hm
        simp only [dup, Bool.false_eq_true, if_false]
        refine ev_to (ih (j + 1) (by omega)) (fun k => ?_)
        simp only [impl_PoolOk.l1]
        rw [if_neg (by omega), succ (by omega)]
      | succ e ih2 =>
        intro m hm
        have ht : rd_T109 (l.take j) (m : Int) = l.getD m z109 := take_at l j m (by omega)
        by_cases hc : (l.getD m z109).f1 = (l.getD j z109).f1
        · simp only [dup, if_pos hc, if_true]
          refine ev_to (f := fun _ => some false) ev_const (fun k => ?_)
          simp only [impl_PoolOk.l1]
          rw [if_pos (by omega), if_pos (by omega), if_pos (by omega), ht, if_pos (show (l.getD m z109).f1 = (rd_T109 l (j : Int)).f1 from hc)]
        · simp only [dup, if_neg hc]
          refine ev_to (ih2 (m + 1) (by omega)) (fun k => ?_)
          simp only [impl_PoolOk.l1]
          rw [if_pos (by omega), if_pos (by omega), if_pos (by omega), ht, if_neg (show ¬ (l.getD m z109).f1 = (rd_T109 l (j : Int)).f1 from hc), succ (by omega)]
    have j1 : ∀ b : Bool, Ev (fun k => impl_PoolOk.j1 k l (j : Int) l (l.length : Int) (j : Int) b ((rd_T109 l (j : Int)).f0) ((rd_T109 l (j : Int)).f1)) (if b = true then false else if dup l j j 0 = true then false else tell l d (j + 1)) := by
      intro b
      cases b with
      | true => exact ev_to (f := fun _ => some false) ev_const (fun k => by simp [impl_PoolOk.j1])
      | false =>
        refine ev_to (inner j 0 (by omega)) (fun k => ?_)
        simp only [impl_PoolOk.j1, Bool.false_eq_true, if_false]
        rw [if_pos (by omega), if_pos (by omega)]
        rfl
    have go : ∀ b : Bool, okA l j = !b → Ev (fun k => impl_PoolOk.j1 k l (j : Int) l (l.length : Int) (j : Int) b ((rd_T109 l (j : Int)).f0) ((rd_T109 l (j : Int)).f1)) (tell l (d + 1) j) := by
      intro b hb
      have := j1 b
      simp only [tell, hb]
      cases b <;> simpa using this
    by_cases hr : decide (10 ≤ (l.getD j z109).f0 ∧ (l.getD j z109).f0 ≤ 12) = true
    · by_cases h0 : 0 < j
      · refine ev_to (go (decide ((l.getD (j - 1) z109).f0 ≥ (l.getD j z109).f0)) (by unfold okA; rw [hr]; simp [h0])) (fun k => ?_)
        simp only [impl_PoolOk.l0, in_eq']
        rw [if_pos (by omega), if_pos (by omega), if_pos (by omega)]
        simp only [Option.bind_some]
        rw [if_pos (show decide (10 ≤ (rd_T109 l (j : Int)).f0 ∧ (rd_T109 l (j : Int)).f0 ≤ 12) = true from hr), if_pos (by omega), pred h0 (by omega), if_pos (by omega), if_pos (by omega)]
        rfl
      · refine ev_to (go false (by unfold okA; rw [hr]; simp [h0])) (fun k => ?_)
        simp only [impl_PoolOk.l0, in_eq']
        rw [if_pos (by omega), if_pos (by omega), if_pos (by omega)]
        simp only [Option.bind_some]
        rw [if_pos (show decide (10 ≤ (rd_T109 l (j : Int)).f0 ∧ (rd_T109 l (j : Int)).f0 ≤ 12) = true from hr), if_neg (by omega)]
    · refine ev_to (go true (by unfold okA; rw [Bool.eq_false_iff.mpr hr]; rfl)) (fun k => ?_)
      simp only [impl_PoolOk.l0, in_eq']
      rw [if_pos (by omega), if_pos (by omega), if_pos (by omega)]
      simp only [Option.bind_some]
      rw [if_neg (show ¬ decide (10 ≤ (rd_T109 l (j : Int)).f0 ∧ (rd_T109 l (j : Int)).f0 ≤ 12) = true from hr)]
theorem impl_ev (l : List S109) (hn : l.length ≤ 1048576) : Ev (fun k => impl_PoolOk.f k l) (tell l l.length 0) := impl_ev' l hn l.length 0 (by omega)


end Pool
namespace Place
def tell (l : List S109) (p : Int) : Nat → Nat → Int
  | 0, _ => 0
  | d + 1, j => if (l.getD j z109).f1 = p then (l.getD j z109).f0 else tell l p d (j + 1)
theorem spec_ev (l : List S109) (p : Int) (hn : l.length ≤ 1048576) : Ev (fun k => spec_PlaceOf.f k l p) (tell l p l.length 0) := by
  refine fold_loop l.length (fun k (_ : Unit) i => spec_PlaceOf.l0 k l p i) (fun j _ => tell l p (l.length - j) j) (fun _ s => s) (fun j _ => if (l.getD j z109).f1 = p then some (l.getD j z109).f0 else none) (fun k s j hj => ?_) (fun k s => ?_) (fun j s hj => ?_) hn ()
  · simp only [spec_PlaceOf.l0]
    rw [if_pos (by omega), if_pos (by omega)]
    show (if (l.getD j z109).f1 = p then some (l.getD j z109).f0 else _) = _
    by_cases h : (l.getD j z109).f1 = p
    · rw [if_pos h, if_pos h]
    · rw [if_neg h, if_neg h]
  · simp only [spec_PlaceOf.l0]
    rw [if_neg (by omega), Nat.sub_self]
    rfl
  · obtain ⟨d, hd⟩ : ∃ d, l.length - j = d + 1 := ⟨l.length - j - 1, by omega⟩
    have hd' : l.length - (j + 1) = d := by omega
    simp only [hd, hd', tell]
    by_cases h : (l.getD j z109).f1 = p
    · rw [if_pos h, if_pos h]
    · rw [if_neg h, if_neg h]
theorem impl_ev (l : List S109) (p : Int) (hn : l.length ≤ 1048576) : Ev (fun k => impl_PlaceOf.f k l p) (tell l p l.length 0) := by
  refine fold_loop l.length (fun k (_ : Unit) i => impl_PlaceOf.l0 k p l (l.length : Int) i) (fun j _ => tell l p (l.length - j) j) (fun _ s => s) (fun j _ => if (l.getD j z109).f1 = p then some (l.getD j z109).f0 else none) (fun k s j hj => ?_) (fun k s => ?_) (fun j s hj => ?_) hn ()
  · simp only [impl_PlaceOf.l0]
    rw [if_pos (by omega), if_pos (by omega), if_pos (by omega)]
    show (if (l.getD j z109).f1 = p then some (l.getD j z109).f0 else _) = _
    by_cases h : (l.getD j z109).f1 = p
    · rw [if_pos h, if_pos h]
    · rw [if_neg h, if_neg h]
  · simp only [impl_PlaceOf.l0]
    rw [if_neg (by omega), Nat.sub_self]
    rfl
  · obtain ⟨d, hd⟩ : ∃ d, l.length - j = d + 1 := ⟨l.length - j - 1, by omega⟩
    have hd' : l.length - (j + 1) = d := by omega
    simp only [hd, hd', tell]
    by_cases h : (l.getD j z109).f1 = p
    · rw [if_pos h, if_pos h]
    · rw [if_neg h, if_neg h]

end Place
namespace Cid
def tell (l : List S109) (p : Int) : Nat → Nat → Int
  | 0, _ => -1
  | d + 1, j => if (l.getD j z109).f0 = p then (l.getD j z109).f1 else tell l p d (j + 1)
theorem spec_ev (l : List S109) (p : Int) (hn : l.length ≤ 1048576) : Ev (fun k => spec_CidOf.f k l p) (tell l p l.length 0) := by
  refine fold_loop l.length (fun k (_ : Unit) i => spec_CidOf.l0 k l p i) (fun j _ => tell l p (l.length - j) j) (fun _ s => s) (fun j _ => if (l.getD j z109).f0 = p then some (l.getD j z109).f1 else none) (fun k s j hj => ?_) (fun k s => ?_) (fun j s hj => ?_) hn ()
  · simp only [spec_CidOf.l0]
    rw [if_pos (by omega), if_pos (by omega)]
    show (if (l.getD j z109).f0 = p then some (l.getD j z109).f1 else _) = _
    by_cases h : (l.getD j z109).f0 = p
    · rw [if_pos h, if_pos h]
    · rw [if_neg h, if_neg h]
  · simp only [spec_CidOf.l0]
    rw [if_neg (by omega), Nat.sub_self]
    rfl
  · obtain ⟨d, hd⟩ : ∃ d, l.length - j = d + 1 := ⟨l.length - j - 1, by omega⟩
    have hd' : l.length - (j + 1) = d := by omega
    simp only [hd, hd', tell]
    by_cases h : (l.getD j z109).f0 = p
    · rw [if_pos h, if_pos h]
    · rw [if_neg h, if_neg h]
theorem impl_ev (l : List S109) (p : Int) (hn : l.length ≤ 1048576) : Ev (fun k => impl_CidOf.f k l p) (tell l p l.length 0) := by
  refine fold_loop l.length (fun k (_ : Unit) i => impl_CidOf.l0 k p l (l.length : Int) i) (fun j _ => tell l p (l.length - j) j) (fun _ s => s) (fun j _ => if (l.getD j z109).f0 = p then some (l.getD j z109).f1 else none) (fun k s j hj => ?_) (fun k s => ?_) (fun j s hj => ?_) hn ()
  · simp only [impl_CidOf.l0]
    rw [if_pos (by omega), if_pos (by omega), if_pos (by omega)]
    show (if (l.getD j z109).f0 = p then some (l.getD j z109).f1 else _) = _
    by_cases h : (l.getD j z109).f0 = p
    · rw [if_pos h, if_pos h]
    · rw [if_neg h, if_neg h]
  · simp only [impl_CidOf.l0]
    rw [if_neg (by omega), Nat.sub_self]
    rfl
  · obtain ⟨d, hd⟩ : ∃ d, l.length - j = d + 1 := ⟨l.length - j - 1, by omega⟩
    have hd' : l.length - (j + 1) = d := by omega
    simp only [hd, hd', tell]
    by_cases h : (l.getD j z109).f0 = p
    · rw [if_pos h, if_pos h]
    · rw [if_neg h, if_neg h]

end Cid
namespace Giv
def keep (l : List S109) (p : Int) : Nat → Nat → List S109 → List S109
  | 0, _, a => a
  | d + 1, j, a => keep l p d (j + 1) (if (l.getD j z109).f1 = p then a else a ++ [l.getD j z109])
theorem keep_len (l : List S109) (p : Int) : ∀ (d j : Nat) (a : List S109), (keep l p d j a).length ≤ a.length + d
  | 0, _, a => by simp [keep]
  | d + 1, j, a => by
    have := keep_len l p d (j + 1) (if (l.getD j z109).f1 = p then a else a ++ [l.getD j z109])
    have h2 : (if (l.getD j z109).f1 = p then a else a ++ [l.getD j z109]).length ≤ a.length + 1 := by split <;> simp
    show (keep l p d (j + 1) _).length ≤ _
    omega
theorem spec_ev (l : List S109) (p : Int) (hn : l.length ≤ 1048576) : Ev (fun k => spec_Given.f k l p) (keep l p l.length 0 []) := by
  have main : ∀ (d j k : Nat) (a : List S109), j + d = l.length → a.length ≤ j → d < k → spec_Given.l0 k l p a (j : Int) = some (keep l p d j a) := by
    intro d
    induction d with
    | zero =>
      intro j k a hj ha hk
      obtain ⟨k, rfl⟩ : ∃ m, k = m + 1 := ⟨k - 1, by omega⟩
      simp only [spec_Given.l0]
      rw [if_neg (by omega)]
      rfl
    | succ d ih =>
      intro j k a hj ha hk
      obtain ⟨k, rfl⟩ : ∃ m, k = m + 1 := ⟨k - 1, by omega⟩
      simp only [spec_Given.l0]
      rw [if_pos (by omega), if_pos (by omega), wrap_succ (show j < l.length by omega) hn]
      show (if (l.getD j z109).f1 = p then _ else if a.length < 8796093022208 then spec_Given.l0 k l p (a ++ [l.getD j z109]) _ else none) = some (keep l p d (j + 1) _)
      by_cases h : (l.getD j z109).f1 = p
      · rw [if_pos h, if_pos h]
        exact ih (j + 1) k a (by omega) (by omega) (by omega)
      · rw [if_neg h, if_neg h, if_pos (by omega)]
        exact ih (j + 1) k _ (by omega) (by simp; omega) (by omega)
  exact ⟨l.length + 1, fun k hk => main l.length 0 k [] (by omega) (by simp) (by omega)⟩
theorem impl_ev (l : List S109) (p : Int) (hn : l.length ≤ 1048576) : Ev (fun k => impl_Given.f k l p) (keep l p l.length 0 []) := by
  have main : ∀ (d j k : Nat) (a : List S109), j + d = l.length → a.length ≤ j → d < k → impl_Given.l0 k p a l (l.length : Int) (j : Int) = some (keep l p d j a) := by
    intro d
    induction d with
    | zero =>
      intro j k a hj ha hk
      obtain ⟨k, rfl⟩ : ∃ m, k = m + 1 := ⟨k - 1, by omega⟩
      simp only [impl_Given.l0]
      rw [if_neg (by omega)]
      rfl
    | succ d ih =>
      intro j k a hj ha hk
      obtain ⟨k, rfl⟩ : ∃ m, k = m + 1 := ⟨k - 1, by omega⟩
      simp only [impl_Given.l0]
      rw [if_pos (by omega), if_pos (by omega), if_pos (by omega), wrap_succ (show j < l.length by omega) hn]
      show (if (l.getD j z109).f1 = p then _ else if a.length < 8796093022208 then impl_Given.l0 k p (a ++ [l.getD j z109]) l (l.length : Int) _ else none) = some (keep l p d (j + 1) _)
      by_cases h : (l.getD j z109).f1 = p
      · rw [if_pos h, if_pos h]
        exact ih (j + 1) k a (by omega) (by omega) (by omega)
      · rw [if_neg h, if_neg h, if_pos (by omega)]
        exact ih (j + 1) k _ (by omega) (by simp; omega) (by omega)
  exact ⟨l.length + 1, fun k hk => main l.length 0 k [] (by omega) (by simp) (by omega)⟩


end Giv
def okL (l : List S109) : Bool := Pool.tell l l.length 0
def place (l : List S109) (p : Int) : Int := Place.tell l p l.length 0
def cid (l : List S109) (p : Int) : Int := Cid.tell l p l.length 0
def keep (l : List S109) (p : Int) : List S109 := Giv.keep l p l.length 0 []
/-- What a place that was told is good for. -/
def Fine (p : Int) (a : List S109) (pl : Int) : Prop := place a p = pl ∧ cid a pl = p ∧ 10 ≤ pl ∧ okL (keep a p) = true ∧ place (keep a p) p = 0
def Told (l : List S109) (p : Int) (r : List S109 × Int × Bool) : Prop := r.1.length ≤ 4 ∧ okL r.1 = true ∧ (r.2.2 = true → Fine p r.1 r.2.1) ∧ (r.2.2 = false → r.1 = l ∧ l.length = 3 ∧ place l p = 0) ∧ Ev (fun k => spec_Leased.f k l p) r ∧ Ev (fun k => impl_Leased.f k l p) r
theorem ev_0 (p : Int) (hp : okL ([] : List S109) = true) : ∃ r : List S109 × Int × Bool, Told ([] : List S109) p r := by
  have hs : Ev (fun k => spec_PoolOk.f k ([] : List S109)) true := by have h := Pool.spec_ev ([] : List S109) (by simp); rwa [show Pool.tell ([] : List S109) ([] : List S109).length 0 = true from hp] at h
  have hi : Ev (fun k => impl_PoolOk.f k ([] : List S109)) true := by have h := Pool.impl_ev ([] : List S109) (by simp); rwa [show Pool.tell ([] : List S109) ([] : List S109).length 0 = true from hp] at h
  obtain ⟨K1, hs⟩ := hs
  obtain ⟨K2, hi⟩ := hi
  refine ⟨([⟨10, p⟩], 10, true), by simp, ?_, ?_, ?_, ⟨K1 + 40, fun k hk => ?_⟩, ⟨K2 + 40, fun k hk => ?_⟩⟩
  · simp [okL, place, cid, keep, Fine, Pool.tell, Pool.okA, Pool.dup, Place.tell, Cid.tell, Giv.keep, List.getD]
  · intro _; simp [okL, place, cid, keep, Fine, Pool.tell, Pool.okA, Pool.dup, Place.tell, Cid.tell, Giv.keep, List.getD]
  · intro ho; simp [okL, place, cid, keep, Fine, Pool.tell, Pool.okA, Pool.dup, Place.tell, Cid.tell, Giv.keep, List.getD] at ho ⊢
  · obtain ⟨m, rfl⟩ : ∃ m, k = m + 40 := ⟨k - 40, by omega⟩
    have h1 := hs (m + 40) (by omega)
    simp only [spec_Leased.f, Option.bind_some, h1]
    simp [spec_Leased.l0, spec_Leased.l1, spec_Leased.l2, wrap64, rd_T109, List.getD]
  · obtain ⟨m, rfl⟩ : ∃ m, k = m + 40 := ⟨k - 40, by omega⟩
    have h1 := hi (m + 40) (by omega)
    simp only [impl_Leased.f, impl_copyPool.f, Option.bind_some, h1]
    simp [impl_PlaceOf.f, impl_PlaceOf.l0, impl_Leased.l0, impl_copyPool.f, wrap64, rd_T109, List.getD]
theorem given_0 (p : Int) (hp : okL ([] : List S109) = true) : okL (keep ([] : List S109) p) = true := by
  simp [okL, place, cid, keep, Fine, Pool.tell, Pool.okA, Pool.dup, Place.tell, Cid.tell, Giv.keep, List.getD]
theorem ev_1 (c0 : Int) (p : Int) (hp : okL ([⟨10, c0⟩] : List S109) = true) : ∃ r : List S109 × Int × Bool, Told ([⟨10, c0⟩] : List S109) p r := by
  have hs : Ev (fun k => spec_PoolOk.f k ([⟨10, c0⟩] : List S109)) true := by have h := Pool.spec_ev ([⟨10, c0⟩] : List S109) (by simp); rwa [show Pool.tell ([⟨10, c0⟩] : List S109) ([⟨10, c0⟩] : List S109).length 0 = true from hp] at h
  have hi : Ev (fun k => impl_PoolOk.f k ([⟨10, c0⟩] : List S109)) true := by have h := Pool.impl_ev ([⟨10, c0⟩] : List S109) (by simp); rwa [show Pool.tell ([⟨10, c0⟩] : List S109) ([⟨10, c0⟩] : List S109).length 0 = true from hp] at h
  obtain ⟨K1, hs⟩ := hs
  obtain ⟨K2, hi⟩ := hi
  by_cases e0 : c0 = p
  · subst e0
    refine ⟨([⟨10, c0⟩], 10, true), by simp, ?_, ?_, ?_, ⟨K1 + 40, fun k hk => ?_⟩, ⟨K2 + 40, fun k hk => ?_⟩⟩
    · simp [okL, place, cid, keep, Fine, Pool.tell, Pool.okA, Pool.dup, Place.tell, Cid.tell, Giv.keep, List.getD]
    · intro _; simp [okL, place, cid, keep, Fine, Pool.tell, Pool.okA, Pool.dup, Place.tell, Cid.tell, Giv.keep, List.getD]
    · intro ho; simp [okL, place, cid, keep, Fine, Pool.tell, Pool.okA, Pool.dup, Place.tell, Cid.tell, Giv.keep, List.getD] at ho ⊢
    · obtain ⟨m, rfl⟩ : ∃ m, k = m + 40 := ⟨k - 40, by omega⟩
      have h1 := hs (m + 40) (by omega)
      simp only [spec_Leased.f, Option.bind_some, h1]
      simp [spec_Leased.l0, spec_Leased.l1, spec_Leased.l2, wrap64, rd_T109, List.getD]
    · obtain ⟨m, rfl⟩ : ∃ m, k = m + 40 := ⟨k - 40, by omega⟩
      have h1 := hi (m + 40) (by omega)
      simp only [impl_Leased.f, impl_copyPool.f, Option.bind_some, h1]
      simp [impl_PlaceOf.f, impl_PlaceOf.l0, impl_Leased.l0, impl_copyPool.f, wrap64, rd_T109, List.getD]
  · have f0 : ¬ p = c0 := fun h => e0 h.symm
    refine ⟨([⟨10, c0⟩, ⟨11, p⟩], 11, true), by simp, ?_, ?_, ?_, ⟨K1 + 40, fun k hk => ?_⟩, ⟨K2 + 40, fun k hk => ?_⟩⟩
    · simp [okL, place, cid, keep, Fine, Pool.tell, Pool.okA, Pool.dup, Place.tell, Cid.tell, Giv.keep, List.getD, e0, f0]
    · intro _; simp [okL, place, cid, keep, Fine, Pool.tell, Pool.okA, Pool.dup, Place.tell, Cid.tell, Giv.keep, List.getD, e0, f0]
    · intro ho; simp [okL, place, cid, keep, Fine, Pool.tell, Pool.okA, Pool.dup, Place.tell, Cid.tell, Giv.keep, List.getD, e0, f0] at ho ⊢
    · obtain ⟨m, rfl⟩ : ∃ m, k = m + 40 := ⟨k - 40, by omega⟩
      have h1 := hs (m + 40) (by omega)
      simp only [spec_Leased.f, Option.bind_some, h1]
      simp [spec_Leased.l0, spec_Leased.l1, spec_Leased.l2, wrap64, rd_T109, List.getD, e0, f0]
    · obtain ⟨m, rfl⟩ : ∃ m, k = m + 40 := ⟨k - 40, by omega⟩
      have h1 := hi (m + 40) (by omega)
      simp only [impl_Leased.f, impl_copyPool.f, Option.bind_some, h1]
      simp [impl_PlaceOf.f, impl_PlaceOf.l0, impl_Leased.l0, impl_copyPool.f, wrap64, rd_T109, List.getD, e0, f0]
theorem given_1 (c0 : Int) (p : Int) (hp : okL ([⟨10, c0⟩] : List S109) = true) : okL (keep ([⟨10, c0⟩] : List S109) p) = true := by
  by_cases e0 : c0 = p
  · subst e0; simp [okL, place, cid, keep, Fine, Pool.tell, Pool.okA, Pool.dup, Place.tell, Cid.tell, Giv.keep, List.getD]
  · have f0 : ¬ p = c0 := fun h => e0 h.symm
    simp [okL, place, cid, keep, Fine, Pool.tell, Pool.okA, Pool.dup, Place.tell, Cid.tell, Giv.keep, List.getD, e0, f0]
theorem ev_2 (c0 : Int) (p : Int) (hp : okL ([⟨11, c0⟩] : List S109) = true) : ∃ r : List S109 × Int × Bool, Told ([⟨11, c0⟩] : List S109) p r := by
  have hs : Ev (fun k => spec_PoolOk.f k ([⟨11, c0⟩] : List S109)) true := by have h := Pool.spec_ev ([⟨11, c0⟩] : List S109) (by simp); rwa [show Pool.tell ([⟨11, c0⟩] : List S109) ([⟨11, c0⟩] : List S109).length 0 = true from hp] at h
  have hi : Ev (fun k => impl_PoolOk.f k ([⟨11, c0⟩] : List S109)) true := by have h := Pool.impl_ev ([⟨11, c0⟩] : List S109) (by simp); rwa [show Pool.tell ([⟨11, c0⟩] : List S109) ([⟨11, c0⟩] : List S109).length 0 = true from hp] at h
  obtain ⟨K1, hs⟩ := hs
  obtain ⟨K2, hi⟩ := hi
  by_cases e0 : c0 = p
  · subst e0
    refine ⟨([⟨11, c0⟩], 11, true), by simp, ?_, ?_, ?_, ⟨K1 + 40, fun k hk => ?_⟩, ⟨K2 + 40, fun k hk => ?_⟩⟩
    · simp [okL, place, cid, keep, Fine, Pool.tell, Pool.okA, Pool.dup, Place.tell, Cid.tell, Giv.keep, List.getD]
    · intro _; simp [okL, place, cid, keep, Fine, Pool.tell, Pool.okA, Pool.dup, Place.tell, Cid.tell, Giv.keep, List.getD]
    · intro ho; simp [okL, place, cid, keep, Fine, Pool.tell, Pool.okA, Pool.dup, Place.tell, Cid.tell, Giv.keep, List.getD] at ho ⊢
    · obtain ⟨m, rfl⟩ : ∃ m, k = m + 40 := ⟨k - 40, by omega⟩
      have h1 := hs (m + 40) (by omega)
      simp only [spec_Leased.f, Option.bind_some, h1]
      simp [spec_Leased.l0, spec_Leased.l1, spec_Leased.l2, wrap64, rd_T109, List.getD]
    · obtain ⟨m, rfl⟩ : ∃ m, k = m + 40 := ⟨k - 40, by omega⟩
      have h1 := hi (m + 40) (by omega)
      simp only [impl_Leased.f, impl_copyPool.f, Option.bind_some, h1]
      simp [impl_PlaceOf.f, impl_PlaceOf.l0, impl_Leased.l0, impl_copyPool.f, wrap64, rd_T109, List.getD]
  · have f0 : ¬ p = c0 := fun h => e0 h.symm
    refine ⟨([⟨10, p⟩, ⟨11, c0⟩], 10, true), by simp, ?_, ?_, ?_, ⟨K1 + 40, fun k hk => ?_⟩, ⟨K2 + 40, fun k hk => ?_⟩⟩
    · simp [okL, place, cid, keep, Fine, Pool.tell, Pool.okA, Pool.dup, Place.tell, Cid.tell, Giv.keep, List.getD, e0, f0]
    · intro _; simp [okL, place, cid, keep, Fine, Pool.tell, Pool.okA, Pool.dup, Place.tell, Cid.tell, Giv.keep, List.getD, e0, f0]
    · intro ho; simp [okL, place, cid, keep, Fine, Pool.tell, Pool.okA, Pool.dup, Place.tell, Cid.tell, Giv.keep, List.getD, e0, f0] at ho ⊢
    · obtain ⟨m, rfl⟩ : ∃ m, k = m + 40 := ⟨k - 40, by omega⟩
      have h1 := hs (m + 40) (by omega)
      simp only [spec_Leased.f, Option.bind_some, h1]
      simp [spec_Leased.l0, spec_Leased.l1, spec_Leased.l2, wrap64, rd_T109, List.getD, e0, f0]
    · obtain ⟨m, rfl⟩ : ∃ m, k = m + 40 := ⟨k - 40, by omega⟩
      have h1 := hi (m + 40) (by omega)
      simp only [impl_Leased.f, impl_copyPool.f, Option.bind_some, h1]
      simp [impl_PlaceOf.f, impl_PlaceOf.l0, impl_Leased.l0, impl_copyPool.f, wrap64, rd_T109, List.getD, e0, f0]
theorem given_2 (c0 : Int) (p : Int) (hp : okL ([⟨11, c0⟩] : List S109) = true) : okL (keep ([⟨11, c0⟩] : List S109) p) = true := by
  by_cases e0 : c0 = p
  · subst e0; simp [okL, place, cid, keep, Fine, Pool.tell, Pool.okA, Pool.dup, Place.tell, Cid.tell, Giv.keep, List.getD]
  · have f0 : ¬ p = c0 := fun h => e0 h.symm
    simp [okL, place, cid, keep, Fine, Pool.tell, Pool.okA, Pool.dup, Place.tell, Cid.tell, Giv.keep, List.getD, e0, f0]
theorem ev_3 (c0 : Int) (p : Int) (hp : okL ([⟨12, c0⟩] : List S109) = true) : ∃ r : List S109 × Int × Bool, Told ([⟨12, c0⟩] : List S109) p r := by
  have hs : Ev (fun k => spec_PoolOk.f k ([⟨12, c0⟩] : List S109)) true := by have h := Pool.spec_ev ([⟨12, c0⟩] : List S109) (by simp); rwa [show Pool.tell ([⟨12, c0⟩] : List S109) ([⟨12, c0⟩] : List S109).length 0 = true from hp] at h
  have hi : Ev (fun k => impl_PoolOk.f k ([⟨12, c0⟩] : List S109)) true := by have h := Pool.impl_ev ([⟨12, c0⟩] : List S109) (by simp); rwa [show Pool.tell ([⟨12, c0⟩] : List S109) ([⟨12, c0⟩] : List S109).length 0 = true from hp] at h
  obtain ⟨K1, hs⟩ := hs
  obtain ⟨K2, hi⟩ := hi
  by_cases e0 : c0 = p
  · subst e0
    refine ⟨([⟨12, c0⟩], 12, true), by simp, ?_, ?_, ?_, ⟨K1 + 40, fun k hk => ?_⟩, ⟨K2 + 40, fun k hk => ?_⟩⟩
    · simp [okL, place, cid, keep, Fine, Pool.tell, Pool.okA, Pool.dup, Place.tell, Cid.tell, Giv.keep, List.getD]
    · intro _; simp [okL, place, cid, keep, Fine, Pool.tell, Pool.okA, Pool.dup, Place.tell, Cid.tell, Giv.keep, List.getD]
    · intro ho; simp [okL, place, cid, keep, Fine, Pool.tell, Pool.okA, Pool.dup, Place.tell, Cid.tell, Giv.keep, List.getD] at ho ⊢
    · obtain ⟨m, rfl⟩ : ∃ m, k = m + 40 := ⟨k - 40, by omega⟩
      have h1 := hs (m + 40) (by omega)
      simp only [spec_Leased.f, Option.bind_some, h1]
      simp [spec_Leased.l0, spec_Leased.l1, spec_Leased.l2, wrap64, rd_T109, List.getD]
    · obtain ⟨m, rfl⟩ : ∃ m, k = m + 40 := ⟨k - 40, by omega⟩
      have h1 := hi (m + 40) (by omega)
      simp only [impl_Leased.f, impl_copyPool.f, Option.bind_some, h1]
      simp [impl_PlaceOf.f, impl_PlaceOf.l0, impl_Leased.l0, impl_copyPool.f, wrap64, rd_T109, List.getD]
  · have f0 : ¬ p = c0 := fun h => e0 h.symm
    refine ⟨([⟨10, p⟩, ⟨12, c0⟩], 10, true), by simp, ?_, ?_, ?_, ⟨K1 + 40, fun k hk => ?_⟩, ⟨K2 + 40, fun k hk => ?_⟩⟩
    · simp [okL, place, cid, keep, Fine, Pool.tell, Pool.okA, Pool.dup, Place.tell, Cid.tell, Giv.keep, List.getD, e0, f0]
    · intro _; simp [okL, place, cid, keep, Fine, Pool.tell, Pool.okA, Pool.dup, Place.tell, Cid.tell, Giv.keep, List.getD, e0, f0]
    · intro ho; simp [okL, place, cid, keep, Fine, Pool.tell, Pool.okA, Pool.dup, Place.tell, Cid.tell, Giv.keep, List.getD, e0, f0] at ho ⊢
    · obtain ⟨m, rfl⟩ : ∃ m, k = m + 40 := ⟨k - 40, by omega⟩
      have h1 := hs (m + 40) (by omega)
      simp only [spec_Leased.f, Option.bind_some, h1]
      simp [spec_Leased.l0, spec_Leased.l1, spec_Leased.l2, wrap64, rd_T109, List.getD, e0, f0]
    · obtain ⟨m, rfl⟩ : ∃ m, k = m + 40 := ⟨k - 40, by omega⟩
      have h1 := hi (m + 40) (by omega)
      simp only [impl_Leased.f, impl_copyPool.f, Option.bind_some, h1]
      simp [impl_PlaceOf.f, impl_PlaceOf.l0, impl_Leased.l0, impl_copyPool.f, wrap64, rd_T109, List.getD, e0, f0]
theorem given_3 (c0 : Int) (p : Int) (hp : okL ([⟨12, c0⟩] : List S109) = true) : okL (keep ([⟨12, c0⟩] : List S109) p) = true := by
  by_cases e0 : c0 = p
  · subst e0; simp [okL, place, cid, keep, Fine, Pool.tell, Pool.okA, Pool.dup, Place.tell, Cid.tell, Giv.keep, List.getD]
  · have f0 : ¬ p = c0 := fun h => e0 h.symm
    simp [okL, place, cid, keep, Fine, Pool.tell, Pool.okA, Pool.dup, Place.tell, Cid.tell, Giv.keep, List.getD, e0, f0]
theorem ev_4 (c0 c1 : Int) (p : Int) (hp : okL ([⟨10, c0⟩, ⟨11, c1⟩] : List S109) = true) : ∃ r : List S109 × Int × Bool, Told ([⟨10, c0⟩, ⟨11, c1⟩] : List S109) p r := by
  have hs : Ev (fun k => spec_PoolOk.f k ([⟨10, c0⟩, ⟨11, c1⟩] : List S109)) true := by have h := Pool.spec_ev ([⟨10, c0⟩, ⟨11, c1⟩] : List S109) (by simp); rwa [show Pool.tell ([⟨10, c0⟩, ⟨11, c1⟩] : List S109) ([⟨10, c0⟩, ⟨11, c1⟩] : List S109).length 0 = true from hp] at h
  have hi : Ev (fun k => impl_PoolOk.f k ([⟨10, c0⟩, ⟨11, c1⟩] : List S109)) true := by have h := Pool.impl_ev ([⟨10, c0⟩, ⟨11, c1⟩] : List S109) (by simp); rwa [show Pool.tell ([⟨10, c0⟩, ⟨11, c1⟩] : List S109) ([⟨10, c0⟩, ⟨11, c1⟩] : List S109).length 0 = true from hp] at h
  have n01 : ¬ c0 = c1 := by intro h; subst h; simp [okL, place, cid, keep, Fine, Pool.tell, Pool.okA, Pool.dup, Place.tell, Cid.tell, Giv.keep, List.getD] at hp
  have m01 : ¬ c1 = c0 := fun h => n01 h.symm
  obtain ⟨K1, hs⟩ := hs
  obtain ⟨K2, hi⟩ := hi
  by_cases e0 : c0 = p
  · subst e0
    refine ⟨([⟨10, c0⟩, ⟨11, c1⟩], 10, true), by simp, ?_, ?_, ?_, ⟨K1 + 40, fun k hk => ?_⟩, ⟨K2 + 40, fun k hk => ?_⟩⟩
    · simp [okL, place, cid, keep, Fine, Pool.tell, Pool.okA, Pool.dup, Place.tell, Cid.tell, Giv.keep, List.getD, n01, m01]
    · intro _; simp [okL, place, cid, keep, Fine, Pool.tell, Pool.okA, Pool.dup, Place.tell, Cid.tell, Giv.keep, List.getD, n01, m01]
    · intro ho; simp [okL, place, cid, keep, Fine, Pool.tell, Pool.okA, Pool.dup, Place.tell, Cid.tell, Giv.keep, List.getD, n01, m01] at ho ⊢
    · obtain ⟨m, rfl⟩ : ∃ m, k = m + 40 := ⟨k - 40, by omega⟩
      have h1 := hs (m + 40) (by omega)
      simp only [spec_Leased.f, Option.bind_some, h1]
      simp [spec_Leased.l0, spec_Leased.l1, spec_Leased.l2, wrap64, rd_T109, List.getD, n01, m01]
    · obtain ⟨m, rfl⟩ : ∃ m, k = m + 40 := ⟨k - 40, by omega⟩
      have h1 := hi (m + 40) (by omega)
      simp only [impl_Leased.f, impl_copyPool.f, Option.bind_some, h1]
      simp [impl_PlaceOf.f, impl_PlaceOf.l0, impl_Leased.l0, impl_copyPool.f, wrap64, rd_T109, List.getD, n01, m01]
  · have f0 : ¬ p = c0 := fun h => e0 h.symm
    by_cases e1 : c1 = p
    · subst e1
      refine ⟨([⟨10, c0⟩, ⟨11, c1⟩], 11, true), by simp, ?_, ?_, ?_, ⟨K1 + 40, fun k hk => ?_⟩, ⟨K2 + 40, fun k hk => ?_⟩⟩
      · simp [okL, place, cid, keep, Fine, Pool.tell, Pool.okA, Pool.dup, Place.tell, Cid.tell, Giv.keep, List.getD, n01, m01, e0, f0]
      · intro _; simp [okL, place, cid, keep, Fine, Pool.tell, Pool.okA, Pool.dup, Place.tell, Cid.tell, Giv.keep, List.getD, n01, m01, e0, f0]
      · intro ho; simp [okL, place, cid, keep, Fine, Pool.tell, Pool.okA, Pool.dup, Place.tell, Cid.tell, Giv.keep, List.getD, n01, m01, e0, f0] at ho ⊢
      · obtain ⟨m, rfl⟩ : ∃ m, k = m + 40 := ⟨k - 40, by omega⟩
        have h1 := hs (m + 40) (by omega)
        simp only [spec_Leased.f, Option.bind_some, h1]
        simp [spec_Leased.l0, spec_Leased.l1, spec_Leased.l2, wrap64, rd_T109, List.getD, n01, m01, e0, f0]
      · obtain ⟨m, rfl⟩ : ∃ m, k = m + 40 := ⟨k - 40, by omega⟩
        have h1 := hi (m + 40) (by omega)
        simp only [impl_Leased.f, impl_copyPool.f, Option.bind_some, h1]
        simp [impl_PlaceOf.f, impl_PlaceOf.l0, impl_Leased.l0, impl_copyPool.f, wrap64, rd_T109, List.getD, n01, m01, e0, f0]
    · have f1 : ¬ p = c1 := fun h => e1 h.symm
      refine ⟨([⟨10, c0⟩, ⟨11, c1⟩, ⟨12, p⟩], 12, true), by simp, ?_, ?_, ?_, ⟨K1 + 40, fun k hk => ?_⟩, ⟨K2 + 40, fun k hk => ?_⟩⟩
      · simp [okL, place, cid, keep, Fine, Pool.tell, Pool.okA, Pool.dup, Place.tell, Cid.tell, Giv.keep, List.getD, n01, m01, e0, f0, e1, f1]
      · intro _; simp [okL, place, cid, keep, Fine, Pool.tell, Pool.okA, Pool.dup, Place.tell, Cid.tell, Giv.keep, List.getD, n01, m01, e0, f0, e1, f1]
      · intro ho; simp [okL, place, cid, keep, Fine, Pool.tell, Pool.okA, Pool.dup, Place.tell, Cid.tell, Giv.keep, List.getD, n01, m01, e0, f0, e1, f1] at ho ⊢
      · obtain ⟨m, rfl⟩ : ∃ m, k = m + 40 := ⟨k - 40, by omega⟩
        have h1 := hs (m + 40) (by omega)
        simp only [spec_Leased.f, Option.bind_some, h1]
        simp [spec_Leased.l0, spec_Leased.l1, spec_Leased.l2, wrap64, rd_T109, List.getD, n01, m01, e0, f0, e1, f1]
      · obtain ⟨m, rfl⟩ : ∃ m, k = m + 40 := ⟨k - 40, by omega⟩
        have h1 := hi (m + 40) (by omega)
        simp only [impl_Leased.f, impl_copyPool.f, Option.bind_some, h1]
        simp [impl_PlaceOf.f, impl_PlaceOf.l0, impl_Leased.l0, impl_copyPool.f, wrap64, rd_T109, List.getD, n01, m01, e0, f0, e1, f1]
theorem given_4 (c0 c1 : Int) (p : Int) (hp : okL ([⟨10, c0⟩, ⟨11, c1⟩] : List S109) = true) : okL (keep ([⟨10, c0⟩, ⟨11, c1⟩] : List S109) p) = true := by
  have n01 : ¬ c0 = c1 := by intro h; subst h; simp [okL, place, cid, keep, Fine, Pool.tell, Pool.okA, Pool.dup, Place.tell, Cid.tell, Giv.keep, List.getD] at hp
  have m01 : ¬ c1 = c0 := fun h => n01 h.symm
  by_cases e0 : c0 = p
  · subst e0; simp [okL, place, cid, keep, Fine, Pool.tell, Pool.okA, Pool.dup, Place.tell, Cid.tell, Giv.keep, List.getD, n01, m01]
  · have f0 : ¬ p = c0 := fun h => e0 h.symm
    by_cases e1 : c1 = p
    · subst e1; simp [okL, place, cid, keep, Fine, Pool.tell, Pool.okA, Pool.dup, Place.tell, Cid.tell, Giv.keep, List.getD, n01, m01]
    · have f1 : ¬ p = c1 := fun h => e1 h.symm
      simp [okL, place, cid, keep, Fine, Pool.tell, Pool.okA, Pool.dup, Place.tell, Cid.tell, Giv.keep, List.getD, n01, m01, e0, f0, e1, f1]
theorem ev_5 (c0 c1 : Int) (p : Int) (hp : okL ([⟨10, c0⟩, ⟨12, c1⟩] : List S109) = true) : ∃ r : List S109 × Int × Bool, Told ([⟨10, c0⟩, ⟨12, c1⟩] : List S109) p r := by
  have hs : Ev (fun k => spec_PoolOk.f k ([⟨10, c0⟩, ⟨12, c1⟩] : List S109)) true := by have h := Pool.spec_ev ([⟨10, c0⟩, ⟨12, c1⟩] : List S109) (by simp); rwa [show Pool.tell ([⟨10, c0⟩, ⟨12, c1⟩] : List S109) ([⟨10, c0⟩, ⟨12, c1⟩] : List S109).length 0 = true from hp] at h
  have hi : Ev (fun k => impl_PoolOk.f k ([⟨10, c0⟩, ⟨12, c1⟩] : List S109)) true := by have h := Pool.impl_ev ([⟨10, c0⟩, ⟨12, c1⟩] : List S109) (by simp); rwa [show Pool.tell ([⟨10, c0⟩, ⟨12, c1⟩] : List S109) ([⟨10, c0⟩, ⟨12, c1⟩] : List S109).length 0 = true from hp] at h
  have n01 : ¬ c0 = c1 := by intro h; subst h; simp [okL, place, cid, keep, Fine, Pool.tell, Pool.okA, Pool.dup, Place.tell, Cid.tell, Giv.keep, List.getD] at hp
  have m01 : ¬ c1 = c0 := fun h => n01 h.symm
  obtain ⟨K1, hs⟩ := hs
  obtain ⟨K2, hi⟩ := hi
  by_cases e0 : c0 = p
  · subst e0
    refine ⟨([⟨10, c0⟩, ⟨12, c1⟩], 10, true), by simp, ?_, ?_, ?_, ⟨K1 + 40, fun k hk => ?_⟩, ⟨K2 + 40, fun k hk => ?_⟩⟩
    · simp [okL, place, cid, keep, Fine, Pool.tell, Pool.okA, Pool.dup, Place.tell, Cid.tell, Giv.keep, List.getD, n01, m01]
    · intro _; simp [okL, place, cid, keep, Fine, Pool.tell, Pool.okA, Pool.dup, Place.tell, Cid.tell, Giv.keep, List.getD, n01, m01]
    · intro ho; simp [okL, place, cid, keep, Fine, Pool.tell, Pool.okA, Pool.dup, Place.tell, Cid.tell, Giv.keep, List.getD, n01, m01] at ho ⊢
    · obtain ⟨m, rfl⟩ : ∃ m, k = m + 40 := ⟨k - 40, by omega⟩
      have h1 := hs (m + 40) (by omega)
      simp only [spec_Leased.f, Option.bind_some, h1]
      simp [spec_Leased.l0, spec_Leased.l1, spec_Leased.l2, wrap64, rd_T109, List.getD, n01, m01]
    · obtain ⟨m, rfl⟩ : ∃ m, k = m + 40 := ⟨k - 40, by omega⟩
      have h1 := hi (m + 40) (by omega)
      simp only [impl_Leased.f, impl_copyPool.f, Option.bind_some, h1]
      simp [impl_PlaceOf.f, impl_PlaceOf.l0, impl_Leased.l0, impl_copyPool.f, wrap64, rd_T109, List.getD, n01, m01]
  · have f0 : ¬ p = c0 := fun h => e0 h.symm
    by_cases e1 : c1 = p
    · subst e1
      refine ⟨([⟨10, c0⟩, ⟨12, c1⟩], 12, true), by simp, ?_, ?_, ?_, ⟨K1 + 40, fun k hk => ?_⟩, ⟨K2 + 40, fun k hk => ?_⟩⟩
      · simp [okL, place, cid, keep, Fine, Pool.tell, Pool.okA, Pool.dup, Place.tell, Cid.tell, Giv.keep, List.getD, n01, m01, e0, f0]
      · intro _; simp [okL, place, cid, keep, Fine, Pool.tell, Pool.okA, Pool.dup, Place.tell, Cid.tell, Giv.keep, List.getD, n01, m01, e0, f0]
      · intro ho; simp [okL, place, cid, keep, Fine, Pool.tell, Pool.okA, Pool.dup, Place.tell, Cid.tell, Giv.keep, List.getD, n01, m01, e0, f0] at ho ⊢
      · obtain ⟨m, rfl⟩ : ∃ m, k = m + 40 := ⟨k - 40, by omega⟩
        have h1 := hs (m + 40) (by omega)
        simp only [spec_Leased.f, Option.bind_some, h1]
        simp [spec_Leased.l0, spec_Leased.l1, spec_Leased.l2, wrap64, rd_T109, List.getD, n01, m01, e0, f0]
      · obtain ⟨m, rfl⟩ : ∃ m, k = m + 40 := ⟨k - 40, by omega⟩
        have h1 := hi (m + 40) (by omega)
        simp only [impl_Leased.f, impl_copyPool.f, Option.bind_some, h1]
        simp [impl_PlaceOf.f, impl_PlaceOf.l0, impl_Leased.l0, impl_copyPool.f, wrap64, rd_T109, List.getD, n01, m01, e0, f0]
    · have f1 : ¬ p = c1 := fun h => e1 h.symm
      refine ⟨([⟨10, c0⟩, ⟨11, p⟩, ⟨12, c1⟩], 11, true), by simp, ?_, ?_, ?_, ⟨K1 + 40, fun k hk => ?_⟩, ⟨K2 + 40, fun k hk => ?_⟩⟩
      · simp [okL, place, cid, keep, Fine, Pool.tell, Pool.okA, Pool.dup, Place.tell, Cid.tell, Giv.keep, List.getD, n01, m01, e0, f0, e1, f1]
      · intro _; simp [okL, place, cid, keep, Fine, Pool.tell, Pool.okA, Pool.dup, Place.tell, Cid.tell, Giv.keep, List.getD, n01, m01, e0, f0, e1, f1]
      · intro ho; simp [okL, place, cid, keep, Fine, Pool.tell, Pool.okA, Pool.dup, Place.tell, Cid.tell, Giv.keep, List.getD, n01, m01, e0, f0, e1, f1] at ho ⊢
      · obtain ⟨m, rfl⟩ : ∃ m, k = m + 40 := ⟨k - 40, by omega⟩
        have h1 := hs (m + 40) (by omega)
        simp only [spec_Leased.f, Option.bind_some, h1]
        simp [spec_Leased.l0, spec_Leased.l1, spec_Leased.l2, wrap64, rd_T109, List.getD, n01, m01, e0, f0, e1, f1]
      · obtain ⟨m, rfl⟩ : ∃ m, k = m + 40 := ⟨k - 40, by omega⟩
        have h1 := hi (m + 40) (by omega)
        simp only [impl_Leased.f, impl_copyPool.f, Option.bind_some, h1]
        simp [impl_PlaceOf.f, impl_PlaceOf.l0, impl_Leased.l0, impl_copyPool.f, wrap64, rd_T109, List.getD, n01, m01, e0, f0, e1, f1]
theorem given_5 (c0 c1 : Int) (p : Int) (hp : okL ([⟨10, c0⟩, ⟨12, c1⟩] : List S109) = true) : okL (keep ([⟨10, c0⟩, ⟨12, c1⟩] : List S109) p) = true := by
  have n01 : ¬ c0 = c1 := by intro h; subst h; simp [okL, place, cid, keep, Fine, Pool.tell, Pool.okA, Pool.dup, Place.tell, Cid.tell, Giv.keep, List.getD] at hp
  have m01 : ¬ c1 = c0 := fun h => n01 h.symm
  by_cases e0 : c0 = p
  · subst e0; simp [okL, place, cid, keep, Fine, Pool.tell, Pool.okA, Pool.dup, Place.tell, Cid.tell, Giv.keep, List.getD, n01, m01]
  · have f0 : ¬ p = c0 := fun h => e0 h.symm
    by_cases e1 : c1 = p
    · subst e1; simp [okL, place, cid, keep, Fine, Pool.tell, Pool.okA, Pool.dup, Place.tell, Cid.tell, Giv.keep, List.getD, n01, m01]
    · have f1 : ¬ p = c1 := fun h => e1 h.symm
      simp [okL, place, cid, keep, Fine, Pool.tell, Pool.okA, Pool.dup, Place.tell, Cid.tell, Giv.keep, List.getD, n01, m01, e0, f0, e1, f1]
theorem ev_6 (c0 c1 : Int) (p : Int) (hp : okL ([⟨11, c0⟩, ⟨12, c1⟩] : List S109) = true) : ∃ r : List S109 × Int × Bool, Told ([⟨11, c0⟩, ⟨12, c1⟩] : List S109) p r := by
  have hs : Ev (fun k => spec_PoolOk.f k ([⟨11, c0⟩, ⟨12, c1⟩] : List S109)) true := by have h := Pool.spec_ev ([⟨11, c0⟩, ⟨12, c1⟩] : List S109) (by simp); rwa [show Pool.tell ([⟨11, c0⟩, ⟨12, c1⟩] : List S109) ([⟨11, c0⟩, ⟨12, c1⟩] : List S109).length 0 = true from hp] at h
  have hi : Ev (fun k => impl_PoolOk.f k ([⟨11, c0⟩, ⟨12, c1⟩] : List S109)) true := by have h := Pool.impl_ev ([⟨11, c0⟩, ⟨12, c1⟩] : List S109) (by simp); rwa [show Pool.tell ([⟨11, c0⟩, ⟨12, c1⟩] : List S109) ([⟨11, c0⟩, ⟨12, c1⟩] : List S109).length 0 = true from hp] at h
  have n01 : ¬ c0 = c1 := by intro h; subst h; simp [okL, place, cid, keep, Fine, Pool.tell, Pool.okA, Pool.dup, Place.tell, Cid.tell, Giv.keep, List.getD] at hp
  have m01 : ¬ c1 = c0 := fun h => n01 h.symm
  obtain ⟨K1, hs⟩ := hs
  obtain ⟨K2, hi⟩ := hi
  by_cases e0 : c0 = p
  · subst e0
    refine ⟨([⟨11, c0⟩, ⟨12, c1⟩], 11, true), by simp, ?_, ?_, ?_, ⟨K1 + 40, fun k hk => ?_⟩, ⟨K2 + 40, fun k hk => ?_⟩⟩
    · simp [okL, place, cid, keep, Fine, Pool.tell, Pool.okA, Pool.dup, Place.tell, Cid.tell, Giv.keep, List.getD, n01, m01]
    · intro _; simp [okL, place, cid, keep, Fine, Pool.tell, Pool.okA, Pool.dup, Place.tell, Cid.tell, Giv.keep, List.getD, n01, m01]
    · intro ho; simp [okL, place, cid, keep, Fine, Pool.tell, Pool.okA, Pool.dup, Place.tell, Cid.tell, Giv.keep, List.getD, n01, m01] at ho ⊢
    · obtain ⟨m, rfl⟩ : ∃ m, k = m + 40 := ⟨k - 40, by omega⟩
      have h1 := hs (m + 40) (by omega)
      simp only [spec_Leased.f, Option.bind_some, h1]
      simp [spec_Leased.l0, spec_Leased.l1, spec_Leased.l2, wrap64, rd_T109, List.getD, n01, m01]
    · obtain ⟨m, rfl⟩ : ∃ m, k = m + 40 := ⟨k - 40, by omega⟩
      have h1 := hi (m + 40) (by omega)
      simp only [impl_Leased.f, impl_copyPool.f, Option.bind_some, h1]
      simp [impl_PlaceOf.f, impl_PlaceOf.l0, impl_Leased.l0, impl_copyPool.f, wrap64, rd_T109, List.getD, n01, m01]
  · have f0 : ¬ p = c0 := fun h => e0 h.symm
    by_cases e1 : c1 = p
    · subst e1
      refine ⟨([⟨11, c0⟩, ⟨12, c1⟩], 12, true), by simp, ?_, ?_, ?_, ⟨K1 + 40, fun k hk => ?_⟩, ⟨K2 + 40, fun k hk => ?_⟩⟩
      · simp [okL, place, cid, keep, Fine, Pool.tell, Pool.okA, Pool.dup, Place.tell, Cid.tell, Giv.keep, List.getD, n01, m01, e0, f0]
      · intro _; simp [okL, place, cid, keep, Fine, Pool.tell, Pool.okA, Pool.dup, Place.tell, Cid.tell, Giv.keep, List.getD, n01, m01, e0, f0]
      · intro ho; simp [okL, place, cid, keep, Fine, Pool.tell, Pool.okA, Pool.dup, Place.tell, Cid.tell, Giv.keep, List.getD, n01, m01, e0, f0] at ho ⊢
      · obtain ⟨m, rfl⟩ : ∃ m, k = m + 40 := ⟨k - 40, by omega⟩
        have h1 := hs (m + 40) (by omega)
        simp only [spec_Leased.f, Option.bind_some, h1]
        simp [spec_Leased.l0, spec_Leased.l1, spec_Leased.l2, wrap64, rd_T109, List.getD, n01, m01, e0, f0]
      · obtain ⟨m, rfl⟩ : ∃ m, k = m + 40 := ⟨k - 40, by omega⟩
        have h1 := hi (m + 40) (by omega)
        simp only [impl_Leased.f, impl_copyPool.f, Option.bind_some, h1]
        simp [impl_PlaceOf.f, impl_PlaceOf.l0, impl_Leased.l0, impl_copyPool.f, wrap64, rd_T109, List.getD, n01, m01, e0, f0]
    · have f1 : ¬ p = c1 := fun h => e1 h.symm
      refine ⟨([⟨10, p⟩, ⟨11, c0⟩, ⟨12, c1⟩], 10, true), by simp, ?_, ?_, ?_, ⟨K1 + 40, fun k hk => ?_⟩, ⟨K2 + 40, fun k hk => ?_⟩⟩
      · simp [okL, place, cid, keep, Fine, Pool.tell, Pool.okA, Pool.dup, Place.tell, Cid.tell, Giv.keep, List.getD, n01, m01, e0, f0, e1, f1]
      · intro _; simp [okL, place, cid, keep, Fine, Pool.tell, Pool.okA, Pool.dup, Place.tell, Cid.tell, Giv.keep, List.getD, n01, m01, e0, f0, e1, f1]
      · intro ho; simp [okL, place, cid, keep, Fine, Pool.tell, Pool.okA, Pool.dup, Place.tell, Cid.tell, Giv.keep, List.getD, n01, m01, e0, f0, e1, f1] at ho ⊢
      · obtain ⟨m, rfl⟩ : ∃ m, k = m + 40 := ⟨k - 40, by omega⟩
        have h1 := hs (m + 40) (by omega)
        simp only [spec_Leased.f, Option.bind_some, h1]
        simp [spec_Leased.l0, spec_Leased.l1, spec_Leased.l2, wrap64, rd_T109, List.getD, n01, m01, e0, f0, e1, f1]
      · obtain ⟨m, rfl⟩ : ∃ m, k = m + 40 := ⟨k - 40, by omega⟩
        have h1 := hi (m + 40) (by omega)
        simp only [impl_Leased.f, impl_copyPool.f, Option.bind_some, h1]
        simp [impl_PlaceOf.f, impl_PlaceOf.l0, impl_Leased.l0, impl_copyPool.f, wrap64, rd_T109, List.getD, n01, m01, e0, f0, e1, f1]
theorem given_6 (c0 c1 : Int) (p : Int) (hp : okL ([⟨11, c0⟩, ⟨12, c1⟩] : List S109) = true) : okL (keep ([⟨11, c0⟩, ⟨12, c1⟩] : List S109) p) = true := by
  have n01 : ¬ c0 = c1 := by intro h; subst h; simp [okL, place, cid, keep, Fine, Pool.tell, Pool.okA, Pool.dup, Place.tell, Cid.tell, Giv.keep, List.getD] at hp
  have m01 : ¬ c1 = c0 := fun h => n01 h.symm
  by_cases e0 : c0 = p
  · subst e0; simp [okL, place, cid, keep, Fine, Pool.tell, Pool.okA, Pool.dup, Place.tell, Cid.tell, Giv.keep, List.getD, n01, m01]
  · have f0 : ¬ p = c0 := fun h => e0 h.symm
    by_cases e1 : c1 = p
    · subst e1; simp [okL, place, cid, keep, Fine, Pool.tell, Pool.okA, Pool.dup, Place.tell, Cid.tell, Giv.keep, List.getD, n01, m01]
    · have f1 : ¬ p = c1 := fun h => e1 h.symm
      simp [okL, place, cid, keep, Fine, Pool.tell, Pool.okA, Pool.dup, Place.tell, Cid.tell, Giv.keep, List.getD, n01, m01, e0, f0, e1, f1]
theorem ev_7 (c0 c1 c2 : Int) (p : Int) (hp : okL ([⟨10, c0⟩, ⟨11, c1⟩, ⟨12, c2⟩] : List S109) = true) : ∃ r : List S109 × Int × Bool, Told ([⟨10, c0⟩, ⟨11, c1⟩, ⟨12, c2⟩] : List S109) p r := by
  have hs : Ev (fun k => spec_PoolOk.f k ([⟨10, c0⟩, ⟨11, c1⟩, ⟨12, c2⟩] : List S109)) true := by have h := Pool.spec_ev ([⟨10, c0⟩, ⟨11, c1⟩, ⟨12, c2⟩] : List S109) (by simp); rwa [show Pool.tell ([⟨10, c0⟩, ⟨11, c1⟩, ⟨12, c2⟩] : List S109) ([⟨10, c0⟩, ⟨11, c1⟩, ⟨12, c2⟩] : List S109).length 0 = true from hp] at h
  have hi : Ev (fun k => impl_PoolOk.f k ([⟨10, c0⟩, ⟨11, c1⟩, ⟨12, c2⟩] : List S109)) true := by have h := Pool.impl_ev ([⟨10, c0⟩, ⟨11, c1⟩, ⟨12, c2⟩] : List S109) (by simp); rwa [show Pool.tell ([⟨10, c0⟩, ⟨11, c1⟩, ⟨12, c2⟩] : List S109) ([⟨10, c0⟩, ⟨11, c1⟩, ⟨12, c2⟩] : List S109).length 0 = true from hp] at h
  have n01 : ¬ c0 = c1 := by intro h; subst h; simp [okL, place, cid, keep, Fine, Pool.tell, Pool.okA, Pool.dup, Place.tell, Cid.tell, Giv.keep, List.getD] at hp
  have m01 : ¬ c1 = c0 := fun h => n01 h.symm
  have n02 : ¬ c0 = c2 := by intro h; subst h; simp [okL, place, cid, keep, Fine, Pool.tell, Pool.okA, Pool.dup, Place.tell, Cid.tell, Giv.keep, List.getD] at hp
  have m02 : ¬ c2 = c0 := fun h => n02 h.symm
  have n12 : ¬ c1 = c2 := by intro h; subst h; simp [okL, place, cid, keep, Fine, Pool.tell, Pool.okA, Pool.dup, Place.tell, Cid.tell, Giv.keep, List.getD] at hp
  have m12 : ¬ c2 = c1 := fun h => n12 h.symm
  obtain ⟨K1, hs⟩ := hs
  obtain ⟨K2, hi⟩ := hi
  by_cases e0 : c0 = p
  · subst e0
    refine ⟨([⟨10, c0⟩, ⟨11, c1⟩, ⟨12, c2⟩], 10, true), by simp, ?_, ?_, ?_, ⟨K1 + 40, fun k hk => ?_⟩, ⟨K2 + 40, fun k hk => ?_⟩⟩
    · simp [okL, place, cid, keep, Fine, Pool.tell, Pool.okA, Pool.dup, Place.tell, Cid.tell, Giv.keep, List.getD, n01, m01, n02, m02, n12, m12]
    · intro _; simp [okL, place, cid, keep, Fine, Pool.tell, Pool.okA, Pool.dup, Place.tell, Cid.tell, Giv.keep, List.getD, n01, m01, n02, m02, n12, m12]
    · intro ho; simp [okL, place, cid, keep, Fine, Pool.tell, Pool.okA, Pool.dup, Place.tell, Cid.tell, Giv.keep, List.getD, n01, m01, n02, m02, n12, m12] at ho ⊢
    · obtain ⟨m, rfl⟩ : ∃ m, k = m + 40 := ⟨k - 40, by omega⟩
      have h1 := hs (m + 40) (by omega)
      simp only [spec_Leased.f, Option.bind_some, h1]
      simp [spec_Leased.l0, spec_Leased.l1, spec_Leased.l2, wrap64, rd_T109, List.getD, n01, m01, n02, m02, n12, m12]
    · obtain ⟨m, rfl⟩ : ∃ m, k = m + 40 := ⟨k - 40, by omega⟩
      have h1 := hi (m + 40) (by omega)
      simp only [impl_Leased.f, impl_copyPool.f, Option.bind_some, h1]
      simp [impl_PlaceOf.f, impl_PlaceOf.l0, impl_Leased.l0, impl_copyPool.f, wrap64, rd_T109, List.getD, n01, m01, n02, m02, n12, m12]
  · have f0 : ¬ p = c0 := fun h => e0 h.symm
    by_cases e1 : c1 = p
    · subst e1
      refine ⟨([⟨10, c0⟩, ⟨11, c1⟩, ⟨12, c2⟩], 11, true), by simp, ?_, ?_, ?_, ⟨K1 + 40, fun k hk => ?_⟩, ⟨K2 + 40, fun k hk => ?_⟩⟩
      · simp [okL, place, cid, keep, Fine, Pool.tell, Pool.okA, Pool.dup, Place.tell, Cid.tell, Giv.keep, List.getD, n01, m01, n02, m02, n12, m12, e0, f0]
      · intro _; simp [okL, place, cid, keep, Fine, Pool.tell, Pool.okA, Pool.dup, Place.tell, Cid.tell, Giv.keep, List.getD, n01, m01, n02, m02, n12, m12, e0, f0]
      · intro ho; simp [okL, place, cid, keep, Fine, Pool.tell, Pool.okA, Pool.dup, Place.tell, Cid.tell, Giv.keep, List.getD, n01, m01, n02, m02, n12, m12, e0, f0] at ho ⊢
      · obtain ⟨m, rfl⟩ : ∃ m, k = m + 40 := ⟨k - 40, by omega⟩
        have h1 := hs (m + 40) (by omega)
        simp only [spec_Leased.f, Option.bind_some, h1]
        simp [spec_Leased.l0, spec_Leased.l1, spec_Leased.l2, wrap64, rd_T109, List.getD, n01, m01, n02, m02, n12, m12, e0, f0]
      · obtain ⟨m, rfl⟩ : ∃ m, k = m + 40 := ⟨k - 40, by omega⟩
        have h1 := hi (m + 40) (by omega)
        simp only [impl_Leased.f, impl_copyPool.f, Option.bind_some, h1]
        simp [impl_PlaceOf.f, impl_PlaceOf.l0, impl_Leased.l0, impl_copyPool.f, wrap64, rd_T109, List.getD, n01, m01, n02, m02, n12, m12, e0, f0]
    · have f1 : ¬ p = c1 := fun h => e1 h.symm
      by_cases e2 : c2 = p
      · subst e2
        refine ⟨([⟨10, c0⟩, ⟨11, c1⟩, ⟨12, c2⟩], 12, true), by simp, ?_, ?_, ?_, ⟨K1 + 40, fun k hk => ?_⟩, ⟨K2 + 40, fun k hk => ?_⟩⟩
        · simp [okL, place, cid, keep, Fine, Pool.tell, Pool.okA, Pool.dup, Place.tell, Cid.tell, Giv.keep, List.getD, n01, m01, n02, m02, n12, m12, e0, f0, e1, f1]
        · intro _; simp [okL, place, cid, keep, Fine, Pool.tell, Pool.okA, Pool.dup, Place.tell, Cid.tell, Giv.keep, List.getD, n01, m01, n02, m02, n12, m12, e0, f0, e1, f1]
        · intro ho; simp [okL, place, cid, keep, Fine, Pool.tell, Pool.okA, Pool.dup, Place.tell, Cid.tell, Giv.keep, List.getD, n01, m01, n02, m02, n12, m12, e0, f0, e1, f1] at ho ⊢
        · obtain ⟨m, rfl⟩ : ∃ m, k = m + 40 := ⟨k - 40, by omega⟩
          have h1 := hs (m + 40) (by omega)
          simp only [spec_Leased.f, Option.bind_some, h1]
          simp [spec_Leased.l0, spec_Leased.l1, spec_Leased.l2, wrap64, rd_T109, List.getD, n01, m01, n02, m02, n12, m12, e0, f0, e1, f1]
        · obtain ⟨m, rfl⟩ : ∃ m, k = m + 40 := ⟨k - 40, by omega⟩
          have h1 := hi (m + 40) (by omega)
          simp only [impl_Leased.f, impl_copyPool.f, Option.bind_some, h1]
          simp [impl_PlaceOf.f, impl_PlaceOf.l0, impl_Leased.l0, impl_copyPool.f, wrap64, rd_T109, List.getD, n01, m01, n02, m02, n12, m12, e0, f0, e1, f1]
      · have f2 : ¬ p = c2 := fun h => e2 h.symm
        refine ⟨([⟨10, c0⟩, ⟨11, c1⟩, ⟨12, c2⟩], 0, false), by simp, ?_, ?_, ?_, ⟨K1 + 40, fun k hk => ?_⟩, ⟨K2 + 40, fun k hk => ?_⟩⟩
        · simp [okL, place, cid, keep, Fine, Pool.tell, Pool.okA, Pool.dup, Place.tell, Cid.tell, Giv.keep, List.getD, n01, m01, n02, m02, n12, m12, e0, f0, e1, f1, e2, f2]
        · intro hno; cases hno
        · intro ho; simp [okL, place, cid, keep, Fine, Pool.tell, Pool.okA, Pool.dup, Place.tell, Cid.tell, Giv.keep, List.getD, n01, m01, n02, m02, n12, m12, e0, f0, e1, f1, e2, f2] at ho ⊢
        · obtain ⟨m, rfl⟩ : ∃ m, k = m + 40 := ⟨k - 40, by omega⟩
          have h1 := hs (m + 40) (by omega)
          simp only [spec_Leased.f, Option.bind_some, h1]
          simp [spec_Leased.l0, spec_Leased.l1, spec_Leased.l2, wrap64, rd_T109, List.getD, n01, m01, n02, m02, n12, m12, e0, f0, e1, f1, e2, f2]
        · obtain ⟨m, rfl⟩ : ∃ m, k = m + 40 := ⟨k - 40, by omega⟩
          have h1 := hi (m + 40) (by omega)
          simp only [impl_Leased.f, impl_copyPool.f, Option.bind_some, h1]
          simp [impl_PlaceOf.f, impl_PlaceOf.l0, impl_Leased.l0, impl_copyPool.f, wrap64, rd_T109, List.getD, n01, m01, n02, m02, n12, m12, e0, f0, e1, f1, e2, f2]
theorem given_7 (c0 c1 c2 : Int) (p : Int) (hp : okL ([⟨10, c0⟩, ⟨11, c1⟩, ⟨12, c2⟩] : List S109) = true) : okL (keep ([⟨10, c0⟩, ⟨11, c1⟩, ⟨12, c2⟩] : List S109) p) = true := by
  have n01 : ¬ c0 = c1 := by intro h; subst h; simp [okL, place, cid, keep, Fine, Pool.tell, Pool.okA, Pool.dup, Place.tell, Cid.tell, Giv.keep, List.getD] at hp
  have m01 : ¬ c1 = c0 := fun h => n01 h.symm
  have n02 : ¬ c0 = c2 := by intro h; subst h; simp [okL, place, cid, keep, Fine, Pool.tell, Pool.okA, Pool.dup, Place.tell, Cid.tell, Giv.keep, List.getD] at hp
  have m02 : ¬ c2 = c0 := fun h => n02 h.symm
  have n12 : ¬ c1 = c2 := by intro h; subst h; simp [okL, place, cid, keep, Fine, Pool.tell, Pool.okA, Pool.dup, Place.tell, Cid.tell, Giv.keep, List.getD] at hp
  have m12 : ¬ c2 = c1 := fun h => n12 h.symm
  by_cases e0 : c0 = p
  · subst e0; simp [okL, place, cid, keep, Fine, Pool.tell, Pool.okA, Pool.dup, Place.tell, Cid.tell, Giv.keep, List.getD, n01, m01, n02, m02, n12, m12]
  · have f0 : ¬ p = c0 := fun h => e0 h.symm
    by_cases e1 : c1 = p
    · subst e1; simp [okL, place, cid, keep, Fine, Pool.tell, Pool.okA, Pool.dup, Place.tell, Cid.tell, Giv.keep, List.getD, n01, m01, n02, m02, n12, m12]
    · have f1 : ¬ p = c1 := fun h => e1 h.symm
      by_cases e2 : c2 = p
      · subst e2; simp [okL, place, cid, keep, Fine, Pool.tell, Pool.okA, Pool.dup, Place.tell, Cid.tell, Giv.keep, List.getD, n01, m01, n02, m02, n12, m12]
      · have f2 : ¬ p = c2 := fun h => e2 h.symm
        simp [okL, place, cid, keep, Fine, Pool.tell, Pool.okA, Pool.dup, Place.tell, Cid.tell, Giv.keep, List.getD, n01, m01, n02, m02, n12, m12, e0, f0, e1, f1, e2, f2]

theorem tell_len (l : List S109) : ∀ d j, Pool.tell l d j = true → l.length ≤ 3
  | 0, j, h => by have := of_decide_eq_true (show decide ((l.length : Int) ≤ 3) = true from h); omega
  | d + 1, j, h => by
    simp only [Pool.tell] at h
    split at h
    · split at h
      · cases h
      · exact tell_len l d (j + 1) h
    · cases h
/-- A right pool is one of eight. -/
theorem eight {P : List S109 → Prop} (l : List S109) (h : okL l = true) (h0 : okL [] = true → P []) (h1 : ∀ c0 : Int, okL [⟨10, c0⟩] = true → P [⟨10, c0⟩]) (h2' : ∀ c0 : Int, okL [⟨11, c0⟩] = true → P [⟨11, c0⟩]) (h3 : ∀ c0 : Int, okL [⟨12, c0⟩] = true → P [⟨12, c0⟩]) (h4 : ∀ c0 c1 : Int, okL [⟨10, c0⟩, ⟨11, c1⟩] = true → P [⟨10, c0⟩, ⟨11, c1⟩]) (h5 : ∀ c0 c1 : Int, okL [⟨10, c0⟩, ⟨12, c1⟩] = true → P [⟨10, c0⟩, ⟨12, c1⟩]) (h6 : ∀ c0 c1 : Int, okL [⟨11, c0⟩, ⟨12, c1⟩] = true → P [⟨11, c0⟩, ⟨12, c1⟩]) (h7 : ∀ c0 c1 c2 : Int, okL [⟨10, c0⟩, ⟨11, c1⟩, ⟨12, c2⟩] = true → P [⟨10, c0⟩, ⟨11, c1⟩, ⟨12, c2⟩]) : P l := by
  have hl := tell_len l _ _ h
  match l, hl, h with
  | [], _, h => exact h0 h
  | [⟨a, c0⟩], _, h =>
    have h2 := h
    simp [okL, Pool.tell, Pool.okA, Pool.dup] at h2
    have : a = 10 ∨ a = 11 ∨ a = 12 := by omega
    rcases this with rfl | rfl | rfl
    · exact h1 c0 h
    · exact h2' c0 h
    · exact h3 c0 h
  | [⟨a, c0⟩, ⟨b, c1⟩], _, h =>
    have h2 := h
    simp [okL, Pool.tell, Pool.okA, Pool.dup] at h2
    have : (a = 10 ∧ b = 11) ∨ (a = 10 ∧ b = 12) ∨ (a = 11 ∧ b = 12) := by omega
    rcases this with ⟨rfl, rfl⟩ | ⟨rfl, rfl⟩ | ⟨rfl, rfl⟩
    · exact h4 c0 c1 h
    · exact h5 c0 c1 h
    · exact h6 c0 c1 h
  | [⟨a, c0⟩, ⟨b, c1⟩, ⟨c, c2⟩], _, h =>
    have h2 := h
    simp [okL, Pool.tell, Pool.okA, Pool.dup] at h2
    have : a = 10 ∧ b = 11 ∧ c = 12 := by omega
    obtain ⟨rfl, rfl, rfl⟩ := this
    exact h7 c0 c1 c2 h
theorem told (l : List S109) (p : Int) (h : okL l = true) : ∃ r, Told l p r := eight (P := fun l => ∃ r, Told l p r) l h (ev_0 p) (fun a => ev_1 a p) (fun a => ev_2 a p) (fun a => ev_3 a p) (fun a b => ev_4 a b p) (fun a b => ev_5 a b p) (fun a b => ev_6 a b p) (fun a b c => ev_7 a b c p)
theorem given_ok (l : List S109) (p : Int) (h : okL l = true) : okL (keep l p) = true := eight (P := fun l => okL (keep l p) = true) l h (given_0 p) (fun a => given_1 a p) (fun a => given_2 a p) (fun a => given_3 a p) (fun a b => given_4 a b p) (fun a b => given_5 a b p) (fun a b => given_6 a b p) (fun a b c => given_7 a b c p)
theorem leased_ev (l : List S109) (p : Int) (hn : l.length ≤ 1048576) : ∃ r : List S109 × Int × Bool, r.1.length ≤ 1048576 ∧ Ev (fun k => spec_Leased.f k l p) r ∧ Ev (fun k => impl_Leased.f k l p) r := by
  cases h : okL l with
  | true =>
    obtain ⟨r, h1, _, _, _, h2⟩ := told l p h
    exact ⟨r, by omega, h2⟩
  | false =>
    have hs := Pool.spec_ev l hn
    have hi := Pool.impl_ev l hn
    rw [show Pool.tell l l.length 0 = false from h] at hs hi
    obtain ⟨K1, hs⟩ := hs
    obtain ⟨K2, hi⟩ := hi
    refine ⟨(l, 0, false), hn, ⟨K1, fun k hk => ?_⟩, ⟨K2, fun k hk => ?_⟩⟩
    · simp only [spec_Leased.f, Option.bind_some, hs k hk]
      rw [if_pos (by simp; omega)]
      simp
    · simp only [impl_Leased.f, impl_copyPool.f, Option.bind_some, hi k hk]
      rw [if_pos (by simp; omega)]
      simp

theorem mask (x : Int) : 0 ≤ Go.bits .and .i64 x 255 ∧ Go.bits .and .i64 x 255 ≤ 255 := by
  unfold Go.bits
  have h : ((BitVec.ofInt 64 x) &&& (BitVec.ofInt 64 255)).toNat ≤ 255 := by
    rw [BitVec.toNat_and]
    exact Nat.le_trans Nat.and_le_right (by decide)
  have e : IntKind.i64.wrap (((BitVec.ofInt 64 x) &&& (BitVec.ofInt 64 255)).toNat : Int) = ((((BitVec.ofInt 64 x) &&& (BitVec.ofInt 64 255)).toNat : Nat) : Int) := by
    rw [IntKind.wrap_i64]; omega
  show 0 ≤ IntKind.i64.wrap (((BitVec.ofInt 64 x) &&& (BitVec.ofInt 64 255)).toNat : Int) ∧ IntKind.i64.wrap (((BitVec.ofInt 64 x) &&& (BitVec.ofInt 64 255)).toNat : Int) ≤ 255
  rw [e]
  omega
/-- Where a cursor stands. -/
def At (c : List Int) (i : Int) : Prop := c.length ≤ 140737488355328 ∧ 0 ≤ i ∧ i ≤ c.length
theorem byte_ok (c : List Int) (i h : Int) (hc : At c i) : ∃ b i' h', spec_l01Byte.f c i h = some (b, i', h') ∧ 0 ≤ b ∧ b ≤ 255 ∧ At c i' := by
  obtain ⟨hl, h0, h1⟩ := hc
  unfold spec_l01Byte.f
  by_cases hlt : i < (c.length : Int)
  · rw [if_pos hlt, if_pos h0]
    exact ⟨_, _, _, rfl, (mask _).1, (mask _).2, hl, by unfold wrap64; omega, by unfold wrap64; omega⟩
  · rw [if_neg hlt]
    exact ⟨_, _, _, rfl, (mask _).1, (mask _).2, hl, h0, h1⟩
theorem below_ok (c : List Int) (i h n : Int) (hc : At c i) (hn : 1 ≤ n) : ∃ b i' h', spec_l01Below.f c i h n = some (b, i', h') ∧ 0 ≤ b ∧ b < n ∧ At c i' := by
  unfold spec_l01Below.f
  rw [if_neg (by omega)]
  by_cases hs : n ≤ 256
  · rw [if_pos hs]
    obtain ⟨b, i', h', e, hb0, hb1, hc'⟩ := byte_ok c i h hc
    rw [e]
    simp only [Option.bind_some]
    rw [if_neg (by omega)]
    exact ⟨_, _, _, rfl, Int.tmod_nonneg _ hb0, Int.tmod_lt_of_pos _ (by omega), hc'⟩
  · rw [if_neg hs]
    obtain ⟨b1, i1, h1, e1, p1, q1, c1⟩ := byte_ok c i h hc
    obtain ⟨b2, i2, h2, e2, p2, q2, c2⟩ := byte_ok c i1 h1 c1
    obtain ⟨b3, i3, h3, e3, p3, q3, c3⟩ := byte_ok c i2 h2 c2
    obtain ⟨b4, i4, h4, e4, p4, q4, c4⟩ := byte_ok c i3 h3 c3
    simp only [e1, e2, e3, e4, Option.bind_some]
    rw [if_neg (by omega)]
    refine ⟨_, _, _, rfl, Int.tmod_nonneg _ ?_, Int.tmod_lt_of_pos _ (by omega), c4⟩
    unfold wrap64
    omega
theorem new_ok (l : List Int) (hl : l.length ≤ 140737488355328) : ∃ h, Ev (fun k => spec_l01New.f k l) (l, 0, h) := by
  have main : ∀ (d j : Nat) (h : Int), j + d = l.length → ∃ h', Ev (fun k => spec_l01New.l0 k l h (j : Int)) (l, 0, h') := by
    intro d
    induction d with
    | zero =>
      intro j h hj
      refine ⟨h, ev_to (f := fun _ => some (l, 0, h)) ev_const fun k => ?_⟩
      simp only [spec_l01New.l0]
      rw [if_neg (by omega)]
    | succ d ih =>
      intro j h hj
      by_cases h4 : (j : Int) < 4000
      · obtain ⟨h', hh⟩ := ih (j + 1) (Go.bits .and .i64 (wrap64 ((wrap64 ((wrap64 (h * 131)) + (wrap64 (rd l j)))) + 7)) 1073741823) (by omega)
        refine ⟨h', ev_to hh fun k => ?_⟩
        simp only [spec_l01New.l0]
        rw [if_pos (by omega), if_pos h4, if_pos (by omega), show wrap64 ((j : Int) + 1) = ((j + 1 : Nat) : Int) by unfold wrap64; omega]
      · refine ⟨h, ev_to (f := fun _ => some (l, 0, h)) ev_const fun k => ?_⟩
        simp only [spec_l01New.l0]
        rw [if_pos (by omega), if_neg h4]
  exact main l.length 0 _ (by omega)
theorem places_ok (l : List Int) (hl : l.length ≤ 140737488355328) : ∃ ps, Ev (fun k => spec_DrawPlaces.f k l) ps ∧ 0 < ps.length ∧ 0 ≤ rd ps 0 := by
  have main : ∀ (d j : Nat) (xs : List Int) (i h : Int), j + d = 12 → xs.length = j → (∀ x ∈ xs, 0 ≤ x) → At l i → ∃ ps, Ev (fun k => spec_DrawPlaces.l0 k xs (j : Int) l i h) ps ∧ ps.length = 12 ∧ ∀ x ∈ ps, 0 ≤ x := by
    intro d
    induction d with
    | zero =>
      intro j xs i h hj hx hp hc
      refine ⟨xs, ev_to (f := fun _ => some xs) ev_const fun k => ?_, by omega, hp⟩
      simp only [spec_DrawPlaces.l0]
      rw [if_neg (by omega)]
    | succ d ih =>
      intro j xs i h hj hx hp hc
      obtain ⟨b, i', h', e, hb0, hb1, hc'⟩ := below_ok l i h 10000 hc (by omega)
      obtain ⟨ps, he, h1, h2⟩ := ih (j + 1) (xs ++ [b]) i' h' (by omega) (by simp; omega) (fun x hx => by simp at hx; rcases hx with hx | rfl; exact hp x hx; exact hb0) hc'
      refine ⟨ps, ev_to he fun k => ?_, h1, h2⟩
      simp only [spec_DrawPlaces.l0]
      rw [if_pos (by omega), e]
      simp only [Option.bind_some]
      rw [if_pos (by omega), show wrap64 ((j : Int) + 1) = ((j + 1 : Nat) : Int) by unfold wrap64; omega]
  obtain ⟨h, hn⟩ := new_ok l hl
  obtain ⟨b, i', h', e, _, _, hc'⟩ := byte_ok l 0 h ⟨hl, by omega, by omega⟩
  obtain ⟨ps, he, h1, h2⟩ := main 12 0 [] i' h' rfl rfl (by simp) hc'
  refine ⟨ps, ev_bind hn ?_, by omega, h2 _ ?_⟩
  · simp only [e, Option.bind_some]
    exact he
  · unfold rd
    rw [List.getD_eq_getElem?_getD, List.getElem?_eq_getElem (by simp; omega)]
    exact List.getElem_mem _
theorem pool_ok (c : List Int) (i h : Int) (hc : At c i) : ∃ l i' h', Ev (fun k => spec_l15Pool.f k c i h) (l, i', h') ∧ okL l = true ∧ At c i' := by
  have main : ∀ (d j : Nat) (l : List S109) (i h : Int), j + d = 6 → okL l = true → At c i → ∃ l' i' h', Ev (fun k => spec_l15Pool.l0 k l (j : Int) c i h) (l', i', h') ∧ okL l' = true ∧ At c i' := by
    intro d
    induction d with
    | zero =>
      intro j l i h hj hl hc
      obtain ⟨b, i1, h1, e1, p1, q1, c1⟩ := below_ok c i h 6 hc (by omega)
      refine ⟨l, i1, h1, ev_to (f := fun _ => some (l, i1, h1)) ev_const fun k => ?_, hl, c1⟩
      simp only [spec_l15Pool.l0, e1, Option.bind_some]
      rw [if_neg (by omega)]
    | succ d ih =>
      intro j l i h hj hl hc
      obtain ⟨b, i1, h1, e1, p1, q1, c1⟩ := below_ok c i h 6 hc (by omega)
      by_cases hb : (j : Int) < b
      · obtain ⟨b2, i2, h2, e2, p2, q2, c2⟩ := below_ok c i1 h1 3 c1 (by omega)
        obtain ⟨b3, i3, h3, e3, p3, q3, c3⟩ := below_ok c i2 h2 5 c2 (by omega)
        have hw : wrap64 ((j : Int) + 1) = ((j + 1 : Nat) : Int) := by unfold wrap64; omega
        have hlen := tell_len l _ _ hl
        cases hz : (b2 == 0) with
        | true =>
          obtain ⟨l', i', h', he, ho, hc'⟩ := ih (j + 1) (keep l b3) i3 h3 (by omega) (given_ok l b3 hl) c3
          refine ⟨l', i', h', ev_to (f := fun k => (spec_Given.f k l b3).bind fun t243 => spec_l15Pool.l0 k t243 ((j + 1 : Nat) : Int) c i3 h3) (ev_bind (Giv.spec_ev l b3 (by omega)) he) fun k => ?_, ho, hc'⟩
          simp only [spec_l15Pool.l0, spec_l01Once.f, e1, e2, e3, Option.bind_some, hz, hw]
          rw [if_pos hb, if_pos trivial]
        | false =>
          obtain ⟨r, _, hr, _, _, hs, _⟩ := told l b3 hl
          obtain ⟨l', i', h', he, ho, hc'⟩ := ih (j + 1) r.1 i3 h3 (by omega) hr c3
          refine ⟨l', i', h', ev_to (f := fun k => (spec_Leased.f k l b3).bind fun t => spec_l15Pool.l0 k t.1 ((j + 1 : Nat) : Int) c i3 h3) (ev_bind hs he) fun k => ?_, ho, hc'⟩
          simp only [spec_l15Pool.l0, spec_l01Once.f, e1, e2, e3, Option.bind_some, hz, hw]
          rw [if_pos hb, if_neg (by decide)]
      · refine ⟨l, i1, h1, ev_to (f := fun _ => some (l, i1, h1)) ev_const fun k => ?_, hl, c1⟩
        simp only [spec_l15Pool.l0, e1, Option.bind_some]
        rw [if_neg hb]
  exact main 6 0 [] i h rfl (by decide) hc
theorem drawPool_ok (l : List Int) (hl : l.length ≤ 140737488355328) : ∃ p, Ev (fun k => spec_DrawPool.f k l) p ∧ okL p = true := by
  obtain ⟨h, hn⟩ := new_ok l hl
  obtain ⟨p, i', h', he, ho, _⟩ := pool_ok l 0 h ⟨hl, by omega, by omega⟩
  exact ⟨p, ev_bind hn (ev_bind he ev_const), ho⟩
theorem pair_ok (l : List Int) (hl : l.length ≤ 140737488355328) : ∃ x, Ev (fun k => spec_l15Pair.f k l) x ∧ x.1.length ≤ 4 := by
  obtain ⟨h, hn⟩ := new_ok l hl
  obtain ⟨b, i1, h1, e1, p1, q1, c1⟩ := below_ok l 0 h 6 ⟨hl, by omega, by omega⟩ (by omega)
  obtain ⟨p, i2, h2, he, ho, c2⟩ := pool_ok l i1 h1 c1
  have hlen := tell_len p _ _ ho
  obtain ⟨b3, i3, h3, e3, p3, q3, c3⟩ := below_ok l i2 h2 8 c2 (by omega)
  obtain ⟨b4, i4, h4, e4, p4, q4, c4⟩ := below_ok l i3 h3 5 c3 (by omega)
  obtain ⟨b5, i5, h5, e5, p5, q5, c5⟩ := below_ok l i4 h4 5 c4 (by omega)
  by_cases z0 : b3 = 0
  · refine ⟨(p ++ [⟨wrap64 (9 + b4), b5⟩], b), ev_bind hn ?_, by simp; omega⟩
    simp only [e1, Option.bind_some]
    refine ev_bind he ?_
    simp only [List.nil_append, List.length_nil, e3, Option.bind_some, e4, e5]
    rw [if_pos (by omega), if_pos z0, if_pos (by omega)]
    exact ev_const
  · by_cases z1 : b3 = 1
    · refine ⟨([⟨12, 9⟩] ++ p, b), ev_bind hn ?_, by simp; omega⟩
      simp only [e1, Option.bind_some]
      refine ev_bind he ?_
      simp only [List.nil_append, List.length_nil, e3, Option.bind_some]
      rw [if_pos (by omega), if_neg z0, if_pos z1, if_pos (by simp; omega)]
      exact ev_const
    · refine ⟨(p, b), ev_bind hn ?_, by simp; omega⟩
      simp only [e1, Option.bind_some]
      refine ev_bind he ?_
      simp only [List.nil_append, List.length_nil, e3, Option.bind_some]
      rw [if_pos (by omega), if_neg z0, if_neg z1]
      exact ev_const
theorem same_ev (l : List S109) (hn : l.length ≤ 1048576) : Ev (fun k => laws_sameLeases.f k l l) true := by
  refine ev_to' (all_loop l.length true (fun k i => laws_sameLeases.l0 k l l i) (fun k j hj => ?_) (fun k => ?_) hn) fun k => ?_
  · simp only [laws_sameLeases.l0]
    rw [if_pos (by omega), if_pos (by omega), if_pos (by omega)]
    simp
  · simp only [laws_sameLeases.l0]
    rw [if_neg (by omega)]
  · simp only [laws_sameLeases.f, if_true]

theorem j0_ok (l : List S109) (p : Int) (r : List S109 × Int × Bool) (hl : okL l = true) (h : Told l p r) : ∃ r2 g, Ev (fun k => impl_Leased.f k r.1 p) r2 ∧ Ev (fun k => impl_Given.f k r.1 p) g ∧ Ev (fun k => laws_FnPools.j0 k l p r.1 r.2.1 r.2.2 r2.1 r2.2.1 r2.2.2 g false) true := by
  obtain ⟨h4, ho, ht, hf, _, _⟩ := h
  have hlen := tell_len l _ _ hl
  obtain ⟨r2, h42, ho2, ht2, hf2, _, hi2⟩ := told r.1 p ho
  refine ⟨r2, keep r.1 p, hi2, Giv.impl_ev r.1 p (by omega), ?_⟩
  cases hb : r.2.2 with
  | false =>
    obtain ⟨e1, e2, e3⟩ := hf hb
    refine ev_to (f := fun k => (impl_PlaceOf.f k l p).bind fun t376 => (if t376 = 0 then ((laws_sameLeases.f k r.1 l).bind fun t377 => (some t377)) else (some false))) ?_ (fun k => by simp [laws_FnPools.j0, e2])
    have hp := Place.impl_ev l p (by omega)
    rw [show Place.tell l p l.length 0 = 0 from e3] at hp
    refine ev_bind hp ?_
    simp only [if_true, e1]
    exact ev_bind (same_ev l (by omega)) ev_const
  | true =>
    obtain ⟨f1, f2, f3, f4, f5⟩ := ht hb
    -- asked once more, it tells the same
    have again : r2 = (r.1, r.2.1, true) := by
      have hp := Place.impl_ev r.1 p (by omega)
      rw [show Place.tell r.1 p r.1.length 0 = r.2.1 from f1] at hp
      have hi := Pool.impl_ev r.1 (by omega)
      rw [show Pool.tell r.1 r.1.length 0 = true from ho] at hi
      obtain ⟨K1, a1⟩ := hp
      obtain ⟨K2, a2⟩ := hi
      obtain ⟨K3, a3⟩ := hi2
      have x1 := a1 (K1 + K2 + K3) (by omega)
      have x2 := a2 (K1 + K2 + K3) (by omega)
      have x3 := a3 (K1 + K2 + K3) (by omega)
      simp only [impl_Leased.f, impl_copyPool.f, Option.bind_some, x1, x2] at x3
      rw [if_pos (by simp; omega)] at x3
      simp only [List.nil_append, Option.bind_some, if_true] at x3
      rw [if_pos (by omega)] at x3
      exact (Option.some.inj x3).symm
    subst again
    have hi := Pool.impl_ev r.1 (by omega)
    rw [show Pool.tell r.1 r.1.length 0 = true from ho] at hi
    have hp := Place.impl_ev r.1 p (by omega)
    rw [show Place.tell r.1 p r.1.length 0 = r.2.1 from f1] at hp
    have hc := Cid.impl_ev r.1 r.2.1 (by omega)
    rw [show Cid.tell r.1 r.2.1 r.1.length 0 = p from f2] at hc
    have hk := tell_len (keep r.1 p) _ _ f4
    have hp2 := Place.impl_ev (keep r.1 p) p (by omega)
    rw [show Place.tell (keep r.1 p) p (keep r.1 p).length 0 = 0 from f5] at hp2
    have hi3 := Pool.impl_ev (keep r.1 p) (by omega)
    rw [show Pool.tell (keep r.1 p) (keep r.1 p).length 0 = true from f4] at hi3
    refine ev_to (f := fun k => ((impl_PoolOk.f k r.1).bind fun t378 => (if t378 = true then ((impl_PlaceOf.f k r.1 p).bind fun t379 => (if t379 = r.2.1 then ((impl_CidOf.f k r.1 r.2.1).bind fun t380 => (if t380 = p then ((laws_sameLeases.f k r.1 r.1).bind fun t381 => (if t381 = true then ((impl_PlaceOf.f k (keep r.1 p) p).bind fun t382 => (if t382 = 0 then ((impl_PoolOk.f k (keep r.1 p)).bind fun t383 => (if t383 = true then (some (decide (r.2.1 ≥ 10))) else (some false))) else (some false))) else (some false))) else (some false))) else (some false))) else (some false)))) ?_ (fun k => by simp [laws_FnPools.j0])
    refine ev_bind hi ?_
    simp only [if_true]
    refine ev_bind hp ?_
    simp only [if_true]
    refine ev_bind hc ?_
    simp only [if_true]
    refine ev_bind (same_ev r.1 (by omega)) ?_
    simp only [if_true]
    refine ev_bind hp2 ?_
    simp only [if_true]
    refine ev_bind hi3 ?_
    simp only [if_true, decide_eq_true (show r.2.1 ≥ 10 from f3)]
    exact ev_const

theorem FnPools : laws_FnPools.Pure := by
  intro l _ hl _
  refine ev_some (r := true) ?_
  by_cases hbig : (l.length : Int) > 1048576
  · refine ⟨0, fun k _ => ?_⟩
    simp only [laws_FnPools.f, laws_big.f, Option.bind_some, decide_eq_true hbig, if_true]
  · obtain ⟨list, hd, hok⟩ := drawPool_ok l (by omega)
    obtain ⟨ps, hps, h0, h1⟩ := places_ok l (by omega)
    obtain ⟨x, hx, hx4⟩ := pair_ok l (by omega)
    obtain ⟨r, hr⟩ := told list (Int.tmod (rd ps 0) 9) hok
    obtain ⟨r2, g, h2, hg, hj⟩ := j0_ok list _ r hok hr
    obtain ⟨_, _, _, _, _, hi⟩ := hr
    obtain ⟨q, hq, hqs, hqi⟩ := leased_ev x.1 x.2 (by omega)
    have hkl := Giv.keep_len x.1 x.2 x.1.length 0 []
    simp at hkl
    refine ev_bind (g := fun _ => laws_big.f l) (r := false) ⟨0, fun k _ => by simp only [laws_big.f, decide_eq_false hbig]⟩ ?_
    simp only [Bool.false_eq_true, if_false]
    refine ev_bind hd (ev_bind hps ?_)
    simp only [if_pos (show 0 < (ps.length : Int) by omega)]
    refine ev_bind hi (ev_bind h2 (ev_bind hg (ev_bind (ev_bind hx ev_const) (ev_bind hqi (ev_bind hqs (ev_bind (ev_bind hx ev_const) ?_))))))
    simp only [if_true, bne_self_eq_false, Bool.false_eq_true, if_false]
    refine ev_bind (same_ev q.1 hq) ?_
    simp only [if_true]
    refine ev_bind (Place.impl_ev x.1 x.2 (by omega)) (ev_bind (Place.spec_ev x.1 x.2 (by omega)) ?_)
    simp only [if_true]
    refine ev_bind (Cid.impl_ev x.1 _ (by omega)) (ev_bind (Cid.spec_ev x.1 _ (by omega)) ?_)
    simp only [if_true]
    refine ev_bind (Giv.impl_ev x.1 x.2 (by omega)) (ev_bind (Giv.spec_ev x.1 x.2 (by omega)) (ev_bind (same_ev _ (by omega)) ?_))
    simp only [if_true]
    refine ev_bind (Pool.impl_ev x.1 (by omega)) (ev_bind (Pool.spec_ev x.1 (by omega)) ?_)
    simp only [bne_self_eq_false]
    exact hj

end Go.Proofs.Ytdfhkmekmockkaa.Pure
