/- The pure statement of FnExactRouteOf: over numbers and lists alone. -/
import Derived.Test.YtgikbhkbgfppoaaOpnFnExactRouteOf
import Derived.Test.YtgikbhkbgfppoaaGen
namespace Go.Proofs.Ytgikbhkbgfppoaa.PFnExactRouteOf
open Go.RowKit Go.Proofs.YtgikbhkbgfppoaaW.PrintWords Go.Proofs.YtgikbhkbgfppoaaW.PrintLast Go.Proofs.YtgikbhkbgfppoaaW.PrintMore Go.Proofs.Ytgikbhkbgfppoaa.Gen
set_option linter.unusedVariables false

def cv (x : S29) : S31 := ⟨x.f0, x.f1, x.f2⟩
theorem to_ev (l : List S29) (hn : l.length ≤ 1048576) : Ev (fun k => laws_toRouteS.f k l) (l.map cv) := by
  have e : (fun k => laws_toRouteS.f k l) = fun k => laws_toRouteS.l0 k l (List.replicate l.length z31) 0 := by
    funext k
    unfold laws_toRouteS.f
    rw [if_pos (by omega), if_pos (by omega)]
    rfl
  rw [e]
  refine fill_loop l z31 z29 cv (fun k x i => laws_toRouteS.l0 k l x i) (fun k x j hj hx => ?_) (fun k x => ?_) hn
  · simp only [laws_toRouteS.l0]
    rw [if_pos (by omega), if_pos (by omega)]
    simp only [laws_toRoute.f, Option.bind_some]
    rw [if_pos (by omega)]
    rfl
  · simp only [laws_toRouteS.l0]
    rw [if_neg (by omega)]
theorem eq_one (x : S31) : laws_eqRoute.f x.f0 x.f1 x.f2 x.f0 x.f1 x.f2 = some true := by simp [laws_eqRoute.f]
theorem eq_ev (l : List S31) (hn : l.length ≤ 1048576) : Ev (fun k => laws_eqRouteS.f k l l) true := by
  have e : (fun k => laws_eqRouteS.f k l l) = fun k => laws_eqRouteS.l0 k l l 0 := by
    funext k
    unfold laws_eqRouteS.f
    rw [if_pos rfl]
  rw [e]
  refine all_loop l.length true (fun k i => laws_eqRouteS.l0 k l l i) (fun k j hj => ?_) (fun k => ?_) hn
  · simp only [laws_eqRouteS.l0]
    rw [if_pos (by omega), if_pos (by omega), if_pos (by omega), eq_one]
    simp only [Option.bind_some, if_true]
  · simp only [laws_eqRouteS.l0]
    rw [if_neg (by omega)]

theorem in_eq (a b c : Int) : spec_l01In.f a b c = some (decide (b ≤ a ∧ a ≤ c)) := by
  unfold spec_l01In.f
  by_cases h : a ≥ b
  · rw [if_pos h]; congr 1; simp [show b ≤ a from h]
  · rw [if_neg h]; congr 1; simp [show ¬ b ≤ a from h]
theorem in_eq' (a b c : Int) : impl_within.f a b c = some (decide (b ≤ a ∧ a ≤ c)) := in_eq a b c
theorem succ {j : Nat} (hn : j ≤ 1048576) : wrap64 ((j : Int) + 1) = ((j + 1 : Nat) : Int) := by unfold wrap64; omega

/-- Both tell the same of a route: does it fit? -/
def fits (x : S31) (dst : Int) : Bool := decide (0 ≤ x.f1 ∧ x.f1 ≤ 8) && (decide (0 ≤ dst ∧ dst ≤ 255) && (decide (0 ≤ x.f0 ∧ x.f0 ≤ 255) && (shr .i64 dst (8 - x.f1) == shr .i64 x.f0 (8 - x.f1))))
theorem amount {b : Int} (h : 0 ≤ b ∧ b ≤ 8) : wrap64 (8 - b) = 8 - b ∧ IntKind.u64.wrap (8 - b) = 8 - b ∧ 0 ≤ 8 - b ∧ (8 - b).toNat ≤ 8 := by
  have : b = 0 ∨ b = 1 ∨ b = 2 ∨ b = 3 ∨ b = 4 ∨ b = 5 ∨ b = 6 ∨ b = 7 ∨ b = 8 := by omega
  rcases this with rfl | rfl | rfl | rfl | rfl | rfl | rfl | rfl | rfl <;> decide +kernel
theorem spec_fits (a b c dst : Int) : spec_FitsRoute.f a b c dst = some (fits ⟨a, b, c⟩ dst) := by
  unfold spec_FitsRoute.f fits
  simp only [in_eq, Option.bind_some]
  by_cases hb : 0 ≤ b ∧ b ≤ 8
  · obtain ⟨a1, a2, a3, a4⟩ := amount hb
    rw [if_pos (decide_eq_true hb), decide_eq_true hb, a1, a2]
    by_cases hd : 0 ≤ dst ∧ dst ≤ 255
    · rw [if_pos (decide_eq_true hd), decide_eq_true hd]
      by_cases hn : 0 ≤ a ∧ a ≤ 255
      · rw [if_pos (decide_eq_true hn), decide_eq_true hn, if_pos a3]
        rfl
      · rw [if_neg (by simpa using hn), decide_eq_false hn]; rfl
    · rw [if_neg (by simpa using hd), decide_eq_false hd]; rfl
  · rw [if_neg (by simpa using hb), decide_eq_false hb]; rfl
theorem impl_fits (a b c dst : Int) : impl_FitsRoute.f a b c dst = some (fits ⟨a, b, c⟩ dst) := by
  unfold impl_FitsRoute.f fits
  simp only [in_eq', Option.bind_some]
  by_cases hb : 0 ≤ b ∧ b ≤ 8
  · obtain ⟨a1, a2, a3, a4⟩ := amount hb
    rw [if_pos (decide_eq_true hb), decide_eq_true hb, a1]
    by_cases hd : 0 ≤ dst ∧ dst ≤ 255
    · rw [if_pos (decide_eq_true hd), decide_eq_true hd, if_pos a3]
      by_cases hn : 0 ≤ a ∧ a ≤ 255
      · rw [decide_eq_true hn, Bool.beq_comm]
        rfl
      · rw [decide_eq_false hn]
        have sh : ∀ x : Int, shr .i64 x (8 - b) = x / 2 ^ (8 - b).toNat := fun x => by
          unfold shr
          rw [Nat.min_eq_left (show (8 - b).toNat ≤ IntKind.i64.bits from Nat.le_trans a4 (by decide))]
        rw [sh, sh]
        have : (a / 2 ^ (8 - b).toNat == dst / 2 ^ (8 - b).toNat) = false := by
          rw [beq_eq_false_iff_ne]
          have : b = 0 ∨ b = 1 ∨ b = 2 ∨ b = 3 ∨ b = 4 ∨ b = 5 ∨ b = 6 ∨ b = 7 ∨ b = 8 := by omega
          rcases this with rfl | rfl | rfl | rfl | rfl | rfl | rfl | rfl | rfl <;> simp <;> omega
        rw [this]; rfl
    · rw [if_neg (by simpa using hd), decide_eq_false hd]; rfl
  · rw [if_neg (by simpa using hb), decide_eq_false hb]; rfl
/-- The place of the best one so far. -/
def upd (l : List S31) (dst : Int) (j : Nat) (s : Option Nat) : Option Nat :=
  if fits (l.getD j z31) dst = true then (match s with | none => some j | some i => if (l.getD j z31).f1 > (l.getD i z31).f1 then some j else some i) else s
def best (l : List S31) (dst : Int) : Nat → Nat → Option Nat → Option Nat
  | 0, _, s => s
  | d + 1, j, s => best l dst d (j + 1) (upd l dst j s)
def enc : Option Nat → Int
  | none => -1
  | some i => (i : Int)
def told (l : List S31) : Option Nat → Int × Int × Int × Bool
  | none => (0, 0, 0, false)
  | some i => ((l.getD i z31).f0, (l.getD i z31).f1, (l.getD i z31).f2, true)
theorem upd_lt {l : List S31} {dst : Int} {j : Nat} {s : Option Nat} (hs : ∀ i, s = some i → i < l.length) (hj : j < l.length) : ∀ i, upd l dst j s = some i → i < l.length := by
  intro i hi
  unfold upd at hi
  split at hi
  · cases s with
    | none => simp only [Option.some.injEq] at hi; omega
    | some i' =>
      simp only at hi
      split at hi <;> simp only [Option.some.injEq] at hi
      · omega
      · exact hi ▸ hs i' rfl
  · exact hs i hi
theorem spec_ev (l : List S31) (dst : Int) (hn : l.length ≤ 1048576) : Ev (fun k => spec_RouteOf.f k l dst) (told l (best l dst l.length 0 none)) := by
  have main : ∀ (d j k : Nat) (s : Option Nat), j + d = l.length → (∀ i, s = some i → i < l.length) → d < k → spec_RouteOf.l0 k l dst (enc s) (j : Int) = some (told l (best l dst d j s)) := by
    intro d
    induction d with
    | zero =>
      intro j k s hj hs hk
      obtain ⟨k, rfl⟩ : ∃ m, k = m + 1 := ⟨k - 1, by omega⟩
      simp only [spec_RouteOf.l0]
      rw [if_neg (by omega)]
      cases s with
      | none => rw [if_pos (by simp [enc])]; rfl
      | some i =>
        have := hs i rfl
        rw [show enc (some i) = (i : Int) from rfl, if_neg (by omega), if_pos (by omega), if_pos (by omega)]; rfl
    | succ d ih =>
      intro j k s hj hs hk
      obtain ⟨k, rfl⟩ : ∃ m, k = m + 1 := ⟨k - 1, by omega⟩
      have hlt : j < l.length := by omega
      have next := ih (j + 1) k (upd l dst j s) (by omega) (upd_lt hs hlt) (by omega)
      simp only [spec_RouteOf.l0, spec_fits]
      rw [if_pos (by omega), if_pos (by omega), succ (by omega)]
      simp only [Option.bind_some]
      show _ = some (told l (best l dst d (j + 1) (upd l dst j s)))
      rw [← next]
      show (if fits (l.getD j z31) dst = true then _ else _) = _
      unfold upd
      by_cases hf : fits (l.getD j z31) dst = true
      · rw [if_pos hf, if_pos hf]
        cases s with
        | none => rw [if_pos (by simp [enc])]; rfl
        | some i =>
          have := hs i rfl
          rw [show enc (some i) = (i : Int) from rfl, if_neg (by omega), if_pos (by omega), if_pos (by omega)]
          show (if (l.getD j z31).f1 > (l.getD i z31).f1 then _ else _) = _
          by_cases hg : (l.getD j z31).f1 > (l.getD i z31).f1
          · rw [if_pos hg]; simp only [if_pos hg]; rfl
          · rw [if_neg hg]; simp only [if_neg hg]; rfl
      · rw [if_neg hf, if_neg hf]
  exact ⟨l.length + 1, fun k hk => main l.length 0 k none (by omega) (by simp) (by omega)⟩
theorem impl_ev (l : List S31) (dst : Int) (hn : l.length ≤ 1048576) : Ev (fun k => impl_RouteOf.f k l dst) (told l (best l dst l.length 0 none)) := by
  have main : ∀ (d j k : Nat) (s : Option Nat), j + d = l.length → (∀ i, s = some i → i < l.length) → d < k → impl_RouteOf.l0 k dst (told l s).2.2.2 l (l.length : Int) (j : Int) (told l s).1 (told l s).2.1 (told l s).2.2.1 = some (told l (best l dst d j s)) := by
    intro d
    induction d with
    | zero =>
      intro j k s hj hs hk
      obtain ⟨k, rfl⟩ : ∃ m, k = m + 1 := ⟨k - 1, by omega⟩
      simp only [impl_RouteOf.l0]
      rw [if_neg (by omega)]
      rfl
    | succ d ih =>
      intro j k s hj hs hk
      obtain ⟨k, rfl⟩ : ∃ m, k = m + 1 := ⟨k - 1, by omega⟩
      have hlt : j < l.length := by omega
      have next := ih (j + 1) k (upd l dst j s) (by omega) (upd_lt hs hlt) (by omega)
      simp only [impl_RouteOf.l0, impl_fits]
      rw [if_pos (by omega), if_pos (by omega), if_pos (by omega), succ (by omega)]
      simp only [Option.bind_some]
      show _ = some (told l (best l dst d (j + 1) (upd l dst j s)))
      rw [← next]
      show (if fits (l.getD j z31) dst = true then _ else _) = _
      unfold upd
      by_cases hf : fits (l.getD j z31) dst = true
      · rw [if_pos hf, if_pos hf]
        cases s with
        | none => simp only [told, Bool.false_eq_true, if_false]; rfl
        | some i =>
          simp only [told, if_true]
          show (if (l.getD j z31).f1 > (l.getD i z31).f1 then _ else _) = _
          by_cases hg : (l.getD j z31).f1 > (l.getD i z31).f1
          · rw [if_pos hg, if_pos hg]; rfl
          · rw [if_neg hg, if_neg hg]
      · rw [if_neg hf, if_neg hf]
  exact ⟨l.length + 1, fun k hk => main l.length 0 k none (by omega) (by simp) (by omega)⟩
theorem said : Said := by
  intro l p _ hl _
  by_cases h : wrap64 (1048576 - (l.length : Int)) < 0
  · refine ⟨0, ?_⟩
    simp only [laws_FnExactRouteOf.f, laws_szRouteS.f]
    rw [if_pos h]
    rfl
  · have hn := len_of_guard h hl
    have hm : (l.map cv).length ≤ 1048576 := by simpa using hn
    refine ev_some (r := true) ?_
    generalize hr : told (l.map cv) (best (l.map cv) p (l.map cv).length 0 none) = r
    have hs : Ev (fun k => spec_RouteOf.f k (l.map cv) p) r := hr ▸ spec_ev _ p hm
    have hi : Ev (fun k => impl_RouteOf.f k (l.map cv) p) r := hr ▸ impl_ev _ p hm
    have e : (fun k => laws_FnExactRouteOf.f k l p) = fun k => ((laws_toRouteS.f k l).bind fun t136 => ((spec_RouteOf.f k t136 p).bind fun bt139 => ((laws_toRouteS.f k l).bind fun t144 => ((impl_RouteOf.f k t144 p).bind fun bt147 => ((laws_eqRoute.f bt147.1 bt147.2.1 bt147.2.2.1 bt139.1 bt139.2.1 bt139.2.2.1).bind fun t152 => (if t152 = true then (laws_FnExactRouteOf.j0 k l t144 (bt147.2.2.2 != bt139.2.2.2)) else (laws_FnExactRouteOf.j0 k l t144 true))))))) := by
      funext k
      simp only [laws_FnExactRouteOf.f, laws_szRouteS.f]
      rw [if_neg h]
      simp only [Option.bind_some]
      rw [if_neg h]
    rw [e]
    refine ev_bind (to_ev l hn) (ev_bind hs (ev_bind (to_ev l hn) (ev_bind hi ?_)))
    have e1 : laws_eqRoute.f r.1 r.2.1 r.2.2.1 r.1 r.2.1 r.2.2.1 = some true := by simp [laws_eqRoute.f]
    simp only [e1, Option.bind_some, if_true, bne_self_eq_false]
    refine ev_to (f := fun k => (laws_toRouteS.f k l).bind fun t153 => ((laws_eqRouteS.f k (l.map cv) t153).bind fun t156 => (if t156 = true then (some true) else (some false)))) ?_ (fun k => by simp [laws_FnExactRouteOf.j0])
    refine ev_bind (to_ev l hn) (ev_bind (eq_ev _ hm) ?_)
    simp only [if_true]
    exact ev_const
end Go.Proofs.Ytgikbhkbgfppoaa.PFnExactRouteOf
