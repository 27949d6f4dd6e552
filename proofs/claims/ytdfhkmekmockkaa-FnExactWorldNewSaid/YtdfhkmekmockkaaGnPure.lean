/- What the loops over routes tell: numbers and lists alone. -/
import Derived.Test.YtdfhkmekmockkaaGnCalls
import Derived.Test.YtdfhkmekmockkaaGen
namespace Go.Proofs.Ytdfhkmekmockkaa.PFnExactGateNew
open Go.RowKit Go.Proofs.YtdfhkmekmockkaaW.PrintWords Go.Proofs.YtdfhkmekmockkaaW.PrintLast Go.Proofs.YtdfhkmekmockkaaW.PrintMore Go.Proofs.Ytdfhkmekmockkaa.Gen
set_option linter.unusedVariables false
set_option linter.unusedSimpArgs false

def cv (x : S156) : S154 := ⟨x.f0, x.f1, x.f2⟩
theorem to_ev (l : List S156) (hn : l.length ≤ 1048576) : Ev (fun k => laws_toRouteS.f k l) (l.map cv) := by
  have e : (fun k => laws_toRouteS.f k l) = fun k => laws_toRouteS.l0 k l (List.replicate l.length z154) 0 := by
    funext k
    unfold laws_toRouteS.f
    rw [if_pos (by omega), if_pos (by omega)]
    rfl
  rw [e]
  refine fill_loop l z154 z156 cv (fun k x i => laws_toRouteS.l0 k l x i) (fun k x j hj hx => ?_) (fun k x => ?_) hn
  · simp only [laws_toRouteS.l0]
    rw [if_pos (by omega), if_pos (by omega)]
    simp only [laws_toRoute.f, Option.bind_some]
    rw [if_pos (by omega)]
    rfl
  · simp only [laws_toRouteS.l0]
    rw [if_neg (by omega)]
theorem eq_one (x : S154) : laws_eqRoute.f x.f0 x.f1 x.f2 x.f0 x.f1 x.f2 = some true := by simp [laws_eqRoute.f]
theorem eq_ev (l : List S154) (hn : l.length ≤ 1048576) : Ev (fun k => laws_eqRouteS.f k l l) true := by
  have e : (fun k => laws_eqRouteS.f k l l) = fun k => laws_eqRouteS.l0 k l l 0 := by
    funext k
    unfold laws_eqRouteS.f
    rw [if_pos rfl]
  rw [e]
  refine all_loop l.length true (fun k i => laws_eqRouteS.l0 k l l i) (fun k j hj => ?_) (fun k => ?_) hn
  · simp only [laws_eqRouteS.l0]
    rw [if_pos (by omega), if_pos (by omega), if_pos (by omega), eq_one]
    simp only [Option.bind_some, if_true]
  · simp only [laws_eqRouteS.l0]
    rw [if_neg (by omega)]

def mk (c : Int) (x : S154) : S154 := ⟨c, wrap64 (c + 1), wrap64 ((wrap64 (c + 1)) + 1)⟩
def adv (c : Int) : Int := wrap64 ((wrap64 ((wrap64 (c + 1)) + 1)) + 1)
theorem mark_ev (l : List S154) (c : Int) (hn : l.length ≤ 1048576) : Ev (fun k => laws_markRouteS.f k l c) (count adv l.length c, marked mk adv l c) := by
  refine mark_loop z154 mk adv (fun k x c i => laws_markRouteS.l0 k x c i) (fun k x c j hj => ?_) (fun k x c => ?_) l c hn
  · simp only [laws_markRouteS.l0]
    rw [if_pos (by omega), if_pos (by omega)]
    simp only [Option.bind_some]
    have e0 : ((j : Int)).toNat = j := by omega
    have e : ∀ (x : List S154) (y : S154), j < x.length → rd_T154 (x.set ((j : Int)).toNat y) (j : Int) = y := fun x y h => by simp [rd_T154, List.getD, h]
    rw [e _ _ hj, e _ _ (by simpa using hj)]
    simp only [List.set_set, e0]
    rfl
  · simp only [laws_markRouteS.l0]
    rw [if_neg (by omega)]
theorem held_ev (l : List S154) (c : Int) (hn : l.length ≤ 1048576) : Ev (fun k => laws_heldRouteS.f k (marked mk adv l c) c) (count adv l.length c) := by
  obtain ⟨x, hx⟩ : ∃ x, x = marked mk adv l c := ⟨_, rfl⟩
  rw [← hx]
  refine held_loop z154 mk adv x (fun k c' i => laws_heldRouteS.l0 k x c' i) (fun k c' => ?_) l c hx (fun k c' j y hj hg => ?_) hn
  · simp only [laws_heldRouteS.l0]
    rw [if_neg (by omega)]
  · simp only [laws_heldRouteS.l0]
    rw [if_pos (by omega), if_pos (by omega)]
    have e0 : (rd_T154 x (j : Int)) = mk c' y := hg
    rw [e0]
    simp only [mk, if_true]
    rfl
theorem count_eq (l : List S154) (hn : l.length ≤ 1048576) : count adv l.length 1 = 1 + (l.length : Int) * ((3 : Nat) : Int) :=
  count_add adv 3 (by omega) (fun c h0 h1 => by unfold adv wrap64; omega) l.length 1 (by omega) (by omega)
theorem spec_new (a : Int) (l : List S154) (hn : l.length ≤ 1048576) : spec_GateNew.f a l = some (a, 1, [], [], l, [], 0) := by
  simp only [spec_GateNew.f, Option.bind_some, List.nil_append]
  rw [if_pos (by simp; omega)]
theorem impl_new (a : Int) (l : List S154) (hn : l.length ≤ 1048576) : impl_GateNew.f a l = some (a, 1, [], [], l, [], 0) := by
  simp only [impl_GateNew.f, Option.bind_some, List.nil_append]
  rw [if_pos (by simp; omega)]

end Go.Proofs.Ytdfhkmekmockkaa.PFnExactGateNew
