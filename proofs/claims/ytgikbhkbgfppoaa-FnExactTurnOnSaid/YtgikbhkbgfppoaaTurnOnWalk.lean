/- TurnOn of the program and of the reference, and the law over them, walked. -/
import Derived.Test.YtgikbhkbgfppoaaProg
import Derived.Test.YtgikbhkbgfppoaaWMore
import Derived.WalkKit
import Derived.Tactics
import Derived.KernelRfl
import Derived.RowKit3
import Derived.OwnWalk
namespace Go.Proofs.Ytgikbhkbgfppoaa.TurnOn
open Go.RowKit Go.Proofs.YtgikbhkbgfppoaaW.PrintWords
set_option linter.unusedVariables false
set_option linter.unusedSimpArgs false
set_option maxHeartbeats 8000000
set_option maxRecDepth 100000
theorem toWindow (a0 a1 : Int) (w : World) :
    Calls Try.prog 65 #[.agg #[.int .i64 a0, .int .i64 a1]] w fun e w' => e = .returned (.agg #[.int .i64 a0, .int .i64 a1]) ∧ ∃ o0 o1 o2 : Obj, w' = (((w.alloc o0).alloc o1).alloc o2) := by
  go_enter Try.func65, Try.ntmps65
  go_wp2
  exact bodyPost_ret (v := .agg #[.int .i64 a0, .int .i64 a1]) (by simp [results, Try.results65, go_sem]) rfl ⟨rfl, _, _, _, rfl⟩

theorem toChan (a0 a1 a2 a3 a4 a5 a6 a7 a8 : Int) (w : World) :
    Calls Try.prog 43 #[.agg #[.int .i64 a0, .int .i64 a1, .int .i64 a2, .int .i64 a3, .int .i64 a4, .int .i64 a5, .int .i64 a6, .int .i64 a7, .int .i64 a8]] w fun e w' => e = .returned (.agg #[.int .i64 a0, .int .i64 a1, .int .i64 a2, .int .i64 a3, .int .i64 a4, .int .i64 a5, .int .i64 a6, .int .i64 a7, .int .i64 a8]) ∧ ∃ o0 o1 o2 o3 o4 o5 o6 o7 o8 : Obj, w' = (((((((((w.alloc o0).alloc o1).alloc o2).alloc o3).alloc o4).alloc o5).alloc o6).alloc o7).alloc o8) := by
  go_enter Try.func43, Try.ntmps43
  go_wp2_with (go_at_call 65; refine (toWindow _ _ _).mono ?_; rintro e w' ⟨rfl, o1, o2, o3, rfl⟩)
  exact bodyPost_ret (v := .agg #[.int .i64 a0, .int .i64 a1, .int .i64 a2, .int .i64 a3, .int .i64 a4, .int .i64 a5, .int .i64 a6, .int .i64 a7, .int .i64 a8]) (by simp [results, Try.results43, go_sem]) rfl ⟨rfl, _, _, _, _, _, _, _, _, _, rfl⟩

theorem eqWindow (a0 a1 : Int) (w : World) :
    Calls Try.prog 61 #[.agg #[.int .i64 a0, .int .i64 a1], .agg #[.int .i64 a0, .int .i64 a1]] w fun e w' => e = .returned (.bool true) ∧ ∃ o0 o1 : Obj, w' = ((w.alloc o0).alloc o1) := by
  go_enter Try.func61, Try.ntmps61
  go_wp2
  all_goals (go_ret; exact ⟨rfl, _, _, rfl⟩)

theorem eqChan (a0 a1 a2 a3 a4 a5 a6 a7 a8 : Int) (w : World) :
    Calls Try.prog 27 #[.agg #[.int .i64 a0, .int .i64 a1, .int .i64 a2, .int .i64 a3, .int .i64 a4, .int .i64 a5, .int .i64 a6, .int .i64 a7, .int .i64 a8], .agg #[.int .i64 a0, .int .i64 a1, .int .i64 a2, .int .i64 a3, .int .i64 a4, .int .i64 a5, .int .i64 a6, .int .i64 a7, .int .i64 a8]] w fun e w' => e = .returned (.bool true) ∧ ∃ o0 o1 o2 o3 o4 o5 : Obj, w' = ((((((w.alloc o0).alloc o1).alloc o2).alloc o3).alloc o4).alloc o5) := by
  go_enter Try.func27, Try.ntmps27
  go_wp2_with (go_at_call 61; refine (eqWindow _ _ _).mono ?_; rintro e w' ⟨rfl, o1, o2, rfl⟩)
  all_goals (go_ret; exact ⟨rfl, _, _, _, _, _, _, rfl⟩)

theorem spec_low (a0 a1 a2 a3 a4 a5 a6 a7 a8 : Int) (w : World) (h : a2 < 0) :
    Calls Try.prog 42 #[.agg #[.int .i64 a0, .int .i64 a1, .int .i64 a2, .int .i64 a3, .int .i64 a4, .int .i64 a5, .int .i64 a6, .int .i64 a7, .int .i64 a8]] w fun e w' => e = .returned (.tuple #[.agg #[.int .i64 a0, .int .i64 a1, .int .i64 a2, .int .i64 a3, .int .i64 a4, .int .i64 a5, .int .i64 a6, .int .i64 a7, .int .i64 a8], .bool false]) ∧ ∃ o0 o1 : Obj, w' = ((w.alloc o0).alloc o1) := by
  go_enter Try.func42, Try.ntmps42
  go_wp2
  exact bodyPost_ret (v := .tuple #[.agg #[.int .i64 a0, .int .i64 a1, .int .i64 a2, .int .i64 a3, .int .i64 a4, .int .i64 a5, .int .i64 a6, .int .i64 a7, .int .i64 a8], .bool false]) (by simp [results, Try.results42, go_sem]) rfl ⟨rfl, _, _, rfl⟩

theorem spec_high (a0 a1 a2 a3 a4 a5 a6 a7 a8 : Int) (w : World) (h : 7 < a2) :
    Calls Try.prog 42 #[.agg #[.int .i64 a0, .int .i64 a1, .int .i64 a2, .int .i64 a3, .int .i64 a4, .int .i64 a5, .int .i64 a6, .int .i64 a7, .int .i64 a8]] w fun e w' => e = .returned (.tuple #[.agg #[.int .i64 a0, .int .i64 a1, .int .i64 a2, .int .i64 a3, .int .i64 a4, .int .i64 a5, .int .i64 a6, .int .i64 a7, .int .i64 a8], .bool false]) ∧ ∃ o0 o1 : Obj, w' = ((w.alloc o0).alloc o1) := by
  go_enter Try.func42, Try.ntmps42
  go_wp2
  exact bodyPost_ret (v := .tuple #[.agg #[.int .i64 a0, .int .i64 a1, .int .i64 a2, .int .i64 a3, .int .i64 a4, .int .i64 a5, .int .i64 a6, .int .i64 a7, .int .i64 a8], .bool false]) (by simp [results, Try.results42, go_sem]) rfl ⟨rfl, _, _, rfl⟩

theorem spec_ahead (a0 a1 a2 a3 a4 a5 a6 a7 a8 : Int) (w : World) (h0 : 0 ≤ a2) (h1 : a2 ≤ 7) (h : a4 < a2) :
    Calls Try.prog 42 #[.agg #[.int .i64 a0, .int .i64 a1, .int .i64 a2, .int .i64 a3, .int .i64 a4, .int .i64 a5, .int .i64 a6, .int .i64 a7, .int .i64 a8]] w fun e w' => e = .returned (.tuple #[.agg #[.int .i64 a0, .int .i64 a1, .int .i64 a2, .int .i64 a3, .int .i64 a4, .int .i64 a5, .int .i64 a6, .int .i64 a7, .int .i64 a8], .bool false]) ∧ ∃ o0 o1 : Obj, w' = ((w.alloc o0).alloc o1) := by
  go_enter Try.func42, Try.ntmps42
  go_wp2
  exact bodyPost_ret (v := .tuple #[.agg #[.int .i64 a0, .int .i64 a1, .int .i64 a2, .int .i64 a3, .int .i64 a4, .int .i64 a5, .int .i64 a6, .int .i64 a7, .int .i64 a8], .bool false]) (by simp [results, Try.results42, go_sem]) rfl ⟨rfl, _, _, rfl⟩

theorem spec_on (a0 a1 a2 a3 a4 a5 a6 a7 a8 : Int) (w : World) (h0 : 0 ≤ a2) (h1 : a2 ≤ 7) (h : a2 ≤ a4) :
    Calls Try.prog 42 #[.agg #[.int .i64 a0, .int .i64 a1, .int .i64 a2, .int .i64 a3, .int .i64 a4, .int .i64 a5, .int .i64 a6, .int .i64 a7, .int .i64 a8]] w fun e w' => e = .returned (.tuple #[.agg #[.int .i64 a0, .int .i64 a1, .int .i64 (a2 + 1), .int .i64 0, .int .i64 a4, .int .i64 a5, .int .i64 a6, .int .i64 a7, .int .i64 a8], .bool true]) ∧ ∃ o0 o1 o2 : Obj, w' = (((w.alloc o0).alloc o1).alloc o2) := by
  go_enter Try.func42, Try.ntmps42
  go_wp2
  exact bodyPost_ret (v := .tuple #[.agg #[.int .i64 a0, .int .i64 a1, .int .i64 (a2 + 1), .int .i64 0, .int .i64 a4, .int .i64 a5, .int .i64 a6, .int .i64 a7, .int .i64 a8], .bool true]) (by simp [results, Try.results42, go_sem]) rfl ⟨rfl, _, _, _, rfl⟩

theorem impl_low (a0 a1 a2 a3 a4 a5 a6 a7 a8 : Int) (w : World) (h : a2 < 0) :
    Calls Try.prog 44 #[.agg #[.int .i64 a0, .int .i64 a1, .int .i64 a2, .int .i64 a3, .int .i64 a4, .int .i64 a5, .int .i64 a6, .int .i64 a7, .int .i64 a8]] w fun e w' => e = .returned (.tuple #[.agg #[.int .i64 a0, .int .i64 a1, .int .i64 a2, .int .i64 a3, .int .i64 a4, .int .i64 a5, .int .i64 a6, .int .i64 a7, .int .i64 a8], .bool false]) ∧ ∃ o0 o1 : Obj, w' = ((w.alloc o0).alloc o1) := by
  go_enter Try.func44, Try.ntmps44
  go_wp2
  exact bodyPost_ret (v := .tuple #[.agg #[.int .i64 a0, .int .i64 a1, .int .i64 a2, .int .i64 a3, .int .i64 a4, .int .i64 a5, .int .i64 a6, .int .i64 a7, .int .i64 a8], .bool false]) (by simp [results, Try.results44, go_sem]) rfl ⟨rfl, _, _, rfl⟩

theorem impl_high (a0 a1 a2 a3 a4 a5 a6 a7 a8 : Int) (w : World) (h : 7 < a2) :
    Calls Try.prog 44 #[.agg #[.int .i64 a0, .int .i64 a1, .int .i64 a2, .int .i64 a3, .int .i64 a4, .int .i64 a5, .int .i64 a6, .int .i64 a7, .int .i64 a8]] w fun e w' => e = .returned (.tuple #[.agg #[.int .i64 a0, .int .i64 a1, .int .i64 a2, .int .i64 a3, .int .i64 a4, .int .i64 a5, .int .i64 a6, .int .i64 a7, .int .i64 a8], .bool false]) ∧ ∃ o0 o1 : Obj, w' = ((w.alloc o0).alloc o1) := by
  go_enter Try.func44, Try.ntmps44
  go_wp2
  exact bodyPost_ret (v := .tuple #[.agg #[.int .i64 a0, .int .i64 a1, .int .i64 a2, .int .i64 a3, .int .i64 a4, .int .i64 a5, .int .i64 a6, .int .i64 a7, .int .i64 a8], .bool false]) (by simp [results, Try.results44, go_sem]) rfl ⟨rfl, _, _, rfl⟩

theorem impl_ahead (a0 a1 a2 a3 a4 a5 a6 a7 a8 : Int) (w : World) (h0 : 0 ≤ a2) (h1 : a2 ≤ 7) (h : a4 < a2) :
    Calls Try.prog 44 #[.agg #[.int .i64 a0, .int .i64 a1, .int .i64 a2, .int .i64 a3, .int .i64 a4, .int .i64 a5, .int .i64 a6, .int .i64 a7, .int .i64 a8]] w fun e w' => e = .returned (.tuple #[.agg #[.int .i64 a0, .int .i64 a1, .int .i64 a2, .int .i64 a3, .int .i64 a4, .int .i64 a5, .int .i64 a6, .int .i64 a7, .int .i64 a8], .bool false]) ∧ ∃ o0 o1 : Obj, w' = ((w.alloc o0).alloc o1) := by
  go_enter Try.func44, Try.ntmps44
  go_wp2
  exact bodyPost_ret (v := .tuple #[.agg #[.int .i64 a0, .int .i64 a1, .int .i64 a2, .int .i64 a3, .int .i64 a4, .int .i64 a5, .int .i64 a6, .int .i64 a7, .int .i64 a8], .bool false]) (by simp [results, Try.results44, go_sem]) rfl ⟨rfl, _, _, rfl⟩

theorem impl_on (a0 a1 a2 a3 a4 a5 a6 a7 a8 : Int) (w : World) (h0 : 0 ≤ a2) (h1 : a2 ≤ 7) (h : a2 ≤ a4) :
    Calls Try.prog 44 #[.agg #[.int .i64 a0, .int .i64 a1, .int .i64 a2, .int .i64 a3, .int .i64 a4, .int .i64 a5, .int .i64 a6, .int .i64 a7, .int .i64 a8]] w fun e w' => e = .returned (.tuple #[.agg #[.int .i64 a0, .int .i64 a1, .int .i64 (a2 + 1), .int .i64 0, .int .i64 a4, .int .i64 a5, .int .i64 a6, .int .i64 a7, .int .i64 a8], .bool true]) ∧ ∃ o0 o1 : Obj, w' = ((w.alloc o0).alloc o1) := by
  go_enter Try.func44, Try.ntmps44
  go_wp2
  exact bodyPost_ret (v := .tuple #[.agg #[.int .i64 a0, .int .i64 a1, .int .i64 (a2 + 1), .int .i64 0, .int .i64 a4, .int .i64 a5, .int .i64 a6, .int .i64 a7, .int .i64 a8], .bool true]) (by simp [results, Try.results44, go_sem]) rfl ⟨rfl, _, _, rfl⟩

theorem law_low (a0 a1 a2 a3 a4 a5 a6 a7 a8 : Int) (w : World) (h : a2 < 0) :
    Calls Try.prog 11 #[.agg #[.int .i64 a0, .int .i64 a1, .int .i64 a2, .int .i64 a3, .int .i64 a4, .int .i64 a5, .int .i64 a6, .int .i64 a7, .int .i64 a8]] w fun e w' => e = .returned (.bool true) ∧ Below w.heap.size w w' := by
  go_enter Try.func11, Try.ntmps11
  go_wp2_with (first | (go_at_call 43; refine (toChan _ _ _ _ _ _ _ _ _ _).mono ?_; rintro e w' ⟨rfl, o1, o2, o3, o4, o5, o6, o7, o8, o9, rfl⟩) | (go_at_call 42; refine (spec_low _ _ _ _ _ _ _ _ _ _ h).mono ?_; rintro e w' ⟨rfl, o1, o2, rfl⟩) | (go_at_call 44; refine (impl_low _ _ _ _ _ _ _ _ _ _ h).mono ?_; rintro e w' ⟨rfl, o1, o2, rfl⟩) | (go_at_call 27; refine (eqChan _ _ _ _ _ _ _ _ _ _).mono ?_; rintro e w' ⟨rfl, o1, o2, o3, o4, o5, o6, rfl⟩))
  all_goals (go_ret; exact ⟨rfl, by (with_reducible repeat (first | exact Below.refl _ _ | refine below_alloc ?_ _))⟩)

theorem law_high (a0 a1 a2 a3 a4 a5 a6 a7 a8 : Int) (w : World) (h : 7 < a2) :
    Calls Try.prog 11 #[.agg #[.int .i64 a0, .int .i64 a1, .int .i64 a2, .int .i64 a3, .int .i64 a4, .int .i64 a5, .int .i64 a6, .int .i64 a7, .int .i64 a8]] w fun e w' => e = .returned (.bool true) ∧ Below w.heap.size w w' := by
  go_enter Try.func11, Try.ntmps11
  go_wp2_with (first | (go_at_call 43; refine (toChan _ _ _ _ _ _ _ _ _ _).mono ?_; rintro e w' ⟨rfl, o1, o2, o3, o4, o5, o6, o7, o8, o9, rfl⟩) | (go_at_call 42; refine (spec_high _ _ _ _ _ _ _ _ _ _ h).mono ?_; rintro e w' ⟨rfl, o1, o2, rfl⟩) | (go_at_call 44; refine (impl_high _ _ _ _ _ _ _ _ _ _ h).mono ?_; rintro e w' ⟨rfl, o1, o2, rfl⟩) | (go_at_call 27; refine (eqChan _ _ _ _ _ _ _ _ _ _).mono ?_; rintro e w' ⟨rfl, o1, o2, o3, o4, o5, o6, rfl⟩))
  all_goals (go_ret; exact ⟨rfl, by (with_reducible repeat (first | exact Below.refl _ _ | refine below_alloc ?_ _))⟩)

theorem law_ahead (a0 a1 a2 a3 a4 a5 a6 a7 a8 : Int) (w : World) (h0 : 0 ≤ a2) (h1 : a2 ≤ 7) (h : a4 < a2) :
    Calls Try.prog 11 #[.agg #[.int .i64 a0, .int .i64 a1, .int .i64 a2, .int .i64 a3, .int .i64 a4, .int .i64 a5, .int .i64 a6, .int .i64 a7, .int .i64 a8]] w fun e w' => e = .returned (.bool true) ∧ Below w.heap.size w w' := by
  go_enter Try.func11, Try.ntmps11
  go_wp2_with (first | (go_at_call 43; refine (toChan _ _ _ _ _ _ _ _ _ _).mono ?_; rintro e w' ⟨rfl, o1, o2, o3, o4, o5, o6, o7, o8, o9, rfl⟩) | (go_at_call 42; refine (spec_ahead _ _ _ _ _ _ _ _ _ _ h0 h1 h).mono ?_; rintro e w' ⟨rfl, o1, o2, rfl⟩) | (go_at_call 44; refine (impl_ahead _ _ _ _ _ _ _ _ _ _ h0 h1 h).mono ?_; rintro e w' ⟨rfl, o1, o2, rfl⟩) | (go_at_call 27; refine (eqChan _ _ _ _ _ _ _ _ _ _).mono ?_; rintro e w' ⟨rfl, o1, o2, o3, o4, o5, o6, rfl⟩))
  all_goals (go_ret; exact ⟨rfl, by (with_reducible repeat (first | exact Below.refl _ _ | refine below_alloc ?_ _))⟩)

theorem law_on (a0 a1 a2 a3 a4 a5 a6 a7 a8 : Int) (w : World) (h0 : 0 ≤ a2) (h1 : a2 ≤ 7) (h : a2 ≤ a4) :
    Calls Try.prog 11 #[.agg #[.int .i64 a0, .int .i64 a1, .int .i64 a2, .int .i64 a3, .int .i64 a4, .int .i64 a5, .int .i64 a6, .int .i64 a7, .int .i64 a8]] w fun e w' => e = .returned (.bool true) ∧ Below w.heap.size w w' := by
  go_enter Try.func11, Try.ntmps11
  go_wp2_with (first | (go_at_call 43; refine (toChan _ _ _ _ _ _ _ _ _ _).mono ?_; rintro e w' ⟨rfl, o1, o2, o3, o4, o5, o6, o7, o8, o9, rfl⟩) | (go_at_call 42; refine (spec_on _ _ _ _ _ _ _ _ _ _ h0 h1 h).mono ?_; rintro e w' ⟨rfl, o1, o2, o3, rfl⟩) | (go_at_call 44; refine (impl_on _ _ _ _ _ _ _ _ _ _ h0 h1 h).mono ?_; rintro e w' ⟨rfl, o1, o2, rfl⟩) | (go_at_call 27; refine (eqChan _ _ _ _ _ _ _ _ _ _).mono ?_; rintro e w' ⟨rfl, o1, o2, o3, o4, o5, o6, rfl⟩))
  all_goals (go_ret; exact ⟨rfl, by (with_reducible repeat (first | exact Below.refl _ _ | refine below_alloc ?_ _))⟩)

theorem law (a0 a1 a2 a3 a4 a5 a6 a7 a8 : Int) (w : World) :
    Calls Try.prog 11 #[.agg #[.int .i64 a0, .int .i64 a1, .int .i64 a2, .int .i64 a3, .int .i64 a4, .int .i64 a5, .int .i64 a6, .int .i64 a7, .int .i64 a8]] w fun e w' => e = .returned (.bool true) ∧ Below w.heap.size w w' := by
  by_cases h0 : 0 ≤ a2
  · by_cases h1 : a2 ≤ 7
    · by_cases h : a2 ≤ a4
      · exact law_on _ _ _ _ _ _ _ _ _ _ h0 h1 h
      · exact law_ahead _ _ _ _ _ _ _ _ _ _ h0 h1 (by omega)
    · exact law_high _ _ _ _ _ _ _ _ _ _ (by omega)
  · exact law_low _ _ _ _ _ _ _ _ _ _ (by omega)

def laws_FnExactTurnOn.f (a0_0 : Int) (a0_1 : Int) (a0_2 : Int) (a0_3 : Int) (a0_4 : Int) (a0_5 : Int) (a0_6 : Int) (a0_7 : Int) (a0_8 : Int) : Option Bool := some true
theorem laws_FnExactTurnOn.calls (a0_0 : Int) (a0_1 : Int) (a0_2 : Int) (a0_3 : Int) (a0_4 : Int) (a0_5 : Int) (a0_6 : Int) (a0_7 : Int) (a0_8 : Int) (r : Bool) (w : World) (h : laws_FnExactTurnOn.f a0_0 a0_1 a0_2 a0_3 a0_4 a0_5 a0_6 a0_7 a0_8 = some r) :
    Calls Try.prog 11 #[.agg #[.int .i64 a0_0, .int .i64 a0_1, .int .i64 a0_2, .int .i64 a0_3, .int .i64 a0_4, .int .i64 a0_5, .int .i64 a0_6, .int .i64 a0_7, .int .i64 a0_8]] w fun e w' => e = .returned (.bool r) ∧ Below w.heap.size w w' := by
  obtain rfl := Option.some.inj h
  exact law _ _ _ _ _ _ _ _ _ _

end Go.Proofs.Ytgikbhkbgfppoaa.TurnOn
