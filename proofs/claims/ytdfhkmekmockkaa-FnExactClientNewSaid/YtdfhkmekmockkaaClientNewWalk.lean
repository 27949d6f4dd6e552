/- ClientNew of both, and the law over them, walked; a client compared with itself. -/
import Derived.Test.YtdfhkmekmockkaaProg
import Derived.Test.YtdfhkmekmockkaaWMore
import Derived.WalkKit
import Derived.Tactics
import Derived.KernelRfl
import Derived.RowKit3
import Derived.OwnWalk
import Derived.Deep.Cut
import Derived.Test.YtdfhkmekmockkaaBox
import Derived.Test.YtdfhkmekmockkaaSLE
import Derived.Test.YtdfhkmekmockkaaWEqStruct
namespace Go.Proofs.Ytdfhkmekmockkaa.Cn
open Go.RowKit Go.Proofs.YtdfhkmekmockkaaW.PrintWords
set_option linter.unusedVariables false
set_option linter.unusedSimpArgs false
set_option maxHeartbeats 4000000
set_option maxRecDepth 100000

theorem build27 (x y z : Int) (w : World) : (Instr.build 27 #[(0, .int .i64 x), (1, .int .i64 y), (2, .int .i64 z)]).run Try.prog w = .ok (.agg #[.int .i64 x, .int .i64 y, .int .i64 z, .int .i64 0, .int .i64 0, .bool false, .int .i64 0, .int .i64 0, .int .i64 0, .int .i64 0, .int .i64 0, .int .i64 0, .int .i64 0, .int .i64 0, .int .i64 0, .int .i64 0, .int .i64 0, .int .i64 0, .int .i64 0, .int .i64 0, .int .i64 0, .int .i64 0, .int .i64 0]) w :=
  run_build w 27 _ _ (by kernel_rfl)

theorem spec_new (x y z : Int) (w : World) : Calls Try.prog 14 #[.int .i64 x, .int .i64 y, .int .i64 z] w fun e w' => e = .returned (.agg #[.int .i64 x, .int .i64 y, .int .i64 z, .int .i64 0, .int .i64 0, .bool false, .int .i64 0, .int .i64 0, .int .i64 0, .int .i64 0, .int .i64 0, .int .i64 0, .int .i64 0, .int .i64 0, .int .i64 0, .int .i64 0, .int .i64 0, .int .i64 0, .int .i64 0, .int .i64 0, .int .i64 0, .int .i64 0, .int .i64 0]) ∧ ∃ o0 : Obj, w' = (w.alloc o0) := by
  have hb := build27 x y z
  go_enter Try.func14, Try.ntmps14
  go_upto_region 1 with (fail)
  as_aux_lemma =>
  go_wp2_with (first | (refine Box.wpList_store_new rfl 27 (.tmp 6) (.tmp 10) rfl #[.int .i64 x, .int .i64 y, .int .i64 z, .int .i64 0, .int .i64 0, .bool false, .int .i64 0, .int .i64 0, .int .i64 0, .int .i64 0, .int .i64 0, .int .i64 0, .int .i64 0, .int .i64 0, .int .i64 0, .int .i64 0, .int .i64 0, .int .i64 0, .int .i64 0, .int .i64 0, .int .i64 0, .int .i64 0, .int .i64 0] rfl rfl 27 _ (by kernel_rfl) rfl (by simp [Value.oneCell']) ?_))
  as_aux_lemma =>
  exact bodyPost_ret (results_cell_row rfl _ _ w.heap.size 27 #[.int .i64 x, .int .i64 y, .int .i64 z, .int .i64 0, .int .i64 0, .bool false, .int .i64 0, .int .i64 0, .int .i64 0, .int .i64 0, .int .i64 0, .int .i64 0, .int .i64 0, .int .i64 0, .int .i64 0, .int .i64 0, .int .i64 0, .int .i64 0, .int .i64 0, .int .i64 0, .int .i64 0, .int .i64 0, .int .i64 0] (0, 0) _ rfl (blk_new w _) Try.underlying27 rfl (by kernel_rfl)) rfl ⟨rfl, _, rfl⟩

theorem impl_new (x y z : Int) (w : World) : Calls Try.prog 15 #[.int .i64 x, .int .i64 y, .int .i64 z] w fun e w' => e = .returned (.agg #[.int .i64 x, .int .i64 y, .int .i64 z, .int .i64 0, .int .i64 0, .bool false, .int .i64 0, .int .i64 0, .int .i64 0, .int .i64 0, .int .i64 0, .int .i64 0, .int .i64 0, .int .i64 0, .int .i64 0, .int .i64 0, .int .i64 0, .int .i64 0, .int .i64 0, .int .i64 0, .int .i64 0, .int .i64 0, .int .i64 0]) ∧ ∃ o0 : Obj, w' = (w.alloc o0) := by
  have hb := build27 x y z
  go_enter Try.func15, Try.ntmps15
  go_upto_region 1 with (fail)
  as_aux_lemma =>
  go_wp2_with (first | (refine Box.wpList_store_new rfl 27 (.tmp 6) (.tmp 10) rfl #[.int .i64 x, .int .i64 y, .int .i64 z, .int .i64 0, .int .i64 0, .bool false, .int .i64 0, .int .i64 0, .int .i64 0, .int .i64 0, .int .i64 0, .int .i64 0, .int .i64 0, .int .i64 0, .int .i64 0, .int .i64 0, .int .i64 0, .int .i64 0, .int .i64 0, .int .i64 0, .int .i64 0, .int .i64 0, .int .i64 0] rfl rfl 27 _ (by kernel_rfl) rfl (by simp [Value.oneCell']) ?_))
  as_aux_lemma =>
  exact bodyPost_ret (results_cell_row rfl _ _ w.heap.size 27 #[.int .i64 x, .int .i64 y, .int .i64 z, .int .i64 0, .int .i64 0, .bool false, .int .i64 0, .int .i64 0, .int .i64 0, .int .i64 0, .int .i64 0, .int .i64 0, .int .i64 0, .int .i64 0, .int .i64 0, .int .i64 0, .int .i64 0, .int .i64 0, .int .i64 0, .int .i64 0, .int .i64 0, .int .i64 0, .int .i64 0] (0, 0) _ rfl (blk_new w _) Try.underlying27 rfl (by kernel_rfl)) rfl ⟨rfl, _, rfl⟩

theorem eqWindow (a0 a1 : Int) (w : World) :
    Calls Try.prog 146 #[.agg #[.int .i64 a0, .int .i64 a1], .agg #[.int .i64 a0, .int .i64 a1]] w fun e w' => e = .returned (.bool true) ∧ ∃ o0 o1 : Obj, w' = ((w.alloc o0).alloc o1) := by
  go_enter Try.func146, Try.ntmps146
  go_wp2
  all_goals (go_ret; exact ⟨rfl, _, _, rfl⟩)
theorem eqChan (a0 a1 a2 a3 a4 a5 a6 a7 a8 : Int) (w : World) :
    Calls Try.prog 73 #[.agg #[.int .i64 a0, .int .i64 a1, .int .i64 a2, .int .i64 a3, .int .i64 a4, .int .i64 a5, .int .i64 a6, .int .i64 a7, .int .i64 a8], .agg #[.int .i64 a0, .int .i64 a1, .int .i64 a2, .int .i64 a3, .int .i64 a4, .int .i64 a5, .int .i64 a6, .int .i64 a7, .int .i64 a8]] w fun e w' => e = .returned (.bool true) ∧ ∃ o0 o1 o2 o3 o4 o5 : Obj, w' = ((((((w.alloc o0).alloc o1).alloc o2).alloc o3).alloc o4).alloc o5) := by
  go_enter Try.func73, Try.ntmps73
  go_wp2_with (go_at_call 146; refine (eqWindow _ _ _).mono ?_; rintro e w' ⟨rfl, o1, o2, rfl⟩)
  all_goals (go_ret; exact ⟨rfl, _, _, _, _, _, _, rfl⟩)
theorem eqClient (a0 a1 a2 a3 a4 : Int) (a5 : Bool) (a6 a7 a8 a9 a10 a11 a12 a13 a14 a15 a16 a17 a18 a19 a20 a21 a22 : Int) (w : World) :
    Calls Try.prog 16 #[.agg #[.int .i64 a0, .int .i64 a1, .int .i64 a2, .int .i64 a3, .int .i64 a4, .bool a5, .int .i64 a6, .int .i64 a7, .int .i64 a8, .int .i64 a9, .int .i64 a10, .int .i64 a11, .int .i64 a12, .int .i64 a13, .int .i64 a14, .int .i64 a15, .int .i64 a16, .int .i64 a17, .int .i64 a18, .int .i64 a19, .int .i64 a20, .int .i64 a21, .int .i64 a22], .agg #[.int .i64 a0, .int .i64 a1, .int .i64 a2, .int .i64 a3, .int .i64 a4, .bool a5, .int .i64 a6, .int .i64 a7, .int .i64 a8, .int .i64 a9, .int .i64 a10, .int .i64 a11, .int .i64 a12, .int .i64 a13, .int .i64 a14, .int .i64 a15, .int .i64 a16, .int .i64 a17, .int .i64 a18, .int .i64 a19, .int .i64 a20, .int .i64 a21, .int .i64 a22]] w fun e w' => e = .returned (.bool true) ∧ ∃ o0 o1 o2 o3 o4 o5 o6 o7 : Obj, w' = ((((((((w.alloc o0).alloc o1).alloc o2).alloc o3).alloc o4).alloc o5).alloc o6).alloc o7) := by
  go_enter Try.func16, Try.ntmps16
  go_upto_region 8 with (fail)
  as_aux_lemma =>
  go_upto_region 16 with (fail)
  as_aux_lemma =>
  go_upto_region 24 with (go_at_call 73; refine (eqChan _ _ _ _ _ _ _ _ _ _).mono ?_; rintro e w' ⟨rfl, o1, o2, o3, o4, o5, o6, rfl⟩)
  as_aux_lemma =>
  go_wp2_with (go_at_call 73; refine (eqChan _ _ _ _ _ _ _ _ _ _).mono ?_; rintro e w' ⟨rfl, o1, o2, o3, o4, o5, o6, rfl⟩)
  all_goals (go_ret; exact ⟨rfl, _, _, _, _, _, _, _, _, rfl⟩)

theorem hbel {w w1 : World} {L : List SL.Asn} (h : SL.H w L) (n : Nat) (hw : w1 = w.drewN n) : SL.H w1 L := by subst hw; exact SL.H.below h (pw_below_drewN (Below.refl _ _) _)
theorem halloc {w : World} {L : List SL.Asn} (h : SL.H w L) (o : Obj) : SL.H (w.alloc o) L := SL.H.below h (below_alloc (Below.refl _ _) o)
theorem law (x y z : Int) (w : World) :
    Calls Try.prog 3 #[.int .i64 x, .int .i64 y, .int .i64 z] w fun e w' => e = .returned (.bool true) ∧ Below w.heap.size w w' := by
  have HS := Aside0.mk (SL.H.start w)
  go_enter Try.func3, Try.ntmps3
  go_upto_region 3 with (first
    | (go_at_call 14; refine (spec_new _ _ _ _).mono ?_; rintro e w' ⟨rfl, o1, rfl⟩; replace HS := Aside0.mk (halloc HS.out o1))
    | (go_at_call 15; refine (impl_new _ _ _ _).mono ?_; rintro e w' ⟨rfl, o2, rfl⟩; replace HS := Aside0.mk (halloc HS.out o2))
    | ((with_reducible refine gate_dst (N := 7) rfl ?_); refine SL.ev_box HS.out ?hg (N := 7) ?hd (cs := #[.int .i64 0, .int .i64 0, .int .i64 0, .int .i64 0, .int .i64 0, .bool false, .int .i64 0, .int .i64 0, .int .i64 0, .int .i64 0, .int .i64 0, .int .i64 0, .int .i64 0, .int .i64 0, .int .i64 0, .int .i64 0, .int .i64 0, .int .i64 0, .int .i64 0, .int .i64 0, .int .i64 0, .int .i64 0, .int .i64 0]) (t := 27) ?hr ?_; (case hd => rfl); (case hg => rfl); (case hr => first | (go_simp; done) | (go_simp; rfl)); intro g1 w1 hs; clear HS; have HS := Aside0.mk hs; clear hs)
    | (refine SL.ev_store HS.out rfl 27 (.tmp 7) (.tmp 12) rfl 0 (.agg #[.int .i64 x, .int .i64 y, .int .i64 z, .int .i64 0, .int .i64 0, .bool false, .int .i64 0, .int .i64 0, .int .i64 0, .int .i64 0, .int .i64 0, .int .i64 0, .int .i64 0, .int .i64 0, .int .i64 0, .int .i64 0, .int .i64 0, .int .i64 0, .int .i64 0, .int .i64 0, .int .i64 0, .int .i64 0, .int .i64 0]) #[.int .i64 x, .int .i64 y, .int .i64 z, .int .i64 0, .int .i64 0, .bool false, .int .i64 0, .int .i64 0, .int .i64 0, .int .i64 0, .int .i64 0, .int .i64 0, .int .i64 0, .int .i64 0, .int .i64 0, .int .i64 0, .int .i64 0, .int .i64 0, .int .i64 0, .int .i64 0, .int .i64 0, .int .i64 0, .int .i64 0] rfl rfl (by kernel_rfl) rfl (Nat.le_refl 23) (by simp [Value.cells]) ?_; intro w2 hs; clear HS; have HS := Aside0.mk hs; clear hs)
    | ((with_reducible refine gate_dst (N := 8) rfl ?_); refine SL.ev_box HS.out ?hg (N := 8) ?hd (cs := #[.int .i64 0, .int .i64 0, .int .i64 0, .int .i64 0, .int .i64 0, .bool false, .int .i64 0, .int .i64 0, .int .i64 0, .int .i64 0, .int .i64 0, .int .i64 0, .int .i64 0, .int .i64 0, .int .i64 0, .int .i64 0, .int .i64 0, .int .i64 0, .int .i64 0, .int .i64 0, .int .i64 0, .int .i64 0, .int .i64 0]) (t := 27) ?hr ?_; (case hd => rfl); (case hg => rfl); (case hr => first | (go_simp; done) | (go_simp; rfl)); intro g2 w3 hs; clear HS; have HS := Aside0.mk hs; clear hs)
    | (refine SL.ev_store HS.out rfl 27 (.tmp 8) (.tmp 16) rfl 0 (.agg #[.int .i64 x, .int .i64 y, .int .i64 z, .int .i64 0, .int .i64 0, .bool false, .int .i64 0, .int .i64 0, .int .i64 0, .int .i64 0, .int .i64 0, .int .i64 0, .int .i64 0, .int .i64 0, .int .i64 0, .int .i64 0, .int .i64 0, .int .i64 0, .int .i64 0, .int .i64 0, .int .i64 0, .int .i64 0, .int .i64 0]) #[.int .i64 x, .int .i64 y, .int .i64 z, .int .i64 0, .int .i64 0, .bool false, .int .i64 0, .int .i64 0, .int .i64 0, .int .i64 0, .int .i64 0, .int .i64 0, .int .i64 0, .int .i64 0, .int .i64 0, .int .i64 0, .int .i64 0, .int .i64 0, .int .i64 0, .int .i64 0, .int .i64 0, .int .i64 0, .int .i64 0] rfl rfl (by kernel_rfl) rfl (Nat.le_refl 23) (by simp [Value.cells]) ?_; intro w4 hs; clear HS; have HS := Aside0.mk hs; clear hs))
  go_wp2_with (first
    | (refine SL.ev_load HS.out rfl 27 (.tmp 8) rfl 0 23 _ #[.int .i64 x, .int .i64 y, .int .i64 z, .int .i64 0, .int .i64 0, .bool false, .int .i64 0, .int .i64 0, .int .i64 0, .int .i64 0, .int .i64 0, .int .i64 0, .int .i64 0, .int .i64 0, .int .i64 0, .int .i64 0, .int .i64 0, .int .i64 0, .int .i64 0, .int .i64 0, .int .i64 0, .int .i64 0, .int .i64 0] rfl Try.underlying27 rfl (by kernel_rfl) (by simp) (by simp) ?_)
    | (refine SL.ev_load HS.out.sw1 rfl 27 (.tmp 7) rfl 0 23 _ #[.int .i64 x, .int .i64 y, .int .i64 z, .int .i64 0, .int .i64 0, .bool false, .int .i64 0, .int .i64 0, .int .i64 0, .int .i64 0, .int .i64 0, .int .i64 0, .int .i64 0, .int .i64 0, .int .i64 0, .int .i64 0, .int .i64 0, .int .i64 0, .int .i64 0, .int .i64 0, .int .i64 0, .int .i64 0, .int .i64 0] rfl Try.underlying27 rfl (by kernel_rfl) (by simp) (by simp) ?_)
    | (go_at_call 16; refine (eqClient _ _ _ _ _ _ _ _ _ _ _ _ _ _ _ _ _ _ _ _ _ _ _ _).mono ?_; rintro e w' ⟨rfl, o1, o2, o3, o4, o5, o6, o7, o8, rfl⟩))
  all_goals (go_ret; exact ⟨rfl, SL.H.old_below (SL.H.below HS.out.drop.drop (by with_reducible repeat (first | exact Below.refl _ _ | refine below_alloc ?_ _)))⟩)

def laws_FnExactClientNew.f (a0 a1 a2 : Int) : Option Bool := some true
theorem laws_FnExactClientNew.calls (a0 : Int) (a1 : Int) (a2 : Int) (r : Bool) (w : World) (h : laws_FnExactClientNew.f a0 a1 a2 = some r) :
    Calls Try.prog 3 #[.int .i64 a0, .int .i64 a1, .int .i64 a2] w fun e w' => e = .returned (.bool r) ∧ Below w.heap.size w w' := by
  obtain rfl := Option.some.inj h
  exact law _ _ _ _

end Go.Proofs.Ytdfhkmekmockkaa.Cn
