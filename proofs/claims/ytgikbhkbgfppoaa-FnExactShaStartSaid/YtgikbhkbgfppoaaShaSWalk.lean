/- ShaStart of the reference, and the law over both, walked: the eight numbers. -/
import Derived.Test.YtgikbhkbgfppoaaPFnExactShaStartx1
namespace Go.Proofs.Ytgikbhkbgfppoaa.ShaS
open Go.RowKit Go.Proofs.YtgikbhkbgfppoaaW.PrintWords Go.Proofs.YtgikbhkbgfppoaaW.PrintLast Go.Proofs.YtgikbhkbgfppoaaW.PrintMore Go.Proofs.Ytgikbhkbgfppoaa.PFnExactShaStart
set_option linter.unusedVariables false
set_option linter.unusedSimpArgs false
set_option maxHeartbeats 2000000
set_option maxRecDepth 100000
def eight : List Int := [1779033703, 3144134277, 1013904242, 2773480762, 1359893119, 2600822924, 528734635, 1541459225]
abbrev cells8 : Array Value := #[.int .u32 1779033703, .int .u32 3144134277, .int .u32 1013904242, .int .u32 2773480762, .int .u32 1359893119, .int .u32 2600822924, .int .u32 528734635, .int .u32 1541459225]
theorem ne_of_type {w : World} {α : Type} {d : Kd α} {e e' g base : Nat} {ok : Nat → Prop} {v : Value} {xs : List α} {cs : Array Value} (ho : d.R e w base ok v xs) (hb : w.heap[g]? = some (.cells cs e' (0, 0))) (hne : e ≠ e') : some g ≠ v.ownBlock := by
  intro he
  obtain ⟨c, hc⟩ := Kd.R_typed ho _ he.symm
  rw [hb] at hc
  simp only [Option.some.injEq, Obj.cells.injEq] at hc
  exact hne hc.2.1.symm
theorem first (w : World) : Calls Try.prog 62 #[] w fun e w' => e = .returned (.agg cells8) ∧ ∃ o1 : Obj, w' = w.alloc o1 := by
  go_enter Try.func62, Try.ntmps62
  go_wp2
  exact bodyPost_ret (v := .agg cells8) (by simp [results, Try.results62, go_sem]) rfl ⟨rfl, _, rfl⟩
theorem start (w : World) :
    Calls Try.prog 28 #[] w fun e w' => ∃ v : Value, e = .returned v ∧ Kd.R (Kd.int .i64) 3 w' w.heap.size (fun _ => True) v eight ∧ Below w.heap.size w w' := by
  have HB := Aside0.mk (Below.refl w.heap.size w)
  go_enter Try.func28, Try.ntmps28
  go_wp2_with (first | (go_at_call 62; refine (first _).mono ?_; rintro e w' ⟨rfl, o1, rfl⟩) | ((with_reducible refine gate_dst (N := 5) rfl ?_); refine Kd.R_lit (Kd.int .i64) _ 3 ?hg (N := 5) ?hd (xs := ([] : List Int)) (inner := []) (ok := fun _ => True) (okp := fun _ => True) ?hr ?hp (fun _ hk => hk) trivial (Below.refl _ _) (Nat.le_refl _) (by simp) ?_; (case hd => rfl); (case hg => rfl); (case hr => first | (go_simp; done) | (go_simp; rfl)); (case hp => exact (Reps.none _ _)); intro v117 w3 ho4 hb hg_ hnew_; have BK : Aside0 (w3.heap[w.heap.size + 1]? = some (.cells cells8 86 (0, 0))) := ⟨blk_below (by simpa using blk_new (w.alloc o1) _) hb⟩; have n1_ := Aside0.mk (below_step (by with_reducible repeat (first | exact HB.out | apply below_alloc)) hb); have n0_ := Aside0.mk (Kd.R_lower ho4 (below_size (by with_reducible repeat (first | exact HB.out | apply below_alloc)))); clear HB; clear ho4 hb hg_ hnew_))
  go_loopg [2, 3] 8 (fun kq v2 v3 w' => ∃ (n : Nat), n + kq = 8 ∧ v3 = .int .i64 (n : Int) ∧ Aside0 (Kd.R (Kd.int .i64) 3 w' w.heap.size (fun _ => True) v2 (eight.take n)) ∧ Aside0 (Below w.heap.size w w') ∧ Aside0 (w'.heap[w.heap.size + 1]? = some (.cells cells8 86 (0, 0))))
  case atStart => exact ⟨0, rfl, rfl, n0_, n1_, BK⟩
  case round =>
    clear n0_ n1_ BK
    obtain ⟨n, hn, rfl, HO, HB, BK⟩ := hrel
    have hc : n = 0 ∨ n = 1 ∨ n = 2 ∨ n = 3 ∨ n = 4 ∨ n = 5 ∨ n = 6 ∨ n = 7 ∨ n = 8 := by omega
    rcases hc with rfl | rfl | rfl | rfl | rfl | rfl | rfl | rfl | rfl
    · have hx := blk_cell BK.out 0
      simp only [List.getElem?_toArray, List.getElem?_cons_succ, List.getElem?_cons_zero] at hx
      obtain ⟨kq, rfl⟩ : ∃ m, gk = m + 1 := ⟨7, by omega⟩
      go_wp2_with (first | ((with_reducible refine gate_builtin (b := .append) (xs := #[.tmp 10, .tmp 15]) rfl ?_); at_builtin; refine Kd.R_append (Kd.int .i64) (w0 := w) w.heap.size rfl (.tmp 10) (.tmp 15) 48 3 (.int .i64 0) 8 rfl Try.underlying48 info3 rfl (by decide) (by omega) _ (eight.take 0) 1779033703 [.int .i64 1779033703] (fun _ => True) (fun _ => False) rfl rfl ?aP (fun _ hk => hk.elim) ?aF ?aO ?aB ?aS ?aL ?_; (case aP => exact rfl); (case aB => exact (by with_reducible repeat (first | exact HB.out | apply below_alloc))); (case aF => exact (fun _ _ => trivial)); (case aO => exact (by (with_reducible repeat (first | apply Kd.R_alloc)); exact HO.out)); (case aS => exact (below_size (by with_reducible repeat (first | exact HB.out | apply below_alloc)))); (case aL => decide); intro v122 w9 ho hb hg hat; have n0_ := Aside0.mk hb; have n1_ := Aside0.mk ho; have n2_ := Aside0.mk (blk_grown BK.out hg (ne_of_type HO.out BK.out (by decide))); clear HB HO BK; clear hx ho hb hg hat))
      go_roundg kq
      case measure => omega
      case rel => exact ⟨1, by omega, rfl, n1_, n0_, n2_⟩
    · have hx := blk_cell BK.out 1
      simp only [List.getElem?_toArray, List.getElem?_cons_succ, List.getElem?_cons_zero] at hx
      obtain ⟨kq, rfl⟩ : ∃ m, gk = m + 1 := ⟨6, by omega⟩
      go_wp2_with (first | ((with_reducible refine gate_builtin (b := .append) (xs := #[.tmp 10, .tmp 15]) rfl ?_); at_builtin; refine Kd.R_append (Kd.int .i64) (w0 := w) w.heap.size rfl (.tmp 10) (.tmp 15) 48 3 (.int .i64 0) 8 rfl Try.underlying48 info3 rfl (by decide) (by omega) _ (eight.take 1) 3144134277 [.int .i64 3144134277] (fun _ => True) (fun _ => False) rfl rfl ?aP (fun _ hk => hk.elim) ?aF ?aO ?aB ?aS ?aL ?_; (case aP => exact rfl); (case aB => exact (by with_reducible repeat (first | exact HB.out | apply below_alloc))); (case aF => exact (fun _ _ => trivial)); (case aO => exact (by (with_reducible repeat (first | apply Kd.R_alloc)); exact HO.out)); (case aS => exact (below_size (by with_reducible repeat (first | exact HB.out | apply below_alloc)))); (case aL => decide); intro v122 w9 ho hb hg hat; have n0_ := Aside0.mk hb; have n1_ := Aside0.mk ho; have n2_ := Aside0.mk (blk_grown BK.out hg (ne_of_type HO.out BK.out (by decide))); clear HB HO BK; clear hx ho hb hg hat))
      go_roundg kq
      case measure => omega
      case rel => exact ⟨2, by omega, rfl, n1_, n0_, n2_⟩
    · have hx := blk_cell BK.out 2
      simp only [List.getElem?_toArray, List.getElem?_cons_succ, List.getElem?_cons_zero] at hx
      obtain ⟨kq, rfl⟩ : ∃ m, gk = m + 1 := ⟨5, by omega⟩
      go_wp2_with (first | ((with_reducible refine gate_builtin (b := .append) (xs := #[.tmp 10, .tmp 15]) rfl ?_); at_builtin; refine Kd.R_append (Kd.int .i64) (w0 := w) w.heap.size rfl (.tmp 10) (.tmp 15) 48 3 (.int .i64 0) 8 rfl Try.underlying48 info3 rfl (by decide) (by omega) _ (eight.take 2) 1013904242 [.int .i64 1013904242] (fun _ => True) (fun _ => False) rfl rfl ?aP (fun _ hk => hk.elim) ?aF ?aO ?aB ?aS ?aL ?_; (case aP => exact rfl); (case aB => exact (by with_reducible repeat (first | exact HB.out | apply below_alloc))); (case aF => exact (fun _ _ => trivial)); (case aO => exact (by (with_reducible repeat (first | apply Kd.R_alloc)); exact HO.out)); (case aS => exact (below_size (by with_reducible repeat (first | exact HB.out | apply below_alloc)))); (case aL => decide); intro v122 w9 ho hb hg hat; have n0_ := Aside0.mk hb; have n1_ := Aside0.mk ho; have n2_ := Aside0.mk (blk_grown BK.out hg (ne_of_type HO.out BK.out (by decide))); clear HB HO BK; clear hx ho hb hg hat))
      go_roundg kq
      case measure => omega
      case rel => exact ⟨3, by omega, rfl, n1_, n0_, n2_⟩
    · have hx := blk_cell BK.out 3
      simp only [List.getElem?_toArray, List.getElem?_cons_succ, List.getElem?_cons_zero] at hx
      obtain ⟨kq, rfl⟩ : ∃ m, gk = m + 1 := ⟨4, by omega⟩
      go_wp2_with (first | ((with_reducible refine gate_builtin (b := .append) (xs := #[.tmp 10, .tmp 15]) rfl ?_); at_builtin; refine Kd.R_append (Kd.int .i64) (w0 := w) w.heap.size rfl (.tmp 10) (.tmp 15) 48 3 (.int .i64 0) 8 rfl Try.underlying48 info3 rfl (by decide) (by omega) _ (eight.take 3) 2773480762 [.int .i64 2773480762] (fun _ => True) (fun _ => False) rfl rfl ?aP (fun _ hk => hk.elim) ?aF ?aO ?aB ?aS ?aL ?_; (case aP => exact rfl); (case aB => exact (by with_reducible repeat (first | exact HB.out | apply below_alloc))); (case aF => exact (fun _ _ => trivial)); (case aO => exact (by (with_reducible repeat (first | apply Kd.R_alloc)); exact HO.out)); (case aS => exact (below_size (by with_reducible repeat (first | exact HB.out | apply below_alloc)))); (case aL => decide); intro v122 w9 ho hb hg hat; have n0_ := Aside0.mk hb; have n1_ := Aside0.mk ho; have n2_ := Aside0.mk (blk_grown BK.out hg (ne_of_type HO.out BK.out (by decide))); clear HB HO BK; clear hx ho hb hg hat))
      go_roundg kq
      case measure => omega
      case rel => exact ⟨4, by omega, rfl, n1_, n0_, n2_⟩
    · have hx := blk_cell BK.out 4
      simp only [List.getElem?_toArray, List.getElem?_cons_succ, List.getElem?_cons_zero] at hx
      obtain ⟨kq, rfl⟩ : ∃ m, gk = m + 1 := ⟨3, by omega⟩
      go_wp2_with (first | ((with_reducible refine gate_builtin (b := .append) (xs := #[.tmp 10, .tmp 15]) rfl ?_); at_builtin; refine Kd.R_append (Kd.int .i64) (w0 := w) w.heap.size rfl (.tmp 10) (.tmp 15) 48 3 (.int .i64 0) 8 rfl Try.underlying48 info3 rfl (by decide) (by omega) _ (eight.take 4) 1359893119 [.int .i64 1359893119] (fun _ => True) (fun _ => False) rfl rfl ?aP (fun _ hk => hk.elim) ?aF ?aO ?aB ?aS ?aL ?_; (case aP => exact rfl); (case aB => exact (by with_reducible repeat (first | exact HB.out | apply below_alloc))); (case aF => exact (fun _ _ => trivial)); (case aO => exact (by (with_reducible repeat (first | apply Kd.R_alloc)); exact HO.out)); (case aS => exact (below_size (by with_reducible repeat (first | exact HB.out | apply below_alloc)))); (case aL => decide); intro v122 w9 ho hb hg hat; have n0_ := Aside0.mk hb; have n1_ := Aside0.mk ho; have n2_ := Aside0.mk (blk_grown BK.out hg (ne_of_type HO.out BK.out (by decide))); clear HB HO BK; clear hx ho hb hg hat))
      go_roundg kq
      case measure => omega
      case rel => exact ⟨5, by omega, rfl, n1_, n0_, n2_⟩
    · have hx := blk_cell BK.out 5
      simp only [List.getElem?_toArray, List.getElem?_cons_succ, List.getElem?_cons_zero] at hx
      obtain ⟨kq, rfl⟩ : ∃ m, gk = m + 1 := ⟨2, by omega⟩
      go_wp2_with (first | ((with_reducible refine gate_builtin (b := .append) (xs := #[.tmp 10, .tmp 15]) rfl ?_); at_builtin; refine Kd.R_append (Kd.int .i64) (w0 := w) w.heap.size rfl (.tmp 10) (.tmp 15) 48 3 (.int .i64 0) 8 rfl Try.underlying48 info3 rfl (by decide) (by omega) _ (eight.take 5) 2600822924 [.int .i64 2600822924] (fun _ => True) (fun _ => False) rfl rfl ?aP (fun _ hk => hk.elim) ?aF ?aO ?aB ?aS ?aL ?_; (case aP => exact rfl); (case aB => exact (by with_reducible repeat (first | exact HB.out | apply below_alloc))); (case aF => exact (fun _ _ => trivial)); (case aO => exact (by (with_reducible repeat (first | apply Kd.R_alloc)); exact HO.out)); (case aS => exact (below_size (by with_reducible repeat (first | exact HB.out | apply below_alloc)))); (case aL => decide); intro v122 w9 ho hb hg hat; have n0_ := Aside0.mk hb; have n1_ := Aside0.mk ho; have n2_ := Aside0.mk (blk_grown BK.out hg (ne_of_type HO.out BK.out (by decide))); clear HB HO BK; clear hx ho hb hg hat))
      go_roundg kq
      case measure => omega
      case rel => exact ⟨6, by omega, rfl, n1_, n0_, n2_⟩
    · have hx := blk_cell BK.out 6
      simp only [List.getElem?_toArray, List.getElem?_cons_succ, List.getElem?_cons_zero] at hx
      obtain ⟨kq, rfl⟩ : ∃ m, gk = m + 1 := ⟨1, by omega⟩
      go_wp2_with (first | ((with_reducible refine gate_builtin (b := .append) (xs := #[.tmp 10, .tmp 15]) rfl ?_); at_builtin; refine Kd.R_append (Kd.int .i64) (w0 := w) w.heap.size rfl (.tmp 10) (.tmp 15) 48 3 (.int .i64 0) 8 rfl Try.underlying48 info3 rfl (by decide) (by omega) _ (eight.take 6) 528734635 [.int .i64 528734635] (fun _ => True) (fun _ => False) rfl rfl ?aP (fun _ hk => hk.elim) ?aF ?aO ?aB ?aS ?aL ?_; (case aP => exact rfl); (case aB => exact (by with_reducible repeat (first | exact HB.out | apply below_alloc))); (case aF => exact (fun _ _ => trivial)); (case aO => exact (by (with_reducible repeat (first | apply Kd.R_alloc)); exact HO.out)); (case aS => exact (below_size (by with_reducible repeat (first | exact HB.out | apply below_alloc)))); (case aL => decide); intro v122 w9 ho hb hg hat; have n0_ := Aside0.mk hb; have n1_ := Aside0.mk ho; have n2_ := Aside0.mk (blk_grown BK.out hg (ne_of_type HO.out BK.out (by decide))); clear HB HO BK; clear hx ho hb hg hat))
      go_roundg kq
      case measure => omega
      case rel => exact ⟨7, by omega, rfl, n1_, n0_, n2_⟩
    · have hx := blk_cell BK.out 7
      simp only [List.getElem?_toArray, List.getElem?_cons_succ, List.getElem?_cons_zero] at hx
      obtain ⟨kq, rfl⟩ : ∃ m, gk = m + 1 := ⟨0, by omega⟩
      go_wp2_with (first | ((with_reducible refine gate_builtin (b := .append) (xs := #[.tmp 10, .tmp 15]) rfl ?_); at_builtin; refine Kd.R_append (Kd.int .i64) (w0 := w) w.heap.size rfl (.tmp 10) (.tmp 15) 48 3 (.int .i64 0) 8 rfl Try.underlying48 info3 rfl (by decide) (by omega) _ (eight.take 7) 1541459225 [.int .i64 1541459225] (fun _ => True) (fun _ => False) rfl rfl ?aP (fun _ hk => hk.elim) ?aF ?aO ?aB ?aS ?aL ?_; (case aP => exact rfl); (case aB => exact (by with_reducible repeat (first | exact HB.out | apply below_alloc))); (case aF => exact (fun _ _ => trivial)); (case aO => exact (by (with_reducible repeat (first | apply Kd.R_alloc)); exact HO.out)); (case aS => exact (below_size (by with_reducible repeat (first | exact HB.out | apply below_alloc)))); (case aL => decide); intro v122 w9 ho hb hg hat; have n0_ := Aside0.mk hb; have n1_ := Aside0.mk ho; have n2_ := Aside0.mk (blk_grown BK.out hg (ne_of_type HO.out BK.out (by decide))); clear HB HO BK; clear hx ho hb hg hat))
      go_roundg kq
      case measure => omega
      case rel => exact ⟨8, by omega, rfl, n1_, n0_, n2_⟩
    · go_wp2
      go_ret
      exact ⟨_, rfl, HO.out, HB.out⟩
abbrev marked : List Int := [1, 2, 3, 4, 5, 6, 7, 8]
theorem eq_f : laws_eqIntS.f 20 eight eight = some true := by kernel_rfl
theorem mark_f : laws_markIntS.f 20 eight 1 = some (9, marked) := by kernel_rfl
theorem held_f : laws_heldIntS.f 20 marked 1 = some 9 := by kernel_rfl
theorem law (w : World) : Calls Try.prog 7 #[] w fun e w' => e = .returned (.bool true) ∧ Below w.heap.size w w' := by
  go_enter Try.func7, Try.ntmps7
  go_upto_region 2 with (go_at_call 28; refine (start _).mono ?_; rintro e w1 ⟨v1, rfl, R1, B1⟩; replace R1 := Aside0.mk R1; replace B1 := Aside0.mk B1)
  obtain ⟨A1, c1, rfl⟩ := Kd.R_slice R1.out
  go_upto_region 3 with (go_at_call 29; refine (impl_ShaStart.calls eight _ rfl).mono ?_; rintro e w2 ⟨v2, rfl, R2, B2⟩; replace R2 := Aside0.mk R2; replace B2 := Aside0.mk B2)
  obtain ⟨A2, c2, rfl⟩ := Kd.R_slice R2.out
  obtain ⟨A1', c1', he1, hl1, C1⟩ := Kd.R_reads R1.out
  injection he1 with e1 e2 e3
  subst e1 e3
  clear e2
  obtain ⟨A2', c2', he1, hl2, C2⟩ := Kd.R_reads R2.out
  injection he1 with e1 e2 e3
  subst e1 e3
  clear e2
  replace C2 := Aside0.mk C2
  replace C1 := Aside0.mk C1
  replace hl1 := Aside0.mk hl1
  replace hl2 := Aside0.mk hl2
  go_upto_region 6 with (go_at_call 30; refine (laws_eqIntS.calls 20 A2 c2 eight A1 c1 eight true _ C2.out hl2.out (Kd.C_below C1.out B2.out) hl1.out eq_f).mono ?_; rintro e w3 ⟨rfl, D3⟩; replace D3 := Aside0.mk D3.below)
  go_upto_region 7 with (go_at_call 31; refine (laws_markIntS.calls 20 (fun _ => True) _ eight 1 9 marked w1 _ (below_step B2.out D3.out) (Kd.R_below R2.out D3.out) mark_f).mono ?_; rintro e w4 ⟨rfl, R4, B4, _⟩; replace R4 := Aside0.mk R4; replace B4 := Aside0.mk B4)
  clear C2 hl2
  obtain ⟨A2', c2', he1, hl2, C2⟩ := Kd.R_reads R4.out
  injection he1 with e1 e2 e3
  subst e1 e3
  clear e2
  replace C2 := Aside0.mk C2
  replace hl2 := Aside0.mk hl2
  go_upto_region 13 with (go_at_call 32; refine (laws_heldIntS.calls 20 A2 c2 marked 1 9 _ C2.out hl2.out held_f).mono ?_; rintro e w5 ⟨rfl, D5⟩; replace D5 := Aside0.mk D5.below)
  go_upto_region 14 with (go_at_call 29; refine (impl_ShaStart.calls eight _ rfl).mono ?_; rintro e w6 ⟨v5, rfl, R6, B6⟩; replace R6 := Aside0.mk R6; replace B6 := Aside0.mk B6)
  obtain ⟨A5, c5, hl5, C5⟩ : ∃ A5 c5, v5 = .slice A5 8 c5 ∧ 8 ≤ c5 ∧ Kd.C (Kd.int .i64) w6 A5 8 eight := Kd.R_reads R6.out
  obtain ⟨rfl, hl5, C5⟩ := And.intro hl5 C5
  replace C5 := Aside0.mk C5
  replace hl5 := Aside0.mk hl5
  have C1' := Aside0.mk (Kd.C_below C1.out (below_step (below_step B4.out D5.out) B6.out))
  go_upto_region 16 with (go_at_call 30; refine (laws_eqIntS.calls 20 A5 c5 eight A1 c1 eight true _ C5.out hl5.out C1'.out hl1.out eq_f).mono ?_; rintro e w7 ⟨rfl, D7⟩; replace D7 := Aside0.mk D7.below)
  have C2' := Aside0.mk (Kd.C_below C2.out (below_step (below_step D5.out B6.out) D7.out))
  go_wp2_with (go_at_call 32; refine (laws_heldIntS.calls 20 A2 c2 marked 1 9 _ C2'.out hl2.out held_f).mono ?_; rintro e w8 ⟨rfl, D8⟩; replace D8 := Aside0.mk D8.below)
  go_ret
  exact ⟨rfl, below_step (below_step (below_step (below_step (below_step B1.out B4.out) D5.out) B6.out) D7.out) D8.out⟩
def laws_FnExactShaStart.f : Option Bool := some true
theorem laws_FnExactShaStart.calls (r : Bool) (w : World) (h : laws_FnExactShaStart.f = some r) :
    Calls Try.prog 7 #[] w fun e w' => e = .returned (.bool r) ∧ Below w.heap.size w w' := by
  obtain rfl := Option.some.inj h
  exact law w
end Go.Proofs.Ytgikbhkbgfppoaa.ShaS
