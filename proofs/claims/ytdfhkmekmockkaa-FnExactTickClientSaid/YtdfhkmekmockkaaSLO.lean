/- A region that draws its order, walked by hand over the parts of a world: what a load yields in every world that meets S; a store as one step. No program in sight. -/
import Derived.Test.YtdfhkmekmockkaaSLE
import Derived.Deep.RegionHeld3
import Derived.Deep.MidRow
namespace Go.Proofs.Ytdfhkmekmockkaa.SL
open Go.RowKit Go.Proofs.YtdfhkmekmockkaaW.PrintWords
set_option linter.unusedVariables false
set_option linter.unusedSimpArgs false
section
variable {P : Program} {ops : Array Oper} {o : Oper} {a : Act} {w : World} {Q : Exit → Act → World → Prop} {L : List Asn} {S : World → Prop} {K : Act → World → Prop} {E : Prop}
theorem run_load_cell {w : World} {g i : Nat} {ty : TypeId} {d : TypeDesc} {v : Value} (hu : P.underlying ty = some d) (hd : (match d with | .struct _ | .array _ _ => true | _ => false) = false) (hc : w.cell? ⟨g, i, none⟩ = some v) : (loadVar ty ⟨g, i, none⟩).run P w = .ok v w := by
  have ha : (isAgg ty).run P w = .ok false w := by
    unfold isAgg
    rw [Sem.run_bind, run_underlying hu]
    cases d <;> simp_all
  simp only [loadVar, Sem.run_bind, ha, Result.andThen_ok]
  simp [load, Sem.run, hc]
/-- A cell of a box that S tells. -/
theorem y_load {g : Nat} {t : TypeId} {cs : Array Value} (hS : ∀ w, S w → w.heap[g]? = some (.cells cs t (0, 0))) (hw : Region.wanted o (yielded ops a.tmps) = true) (ty : TypeId) (x : Operand) (ho : o.op = .load ty x) (i : Nat) (v : Value) (d : TypeDesc)
    (hx : a.eval x = .pointer (some ⟨g, i, none⟩)) (hv : cs[i]? = some v) (hu : P.underlying ty = some d) (hd : (match d with | .struct _ | .array _ _ => true | _ => false) = false) : YieldsIf P ops S o v a :=
  .inl ⟨hw, fun w hw' => by
    unfold execOp
    simp only [ho, hx, Instr.loadAt, Instr.sureAddr, Sem.run_bind, Sem.run_pure, Result.andThen_ok, run_load_cell hu hd ((blk_cell (hS w hw') i).trans hv)]⟩
/-- A struct out of a box that S tells. -/
theorem y_loads {g : Nat} {t : TypeId} {cs : Array Value} (hS : ∀ w, S w → w.heap[g]? = some (.cells cs t (0, 0))) (hw : Region.wanted o (yielded ops a.tmps) = true) (ty : TypeId) (x : Operand) (ho : o.op = .load ty x) (i n : Nat) (d : TypeDesc) (cs' : Array Value)
    (hx : a.eval x = .pointer (some ⟨g, i, none⟩)) (hu : P.underlying ty = some d) (hd : (match d with | .struct _ | .array _ _ => true | _ => false) = true) (hi : (P.info? ty).map (·.size) = some n) (hl : i + n ≤ cs.size)
    (he : (cs.toList.drop i).take n = cs'.toList) : YieldsIf P ops S o (.agg cs') a :=
  .inl ⟨hw, fun w hw' => by
    unfold execOp
    simp only [ho, hx, Instr.loadAt, Instr.sureAddr, Sem.run_bind, Sem.run_pure, Result.andThen_ok, run_loadVar_seg w g i t ty cs (0, 0) d n (hS w hw') hu hd hi hl, he]⟩
/-- What yields is taken first; the slot that it fills is named. -/
theorem take {md : Region.Mode} {i : Nat} {oi : Oper} {v : Value} {D : Tmp} {fuel : Nat} {listed : Array Bool} (hi : ops[i]? = some oi) (hD : oi.dst = some D)
    (hs : Region.noSelect ops = true) (hf : Region.free md ops listed i = true) (hr : (Region.ready md ops listed).contains i = true)
    (hQ : ∀ c a w, Q (.panic c) (a.put oi.dst v) w → Q (.panic c) a w) (hy : YieldsIf P ops S oi v a) (hS : S w)
    (h : wpAnyH P md ops Q S fuel (listed.setIfInBounds i true) (a.put (some D) v) w) : wpAnyH P md ops Q S (fuel + 1) listed a w :=
  wpAnyH_take hi hs hf hr hQ hy hS (by rw [hD]; exact h)
/-- A value is stored into a box: as a step. -/
theorem step_store {g : Nat} {t : TypeId} {cs : Array Value} (HS : H w (box g t cs :: L)) (hD : o.dst = none) (hw : Region.wanted o (yielded ops a.tmps) = true) (ty : TypeId) (x y : Operand) (ho : o.op = .store ty x y) (i : Nat) (v : Value) (cs' : Array Value)
    (hx : a.eval x = .pointer (some ⟨g, i, none⟩)) (hy : a.eval y = v) (hsz : (P.info? ty).map (·.size) = some v.cells.size) (h1 : v.cells.toList.all (·.oneCell') = true) (hl : i + v.cells.size ≤ cs.size)
    (he : cs.toList.take i ++ v.cells.toList ++ cs.toList.drop (i + v.cells.size) = cs'.toList) (h : ∀ w1, H w1 (box g t cs' :: L) → K (a.put none undef) w1) : if Region.wanted o (yielded ops a.tmps) = true then Oper.wp P o a w K Q else E := by
  rw [if_pos hw]
  unfold Oper.wp execOp
  simp only [ho, hx, hy, Instr.storeAt, Instr.sureAddr, Sem.run_bind, Sem.run_pure, Result.andThen_ok, run_storeVar_seg w g i t ty cs v (H.box_at HS) hsz hl h1, he]
  have h2 := h _ (H.set_row HS _)
  rw [← hD] at h2
  exact h2
end
end Go.Proofs.Ytdfhkmekmockkaa.SL
