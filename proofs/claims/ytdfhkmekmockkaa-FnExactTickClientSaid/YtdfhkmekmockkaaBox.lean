/- A struct that is stored whole into a block that the call has just made; a struct that is loaded whole. -/
import Derived.Test.YtdfhkmekmockkaaWMore
import Derived.Laws.Rows
import Derived.Laws.Tables
import Derived.WalkKit
import Derived.OwnWalk
namespace Go.Proofs.Ytdfhkmekmockkaa.Box
open Go.RowKit Go.Proofs.YtdfhkmekmockkaaW.PrintWords
theorem setRow_new (w : World) (old cells : Array Value) (t : TypeId) : (w.alloc (.cells old t (0, 0))).setRow w.heap.size cells = w.alloc (.cells cells t (0, 0)) := by
  have e : (w.heap.push (.cells old t (0, 0))).modify w.heap.size (fun | .cells _ elem frozen => .cells cells elem frozen | o => o) = w.heap.push (.cells cells t (0, 0)) := by
    apply Array.ext
    · simp
    · intro i h1 h2
      simp only [Array.getElem_modify, Array.getElem_push]
      by_cases hi : w.heap.size = i
      · subst hi; simp
      · have hlt : i < w.heap.size := by simp at h1; omega
        simp [hi, hlt]
  show { w with heap := (w.heap.push (.cells old t (0, 0))).modify w.heap.size (fun | .cells _ elem frozen => .cells cells elem frozen | o => o) } = { w with heap := w.heap.push (.cells cells t (0, 0)) }
  rw [e]
theorem wpList_store_new {P : Program} {ops : Array Oper} {rest : List Oper} {o : Oper} {a : Act} {w : World} {Q : Exit → Act → World → Prop} (hgd : o.guard = none) (ty : TypeId) (x y : Operand) (ho : o.op = .store ty x y)
    (cells : Array Value) (hx : a.eval x = .pointer (some ⟨w.heap.size, 0, none⟩)) (hy : a.eval y = .agg cells)
    (t : TypeId) (old : Array Value) (hi : (P.info? ty).map (·.size) = some cells.size)
    (hold : old.size = cells.size) (h1 : cells.all (·.oneCell') = true)
    (h : wpList P ops Q rest (a.put o.dst undef) (w.alloc (.cells cells t (0, 0)))) : wpList P ops Q (o :: rest) a (w.alloc (.cells old t (0, 0))) := by
  refine wpList_store_row hgd ty x y ho w.heap.size cells hx hy t old (blk_new w _) hi hold h1 ?_
  rw [setRow_new]
  exact h
end Go.Proofs.Ytdfhkmekmockkaa.Box
