/- The operations that touch memory, as laws over the parts of a world. No program in sight. -/
import Derived.Test.YtdfhkmekmockkaaSL
import Derived.Laws.Rows
import Derived.Laws.Tables
import Derived.Laws.CopyRow
import Derived.Deep.AppendLies
namespace Go.Proofs.Ytdfhkmekmockkaa.SL
open Go.RowKit Go.Proofs.YtdfhkmekmockkaaW.PrintWords
set_option linter.unusedVariables false
set_option linter.unusedSimpArgs false

theorem H.set_row {w : World} {L : List Asn} {g : Nat} {t : TypeId} {cs : Array Value} (h : H w (box g t cs :: L)) (cs' : Array Value) : H (w.setRow g cs') (box g t cs' :: L) := by
  refine H.step h fun S hs => ?_
  obtain ⟨hb, rfl⟩ := hs
  refine ⟨fun b _ => b = g, ⟨setRow_heap w g cs cs' t _ hb, rfl⟩, fun b i h => .inl h, fun T hT => ?_⟩
  have far : ∀ b, b ≠ g → (w.setRow g cs').heap[b]? = w.heap[b]? := fun b hne => setRow_other w g b cs' hne
  refine ⟨rfl, rfl, rfl, by simp, fun b _ hTb => far b (fun e => hT b 0 (hTb 0) e), fun b j _ hTb => cell_of_block (far b (fun e => hT b j hTb e)) j⟩

theorem run_storeVar_seg {P : Program} (w : World) (g i : Nat) (t ty : TypeId) (cs : Array Value) (v : Value) (hg : w.heap[g]? = some (.cells cs t (0, 0))) (hi : (P.info? ty).map (·.size) = some v.cells.size)
    (hl : i + v.cells.size ≤ cs.size) (h1 : v.cells.toList.all (·.oneCell') = true) :
    (storeVar ty ⟨g, i, none⟩ v).run P w = .ok () (w.setRow g (cs.toList.take i ++ v.cells.toList ++ cs.toList.drop (i + v.cells.size)).toArray) := by
  have := run_storeCells_at (P := P) g i t v.cells.toList 0 cs w hg (by simpa using hl) (fun u hu => List.all_eq_true.1 h1 u hu)
  cases hq : P.info? ty with
  | none => simp [hq] at hi
  | some q =>
    have hs : v.cells.size = q.size := by simp [hq] at hi; omega
    simp [storeVar, sizeOf, typeInfo, hq, hs, this]
theorem run_loadCellsFrom_row {P : Program} (w : World) (g o : Nat) (t : TypeId) (cs : Array Value) (fr : Nat × Nat) (hg : w.heap[g]? = some (.cells cs t fr)) : ∀ (n i : Nat) (acc : Array Value), o + i + n ≤ cs.size →
    (loadCellsFrom ⟨g, o, none⟩ i n acc).run P w = .ok (acc ++ ((cs.toList.drop (o + i)).take n).toArray) w
  | 0, i, acc, _ => by simp [loadCellsFrom]
  | n + 1, i, acc, h => by
    have hi : o + i < cs.size := by omega
    have hadd : (⟨g, o, none⟩ : Addr).add i = ⟨g, o + i, none⟩ := by unfold Addr.add; split <;> simp_all
    have hcell : w.cell? ⟨g, o + i, none⟩ = some cs[o + i] := by simp [World.cell?, hg, hi]
    have ih := run_loadCellsFrom_row (P := P) w g o t cs fr hg n (i + 1) (acc.push cs[o + i]) (by omega)
    have hd : cs.toList.drop (o + i) = cs[o + i] :: cs.toList.drop (o + (i + 1)) := by
      rw [show o + (i + 1) = (o + i) + 1 by omega, ← List.getElem_cons_drop (by simpa using hi)]
      simp
    simp only [loadCellsFrom, Sem.run_bind, hadd]
    rw [show (load ⟨g, o + i, none⟩).run P w = .ok cs[o + i] w from by simp [load, Sem.run, hcell]]
    simp only [Result.andThen_ok, ih]
    rw [hd]
    simp

theorem run_loadVar_seg {P : Program} (w : World) (g i : Nat) (t ty : TypeId) (cs : Array Value) (fr : Nat × Nat) (d : TypeDesc) (n : Nat) (hg : w.heap[g]? = some (.cells cs t fr))
    (hu : P.underlying ty = some d) (hd : (match d with | .struct _ | .array _ _ => true | _ => false) = true) (hi : (P.info? ty).map (·.size) = some n) (hl : i + n ≤ cs.size) :
    (loadVar ty ⟨g, i, none⟩).run P w = .ok (.agg ((cs.toList.drop i).take n).toArray) w := by
  have := run_loadCellsFrom_row (P := P) w g i t cs fr hg n 0 #[] (by simpa using hl)
  cases hq : P.info? ty with
  | none => simp [hq] at hi
  | some q =>
    have hs : q.size = n := by simpa [hq] using hi
    have ha : (isAgg ty).run P w = .ok true w := by
      unfold isAgg
      rw [Sem.run_bind, run_underlying hu]
      cases d <;> simp_all
    simp only [loadVar, Sem.run_bind, ha, Result.andThen_ok, if_true, sizeOf, typeInfo, hq, loadCells]
    simp [hs, this, hq]

section
variable {P : Program} {ops : Array Oper} {rest : List Oper} {o : Oper} {a : Act} {w : World} {Q : Exit → Act → World → Prop} {L : List Asn}
/-- A value is stored into a box, from one cell on. -/
theorem ev_store {g : Nat} {t : TypeId} {cs : Array Value} (HS : H w (box g t cs :: L)) (hgd : o.guard = none) (ty : TypeId) (x y : Operand) (ho : o.op = .store ty x y) (i : Nat) (v : Value) (cs' : Array Value)
    (hx : a.eval x = .pointer (some ⟨g, i, none⟩)) (hy : a.eval y = v) (hsz : (P.info? ty).map (·.size) = some v.cells.size) (h1 : v.cells.toList.all (·.oneCell') = true) (hl : i + v.cells.size ≤ cs.size)
    (he : cs.toList.take i ++ v.cells.toList ++ cs.toList.drop (i + v.cells.size) = cs'.toList) (h : ∀ w1, H w1 (box g t cs' :: L) → wpList P ops Q rest (a.put o.dst undef) w1) : wpList P ops Q (o :: rest) a w := by
  refine wpList_plain hgd fun K hK => ?_
  unfold Oper.wp execOp
  simp only [ho, hx, hy, Instr.storeAt, Instr.sureAddr, Sem.run_bind, Sem.run_pure, Result.andThen_ok, run_storeVar_seg w g i t ty cs v (H.box_at HS) hsz hl h1, he]
  exact hK _ _ (h _ (H.set_row HS _))
/-- A struct is loaded out of a box, from one cell on. -/
theorem ev_load {g : Nat} {t : TypeId} {cs : Array Value} (HS : H w (box g t cs :: L)) (hgd : o.guard = none) (ty : TypeId) (x : Operand) (ho : o.op = .load ty x) (i n : Nat) (d : TypeDesc) (cs' : Array Value)
    (hx : a.eval x = .pointer (some ⟨g, i, none⟩)) (hu : P.underlying ty = some d) (hd : (match d with | .struct _ | .array _ _ => true | _ => false) = true) (hi : (P.info? ty).map (·.size) = some n) (hl : i + n ≤ cs.size)
    (he : (cs.toList.drop i).take n = cs'.toList) (h : wpList P ops Q rest (a.put o.dst (.agg cs')) w) : wpList P ops Q (o :: rest) a w := by
  refine wpList_plain hgd fun K hK => ?_
  unfold Oper.wp execOp
  simp only [ho, hx, Instr.loadAt, Instr.sureAddr, Sem.run_bind, Sem.run_pure, Result.andThen_ok, run_loadVar_seg w g i t ty cs (0, 0) d n (H.box_at HS) hu hd hi hl, he]
  exact hK _ _ h
/-- A new box. -/
theorem ev_box (HS : H w L) (hgd : o.guard = none) {N : Tmp} (_hd : o.dst = some N) {cs : Array Value} {t : TypeId}
    (hrun : (execOp a.eval o).run P w = .ok (.value (.pointer (some ⟨w.heap.size, 0, none⟩))) (w.alloc (.cells cs t (0, 0))))
    (h : ∀ g w1, H w1 (box g t cs :: L) → wpList P ops Q rest (a.put o.dst (.pointer (some ⟨g, 0, none⟩))) w1) : wpList P ops Q (o :: rest) a w :=
  Kd.event_run hgd hrun (h _ _ (H.new_box HS t cs))
/-- One element, which leads nowhere, is appended to a row of the call's own. -/
theorem ev_append {α : Type} {d : Kd α} {e : Nat} {v : Value} {xs : List α} (HS : H w (own e d v xs :: L)) (hgd : o.guard = none) (s x : Operand) (t : TypeId) (z : Value) (bytes : Nat)
    (ho : o.op = .call { callee := .builtin .append, args := #[s, x], argTypes := #[t, t] })
    (ht : P.underlying t = some (.slice e)) (hinfo : (P.info? e).map (fun i => (i.zero, i.size, i.bytes)) = some (some z, d.sz, bytes)) (hz : z.cells.size = d.sz) (hs0 : 0 < d.sz) (hb0 : 0 < bytes)
    (p : α) (cs : List Value) (hs : a.eval s = v) (hx : a.eval x = .slice (some ⟨w.heap.size, 0, none⟩) 1 1) (hp : d.M w 0 (fun _ => False) p cs) (hl : (xs.length + 1) * bytes ≤ 140737488355328)
    (h : ∀ v1 w1, H w1 (own e d v1 (xs ++ [p]) :: L) → wpList P ops Q rest (a.put o.dst v1) w1) : wpList P ops Q (o :: rest) a (w.alloc (.cells cs.toArray e)) := by
  obtain ⟨S, ⟨ok, hr, hb, rfl⟩, hd, hl'⟩ := HS
  refine Kd.R_append d (w0 := w) 0 hgd s x t e z bytes ho ht hinfo hz hs0 hb0 v xs p cs (fun k => ok k ∨ w.heap.size ≤ k) (fun _ => False) hs hx hp (fun _ h => h.elim) (fun k hk => .inr hk) (Kd.R_mono hr (fun k hk => .inl hk)) ⟨rfl, rfl, rfl, Nat.le_refl _, fun k hk => rfl⟩ (Nat.zero_le _) hl ?_
  intro v1 w1 hr1 hb1 hg1 hat1
  refine h v1 w1 (H.step_at hl' (S' := fun b _ => (ok b ∨ w.heap.size ≤ b) ∧ b < w1.heap.size) ⟨_, Kd.R_mono (Kd.R_bound hr1) (fun k hk => ⟨hk.1, hk.2.2.1⟩), fun b h => h.2, rfl⟩ (fun b i h => h.1) (fun T hT => ?_))
  have far : ∀ b, b < w.heap.size → ¬ ok b → w1.heap[b]? = w.heap[b]? := fun b hlt hno => hg1.block b hlt (fun e => hno (hr.1 b e.symm))
  exact ⟨hg1.os, hg1.tape, hg1.output, hg1.size, fun b hlt hTb => far b hlt (hT b 0 (hTb 0)), fun b j hlt hTb => cell_of_block (far b hlt (hT b j hTb)) j⟩
/-- A literal of elements that lead nowhere. -/
theorem ev_lit {α : Type} (d : Kd α) (HS : H w L) (e : Nat) (hgd : o.guard = none) {N : Tmp} (_hd : o.dst = some N) {xs : List α} {inner : List Value}
    (hrun : (execOp a.eval o).run P w = .ok (.value (.slice (some ⟨w.heap.size, 0, none⟩) xs.length xs.length)) (w.alloc (.cells inner.toArray e)))
    (hrep : Reps (d.M w w.heap.size (fun _ => False)) d.sz xs inner) (hm : xs.length ≤ 9223372036854775807)
    (h : ∀ v1 w1, H w1 (own e d v1 xs :: L) → wpList P ops Q rest (a.put o.dst v1) w1) : wpList P ops Q (o :: rest) a w :=
  Kd.R_lit d w.heap.size e hgd _hd (ok := fun _ => True) (okp := fun _ => False) hrun hrep (fun _ h => h.elim) trivial (Below.refl w.heap.size w) (Nat.le_refl _) hm (fun v1 w1 hr hb _ _ => h v1 w1 (H.new_own HS hb hr))
/-- What an append of one element, which leads nowhere, needs and leaves. -/
theorem H.appended {α : Type} {d : Kd α} {e : Nat} {v : Value} {xs : List α} (HS : H w (own e d v xs :: L)) {p : α} {cs : List Value} (hp : d.M w 0 (fun _ => False) p cs) :
    ∃ inner, w.ownsRow 0 e d.sz v xs.length inner ∧ ∀ v1 w1, w1.ownsRow 0 e d.sz v1 (xs.length + 1) (inner ++ cs) → w.grownBy w1 v.ownBlock → (v1.ownBlock = v.ownBlock ∨ ∃ b, v1.ownBlock = some b ∧ w.heap.size ≤ b) → H w1 (own e d v1 (xs ++ [p]) :: L) := by
  obtain ⟨S, ⟨ok, hr, hb, rfl⟩, hd, hl'⟩ := HS
  obtain ⟨h0, inner, hown, hrep⟩ := Kd.R_mono (ok' := fun k => ok k ∨ w.heap.size ≤ k) hr (fun k hk => .inl hk)
  refine ⟨inner, hown, fun v1 w1 hown1 hg1 hat1 => ?_⟩
  have hr1 := Kd.R_appended (ok := fun k => ok k ∨ w.heap.size ≤ k) (okp := fun _ => False) h0 hrep hp (fun _ h => h.elim) (fun k hk => .inr hk) hown1 hg1 hat1
  refine H.step_at hl' (S' := fun b _ => (ok b ∨ w.heap.size ≤ b) ∧ b < w1.heap.size) ⟨_, Kd.R_mono (Kd.R_bound hr1) (fun k hk => ⟨hk.1, hk.2.2.1⟩), fun b h => h.2, rfl⟩ (fun b i h => h.1) (fun T hT => ?_)
  have far : ∀ b, b < w.heap.size → ¬ ok b → w1.heap[b]? = w.heap[b]? := fun b hlt hno => hg1.block b hlt (fun e => hno (hr.1 b e.symm))
  exact ⟨hg1.os, hg1.tape, hg1.output, hg1.size, fun b hlt hTb => far b hlt (hT b 0 (hTb 0)), fun b j hlt hTb => cell_of_block (far b hlt (hT b j hTb)) j⟩
/-- An append of one element at a step of a region that draws, and anywhere: the element's cells lie somewhere. -/
theorem ev_append_step {α : Type} {d : Kd α} {e : Nat} {v : Value} {xs : List α} {K : Act → World → Prop} {E : Prop} (HS : H w (own e d v xs :: L)) (hgd : o.guard = none) (s x : Operand) (t : TypeId) (i : TypeInfo) (z : Value) (bytes : Nat)
    (ho : o.op = .call { callee := .builtin .append, args := #[s, x], argTypes := #[t, t] })
    (ht : P.underlying t = some (.slice e)) (hi : P.info? e = some i) (hz0 : i.zero = some z) (hsize : i.size = d.sz) (hby : i.bytes = bytes) (hz : z.cells.size = d.sz) (hs0 : 0 < d.sz)
    (p : α) (cs : List Value) (hs : a.eval s = v) (ad : Addr) (hx : a.eval x = .slice (some ad) 1 1) (hcs : ∀ j u, cs[j]? = some u → w.cell? (ad.add j) = some u) (hp : d.M w 0 (fun _ => False) p cs) (hm : xs.length + 1 ≤ maxLen) (hl : (xs.length + 1) * bytes ≤ 140737488355328)
    (h : ∀ g cap w1, H w1 (own e d (.slice (some ⟨g, 0, none⟩) (xs.length + 1) cap) (xs ++ [p]) :: L) → K (a.put o.dst (.slice (some ⟨g, 0, none⟩) (xs.length + 1) cap)) w1) : if Region.wanted o (yielded ops a.tmps) = true then Oper.wp P o a w K Q else E := by
  obtain ⟨inner, hown, hf⟩ := H.appended HS hp
  have hlen : cs.length = d.sz := d.K_len (d.K_of_M hp)
  refine step_append_lies w hgd s x t ho 0 e i z d.sz bytes ht hi hz0 hsize hby hz hs0 v xs.length inner hs hown ad 1 1 cs hx (by omega) hcs (d.K_one (d.K_of_M hp)) (by omega) hm hl (Nat.zero_le _) w.heap.size rfl ?_
  intro g cap w1 hown1 hg1 hat _
  refine h g cap w1 (hf _ w1 hown1 hg1 ?_)
  rcases hat with hat | hat
  · exact .inl (by rw [hat]; rfl)
  · exact .inr ⟨g, rfl, by omega⟩
end
theorem hdrew {w : World} {L : List Asn} (h : H w L) : H w.drew L := H.below h (below_drew (Below.refl _ _))
theorem hdrewN {w : World} {L : List Asn} (h : H w L) (n : Nat) : H (w.drewN n) L := H.below h (pw_below_drewN (Below.refl _ _) _)
theorem halloc {w : World} {L : List Asn} (h : H w L) (o : Obj) : H (w.alloc o) L := H.below h (below_alloc (Below.refl _ _) o)
theorem cell_of {w : World} {L : List Asn} {g : Nat} {t : TypeId} {cs : Array Value} (h : H w (box g t cs :: L)) {i : Nat} {v : Value} (hv : cs[i]? = some v) : w.cell? ⟨g, i, none⟩ = some v := (blk_cell (H.box_at h) i).trans hv
theorem new_reads (w : World) (cs : List Value) (t : TypeId) : ∀ j u, cs[j]? = some u → (w.alloc (.cells cs.toArray t (0, 0))).cell? ((⟨w.heap.size, 0, none⟩ : Addr).add j) = some u := by
  intro j u h
  have h1 := blk_cell (blk_new w (.cells cs.toArray t (0, 0))) j
  have h2 : (⟨w.heap.size, 0, none⟩ : Addr).add j = ⟨w.heap.size, j, none⟩ := by unfold Addr.add; split <;> simp_all
  rw [h2, h1, List.getElem?_toArray]
  exact h
theorem results_box {P : Program} {w : World} {L : List Asn} {g : Nat} {t : TypeId} {cs : Array Value} (h : H w (box g t cs :: L)) {fn : Func} {p : Tmp} {ty : TypeId} (hr : fn.results = #[.cell p ty]) {tmps : Array Value} {d : TypeDesc}
    (hp : tmps.getD p undef = .pointer (some ⟨g, 0, none⟩)) (hu : P.underlying ty = some d) (hd : (match d with | .struct _ | .array _ _ => true | _ => false) = true) (hi : (P.info? ty).map (·.size) = some cs.size) :
    (results fn tmps).run P w = .ok (.agg cs) w := results_cell_row hr tmps w g t cs (0, 0) d hp (H.box_at h) hu hd hi
theorem results_box2 {P : Program} {w : World} {L : List Asn} {g : Nat} {t : TypeId} {cs : Array Value} (h : H w (box g t cs :: L)) {fn : Func} {p u : Tmp} {ty : TypeId} (hr : fn.results = #[.cell p ty, .tmp u]) {tmps : Array Value} {d : TypeDesc}
    (hp : tmps.getD p undef = .pointer (some ⟨g, 0, none⟩)) (hu : P.underlying ty = some d) (hd : (match d with | .struct _ | .array _ _ => true | _ => false) = true) (hi : (P.info? ty).map (·.size) = some cs.size) :
    (results fn tmps).run P w = .ok (.tuple #[.agg cs, tmps.getD u undef]) w := by
  have hp' : tmps[p]?.getD undef = .pointer (some ⟨g, 0, none⟩) := by simpa using hp
  simp [results, hr, hp', asAddr, run_loadVar_row w g t ty cs (0, 0) d (H.box_at h) hu hd hi]
end Go.Proofs.Ytdfhkmekmockkaa.SL
