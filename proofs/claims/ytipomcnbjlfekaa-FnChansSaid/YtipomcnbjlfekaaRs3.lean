/- A symbolic machine over the model's operations. Part 3: what computes without memory, on values that are known. No program in sight. -/
import Derived.Test.YtipomcnbjlfekaaRs2
namespace Go.Proofs.Ytipomcnbjlfekaa.Rs
open Go.RowKit
set_option linter.unusedVariables false
set_option linter.unusedSimpArgs false

/-! ### What needs no memory -/
def cellsAll : List AV → Option (List (List AC))
  | [] => some []
  | x :: xs => (cellsAll xs).map (x.cells :: ·)
/-- The parts of a literal laid into its zero. -/
def fillA (place : Nat → Option (Nat × Nat)) (cells : List AC) : List (Nat × List AC) → Option (List AC)
  | [] => some cells
  | (i, ys) :: rest =>
    match place i with
    | none => none
    | some (off, size) => bif Nat.beq ys.length size && Nat.ble (off + ys.length) cells.length then fillA place (cells.take off ++ (ys ++ cells.drop (off + ys.length))) rest else none
def partsO (tm : Tm) : List (Nat × Operand) → Option (List (Nat × List AC))
  | [] => some []
  | (i, x) :: rest =>
    match avO tm x, partsO tm rest with
    | some u, some r => some ((i, u.cells) :: r)
    | _, _ => none
def natLit : Option Value → Option Nat
  | some (.int .i64 (.ofNat n)) => some n
  | _ => none
def lenA : AV → Option Nat
  | .c (.v (.slice none 0 0)) => some 0
  | .c (.sl _ _ n) => some n
  | .c .em => some 0
  | _ => none
def lenT : AV → Option Nat
  | .c (.v (.string s)) => some s.size
  | _ => none
def pureE (C : Cfg) (H : Hp) (tm : Tm) : Op → Option SV
  | .move x | .assign x => getO tm x
  | .pick c x y =>
    match boolO tm c with
    | some true => getO tm x
    | some false => getO tm y
    | none => none
  | .unOp op t x =>
    match litO tm x with
    | some (.bool b) =>
      match op with
      | .not => some (.o (.c (.v (.bool !b))))
      | _ => none
    | some u => (evalP C.P (Op.unary op u)).bind lit
    | none => none
  | .convert s d x =>
    match litO tm x with
    | some u => (evalP C.P (convert s d u)).bind lit
    | none => none
  | .index t x i =>
    match litO tm x, litO tm i with
    | some u, some v => (evalP C.P (Instr.index t u v)).bind lit
    | _, _ => none
  | .binOp op t x y _ =>
    match litVO tm x, litVO tm y with
    | some u, some v =>
      match fastBin op u v with
      | some r => some (.o (.c (.v r)))
      | none => (evalP C.P (do eqGuard op t x y u v; binOp op t u v)).bind lit
    | _, _ => none
  | .extract x i =>
    match getO tm x with
    | some (.tu xs) => (xs[i]?).map .o
    | _ => none
  | .nilCheck x =>
    match getO tm x with
    | some (.o (.c (.p b o))) => some (.o (.c (.p b o)))
    | _ => none
  | .fieldAddr s x f =>
    match C.ty s, getO tm x with
    | some ⟨.struct fs, _, _, _⟩, some (.o (.c (.p b o))) =>
      match fs[f]? with
      | some (off, sz, _) => bif Nat.beq sz 0 then none else some (.o (.c (.p b (o + off))))
      | none => none
    | _, _ => none
  | .field s x f =>
    match C.ty s, avO tm x with
    | some ⟨.struct fs, _, _, _⟩, some (.ag cs) =>
      match fs[f]? with
      | some (off, _, ft) =>
        match C.ty ft with
        | some td =>
          bif Nat.ble (off + td.z) cs.length then
            match td.d.agg, (cs.drop off).take td.z with
            | true, ys => some (.o (.ag ys))
            | false, [y] => some (.o (.c y))
            | false, _ => none
          else none
        | none => none
      | none => none
    | _, _ => none
  | .indexAddr t x i =>
    match C.ty t, getO tm x, natLit (litO tm i) with
    | some ⟨.slice e, _, _, _⟩, some (.o (.c (.sl b j n))), some k =>
      match H.bs.get b, C.ty e with
      | some (.rows _ z _ _), some de => bif Nat.beq z de.z && Nat.blt k n then some (.o (.c (.p b (j * z + k * z)))) else none
      | _, _ => none
    | some ⟨.arr n e, _, _, _⟩, some (.o (.c (.p b o))), some k =>
      match C.ty e with
      | some de => bif Nat.blt k n then some (.o (.c (.p b (o + k * de.z)))) else none
      | none => none
    | _, _, _ => none
  | .slice t x lo hi none =>
    match C.ty t, getO tm x with
    | some ⟨.slice e, _, _, _⟩, some (.o (.c (.sl b j n))) =>
      match H.bs.get b, C.ty e with
      | some (.rows _ z _ _), some de =>
        match (match lo with | none => some 0 | some l => natLit (litO tm l)), (match hi with | none => some n | some h => natLit (litO tm h)) with
        | some l, some h => bif Nat.beq z de.z && Nat.ble l h && Nat.ble h n then (bif Nat.beq l 0 || Nat.blt l h then some (.o (.c (.sl b (j + l) (h - l)))) else some (.o (.c .em))) else none
        | _, _ => none
      | _, _ => none
    | _, _ => none
  | .build t parts =>
    match C.ty t with
    | some ⟨.struct fs, z, zero, _⟩ => (match partsO tm parts.toList with
      | some ps => (fillA (fun i => (fs[i]?).map fun x => (x.1, x.2.1)) (zero.map .v) ps).map fun cs => .o (.ag cs)
      | none => none)
    | some ⟨.arr _ e, z, zero, _⟩ => (match C.ty e, partsO tm parts.toList with
      | some de, some ps => (fillA (fun i => some (i * de.z, de.z)) (zero.map .v) ps).map fun cs => .o (.ag cs)
      | _, _ => none)
    | _ => none
  | .call { callee := .builtin .len, args, argTypes } =>
    match args.toList, argTypes.toList with
    | [x], [t] =>
      match C.ty t, avO tm x with
      | some ⟨.slice _, _, _, _⟩, some u => (lenA u).bind fun n => lit (.int .i64 n)
      | some ⟨.str, _, _, _⟩, some u => (lenT u).bind fun n => lit (.int .i64 n)
      | _, _ => none
    | _, _ => none
  | .call { callee := .builtin .min, args, argTypes } =>
    match args.toList with
    | [x, y] =>
      match litO tm x, litO tm y with
      | some u, some v => (evalP C.P (Builtin.min_ argTypes 0 #[u, v])).bind lit
      | _, _ => none
    | _ => none
  | .call { callee := .builtin .max, args, argTypes } =>
    match args.toList with
    | [x, y] =>
      match litO tm x, litO tm y with
      | some u, some v => (evalP C.P (Builtin.max_ argTypes 0 #[u, v])).bind lit
      | _, _ => none
    | _ => none
  | _ => none
/-- A part's cells laid in place, one by one. -/
theorem fold_splice (off : Nat) : ∀ (l : List Value) (i : Nat) (cs : Array Value), off + i + l.length ≤ cs.size →
    ((l.zipIdx i).foldl (fun cs (c : Value × Nat) => cs.setIfInBounds (off + c.2) c.1) cs).toList = cs.toList.take (off + i) ++ (l ++ cs.toList.drop (off + i + l.length))
  | [], i, cs, h => by simp
  | v :: l, i, cs, h => by
    simp only [List.length_cons] at h
    simp only [List.zipIdx_cons, List.foldl_cons]
    rw [fold_splice off l (i + 1) _ (by simp; omega)]
    have hA : (cs.toList.take (off + i)).length = off + i := by simp; omega
    have e : (cs.setIfInBounds (off + i) v).toList = (cs.toList.take (off + i) ++ [v]) ++ cs.toList.drop (off + i + 1) := by
      rw [Array.toList_setIfInBounds, List.set_eq_take_append_cons_drop, if_pos (by simp; omega)]
      simp
    have hB : (cs.toList.take (off + i) ++ [v]).length = off + (i + 1) := by rw [List.length_append, hA]; rfl
    rw [e, List.take_left' hB, List.drop_append, List.drop_of_length_le (by rw [hB]; omega), hB, List.drop_drop]
    simp only [List.nil_append, List.append_assoc, List.cons_append, List.length_cons]
    rw [show off + i + 1 + (off + (i + 1) + l.length - (off + (i + 1))) = off + i + (l.length + 1) by omega]
section
variable {C : Cfg} {fr : Fr} {E : Env} {N : Nat} {tm : Tm} {a : Act} {w0 : World} {H : Hp} {w : World}
theorem fill_rel {place : Nat → Option (Nat × Nat)} : ∀ (ps : List (Nat × List AC)) (vs : List (Nat × Value)) (cs : List AC) (arr : Array Value) {r : List AC}, RelL E cs arr.toList →
    ps.length = vs.length → (∀ (j : Nat) p v, ps[j]? = some p → vs[j]? = some v → p.1 = v.1 ∧ RelL E p.2 v.2.cells.toList) → fillA place cs ps = some r → ∃ arr', Instr.fill place arr vs = some arr' ∧ RelL E r arr'.toList
  | [], vs, cs, arr, r, hc, hl, hp, h => by
    cases vs with
    | nil => cases h; exact ⟨arr, rfl, hc⟩
    | cons v vs => cases hl
  | p :: ps, [], cs, arr, r, hc, hl, hp, h => by cases hl
  | (i, ys) :: ps, (i', v) :: vs, cs, arr, r, hc, hl, hp, h => by
    obtain ⟨e1, e2⟩ := hp 0 (i, ys) (i', v) rfl rfl
    simp only at e1 e2
    subst e1
    simp only [fillA] at h
    cases hpl : place i with
    | none => rw [hpl] at h; cases h
    | some os =>
      obtain ⟨off, size⟩ := os
      rw [hpl] at h
      simp only [beq_eq] at h
      cases hb : (decide (ys.length = size) && Nat.ble (off + ys.length) cs.length) with
      | false => rw [hb] at h; cases h
      | true =>
        rw [hb] at h
        simp only [Bool.and_eq_true, decide_eq_true_eq, Nat.ble_eq] at hb
        have hs : ys.length = v.cells.size := by rw [e2.1]; simp
        have ha : cs.length = arr.size := by rw [hc.1]; simp
        have hf := fold_splice off v.cells.toList 0 arr (by simp; omega)
        simp only [Nat.add_zero, Array.length_toList] at hf
        obtain ⟨arr', h1, h2⟩ := fill_rel (place := place) ps vs _ (v.cells.toList.zipIdx.foldl (fun cs (c : Value × Nat) => cs.setIfInBounds (off + c.2) c.1) arr) (r := r)
          (by rw [hf, ← hs]; exact (hc.take off).append (e2.append (hc.drop _))) (by simpa using hl) (fun j p v hp1 hv1 => hp (j + 1) p v hp1 hv1) h
        refine ⟨arr', ?_, h2⟩
        simp only [Instr.fill, hpl]
        rw [if_neg (by simp; omega), ← h1]
        congr 1
        rw [← Array.foldl_toList]
        simp
theorem partsO_rel (hT : RelT E N tm a) : ∀ (l : List (Nat × Operand)) {ps : List (Nat × List AC)}, partsO tm l = some ps → ps.length = (l.map fun (i, x) => (i, a.eval x)).length ∧ ∀ (j : Nat) p v, ps[j]? = some p → (l.map fun (i, x) => (i, a.eval x))[j]? = some v → p.1 = v.1 ∧ RelL E p.2 v.2.cells.toList
  | [], ps, h => by cases h; exact ⟨rfl, fun j p v hp => by simp at hp⟩
  | (i, x) :: rest, ps, h => by
    simp only [partsO] at h
    split at h
    · rename_i u r hu hr
      cases h
      obtain ⟨h1, h2⟩ := partsO_rel hT rest hr
      refine ⟨by simpa using h1, fun j p v hp hv => ?_⟩
      cases j with
      | zero => simp at hp hv; subst hp hv; exact ⟨rfl, (avO_rel hT hu).cells⟩
      | succ j => simp at hp; exact h2 j p v hp (by simpa using hv)
    · cases h
theorem bind_lit {s : Sem Value} {r : SV} (h : (evalP C.P s).bind lit = some r) : ∃ v, RelS E r v ∧ ∀ w, s.run C.P w = .ok v w := by
  cases he : evalP C.P s with
  | none => rw [he] at h; cases h
  | some v => rw [he] at h; exact ⟨v, (lit_rel h).1, evalP_run s he⟩
theorem natLit_eq {u : Option Value} {n : Nat} (h : natLit u = some n) : u = some (.int .i64 (n : Int)) := by
  unfold natLit at h
  split at h
  · cases h; rfl
  · cases h
theorem run_value {s : Sem Value} {v : Value} {w : World} {P : Program} (h : s.run P w = .ok v w) : ((do pure (.value (← s))) : Sem Next).run P w = .ok (.value v) w := by
  simp [Sem.run_bind, h]
end
section
variable {C : Cfg} {fr : Fr} {E : Env} {N : Nat} {tm : Tm} {a : Act} {w0 : World} {H : Hp} {w : World}
theorem addr_add0 (ad : Addr) : ad.add 0 = ad := rfl
theorem addr_add (g o n : Nat) : (⟨g, o, none⟩ : Addr).add n = ⟨g, o + n, none⟩ := by unfold Addr.add; split <;> simp_all
theorem sureAddr_run {P : Program} (w : World) (x : Addr) : (Instr.sureAddr (.pointer (some x))).run P w = .ok x w := rfl
theorem info_of {P : Program} {t : TypeId} {d : Td} (h : d.Ok P t) : ∃ i zv, P.info? t = some i ∧ i.size = d.z ∧ i.zero = some zv ∧ zv.cells.toList = d.zero ∧ i.bytes = d.bytes := by
  have := h.info
  cases hi : P.info? t with
  | none => rw [hi] at this; cases this
  | some i =>
    rw [hi] at this
    simp only [Option.map_some, Option.some.injEq, Prod.mk.injEq] at this
    obtain ⟨h1, h2, h3⟩ := this
    obtain ⟨zv, hz, h2⟩ := Option.map_eq_some_iff.1 h2
    exact ⟨i, zv, rfl, h1, hz, h2, h3⟩
theorem sizeOf_run {P : Program} {t : TypeId} {d : Td} (h : d.Ok P t) (w : World) : (sizeOf t).run P w = .ok d.z w := by
  obtain ⟨i, zv, hi, hs, _⟩ := info_of h
  simp [sizeOf, typeInfo, Sem.run_bind, hi, hs]
theorem zeroValue_run {P : Program} {t : TypeId} {d : Td} (h : d.Ok P t) (w : World) : ∃ zv, (zeroValue t).run P w = .ok zv w ∧ zv.cells.toList = d.zero := by
  obtain ⟨i, zv, hi, _, hz, hc, _⟩ := info_of h
  exact ⟨zv, by simp [zeroValue, typeInfo, Sem.run_bind, hi, hz], hc⟩
theorem zero_rel {P : Program} {t : TypeId} {d : Td} (h : d.Ok P t) : RelL E (d.zero.map .v) d.zero := by
  refine ⟨by simp, fun j x u hx hu => ?_⟩
  rw [List.getElem?_map, hu] at hx
  cases hx
  exact ⟨rfl, List.all_eq_true.1 h.one u (List.mem_of_getElem? hu)⟩
theorem underlying_run' {P : Program} {t : TypeId} {d : TypeDesc} (h : P.underlying t = some d) (w : World) : (underlying t).run P w = .ok d w := run_underlying h w
theorem fieldAt_run (hC : C.Ok) {s : TypeId} {fs : List (Nat × Nat × Nat)} {z : Nat} {zero : List Value} {bt : Nat} (hs : C.ty s = some ⟨.struct fs, z, zero, bt⟩) {f off sz ft : Nat} (hf : fs[f]? = some (off, sz, ft)) (hz : sz ≠ 0) (g o : Nat) (w : World) :
    (Instr.fieldAt s (.pointer (some ⟨g, o, none⟩)) f).run C.P w = .ok (.pointer (some ⟨g, o + off, none⟩)) w := by
  obtain ⟨fields, hu, hm⟩ := (hC.ty _ _ hs).desc
  have h1 : (fields.toList.map fun f => (f.offset, (C.P.info? f.type).map (·.size), f.type))[f]? = some (off, some sz, ft) := by rw [hm, List.getElem?_map, hf]; rfl
  rw [List.getElem?_map] at h1
  obtain ⟨fl, hfl, h2⟩ := Option.map_eq_some_iff.1 h1
  simp only [Prod.mk.injEq] at h2
  obtain ⟨i, hi, h3⟩ := Option.map_eq_some_iff.1 h2.2.1
  have hfl' : fields[f]? = some fl := by simpa using hfl
  have hsz : (sizeOf fl.type).run C.P w = .ok sz w := by simp [sizeOf, typeInfo, Sem.run_bind, hi, h3]
  simp only [Instr.fieldAt, Sem.run_bind, underlying_run' hu, Result.andThen_ok, hfl', sureAddr_run, fieldPlace, hsz, hz, if_false, Sem.run_pure, addr_add, h2.1]
theorem indexSl_run (hC : C.Ok) {t e : TypeId} {z : Nat} {zero : List Value} {bt : Nat} (ht : C.ty t = some ⟨.slice e, z, zero, bt⟩) {de : Td} (he : C.ty e = some de) (g o n c k : Nat) (hk : k < n) (w : World) :
    (Instr.indexAt t (.slice (some ⟨g, o, none⟩) n c) (.int .i64 (k : Int))).run C.P w = .ok (.pointer (some ⟨g, o + k * de.z, none⟩)) w := by
  have hu : C.P.underlying t = some (.slice e) := (hC.ty _ _ ht).desc
  have h0 : (0 : Int) ≤ k ∧ (k : Int) < n := by omega
  simp only [Instr.indexAt, asIntOf, Sem.run_bind, Sem.run_pure, Result.andThen_ok, underlying_run' hu, h0, and_self, if_true, sizeOf_run (hC.ty _ _ he), Int.toNat_natCast, addr_add]
theorem indexArr_run (hC : C.Ok) {t e : TypeId} {n z : Nat} {zero : List Value} {bt : Nat} (ht : C.ty t = some ⟨.arr n e, z, zero, bt⟩) {de : Td} (he : C.ty e = some de) (g o k : Nat) (hk : k < n) (w : World) :
    (Instr.indexAt t (.pointer (some ⟨g, o, none⟩)) (.int .i64 (k : Int))).run C.P w = .ok (.pointer (some ⟨g, o + k * de.z, none⟩)) w := by
  have hu : C.P.underlying t = some (.array n e) := (hC.ty _ _ ht).desc
  have h0 : (0 : Int) ≤ k ∧ (k : Int) < n := by omega
  simp only [Instr.indexAt, asIntOf, Sem.run_bind, Sem.run_pure, Result.andThen_ok, underlying_run' hu, sureAddr_run, h0, and_self, if_true, sizeOf_run (hC.ty _ _ he), Int.toNat_natCast, addr_add]
theorem sliceBound_run {P : Program} (w : World) (l y : Nat) (c : BoundsCode) (h : l ≤ y) : (Instr.sliceBound (.int .i64 (l : Int)) y c).run P w = .ok l w := by
  have h0 : (0 : Int) ≤ l ∧ (l : Int) ≤ y := by omega
  simp [Instr.sliceBound, asIntOf, Sem.run_bind, h0]
theorem mapM_run {P : Program} {α β : Type} (f : α → Sem β) (g : α → β) (w : World) : ∀ (l : List α), (∀ x ∈ l, (f x).run P w = .ok (g x) w) → (l.mapM f).run P w = .ok (l.map g) w
  | [], _ => by simp [List.mapM_nil, Sem.run_pure]
  | x :: l, h => by
    simp only [List.mapM_cons, Sem.run_bind, h x (by simp), Result.andThen_ok, mapM_run f g w l (fun y hy => h y (by simp [hy])), Sem.run_pure, List.map_cons]
theorem build_run (hC : C.Ok) {t : TypeId} {fs : List (Nat × Nat × Nat)} {z : Nat} {zero : List Value} {bt : Nat} (ht : C.ty t = some ⟨.struct fs, z, zero, bt⟩) (hT : RelT E N tm a) {parts : Array (Nat × Operand)} {ps : List (Nat × List AC)} (hp : partsO tm parts.toList = some ps)
    {cs : List AC} (hf : fillA (fun i => (fs[i]?).map fun x => (x.1, x.2.1)) (zero.map .v) ps = some cs) : ∃ arr, RelL E cs arr.toList ∧ ∀ w, (Instr.build t (parts.map fun (i, x) => (i, a.eval x))).run C.P w = .ok (.agg arr) w := by
  have hok := hC.ty _ _ ht
  obtain ⟨fields, hu, hm⟩ := hok.desc
  obtain ⟨i, zv, hi, hsz, hz, hc, hb⟩ := info_of hok
  obtain ⟨hl, hr⟩ := partsO_rel hT parts.toList hp
  obtain ⟨arr, h1, h2⟩ := fill_rel (E := E) (place := fun i => (fs[i]?).map fun x => (x.1, x.2.1)) ps (parts.toList.map fun (i, x) => (i, a.eval x)) _ zv.cells (by rw [hc]; exact zero_rel hok) hl hr hf
  refine ⟨arr, h2, fun w => ?_⟩
  have hpl : ∀ f ∈ fields.toList, (do pure (f.offset, ← sizeOf f.type) : Sem (Nat × Nat)).run C.P w = .ok (f.offset, ((C.P.info? f.type).map (·.size)).getD 0) w := by
    intro f hf
    have : (f.offset, (C.P.info? f.type).map (·.size), f.type) ∈ fs.map (fun x => (x.1, some x.2.1, x.2.2)) := by rw [← hm]; exact List.mem_map.2 ⟨f, hf, rfl⟩
    obtain ⟨x, _, hx⟩ := List.mem_map.1 this
    simp only [Prod.mk.injEq] at hx
    obtain ⟨q, hq, hqs⟩ := Option.map_eq_some_iff.1 hx.2.1.symm
    simp [Sem.run_bind, sizeOf, typeInfo, hq]
  have hpl2 : (fields.mapM fun (f : Field) => do pure (f.offset, ← sizeOf f.type)).run C.P w = .ok (fields.toList.map fun f => (f.offset, ((C.P.info? f.type).map (·.size)).getD 0)).toArray w := by
    rw [Array.mapM_eq_mapM_toList]
    rw [show (List.toArray <$> fields.toList.mapM fun (f : Field) => do pure (f.offset, ← sizeOf f.type) : Sem (Array (Nat × Nat))) = (do pure (List.toArray (← fields.toList.mapM fun (f : Field) => do pure (f.offset, ← sizeOf f.type)))) from rfl]
    rw [Sem.run_bind, mapM_run _ _ w _ hpl]
    rfl
  have hpe : (fields.toList.map fun f => (f.offset, ((C.P.info? f.type).map (·.size)).getD 0)) = fs.map fun x => (x.1, x.2.1) := by
    have : (fields.toList.map fun f => (f.offset, (C.P.info? f.type).map (·.size), f.type)).map (fun x => (x.1, x.2.1.getD 0)) = (fs.map (fun x => (x.1, some x.2.1, x.2.2))).map (fun x => (x.1, x.2.1.getD 0)) := by rw [hm]
    simpa [List.map_map, Function.comp_def] using this
  rw [hpe] at hpl2
  have hz' : (zeroValue t).run C.P w = .ok zv w := by simp [zeroValue, typeInfo, Sem.run_bind, hi, hz]
  have hps : (parts.map fun (i, x) => (i, a.eval x)).toList = parts.toList.map fun (i, x) => (i, a.eval x) := by simp
  have hfun : (fun (i : Nat) => (fs.map fun x => (x.1, x.2.1)).toArray[i]?) = (fun (i : Nat) => (fs[i]?).map fun x => (x.1, x.2.1)) := by funext i; simp
  simp only [Instr.build, Sem.run_bind, hz', Result.andThen_ok, underlying_run' hu, hpl2, hps, hfun, h1, Sem.run_pure]
theorem buildA_run (hC : C.Ok) {t n e : Nat} {z : Nat} {zero : List Value} {bt : Nat} (ht : C.ty t = some ⟨.arr n e, z, zero, bt⟩) {de : Td} (he : C.ty e = some de) (hT : RelT E N tm a) {parts : Array (Nat × Operand)} {ps : List (Nat × List AC)} (hp : partsO tm parts.toList = some ps)
    {cs : List AC} (hf : fillA (fun i => some (i * de.z, de.z)) (zero.map .v) ps = some cs) : ∃ arr, RelL E cs arr.toList ∧ ∀ w, (Instr.build t (parts.map fun (i, x) => (i, a.eval x))).run C.P w = .ok (.agg arr) w := by
  have hok := hC.ty _ _ ht
  have hu : C.P.underlying t = some (.array n e) := hok.desc
  obtain ⟨i, zv, hi, hsz, hz, hc, hb⟩ := info_of hok
  obtain ⟨hl, hr⟩ := partsO_rel hT parts.toList hp
  obtain ⟨arr, h1, h2⟩ := fill_rel (E := E) (place := fun i => some (i * de.z, de.z)) ps (parts.toList.map fun (i, x) => (i, a.eval x)) _ zv.cells (by rw [hc]; exact zero_rel hok) hl hr hf
  refine ⟨arr, h2, fun w => ?_⟩
  have hz' : (zeroValue t).run C.P w = .ok zv w := by simp [zeroValue, typeInfo, Sem.run_bind, hi, hz]
  have hps : (parts.map fun (i, x) => (i, a.eval x)).toList = parts.toList.map fun (i, x) => (i, a.eval x) := by simp
  simp only [Instr.build, Sem.run_bind, hz', Result.andThen_ok, underlying_run' hu, sizeOf_run (hC.ty _ _ he), hps, h1, Sem.run_pure]
/-- What computes without memory is what the model computes, in whatever world. -/
theorem pureE_ok (hC : C.Ok) (hH : RelH fr w0 E H w) (hT : RelT E N tm a) {o : Oper} {r : SV} (h : pureE C H tm o.op = some r) : ∃ v, RelS E r v ∧ ∀ w', (execOp a.eval o).run C.P w' = .ok (.value v) w' := by
  cases ho : o.op with
  | move x =>
    rw [ho] at h
    exact ⟨_, getO_rel hT h, fun w' => by unfold execOp; rw [ho]; rfl⟩
  | assign x =>
    rw [ho] at h
    exact ⟨_, getO_rel hT h, fun w' => by unfold execOp; rw [ho]; rfl⟩
  | pick c x y =>
    rw [ho] at h
    simp only [pureE] at h
    split at h
    · rename_i hb
      refine ⟨_, getO_rel hT h, fun w' => ?_⟩
      unfold execOp; rw [ho]
      simp [boolO_eq hT hb, asBool, Sem.run_bind]
    · rename_i hb
      refine ⟨_, getO_rel hT h, fun w' => ?_⟩
      unfold execOp; rw [ho]
      simp [boolO_eq hT hb, asBool, Sem.run_bind]
    · cases h
  | unOp op t x =>
    rw [ho] at h
    simp only [pureE] at h
    split at h
    · rename_i b hu
      split at h
      · cases h
        refine ⟨_, ⟨rfl, rfl⟩, fun w' => ?_⟩
        unfold execOp; rw [ho]
        simp only [litO_eq hT hu]
        rfl
      · cases h
    · rename_i u _ hu
      obtain ⟨v, h1, h2⟩ := bind_lit h
      refine ⟨v, h1, fun w' => ?_⟩
      unfold execOp; rw [ho]
      simp only [litO_eq hT hu]
      exact run_value (h2 w')
    · cases h
  | convert s d x =>
    rw [ho] at h
    simp only [pureE] at h
    split at h
    · rename_i u hu
      obtain ⟨v, h1, h2⟩ := bind_lit h
      refine ⟨v, h1, fun w' => ?_⟩
      unfold execOp; rw [ho]
      simp only [litO_eq hT hu]
      exact run_value (h2 w')
    · cases h
  | index t x i =>
    rw [ho] at h
    simp only [pureE] at h
    split at h
    · rename_i u v hu hv
      obtain ⟨q, h1, h2⟩ := bind_lit h
      refine ⟨q, h1, fun w' => ?_⟩
      unfold execOp; rw [ho]
      simp only [litO_eq hT hu, litO_eq hT hv]
      exact run_value (h2 w')
    · cases h
  | binOp op t x y yt =>
    rw [ho] at h
    simp only [pureE] at h
    split at h
    · rename_i u v hu hv
      split at h
      · rename_i r hf
        cases h
        obtain ⟨⟨b, hb⟩, hrun⟩ := fastBin_ok hf t x y
        refine ⟨r, ⟨rfl, by rcases hb with rfl | ⟨n, rfl⟩ <;> rfl⟩, fun w' => ?_⟩
        unfold execOp; rw [ho]
        simp only [litVO_eq hT hu, litVO_eq hT hv]
        exact run_value (hrun w')
      · obtain ⟨q, h1, h2⟩ := bind_lit h
        refine ⟨q, h1, fun w' => ?_⟩
        unfold execOp; rw [ho]
        simp only [litVO_eq hT hu, litVO_eq hT hv]
        exact run_value (h2 w')
    · cases h
  | extract x i =>
    rw [ho] at h
    simp only [pureE] at h
    split at h
    · rename_i xs hx
      obtain ⟨y, hy, rfl⟩ := Option.map_eq_some_iff.1 h
      obtain ⟨arr, he, hl, hr⟩ := getO_rel hT hx
      have hi : i < arr.size := by rw [← hl]; exact (List.getElem?_eq_some_iff.1 hy).1
      refine ⟨arr[i], hr i y arr[i] hy (Array.getElem?_eq_getElem hi), fun w' => ?_⟩
      unfold execOp; rw [ho]
      simp [he, Instr.extract, Sem.run_bind, Array.getElem?_eq_getElem hi]
    · cases h
  | nilCheck x =>
    rw [ho] at h
    simp only [pureE] at h
    split at h
    · rename_i b off hx
      cases h
      have hr := getO_rel hT hx
      obtain ⟨q, g, hq, hg, he⟩ := hr
      refine ⟨_, ⟨q, g, hq, hg, he⟩, fun w' => ?_⟩
      unfold execOp; rw [ho]
      simp [he]
    · cases h
  | fieldAddr s x f =>
    rw [ho] at h
    simp only [pureE] at h
    split at h
    · rename_i fs z zero bt b off hs hx
      split at h
      · rename_i foff sz ft hf
        simp only [beq_eq, cond_decide] at h
        split at h
        · cases h
        · rename_i hsz
          cases h
          obtain ⟨q, g, hq, hg, he⟩ := getO_rel hT hx
          refine ⟨_, ⟨q, g, hq, hg, rfl⟩, fun w' => ?_⟩
          unfold execOp; rw [ho]
          simp only [he]
          rw [← Nat.add_assoc]
          exact run_value (fieldAt_run hC hs hf hsz _ _ w')
      · cases h
    · cases h
  | field s x f =>
    rw [ho] at h
    simp only [pureE] at h
    split at h
    · rename_i fs z zero bt cs hs hx
      split at h
      · rename_i off sz ft hf
        split at h
        · rename_i td htd
          cases hc : Nat.ble (off + td.z) cs.length with
          | false => rw [hc] at h; cases h
          | true =>
            rw [hc, cond_true] at h
            simp only [Nat.ble_eq] at hc
            obtain ⟨arr, hev, hrel⟩ := avO_rel hT hx
            obtain ⟨fields, hu, hm⟩ := (hC.ty _ _ hs).desc
            have h1 : (fields.toList.map fun f => (f.offset, (C.P.info? f.type).map (·.size), f.type))[f]? = some (off, some sz, ft) := by rw [hm, List.getElem?_map, hf]; rfl
            rw [List.getElem?_map] at h1
            obtain ⟨fl, hfl, h2⟩ := Option.map_eq_some_iff.1 h1
            simp only [Prod.mk.injEq] at h2
            have hfl' : fields[f]? = some fl := by simpa using hfl
            have hok := hC.ty _ _ htd
            have hsz : cs.length = arr.size := by rw [hrel.1]; simp
            have hseg := (hrel.drop off).take td.z
            have hag : ∀ w', (isAgg ft).run C.P w' = .ok td.d.agg w' := by
              intro w'
              have hd := hok.desc
              unfold isAgg
              rw [Sem.run_bind]
              cases hk : td.d with
              | struct fs => rw [hk] at hd; obtain ⟨f, hu, _⟩ := hd; simp [underlying_run' hu, D.agg]
              | int k => rw [hk] at hd; rw [underlying_run' hd]; rfl
              | bool => rw [hk] at hd; rw [underlying_run' hd]; rfl
              | str => rw [hk] at hd; rw [underlying_run' hd]; rfl
              | arr n e => rw [hk] at hd; rw [underlying_run' hd]; rfl
              | slice e => rw [hk] at hd; rw [underlying_run' hd]; rfl
              | ptr e => rw [hk] at hd; rw [underlying_run' hd]; rfl
            have hrun : ∀ v, (∀ w', (part ft arr off).run C.P w' = .ok v w') → ∀ w', (execOp a.eval o).run C.P w' = .ok (.value v) w' := by
              intro v hv w'
              unfold execOp; rw [ho]
              refine run_value ?_
              simp only [Instr.field, Sem.run_bind, underlying_run' hu, Result.andThen_ok, hfl', hev, asAgg, Sem.run_pure, h2.1, h2.2.2, hv]
            cases hagg : td.d.agg with
            | true =>
              rw [hagg] at h
              cases h
              refine ⟨.agg (arr.extract off (off + td.z)), ⟨_, rfl, ?_⟩, hrun _ fun w' => ?_⟩
              · have : (arr.extract off (off + td.z)).toList = (arr.toList.drop off).take td.z := by simp [List.take_drop]
                rw [this]
                exact hseg
              · simp only [part, Sem.run_bind, hag, hagg, Result.andThen_ok, if_true, sizeOf_run hok, Sem.run_pure]
            | false =>
              rw [hagg] at h
              split at h
              · cases ‹false = true›
              · rename_i y _ hys
                cases h
                rw [hys] at hseg
                have hl := hseg.1
                match hq : (arr.toList.drop off).take td.z, hl with
                | [u], _ =>
                  rw [hq] at hseg
                  refine ⟨u, hseg.2 0 y u rfl rfl, hrun _ fun w' => ?_⟩
                  have h5 : ((arr.toList.drop off).take td.z)[0]? = some u := by rw [hq]; rfl
                  rw [List.getElem?_take, List.getElem?_drop] at h5
                  split at h5
                  · have h6 : arr[off]? = some u := by simpa using h5
                    simp only [part, Sem.run_bind, hag, hagg, Result.andThen_ok]
                    simp [h6]
                  · cases h5
              · cases h
        · cases h
      · cases h
    · cases h
  | indexAddr t x i =>
    rw [ho] at h
    simp only [pureE] at h
    split at h
    · rename_i e z zero bt b j n k ht hx hk
      split at h
      · rename_i tb zb nb es de hb he
        rw [beq_eq] at h
        cases hc : (decide (zb = de.z) && Nat.blt k n) with
        | false => rw [hc] at h; cases h
        | true =>
          rw [hc] at h
          cases h
          simp only [Bool.and_eq_true, decide_eq_true_eq, Nat.blt_eq] at hc
          obtain ⟨q, g, hq, hg, hwh, hle, hev⟩ := getO_rel hT hx
          obtain ⟨_, q', g', arr, hq', hg', hz, _, hwl, _⟩ := hH.blk _ _ hb
          rw [hq] at hq'
          cases hq'
          refine ⟨_, ⟨q, g, hq, hg, rfl⟩, fun w' => ?_⟩
          unfold execOp; rw [ho]
          simp only [hev, litO_eq hT (natLit_eq hk)]
          have := indexSl_run hC ht he g (j * q.z) n (q.cap - j) k hc.2 w'
          rw [← hc.1, hz] at this
          rw [hz, (hwl hwh).1, Nat.zero_add]
          exact run_value this
      · cases h
    · rename_i n e z zero bt b off k ht hx hk
      split at h
      · rename_i de he
        cases hc : Nat.blt k n with
        | false => rw [hc] at h; cases h
        | true =>
          rw [hc] at h
          cases h
          obtain ⟨q, g, hq, hg, hev⟩ := getO_rel hT hx
          refine ⟨_, ⟨q, g, hq, hg, rfl⟩, fun w' => ?_⟩
          unfold execOp; rw [ho]
          simp only [hev, litO_eq hT (natLit_eq hk)]
          rw [← Nat.add_assoc]
          exact run_value (indexArr_run hC ht he g (q.lo + off) k (by simpa using hc) w')
      · cases h
    · cases h
  | slice t x lo hi mx =>
    rw [ho] at h
    cases mx with
    | some m => simp [pureE] at h
    | none =>
      simp only [pureE] at h
      split at h
      · rename_i e z zero bt b j n ht hx
        split at h
        · rename_i tb zb nb es de hb he
          split at h
          · rename_i l hh hl hhi
            rw [beq_eq] at h
            cases hc : (decide (zb = de.z) && Nat.ble l hh && Nat.ble hh n) with
            | false => rw [hc] at h; cases h
            | true =>
              rw [hc] at h
              simp only [Bool.and_eq_true, decide_eq_true_eq, Nat.ble_eq] at hc
              obtain ⟨⟨hzz, hlh⟩, hhn⟩ := hc
              obtain ⟨q, g, hq, hg, hwh, hle, hev⟩ := getO_rel hT hx
              obtain ⟨_, q', g', arr, hq', hg', hz, _⟩ := hH.blk _ _ hb
              rw [hq] at hq'
              cases hq'
              have hu : C.P.underlying t = some (.slice e) := (hC.ty _ _ ht).desc
              have hlo : ∀ w', (match lo.map a.eval with | some v => Instr.sliceBound v hh .sliceB | none => (pure 0 : Sem Nat)).run C.P w' = .ok l w' := by
                intro w'
                cases lo with
                | none => simp at hl; subst hl; rfl
                | some lx =>
                  simp only [Option.map_some, litO_eq hT (natLit_eq hl)]
                  exact sliceBound_run w' l hh _ hlh
              have hhi' : ∀ w', (match hi.map a.eval with | some v => Instr.sliceBound v (q.cap - j) .sliceAcap | none => (pure n : Sem Nat)).run C.P w' = .ok hh w' := by
                intro w'
                cases hi with
                | none => simp at hhi; subst hhi; rfl
                | some hx2 =>
                  simp only [Option.map_some, litO_eq hT (natLit_eq hhi)]
                  exact sliceBound_run w' hh _ _ (by omega)
              have hbd : ∀ w', (Instr.sliceBounds true n (q.cap - j) (lo.map a.eval) (hi.map a.eval) none).run C.P w' = .ok (l, hh, q.cap - j) w' := by
                intro w'
                have h1 := hlo w'
                have h2 := hhi' w'
                cases hi with
                | none =>
                  simp only [Option.map_none] at h2
                  cases lo with
                  | none => simp_all [Instr.sliceBounds, Sem.run_bind]
                  | some lx => simp_all [Instr.sliceBounds, Sem.run_bind]
                | some hx2 =>
                  simp only [Option.map_some] at h2
                  cases lo with
                  | none => simp_all [Instr.sliceBounds, Sem.run_bind]
                  | some lx => simp_all [Instr.sliceBounds, Sem.run_bind]
              have hrun : ∀ w', (execOp a.eval o).run C.P w' = .ok (.value (.slice (if q.cap - j = l then some ⟨g, j * q.z, none⟩ else some ⟨g, j * q.z + l * q.z, none⟩) (hh - l) (q.cap - j - l))) w' := by
                intro w'
                unfold execOp; rw [ho]
                refine run_value ?_
                have hsz := sizeOf_run (hC.ty _ _ he) w'
                rw [← hzz, ← hz] at hsz
                simp only [Instr.sliceAt, Instr.slice, hev, Sem.run_bind, underlying_run' hu, Result.andThen_ok, hbd, hsz, Sem.run_pure, Option.map_none, Option.map_some, addr_add]
              cases hl0 : (Nat.beq l 0 || Nat.blt l hh) with
              | true =>
                rw [hl0] at h
                cases h
                refine ⟨_, ⟨q, g, hq, hg, hwh, by omega, rfl⟩, fun w' => ?_⟩
                rw [hrun w']
                simp only [beq_eq, Bool.or_eq_true, decide_eq_true_eq, Nat.blt_eq] at hl0
                have e1 : (if q.cap - j = l then some (⟨g, j * q.z, none⟩ : Addr) else some ⟨g, j * q.z + l * q.z, none⟩) = some ⟨g, (j + l) * q.z, none⟩ := by
                  rw [Nat.add_mul]
                  split
                  · rename_i hh2
                    rcases hl0 with hl0 | hl0
                    · subst hl0; simp
                    · omega
                  · rfl
                rw [e1, show q.cap - (j + l) = q.cap - j - l by omega]
              | false =>
                rw [hl0] at h
                cases h
                have hz0 : hh - l = 0 := by
                  simp only [beq_eq, Bool.or_eq_false_iff, decide_eq_false_iff_not] at hl0
                  have := hl0.2
                  have hnl : ¬ l < hh := fun hlt => by rw [show Nat.blt l hh = true by simpa using hlt] at this; cases this
                  omega
                refine ⟨.slice (if q.cap - j = l then some ⟨g, j * q.z, none⟩ else some ⟨g, j * q.z + l * q.z, none⟩) 0 (q.cap - j - l), ⟨_, _, rfl⟩, fun w' => ?_⟩
                rw [hrun w', hz0]
          · cases h
        · cases h
      · cases h
  | build t parts =>
    rw [ho] at h
    simp only [pureE] at h
    split at h
    · rename_i fs z zero bt ht
      split at h
      · rename_i ps hp
        obtain ⟨cs, hf, rfl⟩ := Option.map_eq_some_iff.1 h
        obtain ⟨arr, h1, h2⟩ := build_run hC ht hT hp hf
        refine ⟨.agg arr, ⟨arr, rfl, h1⟩, fun w' => ?_⟩
        unfold execOp; rw [ho]
        exact run_value (h2 w')
      · cases h
    · rename_i n e z zero bt ht
      split at h
      · rename_i de ps he hp
        obtain ⟨cs, hf, rfl⟩ := Option.map_eq_some_iff.1 h
        obtain ⟨arr, h1, h2⟩ := buildA_run hC ht he hT hp hf
        refine ⟨.agg arr, ⟨arr, rfl, h1⟩, fun w' => ?_⟩
        unfold execOp; rw [ho]
        exact run_value (h2 w')
      · cases h
    · cases h
  | call c =>
    rw [ho] at h
    obtain ⟨callee, args, argTypes⟩ := c
    cases callee with
    | value f => simp [pureE] at h
    | invoke f m => simp [pureE] at h
    | builtin b =>
      have hex : ∀ w' v, (builtin b argTypes o.type (args.map fun | .const _ => true | _ => false) (args.map a.eval)).run C.P w' = .ok (.value v) w' → (execOp a.eval o).run C.P w' = .ok (.value v) w' := by
        intro w' v hv
        unfold execOp; rw [ho]
        simp only [resolve, Sem.run_bind, Sem.run_pure, Result.andThen_ok, invoke]
        exact hv
      cases b with
      | len =>
        simp only [pureE] at h
        split at h
        · rename_i x t hx ht
          obtain rfl : args = #[x] := by apply Array.toList_inj.1; simpa using hx
          obtain rfl : argTypes = #[t] := by apply Array.toList_inj.1; simpa using ht
          split at h
          · rename_i e z zero bt u htt hu
            obtain ⟨n, hn, hl⟩ := Option.bind_eq_some_iff.1 h
            refine ⟨_, (lit_rel hl).1, fun w' => hex w' _ ?_⟩
            have hr := avO_rel hT hu
            have hun : C.P.underlying t = some (.slice e) := (hC.ty _ _ htt).desc
            have hs : ∃ ad c, a.eval x = .slice ad n c := by
              unfold lenA at hn
              split at hn
              · cases hn; exact ⟨none, 0, hr.1⟩
              · cases hn; obtain ⟨q, _, _, _, _, _, he⟩ := hr; exact ⟨_, _, he⟩
              · cases hn; obtain ⟨ad, c, he⟩ := hr; exact ⟨ad, c, he⟩
              · cases hn
            obtain ⟨ad, c, he⟩ := hs
            simp [builtin, Builtin.len_, Sem.run_bind, underlying_run' hun, he, goInt]
          · rename_i z zero bt u htt hu
            obtain ⟨n, hn, hl⟩ := Option.bind_eq_some_iff.1 h
            refine ⟨_, (lit_rel hl).1, fun w' => hex w' _ ?_⟩
            have hr := avO_rel hT hu
            have hun : C.P.underlying t = some .string := (hC.ty _ _ htt).desc
            have hs : ∃ s : ByteArray, a.eval x = .string s ∧ s.size = n := by
              unfold lenT at hn
              split at hn
              · cases hn; exact ⟨_, hr.1, rfl⟩
              · cases hn
            obtain ⟨s, he, rfl⟩ := hs
            simp [builtin, Builtin.len_, Sem.run_bind, underlying_run' hun, he, goInt]
          · cases h
        · cases h
      | min =>
        simp only [pureE] at h
        split at h
        · rename_i x y hx
          obtain rfl : args = #[x, y] := by apply Array.toList_inj.1; simpa using hx
          split at h
          · rename_i u v hu hv
            obtain ⟨q, h1, h2⟩ := bind_lit h
            refine ⟨q, h1, fun w' => hex w' _ ?_⟩
            have := h2 w'
            simp only [builtin]
            refine run_value ?_
            simpa [Builtin.min_, litO_eq hT hu, litO_eq hT hv] using this
          · cases h
        · cases h
      | max =>
        simp only [pureE] at h
        split at h
        · rename_i x y hx
          obtain rfl : args = #[x, y] := by apply Array.toList_inj.1; simpa using hx
          split at h
          · rename_i u v hu hv
            obtain ⟨q, h1, h2⟩ := bind_lit h
            refine ⟨q, h1, fun w' => hex w' _ ?_⟩
            have := h2 w'
            simp only [builtin]
            refine run_value ?_
            simpa [Builtin.max_, litO_eq hT hu, litO_eq hT hv] using this
          · cases h
        · cases h
      | _ => simp [pureE] at h
  | _ => rw [ho] at h; simp [pureE] at h
end
end Go.Proofs.Ytipomcnbjlfekaa.Rs
