/- Data that is read off memory as a struct or a slice of structs is what the printed contracts ask of an argument (a 'Kd' kind): general lemmas, no program in sight. -/
import Derived.Test.YtdfhkmekmockkaaWWords
import Derived.ChangeArms
import Derived.Deep.Slices
import Derived.WideShapes
namespace Go.Proofs.Ytdfhkmekmockkaa.Rd
open Go.Proofs.YtdfhkmekmockkaaW.PrintWords Go.ChangeShapes Go.WideShapes
set_option linter.unusedVariables false

/-- Whatever reads as data of type t is of the kind d, and ok. -/
def Reads (P : Program) (t : TypeId) {α : Type} (d : Kd α) (ok : α → Prop) : Prop :=
  ∀ (H : Type) (enc : TypeId × Value → H) (w : World) (base : Nat) (spare : Nat → Bool) (held : Bool) (fuel : Nat) (cs : List Value) (x : DataW H × List MemPlace),
    DataW.trod enc P w base spare held fuel t cs = some x → ∃ a, d.K w a cs ∧ ok a

theorem reads_int {P : Program} {t : TypeId} {k : IntKind} (ht : P.underlying t = some (.int k)) : Reads P t (Kd.int k) (fun n => (Lit.int k n).wf = true) := by
  intro H enc w base spare held fuel cs x h
  obtain ⟨n, rfl, _, hw⟩ := DataW.trod_int ht h
  exact ⟨n, rfl, hw⟩
theorem reads_bool {P : Program} {t : TypeId} (ht : P.underlying t = some .bool) : Reads P t Kd.bool (fun _ => True) := by
  intro H enc w base spare held fuel cs x h
  obtain ⟨b, rfl, _⟩ := DataW.trod_bool ht h
  exact ⟨b, rfl, trivial⟩
theorem reads_string {P : Program} {t : TypeId} (ht : P.underlying t = some .string) : Reads P t Kd.string (fun s => s.size ≤ maxLen) := by
  intro H enc w base spare held fuel cs x h
  obtain ⟨s, rfl, _, hs⟩ := DataW.trod_string ht h
  exact ⟨s, rfl, hs⟩

theorem reads_slice {P : Program} {t e : TypeId} {α : Type} [Inhabited α] {d : Kd α} {ok : α → Prop} (ht : P.underlying t = some (.slice e)) (hs : P.cellsOf e = d.sz) (hd : Reads P e d ok) :
    Reads P t (Kd.slice e d) (fun xs => ∀ x ∈ xs, ok x) := by
  intro H enc w base spare held fuel cs x h
  rcases Go.Deep.open_slice ht h with ⟨rfl, _⟩ | ⟨a, len, cap, m, n, D, Pl, rfl, hb, hl, hm, hmm, _, hx⟩
  · exact ⟨[], ⟨none, 0, rfl, Nat.le_refl _, Kd.C_nil d w⟩, by simp⟩
  · have hlm : len ≤ m := by subst hmm; split <;> omega
    obtain ⟨f, hf⟩ := Go.Deep.choose_lt (α := α) (n := len) (p := fun i y => ok y ∧ ∃ c : List Value, c.length = d.sz ∧ d.K w y c ∧ ∀ j u, c[j]? = some u → w.cell? (a.add (i * d.sz + j)) = some u) (fun i hi => by
      obtain ⟨c, h1, h2⟩ := hx i (by omega)
      obtain ⟨y, hy, hok⟩ := hd H enc w base spare held n c _ h2
      obtain ⟨_, hlen, hcell⟩ := World.cells?_some h1
      refine ⟨y, hok, c, by omega, hy, fun j u hj => ?_⟩
      have hj' : j < P.cellsOf e := by rw [← hlen]; exact (List.getElem?_eq_some_iff.1 hj).1
      have := hcell j hj'
      rw [Go.Deep.add_add, hs] at this
      rw [this, hj])
    have e1 : ((List.range len).map f).length = len := by simp
    refine ⟨(List.range len).map f, ⟨some a, cap, by rw [e1], by rw [e1]; exact hl, by rw [e1], by rw [e1]; unfold maxLen at hm; omega, fun _ => ⟨a, rfl, fun j p hj => ?_⟩⟩, ?_⟩
    · have hj' : j < len := by
        have := (List.getElem?_eq_some_iff.1 hj).1
        simpa using this
      have hp : p = f j := by simpa [List.getElem?_map, List.getElem?_range hj'] using hj.symm
      subst hp
      exact (hf j hj').2
    · intro y hy
      obtain ⟨i, hi, rfl⟩ := List.mem_map.1 hy
      exact (hf i (List.mem_range.1 hi)).1

/-- The fields of a struct, from one place on. -/
def ReadsF (P : Program) (fs : List Field) (off : Nat) {α : Type} (d : Kd α) (ok : α → Prop) : Prop :=
  ∀ (H : Type) (enc : TypeId × Value → H) (w : World) (base : Nat) (spare : Nat → Bool) (held : Bool) (n : Nat) (cs : List Value),
    cs.length = off + d.sz → (∀ f ∈ fs, ∃ y, DataW.trod enc P w base spare held n f.type ((cs.drop f.offset).take (P.cellsOf f.type)) = some y) → ∃ a, d.K w a (cs.drop off) ∧ ok a

theorem readsF_one {P : Program} {f : Field} {off : Nat} {α : Type} {d : Kd α} {ok : α → Prop} (ho : f.offset = off) (hs : P.cellsOf f.type = d.sz) (hd : Reads P f.type d ok) : ReadsF P [f] off d ok := by
  intro H enc w base spare held n cs hl h
  obtain ⟨y, hy⟩ := h f (List.mem_singleton.2 rfl)
  rw [ho, hs, List.take_of_length_le (by rw [List.length_drop]; omega)] at hy
  exact hd H enc w base spare held n _ _ hy
theorem readsF_cons {P : Program} {f : Field} {fs : List Field} {off : Nat} {α β : Type} {a : Kd α} {b : Kd β} {oka : α → Prop} {okb : β → Prop} (ho : f.offset = off) (hs : P.cellsOf f.type = a.sz) (ha : Reads P f.type a oka) (hb : ReadsF P fs (off + a.sz) b okb) :
    ReadsF P (f :: fs) off (Kd.pair a b) (fun x => oka x.1 ∧ okb x.2) := by
  intro H enc w base spare held n cs hl h
  obtain ⟨y, hy⟩ := h f List.mem_cons_self
  rw [ho, hs] at hy
  obtain ⟨x0, h0, k0⟩ := ha H enc w base spare held n _ _ hy
  have hl' : cs.length = off + (a.sz + b.sz) := hl
  obtain ⟨x1, h1, k1⟩ := hb H enc w base spare held n cs (by omega) (fun g hg => h g (List.mem_cons_of_mem _ hg))
  refine ⟨(x0, x1), ⟨_, _, ?_, h0, h1⟩, k0, k1⟩
  rw [← List.drop_drop, List.take_append_drop]
theorem reads_struct {P : Program} {t : TypeId} {fs : Array Field} {fl : List Field} {α : Type} {d : Kd α} {ok : α → Prop} (ht : P.underlying t = some (.struct fs)) (hfl : fs.toList = fl) (hs : P.cellsOf t = d.sz) (hd : ReadsF P fl 0 d ok) : Reads P t d ok := by
  intro H enc w base spare held fuel cs x h
  obtain ⟨xs, n, _, _, hl, hx, hf⟩ := DataW.trod_struct ht h
  have := hd H enc w base spare held n cs (by omega) (fun f hf' => by
    rw [← hfl] at hf'
    obtain ⟨i, hi, he⟩ := List.getElem_of_mem hf'
    have hi' : i < fs.size := by simpa using hi
    refine ⟨xs[i]'(by omega), ?_⟩
    rw [hf i f (by rw [Array.getElem?_eq_getElem hi']; simp only [Option.some.injEq]; simpa using he), List.getElem?_eq_getElem])
  simpa using this
theorem reads_iso {P : Program} {t : TypeId} {α β : Type} {d : Kd α} {ok : α → Prop} (f : β → α) (g : α → β) (hfg : ∀ x, f (g x) = x) (hd : Reads P t d ok) : Reads P t (Kd.iso d f) (fun x => ok (f x)) := by
  intro H enc w base spare held fuel cs x h
  obtain ⟨a, ha, hk⟩ := hd H enc w base spare held fuel cs x h
  refine ⟨g a, ?_, ?_⟩
  · show d.K w (f (g a)) cs
    rw [hfg]; exact ha
  · show ok (f (g a))
    rw [hfg]; exact hk
theorem reads_ok {P : Program} {t : TypeId} {α : Type} {d : Kd α} {ok ok' : α → Prop} (h : Reads P t d ok) (hk : ∀ a, ok a → ok' a) : Reads P t d ok' := fun H enc w base spare held fuel cs x hx =>
  let ⟨a, ha, ho⟩ := h H enc w base spare held fuel cs x hx; ⟨a, ha, hk a ho⟩
end Go.Proofs.Ytdfhkmekmockkaa.Rd
