/- What lies in memory, told as a list of parts that are apart: a small logic of parts over the model's worlds. No program in sight. -/
import Derived.Test.YtdfhkmekmockkaaWMore
import Derived.WalkKit
import Derived.OwnWalk
namespace Go.Proofs.Ytdfhkmekmockkaa.SL
open Go.RowKit Go.Proofs.YtdfhkmekmockkaaW.PrintWords
set_option linter.unusedVariables false

/-- Which cells: of a block, at an offset. A block of which all are meant is meant whole. -/
abbrev Fp := Nat → Nat → Prop
/-- From w to w' nothing outside memory has changed, no block is gone, and what S means is as it was. -/
structure Mv (w w' : World) (S : Fp) : Prop where
  os : w'.os = w.os
  tape : w'.tape = w.tape
  output : w'.output = w.output
  size : w.heap.size ≤ w'.heap.size
  block : ∀ b, b < w.heap.size → (∀ i, S b i) → w'.heap[b]? = w.heap[b]?
  cell : ∀ b i, b < w.heap.size → S b i → w'.cell? ⟨b, i, none⟩ = w.cell? ⟨b, i, none⟩ ∧ w'.frozen? ⟨b, i, none⟩ = w.frozen? ⟨b, i, none⟩
theorem Mv.refl (w : World) (S : Fp) : Mv w w S := ⟨rfl, rfl, rfl, Nat.le_refl _, fun _ _ _ => rfl, fun _ _ _ _ => ⟨rfl, rfl⟩⟩
theorem Mv.mono {w w' : World} {S T : Fp} (h : Mv w w' S) (ht : ∀ b i, T b i → S b i) : Mv w w' T :=
  ⟨h.os, h.tape, h.output, h.size, fun b hb hT => h.block b hb fun i => ht b i (hT i), fun b i hb hT => h.cell b i hb (ht b i hT)⟩
theorem cell_of_block {w w' : World} {b : Nat} (h : w'.heap[b]? = w.heap[b]?) (i : Nat) : w'.cell? ⟨b, i, none⟩ = w.cell? ⟨b, i, none⟩ ∧ w'.frozen? ⟨b, i, none⟩ = w.frozen? ⟨b, i, none⟩ := by
  simp only [World.cell?, World.frozen?, h]
  exact ⟨trivial, trivial⟩
theorem Mv.of_below {w w' : World} (h : Below w.heap.size w w') (S : Fp) : Mv w w' S :=
  ⟨h.os, h.tape, h.output, h.size, fun b hb _ => h.block b hb, fun b i hb _ => cell_of_block (h.block b hb) i⟩

/-- A part: what holds of a world, and the cells that it means. -/
structure Asn where
  is : World → Fp → Prop
  move : ∀ {w w' S}, is w S → Mv w w' S → is w' S
  bound : ∀ {w S}, is w S → ∀ b i, S b i → b < w.heap.size

/-- Parts that are apart from each other, and from A. -/
def Holds (w : World) : List Asn → Fp → Prop
  | [], _ => True
  | P :: L, A => ∃ S, P.is w S ∧ (∀ b i, S b i → ¬ A b i) ∧ Holds w L (fun b i => A b i ∨ S b i)
/-- The parts of a world. -/
def H (w : World) (L : List Asn) : Prop := Holds w L (fun _ _ => False)

theorem or_turn {A S T : Fp} : ∀ b i, (A b i ∨ T b i) ∨ S b i → (A b i ∨ S b i) ∨ T b i := fun b i h => by
  rcases h with (h | h) | h
  · exact .inl (.inl h)
  · exact .inr h
  · exact .inl (.inr h)
theorem Holds.less {w : World} : ∀ {L : List Asn} {A A' : Fp}, (∀ b i, A' b i → A b i) → Holds w L A → Holds w L A'
  | [], _, _, _, _ => trivial
  | P :: L, A, A', ha, ⟨S, hs, hd, hl⟩ => ⟨S, hs, fun b i h h' => hd b i h (ha b i h'), Holds.less (fun b i h => h.elim (fun h => .inl (ha b i h)) .inr) hl⟩
theorem Holds.swap {w : World} {P Q : Asn} {L : List Asn} {A : Fp} : Holds w (P :: Q :: L) A → Holds w (Q :: P :: L) A
  | ⟨S, hs, hd, T, ht, he, hl⟩ => ⟨T, ht, fun b i h h' => he b i h (.inl h'), S, hs, fun b i h h' => h'.elim (hd b i h) (fun h2 => he b i h2 (.inr h)), Holds.less or_turn hl⟩
theorem Holds.cons {w : World} {P : Asn} {L L' : List Asn} (h : ∀ A, Holds w L A → Holds w L' A) {A : Fp} : Holds w (P :: L) A → Holds w (P :: L') A
  | ⟨S, hs, hd, hl⟩ => ⟨S, hs, hd, h _ hl⟩
/-- The parts that are kept when what T means may change: T is apart from them. -/
theorem Holds.move {w w' : World} : ∀ {L : List Asn} {A T : Fp}, (∀ S : Fp, (∀ b i, S b i → ¬ T b i) → Mv w w' S) → (∀ b i, T b i → A b i) → Holds w L A → Holds w' L A
  | [], _, _, _, _, _ => trivial
  | P :: L, A, T, hm, ht, ⟨S, hs, hd, hl⟩ => ⟨S, P.move hs (hm S fun b i h h' => hd b i h (ht b i h')), hd, Holds.move hm (fun b i h => .inl (ht b i h)) hl⟩
/-- More is taken: of blocks that are new. -/
theorem Holds.more {w : World} {n : Nat} (hn : w.heap.size ≤ n) : ∀ {L : List Asn} {A A' : Fp}, (∀ b i, A' b i → A b i ∨ n ≤ b) → Holds w L A → Holds w L A'
  | [], _, _, _, _ => trivial
  | P :: L, A, A', ha, ⟨S, hs, hd, hl⟩ => ⟨S, hs, fun b i h h' => (ha b i h').elim (hd b i h) (fun h2 => by have := P.bound hs b i h; omega), Holds.more hn (fun b i h => h.elim (fun h => (ha b i h).elim (fun h => .inl (.inl h)) .inr) (fun h => .inl (.inr h))) hl⟩

namespace H
variable {w w' : World} {P Q R T U V X Y Z : Asn} {L : List Asn}
theorem drop (h : H w (P :: L)) : H w L := let ⟨_, _, _, hl⟩ := h; Holds.less (fun _ _ h => h.elim) hl
theorem keep {L' : List Asn} (h : H w (P :: L)) (f : ∀ A, Holds w L A → Holds w L' A) : H w (P :: L') := Holds.cons f h
theorem sw1 (h : H w (P :: Q :: L)) : H w (Q :: P :: L) := Holds.swap h
theorem sw2 (h : H w (P :: Q :: R :: L)) : H w (R :: P :: Q :: L) := Holds.swap (Holds.cons (fun _ => Holds.swap) h)
theorem sw3 (h : H w (P :: Q :: R :: T :: L)) : H w (T :: P :: Q :: R :: L) := Holds.swap (Holds.cons (fun _ h => Holds.swap (Holds.cons (fun _ => Holds.swap) h)) h)
theorem sw4 (h : H w (P :: Q :: R :: T :: U :: L)) : H w (U :: P :: Q :: R :: T :: L) := Holds.swap (Holds.cons (fun _ h => Holds.swap (Holds.cons (fun _ h => Holds.swap (Holds.cons (fun _ => Holds.swap) h)) h)) h)
/-- Nothing that was there has changed. -/
theorem below (h : H w L) (hb : Below w.heap.size w w') : H w' L := Holds.move (T := fun _ _ => False) (fun S _ => Mv.of_below hb S) (fun _ _ h => h.elim) h
/-- A new part, in blocks that are new. -/
theorem new (h : H w L) (hb : Below w.heap.size w w') {S : Fp} (hs : P.is w' S) (hn : ∀ b i, S b i → w.heap.size ≤ b) : H w' (P :: L) := by
  refine ⟨S, hs, fun _ _ _ h => h, ?_⟩
  have h1 : Holds w L (fun b i => False ∨ S b i) := Holds.more (Nat.le_refl _) (fun b i h2 => h2.elim (fun h => h.elim) (fun h2 => .inr (hn b i h2))) h
  exact Holds.move (T := fun _ _ => False) (fun S _ => Mv.of_below hb S) (fun _ _ h => h.elim) h1
/-- The first part, which means S, changes; what it means then is what it meant, or new. -/
theorem step_at {S S' : Fp} (hl : Holds w L (fun b i => False ∨ S b i)) (hq : Q.is w' S') (hn : ∀ b i, S' b i → S b i ∨ w.heap.size ≤ b) (hm : ∀ T : Fp, (∀ b i, T b i → ¬ S b i) → Mv w w' T) : H w' (Q :: L) := by
  refine ⟨S', hq, fun _ _ _ h => h, ?_⟩
  -- what is new to the part is new to the others: they are bounded by w
  have : ∀ {L : List Asn} {A : Fp}, (∀ b i, S b i → A b i) → Holds w L A → Holds w' L (fun b i => A b i ∨ S' b i) := by
    intro L
    induction L with
    | nil => intros; trivial
    | cons P L ih =>
      rintro A hA ⟨T, ht, hd, hl⟩
      refine ⟨T, P.move ht (hm T fun b i h h' => hd b i h (hA b i h')), fun b i h h' => h'.elim (hd b i h) (fun h2 => (hn b i h2).elim (fun h3 => hd b i h (hA b i h3)) (fun h3 => by have := P.bound ht b i h; omega)), ?_⟩
      exact Holds.less or_turn (ih (fun b i h => .inl (hA b i h)) hl)
  exact Holds.less (fun b i h => h.elim (fun h => h.elim) (fun h => .inr h)) (this (A := fun b i => False ∨ S b i) (fun _ _ h => .inr h) hl)
/-- The first part changes; what it means then is what it meant, or new. -/
theorem step (h : H w (P :: L)) (f : ∀ S, P.is w S → ∃ S', Q.is w' S' ∧ (∀ b i, S' b i → S b i ∨ w.heap.size ≤ b) ∧ ∀ T : Fp, (∀ b i, T b i → ¬ S b i) → Mv w w' T) : H w' (Q :: L) := by
  obtain ⟨S, hs, _, hl⟩ := h
  obtain ⟨S', hq, hn, hm⟩ := f S hs
  exact step_at hl hq hn hm
/-- The first part, told otherwise. -/
theorem turn (h : H w (P :: L)) (f : ∀ S, P.is w S → Q.is w S) : H w (Q :: L) := step h fun S hs => ⟨S, f S hs, fun _ _ h => .inl h, fun T _ => Mv.refl w T⟩
theorem first (h : H w (P :: L)) : ∃ S, P.is w S := let ⟨S, hs, _⟩ := h; ⟨S, hs⟩
end H

/-! ### The parts -/
/-- A block that holds these cells, and no mark. -/
def box (g : Nat) (t : TypeId) (cs : Array Value) : Asn where
  is := fun w S => w.heap[g]? = some (.cells cs t (0, 0)) ∧ S = fun b _ => b = g
  move := by
    rintro w w' S ⟨h, rfl⟩ hm
    exact ⟨(hm.block g (blk_lt h) fun _ => rfl).trans h, rfl⟩
  bound := by
    rintro w S ⟨h, rfl⟩ b i rfl
    exact blk_lt h
/-- A slice value that owns a row of elements (type e, kind d), and all that they lead to. -/
def own {α : Type} (e : Nat) (d : Kd α) (v : Value) (xs : List α) : Asn where
  is := fun w S => ∃ ok : Nat → Prop, d.R e w 0 ok v xs ∧ (∀ b, ok b → b < w.heap.size) ∧ S = fun b _ => ok b
  move := by
    rintro w w' S ⟨ok, h, hb, rfl⟩ hm
    exact ⟨ok, Kd.R_move h (fun k hk => hm.block k (hb k hk) fun _ => hk), fun b h => Nat.lt_of_lt_of_le (hb b h) hm.size, rfl⟩
  bound := by
    rintro w S ⟨ok, h, hb, rfl⟩ b i hk
    exact hb b hk
/-- All that was there at first is as it was. -/
def old (w0 : World) : Asn where
  is := fun w S => Below w0.heap.size w0 w ∧ S = fun b _ => b < w0.heap.size
  move := by
    rintro w w' S ⟨h, rfl⟩ hm
    exact ⟨⟨hm.os.trans h.os, hm.tape.trans h.tape, hm.output.trans h.output, Nat.le_trans h.size hm.size, fun k hk => (hm.block k (Nat.lt_of_lt_of_le hk h.size) fun _ => hk).trans (h.block k hk)⟩, rfl⟩
  bound := by
    rintro w S ⟨h, rfl⟩ b i hk
    exact Nat.lt_of_lt_of_le hk h.size

namespace H
variable {w w' : World} {L : List Asn} {α : Type} {e : Nat} {d : Kd α} {v : Value} {xs : List α}
theorem start (w : World) : H w [old w] := ⟨_, ⟨Below.refl _ _, rfl⟩, fun _ _ _ h => h, trivial⟩
theorem old_below {w0 : World} (h : H w (old w0 :: L)) : Below w0.heap.size w0 w := let ⟨_, hs, _⟩ := h; hs.1
theorem box_at {g : Nat} {t : TypeId} {cs : Array Value} (h : H w (box g t cs :: L)) : w.heap[g]? = some (.cells cs t (0, 0)) := let ⟨_, hs, _⟩ := h; hs.1
theorem new_box (h : H w L) (t : TypeId) (cs : Array Value) : H (w.alloc (.cells cs t (0, 0))) (box w.heap.size t cs :: L) :=
  new h (below_alloc (Below.refl _ _) _) (S := fun b _ => b = w.heap.size) ⟨blk_new w _, rfl⟩ (fun b i hb => by have : b = w.heap.size := hb; omega)
/-- One cell of a box is stored. -/
theorem set_box {g : Nat} {t : TypeId} {cs : Array Value} (h : H w (box g t cs :: L)) (i : Nat) (u : Value) : H (w.setCell ⟨g, i, none⟩ u) (box g t (cs.setIfInBounds i u) :: L) := by
  refine step h fun S hs => ?_
  obtain ⟨hb, rfl⟩ := hs
  refine ⟨fun b _ => b = g, ⟨blk_set hb i u, rfl⟩, fun b i h => .inl h, fun T hT => ?_⟩
  have far : ∀ b, b ≠ g → (w.setCell ⟨g, i, none⟩ u).heap[b]? = w.heap[b]? := fun b hne => Below.heap_setCell w ⟨g, i, none⟩ u b hne
  refine ⟨rfl, rfl, rfl, by simp [World.setCell], fun b _ hTb => far b (fun e => hT b 0 (hTb 0) e), fun b j _ hTb => cell_of_block (far b (fun e => hT b j hTb e)) j⟩
/-- A row of the call's own, new. -/
theorem new_own (h : H w L) (hb : Below w.heap.size w w') {ok : Nat → Prop} (hr : d.R e w' w.heap.size ok v xs) : H w' (own e d v xs :: L) := by
  refine new h hb (S := fun b _ => (ok b ∧ w.heap.size ≤ b ∧ b < w'.heap.size)) ⟨_, Kd.R_lower (Kd.R_mono (Kd.R_bound hr) (fun k hk => ⟨hk.1, hk.2.1, hk.2.2.1⟩)) (Nat.zero_le _), fun b h => h.2.2, rfl⟩ (fun b i h => h.2.1)
theorem own_reads (h : H w (own e d v xs :: L)) : ∃ A c, v = .slice A xs.length c ∧ xs.length ≤ c ∧ d.C w A xs.length xs := by
  obtain ⟨_, ⟨ok, hr, _⟩, _⟩ := h
  exact Kd.R_reads hr
theorem own_slice (h : H w (own e d v xs :: L)) : ∃ A c, v = .slice A xs.length c := let ⟨A, c, hv, _⟩ := own_reads h; ⟨A, c, hv⟩
theorem own_lt (h : H w (own e d v xs :: L)) : xs.length ≤ 9223372036854775807 := by
  obtain ⟨_, _, _, _, hc⟩ := own_reads h
  exact Kd.C_max hc
end H
end Go.Proofs.Ytdfhkmekmockkaa.SL
