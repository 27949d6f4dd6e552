/- Rows that nobody looks into: what they hold is told by a kind; a contract's row becomes such a block, and the other way round. No program in sight. -/
import Derived.Test.YtdfhkmekmockkaaRxO
import Derived.Test.YtdfhkmekmockkaaWKept
namespace Go.Proofs.Ytdfhkmekmockkaa.Rx
open Go.RowKit Go.Proofs.YtdfhkmekmockkaaW.PrintWords
set_option linter.unusedVariables false
/-- A kind whose elements hold no rows. -/
def Flat {α : Type} (d : Kd α) : Prop := ∀ w w' base base' (ok ok' : Nat → Prop) x cs, d.M w base ok x cs → d.M w' base' ok' x cs
/-- What a row holds: cells an element, elements, and what the cells are. -/
structure Ct where
  sz : Nat
  n : Nat
  ok : List Value → Prop
def ctOf {α : Type} (d : Kd α) (l : List α) : Ct := ⟨d.sz, l.length, fun cs => ∀ w base ok, Reps (d.M w base ok) d.sz l cs⟩
def opqOf (c : Nat → Ct) : Opq := fun k r arr => r.len = (c k).n ∧ r.len ≤ r.cap ∧ r.cap ≤ maxLen ∧ arr.size = r.cap * (c k).sz ∧ (c k).ok (arr.toList.take (r.len * (c k).sz))
section
variable {σ : Nat → Value} {c : Nat → Ct} {E : Env} {w0 : World} {H : Hp} {w w' : World} {α : Type} {d : Kd α} {e k b : Nat} {l l' : List α}
/-- A contract's row: a new block. -/
theorem RelH.push_opq (hd : Flat d) (hc : c k = ctOf d l) (h : RelH σ (opqOf c) w0 E H w) (hb : Below w.heap.size w w') {ok : Nat → Prop} {v : Value} (hR : Kd.R d e w' w.heap.size ok v l) (hl : l ≠ []) :
    ∃ r, E.le (E.new H.next r) ∧ RelC σ (E.new H.next r) (.os H.next) v ∧ RelH σ (opqOf c) w0 (E.new H.next r) (H.push (.opq e k)) w' := by
  obtain ⟨_, inner, ho, hr⟩ := hR
  obtain ⟨hlen, ho⟩ := ho
  rcases ho with ⟨_, h0⟩ | ⟨g, cap, cur, rfl, hg, hheap, hnc, hcm, hcs, htake⟩
  · cases l with
    | nil => exact absurd rfl hl
    | cons x l => simp at h0
  · refine ⟨⟨g, cap, d.sz, l.length⟩, h.le_new _, ⟨⟨g, cap, d.sz, l.length⟩, by simp [Env.new], rfl⟩, h.push_at hb hg ⟨⟨g, cap, d.sz, l.length⟩, cur, by simp [Env.new], hheap, ?_⟩⟩
    refine ⟨by rw [hc]; rfl, hnc, hcm, by rw [hc]; exact hcs, ?_⟩
    rw [hc]
    intro w1 base ok1
    show Reps _ _ _ (cur.toList.take (l.length * d.sz))
    rw [htake]
    exact hr.imp_ (fun _ _ hp => hd _ _ _ _ _ _ _ _ hp)
/-- An empty row: some empty slice. -/
theorem em_of_R {ok : Nat → Prop} {base : Nat} {v : Value} (hR : Kd.R d e w base ok v []) : RelC σ E .em v := by
  obtain ⟨A, cp, rfl⟩ := Kd.R_slice hR
  exact ⟨A, cp, rfl⟩
/-- Such a block, as a contract wants it. -/
theorem RelH.opq_R (hc : c k = ctOf d l) (h : RelH σ (opqOf c) w0 E H w) (hget : H.bs.get b = some (.opq e k)) {v : Value} (hv : RelC σ E (.os b) v) :
    ∃ r, E b = some r ∧ r.g < w.heap.size ∧ v = .slice (some ⟨r.g, 0, none⟩) l.length r.cap ∧ l.length ≤ r.cap ∧ Kd.R d e w w0.heap.size (fun j => j = r.g) v l ∧ Kd.C d w (some ⟨r.g, 0, none⟩) l.length l := by
  obtain ⟨r, arr, hE, hheap, h1, h2, h3, h4, h5⟩ := (h.blk b _ hget).2
  obtain ⟨r', hE', hv⟩ := hv
  rw [hE] at hE'
  obtain rfl := Option.some.inj hE'
  rw [hc] at h1 h4 h5
  have hlen : r.len = l.length := h1
  have hlt : r.g < w.heap.size := (Array.getElem?_eq_some_iff.1 hheap).1
  have hR : Kd.R d e w w0.heap.size (fun j => j = r.g) v l := by
    subst hv
    refine ⟨fun j hj => by simpa [Value.ownBlock, eq_comm] using hj, arr.toList.take (l.length * d.sz), ⟨?_, .inr ⟨r.g, r.cap, arr, by rw [hlen], h.high b _ r hget hE, hheap, by omega, h3, h4, rfl⟩⟩, ?_⟩
    · have hsz : l.length * d.sz ≤ r.cap * d.sz := Nat.mul_le_mul_right _ (by omega)
      have h4' : arr.size = r.cap * d.sz := h4
      rw [List.length_take, show arr.toList.length = r.cap * d.sz from (Array.length_toList (xs := arr)).trans h4']
      exact Nat.min_eq_left hsz
    · rw [← hlen]
      exact h5 _ _ _
  rw [hlen] at hv h2
  refine ⟨r, hE, hlt, hv, h2, hR, ?_⟩
  obtain ⟨A, cp, he, _, hC⟩ := Kd.R_reads hR
  rw [hv] at he
  cases he
  exact hC
/-- Such a block is written: it holds something else. -/
theorem RelH.turn_opq (hd : Flat d) {k' : Nat} (hc' : c k' = ctOf d l') (h : RelH σ (opqOf c) w0 E H w) (hget : H.bs.get b = some (.opq e k)) {r : Rg} (hE : E b = some r) (hlen : r.len = l'.length) (hcap : l'.length ≤ r.cap)
    (hB : Below w0.heap.size w0 w') (hK : Kept w w' (fun j => j = r.g)) {ok : Nat → Prop} (hR : Kd.R d e w' w0.heap.size ok (.slice (some ⟨r.g, 0, none⟩) l'.length r.cap) l') (hl : l' ≠ []) :
    RelH σ (opqOf c) w0 E ⟨H.next, H.bs.put b (some (.opq e k'))⟩ w' := by
  refine h.turn hget hE (by rw [hB.os, h.below.os]) (by rw [hB.tape, h.below.tape]) (by rw [hB.output, h.below.output]) hK.1 (fun j hj hn => hK.2 j hj hn) ?_
  obtain ⟨_, inner, ho, hr⟩ := hR
  obtain ⟨hlen2, ho⟩ := ho
  rcases ho with ⟨_, h0⟩ | ⟨g, cap, cur, he, hg, hheap, hnc, hcm, hcs, htake⟩
  · cases l' with
    | nil => exact absurd rfl hl
    | cons x l => simp at h0
  · cases he
    refine ⟨r, cur, hE, hheap, ?_⟩
    refine ⟨by rw [hc']; exact hlen, by omega, hcm, by rw [hc']; exact hcs, ?_⟩
    rw [hc', hlen]
    intro w1 base ok1
    show Reps _ _ _ (cur.toList.take (l'.length * d.sz))
    rw [htake]
    exact hr.imp_ (fun _ _ hp => hd _ _ _ _ _ _ _ _ hp)
end
end Go.Proofs.Ytdfhkmekmockkaa.Rx
