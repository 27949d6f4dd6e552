import Derived.Test.YtipomcnbjlfekaaGreatGk
/- Parts of the proof, merged by a program. -/
namespace Go.Proofs.YtipomcnbjlfekaaGreat.Rs
set_option maxRecDepth 100000
set_option linter.all false
open Go.RowKit
theorem qgJ {a : Ar} (ha : AOk a) (z : Bool) : ∀ (d i : Nat), i + d = a.length → fin trA 1154 [B z, I i] [qae a] = some (0, [], [])
 | 0, i, hi => by
  refine qab trA ?_
  show o96_0.go _ _ _ = _
  have g : ¬ (i : Int) < (a.length : Int) := by omega
  simp only [o96_0, TT, Nat.reduceEqDiff, ↓reduceIte, encA_len, g]
 | d + 1, i, hi => by
  have ih := qgJ ha z d (i + 1) (by omega)
  have hlt : i < a.length := by omega
  have hg : a[i]? = some a[i] := List.getElem?_eq_getElem hlt
  have g : (i : Int) < (a.length : Int) := by omega
  have g0 : (0 : Int) ≤ (i : Int) := by omega
  have few := ha.few
  have w : wr ((i : Int) + 1) = ((i + 1 : Nat) : Int) := by rw [qag (by omega) (by omega)]; omega
  have e1 := qgG a[i].k a[i].num a[i].a a[i].b i
  rw [show (⟨a[i].k, a[i].num, a[i].a, a[i].b⟩ : Nd) = a[i] from rfl, ha.right i _ hg] at e1
  have e2 := f_at a a[i] (by omega)
  have e3 : at_ a a[i] = i := by
   have := put_old ha hg
   unfold at_
   cases e : atFrom a[i] a 0 with
   | some j =>
    obtain ⟨h1, h2⟩ := qco e
    have := ha.once _ _ _ h2 hg
    show j = i
    omega
   | none => exact absurd hg (qcU e i)
  rw [e3] at e2
  refine qab trA ?_
  show o96_0.go _ _ _ = _
  simp only [o96_0, go_more, TT, Nat.reduceEqDiff, ↓reduceIte, encA_len, Int.toNat_natCast, qah a i hlt, Nd.enc, g, g0, e1, e2, w, ih, ne_eq, not_true_eq_false]
theorem f_arenaOk {a : Ar} (ha : AOk a) : fin trA 1155 [] [qae a] = some (0, [B true], []) := by
 have e := qgJ ha false a.length 0 (by omega)
 rw [show ((0 : Nat) : Int) = 0 from rfl] at e
 have few := ha.few
 have g : ¬ (3000 : Int) < (a.length : Int) := by omega
 refine qab trA ?_
 show o96.go _ _ _ = _
 simp only [o96, go_more, TT, Nat.reduceEqDiff, ↓reduceIte, encA_len, gt_iff_lt, g, e]
def qcd (l : List Bool) : Rw := l.map fun b => [B b]
theorem encBo_len (l : List Bool) : (qcd l).length = l.length := List.length_map ..
def hasAt (hs : List Bool) (x : Int) : Bool := hs.getD x.toNat false
theorem qbl (hs : List Bool) {x : Int} (h0 : 0 ≤ x) (h1 : x < (hs.length : Int)) : (qcd hs).getD x.toNat [] = [B (hasAt hs x)] := by
 have h : x.toNat < hs.length := by omega
 simp [qcd, hasAt, List.getD_eq_getElem?_getD, List.getElem?_eq_getElem h]
def psAt (ps : List Int) (x : Int) : Int := ps.getD x.toNat (-1)
theorem encI_at (ps : List Int) {x : Int} (h0 : 0 ≤ x) (h1 : x < (ps.length : Int)) : (qai ps).getD x.toNat [] = [I (psAt ps x)] := by
 have h : x.toNat < ps.length := by omega
 simp [qai, psAt, List.getD_eq_getElem?_getD, List.getElem?_eq_getElem h]
def qgz (hs : List Bool) (x : Int) : List Bool := hs.modify x.toNat fun _ => true
theorem qeI (hs : List Bool) (x : Int) : (qgz hs x).length = hs.length := List.length_modify ..
theorem setT_row (hs : List Bool) (x : Int) : qbt (qcd hs) x.toNat 0 [.bool true] = qcd (qgz hs x) := by
 unfold qbt qcd qgz
 exact qbI (fun b : Bool => [B b]) _ _ (fun _ => rfl) hs x.toNat
theorem qeS (hs : List Bool) (x : Int) (j : Nat) : (qgz hs x).getD j false = (hs.getD j false || (decide (j = x.toNat) && decide (j < hs.length))) := by
 unfold qgz
 rw [List.getD_eq_getElem?_getD, List.getD_eq_getElem?_getD, List.getElem?_modify]
 by_cases h : x.toNat = j
 ·subst h
  by_cases hl : x.toNat < hs.length
  ·simp [List.getElem?_eq_getElem hl, hl]
  ·simp [List.getElem?_eq_none (Nat.le_of_not_lt hl), hl]
 ·have h' : ¬ j = x.toNat := fun e => h e.symm
  simp [h, h']
def qdw (hs : List Bool) : Nat := hs.countP fun b => !b
theorem setT_cnt : ∀ (hs : List Bool) (x : Int), qdw (qgz hs x) ≤ qdw hs ∧ (hasAt hs x = false → x.toNat < hs.length → qdw (qgz hs x) < qdw hs) := by
 have key : ∀ (hs : List Bool) (i : Nat), qdw (hs.modify i fun _ => true) ≤ qdw hs ∧ (hs.getD i false = false → i < hs.length → qdw (hs.modify i fun _ => true) < qdw hs) := by
  intro hs
  induction hs with
  | nil => intro i; simp [qdw]
  | cons b hs ih =>
   intro i
   cases i with
   | zero => cases b <;> simp [qdw]
   | succ i =>
    have := ih i
    cases b <;> simp [qdw] at this ⊢ <;> exact this
 exact fun hs x => key hs x.toNat
theorem qcA {a : Ar} (ha : AOk a) {k : Nat} {n : Nd} (h : a[k]? = some n) : n.k = 1 ∨ ((n.k = 3 ∨ n.k = 6) ∧ 0 ≤ n.a ∧ n.a < k) ∨ ((n.k = 2 ∨ n.k = 4 ∨ n.k = 5 ∨ n.k = 7 ∨ n.k = 8 ∨ n.k = 9) ∧ (0 ≤ n.a ∧ n.a < k) ∧ 0 ≤ n.b ∧ n.b < k) := by
 have hlt : k < a.length := (List.getElem?_eq_some_iff.1 h).1
 have few := ha.few
 have hr := ha.right k n h
 have e1 : wr ((k : Int) - 1) = (k : Int) - 1 := qag (by omega) (by omega)
 unfold Nd.right at hr
 rw [e1] at hr
 by_cases c1 : inB n.k 1 9 = false
 ·rw [if_pos c1] at hr; cases hr
 rw [if_neg c1] at hr
 have c1' : 1 ≤ n.k ∧ n.k ≤ 9 := by simp [inB] at c1; omega
 by_cases c2 : n.k = 1
 ·exact .inl c2
 rw [if_neg c2] at hr
 by_cases c3 : n.num ≠ 0
 ·rw [if_pos c3] at hr; cases hr
 rw [if_neg c3] at hr
 by_cases c4 : inB n.a 0 ((k : Int) - 1) = false
 ·rw [if_pos c4] at hr; cases hr
 rw [if_neg c4] at hr
 have c4' : 0 ≤ n.a ∧ n.a < k := by simp [inB] at c4; omega
 by_cases c6 : qbi n.k = true
 ·simp [qbi] at c6
  exact .inr (.inl ⟨c6, c4'⟩)
 ·rw [if_neg c6] at hr
  simp [qbi] at c6
  simp [inB] at hr
  exact .inr (.inr ⟨by omega, c4', by omega⟩)
def madeB (hs : List Bool) (ps : List Int) (n : Nd) : Bool :=
 if n.k = 1 then decide (n.num < 1000) else if n.k = 3 then hasAt hs n.a else if n.k = 6 then hasAt hs n.a
 else if n.k = 7 then (hasAt hs n.a && (decide (0 ≤ psAt ps n.b) && hasAt hs (psAt ps n.b))) || (hasAt hs n.b && (decide (0 ≤ psAt ps n.a) && hasAt hs (psAt ps n.a)))
 else hasAt hs n.a && hasAt hs n.b
theorem psAt_bd {ps : List Int} {m : Nat} (hp : ∀ x ∈ ps, x < (m : Int)) (x : Int) : psAt ps x < (m : Int) := by
 unfold psAt
 rw [List.getD_eq_getElem?_getD]
 cases h : ps[x.toNat]? with
 | none => show (-1 : Int) < m; omega
 | some y => exact hp y (List.mem_of_getElem? h)
theorem f_made {a : Ar} (ha : AOk a) {hs : List Bool} {ps : List Int} (h1 : hs.length = a.length) (h2 : ps.length = a.length) (hp : ∀ x ∈ ps, x < (a.length : Int)) {k : Nat} (hk : k < a.length) :
  fin trA 2486 [I k] [qae a, qcd hs, qai ps] = some (0, [B (madeB hs ps a[k])], []) := by
 have hg : a[k]? = some a[k] := List.getElem?_eq_getElem hk
 have g0 : (0 : Int) ≤ (k : Int) := by omega
 have g1 : (k : Int) < (a.length : Int) := by omega
 refine qab trA ?_
 show o207.go _ _ _ = _
 unfold madeB
 rcases qcA ha hg with h | ⟨h, h3, h4⟩ | ⟨h, ⟨h3, h4⟩, h5, h6⟩
 ·simp only [o207, TT, Nat.reduceEqDiff, ↓reduceIte, encA_len, g0, g1, Int.toNat_natCast, qah a k hk, Nd.enc, h]
 ·have ga : a[k].a < (hs.length : Int) := by omega
  have q1 := qbl hs h3 ga
  rcases h with h | h <;> simp only [o207, TT, Nat.reduceEqDiff, ↓reduceIte, encA_len, encBo_len, g0, g1, Int.toNat_natCast, qah a k hk, Nd.enc, h, h3, ga, q1, Int.reduceEq]
 ·have ga : a[k].a < (hs.length : Int) := by omega
  have gb : a[k].b < (hs.length : Int) := by omega
  have pa : a[k].a < (ps.length : Int) := by omega
  have pb : a[k].b < (ps.length : Int) := by omega
  have q1 := qbl hs h3 ga
  have q2 := qbl hs h5 gb
  have q3 := encI_at ps h3 pa
  have q4 := encI_at ps h5 pb
  by_cases h7 : a[k].k = 7
  ·have ba := psAt_bd hp a[k].a
   have bb := psAt_bd hp a[k].b
   have ba' : psAt ps a[k].a < (hs.length : Int) := by omega
   have bb' : psAt ps a[k].b < (hs.length : Int) := by omega
   by_cases ca : 0 ≤ psAt ps a[k].a <;> by_cases cb : 0 ≤ psAt ps a[k].b <;> cases xa : hasAt hs a[k].a <;> cases xb : hasAt hs a[k].b <;>
   ·have q5 := fun (c : 0 ≤ psAt ps a[k].a) => qbl hs c ba'
    have q6 := fun (c : 0 ≤ psAt ps a[k].b) => qbl hs c bb'
    cases ya : hasAt hs (psAt ps a[k].a) <;> cases yb : hasAt hs (psAt ps a[k].b) <;>
    simp only [o207, TT, Nat.reduceEqDiff, ↓reduceIte, encA_len, encBo_len, encI_len, g0, g1, Int.toNat_natCast, qah a k hk, Nd.enc, h7, h3, h5, ga, gb, pa, pb, q1, q2, q3, q4, q5, q6, Int.reduceEq, ca, cb, ba', bb', xa, xb, ya, yb, ge_iff_le, Bool.true_and, Bool.false_and, Bool.and_true, Bool.and_false, Bool.or_true, Bool.true_or, Bool.or_false, Bool.false_or]
  ·have n1 : ¬ a[k].k = 1 := by omega
   have n3 : ¬ a[k].k = 3 := by omega
   have n6 : ¬ a[k].k = 6 := by omega
   cases xa : hasAt hs a[k].a <;>
   simp only [o207, TT, Nat.reduceEqDiff, ↓reduceIte, encA_len, encBo_len, g0, g1, Int.toNat_natCast, qah a k hk, Nd.enc, h7, n1, n3, n6, h3, h5, ga, gb, q1, q2, xa, Bool.true_and, Bool.false_and]
def qbZ (hs : List Bool) (n : Nd) : List Bool × Bool :=
 if n.k = 2 then (qgz (qgz hs n.a) n.b, !hasAt hs n.a || !hasAt hs n.b) else if n.k = 8 then (qgz hs n.b, !hasAt hs n.b)
 else if n.k = 5 then (if hasAt hs n.a = true then (qgz hs n.b, !hasAt hs n.b) else (hs, false)) else (hs, false)
theorem f_partsB {a : Ar} (ha : AOk a) {hs : List Bool} (h1 : hs.length = a.length) {k : Nat} (hk : k < a.length) :
  fin trA 2498 [I k] [qae a, qcd hs] = some (0, [B (qbZ hs a[k]).2], [qcd (qbZ hs a[k]).1]) := by
 have hg : a[k]? = some a[k] := List.getElem?_eq_getElem hk
 have g0 : (0 : Int) ≤ (k : Int) := by omega
 have g1 : (k : Int) < (a.length : Int) := by omega
 refine qab trA ?_
 show o208.go _ _ _ = _
 unfold qbZ
 have s1 := fun (hs : List Bool) (x : Int) => setT_row hs x
 by_cases c2 : a[k].k = 2
 ·obtain ⟨h3, h4, h5, h6⟩ : 0 ≤ a[k].a ∧ a[k].a < k ∧ 0 ≤ a[k].b ∧ a[k].b < k := by
   rcases qcA ha hg with h | ⟨h, _⟩ | ⟨h, ⟨h3, h4⟩, h5, h6⟩
   ·omega
   ·omega
   ·exact ⟨h3, h4, h5, h6⟩
  have ga : a[k].a < (hs.length : Int) := by omega
  have gb : a[k].b < (hs.length : Int) := by omega
  have q1 := qbl hs h3 ga
  have q2 := qbl hs h5 gb
  cases xa : hasAt hs a[k].a <;>
  simp only [o208, TT, Nat.reduceEqDiff, ↓reduceIte, encA_len, encBo_len, g0, g1, Int.toNat_natCast, qah a k hk, Nd.enc, c2, h3, h5, ga, gb, q1, q2, xa, s1, qeI, Bool.true_or, Bool.false_or]
 by_cases c8 : a[k].k = 8
 ·obtain ⟨h5, h6⟩ : 0 ≤ a[k].b ∧ a[k].b < k := by
   rcases qcA ha hg with h | ⟨h, _⟩ | ⟨h, ⟨h3, h4⟩, h5, h6⟩
   ·omega
   ·omega
   ·exact ⟨h5, h6⟩
  have gb : a[k].b < (hs.length : Int) := by omega
  have q2 := qbl hs h5 gb
  simp only [o208, TT, Nat.reduceEqDiff, ↓reduceIte, encA_len, encBo_len, g0, g1, Int.toNat_natCast, qah a k hk, Nd.enc, c2, c8, h5, gb, q2, s1, Int.reduceEq]
 by_cases c5 : a[k].k = 5
 ·obtain ⟨h3, h4, h5, h6⟩ : 0 ≤ a[k].a ∧ a[k].a < k ∧ 0 ≤ a[k].b ∧ a[k].b < k := by
   rcases qcA ha hg with h | ⟨h, _⟩ | ⟨h, ⟨h3, h4⟩, h5, h6⟩
   ·omega
   ·omega
   ·exact ⟨h3, h4, h5, h6⟩
  have ga : a[k].a < (hs.length : Int) := by omega
  have gb : a[k].b < (hs.length : Int) := by omega
  have q1 := qbl hs h3 ga
  have q2 := qbl hs h5 gb
  cases xa : hasAt hs a[k].a <;>
  simp only [o208, TT, Nat.reduceEqDiff, ↓reduceIte, encA_len, encBo_len, g0, g1, Int.toNat_natCast, qah a k hk, Nd.enc, c2, c8, c5, h3, h5, ga, gb, q1, q2, xa, s1, Int.reduceEq]
 simp only [o208, TT, Nat.reduceEqDiff, ↓reduceIte, encA_len, encBo_len, g0, g1, Int.toNat_natCast, qah a k hk, Nd.enc, c2, c8, c5]
structure Closed (a : Ar) (ps : List Int) (P : Nat → Prop) : Prop where
 made : ∀ (hs : List Bool) (k : Nat) (hk : k < a.length), (∀ j, hs.getD j false = true → P j) → madeB hs ps a[k] = true → P k
 parts : ∀ (hs : List Bool) (k : Nat) (hk : k < a.length), (∀ j, hs.getD j false = true → P j) → hs.getD k false = true → ∀ j, (qbZ hs a[k]).1.getD j false = true → P j
structure Grow (a : Ar) (ps : List Int) (hs hs' : List Bool) : Prop where
 len : hs'.length = hs.length
 mono : ∀ j, hs.getD j false = true → hs'.getD j false = true
 least : ∀ P, Closed a ps P → (∀ j, hs.getD j false = true → P j) → ∀ j, hs'.getD j false = true → P j
theorem Grow.refl {a : Ar} {ps : List Int} (hs : List Bool) : Grow a ps hs hs := ⟨rfl, fun _ h => h, fun _ _ h => h⟩
theorem Grow.trans {a : Ar} {ps : List Int} {x y z : List Bool} (h : Grow a ps x y) (k : Grow a ps y z) : Grow a ps x z := ⟨k.len.trans h.len, fun j q => k.mono j (h.mono j q), fun P c q => k.least P c (h.least P c q)⟩
theorem setT_same {hs : List Bool} {x : Int} (h : hasAt hs x = true) : qgz hs x = hs := by
 unfold qgz
 apply List.ext_getElem (List.length_modify ..)
 intro i h1 h2
 rw [List.getElem_modify]
 split
 ·rename_i hi
  subst hi
  unfold hasAt at h
  rw [List.getD_eq_getElem?_getD, List.getElem?_eq_getElem h2] at h
  exact h.symm
 ·rfl
theorem parts_cnt {a : Ar} (ha : AOk a) {hs : List Bool} (h1 : hs.length = a.length) {k : Nat} (hk : k < a.length) :
  (qbZ hs a[k]).1.length = hs.length ∧ qdw (qbZ hs a[k]).1 ≤ qdw hs ∧ ((qbZ hs a[k]).2 = true → qdw (qbZ hs a[k]).1 < qdw hs) ∧ ((qbZ hs a[k]).2 = false → (qbZ hs a[k]).1 = hs) ∧ ∀ j, hs.getD j false = true → (qbZ hs a[k]).1.getD j false = true := by
 have hg : a[k]? = some a[k] := List.getElem?_eq_getElem hk
 have one : ∀ (hs : List Bool) (x : Int), 0 ≤ x → x.toNat < hs.length → (qgz hs x).length = hs.length ∧ qdw (qgz hs x) ≤ qdw hs ∧ ((!hasAt hs x) = true → qdw (qgz hs x) < qdw hs) ∧ ((!hasAt hs x) = false → qgz hs x = hs) ∧ ∀ j, hs.getD j false = true → (qgz hs x).getD j false = true := fun hs x h0 hx => by
  have hc := setT_cnt hs x
  refine ⟨qeI _ _, hc.1, fun q => hc.2 (by simpa using q) hx, fun q => setT_same (by simpa using q), fun j q => by rw [qeS, q]; rfl⟩
 unfold qbZ
 by_cases c2 : a[k].k = 2
 ·obtain ⟨h3, h4, h5, h6⟩ : 0 ≤ a[k].a ∧ a[k].a < k ∧ 0 ≤ a[k].b ∧ a[k].b < k := by
   rcases qcA ha hg with h | ⟨h, _⟩ | ⟨h, ⟨h3, h4⟩, h5, h6⟩
   ·omega
   ·omega
   ·exact ⟨h3, h4, h5, h6⟩
  rw [if_pos c2]
  obtain ⟨p1, p2, p3, p4, p5⟩ := one hs a[k].a h3 (by omega)
  obtain ⟨q1, q2, q3, q4, q5⟩ := one (qgz hs a[k].a) a[k].b h5 (by omega)
  refine ⟨q1.trans p1, Nat.le_trans q2 p2, fun q => ?_, fun q => ?_, fun j q => q5 j (p5 j q)⟩
  ·show qdw (qgz (qgz hs a[k].a) a[k].b) < qdw hs
   cases xa : hasAt hs a[k].a with
   | false => have := p3 (by rw [xa]; rfl); omega
   | true =>
    rw [p4 (by rw [xa]; rfl)] at q3 ⊢
    have : (!hasAt hs a[k].b) = true := by simpa [xa] using q
    exact q3 this
  ·simp at q
   rw [p4 (by rw [q.1]; rfl)] at q4 ⊢
   exact q4 (by rw [q.2]; rfl)
 rw [if_neg c2]
 have hb : (a[k].k = 8 ∨ a[k].k = 5) → 0 ≤ a[k].b ∧ a[k].b.toNat < hs.length := fun hh => by
  rcases qcA ha hg with h | ⟨h, _⟩ | ⟨h, ⟨h3, h4⟩, h5, h6⟩
  ·omega
  ·omega
  ·exact ⟨h5, by omega⟩
 by_cases c8 : a[k].k = 8
 ·rw [if_pos c8]
  have := hb (.inl c8)
  exact one hs a[k].b this.1 this.2
 rw [if_neg c8]
 by_cases c5 : a[k].k = 5
 ·rw [if_pos c5]
  have := hb (.inr c5)
  split
  ·exact one hs a[k].b this.1 this.2
  ·exact ⟨rfl, Nat.le_refl _, fun h => absurd h (by simp), fun _ => rfl, fun j q => q⟩
 ·rw [if_neg c5]
  exact ⟨rfl, Nat.le_refl _, fun h => absurd h (by simp), fun _ => rfl, fun j q => q⟩
section
variable {a : Ar} (ha : AOk a) {ps : List Int} (h2 : ps.length = a.length) (hp : ∀ x ∈ ps, x < (a.length : Int))
include ha h2 hp
theorem qfu (z : Rw) : ∀ (d k : Nat) (hs : List Bool) (s : Bool), hs.length = a.length → k + d = a.length →
  ∃ hs' s', fin trA 1923 [B s, I k] [qae a, z, qcd hs, qai ps] = some (0, [B s'], [qcd hs']) ∧ Grow a ps hs hs' ∧ qdw hs' ≤ qdw hs ∧ (s' = true → s = true ∨ qdw hs' < qdw hs) ∧ (s' = false → s = false ∧ hs' = hs ∧ ∀ j (hj : j < a.length), k ≤ j → hs.getD j false = false → madeB hs ps a[j] = false)
 | 0, k, hs, s, h1, hk => by
  refine ⟨hs, s, qab trA ?_, .refl hs, Nat.le_refl _, fun h => .inl h, fun h => ⟨h, rfl, fun j hj hkj => by omega⟩⟩
  show o160_4.go _ _ _ = _
  have g : ¬ (k : Int) < (hs.length : Int) := by omega
  simp only [o160_4, TT, Nat.reduceEqDiff, ↓reduceIte, encBo_len, g]
 | d + 1, k, hs, s, h1, hk => by
  have hlt : k < a.length := by omega
  have few := ha.few
  have g : (k : Int) < (hs.length : Int) := by omega
  have g0 : (0 : Int) ≤ (k : Int) := by omega
  have w : wr ((k : Int) + 1) = ((k + 1 : Nat) : Int) := by rw [qag (by omega) (by omega)]; omega
  have q1 := qbl hs g0 g
  have e1 := f_made ha h1 h2 hp hlt
  have hx : hasAt hs (k : Int) = hs.getD k false := by unfold hasAt; rw [Int.toNat_natCast]
  have hsr := setT_row hs (k : Int)
  rw [Int.toNat_natCast] at q1 hsr
  cases xk : hasAt hs (k : Int) with
  | true =>
   obtain ⟨hs', s', e, gr, c1, c2, c3⟩ := qfu z d (k + 1) hs s h1 (by omega)
   refine ⟨hs', s', qab trA ?_, gr, c1, c2, fun q => ?_⟩
   ·show o160_4.go _ _ _ = _
    simp only [o160_4, TT, Nat.reduceEqDiff, ↓reduceIte, encBo_len, g, g0, Int.toNat_natCast, q1, xk, w, e]
   ·obtain ⟨p1, p2, p3⟩ := c3 q
    refine ⟨p1, p2, fun j hj hkj hf => ?_⟩
    by_cases hjk : j = k
    ·subst hjk; rw [← hx, xk] at hf; cases hf
    ·exact p3 j hj (by omega) hf
  | false =>
   cases mk : madeB hs ps a[k] with
   | true =>
    have hc := (setT_cnt hs (k : Int)).2 xk (by rw [Int.toNat_natCast]; omega)
    obtain ⟨hs', s', e, gr, c1, c2, c3⟩ := qfu z d (k + 1) (qgz hs k) true (by rw [qeI]; exact h1) (by omega)
    refine ⟨hs', s', qab trA ?_, .trans ⟨qeI _ _, fun j q => by rw [qeS, q]; rfl, fun P c q j hj => ?_⟩ gr, by omega, fun _ => .inr (by omega), fun q => ?_⟩
    ·show o160_4.go _ _ _ = _
     rw [mk] at e1
     simp only [o160_4, TT, Nat.reduceEqDiff, ↓reduceIte, encBo_len, g, g0, Int.toNat_natCast, q1, xk, e1, hsr, w, e]
    ·rw [qeS, Bool.or_eq_true] at hj
     rcases hj with hj | hj
     ·exact q j hj
     ·simp at hj
      rw [hj.1]
      exact c.made hs k hlt q mk
    ·exact absurd (c3 q).1 (by simp)
   | false =>
    obtain ⟨hs', s', e, gr, c1, c2, c3⟩ := qfu z d (k + 1) hs s h1 (by omega)
    refine ⟨hs', s', qab trA ?_, gr, c1, c2, fun q => ?_⟩
    ·show o160_4.go _ _ _ = _
     rw [mk] at e1
     simp only [o160_4, TT, Nat.reduceEqDiff, ↓reduceIte, encBo_len, g, g0, Int.toNat_natCast, q1, xk, e1, w, e]
    ·obtain ⟨p1, p2, p3⟩ := c3 q
     refine ⟨p1, p2, fun j hj hkj hf => ?_⟩
     by_cases hjk : j = k
     ·subst hjk; exact mk
     ·exact p3 j hj (by omega) hf
theorem qfy (z : Rw) : ∀ (m : Nat) (hs : List Bool) (s : Bool), hs.length = a.length → m ≤ a.length →
  ∃ hs' s', fin trA 1924 [B s, I ((m : Int) - 1)] [qae a, z, qcd hs, qai ps] = some (0, [B s'], [qcd hs']) ∧ Grow a ps hs hs' ∧ qdw hs' ≤ qdw hs ∧ (s' = true → s = true ∨ qdw hs' < qdw hs) ∧ (s' = false → s = false ∧ hs' = hs ∧ ∀ j (hj : j < a.length), j < m → hs.getD j false = true → (qbZ hs a[j]).2 = false)
 | 0, hs, s, h1, hm => by
  refine ⟨hs, s, qab trA ?_, .refl hs, Nat.le_refl _, fun h => .inl h, fun h => ⟨h, rfl, fun j hj hkj => by omega⟩⟩
  show o160_6.go _ _ _ = _
  have g : ¬ (0 : Int) ≤ ((0 : Nat) : Int) - 1 := by omega
  simp only [o160_6, TT, Nat.reduceEqDiff, ↓reduceIte, g]
 | m + 1, hs, s, h1, hm => by
  have hlt : m < a.length := by omega
  have few := ha.few
  have em : ((m + 1 : Nat) : Int) - 1 = (m : Int) := by omega
  have g : (m : Int) < (hs.length : Int) := by omega
  have g0 : (0 : Int) ≤ (m : Int) := by omega
  have w : wr ((m : Int) - 1) = (m : Int) - 1 := qag (by omega) (by omega)
  have q1 := qbl hs g0 g
  have e1 := f_partsB ha h1 hlt
  have hx : hasAt hs (m : Int) = hs.getD m false := by unfold hasAt; rw [Int.toNat_natCast]
  rw [Int.toNat_natCast] at q1
  rw [em]
  cases xk : hasAt hs (m : Int) with
  | false =>
   obtain ⟨hs', s', e, gr, c1, c2, c3⟩ := qfy z m hs s h1 (by omega)
   refine ⟨hs', s', qab trA ?_, gr, c1, c2, fun q => ?_⟩
   ·show o160_6.go _ _ _ = _
    simp only [o160_6, TT, Nat.reduceEqDiff, ↓reduceIte, encBo_len, g, g0, Int.toNat_natCast, q1, xk, w, e]
   ·obtain ⟨p1, p2, p3⟩ := c3 q
    refine ⟨p1, p2, fun j hj hkj hf => ?_⟩
    by_cases hjk : j = m
    ·subst hjk; rw [← hx, xk] at hf; cases hf
    ·exact p3 j hj (by omega) hf
  | true =>
   obtain ⟨l1, cn1, cn2, cn3, cn4⟩ := parts_cnt ha h1 hlt
   have gp : Grow a ps hs (qbZ hs a[m]).1 := ⟨l1, cn4, fun P c q j hj => c.parts hs m hlt q (by rw [← hx]; exact xk) j hj⟩
   cases pk : (qbZ hs a[m]).2 with
   | true =>
    obtain ⟨hs', s', e, gr, c1, c2, c3⟩ := qfy z m (qbZ hs a[m]).1 true (by omega) (by omega)
    have := cn2 pk
    refine ⟨hs', s', qab trA ?_, gp.trans gr, by omega, fun _ => .inr (by omega), fun q => absurd (c3 q).1 (by simp)⟩
    show o160_6.go _ _ _ = _
    rw [pk] at e1
    simp only [o160_6, TT, Nat.reduceEqDiff, ↓reduceIte, encBo_len, g, g0, Int.toNat_natCast, q1, xk, e1, w, e]
   | false =>
    rw [cn3 pk, pk] at e1
    obtain ⟨hs', s', e, gr, c1, c2, c3⟩ := qfy z m hs s h1 (by omega)
    refine ⟨hs', s', qab trA ?_, gr, c1, c2, fun q => ?_⟩
    ·show o160_6.go _ _ _ = _
     simp only [o160_6, TT, Nat.reduceEqDiff, ↓reduceIte, encBo_len, g, g0, Int.toNat_natCast, q1, xk, e1, w, e]
    ·obtain ⟨p1, p2, p3⟩ := c3 q
     refine ⟨p1, p2, fun j hj hkj hf => ?_⟩
     by_cases hjk : j = m
     ·subst hjk; exact pk
     ·exact p3 j hj (by omega) hf
def Full (a : Ar) (ps : List Int) (hs : List Bool) : Prop := (∀ j (hj : j < a.length), hs.getD j false = false → madeB hs ps a[j] = false) ∧ ∀ j (hj : j < a.length), hs.getD j false = true → (qbZ hs a[j]).2 = false
theorem f_reach2_end (z : Rw) (hs : List Bool) : fin trA 1925 [B false] [qae a, z, qcd hs, qai ps] = some (0, [], [qcd hs]) := by
 refine qab trA ?_
 show o160_2.go _ _ _ = _
 simp only [o160_2, TT, Nat.reduceEqDiff, ↓reduceIte]
theorem f_reach2 (z : Rw) : ∀ (n : Nat) (hs : List Bool), qdw hs ≤ n → hs.length = a.length → ∃ hs', fin trA 1925 [B true] [qae a, z, qcd hs, qai ps] = some (0, [], [qcd hs']) ∧ Grow a ps hs hs' ∧ Full a ps hs' := by
 intro n
 induction n using Nat.strongRecOn with
 | ind n ih =>
  intro hs hn h1
  have few := ha.few
  obtain ⟨h4, s4, e4, g4, a1, a2, a3⟩ := qfu ha h2 hp z a.length 0 hs false h1 (by omega)
  have l4 : h4.length = a.length := by rw [g4.len]; exact h1
  obtain ⟨h6, s6, e6, g6, b1, b2, b3⟩ := qfy ha h2 hp z a.length h4 s4 l4 (by omega)
  rw [show ((0 : Nat) : Int) = 0 from rfl] at e4
  have w : wr ((a.length : Int) - 1) = (a.length : Int) - 1 := qag (by omega) (by omega)
  have step : ∀ R, fin trA 1925 [B s6] [qae a, z, qcd h6, qai ps] = some (0, [], [R]) → fin trA 1925 [B true] [qae a, z, qcd hs, qai ps] = some (0, [], [R]) := fun R e => by
   refine qab trA ?_
   show o160_2.go _ _ _ = _
   simp only [o160_2, TT, Nat.reduceEqDiff, ↓reduceIte, e4, encBo_len, l4, w, e6, e]
  cases s6 with
  | false =>
   obtain ⟨p1, p2, p3⟩ := b3 rfl
   obtain ⟨q1, q2, q3⟩ := a3 p1
   refine ⟨h6, step _ (f_reach2_end ha h2 hp z h6), g4.trans g6, ?_, ?_⟩
   ·rw [p2, q2]; exact fun j hj hf => q3 j hj (Nat.zero_le _) hf
   ·rw [p2]; exact fun j hj hf => p3 j hj hj hf
  | true =>
   have hlt : qdw h6 < qdw hs := by
    rcases b2 rfl with h | h
    ·rcases a2 h with h' | h'
     ·cases h'
     ·omega
    ·omega
   obtain ⟨h', e, g, f⟩ := ih (qdw h6) (by omega) h6 (Nat.le_refl _) (by rw [g6.len]; exact l4)
   exact ⟨h', step _ e, (g4.trans g6).trans g, f⟩
end
theorem f_reach0 {a : Ar} {known : List Int} (hk : known.length ≤ 100000) (r1 r2 : Rw) (few : a.length ≤ 3000) : ∀ (d i : Nat) (hs : List Bool), i + d = known.length → hs.length = a.length →
  ∃ hs', fin trA 1922 [I i] [qai known, r1, r2, qcd hs] = some (0, [], [qcd hs']) ∧ hs'.length = a.length ∧ (∀ j, hs.getD j false = true → hs'.getD j false = true) ∧ (∀ x ∈ known.drop i, 0 ≤ x → x < (a.length : Int) → hs'.getD x.toNat false = true) ∧ ∀ j, hs'.getD j false = true → hs.getD j false = true ∨ (j : Int) ∈ known.drop i
 | 0, i, hs, hi, hl => by
  refine ⟨hs, qab trA ?_, hl, fun _ h => h, fun x hx => ?_, fun j h => .inl h⟩
  ·show o160_0.go _ _ _ = _
   have g : ¬ (i : Int) < (known.length : Int) := by omega
   simp only [o160_0, TT, Nat.reduceEqDiff, ↓reduceIte, encI_len, g]
  ·rw [List.drop_eq_nil_of_le (by omega)] at hx; cases hx
 | d + 1, i, hs, hi, hl => by
  have hlt : i < known.length := by omega
  have g : (i : Int) < (known.length : Int) := by omega
  have g0 : (0 : Int) ≤ (i : Int) := by omega
  have w : wr ((i : Int) + 1) = ((i + 1 : Nat) : Int) := by rw [qag (by omega) (by omega)]; omega
  have wl : wr ((hs.length : Int) - 1) = (hs.length : Int) - 1 := qag (by omega) (by omega)
  rw [List.drop_eq_getElem_cons hlt]
  by_cases hin : 0 ≤ known[i] ∧ known[i] < (hs.length : Int)
  ·have b : inB known[i] 0 ((hs.length : Int) - 1) = true := by simp [inB]; omega
   obtain ⟨hs', e, q1, q2, q3, q4⟩ := f_reach0 hk r1 r2 few d (i + 1) (qgz hs known[i]) (by omega) (by rw [qeI]; exact hl)
   have hset := setT_row hs known[i]
   refine ⟨hs', qab trA ?_, q1, fun j h => q2 j (by rw [qeS, h]; rfl), fun x hx h0 h1 => ?_, fun j h => ?_⟩
   ·show o160_0.go _ _ _ = _
    simp only [o160_0, TT, Nat.reduceEqDiff, ↓reduceIte, encI_len, encBo_len, g, g0, Int.toNat_natCast, qaj known i hlt, f_in, wl, b, hin.1, hin.2, hset, w, e]
   ·rcases List.mem_cons.1 hx with rfl | hx
    ·exact q2 _ (by rw [qeS]; simp; omega)
    ·exact q3 x hx h0 h1
   ·rcases q4 j h with h | h
    ·rw [qeS, Bool.or_eq_true] at h
     rcases h with h | h
     ·exact .inl h
     ·simp at h
      refine .inr (List.mem_cons.2 (.inl ?_))
      rw [h.1]; omega
    ·exact .inr (List.mem_cons_of_mem _ h)
  ·have b : inB known[i] 0 ((hs.length : Int) - 1) = false := by simp [inB]; omega
   obtain ⟨hs', e, q1, q2, q3, q4⟩ := f_reach0 hk r1 r2 few d (i + 1) hs (by omega) hl
   refine ⟨hs', qab trA ?_, q1, q2, fun x hx h0 h1 => ?_, fun j h => ?_⟩
   ·show o160_0.go _ _ _ = _
    simp only [o160_0, TT, Nat.reduceEqDiff, ↓reduceIte, encI_len, encBo_len, g, g0, Int.toNat_natCast, qaj known i hlt, f_in, wl, b, w, e]
   ·rcases List.mem_cons.1 hx with rfl | hx
    ·exact absurd ⟨h0, by omega⟩ hin
    ·exact q3 x hx h0 h1
   ·rcases q4 j h with h | h
    ·exact .inl h
    ·exact .inr (List.mem_cons_of_mem _ h)
theorem f_pubs0 {a : Ar} (few : a.length ≤ 3000) (z : Rw) : ∀ (d i : Nat), i + d = a.length → fin trA 2474 [I i] [qae a, z, qai (List.replicate i (-1))] = some (0, [], [qai (List.replicate a.length (-1))])
 | 0, i, hi => by
  refine qab trA ?_
  show o206_0.go _ _ _ = _
  have g : ¬ (i : Int) < (a.length : Int) := by omega
  rw [show i = a.length by omega] at g ⊢
  simp only [o206_0, TT, Nat.reduceEqDiff, ↓reduceIte, encA_len, g]
 | d + 1, i, hi => by
  have ih := f_pubs0 few z d (i + 1) (by omega)
  have g : (i : Int) < (a.length : Int) := by omega
  have w : wr ((i : Int) + 1) = ((i + 1 : Nat) : Int) := by rw [qag (by omega) (by omega)]; omega
  have q : qai (List.replicate i (-1)) ++ [[Value.int .i64 (-1)]] = qai (List.replicate (i + 1) (-1)) := by simp [qai, List.replicate_succ']
  have g2 : ((List.replicate (i + 1) (-1 : Int)).length : Int) ≤ 100000000 := by simp; omega
  refine qab trA ?_
  show o206_0.go _ _ _ = _
  simp only [o206_0, TT, Nat.reduceEqDiff, ↓reduceIte, encA_len, g, q, encI_len, g2, w, ih]
structure PubI (a : Ar) (i : Nat) (ps : List Int) : Prop where
 len : ps.length = a.length
 bd : ∀ x ∈ ps, x = -1 ∨ ∃ j : Nat, x = j ∧ j < a.length
 is : ∀ x : Nat, x < a.length → psAt ps x = -1 ∨ ∃ j : Nat, psAt ps x = j ∧ a[j]? = some ⟨6, 0, x, 0⟩
 all : ∀ (j : Nat) (x : Int), j < i → a[j]? = some ⟨6, 0, x, 0⟩ → psAt ps x = j
theorem nd_pub {a : Ar} (ha : AOk a) {k : Nat} {n : Nd} (h : a[k]? = some n) (h6 : n.k = 6) : n = ⟨6, 0, n.a, 0⟩ := by
 have hr := ha.right k n h
 obtain ⟨nk, num, na, nb⟩ := n
 simp at h6
 subst h6
 unfold Nd.right at hr
 simp only [show inB 6 1 9 = true from rfl, Bool.true_eq_false, if_false, show qbi 6 = true from rfl, if_true, Int.reduceEq] at hr
 by_cases c3 : num = 0
 ·subst c3
  simp at hr
  rw [hr.2]
 ·rw [if_pos c3] at hr; cases hr
theorem f_pubs2 {a : Ar} (ha : AOk a) (z : Rw) : ∀ (d i : Nat) (ps : List Int), i + d = a.length → PubI a i ps → ∃ ps', fin trA 2475 [I i] [qae a, z, qai ps] = some (0, [], [qai ps']) ∧ PubI a a.length ps'
 | 0, i, ps, hi, hp => by
  refine ⟨ps, qab trA ?_, by rw [show i = a.length by omega] at hp; exact hp⟩
  show o206_2.go _ _ _ = _
  have g : ¬ (i : Int) < (a.length : Int) := by omega
  simp only [o206_2, TT, Nat.reduceEqDiff, ↓reduceIte, encA_len, g]
 | d + 1, i, ps, hi, hp => by
  have hlt : i < a.length := by omega
  have few := ha.few
  have hg : a[i]? = some a[i] := List.getElem?_eq_getElem hlt
  have g : (i : Int) < (a.length : Int) := by omega
  have g0 : (0 : Int) ≤ (i : Int) := by omega
  have w : wr ((i : Int) + 1) = ((i + 1 : Nat) : Int) := by rw [qag (by omega) (by omega)]; omega
  by_cases h6 : a[i].k = 6
  ·obtain ⟨h3, h4⟩ : 0 ≤ a[i].a ∧ a[i].a < i := by
    rcases qcA ha hg with h | ⟨_, h⟩ | ⟨h, _⟩
    ·omega
    ·exact h
    ·omega
   have hn := nd_pub ha hg h6
   have hlen := hp.len
   have ga : a[i].a < (ps.length : Int) := by omega
   have hset : qbt (qai ps) a[i].a.toNat 0 [.int .i64 i] = qai (ps.modify a[i].a.toNat fun _ => (i : Int)) := by
    unfold qbt qai
    exact qbI (fun x : Int => [I x]) _ _ (fun _ => rfl) ps a[i].a.toNat
   have hat : ∀ x : Int, 0 ≤ x → x < (a.length : Int) → psAt (ps.modify a[i].a.toNat fun _ => (i : Int)) x = if x = a[i].a then (i : Int) else psAt ps x := fun x h0 h1 => by
    unfold psAt
    rw [List.getD_eq_getElem?_getD, List.getD_eq_getElem?_getD, List.getElem?_modify]
    by_cases hx : x = a[i].a
    ·rw [if_pos hx, hx, List.getElem?_eq_getElem (by omega)]
     simp
    ·have hne : ¬ a[i].a.toNat = x.toNat := by omega
     rw [if_neg hx]
     simp [hne]
   have hp' : PubI a (i + 1) (ps.modify a[i].a.toNat fun _ => (i : Int)) := by
    refine ⟨by rw [List.length_modify]; exact hp.len, fun x hx => ?_, fun x hx => ?_, fun j x hj hjx => ?_⟩
    ·rcases qeW hx with h | ⟨_, rfl⟩
     ·exact hp.bd x h
     ·exact .inr ⟨i, rfl, hlt⟩
    ·rw [hat x (by omega) (by omega)]
     split
     ·rename_i he
      refine .inr ⟨i, rfl, ?_⟩
      rw [hg, hn, ← he]
     ·exact hp.is x hx
    ·have hjl : j < a.length := (List.getElem?_eq_some_iff.1 hjx).1
     obtain ⟨h0, h1⟩ : 0 ≤ x ∧ x < j := by
      rcases qcA ha hjx with h | ⟨_, h⟩ | ⟨h, _⟩
      ·simp at h
      ·exact h
      ·simp at h
     rw [hat x h0 (by omega)]
     by_cases hx : x = a[i].a
     ·rw [if_pos hx]
      have : j = i := ha.once j i _ hjx (by rw [hg, hn, hx])
      rw [this]
     ·rw [if_neg hx]
      refine hp.all j x ?_ hjx
      rcases Nat.lt_or_ge j i with h | h
      ·exact h
      ·have hji : j = i := by omega
       subst hji
       rw [hg] at hjx
       cases hjx' : a[j]
       rw [hjx'] at hjx hx
       simp at hjx hx
       exact absurd hjx.2.2.1.symm hx
   obtain ⟨ps', e, h'⟩ := f_pubs2 ha z d (i + 1) _ (by omega) hp'
   refine ⟨ps', qab trA ?_, h'⟩
   show o206_2.go _ _ _ = _
   simp only [o206_2, TT, Nat.reduceEqDiff, ↓reduceIte, encA_len, encI_len, g, g0, Int.toNat_natCast, qah a i hlt, Nd.enc, h6, h3, ga, hset, w, e]
  ·have hp' : PubI a (i + 1) ps := ⟨hp.len, hp.bd, hp.is, fun j x hj hjx => by
    rcases Nat.lt_or_ge j i with h | h
    ·exact hp.all j x h hjx
    ·have hji : j = i := by omega
     subst hji
     rw [hg] at hjx
     cases hjx' : a[j]
     rw [hjx'] at hjx h6
     simp at hjx h6
     exact absurd hjx.1 h6⟩
   obtain ⟨ps', e, h'⟩ := f_pubs2 ha z d (i + 1) ps (by omega) hp'
   refine ⟨ps', qab trA ?_, h'⟩
   show o206_2.go _ _ _ = _
   simp only [o206_2, TT, Nat.reduceEqDiff, ↓reduceIte, encA_len, g, g0, Int.toNat_natCast, qah a i hlt, Nd.enc, h6, w, e]
theorem f_pubs {a : Ar} (ha : AOk a) : ∃ ps, fin trA 2476 [] [qae a] = some (0, [], [qai ps]) ∧ PubI a a.length ps := by
 have few := ha.few
 have e1 : fin trA 2474 [I 0] [qae a, [], []] = some (0, [], [qai (List.replicate a.length (-1))]) := f_pubs0 few [] a.length 0 (by omega)
 have h0 : PubI a 0 (List.replicate a.length (-1)) := by
  refine ⟨by simp, fun x hx => .inl (List.eq_of_mem_replicate hx), fun x hx => .inl ?_, fun j x hj => by omega⟩
  unfold psAt
  simp [List.getD_eq_getElem?_getD, List.getElem?_replicate, hx]
 obtain ⟨ps, e2, h⟩ := f_pubs2 ha [] a.length 0 _ (by omega) h0
 rw [show ((0 : Nat) : Int) = 0 from rfl] at e2
 refine ⟨ps, qab trA ?_, h⟩
 show o206.go _ _ _ = _
 simp only [o206, TT, Nat.reduceEqDiff, ↓reduceIte, e1, e2]
structure Had (a : Ar) (known : List Int) (ps : List Int) (hs : List Bool) : Prop where
 pubs : PubI a a.length ps
 len : hs.length = a.length
 kept : ∀ x ∈ known, 0 ≤ x → x < (a.length : Int) → hs.getD x.toNat false = true
 full : Full a ps hs
 least : ∀ P : Nat → Prop, Closed a ps P → (∀ j : Nat, (j : Int) ∈ known → P j) → ∀ j, hs.getD j false = true → P j
theorem f_l05 {a : Ar} (ha : AOk a) {known : List Int} (hk : known.length ≤ 100000) : ∃ ps hs, fin trA 1926 [] [qae a, qai known] = some (0, [], [qcd hs]) ∧ Had a known ps hs := by
 have few := ha.few
 obtain ⟨ps, e2, hps⟩ := f_pubs ha
 obtain ⟨h0, e1, l0, m0, k0, s0⟩ := f_reach0 (a := a) hk (qae a) [] few known.length 0 (List.replicate a.length false) (by omega) (by simp)
 rw [show ((0 : Nat) : Int) = 0 from rfl, List.drop_zero] at *
 have hpb : ∀ x ∈ ps, x < (a.length : Int) := fun x hx => by
  rcases hps.bd x hx with h | ⟨j, h, hj⟩
  ·omega
  ·omega
 obtain ⟨hs, e3, g3, f3⟩ := f_reach2 ha hps.len hpb [] (qdw h0) h0 (Nat.le_refl _) l0
 refine ⟨ps, hs, qab trA ?_, hps, by rw [g3.len]; exact l0, fun x hx h0 h1 => g3.mono _ (k0 x hx h0 h1), f3, fun P c hP => g3.least P c fun j hj => ?_⟩
 ·show o160.go _ _ _ = _
  have g0 : (0 : Int) ≤ (a.length : Int) := by omega
  have g1 : (a.length : Int) ≤ 100000000 := by omega
  have hrep : List.replicate a.length [Value.bool false] = qcd (List.replicate a.length false) := by simp [qcd]
  simp only [o160, TT, Nat.reduceEqDiff, ↓reduceIte, encA_len, g0, g1, Int.toNat_natCast, hrep, e1, e2, e3]
 ·rcases s0 j hj with h | h
  ·simp [List.getD_eq_getElem?_getD, List.getElem?_replicate] at h
   split at h <;> simp at h
  ·exact hP j h
theorem f_derives {a : Ar} (ha : AOk a) {known : List Int} (hk : known.length ≤ 100000) (k : Int) : ∃ ps hs, Had a known ps hs ∧ fin trA 2438 [I k] [qae a, qai known] = some (0, [B (decide (0 ≤ k ∧ k < (a.length : Int) ∧ hs.getD k.toNat false = true))], []) := by
 obtain ⟨ps, hs, e1, h⟩ := f_l05 ha hk
 have few := ha.few
 have e0 := f_arenaOk ha
 have e2 : fin trA 1178 [] [qae a, qai known] = some (0, [], [qcd hs]) := by
  refine qab trA ?_
  show o98.go _ _ _ = _
  simp only [o98, TT, Nat.reduceEqDiff, ↓reduceIte, e0, e1]
 have w : wr ((a.length : Int) - 1) = (a.length : Int) - 1 := qag (by omega) (by omega)
 refine ⟨ps, hs, h, qab trA ?_⟩
 show o203.go _ _ _ = _
 by_cases hin : 0 ≤ k ∧ k < (a.length : Int)
 ·have b : inB k 0 ((a.length : Int) - 1) = true := by simp [inB]; omega
  have q := qbl hs hin.1 (by rw [h.len]; exact hin.2)
  simp only [o203, TT, Nat.reduceEqDiff, ↓reduceIte, e2, encBo_len, h.len, w, f_in, b, hin.1, hin.2, q, true_and]
  unfold hasAt
  cases hs.getD k.toNat false <;> rfl
 ·have b : inB k 0 ((a.length : Int) - 1) = false := by simp [inB]; omega
  rw [decide_eq_false (fun q => hin ⟨q.1, q.2.1⟩)]
  simp only [o203, TT, Nat.reduceEqDiff, ↓reduceIte, e2, encBo_len, h.len, w, f_in, b]
inductive ForgeR (w : Wd) (at_ num : Int) : List Nat → Ar → List Mail_ → List Int → Prop where
 | no {t : List Nat} : ForgeR w at_ num t w.a w.net w.known
 | yes {T : Tm'} {a' : Ar} {k to : Int} {ps : List Int} {hs : List Bool} (x : Ext w.a a' 80) (d : Den a' k T) (h : Had a' w.known ps hs) (hk : hs.getD k.toNat false = true) (ht : to = 99 ∨ to ∈ w.ad) : ForgeR w at_ num (qbx T) a' (qbn w.net ⟨num.tmod 10, to, k⟩) (w.known ++ [k])
theorem f_forge {w : Wd} (ha : AOk w.a) (hj : w.ad.length = 2) (kind at_ num : Int) (h0 : 0 ≤ at_) {t : List Nat} (ht : t = [] ∨ ∃ T m, t = qbx T ∧ T.ok ∧ qbh T ≤ 2000 ∧ Cost w.a T m ∧ m ≤ 80 ∧ w.a.length + m ≤ 3000) (b1 : w.net.length ≤ 1000) (b2 : w.known.length ≤ 10000) :
  ∃ a' net' known' code, fin trA 1826 (w.vs ++ [I kind, I at_, I num, .string (qbY t)]) w.rs = some (0, [I code], [qae a', qbk net', qai known']) ∧ ForgeR w at_ num t a' net' known' := by
 rcases ht with rfl | ⟨T, m, rfl, hT, hs, hc, hm, hl⟩
 ·have e1 := f_readTerm_no ha
  refine ⟨_, _, _, 1, qab trA ?_, .no⟩
  show o152.go _ _ _ = _
  simp only [Wd.vs, Wd.rs, o152, go_two, go_both, same_self, TT, Nat.reduceEqDiff, ↓reduceIte, e1]
 ·obtain ⟨a', k, e1, x, d⟩ := f_readTerm hT hs ha hc hl
  obtain ⟨ps, hs', hh, e2⟩ := f_derives x.ok (known := w.known) (by omega) k
  by_cases hb : 0 ≤ k ∧ k < (a'.length : Int) ∧ hs'.getD k.toNat false = true
  ·rw [decide_eq_true hb] at e2
   by_cases hat : at_ < 2
   ·obtain ⟨i, rfl⟩ : ∃ i : Nat, at_ = i := ⟨at_.toNat, by omega⟩
    have hi : i < w.ad.length := by omega
    have g2 : (i : Int) < (w.ad.length : Int) := by omega
    have e3 := qfb b1 b2 w.g.name w.g.next w.g.drops w.now w.draw (num.tmod 10) w.ad[i] k d.nonneg (qae a') (qbB w.cs) (qai w.ad) (qas w.g.l) (qaz w.g.p) (qaK w.g.w) (qaP w.g.o) (qai w.taken) (qaw w.begun) (qaw w.dn) (qaw w.sent) (qaw w.got) (qai w.codes)
    refine ⟨_, _, _, 0, qab trA ?_, .yes (x.le hm) d hh hb.2.2 (.inr (List.getElem_mem hi))⟩
    show o152.go _ _ _ = _
    simp only [Wd.vs, Wd.rs, o152, go_two, go_both, same_self, TT, Nat.reduceEqDiff, ↓reduceIte, e1, e2, hat, h0, encI_len, g2, Int.toNat_natCast, qaj w.ad i hi, e3]
   ·have e3 := qfb b1 b2 w.g.name w.g.next w.g.drops w.now w.draw (num.tmod 10) 99 k d.nonneg (qae a') (qbB w.cs) (qai w.ad) (qas w.g.l) (qaz w.g.p) (qaK w.g.w) (qaP w.g.o) (qai w.taken) (qaw w.begun) (qaw w.dn) (qaw w.sent) (qaw w.got) (qai w.codes)
    refine ⟨_, _, _, 0, qab trA ?_, .yes (x.le hm) d hh hb.2.2 (.inl rfl)⟩
    show o152.go _ _ _ = _
    simp only [Wd.vs, Wd.rs, o152, go_two, go_both, same_self, TT, Nat.reduceEqDiff, ↓reduceIte, e1, e2, hat, e3]
  ·rw [decide_eq_false hb] at e2
   refine ⟨_, _, _, 1, qab trA ?_, .no⟩
   show o152.go _ _ _ = _
   simp only [Wd.vs, Wd.rs, o152, go_two, go_both, same_self, TT, Nat.reduceEqDiff, ↓reduceIte, e1, e2]
theorem do_forge {n : Nat} {w : Wd} (h : WdI n w) (hn : n ≤ 35) (hd : 10000 ≤ w.draw ∧ w.draw ≤ 800000) (at_ num : Int) (h0 : 0 ≤ at_) (h1 : 0 ≤ num) {t : List Nat} (ht : t = [] ∨ ∃ T m, t = qbx T ∧ T.ok ∧ qbh T ≤ 2000 ∧ Cost w.a T m ∧ m ≤ 80) : Done w 9 at_ num (.string (qbY t)) := by
 have wd : wr (w.draw + 10) = w.draw + 10 := qag (by omega) (by omega)
 have := h.few; have := h.netl; have := h.knl
 obtain ⟨a', net', known', code, e1, hR⟩ := f_forge (w := { w with draw := w.draw + 10 }) h.ok h.adl 9 at_ num h0 (t := t) (by
  rcases ht with ht | ⟨T, m, q1, q2, q3, q4, q5⟩
  ·exact .inl ht
  ·exact .inr ⟨T, m, q1, q2, q3, q4, q5, by show w.a.length + m ≤ 3000; omega⟩) (by show w.net.length ≤ _; omega) (by show w.known.length ≤ _; omega)
 have hst : StR { w with draw := w.draw + 10 } { w with draw := w.draw + 10, a := a', net := net', known := known' } := by
  cases hR with
  | no => exact .no
  | @yes T _ k to ps hs x d hh hk hto =>
   have nk : ¬ k < 0 := by have := d.nonneg; omega
   have r1 := Int.tmod_nonneg (a := num) 10 h1
   have r2 := Int.tmod_lt_of_pos num (show (0 : Int) < 10 by omega)
   have := StR.forge (w := { w with draw := w.draw + 10 }) (src := num.tmod 10) (to := to) x d ⟨r1, by omega⟩ hto
   unfold Wd.say at this
   rw [if_neg nk] at this
   exact this
 refine ⟨{ w with draw := w.draw + 10, a := a', net := net', known := known' }, code, qab trA ?_, hst, rfl⟩
 simp only [Wd.vs, Wd.rs, List.cons_append, List.nil_append] at e1
 show o89.go _ _ _ = _
 simp only [Wd.vs, Wd.rs, Wd.o14, o89, TT, Nat.reduceEqDiff, ↓reduceIte, Int.reduceEq, wd, e1]
def TextOk (a : Ar) (t : List Nat) : Prop := t = [] ∨ ∃ T m, t = qbx T ∧ T.ok ∧ qbh T ≤ 2000 ∧ Cost a T m ∧ m ≤ 80
theorem qct {a : Ar} {T : Tm'} {m : Nat} (hT : T.ok) (hc : Cost a T m) (hm : m ≤ 80) : TextOk a (txt T) := by
 unfold txt
 split
 ·rename_i h; exact .inr ⟨T, m, rfl, hT, h, hc, hm⟩
 ·exact .inl rfl
theorem qaC : Value.string (qbY []) = .string ⟨⟨[]⟩⟩ := rfl
theorem qaJ (a : Ar) (n : Int) : Cost a (.atom n) 1 := .atom n
theorem qdr (a : Ar) (m n x p : Int) : Cost a (helloT m n (.atom x) (.pub (.atom p))) 12 := by
 have := Cost.bin (c := 2) (qaJ a 61) (.bin (c := 2) (qaJ a m) (.bin (c := 2) (qaJ a n) (.bin (c := 2) (qaJ a x) (.bin (c := 2) (.un (c := 6) (qaJ a p)) (qaJ a 0)))))
 exact this
theorem cost_server (a : Ar) (x p : Int) : Cost a (qfU (.atom x) (.pub (.atom p))) 8 := by
 have := Cost.bin (c := 2) (qaJ a 62) (.bin (c := 2) (qaJ a x) (.bin (c := 2) (.un (c := 6) (qaJ a p)) (qaJ a 0)))
 exact this
theorem qbM {a : Ar} (n : Int) {t u : Tm'} {m k : Nat} (h : Cost a t m) (h' : Cost a u k) : Cost a (letterT n [t, u]) (1 + (m + (k + 1 + 1) + 1) + 1) := Cost.bin (c := 2) (qaJ a n) (.bin (c := 2) h (.bin (c := 2) h' (qaJ a 0)))
theorem qaI {b : Rw} (hb : Bys b) (i : Nat) (h : Int) {n : Int} (hn : 0 < n) : ∃ (i' : Nat) (h' x : Int), fin trA 494 [I i, I h, I n] [b] = some (0, [I i', I h', I x], []) ∧ 0 ≤ x ∧ x < n := by
 obtain ⟨i', h', x, e, h0, h1, _⟩ := f_below hb i h n
 exact ⟨i', h', x, e, h0, h1 hn⟩
theorem f_forged {b : Rw} (hb : Bys b) {n : Nat} {w : Wd} (h : WdI n w) (hn : n ≤ 35) (hk : 1 ≤ w.known.length) (i : Nat) (h0 : Int) :
  ∃ (i' : Nat) (h' : Int) (t : List Nat), fin trA 1982 ([I i, I h0] ++ w.vs) (b :: w.rs) = some (0, [I i', I h', .string (qbY t)], []) ∧ TextOk w.a t := by
 have few := h.few
 have ha := h.ok
 have e0 := qfS w.a ha.le
 obtain ⟨i1, h1, x1, f1, r1, r1'⟩ := qaI hb i h0 (n := (w.known.length : Int)) (by omega)
 obtain ⟨k, rfl⟩ : ∃ k : Nat, x1 = k := ⟨x1.toNat, by omega⟩
 have hkl : k < w.known.length := by omega
 obtain ⟨T, dT⟩ := h.kn _ (List.getElem_mem hkl)
 obtain ⟨i2, h2, c, f2, r2, r2'⟩ := qaI hb i1 h1 (n := 5) (by omega)
 have v0 : wr (1 + 0) = 1 := by rw [qag (by omega) (by omega)]; rfl
 have v1 : wr (1 + 1) = 2 := by rw [qag (by omega) (by omega)]; rfl
 have et := qbe ha dT
 rcases qbu ha dT with ⟨hT, e1⟩ | ⟨n', u, x, y, hn', hT, e1, d1'⟩ | ⟨n', u, v, x, y, z, hn', hT, e1, d1', d2'⟩
 ·by_cases c0 : c = 0
  ·obtain ⟨a1, k1, g1, y1, d1⟩ := qap (n := 5001) ha (by omega) (by omega) (by omega)
   have l1 := y1.len
   obtain ⟨a2, k2, g2, y2, d2⟩ := qap (n := 5000) y1.ok (by omega) (by omega) (by omega)
   have l2 := y2.len
   obtain ⟨a3, k3, g3, y3, d3⟩ := qbp (c := 6) (y := 0) y2.ok (by omega) d2 (by omega) (by omega)
   have l3 := y3.len
   obtain ⟨i3, h3, m3, f3, r3, r3'⟩ := qaI hb i2 h2 (n := 2) (by omega)
   obtain ⟨i4, h4, m4, f4, r4, r4'⟩ := qaI hb i3 h3 (n := 3) (by omega)
   have w3 : wr (1 + m3) = 1 + m3 := qag (by omega) (by omega)
   have w4 : wr (1 + m4) = 1 + m4 := qag (by omega) (by omega)
   obtain ⟨a4, k4, g4, y4, d4⟩ := qeZ (m := 1 + m3) (n := 1 + m4) y3.ok (d1.mono (y2.pre.trans y3.pre)) d3 (by omega) (by omega) (by omega) (by omega) (by omega)
   have l4 := y4.len
   obtain ⟨a5, k5, g5, y5, d5⟩ := qap (n := 0) y4.ok (by omega) (by omega) (by omega)
   have l5 := y5.len
   obtain ⟨a6, k6, g6, y6, d6⟩ := qbb (n := 71) y5.ok (d4.mono y5.pre) d5 (by omega) (by omega) (by omega)
   have et6 := qbe y6.ok d6
   by_cases hgt : (4000 : Int) < ((txt (letterT 71 [helloT (1 + m3) (1 + m4) (.atom 5001) (.pub (.atom 5000)), .atom 0])).length : Int)
   ·refine ⟨i4, h4, [], qab trA ?_, .inl rfl⟩
    rw [qaC]
    show o165.go _ _ _ = _
    simp only [Wd.vs, Wd.rs, o165, go_more, TT, Nat.reduceEqDiff, ↓reduceIte, TN, Nat.reduceAdd, Int.reduceLT, Int.reduceLE, Int.reduceToNat, Int.reduceToNat, e0, f1, f2, encI_len, r1, r1', Int.toNat_natCast, qaj w.known k hkl, e1, v0, v1, Int.reduceEq, sizeV_str, qam, gt_iff_lt, c0, g1, g2, g3, f3, f4, w3, w4, g4, g5, g6, et6, hgt]
   ·refine ⟨i4, h4, txt (letterT 71 [helloT (1 + m3) (1 + m4) (.atom 5001) (.pub (.atom 5000)), .atom 0]), qab trA ?_, qct (d6.ok y6.ok) (qbM 71 (qdr w.a (1 + m3) (1 + m4) 5001 5000) (qaJ w.a 0)) (by omega)⟩
    show o165.go _ _ _ = _
    simp only [Wd.vs, Wd.rs, o165, go_more, TT, Nat.reduceEqDiff, ↓reduceIte, TN, Nat.reduceAdd, Int.reduceLT, Int.reduceLE, Int.reduceToNat, Int.reduceToNat, e0, f1, f2, encI_len, r1, r1', Int.toNat_natCast, qaj w.known k hkl, e1, v0, v1, Int.reduceEq, sizeV_str, qam, gt_iff_lt, c0, g1, g2, g3, f3, f4, w3, w4, g4, g5, g6, et6, hgt]
  by_cases c1 : c = 1
  ·by_cases hgt : (4000 : Int) < ((txt T).length : Int)
   ·refine ⟨i2, h2, [], qab trA ?_, .inl rfl⟩
    rw [qaC]
    show o165.go _ _ _ = _
    simp only [Wd.vs, Wd.rs, o165, go_more, TT, Nat.reduceEqDiff, ↓reduceIte, TN, Nat.reduceAdd, Int.reduceLT, Int.reduceLE, Int.reduceToNat, Int.reduceToNat, e0, f1, f2, encI_len, r1, r1', Int.toNat_natCast, qaj w.known k hkl, e1, v0, v1, Int.reduceEq, sizeV_str, qam, gt_iff_lt, c0, c1, et, hgt]
   ·refine ⟨i2, h2, txt T, qab trA ?_, qct (dT.ok ha) (.known dT) (by omega)⟩
    show o165.go _ _ _ = _
    simp only [Wd.vs, Wd.rs, o165, go_more, TT, Nat.reduceEqDiff, ↓reduceIte, TN, Nat.reduceAdd, Int.reduceLT, Int.reduceLE, Int.reduceToNat, Int.reduceToNat, e0, f1, f2, encI_len, r1, r1', Int.toNat_natCast, qaj w.known k hkl, e1, v0, v1, Int.reduceEq, sizeV_str, qam, gt_iff_lt, c0, c1, et, hgt]
  by_cases c2 : c = 2
  ·by_cases hgt : (4000 : Int) < ((txt T).length : Int)
   ·refine ⟨i2, h2, [], qab trA ?_, .inl rfl⟩
    rw [qaC]
    show o165.go _ _ _ = _
    simp only [Wd.vs, Wd.rs, o165, go_more, TT, Nat.reduceEqDiff, ↓reduceIte, TN, Nat.reduceAdd, Int.reduceLT, Int.reduceLE, Int.reduceToNat, Int.reduceToNat, e0, f1, f2, encI_len, r1, r1', Int.toNat_natCast, qaj w.known k hkl, e1, v0, v1, Int.reduceEq, sizeV_str, qam, gt_iff_lt, c0, c1, c2, et, hgt]
   ·refine ⟨i2, h2, txt T, qab trA ?_, qct (dT.ok ha) (.known dT) (by omega)⟩
    show o165.go _ _ _ = _
    simp only [Wd.vs, Wd.rs, o165, go_more, TT, Nat.reduceEqDiff, ↓reduceIte, TN, Nat.reduceAdd, Int.reduceLT, Int.reduceLE, Int.reduceToNat, Int.reduceToNat, e0, f1, f2, encI_len, r1, r1', Int.toNat_natCast, qaj w.known k hkl, e1, v0, v1, Int.reduceEq, sizeV_str, qam, gt_iff_lt, c0, c1, c2, et, hgt]
  by_cases hgt : (4000 : Int) < ((txt T).length : Int)
  ·refine ⟨i2, h2, [], qab trA ?_, .inl rfl⟩
   rw [qaC]
   show o165.go _ _ _ = _
   simp only [Wd.vs, Wd.rs, o165, go_more, TT, Nat.reduceEqDiff, ↓reduceIte, TN, Nat.reduceAdd, Int.reduceLT, Int.reduceLE, Int.reduceToNat, Int.reduceToNat, e0, f1, f2, encI_len, r1, r1', Int.toNat_natCast, qaj w.known k hkl, e1, v0, v1, Int.reduceEq, sizeV_str, qam, gt_iff_lt, c0, c1, c2, et, hgt]
  ·refine ⟨i2, h2, txt T, qab trA ?_, qct (dT.ok ha) (.known dT) (by omega)⟩
   show o165.go _ _ _ = _
   simp only [Wd.vs, Wd.rs, o165, go_more, TT, Nat.reduceEqDiff, ↓reduceIte, TN, Nat.reduceAdd, Int.reduceLT, Int.reduceLE, Int.reduceToNat, Int.reduceToNat, e0, f1, f2, encI_len, r1, r1', Int.toNat_natCast, qaj w.known k hkl, e1, v0, v1, Int.reduceEq, sizeV_str, qam, gt_iff_lt, c0, c1, c2, et, hgt]
 ·by_cases c0 : c = 0
  ·by_cases n72 : n' = 72
   ·obtain ⟨a1, k1, g1, y1, d1⟩ := qap (n := 5001) ha (by omega) (by omega) (by omega)
    have l1 := y1.len
    obtain ⟨a2, k2, g2, y2, d2⟩ := qap (n := 5000) y1.ok (by omega) (by omega) (by omega)
    have l2 := y2.len
    obtain ⟨a3, k3, g3, y3, d3⟩ := qbp (c := 6) (y := 0) y2.ok (by omega) d2 (by omega) (by omega)
    have l3 := y3.len
    obtain ⟨i3, h3, m3, f3, r3, r3'⟩ := qaI hb i2 h2 (n := 2) (by omega)
    obtain ⟨i4, h4, m4, f4, r4, r4'⟩ := qaI hb i3 h3 (n := 3) (by omega)
    have w3 : wr (1 + m3) = 1 + m3 := qag (by omega) (by omega)
    have w4 : wr (1 + m4) = 1 + m4 := qag (by omega) (by omega)
    obtain ⟨a4, k4, g4, y4, d4⟩ := qeZ (m := 1 + m3) (n := 1 + m4) y3.ok (d1.mono (y2.pre.trans y3.pre)) d3 (by omega) (by omega) (by omega) (by omega) (by omega)
    have l4 := y4.len
    obtain ⟨a5, k5, g5, y5, d5⟩ := qap (n := 0) y4.ok (by omega) (by omega) (by omega)
    have l5 := y5.len
    obtain ⟨a6, k6, g6, y6, d6⟩ := qbb (n := 71) y5.ok (d4.mono y5.pre) (d1'.mono (y1.pre.trans (y2.pre.trans (y3.pre.trans (y4.pre.trans y5.pre))))) (by omega) (by omega) (by omega)
    have et6 := qbe y6.ok d6
    by_cases hgt : (4000 : Int) < ((txt (letterT 71 [helloT (1 + m3) (1 + m4) (.atom 5001) (.pub (.atom 5000)), u])).length : Int)
    ·refine ⟨i4, h4, [], qab trA ?_, .inl rfl⟩
     rw [qaC]
     show o165.go _ _ _ = _
     simp only [Wd.vs, Wd.rs, o165, go_more, TT, Nat.reduceEqDiff, ↓reduceIte, TN, Nat.reduceAdd, Int.reduceLT, Int.reduceLE, Int.reduceToNat, Int.reduceToNat, e0, f1, f2, encI_len, r1, r1', Int.toNat_natCast, qaj w.known k hkl, e1, v0, v1, Int.reduceEq, sizeV_str, qam, gt_iff_lt, c0, n72, g1, g2, g3, f3, f4, w3, w4, g4, g5, g6, et6, hgt]
    ·refine ⟨i4, h4, txt (letterT 71 [helloT (1 + m3) (1 + m4) (.atom 5001) (.pub (.atom 5000)), u]), qab trA ?_, qct (d6.ok y6.ok) (qbM 71 (qdr w.a (1 + m3) (1 + m4) 5001 5000) (.known d1')) (by omega)⟩
     show o165.go _ _ _ = _
     simp only [Wd.vs, Wd.rs, o165, go_more, TT, Nat.reduceEqDiff, ↓reduceIte, TN, Nat.reduceAdd, Int.reduceLT, Int.reduceLE, Int.reduceToNat, Int.reduceToNat, e0, f1, f2, encI_len, r1, r1', Int.toNat_natCast, qaj w.known k hkl, e1, v0, v1, Int.reduceEq, sizeV_str, qam, gt_iff_lt, c0, n72, g1, g2, g3, f3, f4, w3, w4, g4, g5, g6, et6, hgt]
   ·obtain ⟨a1, k1, g1, y1, d1⟩ := qap (n := 5001) ha (by omega) (by omega) (by omega)
    have l1 := y1.len
    obtain ⟨a2, k2, g2, y2, d2⟩ := qap (n := 5000) y1.ok (by omega) (by omega) (by omega)
    have l2 := y2.len
    obtain ⟨a3, k3, g3, y3, d3⟩ := qbp (c := 6) (y := 0) y2.ok (by omega) d2 (by omega) (by omega)
    have l3 := y3.len
    obtain ⟨i3, h3, m3, f3, r3, r3'⟩ := qaI hb i2 h2 (n := 2) (by omega)
    obtain ⟨i4, h4, m4, f4, r4, r4'⟩ := qaI hb i3 h3 (n := 3) (by omega)
    have w3 : wr (1 + m3) = 1 + m3 := qag (by omega) (by omega)
    have w4 : wr (1 + m4) = 1 + m4 := qag (by omega) (by omega)
    obtain ⟨a4, k4, g4, y4, d4⟩ := qeZ (m := 1 + m3) (n := 1 + m4) y3.ok (d1.mono (y2.pre.trans y3.pre)) d3 (by omega) (by omega) (by omega) (by omega) (by omega)
    have l4 := y4.len
    obtain ⟨a5, k5, g5, y5, d5⟩ := qap (n := 0) y4.ok (by omega) (by omega) (by omega)
    have l5 := y5.len
    obtain ⟨a6, k6, g6, y6, d6⟩ := qbb (n := 71) y5.ok (d4.mono y5.pre) d5 (by omega) (by omega) (by omega)
    have et6 := qbe y6.ok d6
    by_cases hgt : (4000 : Int) < ((txt (letterT 71 [helloT (1 + m3) (1 + m4) (.atom 5001) (.pub (.atom 5000)), .atom 0])).length : Int)
    ·refine ⟨i4, h4, [], qab trA ?_, .inl rfl⟩
     rw [qaC]
     show o165.go _ _ _ = _
     simp only [Wd.vs, Wd.rs, o165, go_more, TT, Nat.reduceEqDiff, ↓reduceIte, TN, Nat.reduceAdd, Int.reduceLT, Int.reduceLE, Int.reduceToNat, Int.reduceToNat, e0, f1, f2, encI_len, r1, r1', Int.toNat_natCast, qaj w.known k hkl, e1, v0, v1, Int.reduceEq, sizeV_str, qam, gt_iff_lt, c0, n72, g1, g2, g3, f3, f4, w3, w4, g4, g5, g6, et6, hgt]
    ·refine ⟨i4, h4, txt (letterT 71 [helloT (1 + m3) (1 + m4) (.atom 5001) (.pub (.atom 5000)), .atom 0]), qab trA ?_, qct (d6.ok y6.ok) (qbM 71 (qdr w.a (1 + m3) (1 + m4) 5001 5000) (qaJ w.a 0)) (by omega)⟩
     show o165.go _ _ _ = _
     simp only [Wd.vs, Wd.rs, o165, go_more, TT, Nat.reduceEqDiff, ↓reduceIte, TN, Nat.reduceAdd, Int.reduceLT, Int.reduceLE, Int.reduceToNat, Int.reduceToNat, e0, f1, f2, encI_len, r1, r1', Int.toNat_natCast, qaj w.known k hkl, e1, v0, v1, Int.reduceEq, sizeV_str, qam, gt_iff_lt, c0, n72, g1, g2, g3, f3, f4, w3, w4, g4, g5, g6, et6, hgt]
  have n73 : ¬ n' = 73 := by omega
  have n76 : ¬ n' = 76 := by omega
  by_cases c1 : c = 1
  ·by_cases hgt : (4000 : Int) < ((txt T).length : Int)
   ·refine ⟨i2, h2, [], qab trA ?_, .inl rfl⟩
    rw [qaC]
    show o165.go _ _ _ = _
    simp only [Wd.vs, Wd.rs, o165, go_more, TT, Nat.reduceEqDiff, ↓reduceIte, TN, Nat.reduceAdd, Int.reduceLT, Int.reduceLE, Int.reduceToNat, Int.reduceToNat, e0, f1, f2, encI_len, r1, r1', Int.toNat_natCast, qaj w.known k hkl, e1, v0, v1, Int.reduceEq, sizeV_str, qam, gt_iff_lt, c0, c1, n73, et, hgt]
   ·refine ⟨i2, h2, txt T, qab trA ?_, qct (dT.ok ha) (.known dT) (by omega)⟩
    show o165.go _ _ _ = _
    simp only [Wd.vs, Wd.rs, o165, go_more, TT, Nat.reduceEqDiff, ↓reduceIte, TN, Nat.reduceAdd, Int.reduceLT, Int.reduceLE, Int.reduceToNat, Int.reduceToNat, e0, f1, f2, encI_len, r1, r1', Int.toNat_natCast, qaj w.known k hkl, e1, v0, v1, Int.reduceEq, sizeV_str, qam, gt_iff_lt, c0, c1, n73, et, hgt]
  by_cases c2 : c = 2
  ·by_cases hgt : (4000 : Int) < ((txt T).length : Int)
   ·refine ⟨i2, h2, [], qab trA ?_, .inl rfl⟩
    rw [qaC]
    show o165.go _ _ _ = _
    simp only [Wd.vs, Wd.rs, o165, go_more, TT, Nat.reduceEqDiff, ↓reduceIte, TN, Nat.reduceAdd, Int.reduceLT, Int.reduceLE, Int.reduceToNat, Int.reduceToNat, e0, f1, f2, encI_len, r1, r1', Int.toNat_natCast, qaj w.known k hkl, e1, v0, v1, Int.reduceEq, sizeV_str, qam, gt_iff_lt, c0, c1, c2, n76, et, hgt]
   ·refine ⟨i2, h2, txt T, qab trA ?_, qct (dT.ok ha) (.known dT) (by omega)⟩
    show o165.go _ _ _ = _
    simp only [Wd.vs, Wd.rs, o165, go_more, TT, Nat.reduceEqDiff, ↓reduceIte, TN, Nat.reduceAdd, Int.reduceLT, Int.reduceLE, Int.reduceToNat, Int.reduceToNat, e0, f1, f2, encI_len, r1, r1', Int.toNat_natCast, qaj w.known k hkl, e1, v0, v1, Int.reduceEq, sizeV_str, qam, gt_iff_lt, c0, c1, c2, n76, et, hgt]
  by_cases hgt : (4000 : Int) < ((txt T).length : Int)
  ·refine ⟨i2, h2, [], qab trA ?_, .inl rfl⟩
   rw [qaC]
   show o165.go _ _ _ = _
   simp only [Wd.vs, Wd.rs, o165, go_more, TT, Nat.reduceEqDiff, ↓reduceIte, TN, Nat.reduceAdd, Int.reduceLT, Int.reduceLE, Int.reduceToNat, Int.reduceToNat, e0, f1, f2, encI_len, r1, r1', Int.toNat_natCast, qaj w.known k hkl, e1, v0, v1, Int.reduceEq, sizeV_str, qam, gt_iff_lt, c0, c1, c2, et, hgt]
  ·refine ⟨i2, h2, txt T, qab trA ?_, qct (dT.ok ha) (.known dT) (by omega)⟩
   show o165.go _ _ _ = _
   simp only [Wd.vs, Wd.rs, o165, go_more, TT, Nat.reduceEqDiff, ↓reduceIte, TN, Nat.reduceAdd, Int.reduceLT, Int.reduceLE, Int.reduceToNat, Int.reduceToNat, e0, f1, f2, encI_len, r1, r1', Int.toNat_natCast, qaj w.known k hkl, e1, v0, v1, Int.reduceEq, sizeV_str, qam, gt_iff_lt, c0, c1, c2, et, hgt]
 ·have n72 : ¬ n' = 72 := by omega
  by_cases c0 : c = 0
  ·obtain ⟨a1, k1, g1, y1, d1⟩ := qap (n := 5001) ha (by omega) (by omega) (by omega)
   have l1 := y1.len
   obtain ⟨a2, k2, g2, y2, d2⟩ := qap (n := 5000) y1.ok (by omega) (by omega) (by omega)
   have l2 := y2.len
   obtain ⟨a3, k3, g3, y3, d3⟩ := qbp (c := 6) (y := 0) y2.ok (by omega) d2 (by omega) (by omega)
   have l3 := y3.len
   obtain ⟨i3, h3, m3, f3, r3, r3'⟩ := qaI hb i2 h2 (n := 2) (by omega)
   obtain ⟨i4, h4, m4, f4, r4, r4'⟩ := qaI hb i3 h3 (n := 3) (by omega)
   have w3 : wr (1 + m3) = 1 + m3 := qag (by omega) (by omega)
   have w4 : wr (1 + m4) = 1 + m4 := qag (by omega) (by omega)
   obtain ⟨a4, k4, g4, y4, d4⟩ := qeZ (m := 1 + m3) (n := 1 + m4) y3.ok (d1.mono (y2.pre.trans y3.pre)) d3 (by omega) (by omega) (by omega) (by omega) (by omega)
   have l4 := y4.len
   obtain ⟨a5, k5, g5, y5, d5⟩ := qap (n := 0) y4.ok (by omega) (by omega) (by omega)
   have l5 := y5.len
   obtain ⟨a6, k6, g6, y6, d6⟩ := qbb (n := 71) y5.ok (d4.mono y5.pre) d5 (by omega) (by omega) (by omega)
   have et6 := qbe y6.ok d6
   by_cases hgt : (4000 : Int) < ((txt (letterT 71 [helloT (1 + m3) (1 + m4) (.atom 5001) (.pub (.atom 5000)), .atom 0])).length : Int)
   ·refine ⟨i4, h4, [], qab trA ?_, .inl rfl⟩
    rw [qaC]
    show o165.go _ _ _ = _
    simp only [Wd.vs, Wd.rs, o165, go_more, TT, Nat.reduceEqDiff, ↓reduceIte, TN, Nat.reduceAdd, Int.reduceLT, Int.reduceLE, Int.reduceToNat, Int.reduceToNat, e0, f1, f2, encI_len, r1, r1', Int.toNat_natCast, qaj w.known k hkl, e1, v0, v1, Int.reduceEq, sizeV_str, qam, gt_iff_lt, c0, n72, g1, g2, g3, f3, f4, w3, w4, g4, g5, g6, et6, hgt]
   ·refine ⟨i4, h4, txt (letterT 71 [helloT (1 + m3) (1 + m4) (.atom 5001) (.pub (.atom 5000)), .atom 0]), qab trA ?_, qct (d6.ok y6.ok) (qbM 71 (qdr w.a (1 + m3) (1 + m4) 5001 5000) (qaJ w.a 0)) (by omega)⟩
    show o165.go _ _ _ = _
    simp only [Wd.vs, Wd.rs, o165, go_more, TT, Nat.reduceEqDiff, ↓reduceIte, TN, Nat.reduceAdd, Int.reduceLT, Int.reduceLE, Int.reduceToNat, Int.reduceToNat, e0, f1, f2, encI_len, r1, r1', Int.toNat_natCast, qaj w.known k hkl, e1, v0, v1, Int.reduceEq, sizeV_str, qam, gt_iff_lt, c0, n72, g1, g2, g3, f3, f4, w3, w4, g4, g5, g6, et6, hgt]
  by_cases c1 : c = 1
  ·by_cases n73 : n' = 73
   ·obtain ⟨a1, k1, g1, y1, d1⟩ := qap (n := 5001) ha (by omega) (by omega) (by omega)
    have l1 := y1.len
    obtain ⟨a2, k2, g2, y2, d2⟩ := qap (n := 5002) y1.ok (by omega) (by omega) (by omega)
    have l2 := y2.len
    obtain ⟨a3, k3, g3, y3, d3⟩ := qbp (c := 6) (y := 0) y2.ok (by omega) d2 (by omega) (by omega)
    have l3 := y3.len
    obtain ⟨a4, k4, g4, y4, d4⟩ := f_server y3.ok (d1.mono (y2.pre.trans y3.pre)) d3 (by omega)
    have l4 := y4.len
    obtain ⟨a6, k6, g6, y6, d6⟩ := qbb (n := 73) y4.ok d4 (d2'.mono (y1.pre.trans (y2.pre.trans (y3.pre.trans y4.pre)))) (by omega) (by omega) (by omega)
    have et6 := qbe y6.ok d6
    by_cases hgt : (4000 : Int) < ((txt (letterT 73 [qfU (.atom 5001) (.pub (.atom 5002)), v])).length : Int)
    ·refine ⟨i2, h2, [], qab trA ?_, .inl rfl⟩
     rw [qaC]
     show o165.go _ _ _ = _
     simp only [Wd.vs, Wd.rs, o165, go_more, TT, Nat.reduceEqDiff, ↓reduceIte, TN, Nat.reduceAdd, Int.reduceLT, Int.reduceLE, Int.reduceToNat, Int.reduceToNat, e0, f1, f2, encI_len, r1, r1', Int.toNat_natCast, qaj w.known k hkl, e1, v0, v1, Int.reduceEq, sizeV_str, qam, gt_iff_lt, c0, c1, n73, g1, g2, g3, g4, g6, et6, hgt]
    ·refine ⟨i2, h2, txt (letterT 73 [qfU (.atom 5001) (.pub (.atom 5002)), v]), qab trA ?_, qct (d6.ok y6.ok) (qbM 73 (cost_server w.a 5001 5002) (.known d2')) (by omega)⟩
     show o165.go _ _ _ = _
     simp only [Wd.vs, Wd.rs, o165, go_more, TT, Nat.reduceEqDiff, ↓reduceIte, TN, Nat.reduceAdd, Int.reduceLT, Int.reduceLE, Int.reduceToNat, Int.reduceToNat, e0, f1, f2, encI_len, r1, r1', Int.toNat_natCast, qaj w.known k hkl, e1, v0, v1, Int.reduceEq, sizeV_str, qam, gt_iff_lt, c0, c1, n73, g1, g2, g3, g4, g6, et6, hgt]
   ·by_cases hgt : (4000 : Int) < ((txt T).length : Int)
    ·refine ⟨i2, h2, [], qab trA ?_, .inl rfl⟩
     rw [qaC]
     show o165.go _ _ _ = _
     simp only [Wd.vs, Wd.rs, o165, go_more, TT, Nat.reduceEqDiff, ↓reduceIte, TN, Nat.reduceAdd, Int.reduceLT, Int.reduceLE, Int.reduceToNat, Int.reduceToNat, e0, f1, f2, encI_len, r1, r1', Int.toNat_natCast, qaj w.known k hkl, e1, v0, v1, Int.reduceEq, sizeV_str, qam, gt_iff_lt, c0, c1, n73, et, hgt]
    ·refine ⟨i2, h2, txt T, qab trA ?_, qct (dT.ok ha) (.known dT) (by omega)⟩
     show o165.go _ _ _ = _
     simp only [Wd.vs, Wd.rs, o165, go_more, TT, Nat.reduceEqDiff, ↓reduceIte, TN, Nat.reduceAdd, Int.reduceLT, Int.reduceLE, Int.reduceToNat, Int.reduceToNat, e0, f1, f2, encI_len, r1, r1', Int.toNat_natCast, qaj w.known k hkl, e1, v0, v1, Int.reduceEq, sizeV_str, qam, gt_iff_lt, c0, c1, n73, et, hgt]
  by_cases c2 : c = 2
  ·by_cases n76 : n' = 76
   ·obtain ⟨i3, h3, m3, f3, r3, r3'⟩ := qaI hb i2 h2 (n := 3) (by omega)
    have w3 : wr (1 + m3) = 1 + m3 := qag (by omega) (by omega)
    obtain ⟨a1, k1, g1, y1, d1⟩ := qap (n := 1 + m3) ha (by omega) (by omega) (by omega)
    have l1 := y1.len
    obtain ⟨a6, k6, g6, y6, d6⟩ := qbb (n := 76) y1.ok d1 (d2'.mono y1.pre) (by omega) (by omega) (by omega)
    have et6 := qbe y6.ok d6
    by_cases hgt : (4000 : Int) < ((txt (letterT 76 [.atom (1 + m3), v])).length : Int)
    ·refine ⟨i3, h3, [], qab trA ?_, .inl rfl⟩
     rw [qaC]
     show o165.go _ _ _ = _
     simp only [Wd.vs, Wd.rs, o165, go_more, TT, Nat.reduceEqDiff, ↓reduceIte, TN, Nat.reduceAdd, Int.reduceLT, Int.reduceLE, Int.reduceToNat, Int.reduceToNat, e0, f1, f2, encI_len, r1, r1', Int.toNat_natCast, qaj w.known k hkl, e1, v0, v1, Int.reduceEq, sizeV_str, qam, gt_iff_lt, c0, c1, c2, n76, f3, w3, g1, g6, et6, hgt]
    ·refine ⟨i3, h3, txt (letterT 76 [.atom (1 + m3), v]), qab trA ?_, qct (d6.ok y6.ok) (qbM 76 (qaJ w.a (1 + m3)) (.known d2')) (by omega)⟩
     show o165.go _ _ _ = _
     simp only [Wd.vs, Wd.rs, o165, go_more, TT, Nat.reduceEqDiff, ↓reduceIte, TN, Nat.reduceAdd, Int.reduceLT, Int.reduceLE, Int.reduceToNat, Int.reduceToNat, e0, f1, f2, encI_len, r1, r1', Int.toNat_natCast, qaj w.known k hkl, e1, v0, v1, Int.reduceEq, sizeV_str, qam, gt_iff_lt, c0, c1, c2, n76, f3, w3, g1, g6, et6, hgt]
   ·by_cases hgt : (4000 : Int) < ((txt T).length : Int)
    ·refine ⟨i2, h2, [], qab trA ?_, .inl rfl⟩
     rw [qaC]
     show o165.go _ _ _ = _
     simp only [Wd.vs, Wd.rs, o165, go_more, TT, Nat.reduceEqDiff, ↓reduceIte, TN, Nat.reduceAdd, Int.reduceLT, Int.reduceLE, Int.reduceToNat, Int.reduceToNat, e0, f1, f2, encI_len, r1, r1', Int.toNat_natCast, qaj w.known k hkl, e1, v0, v1, Int.reduceEq, sizeV_str, qam, gt_iff_lt, c0, c1, c2, n76, et, hgt]
    ·refine ⟨i2, h2, txt T, qab trA ?_, qct (dT.ok ha) (.known dT) (by omega)⟩
     show o165.go _ _ _ = _
     simp only [Wd.vs, Wd.rs, o165, go_more, TT, Nat.reduceEqDiff, ↓reduceIte, TN, Nat.reduceAdd, Int.reduceLT, Int.reduceLE, Int.reduceToNat, Int.reduceToNat, e0, f1, f2, encI_len, r1, r1', Int.toNat_natCast, qaj w.known k hkl, e1, v0, v1, Int.reduceEq, sizeV_str, qam, gt_iff_lt, c0, c1, c2, n76, et, hgt]
  by_cases hgt : (4000 : Int) < ((txt T).length : Int)
  ·refine ⟨i2, h2, [], qab trA ?_, .inl rfl⟩
   rw [qaC]
   show o165.go _ _ _ = _
   simp only [Wd.vs, Wd.rs, o165, go_more, TT, Nat.reduceEqDiff, ↓reduceIte, TN, Nat.reduceAdd, Int.reduceLT, Int.reduceLE, Int.reduceToNat, Int.reduceToNat, e0, f1, f2, encI_len, r1, r1', Int.toNat_natCast, qaj w.known k hkl, e1, v0, v1, Int.reduceEq, sizeV_str, qam, gt_iff_lt, c0, c1, c2, et, hgt]
  ·refine ⟨i2, h2, txt T, qab trA ?_, qct (dT.ok ha) (.known dT) (by omega)⟩
   show o165.go _ _ _ = _
   simp only [Wd.vs, Wd.rs, o165, go_more, TT, Nat.reduceEqDiff, ↓reduceIte, TN, Nat.reduceAdd, Int.reduceLT, Int.reduceLE, Int.reduceToNat, Int.reduceToNat, e0, f1, f2, encI_len, r1, r1', Int.toNat_natCast, qaj w.known k hkl, e1, v0, v1, Int.reduceEq, sizeV_str, qam, gt_iff_lt, c0, c1, c2, et, hgt]
def EvOk (w : Wd) (kind at_ num : Int) (t : List Nat) : Prop := 0 ≤ at_ ∧ 0 ≤ num ∧ ((kind = 9 ∧ TextOk w.a t) ∨ kind = 1 ∨ kind = 2 ∨ kind = 3 ∨ kind = 4 ∨ kind = 5 ∨ kind = 6 ∨ kind = 7 ∨ kind = 8 ∨ kind = 10)
section
variable {n : Nat} {w : Wd} (h : WdI n w) (hn : n ≤ 35)
include h hn
theorem do_any (hd : 10000 ≤ w.draw ∧ w.draw ≤ 800000) {kind at_ num : Int} {t : List Nat} (e : EvOk w kind at_ num t) : Done w kind at_ num (.string (qbY t)) := by
 obtain ⟨h0, h1, ⟨rfl, ht⟩ | rfl | hk | hk | hk | rfl | rfl | rfl | rfl | rfl⟩ := e
 ·exact do_forge h hn hd at_ num h0 h1 ht
 ·exact do_start h hn hd at_ num h0 _
 ·exact do_net h hn hd kind at_ num (.inl hk) h1 _
 ·exact do_net h hn hd kind at_ num (.inr (.inl hk)) h1 _
 ·exact do_net h hn hd kind at_ num (.inr (.inr hk)) h1 _
 ·exact do_tick h hn hd at_ num h0 h1 _
 ·exact do_send h hn hd at_ num h0 _
 ·exact do_turn h hn hd at_ num h0 _
 ·exact do_roam h hn hd at_ num h0 h1 _
 ·exact do_take h hn hd at_ num h0 _
theorem f_draw {b : Rw} (hb : Bys b) (hk : 1 ≤ w.known.length) (i : Nat) (h0 num : Int) (hnum : 0 ≤ num) :
  ∃ (i' : Nat) (h' kind at_ num' : Int) (t : List Nat), fin trA 1238 ([I i, I h0] ++ w.vs ++ [I num]) (b :: w.rs) = some (0, [I i', I h', I kind, I at_, I num', .string (qbY t)], []) ∧ EvOk w kind at_ num' t := by
 obtain ⟨i1, h1, at1, f1, r1, r1'⟩ := qaI hb i h0 (n := 2) (by omega)
 obtain ⟨i2, h2, k, f2, r2, r2'⟩ := qaI hb i1 h1 (n := 28) (by omega)
 have done : ∀ (i' : Nat) (h' kind at_ num' : Int) (t : List Nat), fin trA 1238 ([I i, I h0] ++ w.vs ++ [I num]) (b :: w.rs) = some (0, [I i', I h', I kind, I at_, I num', .string (qbY t)], []) → EvOk w kind at_ num' t → ∃ (i' : Nat) (h' kind at_ num' : Int) (t : List Nat), fin trA 1238 ([I i, I h0] ++ w.vs ++ [I num]) (b :: w.rs) = some (0, [I i', I h', I kind, I at_, I num', .string (qbY t)], []) ∧ EvOk w kind at_ num' t := fun i' h' kind at_ num' t e o => ⟨i', h', kind, at_, num', t, e, o⟩
 by_cases c1 : k < 3
 ·refine done i2 h2 1 at1 0 [] (qab trA ?_) ⟨r1, by omega, by omega⟩
  rw [qaC]
  show o103.go _ _ _ = _
  simp only [Wd.vs, o103, TT, Nat.reduceEqDiff, ↓reduceIte, f1, f2, c1]
 by_cases c2 : k < 15
 ·obtain ⟨i3, h3, x3, f3, r3, r3'⟩ := qaI hb i2 h2 (n := 3) (by omega)
  refine done i3 h3 2 0 x3 [] (qab trA ?_) ⟨by omega, r3, by omega⟩
  rw [qaC]
  show o103.go _ _ _ = _
  simp only [Wd.vs, o103, TT, Nat.reduceEqDiff, ↓reduceIte, f1, f2, c1, c2, f3]
 by_cases c3 : k = 15
 ·obtain ⟨i3, h3, x3, f3, m3⟩ := f_pickInt hb i2 h2 (l := [3, 4]) (by simp)
  obtain ⟨i4, h4, x4, f4, r4, r4'⟩ := qaI hb i3 h3 (n := 3) (by omega)
  have f3 : fin trA 1970 [I i2, I h2] [b, [[.int .i64 3], [.int .i64 4]]] = _ := f3
  have hx : x3 = 3 ∨ x3 = 4 := by simpa using m3
  refine done i4 h4 x3 0 x4 [] (qab trA ?_) ⟨by omega, r4, by omega⟩
  rw [qaC]
  show o103.go _ _ _ = _
  simp only [Wd.vs, o103, TT, Nat.reduceEqDiff, ↓reduceIte, f1, f2, c1, c2, c3, f3, f4, Int.reduceLT]
 by_cases c4 : k = 16
 ·refine done i2 h2 5 0 num [] (qab trA ?_) ⟨by omega, hnum, by omega⟩
  rw [qaC]
  show o103.go _ _ _ = _
  simp only [Wd.vs, o103, TT, Nat.reduceEqDiff, ↓reduceIte, f1, f2, c1, c2, c3, c4, Int.reduceLT, Int.reduceEq]
 by_cases c5 : k < 21
 ·obtain ⟨i3, h3, x3, f3, m3⟩ := f_pickInt hb i2 h2 (l := [10, 12, 24, 26, 30, 11, 38]) (by simp)
  have f3 : fin trA 1970 [I i2, I h2] [b, [[.int .i64 10], [.int .i64 12], [.int .i64 24], [.int .i64 26], [.int .i64 30], [.int .i64 11], [.int .i64 38]]] = _ := f3
  have hx : 0 ≤ x3 := by
   simp at m3
   omega
  refine done i3 h3 6 at1 x3 [] (qab trA ?_) ⟨r1, hx, by omega⟩
  rw [qaC]
  show o103.go _ _ _ = _
  simp only [Wd.vs, o103, TT, Nat.reduceEqDiff, ↓reduceIte, f1, f2, c1, c2, c3, c4, c5, f3]
 by_cases c6 : k = 21
 ·refine done i2 h2 7 at1 num [] (qab trA ?_) ⟨r1, hnum, by omega⟩
  rw [qaC]
  show o103.go _ _ _ = _
  simp only [Wd.vs, o103, TT, Nat.reduceEqDiff, ↓reduceIte, f1, f2, c1, c2, c3, c4, c5, c6, Int.reduceLT, Int.reduceEq]
 by_cases c7 : k = 22
 ·refine done i2 h2 8 at1 num [] (qab trA ?_) ⟨r1, hnum, by omega⟩
  rw [qaC]
  show o103.go _ _ _ = _
  simp only [Wd.vs, o103, TT, Nat.reduceEqDiff, ↓reduceIte, f1, f2, c1, c2, c3, c4, c5, c6, c7, Int.reduceLT, Int.reduceEq]
 by_cases c8 : k = 23 ∧ num.tmod 3 = 0
 ·refine done i2 h2 10 at1 num [] (qab trA ?_) ⟨r1, hnum, by omega⟩
  rw [qaC]
  show o103.go _ _ _ = _
  simp only [Wd.vs, o103, TT, Nat.reduceEqDiff, ↓reduceIte, f1, f2, c1, c2, c3, c4, c5, c6, c7, c8.1, c8.2, Int.reduceLT, Int.reduceEq]
 ·obtain ⟨i3, h3, x3, f3, r3, r3'⟩ := qaI hb i2 h2 (n := 4) (by omega)
  obtain ⟨i4, h4, x4, f4, r4, r4'⟩ := qaI hb i3 h3 (n := 6) (by omega)
  obtain ⟨i5, h5, t, f5, ht⟩ := f_forged hb h hn hk i4 h4
  simp only [Wd.vs, Wd.rs, List.cons_append, List.nil_append] at f5
  refine done i5 h5 9 x3 x4 t (qab trA ?_) ⟨r3, r4, .inl ⟨rfl, ht⟩⟩
  show o103.go _ _ _ = _
  by_cases c9 : k = 23
  ·have c10 : ¬ num.tmod 3 = 0 := fun q => c8 ⟨c9, q⟩
   simp only [Wd.vs, Wd.rs, o103, TT, Nat.reduceEqDiff, ↓reduceIte, f1, f2, c1, c2, c3, c4, c5, c6, c7, c9, c10, f3, f4, f5, Int.reduceLT, Int.reduceEq]
  ·simp only [Wd.vs, Wd.rs, o103, TT, Nat.reduceEqDiff, ↓reduceIte, f1, f2, c1, c2, c3, c4, c5, c6, c7, c9, f3, f4, f5]
end
def clNew (name mode : Int) : Cl := ⟨name, 9, mode, 0, 0, false, 0, 0, 0, 0, 0, Ch.zero, 0, 0, 0⟩
def clG0 : ClG := ⟨.atom 0, .atom 0, .atom 0, .atom 0, .atom 0, fun _ => False, fun _ => False⟩
theorem f_clNew (name mode : Int) : fin trA 986 [I name, I 9, I mode] [] = some (0, (clNew name mode).v, []) := by
 refine qab trA ?_
 show o82.go _ _ _ = _
 simp only [o82, TT, Nat.reduceEqDiff, ↓reduceIte, Cl.v, clNew, Ch.zero]
 rfl
theorem f_gnew (ws : List Way) (hw : ws.length ≤ 8) : fin trA 974 [I 9] [qaK ws] = some (0, [I 9, I 1, I 0], [[], [], qaK ws, []]) := by
 have g : (ws.length : Int) ≤ 100000000 := by omega
 refine qab trA ?_
 show o81.go _ _ _ = _
 simp only [o81, TT, Nat.reduceEqDiff, ↓reduceIte, qaZ, g]
theorem f_wn0 (mode : Int) (ws : List Way) : fin trA 266 [I mode, I 0, I 0, I 0, I 0, I 0, I 9, I 1, I 0, I 0, I 10000, I 0] [[], [], [], [], [], [], [], [], [], [], [], [], [], [], [], [], [], [], [], [], qaK ws, [], [], [], [[I 3]], [], [], [], [], []] = some (0, [], [qbB [(clNew 1 mode, clG0), (clNew 2 mode, clG0)], qai [1, 2]]) := by
 have v1 : wr (0 + 1) = 1 := by rw [qag (by omega) (by omega)]; rfl
 have v2 : wr (1 + 1) = 2 := by rw [qag (by omega) (by omega)]; rfl
 have c1 := f_clNew 1 mode
 have c2 := f_clNew 2 mode
 simp only [Cl.v, clNew, Ch.zero, Int.cast_ofNat_Int] at c1 c2
 have e2 : fin trA 266 [I mode, I 0, I 0, I 0, I 0, I 0, I 9, I 1, I 0, I 0, I 10000, I 2] [[], [], [], [], [], [], [], [], [], [], [], [], [], [], [], [], qbB [(clNew 1 mode, clG0), (clNew 2 mode, clG0)], qai [1, 2], [], [], qaK ws, [], [], [], [[I 3]], [], [], [], [], []] = some (0, [], [qbB [(clNew 1 mode, clG0), (clNew 2 mode, clG0)], qai [1, 2]]) := by
  refine qab trA ?_
  show o22_0.go _ _ _ = _
  simp only [o22_0, TT, Nat.reduceEqDiff, ↓reduceIte, Int.lt_irrefl]
 simp only [qbB, qai, List.map_cons, List.map_nil, Cl.v, clNew, Ch.zero, Int.cast_ofNat_Int] at e2 ⊢
 have e1 : fin trA 266 [I mode, I 0, I 0, I 0, I 0, I 0, I 9, I 1, I 0, I 0, I 10000, I 1] [[], [], [], [], [], [], [], [], [], [], [], [], [], [], [], [], qbB [(clNew 1 mode, clG0)], qai [1], [], [], qaK ws, [], [], [], [[I 3]], [], [], [], [], []] = some (0, [], [qbB [(clNew 1 mode, clG0), (clNew 2 mode, clG0)], qai [1, 2]]) := by
  refine qab trA ?_
  show o22_0.go _ _ _ = _
  simp only [o22_0, TT, Nat.reduceEqDiff, ↓reduceIte, qbB, qai, Cl.v, clNew, Ch.zero, v2, c2, Int.reduceLT, List.length_cons, List.length_nil, Nat.zero_add, Nat.reduceAdd, Int.cast_ofNat_Int, Int.reduceLE, e2]
 simp only [qbB, qai, List.map_cons, List.map_nil, Cl.v, clNew, Ch.zero, Int.cast_ofNat_Int] at e1
 refine qab trA ?_
 show o22_0.go _ _ _ = _
 simp only [o22_0, TT, Nat.reduceEqDiff, ↓reduceIte, v1, c1, Int.reduceLT, List.length_cons, List.length_nil, Nat.zero_add, Nat.reduceAdd, Int.cast_ofNat_Int, Int.reduceLE, e1]
theorem f_wn2 (cs ad ws : Rw) : ∀ (d i : Nat) (a : Ar) (known : List Int), i + d = 4 → AOk a → a.length ≤ 10 * i → known.length = i → (∀ k ∈ known, ∃ T, Den a k T) →
  ∃ a' known', fin trA 267 [I 0, I 0, I 0, I 0, I 0, I 9, I 1, I 0, I 0, I 10000, I i] [[], [], [], [], [], [], [], [], [], [], [], [], [], [], [], qae a, cs, ad, [], [], ws, [], [], qai known, [[I 3]], [], [], [], [], [], qai [1, 2, 3, 9]] = some (0, [], [qae a', qai known']) ∧ AOk a' ∧ a'.length ≤ 40 ∧ known'.length = 4 ∧ ∀ k ∈ known', ∃ T, Den a' k T
 | 0, i, a, known, hi, ha, hl, hk, hd => by
  refine ⟨a, known, qab trA ?_, ha, by omega, by omega, hd⟩
  show o22_2.go _ _ _ = _
  have g : ¬ (i : Int) < (([1, 2, 3, 9] : List Int).length : Int) := by simp; omega
  simp only [o22_2, TT, Nat.reduceEqDiff, ↓reduceIte, encI_len, g]
 | d + 1, i, a, known, hi, ha, hl, hk, hd => by
  have hlt : i < ([1, 2, 3, 9] : List Int).length := by simp; omega
  have g : (i : Int) < (([1, 2, 3, 9] : List Int).length : Int) := by omega
  have g0 : (0 : Int) ≤ (i : Int) := by omega
  have w := qaE (i := i) (n := 100) (by omega) (by omega)
  have hn : 0 ≤ ([1, 2, 3, 9] : List Int)[i] ∧ ([1, 2, 3, 9] : List Int)[i] ≤ 9 := by
   have hall : ∀ x ∈ ([1, 2, 3, 9] : List Int), 0 ≤ x ∧ x ≤ 9 := by
    intro x hx
    have hx : x = 1 ∨ x = 2 ∨ x = 3 ∨ x = 9 := by simpa using hx
    omega
   exact hall _ (List.getElem_mem hlt)
  obtain ⟨a1, k, e1, x, dk⟩ := f_cert ha hn.1 hn.2 (by omega)
  have l1 := x.len
  obtain ⟨a', known', e, r⟩ := f_wn2 cs ad ws d (i + 1) a1 (known ++ [k]) (by omega) x.ok (by omega) (by simp; omega) (fun y hy => by
   rcases List.mem_append.1 hy with hy | hy
   ·obtain ⟨T, dT⟩ := hd y hy; exact ⟨T, dT.mono x.pre⟩
   ·have : y = k := List.mem_singleton.1 hy
    rw [this]; exact ⟨_, dk⟩)
  have q : qai known ++ [[Value.int .i64 k]] = qai (known ++ [k]) := by simp [qai]
  have g2 : ((known ++ [k]).length : Int) ≤ 100000000 := by simp; omega
  refine ⟨a', known', qab trA ?_, r⟩
  show o22_2.go _ _ _ = _
  simp only [o22_2, TT, Nat.reduceEqDiff, ↓reduceIte, encI_len, g, g0, Int.toNat_natCast, qaj ([1, 2, 3, 9] : List Int) i hlt, e1, q, g2, w, e]
theorem f_wn4 (cs ad ws : Rw) : ∀ (d i : Nat) (a : Ar) (known : List Int), i + d = 4 → AOk a → a.length ≤ 42 + i → known.length = 6 + i → (∀ k ∈ known, ∃ T, Den a k T) →
  ∃ a' known', fin trA 268 [I 0, I 0, I 0, I 0, I 0, I 9, I 1, I 0, I 0, I 10000, I i] [[], [], [], [], [], [], [], [], [], [], [], [], [], [], [], qae a, cs, ad, [], [], ws, [], [], qai known, [[I 3]], [], [], [], [], []] = some (0, [], [qae a', qai known']) ∧ AOk a' ∧ a'.length ≤ 46 ∧ known'.length = 10 ∧ ∀ k ∈ known', ∃ T, Den a' k T
 | 0, i, a, known, hi, ha, hl, hk, hd => by
  refine ⟨a, known, qab trA ?_, ha, by omega, by omega, hd⟩
  show o22_4.go _ _ _ = _
  have g : ¬ (i : Int) < 4 := by omega
  simp only [o22_4, TT, Nat.reduceEqDiff, ↓reduceIte, g]
 | d + 1, i, a, known, hi, ha, hl, hk, hd => by
  have g : (i : Int) < 4 := by omega
  have w := qaE (i := i) (n := 100) (by omega) (by omega)
  have w2 : wr (5000 + (i : Int)) = 5000 + (i : Int) := qag (by omega) (by omega)
  obtain ⟨a1, k, e1, x, dk⟩ := qap (n := 5000 + (i : Int)) ha (by omega) (by omega) (by omega)
  have l1 := x.len
  obtain ⟨a', known', e, r⟩ := f_wn4 cs ad ws d (i + 1) a1 (known ++ [k]) (by omega) x.ok (by omega) (by simp; omega) (fun y hy => by
   rcases List.mem_append.1 hy with hy | hy
   ·obtain ⟨T, dT⟩ := hd y hy; exact ⟨T, dT.mono x.pre⟩
   ·have : y = k := List.mem_singleton.1 hy
    rw [this]; exact ⟨_, dk⟩)
  have q : qai known ++ [[Value.int .i64 k]] = qai (known ++ [k]) := by simp [qai]
  have g2 : ((known ++ [k]).length : Int) ≤ 100000000 := by simp; omega
  refine ⟨a', known', qab trA ?_, r⟩
  show o22_4.go _ _ _ = _
  simp only [o22_4, TT, Nat.reduceEqDiff, ↓reduceIte, g, w2, e1, q, encI_len, g2, w, e]
theorem aok_nil : AOk [] := ⟨fun i n h => by simp at h, fun i j n h => by simp at h, by simp⟩
theorem f_worldNew {mode : Int} (hm : mode = 1 ∨ mode = 2) {ws : List Way} (hw : ws.length ≤ 5) : ∃ w, fin trA 269 [I mode] [qaK ws] = some (0, w.vs, w.rs) ∧ WdI 0 w ∧ w.draw = 10000 ∧ w.g.w = ws ∧ w.codes = [] ∧ 1 ≤ w.known.length := by
 have e0 := f_gnew ws (by omega)
 have e1 := f_wn0 mode ws
 obtain ⟨a1, kn1, e2, ha1, hl1, hk1, hd1⟩ := f_wn2 (qbB [(clNew 1 mode, clG0), (clNew 2 mode, clG0)]) (qai [1, 2]) (qaK ws) 4 0 [] [] (by omega) aok_nil (by simp) rfl (fun k hk => by cases hk)
 rw [show ((0 : Nat) : Int) = 0 from rfl] at e2
 have e2 : fin trA 267 [I 0, I 0, I 0, I 0, I 0, I 9, I 1, I 0, I 0, I 10000, I 0] [[], [], [], [], [], [], [], [], [], [], [], [], [], [], [], [], qbB [(clNew 1 mode, clG0), (clNew 2 mode, clG0)], qai [1, 2], [], [], qaK ws, [], [], [], [[I 3]], [], [], [], [], [], [[I 1], [I 2], [I 3], [I 9]]] = some (0, [], [qae a1, qai kn1]) := e2
 obtain ⟨a2, x, e3, x2, d2⟩ := f_long ha1 (show (0 : Int) ≤ 3 by omega) (by omega) (by omega)
 have l2 := x2.len
 obtain ⟨a3, y, e4, x3, d3⟩ := f_psk x2.ok (show (0 : Int) ≤ 3 by omega) (by omega) (show (0 : Int) ≤ 9 by omega) (by omega) (by omega)
 have l3 := x3.len
 obtain ⟨a4, kn4, e5, ha4, hl4, hk4, hd4⟩ := f_wn4 (qbB [(clNew 1 mode, clG0), (clNew 2 mode, clG0)]) (qai [1, 2]) (qaK ws) 4 0 a3 (kn1 ++ [x] ++ [y]) (by omega) x3.ok (by omega) (by simp; omega) (fun k hk => by
  rcases List.mem_append.1 hk with hk | hk
  ·rcases List.mem_append.1 hk with hk | hk
   ·obtain ⟨T, dT⟩ := hd1 k hk; exact ⟨T, dT.mono (x2.pre.trans x3.pre)⟩
   ·have : k = x := List.mem_singleton.1 hk
    rw [this]; exact ⟨_, d2.mono x3.pre⟩
  ·have : k = y := List.mem_singleton.1 hk
   rw [this]; exact ⟨_, d3⟩)
 rw [show ((0 : Nat) : Int) = 0 from rfl] at e5
 have q1 : qai kn1 ++ [[Value.int .i64 x]] = qai (kn1 ++ [x]) := by simp [qai]
 have q2 : qai (kn1 ++ [x]) ++ [[Value.int .i64 y]] = qai (kn1 ++ [x] ++ [y]) := by simp [qai]
 have g1 : ((kn1 ++ [x]).length : Int) ≤ 100000000 := by simp; omega
 have g2 : ((kn1 ++ [x] ++ [y]).length : Int) ≤ 100000000 := by simp; omega
 refine ⟨⟨a4, ⟨9, 1, 0, [], [], ws, []⟩, 0, 10000, [(clNew 1 mode, clG0), (clNew 2 mode, clG0)], [1, 2], [], kn4, [3], [], [], [], [], []⟩, qab trA ?_, ?_, rfl, rfl, rfl, by show 1 ≤ kn4.length; omega⟩
 ·show o22.go _ _ _ = _
  simp only [o22, TT, Nat.reduceEqDiff, ↓reduceIte, e0, e1, e2, e3, e4, q1, q2, encI_len, g1, g2, e5]
  rfl
 ·have hcl : ∀ name, 0 ≤ name ∧ name ≤ 9 → ClD a4 (clNew name mode) clG0 := fun name hn => ⟨hn, by show (0 : Int) ≤ 9 ∧ (9 : Int) ≤ 9; omega, hm, .inl rfl, by show (0 : Int) ≤ 0 ∧ (0 : Int) ≤ 900000; omega, (fun h => by cases h), (fun h => by rcases h with h | h <;> cases h), (fun h => by rcases h with h | h <;> cases h), (fun h => by cases h)⟩
  exact {
   ok := ha4
   few := by show a4.length ≤ _; omega
   gate := {
    name := by show (0 : Int) ≤ 9 ∧ (9 : Int) ≤ 9; omega
    next := by show (1 : Int) ≤ 1 ∧ (1 : Int) ≤ 9998; omega
    few := by show ([] : List Se).length ≤ 3; simp
    sess := fun s hs => by cases hs
    cids := List.Pairwise.nil
    below := fun s hs => by cases hs
    pool := ⟨(fun e he => by cases he), List.Pairwise.nil, List.Pairwise.nil, by show ([] : List Le).length ≤ 3; simp⟩
    opened := fun e he => by cases he
    leased := fun s hs => by cases hs
    ways := by show ws.length ≤ 8; omega
    outs := by show ([] : List Ou).length ≤ 50; simp }
   gname := rfl
   next := by show (1 : Int) ≤ 1 + ((0 : Nat) : Int); omega
   gseq := fun s hs => by cases hs
   gaddr := fun s hs => by cases hs
   now := by show (0 : Int) ≤ 0 ∧ (0 : Int) ≤ 4 * ((0 : Nat) : Int); omega
   two := rfl
   cl := fun c hc => by
    rcases List.mem_cons.1 hc with rfl | hc
    ·exact hcl 1 (by omega)
    ·have : c = _ := List.mem_singleton.1 hc
     rw [this]; exact hcl 2 (by omega)
   cseq := fun c hc => by
    rcases List.mem_cons.1 hc with rfl | hc
    ·exact Nat.le_refl 0
    ·have : c = _ := List.mem_singleton.1 hc
     rw [this]; exact Nat.le_refl 0
   adl := rfl
   ad := fun x hx => by
    have hx : x = 1 ∨ x = 2 := by simpa using hx
    omega
   netl := by show ([] : List Mail_).length ≤ 12; simp
   net := fun m hm => by cases hm
   knl := by show kn4.length ≤ _; omega
   kn := hd4
   taken := by show ([3] : List Int).length ≤ 1 + 0; simp
   begun := Nat.le_refl 0
   dn := Nat.le_refl 0
   sent := Nat.le_refl 0
   got := Nat.le_refl 0 }
theorem say_known (w : Wd) (m : Mail_) : w.known.length ≤ (w.say m).known.length := by
 unfold Wd.say
 split
 ·exact Nat.le_refl _
 ·show _ ≤ (w.known ++ [_]).length
  simp
theorem qeM {k : List Int} (w : Wd) (m : Mail_) (h : w.known = k) : k.length ≤ (w.say m).known.length := by rw [← h]; exact say_known w m
theorem CarryR.known {w w' : Wd} {src to : Int} {T : Tm'} {code : Int} (k : CarryR w src to T w' code) : w.known.length ≤ w'.known.length := by
 cases k with
 | gate hto k =>
  show _ ≤ List.length _
  cases k.mails with
  | none => exact Nat.le_refl _
  | one => simp
 | client _ _ k ok =>
  show _ ≤ List.length _
  rcases k.say with ⟨_, _, rfl⟩ | ⟨_, _, rfl⟩
  ·exact Nat.le_refl _
  ·simp
 | none => exact Nat.le_refl _
theorem TickS.known {w w' : Wd} {i : Nat} (k : TickS w i w') : w.known.length ≤ w'.known.length := by
 cases k with
 | mk hi hj h => exact qeM _ _ rfl
theorem StR.keep {n : Nat} {w : Wd} (h : WdI n w) (hn : n ≤ 35) {w' : Wd} (k : StR w w') : w'.codes = w.codes ∧ w.known.length ≤ w'.known.length := by
 cases k with
 | no => exact ⟨rfl, Nat.le_refl _⟩
 | start => exact ⟨(qcC _ _).2.2.2.2.2.2.2.2.2.2.2, qeM _ _ rfl⟩
 | net k =>
  refine ⟨(k.ok h hn).2.2.2.2.2.2.2, ?_⟩
  cases k with
  | carry hk d hR => exact hR.known
  | none => exact Nat.le_refl _
  | full => exact Nat.le_refl _
  | twice => exact Nat.le_refl _
  | lose => exact Nat.le_refl _
 | tick _ t1 t2 =>
  exact ⟨t2.same.2.2.2.2.2.2.2.2.2.2.2.trans t1.same.2.2.2.2.2.2.2.2.2.2.2, Nat.le_trans t1.known t2.known⟩
 | send k =>
  refine ⟨rfl, ?_⟩
  cases k with
  | no => exact Nat.le_refl _
  | yes => show _ ≤ (w.known ++ [_]).length; simp
 | turn => exact ⟨rfl, Nat.le_refl _⟩
 | roam => exact ⟨rfl, Nat.le_refl _⟩
 | forge => exact ⟨(qcC _ _).2.2.2.2.2.2.2.2.2.2.2, qeM _ _ rfl⟩
 | take k =>
  refine ⟨rfl, ?_⟩
  cases k with
  | client => show _ ≤ (w.known ++ _).length; simp
  | gate => show _ ≤ (w.known ++ _).length; simp
structure WdS (n : Nat) (ws : List Way) (w : Wd) : Prop where
 inv : WdI n w
 draw : w.draw = 10000 + 10 * n
 ways : w.g.w = ws
 codes : w.codes = []
 some : 1 ≤ w.known.length
theorem do_next {n : Nat} {ws : List Way} {w : Wd} (h : WdS n ws w) (hn : n ≤ 35) {kind at_ num : Int} {t : List Nat} (e : EvOk w kind at_ num t) : ∃ w' code, fin trA 1071 (w.vs ++ [I kind, I at_, I num, .string (qbY t)]) w.rs = some (0, w'.vs ++ [I code], w'.o14) ∧ WdS (n + 1) ws w' := by
 have hd := h.draw
 obtain ⟨w', code, e1, k, q⟩ := do_any h.inv hn (by omega) e
 have h' : WdI n { w with draw := w.draw + 10 } := { h.inv with }
 obtain ⟨i1, i2⟩ := k.ok h' hn (by show 10000 ≤ w.draw + 10 ∧ w.draw + 10 ≤ 800010; omega)
 obtain ⟨j1, j2⟩ := k.keep h' hn
 exact ⟨w', code, e1, i1, by rw [q]; omega, i2.trans h.ways, j1.trans h.codes, Nat.le_trans h.some j2⟩
section
variable {b : Rw} (hb : Bys b) {ws : List Way}
include hb
theorem f_some0 : ∀ (d n i : Nat) (c1 : Nat) (c2 : Int) (w : Wd), i + d ≤ 1000 → n + d ≤ 35 → WdS n ws w → ∃ (c1' : Nat) (c2' : Int) (w' : Wd) (m : Nat), m ≤ 35 ∧ WdS m ws w' ∧
  fin trA 482 ([I c1, I c2, I ((i + d : Nat) : Int), I 0, I 0, I 0, I 0, I 0] ++ w.vs ++ [I i]) (b :: [] :: [] :: [] :: [] :: [] :: [] :: [] :: [] :: [] :: [] :: [] :: [] :: [] :: [] :: [] :: w.rs) = some (0, [I c1', I c2'] ++ w'.vs, w'.o14)
 | 0, n, i, c1, c2, w, hi, hn, h => by
  refine ⟨c1, c2, w, n, by omega, h, qab trA ?_⟩
  show o40_0.go _ _ _ = _
  have g : ¬ (i : Int) < ((i + 0 : Nat) : Int) := by omega
  simp only [Wd.vs, Wd.rs, Wd.o14, o40_0, TT, Nat.reduceEqDiff, ↓reduceIte, g]
 | d + 1, n, i, c1, c2, w, hi, hn, h => by
  have g : (i : Int) < ((i + (d + 1) : Nat) : Int) := by omega
  have w1 := qaE (i := i) (n := 1000) (by omega) (by omega)
  have hlen : i + (d + 1) = (i + 1) + d := by omega
  obtain ⟨e1, e2, x, fo⟩ := f_once hb c1 c2 2
  have hcod := h.codes
  cases x with
  | true =>
   obtain ⟨w', code, f1, h'⟩ := do_next h (by omega) (kind := 2) (at_ := 0) (num := 0) (t := []) ⟨by omega, by omega, by omega⟩
   obtain ⟨q1, q2, w2, m, hm, hS, f2⟩ := f_some0 d (n + 1) (i + 1) e1 e2 w' (by omega) (by omega) h'
   have hcod' := h'.codes
   refine ⟨q1, q2, w2, m, hm, hS, qab trA ?_⟩
   rw [qaC] at f1
   rw [← hlen] at f2
   simp only [Wd.vs, Wd.rs, Wd.o14, hcod, hcod', List.cons_append, List.nil_append] at f1 f2
   show o40_0.go _ _ _ = _
   simp only [Wd.vs, Wd.rs, Wd.o14, hcod, o40_0, TT, Nat.reduceEqDiff, ↓reduceIte, g, fo, f1, w1, f2]
  | false =>
   obtain ⟨e3, e4, num, fb, r1, r2⟩ := qaI hb e1 e2 (n := 30) (by omega)
   obtain ⟨e5, e6, kind, at_, num', t, fd, ev⟩ := f_draw h.inv (by omega) hb h.some e3 e4 num r1
   obtain ⟨w', code, f1, h'⟩ := do_next h (by omega) ev
   obtain ⟨q1, q2, w2, m, hm, hS, f2⟩ := f_some0 d (n + 1) (i + 1) e5 e6 w' (by omega) (by omega) h'
   have hcod' := h'.codes
   refine ⟨q1, q2, w2, m, hm, hS, qab trA ?_⟩
   rw [← hlen] at f2
   simp only [Wd.vs, Wd.rs, Wd.o14, hcod, hcod', List.cons_append, List.nil_append] at f1 f2 fd
   show o40_0.go _ _ _ = _
   simp only [Wd.vs, Wd.rs, Wd.o14, hcod, o40_0, TT, Nat.reduceEqDiff, ↓reduceIte, g, fo, fb, fd, f1, w1, f2]
end
theorem f_drawSome {b : Rw} (hb : Bys b) : ∃ (w : Wd) (m : Nat) (ws : List Way), m ≤ 35 ∧ ws.Sublist ways0 ∧ WdS m ws w ∧ fin trA 98 [] [b] = some (0, w.vs, w.rs) := by
 obtain ⟨h1, f1⟩ := f_new hb
 obtain ⟨i2, h2, x, f2, r1, r2⟩ := qaI hb 0 h1 (n := 14) (by omega)
 rw [show ((0 : Nat) : Int) = 0 from rfl] at f2
 have wx : wr (3 + x) = 3 + x := qag (by omega) (by omega)
 obtain ⟨d, hd⟩ : ∃ d : Nat, 3 + x = d := ⟨(3 + x).toNat, by omega⟩
 obtain ⟨i3, h3, mode, f3, hm⟩ := f_mode hb i2 h2
 obtain ⟨i4, h4, ws, hws, f4⟩ := f_routes hb i3 h3
 have hwl : ws.length ≤ 5 := by have := hws.length_le; simpa [ways0] using this
 obtain ⟨w0, f5, k0, kd, kw, kc, kk⟩ := f_worldNew hm hwl
 have s0 : WdS 0 ws w0 := ⟨k0, by rw [kd]; rfl, kw, kc, kk⟩
 obtain ⟨w1, code, f6, s1⟩ := do_next s0 (by omega) (kind := 1) (at_ := 0) (num := 0) (t := []) ⟨by omega, by omega, by omega⟩
 obtain ⟨q1, q2, w2, m, hmm, s2, f7⟩ := f_some0 hb d 1 0 i4 h4 w1 (by omega) (by omega) s1
 have c0 := s0.codes; have c1 := s1.codes; have c2 := s2.codes
 rw [qaC] at f6
 rw [show (0 + d : Nat) = d by omega, ← hd, show ((0 : Nat) : Int) = 0 from rfl] at f7
 simp only [Wd.vs, Wd.rs, Wd.o14, c0, c1, c2, List.cons_append, List.nil_append] at f5 f6 f7
 have f8 : fin trA 483 [I i2, I h2, I (3 + x)] [b] = some (0, [I q1, I q2] ++ w2.vs, w2.rs) := by
  refine qab trA ?_
  show o40.go _ _ _ = _
  simp only [Wd.vs, Wd.rs, c2, o40, TT, Nat.reduceEqDiff, ↓reduceIte, f3, f4, f5, f6, f7]
 simp only [Wd.vs, Wd.rs, c2, List.cons_append, List.nil_append] at f8
 refine ⟨w2, m, ws, hmm, hws, s2, qab trA ?_⟩
 show o8.go _ _ _ = _
 simp only [Wd.vs, Wd.rs, c2, o8, TT, Nat.reduceEqDiff, ↓reduceIte, f1, f2, wx, f8]
theorem i_in (x a b : Int) : fin trA 830 [I x, I a, I b] [] = some (0, [B (inB x a b)], []) := by
 refine qab trA ?_
 show o69.go _ _ _ = _
 simp only [o69, TT, Nat.reduceEqDiff, ↓reduceIte]
 by_cases h : a ≤ x <;> simp [h, inB]
theorem i_has (a : Ar) (k : Int) (hl : a.length ≤ 90000000) : fin trA 1598 [I k] [qae a] = some (0, [B (decide (0 ≤ k ∧ k < (a.length : Int)))], []) := by
 have w : wr ((a.length : Int) - 1) = (a.length : Int) - 1 := qag (by omega) (by omega)
 have e : inB k 0 ((a.length : Int) - 1) = decide (0 ≤ k ∧ k < (a.length : Int)) := by
  unfold inB
  rw [← Bool.decide_and]
  apply decide_eq_decide.2
  omega
 refine qab trA ?_
 show o133.go _ _ _ = _
 simp only [o133, TT, Nat.reduceEqDiff, ↓reduceIte, encA_len, w, i_in, e]
section
variable {a : Ar} (ha : AOk a)
include ha
theorem i_isKind {x : Int} {t : Tm'} (h : Den a x t) (c : Int) : fin trA 1994 [I x, I c] [qae a] = some (0, [B (decide (t.kind = c))], []) := by
 obtain ⟨n, hn, hr, hk, _⟩ := h.nd ha
 obtain ⟨i, hi, rfl, hai⟩ := qdk hn
 have e := i_has a (i : Int) ha.le
 have g0 : (0 : Int) ≤ (i : Int) := by omega
 have g1 : (i : Int) < (a.length : Int) := by omega
 rw [decide_eq_true ⟨g0, g1⟩] at e
 refine qab trA ?_
 show o166.go _ _ _ = _
 simp only [o166, TT, Nat.reduceEqDiff, ↓reduceIte, e, encA_len, g0, g1, Int.toNat_natCast, qah a i hi, hai, Nd.enc, hk]
theorem i_isAtom {x : Int} {t : Tm'} (h : Den a x t) (c : Int) : fin trA 1298 [I x, I c] [qae a] = some (0, [B (decide (t = .atom c))], []) := by
 obtain ⟨n, hn, hr, hk, hat⟩ := h.nd ha
 obtain ⟨i, hi, rfl, hai⟩ := qdk hn
 have e := i_has a (i : Int) ha.le
 have g0 : (0 : Int) ≤ (i : Int) := by omega
 have g1 : (i : Int) < (a.length : Int) := by omega
 rw [decide_eq_true ⟨g0, g1⟩] at e
 have key : (n.k = 1 ∧ n.num = c ∧ n.a = 0 ∧ n.b = 0) ↔ t = .atom c := by
  constructor
  ·rintro ⟨h1, h2, _, _⟩
   cases t with
   | atom m =>
    have := hat m rfl
    rw [this] at h2
    rw [← h2]
   | un q t =>
    have := h.2
    obtain ⟨j, hj, hq, _⟩ := this
    rw [hk] at h1
    have h1 : q = 1 := h1
    omega
   | bin q t u =>
    obtain ⟨_, j, j', hj, hq, _⟩ := h
    rw [hk] at h1
    have h1 : q = 1 := h1
    omega
  ·rintro rfl
   rw [hat c rfl]
   exact ⟨rfl, rfl, rfl, rfl⟩
 have e2 : (decide (n.k = 1) && (decide (n.num = c) && (decide (n.a = 0) && (decide (n.b = 0) && true)))) = decide (t = .atom c) := by
  rw [Bool.and_true, ← Bool.decide_and, ← Bool.decide_and, ← Bool.decide_and]
  exact decide_eq_decide.2 key
 refine qab trA ?_
 show o108.go _ _ _ = _
 simp only [o108, TT, Nat.reduceEqDiff, ↓reduceIte, e, encA_len, g0, g1, Int.toNat_natCast, qah a i hi, hai, Nd.enc, e2]
theorem i_parts0 {n : Nat} (hn : n ≤ 100) (z : Bool) (r : Rw) : ∀ (d : Nat) {k : Int} {ts : List Tm'} {xs : List Int} {us : List Tm'}, xs.length + d = n → ts.length = d → Den a k (.list ts) → Dens a xs us →
  ∃ ys k', fin trA 1286 [I k, I n, B z] [qae a, r, qai xs] = some (0, [I k'], [qai (xs ++ ys)]) ∧ Dens a ys ts ∧ Den a k' (.atom 0)
 | 0, k, ts, xs, us, hx, ht, hk, hu => by
  have : ts = [] := List.eq_nil_of_length_eq_zero ht
  subst this
  refine ⟨[], k, qab trA ?_, .nil, hk⟩
  have g : ¬ (xs.length : Int) < (n : Int) := by omega
  rw [List.append_nil]
  show o107_0.go _ _ _ = _
  simp only [o107_0, TT, Nat.reduceEqDiff, ↓reduceIte, encI_len, g]
 | d + 1, k, ts, xs, us, hx, ht, hk, hu => by
  match ts, ht, hk with
  | t :: ts, ht, hk =>
   have e1 := i_isKind ha hk 2
   rw [decide_eq_true (show (Tm'.list (t :: ts)).kind = 2 from rfl)] at e1
   obtain ⟨p, hp, i, j, rfl, hnd, d1, d2⟩ := qcD ha (show Den a k (.bin 2 t (.list ts)) from hk)
   have g : (xs.length : Int) < (n : Int) := by omega
   have g0 : (0 : Int) ≤ (p : Int) := by omega
   have g1 : (p : Int) < (a.length : Int) := by omega
   have q : qai xs ++ [[Value.int .i64 i]] = qai (xs ++ [i]) := by simp [qai]
   have g2 : ((xs ++ [i]).length : Int) ≤ 100000000 := by simp; omega
   have hsnoc : Dens a (xs ++ [i]) (us ++ [t]) := by
    clear e1 g hx q g2
    induction hu with
    | nil => exact .cons d1 .nil
    | cons x xs ih => exact .cons x ih
   obtain ⟨ys, k', e2, dy, dk⟩ := i_parts0 hn z r d (k := j) (ts := ts) (xs := xs ++ [i]) (by simp; omega) (by simpa using ht) d2 hsnoc
   refine ⟨i :: ys, k', qab trA ?_, .cons d1 dy, dk⟩
   rw [show xs ++ i :: ys = xs ++ [i] ++ ys by simp]
   show o107_0.go _ _ _ = _
   simp only [o107_0, go_more, TT, Nat.reduceEqDiff, ↓reduceIte, encI_len, encA_len, g, e1, g0, g1, Int.toNat_natCast, qah a p hp, hnd, Nd.enc, q, g2, e2]
theorem i_parts {k : Int} {ts : List Tm'} (hk : Den a k (.list ts)) (hn : ts.length ≤ 100) (hl : ts.length ≤ a.length) : ∃ xs, fin trA 1287 [I k, I (ts.length : Int)] [qae a] = some (0, [B true], [qai xs]) ∧ Dens a xs ts := by
 obtain ⟨ys, k', e, d, dk⟩ := i_parts0 ha hn false [] ts.length (k := k) (ts := ts) (xs := []) (us := []) (by simp) rfl hk .nil
 have e2 := i_isAtom ha dk 0
 rw [decide_eq_true rfl] at e2
 have e : fin trA 1286 [I k, I (ts.length : Int), B false] [qae a, [], []] = some (0, [I k'], [qai ys]) := e
 have g1 : ¬ (ts.length : Int) < 0 := by omega
 have g2 : ¬ (a.length : Int) < (ts.length : Int) := by omega
 refine ⟨ys, qab trA ?_, d⟩
 show o107.go _ _ _ = _
 simp only [o107, go_more, TT, Nat.reduceEqDiff, ↓reduceIte, encA_len, g1, gt_iff_lt, g2, e, e2]
theorem i_num {x n : Int} (h : Den a x (.atom n)) : fin trA 1466 [I x] [qae a] = some (0, [I n, B true], []) := by
 have e1 := i_isKind ha h 1
 rw [decide_eq_true (show (Tm'.atom n).kind = 1 from rfl)] at e1
 obtain ⟨h0, hn⟩ := h
 obtain ⟨i, rfl⟩ : ∃ i : Nat, x = i := ⟨x.toNat, by omega⟩
 rw [Int.toNat_natCast] at hn
 have hi : i < a.length := (List.getElem?_eq_some_iff.1 hn).1
 have hai : a[i] = ⟨1, n, 0, 0⟩ := (List.getElem?_eq_some_iff.1 hn).2
 have g1 : (i : Int) < (a.length : Int) := by omega
 refine qab trA ?_
 show o122.go _ _ _ = _
 simp only [o122, TT, Nat.reduceEqDiff, ↓reduceIte, e1, encA_len, h0, g1, Int.toNat_natCast, qah a i hi, hai, Nd.enc]
theorem i_nonce {x n : Int} (h : Den a x (.atom n)) (hn : 1000 ≤ n) : fin trA 2006 [I x] [qae a] = some (0, [B true], []) := by
 have e := i_num ha h
 refine qab trA ?_
 show o167.go _ _ _ = _
 simp only [o167, TT, Nat.reduceEqDiff, ↓reduceIte, e, hn]
theorem i_atomIn {x n m : Int} (h : Den a x (.atom n)) (hn : 0 ≤ n ∧ n ≤ m) : fin trA 2018 [I x, I m] [qae a] = some (0, [I n, B true], []) := by
 have e := i_num ha h
 have b : inB n 0 m = true := by simp [inB]; omega
 refine qab trA ?_
 show o168.go _ _ _ = _
 simp only [o168, TT, Nat.reduceEqDiff, ↓reduceIte, e, i_in, b]
theorem i_helloIn {k m nm x : Int} {p : Tm'} (h : Den a k (helloT m nm (.atom x) (.pub p))) (hm : 1 ≤ m ∧ m ≤ 2) (hn : 0 ≤ nm ∧ nm ≤ 9) (hx : 1000 ≤ x) (hl : 5 ≤ a.length) :
  ∃ y z, fin trA 1322 [I k] [qae a] = some (0, [I m, I nm, I y, I z, B true], []) := by
 obtain ⟨xs, e1, d⟩ := i_parts ha h (by simp) (by simpa using hl)
 obtain ⟨x0, xs, rfl, d0, d⟩ := d.cons'
 obtain ⟨x1, xs, rfl, d1, d⟩ := d.cons'
 obtain ⟨x2, xs, rfl, d2, d⟩ := d.cons'
 obtain ⟨x3, xs, rfl, d3, d⟩ := d.cons'
 obtain ⟨x4, xs, rfl, d4, d⟩ := d.cons'
 obtain rfl := d.nil'
 have e1 : fin trA 1287 [I k, I 5] [qae a] = some (0, [B true], [[[I x0], [I x1], [I x2], [I x3], [I x4]]]) := e1
 have e2 := i_isAtom ha d0 61
 rw [decide_eq_true rfl] at e2
 have e3 := i_nonce ha d3 hx
 have e4 := i_isKind ha d4 6
 rw [decide_eq_true (show (Tm'.pub p).kind = 6 from rfl)] at e4
 have e5 := i_atomIn ha d1 (m := 2) (by omega)
 have e6 := i_atomIn ha d2 (m := 9) hn
 have g : ¬ m < 1 := by omega
 refine ⟨x3, x4, qab trA ?_⟩
 show o110.go _ _ _ = _
 simp only [o110, TT, Nat.reduceEqDiff, ↓reduceIte, TN, Nat.reduceAdd, Int.reduceLT, Int.reduceLE, Int.reduceToNat, Int.reduceToNat, e1, e2, e3, e4, e5, e6, g]
theorem i_letterIn {k : Int} {H C : Tm'} (h : Den a k (letterT 71 [H, C])) (hl : 3 ≤ a.length) : ∃ x y z, fin trA 591 [I k] [qae a] = some (1, [I 71, I 1, I 2], [[[I x], [I y], [I z]]]) ∧ Den a y H ∧ Den a z C := by
 obtain ⟨xs, e1, d⟩ := i_parts ha (ts := [.atom 71, H, C]) h (by simp) (by simpa using hl)
 obtain ⟨x0, xs, rfl, d0, d⟩ := d.cons'
 obtain ⟨x1, xs, rfl, d1, d⟩ := d.cons'
 obtain ⟨x2, xs, rfl, d2, d⟩ := d.cons'
 obtain rfl := d.nil'
 have e1 : fin trA 1287 [I k, I 3] [qae a] = some (0, [B true], [[[I x0], [I x1], [I x2]]]) := e1
 have e2 := i_isAtom ha d0 71
 rw [decide_eq_true rfl] at e2
 have w : wr (3 - 1) = 2 := by rw [qag (by omega) (by omega)]; rfl
 have e3 : fin trA 590 [I k, I 0, I 71] [qae a, []] = some (1, [I 71, I 1, I 2], [[[I x0], [I x1], [I x2]]]) := by
  refine qab trA ?_
  show o49_0.go _ _ _ = _
  simp only [o49_0, TT, Nat.reduceEqDiff, ↓reduceIte, TN, Nat.reduceAdd, Int.reduceLT, Int.reduceLE, Int.reduceToNat, Int.reduceToNat, Int.reduceEq, e1, e2, w]
 refine ⟨x0, x1, x2, qab trA ?_, d1, d2⟩
 show o49.go _ _ _ = _
 simp only [o49, go_more, TT, Nat.reduceEqDiff, ↓reduceIte, e3, Int.reduceEq]
end
theorem i_right (k num a b p : Int) : fin trA 1898 [I k, I num, I a, I b, I p] [] = some (0, [B (Nd.right ⟨k, num, a, b⟩ p)], []) := by
 refine qab trA ?_
 show o158.go _ _ _ = _
 unfold Nd.right
 by_cases h1 : k = 1
 ·subst h1
  simp only [o158, TT, Nat.reduceEqDiff, ↓reduceIte, i_in, show inB 1 1 9 = true from rfl, Bool.true_eq_false]
  cases inB num 0 999999 <;> by_cases h2 : a = 0 <;> by_cases h3 : b = 0 <;> simp [h2, h3]
 ·by_cases h3 : k = 3
  ·subst h3
   simp only [o158, TT, Nat.reduceEqDiff, ↓reduceIte, i_in, show inB 3 1 9 = true from rfl, show qbi 3 = true from rfl, Bool.true_eq_false, Int.reduceEq]
   cases inB a 0 (wr (p - 1)) <;> by_cases h2 : num = 0 <;> by_cases h4 : b = 0 <;> simp [h2, h4]
  ·by_cases h6 : k = 6
   ·subst h6
    simp only [o158, TT, Nat.reduceEqDiff, ↓reduceIte, i_in, show inB 6 1 9 = true from rfl, show qbi 6 = true from rfl, Bool.true_eq_false, Int.reduceEq]
    cases inB a 0 (wr (p - 1)) <;> by_cases h2 : num = 0 <;> by_cases h4 : b = 0 <;> simp [h2, h4]
   ·have e : inB k 2 9 = inB k 1 9 := by
     unfold inB
     have : decide (2 ≤ k) = decide (1 ≤ k) := by apply decide_eq_decide.2; omega
     rw [this]
    have o : qbi k = false := by simp [qbi, h3, h6]
    simp only [o158, TT, Nat.reduceEqDiff, ↓reduceIte, i_in, h1, h3, h6, e, o]
    cases inB k 1 9 <;> cases inB a 0 (wr (p - 1)) <;> cases inB b 0 (wr (p - 1)) <;> by_cases h2 : num = 0 <;> simp [h2]
theorem i_put0 (l : Ar) (n : Nd) (u : Int) (z : Bool) (hl : l.length ≤ 90000000) : ∀ (d i : Nat), i + d = l.length → fin trA 1526 [B z, I n.k, I n.num, I n.a, I n.b, I u, I (l.length : Int), I i] [qae l] = some (match atFrom n (l.drop i) i with | some j => (1, [I j], []) | none => (0, [], []))
 | 0, i, hi => by
  refine qab trA ?_
  show o127_0.go _ _ _ = _
  have g : ¬ (i : Int) < (l.length : Int) := by omega
  rw [List.drop_eq_nil_of_le (by omega)]
  simp only [o127_0, TT, Nat.reduceEqDiff, ↓reduceIte, g, atFrom]
 | d + 1, i, hi => by
  have ih := i_put0 l n u z hl d (i + 1) (by omega)
  have hlt : i < l.length := by omega
  have g : (i : Int) < (l.length : Int) := by omega
  have g0 : (0 : Int) ≤ (i : Int) := by omega
  have w : wr ((i : Int) + 1) = ((i + 1 : Nat) : Int) := by rw [qag (by omega) (by omega)]; omega
  refine qab trA ?_
  show o127_0.go _ _ _ = _
  rw [List.drop_eq_getElem_cons hlt, atFrom]
  have w' : (((i + 1 : Nat)) : Int) = (i : Int) + 1 := by omega
  by_cases h : l[i] = n
  ·rw [if_pos h]
   simp only [o127_0, go_more, TT, Nat.reduceEqDiff, ↓reduceIte, encA_len, g, g0, Int.toNat_natCast, qah l i hlt, Nd.enc, nd_eq, h, Bool.and_self]
  ·rw [if_neg h]
   rw [w'] at ih
   cases hf : atFrom n (l.drop (i + 1)) ((i : Int) + 1) with
   | none =>
    rw [hf] at ih
    simp only [o127_0, go_more, TT, Nat.reduceEqDiff, ↓reduceIte, encA_len, g, g0, Int.toNat_natCast, qah l i hlt, Nd.enc, nd_eq, h, w, w', ih]
   | some j =>
    rw [hf] at ih
    simp only [o127_0, go_more, TT, Nat.reduceEqDiff, ↓reduceIte, encA_len, g, g0, Int.toNat_natCast, qah l i hlt, Nd.enc, nd_eq, h, w, w', ih]
theorem i_put {l : Ar} {n : Nd} (hr : n.right l.length = true) (hl : l.length < 3000) : fin trA 1527 [B false, I n.k, I n.num, I n.a, I n.b] [qae l] = some (0, [B false, I (put l n).2], [qae (put l n).1]) := by
 have e1 := i_right n.k n.num n.a n.b l.length
 rw [show (⟨n.k, n.num, n.a, n.b⟩ : Nd) = n from rfl, hr] at e1
 have e2 := i_put0 l n 0 false (by omega) l.length 0 (by omega)
 rw [show ((0 : Nat) : Int) = 0 from rfl, List.drop_zero] at e2
 have q : qae l ++ [[Value.int .i64 n.k, Value.int .i64 n.num, Value.int .i64 n.a, Value.int .i64 n.b]] = qae (l ++ [n]) := by simp [qae, Nd.enc]
 have g : ¬ (3000 : Int) ≤ (l.length : Int) := by omega
 have g2 : ((l ++ [n]).length : Int) ≤ 100000000 := by simp; omega
 have w : wr (((l ++ [n]).length : Int) - 1) = (l.length : Int) := by
  have : ((l ++ [n]).length : Int) = (l.length : Int) + 1 := by simp
  rw [this, qag (by omega) (by omega)]; omega
 unfold put
 rw [hr, if_neg (by simp)]
 unfold at_
 refine qab trA ?_
 show o127.go _ _ _ = _
 cases hf : atFrom n l 0 with
 | none =>
  rw [hf] at e2
  rw [Option.getD_none, if_neg (by omega)]
  simp only [o127, go_more, TT, Nat.reduceEqDiff, ↓reduceIte, encA_len, e1, e2, ge_iff_le, g, q, g2, w]
 | some j =>
  rw [hf] at e2
  obtain ⟨h1, _⟩ := qco hf
  rw [Option.getD_some, if_pos (.inl h1)]
  simp only [o127, go_more, TT, Nat.reduceEqDiff, ↓reduceIte, encA_len, e1, e2]
section
variable {a : Ar} (ha : AOk a)
include ha
theorem i_atom {n : Int} (h0 : 0 ≤ n) (h1 : n ≤ 999999) (hl : a.length + 1 ≤ 3000) : ∃ a' k, fin trA 758 [B false, I n] [qae a] = some (0, [B false, I k], [qae a']) ∧ Ext a a' 1 ∧ Den a' k (.atom n) := by
 obtain ⟨x, d⟩ := put_atom ha h0 h1 (by omega)
 have e := i_put (l := a) (n := ⟨1, n, 0, 0⟩) (by simp [Nd.right, inB, h0, h1]) (by omega)
 refine ⟨_, _, qab trA ?_, x, d⟩
 show o63.go _ _ _ = _
 simp only [o63, TT, Nat.reduceEqDiff, ↓reduceIte, e]
theorem i_of2 {c x y : Int} {t u : Tm'} (hc : c = 2 ∨ c = 4 ∨ c = 5 ∨ c = 7 ∨ c = 8 ∨ c = 9) (hx : Den a x t) (hy : Den a y u) (hl : a.length + 1 ≤ 3000) : ∃ a' k, fin trA 1358 [B false, I c, I x, I y] [qae a] = some (0, [B false, I k], [qae a']) ∧ Ext a a' 1 ∧ Den a' k (.bin c t u) := by
 obtain ⟨ex, d⟩ := qgj ha hc hx hy (by omega)
 have hx0 := hx.nonneg; have hx1 := hx.lt; have hy0 := hy.nonneg; have hy1 := hy.lt
 have e := i_put (l := a) (n := ⟨c, 0, x, y⟩) (by
  have e : wr ((a.length : Int) - 1) = (a.length : Int) - 1 := qag (by omega) (by omega)
  rcases hc with rfl | rfl | rfl | rfl | rfl | rfl <;> simp [Nd.right, inB, e, qbi] <;> omega) (by omega)
 refine ⟨_, _, qab trA ?_, ex, d⟩
 show o113.go _ _ _ = _
 simp only [o113, TT, Nat.reduceEqDiff, ↓reduceIte, e]
theorem i_of1 {c x : Int} {t : Tm'} (hc : c = 3 ∨ c = 6) (hx : Den a x t) (hl : a.length + 1 ≤ 3000) : ∃ a' k, fin trA 1358 [B false, I c, I x, I 0] [qae a] = some (0, [B false, I k], [qae a']) ∧ Ext a a' 1 ∧ Den a' k (.un c t) := by
 obtain ⟨ex, d⟩ := put_un ha hc hx (by omega)
 have hx0 := hx.nonneg; have hx1 := hx.lt
 have e := i_put (l := a) (n := ⟨c, 0, x, 0⟩) (by
  have e : wr ((a.length : Int) - 1) = (a.length : Int) - 1 := qag (by omega) (by omega)
  rcases hc with rfl | rfl <;> simp [Nd.right, inB, e, qbi] <;> omega) (by omega)
 refine ⟨_, _, qab trA ?_, ex, d⟩
 show o113.go _ _ _ = _
 simp only [o113, TT, Nat.reduceEqDiff, ↓reduceIte, e]
theorem i_list2 {x y : Int} {t u : Tm'} (hx : Den a x t) (hy : Den a y u) (hl : a.length + 3 ≤ 3000) : ∃ a' k, fin trA 1539 [B false] [qae a, [[I x], [I y]]] = some (0, [B false, I k], [qae a']) ∧ Ext a a' 3 ∧ Den a' k (.list [t, u]) := by
 obtain ⟨a1, k1, e1, x1, d1⟩ := i_atom ha (n := 0) (by omega) (by omega) (by omega)
 have l1 := x1.len
 obtain ⟨a2, k2, e2, x2, d2⟩ := i_of2 x1.ok (c := 2) (by omega) (hy.mono x1.pre) d1 (by omega)
 have l2 := x2.len
 obtain ⟨a3, k3, e3, x3, d3⟩ := i_of2 x2.ok (c := 2) (by omega) (hx.mono (x1.pre.trans x2.pre)) d2 (by omega)
 have v1 : wr (2 - 1) = 1 := by rw [qag (by omega) (by omega)]; rfl
 have v2 : wr (1 - 1) = 0 := by rw [qag (by omega) (by omega)]; rfl
 have v3 : wr (0 - 1) = -1 := by rw [qag (by omega) (by omega)]; rfl
 have f3 : fin trA 1538 [B false, I 0, I k3, I (-1)] [qae a3, [[I x], [I y]]] = some (0, [B false, I k3], [qae a3]) := by
  refine qab trA ?_
  show o128_0.go _ _ _ = _
  simp only [o128_0, TT, Nat.reduceEqDiff, ↓reduceIte, ge_iff_le, Int.reduceNeg, Int.reduceLE]
 have f2 : fin trA 1538 [B false, I 0, I k2, I 0] [qae a2, [[I x], [I y]]] = some (0, [B false, I k3], [qae a3]) := by
  refine qab trA ?_
  show o128_0.go _ _ _ = _
  simp only [o128_0, TT, Nat.reduceEqDiff, ↓reduceIte, TN, Nat.reduceAdd, Int.reduceLT, Int.reduceLE, Int.reduceToNat, Int.reduceToNat, ge_iff_le, e3, v3, f3]
 have f1 : fin trA 1538 [B false, I 0, I k1, I 1] [qae a1, [[I x], [I y]]] = some (0, [B false, I k3], [qae a3]) := by
  refine qab trA ?_
  show o128_0.go _ _ _ = _
  simp only [o128_0, TT, Nat.reduceEqDiff, ↓reduceIte, TN, Nat.reduceAdd, Int.reduceLT, Int.reduceLE, Int.reduceToNat, Int.reduceToNat, ge_iff_le, e2, v2, f2]
 refine ⟨a3, k3, qab trA ?_, (x1.trans (x2.trans x3)).le (by omega), d3⟩
 show o128.go _ _ _ = _
 simp only [o128, TT, Nat.reduceEqDiff, ↓reduceIte, TN, Nat.reduceAdd, Int.reduceLT, Int.reduceLE, Int.reduceToNat, e1, v1, f1]
theorem i_letter1 {n x : Int} {t : Tm'} (h0 : 0 ≤ n) (h1 : n ≤ 999999) (hx : Den a x t) (hl : a.length + 4 ≤ 3000) : ∃ a' k, fin trA 794 [B false, I n] [qae a, [[I x]]] = some (0, [B false, I k], [qae a']) ∧ Ext a a' 4 ∧ Den a' k (letterT n [t]) := by
 obtain ⟨a1, k1, e1, x1, d1⟩ := i_atom ha (n := n) h0 h1 (by omega)
 have l1 := x1.len
 obtain ⟨a2, k2, e2, x2, d2⟩ := i_list2 x1.ok d1 (hx.mono x1.pre) (by omega)
 refine ⟨a2, k2, qab trA ?_, (x1.trans x2).le (by omega), d2⟩
 show o66.go _ _ _ = _
 simp only [o66, TT, Nat.reduceEqDiff, ↓reduceIte, TN, Nat.reduceAdd, Int.reduceLT, Int.reduceLE, Int.reduceToNat, e1, e2]
theorem i_cookie {c n h : Int} {H : Tm'} (h_h : Den a h H) (c0 : 0 ≤ c ∧ c ≤ 999999) (n0 : 0 ≤ n ∧ n ≤ 999999) (hl : a.length + 7 ≤ 3000) : ∃ a' k, fin trA 1346 [B false, I c, I n, I h] [qae a] = some (0, [B false, I k], [qae a']) ∧ Ext a a' 7 ∧ Den a' k (cookieT c n H) := by
 obtain ⟨a1, k1, e1, x1, d1⟩ := i_atom ha c0.1 c0.2 (by omega)
 have l1 := x1.len
 obtain ⟨a2, k2, e2, x2, d2⟩ := i_atom x1.ok n0.1 n0.2 (by omega)
 have l2 := x2.len
 obtain ⟨a3, k3, e3, x3, d3⟩ := i_of1 x2.ok (c := 3) (by omega) (h_h.mono (x1.pre.trans x2.pre)) (by omega)
 have l3 := x3.len
 obtain ⟨a4, k4, e4, x4, d4⟩ := i_list2 x3.ok (d2.mono x3.pre) d3 (by omega)
 have l4 := x4.len
 obtain ⟨a5, k5, e5, x5, d5⟩ := i_of2 x4.ok (c := 9) (by omega) (d1.mono (x2.pre.trans (x3.pre.trans x4.pre))) d4 (by omega)
 refine ⟨a5, k5, qab trA ?_, (x1.trans (x2.trans (x3.trans (x4.trans x5)))).le (by omega), d5⟩
 show o112.go _ _ _ = _
 simp only [o112, TT, Nat.reduceEqDiff, ↓reduceIte, TN, Nat.reduceAdd, Int.reduceLT, Int.reduceLE, Int.reduceToNat, e1, e2, e3, e4, e5]
end
theorem i_copyA (a : Ar) (hl : a.length ≤ 90000000) : fin trA 662 [] [qae a] = some (0, [], [qae a]) := by
 have g : (a.length : Int) ≤ 100000000 := by omega
 refine qab trA ?_
 show o55.go _ _ _ = _
 simp only [o55, TT, Nat.reduceEqDiff, ↓reduceIte, encA_len, g]
theorem i_bench (a : Ar) (hl : a.length ≤ 90000000) : fin trA 602 [] [qae a] = some (0, [B false], [qae a]) := by
 have e := i_copyA a hl
 refine qab trA ?_
 show o50.go _ _ _ = _
 simp only [o50, TT, Nat.reduceEqDiff, ↓reduceIte, e]
theorem i_gcopy {a : Ar} {g : Gt} (hg : GtD a g) : fin trA 614 [I g.name, I g.next, I g.drops] [qas g.l, qaz g.p, qaK g.w, qaP g.o] = some (0, [I g.name, I g.next, I g.drops], [qas g.l, qaz g.p, qaK g.w, qaP g.o]) := by
 have few := hg.few; have ways := hg.ways; have outs := hg.outs; have pf := hg.pool.few
 have g1 : (g.l.length : Int) ≤ 100000000 := by omega
 have g2 : (g.p.length : Int) ≤ 100000000 := by omega
 have g3 : (g.w.length : Int) ≤ 100000000 := by omega
 have g4 : (g.o.length : Int) ≤ 100000000 := by omega
 have e : fin trA 1310 [] [qaz g.p] = some (0, [], [qaz g.p]) := by
  refine qab trA ?_
  show o109.go _ _ _ = _
  simp only [o109, TT, Nat.reduceEqDiff, ↓reduceIte, qar, g2]
 refine qab trA ?_
 show o51.go _ _ _ = _
 simp only [o51, TT, Nat.reduceEqDiff, ↓reduceIte, qaf, qaZ, qbR, g1, g3, g4, e]
theorem i_cookieOk {a : Ar} (ha : AOk a) {h z n : Int} {H C : Tm'} (h_h : Den a h H) (hz : Den a z C) (n0 : 0 ≤ n ∧ n ≤ 999999) (hl : a.length + 7 ≤ 3000) (hne : C ≠ cookieT 9000 n H) : fin trA 1334 [I 9000, I n, I h, I z] [qae a] = some (0, [B false], []) := by
 obtain ⟨a1, k1, e1, x1, d1⟩ := i_cookie ha h_h (show (0 : Int) ≤ 9000 ∧ (9000 : Int) ≤ 999999 by omega) n0 hl
 have e0 := i_bench a ha.le
 have nk : ¬ k1 < 0 := by have := d1.nonneg; omega
 have e2 : fin trA 2030 [I 9000, I n, I h] [qae a] = some (0, [I k1], [qae a1]) := by
  have e3 : fin trA 806 [B false, I k1] [qae a1, qae a] = some (0, [I k1], [qae a1]) := by
   refine qab trA ?_
   show o67.go _ _ _ = _
   simp only [o67, TT, Nat.reduceEqDiff, ↓reduceIte, nk]
  refine qab trA ?_
  show o169.go _ _ _ = _
  simp only [o169, TT, Nat.reduceEqDiff, ↓reduceIte, e0, e1, e3]
 have hz1 : ¬ k1 = z := fun q => by
  subst q
  exact hne ((hz.mono x1.pre).fun d1)
 have e4 := i_has a k1 ha.le
 refine qab trA ?_
 show o111.go _ _ _ = _
 by_cases hk : 0 ≤ k1 ∧ k1 < (a.length : Int)
 ·rw [decide_eq_true hk] at e4
  simp only [o111, TT, Nat.reduceEqDiff, ↓reduceIte, e2, e4, hz1]
 ·rw [decide_eq_false hk] at e4
  simp only [o111, TT, Nat.reduceEqDiff, ↓reduceIte, e2, e4]
theorem i_gh0 {l : List Se} (hl : l.length ≤ 100) {addr : Int} (hs : ∀ s ∈ l, s.addr ≠ addr) (b : Bool) (x1 x2 x3 x4 x5 x6 x7 x9 x10 x11 x12 x13 : Int) (r0 r2 r3 r4 r5 r6 r7 : Rw) : ∀ (d i : Nat), i + d = l.length →
  fin trA 626 [B b, I x1, I x2, I x3, I x4, I x5, I x6, I x7, I addr, I x9, I x10, I x11, I x12, I x13, I (l.length : Int), I i] [r0, qas l, r2, r3, r4, r5, r6, r7] = some (0, [], [])
 | 0, i, hi => by
  refine qab trA ?_
  show o52_0.go _ _ _ = _
  have g : ¬ (i : Int) < (l.length : Int) := by omega
  simp only [o52_0, TT, Nat.reduceEqDiff, ↓reduceIte, g]
 | d + 1, i, hi => by
  have ih := i_gh0 hl hs b x1 x2 x3 x4 x5 x6 x7 x9 x10 x11 x12 x13 r0 r2 r3 r4 r5 r6 r7 d (i + 1) (by omega)
  have hlt : i < l.length := by omega
  have g : (i : Int) < (l.length : Int) := by omega
  have g0 : (0 : Int) ≤ (i : Int) := by omega
  have w := qaE (i := i) (n := 100) (by omega) (by omega)
  have hne : ¬ l[i].addr = addr := hs _ (List.getElem_mem hlt)
  refine qab trA ?_
  show o52_0.go _ _ _ = _
  simp only [o52_0, go_more, TT, Nat.reduceEqDiff, ↓reduceIte, qaf, g, g0, Int.toNat_natCast, qal l i hlt, Se.v, hne, ne_eq, not_false_eq_true, w, ih]
theorem i_hear {a : Ar} (ha : AOk a) {g : Gt} (hg : GtD a g) (hs : ∀ s ∈ g.l, s.addr ≠ 50) {t now : Int} {m nm x : Int} {p : Tm'} (hm : 1 ≤ m ∧ m ≤ 2) (hn : 0 ≤ nm ∧ nm ≤ 9) (hx : 1000 ≤ x) (hk : Den a t (letterT 71 [helloT m nm (.atom x) (.pub p), .atom 0])) (h5 : 5 ≤ a.length) (hl : a.length + 20 ≤ 3000) :
  ∃ a' t', fin trA 170 [I g.name, I g.next, I g.drops, I 50, I t, I 50000, I now] [qae a, qas g.l, qaz g.p, qaK g.w, qaP g.o] = some (0, [I g.name, I g.next, I g.drops, I 0], [qae a', qas g.l, qaz g.p, qaK g.w, qaP g.o, [[I 50, I t']]]) ∧ Ext a a' 20 ∧ Den a' t' (letterT 72 [cookieT 9000 50 (helloT m nm (.atom x) (.pub p))]) := by
 have few := hg.few
 obtain ⟨x0, y, z, e0, d1, d2⟩ := i_letterIn ha hk (by omega)
 have e1 := i_bench a ha.le
 have e2 := i_gcopy hg
 obtain ⟨u, v, e3⟩ := i_helloIn ha d1 hm hn hx h5
 have e4 := i_cookieOk ha d1 d2 (n := 50) (by omega) (by omega) (by intro h; cases h)
 obtain ⟨a1, k1, e5, q1, f1⟩ := i_cookie ha d1 (show (0 : Int) ≤ 9000 ∧ (9000 : Int) ≤ 999999 by omega) (n := 50) (by omega) (by omega)
 have l1 := q1.len
 obtain ⟨a2, k2, e6, q2, f2⟩ := i_letter1 q1.ok (n := 72) (by omega) (by omega) f1 (by omega)
 have v0 : wr (1 + 0) = 1 := by rw [qag (by omega) (by omega)]; rfl
 have v1 : wr (1 + 1) = 2 := by rw [qag (by omega) (by omega)]; rfl
 have e8 : fin trA 627 [B false, I g.name, I g.next, I g.drops, I 50, I t, I 1, I 2, I 50000, I now] [qae a, qae a, qas g.l, qaz g.p, qaK g.w, qaP g.o, [[I x0], [I y], [I z]]] = some (0, [B false, I g.next], [qae a2, qas g.l, [[I 50, I k2]]]) := by
  have e7 := i_gh0 (l := g.l) (by omega) hs false g.name g.next g.drops 1 2 50000 now t m nm u v (qae a) (qaz g.p) (qaK g.w) (qaP g.o) [[I x0], [I y], [I z]] (qae a) [] g.l.length 0 (by omega)
  rw [show ((0 : Nat) : Int) = 0 from rfl] at e7
  refine qab trA ?_
  show o52.go _ _ _ = _
  simp only [o52, go_more, go_two, go_both, same_self, TT, Nat.reduceEqDiff, ↓reduceIte, TN, Nat.reduceAdd, Int.reduceLT, Int.reduceLE, Int.reduceToNat, Int.reduceToNat, v0, v1, e3, qaf, e7, e4, e5, e6]
 refine ⟨a2, k2, qab trA ?_, (q1.trans q2).le (by omega), f2⟩
 show o14.go _ _ _ = _
 simp only [o14, go_more, TT, Nat.reduceEqDiff, ↓reduceIte, e0, e1, e2, Int.reduceEq, e8]
theorem s_leases0 {p : List Le} (hp : p.length ≤ 100) (z : Bool) : ∀ (d i : Nat), i + d = p.length → fin trA 674 [B z, I i] [qaz p, qaz p] = some (0, [], [])
 | 0, i, hi => by
  refine qab trA ?_
  show o56_0.go _ _ _ = _
  have g : ¬ (i : Int) < (p.length : Int) := by omega
  simp only [o56_0, TT, Nat.reduceEqDiff, ↓reduceIte, qar, g]
 | d + 1, i, hi => by
  have ih := s_leases0 hp z d (i + 1) (by omega)
  have hlt : i < p.length := by omega
  have g : (i : Int) < (p.length : Int) := by omega
  have g0 : (0 : Int) ≤ (i : Int) := by omega
  have w := qaE (i := i) (n := 100) (by omega) (by omega)
  refine qab trA ?_
  show o56_0.go _ _ _ = _
  simp only [o56_0, go_more, TT, Nat.reduceEqDiff, ↓reduceIte, qar, g, g0, Int.toNat_natCast, qaF p i hlt, Le.v, eq_self, Bool.and_self, w, ih]
theorem s_gate0 {l : List Se} (hl : l.length ≤ 100) (x1 x2 x3 x4 x5 x6 : Int) (z : Bool) (r1 r2 r3 r5 r6 r7 : Rw) : ∀ (d i : Nat), i + d = l.length → fin trA 182 [I x1, I x2, I x3, I x4, I x5, I x6, B z, I i] [qas l, r1, r2, r3, qas l, r5, r6, r7] = some (0, [], [])
 | 0, i, hi => by
  refine qab trA ?_
  show o15_0.go _ _ _ = _
  have g : ¬ (i : Int) < (l.length : Int) := by omega
  simp only [o15_0, TT, Nat.reduceEqDiff, ↓reduceIte, qaf, g]
 | d + 1, i, hi => by
  have ih := s_gate0 hl x1 x2 x3 x4 x5 x6 z r1 r2 r3 r5 r6 r7 d (i + 1) (by omega)
  have hlt : i < l.length := by omega
  have g : (i : Int) < (l.length : Int) := by omega
  have g0 : (0 : Int) ≤ (i : Int) := by omega
  have w := qaE (i := i) (n := 100) (by omega) (by omega)
  refine qab trA ?_
  show o15_0.go _ _ _ = _
  simp only [o15_0, go_more, TT, Nat.reduceEqDiff, ↓reduceIte, qaf, g, g0, Int.toNat_natCast, qal l i hlt, Se.v, eq_self, Bool.and_self, w, ih]
theorem encO_get (l : List Ou) (i : Nat) (h : i < l.length) : (qaP l).getD i [] = (l[i]).v := by
 simp [qaP, List.getD_eq_getElem?_getD, List.getElem?_eq_getElem h]
theorem s_gate2 {o : List Ou} (hl : o.length ≤ 100) (x1 x2 x3 x4 x5 x6 : Int) (z : Bool) (r0 r1 r2 r4 r5 r6 : Rw) : ∀ (d i : Nat), i + d = o.length → fin trA 183 [I x1, I x2, I x3, I x4, I x5, I x6, B z, I i] [r0, r1, r2, qaP o, r4, r5, r6, qaP o] = some (0, [], [])
 | 0, i, hi => by
  refine qab trA ?_
  show o15_2.go _ _ _ = _
  have g : ¬ (i : Int) < (o.length : Int) := by omega
  simp only [o15_2, TT, Nat.reduceEqDiff, ↓reduceIte, qbR, g]
 | d + 1, i, hi => by
  have ih := s_gate2 hl x1 x2 x3 x4 x5 x6 z r0 r1 r2 r4 r5 r6 d (i + 1) (by omega)
  have hlt : i < o.length := by omega
  have g : (i : Int) < (o.length : Int) := by omega
  have g0 : (0 : Int) ≤ (i : Int) := by omega
  have w := qaE (i := i) (n := 100) (by omega) (by omega)
  refine qab trA ?_
  show o15_2.go _ _ _ = _
  simp only [o15_2, go_more, TT, Nat.reduceEqDiff, ↓reduceIte, qbR, g, g0, Int.toNat_natCast, encO_get o i hlt, Ou.v, eq_self, Bool.and_self, w, ih]
theorem s_gate {a : Ar} {g : Gt} (hg : GtD a g) : fin trA 184 [I g.name, I g.next, I g.drops, I g.name, I g.next, I g.drops] [qas g.l, qaz g.p, qaK g.w, qaP g.o, qas g.l, qaz g.p, qaK g.w, qaP g.o] = some (0, [B true], []) := by
 have few := hg.few; have outs := hg.outs; have pf := hg.pool.few
 have e1 := s_leases0 (p := g.p) (by omega) false g.p.length 0 (by omega)
 have e2 := s_gate0 (l := g.l) (by omega) g.name g.next g.drops g.name g.next g.drops false (qaz g.p) (qaK g.w) (qaP g.o) (qaz g.p) (qaK g.w) (qaP g.o) g.l.length 0 (by omega)
 have e3 := s_gate2 (o := g.o) (by omega) g.name g.next g.drops g.name g.next g.drops false (qas g.l) (qaz g.p) (qaK g.w) (qas g.l) (qaz g.p) (qaK g.w) g.o.length 0 (by omega)
 rw [show ((0 : Nat) : Int) = 0 from rfl] at e1 e2 e3
 have e0 : fin trA 675 [] [qaz g.p, qaz g.p] = some (0, [B true], []) := by
  refine qab trA ?_
  show o56.go _ _ _ = _
  simp only [o56, go_more, TT, Nat.reduceEqDiff, ↓reduceIte, ne_eq, not_true_eq_false, e1]
 refine qab trA ?_
 show o15.go _ _ _ = _
 simp only [o15, go_more, TT, Nat.reduceEqDiff, ↓reduceIte, ne_eq, not_true_eq_false, e0, e2, e3]
theorem qgV {l : List Le} (hl : l.length ≤ 100) (cid z : Int) : ∀ (n i : Nat), i + n = l.length → fin trA 710 [I cid, I z, I (l.length : Int), I i] [qaz l] = some (if ∃ e ∈ l.drop i, e.cid = cid then (1, [I (qao cid (l.drop i))], []) else (0, [], []))
 | 0, i, hi => by
  refine qab trA ?_
  show o59_0.go _ _ _ = _
  have g : ¬ (i : Int) < (l.length : Int) := by omega
  rw [List.drop_eq_nil_of_le (by omega), if_neg (by simp)]
  simp only [o59_0, TT, Nat.reduceEqDiff, ↓reduceIte, g]
 | n + 1, i, hi => by
  have ih := qgV hl cid z n (i + 1) (by omega)
  have hlt : i < l.length := by omega
  have g : (i : Int) < (l.length : Int) := by omega
  have g0 : (0 : Int) ≤ (i : Int) := by omega
  have w := qaE (i := i) (n := 100) (by omega) (by omega)
  refine qab trA ?_
  show o59_0.go _ _ _ = _
  rw [List.drop_eq_getElem_cons hlt]
  by_cases h1 : l[i].cid = cid
  ·rw [if_pos ⟨l[i], List.mem_cons_self .., h1⟩]
   simp only [o59_0, go_more, TT, Nat.reduceEqDiff, ↓reduceIte, qar, Int.toNat_natCast, qaF l i hlt, Le.v, g, g0, h1, qao]
  ·have hs : qao cid (l[i] :: l.drop (i + 1)) = qao cid (l.drop (i + 1)) := by rw [qao, if_neg h1]
   have he : (∃ e ∈ l[i] :: l.drop (i + 1), e.cid = cid) ↔ ∃ e ∈ l.drop (i + 1), e.cid = cid := by
    constructor
    ·rintro ⟨e, he, hc⟩
     rcases List.mem_cons.1 he with rfl | he
     ·exact absurd hc h1
     ·exact ⟨e, he, hc⟩
    ·rintro ⟨e, he, hc⟩; exact ⟨e, List.mem_cons_of_mem _ he, hc⟩
   rw [hs]
   by_cases h2 : ∃ e ∈ l.drop (i + 1), e.cid = cid
   ·rw [if_pos h2] at ih
    rw [if_pos (he.2 h2)]
    simp only [o59_0, go_more, TT, Nat.reduceEqDiff, ↓reduceIte, qar, Int.toNat_natCast, qaF l i hlt, Le.v, g, g0, h1, w, ih]
   ·rw [if_neg h2] at ih
    rw [if_neg (fun h => h2 (he.1 h))]
    simp only [o59_0, go_more, TT, Nat.reduceEqDiff, ↓reduceIte, qar, Int.toNat_natCast, qaF l i hlt, Le.v, g, g0, h1, w, ih]
theorem i_placeOf {l : List Le} (hl : l.length ≤ 100) (cid : Int) : fin trA 711 [I cid] [qaz l] = some (0, [I (qao cid l)], []) := by
 have e := qgV hl cid 0 l.length 0 (by omega)
 rw [show ((0 : Nat) : Int) = 0 from rfl, List.drop_zero] at e
 refine qab trA ?_
 show o59.go _ _ _ = _
 by_cases h : ∃ e ∈ l, e.cid = cid
 ·rw [if_pos h] at e
  simp only [o59, go_more, TT, Nat.reduceEqDiff, ↓reduceIte, qar, e]
 ·rw [if_neg h] at e
  simp only [o59, go_more, TT, Nat.reduceEqDiff, ↓reduceIte, qar, e, qdm h]
theorem placeFrom_bd {l : List Le} (h : qeT l) (cid : Int) : qao cid l = 0 ∨ (10 ≤ qao cid l ∧ qao cid l ≤ 12 ∧ ∃ e ∈ l, e.cid = cid) := by
 have key : ∀ l : List Le, (∀ e ∈ l, 10 ≤ e.place ∧ e.place ≤ 12) → qao cid l = 0 ∨ (10 ≤ qao cid l ∧ qao cid l ≤ 12 ∧ ∃ e ∈ l, e.cid = cid) := by
  intro l
  induction l with
  | nil => intro _; exact .inl rfl
  | cons e l ih =>
   intro h
   rw [qao]
   split
   ·rename_i hc
    have := h e (List.mem_cons_self ..)
    exact .inr ⟨this.1, this.2, e, List.mem_cons_self .., hc⟩
   ·rcases ih (fun e he => h e (List.mem_cons_of_mem _ he)) with h' | ⟨h1, h2, e', h3, h4⟩
    ·exact .inl h'
    ·exact .inr ⟨h1, h2, e', List.mem_cons_of_mem _ h3, h4⟩
 exact key l h.place
theorem placeFrom_pos {l : List Le} (h : qeT l) {cid : Int} (he : ∃ e ∈ l, e.cid = cid) : qao cid l ≠ 0 := by
 have key : ∀ l : List Le, (∀ e ∈ l, 10 ≤ e.place ∧ e.place ≤ 12) → (∃ e ∈ l, e.cid = cid) → qao cid l ≠ 0 := by
  intro l
  induction l with
  | nil => rintro _ ⟨e, he, _⟩; cases he
  | cons x l ih =>
   rintro h ⟨e, he, hc⟩
   rw [qao]
   split
   ·have := h x (List.mem_cons_self ..); omega
   ·rename_i hx
    rcases List.mem_cons.1 he with rfl | he
    ·exact absurd hc hx
    ·exact ih (fun e he => h e (List.mem_cons_of_mem _ he)) ⟨e, he, hc⟩
 exact key l h.place he
theorem i_fwd {a : Ar} (ha : AOk a) {g : Gt} (hg : GtD a g) (cid : Int) : fin trA 218 [I g.name, I g.next, I g.drops, I cid, I (wr (qao cid g.p + 1)), I 20, I 3, I 1] [qae a, qas g.l, qaz g.p, qaK g.w, qaP g.o] = some (0, [I g.name, I g.next, I (wr (g.drops + 1))], [qae a, qas g.l, qaz g.p, qaK g.w, qaP g.o, []]) := by
 have pf := hg.pool.few
 have e1 := i_gcopy hg
 have e2 := i_placeOf (l := g.p) (by omega) cid
 have e3 := i_copyA a ha.le
 have hb := placeFrom_bd hg.pool cid
 have w : wr (qao cid g.p + 1) = qao cid g.p + 1 := qag (by omega) (by omega)
 have b1 : inB (qao cid g.p + 1) 0 255 = true := by simp [inB]; omega
 have e4 : fin trA 722 [I (qao cid g.p + 1), I 20, I 3, I 1] [] = some (0, [B true], []) := by
  refine qab trA ?_
  show o60.go _ _ _ = _
  simp only [o60, TT, Nat.reduceEqDiff, ↓reduceIte, i_in, b1, show inB 20 0 255 = true from rfl, show inB 3 1 9 = true from rfl, show inB 1 0 999 = true from rfl]
 rw [w]
 refine qab trA ?_
 show o18.go _ _ _ = _
 by_cases h0 : qao cid g.p = 0
 ·rw [h0] at e2 e4 ⊢
  simp only [o18, TT, Nat.reduceEqDiff, ↓reduceIte, e1, e2, e4, e3]
 ·have hne : ¬ qao cid g.p + 1 = qao cid g.p := by omega
  simp only [o18, TT, Nat.reduceEqDiff, ↓reduceIte, e1, e2, e4, e3, h0, ne_eq, hne, not_false_eq_true]
theorem i_winOk {top seen : Int} {S : Nat → Prop} (h : WR top seen S) : fin trA 1610 [I top, I seen] [] = some (0, [B true], []) := by
 refine qab trA ?_
 show o134.go _ _ _ = _
 rcases h with ⟨rfl, rfl, _⟩ | ⟨t, m, rfl, rfl, h1, h2, h3, h4, _⟩
 ·simp only [o134, TT, Nat.reduceEqDiff, ↓reduceIte, i_in, show inB (-1) (-1) 9999 = true from rfl, show inB 0 0 65535 = true from rfl]
 ·have g1 : inB (t : Int) (-1) 9999 = true := by simp [inB]; omega
  have g2 : inB (m : Int) 0 65535 = true := by simp [inB]; omega
  have g3 : ¬ (t : Int) = -1 := by omega
  have g4 : ((m : Int).tmod 2 = 1) := by rw [Int.tmod_eq_emod_of_nonneg (by omega)]; omega
  have e : wr ((t : Int) + 1) = ((t + 1 : Nat) : Int) := by rw [qag (by omega) (by omega)]; omega
  by_cases g5 : (15 : Int) ≤ t
  ·simp only [o134, TT, Nat.reduceEqDiff, ↓reduceIte, i_in, g1, g2, g3, g4, ge_iff_le, g5]
  ·have g6 : (0 : Int) ≤ ((t + 1 : Nat) : Int) := by omega
   have g7 : (m : Int) < ((2 ^ (t + 1) : Nat) : Int) := by omega
   have e2 := qeY .i64 (n := t + 1) (by omega)
   simp only [o134, TT, Nat.reduceEqDiff, ↓reduceIte, i_in, g1, g2, g3, g4, ge_iff_le, g5, e, g6, e2, g7]
theorem i_chanOk {a : Ar} (ha : AOk a) {c : Ch} {t : Tm'} {SN SL : Nat → Prop} (h : CR a c t SN SL) : fin trA 854 c.v [qae a] = some (0, [B true], []) := by
 have e1 := i_has a c.app ha.le
 rw [decide_eq_true h.app.notOut] at e1
 have b1 : inB c.side 1 2 = true := by have := h.side; simp [inB]; omega
 have b2 : inB (c.seq : Int) 0 10000 = true := by have := h.seq; simp [inB]; omega
 have b3 : inB (c.ep : Int) 0 8 = true := by have := h.ep; simp [inB]; omega
 have b4 : inB (c.heard : Int) 0 8 = true := by have := h.heard; simp [inB]; omega
 have e2 := i_winOk h.now
 have e3 := i_winOk h.last
 refine qab trA ?_
 show o71.go _ _ _ = _
 simp only [Ch.v, o71, TT, Nat.reduceEqDiff, ↓reduceIte, e1, i_in, b1, b2, b3, b4, e2, e3]
theorem i_sessAt0 {l : List Se} (hl : l.length ≤ 100) (cid x : Int) : ∀ (n i : Nat), i + n = l.length → fin trA 842 [I cid, I x, I (l.length : Int), I i] [qas l] = some (match sessFrom cid (l.drop i) i with | some j => (1, [I j], []) | none => (0, [], []))
 | 0, i, hi => by
  refine qab trA ?_
  show o70_0.go _ _ _ = _
  have g : ¬ (i : Int) < (l.length : Int) := by omega
  rw [List.drop_eq_nil_of_le (by omega)]
  simp only [o70_0, TT, Nat.reduceEqDiff, ↓reduceIte, g, sessFrom]
 | n + 1, i, hi => by
  have ih := i_sessAt0 hl cid x n (i + 1) (by omega)
  have hlt : i < l.length := by omega
  have g : (i : Int) < (l.length : Int) := by omega
  have g0 : (0 : Int) ≤ (i : Int) := by omega
  have w := qaE (i := i) (n := 100) (by omega) (by omega)
  refine qab trA ?_
  show o70_0.go _ _ _ = _
  rw [List.drop_eq_getElem_cons hlt, sessFrom]
  by_cases h : l[i].cid = cid
  ·rw [if_pos h]
   simp only [o70_0, go_more, TT, Nat.reduceEqDiff, ↓reduceIte, qaf, g, g0, Int.toNat_natCast, qal l i hlt, Se.v, h]
  ·rw [if_neg h]
   cases hf : sessFrom cid (l.drop (i + 1)) (i + 1) with
   | none =>
    rw [hf] at ih
    simp only [o70_0, go_more, TT, Nat.reduceEqDiff, ↓reduceIte, qaf, g, g0, Int.toNat_natCast, qal l i hlt, Se.v, h, w, ih]
   | some j =>
    rw [hf] at ih
    simp only [o70_0, go_more, TT, Nat.reduceEqDiff, ↓reduceIte, qaf, g, g0, Int.toNat_natCast, qal l i hlt, Se.v, h, w, ih]
theorem sessAt_self {l : List Se} (hp : l.Pairwise fun s t => s.cid ≠ t.cid) {i : Nat} (hi : i < l.length) : qch l l[i].cid = some i := by
 obtain ⟨k, h1, h2⟩ := sessAt_ex ⟨l[i], List.getElem_mem hi, rfl⟩
 obtain ⟨h3, h4⟩ := qbK h1
 rw [h1]
 congr 1
 rcases Nat.lt_trichotomy k i with h | h | h
 ·exact absurd h4 (List.pairwise_iff_getElem.1 hp k i h3 hi h)
 ·exact h
 ·exact absurd h4.symm (List.pairwise_iff_getElem.1 hp i k hi h3 h)
theorem i_sessAt {l : List Se} (hl : l.length ≤ 100) (hp : l.Pairwise fun s t => s.cid ≠ t.cid) {i : Nat} (hi : i < l.length) (y z w : Int) (r1 r2 r3 : Rw) : fin trA 843 [I y, I z, I w, I l[i].cid] [qas l, r1, r2, r3] = some (0, [I i], []) := by
 have e := i_sessAt0 hl l[i].cid 0 l.length 0 (by omega)
 rw [show ((0 : Nat) : Int) = 0 from rfl, List.drop_zero] at e
 have hs := sessAt_self hp hi
 unfold qch at hs
 rw [hs] at e
 refine qab trA ?_
 show o70.go _ _ _ = _
 simp only [o70, go_more, TT, Nat.reduceEqDiff, ↓reduceIte, qaf, e]
theorem i_poolOk2 {l : List Le} (hl : l.length ≤ 3) (z : Bool) (x1 x3 : Int) (i : Nat) (hi : i < l.length) (hne : ∀ (j : Nat) (hj : j < i), l[j].cid ≠ l[i].cid) : ∀ (n k : Nat), k + n = i → fin trA 866 [B z, I x1, I l[i].cid, I x3, I i, I 0, I i, I i, I k] [qaz l] = some (0, [], [])
 | 0, k, hk => by
  refine qab trA ?_
  show o72_2.go _ _ _ = _
  have g : ¬ (k : Int) < (i : Int) := by omega
  simp only [o72_2, TT, Nat.reduceEqDiff, ↓reduceIte, g]
 | n + 1, k, hk => by
  have ih := i_poolOk2 hl z x1 x3 i hi hne n (k + 1) (by omega)
  have hlt : k < l.length := by omega
  have g : (k : Int) < (i : Int) := by omega
  have g0 : (0 : Int) ≤ (k : Int) := by omega
  have w := qaE (i := k) (n := 100) (by omega) (by omega)
  have w2 : wr (0 + (k : Int)) = (k : Int) := by rw [qag (by omega) (by omega)]; omega
  have hn : ¬ l[k].cid = l[i].cid := hne k (by omega)
  refine qab trA ?_
  show o72_2.go _ _ _ = _
  simp only [o72_2, go_more, TT, Nat.reduceEqDiff, ↓reduceIte, g, g0, w2, Int.toNat_natCast, qaF l k hlt, Le.v, hn, w, ih]
theorem i_poolOk0 {l : List Le} (h : qeT l) (z : Bool) : ∀ (n i : Nat), i + n = l.length → fin trA 867 [B z, I (l.length : Int), I i] [qaz l] = some (0, [], [])
 | 0, i, hi => by
  refine qab trA ?_
  show o72_0.go _ _ _ = _
  have g : ¬ (i : Int) < (l.length : Int) := by omega
  simp only [o72_0, TT, Nat.reduceEqDiff, ↓reduceIte, g]
 | n + 1, i, hi => by
  have ih := i_poolOk0 h z n (i + 1) (by omega)
  have hl := h.few
  have hlt : i < l.length := by omega
  have g : (i : Int) < (l.length : Int) := by omega
  have g0 : (0 : Int) ≤ (i : Int) := by omega
  have g3 : (i : Int) ≤ (l.length : Int) := by omega
  have w := qaE (i := i) (n := 100) (by omega) (by omega)
  have w0 : wr ((i : Int) - 0) = (i : Int) := by rw [qag (by omega) (by omega)]; omega
  have b : inB l[i].place 10 12 = true := by have := h.place _ (List.getElem_mem hlt); simp [inB]; omega
  have e2 := i_poolOk2 hl z l[i].place (l.length : Int) i hlt (fun j hj => List.pairwise_iff_getElem.1 h.unlike j i (by omega) hlt hj) i 0 (by omega)
  rw [show ((0 : Nat) : Int) = 0 from rfl] at e2
  refine qab trA ?_
  show o72_0.go _ _ _ = _
  by_cases hi0 : i = 0
  ·have gi : ¬ (0 : Int) < (i : Int) := by omega
   simp only [o72_0, go_more, TT, Nat.reduceEqDiff, ↓reduceIte, qar, g, g0, Int.toNat_natCast, qaF l i hlt, Le.v, i_in, b, gt_iff_lt, gi, Int.le_refl, g3, w0, e2, w, ih]
  ·have gi : (0 : Int) < (i : Int) := by omega
   obtain ⟨j, rfl⟩ : ∃ j, i = j + 1 := ⟨i - 1, by omega⟩
   have w1 : wr (((j + 1 : Nat) : Int) - 1) = (j : Int) := by rw [qag (by omega) (by omega)]; omega
   have hj : j < l.length := by omega
   have gj : (j : Int) < (l.length : Int) := by omega
   have gj0 : (0 : Int) ≤ (j : Int) := by omega
   have hp : ¬ l[j + 1].place ≤ l[j].place := by
    have := List.pairwise_iff_getElem.1 h.up j (j + 1) hj hlt (by omega)
    omega
   simp only [o72_0, go_more, TT, Nat.reduceEqDiff, ↓reduceIte, qar, g, g0, Int.toNat_natCast, qaF l (j + 1) hlt, qaF l j hj, Le.v, i_in, b, gt_iff_lt, gi, w1, gj, gj0, ge_iff_le, hp, Int.le_refl, g3, w0, e2, w, ih]
theorem i_poolOk {l : List Le} (h : qeT l) : fin trA 868 [] [qaz l] = some (0, [B true], []) := by
 have e := i_poolOk0 h false l.length 0 (by omega)
 rw [show ((0 : Nat) : Int) = 0 from rfl] at e
 have g : (l.length : Int) ≤ 3 := by have := h.few; omega
 refine qab trA ?_
 show o72.go _ _ _ = _
 simp only [o72, go_more, TT, Nat.reduceEqDiff, ↓reduceIte, qar, e, g]
theorem ways0_ok {r : Way} (h : r ∈ ways0) : inB r.bits 0 8 = true ∧ inB r.net 0 255 = true ∧ inB r.to 0 9 = true ∧ (0 ≤ wr (8 - r.bits)) ∧ ∃ s : Int, qbf .shl (.int .i64 1) (.int .i64 (wr (8 - r.bits))) = .int .i64 s ∧ ¬ s = 0 ∧ r.net.tmod s = 0 := by
 have h : r = ⟨0, 0, 1⟩ ∨ r = ⟨16, 4, 2⟩ ∨ r = ⟨24, 5, 3⟩ ∨ r = ⟨26, 7, 4⟩ ∨ r = ⟨30, 8, 5⟩ := by simpa [ways0] using h
 rcases h with rfl | rfl | rfl | rfl | rfl
 ·exact ⟨rfl, rfl, rfl, by decide, 256, rfl, by decide, by decide⟩
 ·exact ⟨rfl, rfl, rfl, by decide, 16, rfl, by decide, by decide⟩
 ·exact ⟨rfl, rfl, rfl, by decide, 8, rfl, by decide, by decide⟩
 ·exact ⟨rfl, rfl, rfl, by decide, 2, rfl, by decide, by decide⟩
 ·exact ⟨rfl, rfl, rfl, by decide, 1, rfl, by decide, by decide⟩
theorem qfL {l : List Way} (hl : l.length ≤ 8) (z : Bool) (x2 x3 x4 : Int) (i : Nat) (hi : i < l.length) (hne : ∀ (j : Nat) (hj : j < i), l[j].net ≠ l[i].net) : ∀ (n k : Nat), k + n = i → fin trA 878 [B z, I l[i].net, I x2, I x3, I x4, I i, I 0, I i, I i, I k] [qaK l] = some (0, [], [])
 | 0, k, hk => by
  refine qab trA ?_
  show o73_2.go _ _ _ = _
  have g : ¬ (k : Int) < (i : Int) := by omega
  simp only [o73_2, TT, Nat.reduceEqDiff, ↓reduceIte, g]
 | n + 1, k, hk => by
  have ih := qfL hl z x2 x3 x4 i hi hne n (k + 1) (by omega)
  have hlt : k < l.length := by omega
  have g : (k : Int) < (i : Int) := by omega
  have g0 : (0 : Int) ≤ (k : Int) := by omega
  have w := qaE (i := k) (n := 100) (by omega) (by omega)
  have w2 : wr (0 + (k : Int)) = (k : Int) := by rw [qag (by omega) (by omega)]; omega
  have hn : ¬ l[k].net = l[i].net := hne k (by omega)
  refine qab trA ?_
  show o73_2.go _ _ _ = _
  simp only [o73_2, go_more, TT, Nat.reduceEqDiff, ↓reduceIte, g, g0, w2, Int.toNat_natCast, qbP l k hlt, Way.v, hn, w, ih]
theorem qgm {l : List Way} (hs : l.Sublist ways0) (z : Bool) : ∀ (n i : Nat), i + n = l.length → fin trA 879 [B z, I (l.length : Int), I i] [qaK l] = some (0, [], [])
 | 0, i, hi => by
  refine qab trA ?_
  show o73_0.go _ _ _ = _
  have g : ¬ (i : Int) < (l.length : Int) := by omega
  simp only [o73_0, TT, Nat.reduceEqDiff, ↓reduceIte, g]
 | n + 1, i, hi => by
  have ih := qgm hs z n (i + 1) (by omega)
  have hl : l.length ≤ 5 := by have := hs.length_le; simpa [ways0] using this
  have hlt : i < l.length := by omega
  have g : (i : Int) < (l.length : Int) := by omega
  have g0 : (0 : Int) ≤ (i : Int) := by omega
  have g3 : (i : Int) ≤ (l.length : Int) := by omega
  have w := qaE (i := i) (n := 100) (by omega) (by omega)
  have w0 : wr ((i : Int) - 0) = (i : Int) := by rw [qag (by omega) (by omega)]; omega
  obtain ⟨b1, b2, b3, b4, s, b5, b6, b7⟩ := ways0_ok (hs.subset (List.getElem_mem hlt))
  have hp0 : ways0.Pairwise fun x y => x.net ≠ y.net := by decide
  have hp : l.Pairwise fun x y => x.net ≠ y.net := hp0.sublist hs
  have e2 := qfL (show l.length ≤ 8 by omega) z l[i].bits l[i].to (l.length : Int) i hlt (fun j hj => List.pairwise_iff_getElem.1 hp j i (by omega) hlt hj) i 0 (by omega)
  rw [show ((0 : Nat) : Int) = 0 from rfl] at e2
  refine qab trA ?_
  show o73_0.go _ _ _ = _
  simp only [o73_0, go_more, TT, Nat.reduceEqDiff, ↓reduceIte, qaZ, g, g0, Int.toNat_natCast, qbP l i hlt, Way.v, i_in, b1, b2, b3, b4, b5, b6, b7, ne_eq, not_false_eq_true, not_true_eq_false, Int.le_refl, g3, w0, e2, w, ih]
theorem i_routesOk {l : List Way} (hs : l.Sublist ways0) : fin trA 880 [] [qaK l] = some (0, [B true], []) := by
 have e := qgm hs false l.length 0 (by omega)
 rw [show ((0 : Nat) : Int) = 0 from rfl] at e
 have hl : l.length ≤ 5 := by have := hs.length_le; simpa [ways0] using this
 have g : (l.length : Int) ≤ 8 := by omega
 refine qab trA ?_
 show o73.go _ _ _ = _
 simp only [o73, go_more, TT, Nat.reduceEqDiff, ↓reduceIte, qaZ, e, g]
def openL (l : List Se) : List Se := l.filter fun s => decide (s.state = 2)
theorem nodup_len {xs ys : List Int} (hx : xs.Nodup) (hy : ys.Nodup) (h : ∀ z, z ∈ xs ↔ z ∈ ys) : xs.length = ys.length :=
 ((List.perm_ext_iff_of_nodup hx hy).2 h).length_eq
theorem GtD.count {a : Ar} {g : Gt} (hg : GtD a g) : g.p.length = (openL g.l).length := by
 have h1 : (g.p.map Le.cid).Nodup := by
  have := hg.pool.unlike
  rw [List.Nodup, List.pairwise_map]
  exact this
 have h2 : ((openL g.l).map Se.cid).Nodup := by
  have := hg.cids.sublist (List.filter_sublist (p := fun s => decide (s.state = 2)) (l := g.l))
  rw [List.Nodup, List.pairwise_map]
  exact this
 have h := nodup_len h1 h2 (fun z => by
  constructor
  ·intro hz
   obtain ⟨e, he, rfl⟩ := List.mem_map.1 hz
   obtain ⟨s, hs, h3, h4⟩ := hg.opened e he
   exact List.mem_map.2 ⟨s, List.mem_filter.2 ⟨hs, by simp [h3]⟩, h4⟩
  ·intro hz
   obtain ⟨s, hs, rfl⟩ := List.mem_map.1 hz
   obtain ⟨h3, h4⟩ := List.mem_filter.1 hs
   obtain ⟨e, he, h5⟩ := hg.leased s h3 (by simpa using h4)
   exact List.mem_map.2 ⟨e, he, h5⟩)
 simpa using h
theorem qfJ {a : Ar} (ha : AOk a) {g : Gt} (hg : GtD a g) (z : Bool) : ∀ (n i c : Nat), i + n = g.l.length → c ≤ i → fin trA 230 [I g.name, I g.next, I g.drops, B z, I c, I (g.l.length : Int), I i] [qae a, qas g.l, qaz g.p, qaK g.w, qaP g.o] = some (0, [I ((c + (openL (g.l.drop i)).length : Nat) : Int)], [])
 | 0, i, c, hi, hc => by
  refine qab trA ?_
  show o19_0.go _ _ _ = _
  have gn : ¬ (i : Int) < (g.l.length : Int) := by omega
  rw [List.drop_eq_nil_of_le (by omega)]
  simp only [o19_0, TT, Nat.reduceEqDiff, ↓reduceIte, gn, openL, List.filter_nil, List.length_nil, Nat.add_zero]
 | n + 1, i, c, hi, hc => by
  have few := hg.few; have pf := hg.pool.few
  have hlt : i < g.l.length := by omega
  have hm := List.getElem_mem hlt
  have hs := hg.sess _ hm
  have gn : (i : Int) < (g.l.length : Int) := by omega
  have g0 : (0 : Int) ≤ (i : Int) := by omega
  have w := qaE (i := i) (n := 100) (by omega) (by omega)
  have hnx := hg.next
  have wn : wr (g.next - 1) = g.next - 1 := qag (by omega) (by omega)
  have b1 : inB g.l[i].cid 1 (g.next - 1) = true := by
   have := hs.cid; have := hg.below _ hm
   simp [inB]; omega
  have e1 := i_sessAt (l := g.l) (by omega) hg.cids hlt g.name g.next g.drops (qaz g.p) (qaK g.w) (qaP g.o)
  have b2 : inB g.l[i].state 1 2 = true := by have := hs.state; simp [inB]; omega
  refine qab trA ?_
  show o19_0.go _ _ _ = _
  rw [List.drop_eq_getElem_cons hlt]
  by_cases h1 : g.l[i].state = 1
  ·have ih := qfJ ha hg z n (i + 1) c (by omega) (by omega)
   have hd : ¬ g.l[i].state = 2 := by omega
   have ho : openL (g.l[i] :: g.l.drop (i + 1)) = openL (g.l.drop (i + 1)) := by unfold openL; rw [List.filter_cons_of_neg (by simp [hd])]
   rw [ho]
   simp only [o19_0, go_more, TT, Nat.reduceEqDiff, ↓reduceIte, qaf, gn, g0, Int.toNat_natCast, qal g.l i hlt, Se.v, i_in, wn, b1, e1, ne_eq, not_true_eq_false, h1, show inB 1 1 2 = true from rfl, w, ih]
  ·have h2 : g.l[i].state = 2 := by have := hs.state; omega
   have ih := qfJ ha hg z n (i + 1) (c + 1) (by omega) (by omega)
   have ho : openL (g.l[i] :: g.l.drop (i + 1)) = g.l[i] :: openL (g.l.drop (i + 1)) := by unfold openL; rw [List.filter_cons_of_pos (by simp [h2])]
   rw [ho, List.length_cons, show c + ((openL (g.l.drop (i + 1))).length + 1) = c + 1 + (openL (g.l.drop (i + 1))).length by omega]
   have wc : wr ((c : Int) + 1) = ((c + 1 : Nat) : Int) := qaE (n := 100) (by omega) (by omega)
   have e2 := i_chanOk ha (hs.ch h2)
   have e3 := i_placeOf (l := g.p) (by omega) g.l[i].cid
   have hp := placeFrom_pos hg.pool (hg.leased _ hm h2)
   simp only [Ch.v] at e2
   simp only [o19_0, go_more, TT, Nat.reduceEqDiff, ↓reduceIte, qaf, gn, g0, Int.toNat_natCast, qal g.l i hlt, Se.v, i_in, wn, b1, e1, ne_eq, not_true_eq_false, b2, h1, e2, e3, hp, w, wc, ih]
theorem i_gateOk {a : Ar} (ha : AOk a) {g : Gt} (hg : GtD a g) (hs : g.w.Sublist ways0) : fin trA 231 [I g.name, I g.next, I g.drops] [qae a, qas g.l, qaz g.p, qaK g.w, qaP g.o] = some (0, [B true], []) := by
 have few := hg.few; have outs := hg.outs; have hn := hg.name; have hnx := hg.next
 have b1 : inB g.name 0 9 = true := by simp [inB]; omega
 have b2 : inB g.next 1 9999 = true := by simp [inB]; omega
 have g1 : ¬ (3 : Int) < (g.l.length : Int) := by omega
 have g2 : ¬ (50 : Int) < (g.o.length : Int) := by omega
 have e1 := qfJ ha hg false g.l.length 0 0 (by omega) (Nat.le_refl 0)
 rw [List.drop_zero, Nat.zero_add, ← hg.count, show ((0 : Nat) : Int) = 0 from rfl] at e1
 have e2 := i_poolOk hg.pool
 have e3 := i_routesOk hs
 refine qab trA ?_
 show o19.go _ _ _ = _
 simp only [o19, go_more, TT, Nat.reduceEqDiff, ↓reduceIte, i_in, b1, b2, qaf, qbR, qar, gt_iff_lt, g1, g2, e1, e2, e3]
theorem f_places0 {b : Rw} (hb : Bys b) (z : Rw) : ∀ (d k : Nat) (i : Nat) (h : Int) (out : List Int), k + d = 12 → out.length = k → (∀ x ∈ out, 0 ≤ x ∧ x < 10000) → ∃ (i' : Nat) (h' : Int) (ps : List Int), ps.length = 12 ∧ (∀ x ∈ ps, 0 ≤ x ∧ x < 10000) ∧ fin trA 110 [I i, I h, I k] [z, b, qai out] = some (0, [I i', I h'], [qai ps])
 | 0, k, i, h, out, hk, ho, hx => by
  refine ⟨i, h, out, by omega, hx, qab trA ?_⟩
  show o9_0.go _ _ _ = _
  have g : ¬ (k : Int) < 12 := by omega
  simp only [o9_0, TT, Nat.reduceEqDiff, ↓reduceIte, g]
 | d + 1, k, i, h, out, hk, ho, hx => by
  have g : (k : Int) < 12 := by omega
  have w := qaE (i := k) (n := 100) (by omega) (by omega)
  obtain ⟨i1, h1, x, e1, r1, r2⟩ := qaI hb i h (n := 10000) (by omega)
  obtain ⟨i2, h2, ps, q1, q2, e2⟩ := f_places0 hb z d (k + 1) i1 h1 (out ++ [x]) (by omega) (by simp; omega) (fun y hy => by
   rcases List.mem_append.1 hy with hy | hy
   ·exact hx y hy
   ·have : y = x := List.mem_singleton.1 hy
    rw [this]; exact ⟨r1, r2⟩)
  have q : qai out ++ [[Value.int .i64 x]] = qai (out ++ [x]) := by simp [qai]
  have g2 : ((out ++ [x]).length : Int) ≤ 100000000 := by simp; omega
  refine ⟨i2, h2, ps, q1, q2, qab trA ?_⟩
  show o9_0.go _ _ _ = _
  simp only [o9_0, TT, Nat.reduceEqDiff, ↓reduceIte, g, e1, q, encI_len, g2, w, e2]
theorem f_places {b : Rw} (hb : Bys b) : ∃ ps : List Int, ps.length = 12 ∧ (∀ x ∈ ps, 0 ≤ x ∧ x < 10000) ∧ fin trA 111 [] [b] = some (0, [], [qai ps]) := by
 obtain ⟨h1, e1⟩ := f_new hb
 obtain ⟨i2, h2, x, e2, _⟩ := qhb hb 0 h1
 obtain ⟨i3, h3, ps, q1, q2, e3⟩ := f_places0 hb [] 12 0 i2 h2 [] rfl rfl (fun x hx => by cases hx)
 rw [show ((0 : Nat) : Int) = 0 from rfl] at e2 e3
 have e3 : fin trA 110 [I i2, I h2, I 0] [[], b, []] = some (0, [I i3, I h3], [qai ps]) := e3
 refine ⟨ps, q1, q2, qab trA ?_⟩
 show o9.go _ _ _ = _
 simp only [o9, TT, Nat.reduceEqDiff, ↓reduceIte, e1, e2, e3]
section
variable {a : Ar} (ha : AOk a)
include ha
theorem w_atom {n : Int} (h0 : 0 ≤ n) (h1 : n ≤ 999999) (hr : a.length + 1 ≤ 3000) : ∃ a' k, fin trA 122 [I n] [qae a] = some (0, [I k], [qae a']) ∧ Ext a a' 1 ∧ Den a' k (.atom n) := by
 obtain ⟨a', k, e, x, d⟩ := qap ha h0 h1 hr
 have e0 := qfS a ha.le
 have nk : ¬ k < 0 := by have := d.nonneg; omega
 refine ⟨a', k, qab trA ?_, x, d⟩
 show o10.go _ _ _ = _
 simp only [o10, TT, Nat.reduceEqDiff, ↓reduceIte, e0, e, nk]
theorem w_pub {x : Int} {t : Tm'} (hx : Den a x t) (hr : a.length + 1 ≤ 3000) : ∃ a' k, fin trA 134 [I 6, I x, I 0] [qae a] = some (0, [I k], [qae a']) ∧ Ext a a' 1 ∧ Den a' k (.pub t) := by
 obtain ⟨a', k, e, ex, d⟩ := qbp (c := 6) (y := 0) ha (by omega) hx (by omega) hr
 have e0 := qfS a ha.le
 have nk : ¬ k < 0 := by have := d.nonneg; omega
 refine ⟨a', k, qab trA ?_, ex, d⟩
 show o11.go _ _ _ = _
 simp only [o11, TT, Nat.reduceEqDiff, ↓reduceIte, e0, e, nk]
theorem w_kept {a' : Ar} {k : Int} (hk : 0 ≤ k) : fin trA 566 [I k] [qae a, qae a'] = some (0, [], [qae a']) := by
 have nk : ¬ k < 0 := by omega
 refine qab trA ?_
 show o47.go _ _ _ = _
 simp only [o47, TT, Nat.reduceEqDiff, ↓reduceIte, nk]
theorem w_hello {c p m n : Int} {C P : Tm'} (hc : Den a c C) (hp : Den a p P) (hm : 0 ≤ m ∧ m ≤ 900000) (hn : 0 ≤ n ∧ n ≤ 900000) (hr : a.length + 9 ≤ 3000) : ∃ a' k, fin trA 146 [I m, I n, I c, I p] [qae a] = some (0, [I k], [qae a']) ∧ Ext a a' 9 ∧ Den a' k (helloT m n C P) := by
 obtain ⟨a', k, e, ex, d⟩ := qeZ ha hc hp hm.1 hm.2 hn.1 hn.2 hr
 have e0 := qfS a ha.le
 have e1 := w_kept ha (a' := a') d.nonneg
 refine ⟨a', k, qab trA ?_, ex, d⟩
 show o12.go _ _ _ = _
 simp only [o12, TT, Nat.reduceEqDiff, ↓reduceIte, e0, e, e1]
theorem w_letter {x y n : Int} {t u : Tm'} (hx : Den a x t) (hy : Den a y u) (hn : 0 ≤ n ∧ n ≤ 900000) (hr : a.length + 5 ≤ 3000) : ∃ a' k, fin trA 158 [I n] [qae a, [[I x], [I y]]] = some (0, [I k], [qae a']) ∧ Ext a a' 5 ∧ Den a' k (letterT n [t, u]) := by
 obtain ⟨a', k, e, ex, d⟩ := qbb ha hx hy hn.1 hn.2 hr
 have e0 := qfS a ha.le
 have e1 := w_kept ha (a' := a') d.nonneg
 refine ⟨a', k, qab trA ?_, ex, d⟩
 show o13.go _ _ _ = _
 simp only [o13, TT, Nat.reduceEqDiff, ↓reduceIte, e0, e, e1]
end
theorem f_law0 {w : Wd} (ha : AOk w.a) (hg : GtD w.a w.g) (z : Bool) (x4 x5 y1 y2 y3 : Int) (r1 r2 r7 r8 r9 r10 r11 r12 r13 r14 q1 q2 q3 q4 : Rw) : ∀ (d i : Nat), i + d = w.g.l.length →
  fin trA 38 [B z, I w.g.name, I w.g.next, I w.g.drops, I x4, I x5, I y1, I y2, I y3, I i] [qae w.a, r1, r2, qas w.g.l, qaz w.g.p, qaK w.g.w, qaP w.g.o, r7, r8, r9, r10, r11, r12, r13, r14, q1, q2, q3, q4] = some (0, [], [])
 | 0, i, hi => by
  refine qab trA ?_
  show o3_0.go _ _ _ = _
  have g : ¬ (i : Int) < (w.g.l.length : Int) := by omega
  simp only [o3_0, TT, Nat.reduceEqDiff, ↓reduceIte, qaf, g]
 | d + 1, i, hi => by
  have ih := f_law0 ha hg z x4 x5 y1 y2 y3 r1 r2 r7 r8 r9 r10 r11 r12 r13 r14 q1 q2 q3 q4 d (i + 1) (by omega)
  have few := hg.few; have pf := hg.pool.few
  have hlt : i < w.g.l.length := by omega
  have g : (i : Int) < (w.g.l.length : Int) := by omega
  have g0 : (0 : Int) ≤ (i : Int) := by omega
  have wi := qaE (i := i) (n := 100) (by omega) (by omega)
  have e1 := f_placeOf (l := w.g.p) (by omega) w.g.l[i].cid
  have e2 := i_fwd ha hg w.g.l[i].cid
  refine qab trA ?_
  show o3_0.go _ _ _ = _
  simp only [o3_0, go_more, TT, Nat.reduceEqDiff, ↓reduceIte, qaf, g, g0, Int.toNat_natCast, qal w.g.l i hlt, Se.v, e1, e2, List.length_nil, gt_iff_lt, Int.lt_irrefl, show ((0 : Nat) : Int) = 0 from rfl, ne_eq, not_true_eq_false, wi, ih]
theorem f_law {b : Rw} (hb : ∀ e ∈ b, ∃ x : Int, e = [.int .u8 x]) : fin trA 39 [] [b] = some (0, [B true], []) := by
 by_cases hbig : (1048576 : Int) < (b.length : Int)
 ·have e0 : fin trA 86 [] [b] = some (0, [B true], []) := by
   refine qab trA ?_
   show o7.go _ _ _ = _
   simp only [o7, TT, Nat.reduceEqDiff, ↓reduceIte, hbig]
  refine qab trA ?_
  show o3.go _ _ _ = _
  simp only [o3, TT, Nat.reduceEqDiff, ↓reduceIte, e0]
 have e0 : fin trA 86 [] [b] = some (0, [B false], []) := by
  refine qab trA ?_
  show o7.go _ _ _ = _
  simp only [o7, TT, Nat.reduceEqDiff, ↓reduceIte, hbig]
 have hB : Bys b := ⟨by omega, hb⟩
 obtain ⟨w, m, ws, hm, hws, hS, e1⟩ := f_drawSome hB
 obtain ⟨ps, hpl, hpb, e2⟩ := f_places hB
 have hI := hS.inv
 have few := hI.few
 have hp0 := hpb (ps[0]'(by omega)) (List.getElem_mem (by omega))
 have hp1 := hpb (ps[1]'(by omega)) (List.getElem_mem (by omega))
 have p0 := qaj ps 0 (by omega)
 have p1 := qaj ps 1 (by omega)
 obtain ⟨u0, hu0⟩ : ∃ u : Int, ps[0]'(by omega) = u := ⟨_, rfl⟩
 obtain ⟨u1, hu1⟩ : ∃ u : Int, ps[1]'(by omega) = u := ⟨_, rfl⟩
 rw [hu0] at hp0 p0
 rw [hu1] at hp1 p1
 obtain ⟨a1, k1, f1, x1, d1⟩ := w_atom hI.ok (n := 40001) (by omega) (by omega) (by omega)
 have l1 := x1.len
 obtain ⟨a2, k2, f2, x2, d2⟩ := w_atom x1.ok (n := 40000) (by omega) (by omega) (by omega)
 have l2 := x2.len
 obtain ⟨a3, k3, f3, x3, d3⟩ := w_pub x2.ok d2 (by omega)
 have l3 := x3.len
 have t0 := Int.tmod_nonneg (a := u0) 2 hp0.1
 have t0' := Int.tmod_lt_of_pos u0 (show (0 : Int) < 2 by omega)
 have t1 := Int.tmod_nonneg (a := u1) 10 hp1.1
 have t1' := Int.tmod_lt_of_pos u1 (show (0 : Int) < 10 by omega)
 have w0 : wr (1 + u0.tmod 2) = 1 + u0.tmod 2 := qag (by omega) (by omega)
 obtain ⟨a4, k4, f4, x4, d4⟩ := w_hello x3.ok (m := 1 + u0.tmod 2) (n := u1.tmod 10) (d1.mono (x2.pre.trans x3.pre)) d3 (by omega) (by omega) (by omega)
 have l4 := x4.len
 obtain ⟨a5, k5, f5, x5, d5⟩ := w_atom x4.ok (n := 0) (by omega) (by omega) (by omega)
 have l5 := x5.len
 obtain ⟨a6, k6, f6, x6, d6⟩ := w_letter x5.ok (n := 71) (d4.mono x5.pre) d5 (by omega) (by omega)
 have l6 := x6.len
 have hx6 : w.a <+: a6 := x1.pre.trans (x2.pre.trans (x3.pre.trans (x4.pre.trans (x5.pre.trans x6.pre))))
 have hg6 := hI.gate.mono hx6
 have h5 : 5 ≤ a6.length := by
  have c1 := (d1.mono (x2.pre.trans (x3.pre.trans (x4.pre.trans (x5.pre.trans x6.pre)))))
  have c2 := (d2.mono (x3.pre.trans (x4.pre.trans (x5.pre.trans x6.pre))))
  have c3 := (d3.mono (x4.pre.trans (x5.pre.trans x6.pre)))
  have c4 := (d4.mono (x5.pre.trans x6.pre))
  have ne : ∀ {x y : Int} {t u : Tm'}, Den a6 x t → Den a6 y u → t ≠ u → x ≠ y := fun hx hy hne h => hne (by subst h; exact hx.fun hy)
  have b1 := c1.notOut; have b2 := c2.notOut; have b3 := c3.notOut; have b4 := c4.notOut; have b6 := d6.notOut
  have n12 := ne c1 c2 (by intro h; cases h)
  have n13 := ne c1 c3 (by intro h; cases h)
  have n14 := ne c1 c4 (by intro h; cases h)
  have n16 := ne c1 d6 (by intro h; cases h)
  have n23 := ne c2 c3 (by intro h; cases h)
  have n24 := ne c2 c4 (by intro h; cases h)
  have n26 := ne c2 d6 (by intro h; cases h)
  have n34 := ne c3 c4 (by intro h; cases h)
  have n36 := ne c3 d6 (by intro h; cases h)
  have n46 := ne c4 d6 (by intro h; cases h)
  omega
 obtain ⟨a7, t', f7, x7, d7⟩ := i_hear x6.ok hg6 (fun s hs h => by have := hI.gaddr s hs; omega) (now := w.now) (m := 1 + u0.tmod 2) (nm := u1.tmod 10) (x := 40001) (p := .atom 40000) (by omega) (by omega) (by omega) d6 h5 (by omega)
 have f8 := s_gate hI.gate
 have s1 := qfx x7.ok d7
 have s2 := qfx x7.ok (d6.mono x7.pre)
 have s3 := qfx x7.ok (d4.mono (x5.pre.trans (x6.pre.trans x7.pre)))
 have z1 : qaT (letterT 72 [cookieT 9000 50 (helloT (1 + u0.tmod 2) (u1.tmod 10) (.atom 40001) (.pub (.atom 40000)))]) = 23 := by simp [qaT, letterT, cookieT, helloT, Tm'.list, Tm'.mac, Tm'.hash, Tm'.pub, Tm'.pair, qbh]
 have z2 : qaT (letterT 71 [helloT (1 + u0.tmod 2) (u1.tmod 10) (.atom 40001) (.pub (.atom 40000)), .atom 0]) = 18 := by simp [qaT, letterT, helloT, Tm'.list, Tm'.pub, Tm'.pair, qbh]
 have z3 : qaT (helloT (1 + u0.tmod 2) (u1.tmod 10) (.atom 40001) (.pub (.atom 40000))) = 12 := by simp [qaT, helloT, Tm'.list, Tm'.pub, Tm'.pair, qbh]
 rw [z1] at s1
 rw [z2] at s2
 rw [z3] at s3
 have f9 := f_law0 hI.ok hI.gate false w.now w.draw w.g.name w.g.next w.g.drops (qbB w.cs) (qai w.ad) (qbk w.net) (qai w.known) (qai w.taken) (qaw w.begun) (qaw w.dn) (qaw w.sent) (qaw w.got) (qai w.codes) (qas w.g.l) (qaz w.g.p) (qaK w.g.w) (qaP w.g.o) w.g.l.length 0 (by omega)
 rw [show ((0 : Nat) : Int) = 0 from rfl] at f9
 have f10 := i_gateOk hI.ok hI.gate (by rw [hS.ways]; exact hws)
 have g1 : (0 : Int) < (ps.length : Int) := by omega
 have g2 : (1 : Int) < (ps.length : Int) := by omega
 have wz : wr (18 + 12) = 30 := by rw [qag (by omega) (by omega)]; rfl
 refine qab trA ?_
 simp only [Wd.vs, Wd.rs] at e1
 show o3.go _ _ _ = _
 simp only [o3, go_more, TT, Nat.reduceEqDiff, ↓reduceIte, e0, e1, e2, f1, f2, f3, encI_len, g1, g2, Int.le_refl, Int.reduceLE, Int.toNat_zero, Int.toNat_one, p0, p1, w0, f4, f5, f6, f7, f8, s1, s2, s3, wz, List.length_cons, List.length_nil, Nat.zero_add, Int.cast_ofNat_Int, ne_eq, not_true_eq_false, Int.reduceLT, gt_iff_lt, Int.reduceGT, Int.reduceEq, f9, f10]
end Go.Proofs.YtipomcnbjlfekaaGreat.Rs
