import Derived.Test.YtipomcnbjlfekaaRsC
/- Terms that places stand for; what is put stays. -/
namespace Go.Proofs.Ytipomcnbjlfekaa.Rs
open Go.RowKit
set_option linter.unusedVariables false
set_option linter.unusedSimpArgs false
set_option maxRecDepth 100000
/-- An arena is right: nodes right at their places, none twice. -/
structure AOk (a : Ar) : Prop where
  right : ∀ (i : Nat) (n : Nd), a[i]? = some n → n.right i = true
  once : ∀ (i j : Nat) (n : Nd), a[i]? = some n → a[j]? = some n → i = j
inductive Tm' where
  | atom (n : Int)
  | un (k : Int) (t : Tm')
  | bin (k : Int) (t u : Tm')
deriving DecidableEq
/-- The place k stands for a term. -/
def Den (a : Ar) : Int → Tm' → Prop
  | k, .atom n => 0 ≤ k ∧ a[k.toNat]? = some ⟨1, n, 0, 0⟩
  | k, .un c t => 0 ≤ k ∧ ∃ i, a[k.toNat]? = some ⟨c, 0, i, 0⟩ ∧ (c = 3 ∨ c = 6) ∧ Den a i t
  | k, .bin c t u => 0 ≤ k ∧ ∃ i j, a[k.toNat]? = some ⟨c, 0, i, j⟩ ∧ (c = 2 ∨ c = 4 ∨ c = 5 ∨ c = 7 ∨ c = 8 ∨ c = 9) ∧ Den a i t ∧ Den a j u
theorem Den.nonneg {a : Ar} {k : Int} : ∀ {t}, Den a k t → 0 ≤ k
  | .atom _, h => h.1
  | .un .., h => h.1
  | .bin .., h => h.1
theorem Den.lt {a : Ar} {k : Int} {t : Tm'} (h : Den a k t) : k.toNat < a.length := by
  cases t with
  | atom n => exact (List.getElem?_eq_some_iff.1 h.2).1
  | un c t => obtain ⟨_, i, h, _⟩ := h; exact (List.getElem?_eq_some_iff.1 h).1
  | bin c t u => obtain ⟨_, i, j, h, _⟩ := h; exact (List.getElem?_eq_some_iff.1 h).1
theorem pre_get {a a' : Ar} (h : a <+: a') {i : Nat} {n : Nd} (hi : a[i]? = some n) : a'[i]? = some n := by
  obtain ⟨s, rfl⟩ := h
  rw [List.getElem?_append_left (List.getElem?_eq_some_iff.1 hi).1, hi]
theorem Den.mono {a a' : Ar} (h : a <+: a') : ∀ {t : Tm'} {k : Int}, Den a k t → Den a' k t
  | .atom n, k, ⟨h0, h1⟩ => ⟨h0, pre_get h h1⟩
  | .un c t, k, ⟨h0, i, h1, hc, h2⟩ => ⟨h0, i, pre_get h h1, hc, h2.mono h⟩
  | .bin c t u, k, ⟨h0, i, j, h1, hc, h2, h3⟩ => ⟨h0, i, j, pre_get h h1, hc, h2.mono h, h3.mono h⟩
/-- A place stands for one term. -/
theorem Den.fun {a : Ar} : ∀ {t t' : Tm'} {k : Int}, Den a k t → Den a k t' → t = t'
  | .atom n, .atom n', k, h, h' => by have := h.2.symm.trans h'.2; simp at this; rw [this]
  | .atom n, .un c t, k, h, ⟨_, i, h1, hc, _⟩ => by have := h.2.symm.trans h1; simp at this; omega
  | .atom n, .bin c t u, k, h, ⟨_, i, j, h1, hc, _⟩ => by have := h.2.symm.trans h1; simp at this; omega
  | .un c t, .atom n, k, ⟨_, i, h1, hc, _⟩, h => by have := h.2.symm.trans h1; simp at this; omega
  | .bin c t u, .atom n, k, ⟨_, i, j, h1, hc, _⟩, h => by have := h.2.symm.trans h1; simp at this; omega
  | .un c t, .un c' t', k, ⟨_, i, h1, hc, h2⟩, ⟨_, i', h1', hc', h2'⟩ => by
    have := h1.symm.trans h1'; simp at this
    obtain ⟨rfl, rfl⟩ := this
    rw [h2.fun h2']
  | .un c t, .bin c' t' u', k, ⟨_, i, h1, hc, h2⟩, ⟨_, i', j', h1', hc', _⟩ => by have := h1.symm.trans h1'; simp at this; omega
  | .bin c t u, .un c' t', k, ⟨_, i, j, h1, hc, _⟩, ⟨_, i', h1', hc', _⟩ => by have := h1.symm.trans h1'; simp at this; omega
  | .bin c t u, .bin c' t' u', k, ⟨_, i, j, h1, hc, h2, h3⟩, ⟨_, i', j', h1', hc', h2', h3'⟩ => by
    have := h1.symm.trans h1'; simp at this
    obtain ⟨rfl, rfl, rfl⟩ := this
    rw [h2.fun h2', h3.fun h3']
/-- A term stands at one place. -/
theorem Den.inj {a : Ar} (ha : AOk a) : ∀ {t : Tm'} {k k' : Int}, Den a k t → Den a k' t → k = k'
  | .atom n, k, k', h, h' => by have := ha.once _ _ _ h.2 h'.2; have := h.1; have := h'.1; omega
  | .un c t, k, k', ⟨h0, i, h1, hc, h2⟩, ⟨h0', i', h1', hc', h2'⟩ => by
    obtain rfl := h2.inj ha h2'
    have := ha.once _ _ _ h1 h1'; omega
  | .bin c t u, k, k', ⟨h0, i, j, h1, hc, h2, h3⟩, ⟨h0', i', j', h1', hc', h2', h3'⟩ => by
    obtain rfl := h2.inj ha h2'
    obtain rfl := h3.inj ha h3'
    have := ha.once _ _ _ h1 h1'; omega
/-- An arena that grew by at most c. -/
structure Ext (a a' : Ar) (c : Nat) : Prop where
  pre : a <+: a'
  ok : AOk a'
  len : a'.length ≤ a.length + c
theorem Ext.refl {a : Ar} (h : AOk a) : Ext a a 0 := ⟨List.prefix_refl _, h, by omega⟩
theorem Ext.trans {a b c : Ar} {m n : Nat} (h : Ext a b m) (h' : Ext b c n) : Ext a c (m + n) := ⟨h.pre.trans h'.pre, h'.ok, by have := h.len; have := h'.len; omega⟩
theorem Ext.le {a b : Ar} {m n : Nat} (h : Ext a b m) (hn : m ≤ n) : Ext a b n := ⟨h.pre, h.ok, by have := h.len; omega⟩
theorem atFrom_some {n : Nd} : ∀ {l : Ar} {i j : Int}, atFrom n l i = some j → i ≤ j ∧ l[(j - i).toNat]? = some n
  | x :: l, i, j, h => by
    unfold atFrom at h
    split at h
    · rename_i hx; cases h; subst hx; simp
    · obtain ⟨h1, h2⟩ := atFrom_some h
      refine ⟨by omega, ?_⟩
      rw [show (j - i).toNat = (j - (i + 1)).toNat + 1 by omega, List.getElem?_cons_succ, h2]
theorem atFrom_none {n : Nd} : ∀ {l : Ar} {i : Int}, atFrom n l i = none → ∀ j : Nat, l[j]? ≠ some n
  | [], i, h, j => by simp
  | x :: l, i, h, j => by
    unfold atFrom at h
    split at h
    · cases h
    · rename_i hx
      cases j with
      | zero => simpa using hx
      | succ j => simpa using atFrom_none h j
/-- What is put: it stands where it is told. -/
theorem put_ok {a : Ar} {n : Nd} (ha : AOk a) (hn : n.right a.length = true) (hl : a.length < 3000) : Ext a (put a n).1 1 ∧ 0 ≤ (put a n).2 ∧ (put a n).1[(put a n).2.toNat]? = some n := by
  unfold put
  rw [hn, if_neg (by simp)]
  unfold at_
  cases e : atFrom n a 0 with
  | some j =>
    obtain ⟨h1, h2⟩ := atFrom_some e
    rw [Option.getD_some, if_pos (.inl h1)]
    refine ⟨(Ext.refl ha).le (by omega), h1, ?_⟩
    simpa using h2
  | none =>
    have h := atFrom_none e
    rw [Option.getD_none, if_neg (by omega)]
    refine ⟨⟨List.prefix_append _ _, ⟨fun i m hi => ?_, fun i j m hi hj => ?_⟩, by simp⟩, by simp, by simp⟩
    · rcases Nat.lt_trichotomy i a.length with g | g | g
      · rw [List.getElem?_append_left g] at hi; exact ha.right i m hi
      · subst g; simp at hi; subst hi; exact hn
      · rw [List.getElem?_eq_none (by simp; omega)] at hi; cases hi
    · have key : ∀ (i : Nat), (a ++ [n])[i]? = some m → (i < a.length ∧ a[i]? = some m) ∨ (i = a.length ∧ m = n) := fun i hi => by
        rcases Nat.lt_trichotomy i a.length with g | g | g
        · rw [List.getElem?_append_left g] at hi; exact .inl ⟨g, hi⟩
        · subst g; simp at hi; exact .inr ⟨rfl, hi.symm⟩
        · rw [List.getElem?_eq_none (by simp; omega)] at hi; cases hi
      rcases key i hi with ⟨_, pi⟩ | ⟨pi, qi⟩ <;> rcases key j hj with ⟨_, pj⟩ | ⟨pj, qj⟩
      · exact ha.once i j m pi pj
      · rw [qj] at pi; exact absurd pi (h i)
      · rw [qi] at pj; exact absurd pj (h j)
      · omega
theorem put_atom {a : Ar} {n : Int} (ha : AOk a) (h0 : 0 ≤ n) (h1 : n ≤ 999999) (hl : a.length < 3000) : Ext a (put a ⟨1, n, 0, 0⟩).1 1 ∧ Den (put a ⟨1, n, 0, 0⟩).1 (put a ⟨1, n, 0, 0⟩).2 (.atom n) := by
  obtain ⟨h, h2, h3⟩ := put_ok (n := ⟨1, n, 0, 0⟩) ha (by simp [Nd.right, inB, h0, h1]) hl
  exact ⟨h, h2, h3⟩
theorem put_bin {a : Ar} {c x y : Int} {t u : Tm'} (ha : AOk a) (hc : c = 2 ∨ c = 4 ∨ c = 5 ∨ c = 7 ∨ c = 8 ∨ c = 9) (hx : Den a x t) (hy : Den a y u) (hl : a.length < 3000) : Ext a (put a ⟨c, 0, x, y⟩).1 1 ∧ Den (put a ⟨c, 0, x, y⟩).1 (put a ⟨c, 0, x, y⟩).2 (.bin c t u) := by
  have hx0 := hx.nonneg; have hx1 := hx.lt; have hy0 := hy.nonneg; have hy1 := hy.lt
  obtain ⟨h, h2, h3⟩ := put_ok (n := ⟨c, 0, x, y⟩) ha (by
    have e : wr ((a.length : Int) - 1) = (a.length : Int) - 1 := wr_id (by omega) (by omega)
    rcases hc with rfl | rfl | rfl | rfl | rfl | rfl <;> simp [Nd.right, inB, e, isOne] <;> omega) hl
  exact ⟨h, h2, x, y, h3, hc, hx.mono h.pre, hy.mono h.pre⟩
end Go.Proofs.Ytipomcnbjlfekaa.Rs
