/- Plain lists: what copies, comparisons and searches come to. No program in sight. -/
import Derived.Test.YtipomcnbjlfekaaRs18
namespace Go.Proofs.Ytipomcnbjlfekaa.Rs
open Go.RowKit
set_option linter.unusedVariables false
set_option linter.unusedSimpArgs false
abbrev i64 : CK := .n .i64
abbrev ks (n : Nat) : List CK := List.replicate n i64
theorem wrap64 {x : Int} (h0 : -9223372036854775808 ≤ x) (h1 : x ≤ 9223372036854775807) : IntKind.i64.wrap x = x := by
  rw [IntKind.wrap_i64]; omega
theorem setRw_set {L : Rw} {k z : Nat} {cs : List Value} (hc : cs.length = z) (h : ∀ e ∈ L, e.length = z) : setRw L k 0 cs = L.set k cs := by
  apply List.ext_getElem?
  intro i
  simp only [setRw, List.getElem?_modify, List.getElem?_set]
  by_cases e : k = i
  · subst e
    simp only [if_true]
    by_cases hk : k < L.length
    · rw [if_pos hk, List.getElem?_eq_getElem hk]
      have := h L[k] (List.getElem_mem _)
      simp [hc, this]
    · rw [if_neg hk, List.getElem?_eq_none (by omega)]
      rfl
  · simp [e]
theorem getD_mem {L : Rw} {k : Nat} (hk : k < L.length) : L.getD k [] ∈ L := by
  rw [List.getD_eq_getElem?_getD, List.getElem?_eq_getElem hk]
  exact List.getElem_mem _
/-- A copy, one element on. -/
theorem to_step {z k : Nat} {L0 L1 : Rw} {cs : List Value} (hcs : cs = L0.getD k []) (hk : k < L0.length) (hl : L1.length = L0.length) (h0 : ∀ e ∈ L0, e.length = z) (h1 : ∀ e ∈ L1, e.length = z) (ht : L1.take k = L0.take k) :
    (setRw L1 k 0 cs).length = L0.length ∧ (∀ e ∈ setRw L1 k 0 cs, e.length = z) ∧ (setRw L1 k 0 cs).take (k + 1) = L0.take (k + 1) := by
  have hc : cs.length = z := by rw [hcs]; exact h0 _ (getD_mem hk)
  rw [setRw_set hc h1]
  refine ⟨by simp [hl], fun e he => ?_, ?_⟩
  · rcases List.mem_or_eq_of_mem_set he with h | h
    · exact h1 e h
    · rw [h]; exact hc
  · rw [List.take_add_one, List.take_add_one, List.take_set_of_le (by omega), ht, List.getElem?_set_self (by omega), hcs, List.getD_eq_getElem?_getD, List.getElem?_eq_getElem hk]
    rfl
def toInv (z : Nat) (vs : List Value) (ls : List Rw) : Prop := ∃ (k : Nat) (L0 L1 : Rw), vs = [.int .i64 k] ∧ ls = [L0, L1] ∧ k ≤ L0.length ∧ L1.length = L0.length ∧ L0.length ≤ 100000000 ∧ (∀ e ∈ L0, e.length = z) ∧ (∀ e ∈ L1, e.length = z) ∧ L1.take k = L0.take k
def toPre (z : Nat) (vs : List Value) (ls : List Rw) : Prop := ∃ L0 : Rw, ls = [L0] ∧ L0.length ≤ 100000000 ∧ (∀ e ∈ L0, e.length = z)
theorem toInv_next {z k : Nat} {L0 L1 : Rw} {cs : List Value} {x : Value} (hcs : cs = L0.getD k []) (hk : k < L0.length) (hl : L1.length = L0.length) (hm : L0.length ≤ 100000000) (h0 : ∀ e ∈ L0, e.length = z) (h1 : ∀ e ∈ L1, e.length = z) (ht : L1.take k = L0.take k) (hx : x = .int .i64 (IntKind.i64.wrap ((k : Int) + 1))) :
    toInv z [x] [L0, setRw L1 k 0 cs] := by
  obtain ⟨a, b, c⟩ := to_step hcs hk hl h0 h1 ht
  refine ⟨k + 1, L0, _, ?_, rfl, by omega, a, hm, h0, b, c⟩
  rw [hx, wrap64 (by omega) (by omega)]
  rfl
theorem toInv_start {z : Nat} {L0 : Rw} {cs : List Value} (hcs : cs.length = z) (hm : L0.length ≤ 100000000) (h0 : ∀ e ∈ L0, e.length = z) : toInv z [.int .i64 0] [L0, List.replicate L0.length cs] :=
  ⟨0, L0, _, rfl, rfl, by omega, by simp, hm, h0, fun e he => by rw [List.eq_of_mem_replicate he]; exact hcs, by simp⟩
def mu0 (vs : List Value) (ls : List Rw) : Nat := (ls.getD 0 []).length - natOf (vs.getD 0 undef)
/-! ### Comparisons of what is the same -/
/-- Kinds that are the same at both. -/
theorem binV_neq_int (k : IntKind) (a : Int) : binV .neq (.int k a) (.int k a) = .bool false := by simp [binV]
/-! ### Searches -/
def cel (L : Rw) (k j : Nat) : Value := (L.getD k []).getD j undef
def First (L : Rw) (c : Value) (k : Nat) : Prop := k < L.length ∧ cel L k 0 = c ∧ ∀ j, j < k → cel L j 0 ≠ c
def Nowhere (L : Rw) (c : Value) : Prop := ∀ j, j < L.length → cel L j 0 ≠ c
theorem First.unique {L : Rw} {c : Value} {i k : Nat} (h : First L c i) (h' : First L c k) : i = k := by
  rcases Nat.lt_trichotomy i k with g | g | g
  · exact absurd h.2.1 (h'.2.2 i g)
  · exact g
  · exact absurd h'.2.1 (h.2.2 k g)
theorem First.some {L : Rw} {c : Value} {i : Nat} (h : First L c i) (h' : Nowhere L c) : False := h' i h.1 h.2.1
def IntRows (z : Nat) (L : Rw) : Prop := RowOk (ks z) L
theorem IntRows.len {z : Nat} {L : Rw} (h : IntRows z L) : ∀ e ∈ L, e.length = z := fun e he => by simpa [ks] using (h e he).1
theorem IntRows.at_ {z k j : Nat} {L : Rw} (h : IntRows z L) (hk : k < L.length) (hj : j < z) : ∃ a, cel L k j = .int .i64 a := by
  have hm := getD_mem hk
  have hl := h.len _ hm
  obtain ⟨_, h2⟩ := h _ hm
  have hj' : j < (L.getD k []).length := by omega
  obtain ⟨a, ha⟩ := h2 j i64 (L.getD k [])[j] (by rw [List.getElem?_replicate, if_pos hj]) (List.getElem?_eq_getElem hj')
  refine ⟨a, ?_⟩
  rw [cel, List.getD_eq_getElem?_getD, List.getElem?_eq_getElem hj']
  exact ha
def eqInv (z : Nat) (vs : List Value) (ls : List Rw) : Prop := ∃ (k : Nat) (L : Rw), vs = [.int .i64 k] ∧ ls = [L, L] ∧ k ≤ L.length ∧ L.length ≤ 100000000 ∧ IntRows z L
def eqPre (z : Nat) (vs : List Value) (ls : List Rw) : Prop := ∃ L : Rw, ls = [L, L] ∧ L.length ≤ 100000000 ∧ IntRows z L
/-! ### Marks -/
def intV : Value → Int
  | .int _ n => n
  | _ => 0
def markRow (z : Nat) (k : Int) : List Value := (List.range z).map fun (c : Nat) => .int .i64 (k + (c : Int))
def marks (z : Nat) : Int → Nat → Rw
  | _, 0 => []
  | k, n + 1 => markRow z k :: marks z (k + (z : Int)) n
theorem marks_length (z : Nat) : ∀ (n : Nat) (k : Int), (marks z k n).length = n
  | 0, _ => rfl
  | n + 1, k => by simp [marks, marks_length z n]
theorem markRow_length (z : Nat) (k : Int) : (markRow z k).length = z := by simp [markRow]
theorem marks_rows (z : Nat) : ∀ (n : Nat) (k : Int), IntRows z (marks z k n)
  | 0, _ => fun e he => by cases he
  | n + 1, k => fun e he => by
    rcases List.mem_cons.1 he with rfl | he
    · refine ⟨by simp [markRow], fun j k' u hj hu => ?_⟩
      obtain rfl : k' = i64 := by
        rw [List.getElem?_replicate] at hj
        split at hj
        · exact (Option.some.inj hj).symm
        · cases hj
      obtain ⟨c, _, rfl⟩ := List.mem_map.1 (List.mem_of_getElem? hu)
      exact ⟨_, rfl⟩
    · exact marks_rows z n _ e he
def upd (e : List Value) (j : Nat) (cs : List Value) : List Value := e.take j ++ (cs ++ e.drop (j + cs.length))
theorem setRw_upd (L : Rw) (k j : Nat) (e cs : List Value) : setRw (L.set k e) k j cs = L.set k (upd e j cs) := by
  apply List.ext_getElem?
  intro i
  simp only [setRw, List.getElem?_modify, List.getElem?_set, upd]
  by_cases h : k = i
  · subst h
    simp only [if_true]
    by_cases hk : k < L.length <;> simp [hk]
  · simp [h]
theorem set_self {L : Rw} {k : Nat} (hk : k < L.length) : L.set k (L.getD k []) = L := by
  apply List.ext_getElem?
  intro i
  rw [List.getElem?_set]
  by_cases h : k = i
  · subst h
    rw [if_pos rfl, if_pos hk, List.getD_eq_getElem?_getD, List.getElem?_eq_getElem hk]
    rfl
  · rw [if_neg h]
def mkInv (z : Nat) (vs : List Value) (ls : List Rw) : Prop := ∃ (k : Int) (i : Nat) (L : Rw), vs = [.int .i64 k, .int .i64 i] ∧ ls = [L] ∧ i ≤ L.length ∧ L.length ≤ 100000000 ∧ 0 ≤ k ∧ k + (z : Int) * ((L.length - i : Nat) : Int) ≤ 1000000000000000 ∧ ∀ e ∈ L, e.length = z
def mkPre (z : Nat) (vs : List Value) (ls : List Rw) : Prop := ∃ (k : Int) (L : Rw), vs = [.int .i64 k] ∧ ls = [L] ∧ L.length ≤ 100000000 ∧ 0 ≤ k ∧ k + (z : Int) * (L.length : Int) ≤ 1000000000000000 ∧ ∀ e ∈ L, e.length = z
def hdInv (z : Nat) (vs : List Value) (ls : List Rw) : Prop := ∃ (k : Int) (i : Nat) (L : Rw), vs = [.int .i64 k, .int .i64 i] ∧ ls = [L] ∧ i ≤ L.length ∧ L.length ≤ 100000000 ∧ 0 ≤ k ∧ k + (z : Int) * ((L.length - i : Nat) : Int) ≤ 1000000000000000 ∧ L.drop i = marks z k (L.length - i)
def hdPre (z : Nat) (vs : List Value) (ls : List Rw) : Prop := ∃ (k : Int) (n : Nat), vs = [.int .i64 k] ∧ ls = [marks z k n] ∧ n ≤ 100000000 ∧ 0 ≤ k ∧ k + (z : Int) * (n : Int) ≤ 1000000000000000
def mu1 (vs : List Value) (ls : List Rw) : Nat := (ls.getD 0 []).length - natOf (vs.getD 1 undef)
/-- A marked row, one on. -/
theorem mk_next {z i : Nat} {L : Rw} {k : Int} (hi : i < L.length) : (L.set i (markRow z k)).take (i + 1) ++ marks z (k + (z : Int)) (L.length - (i + 1)) = L.take i ++ marks z k (L.length - i) := by
  rw [show L.length - i = (L.length - (i + 1)) + 1 from by omega, marks, List.take_add_one, List.take_set_of_le (by omega), List.getElem?_set_self (by omega), List.append_assoc]
  rfl
theorem hd_next {z i : Nat} {L : Rw} {k : Int} (hi : i < L.length) (h : L.drop i = marks z k (L.length - i)) : L.getD i [] = markRow z k ∧ L.drop (i + 1) = marks z (k + (z : Int)) (L.length - (i + 1)) := by
  rw [show L.length - i = (L.length - (i + 1)) + 1 from by omega, marks, List.drop_eq_getElem_cons hi] at h
  obtain ⟨h1, h2⟩ := List.cons.inj h
  refine ⟨?_, h2⟩
  rw [List.getD_eq_getElem?_getD, List.getElem?_eq_getElem hi]
  exact h1
/-! ### Where a session lies; its turn -/
open Classical in
noncomputable def idxOf (L : Rw) (c : Value) : Int := if h : ∃ i, First L c i then ((h.choose : Nat) : Int) else -1
theorem idx_first {L : Rw} {c : Value} {i : Nat} (h : First L c i) : idxOf L c = (i : Int) := by
  have hx : ∃ i, First L c i := ⟨i, h⟩
  rw [idxOf, dif_pos hx, First.unique hx.choose_spec h]
theorem idx_none {L : Rw} {c : Value} (h : Nowhere L c) : idxOf L c = -1 := by
  rw [idxOf, dif_neg]
  rintro ⟨i, hi⟩
  exact hi.some h
theorem idx_or (L : Rw) (c : Value) : idxOf L c = -1 ∨ ∃ i : Nat, idxOf L c = (i : Int) ∧ First L c i := by
  by_cases hx : ∃ i, First L c i
  · exact .inr ⟨hx.choose, by rw [idxOf, dif_pos hx], hx.choose_spec⟩
  · exact .inl (by rw [idxOf, dif_neg hx])
def turned (L : Rw) (n : Nat) : Rw := setRw L n 10 [cel L n 10, cel L n 11, .int .i64 (IntKind.i64.wrap (intV (cel L n 12) + 1)), .int .i64 0, cel L n 14, cel L n 15, cel L n 16, cel L n 17, cel L n 18]
noncomputable def turnOf (L : Rw) (c : Value) : Rw × Bool :=
  if idxOf L c < 0 then (L, false)
  else if intV (cel L (idxOf L c).toNat 2) = 2 ∧ 0 ≤ intV (cel L (idxOf L c).toNat 12) ∧ intV (cel L (idxOf L c).toNat 12) ≤ 7 ∧ intV (cel L (idxOf L c).toNat 12) ≤ intV (cel L (idxOf L c).toNat 14) then (turned L (idxOf L c).toNat, true)
  else (L, false)
theorem turn_same {L : Rw} {n : Nat} (h : IntRows 20 L) (hn : n < L.length) : setRw L n 10 [cel L n 10, cel L n 11, cel L n 12, cel L n 13, cel L n 14, cel L n 15, cel L n 16, cel L n 17, cel L n 18] = L := by
  have hl := h.len _ (getD_mem hn)
  have key : setRw (L.set n (L.getD n [])) n 10 [cel L n 10, cel L n 11, cel L n 12, cel L n 13, cel L n 14, cel L n 15, cel L n 16, cel L n 17, cel L n 18] = L.set n (L.getD n []) := by
    rw [setRw_upd]
    refine congrArg (L.set n) ?_
    simp only [cel, upd]
    generalize L.getD n [] = e at hl
    match e, hl with
    | [_, _, _, _, _, _, _, _, _, _, _, _, _, _, _, _, _, _, _, _], _ => rfl
  rwa [set_self hn] at key
theorem set_rows {z n : Nat} {L : Rw} {e : List Value} (h : IntRows z L) (he : e.length = z ∧ ∀ u ∈ e, ∃ a, u = .int .i64 a) : IntRows z (L.set n e) := by
  intro x hx
  rcases List.mem_or_eq_of_mem_set hx with hx | rfl
  · exact h x hx
  · refine ⟨by simpa [ks] using he.1, fun j k' u hj hu => ?_⟩
    obtain rfl : k' = i64 := by
      rw [List.getElem?_replicate] at hj
      split at hj
      · exact (Option.some.inj hj).symm
      · cases hj
    exact he.2 u (List.mem_of_getElem? hu)
theorem row_ints {z : Nat} {L : Rw} (h : IntRows z L) {e : List Value} (he : e ∈ L) : e.length = z ∧ ∀ u ∈ e, ∃ a, u = .int .i64 a := by
  refine ⟨h.len e he, fun u hu => ?_⟩
  obtain ⟨j, hj⟩ := List.getElem?_of_mem hu
  have hl := h.len e he
  have hlt := (List.getElem?_eq_some_iff.1 hj).1
  exact (h e he).2 j i64 u (by rw [List.getElem?_replicate, if_pos (by omega)]) hj
theorem turned_rows {L : Rw} {n : Nat} (h : IntRows 20 L) (hn : n < L.length) : IntRows 20 (turned L n) := by
  obtain ⟨hl, hi⟩ := row_ints h (getD_mem hn)
  unfold turned
  conv => arg 2; rw [show setRw L n = setRw (L.set n (L.getD n [])) n from by rw [set_self hn]]
  rw [setRw_upd]
  refine set_rows h ?_
  simp only [cel, upd]
  generalize L.getD n [] = e at hl hi
  match e, hl, hi with
  | [_, _, _, _, _, _, _, _, _, _, _, _, _, _, _, _, _, _, _, _], _, hi =>
    refine ⟨rfl, fun u hu => ?_⟩
    simp only [List.mem_append, List.mem_cons, List.take, List.drop, List.getD_cons_zero, List.getD_cons_succ, List.length_cons, List.length_nil, List.not_mem_nil, or_false] at hu hi
    rcases hu with hu | hu | hu
    · exact hi u (by rcases hu with h | h | h | h | h | h | h | h | h | h <;> simp [h])
    · rcases hu with h | h | h | h | h | h | h | h | h
      all_goals first
        | exact ⟨_, h⟩
        | exact hi u (by simp [h])
    · exact hi u (by simp [hu])
theorem turn_rows {L : Rw} {c : Value} (h : IntRows 20 L) : IntRows 20 (turnOf L c).1 ∧ (turnOf L c).1.length = L.length := by
  unfold turnOf
  split
  · exact ⟨h, rfl⟩
  · rename_i h0
    rcases idx_or L c with hi | ⟨i, hi, hf⟩
    · exact absurd (by rw [hi]; decide) h0
    · split
      · rw [hi]
        exact ⟨turned_rows h (by simpa using hf.1), by simp only [turned, setRw_length]⟩
      · exact ⟨h, rfl⟩
end Go.Proofs.Ytipomcnbjlfekaa.Rs
