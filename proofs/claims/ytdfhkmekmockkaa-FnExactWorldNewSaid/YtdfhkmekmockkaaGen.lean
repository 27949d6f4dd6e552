/- Loops over lists as the printed functions have them, told once: no program in sight. -/
import Derived.Test.YtdfhkmekmockkaaWWords
namespace Go.Proofs.Ytdfhkmekmockkaa.Gen
open Go.RowKit Go.Proofs.YtdfhkmekmockkaaW.PrintWords

theorem wrap_id {x : Int} (h0 : -9223372036854775808 ≤ x) (h1 : x ≤ 9223372036854775807) : wrap64 x = x := by unfold wrap64; omega
theorem wrap_succ {j n : Nat} (h : j < n) (hn : n ≤ 1048576) : wrap64 ((j : Int) + 1) = ((j + 1 : Nat) : Int) := by unfold wrap64; omega
theorem len_of_guard {n : Nat} (h : ¬ wrap64 (1048576 - (n : Int)) < 0) (hn : n ≤ 9223372036854775807) : n ≤ 1048576 := by unfold wrap64 at h; omega

theorem ev_const {α : Type} {r : α} : Ev (fun _ => some r) r := ⟨0, fun _ _ => rfl⟩
theorem ev_from {α : Type} {g : Nat → Option α} {r : α} (K : Nat) (h : ∀ k, K ≤ k → g k = some r) : Ev g r := ⟨K, h⟩
theorem ev_bind {α β : Type} {g : Nat → Option α} {f : Nat → α → Option β} {r : α} {q : β} (h : Ev g r) (k : Ev (fun n => f n r) q) : Ev (fun n => (g n).bind (f n)) q := by
  obtain ⟨K, hK⟩ := h; obtain ⟨L, hL⟩ := k
  exact ⟨max K L, fun n hn => by show (g n).bind (f n) = some q; rw [hK n (by omega)]; exact hL n (by omega)⟩
theorem ev_some {α : Type} {g : Nat → Option α} {r : α} (h : Ev g r) : ∃ k, g k = some r := let ⟨K, hK⟩ := h; ⟨K, hK K (Nat.le_refl _)⟩

theorem ev_succ {α : Type} {g : Nat → Option α} {r : α} (h : Ev (fun k => g (k + 1)) r) : Ev g r := by
  obtain ⟨K, hK⟩ := h
  exact ⟨K + 1, fun k hk => by
    obtain ⟨k, rfl⟩ : ∃ m, k = m + 1 := ⟨k - 1, by omega⟩
    exact hK k (by omega)⟩
theorem ev_to {α : Type} {g f : Nat → Option α} {r : α} (h : Ev f r) (e : ∀ k, g (k + 1) = f k) : Ev g r := ev_succ (by simpa only [e] using h)

section
variable {α β : Type}

/-- A new list is filled, element by element. -/
theorem fill_loop (l : List α) (z : β) (da : α) (conv : α → β) (step : Nat → List β → Int → Option (List β))
    (h0 : ∀ k x (j : Nat), j < l.length → x.length = l.length → step (k + 1) x (j : Int) = step k (x.set j (conv (l.getD j da))) (wrap64 ((j : Int) + 1)))
    (h1 : ∀ k x, step (k + 1) x (l.length : Int) = some x) (hn : l.length ≤ 1048576) : Ev (fun k => step k (List.replicate l.length z) 0) (l.map conv) := by
  have main : ∀ (d j k : Nat) (x : List β), j + d = l.length → d < k → x.length = l.length → x.take j = (l.map conv).take j → step k x (j : Int) = some (l.map conv) := by
    intro d
    induction d with
    | zero =>
      intro j k x hj hk hx ht
      obtain ⟨k, rfl⟩ : ∃ m, k = m + 1 := ⟨k - 1, by omega⟩
      obtain rfl : j = l.length := by omega
      rw [h1]
      rw [List.take_of_length_le (by omega), List.take_of_length_le (by simp)] at ht
      rw [ht]
    | succ d ih =>
      intro j k x hj hk hx ht
      obtain ⟨k, rfl⟩ : ∃ m, k = m + 1 := ⟨k - 1, by omega⟩
      have hlt : j < l.length := by omega
      rw [h0 k x j hlt hx, wrap_succ hlt hn]
      refine ih (j + 1) k _ (by omega) (by omega) (by simpa using hx) ?_
      have e1 : (x.set j (conv (l.getD j da))).take (j + 1) = x.take j ++ [conv (l.getD j da)] := by
        rw [List.take_succ_eq_append_getElem (by rw [List.length_set, hx]; exact hlt)]
        congr 1
        · rw [List.take_set_of_le (Nat.le_refl j)]
        · simp
      have e2 : (l.map conv).take (j + 1) = (l.map conv).take j ++ [conv (l.getD j da)] := by
        rw [List.take_succ_eq_append_getElem (by simpa using hlt)]
        congr 1
        simp [List.getD, List.getElem?_eq_getElem hlt]
      rw [e1, e2, ht]
  exact ⟨l.length + 1, fun k hk => by simpa using main l.length 0 k (List.replicate l.length z) (by omega) (by omega) (by simp) rfl⟩

/-- A loop that goes over all places and tells yes at the end. -/
theorem all_loop {ρ : Type} (n : Nat) (r : ρ) (step : Nat → Int → Option ρ) (h0 : ∀ k (j : Nat), j < n → step (k + 1) (j : Int) = step k (wrap64 ((j : Int) + 1))) (h1 : ∀ k, step (k + 1) (n : Int) = some r) (hn : n ≤ 1048576) :
    Ev (fun k => step k 0) r := by
  have main : ∀ (d j k : Nat), j + d = n → d < k → step k (j : Int) = some r := by
    intro d
    induction d with
    | zero =>
      intro j k hj hk
      obtain ⟨k, rfl⟩ : ∃ m, k = m + 1 := ⟨k - 1, by omega⟩
      obtain rfl : j = n := by omega
      exact h1 k
    | succ d ih =>
      intro j k hj hk
      obtain ⟨k, rfl⟩ : ∃ m, k = m + 1 := ⟨k - 1, by omega⟩
      rw [h0 k j (by omega), wrap_succ (show j < n by omega) hn]
      exact ih (j + 1) k (by omega) (by omega)
  exact ⟨n + 1, fun k hk => by simpa using main n 0 k (by omega) (by omega)⟩

/-- A loop that goes over all places with a state, or leaves with an answer: what it tells is told by 'out'. -/
theorem fold_loop {σ ρ : Type} (n : Nat) (step : Nat → σ → Int → Option ρ) (out : Nat → σ → ρ) (next : Nat → σ → σ) (stop : Nat → σ → Option ρ)
    (h0 : ∀ k s (j : Nat), j < n → step (k + 1) s (j : Int) = (match stop j s with | some r => some r | none => step k (next j s) (wrap64 ((j : Int) + 1))))
    (h1 : ∀ k s, step (k + 1) s (n : Int) = some (out n s))
    (ho : ∀ j s, j < n → out j s = (match stop j s with | some r => r | none => out (j + 1) (next j s))) (hn : n ≤ 1048576) (s : σ) : Ev (fun k => step k s 0) (out 0 s) := by
  have main : ∀ (d j k : Nat) (s : σ), j + d = n → d < k → step k s (j : Int) = some (out j s) := by
    intro d
    induction d with
    | zero =>
      intro j k s hj hk
      obtain ⟨k, rfl⟩ : ∃ m, k = m + 1 := ⟨k - 1, by omega⟩
      obtain rfl : j = n := by omega
      exact h1 k s
    | succ d ih =>
      intro j k s hj hk
      obtain ⟨k, rfl⟩ : ∃ m, k = m + 1 := ⟨k - 1, by omega⟩
      rw [h0 k s j (by omega), ho j s (by omega)]
      cases hs : stop j s with
      | some r => rfl
      | none =>
        simp only
        rw [wrap_succ (show j < n by omega) hn]
        exact ih (j + 1) k _ (by omega) (by omega)
  exact ⟨n + 1, fun k hk => by simpa using main n 0 k s (by omega) (by omega)⟩

/-- Marks, from a number on. -/
def marked (mk : Int → α → α) (adv : Int → Int) : List α → Int → List α
  | [], _ => []
  | x :: xs, c => mk c x :: marked mk adv xs (adv c)
def count (adv : Int → Int) : Nat → Int → Int
  | 0, c => c
  | n + 1, c => count adv n (adv c)
theorem marked_length (mk : Int → α → α) (adv : Int → Int) : ∀ (l : List α) c, (marked mk adv l c).length = l.length
  | [], _ => rfl
  | _ :: xs, c => by simp [marked, marked_length mk adv xs]
theorem set_append_right' (a : List α) (x : α) (xs : List α) (v : α) (j : Nat) (hj : a.length = j) : (a ++ x :: xs).set j v = a ++ v :: xs := by
  subst hj; simp

theorem mark_loop (da : α) (mk : Int → α → α) (adv : Int → Int) (step : Nat → List α → Int → Int → Option (Int × List α))
    (h0 : ∀ k x c (j : Nat), j < x.length → step (k + 1) x c (j : Int) = step k (x.set j (mk c (x.getD j da))) (adv c) (wrap64 ((j : Int) + 1)))
    (h1 : ∀ k x c, step (k + 1) x c (x.length : Int) = some (c, x)) (l : List α) (c : Int) (hn : l.length ≤ 1048576) :
    Ev (fun k => step k l c 0) (count adv l.length c, marked mk adv l c) := by
  have main : ∀ (xs a : List α) (k : Nat) (c : Int), a.length + xs.length ≤ 1048576 → xs.length < k → step k (a ++ xs) c (a.length : Int) = some (count adv xs.length c, a ++ marked mk adv xs c) := by
    intro xs
    induction xs with
    | nil =>
      intro a k c hl hk
      obtain ⟨k, rfl⟩ : ∃ m, k = m + 1 := ⟨k - 1, by omega⟩
      have := h1 k (a ++ []) c
      simpa [count, marked] using this
    | cons x xs ih =>
      intro a k c hl hk
      simp only [List.length_cons] at hl hk
      obtain ⟨k, rfl⟩ : ∃ m, k = m + 1 := ⟨k - 1, by omega⟩
      rw [h0 k (a ++ x :: xs) c a.length (by simp)]
      have e : (a ++ x :: xs).getD a.length da = x := by simp [List.getD]
      rw [e, set_append_right' a x xs _ a.length rfl, wrap_succ (show a.length < a.length + (xs.length + 1) by omega) (by omega)]
      have := ih (a ++ [mk c x]) k (adv c) (by simp; omega) (by omega)
      simp only [List.append_assoc, List.singleton_append, List.length_append, List.length_singleton] at this
      simpa [count, marked] using this
  exact ⟨l.length + 1, fun k hk => by simpa using main l [] k c (by simpa using hn) (by omega)⟩

theorem held_loop (da : α) (mk : Int → α → α) (adv : Int → Int) (x : List α) (step : Nat → Int → Int → Option Int)
    (h1 : ∀ k c, step (k + 1) c (x.length : Int) = some c) (l : List α) (c : Int) (hx : x = marked mk adv l c)
    (h0 : ∀ k c (j : Nat) y, j < x.length → x.getD j da = mk c y → step (k + 1) c (j : Int) = step k (adv c) (wrap64 ((j : Int) + 1)))
    (hn : l.length ≤ 1048576) :
    Ev (fun k => step k c 0) (count adv l.length c) := by
  have main : ∀ (ys a : List α) (k : Nat) (c : Int), x = a ++ marked mk adv ys c → a.length + ys.length ≤ 1048576 → ys.length < k → step k c (a.length : Int) = some (count adv ys.length c) := by
    intro ys
    induction ys with
    | nil =>
      intro a k c he hl hk
      obtain ⟨k, rfl⟩ : ∃ m, k = m + 1 := ⟨k - 1, by omega⟩
      have e : a.length = x.length := by rw [he]; simp [marked]
      rw [e, h1]; rfl
    | cons y ys ih =>
      intro a k c he hl hk
      simp only [List.length_cons] at hl hk
      obtain ⟨k, rfl⟩ : ∃ m, k = m + 1 := ⟨k - 1, by omega⟩
      have hlt : a.length < x.length := by rw [he]; simp [marked]
      have hg : x.getD a.length da = mk c y := by rw [he]; simp [marked, List.getD]
      rw [h0 k c a.length y hlt hg, wrap_succ (show a.length < a.length + (ys.length + 1) by omega) (by omega)]
      have := ih (a ++ [mk c y]) k (adv c) (by rw [he]; simp [marked]) (by simp; omega) (by omega)
      simpa [count] using this
  exact ⟨l.length + 1, fun k hk => by simpa using main l [] k c (by simpa using hx) (by simpa using hn) (by omega)⟩

theorem count_add (adv : Int → Int) (w : Nat) (hw : w ≤ 1048576) (ha : ∀ c, 0 ≤ c → c ≤ 4398046511104 → adv c = c + w) : ∀ (n : Nat) (c : Int), 0 ≤ c → c + n * w ≤ 4398046511104 → count adv n c = c + n * w
  | 0, c, _, _ => by simp [count]
  | n + 1, c, h0, h1 => by
    have e : ((n + 1 : Nat) : Int) * (w : Int) = n * w + w := by rw [show ((n + 1 : Nat) : Int) = (n : Int) + 1 by omega, Int.add_mul]; omega
    rw [e] at h1
    have hnw : (0 : Int) ≤ n * w := Int.mul_nonneg (by omega) (by omega)
    have := count_add adv w hw ha n (adv c) (by rw [ha c h0 (by omega)]; omega) (by rw [ha c h0 (by omega)]; omega)
    rw [count, this, ha c h0 (by omega), e]; omega
end
end Go.Proofs.Ytdfhkmekmockkaa.Gen
