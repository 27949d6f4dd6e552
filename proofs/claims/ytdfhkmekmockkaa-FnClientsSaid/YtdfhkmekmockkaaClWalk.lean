/- FnClients: for whatever is drawn the machine computes 'true'. -/
import Derived.Test.YtdfhkmekmockkaaRxO
import Derived.Test.YtdfhkmekmockkaaRxT
import Derived.Test.YtdfhkmekmockkaaClDraw
namespace Go.Proofs.Ytdfhkmekmockkaa.Cl
open Go.RowKit Go.Proofs.Ytdfhkmekmockkaa.PFnPools Go.Proofs.YtdfhkmekmockkaaW.PrintWords Go.Proofs.YtdfhkmekmockkaaW.PrintLast Go.Proofs.Ytdfhkmekmockkaa.Rx
set_option linter.unusedVariables false
set_option maxRecDepth 100000
def rowS : Nat → Tr (List AC)
  | 0 => .e
  | n + 1 => (rowS n).put n (some [.s (n + 1)])
theorem rowS_get : ∀ n i, i < n → (rowS n).get i = some [.s (i + 1)]
  | n + 1, i, h => by
    simp only [rowS, Tr.get_put]
    by_cases e : i = n
    · rw [if_pos e, e]
    · rw [if_neg e, rowS_get n i (by omega)]
/-- The first number, by 2: its rest. -/
def ar (m : Nat) : BinOp → TypeId → AV → AV → Option AV
  | .rem, 3, .c (.s 1), .c (.v (.int .i64 (.ofNat 2))) => some (.c (.v (.int .i64 (.ofNat m))))
  | _, _, _, _ => none
/-- What is answered by a contract: whether there are too many bytes; twelve numbers. -/
def orc (b : Bool) : FuncId → List SV → Hp → Option (SV × Hp)
  | 33, [.o (.c (.s 0))], H => some (.o (.c (.v (.bool b))), H)
  | 34, [.o (.c (.s 0))], H => some (.o (.c (.sl H.next 0 12)), H.push (.rows 3 1 12 (rowS 12)))
  | _, _, _ => none
def sg (v : Value) (ps : List Int) : Nat → Value
  | 0 => v
  | i + 1 => .int .i64 (ps.getD i 0)
def noOpq : Opq := fun _ _ _ => False
theorem orc_ok (b : Bool) (m : Nat) (A : Option Addr) (c : Nat) (l ps : List Int) (w : World) (hr : Kd.C (Kd.int .u8) w A l.length l) (hc : l.length ≤ c) (hb : laws_big.f l = some b) (k : Nat) (hp : spec_DrawPlaces.f k l = some ps) (h12 : ps.length = 12) :
    CeOk (cfg (ar m) (orc b)) (sg (.slice A l.length c) ps) noOpq w (orc b) := by
  intro f xs H r H' E w1 vs h hH hl hv
  have hr1 : Kd.C (Kd.int .u8) w1 A l.length l := Kd.C_below hr hH.below
  have arg : ∀ x, xs = [x] → ∃ u, vs = #[u] ∧ RelS (sg (.slice A l.length c) ps) E x u := by
    intro x hx
    subst hx
    have hs : vs.size = 1 := by rw [← hl]; rfl
    refine ⟨vs[0], ?_, hv 0 x vs[0] rfl (Array.getElem?_eq_getElem (by omega))⟩
    apply Array.ext
    · simp [hs]
    · intro i h1 h2
      have : i = 0 := by omega
      subst this
      rfl
  unfold orc at h
  split at h
  · cases h
    obtain ⟨u, rfl, hu⟩ := arg _ rfl
    obtain rfl : u = .slice A l.length c := hu.1
    refine (laws_big.calls A c l b w1 hr1 hc hb).mono ?_
    rintro e w' ⟨rfl, hd⟩
    exact ⟨E, _, rfl, Env.le_refl E, ⟨rfl, rfl⟩, hH.grow hd.below⟩
  · cases h
    obtain ⟨u, rfl, hu⟩ := arg _ rfl
    obtain rfl : u = .slice A l.length c := hu.1
    refine (spec_DrawPlaces.calls k A c l ps w1 hr1 hc hp).mono ?_
    rintro e w' ⟨v, rfl, hR, hbl⟩
    obtain ⟨_, inner, hown, hreps⟩ := hR
    rw [h12] at hown
    obtain ⟨q, h1, h2, h3⟩ := hH.push_row hbl hown (by omega) (rowS 12) (fun i hi => by
      refine ⟨_, rowS_get 12 i hi, ?_⟩
      have hm := hreps.2 i (ps.getD i 0) (by rw [List.getD_eq_getElem?_getD, List.getElem?_eq_getElem (by omega)]; rfl)
      have he : (inner.drop (i * (Kd.int .i64).sz)).take (Kd.int .i64).sz = [.int .i64 (ps.getD i 0)] := hm
      rw [he]
      exact RelL.cons ⟨rfl, rfl⟩ RelL.nil)
    exact ⟨_, v, rfl, h1, h2, h3⟩
  · cases h
theorem cf_ok (b : Bool) (m : Nat) (v : Value) (ps : List Int) (hm : (ps.getD 0 0).tmod 2 = m) : (cfg (ar m) (orc b)).Ok (sg v ps) := by
  refine cfg_ok ?_
  intro op t x y E u v' r uv vv h hu hv
  unfold ar at h
  split at h
  · cases h
    obtain rfl : uv = .int .i64 (ps.getD 0 0) := hu.1
    obtain rfl : vv = .int .i64 2 := hv.1
    refine ⟨.int .i64 (m : Int), ⟨rfl, rfl⟩, fun w => ?_⟩
    rw [← hm]
    rfl
  · cases h
theorem run_big : isTrue (runE (cfg (ar 0) (orc true)) 10 10 7 [.o (.c (.s 0))] ⟨0, .e⟩) = true := by kernel_rfl
theorem run_big1 : isTrue (runE (cfg (ar 1) (orc true)) 10 10 7 [.o (.c (.s 0))] ⟨0, .e⟩) = true := by kernel_rfl
theorem run_0 : isTrue (runE (cfg (ar 0) (orc false)) 300 80 7 [.o (.c (.s 0))] ⟨0, .e⟩) = true := by kernel_rfl
theorem run_1 : isTrue (runE (cfg (ar 1) (orc false)) 300 80 7 [.o (.c (.s 0))] ⟨0, .e⟩) = true := by kernel_rfl
theorem law (A : Option Addr) (c : Nat) (l : List Int) (w : World) (hl : l.length ≤ 140737488355328) (hr : Kd.C (Kd.int .u8) w A l.length l) (hc : l.length ≤ c) :
    Calls Try.prog 7 #[.slice A l.length c] w fun e w' => e = .returned (.bool true) ∧ Below w.heap.size w w' := by
  obtain ⟨ps, ⟨K, hps⟩, h12, h0⟩ := places_ok l hl
  have hp := hps K (Nat.le_refl _)
  have h0' : 0 ≤ ps.getD 0 0 := h0
  have hargs : ∀ (j : Nat) x v, [SV.o (.c (.s 0))][j]? = some x → (#[Value.slice A l.length c])[j]? = some v → RelS (sg (.slice A l.length c) ps) (fun _ => none) x v := by
    intro j x v hx hv
    cases j with
    | zero => simp at hx hv; subst hx hv; exact ⟨rfl, rfl⟩
    | succ j => simp at hx
  have hm : (ps.getD 0 0).tmod 2 = ((ps.getD 0 0 % 2).toNat : Int) := by rw [Int.tmod_eq_emod_of_nonneg h0']; omega
  have h01 : (ps.getD 0 0 % 2).toNat = 0 ∨ (ps.getD 0 0 % 2).toNat = 1 := by omega
  cases hbig : decide ((l.length : Int) > 1048576) with
  | true =>
    have hb : laws_big.f l = some true := by simp only [laws_big.f, hbig]
    rcases h01 with h | h
    · rw [h] at hm
      exact law_true (cf_ok true 0 _ _ hm) w (orc_ok true 0 A c l ps w hr hc hb K hp h12) 10 run_big rfl hargs
    · rw [h] at hm
      exact law_true (cf_ok true 1 _ _ hm) w (orc_ok true 1 A c l ps w hr hc hb K hp h12) 10 run_big1 rfl hargs
  | false =>
    have hb : laws_big.f l = some false := by simp only [laws_big.f, hbig]
    rcases h01 with h | h
    · rw [h] at hm
      exact law_true (cf_ok false 0 _ _ hm) w (orc_ok false 0 A c l ps w hr hc hb K hp h12) 80 run_0 rfl hargs
    · rw [h] at hm
      exact law_true (cf_ok false 1 _ _ hm) w (orc_ok false 1 A c l ps w hr hc hb K hp h12) 80 run_1 rfl hargs
def IsRow (w : World) (a : Option Addr) (len cap : Nat) (zs : List Int) : Prop :=
  (a = none ∧ len = 0 ∧ cap = 0 ∧ zs = []) ∨ ∃ x, a = some x ∧ len ≤ cap ∧ cap ≤ maxLen ∧ zs.length = cap ∧ (∀ i, i < zs.length → w.cell? (x.add i) = some (.int .u8 (zs.getD i 0))) ∧ ∀ n ∈ zs, (Lit.int .u8 n).wf = true
theorem walk (a0 : Option Addr) (len0 cap0 : Nat) (z0 : List Int) (w : World) (w0 : IsRow w a0 len0 cap0 z0) (y0 : len0 * 1 ≤ 140737488351232) :
    Calls Try.prog 7 #[.slice a0 len0 cap0] w fun e w' => e = .returned (.bool true) ∧ Below w.heap.size w w' := by
  obtain ⟨l0, rfl, hr0, hm0, hw0, hc0⟩ := ReadsInt.ofRowC w0
  exact law _ _ l0 w (by omega) (Kd.C_of_reads (d := (0 : Int)) (h1 := fun _ => rfl) hr0) hc0
end Go.Proofs.Ytdfhkmekmockkaa.Cl
