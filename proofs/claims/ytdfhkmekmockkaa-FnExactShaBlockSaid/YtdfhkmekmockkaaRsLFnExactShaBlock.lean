/- The law FnExactShaBlock, as its row asks for it. -/
import Derived.Test.YtdfhkmekmockkaaRsH4
import Derived.Test.YtdfhkmekmockkaaRsKd
namespace Go.Proofs.Ytdfhkmekmockkaa.Rs
open Go.RowKit Go.Proofs.YtdfhkmekmockkaaW.PrintWords
set_option linter.unusedVariables false
theorem rel_str {us : List (Nat × Nat × Value)} {vs : List Value} {Ls : List Rw} {i : Nat} {x : ByteArray} (h : vs[i]? = some (.string x)) : RelC (envOf us vs Ls) (.t .s (.s i)) (.string x) := by
  refine ⟨⟨x, rfl⟩, fun S hS => ?_⟩
  have hi : i < vs.length := (List.getElem?_eq_some_iff.1 h).1
  rw [show Te.ev S (.s i) = S.v i from by simp only [Te.ev], hS.1 i hi]
  show vs.getD i undef = _
  rw [List.getD_eq_getElem?_getD, h]
  rfl
theorem one_ok (x : Int) : ([Value.int .i64 x]).length = 1 ∧ ∀ u ∈ [Value.int .i64 x], ∃ a, u = .int .i64 a := ⟨rfl, fun u hu => ⟨x, by simpa using hu⟩⟩
theorem law_FnExactShaBlock (W : World) (s : ByteArray) (A0 : Option Addr) (c0 : Nat) (l0 : List Int) (r0 : Kd.C (Kd.int .i64) W A0 l0.length l0) (m0 : l0.length ≤ c0) :
    Calls Try.prog 5 #[.slice A0 l0.length c0, .string s] W fun e w' => e = .returned (.bool true) ∧ Below W.heap.size W w' := by
  refine law_of (C := C0) W (bs := gB) (nv := 1) (pid := 10) (show SumOk C0 5 (lawS gB gA 1 10) from t5S_ok) (us := [.slice A0 l0.length c0]) (vs := [.string s]) (Ls := [l0.map fun x => [.int .i64 x]]) rfl rfl rfl ?_ rfl ?_ ?_
  · intro b p u L hp hu hL
    match b, hp, hu, hL with
    | 0, hp, hu, hL => cases hp; cases hu; cases hL; exact ro_of (fun x => [.int .i64 x]) rfl r0 m0 (fun _ _ h => h) one_ok
    | b + 1, hp, _, _ => simp [gB] at hp
  · intro j x v hx hv
    match j, hx, hv with
    | 0, hx, hv =>
      cases hx; cases hv
      exact rel_sr rfl
    | 1, hx, hv =>
      cases hx; cases hv
      exact rel_str rfl
    | j + 2, hx, _ => simp [gA] at hx
  · exact ⟨s, _, rfl, rfl, ro_rows (fun x => [.int .i64 x]) one_ok⟩
end Go.Proofs.Ytdfhkmekmockkaa.Rs
