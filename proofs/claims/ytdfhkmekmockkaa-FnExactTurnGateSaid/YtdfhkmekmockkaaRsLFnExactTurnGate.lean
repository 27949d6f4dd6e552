/- The law FnExactTurnGate, as its row asks for it. -/
import Derived.Test.YtdfhkmekmockkaaRsTg
import Derived.Test.YtdfhkmekmockkaaRsKd
import Derived.Test.YtdfhkmekmockkaaPFnExactTurnGatex0
namespace Go.Proofs.Ytdfhkmekmockkaa.Rs
open Go.RowKit Go.Proofs.YtdfhkmekmockkaaW.PrintWords Go.Proofs.Ytdfhkmekmockkaa.PFnExactTurnGate
set_option linter.unusedVariables false
def row_k199 (x : S199) : List Value := [.int .i64 x.f0, .int .i64 x.f1, .int .i64 x.f2, .int .i64 x.f3, .int .i64 x.f4, .int .i64 x.f5, .int .i64 x.f6, .int .i64 x.f7, .int .i64 x.f8, .int .i64 x.f9, .int .i64 x.f10.f0, .int .i64 x.f10.f1, .int .i64 x.f10.f2, .int .i64 x.f10.f3, .int .i64 x.f10.f4, .int .i64 x.f10.f5.f0, .int .i64 x.f10.f5.f1, .int .i64 x.f10.f6.f0, .int .i64 x.f10.f6.f1, .int .i64 x.f11]
theorem row_k199_ok (x : S199) : (row_k199 x).length = 20 ∧ ∀ u ∈ row_k199 x, ∃ a, u = .int .i64 a := by
  refine ⟨rfl, fun u hu => ?_⟩
  simp only [row_k199, List.mem_cons, List.not_mem_nil, or_false] at hu
  rcases hu with rfl | rfl | rfl | rfl | rfl | rfl | rfl | rfl | rfl | rfl | rfl | rfl | rfl | rfl | rfl | rfl | rfl | rfl | rfl | rfl <;> exact ⟨_, rfl⟩
def row_k111 (x : S111) : List Value := [.int .i64 x.f0, .int .i64 x.f1]
theorem row_k111_ok (x : S111) : (row_k111 x).length = 2 ∧ ∀ u ∈ row_k111 x, ∃ a, u = .int .i64 a := by
  refine ⟨rfl, fun u hu => ?_⟩
  simp only [row_k111, List.mem_cons, List.not_mem_nil, or_false] at hu
  rcases hu with rfl | rfl <;> exact ⟨_, rfl⟩
def row_k156 (x : S156) : List Value := [.int .i64 x.f0, .int .i64 x.f1, .int .i64 x.f2]
theorem row_k156_ok (x : S156) : (row_k156 x).length = 3 ∧ ∀ u ∈ row_k156 x, ∃ a, u = .int .i64 a := by
  refine ⟨rfl, fun u hu => ?_⟩
  simp only [row_k156, List.mem_cons, List.not_mem_nil, or_false] at hu
  rcases hu with rfl | rfl | rfl <;> exact ⟨_, rfl⟩
def row_k207 (x : S207) : List Value := [.int .i64 x.f0, .int .i64 x.f1.f0, .int .i64 x.f1.f1, .int .i64 x.f1.f2, .int .i64 x.f1.f3]
theorem row_k207_ok (x : S207) : (row_k207 x).length = 5 ∧ ∀ u ∈ row_k207 x, ∃ a, u = .int .i64 a := by
  refine ⟨rfl, fun u hu => ?_⟩
  simp only [row_k207, List.mem_cons, List.not_mem_nil, or_false] at hu
  rcases hu with rfl | rfl | rfl | rfl | rfl <;> exact ⟨_, rfl⟩
theorem law_FnExactTurnGate (W : World) (a b c d : Int) (A0 : Option Addr) (c0 : Nat) (l0 : List S199) (r0 : Kd.C k199 W A0 l0.length l0) (m0 : l0.length ≤ c0) (A1 : Option Addr) (c1 : Nat) (l1 : List S111) (r1 : Kd.C k111 W A1 l1.length l1) (m1 : l1.length ≤ c1) (A2 : Option Addr) (c2 : Nat) (l2 : List S156) (r2 : Kd.C k156 W A2 l2.length l2) (m2 : l2.length ≤ c2) (A3 : Option Addr) (c3 : Nat) (l3 : List S207) (r3 : Kd.C k207 W A3 l3.length l3) (m3 : l3.length ≤ c3) :
    Calls Try.prog 12 #[.agg #[.int .i64 a, .int .i64 b, .slice A0 l0.length c0, .slice A1 l1.length c1, .slice A2 l2.length c2, .slice A3 l3.length c3, .int .i64 c], .int .i64 d] W fun e w' => e = .returned (.bool true) ∧ Below W.heap.size W w' := by
  refine law_of (C := C0) W (bs := gB) (nv := 4) (pid := 10) (show SumOk C0 12 (lawS gB gA 4 10) from t12S_ok) (us := [.slice A0 l0.length c0, .slice A1 l1.length c1, .slice A2 l2.length c2, .slice A3 l3.length c3]) (vs := [.int .i64 a, .int .i64 b, .int .i64 c, .int .i64 d]) (Ls := [l0.map row_k199, l1.map row_k111, l2.map row_k156, l3.map row_k207]) rfl rfl rfl
    (four (P := fun _ p u L => Ro W u p.2 L) (ro_of row_k199 rfl r0 m0 (fun _ _ h => k199_open h) row_k199_ok) (ro_of row_k111 rfl r1 m1 (fun _ _ h => k111_open h) row_k111_ok) (ro_of row_k156 rfl r2 m2 (fun _ _ h => k156_open h) row_k156_ok) (ro_of row_k207 rfl r3 m3 (fun _ _ h => k207_open h) row_k207_ok)) rfl ?_ ?_
  · intro j x v hx hv
    match j, hx, hv with
    | 0, hx, hv =>
      cases hx; cases hv
      exact ⟨_, rfl, RelL.cons (rel_s rfl) (RelL.cons (rel_s rfl) (RelL.cons (rel_sr rfl) (RelL.cons (rel_sr rfl) (RelL.cons (rel_sr rfl) (RelL.cons (rel_sr rfl) (RelL.cons (rel_s rfl) RelL.nil))))))⟩
    | 1, hx, hv =>
      cases hx; cases hv
      exact rel_s rfl
    | j + 2, hx, _ => simp [gA] at hx
  · exact ⟨a, b, c, d, _, _, _, _, rfl, rfl, ro_rows row_k199 row_k199_ok, ro_rows row_k111 row_k111_ok, ro_rows row_k156 row_k156_ok, ro_rows row_k207 row_k207_ok, by have := Kd.C_max r0; simp only [List.length_map]; omega, by have := Kd.C_max r1; simp only [List.length_map]; omega, by have := Kd.C_max r2; simp only [List.length_map]; omega, by have := Kd.C_max r3; simp only [List.length_map]; omega⟩
end Go.Proofs.Ytdfhkmekmockkaa.Rs
