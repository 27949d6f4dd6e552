/- The types and functions of the program, as tables; and that they are the program's. -/
import Derived.Test.YtipomcnbjlfekaaRsX
import Derived.Test.YtipomcnbjlfekaaProg
import Derived.KernelRfl
namespace Go.Proofs.Ytipomcnbjlfekaa.Rs
set_option linter.unusedVariables false
set_option maxRecDepth 100000
def tabOf {α : Type} : List (Nat × α) → Tr α
  | [] => .e
  | (k, x) :: r => (tabOf r).put k (some x)
theorem tabOf_mem {α : Type} : ∀ (l : List (Nat × α)) (k : Nat) (x : α), (tabOf l).get k = some x → (k, x) ∈ l
  | [], k, x, h => by simp [tabOf, Tr.get] at h
  | (j, y) :: r, k, x, h => by
    simp only [tabOf, Tr.get_put] at h
    split at h
    · rename_i e
      cases h
      subst e
      exact List.mem_cons_self
    · exact List.mem_cons_of_mem _ (tabOf_mem r k x h)
theorem all_cons {α : Type} {P : α → Prop} {x : α} {l : List α} (h : P x) (k : ∀ y ∈ l, P y) : ∀ y ∈ x :: l, P y := fun y hy => by
  rcases List.mem_cons.1 hy with rfl | hy
  · exact h
  · exact k y hy
theorem all_nil {α : Type} {P : α → Prop} : ∀ y ∈ ([] : List α), P y := fun y hy => by cases hy
def td2 : Td := ⟨.int .i64, 1, [.int .i64 0], 8⟩
theorem td2_ok : td2.Ok Try.prog 2 := ⟨Try.underlying2, by kernel_rfl, by kernel_rfl, by kernel_rfl⟩
def td3 : Td := ⟨.int .i64, 1, [.int .i64 0], 8⟩
theorem td3_ok : td3.Ok Try.prog 3 := ⟨Try.underlying3, by kernel_rfl, by kernel_rfl, by kernel_rfl⟩
def td4 : Td := ⟨.bool, 1, [.bool false], 1⟩
theorem td4_ok : td4.Ok Try.prog 4 := ⟨Try.underlying4, by kernel_rfl, by kernel_rfl, by kernel_rfl⟩
def td5 : Td := ⟨.int .u8, 1, [.int .u8 0], 1⟩
theorem td5_ok : td5.Ok Try.prog 5 := ⟨Try.underlying5, by kernel_rfl, by kernel_rfl, by kernel_rfl⟩
def td6 : Td := ⟨.int .u8, 1, [.int .u8 0], 1⟩
theorem td6_ok : td6.Ok Try.prog 6 := ⟨Try.underlying6, by kernel_rfl, by kernel_rfl, by kernel_rfl⟩
def td7 : Td := ⟨.struct [(0, 1, 2), (1, 1, 3), (2, 1, 4), (3, 1, 6)], 4, [.int .i64 0, .int .i64 0, .bool false, .int .u8 0], 24⟩
theorem td7_ok : td7.Ok Try.prog 7 := ⟨⟨_, Try.underlying7, by kernel_rfl⟩, by kernel_rfl, by kernel_rfl, by kernel_rfl⟩
def td8 : Td := ⟨.struct [(0, 1, 2), (1, 1, 3), (2, 1, 4), (3, 1, 6)], 4, [.int .i64 0, .int .i64 0, .bool false, .int .u8 0], 24⟩
theorem td8_ok : td8.Ok Try.prog 8 := ⟨⟨_, Try.underlying8, by kernel_rfl⟩, by kernel_rfl, by kernel_rfl, by kernel_rfl⟩
def td9 : Td := ⟨.str, 1, [.string .empty], 16⟩
theorem td9_ok : td9.Ok Try.prog 9 := ⟨Try.underlying9, by kernel_rfl, by kernel_rfl, by kernel_rfl⟩
def td10 : Td := ⟨.str, 1, [.string .empty], 16⟩
theorem td10_ok : td10.Ok Try.prog 10 := ⟨Try.underlying10, by kernel_rfl, by kernel_rfl, by kernel_rfl⟩
def td11 : Td := ⟨.str, 1, [.string .empty], 16⟩
theorem td11_ok : td11.Ok Try.prog 11 := ⟨Try.underlying11, by kernel_rfl, by kernel_rfl, by kernel_rfl⟩
def td12 : Td := ⟨.int .u64, 1, [.int .u64 0], 8⟩
theorem td12_ok : td12.Ok Try.prog 12 := ⟨Try.underlying12, by kernel_rfl, by kernel_rfl, by kernel_rfl⟩
def td13 : Td := ⟨.struct [(0, 1, 9), (1, 1, 12)], 2, [.string .empty, .int .u64 0], 24⟩
theorem td13_ok : td13.Ok Try.prog 13 := ⟨⟨_, Try.underlying13, by kernel_rfl⟩, by kernel_rfl, by kernel_rfl, by kernel_rfl⟩
def td14 : Td := ⟨.struct [(0, 1, 9), (1, 1, 12)], 2, [.string .empty, .int .u64 0], 24⟩
theorem td14_ok : td14.Ok Try.prog 14 := ⟨⟨_, Try.underlying14, by kernel_rfl⟩, by kernel_rfl, by kernel_rfl, by kernel_rfl⟩
def td15 : Td := ⟨.ptr 101, 1, [.pointer none], 8⟩
theorem td15_ok : td15.Ok Try.prog 15 := ⟨Try.underlying15, by kernel_rfl, by kernel_rfl, by kernel_rfl⟩
def td16 : Td := ⟨.ptr 104, 1, [.pointer none], 8⟩
theorem td16_ok : td16.Ok Try.prog 16 := ⟨Try.underlying16, by kernel_rfl, by kernel_rfl, by kernel_rfl⟩
def td17 : Td := ⟨.ptr 114, 1, [.pointer none], 8⟩
theorem td17_ok : td17.Ok Try.prog 17 := ⟨Try.underlying17, by kernel_rfl, by kernel_rfl, by kernel_rfl⟩
def td18 : Td := ⟨.struct [(0, 1, 17)], 1, [.pointer none], 8⟩
theorem td18_ok : td18.Ok Try.prog 18 := ⟨⟨_, Try.underlying18, by kernel_rfl⟩, by kernel_rfl, by kernel_rfl, by kernel_rfl⟩
def td19 : Td := ⟨.struct [(0, 1, 17)], 1, [.pointer none], 8⟩
theorem td19_ok : td19.Ok Try.prog 19 := ⟨⟨_, Try.underlying19, by kernel_rfl⟩, by kernel_rfl, by kernel_rfl, by kernel_rfl⟩
def td21 : Td := ⟨.int .i32, 1, [.int .i32 0], 4⟩
theorem td21_ok : td21.Ok Try.prog 21 := ⟨Try.underlying21, by kernel_rfl, by kernel_rfl, by kernel_rfl⟩
def td22 : Td := ⟨.slice 5, 1, [.slice none 0 0], 24⟩
theorem td22_ok : td22.Ok Try.prog 22 := ⟨Try.underlying22, by kernel_rfl, by kernel_rfl, by kernel_rfl⟩
def td24 : Td := ⟨.slice 84, 1, [.slice none 0 0], 24⟩
theorem td24_ok : td24.Ok Try.prog 24 := ⟨Try.underlying24, by kernel_rfl, by kernel_rfl, by kernel_rfl⟩
def td25 : Td := ⟨.struct [(0, 1, 24)], 1, [.slice none 0 0], 24⟩
theorem td25_ok : td25.Ok Try.prog 25 := ⟨⟨_, Try.underlying25, by kernel_rfl⟩, by kernel_rfl, by kernel_rfl, by kernel_rfl⟩
def td26 : Td := ⟨.struct [(0, 1, 24)], 1, [.slice none 0 0], 24⟩
theorem td26_ok : td26.Ok Try.prog 26 := ⟨⟨_, Try.underlying26, by kernel_rfl⟩, by kernel_rfl, by kernel_rfl, by kernel_rfl⟩
def td27 : Td := ⟨.struct [(0, 1, 3), (1, 1, 3)], 2, [.int .i64 0, .int .i64 0], 16⟩
theorem td27_ok : td27.Ok Try.prog 27 := ⟨⟨_, Try.underlying27, by kernel_rfl⟩, by kernel_rfl, by kernel_rfl, by kernel_rfl⟩
def td28 : Td := ⟨.struct [(0, 1, 3), (1, 1, 3)], 2, [.int .i64 0, .int .i64 0], 16⟩
theorem td28_ok : td28.Ok Try.prog 28 := ⟨⟨_, Try.underlying28, by kernel_rfl⟩, by kernel_rfl, by kernel_rfl, by kernel_rfl⟩
def td29 : Td := ⟨.struct [(0, 1, 3), (1, 1, 3), (2, 1, 3), (3, 1, 3), (4, 1, 3), (5, 2, 28), (7, 2, 28)], 9, [.int .i64 0, .int .i64 0, .int .i64 0, .int .i64 0, .int .i64 0, .int .i64 0, .int .i64 0, .int .i64 0, .int .i64 0], 72⟩
theorem td29_ok : td29.Ok Try.prog 29 := ⟨⟨_, Try.underlying29, by kernel_rfl⟩, by kernel_rfl, by kernel_rfl, by kernel_rfl⟩
def td30 : Td := ⟨.struct [(0, 1, 3), (1, 1, 3), (2, 1, 3), (3, 1, 3), (4, 1, 3), (5, 2, 28), (7, 2, 28)], 9, [.int .i64 0, .int .i64 0, .int .i64 0, .int .i64 0, .int .i64 0, .int .i64 0, .int .i64 0, .int .i64 0, .int .i64 0], 72⟩
theorem td30_ok : td30.Ok Try.prog 30 := ⟨⟨_, Try.underlying30, by kernel_rfl⟩, by kernel_rfl, by kernel_rfl, by kernel_rfl⟩
def td31 : Td := ⟨.slice 3, 1, [.slice none 0 0], 24⟩
theorem td31_ok : td31.Ok Try.prog 31 := ⟨Try.underlying31, by kernel_rfl, by kernel_rfl, by kernel_rfl⟩
def td41 : Td := ⟨.ptr 71, 1, [.pointer none], 8⟩
theorem td41_ok : td41.Ok Try.prog 41 := ⟨Try.underlying41, by kernel_rfl, by kernel_rfl, by kernel_rfl⟩
def td54 : Td := ⟨.ptr 79, 1, [.pointer none], 8⟩
theorem td54_ok : td54.Ok Try.prog 54 := ⟨Try.underlying54, by kernel_rfl, by kernel_rfl, by kernel_rfl⟩
def td62 : Td := ⟨.ptr 26, 1, [.pointer none], 8⟩
theorem td62_ok : td62.Ok Try.prog 62 := ⟨Try.underlying62, by kernel_rfl, by kernel_rfl, by kernel_rfl⟩
def td70 : Td := ⟨.struct [(0, 1, 22), (1, 1, 3), (2, 1, 3)], 3, [.slice none 0 0, .int .i64 0, .int .i64 0], 40⟩
theorem td70_ok : td70.Ok Try.prog 70 := ⟨⟨_, Try.underlying70, by kernel_rfl⟩, by kernel_rfl, by kernel_rfl, by kernel_rfl⟩
def td71 : Td := ⟨.struct [(0, 1, 22), (1, 1, 3), (2, 1, 3)], 3, [.slice none 0 0, .int .i64 0, .int .i64 0], 40⟩
theorem td71_ok : td71.Ok Try.prog 71 := ⟨⟨_, Try.underlying71, by kernel_rfl⟩, by kernel_rfl, by kernel_rfl, by kernel_rfl⟩
def td72 : Td := ⟨.int .u64, 1, [.int .u64 0], 8⟩
theorem td72_ok : td72.Ok Try.prog 72 := ⟨Try.underlying72, by kernel_rfl, by kernel_rfl, by kernel_rfl⟩
def td78 : Td := ⟨.struct [(0, 1, 24), (1, 1, 4)], 2, [.slice none 0 0, .bool false], 32⟩
theorem td78_ok : td78.Ok Try.prog 78 := ⟨⟨_, Try.underlying78, by kernel_rfl⟩, by kernel_rfl, by kernel_rfl, by kernel_rfl⟩
def td79 : Td := ⟨.struct [(0, 1, 24), (1, 1, 4)], 2, [.slice none 0 0, .bool false], 32⟩
theorem td79_ok : td79.Ok Try.prog 79 := ⟨⟨_, Try.underlying79, by kernel_rfl⟩, by kernel_rfl, by kernel_rfl, by kernel_rfl⟩
def td83 : Td := ⟨.struct [(0, 1, 3), (1, 1, 3), (2, 1, 3), (3, 1, 3)], 4, [.int .i64 0, .int .i64 0, .int .i64 0, .int .i64 0], 32⟩
theorem td83_ok : td83.Ok Try.prog 83 := ⟨⟨_, Try.underlying83, by kernel_rfl⟩, by kernel_rfl, by kernel_rfl, by kernel_rfl⟩
def td84 : Td := ⟨.struct [(0, 1, 3), (1, 1, 3), (2, 1, 3), (3, 1, 3)], 4, [.int .i64 0, .int .i64 0, .int .i64 0, .int .i64 0], 32⟩
theorem td84_ok : td84.Ok Try.prog 84 := ⟨⟨_, Try.underlying84, by kernel_rfl⟩, by kernel_rfl, by kernel_rfl, by kernel_rfl⟩
def td100 : Td := ⟨.struct [(0, 1, 17), (1, 1, 17), (2, 1, 17), (3, 1, 9)], 4, [.pointer none, .pointer none, .pointer none, .string .empty], 40⟩
theorem td100_ok : td100.Ok Try.prog 100 := ⟨⟨_, Try.underlying100, by kernel_rfl⟩, by kernel_rfl, by kernel_rfl, by kernel_rfl⟩
def td101 : Td := ⟨.struct [(0, 1, 17), (1, 1, 17), (2, 1, 17), (3, 1, 9)], 4, [.pointer none, .pointer none, .pointer none, .string .empty], 40⟩
theorem td101_ok : td101.Ok Try.prog 101 := ⟨⟨_, Try.underlying101, by kernel_rfl⟩, by kernel_rfl, by kernel_rfl, by kernel_rfl⟩
def td106 : Td := ⟨.int .u32, 1, [.int .u32 0], 4⟩
theorem td106_ok : td106.Ok Try.prog 106 := ⟨Try.underlying106, by kernel_rfl, by kernel_rfl, by kernel_rfl⟩
def td107 : Td := ⟨.int .u8, 1, [.int .u8 0], 1⟩
theorem td107_ok : td107.Ok Try.prog 107 := ⟨Try.underlying107, by kernel_rfl, by kernel_rfl, by kernel_rfl⟩
def td108 : Td := ⟨.int .u8, 1, [.int .u8 0], 1⟩
theorem td108_ok : td108.Ok Try.prog 108 := ⟨Try.underlying108, by kernel_rfl, by kernel_rfl, by kernel_rfl⟩
def td110 : Td := ⟨.ptr 5, 1, [.pointer none], 8⟩
theorem td110_ok : td110.Ok Try.prog 110 := ⟨Try.underlying110, by kernel_rfl, by kernel_rfl, by kernel_rfl⟩
def td111 : Td := ⟨.int .i32, 1, [.int .i32 0], 4⟩
theorem td111_ok : td111.Ok Try.prog 111 := ⟨Try.underlying111, by kernel_rfl, by kernel_rfl, by kernel_rfl⟩
def td112 : Td := ⟨.int .i32, 1, [.int .i32 0], 4⟩
theorem td112_ok : td112.Ok Try.prog 112 := ⟨Try.underlying112, by kernel_rfl, by kernel_rfl, by kernel_rfl⟩
theorem all_app {α : Type} {P : α → Prop} {l m : List α} (h : ∀ y ∈ l, P y) (k : ∀ y ∈ m, P y) : ∀ y ∈ l ++ m, P y := fun y hy => by
  rcases List.mem_append.1 hy with hy | hy
  · exact h y hy
  · exact k y hy
noncomputable def tyL0 : List (Nat × Td) := [(2, td2), (3, td3), (4, td4), (5, td5), (6, td6), (7, td7), (8, td8), (9, td9), (10, td10), (11, td11), (12, td12), (13, td13)]
theorem tyL0_ok : ∀ p ∈ tyL0, p.2.Ok Try.prog p.1 := all_cons td2_ok ( all_cons td3_ok ( all_cons td4_ok ( all_cons td5_ok ( all_cons td6_ok ( all_cons td7_ok ( all_cons td8_ok ( all_cons td9_ok ( all_cons td10_ok ( all_cons td11_ok ( all_cons td12_ok ( all_cons td13_ok ( all_nil))))))))))))
noncomputable def tyL1 : List (Nat × Td) := [(14, td14), (15, td15), (16, td16), (17, td17), (18, td18), (19, td19), (21, td21), (22, td22), (24, td24), (25, td25), (26, td26), (27, td27)]
theorem tyL1_ok : ∀ p ∈ tyL1, p.2.Ok Try.prog p.1 := all_cons td14_ok ( all_cons td15_ok ( all_cons td16_ok ( all_cons td17_ok ( all_cons td18_ok ( all_cons td19_ok ( all_cons td21_ok ( all_cons td22_ok ( all_cons td24_ok ( all_cons td25_ok ( all_cons td26_ok ( all_cons td27_ok ( all_nil))))))))))))
noncomputable def tyL2 : List (Nat × Td) := [(28, td28), (29, td29), (30, td30), (31, td31), (41, td41), (54, td54), (62, td62), (70, td70), (71, td71), (72, td72), (78, td78), (79, td79)]
theorem tyL2_ok : ∀ p ∈ tyL2, p.2.Ok Try.prog p.1 := all_cons td28_ok ( all_cons td29_ok ( all_cons td30_ok ( all_cons td31_ok ( all_cons td41_ok ( all_cons td54_ok ( all_cons td62_ok ( all_cons td70_ok ( all_cons td71_ok ( all_cons td72_ok ( all_cons td78_ok ( all_cons td79_ok ( all_nil))))))))))))
noncomputable def tyL3 : List (Nat × Td) := [(83, td83), (84, td84), (100, td100), (101, td101), (106, td106), (107, td107), (108, td108), (110, td110), (111, td111), (112, td112)]
theorem tyL3_ok : ∀ p ∈ tyL3, p.2.Ok Try.prog p.1 := all_cons td83_ok ( all_cons td84_ok ( all_cons td100_ok ( all_cons td101_ok ( all_cons td106_ok ( all_cons td107_ok ( all_cons td108_ok ( all_cons td110_ok ( all_cons td111_ok ( all_cons td112_ok ( all_nil))))))))))
noncomputable def tyL : List (Nat × Td) := tyL0 ++ (tyL1 ++ (tyL2 ++ (tyL3)))
theorem tyL_ok : ∀ p ∈ tyL, p.2.Ok Try.prog p.1 := all_app tyL0_ok (all_app tyL1_ok (all_app tyL2_ok (tyL3_ok)))
noncomputable def tyT : Tr Td := tabOf tyL
noncomputable def fnL0 : List (Nat × Func) := [(0, Try.f0), (1, Try.f1), (2, Try.f2), (3, Try.f3), (4, Try.f4), (5, Try.f5), (6, Try.f6), (7, Try.f7), (8, Try.f8), (9, Try.f9), (10, Try.f10), (11, Try.f11)]
theorem fnL0_ok : ∀ p ∈ fnL0, Try.prog.funcs[p.1]? = some p.2 ∧ (p.2.name == "runtime.NumGoroutine") = false := all_cons ⟨Try.func0, by kernel_rfl⟩ ( all_cons ⟨Try.func1, by kernel_rfl⟩ ( all_cons ⟨Try.func2, by kernel_rfl⟩ ( all_cons ⟨Try.func3, by kernel_rfl⟩ ( all_cons ⟨Try.func4, by kernel_rfl⟩ ( all_cons ⟨Try.func5, by kernel_rfl⟩ ( all_cons ⟨Try.func6, by kernel_rfl⟩ ( all_cons ⟨Try.func7, by kernel_rfl⟩ ( all_cons ⟨Try.func8, by kernel_rfl⟩ ( all_cons ⟨Try.func9, by kernel_rfl⟩ ( all_cons ⟨Try.func10, by kernel_rfl⟩ ( all_cons ⟨Try.func11, by kernel_rfl⟩ ( all_nil))))))))))))
noncomputable def fnL1 : List (Nat × Func) := [(12, Try.f12), (13, Try.f13), (14, Try.f14), (15, Try.f15), (16, Try.f16), (17, Try.f17), (18, Try.f18), (19, Try.f19), (20, Try.f20), (21, Try.f21), (22, Try.f22), (23, Try.f23)]
theorem fnL1_ok : ∀ p ∈ fnL1, Try.prog.funcs[p.1]? = some p.2 ∧ (p.2.name == "runtime.NumGoroutine") = false := all_cons ⟨Try.func12, by kernel_rfl⟩ ( all_cons ⟨Try.func13, by kernel_rfl⟩ ( all_cons ⟨Try.func14, by kernel_rfl⟩ ( all_cons ⟨Try.func15, by kernel_rfl⟩ ( all_cons ⟨Try.func16, by kernel_rfl⟩ ( all_cons ⟨Try.func17, by kernel_rfl⟩ ( all_cons ⟨Try.func18, by kernel_rfl⟩ ( all_cons ⟨Try.func19, by kernel_rfl⟩ ( all_cons ⟨Try.func20, by kernel_rfl⟩ ( all_cons ⟨Try.func21, by kernel_rfl⟩ ( all_cons ⟨Try.func22, by kernel_rfl⟩ ( all_cons ⟨Try.func23, by kernel_rfl⟩ ( all_nil))))))))))))
noncomputable def fnL2 : List (Nat × Func) := [(24, Try.f24), (25, Try.f25), (26, Try.f26), (27, Try.f27), (28, Try.f28), (29, Try.f29), (30, Try.f30), (31, Try.f31), (32, Try.f32), (33, Try.f33), (34, Try.f34), (35, Try.f35)]
theorem fnL2_ok : ∀ p ∈ fnL2, Try.prog.funcs[p.1]? = some p.2 ∧ (p.2.name == "runtime.NumGoroutine") = false := all_cons ⟨Try.func24, by kernel_rfl⟩ ( all_cons ⟨Try.func25, by kernel_rfl⟩ ( all_cons ⟨Try.func26, by kernel_rfl⟩ ( all_cons ⟨Try.func27, by kernel_rfl⟩ ( all_cons ⟨Try.func28, by kernel_rfl⟩ ( all_cons ⟨Try.func29, by kernel_rfl⟩ ( all_cons ⟨Try.func30, by kernel_rfl⟩ ( all_cons ⟨Try.func31, by kernel_rfl⟩ ( all_cons ⟨Try.func32, by kernel_rfl⟩ ( all_cons ⟨Try.func33, by kernel_rfl⟩ ( all_cons ⟨Try.func34, by kernel_rfl⟩ ( all_cons ⟨Try.func35, by kernel_rfl⟩ ( all_nil))))))))))))
noncomputable def fnL3 : List (Nat × Func) := [(36, Try.f36), (37, Try.f37), (38, Try.f38), (39, Try.f39), (40, Try.f40), (41, Try.f41), (42, Try.f42), (43, Try.f43), (44, Try.f44), (45, Try.f45), (46, Try.f46), (47, Try.f47)]
theorem fnL3_ok : ∀ p ∈ fnL3, Try.prog.funcs[p.1]? = some p.2 ∧ (p.2.name == "runtime.NumGoroutine") = false := all_cons ⟨Try.func36, by kernel_rfl⟩ ( all_cons ⟨Try.func37, by kernel_rfl⟩ ( all_cons ⟨Try.func38, by kernel_rfl⟩ ( all_cons ⟨Try.func39, by kernel_rfl⟩ ( all_cons ⟨Try.func40, by kernel_rfl⟩ ( all_cons ⟨Try.func41, by kernel_rfl⟩ ( all_cons ⟨Try.func42, by kernel_rfl⟩ ( all_cons ⟨Try.func43, by kernel_rfl⟩ ( all_cons ⟨Try.func44, by kernel_rfl⟩ ( all_cons ⟨Try.func45, by kernel_rfl⟩ ( all_cons ⟨Try.func46, by kernel_rfl⟩ ( all_cons ⟨Try.func47, by kernel_rfl⟩ ( all_nil))))))))))))
noncomputable def fnL4 : List (Nat × Func) := [(48, Try.f48), (49, Try.f49), (50, Try.f50), (51, Try.f51), (52, Try.f52), (53, Try.f53), (54, Try.f54), (55, Try.f55), (56, Try.f56), (57, Try.f57), (58, Try.f58), (59, Try.f59)]
theorem fnL4_ok : ∀ p ∈ fnL4, Try.prog.funcs[p.1]? = some p.2 ∧ (p.2.name == "runtime.NumGoroutine") = false := all_cons ⟨Try.func48, by kernel_rfl⟩ ( all_cons ⟨Try.func49, by kernel_rfl⟩ ( all_cons ⟨Try.func50, by kernel_rfl⟩ ( all_cons ⟨Try.func51, by kernel_rfl⟩ ( all_cons ⟨Try.func52, by kernel_rfl⟩ ( all_cons ⟨Try.func53, by kernel_rfl⟩ ( all_cons ⟨Try.func54, by kernel_rfl⟩ ( all_cons ⟨Try.func55, by kernel_rfl⟩ ( all_cons ⟨Try.func56, by kernel_rfl⟩ ( all_cons ⟨Try.func57, by kernel_rfl⟩ ( all_cons ⟨Try.func58, by kernel_rfl⟩ ( all_cons ⟨Try.func59, by kernel_rfl⟩ ( all_nil))))))))))))
noncomputable def fnL5 : List (Nat × Func) := [(60, Try.f60), (61, Try.f61), (62, Try.f62), (63, Try.f63), (64, Try.f64), (65, Try.f65), (66, Try.f66), (67, Try.f67), (68, Try.f68), (69, Try.f69), (70, Try.f70), (71, Try.f71)]
theorem fnL5_ok : ∀ p ∈ fnL5, Try.prog.funcs[p.1]? = some p.2 ∧ (p.2.name == "runtime.NumGoroutine") = false := all_cons ⟨Try.func60, by kernel_rfl⟩ ( all_cons ⟨Try.func61, by kernel_rfl⟩ ( all_cons ⟨Try.func62, by kernel_rfl⟩ ( all_cons ⟨Try.func63, by kernel_rfl⟩ ( all_cons ⟨Try.func64, by kernel_rfl⟩ ( all_cons ⟨Try.func65, by kernel_rfl⟩ ( all_cons ⟨Try.func66, by kernel_rfl⟩ ( all_cons ⟨Try.func67, by kernel_rfl⟩ ( all_cons ⟨Try.func68, by kernel_rfl⟩ ( all_cons ⟨Try.func69, by kernel_rfl⟩ ( all_cons ⟨Try.func70, by kernel_rfl⟩ ( all_cons ⟨Try.func71, by kernel_rfl⟩ ( all_nil))))))))))))
noncomputable def fnL6 : List (Nat × Func) := [(72, Try.f72), (73, Try.f73), (74, Try.f74), (75, Try.f75), (76, Try.f76), (77, Try.f77), (78, Try.f78), (79, Try.f79), (80, Try.f80), (81, Try.f81), (82, Try.f82), (83, Try.f83)]
theorem fnL6_ok : ∀ p ∈ fnL6, Try.prog.funcs[p.1]? = some p.2 ∧ (p.2.name == "runtime.NumGoroutine") = false := all_cons ⟨Try.func72, by kernel_rfl⟩ ( all_cons ⟨Try.func73, by kernel_rfl⟩ ( all_cons ⟨Try.func74, by kernel_rfl⟩ ( all_cons ⟨Try.func75, by kernel_rfl⟩ ( all_cons ⟨Try.func76, by kernel_rfl⟩ ( all_cons ⟨Try.func77, by kernel_rfl⟩ ( all_cons ⟨Try.func78, by kernel_rfl⟩ ( all_cons ⟨Try.func79, by kernel_rfl⟩ ( all_cons ⟨Try.func80, by kernel_rfl⟩ ( all_cons ⟨Try.func81, by kernel_rfl⟩ ( all_cons ⟨Try.func82, by kernel_rfl⟩ ( all_cons ⟨Try.func83, by kernel_rfl⟩ ( all_nil))))))))))))
noncomputable def fnL7 : List (Nat × Func) := [(84, Try.f84), (85, Try.f85), (86, Try.f86)]
theorem fnL7_ok : ∀ p ∈ fnL7, Try.prog.funcs[p.1]? = some p.2 ∧ (p.2.name == "runtime.NumGoroutine") = false := all_cons ⟨Try.func84, by kernel_rfl⟩ ( all_cons ⟨Try.func85, by kernel_rfl⟩ ( all_cons ⟨Try.func86, by kernel_rfl⟩ ( all_nil)))
noncomputable def fnL : List (Nat × Func) := fnL0 ++ (fnL1 ++ (fnL2 ++ (fnL3 ++ (fnL4 ++ (fnL5 ++ (fnL6 ++ (fnL7)))))))
theorem fnL_ok : ∀ p ∈ fnL, Try.prog.funcs[p.1]? = some p.2 ∧ (p.2.name == "runtime.NumGoroutine") = false := all_app fnL0_ok (all_app fnL1_ok (all_app fnL2_ok (all_app fnL3_ok (all_app fnL4_ok (all_app fnL5_ok (all_app fnL6_ok (fnL7_ok)))))))
noncomputable def fnT : Tr Func := tabOf fnL
theorem beq_dec (x y : Int) : (x == y) = decide (x = y) := by
  by_cases h : x = y <;> simp [h]
theorem fit_cons {k : CK} {ks : List CK} {us : List Value} (h : Fit (k :: ks) us) : ∃ u us', us = u :: us' ∧ k.has u ∧ Fit ks us' := by
  match us, h with
  | u :: us, h => exact ⟨u, us, rfl, h.2 0 k u rfl rfl, by simpa using h.1, fun j kk v hk hv => h.2 (j + 1) kk v (by simpa using hk) (by simpa using hv)⟩
  | [], h => exact absurd h.1 (by simp)
theorem fit_nil {us : List Value} (h : Fit [] us) : us = [] := List.eq_nil_of_length_eq_zero h.1
set_option maxHeartbeats 2000000 in
theorem eqv84 (d : Nat) (w : World) (x0 y0 : Int) (x1 y1 : Int) (x2 y2 : Int) (x3 y3 : Int) : (Op.equalIn (d + 2) 84 (.agg #[.int .i64 x0, .int .i64 x1, .int .i64 x2, .int .i64 x3]) (.agg #[.int .i64 y0, .int .i64 y1, .int .i64 y2, .int .i64 y3])).run Try.prog w = .ok (eqL [.int .i64 x0, .int .i64 x1, .int .i64 x2, .int .i64 x3] [.int .i64 y0, .int .i64 y1, .int .i64 y2, .int .i64 y3]) w := by
  have h : (Op.equalIn (d + 2) 84 (.agg #[.int .i64 x0, .int .i64 x1, .int .i64 x2, .int .i64 x3]) (.agg #[.int .i64 y0, .int .i64 y1, .int .i64 y2, .int .i64 y3])).run Try.prog w = .ok ((x0 == y0) && ((x1 == y1) && ((x2 == y2) && ((x3 == y3) && true)))) w := by
    refine eqA_of Try.underlying84 (by kernel_rfl) ?_
    refine eqf_cons (by rfl) (a := .int .i64 x0) (b := .int .i64 y0) (by go_simp <;> rfl) (by go_simp <;> rfl) (eq_int Try.underlying3 x0 y0) ?_
    refine eqf_cons (by rfl) (a := .int .i64 x1) (b := .int .i64 y1) (by go_simp <;> rfl) (by go_simp <;> rfl) (eq_int Try.underlying3 x1 y1) ?_
    refine eqf_cons (by rfl) (a := .int .i64 x2) (b := .int .i64 y2) (by go_simp <;> rfl) (by go_simp <;> rfl) (eq_int Try.underlying3 x2 y2) ?_
    refine eqf_cons (by rfl) (a := .int .i64 x3) (b := .int .i64 y3) (by go_simp <;> rfl) (by go_simp <;> rfl) (eq_int Try.underlying3 x3 y3) ?_
    exact eqf_nil
  exact h.trans (by first | rfl | (congr 1; simp only [eqL, binV, isT, Bool.and_true, Bool.and_assoc, beq_dec]))
theorem eqok84 : EqOk Try.prog 84 [.n .i64, .n .i64, .n .i64, .n .i64] := by
  refine eqOk_of (by kernel_rfl) fun us vs w hu hv => ?_
  obtain ⟨_, us0, rfl, ⟨x0, rfl⟩, hu0⟩ := fit_cons hu
  obtain ⟨_, vs0, rfl, ⟨y0, rfl⟩, hv0⟩ := fit_cons hv
  obtain ⟨_, us1, rfl, ⟨x1, rfl⟩, hu1⟩ := fit_cons hu0
  obtain ⟨_, vs1, rfl, ⟨y1, rfl⟩, hv1⟩ := fit_cons hv0
  obtain ⟨_, us2, rfl, ⟨x2, rfl⟩, hu2⟩ := fit_cons hu1
  obtain ⟨_, vs2, rfl, ⟨y2, rfl⟩, hv2⟩ := fit_cons hv1
  obtain ⟨_, us3, rfl, ⟨x3, rfl⟩, hu3⟩ := fit_cons hu2
  obtain ⟨_, vs3, rfl, ⟨y3, rfl⟩, hv3⟩ := fit_cons hv2
  obtain rfl := fit_nil hu3
  obtain rfl := fit_nil hv3
  exact eqv84 9998 w x0 y0 x1 y1 x2 y2 x3 y3
set_option maxHeartbeats 2000000 in
theorem eqv28 (d : Nat) (w : World) (x0 y0 : Int) (x1 y1 : Int) : (Op.equalIn (d + 2) 28 (.agg #[.int .i64 x0, .int .i64 x1]) (.agg #[.int .i64 y0, .int .i64 y1])).run Try.prog w = .ok (eqL [.int .i64 x0, .int .i64 x1] [.int .i64 y0, .int .i64 y1]) w := by
  have h : (Op.equalIn (d + 2) 28 (.agg #[.int .i64 x0, .int .i64 x1]) (.agg #[.int .i64 y0, .int .i64 y1])).run Try.prog w = .ok ((x0 == y0) && ((x1 == y1) && true)) w := by
    refine eqA_of Try.underlying28 (by kernel_rfl) ?_
    refine eqf_cons (by rfl) (a := .int .i64 x0) (b := .int .i64 y0) (by go_simp <;> rfl) (by go_simp <;> rfl) (eq_int Try.underlying3 x0 y0) ?_
    refine eqf_cons (by rfl) (a := .int .i64 x1) (b := .int .i64 y1) (by go_simp <;> rfl) (by go_simp <;> rfl) (eq_int Try.underlying3 x1 y1) ?_
    exact eqf_nil
  exact h.trans (by first | rfl | (congr 1; simp only [eqL, binV, isT, Bool.and_true, Bool.and_assoc, beq_dec]))
theorem eqok28 : EqOk Try.prog 28 [.n .i64, .n .i64] := by
  refine eqOk_of (by kernel_rfl) fun us vs w hu hv => ?_
  obtain ⟨_, us0, rfl, ⟨x0, rfl⟩, hu0⟩ := fit_cons hu
  obtain ⟨_, vs0, rfl, ⟨y0, rfl⟩, hv0⟩ := fit_cons hv
  obtain ⟨_, us1, rfl, ⟨x1, rfl⟩, hu1⟩ := fit_cons hu0
  obtain ⟨_, vs1, rfl, ⟨y1, rfl⟩, hv1⟩ := fit_cons hv0
  obtain rfl := fit_nil hu1
  obtain rfl := fit_nil hv1
  exact eqv28 9998 w x0 y0 x1 y1
set_option maxHeartbeats 2000000 in
theorem eqv30 (d : Nat) (w : World) (x0 y0 : Int) (x1 y1 : Int) (x2 y2 : Int) (x3 y3 : Int) (x4 y4 : Int) (x5 y5 : Int) (x6 y6 : Int) (x7 y7 : Int) (x8 y8 : Int) : (Op.equalIn (d + 3) 30 (.agg #[.int .i64 x0, .int .i64 x1, .int .i64 x2, .int .i64 x3, .int .i64 x4, .int .i64 x5, .int .i64 x6, .int .i64 x7, .int .i64 x8]) (.agg #[.int .i64 y0, .int .i64 y1, .int .i64 y2, .int .i64 y3, .int .i64 y4, .int .i64 y5, .int .i64 y6, .int .i64 y7, .int .i64 y8])).run Try.prog w = .ok (eqL [.int .i64 x0, .int .i64 x1, .int .i64 x2, .int .i64 x3, .int .i64 x4, .int .i64 x5, .int .i64 x6, .int .i64 x7, .int .i64 x8] [.int .i64 y0, .int .i64 y1, .int .i64 y2, .int .i64 y3, .int .i64 y4, .int .i64 y5, .int .i64 y6, .int .i64 y7, .int .i64 y8]) w := by
  have h : (Op.equalIn (d + 3) 30 (.agg #[.int .i64 x0, .int .i64 x1, .int .i64 x2, .int .i64 x3, .int .i64 x4, .int .i64 x5, .int .i64 x6, .int .i64 x7, .int .i64 x8]) (.agg #[.int .i64 y0, .int .i64 y1, .int .i64 y2, .int .i64 y3, .int .i64 y4, .int .i64 y5, .int .i64 y6, .int .i64 y7, .int .i64 y8])).run Try.prog w = .ok ((x0 == y0) && ((x1 == y1) && ((x2 == y2) && ((x3 == y3) && ((x4 == y4) && ((eqL [.int .i64 x5, .int .i64 x6] [.int .i64 y5, .int .i64 y6]) && ((eqL [.int .i64 x7, .int .i64 x8] [.int .i64 y7, .int .i64 y8]) && true))))))) w := by
    refine eqA_of Try.underlying30 (by kernel_rfl) ?_
    refine eqf_cons (by rfl) (a := .int .i64 x0) (b := .int .i64 y0) (by go_simp <;> rfl) (by go_simp <;> rfl) (eq_int Try.underlying3 x0 y0) ?_
    refine eqf_cons (by rfl) (a := .int .i64 x1) (b := .int .i64 y1) (by go_simp <;> rfl) (by go_simp <;> rfl) (eq_int Try.underlying3 x1 y1) ?_
    refine eqf_cons (by rfl) (a := .int .i64 x2) (b := .int .i64 y2) (by go_simp <;> rfl) (by go_simp <;> rfl) (eq_int Try.underlying3 x2 y2) ?_
    refine eqf_cons (by rfl) (a := .int .i64 x3) (b := .int .i64 y3) (by go_simp <;> rfl) (by go_simp <;> rfl) (eq_int Try.underlying3 x3 y3) ?_
    refine eqf_cons (by rfl) (a := .int .i64 x4) (b := .int .i64 y4) (by go_simp <;> rfl) (by go_simp <;> rfl) (eq_int Try.underlying3 x4 y4) ?_
    refine eqf_cons (by rfl) (a := .agg #[.int .i64 x5, .int .i64 x6]) (b := .agg #[.int .i64 y5, .int .i64 y6]) (by go_simp <;> rfl) (by go_simp <;> rfl) (eqv28 (d + 0) w x5 y5 x6 y6) ?_
    refine eqf_cons (by rfl) (a := .agg #[.int .i64 x7, .int .i64 x8]) (b := .agg #[.int .i64 y7, .int .i64 y8]) (by go_simp <;> rfl) (by go_simp <;> rfl) (eqv28 (d + 0) w x7 y7 x8 y8) ?_
    exact eqf_nil
  exact h.trans (by first | rfl | (congr 1; simp only [eqL, binV, isT, Bool.and_true, Bool.and_assoc, beq_dec]))
theorem eqok30 : EqOk Try.prog 30 [.n .i64, .n .i64, .n .i64, .n .i64, .n .i64, .n .i64, .n .i64, .n .i64, .n .i64] := by
  refine eqOk_of (by kernel_rfl) fun us vs w hu hv => ?_
  obtain ⟨_, us0, rfl, ⟨x0, rfl⟩, hu0⟩ := fit_cons hu
  obtain ⟨_, vs0, rfl, ⟨y0, rfl⟩, hv0⟩ := fit_cons hv
  obtain ⟨_, us1, rfl, ⟨x1, rfl⟩, hu1⟩ := fit_cons hu0
  obtain ⟨_, vs1, rfl, ⟨y1, rfl⟩, hv1⟩ := fit_cons hv0
  obtain ⟨_, us2, rfl, ⟨x2, rfl⟩, hu2⟩ := fit_cons hu1
  obtain ⟨_, vs2, rfl, ⟨y2, rfl⟩, hv2⟩ := fit_cons hv1
  obtain ⟨_, us3, rfl, ⟨x3, rfl⟩, hu3⟩ := fit_cons hu2
  obtain ⟨_, vs3, rfl, ⟨y3, rfl⟩, hv3⟩ := fit_cons hv2
  obtain ⟨_, us4, rfl, ⟨x4, rfl⟩, hu4⟩ := fit_cons hu3
  obtain ⟨_, vs4, rfl, ⟨y4, rfl⟩, hv4⟩ := fit_cons hv3
  obtain ⟨_, us5, rfl, ⟨x5, rfl⟩, hu5⟩ := fit_cons hu4
  obtain ⟨_, vs5, rfl, ⟨y5, rfl⟩, hv5⟩ := fit_cons hv4
  obtain ⟨_, us6, rfl, ⟨x6, rfl⟩, hu6⟩ := fit_cons hu5
  obtain ⟨_, vs6, rfl, ⟨y6, rfl⟩, hv6⟩ := fit_cons hv5
  obtain ⟨_, us7, rfl, ⟨x7, rfl⟩, hu7⟩ := fit_cons hu6
  obtain ⟨_, vs7, rfl, ⟨y7, rfl⟩, hv7⟩ := fit_cons hv6
  obtain ⟨_, us8, rfl, ⟨x8, rfl⟩, hu8⟩ := fit_cons hu7
  obtain ⟨_, vs8, rfl, ⟨y8, rfl⟩, hv8⟩ := fit_cons hv7
  obtain rfl := fit_nil hu8
  obtain rfl := fit_nil hv8
  exact eqv30 9997 w x0 y0 x1 y1 x2 y2 x3 y3 x4 y4 x5 y5 x6 y6 x7 y7 x8 y8
noncomputable def eqsL : List (Nat × List CK) := [(84, [.n .i64, .n .i64, .n .i64, .n .i64]), (28, [.n .i64, .n .i64]), (30, [.n .i64, .n .i64, .n .i64, .n .i64, .n .i64, .n .i64, .n .i64, .n .i64, .n .i64])]
theorem eqsL_ok : ∀ p ∈ eqsL, EqOk Try.prog p.1 p.2 := all_cons eqok84 ( all_cons eqok28 ( all_cons eqok30 ( all_nil)))
noncomputable def eqsT : Tr (List CK) := tabOf eqsL
/-- The machine over this program. -/
noncomputable def cfg (sums : FuncId → List Sum) (lps : FuncId → Nat → List Sum) (fact : Nat → List Value → List Rw → List Value → List Rw → Prop) (pre : Nat → List Value → List Rw → Prop) : Cfg := ⟨Try.prog, tyT.get, fnT.get, sums, lps, fact, pre, 0, 0, eqsT.get⟩
theorem cfg_ok {sums : FuncId → List Sum} {lps : FuncId → Nat → List Sum} {fact : Nat → List Value → List Rw → List Value → List Rw → Prop} {pre : Nat → List Value → List Rw → Prop} : (cfg sums lps fact pre).Ok where
  ty t d e := tyL_ok (t, d) (tabOf_mem tyL t d e)
  fn f F e := fnL_ok (f, F) (tabOf_mem fnL f F e)
  mixed := by kernel_rfl
  eqs t ks e := eqsL_ok (t, ks) (tabOf_mem eqsL t ks e)
/-- The same, with names for big terms. -/
noncomputable def Cfg.names (C : Cfg) (n : Nat) : Cfg := { C with big := n }
noncomputable def Cfg.rows (C : Cfg) (n : Nat) : Cfg := { C with arr := n }
theorem Cfg.Ok.rows {C : Cfg} (h : C.Ok) (n : Nat) : (C.rows n).Ok := ⟨h.ty, h.fn, h.mixed, h.eqs⟩
theorem Cfg.Ok.names {C : Cfg} (h : C.Ok) (n : Nat) : (C.names n).Ok := ⟨h.ty, h.fn, h.mixed, h.eqs⟩
end Go.Proofs.Ytipomcnbjlfekaa.Rs
