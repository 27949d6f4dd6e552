/- The types and functions of the program, as tables; and that they are the program's. -/
import Derived.Test.YtdfhkmekmockkaaRs16
import Derived.Test.YtdfhkmekmockkaaProg
import Derived.KernelRfl
namespace Go.Proofs.Ytdfhkmekmockkaa.Rs
set_option linter.unusedVariables false
set_option maxRecDepth 100000
def tabOf {α : Type} : List (Nat × α) → Tr α
  | [] => .e
  | (k, x) :: r => (tabOf r).put k (some x)
theorem tabOf_mem {α : Type} : ∀ (l : List (Nat × α)) (k : Nat) (x : α), (tabOf l).get k = some x → (k, x) ∈ l
  | [], k, x, h => by simp [tabOf, Tr.get] at h
  | (j, y) :: r, k, x, h => by
    simp only [tabOf, Tr.get_put] at h
    split at h
    · rename_i e
      cases h
      subst e
      exact List.mem_cons_self
    · exact List.mem_cons_of_mem _ (tabOf_mem r k x h)
theorem all_cons {α : Type} {P : α → Prop} {x : α} {l : List α} (h : P x) (k : ∀ y ∈ l, P y) : ∀ y ∈ x :: l, P y := fun y hy => by
  rcases List.mem_cons.1 hy with rfl | hy
  · exact h
  · exact k y hy
theorem all_nil {α : Type} {P : α → Prop} : ∀ y ∈ ([] : List α), P y := fun y hy => by cases hy
def td2 : Td := ⟨.int .i64, 1, [.int .i64 0], 8⟩
theorem td2_ok : td2.Ok Try.prog 2 := ⟨Try.underlying2, by kernel_rfl, by kernel_rfl, by kernel_rfl⟩
def td3 : Td := ⟨.int .i64, 1, [.int .i64 0], 8⟩
theorem td3_ok : td3.Ok Try.prog 3 := ⟨Try.underlying3, by kernel_rfl, by kernel_rfl, by kernel_rfl⟩
def td4 : Td := ⟨.bool, 1, [.bool false], 1⟩
theorem td4_ok : td4.Ok Try.prog 4 := ⟨Try.underlying4, by kernel_rfl, by kernel_rfl, by kernel_rfl⟩
def td5 : Td := ⟨.int .u8, 1, [.int .u8 0], 1⟩
theorem td5_ok : td5.Ok Try.prog 5 := ⟨Try.underlying5, by kernel_rfl, by kernel_rfl, by kernel_rfl⟩
def td6 : Td := ⟨.int .u8, 1, [.int .u8 0], 1⟩
theorem td6_ok : td6.Ok Try.prog 6 := ⟨Try.underlying6, by kernel_rfl, by kernel_rfl, by kernel_rfl⟩
def td7 : Td := ⟨.struct [(0, 1, 2), (1, 1, 3), (2, 1, 4), (3, 1, 6)], 4, [.int .i64 0, .int .i64 0, .bool false, .int .u8 0], 24⟩
theorem td7_ok : td7.Ok Try.prog 7 := ⟨⟨_, Try.underlying7, by kernel_rfl⟩, by kernel_rfl, by kernel_rfl, by kernel_rfl⟩
def td8 : Td := ⟨.struct [(0, 1, 2), (1, 1, 3), (2, 1, 4), (3, 1, 6)], 4, [.int .i64 0, .int .i64 0, .bool false, .int .u8 0], 24⟩
theorem td8_ok : td8.Ok Try.prog 8 := ⟨⟨_, Try.underlying8, by kernel_rfl⟩, by kernel_rfl, by kernel_rfl, by kernel_rfl⟩
def td9 : Td := ⟨.str, 1, [.string .empty], 16⟩
theorem td9_ok : td9.Ok Try.prog 9 := ⟨Try.underlying9, by kernel_rfl, by kernel_rfl, by kernel_rfl⟩
def td10 : Td := ⟨.str, 1, [.string .empty], 16⟩
theorem td10_ok : td10.Ok Try.prog 10 := ⟨Try.underlying10, by kernel_rfl, by kernel_rfl, by kernel_rfl⟩
def td11 : Td := ⟨.str, 1, [.string .empty], 16⟩
theorem td11_ok : td11.Ok Try.prog 11 := ⟨Try.underlying11, by kernel_rfl, by kernel_rfl, by kernel_rfl⟩
def td12 : Td := ⟨.int .u64, 1, [.int .u64 0], 8⟩
theorem td12_ok : td12.Ok Try.prog 12 := ⟨Try.underlying12, by kernel_rfl, by kernel_rfl, by kernel_rfl⟩
def td13 : Td := ⟨.struct [(0, 1, 9), (1, 1, 12)], 2, [.string .empty, .int .u64 0], 24⟩
theorem td13_ok : td13.Ok Try.prog 13 := ⟨⟨_, Try.underlying13, by kernel_rfl⟩, by kernel_rfl, by kernel_rfl, by kernel_rfl⟩
def td14 : Td := ⟨.struct [(0, 1, 9), (1, 1, 12)], 2, [.string .empty, .int .u64 0], 24⟩
theorem td14_ok : td14.Ok Try.prog 14 := ⟨⟨_, Try.underlying14, by kernel_rfl⟩, by kernel_rfl, by kernel_rfl, by kernel_rfl⟩
def td15 : Td := ⟨.ptr 241, 1, [.pointer none], 8⟩
theorem td15_ok : td15.Ok Try.prog 15 := ⟨Try.underlying15, by kernel_rfl, by kernel_rfl, by kernel_rfl⟩
def td16 : Td := ⟨.ptr 244, 1, [.pointer none], 8⟩
theorem td16_ok : td16.Ok Try.prog 16 := ⟨Try.underlying16, by kernel_rfl, by kernel_rfl, by kernel_rfl⟩
def td17 : Td := ⟨.ptr 253, 1, [.pointer none], 8⟩
theorem td17_ok : td17.Ok Try.prog 17 := ⟨Try.underlying17, by kernel_rfl, by kernel_rfl, by kernel_rfl⟩
def td18 : Td := ⟨.struct [(0, 1, 17)], 1, [.pointer none], 8⟩
theorem td18_ok : td18.Ok Try.prog 18 := ⟨⟨_, Try.underlying18, by kernel_rfl⟩, by kernel_rfl, by kernel_rfl, by kernel_rfl⟩
def td19 : Td := ⟨.struct [(0, 1, 17)], 1, [.pointer none], 8⟩
theorem td19_ok : td19.Ok Try.prog 19 := ⟨⟨_, Try.underlying19, by kernel_rfl⟩, by kernel_rfl, by kernel_rfl, by kernel_rfl⟩
def td21 : Td := ⟨.int .i32, 1, [.int .i32 0], 4⟩
theorem td21_ok : td21.Ok Try.prog 21 := ⟨Try.underlying21, by kernel_rfl, by kernel_rfl, by kernel_rfl⟩
def td22 : Td := ⟨.struct [(0, 1, 3), (1, 1, 3)], 2, [.int .i64 0, .int .i64 0], 16⟩
theorem td22_ok : td22.Ok Try.prog 22 := ⟨⟨_, Try.underlying22, by kernel_rfl⟩, by kernel_rfl, by kernel_rfl, by kernel_rfl⟩
def td23 : Td := ⟨.struct [(0, 1, 3), (1, 1, 3)], 2, [.int .i64 0, .int .i64 0], 16⟩
theorem td23_ok : td23.Ok Try.prog 23 := ⟨⟨_, Try.underlying23, by kernel_rfl⟩, by kernel_rfl, by kernel_rfl, by kernel_rfl⟩
def td24 : Td := ⟨.struct [(0, 1, 3), (1, 1, 3), (2, 1, 3), (3, 1, 3), (4, 1, 3), (5, 2, 23), (7, 2, 23)], 9, [.int .i64 0, .int .i64 0, .int .i64 0, .int .i64 0, .int .i64 0, .int .i64 0, .int .i64 0, .int .i64 0, .int .i64 0], 72⟩
theorem td24_ok : td24.Ok Try.prog 24 := ⟨⟨_, Try.underlying24, by kernel_rfl⟩, by kernel_rfl, by kernel_rfl, by kernel_rfl⟩
def td25 : Td := ⟨.struct [(0, 1, 3), (1, 1, 3), (2, 1, 3), (3, 1, 3), (4, 1, 3), (5, 2, 23), (7, 2, 23)], 9, [.int .i64 0, .int .i64 0, .int .i64 0, .int .i64 0, .int .i64 0, .int .i64 0, .int .i64 0, .int .i64 0, .int .i64 0], 72⟩
theorem td25_ok : td25.Ok Try.prog 25 := ⟨⟨_, Try.underlying25, by kernel_rfl⟩, by kernel_rfl, by kernel_rfl, by kernel_rfl⟩
def td26 : Td := ⟨.struct [(0, 1, 3), (1, 1, 3), (2, 1, 3), (3, 1, 3), (4, 1, 3), (5, 1, 4), (6, 1, 3), (7, 1, 3), (8, 1, 3), (9, 1, 3), (10, 1, 3), (11, 9, 25), (20, 1, 3), (21, 1, 3), (22, 1, 3)], 23, [.int .i64 0, .int .i64 0, .int .i64 0, .int .i64 0, .int .i64 0, .bool false, .int .i64 0, .int .i64 0, .int .i64 0, .int .i64 0, .int .i64 0, .int .i64 0, .int .i64 0, .int .i64 0, .int .i64 0, .int .i64 0, .int .i64 0, .int .i64 0, .int .i64 0, .int .i64 0, .int .i64 0, .int .i64 0, .int .i64 0], 184⟩
theorem td26_ok : td26.Ok Try.prog 26 := ⟨⟨_, Try.underlying26, by kernel_rfl⟩, by kernel_rfl, by kernel_rfl, by kernel_rfl⟩
def td27 : Td := ⟨.struct [(0, 1, 3), (1, 1, 3), (2, 1, 3), (3, 1, 3), (4, 1, 3), (5, 1, 4), (6, 1, 3), (7, 1, 3), (8, 1, 3), (9, 1, 3), (10, 1, 3), (11, 9, 25), (20, 1, 3), (21, 1, 3), (22, 1, 3)], 23, [.int .i64 0, .int .i64 0, .int .i64 0, .int .i64 0, .int .i64 0, .bool false, .int .i64 0, .int .i64 0, .int .i64 0, .int .i64 0, .int .i64 0, .int .i64 0, .int .i64 0, .int .i64 0, .int .i64 0, .int .i64 0, .int .i64 0, .int .i64 0, .int .i64 0, .int .i64 0, .int .i64 0, .int .i64 0, .int .i64 0], 184⟩
theorem td27_ok : td27.Ok Try.prog 27 := ⟨⟨_, Try.underlying27, by kernel_rfl⟩, by kernel_rfl, by kernel_rfl, by kernel_rfl⟩
def td31 : Td := ⟨.slice 111, 1, [.slice none 0 0], 24⟩
theorem td31_ok : td31.Ok Try.prog 31 := ⟨Try.underlying31, by kernel_rfl, by kernel_rfl, by kernel_rfl⟩
def td33 : Td := ⟨.slice 109, 1, [.slice none 0 0], 24⟩
theorem td33_ok : td33.Ok Try.prog 33 := ⟨Try.underlying33, by kernel_rfl, by kernel_rfl, by kernel_rfl⟩
def td40 : Td := ⟨.slice 3, 1, [.slice none 0 0], 24⟩
theorem td40_ok : td40.Ok Try.prog 40 := ⟨Try.underlying40, by kernel_rfl, by kernel_rfl, by kernel_rfl⟩
def td46 : Td := ⟨.struct [(0, 1, 3), (1, 1, 3)], 2, [.int .i64 0, .int .i64 0], 16⟩
theorem td46_ok : td46.Ok Try.prog 46 := ⟨⟨_, Try.underlying46, by kernel_rfl⟩, by kernel_rfl, by kernel_rfl, by kernel_rfl⟩
def td47 : Td := ⟨.struct [(0, 1, 3), (1, 1, 3), (2, 1, 3), (3, 1, 3), (4, 1, 3), (5, 2, 46), (7, 2, 46)], 9, [.int .i64 0, .int .i64 0, .int .i64 0, .int .i64 0, .int .i64 0, .int .i64 0, .int .i64 0, .int .i64 0, .int .i64 0], 72⟩
theorem td47_ok : td47.Ok Try.prog 47 := ⟨⟨_, Try.underlying47, by kernel_rfl⟩, by kernel_rfl, by kernel_rfl, by kernel_rfl⟩
def td48 : Td := ⟨.struct [(0, 1, 3), (1, 1, 3), (2, 1, 3), (3, 1, 3), (4, 1, 3), (5, 2, 46), (7, 2, 46)], 9, [.int .i64 0, .int .i64 0, .int .i64 0, .int .i64 0, .int .i64 0, .int .i64 0, .int .i64 0, .int .i64 0, .int .i64 0], 72⟩
theorem td48_ok : td48.Ok Try.prog 48 := ⟨⟨_, Try.underlying48, by kernel_rfl⟩, by kernel_rfl, by kernel_rfl, by kernel_rfl⟩
def td49 : Td := ⟨.struct [(0, 1, 3), (1, 1, 3), (2, 1, 3), (3, 1, 3), (4, 1, 3), (5, 1, 4), (6, 1, 3), (7, 1, 3), (8, 1, 3), (9, 1, 3), (10, 1, 3), (11, 9, 48), (20, 1, 3), (21, 1, 3), (22, 1, 3)], 23, [.int .i64 0, .int .i64 0, .int .i64 0, .int .i64 0, .int .i64 0, .bool false, .int .i64 0, .int .i64 0, .int .i64 0, .int .i64 0, .int .i64 0, .int .i64 0, .int .i64 0, .int .i64 0, .int .i64 0, .int .i64 0, .int .i64 0, .int .i64 0, .int .i64 0, .int .i64 0, .int .i64 0, .int .i64 0, .int .i64 0], 184⟩
theorem td49_ok : td49.Ok Try.prog 49 := ⟨⟨_, Try.underlying49, by kernel_rfl⟩, by kernel_rfl, by kernel_rfl, by kernel_rfl⟩
def td50 : Td := ⟨.struct [(0, 1, 3), (1, 1, 3), (2, 1, 3), (3, 1, 3), (4, 1, 3), (5, 1, 4), (6, 1, 3), (7, 1, 3), (8, 1, 3), (9, 1, 3), (10, 1, 3), (11, 9, 48), (20, 1, 3), (21, 1, 3), (22, 1, 3)], 23, [.int .i64 0, .int .i64 0, .int .i64 0, .int .i64 0, .int .i64 0, .bool false, .int .i64 0, .int .i64 0, .int .i64 0, .int .i64 0, .int .i64 0, .int .i64 0, .int .i64 0, .int .i64 0, .int .i64 0, .int .i64 0, .int .i64 0, .int .i64 0, .int .i64 0, .int .i64 0, .int .i64 0, .int .i64 0, .int .i64 0], 184⟩
theorem td50_ok : td50.Ok Try.prog 50 := ⟨⟨_, Try.underlying50, by kernel_rfl⟩, by kernel_rfl, by kernel_rfl, by kernel_rfl⟩
def td55 : Td := ⟨.slice 5, 1, [.slice none 0 0], 24⟩
theorem td55_ok : td55.Ok Try.prog 55 := ⟨Try.underlying55, by kernel_rfl, by kernel_rfl, by kernel_rfl⟩
def td58 : Td := ⟨.slice 142, 1, [.slice none 0 0], 24⟩
theorem td58_ok : td58.Ok Try.prog 58 := ⟨Try.underlying58, by kernel_rfl, by kernel_rfl, by kernel_rfl⟩
def td59 : Td := ⟨.struct [(0, 1, 58)], 1, [.slice none 0 0], 24⟩
theorem td59_ok : td59.Ok Try.prog 59 := ⟨⟨_, Try.underlying59, by kernel_rfl⟩, by kernel_rfl, by kernel_rfl, by kernel_rfl⟩
def td60 : Td := ⟨.struct [(0, 1, 58)], 1, [.slice none 0 0], 24⟩
theorem td60_ok : td60.Ok Try.prog 60 := ⟨⟨_, Try.underlying60, by kernel_rfl⟩, by kernel_rfl, by kernel_rfl, by kernel_rfl⟩
def td69 : Td := ⟨.slice 199, 1, [.slice none 0 0], 24⟩
theorem td69_ok : td69.Ok Try.prog 69 := ⟨Try.underlying69, by kernel_rfl, by kernel_rfl, by kernel_rfl⟩
def td70 : Td := ⟨.slice 156, 1, [.slice none 0 0], 24⟩
theorem td70_ok : td70.Ok Try.prog 70 := ⟨Try.underlying70, by kernel_rfl, by kernel_rfl, by kernel_rfl⟩
def td71 : Td := ⟨.slice 207, 1, [.slice none 0 0], 24⟩
theorem td71_ok : td71.Ok Try.prog 71 := ⟨Try.underlying71, by kernel_rfl, by kernel_rfl, by kernel_rfl⟩
def td72 : Td := ⟨.struct [(0, 1, 3), (1, 1, 3), (2, 1, 69), (3, 1, 31), (4, 1, 70), (5, 1, 71), (6, 1, 3)], 7, [.int .i64 0, .int .i64 0, .slice none 0 0, .slice none 0 0, .slice none 0 0, .slice none 0 0, .int .i64 0], 120⟩
theorem td72_ok : td72.Ok Try.prog 72 := ⟨⟨_, Try.underlying72, by kernel_rfl⟩, by kernel_rfl, by kernel_rfl, by kernel_rfl⟩
def td73 : Td := ⟨.struct [(0, 1, 3), (1, 1, 3), (2, 1, 69), (3, 1, 31), (4, 1, 70), (5, 1, 71), (6, 1, 3)], 7, [.int .i64 0, .int .i64 0, .slice none 0 0, .slice none 0 0, .slice none 0 0, .slice none 0 0, .int .i64 0], 120⟩
theorem td73_ok : td73.Ok Try.prog 73 := ⟨⟨_, Try.underlying73, by kernel_rfl⟩, by kernel_rfl, by kernel_rfl, by kernel_rfl⟩
def td76 : Td := ⟨.slice 148, 1, [.slice none 0 0], 24⟩
theorem td76_ok : td76.Ok Try.prog 76 := ⟨Try.underlying76, by kernel_rfl, by kernel_rfl, by kernel_rfl⟩
def td77 : Td := ⟨.slice 154, 1, [.slice none 0 0], 24⟩
theorem td77_ok : td77.Ok Try.prog 77 := ⟨Try.underlying77, by kernel_rfl, by kernel_rfl, by kernel_rfl⟩
def td78 : Td := ⟨.slice 203, 1, [.slice none 0 0], 24⟩
theorem td78_ok : td78.Ok Try.prog 78 := ⟨Try.underlying78, by kernel_rfl, by kernel_rfl, by kernel_rfl⟩
def td79 : Td := ⟨.struct [(0, 1, 3), (1, 1, 3), (2, 1, 76), (3, 1, 33), (4, 1, 77), (5, 1, 78), (6, 1, 3)], 7, [.int .i64 0, .int .i64 0, .slice none 0 0, .slice none 0 0, .slice none 0 0, .slice none 0 0, .int .i64 0], 120⟩
theorem td79_ok : td79.Ok Try.prog 79 := ⟨⟨_, Try.underlying79, by kernel_rfl⟩, by kernel_rfl, by kernel_rfl, by kernel_rfl⟩
def td80 : Td := ⟨.struct [(0, 1, 3), (1, 1, 3), (2, 1, 76), (3, 1, 33), (4, 1, 77), (5, 1, 78), (6, 1, 3)], 7, [.int .i64 0, .int .i64 0, .slice none 0 0, .slice none 0 0, .slice none 0 0, .slice none 0 0, .int .i64 0], 120⟩
theorem td80_ok : td80.Ok Try.prog 80 := ⟨⟨_, Try.underlying80, by kernel_rfl⟩, by kernel_rfl, by kernel_rfl, by kernel_rfl⟩
def td99 : Td := ⟨.slice 27, 1, [.slice none 0 0], 24⟩
theorem td99_ok : td99.Ok Try.prog 99 := ⟨Try.underlying99, by kernel_rfl, by kernel_rfl, by kernel_rfl⟩
def td100 : Td := ⟨.slice 227, 1, [.slice none 0 0], 24⟩
theorem td100_ok : td100.Ok Try.prog 100 := ⟨Try.underlying100, by kernel_rfl, by kernel_rfl, by kernel_rfl⟩
def td101 : Td := ⟨.slice 230, 1, [.slice none 0 0], 24⟩
theorem td101_ok : td101.Ok Try.prog 101 := ⟨Try.underlying101, by kernel_rfl, by kernel_rfl, by kernel_rfl⟩
def td102 : Td := ⟨.struct [(0, 1, 60), (1, 1, 99), (2, 1, 40), (3, 7, 80), (10, 1, 100), (11, 1, 3), (12, 1, 3), (13, 1, 40), (14, 1, 40), (15, 1, 101), (16, 1, 101), (17, 1, 101), (18, 1, 101), (19, 1, 40)], 20, [.slice none 0 0, .slice none 0 0, .slice none 0 0, .int .i64 0, .int .i64 0, .slice none 0 0, .slice none 0 0, .slice none 0 0, .slice none 0 0, .int .i64 0, .slice none 0 0, .int .i64 0, .int .i64 0, .slice none 0 0, .slice none 0 0, .slice none 0 0, .slice none 0 0, .slice none 0 0, .slice none 0 0, .slice none 0 0], 400⟩
theorem td102_ok : td102.Ok Try.prog 102 := ⟨⟨_, Try.underlying102, by kernel_rfl⟩, by kernel_rfl, by kernel_rfl, by kernel_rfl⟩
def td103 : Td := ⟨.struct [(0, 1, 60), (1, 1, 99), (2, 1, 40), (3, 7, 80), (10, 1, 100), (11, 1, 3), (12, 1, 3), (13, 1, 40), (14, 1, 40), (15, 1, 101), (16, 1, 101), (17, 1, 101), (18, 1, 101), (19, 1, 40)], 20, [.slice none 0 0, .slice none 0 0, .slice none 0 0, .int .i64 0, .int .i64 0, .slice none 0 0, .slice none 0 0, .slice none 0 0, .slice none 0 0, .int .i64 0, .slice none 0 0, .int .i64 0, .int .i64 0, .slice none 0 0, .slice none 0 0, .slice none 0 0, .slice none 0 0, .slice none 0 0, .slice none 0 0, .slice none 0 0], 400⟩
theorem td103_ok : td103.Ok Try.prog 103 := ⟨⟨_, Try.underlying103, by kernel_rfl⟩, by kernel_rfl, by kernel_rfl, by kernel_rfl⟩
def td108 : Td := ⟨.struct [(0, 1, 3), (1, 1, 3)], 2, [.int .i64 0, .int .i64 0], 16⟩
theorem td108_ok : td108.Ok Try.prog 108 := ⟨⟨_, Try.underlying108, by kernel_rfl⟩, by kernel_rfl, by kernel_rfl, by kernel_rfl⟩
def td109 : Td := ⟨.struct [(0, 1, 3), (1, 1, 3)], 2, [.int .i64 0, .int .i64 0], 16⟩
theorem td109_ok : td109.Ok Try.prog 109 := ⟨⟨_, Try.underlying109, by kernel_rfl⟩, by kernel_rfl, by kernel_rfl, by kernel_rfl⟩
def td111 : Td := ⟨.struct [(0, 1, 3), (1, 1, 3)], 2, [.int .i64 0, .int .i64 0], 16⟩
theorem td111_ok : td111.Ok Try.prog 111 := ⟨⟨_, Try.underlying111, by kernel_rfl⟩, by kernel_rfl, by kernel_rfl, by kernel_rfl⟩
def td114 : Td := ⟨.int .u32, 1, [.int .u32 0], 4⟩
theorem td114_ok : td114.Ok Try.prog 114 := ⟨Try.underlying114, by kernel_rfl, by kernel_rfl, by kernel_rfl⟩
def td115 : Td := ⟨.arr 8 114, 8, [.int .u32 0, .int .u32 0, .int .u32 0, .int .u32 0, .int .u32 0, .int .u32 0, .int .u32 0, .int .u32 0], 32⟩
theorem td115_ok : td115.Ok Try.prog 115 := ⟨Try.underlying115, by kernel_rfl, by kernel_rfl, by kernel_rfl⟩
def td117 : Td := ⟨.arr 64 114, 64, [.int .u32 0, .int .u32 0, .int .u32 0, .int .u32 0, .int .u32 0, .int .u32 0, .int .u32 0, .int .u32 0, .int .u32 0, .int .u32 0, .int .u32 0, .int .u32 0, .int .u32 0, .int .u32 0, .int .u32 0, .int .u32 0, .int .u32 0, .int .u32 0, .int .u32 0, .int .u32 0, .int .u32 0, .int .u32 0, .int .u32 0, .int .u32 0, .int .u32 0, .int .u32 0, .int .u32 0, .int .u32 0, .int .u32 0, .int .u32 0, .int .u32 0, .int .u32 0, .int .u32 0, .int .u32 0, .int .u32 0, .int .u32 0, .int .u32 0, .int .u32 0, .int .u32 0, .int .u32 0, .int .u32 0, .int .u32 0, .int .u32 0, .int .u32 0, .int .u32 0, .int .u32 0, .int .u32 0, .int .u32 0, .int .u32 0, .int .u32 0, .int .u32 0, .int .u32 0, .int .u32 0, .int .u32 0, .int .u32 0, .int .u32 0, .int .u32 0, .int .u32 0, .int .u32 0, .int .u32 0, .int .u32 0, .int .u32 0, .int .u32 0, .int .u32 0], 256⟩
theorem td117_ok : td117.Ok Try.prog 117 := ⟨Try.underlying117, by kernel_rfl, by kernel_rfl, by kernel_rfl⟩
def td120 : Td := ⟨.arr 64 3, 64, [.int .i64 0, .int .i64 0, .int .i64 0, .int .i64 0, .int .i64 0, .int .i64 0, .int .i64 0, .int .i64 0, .int .i64 0, .int .i64 0, .int .i64 0, .int .i64 0, .int .i64 0, .int .i64 0, .int .i64 0, .int .i64 0, .int .i64 0, .int .i64 0, .int .i64 0, .int .i64 0, .int .i64 0, .int .i64 0, .int .i64 0, .int .i64 0, .int .i64 0, .int .i64 0, .int .i64 0, .int .i64 0, .int .i64 0, .int .i64 0, .int .i64 0, .int .i64 0, .int .i64 0, .int .i64 0, .int .i64 0, .int .i64 0, .int .i64 0, .int .i64 0, .int .i64 0, .int .i64 0, .int .i64 0, .int .i64 0, .int .i64 0, .int .i64 0, .int .i64 0, .int .i64 0, .int .i64 0, .int .i64 0, .int .i64 0, .int .i64 0, .int .i64 0, .int .i64 0, .int .i64 0, .int .i64 0, .int .i64 0, .int .i64 0, .int .i64 0, .int .i64 0, .int .i64 0, .int .i64 0, .int .i64 0, .int .i64 0, .int .i64 0, .int .i64 0], 512⟩
theorem td120_ok : td120.Ok Try.prog 120 := ⟨Try.underlying120, by kernel_rfl, by kernel_rfl, by kernel_rfl⟩
def td125 : Td := ⟨.ptr 192, 1, [.pointer none], 8⟩
theorem td125_ok : td125.Ok Try.prog 125 := ⟨Try.underlying125, by kernel_rfl, by kernel_rfl, by kernel_rfl⟩
def td130 : Td := ⟨.ptr 178, 1, [.pointer none], 8⟩
theorem td130_ok : td130.Ok Try.prog 130 := ⟨Try.underlying130, by kernel_rfl, by kernel_rfl, by kernel_rfl⟩
def td135 : Td := ⟨.struct [(0, 1, 3), (1, 1, 3), (2, 1, 3), (3, 1, 3)], 4, [.int .i64 0, .int .i64 0, .int .i64 0, .int .i64 0], 32⟩
theorem td135_ok : td135.Ok Try.prog 135 := ⟨⟨_, Try.underlying135, by kernel_rfl⟩, by kernel_rfl, by kernel_rfl, by kernel_rfl⟩
def td136 : Td := ⟨.struct [(0, 1, 3), (1, 1, 3), (2, 1, 3), (3, 1, 3)], 4, [.int .i64 0, .int .i64 0, .int .i64 0, .int .i64 0], 32⟩
theorem td136_ok : td136.Ok Try.prog 136 := ⟨⟨_, Try.underlying136, by kernel_rfl⟩, by kernel_rfl, by kernel_rfl, by kernel_rfl⟩
def td141 : Td := ⟨.struct [(0, 1, 3), (1, 1, 3), (2, 1, 3), (3, 1, 3)], 4, [.int .i64 0, .int .i64 0, .int .i64 0, .int .i64 0], 32⟩
theorem td141_ok : td141.Ok Try.prog 141 := ⟨⟨_, Try.underlying141, by kernel_rfl⟩, by kernel_rfl, by kernel_rfl, by kernel_rfl⟩
def td142 : Td := ⟨.struct [(0, 1, 3), (1, 1, 3), (2, 1, 3), (3, 1, 3)], 4, [.int .i64 0, .int .i64 0, .int .i64 0, .int .i64 0], 32⟩
theorem td142_ok : td142.Ok Try.prog 142 := ⟨⟨_, Try.underlying142, by kernel_rfl⟩, by kernel_rfl, by kernel_rfl, by kernel_rfl⟩
def td147 : Td := ⟨.struct [(0, 1, 3), (1, 1, 3), (2, 1, 3), (3, 1, 3), (4, 1, 3), (5, 1, 3), (6, 1, 3), (7, 1, 3), (8, 1, 3), (9, 1, 3), (10, 9, 25), (19, 1, 3)], 20, [.int .i64 0, .int .i64 0, .int .i64 0, .int .i64 0, .int .i64 0, .int .i64 0, .int .i64 0, .int .i64 0, .int .i64 0, .int .i64 0, .int .i64 0, .int .i64 0, .int .i64 0, .int .i64 0, .int .i64 0, .int .i64 0, .int .i64 0, .int .i64 0, .int .i64 0, .int .i64 0], 160⟩
theorem td147_ok : td147.Ok Try.prog 147 := ⟨⟨_, Try.underlying147, by kernel_rfl⟩, by kernel_rfl, by kernel_rfl, by kernel_rfl⟩
def td148 : Td := ⟨.struct [(0, 1, 3), (1, 1, 3), (2, 1, 3), (3, 1, 3), (4, 1, 3), (5, 1, 3), (6, 1, 3), (7, 1, 3), (8, 1, 3), (9, 1, 3), (10, 9, 25), (19, 1, 3)], 20, [.int .i64 0, .int .i64 0, .int .i64 0, .int .i64 0, .int .i64 0, .int .i64 0, .int .i64 0, .int .i64 0, .int .i64 0, .int .i64 0, .int .i64 0, .int .i64 0, .int .i64 0, .int .i64 0, .int .i64 0, .int .i64 0, .int .i64 0, .int .i64 0, .int .i64 0, .int .i64 0], 160⟩
theorem td148_ok : td148.Ok Try.prog 148 := ⟨⟨_, Try.underlying148, by kernel_rfl⟩, by kernel_rfl, by kernel_rfl, by kernel_rfl⟩
def td153 : Td := ⟨.struct [(0, 1, 3), (1, 1, 3), (2, 1, 3)], 3, [.int .i64 0, .int .i64 0, .int .i64 0], 24⟩
theorem td153_ok : td153.Ok Try.prog 153 := ⟨⟨_, Try.underlying153, by kernel_rfl⟩, by kernel_rfl, by kernel_rfl, by kernel_rfl⟩
def td154 : Td := ⟨.struct [(0, 1, 3), (1, 1, 3), (2, 1, 3)], 3, [.int .i64 0, .int .i64 0, .int .i64 0], 24⟩
theorem td154_ok : td154.Ok Try.prog 154 := ⟨⟨_, Try.underlying154, by kernel_rfl⟩, by kernel_rfl, by kernel_rfl, by kernel_rfl⟩
def td156 : Td := ⟨.struct [(0, 1, 3), (1, 1, 3), (2, 1, 3)], 3, [.int .i64 0, .int .i64 0, .int .i64 0], 24⟩
theorem td156_ok : td156.Ok Try.prog 156 := ⟨⟨_, Try.underlying156, by kernel_rfl⟩, by kernel_rfl, by kernel_rfl, by kernel_rfl⟩
def td175 : Td := ⟨.ptr 60, 1, [.pointer none], 8⟩
theorem td175_ok : td175.Ok Try.prog 175 := ⟨Try.underlying175, by kernel_rfl, by kernel_rfl, by kernel_rfl⟩
def td177 : Td := ⟨.struct [(0, 1, 58), (1, 1, 4)], 2, [.slice none 0 0, .bool false], 32⟩
theorem td177_ok : td177.Ok Try.prog 177 := ⟨⟨_, Try.underlying177, by kernel_rfl⟩, by kernel_rfl, by kernel_rfl, by kernel_rfl⟩
def td178 : Td := ⟨.struct [(0, 1, 58), (1, 1, 4)], 2, [.slice none 0 0, .bool false], 32⟩
theorem td178_ok : td178.Ok Try.prog 178 := ⟨⟨_, Try.underlying178, by kernel_rfl⟩, by kernel_rfl, by kernel_rfl, by kernel_rfl⟩
def td188 : Td := ⟨.int .u64, 1, [.int .u64 0], 8⟩
theorem td188_ok : td188.Ok Try.prog 188 := ⟨Try.underlying188, by kernel_rfl, by kernel_rfl, by kernel_rfl⟩
def td191 : Td := ⟨.struct [(0, 1, 55), (1, 1, 3), (2, 1, 3)], 3, [.slice none 0 0, .int .i64 0, .int .i64 0], 40⟩
theorem td191_ok : td191.Ok Try.prog 191 := ⟨⟨_, Try.underlying191, by kernel_rfl⟩, by kernel_rfl, by kernel_rfl, by kernel_rfl⟩
def td192 : Td := ⟨.struct [(0, 1, 55), (1, 1, 3), (2, 1, 3)], 3, [.slice none 0 0, .int .i64 0, .int .i64 0], 40⟩
theorem td192_ok : td192.Ok Try.prog 192 := ⟨⟨_, Try.underlying192, by kernel_rfl⟩, by kernel_rfl, by kernel_rfl, by kernel_rfl⟩
def td198 : Td := ⟨.struct [(0, 1, 3), (1, 1, 3), (2, 1, 3), (3, 1, 3), (4, 1, 3), (5, 1, 3), (6, 1, 3), (7, 1, 3), (8, 1, 3), (9, 1, 3), (10, 9, 48), (19, 1, 3)], 20, [.int .i64 0, .int .i64 0, .int .i64 0, .int .i64 0, .int .i64 0, .int .i64 0, .int .i64 0, .int .i64 0, .int .i64 0, .int .i64 0, .int .i64 0, .int .i64 0, .int .i64 0, .int .i64 0, .int .i64 0, .int .i64 0, .int .i64 0, .int .i64 0, .int .i64 0, .int .i64 0], 160⟩
theorem td198_ok : td198.Ok Try.prog 198 := ⟨⟨_, Try.underlying198, by kernel_rfl⟩, by kernel_rfl, by kernel_rfl, by kernel_rfl⟩
def td199 : Td := ⟨.struct [(0, 1, 3), (1, 1, 3), (2, 1, 3), (3, 1, 3), (4, 1, 3), (5, 1, 3), (6, 1, 3), (7, 1, 3), (8, 1, 3), (9, 1, 3), (10, 9, 48), (19, 1, 3)], 20, [.int .i64 0, .int .i64 0, .int .i64 0, .int .i64 0, .int .i64 0, .int .i64 0, .int .i64 0, .int .i64 0, .int .i64 0, .int .i64 0, .int .i64 0, .int .i64 0, .int .i64 0, .int .i64 0, .int .i64 0, .int .i64 0, .int .i64 0, .int .i64 0, .int .i64 0, .int .i64 0], 160⟩
theorem td199_ok : td199.Ok Try.prog 199 := ⟨⟨_, Try.underlying199, by kernel_rfl⟩, by kernel_rfl, by kernel_rfl, by kernel_rfl⟩
def td200 : Td := ⟨.struct [(0, 1, 3), (1, 1, 3), (2, 1, 3), (3, 1, 3)], 4, [.int .i64 0, .int .i64 0, .int .i64 0, .int .i64 0], 32⟩
theorem td200_ok : td200.Ok Try.prog 200 := ⟨⟨_, Try.underlying200, by kernel_rfl⟩, by kernel_rfl, by kernel_rfl, by kernel_rfl⟩
def td201 : Td := ⟨.struct [(0, 1, 3), (1, 1, 3), (2, 1, 3), (3, 1, 3)], 4, [.int .i64 0, .int .i64 0, .int .i64 0, .int .i64 0], 32⟩
theorem td201_ok : td201.Ok Try.prog 201 := ⟨⟨_, Try.underlying201, by kernel_rfl⟩, by kernel_rfl, by kernel_rfl, by kernel_rfl⟩
def td202 : Td := ⟨.struct [(0, 1, 3), (1, 4, 201)], 5, [.int .i64 0, .int .i64 0, .int .i64 0, .int .i64 0, .int .i64 0], 40⟩
theorem td202_ok : td202.Ok Try.prog 202 := ⟨⟨_, Try.underlying202, by kernel_rfl⟩, by kernel_rfl, by kernel_rfl, by kernel_rfl⟩
def td203 : Td := ⟨.struct [(0, 1, 3), (1, 4, 201)], 5, [.int .i64 0, .int .i64 0, .int .i64 0, .int .i64 0, .int .i64 0], 40⟩
theorem td203_ok : td203.Ok Try.prog 203 := ⟨⟨_, Try.underlying203, by kernel_rfl⟩, by kernel_rfl, by kernel_rfl, by kernel_rfl⟩
def td205 : Td := ⟨.struct [(0, 1, 3), (1, 1, 3), (2, 1, 3), (3, 1, 3)], 4, [.int .i64 0, .int .i64 0, .int .i64 0, .int .i64 0], 32⟩
theorem td205_ok : td205.Ok Try.prog 205 := ⟨⟨_, Try.underlying205, by kernel_rfl⟩, by kernel_rfl, by kernel_rfl, by kernel_rfl⟩
def td206 : Td := ⟨.struct [(0, 1, 3), (1, 4, 205)], 5, [.int .i64 0, .int .i64 0, .int .i64 0, .int .i64 0, .int .i64 0], 40⟩
theorem td206_ok : td206.Ok Try.prog 206 := ⟨⟨_, Try.underlying206, by kernel_rfl⟩, by kernel_rfl, by kernel_rfl, by kernel_rfl⟩
def td207 : Td := ⟨.struct [(0, 1, 3), (1, 4, 205)], 5, [.int .i64 0, .int .i64 0, .int .i64 0, .int .i64 0, .int .i64 0], 40⟩
theorem td207_ok : td207.Ok Try.prog 207 := ⟨⟨_, Try.underlying207, by kernel_rfl⟩, by kernel_rfl, by kernel_rfl, by kernel_rfl⟩
def td226 : Td := ⟨.struct [(0, 1, 3), (1, 1, 3), (2, 1, 3)], 3, [.int .i64 0, .int .i64 0, .int .i64 0], 24⟩
theorem td226_ok : td226.Ok Try.prog 226 := ⟨⟨_, Try.underlying226, by kernel_rfl⟩, by kernel_rfl, by kernel_rfl, by kernel_rfl⟩
def td227 : Td := ⟨.struct [(0, 1, 3), (1, 1, 3), (2, 1, 3)], 3, [.int .i64 0, .int .i64 0, .int .i64 0], 24⟩
theorem td227_ok : td227.Ok Try.prog 227 := ⟨⟨_, Try.underlying227, by kernel_rfl⟩, by kernel_rfl, by kernel_rfl, by kernel_rfl⟩
def td229 : Td := ⟨.struct [(0, 1, 3), (1, 1, 3), (2, 1, 3), (3, 1, 3), (4, 1, 3), (5, 1, 3), (6, 1, 4)], 7, [.int .i64 0, .int .i64 0, .int .i64 0, .int .i64 0, .int .i64 0, .int .i64 0, .bool false], 56⟩
theorem td229_ok : td229.Ok Try.prog 229 := ⟨⟨_, Try.underlying229, by kernel_rfl⟩, by kernel_rfl, by kernel_rfl, by kernel_rfl⟩
def td230 : Td := ⟨.struct [(0, 1, 3), (1, 1, 3), (2, 1, 3), (3, 1, 3), (4, 1, 3), (5, 1, 3), (6, 1, 4)], 7, [.int .i64 0, .int .i64 0, .int .i64 0, .int .i64 0, .int .i64 0, .int .i64 0, .bool false], 56⟩
theorem td230_ok : td230.Ok Try.prog 230 := ⟨⟨_, Try.underlying230, by kernel_rfl⟩, by kernel_rfl, by kernel_rfl, by kernel_rfl⟩
def td240 : Td := ⟨.struct [(0, 1, 17), (1, 1, 17), (2, 1, 17), (3, 1, 9)], 4, [.pointer none, .pointer none, .pointer none, .string .empty], 40⟩
theorem td240_ok : td240.Ok Try.prog 240 := ⟨⟨_, Try.underlying240, by kernel_rfl⟩, by kernel_rfl, by kernel_rfl, by kernel_rfl⟩
def td241 : Td := ⟨.struct [(0, 1, 17), (1, 1, 17), (2, 1, 17), (3, 1, 9)], 4, [.pointer none, .pointer none, .pointer none, .string .empty], 40⟩
theorem td241_ok : td241.Ok Try.prog 241 := ⟨⟨_, Try.underlying241, by kernel_rfl⟩, by kernel_rfl, by kernel_rfl, by kernel_rfl⟩
def td246 : Td := ⟨.int .u8, 1, [.int .u8 0], 1⟩
theorem td246_ok : td246.Ok Try.prog 246 := ⟨Try.underlying246, by kernel_rfl, by kernel_rfl, by kernel_rfl⟩
def td247 : Td := ⟨.int .u8, 1, [.int .u8 0], 1⟩
theorem td247_ok : td247.Ok Try.prog 247 := ⟨Try.underlying247, by kernel_rfl, by kernel_rfl, by kernel_rfl⟩
def td249 : Td := ⟨.ptr 5, 1, [.pointer none], 8⟩
theorem td249_ok : td249.Ok Try.prog 249 := ⟨Try.underlying249, by kernel_rfl, by kernel_rfl, by kernel_rfl⟩
def td250 : Td := ⟨.int .i32, 1, [.int .i32 0], 4⟩
theorem td250_ok : td250.Ok Try.prog 250 := ⟨Try.underlying250, by kernel_rfl, by kernel_rfl, by kernel_rfl⟩
def td251 : Td := ⟨.int .i32, 1, [.int .i32 0], 4⟩
theorem td251_ok : td251.Ok Try.prog 251 := ⟨Try.underlying251, by kernel_rfl, by kernel_rfl, by kernel_rfl⟩
theorem all_app {α : Type} {P : α → Prop} {l m : List α} (h : ∀ y ∈ l, P y) (k : ∀ y ∈ m, P y) : ∀ y ∈ l ++ m, P y := fun y hy => by
  rcases List.mem_append.1 hy with hy | hy
  · exact h y hy
  · exact k y hy
noncomputable def tyL0 : List (Nat × Td) := [(2, td2), (3, td3), (4, td4), (5, td5), (6, td6), (7, td7), (8, td8), (9, td9), (10, td10), (11, td11), (12, td12), (13, td13)]
theorem tyL0_ok : ∀ p ∈ tyL0, p.2.Ok Try.prog p.1 := all_cons td2_ok ( all_cons td3_ok ( all_cons td4_ok ( all_cons td5_ok ( all_cons td6_ok ( all_cons td7_ok ( all_cons td8_ok ( all_cons td9_ok ( all_cons td10_ok ( all_cons td11_ok ( all_cons td12_ok ( all_cons td13_ok ( all_nil))))))))))))
noncomputable def tyL1 : List (Nat × Td) := [(14, td14), (15, td15), (16, td16), (17, td17), (18, td18), (19, td19), (21, td21), (22, td22), (23, td23), (24, td24), (25, td25), (26, td26)]
theorem tyL1_ok : ∀ p ∈ tyL1, p.2.Ok Try.prog p.1 := all_cons td14_ok ( all_cons td15_ok ( all_cons td16_ok ( all_cons td17_ok ( all_cons td18_ok ( all_cons td19_ok ( all_cons td21_ok ( all_cons td22_ok ( all_cons td23_ok ( all_cons td24_ok ( all_cons td25_ok ( all_cons td26_ok ( all_nil))))))))))))
noncomputable def tyL2 : List (Nat × Td) := [(27, td27), (31, td31), (33, td33), (40, td40), (46, td46), (47, td47), (48, td48), (49, td49), (50, td50), (55, td55), (58, td58), (59, td59)]
theorem tyL2_ok : ∀ p ∈ tyL2, p.2.Ok Try.prog p.1 := all_cons td27_ok ( all_cons td31_ok ( all_cons td33_ok ( all_cons td40_ok ( all_cons td46_ok ( all_cons td47_ok ( all_cons td48_ok ( all_cons td49_ok ( all_cons td50_ok ( all_cons td55_ok ( all_cons td58_ok ( all_cons td59_ok ( all_nil))))))))))))
noncomputable def tyL3 : List (Nat × Td) := [(60, td60), (69, td69), (70, td70), (71, td71), (72, td72), (73, td73), (76, td76), (77, td77), (78, td78), (79, td79), (80, td80), (99, td99)]
theorem tyL3_ok : ∀ p ∈ tyL3, p.2.Ok Try.prog p.1 := all_cons td60_ok ( all_cons td69_ok ( all_cons td70_ok ( all_cons td71_ok ( all_cons td72_ok ( all_cons td73_ok ( all_cons td76_ok ( all_cons td77_ok ( all_cons td78_ok ( all_cons td79_ok ( all_cons td80_ok ( all_cons td99_ok ( all_nil))))))))))))
noncomputable def tyL4 : List (Nat × Td) := [(100, td100), (101, td101), (102, td102), (103, td103), (108, td108), (109, td109), (111, td111), (114, td114), (115, td115), (117, td117), (120, td120), (125, td125)]
theorem tyL4_ok : ∀ p ∈ tyL4, p.2.Ok Try.prog p.1 := all_cons td100_ok ( all_cons td101_ok ( all_cons td102_ok ( all_cons td103_ok ( all_cons td108_ok ( all_cons td109_ok ( all_cons td111_ok ( all_cons td114_ok ( all_cons td115_ok ( all_cons td117_ok ( all_cons td120_ok ( all_cons td125_ok ( all_nil))))))))))))
noncomputable def tyL5 : List (Nat × Td) := [(130, td130), (135, td135), (136, td136), (141, td141), (142, td142), (147, td147), (148, td148), (153, td153), (154, td154), (156, td156), (175, td175), (177, td177)]
theorem tyL5_ok : ∀ p ∈ tyL5, p.2.Ok Try.prog p.1 := all_cons td130_ok ( all_cons td135_ok ( all_cons td136_ok ( all_cons td141_ok ( all_cons td142_ok ( all_cons td147_ok ( all_cons td148_ok ( all_cons td153_ok ( all_cons td154_ok ( all_cons td156_ok ( all_cons td175_ok ( all_cons td177_ok ( all_nil))))))))))))
noncomputable def tyL6 : List (Nat × Td) := [(178, td178), (188, td188), (191, td191), (192, td192), (198, td198), (199, td199), (200, td200), (201, td201), (202, td202), (203, td203), (205, td205), (206, td206)]
theorem tyL6_ok : ∀ p ∈ tyL6, p.2.Ok Try.prog p.1 := all_cons td178_ok ( all_cons td188_ok ( all_cons td191_ok ( all_cons td192_ok ( all_cons td198_ok ( all_cons td199_ok ( all_cons td200_ok ( all_cons td201_ok ( all_cons td202_ok ( all_cons td203_ok ( all_cons td205_ok ( all_cons td206_ok ( all_nil))))))))))))
noncomputable def tyL7 : List (Nat × Td) := [(207, td207), (226, td226), (227, td227), (229, td229), (230, td230), (240, td240), (241, td241), (246, td246), (247, td247), (249, td249), (250, td250), (251, td251)]
theorem tyL7_ok : ∀ p ∈ tyL7, p.2.Ok Try.prog p.1 := all_cons td207_ok ( all_cons td226_ok ( all_cons td227_ok ( all_cons td229_ok ( all_cons td230_ok ( all_cons td240_ok ( all_cons td241_ok ( all_cons td246_ok ( all_cons td247_ok ( all_cons td249_ok ( all_cons td250_ok ( all_cons td251_ok ( all_nil))))))))))))
noncomputable def tyL : List (Nat × Td) := tyL0 ++ (tyL1 ++ (tyL2 ++ (tyL3 ++ (tyL4 ++ (tyL5 ++ (tyL6 ++ (tyL7)))))))
theorem tyL_ok : ∀ p ∈ tyL, p.2.Ok Try.prog p.1 := all_app tyL0_ok (all_app tyL1_ok (all_app tyL2_ok (all_app tyL3_ok (all_app tyL4_ok (all_app tyL5_ok (all_app tyL6_ok (tyL7_ok)))))))
noncomputable def tyT : Tr Td := tabOf tyL
noncomputable def fnL0 : List (Nat × Func) := [(0, Try.f0), (1, Try.f1), (2, Try.f2), (3, Try.f3), (4, Try.f4), (5, Try.f5), (6, Try.f6), (7, Try.f7), (8, Try.f8), (9, Try.f9), (10, Try.f10), (11, Try.f11)]
theorem fnL0_ok : ∀ p ∈ fnL0, Try.prog.funcs[p.1]? = some p.2 ∧ (p.2.name == "runtime.NumGoroutine") = false := all_cons ⟨Try.func0, by kernel_rfl⟩ ( all_cons ⟨Try.func1, by kernel_rfl⟩ ( all_cons ⟨Try.func2, by kernel_rfl⟩ ( all_cons ⟨Try.func3, by kernel_rfl⟩ ( all_cons ⟨Try.func4, by kernel_rfl⟩ ( all_cons ⟨Try.func5, by kernel_rfl⟩ ( all_cons ⟨Try.func6, by kernel_rfl⟩ ( all_cons ⟨Try.func7, by kernel_rfl⟩ ( all_cons ⟨Try.func8, by kernel_rfl⟩ ( all_cons ⟨Try.func9, by kernel_rfl⟩ ( all_cons ⟨Try.func10, by kernel_rfl⟩ ( all_cons ⟨Try.func11, by kernel_rfl⟩ ( all_nil))))))))))))
noncomputable def fnL1 : List (Nat × Func) := [(12, Try.f12), (13, Try.f13), (14, Try.f14), (15, Try.f15), (16, Try.f16), (17, Try.f17), (18, Try.f18), (19, Try.f19), (20, Try.f20), (21, Try.f21), (22, Try.f22), (23, Try.f23)]
theorem fnL1_ok : ∀ p ∈ fnL1, Try.prog.funcs[p.1]? = some p.2 ∧ (p.2.name == "runtime.NumGoroutine") = false := all_cons ⟨Try.func12, by kernel_rfl⟩ ( all_cons ⟨Try.func13, by kernel_rfl⟩ ( all_cons ⟨Try.func14, by kernel_rfl⟩ ( all_cons ⟨Try.func15, by kernel_rfl⟩ ( all_cons ⟨Try.func16, by kernel_rfl⟩ ( all_cons ⟨Try.func17, by kernel_rfl⟩ ( all_cons ⟨Try.func18, by kernel_rfl⟩ ( all_cons ⟨Try.func19, by kernel_rfl⟩ ( all_cons ⟨Try.func20, by kernel_rfl⟩ ( all_cons ⟨Try.func21, by kernel_rfl⟩ ( all_cons ⟨Try.func22, by kernel_rfl⟩ ( all_cons ⟨Try.func23, by kernel_rfl⟩ ( all_nil))))))))))))
noncomputable def fnL2 : List (Nat × Func) := [(24, Try.f24), (25, Try.f25), (26, Try.f26), (27, Try.f27), (28, Try.f28), (29, Try.f29), (30, Try.f30), (31, Try.f31), (32, Try.f32), (33, Try.f33), (34, Try.f34), (35, Try.f35)]
theorem fnL2_ok : ∀ p ∈ fnL2, Try.prog.funcs[p.1]? = some p.2 ∧ (p.2.name == "runtime.NumGoroutine") = false := all_cons ⟨Try.func24, by kernel_rfl⟩ ( all_cons ⟨Try.func25, by kernel_rfl⟩ ( all_cons ⟨Try.func26, by kernel_rfl⟩ ( all_cons ⟨Try.func27, by kernel_rfl⟩ ( all_cons ⟨Try.func28, by kernel_rfl⟩ ( all_cons ⟨Try.func29, by kernel_rfl⟩ ( all_cons ⟨Try.func30, by kernel_rfl⟩ ( all_cons ⟨Try.func31, by kernel_rfl⟩ ( all_cons ⟨Try.func32, by kernel_rfl⟩ ( all_cons ⟨Try.func33, by kernel_rfl⟩ ( all_cons ⟨Try.func34, by kernel_rfl⟩ ( all_cons ⟨Try.func35, by kernel_rfl⟩ ( all_nil))))))))))))
noncomputable def fnL3 : List (Nat × Func) := [(36, Try.f36), (37, Try.f37), (38, Try.f38), (39, Try.f39), (40, Try.f40), (41, Try.f41), (42, Try.f42), (43, Try.f43), (44, Try.f44), (45, Try.f45), (46, Try.f46), (47, Try.f47)]
theorem fnL3_ok : ∀ p ∈ fnL3, Try.prog.funcs[p.1]? = some p.2 ∧ (p.2.name == "runtime.NumGoroutine") = false := all_cons ⟨Try.func36, by kernel_rfl⟩ ( all_cons ⟨Try.func37, by kernel_rfl⟩ ( all_cons ⟨Try.func38, by kernel_rfl⟩ ( all_cons ⟨Try.func39, by kernel_rfl⟩ ( all_cons ⟨Try.func40, by kernel_rfl⟩ ( all_cons ⟨Try.func41, by kernel_rfl⟩ ( all_cons ⟨Try.func42, by kernel_rfl⟩ ( all_cons ⟨Try.func43, by kernel_rfl⟩ ( all_cons ⟨Try.func44, by kernel_rfl⟩ ( all_cons ⟨Try.func45, by kernel_rfl⟩ ( all_cons ⟨Try.func46, by kernel_rfl⟩ ( all_cons ⟨Try.func47, by kernel_rfl⟩ ( all_nil))))))))))))
noncomputable def fnL4 : List (Nat × Func) := [(48, Try.f48), (49, Try.f49), (50, Try.f50), (51, Try.f51), (52, Try.f52), (53, Try.f53), (54, Try.f54), (55, Try.f55), (56, Try.f56), (57, Try.f57), (58, Try.f58), (59, Try.f59)]
theorem fnL4_ok : ∀ p ∈ fnL4, Try.prog.funcs[p.1]? = some p.2 ∧ (p.2.name == "runtime.NumGoroutine") = false := all_cons ⟨Try.func48, by kernel_rfl⟩ ( all_cons ⟨Try.func49, by kernel_rfl⟩ ( all_cons ⟨Try.func50, by kernel_rfl⟩ ( all_cons ⟨Try.func51, by kernel_rfl⟩ ( all_cons ⟨Try.func52, by kernel_rfl⟩ ( all_cons ⟨Try.func53, by kernel_rfl⟩ ( all_cons ⟨Try.func54, by kernel_rfl⟩ ( all_cons ⟨Try.func55, by kernel_rfl⟩ ( all_cons ⟨Try.func56, by kernel_rfl⟩ ( all_cons ⟨Try.func57, by kernel_rfl⟩ ( all_cons ⟨Try.func58, by kernel_rfl⟩ ( all_cons ⟨Try.func59, by kernel_rfl⟩ ( all_nil))))))))))))
noncomputable def fnL5 : List (Nat × Func) := [(60, Try.f60), (61, Try.f61), (62, Try.f62), (63, Try.f63), (64, Try.f64), (65, Try.f65), (66, Try.f66), (67, Try.f67), (68, Try.f68), (69, Try.f69), (70, Try.f70), (71, Try.f71)]
theorem fnL5_ok : ∀ p ∈ fnL5, Try.prog.funcs[p.1]? = some p.2 ∧ (p.2.name == "runtime.NumGoroutine") = false := all_cons ⟨Try.func60, by kernel_rfl⟩ ( all_cons ⟨Try.func61, by kernel_rfl⟩ ( all_cons ⟨Try.func62, by kernel_rfl⟩ ( all_cons ⟨Try.func63, by kernel_rfl⟩ ( all_cons ⟨Try.func64, by kernel_rfl⟩ ( all_cons ⟨Try.func65, by kernel_rfl⟩ ( all_cons ⟨Try.func66, by kernel_rfl⟩ ( all_cons ⟨Try.func67, by kernel_rfl⟩ ( all_cons ⟨Try.func68, by kernel_rfl⟩ ( all_cons ⟨Try.func69, by kernel_rfl⟩ ( all_cons ⟨Try.func70, by kernel_rfl⟩ ( all_cons ⟨Try.func71, by kernel_rfl⟩ ( all_nil))))))))))))
noncomputable def fnL6 : List (Nat × Func) := [(72, Try.f72), (73, Try.f73), (74, Try.f74), (75, Try.f75), (76, Try.f76), (77, Try.f77), (78, Try.f78), (79, Try.f79), (80, Try.f80), (81, Try.f81), (82, Try.f82), (83, Try.f83)]
theorem fnL6_ok : ∀ p ∈ fnL6, Try.prog.funcs[p.1]? = some p.2 ∧ (p.2.name == "runtime.NumGoroutine") = false := all_cons ⟨Try.func72, by kernel_rfl⟩ ( all_cons ⟨Try.func73, by kernel_rfl⟩ ( all_cons ⟨Try.func74, by kernel_rfl⟩ ( all_cons ⟨Try.func75, by kernel_rfl⟩ ( all_cons ⟨Try.func76, by kernel_rfl⟩ ( all_cons ⟨Try.func77, by kernel_rfl⟩ ( all_cons ⟨Try.func78, by kernel_rfl⟩ ( all_cons ⟨Try.func79, by kernel_rfl⟩ ( all_cons ⟨Try.func80, by kernel_rfl⟩ ( all_cons ⟨Try.func81, by kernel_rfl⟩ ( all_cons ⟨Try.func82, by kernel_rfl⟩ ( all_cons ⟨Try.func83, by kernel_rfl⟩ ( all_nil))))))))))))
noncomputable def fnL7 : List (Nat × Func) := [(84, Try.f84), (85, Try.f85), (86, Try.f86), (87, Try.f87), (88, Try.f88), (89, Try.f89), (90, Try.f90), (91, Try.f91), (92, Try.f92), (93, Try.f93), (94, Try.f94), (95, Try.f95)]
theorem fnL7_ok : ∀ p ∈ fnL7, Try.prog.funcs[p.1]? = some p.2 ∧ (p.2.name == "runtime.NumGoroutine") = false := all_cons ⟨Try.func84, by kernel_rfl⟩ ( all_cons ⟨Try.func85, by kernel_rfl⟩ ( all_cons ⟨Try.func86, by kernel_rfl⟩ ( all_cons ⟨Try.func87, by kernel_rfl⟩ ( all_cons ⟨Try.func88, by kernel_rfl⟩ ( all_cons ⟨Try.func89, by kernel_rfl⟩ ( all_cons ⟨Try.func90, by kernel_rfl⟩ ( all_cons ⟨Try.func91, by kernel_rfl⟩ ( all_cons ⟨Try.func92, by kernel_rfl⟩ ( all_cons ⟨Try.func93, by kernel_rfl⟩ ( all_cons ⟨Try.func94, by kernel_rfl⟩ ( all_cons ⟨Try.func95, by kernel_rfl⟩ ( all_nil))))))))))))
noncomputable def fnL8 : List (Nat × Func) := [(96, Try.f96), (97, Try.f97), (98, Try.f98), (99, Try.f99), (100, Try.f100), (101, Try.f101), (102, Try.f102), (103, Try.f103), (104, Try.f104), (105, Try.f105), (106, Try.f106), (107, Try.f107)]
theorem fnL8_ok : ∀ p ∈ fnL8, Try.prog.funcs[p.1]? = some p.2 ∧ (p.2.name == "runtime.NumGoroutine") = false := all_cons ⟨Try.func96, by kernel_rfl⟩ ( all_cons ⟨Try.func97, by kernel_rfl⟩ ( all_cons ⟨Try.func98, by kernel_rfl⟩ ( all_cons ⟨Try.func99, by kernel_rfl⟩ ( all_cons ⟨Try.func100, by kernel_rfl⟩ ( all_cons ⟨Try.func101, by kernel_rfl⟩ ( all_cons ⟨Try.func102, by kernel_rfl⟩ ( all_cons ⟨Try.func103, by kernel_rfl⟩ ( all_cons ⟨Try.func104, by kernel_rfl⟩ ( all_cons ⟨Try.func105, by kernel_rfl⟩ ( all_cons ⟨Try.func106, by kernel_rfl⟩ ( all_cons ⟨Try.func107, by kernel_rfl⟩ ( all_nil))))))))))))
noncomputable def fnL9 : List (Nat × Func) := [(108, Try.f108), (109, Try.f109), (110, Try.f110), (111, Try.f111), (112, Try.f112), (113, Try.f113), (114, Try.f114), (115, Try.f115), (116, Try.f116), (117, Try.f117), (118, Try.f118), (119, Try.f119)]
theorem fnL9_ok : ∀ p ∈ fnL9, Try.prog.funcs[p.1]? = some p.2 ∧ (p.2.name == "runtime.NumGoroutine") = false := all_cons ⟨Try.func108, by kernel_rfl⟩ ( all_cons ⟨Try.func109, by kernel_rfl⟩ ( all_cons ⟨Try.func110, by kernel_rfl⟩ ( all_cons ⟨Try.func111, by kernel_rfl⟩ ( all_cons ⟨Try.func112, by kernel_rfl⟩ ( all_cons ⟨Try.func113, by kernel_rfl⟩ ( all_cons ⟨Try.func114, by kernel_rfl⟩ ( all_cons ⟨Try.func115, by kernel_rfl⟩ ( all_cons ⟨Try.func116, by kernel_rfl⟩ ( all_cons ⟨Try.func117, by kernel_rfl⟩ ( all_cons ⟨Try.func118, by kernel_rfl⟩ ( all_cons ⟨Try.func119, by kernel_rfl⟩ ( all_nil))))))))))))
noncomputable def fnL10 : List (Nat × Func) := [(120, Try.f120), (121, Try.f121), (122, Try.f122), (123, Try.f123), (124, Try.f124), (125, Try.f125), (126, Try.f126), (127, Try.f127), (128, Try.f128), (129, Try.f129), (130, Try.f130), (131, Try.f131)]
theorem fnL10_ok : ∀ p ∈ fnL10, Try.prog.funcs[p.1]? = some p.2 ∧ (p.2.name == "runtime.NumGoroutine") = false := all_cons ⟨Try.func120, by kernel_rfl⟩ ( all_cons ⟨Try.func121, by kernel_rfl⟩ ( all_cons ⟨Try.func122, by kernel_rfl⟩ ( all_cons ⟨Try.func123, by kernel_rfl⟩ ( all_cons ⟨Try.func124, by kernel_rfl⟩ ( all_cons ⟨Try.func125, by kernel_rfl⟩ ( all_cons ⟨Try.func126, by kernel_rfl⟩ ( all_cons ⟨Try.func127, by kernel_rfl⟩ ( all_cons ⟨Try.func128, by kernel_rfl⟩ ( all_cons ⟨Try.func129, by kernel_rfl⟩ ( all_cons ⟨Try.func130, by kernel_rfl⟩ ( all_cons ⟨Try.func131, by kernel_rfl⟩ ( all_nil))))))))))))
noncomputable def fnL11 : List (Nat × Func) := [(132, Try.f132), (133, Try.f133), (134, Try.f134), (135, Try.f135), (136, Try.f136), (137, Try.f137), (138, Try.f138), (139, Try.f139), (140, Try.f140), (141, Try.f141), (142, Try.f142), (143, Try.f143)]
theorem fnL11_ok : ∀ p ∈ fnL11, Try.prog.funcs[p.1]? = some p.2 ∧ (p.2.name == "runtime.NumGoroutine") = false := all_cons ⟨Try.func132, by kernel_rfl⟩ ( all_cons ⟨Try.func133, by kernel_rfl⟩ ( all_cons ⟨Try.func134, by kernel_rfl⟩ ( all_cons ⟨Try.func135, by kernel_rfl⟩ ( all_cons ⟨Try.func136, by kernel_rfl⟩ ( all_cons ⟨Try.func137, by kernel_rfl⟩ ( all_cons ⟨Try.func138, by kernel_rfl⟩ ( all_cons ⟨Try.func139, by kernel_rfl⟩ ( all_cons ⟨Try.func140, by kernel_rfl⟩ ( all_cons ⟨Try.func141, by kernel_rfl⟩ ( all_cons ⟨Try.func142, by kernel_rfl⟩ ( all_cons ⟨Try.func143, by kernel_rfl⟩ ( all_nil))))))))))))
noncomputable def fnL12 : List (Nat × Func) := [(144, Try.f144), (145, Try.f145), (146, Try.f146), (147, Try.f147), (148, Try.f148), (149, Try.f149), (150, Try.f150), (151, Try.f151), (152, Try.f152), (153, Try.f153), (154, Try.f154), (155, Try.f155)]
theorem fnL12_ok : ∀ p ∈ fnL12, Try.prog.funcs[p.1]? = some p.2 ∧ (p.2.name == "runtime.NumGoroutine") = false := all_cons ⟨Try.func144, by kernel_rfl⟩ ( all_cons ⟨Try.func145, by kernel_rfl⟩ ( all_cons ⟨Try.func146, by kernel_rfl⟩ ( all_cons ⟨Try.func147, by kernel_rfl⟩ ( all_cons ⟨Try.func148, by kernel_rfl⟩ ( all_cons ⟨Try.func149, by kernel_rfl⟩ ( all_cons ⟨Try.func150, by kernel_rfl⟩ ( all_cons ⟨Try.func151, by kernel_rfl⟩ ( all_cons ⟨Try.func152, by kernel_rfl⟩ ( all_cons ⟨Try.func153, by kernel_rfl⟩ ( all_cons ⟨Try.func154, by kernel_rfl⟩ ( all_cons ⟨Try.func155, by kernel_rfl⟩ ( all_nil))))))))))))
noncomputable def fnL13 : List (Nat × Func) := [(156, Try.f156), (157, Try.f157), (158, Try.f158), (159, Try.f159), (160, Try.f160), (161, Try.f161), (162, Try.f162), (163, Try.f163), (164, Try.f164), (165, Try.f165), (166, Try.f166), (167, Try.f167)]
theorem fnL13_ok : ∀ p ∈ fnL13, Try.prog.funcs[p.1]? = some p.2 ∧ (p.2.name == "runtime.NumGoroutine") = false := all_cons ⟨Try.func156, by kernel_rfl⟩ ( all_cons ⟨Try.func157, by kernel_rfl⟩ ( all_cons ⟨Try.func158, by kernel_rfl⟩ ( all_cons ⟨Try.func159, by kernel_rfl⟩ ( all_cons ⟨Try.func160, by kernel_rfl⟩ ( all_cons ⟨Try.func161, by kernel_rfl⟩ ( all_cons ⟨Try.func162, by kernel_rfl⟩ ( all_cons ⟨Try.func163, by kernel_rfl⟩ ( all_cons ⟨Try.func164, by kernel_rfl⟩ ( all_cons ⟨Try.func165, by kernel_rfl⟩ ( all_cons ⟨Try.func166, by kernel_rfl⟩ ( all_cons ⟨Try.func167, by kernel_rfl⟩ ( all_nil))))))))))))
noncomputable def fnL14 : List (Nat × Func) := [(168, Try.f168), (169, Try.f169), (170, Try.f170), (171, Try.f171), (172, Try.f172), (173, Try.f173), (174, Try.f174), (175, Try.f175), (176, Try.f176), (177, Try.f177), (178, Try.f178), (179, Try.f179)]
theorem fnL14_ok : ∀ p ∈ fnL14, Try.prog.funcs[p.1]? = some p.2 ∧ (p.2.name == "runtime.NumGoroutine") = false := all_cons ⟨Try.func168, by kernel_rfl⟩ ( all_cons ⟨Try.func169, by kernel_rfl⟩ ( all_cons ⟨Try.func170, by kernel_rfl⟩ ( all_cons ⟨Try.func171, by kernel_rfl⟩ ( all_cons ⟨Try.func172, by kernel_rfl⟩ ( all_cons ⟨Try.func173, by kernel_rfl⟩ ( all_cons ⟨Try.func174, by kernel_rfl⟩ ( all_cons ⟨Try.func175, by kernel_rfl⟩ ( all_cons ⟨Try.func176, by kernel_rfl⟩ ( all_cons ⟨Try.func177, by kernel_rfl⟩ ( all_cons ⟨Try.func178, by kernel_rfl⟩ ( all_cons ⟨Try.func179, by kernel_rfl⟩ ( all_nil))))))))))))
noncomputable def fnL15 : List (Nat × Func) := [(180, Try.f180), (181, Try.f181), (182, Try.f182), (183, Try.f183), (184, Try.f184), (185, Try.f185), (186, Try.f186), (187, Try.f187), (188, Try.f188), (189, Try.f189), (190, Try.f190), (191, Try.f191)]
theorem fnL15_ok : ∀ p ∈ fnL15, Try.prog.funcs[p.1]? = some p.2 ∧ (p.2.name == "runtime.NumGoroutine") = false := all_cons ⟨Try.func180, by kernel_rfl⟩ ( all_cons ⟨Try.func181, by kernel_rfl⟩ ( all_cons ⟨Try.func182, by kernel_rfl⟩ ( all_cons ⟨Try.func183, by kernel_rfl⟩ ( all_cons ⟨Try.func184, by kernel_rfl⟩ ( all_cons ⟨Try.func185, by kernel_rfl⟩ ( all_cons ⟨Try.func186, by kernel_rfl⟩ ( all_cons ⟨Try.func187, by kernel_rfl⟩ ( all_cons ⟨Try.func188, by kernel_rfl⟩ ( all_cons ⟨Try.func189, by kernel_rfl⟩ ( all_cons ⟨Try.func190, by kernel_rfl⟩ ( all_cons ⟨Try.func191, by kernel_rfl⟩ ( all_nil))))))))))))
noncomputable def fnL16 : List (Nat × Func) := [(192, Try.f192), (193, Try.f193), (194, Try.f194), (195, Try.f195), (196, Try.f196), (197, Try.f197), (198, Try.f198), (199, Try.f199), (200, Try.f200), (201, Try.f201), (202, Try.f202), (203, Try.f203)]
theorem fnL16_ok : ∀ p ∈ fnL16, Try.prog.funcs[p.1]? = some p.2 ∧ (p.2.name == "runtime.NumGoroutine") = false := all_cons ⟨Try.func192, by kernel_rfl⟩ ( all_cons ⟨Try.func193, by kernel_rfl⟩ ( all_cons ⟨Try.func194, by kernel_rfl⟩ ( all_cons ⟨Try.func195, by kernel_rfl⟩ ( all_cons ⟨Try.func196, by kernel_rfl⟩ ( all_cons ⟨Try.func197, by kernel_rfl⟩ ( all_cons ⟨Try.func198, by kernel_rfl⟩ ( all_cons ⟨Try.func199, by kernel_rfl⟩ ( all_cons ⟨Try.func200, by kernel_rfl⟩ ( all_cons ⟨Try.func201, by kernel_rfl⟩ ( all_cons ⟨Try.func202, by kernel_rfl⟩ ( all_cons ⟨Try.func203, by kernel_rfl⟩ ( all_nil))))))))))))
noncomputable def fnL17 : List (Nat × Func) := [(204, Try.f204), (205, Try.f205), (206, Try.f206), (207, Try.f207), (208, Try.f208), (209, Try.f209), (210, Try.f210), (211, Try.f211), (212, Try.f212), (213, Try.f213), (214, Try.f214), (215, Try.f215)]
theorem fnL17_ok : ∀ p ∈ fnL17, Try.prog.funcs[p.1]? = some p.2 ∧ (p.2.name == "runtime.NumGoroutine") = false := all_cons ⟨Try.func204, by kernel_rfl⟩ ( all_cons ⟨Try.func205, by kernel_rfl⟩ ( all_cons ⟨Try.func206, by kernel_rfl⟩ ( all_cons ⟨Try.func207, by kernel_rfl⟩ ( all_cons ⟨Try.func208, by kernel_rfl⟩ ( all_cons ⟨Try.func209, by kernel_rfl⟩ ( all_cons ⟨Try.func210, by kernel_rfl⟩ ( all_cons ⟨Try.func211, by kernel_rfl⟩ ( all_cons ⟨Try.func212, by kernel_rfl⟩ ( all_cons ⟨Try.func213, by kernel_rfl⟩ ( all_cons ⟨Try.func214, by kernel_rfl⟩ ( all_cons ⟨Try.func215, by kernel_rfl⟩ ( all_nil))))))))))))
noncomputable def fnL : List (Nat × Func) := fnL0 ++ (fnL1 ++ (fnL2 ++ (fnL3 ++ (fnL4 ++ (fnL5 ++ (fnL6 ++ (fnL7 ++ (fnL8 ++ (fnL9 ++ (fnL10 ++ (fnL11 ++ (fnL12 ++ (fnL13 ++ (fnL14 ++ (fnL15 ++ (fnL16 ++ (fnL17)))))))))))))))))
theorem fnL_ok : ∀ p ∈ fnL, Try.prog.funcs[p.1]? = some p.2 ∧ (p.2.name == "runtime.NumGoroutine") = false := all_app fnL0_ok (all_app fnL1_ok (all_app fnL2_ok (all_app fnL3_ok (all_app fnL4_ok (all_app fnL5_ok (all_app fnL6_ok (all_app fnL7_ok (all_app fnL8_ok (all_app fnL9_ok (all_app fnL10_ok (all_app fnL11_ok (all_app fnL12_ok (all_app fnL13_ok (all_app fnL14_ok (all_app fnL15_ok (all_app fnL16_ok (fnL17_ok)))))))))))))))))
noncomputable def fnT : Tr Func := tabOf fnL
/-- The machine over this program. -/
noncomputable def cfg (sums : FuncId → List Sum) (lps : FuncId → Nat → List Sum) (fact : Nat → List Value → List Rw → List Value → List Rw → Prop) (pre : Nat → List Value → List Rw → Prop) : Cfg := ⟨Try.prog, tyT.get, fnT.get, sums, lps, fact, pre, 0, 0⟩
theorem cfg_ok {sums : FuncId → List Sum} {lps : FuncId → Nat → List Sum} {fact : Nat → List Value → List Rw → List Value → List Rw → Prop} {pre : Nat → List Value → List Rw → Prop} : (cfg sums lps fact pre).Ok where
  ty t d e := tyL_ok (t, d) (tabOf_mem tyL t d e)
  fn f F e := fnL_ok (f, F) (tabOf_mem fnL f F e)
  mixed := by kernel_rfl
/-- The same, with names for big terms. -/
noncomputable def Cfg.names (C : Cfg) (n : Nat) : Cfg := { C with big := n }
noncomputable def Cfg.rows (C : Cfg) (n : Nat) : Cfg := { C with arr := n }
theorem Cfg.Ok.rows {C : Cfg} (h : C.Ok) (n : Nat) : (C.rows n).Ok := ⟨h.ty, h.fn, h.mixed⟩
theorem Cfg.Ok.names {C : Cfg} (h : C.Ok) (n : Nat) : (C.names n).Ok := ⟨h.ty, h.fn, h.mixed⟩
end Go.Proofs.Ytdfhkmekmockkaa.Rs
