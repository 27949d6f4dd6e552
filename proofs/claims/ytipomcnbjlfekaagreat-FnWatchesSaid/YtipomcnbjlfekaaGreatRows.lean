/-
  No cell of these rows narrows 'for every input' (looked for: loops, veiled, ifaces, maps, wideKeys, modest, calm, conditions, laid).
  DERIVED. THE GIVEN ROWS OF THIS SEAT. 4 by the template 'for every input the law returns true; each argument reads behind the call as it read before'; 0 by the template 'total and deterministic' (their statements: YtipomcnbjlfekaaGreatTotals.lean).
  GIVEN WITH THE SEED: the statements are not yours to turn. If you find one false, say at which input.
  Laid BY PROGRAM, IN A SANDBOX (cutbox-rows.mjs): the forced cells as the released guide's own fill.sh prints them over the translation 4057f41c4716928a… (all of the seat's roots in one cut). By AI agents, Wed Nov 11 2026. No macro, syntax, notation, axiom, sorry.
-/
import Derived.Test.YtipomcnbjlfekaaGreatChecked
import GoSem.Claim
import GoSem.ClaimJoined
import GoSem.ClaimMapViews
import Derived.JoinedTies
import Derived.KernelRfl
namespace Go.Proofs.YtipomcnbjlfekaaGreat
/- THE CELL 'sum', in the pinned program and in every row, IS THE sha256 OF THE DUMP (.gsa) THAT YtipomcnbjlfekaaGreatProg.lean LOADS. Nothing in Lean hashes anything: it is a label: what it is worth is what the hold of that sum in a sandbox is worth. -/
noncomputable def Tryz.pinned : Pinned := { name := "ytipomcnbjlfekaagreat", sum := "4057f41c4716928aef0ff50e772b025a6ec7577f2911d3fad7c25ac069c66152", checked := Tryz.checked }
namespace Rows
def none {H : Type} : Left H := { results := [], args := [] }

/-- 'laws.FnGates': WHATEVER THE INPUT: true; the input reads as it did. -/
def fnGatesSpec : ChangeSpec := { name := "fnGates", fn := fun _ => fun
  | [d] => { results := [.lit (.bool true)], args := [d] }
  | _ => none }
def fnGatesRow : OpenClaim := { program := "ytipomcnbjlfekaagreat", sum := "4057f41c4716928aef0ff50e772b025a6ec7577f2911d3fad7c25ac069c66152", func := "loop.example/g00466/laws.FnGates", spec := "fnGates", recurses := true, plainKeys := false, apart := false }
def FnGatesSaid : Prop := fnGatesRow.holds Tryz.pinned (OpenSpec.ofChange fnGatesSpec)

/-- ITS FALSE NEIGHBOUR: 'it returns false'. Refute it at one input. -/
def fnGatesWrong : ChangeSpec := { name := "fnGates", fn := fun _ => fun
  | [d] => { results := [.lit (.bool false)], args := [d] }
  | _ => none }
def FnGatesWrongFalsely : Prop := fnGatesRow.holds Tryz.pinned (OpenSpec.ofChange fnGatesWrong)

/-- 'laws.FnThrough': WHATEVER THE INPUT: true; the input reads as it did. -/
def fnThroughSpec : ChangeSpec := { name := "fnThrough", fn := fun _ => fun
  | [d] => { results := [.lit (.bool true)], args := [d] }
  | _ => none }
def fnThroughRow : OpenClaim := { program := "ytipomcnbjlfekaagreat", sum := "4057f41c4716928aef0ff50e772b025a6ec7577f2911d3fad7c25ac069c66152", func := "loop.example/g00466/laws.FnThrough", spec := "fnThrough", recurses := true, plainKeys := false, apart := false }
def FnThroughSaid : Prop := fnThroughRow.holds Tryz.pinned (OpenSpec.ofChange fnThroughSpec)

/-- ITS FALSE NEIGHBOUR: 'it returns false'. Refute it at one input. -/
def fnThroughWrong : ChangeSpec := { name := "fnThrough", fn := fun _ => fun
  | [d] => { results := [.lit (.bool false)], args := [d] }
  | _ => none }
def FnThroughWrongFalsely : Prop := fnThroughRow.holds Tryz.pinned (OpenSpec.ofChange fnThroughWrong)

/-- 'laws.FnTaken': WHATEVER THE INPUT: true; the input reads as it did. -/
def fnTakenSpec : ChangeSpec := { name := "fnTaken", fn := fun _ => fun
  | [d] => { results := [.lit (.bool true)], args := [d] }
  | _ => none }
def fnTakenRow : OpenClaim := { program := "ytipomcnbjlfekaagreat", sum := "4057f41c4716928aef0ff50e772b025a6ec7577f2911d3fad7c25ac069c66152", func := "loop.example/g00466/laws.FnTaken", spec := "fnTaken", recurses := true, plainKeys := false, apart := false }
def FnTakenSaid : Prop := fnTakenRow.holds Tryz.pinned (OpenSpec.ofChange fnTakenSpec)

/-- ITS FALSE NEIGHBOUR: 'it returns false'. Refute it at one input. -/
def fnTakenWrong : ChangeSpec := { name := "fnTaken", fn := fun _ => fun
  | [d] => { results := [.lit (.bool false)], args := [d] }
  | _ => none }
def FnTakenWrongFalsely : Prop := fnTakenRow.holds Tryz.pinned (OpenSpec.ofChange fnTakenWrong)

/-- 'laws.FnWatches': WHATEVER THE INPUT: true; the input reads as it did. -/
def fnWatchesSpec : ChangeSpec := { name := "fnWatches", fn := fun _ => fun
  | [d] => { results := [.lit (.bool true)], args := [d] }
  | _ => none }
def fnWatchesRow : OpenClaim := { program := "ytipomcnbjlfekaagreat", sum := "4057f41c4716928aef0ff50e772b025a6ec7577f2911d3fad7c25ac069c66152", func := "loop.example/g00466/laws.FnWatches", spec := "fnWatches", recurses := true, plainKeys := false, apart := false }
def FnWatchesSaid : Prop := fnWatchesRow.holds Tryz.pinned (OpenSpec.ofChange fnWatchesSpec)

/-- ITS FALSE NEIGHBOUR: 'it returns false'. Refute it at one input. -/
def fnWatchesWrong : ChangeSpec := { name := "fnWatches", fn := fun _ => fun
  | [d] => { results := [.lit (.bool false)], args := [d] }
  | _ => none }
def FnWatchesWrongFalsely : Prop := fnWatchesRow.holds Tryz.pinned (OpenSpec.ofChange fnWatchesWrong)

/- THE SECOND FORM. 'bulk': how many values and letters a reading holds, each counted each time it is reached (what is shared counts as often as it is met; a slice's spare places count too). A statement '..UptoSaid' is the law's where the arguments, and the package variables that the reading takes, are together of bulk at most 1048576: NARROWER than '..Said'. Prove '..Said' where nothing that the law and all that it calls make is longer than what came in: it says more and counts as full. Else prove '..UptoSaid'. A law counts once. -/
mutual
def uptoBulk {H : Type} : DataW H → Nat
  | .lit (.string bytes) => bytes.length + 1
  | .lit _ => 1
  | .nil => 1
  | .ptr d => uptoBulk d + 1
  | .slice elems spare => uptoBulkAll elems + uptoBulkAll spare + 1
  | .agg parts => uptoBulkAll parts + 1
  | .iface _ d => uptoBulk d + 1
  | .map entries => uptoBulkEntries entries + 1
  | .held _ => 1
def uptoBulkAll {H : Type} : List (DataW H) → Nat
  | [] => 0
  | d :: r => uptoBulk d + uptoBulkAll r
def uptoBulkEntries {H : Type} : List (Lit × DataW H) → Nat
  | [] => 0
  | x :: r => uptoBulkEntry x + uptoBulkEntries r
def uptoBulkEntry {H : Type} : Lit × DataW H → Nat
  | (.string bytes, d) => bytes.length + uptoBulk d + 1
  | (_, d) => uptoBulk d + 1
 end
def uptoSmall : (H : Type) → List (DataW H) → Bool := fun _ ds => decide (uptoBulkAll ds ≤ 1048576)
def OpenSpec.upto (s : _root_.Go.ChangeSpec) : _root_.Go.OpenSpec := { _root_.Go.OpenSpec.ofChange s with cond := some uptoSmall }

/-- 'laws.FnGates', WHERE WHAT IT READS IS OF BULK AT MOST 1048576: true; the input reads as it did. -/
def fnGatesUptoRow : OpenClaim := { program := "ytipomcnbjlfekaagreat", sum := "4057f41c4716928aef0ff50e772b025a6ec7577f2911d3fad7c25ac069c66152", func := "loop.example/g00466/laws.FnGates", spec := "fnGates", recurses := true, plainKeys := false, apart := false, narrowed := true }
def FnGatesUptoSaid : Prop := fnGatesUptoRow.holds Tryz.pinned (OpenSpec.upto fnGatesSpec)

/-- 'laws.FnThrough', WHERE WHAT IT READS IS OF BULK AT MOST 1048576: true; the input reads as it did. -/
def fnThroughUptoRow : OpenClaim := { program := "ytipomcnbjlfekaagreat", sum := "4057f41c4716928aef0ff50e772b025a6ec7577f2911d3fad7c25ac069c66152", func := "loop.example/g00466/laws.FnThrough", spec := "fnThrough", recurses := true, plainKeys := false, apart := false, narrowed := true }
def FnThroughUptoSaid : Prop := fnThroughUptoRow.holds Tryz.pinned (OpenSpec.upto fnThroughSpec)

/-- 'laws.FnTaken', WHERE WHAT IT READS IS OF BULK AT MOST 1048576: true; the input reads as it did. -/
def fnTakenUptoRow : OpenClaim := { program := "ytipomcnbjlfekaagreat", sum := "4057f41c4716928aef0ff50e772b025a6ec7577f2911d3fad7c25ac069c66152", func := "loop.example/g00466/laws.FnTaken", spec := "fnTaken", recurses := true, plainKeys := false, apart := false, narrowed := true }
def FnTakenUptoSaid : Prop := fnTakenUptoRow.holds Tryz.pinned (OpenSpec.upto fnTakenSpec)

/-- 'laws.FnWatches', WHERE WHAT IT READS IS OF BULK AT MOST 1048576: true; the input reads as it did. -/
def fnWatchesUptoRow : OpenClaim := { program := "ytipomcnbjlfekaagreat", sum := "4057f41c4716928aef0ff50e772b025a6ec7577f2911d3fad7c25ac069c66152", func := "loop.example/g00466/laws.FnWatches", spec := "fnWatches", recurses := true, plainKeys := false, apart := false, narrowed := true }
def FnWatchesUptoSaid : Prop := fnWatchesUptoRow.holds Tryz.pinned (OpenSpec.upto fnWatchesSpec)

end Rows
end Go.Proofs.YtipomcnbjlfekaaGreat
