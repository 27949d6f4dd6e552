/-
  No cell of these rows narrows 'for every input' (looked for: loops, veiled, ifaces, maps, wideKeys, modest, calm, conditions, laid).
  DERIVED. THE GIVEN ROWS OF THIS SEAT. 11 by the template 'for every input the law returns true; each argument reads behind the call as it read before'; 0 by the template 'total and deterministic' (their statements: YtdfhkmekmockkaaTotals.lean).
  GIVEN WITH THE SEED: the statements are not yours to turn. If you find one false, say at which input.
  Laid BY PROGRAM, IN A SANDBOX (cutbox-rows.mjs): the forced cells as the released guide's own fill.sh prints them over the translation 9f75a929580c896f… (all of the seat's roots in one cut). By AI agents, Wed Nov 11 2026. No macro, syntax, notation, axiom, sorry.
-/
import Derived.Test.YtdfhkmekmockkaaChecked
import GoSem.Claim
import GoSem.ClaimJoined
import GoSem.ClaimMapViews
import Derived.JoinedTies
import Derived.KernelRfl
namespace Go.Proofs.Ytdfhkmekmockkaa
/- THE CELL 'sum', in the pinned program and in every row, IS THE sha256 OF THE DUMP (.gsa) THAT YtdfhkmekmockkaaProg.lean LOADS. Nothing in Lean hashes anything: it is a label: what it is worth is what the hold of that sum in a sandbox is worth. -/
noncomputable def Try.pinned : Pinned := { name := "ytdfhkmekmockkaa", sum := "9f75a929580c896f8af53b90742bba39140347ef878a9c95a395057a1c4a011d", checked := Try.checked }
namespace Rows
def none {H : Type} : Left H := { results := [], args := [] }

/-- 'laws.FnExactClientNew': WHATEVER THE INPUT: true; the input reads as it did. -/
def fnExactClientNewSpec : ChangeSpec := { name := "fnExactClientNew", fn := fun _ => fun
  | [d1, d2, d3] => { results := [.lit (.bool true)], args := [d1, d2, d3] }
  | _ => none }
def fnExactClientNewRow : OpenClaim := { program := "ytdfhkmekmockkaa", sum := "9f75a929580c896f8af53b90742bba39140347ef878a9c95a395057a1c4a011d", func := "loop.example/g00466/laws.FnExactClientNew", spec := "fnExactClientNew", apart := false }
def FnExactClientNewSaid : Prop := fnExactClientNewRow.holds Try.pinned (OpenSpec.ofChange fnExactClientNewSpec)

/-- ITS FALSE NEIGHBOUR: 'it returns false'. Refute it at one input. -/
def fnExactClientNewWrong : ChangeSpec := { name := "fnExactClientNew", fn := fun _ => fun
  | [d1, d2, d3] => { results := [.lit (.bool false)], args := [d1, d2, d3] }
  | _ => none }
def FnExactClientNewWrongFalsely : Prop := fnExactClientNewRow.holds Try.pinned (OpenSpec.ofChange fnExactClientNewWrong)

/-- 'laws.FnExactLeased': WHATEVER THE INPUT: true; the input reads as it did. -/
def fnExactLeasedSpec : ChangeSpec := { name := "fnExactLeased", fn := fun _ => fun
  | [d1, d2] => { results := [.lit (.bool true)], args := [d1, d2] }
  | _ => none }
def fnExactLeasedRow : OpenClaim := { program := "ytdfhkmekmockkaa", sum := "9f75a929580c896f8af53b90742bba39140347ef878a9c95a395057a1c4a011d", func := "loop.example/g00466/laws.FnExactLeased", spec := "fnExactLeased", apart := false }
def FnExactLeasedSaid : Prop := fnExactLeasedRow.holds Try.pinned (OpenSpec.ofChange fnExactLeasedSpec)

/-- ITS FALSE NEIGHBOUR: 'it returns false'. Refute it at one input. -/
def fnExactLeasedWrong : ChangeSpec := { name := "fnExactLeased", fn := fun _ => fun
  | [d1, d2] => { results := [.lit (.bool false)], args := [d1, d2] }
  | _ => none }
def FnExactLeasedWrongFalsely : Prop := fnExactLeasedRow.holds Try.pinned (OpenSpec.ofChange fnExactLeasedWrong)

/-- 'laws.FnExactShaBlock': WHATEVER THE INPUT: true; the input reads as it did. -/
def fnExactShaBlockSpec : ChangeSpec := { name := "fnExactShaBlock", fn := fun _ => fun
  | [d1, d2] => { results := [.lit (.bool true)], args := [d1, d2] }
  | _ => none }
def fnExactShaBlockRow : OpenClaim := { program := "ytdfhkmekmockkaa", sum := "9f75a929580c896f8af53b90742bba39140347ef878a9c95a395057a1c4a011d", func := "loop.example/g00466/laws.FnExactShaBlock", spec := "fnExactShaBlock", apart := false }
def FnExactShaBlockSaid : Prop := fnExactShaBlockRow.holds Try.pinned (OpenSpec.ofChange fnExactShaBlockSpec)

/-- ITS FALSE NEIGHBOUR: 'it returns false'. Refute it at one input. -/
def fnExactShaBlockWrong : ChangeSpec := { name := "fnExactShaBlock", fn := fun _ => fun
  | [d1, d2] => { results := [.lit (.bool false)], args := [d1, d2] }
  | _ => none }
def FnExactShaBlockWrongFalsely : Prop := fnExactShaBlockRow.holds Try.pinned (OpenSpec.ofChange fnExactShaBlockWrong)

/-- 'laws.FnExactTickClient': WHATEVER THE INPUT: true; the input reads as it did. -/
def fnExactTickClientSpec : ChangeSpec := { name := "fnExactTickClient", fn := fun _ => fun
  | [d1, d2] => { results := [.lit (.bool true)], args := [d1, d2] }
  | _ => none }
def fnExactTickClientRow : OpenClaim := { program := "ytdfhkmekmockkaa", sum := "9f75a929580c896f8af53b90742bba39140347ef878a9c95a395057a1c4a011d", func := "loop.example/g00466/laws.FnExactTickClient", spec := "fnExactTickClient", apart := false }
def FnExactTickClientSaid : Prop := fnExactTickClientRow.holds Try.pinned (OpenSpec.ofChange fnExactTickClientSpec)

/-- ITS FALSE NEIGHBOUR: 'it returns false'. Refute it at one input. -/
def fnExactTickClientWrong : ChangeSpec := { name := "fnExactTickClient", fn := fun _ => fun
  | [d1, d2] => { results := [.lit (.bool false)], args := [d1, d2] }
  | _ => none }
def FnExactTickClientWrongFalsely : Prop := fnExactTickClientRow.holds Try.pinned (OpenSpec.ofChange fnExactTickClientWrong)

/-- 'laws.FnClients': WHATEVER THE INPUT: true; the input reads as it did. -/
def fnClientsSpec : ChangeSpec := { name := "fnClients", fn := fun _ => fun
  | [d] => { results := [.lit (.bool true)], args := [d] }
  | _ => none }
def fnClientsRow : OpenClaim := { program := "ytdfhkmekmockkaa", sum := "9f75a929580c896f8af53b90742bba39140347ef878a9c95a395057a1c4a011d", func := "loop.example/g00466/laws.FnClients", spec := "fnClients", apart := false }
def FnClientsSaid : Prop := fnClientsRow.holds Try.pinned (OpenSpec.ofChange fnClientsSpec)

/-- ITS FALSE NEIGHBOUR: 'it returns false'. Refute it at one input. -/
def fnClientsWrong : ChangeSpec := { name := "fnClients", fn := fun _ => fun
  | [d] => { results := [.lit (.bool false)], args := [d] }
  | _ => none }
def FnClientsWrongFalsely : Prop := fnClientsRow.holds Try.pinned (OpenSpec.ofChange fnClientsWrong)

/-- 'laws.FnPools': WHATEVER THE INPUT: true; the input reads as it did. -/
def fnPoolsSpec : ChangeSpec := { name := "fnPools", fn := fun _ => fun
  | [d] => { results := [.lit (.bool true)], args := [d] }
  | _ => none }
def fnPoolsRow : OpenClaim := { program := "ytdfhkmekmockkaa", sum := "9f75a929580c896f8af53b90742bba39140347ef878a9c95a395057a1c4a011d", func := "loop.example/g00466/laws.FnPools", spec := "fnPools", apart := false }
def FnPoolsSaid : Prop := fnPoolsRow.holds Try.pinned (OpenSpec.ofChange fnPoolsSpec)

/-- ITS FALSE NEIGHBOUR: 'it returns false'. Refute it at one input. -/
def fnPoolsWrong : ChangeSpec := { name := "fnPools", fn := fun _ => fun
  | [d] => { results := [.lit (.bool false)], args := [d] }
  | _ => none }
def FnPoolsWrongFalsely : Prop := fnPoolsRow.holds Try.pinned (OpenSpec.ofChange fnPoolsWrong)

/-- 'laws.FnExactSessAt': WHATEVER THE INPUT: true; the input reads as it did. -/
def fnExactSessAtSpec : ChangeSpec := { name := "fnExactSessAt", fn := fun _ => fun
  | [d1, d2] => { results := [.lit (.bool true)], args := [d1, d2] }
  | _ => none }
def fnExactSessAtRow : OpenClaim := { program := "ytdfhkmekmockkaa", sum := "9f75a929580c896f8af53b90742bba39140347ef878a9c95a395057a1c4a011d", func := "loop.example/g00466/laws.FnExactSessAt", spec := "fnExactSessAt", apart := false }
def FnExactSessAtSaid : Prop := fnExactSessAtRow.holds Try.pinned (OpenSpec.ofChange fnExactSessAtSpec)

/-- ITS FALSE NEIGHBOUR: 'it returns false'. Refute it at one input. -/
def fnExactSessAtWrong : ChangeSpec := { name := "fnExactSessAt", fn := fun _ => fun
  | [d1, d2] => { results := [.lit (.bool false)], args := [d1, d2] }
  | _ => none }
def FnExactSessAtWrongFalsely : Prop := fnExactSessAtRow.holds Try.pinned (OpenSpec.ofChange fnExactSessAtWrong)

/-- 'laws.FnExactGateNew': WHATEVER THE INPUT: true; the input reads as it did. -/
def fnExactGateNewSpec : ChangeSpec := { name := "fnExactGateNew", fn := fun _ => fun
  | [d1, d2] => { results := [.lit (.bool true)], args := [d1, d2] }
  | _ => none }
def fnExactGateNewRow : OpenClaim := { program := "ytdfhkmekmockkaa", sum := "9f75a929580c896f8af53b90742bba39140347ef878a9c95a395057a1c4a011d", func := "loop.example/g00466/laws.FnExactGateNew", spec := "fnExactGateNew", apart := false }
def FnExactGateNewSaid : Prop := fnExactGateNewRow.holds Try.pinned (OpenSpec.ofChange fnExactGateNewSpec)

/-- ITS FALSE NEIGHBOUR: 'it returns false'. Refute it at one input. -/
def fnExactGateNewWrong : ChangeSpec := { name := "fnExactGateNew", fn := fun _ => fun
  | [d1, d2] => { results := [.lit (.bool false)], args := [d1, d2] }
  | _ => none }
def FnExactGateNewWrongFalsely : Prop := fnExactGateNewRow.holds Try.pinned (OpenSpec.ofChange fnExactGateNewWrong)

/-- 'laws.FnChans': WHATEVER THE INPUT: true; the input reads as it did. -/
def fnChansSpec : ChangeSpec := { name := "fnChans", fn := fun _ => fun
  | [d] => { results := [.lit (.bool true)], args := [d] }
  | _ => none }
def fnChansRow : OpenClaim := { program := "ytdfhkmekmockkaa", sum := "9f75a929580c896f8af53b90742bba39140347ef878a9c95a395057a1c4a011d", func := "loop.example/g00466/laws.FnChans", spec := "fnChans", apart := false }
def FnChansSaid : Prop := fnChansRow.holds Try.pinned (OpenSpec.ofChange fnChansSpec)

/-- ITS FALSE NEIGHBOUR: 'it returns false'. Refute it at one input. -/
def fnChansWrong : ChangeSpec := { name := "fnChans", fn := fun _ => fun
  | [d] => { results := [.lit (.bool false)], args := [d] }
  | _ => none }
def FnChansWrongFalsely : Prop := fnChansRow.holds Try.pinned (OpenSpec.ofChange fnChansWrong)

/-- 'laws.FnExactTurnGate': WHATEVER THE INPUT: true; the input reads as it did. -/
def fnExactTurnGateSpec : ChangeSpec := { name := "fnExactTurnGate", fn := fun _ => fun
  | [d1, d2] => { results := [.lit (.bool true)], args := [d1, d2] }
  | _ => none }
def fnExactTurnGateRow : OpenClaim := { program := "ytdfhkmekmockkaa", sum := "9f75a929580c896f8af53b90742bba39140347ef878a9c95a395057a1c4a011d", func := "loop.example/g00466/laws.FnExactTurnGate", spec := "fnExactTurnGate", apart := false }
def FnExactTurnGateSaid : Prop := fnExactTurnGateRow.holds Try.pinned (OpenSpec.ofChange fnExactTurnGateSpec)

/-- ITS FALSE NEIGHBOUR: 'it returns false'. Refute it at one input. -/
def fnExactTurnGateWrong : ChangeSpec := { name := "fnExactTurnGate", fn := fun _ => fun
  | [d1, d2] => { results := [.lit (.bool false)], args := [d1, d2] }
  | _ => none }
def FnExactTurnGateWrongFalsely : Prop := fnExactTurnGateRow.holds Try.pinned (OpenSpec.ofChange fnExactTurnGateWrong)

/-- 'laws.FnExactWorldNew': WHATEVER THE INPUT: true; the input reads as it did. -/
def fnExactWorldNewSpec : ChangeSpec := { name := "fnExactWorldNew", fn := fun _ => fun
  | [d1, d2] => { results := [.lit (.bool true)], args := [d1, d2] }
  | _ => none }
def fnExactWorldNewRow : OpenClaim := { program := "ytdfhkmekmockkaa", sum := "9f75a929580c896f8af53b90742bba39140347ef878a9c95a395057a1c4a011d", func := "loop.example/g00466/laws.FnExactWorldNew", spec := "fnExactWorldNew", apart := false }
def FnExactWorldNewSaid : Prop := fnExactWorldNewRow.holds Try.pinned (OpenSpec.ofChange fnExactWorldNewSpec)

/-- ITS FALSE NEIGHBOUR: 'it returns false'. Refute it at one input. -/
def fnExactWorldNewWrong : ChangeSpec := { name := "fnExactWorldNew", fn := fun _ => fun
  | [d1, d2] => { results := [.lit (.bool false)], args := [d1, d2] }
  | _ => none }
def FnExactWorldNewWrongFalsely : Prop := fnExactWorldNewRow.holds Try.pinned (OpenSpec.ofChange fnExactWorldNewWrong)

/- THE SECOND FORM. 'bulk': how many values and letters a reading holds, each counted each time it is reached (what is shared counts as often as it is met; a slice's spare places count too). A statement '..UptoSaid' is the law's where the arguments, and the package variables that the reading takes, are together of bulk at most 1048576: NARROWER than '..Said'. Prove '..Said' where nothing that the law and all that it calls make is longer than what came in: it says more and counts as full. Else prove '..UptoSaid'. A law counts once. -/
mutual
def uptoBulk {H : Type} : DataW H → Nat
  | .lit (.string bytes) => bytes.length + 1
  | .lit _ => 1
  | .nil => 1
  | .ptr d => uptoBulk d + 1
  | .slice elems spare => uptoBulkAll elems + uptoBulkAll spare + 1
  | .agg parts => uptoBulkAll parts + 1
  | .iface _ d => uptoBulk d + 1
  | .map entries => uptoBulkEntries entries + 1
  | .held _ => 1
def uptoBulkAll {H : Type} : List (DataW H) → Nat
  | [] => 0
  | d :: r => uptoBulk d + uptoBulkAll r
def uptoBulkEntries {H : Type} : List (Lit × DataW H) → Nat
  | [] => 0
  | x :: r => uptoBulkEntry x + uptoBulkEntries r
def uptoBulkEntry {H : Type} : Lit × DataW H → Nat
  | (.string bytes, d) => bytes.length + uptoBulk d + 1
  | (_, d) => uptoBulk d + 1
 end
def uptoSmall : (H : Type) → List (DataW H) → Bool := fun _ ds => decide (uptoBulkAll ds ≤ 1048576)
def OpenSpec.upto (s : _root_.Go.ChangeSpec) : _root_.Go.OpenSpec := { _root_.Go.OpenSpec.ofChange s with cond := some uptoSmall }

/-- 'laws.FnExactClientNew', WHERE WHAT IT READS IS OF BULK AT MOST 1048576: true; the input reads as it did. -/
def fnExactClientNewUptoRow : OpenClaim := { program := "ytdfhkmekmockkaa", sum := "9f75a929580c896f8af53b90742bba39140347ef878a9c95a395057a1c4a011d", func := "loop.example/g00466/laws.FnExactClientNew", spec := "fnExactClientNew", apart := false, narrowed := true }
def FnExactClientNewUptoSaid : Prop := fnExactClientNewUptoRow.holds Try.pinned (OpenSpec.upto fnExactClientNewSpec)

/-- 'laws.FnExactLeased', WHERE WHAT IT READS IS OF BULK AT MOST 1048576: true; the input reads as it did. -/
def fnExactLeasedUptoRow : OpenClaim := { program := "ytdfhkmekmockkaa", sum := "9f75a929580c896f8af53b90742bba39140347ef878a9c95a395057a1c4a011d", func := "loop.example/g00466/laws.FnExactLeased", spec := "fnExactLeased", apart := false, narrowed := true }
def FnExactLeasedUptoSaid : Prop := fnExactLeasedUptoRow.holds Try.pinned (OpenSpec.upto fnExactLeasedSpec)

/-- 'laws.FnExactShaBlock', WHERE WHAT IT READS IS OF BULK AT MOST 1048576: true; the input reads as it did. -/
def fnExactShaBlockUptoRow : OpenClaim := { program := "ytdfhkmekmockkaa", sum := "9f75a929580c896f8af53b90742bba39140347ef878a9c95a395057a1c4a011d", func := "loop.example/g00466/laws.FnExactShaBlock", spec := "fnExactShaBlock", apart := false, narrowed := true }
def FnExactShaBlockUptoSaid : Prop := fnExactShaBlockUptoRow.holds Try.pinned (OpenSpec.upto fnExactShaBlockSpec)

/-- 'laws.FnExactTickClient', WHERE WHAT IT READS IS OF BULK AT MOST 1048576: true; the input reads as it did. -/
def fnExactTickClientUptoRow : OpenClaim := { program := "ytdfhkmekmockkaa", sum := "9f75a929580c896f8af53b90742bba39140347ef878a9c95a395057a1c4a011d", func := "loop.example/g00466/laws.FnExactTickClient", spec := "fnExactTickClient", apart := false, narrowed := true }
def FnExactTickClientUptoSaid : Prop := fnExactTickClientUptoRow.holds Try.pinned (OpenSpec.upto fnExactTickClientSpec)

/-- 'laws.FnClients', WHERE WHAT IT READS IS OF BULK AT MOST 1048576: true; the input reads as it did. -/
def fnClientsUptoRow : OpenClaim := { program := "ytdfhkmekmockkaa", sum := "9f75a929580c896f8af53b90742bba39140347ef878a9c95a395057a1c4a011d", func := "loop.example/g00466/laws.FnClients", spec := "fnClients", apart := false, narrowed := true }
def FnClientsUptoSaid : Prop := fnClientsUptoRow.holds Try.pinned (OpenSpec.upto fnClientsSpec)

/-- 'laws.FnPools', WHERE WHAT IT READS IS OF BULK AT MOST 1048576: true; the input reads as it did. -/
def fnPoolsUptoRow : OpenClaim := { program := "ytdfhkmekmockkaa", sum := "9f75a929580c896f8af53b90742bba39140347ef878a9c95a395057a1c4a011d", func := "loop.example/g00466/laws.FnPools", spec := "fnPools", apart := false, narrowed := true }
def FnPoolsUptoSaid : Prop := fnPoolsUptoRow.holds Try.pinned (OpenSpec.upto fnPoolsSpec)

/-- 'laws.FnExactSessAt', WHERE WHAT IT READS IS OF BULK AT MOST 1048576: true; the input reads as it did. -/
def fnExactSessAtUptoRow : OpenClaim := { program := "ytdfhkmekmockkaa", sum := "9f75a929580c896f8af53b90742bba39140347ef878a9c95a395057a1c4a011d", func := "loop.example/g00466/laws.FnExactSessAt", spec := "fnExactSessAt", apart := false, narrowed := true }
def FnExactSessAtUptoSaid : Prop := fnExactSessAtUptoRow.holds Try.pinned (OpenSpec.upto fnExactSessAtSpec)

/-- 'laws.FnExactGateNew', WHERE WHAT IT READS IS OF BULK AT MOST 1048576: true; the input reads as it did. -/
def fnExactGateNewUptoRow : OpenClaim := { program := "ytdfhkmekmockkaa", sum := "9f75a929580c896f8af53b90742bba39140347ef878a9c95a395057a1c4a011d", func := "loop.example/g00466/laws.FnExactGateNew", spec := "fnExactGateNew", apart := false, narrowed := true }
def FnExactGateNewUptoSaid : Prop := fnExactGateNewUptoRow.holds Try.pinned (OpenSpec.upto fnExactGateNewSpec)

/-- 'laws.FnChans', WHERE WHAT IT READS IS OF BULK AT MOST 1048576: true; the input reads as it did. -/
def fnChansUptoRow : OpenClaim := { program := "ytdfhkmekmockkaa", sum := "9f75a929580c896f8af53b90742bba39140347ef878a9c95a395057a1c4a011d", func := "loop.example/g00466/laws.FnChans", spec := "fnChans", apart := false, narrowed := true }
def FnChansUptoSaid : Prop := fnChansUptoRow.holds Try.pinned (OpenSpec.upto fnChansSpec)

/-- 'laws.FnExactTurnGate', WHERE WHAT IT READS IS OF BULK AT MOST 1048576: true; the input reads as it did. -/
def fnExactTurnGateUptoRow : OpenClaim := { program := "ytdfhkmekmockkaa", sum := "9f75a929580c896f8af53b90742bba39140347ef878a9c95a395057a1c4a011d", func := "loop.example/g00466/laws.FnExactTurnGate", spec := "fnExactTurnGate", apart := false, narrowed := true }
def FnExactTurnGateUptoSaid : Prop := fnExactTurnGateUptoRow.holds Try.pinned (OpenSpec.upto fnExactTurnGateSpec)

/-- 'laws.FnExactWorldNew', WHERE WHAT IT READS IS OF BULK AT MOST 1048576: true; the input reads as it did. -/
def fnExactWorldNewUptoRow : OpenClaim := { program := "ytdfhkmekmockkaa", sum := "9f75a929580c896f8af53b90742bba39140347ef878a9c95a395057a1c4a011d", func := "loop.example/g00466/laws.FnExactWorldNew", spec := "fnExactWorldNew", apart := false, narrowed := true }
def FnExactWorldNewUptoSaid : Prop := fnExactWorldNewUptoRow.holds Try.pinned (OpenSpec.upto fnExactWorldNewSpec)

end Rows
end Go.Proofs.Ytdfhkmekmockkaa
