/-
  No cell of these rows narrows 'for every input' (looked for: loops, veiled, ifaces, maps, wideKeys, modest, calm, conditions, laid).
  DERIVED. THE GIVEN ROWS OF THIS SEAT. 12 by the template 'for every input the law returns true; each argument reads behind the call as it read before'; 0 by the template 'total and deterministic' (their statements: YtgikbhkbgfppoaaTotals.lean).
  GIVEN WITH THE SEED: the statements are not yours to turn. If you find one false, say at which input.
  Laid BY PROGRAM, IN A SANDBOX (cutbox-rows.mjs): the forced cells as the released guide's own fill.sh prints them over the translation e3d9da8e63b28466… (all of the seat's roots in one cut). By AI agents, Wed Nov 11 2026. No macro, syntax, notation, axiom, sorry.
-/
import Derived.Test.YtgikbhkbgfppoaaChecked
import GoSem.Claim
import GoSem.ClaimJoined
import GoSem.ClaimMapViews
import Derived.JoinedTies
import Derived.KernelRfl
namespace Go.Proofs.Ytgikbhkbgfppoaa
/- THE CELL 'sum', in the pinned program and in every row, IS THE sha256 OF THE DUMP (.gsa) THAT YtgikbhkbgfppoaaProg.lean LOADS. Nothing in Lean hashes anything: it is a label: what it is worth is what the hold of that sum in a sandbox is worth. -/
noncomputable def Try.pinned : Pinned := { name := "ytgikbhkbgfppoaa", sum := "e3d9da8e63b28466d36bdae6cfae5c182abe79dd316f8d3331e5b97a700257b5", checked := Try.checked }
namespace Rows
def none {H : Type} : Left H := { results := [], args := [] }

/-- 'laws.FnExactPacketOk': WHATEVER THE INPUT: true; the input reads as it did. -/
def fnExactPacketOkSpec : ChangeSpec := { name := "fnExactPacketOk", fn := fun _ => fun
  | [d] => { results := [.lit (.bool true)], args := [d] }
  | _ => none }
def fnExactPacketOkRow : OpenClaim := { program := "ytgikbhkbgfppoaa", sum := "e3d9da8e63b28466d36bdae6cfae5c182abe79dd316f8d3331e5b97a700257b5", func := "loop.example/g00466/laws.FnExactPacketOk", spec := "fnExactPacketOk", apart := false }
def FnExactPacketOkSaid : Prop := fnExactPacketOkRow.holds Try.pinned (OpenSpec.ofChange fnExactPacketOkSpec)

/-- ITS FALSE NEIGHBOUR: 'it returns false'. Refute it at one input. -/
def fnExactPacketOkWrong : ChangeSpec := { name := "fnExactPacketOk", fn := fun _ => fun
  | [d] => { results := [.lit (.bool false)], args := [d] }
  | _ => none }
def FnExactPacketOkWrongFalsely : Prop := fnExactPacketOkRow.holds Try.pinned (OpenSpec.ofChange fnExactPacketOkWrong)

/-- 'laws.FnExactFitsRoute': WHATEVER THE INPUT: true; the input reads as it did. -/
def fnExactFitsRouteSpec : ChangeSpec := { name := "fnExactFitsRoute", fn := fun _ => fun
  | [d1, d2] => { results := [.lit (.bool true)], args := [d1, d2] }
  | _ => none }
def fnExactFitsRouteRow : OpenClaim := { program := "ytgikbhkbgfppoaa", sum := "e3d9da8e63b28466d36bdae6cfae5c182abe79dd316f8d3331e5b97a700257b5", func := "loop.example/g00466/laws.FnExactFitsRoute", spec := "fnExactFitsRoute", apart := false }
def FnExactFitsRouteSaid : Prop := fnExactFitsRouteRow.holds Try.pinned (OpenSpec.ofChange fnExactFitsRouteSpec)

/-- ITS FALSE NEIGHBOUR: 'it returns false'. Refute it at one input. -/
def fnExactFitsRouteWrong : ChangeSpec := { name := "fnExactFitsRoute", fn := fun _ => fun
  | [d1, d2] => { results := [.lit (.bool false)], args := [d1, d2] }
  | _ => none }
def FnExactFitsRouteWrongFalsely : Prop := fnExactFitsRouteRow.holds Try.pinned (OpenSpec.ofChange fnExactFitsRouteWrong)

/-- 'laws.FnExactEventOk': WHATEVER THE INPUT: true; the input reads as it did. -/
def fnExactEventOkSpec : ChangeSpec := { name := "fnExactEventOk", fn := fun _ => fun
  | [d] => { results := [.lit (.bool true)], args := [d] }
  | _ => none }
def fnExactEventOkRow : OpenClaim := { program := "ytgikbhkbgfppoaa", sum := "e3d9da8e63b28466d36bdae6cfae5c182abe79dd316f8d3331e5b97a700257b5", func := "loop.example/g00466/laws.FnExactEventOk", spec := "fnExactEventOk", apart := false }
def FnExactEventOkSaid : Prop := fnExactEventOkRow.holds Try.pinned (OpenSpec.ofChange fnExactEventOkSpec)

/-- ITS FALSE NEIGHBOUR: 'it returns false'. Refute it at one input. -/
def fnExactEventOkWrong : ChangeSpec := { name := "fnExactEventOk", fn := fun _ => fun
  | [d] => { results := [.lit (.bool false)], args := [d] }
  | _ => none }
def FnExactEventOkWrongFalsely : Prop := fnExactEventOkRow.holds Try.pinned (OpenSpec.ofChange fnExactEventOkWrong)

/-- 'laws.FnExactChanNew': WHATEVER THE INPUT: true; the input reads as it did. -/
def fnExactChanNewSpec : ChangeSpec := { name := "fnExactChanNew", fn := fun _ => fun
  | [d1, d2] => { results := [.lit (.bool true)], args := [d1, d2] }
  | _ => none }
def fnExactChanNewRow : OpenClaim := { program := "ytgikbhkbgfppoaa", sum := "e3d9da8e63b28466d36bdae6cfae5c182abe79dd316f8d3331e5b97a700257b5", func := "loop.example/g00466/laws.FnExactChanNew", spec := "fnExactChanNew", apart := false }
def FnExactChanNewSaid : Prop := fnExactChanNewRow.holds Try.pinned (OpenSpec.ofChange fnExactChanNewSpec)

/-- ITS FALSE NEIGHBOUR: 'it returns false'. Refute it at one input. -/
def fnExactChanNewWrong : ChangeSpec := { name := "fnExactChanNew", fn := fun _ => fun
  | [d1, d2] => { results := [.lit (.bool false)], args := [d1, d2] }
  | _ => none }
def FnExactChanNewWrongFalsely : Prop := fnExactChanNewRow.holds Try.pinned (OpenSpec.ofChange fnExactChanNewWrong)

/-- 'laws.FnExactShaStart': WHATEVER THE INPUT: true; the input reads as it did. -/
def fnExactShaStartSpec : ChangeSpec := { name := "fnExactShaStart", fn := fun _ => fun
  | [] => { results := [.lit (.bool true)], args := [] }
  | _ => none }
def fnExactShaStartRow : OpenClaim := { program := "ytgikbhkbgfppoaa", sum := "e3d9da8e63b28466d36bdae6cfae5c182abe79dd316f8d3331e5b97a700257b5", func := "loop.example/g00466/laws.FnExactShaStart", spec := "fnExactShaStart", apart := false }
def FnExactShaStartSaid : Prop := fnExactShaStartRow.holds Try.pinned (OpenSpec.ofChange fnExactShaStartSpec)

/-- ITS FALSE NEIGHBOUR: 'it returns false'. Refute it at one input. -/
def fnExactShaStartWrong : ChangeSpec := { name := "fnExactShaStart", fn := fun _ => fun
  | [] => { results := [.lit (.bool false)], args := [] }
  | _ => none }
def FnExactShaStartWrongFalsely : Prop := fnExactShaStartRow.holds Try.pinned (OpenSpec.ofChange fnExactShaStartWrong)

/-- 'laws.FnExactCidOf': WHATEVER THE INPUT: true; the input reads as it did. -/
def fnExactCidOfSpec : ChangeSpec := { name := "fnExactCidOf", fn := fun _ => fun
  | [d1, d2] => { results := [.lit (.bool true)], args := [d1, d2] }
  | _ => none }
def fnExactCidOfRow : OpenClaim := { program := "ytgikbhkbgfppoaa", sum := "e3d9da8e63b28466d36bdae6cfae5c182abe79dd316f8d3331e5b97a700257b5", func := "loop.example/g00466/laws.FnExactCidOf", spec := "fnExactCidOf", apart := false }
def FnExactCidOfSaid : Prop := fnExactCidOfRow.holds Try.pinned (OpenSpec.ofChange fnExactCidOfSpec)

/-- ITS FALSE NEIGHBOUR: 'it returns false'. Refute it at one input. -/
def fnExactCidOfWrong : ChangeSpec := { name := "fnExactCidOf", fn := fun _ => fun
  | [d1, d2] => { results := [.lit (.bool false)], args := [d1, d2] }
  | _ => none }
def FnExactCidOfWrongFalsely : Prop := fnExactCidOfRow.holds Try.pinned (OpenSpec.ofChange fnExactCidOfWrong)

/-- 'laws.FnExactPlaceOf': WHATEVER THE INPUT: true; the input reads as it did. -/
def fnExactPlaceOfSpec : ChangeSpec := { name := "fnExactPlaceOf", fn := fun _ => fun
  | [d1, d2] => { results := [.lit (.bool true)], args := [d1, d2] }
  | _ => none }
def fnExactPlaceOfRow : OpenClaim := { program := "ytgikbhkbgfppoaa", sum := "e3d9da8e63b28466d36bdae6cfae5c182abe79dd316f8d3331e5b97a700257b5", func := "loop.example/g00466/laws.FnExactPlaceOf", spec := "fnExactPlaceOf", apart := false }
def FnExactPlaceOfSaid : Prop := fnExactPlaceOfRow.holds Try.pinned (OpenSpec.ofChange fnExactPlaceOfSpec)

/-- ITS FALSE NEIGHBOUR: 'it returns false'. Refute it at one input. -/
def fnExactPlaceOfWrong : ChangeSpec := { name := "fnExactPlaceOf", fn := fun _ => fun
  | [d1, d2] => { results := [.lit (.bool false)], args := [d1, d2] }
  | _ => none }
def FnExactPlaceOfWrongFalsely : Prop := fnExactPlaceOfRow.holds Try.pinned (OpenSpec.ofChange fnExactPlaceOfWrong)

/-- 'laws.FnExactPoolOk': WHATEVER THE INPUT: true; the input reads as it did. -/
def fnExactPoolOkSpec : ChangeSpec := { name := "fnExactPoolOk", fn := fun _ => fun
  | [d] => { results := [.lit (.bool true)], args := [d] }
  | _ => none }
def fnExactPoolOkRow : OpenClaim := { program := "ytgikbhkbgfppoaa", sum := "e3d9da8e63b28466d36bdae6cfae5c182abe79dd316f8d3331e5b97a700257b5", func := "loop.example/g00466/laws.FnExactPoolOk", spec := "fnExactPoolOk", apart := false }
def FnExactPoolOkSaid : Prop := fnExactPoolOkRow.holds Try.pinned (OpenSpec.ofChange fnExactPoolOkSpec)

/-- ITS FALSE NEIGHBOUR: 'it returns false'. Refute it at one input. -/
def fnExactPoolOkWrong : ChangeSpec := { name := "fnExactPoolOk", fn := fun _ => fun
  | [d] => { results := [.lit (.bool false)], args := [d] }
  | _ => none }
def FnExactPoolOkWrongFalsely : Prop := fnExactPoolOkRow.holds Try.pinned (OpenSpec.ofChange fnExactPoolOkWrong)

/-- 'laws.FnExactTurnOn': WHATEVER THE INPUT: true; the input reads as it did. -/
def fnExactTurnOnSpec : ChangeSpec := { name := "fnExactTurnOn", fn := fun _ => fun
  | [d] => { results := [.lit (.bool true)], args := [d] }
  | _ => none }
def fnExactTurnOnRow : OpenClaim := { program := "ytgikbhkbgfppoaa", sum := "e3d9da8e63b28466d36bdae6cfae5c182abe79dd316f8d3331e5b97a700257b5", func := "loop.example/g00466/laws.FnExactTurnOn", spec := "fnExactTurnOn", apart := false }
def FnExactTurnOnSaid : Prop := fnExactTurnOnRow.holds Try.pinned (OpenSpec.ofChange fnExactTurnOnSpec)

/-- ITS FALSE NEIGHBOUR: 'it returns false'. Refute it at one input. -/
def fnExactTurnOnWrong : ChangeSpec := { name := "fnExactTurnOn", fn := fun _ => fun
  | [d] => { results := [.lit (.bool false)], args := [d] }
  | _ => none }
def FnExactTurnOnWrongFalsely : Prop := fnExactTurnOnRow.holds Try.pinned (OpenSpec.ofChange fnExactTurnOnWrong)

/-- 'laws.FnExactRoutesOk': WHATEVER THE INPUT: true; the input reads as it did. -/
def fnExactRoutesOkSpec : ChangeSpec := { name := "fnExactRoutesOk", fn := fun _ => fun
  | [d] => { results := [.lit (.bool true)], args := [d] }
  | _ => none }
def fnExactRoutesOkRow : OpenClaim := { program := "ytgikbhkbgfppoaa", sum := "e3d9da8e63b28466d36bdae6cfae5c182abe79dd316f8d3331e5b97a700257b5", func := "loop.example/g00466/laws.FnExactRoutesOk", spec := "fnExactRoutesOk", apart := false }
def FnExactRoutesOkSaid : Prop := fnExactRoutesOkRow.holds Try.pinned (OpenSpec.ofChange fnExactRoutesOkSpec)

/-- ITS FALSE NEIGHBOUR: 'it returns false'. Refute it at one input. -/
def fnExactRoutesOkWrong : ChangeSpec := { name := "fnExactRoutesOk", fn := fun _ => fun
  | [d] => { results := [.lit (.bool false)], args := [d] }
  | _ => none }
def FnExactRoutesOkWrongFalsely : Prop := fnExactRoutesOkRow.holds Try.pinned (OpenSpec.ofChange fnExactRoutesOkWrong)

/-- 'laws.FnExactRouteOf': WHATEVER THE INPUT: true; the input reads as it did. -/
def fnExactRouteOfSpec : ChangeSpec := { name := "fnExactRouteOf", fn := fun _ => fun
  | [d1, d2] => { results := [.lit (.bool true)], args := [d1, d2] }
  | _ => none }
def fnExactRouteOfRow : OpenClaim := { program := "ytgikbhkbgfppoaa", sum := "e3d9da8e63b28466d36bdae6cfae5c182abe79dd316f8d3331e5b97a700257b5", func := "loop.example/g00466/laws.FnExactRouteOf", spec := "fnExactRouteOf", apart := false }
def FnExactRouteOfSaid : Prop := fnExactRouteOfRow.holds Try.pinned (OpenSpec.ofChange fnExactRouteOfSpec)

/-- ITS FALSE NEIGHBOUR: 'it returns false'. Refute it at one input. -/
def fnExactRouteOfWrong : ChangeSpec := { name := "fnExactRouteOf", fn := fun _ => fun
  | [d1, d2] => { results := [.lit (.bool false)], args := [d1, d2] }
  | _ => none }
def FnExactRouteOfWrongFalsely : Prop := fnExactRouteOfRow.holds Try.pinned (OpenSpec.ofChange fnExactRouteOfWrong)

/-- 'laws.FnExactGiven': WHATEVER THE INPUT: true; the input reads as it did. -/
def fnExactGivenSpec : ChangeSpec := { name := "fnExactGiven", fn := fun _ => fun
  | [d1, d2] => { results := [.lit (.bool true)], args := [d1, d2] }
  | _ => none }
def fnExactGivenRow : OpenClaim := { program := "ytgikbhkbgfppoaa", sum := "e3d9da8e63b28466d36bdae6cfae5c182abe79dd316f8d3331e5b97a700257b5", func := "loop.example/g00466/laws.FnExactGiven", spec := "fnExactGiven", apart := false }
def FnExactGivenSaid : Prop := fnExactGivenRow.holds Try.pinned (OpenSpec.ofChange fnExactGivenSpec)

/-- ITS FALSE NEIGHBOUR: 'it returns false'. Refute it at one input. -/
def fnExactGivenWrong : ChangeSpec := { name := "fnExactGiven", fn := fun _ => fun
  | [d1, d2] => { results := [.lit (.bool false)], args := [d1, d2] }
  | _ => none }
def FnExactGivenWrongFalsely : Prop := fnExactGivenRow.holds Try.pinned (OpenSpec.ofChange fnExactGivenWrong)

/- THE SECOND FORM. 'bulk': how many values and letters a reading holds, each counted each time it is reached (what is shared counts as often as it is met; a slice's spare places count too). A statement '..UptoSaid' is the law's where the arguments, and the package variables that the reading takes, are together of bulk at most 1048576: NARROWER than '..Said'. Prove '..Said' where nothing that the law and all that it calls make is longer than what came in: it says more and counts as full. Else prove '..UptoSaid'. A law counts once. -/
mutual
def uptoBulk {H : Type} : DataW H → Nat
  | .lit (.string bytes) => bytes.length + 1
  | .lit _ => 1
  | .nil => 1
  | .ptr d => uptoBulk d + 1
  | .slice elems spare => uptoBulkAll elems + uptoBulkAll spare + 1
  | .agg parts => uptoBulkAll parts + 1
  | .iface _ d => uptoBulk d + 1
  | .map entries => uptoBulkEntries entries + 1
  | .held _ => 1
def uptoBulkAll {H : Type} : List (DataW H) → Nat
  | [] => 0
  | d :: r => uptoBulk d + uptoBulkAll r
def uptoBulkEntries {H : Type} : List (Lit × DataW H) → Nat
  | [] => 0
  | x :: r => uptoBulkEntry x + uptoBulkEntries r
def uptoBulkEntry {H : Type} : Lit × DataW H → Nat
  | (.string bytes, d) => bytes.length + uptoBulk d + 1
  | (_, d) => uptoBulk d + 1
 end
def uptoSmall : (H : Type) → List (DataW H) → Bool := fun _ ds => decide (uptoBulkAll ds ≤ 1048576)
def OpenSpec.upto (s : _root_.Go.ChangeSpec) : _root_.Go.OpenSpec := { _root_.Go.OpenSpec.ofChange s with cond := some uptoSmall }

/-- 'laws.FnExactPacketOk', WHERE WHAT IT READS IS OF BULK AT MOST 1048576: true; the input reads as it did. -/
def fnExactPacketOkUptoRow : OpenClaim := { program := "ytgikbhkbgfppoaa", sum := "e3d9da8e63b28466d36bdae6cfae5c182abe79dd316f8d3331e5b97a700257b5", func := "loop.example/g00466/laws.FnExactPacketOk", spec := "fnExactPacketOk", apart := false, narrowed := true }
def FnExactPacketOkUptoSaid : Prop := fnExactPacketOkUptoRow.holds Try.pinned (OpenSpec.upto fnExactPacketOkSpec)

/-- 'laws.FnExactFitsRoute', WHERE WHAT IT READS IS OF BULK AT MOST 1048576: true; the input reads as it did. -/
def fnExactFitsRouteUptoRow : OpenClaim := { program := "ytgikbhkbgfppoaa", sum := "e3d9da8e63b28466d36bdae6cfae5c182abe79dd316f8d3331e5b97a700257b5", func := "loop.example/g00466/laws.FnExactFitsRoute", spec := "fnExactFitsRoute", apart := false, narrowed := true }
def FnExactFitsRouteUptoSaid : Prop := fnExactFitsRouteUptoRow.holds Try.pinned (OpenSpec.upto fnExactFitsRouteSpec)

/-- 'laws.FnExactEventOk', WHERE WHAT IT READS IS OF BULK AT MOST 1048576: true; the input reads as it did. -/
def fnExactEventOkUptoRow : OpenClaim := { program := "ytgikbhkbgfppoaa", sum := "e3d9da8e63b28466d36bdae6cfae5c182abe79dd316f8d3331e5b97a700257b5", func := "loop.example/g00466/laws.FnExactEventOk", spec := "fnExactEventOk", apart := false, narrowed := true }
def FnExactEventOkUptoSaid : Prop := fnExactEventOkUptoRow.holds Try.pinned (OpenSpec.upto fnExactEventOkSpec)

/-- 'laws.FnExactChanNew', WHERE WHAT IT READS IS OF BULK AT MOST 1048576: true; the input reads as it did. -/
def fnExactChanNewUptoRow : OpenClaim := { program := "ytgikbhkbgfppoaa", sum := "e3d9da8e63b28466d36bdae6cfae5c182abe79dd316f8d3331e5b97a700257b5", func := "loop.example/g00466/laws.FnExactChanNew", spec := "fnExactChanNew", apart := false, narrowed := true }
def FnExactChanNewUptoSaid : Prop := fnExactChanNewUptoRow.holds Try.pinned (OpenSpec.upto fnExactChanNewSpec)

/-- 'laws.FnExactShaStart', WHERE WHAT IT READS IS OF BULK AT MOST 1048576: true; the input reads as it did. -/
def fnExactShaStartUptoRow : OpenClaim := { program := "ytgikbhkbgfppoaa", sum := "e3d9da8e63b28466d36bdae6cfae5c182abe79dd316f8d3331e5b97a700257b5", func := "loop.example/g00466/laws.FnExactShaStart", spec := "fnExactShaStart", apart := false, narrowed := true }
def FnExactShaStartUptoSaid : Prop := fnExactShaStartUptoRow.holds Try.pinned (OpenSpec.upto fnExactShaStartSpec)

/-- 'laws.FnExactCidOf', WHERE WHAT IT READS IS OF BULK AT MOST 1048576: true; the input reads as it did. -/
def fnExactCidOfUptoRow : OpenClaim := { program := "ytgikbhkbgfppoaa", sum := "e3d9da8e63b28466d36bdae6cfae5c182abe79dd316f8d3331e5b97a700257b5", func := "loop.example/g00466/laws.FnExactCidOf", spec := "fnExactCidOf", apart := false, narrowed := true }
def FnExactCidOfUptoSaid : Prop := fnExactCidOfUptoRow.holds Try.pinned (OpenSpec.upto fnExactCidOfSpec)

/-- 'laws.FnExactPlaceOf', WHERE WHAT IT READS IS OF BULK AT MOST 1048576: true; the input reads as it did. -/
def fnExactPlaceOfUptoRow : OpenClaim := { program := "ytgikbhkbgfppoaa", sum := "e3d9da8e63b28466d36bdae6cfae5c182abe79dd316f8d3331e5b97a700257b5", func := "loop.example/g00466/laws.FnExactPlaceOf", spec := "fnExactPlaceOf", apart := false, narrowed := true }
def FnExactPlaceOfUptoSaid : Prop := fnExactPlaceOfUptoRow.holds Try.pinned (OpenSpec.upto fnExactPlaceOfSpec)

/-- 'laws.FnExactPoolOk', WHERE WHAT IT READS IS OF BULK AT MOST 1048576: true; the input reads as it did. -/
def fnExactPoolOkUptoRow : OpenClaim := { program := "ytgikbhkbgfppoaa", sum := "e3d9da8e63b28466d36bdae6cfae5c182abe79dd316f8d3331e5b97a700257b5", func := "loop.example/g00466/laws.FnExactPoolOk", spec := "fnExactPoolOk", apart := false, narrowed := true }
def FnExactPoolOkUptoSaid : Prop := fnExactPoolOkUptoRow.holds Try.pinned (OpenSpec.upto fnExactPoolOkSpec)

/-- 'laws.FnExactTurnOn', WHERE WHAT IT READS IS OF BULK AT MOST 1048576: true; the input reads as it did. -/
def fnExactTurnOnUptoRow : OpenClaim := { program := "ytgikbhkbgfppoaa", sum := "e3d9da8e63b28466d36bdae6cfae5c182abe79dd316f8d3331e5b97a700257b5", func := "loop.example/g00466/laws.FnExactTurnOn", spec := "fnExactTurnOn", apart := false, narrowed := true }
def FnExactTurnOnUptoSaid : Prop := fnExactTurnOnUptoRow.holds Try.pinned (OpenSpec.upto fnExactTurnOnSpec)

/-- 'laws.FnExactRoutesOk', WHERE WHAT IT READS IS OF BULK AT MOST 1048576: true; the input reads as it did. -/
def fnExactRoutesOkUptoRow : OpenClaim := { program := "ytgikbhkbgfppoaa", sum := "e3d9da8e63b28466d36bdae6cfae5c182abe79dd316f8d3331e5b97a700257b5", func := "loop.example/g00466/laws.FnExactRoutesOk", spec := "fnExactRoutesOk", apart := false, narrowed := true }
def FnExactRoutesOkUptoSaid : Prop := fnExactRoutesOkUptoRow.holds Try.pinned (OpenSpec.upto fnExactRoutesOkSpec)

/-- 'laws.FnExactRouteOf', WHERE WHAT IT READS IS OF BULK AT MOST 1048576: true; the input reads as it did. -/
def fnExactRouteOfUptoRow : OpenClaim := { program := "ytgikbhkbgfppoaa", sum := "e3d9da8e63b28466d36bdae6cfae5c182abe79dd316f8d3331e5b97a700257b5", func := "loop.example/g00466/laws.FnExactRouteOf", spec := "fnExactRouteOf", apart := false, narrowed := true }
def FnExactRouteOfUptoSaid : Prop := fnExactRouteOfUptoRow.holds Try.pinned (OpenSpec.upto fnExactRouteOfSpec)

/-- 'laws.FnExactGiven', WHERE WHAT IT READS IS OF BULK AT MOST 1048576: true; the input reads as it did. -/
def fnExactGivenUptoRow : OpenClaim := { program := "ytgikbhkbgfppoaa", sum := "e3d9da8e63b28466d36bdae6cfae5c182abe79dd316f8d3331e5b97a700257b5", func := "loop.example/g00466/laws.FnExactGiven", spec := "fnExactGiven", apart := false, narrowed := true }
def FnExactGivenUptoSaid : Prop := fnExactGivenUptoRow.holds Try.pinned (OpenSpec.upto fnExactGivenSpec)

end Rows
end Go.Proofs.Ytgikbhkbgfppoaa
