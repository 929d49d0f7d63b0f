/-
  NARROWER THAN 'FOR EVERY INPUT', by the rows' own cells (each row's printed sentence says how): FnExactGreedyGraph: laid · FnExactLeastVertices: laid · FnExactFirstRegular: laid · FnExactShortestThrough: laid · FnExactHalfOf: laid · FnExactIsFull: laid · FnExactFillGraph: laid · FnExactPairsToJoin: laid · FnFirstRegular: laid.
  DERIVED. THE GIVEN ROWS OF THIS SEAT. 9 by the template 'for every input the law returns true; each argument reads behind the call as it read before'; 0 by the template 'total and deterministic' (their statements: YthpgiimaadohcaaDoorTotals.lean).
  GIVEN WITH THE SEED: the statements are not yours to turn. If you find one false, say at which input.
  Laid BY PROGRAM, IN A SANDBOX (cutbox-rows.mjs): the forced cells as the released guide's own fill.sh prints them over the translation 47d865ce080a55e0… (all of the seat's roots in one cut). By AI agents, Wed Nov 11 2026. No macro, syntax, notation, axiom, sorry.
-/
import Derived.Test.YthpgiimaadohcaaDoorChecked
import GoSem.Claim
import GoSem.ClaimJoined
import GoSem.ClaimMapViews
import Derived.JoinedTies
import Derived.KernelRfl
namespace Go.Proofs.YthpgiimaadohcaaDoor
/- THE CELL 'sum', in the pinned program and in every row, IS THE sha256 OF THE DUMP (.gsa) THAT YthpgiimaadohcaaDoorProg.lean LOADS. Nothing in Lean hashes anything: it is a label: what it is worth is what the hold of that sum in a sandbox is worth. -/
noncomputable def Tryd.pinned : Pinned := { name := "ythpgiimaadohcaadoor", sum := "47d865ce080a55e092e8a5a70e0a276f8728732798d79f1292d7e5ef15ecff40", checked := Tryd.checked }
namespace Rows
def none {H : Type} : Left H := { results := [], args := [] }

/- WHAT THE LISTED PACKAGE-LEVEL VARIABLES READ AS WHEN THE CALL BEGINS. Each datum BY PROGRAM (the guide's laid-datum.mjs) off the statement by which the dump's own 'gosem.cut.vars' lays the variable. In a bare row this is a premise. The card (YthpgiimaadohcaaDoorCards.lean) ties it to the program's text. -/
def laid_math_bits_deBruijn64tab {H : Type} : DataW H := .agg [.lit (.int .u8 0), .lit (.int .u8 1), .lit (.int .u8 56), .lit (.int .u8 2), .lit (.int .u8 57), .lit (.int .u8 49), .lit (.int .u8 28), .lit (.int .u8 3), .lit (.int .u8 61), .lit (.int .u8 58), .lit (.int .u8 42), .lit (.int .u8 50), .lit (.int .u8 38), .lit (.int .u8 29), .lit (.int .u8 17), .lit (.int .u8 4), .lit (.int .u8 62), .lit (.int .u8 47), .lit (.int .u8 59), .lit (.int .u8 36), .lit (.int .u8 45), .lit (.int .u8 43), .lit (.int .u8 51), .lit (.int .u8 22), .lit (.int .u8 53), .lit (.int .u8 39), .lit (.int .u8 33), .lit (.int .u8 30), .lit (.int .u8 24), .lit (.int .u8 18), .lit (.int .u8 12), .lit (.int .u8 5), .lit (.int .u8 63), .lit (.int .u8 55), .lit (.int .u8 48), .lit (.int .u8 27), .lit (.int .u8 60), .lit (.int .u8 41), .lit (.int .u8 37), .lit (.int .u8 16), .lit (.int .u8 46), .lit (.int .u8 35), .lit (.int .u8 44), .lit (.int .u8 21), .lit (.int .u8 52), .lit (.int .u8 32), .lit (.int .u8 23), .lit (.int .u8 11), .lit (.int .u8 54), .lit (.int .u8 26), .lit (.int .u8 40), .lit (.int .u8 15), .lit (.int .u8 34), .lit (.int .u8 20), .lit (.int .u8 31), .lit (.int .u8 10), .lit (.int .u8 25), .lit (.int .u8 14), .lit (.int .u8 19), .lit (.int .u8 9), .lit (.int .u8 13), .lit (.int .u8 8), .lit (.int .u8 7), .lit (.int .u8 6)]

/-- 'laws.FnExactGreedyGraph': WHATEVER THE INPUT: true; the input reads as it did. -/
def fnExactGreedyGraphSpec : ChangeSpec := { name := "fnExactGreedyGraph", fn := fun _ => fun
  | [d1, d2, d3] => { results := [.lit (.bool true)], args := [d1, d2, d3] }
  | _ => none }
def fnExactGreedyGraphRow : OpenClaim := { program := "ythpgiimaadohcaadoor", sum := "47d865ce080a55e092e8a5a70e0a276f8728732798d79f1292d7e5ef15ecff40", func := "loop.example/g01331/laws.FnExactGreedyGraph", spec := "fnExactGreedyGraph", named := ["math/bits.deBruijn64tab"], apart := false, laid := [("math/bits.deBruijn64tab", laid_math_bits_deBruijn64tab)] }
def FnExactGreedyGraphSaid : Prop := fnExactGreedyGraphRow.holds Tryd.pinned (OpenSpec.ofChange fnExactGreedyGraphSpec)

/-- ITS FALSE NEIGHBOUR: 'it returns false'. Refute it at one input. -/
def fnExactGreedyGraphWrong : ChangeSpec := { name := "fnExactGreedyGraph", fn := fun _ => fun
  | [d1, d2, d3] => { results := [.lit (.bool false)], args := [d1, d2, d3] }
  | _ => none }
def FnExactGreedyGraphWrongFalsely : Prop := fnExactGreedyGraphRow.holds Tryd.pinned (OpenSpec.ofChange fnExactGreedyGraphWrong)

/-- 'laws.FnExactLeastVertices': WHATEVER THE INPUT: true; the input reads as it did. -/
def fnExactLeastVerticesSpec : ChangeSpec := { name := "fnExactLeastVertices", fn := fun _ => fun
  | [d1, d2] => { results := [.lit (.bool true)], args := [d1, d2] }
  | _ => none }
def fnExactLeastVerticesRow : OpenClaim := { program := "ythpgiimaadohcaadoor", sum := "47d865ce080a55e092e8a5a70e0a276f8728732798d79f1292d7e5ef15ecff40", func := "loop.example/g01331/laws.FnExactLeastVertices", spec := "fnExactLeastVertices", unfollowed := true, recurses := true, named := ["math/bits.deBruijn64tab"], apart := false, laid := [("math/bits.deBruijn64tab", laid_math_bits_deBruijn64tab)] }
def FnExactLeastVerticesSaid : Prop := fnExactLeastVerticesRow.holds Tryd.pinned (OpenSpec.ofChange fnExactLeastVerticesSpec)

/-- ITS FALSE NEIGHBOUR: 'it returns false'. Refute it at one input. -/
def fnExactLeastVerticesWrong : ChangeSpec := { name := "fnExactLeastVertices", fn := fun _ => fun
  | [d1, d2] => { results := [.lit (.bool false)], args := [d1, d2] }
  | _ => none }
def FnExactLeastVerticesWrongFalsely : Prop := fnExactLeastVerticesRow.holds Tryd.pinned (OpenSpec.ofChange fnExactLeastVerticesWrong)

/-- 'laws.FnExactFirstRegular': WHATEVER THE INPUT: true; the input reads as it did. -/
def fnExactFirstRegularSpec : ChangeSpec := { name := "fnExactFirstRegular", fn := fun _ => fun
  | [d1, d2, d3] => { results := [.lit (.bool true)], args := [d1, d2, d3] }
  | _ => none }
def fnExactFirstRegularRow : OpenClaim := { program := "ythpgiimaadohcaadoor", sum := "47d865ce080a55e092e8a5a70e0a276f8728732798d79f1292d7e5ef15ecff40", func := "loop.example/g01331/laws.FnExactFirstRegular", spec := "fnExactFirstRegular", unfollowed := true, recurses := true, named := ["math/bits.deBruijn64tab"], apart := false, laid := [("math/bits.deBruijn64tab", laid_math_bits_deBruijn64tab)] }
def FnExactFirstRegularSaid : Prop := fnExactFirstRegularRow.holds Tryd.pinned (OpenSpec.ofChange fnExactFirstRegularSpec)

/-- ITS FALSE NEIGHBOUR: 'it returns false'. Refute it at one input. -/
def fnExactFirstRegularWrong : ChangeSpec := { name := "fnExactFirstRegular", fn := fun _ => fun
  | [d1, d2, d3] => { results := [.lit (.bool false)], args := [d1, d2, d3] }
  | _ => none }
def FnExactFirstRegularWrongFalsely : Prop := fnExactFirstRegularRow.holds Tryd.pinned (OpenSpec.ofChange fnExactFirstRegularWrong)

/-- 'laws.FnExactShortestThrough': WHATEVER THE INPUT: true; the input reads as it did. -/
def fnExactShortestThroughSpec : ChangeSpec := { name := "fnExactShortestThrough", fn := fun _ => fun
  | [d1, d2, d3] => { results := [.lit (.bool true)], args := [d1, d2, d3] }
  | _ => none }
def fnExactShortestThroughRow : OpenClaim := { program := "ythpgiimaadohcaadoor", sum := "47d865ce080a55e092e8a5a70e0a276f8728732798d79f1292d7e5ef15ecff40", func := "loop.example/g01331/laws.FnExactShortestThrough", spec := "fnExactShortestThrough", named := ["math/bits.deBruijn64tab"], apart := false, laid := [("math/bits.deBruijn64tab", laid_math_bits_deBruijn64tab)] }
def FnExactShortestThroughSaid : Prop := fnExactShortestThroughRow.holds Tryd.pinned (OpenSpec.ofChange fnExactShortestThroughSpec)

/-- ITS FALSE NEIGHBOUR: 'it returns false'. Refute it at one input. -/
def fnExactShortestThroughWrong : ChangeSpec := { name := "fnExactShortestThrough", fn := fun _ => fun
  | [d1, d2, d3] => { results := [.lit (.bool false)], args := [d1, d2, d3] }
  | _ => none }
def FnExactShortestThroughWrongFalsely : Prop := fnExactShortestThroughRow.holds Tryd.pinned (OpenSpec.ofChange fnExactShortestThroughWrong)

/-- 'laws.FnExactHalfOf': WHATEVER THE INPUT: true; the input reads as it did. -/
def fnExactHalfOfSpec : ChangeSpec := { name := "fnExactHalfOf", fn := fun _ => fun
  | [d] => { results := [.lit (.bool true)], args := [d] }
  | _ => none }
def fnExactHalfOfRow : OpenClaim := { program := "ythpgiimaadohcaadoor", sum := "47d865ce080a55e092e8a5a70e0a276f8728732798d79f1292d7e5ef15ecff40", func := "loop.example/g01331/laws.FnExactHalfOf", spec := "fnExactHalfOf", named := ["math/bits.deBruijn64tab"], apart := false, laid := [("math/bits.deBruijn64tab", laid_math_bits_deBruijn64tab)] }
def FnExactHalfOfSaid : Prop := fnExactHalfOfRow.holds Tryd.pinned (OpenSpec.ofChange fnExactHalfOfSpec)

/-- ITS FALSE NEIGHBOUR: 'it returns false'. Refute it at one input. -/
def fnExactHalfOfWrong : ChangeSpec := { name := "fnExactHalfOf", fn := fun _ => fun
  | [d] => { results := [.lit (.bool false)], args := [d] }
  | _ => none }
def FnExactHalfOfWrongFalsely : Prop := fnExactHalfOfRow.holds Tryd.pinned (OpenSpec.ofChange fnExactHalfOfWrong)

/-- 'laws.FnExactIsFull': WHATEVER THE INPUT: true; the input reads as it did. -/
def fnExactIsFullSpec : ChangeSpec := { name := "fnExactIsFull", fn := fun _ => fun
  | [d1, d2, d3] => { results := [.lit (.bool true)], args := [d1, d2, d3] }
  | _ => none }
def fnExactIsFullRow : OpenClaim := { program := "ythpgiimaadohcaadoor", sum := "47d865ce080a55e092e8a5a70e0a276f8728732798d79f1292d7e5ef15ecff40", func := "loop.example/g01331/laws.FnExactIsFull", spec := "fnExactIsFull", named := ["math/bits.deBruijn64tab"], apart := false, laid := [("math/bits.deBruijn64tab", laid_math_bits_deBruijn64tab)] }
def FnExactIsFullSaid : Prop := fnExactIsFullRow.holds Tryd.pinned (OpenSpec.ofChange fnExactIsFullSpec)

/-- ITS FALSE NEIGHBOUR: 'it returns false'. Refute it at one input. -/
def fnExactIsFullWrong : ChangeSpec := { name := "fnExactIsFull", fn := fun _ => fun
  | [d1, d2, d3] => { results := [.lit (.bool false)], args := [d1, d2, d3] }
  | _ => none }
def FnExactIsFullWrongFalsely : Prop := fnExactIsFullRow.holds Tryd.pinned (OpenSpec.ofChange fnExactIsFullWrong)

/-- 'laws.FnExactFillGraph': WHATEVER THE INPUT: true; the input reads as it did. -/
def fnExactFillGraphSpec : ChangeSpec := { name := "fnExactFillGraph", fn := fun _ => fun
  | [d1, d2, d3] => { results := [.lit (.bool true)], args := [d1, d2, d3] }
  | _ => none }
def fnExactFillGraphRow : OpenClaim := { program := "ythpgiimaadohcaadoor", sum := "47d865ce080a55e092e8a5a70e0a276f8728732798d79f1292d7e5ef15ecff40", func := "loop.example/g01331/laws.FnExactFillGraph", spec := "fnExactFillGraph", named := ["math/bits.deBruijn64tab"], apart := false, laid := [("math/bits.deBruijn64tab", laid_math_bits_deBruijn64tab)] }
def FnExactFillGraphSaid : Prop := fnExactFillGraphRow.holds Tryd.pinned (OpenSpec.ofChange fnExactFillGraphSpec)

/-- ITS FALSE NEIGHBOUR: 'it returns false'. Refute it at one input. -/
def fnExactFillGraphWrong : ChangeSpec := { name := "fnExactFillGraph", fn := fun _ => fun
  | [d1, d2, d3] => { results := [.lit (.bool false)], args := [d1, d2, d3] }
  | _ => none }
def FnExactFillGraphWrongFalsely : Prop := fnExactFillGraphRow.holds Tryd.pinned (OpenSpec.ofChange fnExactFillGraphWrong)

/-- 'laws.FnExactPairsToJoin': WHATEVER THE INPUT: true; the input reads as it did. -/
def fnExactPairsToJoinSpec : ChangeSpec := { name := "fnExactPairsToJoin", fn := fun _ => fun
  | [d1, d2, d3] => { results := [.lit (.bool true)], args := [d1, d2, d3] }
  | _ => none }
def fnExactPairsToJoinRow : OpenClaim := { program := "ythpgiimaadohcaadoor", sum := "47d865ce080a55e092e8a5a70e0a276f8728732798d79f1292d7e5ef15ecff40", func := "loop.example/g01331/laws.FnExactPairsToJoin", spec := "fnExactPairsToJoin", named := ["math/bits.deBruijn64tab"], apart := false, laid := [("math/bits.deBruijn64tab", laid_math_bits_deBruijn64tab)] }
def FnExactPairsToJoinSaid : Prop := fnExactPairsToJoinRow.holds Tryd.pinned (OpenSpec.ofChange fnExactPairsToJoinSpec)

/-- ITS FALSE NEIGHBOUR: 'it returns false'. Refute it at one input. -/
def fnExactPairsToJoinWrong : ChangeSpec := { name := "fnExactPairsToJoin", fn := fun _ => fun
  | [d1, d2, d3] => { results := [.lit (.bool false)], args := [d1, d2, d3] }
  | _ => none }
def FnExactPairsToJoinWrongFalsely : Prop := fnExactPairsToJoinRow.holds Tryd.pinned (OpenSpec.ofChange fnExactPairsToJoinWrong)

/-- 'laws.FnFirstRegular': WHATEVER THE INPUT: true; the input reads as it did. -/
def fnFirstRegularSpec : ChangeSpec := { name := "fnFirstRegular", fn := fun _ => fun
  | [d] => { results := [.lit (.bool true)], args := [d] }
  | _ => none }
def fnFirstRegularRow : OpenClaim := { program := "ythpgiimaadohcaadoor", sum := "47d865ce080a55e092e8a5a70e0a276f8728732798d79f1292d7e5ef15ecff40", func := "loop.example/g01331/laws.FnFirstRegular", spec := "fnFirstRegular", unfollowed := true, recurses := true, named := ["math/bits.deBruijn64tab"], apart := false, laid := [("math/bits.deBruijn64tab", laid_math_bits_deBruijn64tab)] }
def FnFirstRegularSaid : Prop := fnFirstRegularRow.holds Tryd.pinned (OpenSpec.ofChange fnFirstRegularSpec)

/-- ITS FALSE NEIGHBOUR: 'it returns false'. Refute it at one input. -/
def fnFirstRegularWrong : ChangeSpec := { name := "fnFirstRegular", fn := fun _ => fun
  | [d] => { results := [.lit (.bool false)], args := [d] }
  | _ => none }
def FnFirstRegularWrongFalsely : Prop := fnFirstRegularRow.holds Tryd.pinned (OpenSpec.ofChange fnFirstRegularWrong)

/- THE SECOND FORM. 'bulk': how many values and letters a reading holds, each counted each time it is reached (what is shared counts as often as it is met; a slice's spare places count too). A statement '..UptoSaid' is the law's where the arguments, and the package variables that the reading takes, are together of bulk at most 1048576: NARROWER than '..Said'. Prove '..Said' where nothing that the law and all that it calls make is longer than what came in: it says more and counts as full. Else prove '..UptoSaid'. A law counts once. -/
mutual
def uptoBulk {H : Type} : DataW H → Nat
  | .lit (.string bytes) => bytes.length + 1
  | .lit _ => 1
  | .nil => 1
  | .ptr d => uptoBulk d + 1
  | .slice elems spare => uptoBulkAll elems + uptoBulkAll spare + 1
  | .agg parts => uptoBulkAll parts + 1
  | .iface _ d => uptoBulk d + 1
  | .map entries => uptoBulkEntries entries + 1
  | .held _ => 1
def uptoBulkAll {H : Type} : List (DataW H) → Nat
  | [] => 0
  | d :: r => uptoBulk d + uptoBulkAll r
def uptoBulkEntries {H : Type} : List (Lit × DataW H) → Nat
  | [] => 0
  | x :: r => uptoBulkEntry x + uptoBulkEntries r
def uptoBulkEntry {H : Type} : Lit × DataW H → Nat
  | (.string bytes, d) => bytes.length + uptoBulk d + 1
  | (_, d) => uptoBulk d + 1
 end
def uptoSmall : (H : Type) → List (DataW H) → Bool := fun _ ds => decide (uptoBulkAll ds ≤ 1048576)
def OpenSpec.upto (s : _root_.Go.ChangeSpec) : _root_.Go.OpenSpec := { _root_.Go.OpenSpec.ofChange s with cond := some uptoSmall }

/-- 'laws.FnExactGreedyGraph', WHERE WHAT IT READS IS OF BULK AT MOST 1048576: true; the input reads as it did. -/
def fnExactGreedyGraphUptoRow : OpenClaim := { program := "ythpgiimaadohcaadoor", sum := "47d865ce080a55e092e8a5a70e0a276f8728732798d79f1292d7e5ef15ecff40", func := "loop.example/g01331/laws.FnExactGreedyGraph", spec := "fnExactGreedyGraph", named := ["math/bits.deBruijn64tab"], apart := false, laid := [("math/bits.deBruijn64tab", laid_math_bits_deBruijn64tab)], narrowed := true }
def FnExactGreedyGraphUptoSaid : Prop := fnExactGreedyGraphUptoRow.holds Tryd.pinned (OpenSpec.upto fnExactGreedyGraphSpec)

/-- 'laws.FnExactLeastVertices', WHERE WHAT IT READS IS OF BULK AT MOST 1048576: true; the input reads as it did. -/
def fnExactLeastVerticesUptoRow : OpenClaim := { program := "ythpgiimaadohcaadoor", sum := "47d865ce080a55e092e8a5a70e0a276f8728732798d79f1292d7e5ef15ecff40", func := "loop.example/g01331/laws.FnExactLeastVertices", spec := "fnExactLeastVertices", unfollowed := true, recurses := true, named := ["math/bits.deBruijn64tab"], apart := false, laid := [("math/bits.deBruijn64tab", laid_math_bits_deBruijn64tab)], narrowed := true }
def FnExactLeastVerticesUptoSaid : Prop := fnExactLeastVerticesUptoRow.holds Tryd.pinned (OpenSpec.upto fnExactLeastVerticesSpec)

/-- 'laws.FnExactFirstRegular', WHERE WHAT IT READS IS OF BULK AT MOST 1048576: true; the input reads as it did. -/
def fnExactFirstRegularUptoRow : OpenClaim := { program := "ythpgiimaadohcaadoor", sum := "47d865ce080a55e092e8a5a70e0a276f8728732798d79f1292d7e5ef15ecff40", func := "loop.example/g01331/laws.FnExactFirstRegular", spec := "fnExactFirstRegular", unfollowed := true, recurses := true, named := ["math/bits.deBruijn64tab"], apart := false, laid := [("math/bits.deBruijn64tab", laid_math_bits_deBruijn64tab)], narrowed := true }
def FnExactFirstRegularUptoSaid : Prop := fnExactFirstRegularUptoRow.holds Tryd.pinned (OpenSpec.upto fnExactFirstRegularSpec)

/-- 'laws.FnExactShortestThrough', WHERE WHAT IT READS IS OF BULK AT MOST 1048576: true; the input reads as it did. -/
def fnExactShortestThroughUptoRow : OpenClaim := { program := "ythpgiimaadohcaadoor", sum := "47d865ce080a55e092e8a5a70e0a276f8728732798d79f1292d7e5ef15ecff40", func := "loop.example/g01331/laws.FnExactShortestThrough", spec := "fnExactShortestThrough", named := ["math/bits.deBruijn64tab"], apart := false, laid := [("math/bits.deBruijn64tab", laid_math_bits_deBruijn64tab)], narrowed := true }
def FnExactShortestThroughUptoSaid : Prop := fnExactShortestThroughUptoRow.holds Tryd.pinned (OpenSpec.upto fnExactShortestThroughSpec)

/-- 'laws.FnExactHalfOf', WHERE WHAT IT READS IS OF BULK AT MOST 1048576: true; the input reads as it did. -/
def fnExactHalfOfUptoRow : OpenClaim := { program := "ythpgiimaadohcaadoor", sum := "47d865ce080a55e092e8a5a70e0a276f8728732798d79f1292d7e5ef15ecff40", func := "loop.example/g01331/laws.FnExactHalfOf", spec := "fnExactHalfOf", named := ["math/bits.deBruijn64tab"], apart := false, laid := [("math/bits.deBruijn64tab", laid_math_bits_deBruijn64tab)], narrowed := true }
def FnExactHalfOfUptoSaid : Prop := fnExactHalfOfUptoRow.holds Tryd.pinned (OpenSpec.upto fnExactHalfOfSpec)

/-- 'laws.FnExactIsFull', WHERE WHAT IT READS IS OF BULK AT MOST 1048576: true; the input reads as it did. -/
def fnExactIsFullUptoRow : OpenClaim := { program := "ythpgiimaadohcaadoor", sum := "47d865ce080a55e092e8a5a70e0a276f8728732798d79f1292d7e5ef15ecff40", func := "loop.example/g01331/laws.FnExactIsFull", spec := "fnExactIsFull", named := ["math/bits.deBruijn64tab"], apart := false, laid := [("math/bits.deBruijn64tab", laid_math_bits_deBruijn64tab)], narrowed := true }
def FnExactIsFullUptoSaid : Prop := fnExactIsFullUptoRow.holds Tryd.pinned (OpenSpec.upto fnExactIsFullSpec)

/-- 'laws.FnExactFillGraph', WHERE WHAT IT READS IS OF BULK AT MOST 1048576: true; the input reads as it did. -/
def fnExactFillGraphUptoRow : OpenClaim := { program := "ythpgiimaadohcaadoor", sum := "47d865ce080a55e092e8a5a70e0a276f8728732798d79f1292d7e5ef15ecff40", func := "loop.example/g01331/laws.FnExactFillGraph", spec := "fnExactFillGraph", named := ["math/bits.deBruijn64tab"], apart := false, laid := [("math/bits.deBruijn64tab", laid_math_bits_deBruijn64tab)], narrowed := true }
def FnExactFillGraphUptoSaid : Prop := fnExactFillGraphUptoRow.holds Tryd.pinned (OpenSpec.upto fnExactFillGraphSpec)

/-- 'laws.FnExactPairsToJoin', WHERE WHAT IT READS IS OF BULK AT MOST 1048576: true; the input reads as it did. -/
def fnExactPairsToJoinUptoRow : OpenClaim := { program := "ythpgiimaadohcaadoor", sum := "47d865ce080a55e092e8a5a70e0a276f8728732798d79f1292d7e5ef15ecff40", func := "loop.example/g01331/laws.FnExactPairsToJoin", spec := "fnExactPairsToJoin", named := ["math/bits.deBruijn64tab"], apart := false, laid := [("math/bits.deBruijn64tab", laid_math_bits_deBruijn64tab)], narrowed := true }
def FnExactPairsToJoinUptoSaid : Prop := fnExactPairsToJoinUptoRow.holds Tryd.pinned (OpenSpec.upto fnExactPairsToJoinSpec)

/-- 'laws.FnFirstRegular', WHERE WHAT IT READS IS OF BULK AT MOST 1048576: true; the input reads as it did. -/
def fnFirstRegularUptoRow : OpenClaim := { program := "ythpgiimaadohcaadoor", sum := "47d865ce080a55e092e8a5a70e0a276f8728732798d79f1292d7e5ef15ecff40", func := "loop.example/g01331/laws.FnFirstRegular", spec := "fnFirstRegular", unfollowed := true, recurses := true, named := ["math/bits.deBruijn64tab"], apart := false, laid := [("math/bits.deBruijn64tab", laid_math_bits_deBruijn64tab)], narrowed := true }
def FnFirstRegularUptoSaid : Prop := fnFirstRegularUptoRow.holds Tryd.pinned (OpenSpec.upto fnFirstRegularSpec)

end Rows
end Go.Proofs.YthpgiimaadohcaaDoor
