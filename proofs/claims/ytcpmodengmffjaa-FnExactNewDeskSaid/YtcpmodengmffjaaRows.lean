/-
  No cell of these rows narrows 'for every input' (looked for: loops, veiled, ifaces, maps, wideKeys, modest, calm, conditions, laid).
  DERIVED. THE GIVEN ROWS OF THIS SEAT. 10 by the template 'for every input the law returns true; each argument reads behind the call as it read before'; 0 by the template 'total and deterministic' (their statements: YtcpmodengmffjaaTotals.lean).
  GIVEN WITH THE SEED: the statements are not yours to turn. If you find one false, say at which input.
  Laid BY PROGRAM, IN A SANDBOX (cutbox-rows.mjs): the forced cells as the released guide's own fill.sh prints them over the translation cb066077dc7d21af… (all of the seat's roots in one cut). By AI agents, Wed Nov 11 2026. No macro, syntax, notation, axiom, sorry.
-/
import Derived.Test.YtcpmodengmffjaaChecked
import GoSem.Claim
import GoSem.ClaimJoined
import GoSem.ClaimMapViews
import Derived.JoinedTies
import Derived.KernelRfl
namespace Go.Proofs.Ytcpmodengmffjaa
/- THE CELL 'sum', in the pinned program and in every row, IS THE sha256 OF THE DUMP (.gsa) THAT YtcpmodengmffjaaProg.lean LOADS. Nothing in Lean hashes anything: it is a label: what it is worth is what the hold of that sum in a sandbox is worth. -/
noncomputable def Try.pinned : Pinned := { name := "ytcpmodengmffjaa", sum := "cb066077dc7d21af992dbec30c78d980579ff64ae38977e175fad94c6846b3d8", checked := Try.checked }
namespace Rows
def none {H : Type} : Left H := { results := [], args := [] }

/-- 'laws.FnExactDoubleGraph': WHATEVER THE INPUT: true; the input reads as it did. -/
def fnExactDoubleGraphSpec : ChangeSpec := { name := "fnExactDoubleGraph", fn := fun _ => fun
  | [d] => { results := [.lit (.bool true)], args := [d] }
  | _ => none }
def fnExactDoubleGraphRow : OpenClaim := { program := "ytcpmodengmffjaa", sum := "cb066077dc7d21af992dbec30c78d980579ff64ae38977e175fad94c6846b3d8", func := "loop.example/g01331/laws.FnExactDoubleGraph", spec := "fnExactDoubleGraph", unfollowed := true, recurses := true, apart := false }
def FnExactDoubleGraphSaid : Prop := fnExactDoubleGraphRow.holds Try.pinned (OpenSpec.ofChange fnExactDoubleGraphSpec)

/-- ITS FALSE NEIGHBOUR: 'it returns false'. Refute it at one input. -/
def fnExactDoubleGraphWrong : ChangeSpec := { name := "fnExactDoubleGraph", fn := fun _ => fun
  | [d] => { results := [.lit (.bool false)], args := [d] }
  | _ => none }
def FnExactDoubleGraphWrongFalsely : Prop := fnExactDoubleGraphRow.holds Try.pinned (OpenSpec.ofChange fnExactDoubleGraphWrong)

/-- 'laws.FnExactIsDesk': WHATEVER THE INPUT: true; the input reads as it did. -/
def fnExactIsDeskSpec : ChangeSpec := { name := "fnExactIsDesk", fn := fun _ => fun
  | [d] => { results := [.lit (.bool true)], args := [d] }
  | _ => none }
def fnExactIsDeskRow : OpenClaim := { program := "ytcpmodengmffjaa", sum := "cb066077dc7d21af992dbec30c78d980579ff64ae38977e175fad94c6846b3d8", func := "loop.example/g01331/laws.FnExactIsDesk", spec := "fnExactIsDesk", unfollowed := true, recurses := true, apart := false }
def FnExactIsDeskSaid : Prop := fnExactIsDeskRow.holds Try.pinned (OpenSpec.ofChange fnExactIsDeskSpec)

/-- ITS FALSE NEIGHBOUR: 'it returns false'. Refute it at one input. -/
def fnExactIsDeskWrong : ChangeSpec := { name := "fnExactIsDesk", fn := fun _ => fun
  | [d] => { results := [.lit (.bool false)], args := [d] }
  | _ => none }
def FnExactIsDeskWrongFalsely : Prop := fnExactIsDeskRow.holds Try.pinned (OpenSpec.ofChange fnExactIsDeskWrong)

/-- 'laws.FnExactIsCover': WHATEVER THE INPUT: true; the input reads as it did. -/
def fnExactIsCoverSpec : ChangeSpec := { name := "fnExactIsCover", fn := fun _ => fun
  | [d1, d2, d3] => { results := [.lit (.bool true)], args := [d1, d2, d3] }
  | _ => none }
def fnExactIsCoverRow : OpenClaim := { program := "ytcpmodengmffjaa", sum := "cb066077dc7d21af992dbec30c78d980579ff64ae38977e175fad94c6846b3d8", func := "loop.example/g01331/laws.FnExactIsCover", spec := "fnExactIsCover", apart := false }
def FnExactIsCoverSaid : Prop := fnExactIsCoverRow.holds Try.pinned (OpenSpec.ofChange fnExactIsCoverSpec)

/-- ITS FALSE NEIGHBOUR: 'it returns false'. Refute it at one input. -/
def fnExactIsCoverWrong : ChangeSpec := { name := "fnExactIsCover", fn := fun _ => fun
  | [d1, d2, d3] => { results := [.lit (.bool false)], args := [d1, d2, d3] }
  | _ => none }
def FnExactIsCoverWrongFalsely : Prop := fnExactIsCoverRow.holds Try.pinned (OpenSpec.ofChange fnExactIsCoverWrong)

/-- 'laws.FnExactPartOn': WHATEVER THE INPUT: true; the input reads as it did. -/
def fnExactPartOnSpec : ChangeSpec := { name := "fnExactPartOn", fn := fun _ => fun
  | [d1, d2] => { results := [.lit (.bool true)], args := [d1, d2] }
  | _ => none }
def fnExactPartOnRow : OpenClaim := { program := "ytcpmodengmffjaa", sum := "cb066077dc7d21af992dbec30c78d980579ff64ae38977e175fad94c6846b3d8", func := "loop.example/g01331/laws.FnExactPartOn", spec := "fnExactPartOn", apart := false }
def FnExactPartOnSaid : Prop := fnExactPartOnRow.holds Try.pinned (OpenSpec.ofChange fnExactPartOnSpec)

/-- ITS FALSE NEIGHBOUR: 'it returns false'. Refute it at one input. -/
def fnExactPartOnWrong : ChangeSpec := { name := "fnExactPartOn", fn := fun _ => fun
  | [d1, d2] => { results := [.lit (.bool false)], args := [d1, d2] }
  | _ => none }
def FnExactPartOnWrongFalsely : Prop := fnExactPartOnRow.holds Try.pinned (OpenSpec.ofChange fnExactPartOnWrong)

/-- 'laws.FnExactPutEdge': WHATEVER THE INPUT: true; the input reads as it did. -/
def fnExactPutEdgeSpec : ChangeSpec := { name := "fnExactPutEdge", fn := fun _ => fun
  | [d1, d2, d3] => { results := [.lit (.bool true)], args := [d1, d2, d3] }
  | _ => none }
def fnExactPutEdgeRow : OpenClaim := { program := "ytcpmodengmffjaa", sum := "cb066077dc7d21af992dbec30c78d980579ff64ae38977e175fad94c6846b3d8", func := "loop.example/g01331/laws.FnExactPutEdge", spec := "fnExactPutEdge", apart := false }
def FnExactPutEdgeSaid : Prop := fnExactPutEdgeRow.holds Try.pinned (OpenSpec.ofChange fnExactPutEdgeSpec)

/-- ITS FALSE NEIGHBOUR: 'it returns false'. Refute it at one input. -/
def fnExactPutEdgeWrong : ChangeSpec := { name := "fnExactPutEdge", fn := fun _ => fun
  | [d1, d2, d3] => { results := [.lit (.bool false)], args := [d1, d2, d3] }
  | _ => none }
def FnExactPutEdgeWrongFalsely : Prop := fnExactPutEdgeRow.holds Try.pinned (OpenSpec.ofChange fnExactPutEdgeWrong)

/-- 'laws.FnExactTakeEdge': WHATEVER THE INPUT: true; the input reads as it did. -/
def fnExactTakeEdgeSpec : ChangeSpec := { name := "fnExactTakeEdge", fn := fun _ => fun
  | [d1, d2, d3] => { results := [.lit (.bool true)], args := [d1, d2, d3] }
  | _ => none }
def fnExactTakeEdgeRow : OpenClaim := { program := "ytcpmodengmffjaa", sum := "cb066077dc7d21af992dbec30c78d980579ff64ae38977e175fad94c6846b3d8", func := "loop.example/g01331/laws.FnExactTakeEdge", spec := "fnExactTakeEdge", apart := false }
def FnExactTakeEdgeSaid : Prop := fnExactTakeEdgeRow.holds Try.pinned (OpenSpec.ofChange fnExactTakeEdgeSpec)

/-- ITS FALSE NEIGHBOUR: 'it returns false'. Refute it at one input. -/
def fnExactTakeEdgeWrong : ChangeSpec := { name := "fnExactTakeEdge", fn := fun _ => fun
  | [d1, d2, d3] => { results := [.lit (.bool false)], args := [d1, d2, d3] }
  | _ => none }
def FnExactTakeEdgeWrongFalsely : Prop := fnExactTakeEdgeRow.holds Try.pinned (OpenSpec.ofChange fnExactTakeEdgeWrong)

/-- 'laws.FnExactDirectProduct': WHATEVER THE INPUT: true; the input reads as it did. -/
def fnExactDirectProductSpec : ChangeSpec := { name := "fnExactDirectProduct", fn := fun _ => fun
  | [d1, d2] => { results := [.lit (.bool true)], args := [d1, d2] }
  | _ => none }
def fnExactDirectProductRow : OpenClaim := { program := "ytcpmodengmffjaa", sum := "cb066077dc7d21af992dbec30c78d980579ff64ae38977e175fad94c6846b3d8", func := "loop.example/g01331/laws.FnExactDirectProduct", spec := "fnExactDirectProduct", unfollowed := true, recurses := true, apart := false }
def FnExactDirectProductSaid : Prop := fnExactDirectProductRow.holds Try.pinned (OpenSpec.ofChange fnExactDirectProductSpec)

/-- ITS FALSE NEIGHBOUR: 'it returns false'. Refute it at one input. -/
def fnExactDirectProductWrong : ChangeSpec := { name := "fnExactDirectProduct", fn := fun _ => fun
  | [d1, d2] => { results := [.lit (.bool false)], args := [d1, d2] }
  | _ => none }
def FnExactDirectProductWrongFalsely : Prop := fnExactDirectProductRow.holds Try.pinned (OpenSpec.ofChange fnExactDirectProductWrong)

/-- 'laws.FnExactProductOf': WHATEVER THE INPUT: true; the input reads as it did. -/
def fnExactProductOfSpec : ChangeSpec := { name := "fnExactProductOf", fn := fun _ => fun
  | [d1, d2] => { results := [.lit (.bool true)], args := [d1, d2] }
  | _ => none }
def fnExactProductOfRow : OpenClaim := { program := "ytcpmodengmffjaa", sum := "cb066077dc7d21af992dbec30c78d980579ff64ae38977e175fad94c6846b3d8", func := "loop.example/g01331/laws.FnExactProductOf", spec := "fnExactProductOf", unfollowed := true, recurses := true, apart := false }
def FnExactProductOfSaid : Prop := fnExactProductOfRow.holds Try.pinned (OpenSpec.ofChange fnExactProductOfSpec)

/-- ITS FALSE NEIGHBOUR: 'it returns false'. Refute it at one input. -/
def fnExactProductOfWrong : ChangeSpec := { name := "fnExactProductOf", fn := fun _ => fun
  | [d1, d2] => { results := [.lit (.bool false)], args := [d1, d2] }
  | _ => none }
def FnExactProductOfWrongFalsely : Prop := fnExactProductOfRow.holds Try.pinned (OpenSpec.ofChange fnExactProductOfWrong)

/-- 'laws.FnExactTakeVertex': WHATEVER THE INPUT: true; the input reads as it did. -/
def fnExactTakeVertexSpec : ChangeSpec := { name := "fnExactTakeVertex", fn := fun _ => fun
  | [d1, d2] => { results := [.lit (.bool true)], args := [d1, d2] }
  | _ => none }
def fnExactTakeVertexRow : OpenClaim := { program := "ytcpmodengmffjaa", sum := "cb066077dc7d21af992dbec30c78d980579ff64ae38977e175fad94c6846b3d8", func := "loop.example/g01331/laws.FnExactTakeVertex", spec := "fnExactTakeVertex", unfollowed := true, recurses := true, apart := false }
def FnExactTakeVertexSaid : Prop := fnExactTakeVertexRow.holds Try.pinned (OpenSpec.ofChange fnExactTakeVertexSpec)

/-- ITS FALSE NEIGHBOUR: 'it returns false'. Refute it at one input. -/
def fnExactTakeVertexWrong : ChangeSpec := { name := "fnExactTakeVertex", fn := fun _ => fun
  | [d1, d2] => { results := [.lit (.bool false)], args := [d1, d2] }
  | _ => none }
def FnExactTakeVertexWrongFalsely : Prop := fnExactTakeVertexRow.holds Try.pinned (OpenSpec.ofChange fnExactTakeVertexWrong)

/-- 'laws.FnExactNewDesk': WHATEVER THE INPUT: true; the input reads as it did. -/
def fnExactNewDeskSpec : ChangeSpec := { name := "fnExactNewDesk", fn := fun _ => fun
  | [] => { results := [.lit (.bool true)], args := [] }
  | _ => none }
def fnExactNewDeskRow : OpenClaim := { program := "ytcpmodengmffjaa", sum := "cb066077dc7d21af992dbec30c78d980579ff64ae38977e175fad94c6846b3d8", func := "loop.example/g01331/laws.FnExactNewDesk", spec := "fnExactNewDesk", unfollowed := true, recurses := true, apart := false }
def FnExactNewDeskSaid : Prop := fnExactNewDeskRow.holds Try.pinned (OpenSpec.ofChange fnExactNewDeskSpec)

/-- ITS FALSE NEIGHBOUR: 'it returns false'. Refute it at one input. -/
def fnExactNewDeskWrong : ChangeSpec := { name := "fnExactNewDesk", fn := fun _ => fun
  | [] => { results := [.lit (.bool false)], args := [] }
  | _ => none }
def FnExactNewDeskWrongFalsely : Prop := fnExactNewDeskRow.holds Try.pinned (OpenSpec.ofChange fnExactNewDeskWrong)

/- THE SECOND FORM. 'bulk': how many values and letters a reading holds, each counted each time it is reached (what is shared counts as often as it is met; a slice's spare places count too). A statement '..UptoSaid' is the law's where the arguments, and the package variables that the reading takes, are together of bulk at most 1048576: NARROWER than '..Said'. Prove '..Said' where nothing that the law and all that it calls make is longer than what came in: it says more and counts as full. Else prove '..UptoSaid'. A law counts once. -/
mutual
def uptoBulk {H : Type} : DataW H → Nat
  | .lit (.string bytes) => bytes.length + 1
  | .lit _ => 1
  | .nil => 1
  | .ptr d => uptoBulk d + 1
  | .slice elems spare => uptoBulkAll elems + uptoBulkAll spare + 1
  | .agg parts => uptoBulkAll parts + 1
  | .iface _ d => uptoBulk d + 1
  | .map entries => uptoBulkEntries entries + 1
  | .held _ => 1
def uptoBulkAll {H : Type} : List (DataW H) → Nat
  | [] => 0
  | d :: r => uptoBulk d + uptoBulkAll r
def uptoBulkEntries {H : Type} : List (Lit × DataW H) → Nat
  | [] => 0
  | x :: r => uptoBulkEntry x + uptoBulkEntries r
def uptoBulkEntry {H : Type} : Lit × DataW H → Nat
  | (.string bytes, d) => bytes.length + uptoBulk d + 1
  | (_, d) => uptoBulk d + 1
 end
def uptoSmall : (H : Type) → List (DataW H) → Bool := fun _ ds => decide (uptoBulkAll ds ≤ 1048576)
def OpenSpec.upto (s : _root_.Go.ChangeSpec) : _root_.Go.OpenSpec := { _root_.Go.OpenSpec.ofChange s with cond := some uptoSmall }

/-- 'laws.FnExactDoubleGraph', WHERE WHAT IT READS IS OF BULK AT MOST 1048576: true; the input reads as it did. -/
def fnExactDoubleGraphUptoRow : OpenClaim := { program := "ytcpmodengmffjaa", sum := "cb066077dc7d21af992dbec30c78d980579ff64ae38977e175fad94c6846b3d8", func := "loop.example/g01331/laws.FnExactDoubleGraph", spec := "fnExactDoubleGraph", unfollowed := true, recurses := true, apart := false, narrowed := true }
def FnExactDoubleGraphUptoSaid : Prop := fnExactDoubleGraphUptoRow.holds Try.pinned (OpenSpec.upto fnExactDoubleGraphSpec)

/-- 'laws.FnExactIsDesk', WHERE WHAT IT READS IS OF BULK AT MOST 1048576: true; the input reads as it did. -/
def fnExactIsDeskUptoRow : OpenClaim := { program := "ytcpmodengmffjaa", sum := "cb066077dc7d21af992dbec30c78d980579ff64ae38977e175fad94c6846b3d8", func := "loop.example/g01331/laws.FnExactIsDesk", spec := "fnExactIsDesk", unfollowed := true, recurses := true, apart := false, narrowed := true }
def FnExactIsDeskUptoSaid : Prop := fnExactIsDeskUptoRow.holds Try.pinned (OpenSpec.upto fnExactIsDeskSpec)

/-- 'laws.FnExactIsCover', WHERE WHAT IT READS IS OF BULK AT MOST 1048576: true; the input reads as it did. -/
def fnExactIsCoverUptoRow : OpenClaim := { program := "ytcpmodengmffjaa", sum := "cb066077dc7d21af992dbec30c78d980579ff64ae38977e175fad94c6846b3d8", func := "loop.example/g01331/laws.FnExactIsCover", spec := "fnExactIsCover", apart := false, narrowed := true }
def FnExactIsCoverUptoSaid : Prop := fnExactIsCoverUptoRow.holds Try.pinned (OpenSpec.upto fnExactIsCoverSpec)

/-- 'laws.FnExactPartOn', WHERE WHAT IT READS IS OF BULK AT MOST 1048576: true; the input reads as it did. -/
def fnExactPartOnUptoRow : OpenClaim := { program := "ytcpmodengmffjaa", sum := "cb066077dc7d21af992dbec30c78d980579ff64ae38977e175fad94c6846b3d8", func := "loop.example/g01331/laws.FnExactPartOn", spec := "fnExactPartOn", apart := false, narrowed := true }
def FnExactPartOnUptoSaid : Prop := fnExactPartOnUptoRow.holds Try.pinned (OpenSpec.upto fnExactPartOnSpec)

/-- 'laws.FnExactPutEdge', WHERE WHAT IT READS IS OF BULK AT MOST 1048576: true; the input reads as it did. -/
def fnExactPutEdgeUptoRow : OpenClaim := { program := "ytcpmodengmffjaa", sum := "cb066077dc7d21af992dbec30c78d980579ff64ae38977e175fad94c6846b3d8", func := "loop.example/g01331/laws.FnExactPutEdge", spec := "fnExactPutEdge", apart := false, narrowed := true }
def FnExactPutEdgeUptoSaid : Prop := fnExactPutEdgeUptoRow.holds Try.pinned (OpenSpec.upto fnExactPutEdgeSpec)

/-- 'laws.FnExactTakeEdge', WHERE WHAT IT READS IS OF BULK AT MOST 1048576: true; the input reads as it did. -/
def fnExactTakeEdgeUptoRow : OpenClaim := { program := "ytcpmodengmffjaa", sum := "cb066077dc7d21af992dbec30c78d980579ff64ae38977e175fad94c6846b3d8", func := "loop.example/g01331/laws.FnExactTakeEdge", spec := "fnExactTakeEdge", apart := false, narrowed := true }
def FnExactTakeEdgeUptoSaid : Prop := fnExactTakeEdgeUptoRow.holds Try.pinned (OpenSpec.upto fnExactTakeEdgeSpec)

/-- 'laws.FnExactDirectProduct', WHERE WHAT IT READS IS OF BULK AT MOST 1048576: true; the input reads as it did. -/
def fnExactDirectProductUptoRow : OpenClaim := { program := "ytcpmodengmffjaa", sum := "cb066077dc7d21af992dbec30c78d980579ff64ae38977e175fad94c6846b3d8", func := "loop.example/g01331/laws.FnExactDirectProduct", spec := "fnExactDirectProduct", unfollowed := true, recurses := true, apart := false, narrowed := true }
def FnExactDirectProductUptoSaid : Prop := fnExactDirectProductUptoRow.holds Try.pinned (OpenSpec.upto fnExactDirectProductSpec)

/-- 'laws.FnExactProductOf', WHERE WHAT IT READS IS OF BULK AT MOST 1048576: true; the input reads as it did. -/
def fnExactProductOfUptoRow : OpenClaim := { program := "ytcpmodengmffjaa", sum := "cb066077dc7d21af992dbec30c78d980579ff64ae38977e175fad94c6846b3d8", func := "loop.example/g01331/laws.FnExactProductOf", spec := "fnExactProductOf", unfollowed := true, recurses := true, apart := false, narrowed := true }
def FnExactProductOfUptoSaid : Prop := fnExactProductOfUptoRow.holds Try.pinned (OpenSpec.upto fnExactProductOfSpec)

/-- 'laws.FnExactTakeVertex', WHERE WHAT IT READS IS OF BULK AT MOST 1048576: true; the input reads as it did. -/
def fnExactTakeVertexUptoRow : OpenClaim := { program := "ytcpmodengmffjaa", sum := "cb066077dc7d21af992dbec30c78d980579ff64ae38977e175fad94c6846b3d8", func := "loop.example/g01331/laws.FnExactTakeVertex", spec := "fnExactTakeVertex", unfollowed := true, recurses := true, apart := false, narrowed := true }
def FnExactTakeVertexUptoSaid : Prop := fnExactTakeVertexUptoRow.holds Try.pinned (OpenSpec.upto fnExactTakeVertexSpec)

/-- 'laws.FnExactNewDesk', WHERE WHAT IT READS IS OF BULK AT MOST 1048576: true; the input reads as it did. -/
def fnExactNewDeskUptoRow : OpenClaim := { program := "ytcpmodengmffjaa", sum := "cb066077dc7d21af992dbec30c78d980579ff64ae38977e175fad94c6846b3d8", func := "loop.example/g01331/laws.FnExactNewDesk", spec := "fnExactNewDesk", unfollowed := true, recurses := true, apart := false, narrowed := true }
def FnExactNewDeskUptoSaid : Prop := fnExactNewDeskUptoRow.holds Try.pinned (OpenSpec.upto fnExactNewDeskSpec)

end Rows
end Go.Proofs.Ytcpmodengmffjaa
