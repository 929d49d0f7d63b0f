/-
  DERIVED. GIVEN WITH THE SEED: THE CARDS: each row of YthpgiimaadohcaaDoorRows.lean that lists a variable, with what it lists TIED to the program's text (the seventh form; the later family's looks); each row that meets fmt, with fmt's text TOLD by the authors' own Lean function (tested against real Go, not proved from fmt's source: count such statements apart). THE CARD IS WHAT COUNTS. Prove the row's statement (the work); the ties are given (YthpgiimaadohcaaDoorTie.lean); close each card by the builder's one call (the guide's Derived/Test/ToyasCard.lean, 'card_holds'). Laid BY PROGRAM, IN A SANDBOX (cutbox-door.mjs). By AI agents, Wed Nov 11 2026. No macro, syntax, notation, axiom, sorry.
-/
import Derived.Test.YthpgiimaadohcaaDoorRows
import GoSem.ClaimSeven
namespace Go.Proofs.YthpgiimaadohcaaDoor
namespace Rows

/-- THE TIED CARD OF 'laws.FnExactGreedyGraph'. -/
def fnExactGreedyGraphCard : Claim7 := { stood := { row := fnExactGreedyGraphRow, standIns := [], harness := (true, "a2c9c6ca5ed8cd237ee74c3e411eb6ea273a728be178096bd033faa694205233"), looks := false }, kinds := [], alts := [], laidByText := true, laidKinds := [.data], laidTests := true, laidLooks := .later }
def FnExactGreedyGraphCardSaid : Prop := Claim7.holds Tryd.pinned (.plain (OpenSpec.ofChange fnExactGreedyGraphSpec)) fnExactGreedyGraphCard

/-- THE TIED CARD OF 'laws.FnExactLeastVertices'. -/
def fnExactLeastVerticesCard : Claim7 := { stood := { row := fnExactLeastVerticesRow, standIns := [], harness := (true, "a2c9c6ca5ed8cd237ee74c3e411eb6ea273a728be178096bd033faa694205233"), looks := false }, kinds := [], alts := [], laidByText := true, laidKinds := [.data], laidTests := true, laidLooks := .later }
def FnExactLeastVerticesCardSaid : Prop := Claim7.holds Tryd.pinned (.plain (OpenSpec.ofChange fnExactLeastVerticesSpec)) fnExactLeastVerticesCard

/-- THE TIED CARD OF 'laws.FnExactFirstRegular'. -/
def fnExactFirstRegularCard : Claim7 := { stood := { row := fnExactFirstRegularRow, standIns := [], harness := (true, "a2c9c6ca5ed8cd237ee74c3e411eb6ea273a728be178096bd033faa694205233"), looks := false }, kinds := [], alts := [], laidByText := true, laidKinds := [.data], laidTests := true, laidLooks := .later }
def FnExactFirstRegularCardSaid : Prop := Claim7.holds Tryd.pinned (.plain (OpenSpec.ofChange fnExactFirstRegularSpec)) fnExactFirstRegularCard

/-- THE TIED CARD OF 'laws.FnExactShortestThrough'. -/
def fnExactShortestThroughCard : Claim7 := { stood := { row := fnExactShortestThroughRow, standIns := [], harness := (true, "a2c9c6ca5ed8cd237ee74c3e411eb6ea273a728be178096bd033faa694205233"), looks := false }, kinds := [], alts := [], laidByText := true, laidKinds := [.data], laidTests := true, laidLooks := .later }
def FnExactShortestThroughCardSaid : Prop := Claim7.holds Tryd.pinned (.plain (OpenSpec.ofChange fnExactShortestThroughSpec)) fnExactShortestThroughCard

/-- THE TIED CARD OF 'laws.FnExactHalfOf'. -/
def fnExactHalfOfCard : Claim7 := { stood := { row := fnExactHalfOfRow, standIns := [], harness := (true, "a2c9c6ca5ed8cd237ee74c3e411eb6ea273a728be178096bd033faa694205233"), looks := false }, kinds := [], alts := [], laidByText := true, laidKinds := [.data], laidTests := true, laidLooks := .later }
def FnExactHalfOfCardSaid : Prop := Claim7.holds Tryd.pinned (.plain (OpenSpec.ofChange fnExactHalfOfSpec)) fnExactHalfOfCard

/-- THE TIED CARD OF 'laws.FnExactIsFull'. -/
def fnExactIsFullCard : Claim7 := { stood := { row := fnExactIsFullRow, standIns := [], harness := (true, "a2c9c6ca5ed8cd237ee74c3e411eb6ea273a728be178096bd033faa694205233"), looks := false }, kinds := [], alts := [], laidByText := true, laidKinds := [.data], laidTests := true, laidLooks := .later }
def FnExactIsFullCardSaid : Prop := Claim7.holds Tryd.pinned (.plain (OpenSpec.ofChange fnExactIsFullSpec)) fnExactIsFullCard

/-- THE TIED CARD OF 'laws.FnExactFillGraph'. -/
def fnExactFillGraphCard : Claim7 := { stood := { row := fnExactFillGraphRow, standIns := [], harness := (true, "a2c9c6ca5ed8cd237ee74c3e411eb6ea273a728be178096bd033faa694205233"), looks := false }, kinds := [], alts := [], laidByText := true, laidKinds := [.data], laidTests := true, laidLooks := .later }
def FnExactFillGraphCardSaid : Prop := Claim7.holds Tryd.pinned (.plain (OpenSpec.ofChange fnExactFillGraphSpec)) fnExactFillGraphCard

/-- THE TIED CARD OF 'laws.FnExactPairsToJoin'. -/
def fnExactPairsToJoinCard : Claim7 := { stood := { row := fnExactPairsToJoinRow, standIns := [], harness := (true, "a2c9c6ca5ed8cd237ee74c3e411eb6ea273a728be178096bd033faa694205233"), looks := false }, kinds := [], alts := [], laidByText := true, laidKinds := [.data], laidTests := true, laidLooks := .later }
def FnExactPairsToJoinCardSaid : Prop := Claim7.holds Tryd.pinned (.plain (OpenSpec.ofChange fnExactPairsToJoinSpec)) fnExactPairsToJoinCard

/-- THE TIED CARD OF 'laws.FnFirstRegular'. -/
def fnFirstRegularCard : Claim7 := { stood := { row := fnFirstRegularRow, standIns := [], harness := (true, "a2c9c6ca5ed8cd237ee74c3e411eb6ea273a728be178096bd033faa694205233"), looks := false }, kinds := [], alts := [], laidByText := true, laidKinds := [.data], laidTests := true, laidLooks := .later }
def FnFirstRegularCardSaid : Prop := Claim7.holds Tryd.pinned (.plain (OpenSpec.ofChange fnFirstRegularSpec)) fnFirstRegularCard

/-- THE SECOND FORM's CARD OF 'laws.FnExactGreedyGraph'. -/
def fnExactGreedyGraphUptoCard : Claim7 := { stood := { row := fnExactGreedyGraphUptoRow, standIns := [], harness := (true, "a2c9c6ca5ed8cd237ee74c3e411eb6ea273a728be178096bd033faa694205233"), looks := false }, kinds := [], alts := [], laidByText := true, laidKinds := [.data], laidTests := true, laidLooks := .later }
def FnExactGreedyGraphUptoCardSaid : Prop := Claim7.holds Tryd.pinned (.plain (OpenSpec.upto fnExactGreedyGraphSpec)) fnExactGreedyGraphUptoCard

/-- THE SECOND FORM's CARD OF 'laws.FnExactLeastVertices'. -/
def fnExactLeastVerticesUptoCard : Claim7 := { stood := { row := fnExactLeastVerticesUptoRow, standIns := [], harness := (true, "a2c9c6ca5ed8cd237ee74c3e411eb6ea273a728be178096bd033faa694205233"), looks := false }, kinds := [], alts := [], laidByText := true, laidKinds := [.data], laidTests := true, laidLooks := .later }
def FnExactLeastVerticesUptoCardSaid : Prop := Claim7.holds Tryd.pinned (.plain (OpenSpec.upto fnExactLeastVerticesSpec)) fnExactLeastVerticesUptoCard

/-- THE SECOND FORM's CARD OF 'laws.FnExactFirstRegular'. -/
def fnExactFirstRegularUptoCard : Claim7 := { stood := { row := fnExactFirstRegularUptoRow, standIns := [], harness := (true, "a2c9c6ca5ed8cd237ee74c3e411eb6ea273a728be178096bd033faa694205233"), looks := false }, kinds := [], alts := [], laidByText := true, laidKinds := [.data], laidTests := true, laidLooks := .later }
def FnExactFirstRegularUptoCardSaid : Prop := Claim7.holds Tryd.pinned (.plain (OpenSpec.upto fnExactFirstRegularSpec)) fnExactFirstRegularUptoCard

/-- THE SECOND FORM's CARD OF 'laws.FnExactShortestThrough'. -/
def fnExactShortestThroughUptoCard : Claim7 := { stood := { row := fnExactShortestThroughUptoRow, standIns := [], harness := (true, "a2c9c6ca5ed8cd237ee74c3e411eb6ea273a728be178096bd033faa694205233"), looks := false }, kinds := [], alts := [], laidByText := true, laidKinds := [.data], laidTests := true, laidLooks := .later }
def FnExactShortestThroughUptoCardSaid : Prop := Claim7.holds Tryd.pinned (.plain (OpenSpec.upto fnExactShortestThroughSpec)) fnExactShortestThroughUptoCard

/-- THE SECOND FORM's CARD OF 'laws.FnExactHalfOf'. -/
def fnExactHalfOfUptoCard : Claim7 := { stood := { row := fnExactHalfOfUptoRow, standIns := [], harness := (true, "a2c9c6ca5ed8cd237ee74c3e411eb6ea273a728be178096bd033faa694205233"), looks := false }, kinds := [], alts := [], laidByText := true, laidKinds := [.data], laidTests := true, laidLooks := .later }
def FnExactHalfOfUptoCardSaid : Prop := Claim7.holds Tryd.pinned (.plain (OpenSpec.upto fnExactHalfOfSpec)) fnExactHalfOfUptoCard

/-- THE SECOND FORM's CARD OF 'laws.FnExactIsFull'. -/
def fnExactIsFullUptoCard : Claim7 := { stood := { row := fnExactIsFullUptoRow, standIns := [], harness := (true, "a2c9c6ca5ed8cd237ee74c3e411eb6ea273a728be178096bd033faa694205233"), looks := false }, kinds := [], alts := [], laidByText := true, laidKinds := [.data], laidTests := true, laidLooks := .later }
def FnExactIsFullUptoCardSaid : Prop := Claim7.holds Tryd.pinned (.plain (OpenSpec.upto fnExactIsFullSpec)) fnExactIsFullUptoCard

/-- THE SECOND FORM's CARD OF 'laws.FnExactFillGraph'. -/
def fnExactFillGraphUptoCard : Claim7 := { stood := { row := fnExactFillGraphUptoRow, standIns := [], harness := (true, "a2c9c6ca5ed8cd237ee74c3e411eb6ea273a728be178096bd033faa694205233"), looks := false }, kinds := [], alts := [], laidByText := true, laidKinds := [.data], laidTests := true, laidLooks := .later }
def FnExactFillGraphUptoCardSaid : Prop := Claim7.holds Tryd.pinned (.plain (OpenSpec.upto fnExactFillGraphSpec)) fnExactFillGraphUptoCard

/-- THE SECOND FORM's CARD OF 'laws.FnExactPairsToJoin'. -/
def fnExactPairsToJoinUptoCard : Claim7 := { stood := { row := fnExactPairsToJoinUptoRow, standIns := [], harness := (true, "a2c9c6ca5ed8cd237ee74c3e411eb6ea273a728be178096bd033faa694205233"), looks := false }, kinds := [], alts := [], laidByText := true, laidKinds := [.data], laidTests := true, laidLooks := .later }
def FnExactPairsToJoinUptoCardSaid : Prop := Claim7.holds Tryd.pinned (.plain (OpenSpec.upto fnExactPairsToJoinSpec)) fnExactPairsToJoinUptoCard

/-- THE SECOND FORM's CARD OF 'laws.FnFirstRegular'. -/
def fnFirstRegularUptoCard : Claim7 := { stood := { row := fnFirstRegularUptoRow, standIns := [], harness := (true, "a2c9c6ca5ed8cd237ee74c3e411eb6ea273a728be178096bd033faa694205233"), looks := false }, kinds := [], alts := [], laidByText := true, laidKinds := [.data], laidTests := true, laidLooks := .later }
def FnFirstRegularUptoCardSaid : Prop := Claim7.holds Tryd.pinned (.plain (OpenSpec.upto fnFirstRegularSpec)) fnFirstRegularUptoCard
end Rows
end Go.Proofs.YthpgiimaadohcaaDoor
