/-
  DERIVED. GIVEN WITH THE SEED: THE CARDS: each row of YtbomdghbblakoaaGreatDoorRows.lean that lists a variable, with what it lists TIED to the program's text (the seventh form; the later family's looks); each row that meets fmt, with fmt's text TOLD by the authors' own Lean function (tested against real Go, not proved from fmt's source: count such statements apart). THE CARD IS WHAT COUNTS. Prove the row's statement (the work); the ties are given (YtbomdghbblakoaaGreatDoorTie.lean); close each card by the builder's one call (the guide's Derived/Test/ToyasCard.lean, 'card_holds'). Laid BY PROGRAM, IN A SANDBOX (cutbox-door.mjs). By AI agents, Wed Nov 11 2026. No macro, syntax, notation, axiom, sorry.
-/
import Derived.Test.YtbomdghbblakoaaGreatDoorRows
import GoSem.ClaimSeven
namespace Go.Proofs.YtbomdghbblakoaaGreatDoor
namespace Rows

/-- THE TIED CARD OF 'laws.FnOtherGeometries'. -/
def fnOtherGeometriesCard : Claim7 := { stood := { row := fnOtherGeometriesRow, standIns := [], harness := (true, "0fc8dd18f2a58b5089d158ebc5140da29b0c9aa73a01faea1da4d0a4b25b288f"), looks := false }, kinds := [], alts := [], laidByText := true, laidKinds := [.data], laidTests := true, laidLooks := .later }
def FnOtherGeometriesCardSaid : Prop := Claim7.holds Tryz.pinned (.plain (OpenSpec.ofChange fnOtherGeometriesSpec)) fnOtherGeometriesCard

/-- THE TIED CARD OF 'laws.FnCayley'. -/
def fnCayleyCard : Claim7 := { stood := { row := fnCayleyRow, standIns := [], harness := (true, "0fc8dd18f2a58b5089d158ebc5140da29b0c9aa73a01faea1da4d0a4b25b288f"), looks := false }, kinds := [], alts := [], laidByText := true, laidKinds := [.data], laidTests := true, laidLooks := .later }
def FnCayleyCardSaid : Prop := Claim7.holds Tryz.pinned (.plain (OpenSpec.ofChange fnCayleySpec)) fnCayleyCard

/-- THE TIED CARD OF 'laws.FnTop'. -/
def fnTopCard : Claim7 := { stood := { row := fnTopRow, standIns := [], harness := (true, "0fc8dd18f2a58b5089d158ebc5140da29b0c9aa73a01faea1da4d0a4b25b288f"), looks := false }, kinds := [], alts := [], laidByText := true, laidKinds := [.data], laidTests := true, laidLooks := .later }
def FnTopCardSaid : Prop := Claim7.holds Tryz.pinned (.plain (OpenSpec.ofChange fnTopSpec)) fnTopCard

/-- THE SECOND FORM's CARD OF 'laws.FnOtherGeometries'. -/
def fnOtherGeometriesUptoCard : Claim7 := { stood := { row := fnOtherGeometriesUptoRow, standIns := [], harness := (true, "0fc8dd18f2a58b5089d158ebc5140da29b0c9aa73a01faea1da4d0a4b25b288f"), looks := false }, kinds := [], alts := [], laidByText := true, laidKinds := [.data], laidTests := true, laidLooks := .later }
def FnOtherGeometriesUptoCardSaid : Prop := Claim7.holds Tryz.pinned (.plain (OpenSpec.upto fnOtherGeometriesSpec)) fnOtherGeometriesUptoCard

/-- THE SECOND FORM's CARD OF 'laws.FnCayley'. -/
def fnCayleyUptoCard : Claim7 := { stood := { row := fnCayleyUptoRow, standIns := [], harness := (true, "0fc8dd18f2a58b5089d158ebc5140da29b0c9aa73a01faea1da4d0a4b25b288f"), looks := false }, kinds := [], alts := [], laidByText := true, laidKinds := [.data], laidTests := true, laidLooks := .later }
def FnCayleyUptoCardSaid : Prop := Claim7.holds Tryz.pinned (.plain (OpenSpec.upto fnCayleySpec)) fnCayleyUptoCard

/-- THE SECOND FORM's CARD OF 'laws.FnTop'. -/
def fnTopUptoCard : Claim7 := { stood := { row := fnTopUptoRow, standIns := [], harness := (true, "0fc8dd18f2a58b5089d158ebc5140da29b0c9aa73a01faea1da4d0a4b25b288f"), looks := false }, kinds := [], alts := [], laidByText := true, laidKinds := [.data], laidTests := true, laidLooks := .later }
def FnTopUptoCardSaid : Prop := Claim7.holds Tryz.pinned (.plain (OpenSpec.upto fnTopSpec)) fnTopUptoCard
end Rows
end Go.Proofs.YtbomdghbblakoaaGreatDoor
