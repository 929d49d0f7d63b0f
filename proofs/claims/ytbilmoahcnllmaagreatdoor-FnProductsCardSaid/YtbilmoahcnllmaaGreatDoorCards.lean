/-
  DERIVED. GIVEN WITH THE SEED: THE CARDS: each row of YtbilmoahcnllmaaGreatDoorRows.lean that lists a variable, with what it lists TIED to the program's text (the seventh form; the later family's looks); each row that meets fmt, with fmt's text TOLD by the authors' own Lean function (tested against real Go, not proved from fmt's source: count such statements apart). THE CARD IS WHAT COUNTS. Prove the row's statement (the work); the ties are given (YtbilmoahcnllmaaGreatDoorTie.lean); close each card by the builder's one call (the guide's Derived/Test/ToyasCard.lean, 'card_holds'). Laid BY PROGRAM, IN A SANDBOX (cutbox-door.mjs). By AI agents, Wed Nov 11 2026. No macro, syntax, notation, axiom, sorry.
-/
import Derived.Test.YtbilmoahcnllmaaGreatDoorRows
import GoSem.ClaimSeven
namespace Go.Proofs.YtbilmoahcnllmaaGreatDoor
namespace Rows

/-- THE TIED CARD OF 'laws.FnProducts'. -/
def fnProductsCard : Claim7 := { stood := { row := fnProductsRow, standIns := [], harness := (true, "88075345dbf9f19c981f399b89c747b74db7dafa6b1eb3568c8314593beccfef"), looks := false }, kinds := [], alts := [], laidByText := true, laidKinds := [.data], laidTests := true, laidLooks := .later }
def FnProductsCardSaid : Prop := Claim7.holds Tryz.pinned (.plain (OpenSpec.ofChange fnProductsSpec)) fnProductsCard

/-- THE TIED CARD OF 'laws.FnOtherGeometries'. -/
def fnOtherGeometriesCard : Claim7 := { stood := { row := fnOtherGeometriesRow, standIns := [], harness := (true, "88075345dbf9f19c981f399b89c747b74db7dafa6b1eb3568c8314593beccfef"), looks := false }, kinds := [], alts := [], laidByText := true, laidKinds := [.data], laidTests := true, laidLooks := .later }
def FnOtherGeometriesCardSaid : Prop := Claim7.holds Tryz.pinned (.plain (OpenSpec.ofChange fnOtherGeometriesSpec)) fnOtherGeometriesCard

/-- THE SECOND FORM's CARD OF 'laws.FnProducts'. -/
def fnProductsUptoCard : Claim7 := { stood := { row := fnProductsUptoRow, standIns := [], harness := (true, "88075345dbf9f19c981f399b89c747b74db7dafa6b1eb3568c8314593beccfef"), looks := false }, kinds := [], alts := [], laidByText := true, laidKinds := [.data], laidTests := true, laidLooks := .later }
def FnProductsUptoCardSaid : Prop := Claim7.holds Tryz.pinned (.plain (OpenSpec.upto fnProductsSpec)) fnProductsUptoCard

/-- THE SECOND FORM's CARD OF 'laws.FnOtherGeometries'. -/
def fnOtherGeometriesUptoCard : Claim7 := { stood := { row := fnOtherGeometriesUptoRow, standIns := [], harness := (true, "88075345dbf9f19c981f399b89c747b74db7dafa6b1eb3568c8314593beccfef"), looks := false }, kinds := [], alts := [], laidByText := true, laidKinds := [.data], laidTests := true, laidLooks := .later }
def FnOtherGeometriesUptoCardSaid : Prop := Claim7.holds Tryz.pinned (.plain (OpenSpec.upto fnOtherGeometriesSpec)) fnOtherGeometriesUptoCard
end Rows
end Go.Proofs.YtbilmoahcnllmaaGreatDoor
