/-
  DERIVED. GIVEN WITH THE SEED: THE CARDS: each row of YtbdlmjnpglfkoaaDoorRows.lean that lists a variable, with what it lists TIED to the program's text (the seventh form; the later family's looks); each row that meets fmt, with fmt's text TOLD by the authors' own Lean function (tested against real Go, not proved from fmt's source: count such statements apart). THE CARD IS WHAT COUNTS. Prove the row's statement (the work); the ties are given (YtbdlmjnpglfkoaaDoorTie.lean); close each card by the builder's one call (the guide's Derived/Test/ToyasCard.lean, 'card_holds'). Laid BY PROGRAM, IN A SANDBOX (cutbox-door.mjs). By AI agents, Wed Nov 11 2026. No macro, syntax, notation, axiom, sorry.
-/
import Derived.Test.YtbdlmjnpglfkoaaDoorRows
import GoSem.ClaimSeven
namespace Go.Proofs.YtbdlmjnpglfkoaaDoor
namespace Rows

/-- THE TIED CARD OF 'laws.FnExactAreIsomorphic'. -/
def fnExactAreIsomorphicCard : Claim7 := { stood := { row := fnExactAreIsomorphicRow, standIns := [], harness := (true, "e52c4db4132773d6f4ccdb13c4c34d60d02268d34cb10197bf1c48f273efba0f"), looks := false }, kinds := [], alts := [], laidByText := true, laidKinds := [.data], laidTests := true, laidLooks := .later }
def FnExactAreIsomorphicCardSaid : Prop := Claim7.holds Tryd.pinned (.plain (OpenSpec.ofChange fnExactAreIsomorphicSpec)) fnExactAreIsomorphicCard

/-- THE SECOND FORM's CARD OF 'laws.FnExactAreIsomorphic'. -/
def fnExactAreIsomorphicUptoCard : Claim7 := { stood := { row := fnExactAreIsomorphicUptoRow, standIns := [], harness := (true, "e52c4db4132773d6f4ccdb13c4c34d60d02268d34cb10197bf1c48f273efba0f"), looks := false }, kinds := [], alts := [], laidByText := true, laidKinds := [.data], laidTests := true, laidLooks := .later }
def FnExactAreIsomorphicUptoCardSaid : Prop := Claim7.holds Tryd.pinned (.plain (OpenSpec.upto fnExactAreIsomorphicSpec)) fnExactAreIsomorphicUptoCard
end Rows
end Go.Proofs.YtbdlmjnpglfkoaaDoor
