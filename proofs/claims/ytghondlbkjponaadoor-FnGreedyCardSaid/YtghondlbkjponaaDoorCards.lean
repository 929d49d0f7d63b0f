/-
  DERIVED. GIVEN WITH THE SEED: THE CARDS: each row of YtghondlbkjponaaDoorRows.lean that lists a variable, with what it lists TIED to the program's text (the seventh form; the later family's looks); each row that meets fmt, with fmt's text TOLD by the authors' own Lean function (tested against real Go, not proved from fmt's source: count such statements apart). THE CARD IS WHAT COUNTS. Prove the row's statement (the work); the ties are given (YtghondlbkjponaaDoorTie.lean); close each card by the builder's one call (the guide's Derived/Test/ToyasCard.lean, 'card_holds'). Laid BY PROGRAM, IN A SANDBOX (cutbox-door.mjs). By AI agents, Wed Nov 11 2026. No macro, syntax, notation, axiom, sorry.
-/
import Derived.Test.YtghondlbkjponaaDoorRows
import GoSem.ClaimSeven
namespace Go.Proofs.YtghondlbkjponaaDoor
namespace Rows

/-- THE TIED CARD OF 'laws.FnGirths'. -/
def fnGirthsCard : Claim7 := { stood := { row := fnGirthsRow, standIns := [], harness := (true, "4f0837e792111f46e98c086a5b3d74b5b66d459bc3b7a7248bb7b06b0e52c3d2"), looks := false }, kinds := [], alts := [], laidByText := true, laidKinds := [.data], laidTests := true, laidLooks := .later }
def FnGirthsCardSaid : Prop := Claim7.holds Tryd.pinned (.plain (OpenSpec.ofChange fnGirthsSpec)) fnGirthsCard

/-- THE TIED CARD OF 'laws.FnGreedy'. -/
def fnGreedyCard : Claim7 := { stood := { row := fnGreedyRow, standIns := [], harness := (true, "4f0837e792111f46e98c086a5b3d74b5b66d459bc3b7a7248bb7b06b0e52c3d2"), looks := false }, kinds := [], alts := [], laidByText := true, laidKinds := [.data], laidTests := true, laidLooks := .later }
def FnGreedyCardSaid : Prop := Claim7.holds Tryd.pinned (.plain (OpenSpec.ofChange fnGreedySpec)) fnGreedyCard

/-- THE TIED CARD OF 'laws.FnLifts'. -/
def fnLiftsCard : Claim7 := { stood := { row := fnLiftsRow, standIns := [], harness := (true, "4f0837e792111f46e98c086a5b3d74b5b66d459bc3b7a7248bb7b06b0e52c3d2"), looks := false }, kinds := [], alts := [], laidByText := true, laidKinds := [.data], laidTests := true, laidLooks := .later }
def FnLiftsCardSaid : Prop := Claim7.holds Tryd.pinned (.plain (OpenSpec.ofChange fnLiftsSpec)) fnLiftsCard

/-- THE TIED CARD OF 'laws.FnExactAreIsomorphic'. -/
def fnExactAreIsomorphicCard : Claim7 := { stood := { row := fnExactAreIsomorphicRow, standIns := [], harness := (true, "4f0837e792111f46e98c086a5b3d74b5b66d459bc3b7a7248bb7b06b0e52c3d2"), looks := false }, kinds := [], alts := [], laidByText := true, laidKinds := [.data], laidTests := true, laidLooks := .later }
def FnExactAreIsomorphicCardSaid : Prop := Claim7.holds Tryd.pinned (.plain (OpenSpec.ofChange fnExactAreIsomorphicSpec)) fnExactAreIsomorphicCard

/-- THE SECOND FORM's CARD OF 'laws.FnGirths'. -/
def fnGirthsUptoCard : Claim7 := { stood := { row := fnGirthsUptoRow, standIns := [], harness := (true, "4f0837e792111f46e98c086a5b3d74b5b66d459bc3b7a7248bb7b06b0e52c3d2"), looks := false }, kinds := [], alts := [], laidByText := true, laidKinds := [.data], laidTests := true, laidLooks := .later }
def FnGirthsUptoCardSaid : Prop := Claim7.holds Tryd.pinned (.plain (OpenSpec.upto fnGirthsSpec)) fnGirthsUptoCard

/-- THE SECOND FORM's CARD OF 'laws.FnGreedy'. -/
def fnGreedyUptoCard : Claim7 := { stood := { row := fnGreedyUptoRow, standIns := [], harness := (true, "4f0837e792111f46e98c086a5b3d74b5b66d459bc3b7a7248bb7b06b0e52c3d2"), looks := false }, kinds := [], alts := [], laidByText := true, laidKinds := [.data], laidTests := true, laidLooks := .later }
def FnGreedyUptoCardSaid : Prop := Claim7.holds Tryd.pinned (.plain (OpenSpec.upto fnGreedySpec)) fnGreedyUptoCard

/-- THE SECOND FORM's CARD OF 'laws.FnLifts'. -/
def fnLiftsUptoCard : Claim7 := { stood := { row := fnLiftsUptoRow, standIns := [], harness := (true, "4f0837e792111f46e98c086a5b3d74b5b66d459bc3b7a7248bb7b06b0e52c3d2"), looks := false }, kinds := [], alts := [], laidByText := true, laidKinds := [.data], laidTests := true, laidLooks := .later }
def FnLiftsUptoCardSaid : Prop := Claim7.holds Tryd.pinned (.plain (OpenSpec.upto fnLiftsSpec)) fnLiftsUptoCard

/-- THE SECOND FORM's CARD OF 'laws.FnExactAreIsomorphic'. -/
def fnExactAreIsomorphicUptoCard : Claim7 := { stood := { row := fnExactAreIsomorphicUptoRow, standIns := [], harness := (true, "4f0837e792111f46e98c086a5b3d74b5b66d459bc3b7a7248bb7b06b0e52c3d2"), looks := false }, kinds := [], alts := [], laidByText := true, laidKinds := [.data], laidTests := true, laidLooks := .later }
def FnExactAreIsomorphicUptoCardSaid : Prop := Claim7.holds Tryd.pinned (.plain (OpenSpec.upto fnExactAreIsomorphicSpec)) fnExactAreIsomorphicUptoCard
end Rows
end Go.Proofs.YtghondlbkjponaaDoor
