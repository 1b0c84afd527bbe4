/-
  DERIVED. GIVEN WITH THE SEED: THE CARDS: each row of YtdkomnkcemmdoaaGreatDoorRows.lean that lists a variable, with what it lists TIED to the program's text (the seventh form; the later family's looks); each row that meets fmt, with fmt's text TOLD by the authors' own Lean function (tested against real Go, not proved from fmt's source: count such statements apart). THE CARD IS WHAT COUNTS. Prove the row's statement (the work); the ties are given (YtdkomnkcemmdoaaGreatDoorTie.lean); close each card by the builder's one call (the guide's Derived/Test/ToyasCard.lean, 'card_holds'). Laid BY PROGRAM, IN A SANDBOX (cutbox-door.mjs). By AI agents, Wed Nov 11 2026. No macro, syntax, notation, axiom, sorry.
-/
import Derived.Test.YtdkomnkcemmdoaaGreatDoorRows
import GoSem.ClaimSeven
namespace Go.Proofs.YtdkomnkcemmdoaaGreatDoor
namespace Rows

/-- THE TIED CARD OF 'rookerylaw16.NodeConfigs'. -/
def nodeConfigsCard : Claim7 := { stood := { row := nodeConfigsRow, standIns := [], harness := (true, "631e7679be916440b9e1f33a6ace9d89529260a23f3c135d3144c958cb079153"), looks := true }, kinds := [], alts := [], laidByText := true, laidKinds := [.data, .data, .data, .data, .sentinel, .sentinel, .pinned], laidTests := true, laidLooks := .later }
def NodeConfigsCardSaid : Prop := Claim7.holds Tryz.pinned (.plain (OpenSpec.ofChange nodeConfigsSpec)) nodeConfigsCard

/-- THE TIED CARD OF 'rookerylaw16.NodeNobody'. -/
def nodeNobodyCard : Claim7 := { stood := { row := nodeNobodyRow, standIns := [], harness := (true, "631e7679be916440b9e1f33a6ace9d89529260a23f3c135d3144c958cb079153"), looks := true }, kinds := [], alts := [], laidByText := true, laidKinds := [.data, .data, .data, .data, .sentinel, .sentinel, .pinned], laidTests := true, laidLooks := .later }
def NodeNobodyCardSaid : Prop := Claim7.holds Tryz.pinned (.plain (OpenSpec.ofChange nodeNobodySpec)) nodeNobodyCard

/-- THE SECOND FORM's CARD OF 'rookerylaw16.NodeConfigs'. -/
def nodeConfigsUptoCard : Claim7 := { stood := { row := nodeConfigsUptoRow, standIns := [], harness := (true, "631e7679be916440b9e1f33a6ace9d89529260a23f3c135d3144c958cb079153"), looks := true }, kinds := [], alts := [], laidByText := true, laidKinds := [.data, .data, .data, .data, .sentinel, .sentinel, .pinned], laidTests := true, laidLooks := .later }
def NodeConfigsUptoCardSaid : Prop := Claim7.holds Tryz.pinned (.plain (OpenSpec.upto nodeConfigsSpec)) nodeConfigsUptoCard

/-- THE SECOND FORM's CARD OF 'rookerylaw16.NodeNobody'. -/
def nodeNobodyUptoCard : Claim7 := { stood := { row := nodeNobodyUptoRow, standIns := [], harness := (true, "631e7679be916440b9e1f33a6ace9d89529260a23f3c135d3144c958cb079153"), looks := true }, kinds := [], alts := [], laidByText := true, laidKinds := [.data, .data, .data, .data, .sentinel, .sentinel, .pinned], laidTests := true, laidLooks := .later }
def NodeNobodyUptoCardSaid : Prop := Claim7.holds Tryz.pinned (.plain (OpenSpec.upto nodeNobodySpec)) nodeNobodyUptoCard
end Rows
end Go.Proofs.YtdkomnkcemmdoaaGreatDoor
