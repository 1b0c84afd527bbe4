/-
  DERIVED. GIVEN WITH THE SEED: THE CARDS: each row of YtpolblnbenncmaaGreatDoorRows.lean that lists a variable, with what it lists TIED to the program's text (the seventh form; the later family's looks); each row that meets fmt, with fmt's text TOLD by the authors' own Lean function (tested against real Go, not proved from fmt's source: count such statements apart). THE CARD IS WHAT COUNTS. Prove the row's statement (the work); the ties are given (YtpolblnbenncmaaGreatDoorTie.lean); close each card by the builder's one call (the guide's Derived/Test/ToyasCard.lean, 'card_holds'). Laid BY PROGRAM, IN A SANDBOX (cutbox-door.mjs). By AI agents, Wed Nov 11 2026. No macro, syntax, notation, axiom, sorry.
-/
import Derived.Test.YtpolblnbenncmaaGreatDoorRows
import GoSem.ClaimSeven
namespace Go.Proofs.YtpolblnbenncmaaGreatDoor
namespace Rows

/-- THE TIED CARD OF 'rookerylaw20.BoundRounds'. -/
def boundRoundsCard : Claim7 := { stood := { row := boundRoundsRow, standIns := [], harness := (true, "e51f5c7a80ab1dadc330412de022168c5597e23304ebfe424200163722891c1a"), looks := true }, kinds := [], alts := [], laidByText := true, laidKinds := [.data, .data, .data, .data, .sentinel, .sentinel, .pinned], laidTests := true, laidLooks := .later }
def BoundRoundsCardSaid : Prop := Claim7.holds Tryz.pinned (.plain (OpenSpec.ofChange boundRoundsSpec)) boundRoundsCard

/-- THE SECOND FORM's CARD OF 'rookerylaw20.BoundRounds'. -/
def boundRoundsUptoCard : Claim7 := { stood := { row := boundRoundsUptoRow, standIns := [], harness := (true, "e51f5c7a80ab1dadc330412de022168c5597e23304ebfe424200163722891c1a"), looks := true }, kinds := [], alts := [], laidByText := true, laidKinds := [.data, .data, .data, .data, .sentinel, .sentinel, .pinned], laidTests := true, laidLooks := .later }
def BoundRoundsUptoCardSaid : Prop := Claim7.holds Tryz.pinned (.plain (OpenSpec.upto boundRoundsSpec)) boundRoundsUptoCard
end Rows
end Go.Proofs.YtpolblnbenncmaaGreatDoor
