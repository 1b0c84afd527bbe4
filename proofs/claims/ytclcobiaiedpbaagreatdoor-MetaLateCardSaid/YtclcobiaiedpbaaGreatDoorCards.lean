/-
  DERIVED. GIVEN WITH THE SEED: THE CARDS: each row of YtclcobiaiedpbaaGreatDoorRows.lean that lists a variable, with what it lists TIED to the program's text (the seventh form; the later family's looks); each row that meets fmt, with fmt's text TOLD by the authors' own Lean function (tested against real Go, not proved from fmt's source: count such statements apart). THE CARD IS WHAT COUNTS. Prove the row's statement (the work); the ties are given (YtclcobiaiedpbaaGreatDoorTie.lean); close each card by the builder's one call (the guide's Derived/Test/ToyasCard.lean, 'card_holds'). Laid BY PROGRAM, IN A SANDBOX (cutbox-door.mjs). By AI agents, Wed Nov 11 2026. No macro, syntax, notation, axiom, sorry.
-/
import Derived.Test.YtclcobiaiedpbaaGreatDoorRows
import GoSem.ClaimSeven
namespace Go.Proofs.YtclcobiaiedpbaaGreatDoor
namespace Rows

/-- THE TIED CARD OF 'rookerylaw14.MetaLate'. -/
def metaLateCard : Claim7 := { stood := { row := metaLateRow, standIns := [], harness := (true, "ac4b1cfe310cc0e82419152b6a7e7a35f2facda86b0ae1a6daed8db9540ee1b4"), looks := true }, kinds := [], alts := [], laidByText := true, laidKinds := [.data, .pinned], laidTests := true, laidLooks := .later }
def MetaLateCardSaid : Prop := Claim7.holds Tryz.pinned (.plain (OpenSpec.ofChange metaLateSpec)) metaLateCard

/-- THE TIED CARD OF 'rookerylaw14.MetaNobody'. -/
def metaNobodyCard : Claim7 := { stood := { row := metaNobodyRow, standIns := [], harness := (true, "ac4b1cfe310cc0e82419152b6a7e7a35f2facda86b0ae1a6daed8db9540ee1b4"), looks := true }, kinds := [], alts := [], laidByText := true, laidKinds := [.data, .pinned], laidTests := true, laidLooks := .later }
def MetaNobodyCardSaid : Prop := Claim7.holds Tryz.pinned (.plain (OpenSpec.ofChange metaNobodySpec)) metaNobodyCard

/-- THE SECOND FORM's CARD OF 'rookerylaw14.MetaLate'. -/
def metaLateUptoCard : Claim7 := { stood := { row := metaLateUptoRow, standIns := [], harness := (true, "ac4b1cfe310cc0e82419152b6a7e7a35f2facda86b0ae1a6daed8db9540ee1b4"), looks := true }, kinds := [], alts := [], laidByText := true, laidKinds := [.data, .pinned], laidTests := true, laidLooks := .later }
def MetaLateUptoCardSaid : Prop := Claim7.holds Tryz.pinned (.plain (OpenSpec.upto metaLateSpec)) metaLateUptoCard

/-- THE SECOND FORM's CARD OF 'rookerylaw14.MetaNobody'. -/
def metaNobodyUptoCard : Claim7 := { stood := { row := metaNobodyUptoRow, standIns := [], harness := (true, "ac4b1cfe310cc0e82419152b6a7e7a35f2facda86b0ae1a6daed8db9540ee1b4"), looks := true }, kinds := [], alts := [], laidByText := true, laidKinds := [.data, .pinned], laidTests := true, laidLooks := .later }
def MetaNobodyUptoCardSaid : Prop := Claim7.holds Tryz.pinned (.plain (OpenSpec.upto metaNobodySpec)) metaNobodyUptoCard
end Rows
end Go.Proofs.YtclcobiaiedpbaaGreatDoor
