/-
  DERIVED. GIVEN WITH THE SEED: THE CARDS: each row of YtnedmhlecdibfaaDoorRows.lean that lists a variable, with what it lists TIED to the program's text (the seventh form; the later family's looks); each row that meets fmt, with fmt's text TOLD by the authors' own Lean function (tested against real Go, not proved from fmt's source: count such statements apart). THE CARD IS WHAT COUNTS. Prove the row's statement (the work); the ties are given (YtnedmhlecdibfaaDoorTie.lean); close each card by the builder's one call (the guide's Derived/Test/ToyasCard.lean, 'card_holds'). Laid BY PROGRAM, IN A SANDBOX (cutbox-door.mjs). By AI agents, Wed Nov 11 2026. No macro, syntax, notation, axiom, sorry.
-/
import Derived.Test.YtnedmhlecdibfaaDoorRows
import GoSem.ClaimSeven
namespace Go.Proofs.YtnedmhlecdibfaaDoor
namespace Rows

/-- THE TIED CARD OF 'rookerylaw05.WalGroups'. -/
def walGroupsCard : Claim7 := { stood := { row := walGroupsRow, standIns := [], harness := (true, "f56d4884685b76cfdbdcb8874ae4bfcdefda8249d6636ee13f09bcbe3a570699"), looks := true }, kinds := [], alts := [], laidByText := true, laidKinds := [.data, .data, .data, .sentinel, .sentinel], laidTests := true, laidLooks := .later }
def WalGroupsCardSaid : Prop := Claim7.holds Tryd.pinned (.plain (OpenSpec.ofChange walGroupsSpec)) walGroupsCard

/-- THE TIED CARD OF 'rookerylaw05.WalFull'. -/
def walFullCard : Claim7 := { stood := { row := walFullRow, standIns := [], harness := (true, "f56d4884685b76cfdbdcb8874ae4bfcdefda8249d6636ee13f09bcbe3a570699"), looks := true }, kinds := [], alts := [], laidByText := true, laidKinds := [.data, .data, .data, .sentinel, .sentinel], laidTests := true, laidLooks := .later }
def WalFullCardSaid : Prop := Claim7.holds Tryd.pinned (.plain (OpenSpec.ofChange walFullSpec)) walFullCard

/-- THE TIED CARD OF 'rookerylaw05.WalNobody'. -/
def walNobodyCard : Claim7 := { stood := { row := walNobodyRow, standIns := [], harness := (true, "f56d4884685b76cfdbdcb8874ae4bfcdefda8249d6636ee13f09bcbe3a570699"), looks := true }, kinds := [], alts := [], laidByText := true, laidKinds := [.data, .data, .data, .sentinel, .sentinel], laidTests := true, laidLooks := .later }
def WalNobodyCardSaid : Prop := Claim7.holds Tryd.pinned (.plain (OpenSpec.ofChange walNobodySpec)) walNobodyCard

/-- THE SECOND FORM's CARD OF 'rookerylaw05.WalGroups'. -/
def walGroupsUptoCard : Claim7 := { stood := { row := walGroupsUptoRow, standIns := [], harness := (true, "f56d4884685b76cfdbdcb8874ae4bfcdefda8249d6636ee13f09bcbe3a570699"), looks := true }, kinds := [], alts := [], laidByText := true, laidKinds := [.data, .data, .data, .sentinel, .sentinel], laidTests := true, laidLooks := .later }
def WalGroupsUptoCardSaid : Prop := Claim7.holds Tryd.pinned (.plain (OpenSpec.upto walGroupsSpec)) walGroupsUptoCard

/-- THE SECOND FORM's CARD OF 'rookerylaw05.WalFull'. -/
def walFullUptoCard : Claim7 := { stood := { row := walFullUptoRow, standIns := [], harness := (true, "f56d4884685b76cfdbdcb8874ae4bfcdefda8249d6636ee13f09bcbe3a570699"), looks := true }, kinds := [], alts := [], laidByText := true, laidKinds := [.data, .data, .data, .sentinel, .sentinel], laidTests := true, laidLooks := .later }
def WalFullUptoCardSaid : Prop := Claim7.holds Tryd.pinned (.plain (OpenSpec.upto walFullSpec)) walFullUptoCard

/-- THE SECOND FORM's CARD OF 'rookerylaw05.WalNobody'. -/
def walNobodyUptoCard : Claim7 := { stood := { row := walNobodyUptoRow, standIns := [], harness := (true, "f56d4884685b76cfdbdcb8874ae4bfcdefda8249d6636ee13f09bcbe3a570699"), looks := true }, kinds := [], alts := [], laidByText := true, laidKinds := [.data, .data, .data, .sentinel, .sentinel], laidTests := true, laidLooks := .later }
def WalNobodyUptoCardSaid : Prop := Claim7.holds Tryd.pinned (.plain (OpenSpec.upto walNobodySpec)) walNobodyUptoCard
end Rows
end Go.Proofs.YtnedmhlecdibfaaDoor
