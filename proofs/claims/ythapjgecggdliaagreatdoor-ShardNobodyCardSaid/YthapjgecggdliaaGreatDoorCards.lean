/-
  DERIVED. GIVEN WITH THE SEED: THE CARDS: each row of YthapjgecggdliaaGreatDoorRows.lean that lists a variable, with what it lists TIED to the program's text (the seventh form; the later family's looks); each row that meets fmt, with fmt's text TOLD by the authors' own Lean function (tested against real Go, not proved from fmt's source: count such statements apart). THE CARD IS WHAT COUNTS. Prove the row's statement (the work); the ties are given (YthapjgecggdliaaGreatDoorTie.lean); close each card by the builder's one call (the guide's Derived/Test/ToyasCard.lean, 'card_holds'). Laid BY PROGRAM, IN A SANDBOX (cutbox-door.mjs). By AI agents, Wed Nov 11 2026. No macro, syntax, notation, axiom, sorry.
-/
import Derived.Test.YthapjgecggdliaaGreatDoorRows
import GoSem.ClaimSeven
namespace Go.Proofs.YthapjgecggdliaaGreatDoor
namespace Rows

/-- THE TIED CARD OF 'rookerylaw13.ShardMoves'. -/
def shardMovesCard : Claim7 := { stood := { row := shardMovesRow, standIns := [], harness := (true, "08c89d233fc6ab7d576dad362723f8787bc282ce88701f30b0a18b4b3dfa6910"), looks := true }, kinds := [], alts := [], laidByText := true, laidKinds := [.data, .pinned], laidTests := true, laidLooks := .later }
def ShardMovesCardSaid : Prop := Claim7.holds Tryz.pinned (.plain (OpenSpec.ofChange shardMovesSpec)) shardMovesCard

/-- THE TIED CARD OF 'rookerylaw13.ShardBoth'. -/
def shardBothCard : Claim7 := { stood := { row := shardBothRow, standIns := [], harness := (true, "08c89d233fc6ab7d576dad362723f8787bc282ce88701f30b0a18b4b3dfa6910"), looks := true }, kinds := [], alts := [], laidByText := true, laidKinds := [.data, .pinned], laidTests := true, laidLooks := .later }
def ShardBothCardSaid : Prop := Claim7.holds Tryz.pinned (.plain (OpenSpec.ofChange shardBothSpec)) shardBothCard

/-- THE TIED CARD OF 'rookerylaw13.ShardNobody'. -/
def shardNobodyCard : Claim7 := { stood := { row := shardNobodyRow, standIns := [], harness := (true, "08c89d233fc6ab7d576dad362723f8787bc282ce88701f30b0a18b4b3dfa6910"), looks := true }, kinds := [], alts := [], laidByText := true, laidKinds := [.data, .pinned], laidTests := true, laidLooks := .later }
def ShardNobodyCardSaid : Prop := Claim7.holds Tryz.pinned (.plain (OpenSpec.ofChange shardNobodySpec)) shardNobodyCard

/-- THE SECOND FORM's CARD OF 'rookerylaw13.ShardMoves'. -/
def shardMovesUptoCard : Claim7 := { stood := { row := shardMovesUptoRow, standIns := [], harness := (true, "08c89d233fc6ab7d576dad362723f8787bc282ce88701f30b0a18b4b3dfa6910"), looks := true }, kinds := [], alts := [], laidByText := true, laidKinds := [.data, .pinned], laidTests := true, laidLooks := .later }
def ShardMovesUptoCardSaid : Prop := Claim7.holds Tryz.pinned (.plain (OpenSpec.upto shardMovesSpec)) shardMovesUptoCard

/-- THE SECOND FORM's CARD OF 'rookerylaw13.ShardBoth'. -/
def shardBothUptoCard : Claim7 := { stood := { row := shardBothUptoRow, standIns := [], harness := (true, "08c89d233fc6ab7d576dad362723f8787bc282ce88701f30b0a18b4b3dfa6910"), looks := true }, kinds := [], alts := [], laidByText := true, laidKinds := [.data, .pinned], laidTests := true, laidLooks := .later }
def ShardBothUptoCardSaid : Prop := Claim7.holds Tryz.pinned (.plain (OpenSpec.upto shardBothSpec)) shardBothUptoCard

/-- THE SECOND FORM's CARD OF 'rookerylaw13.ShardNobody'. -/
def shardNobodyUptoCard : Claim7 := { stood := { row := shardNobodyUptoRow, standIns := [], harness := (true, "08c89d233fc6ab7d576dad362723f8787bc282ce88701f30b0a18b4b3dfa6910"), looks := true }, kinds := [], alts := [], laidByText := true, laidKinds := [.data, .pinned], laidTests := true, laidLooks := .later }
def ShardNobodyUptoCardSaid : Prop := Claim7.holds Tryz.pinned (.plain (OpenSpec.upto shardNobodySpec)) shardNobodyUptoCard
end Rows
end Go.Proofs.YthapjgecggdliaaGreatDoor
