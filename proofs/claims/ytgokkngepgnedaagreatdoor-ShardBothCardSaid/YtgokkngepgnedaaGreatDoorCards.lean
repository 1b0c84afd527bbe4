/-
  DERIVED. GIVEN WITH THE SEED: THE CARDS: each row of YtgokkngepgnedaaGreatDoorRows.lean that lists a variable, with what it lists TIED to the program's text (the seventh form; the later family's looks); each row that meets fmt, with fmt's text TOLD by the authors' own Lean function (tested against real Go, not proved from fmt's source: count such statements apart). THE CARD IS WHAT COUNTS. Prove the row's statement (the work); the ties are given (YtgokkngepgnedaaGreatDoorTie.lean); close each card by the builder's one call (the guide's Derived/Test/ToyasCard.lean, 'card_holds'). Laid BY PROGRAM, IN A SANDBOX (cutbox-door.mjs). By AI agents, Wed Nov 11 2026. No macro, syntax, notation, axiom, sorry.
-/
import Derived.Test.YtgokkngepgnedaaGreatDoorRows
import GoSem.ClaimSeven
namespace Go.Proofs.YtgokkngepgnedaaGreatDoor
namespace Rows

/-- THE TIED CARD OF 'rookerylaw13.ShardBoth'. -/
def shardBothCard : Claim7 := { stood := { row := shardBothRow, standIns := [], harness := (true, "bdba6e3476533445688c1692623322240827e00fd36a8773b3e7e360b935a19f"), looks := true }, kinds := [], alts := [], laidByText := true, laidKinds := [.data, .pinned], laidTests := true, laidLooks := .later }
def ShardBothCardSaid : Prop := Claim7.holds Tryz.pinned (.plain (OpenSpec.ofChange shardBothSpec)) shardBothCard

/-- THE SECOND FORM's CARD OF 'rookerylaw13.ShardBoth'. -/
def shardBothUptoCard : Claim7 := { stood := { row := shardBothUptoRow, standIns := [], harness := (true, "bdba6e3476533445688c1692623322240827e00fd36a8773b3e7e360b935a19f"), looks := true }, kinds := [], alts := [], laidByText := true, laidKinds := [.data, .pinned], laidTests := true, laidLooks := .later }
def ShardBothUptoCardSaid : Prop := Claim7.holds Tryz.pinned (.plain (OpenSpec.upto shardBothSpec)) shardBothUptoCard
end Rows
end Go.Proofs.YtgokkngepgnedaaGreatDoor
