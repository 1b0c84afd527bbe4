/-
  DERIVED. GIVEN WITH THE SEED: THE CARDS: each row of YtclcobiaiedpbaaDoorRows.lean that lists a variable, with what it lists TIED to the program's text (the seventh form; the later family's looks); each row that meets fmt, with fmt's text TOLD by the authors' own Lean function (tested against real Go, not proved from fmt's source: count such statements apart). THE CARD IS WHAT COUNTS. Prove the row's statement (the work); the ties are given (YtclcobiaiedpbaaDoorTie.lean); close each card by the builder's one call (the guide's Derived/Test/ToyasCard.lean, 'card_holds'). Laid BY PROGRAM, IN A SANDBOX (cutbox-door.mjs). By AI agents, Wed Nov 11 2026. No macro, syntax, notation, axiom, sorry.
-/
import Derived.Test.YtclcobiaiedpbaaDoorRows
import GoSem.ClaimSeven
namespace Go.Proofs.YtclcobiaiedpbaaDoor
namespace Rows

/-- THE TIED CARD OF 'rookerylaw14.MetaAnswers'. -/
def metaAnswersCard : Claim7 := { stood := { row := metaAnswersRow, standIns := [], harness := (true, "1f3e0443940bd6b97c8fea608289bb16b99e6894f329bc08cd007c17c630dfea"), looks := false }, kinds := [], alts := [], laidByText := true, laidKinds := [.data, .pinned], laidTests := true, laidLooks := .later }
def MetaAnswersCardSaid : Prop := Claim7.holds Tryd.pinned (.plain (OpenSpec.ofChange metaAnswersSpec)) metaAnswersCard

/-- THE TIED CARD OF 'rookerylaw14.MetaErrors'. -/
def metaErrorsCard : Claim7 := { stood := { row := metaErrorsRow, standIns := [], harness := (true, "1f3e0443940bd6b97c8fea608289bb16b99e6894f329bc08cd007c17c630dfea"), looks := false }, kinds := [], alts := [], laidByText := true, laidKinds := [.data, .pinned], laidTests := true, laidLooks := .later }
def MetaErrorsCardSaid : Prop := Claim7.holds Tryd.pinned (.plain (OpenSpec.ofChange metaErrorsSpec)) metaErrorsCard

/-- THE TIED CARD OF 'rookerylaw14.MetaFull'. -/
def metaFullCard : Claim7 := { stood := { row := metaFullRow, standIns := [], harness := (true, "1f3e0443940bd6b97c8fea608289bb16b99e6894f329bc08cd007c17c630dfea"), looks := false }, kinds := [], alts := [], laidByText := true, laidKinds := [.data, .pinned], laidTests := true, laidLooks := .later }
def MetaFullCardSaid : Prop := Claim7.holds Tryd.pinned (.plain (OpenSpec.ofChange metaFullSpec)) metaFullCard

/-- THE TIED CARD OF 'rookerylaw14.MetaMoves'. -/
def metaMovesCard : Claim7 := { stood := { row := metaMovesRow, standIns := [], harness := (true, "1f3e0443940bd6b97c8fea608289bb16b99e6894f329bc08cd007c17c630dfea"), looks := false }, kinds := [], alts := [], laidByText := true, laidKinds := [.data, .pinned], laidTests := true, laidLooks := .later }
def MetaMovesCardSaid : Prop := Claim7.holds Tryd.pinned (.plain (OpenSpec.ofChange metaMovesSpec)) metaMovesCard

/-- THE SECOND FORM's CARD OF 'rookerylaw14.MetaAnswers'. -/
def metaAnswersUptoCard : Claim7 := { stood := { row := metaAnswersUptoRow, standIns := [], harness := (true, "1f3e0443940bd6b97c8fea608289bb16b99e6894f329bc08cd007c17c630dfea"), looks := false }, kinds := [], alts := [], laidByText := true, laidKinds := [.data, .pinned], laidTests := true, laidLooks := .later }
def MetaAnswersUptoCardSaid : Prop := Claim7.holds Tryd.pinned (.plain (OpenSpec.upto metaAnswersSpec)) metaAnswersUptoCard

/-- THE SECOND FORM's CARD OF 'rookerylaw14.MetaErrors'. -/
def metaErrorsUptoCard : Claim7 := { stood := { row := metaErrorsUptoRow, standIns := [], harness := (true, "1f3e0443940bd6b97c8fea608289bb16b99e6894f329bc08cd007c17c630dfea"), looks := false }, kinds := [], alts := [], laidByText := true, laidKinds := [.data, .pinned], laidTests := true, laidLooks := .later }
def MetaErrorsUptoCardSaid : Prop := Claim7.holds Tryd.pinned (.plain (OpenSpec.upto metaErrorsSpec)) metaErrorsUptoCard

/-- THE SECOND FORM's CARD OF 'rookerylaw14.MetaFull'. -/
def metaFullUptoCard : Claim7 := { stood := { row := metaFullUptoRow, standIns := [], harness := (true, "1f3e0443940bd6b97c8fea608289bb16b99e6894f329bc08cd007c17c630dfea"), looks := false }, kinds := [], alts := [], laidByText := true, laidKinds := [.data, .pinned], laidTests := true, laidLooks := .later }
def MetaFullUptoCardSaid : Prop := Claim7.holds Tryd.pinned (.plain (OpenSpec.upto metaFullSpec)) metaFullUptoCard

/-- THE SECOND FORM's CARD OF 'rookerylaw14.MetaMoves'. -/
def metaMovesUptoCard : Claim7 := { stood := { row := metaMovesUptoRow, standIns := [], harness := (true, "1f3e0443940bd6b97c8fea608289bb16b99e6894f329bc08cd007c17c630dfea"), looks := false }, kinds := [], alts := [], laidByText := true, laidKinds := [.data, .pinned], laidTests := true, laidLooks := .later }
def MetaMovesUptoCardSaid : Prop := Claim7.holds Tryd.pinned (.plain (OpenSpec.upto metaMovesSpec)) metaMovesUptoCard
end Rows
end Go.Proofs.YtclcobiaiedpbaaDoor
