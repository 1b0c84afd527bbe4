/-
  DERIVED. GIVEN WITH THE SEED: THE CARDS: each row of YtbkgnlcjnimpcaaDoorRows.lean that lists a variable, with what it lists TIED to the program's text (the seventh form; the later family's looks); each row that meets fmt, with fmt's text TOLD by the authors' own Lean function (tested against real Go, not proved from fmt's source: count such statements apart). THE CARD IS WHAT COUNTS. Prove the row's statement (the work); the ties are given (YtbkgnlcjnimpcaaDoorTie.lean); close each card by the builder's one call (the guide's Derived/Test/ToyasCard.lean, 'card_holds'). Laid BY PROGRAM, IN A SANDBOX (cutbox-door.mjs). By AI agents, Wed Nov 11 2026. No macro, syntax, notation, axiom, sorry.
-/
import Derived.Test.YtbkgnlcjnimpcaaDoorRows
import GoSem.ClaimSeven
namespace Go.Proofs.YtbkgnlcjnimpcaaDoor
namespace Rows

/-- THE TIED CARD OF 'rookerylaw19.FanWhole'. -/
def fanWholeCard : Claim7 := { stood := { row := fanWholeRow, standIns := [], harness := (true, "e0b46fb7f3a46babf081e885a35a9c37c14bbe530d6fd889564258f20e9eb584"), looks := true }, kinds := [], alts := [], laidByText := true, laidKinds := [.data, .data, .data, .data, .pinned], laidTests := true, laidLooks := .later }
def FanWholeCardSaid : Prop := Claim7.holds Tryd.pinned (.plain (OpenSpec.ofChange fanWholeSpec)) fanWholeCard

/-- THE TIED CARD OF 'rookerylaw19.FanGone'. -/
def fanGoneCard : Claim7 := { stood := { row := fanGoneRow, standIns := [], harness := (true, "e0b46fb7f3a46babf081e885a35a9c37c14bbe530d6fd889564258f20e9eb584"), looks := true }, kinds := [], alts := [], laidByText := true, laidKinds := [.data, .data, .data, .data, .pinned], laidTests := true, laidLooks := .later }
def FanGoneCardSaid : Prop := Claim7.holds Tryd.pinned (.plain (OpenSpec.ofChange fanGoneSpec)) fanGoneCard

/-- THE TIED CARD OF 'rookerylaw19.FanPages'. -/
def fanPagesCard : Claim7 := { stood := { row := fanPagesRow, standIns := [], harness := (true, "e0b46fb7f3a46babf081e885a35a9c37c14bbe530d6fd889564258f20e9eb584"), looks := true }, kinds := [], alts := [], laidByText := true, laidKinds := [.data, .data, .data, .data, .pinned], laidTests := true, laidLooks := .later }
def FanPagesCardSaid : Prop := Claim7.holds Tryd.pinned (.plain (OpenSpec.ofChange fanPagesSpec)) fanPagesCard

/-- THE TIED CARD OF 'rookerylaw19.FanNobody'. -/
def fanNobodyCard : Claim7 := { stood := { row := fanNobodyRow, standIns := [], harness := (true, "e0b46fb7f3a46babf081e885a35a9c37c14bbe530d6fd889564258f20e9eb584"), looks := true }, kinds := [], alts := [], laidByText := true, laidKinds := [.data, .data, .data, .data, .pinned], laidTests := true, laidLooks := .later }
def FanNobodyCardSaid : Prop := Claim7.holds Tryd.pinned (.plain (OpenSpec.ofChange fanNobodySpec)) fanNobodyCard

/-- THE TIED CARD OF 'rookerylaw19.FanCursor'. -/
def fanCursorCard : Claim7 := { stood := { row := fanCursorRow, standIns := [], harness := (true, "e0b46fb7f3a46babf081e885a35a9c37c14bbe530d6fd889564258f20e9eb584"), looks := true }, kinds := [], alts := [], laidByText := true, laidKinds := [.data, .data, .data, .data, .sentinel, .sentinel, .pinned], laidTests := true, laidLooks := .later }
def FanCursorCardSaid : Prop := Claim7.holds Tryd.pinned (.plain (OpenSpec.ofChange fanCursorSpec)) fanCursorCard

/-- THE TIED CARD OF 'rookerylaw19.FanPlays'. -/
def fanPlaysCard : Claim7 := { stood := { row := fanPlaysRow, standIns := [], harness := (true, "e0b46fb7f3a46babf081e885a35a9c37c14bbe530d6fd889564258f20e9eb584"), looks := true }, kinds := [], alts := [], laidByText := true, laidKinds := [.data, .data, .data, .data, .sentinel, .sentinel, .pinned], laidTests := true, laidLooks := .later }
def FanPlaysCardSaid : Prop := Claim7.holds Tryd.pinned (.plain (OpenSpec.ofChange fanPlaysSpec)) fanPlaysCard

/-- THE TIED CARD OF 'rookerylaw19.FanReads'. -/
def fanReadsCard : Claim7 := { stood := { row := fanReadsRow, standIns := [], harness := (true, "e0b46fb7f3a46babf081e885a35a9c37c14bbe530d6fd889564258f20e9eb584"), looks := true }, kinds := [], alts := [], laidByText := true, laidKinds := [.data, .data, .data, .data, .sentinel, .sentinel, .pinned], laidTests := true, laidLooks := .later }
def FanReadsCardSaid : Prop := Claim7.holds Tryd.pinned (.plain (OpenSpec.ofChange fanReadsSpec)) fanReadsCard

/-- THE SECOND FORM's CARD OF 'rookerylaw19.FanWhole'. -/
def fanWholeUptoCard : Claim7 := { stood := { row := fanWholeUptoRow, standIns := [], harness := (true, "e0b46fb7f3a46babf081e885a35a9c37c14bbe530d6fd889564258f20e9eb584"), looks := true }, kinds := [], alts := [], laidByText := true, laidKinds := [.data, .data, .data, .data, .pinned], laidTests := true, laidLooks := .later }
def FanWholeUptoCardSaid : Prop := Claim7.holds Tryd.pinned (.plain (OpenSpec.upto fanWholeSpec)) fanWholeUptoCard

/-- THE SECOND FORM's CARD OF 'rookerylaw19.FanGone'. -/
def fanGoneUptoCard : Claim7 := { stood := { row := fanGoneUptoRow, standIns := [], harness := (true, "e0b46fb7f3a46babf081e885a35a9c37c14bbe530d6fd889564258f20e9eb584"), looks := true }, kinds := [], alts := [], laidByText := true, laidKinds := [.data, .data, .data, .data, .pinned], laidTests := true, laidLooks := .later }
def FanGoneUptoCardSaid : Prop := Claim7.holds Tryd.pinned (.plain (OpenSpec.upto fanGoneSpec)) fanGoneUptoCard

/-- THE SECOND FORM's CARD OF 'rookerylaw19.FanPages'. -/
def fanPagesUptoCard : Claim7 := { stood := { row := fanPagesUptoRow, standIns := [], harness := (true, "e0b46fb7f3a46babf081e885a35a9c37c14bbe530d6fd889564258f20e9eb584"), looks := true }, kinds := [], alts := [], laidByText := true, laidKinds := [.data, .data, .data, .data, .pinned], laidTests := true, laidLooks := .later }
def FanPagesUptoCardSaid : Prop := Claim7.holds Tryd.pinned (.plain (OpenSpec.upto fanPagesSpec)) fanPagesUptoCard

/-- THE SECOND FORM's CARD OF 'rookerylaw19.FanNobody'. -/
def fanNobodyUptoCard : Claim7 := { stood := { row := fanNobodyUptoRow, standIns := [], harness := (true, "e0b46fb7f3a46babf081e885a35a9c37c14bbe530d6fd889564258f20e9eb584"), looks := true }, kinds := [], alts := [], laidByText := true, laidKinds := [.data, .data, .data, .data, .pinned], laidTests := true, laidLooks := .later }
def FanNobodyUptoCardSaid : Prop := Claim7.holds Tryd.pinned (.plain (OpenSpec.upto fanNobodySpec)) fanNobodyUptoCard

/-- THE SECOND FORM's CARD OF 'rookerylaw19.FanCursor'. -/
def fanCursorUptoCard : Claim7 := { stood := { row := fanCursorUptoRow, standIns := [], harness := (true, "e0b46fb7f3a46babf081e885a35a9c37c14bbe530d6fd889564258f20e9eb584"), looks := true }, kinds := [], alts := [], laidByText := true, laidKinds := [.data, .data, .data, .data, .sentinel, .sentinel, .pinned], laidTests := true, laidLooks := .later }
def FanCursorUptoCardSaid : Prop := Claim7.holds Tryd.pinned (.plain (OpenSpec.upto fanCursorSpec)) fanCursorUptoCard

/-- THE SECOND FORM's CARD OF 'rookerylaw19.FanPlays'. -/
def fanPlaysUptoCard : Claim7 := { stood := { row := fanPlaysUptoRow, standIns := [], harness := (true, "e0b46fb7f3a46babf081e885a35a9c37c14bbe530d6fd889564258f20e9eb584"), looks := true }, kinds := [], alts := [], laidByText := true, laidKinds := [.data, .data, .data, .data, .sentinel, .sentinel, .pinned], laidTests := true, laidLooks := .later }
def FanPlaysUptoCardSaid : Prop := Claim7.holds Tryd.pinned (.plain (OpenSpec.upto fanPlaysSpec)) fanPlaysUptoCard

/-- THE SECOND FORM's CARD OF 'rookerylaw19.FanReads'. -/
def fanReadsUptoCard : Claim7 := { stood := { row := fanReadsUptoRow, standIns := [], harness := (true, "e0b46fb7f3a46babf081e885a35a9c37c14bbe530d6fd889564258f20e9eb584"), looks := true }, kinds := [], alts := [], laidByText := true, laidKinds := [.data, .data, .data, .data, .sentinel, .sentinel, .pinned], laidTests := true, laidLooks := .later }
def FanReadsUptoCardSaid : Prop := Claim7.holds Tryd.pinned (.plain (OpenSpec.upto fanReadsSpec)) fanReadsUptoCard
end Rows
end Go.Proofs.YtbkgnlcjnimpcaaDoor
