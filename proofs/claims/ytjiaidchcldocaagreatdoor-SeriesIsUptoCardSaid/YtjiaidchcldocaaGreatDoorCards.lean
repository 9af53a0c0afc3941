/-
  DERIVED. GIVEN WITH THE SEED: THE CARDS: each row of YtjiaidchcldocaaGreatDoorRows.lean that lists a variable, with what it lists TIED to the program's text (the seventh form; the later family's looks); each row that meets fmt, with fmt's text TOLD by the authors' own Lean function (tested against real Go, not proved from fmt's source: count such statements apart). THE CARD IS WHAT COUNTS. Prove the row's statement (the work); the ties are given (YtjiaidchcldocaaGreatDoorTie.lean); close each card by the builder's one call (the guide's Derived/Test/ToyasCard.lean, 'card_holds'). Laid BY PROGRAM, IN A SANDBOX (cutbox-door.mjs). By AI agents, Wed Nov 11 2026. No macro, syntax, notation, axiom, sorry.
-/
import Derived.Test.YtjiaidchcldocaaGreatDoorRows
import GoSem.ClaimSeven
namespace Go.Proofs.YtjiaidchcldocaaGreatDoor
namespace Rows

/-- THE TIED CARD OF 'handstitchlaw3.SeriesBack'. -/
def seriesBackCard : Claim7 := { stood := { row := seriesBackRow, standIns := [], harness := (true, "4d54f1f24cf5a02216ec616120b5136bc07fa699083dcfca7c917aff3f8da1de"), looks := true }, kinds := [], alts := [], laidByText := true, laidKinds := [.data, .data, .data, .data, .sentinel, .sentinel, .pinned], laidTests := true, laidLooks := .later }
def SeriesBackCardSaid : Prop := Claim7.holds Tryz.pinned (.plain (OpenSpec.ofChange seriesBackSpec)) seriesBackCard

/-- THE TIED CARD OF 'handstitchlaw3.SeriesMisses'. -/
def seriesMissesCard : Claim7 := { stood := { row := seriesMissesRow, standIns := [], harness := (true, "4d54f1f24cf5a02216ec616120b5136bc07fa699083dcfca7c917aff3f8da1de"), looks := true }, kinds := [], alts := [], laidByText := true, laidKinds := [.data, .data, .data, .data, .handle, .sentinel, .sentinel, .pinned], laidTests := true, laidLooks := .later }
def SeriesMissesCardSaid : Prop := Claim7.holds Tryz.pinned (.plain (OpenSpec.ofChange seriesMissesSpec)) seriesMissesCard

/-- THE TIED CARD OF 'handstitchlaw3.SeriesIs'. -/
def seriesIsCard : Claim7 := { stood := { row := seriesIsRow, standIns := [], harness := (true, "4d54f1f24cf5a02216ec616120b5136bc07fa699083dcfca7c917aff3f8da1de"), looks := true }, kinds := [], alts := [], laidByText := true, laidKinds := [.data, .data, .data, .data, .handle, .sentinel, .sentinel, .pinned], laidTests := true, laidLooks := .later }
def SeriesIsCardSaid : Prop := Claim7.holds Tryz.pinned (.plain (OpenSpec.ofChange seriesIsSpec)) seriesIsCard

/-- THE TIED CARD OF 'handstitchtop.TopThree'. -/
def topThreeCard : Claim7 := { stood := { row := topThreeRow, standIns := [], harness := (true, "4d54f1f24cf5a02216ec616120b5136bc07fa699083dcfca7c917aff3f8da1de"), looks := true }, kinds := [], alts := [], laidByText := true, laidKinds := [.data, .data, .data, .data, .sentinel, .sentinel, .pinned], laidTests := true, laidLooks := .later }
def TopThreeCardSaid : Prop := Claim7.holds Tryz.pinned (.plain (OpenSpec.ofChange topThreeSpec)) topThreeCard

/-- THE TIED CARD OF 'handstitchtop.TopUndone'. -/
def topUndoneCard : Claim7 := { stood := { row := topUndoneRow, standIns := [], harness := (true, "4d54f1f24cf5a02216ec616120b5136bc07fa699083dcfca7c917aff3f8da1de"), looks := true }, kinds := [], alts := [], laidByText := true, laidKinds := [.data, .data, .data, .data, .sentinel, .sentinel, .pinned], laidTests := true, laidLooks := .later }
def TopUndoneCardSaid : Prop := Claim7.holds Tryz.pinned (.plain (OpenSpec.ofChange topUndoneSpec)) topUndoneCard

/-- THE TIED CARD OF 'handstitchtop.TopAgain'. -/
def topAgainCard : Claim7 := { stood := { row := topAgainRow, standIns := [], harness := (true, "4d54f1f24cf5a02216ec616120b5136bc07fa699083dcfca7c917aff3f8da1de"), looks := true }, kinds := [], alts := [], laidByText := true, laidKinds := [.data, .data, .data, .data, .sentinel, .sentinel, .pinned], laidTests := true, laidLooks := .later }
def TopAgainCardSaid : Prop := Claim7.holds Tryz.pinned (.plain (OpenSpec.ofChange topAgainSpec)) topAgainCard

/-- THE TIED CARD OF 'handstitchtop.TopPosted'. -/
def topPostedCard : Claim7 := { stood := { row := topPostedRow, standIns := [], harness := (true, "4d54f1f24cf5a02216ec616120b5136bc07fa699083dcfca7c917aff3f8da1de"), looks := true }, kinds := [], alts := [], laidByText := true, laidKinds := [.data, .data, .data, .data, .sentinel, .sentinel, .pinned], laidTests := true, laidLooks := .later }
def TopPostedCardSaid : Prop := Claim7.holds Tryz.pinned (.plain (OpenSpec.ofChange topPostedSpec)) topPostedCard

/-- THE TIED CARD OF 'handstitchtop.TopPieces'. -/
def topPiecesCard : Claim7 := { stood := { row := topPiecesRow, standIns := [], harness := (true, "4d54f1f24cf5a02216ec616120b5136bc07fa699083dcfca7c917aff3f8da1de"), looks := true }, kinds := [], alts := [], laidByText := true, laidKinds := [.data, .data, .data, .data, .handle, .sentinel, .sentinel, .pinned], laidTests := true, laidLooks := .later }
def TopPiecesCardSaid : Prop := Claim7.holds Tryz.pinned (.plain (OpenSpec.ofChange topPiecesSpec)) topPiecesCard

/-- THE SECOND FORM's CARD OF 'handstitchlaw3.SeriesBack'. -/
def seriesBackUptoCard : Claim7 := { stood := { row := seriesBackUptoRow, standIns := [], harness := (true, "4d54f1f24cf5a02216ec616120b5136bc07fa699083dcfca7c917aff3f8da1de"), looks := true }, kinds := [], alts := [], laidByText := true, laidKinds := [.data, .data, .data, .data, .sentinel, .sentinel, .pinned], laidTests := true, laidLooks := .later }
def SeriesBackUptoCardSaid : Prop := Claim7.holds Tryz.pinned (.plain (OpenSpec.upto seriesBackSpec)) seriesBackUptoCard

/-- THE SECOND FORM's CARD OF 'handstitchlaw3.SeriesMisses'. -/
def seriesMissesUptoCard : Claim7 := { stood := { row := seriesMissesUptoRow, standIns := [], harness := (true, "4d54f1f24cf5a02216ec616120b5136bc07fa699083dcfca7c917aff3f8da1de"), looks := true }, kinds := [], alts := [], laidByText := true, laidKinds := [.data, .data, .data, .data, .handle, .sentinel, .sentinel, .pinned], laidTests := true, laidLooks := .later }
def SeriesMissesUptoCardSaid : Prop := Claim7.holds Tryz.pinned (.plain (OpenSpec.upto seriesMissesSpec)) seriesMissesUptoCard

/-- THE SECOND FORM's CARD OF 'handstitchlaw3.SeriesIs'. -/
def seriesIsUptoCard : Claim7 := { stood := { row := seriesIsUptoRow, standIns := [], harness := (true, "4d54f1f24cf5a02216ec616120b5136bc07fa699083dcfca7c917aff3f8da1de"), looks := true }, kinds := [], alts := [], laidByText := true, laidKinds := [.data, .data, .data, .data, .handle, .sentinel, .sentinel, .pinned], laidTests := true, laidLooks := .later }
def SeriesIsUptoCardSaid : Prop := Claim7.holds Tryz.pinned (.plain (OpenSpec.upto seriesIsSpec)) seriesIsUptoCard

/-- THE SECOND FORM's CARD OF 'handstitchtop.TopThree'. -/
def topThreeUptoCard : Claim7 := { stood := { row := topThreeUptoRow, standIns := [], harness := (true, "4d54f1f24cf5a02216ec616120b5136bc07fa699083dcfca7c917aff3f8da1de"), looks := true }, kinds := [], alts := [], laidByText := true, laidKinds := [.data, .data, .data, .data, .sentinel, .sentinel, .pinned], laidTests := true, laidLooks := .later }
def TopThreeUptoCardSaid : Prop := Claim7.holds Tryz.pinned (.plain (OpenSpec.upto topThreeSpec)) topThreeUptoCard

/-- THE SECOND FORM's CARD OF 'handstitchtop.TopUndone'. -/
def topUndoneUptoCard : Claim7 := { stood := { row := topUndoneUptoRow, standIns := [], harness := (true, "4d54f1f24cf5a02216ec616120b5136bc07fa699083dcfca7c917aff3f8da1de"), looks := true }, kinds := [], alts := [], laidByText := true, laidKinds := [.data, .data, .data, .data, .sentinel, .sentinel, .pinned], laidTests := true, laidLooks := .later }
def TopUndoneUptoCardSaid : Prop := Claim7.holds Tryz.pinned (.plain (OpenSpec.upto topUndoneSpec)) topUndoneUptoCard

/-- THE SECOND FORM's CARD OF 'handstitchtop.TopAgain'. -/
def topAgainUptoCard : Claim7 := { stood := { row := topAgainUptoRow, standIns := [], harness := (true, "4d54f1f24cf5a02216ec616120b5136bc07fa699083dcfca7c917aff3f8da1de"), looks := true }, kinds := [], alts := [], laidByText := true, laidKinds := [.data, .data, .data, .data, .sentinel, .sentinel, .pinned], laidTests := true, laidLooks := .later }
def TopAgainUptoCardSaid : Prop := Claim7.holds Tryz.pinned (.plain (OpenSpec.upto topAgainSpec)) topAgainUptoCard

/-- THE SECOND FORM's CARD OF 'handstitchtop.TopPosted'. -/
def topPostedUptoCard : Claim7 := { stood := { row := topPostedUptoRow, standIns := [], harness := (true, "4d54f1f24cf5a02216ec616120b5136bc07fa699083dcfca7c917aff3f8da1de"), looks := true }, kinds := [], alts := [], laidByText := true, laidKinds := [.data, .data, .data, .data, .sentinel, .sentinel, .pinned], laidTests := true, laidLooks := .later }
def TopPostedUptoCardSaid : Prop := Claim7.holds Tryz.pinned (.plain (OpenSpec.upto topPostedSpec)) topPostedUptoCard

/-- THE SECOND FORM's CARD OF 'handstitchtop.TopPieces'. -/
def topPiecesUptoCard : Claim7 := { stood := { row := topPiecesUptoRow, standIns := [], harness := (true, "4d54f1f24cf5a02216ec616120b5136bc07fa699083dcfca7c917aff3f8da1de"), looks := true }, kinds := [], alts := [], laidByText := true, laidKinds := [.data, .data, .data, .data, .handle, .sentinel, .sentinel, .pinned], laidTests := true, laidLooks := .later }
def TopPiecesUptoCardSaid : Prop := Claim7.holds Tryz.pinned (.plain (OpenSpec.upto topPiecesSpec)) topPiecesUptoCard
end Rows
end Go.Proofs.YtjiaidchcldocaaGreatDoor
