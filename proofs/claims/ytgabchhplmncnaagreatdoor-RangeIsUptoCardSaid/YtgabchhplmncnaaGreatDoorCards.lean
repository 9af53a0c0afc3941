/-
  DERIVED. GIVEN WITH THE SEED: THE CARDS: each row of YtgabchhplmncnaaGreatDoorRows.lean that lists a variable, with what it lists TIED to the program's text (the seventh form; the later family's looks); each row that meets fmt, with fmt's text TOLD by the authors' own Lean function (tested against real Go, not proved from fmt's source: count such statements apart). THE CARD IS WHAT COUNTS. Prove the row's statement (the work); the ties are given (YtgabchhplmncnaaGreatDoorTie.lean); close each card by the builder's one call (the guide's Derived/Test/ToyasCard.lean, 'card_holds'). Laid BY PROGRAM, IN A SANDBOX (cutbox-door.mjs). By AI agents, Wed Nov 11 2026. No macro, syntax, notation, axiom, sorry.
-/
import Derived.Test.YtgabchhplmncnaaGreatDoorRows
import GoSem.ClaimSeven
namespace Go.Proofs.YtgabchhplmncnaaGreatDoor
namespace Rows

/-- THE TIED CARD OF 'handstitchlaw3.RangeIs'. -/
def rangeIsCard : Claim7 := { stood := { row := rangeIsRow, standIns := [], harness := (true, "3b0431547160d142d841d22564807d451942e39e6427822de79d3ed0d3d19288"), looks := true }, kinds := [], alts := [], laidByText := true, laidKinds := [.data, .data, .data, .data, .handle, .pinned], laidTests := true, laidLooks := .later }
def RangeIsCardSaid : Prop := Claim7.holds Tryz.pinned (.plain (OpenSpec.ofChange rangeIsSpec)) rangeIsCard

/-- THE TIED CARD OF 'handstitchlaw3.SeriesBack'. -/
def seriesBackCard : Claim7 := { stood := { row := seriesBackRow, standIns := [], harness := (true, "3b0431547160d142d841d22564807d451942e39e6427822de79d3ed0d3d19288"), looks := true }, kinds := [], alts := [], laidByText := true, laidKinds := [.data, .data, .data, .data, .sentinel, .sentinel, .pinned], laidTests := true, laidLooks := .later }
def SeriesBackCardSaid : Prop := Claim7.holds Tryz.pinned (.plain (OpenSpec.ofChange seriesBackSpec)) seriesBackCard

/-- THE TIED CARD OF 'handstitchlaw3.SeriesMisses'. -/
def seriesMissesCard : Claim7 := { stood := { row := seriesMissesRow, standIns := [], harness := (true, "3b0431547160d142d841d22564807d451942e39e6427822de79d3ed0d3d19288"), looks := true }, kinds := [], alts := [], laidByText := true, laidKinds := [.data, .data, .data, .data, .handle, .sentinel, .sentinel, .pinned], laidTests := true, laidLooks := .later }
def SeriesMissesCardSaid : Prop := Claim7.holds Tryz.pinned (.plain (OpenSpec.ofChange seriesMissesSpec)) seriesMissesCard

/-- THE TIED CARD OF 'handstitchlaw3.SeriesIs'. -/
def seriesIsCard : Claim7 := { stood := { row := seriesIsRow, standIns := [], harness := (true, "3b0431547160d142d841d22564807d451942e39e6427822de79d3ed0d3d19288"), looks := true }, kinds := [], alts := [], laidByText := true, laidKinds := [.data, .data, .data, .data, .handle, .sentinel, .sentinel, .pinned], laidTests := true, laidLooks := .later }
def SeriesIsCardSaid : Prop := Claim7.holds Tryz.pinned (.plain (OpenSpec.ofChange seriesIsSpec)) seriesIsCard

/-- THE TIED CARD OF 'handstitchtop.TopThree'. -/
def topThreeCard : Claim7 := { stood := { row := topThreeRow, standIns := [], harness := (true, "3b0431547160d142d841d22564807d451942e39e6427822de79d3ed0d3d19288"), looks := true }, kinds := [], alts := [], laidByText := true, laidKinds := [.data, .data, .data, .data, .sentinel, .sentinel, .pinned], laidTests := true, laidLooks := .later }
def TopThreeCardSaid : Prop := Claim7.holds Tryz.pinned (.plain (OpenSpec.ofChange topThreeSpec)) topThreeCard

/-- THE TIED CARD OF 'handstitchtop.TopUndone'. -/
def topUndoneCard : Claim7 := { stood := { row := topUndoneRow, standIns := [], harness := (true, "3b0431547160d142d841d22564807d451942e39e6427822de79d3ed0d3d19288"), looks := true }, kinds := [], alts := [], laidByText := true, laidKinds := [.data, .data, .data, .data, .sentinel, .sentinel, .pinned], laidTests := true, laidLooks := .later }
def TopUndoneCardSaid : Prop := Claim7.holds Tryz.pinned (.plain (OpenSpec.ofChange topUndoneSpec)) topUndoneCard

/-- THE TIED CARD OF 'handstitchtop.TopAgain'. -/
def topAgainCard : Claim7 := { stood := { row := topAgainRow, standIns := [], harness := (true, "3b0431547160d142d841d22564807d451942e39e6427822de79d3ed0d3d19288"), looks := true }, kinds := [], alts := [], laidByText := true, laidKinds := [.data, .data, .data, .data, .sentinel, .sentinel, .pinned], laidTests := true, laidLooks := .later }
def TopAgainCardSaid : Prop := Claim7.holds Tryz.pinned (.plain (OpenSpec.ofChange topAgainSpec)) topAgainCard

/-- THE SECOND FORM's CARD OF 'handstitchlaw3.RangeIs'. -/
def rangeIsUptoCard : Claim7 := { stood := { row := rangeIsUptoRow, standIns := [], harness := (true, "3b0431547160d142d841d22564807d451942e39e6427822de79d3ed0d3d19288"), looks := true }, kinds := [], alts := [], laidByText := true, laidKinds := [.data, .data, .data, .data, .handle, .pinned], laidTests := true, laidLooks := .later }
def RangeIsUptoCardSaid : Prop := Claim7.holds Tryz.pinned (.plain (OpenSpec.upto rangeIsSpec)) rangeIsUptoCard

/-- THE SECOND FORM's CARD OF 'handstitchlaw3.SeriesBack'. -/
def seriesBackUptoCard : Claim7 := { stood := { row := seriesBackUptoRow, standIns := [], harness := (true, "3b0431547160d142d841d22564807d451942e39e6427822de79d3ed0d3d19288"), looks := true }, kinds := [], alts := [], laidByText := true, laidKinds := [.data, .data, .data, .data, .sentinel, .sentinel, .pinned], laidTests := true, laidLooks := .later }
def SeriesBackUptoCardSaid : Prop := Claim7.holds Tryz.pinned (.plain (OpenSpec.upto seriesBackSpec)) seriesBackUptoCard

/-- THE SECOND FORM's CARD OF 'handstitchlaw3.SeriesMisses'. -/
def seriesMissesUptoCard : Claim7 := { stood := { row := seriesMissesUptoRow, standIns := [], harness := (true, "3b0431547160d142d841d22564807d451942e39e6427822de79d3ed0d3d19288"), looks := true }, kinds := [], alts := [], laidByText := true, laidKinds := [.data, .data, .data, .data, .handle, .sentinel, .sentinel, .pinned], laidTests := true, laidLooks := .later }
def SeriesMissesUptoCardSaid : Prop := Claim7.holds Tryz.pinned (.plain (OpenSpec.upto seriesMissesSpec)) seriesMissesUptoCard

/-- THE SECOND FORM's CARD OF 'handstitchlaw3.SeriesIs'. -/
def seriesIsUptoCard : Claim7 := { stood := { row := seriesIsUptoRow, standIns := [], harness := (true, "3b0431547160d142d841d22564807d451942e39e6427822de79d3ed0d3d19288"), looks := true }, kinds := [], alts := [], laidByText := true, laidKinds := [.data, .data, .data, .data, .handle, .sentinel, .sentinel, .pinned], laidTests := true, laidLooks := .later }
def SeriesIsUptoCardSaid : Prop := Claim7.holds Tryz.pinned (.plain (OpenSpec.upto seriesIsSpec)) seriesIsUptoCard

/-- THE SECOND FORM's CARD OF 'handstitchtop.TopThree'. -/
def topThreeUptoCard : Claim7 := { stood := { row := topThreeUptoRow, standIns := [], harness := (true, "3b0431547160d142d841d22564807d451942e39e6427822de79d3ed0d3d19288"), looks := true }, kinds := [], alts := [], laidByText := true, laidKinds := [.data, .data, .data, .data, .sentinel, .sentinel, .pinned], laidTests := true, laidLooks := .later }
def TopThreeUptoCardSaid : Prop := Claim7.holds Tryz.pinned (.plain (OpenSpec.upto topThreeSpec)) topThreeUptoCard

/-- THE SECOND FORM's CARD OF 'handstitchtop.TopUndone'. -/
def topUndoneUptoCard : Claim7 := { stood := { row := topUndoneUptoRow, standIns := [], harness := (true, "3b0431547160d142d841d22564807d451942e39e6427822de79d3ed0d3d19288"), looks := true }, kinds := [], alts := [], laidByText := true, laidKinds := [.data, .data, .data, .data, .sentinel, .sentinel, .pinned], laidTests := true, laidLooks := .later }
def TopUndoneUptoCardSaid : Prop := Claim7.holds Tryz.pinned (.plain (OpenSpec.upto topUndoneSpec)) topUndoneUptoCard

/-- THE SECOND FORM's CARD OF 'handstitchtop.TopAgain'. -/
def topAgainUptoCard : Claim7 := { stood := { row := topAgainUptoRow, standIns := [], harness := (true, "3b0431547160d142d841d22564807d451942e39e6427822de79d3ed0d3d19288"), looks := true }, kinds := [], alts := [], laidByText := true, laidKinds := [.data, .data, .data, .data, .sentinel, .sentinel, .pinned], laidTests := true, laidLooks := .later }
def TopAgainUptoCardSaid : Prop := Claim7.holds Tryz.pinned (.plain (OpenSpec.upto topAgainSpec)) topAgainUptoCard
end Rows
end Go.Proofs.YtgabchhplmncnaaGreatDoor
