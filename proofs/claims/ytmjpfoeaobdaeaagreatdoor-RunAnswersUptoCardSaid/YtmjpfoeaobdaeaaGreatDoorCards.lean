/-
  DERIVED. GIVEN WITH THE SEED: THE CARDS: each row of YtmjpfoeaobdaeaaGreatDoorRows.lean that lists a variable, with what it lists TIED to the program's text (the seventh form; the later family's looks); each row that meets fmt, with fmt's text TOLD by the authors' own Lean function (tested against real Go, not proved from fmt's source: count such statements apart). THE CARD IS WHAT COUNTS. Prove the row's statement (the work); the ties are given (YtmjpfoeaobdaeaaGreatDoorTie.lean); close each card by the builder's one call (the guide's Derived/Test/ToyasCard.lean, 'card_holds'). Laid BY PROGRAM, IN A SANDBOX (cutbox-door.mjs). By AI agents, Wed Nov 11 2026. No macro, syntax, notation, axiom, sorry.
-/
import Derived.Test.YtmjpfoeaobdaeaaGreatDoorRows
import GoSem.ClaimSeven
namespace Go.Proofs.YtmjpfoeaobdaeaaGreatDoor
namespace Rows

/-- THE TIED CARD OF 'handstitchlaw3.RunAnswers'. -/
def runAnswersCard : Claim7 := { stood := { row := runAnswersRow, standIns := [], harness := (true, "91fa9936a2907966b6986c310e66ccceea33057381a9e63b6fb9d46bd9538e32"), looks := true }, kinds := [], alts := [], laidByText := true, laidKinds := [.data, .data, .data, .data, .handle, .sentinel, .sentinel, .pinned], laidTests := true, laidLooks := .later }
def RunAnswersCardSaid : Prop := Claim7.holds Tryz.pinned (.plain (OpenSpec.ofChange runAnswersSpec)) runAnswersCard

/-- THE TIED CARD OF 'handstitchlaw3.RunBegins'. -/
def runBeginsCard : Claim7 := { stood := { row := runBeginsRow, standIns := [], harness := (true, "91fa9936a2907966b6986c310e66ccceea33057381a9e63b6fb9d46bd9538e32"), looks := true }, kinds := [], alts := [], laidByText := true, laidKinds := [.data, .data, .data, .data, .handle, .sentinel, .sentinel, .pinned], laidTests := true, laidLooks := .later }
def RunBeginsCardSaid : Prop := Claim7.holds Tryz.pinned (.plain (OpenSpec.ofChange runBeginsSpec)) runBeginsCard

/-- THE TIED CARD OF 'handstitchlaw3.RunGoes'. -/
def runGoesCard : Claim7 := { stood := { row := runGoesRow, standIns := [], harness := (true, "91fa9936a2907966b6986c310e66ccceea33057381a9e63b6fb9d46bd9538e32"), looks := true }, kinds := [], alts := [], laidByText := true, laidKinds := [.data, .data, .data, .data, .handle, .sentinel, .sentinel, .pinned], laidTests := true, laidLooks := .later }
def RunGoesCardSaid : Prop := Claim7.holds Tryz.pinned (.plain (OpenSpec.ofChange runGoesSpec)) runGoesCard

/-- THE SECOND FORM's CARD OF 'handstitchlaw3.RunAnswers'. -/
def runAnswersUptoCard : Claim7 := { stood := { row := runAnswersUptoRow, standIns := [], harness := (true, "91fa9936a2907966b6986c310e66ccceea33057381a9e63b6fb9d46bd9538e32"), looks := true }, kinds := [], alts := [], laidByText := true, laidKinds := [.data, .data, .data, .data, .handle, .sentinel, .sentinel, .pinned], laidTests := true, laidLooks := .later }
def RunAnswersUptoCardSaid : Prop := Claim7.holds Tryz.pinned (.plain (OpenSpec.upto runAnswersSpec)) runAnswersUptoCard

/-- THE SECOND FORM's CARD OF 'handstitchlaw3.RunBegins'. -/
def runBeginsUptoCard : Claim7 := { stood := { row := runBeginsUptoRow, standIns := [], harness := (true, "91fa9936a2907966b6986c310e66ccceea33057381a9e63b6fb9d46bd9538e32"), looks := true }, kinds := [], alts := [], laidByText := true, laidKinds := [.data, .data, .data, .data, .handle, .sentinel, .sentinel, .pinned], laidTests := true, laidLooks := .later }
def RunBeginsUptoCardSaid : Prop := Claim7.holds Tryz.pinned (.plain (OpenSpec.upto runBeginsSpec)) runBeginsUptoCard

/-- THE SECOND FORM's CARD OF 'handstitchlaw3.RunGoes'. -/
def runGoesUptoCard : Claim7 := { stood := { row := runGoesUptoRow, standIns := [], harness := (true, "91fa9936a2907966b6986c310e66ccceea33057381a9e63b6fb9d46bd9538e32"), looks := true }, kinds := [], alts := [], laidByText := true, laidKinds := [.data, .data, .data, .data, .handle, .sentinel, .sentinel, .pinned], laidTests := true, laidLooks := .later }
def RunGoesUptoCardSaid : Prop := Claim7.holds Tryz.pinned (.plain (OpenSpec.upto runGoesSpec)) runGoesUptoCard
end Rows
end Go.Proofs.YtmjpfoeaobdaeaaGreatDoor
