/-
  DERIVED. GIVEN WITH THE SEED: THE CARDS: each row of YteocmmejfnmjcaaGreatDoorRows.lean that lists a variable, with what it lists TIED to the program's text (the seventh form; the later family's looks); each row that meets fmt, with fmt's text TOLD by the authors' own Lean function (tested against real Go, not proved from fmt's source: count such statements apart). THE CARD IS WHAT COUNTS. Prove the row's statement (the work); the ties are given (YteocmmejfnmjcaaGreatDoorTie.lean); close each card by the builder's one call (the guide's Derived/Test/ToyasCard.lean, 'card_holds'). Laid BY PROGRAM, IN A SANDBOX (cutbox-door.mjs). By AI agents, Wed Nov 11 2026. No macro, syntax, notation, axiom, sorry.
-/
import Derived.Test.YteocmmejfnmjcaaGreatDoorRows
import GoSem.ClaimSeven
namespace Go.Proofs.YteocmmejfnmjcaaGreatDoor
namespace Rows

/-- THE TIED CARD OF 'handstitchlaw2.PatchIs'. -/
def patchIsCard : Claim7 := { stood := { row := patchIsRow, standIns := [], harness := (true, "1bf161b94024049ceb6f058ddd8fb4546355a1415a5ae36ef9dfd20ce687d56e"), looks := true }, kinds := [], alts := [], laidByText := true, laidKinds := [.data, .handle, .pinned], laidTests := true, laidLooks := .later }
def PatchIsCardSaid : Prop := Claim7.holds Tryz.pinned (.plain (OpenSpec.ofChange patchIsSpec)) patchIsCard

/-- THE TIED CARD OF 'handstitchlaw2.AlgebraIs'. -/
def algebraIsCard : Claim7 := { stood := { row := algebraIsRow, standIns := [], harness := (true, "1bf161b94024049ceb6f058ddd8fb4546355a1415a5ae36ef9dfd20ce687d56e"), looks := true }, kinds := [], alts := [], laidByText := true, laidKinds := [.data, .handle, .pinned], laidTests := true, laidLooks := .later }
def AlgebraIsCardSaid : Prop := Claim7.holds Tryz.pinned (.plain (OpenSpec.ofChange algebraIsSpec)) algebraIsCard

/-- THE SECOND FORM's CARD OF 'handstitchlaw2.PatchIs'. -/
def patchIsUptoCard : Claim7 := { stood := { row := patchIsUptoRow, standIns := [], harness := (true, "1bf161b94024049ceb6f058ddd8fb4546355a1415a5ae36ef9dfd20ce687d56e"), looks := true }, kinds := [], alts := [], laidByText := true, laidKinds := [.data, .handle, .pinned], laidTests := true, laidLooks := .later }
def PatchIsUptoCardSaid : Prop := Claim7.holds Tryz.pinned (.plain (OpenSpec.upto patchIsSpec)) patchIsUptoCard

/-- THE SECOND FORM's CARD OF 'handstitchlaw2.AlgebraIs'. -/
def algebraIsUptoCard : Claim7 := { stood := { row := algebraIsUptoRow, standIns := [], harness := (true, "1bf161b94024049ceb6f058ddd8fb4546355a1415a5ae36ef9dfd20ce687d56e"), looks := true }, kinds := [], alts := [], laidByText := true, laidKinds := [.data, .handle, .pinned], laidTests := true, laidLooks := .later }
def AlgebraIsUptoCardSaid : Prop := Claim7.holds Tryz.pinned (.plain (OpenSpec.upto algebraIsSpec)) algebraIsUptoCard
end Rows
end Go.Proofs.YteocmmejfnmjcaaGreatDoor
