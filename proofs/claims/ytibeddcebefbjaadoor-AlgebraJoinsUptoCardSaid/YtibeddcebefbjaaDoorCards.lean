/-
  DERIVED. GIVEN WITH THE SEED: THE CARDS: each row of YtibeddcebefbjaaDoorRows.lean that lists a variable, with what it lists TIED to the program's text (the seventh form; the later family's looks); each row that meets fmt, with fmt's text TOLD by the authors' own Lean function (tested against real Go, not proved from fmt's source: count such statements apart). THE CARD IS WHAT COUNTS. Prove the row's statement (the work); the ties are given (YtibeddcebefbjaaDoorTie.lean); close each card by the builder's one call (the guide's Derived/Test/ToyasCard.lean, 'card_holds'). Laid BY PROGRAM, IN A SANDBOX (cutbox-door.mjs). By AI agents, Wed Nov 11 2026. No macro, syntax, notation, axiom, sorry.
-/
import Derived.Test.YtibeddcebefbjaaDoorRows
import GoSem.ClaimSeven
namespace Go.Proofs.YtibeddcebefbjaaDoor
namespace Rows

/-- THE TIED CARD OF 'handstitchlaw2.SwapIs'. -/
def swapIsCard : Claim7 := { stood := { row := swapIsRow, standIns := [], harness := (true, "6c1e9b65a37b0fe0608a9703f4612decb82da38c5d5bdba1ae725d494021bb36"), looks := true }, kinds := [], alts := [], laidByText := true, laidKinds := [.handle], laidTests := true, laidLooks := .later }
def SwapIsCardSaid : Prop := Claim7.holds Tryd.pinned (.plain (OpenSpec.ofChange swapIsSpec)) swapIsCard

/-- THE TIED CARD OF 'handstitchlaw2.TreeStays'. -/
def treeStaysCard : Claim7 := { stood := { row := treeStaysRow, standIns := [], harness := (true, "6c1e9b65a37b0fe0608a9703f4612decb82da38c5d5bdba1ae725d494021bb36"), looks := true }, kinds := [], alts := [], laidByText := true, laidKinds := [.data, .handle, .pinned], laidTests := true, laidLooks := .later }
def TreeStaysCardSaid : Prop := Claim7.holds Tryd.pinned (.plain (OpenSpec.ofChange treeStaysSpec)) treeStaysCard

/-- THE TIED CARD OF 'handstitchlaw2.DiffIs'. -/
def diffIsCard : Claim7 := { stood := { row := diffIsRow, standIns := [], harness := (true, "6c1e9b65a37b0fe0608a9703f4612decb82da38c5d5bdba1ae725d494021bb36"), looks := true }, kinds := [], alts := [], laidByText := true, laidKinds := [.data, .handle, .pinned], laidTests := true, laidLooks := .later }
def DiffIsCardSaid : Prop := Claim7.holds Tryd.pinned (.plain (OpenSpec.ofChange diffIsSpec)) diffIsCard

/-- THE TIED CARD OF 'handstitchlaw2.PatchBack'. -/
def patchBackCard : Claim7 := { stood := { row := patchBackRow, standIns := [], harness := (true, "6c1e9b65a37b0fe0608a9703f4612decb82da38c5d5bdba1ae725d494021bb36"), looks := true }, kinds := [], alts := [], laidByText := true, laidKinds := [.data, .pinned], laidTests := true, laidLooks := .later }
def PatchBackCardSaid : Prop := Claim7.holds Tryd.pinned (.plain (OpenSpec.ofChange patchBackSpec)) patchBackCard

/-- THE TIED CARD OF 'handstitchlaw2.PatchMakes'. -/
def patchMakesCard : Claim7 := { stood := { row := patchMakesRow, standIns := [], harness := (true, "6c1e9b65a37b0fe0608a9703f4612decb82da38c5d5bdba1ae725d494021bb36"), looks := true }, kinds := [], alts := [], laidByText := true, laidKinds := [.data, .pinned], laidTests := true, laidLooks := .later }
def PatchMakesCardSaid : Prop := Claim7.holds Tryd.pinned (.plain (OpenSpec.ofChange patchMakesSpec)) patchMakesCard

/-- THE TIED CARD OF 'handstitchlaw2.AlgebraSplits'. -/
def algebraSplitsCard : Claim7 := { stood := { row := algebraSplitsRow, standIns := [], harness := (true, "6c1e9b65a37b0fe0608a9703f4612decb82da38c5d5bdba1ae725d494021bb36"), looks := true }, kinds := [], alts := [], laidByText := true, laidKinds := [.data, .handle, .pinned], laidTests := true, laidLooks := .later }
def AlgebraSplitsCardSaid : Prop := Claim7.holds Tryd.pinned (.plain (OpenSpec.ofChange algebraSplitsSpec)) algebraSplitsCard

/-- THE TIED CARD OF 'handstitchlaw2.AlgebraJoins'. -/
def algebraJoinsCard : Claim7 := { stood := { row := algebraJoinsRow, standIns := [], harness := (true, "6c1e9b65a37b0fe0608a9703f4612decb82da38c5d5bdba1ae725d494021bb36"), looks := true }, kinds := [], alts := [], laidByText := true, laidKinds := [.data, .pinned], laidTests := true, laidLooks := .later }
def AlgebraJoinsCardSaid : Prop := Claim7.holds Tryd.pinned (.plain (OpenSpec.ofChange algebraJoinsSpec)) algebraJoinsCard

/-- THE SECOND FORM's CARD OF 'handstitchlaw2.SwapIs'. -/
def swapIsUptoCard : Claim7 := { stood := { row := swapIsUptoRow, standIns := [], harness := (true, "6c1e9b65a37b0fe0608a9703f4612decb82da38c5d5bdba1ae725d494021bb36"), looks := true }, kinds := [], alts := [], laidByText := true, laidKinds := [.handle], laidTests := true, laidLooks := .later }
def SwapIsUptoCardSaid : Prop := Claim7.holds Tryd.pinned (.plain (OpenSpec.upto swapIsSpec)) swapIsUptoCard

/-- THE SECOND FORM's CARD OF 'handstitchlaw2.TreeStays'. -/
def treeStaysUptoCard : Claim7 := { stood := { row := treeStaysUptoRow, standIns := [], harness := (true, "6c1e9b65a37b0fe0608a9703f4612decb82da38c5d5bdba1ae725d494021bb36"), looks := true }, kinds := [], alts := [], laidByText := true, laidKinds := [.data, .handle, .pinned], laidTests := true, laidLooks := .later }
def TreeStaysUptoCardSaid : Prop := Claim7.holds Tryd.pinned (.plain (OpenSpec.upto treeStaysSpec)) treeStaysUptoCard

/-- THE SECOND FORM's CARD OF 'handstitchlaw2.DiffIs'. -/
def diffIsUptoCard : Claim7 := { stood := { row := diffIsUptoRow, standIns := [], harness := (true, "6c1e9b65a37b0fe0608a9703f4612decb82da38c5d5bdba1ae725d494021bb36"), looks := true }, kinds := [], alts := [], laidByText := true, laidKinds := [.data, .handle, .pinned], laidTests := true, laidLooks := .later }
def DiffIsUptoCardSaid : Prop := Claim7.holds Tryd.pinned (.plain (OpenSpec.upto diffIsSpec)) diffIsUptoCard

/-- THE SECOND FORM's CARD OF 'handstitchlaw2.PatchBack'. -/
def patchBackUptoCard : Claim7 := { stood := { row := patchBackUptoRow, standIns := [], harness := (true, "6c1e9b65a37b0fe0608a9703f4612decb82da38c5d5bdba1ae725d494021bb36"), looks := true }, kinds := [], alts := [], laidByText := true, laidKinds := [.data, .pinned], laidTests := true, laidLooks := .later }
def PatchBackUptoCardSaid : Prop := Claim7.holds Tryd.pinned (.plain (OpenSpec.upto patchBackSpec)) patchBackUptoCard

/-- THE SECOND FORM's CARD OF 'handstitchlaw2.PatchMakes'. -/
def patchMakesUptoCard : Claim7 := { stood := { row := patchMakesUptoRow, standIns := [], harness := (true, "6c1e9b65a37b0fe0608a9703f4612decb82da38c5d5bdba1ae725d494021bb36"), looks := true }, kinds := [], alts := [], laidByText := true, laidKinds := [.data, .pinned], laidTests := true, laidLooks := .later }
def PatchMakesUptoCardSaid : Prop := Claim7.holds Tryd.pinned (.plain (OpenSpec.upto patchMakesSpec)) patchMakesUptoCard

/-- THE SECOND FORM's CARD OF 'handstitchlaw2.AlgebraSplits'. -/
def algebraSplitsUptoCard : Claim7 := { stood := { row := algebraSplitsUptoRow, standIns := [], harness := (true, "6c1e9b65a37b0fe0608a9703f4612decb82da38c5d5bdba1ae725d494021bb36"), looks := true }, kinds := [], alts := [], laidByText := true, laidKinds := [.data, .handle, .pinned], laidTests := true, laidLooks := .later }
def AlgebraSplitsUptoCardSaid : Prop := Claim7.holds Tryd.pinned (.plain (OpenSpec.upto algebraSplitsSpec)) algebraSplitsUptoCard

/-- THE SECOND FORM's CARD OF 'handstitchlaw2.AlgebraJoins'. -/
def algebraJoinsUptoCard : Claim7 := { stood := { row := algebraJoinsUptoRow, standIns := [], harness := (true, "6c1e9b65a37b0fe0608a9703f4612decb82da38c5d5bdba1ae725d494021bb36"), looks := true }, kinds := [], alts := [], laidByText := true, laidKinds := [.data, .pinned], laidTests := true, laidLooks := .later }
def AlgebraJoinsUptoCardSaid : Prop := Claim7.holds Tryd.pinned (.plain (OpenSpec.upto algebraJoinsSpec)) algebraJoinsUptoCard
end Rows
end Go.Proofs.YtibeddcebefbjaaDoor
