/-
  DERIVED. GIVEN WITH THE SEED: THE CARDS: each row of YtnekhaacapdmfaaDoorRows.lean that lists a variable, with what it lists TIED to the program's text (the seventh form; the later family's looks); each row that meets fmt, with fmt's text TOLD by the authors' own Lean function (tested against real Go, not proved from fmt's source: count such statements apart). THE CARD IS WHAT COUNTS. Prove the row's statement (the work); the ties are given (YtnekhaacapdmfaaDoorTie.lean); close each card by the builder's one call (the guide's Derived/Test/ToyasCard.lean, 'card_holds'). Laid BY PROGRAM, IN A SANDBOX (cutbox-door.mjs). By AI agents, Wed Nov 11 2026. No macro, syntax, notation, axiom, sorry.
-/
import Derived.Test.YtnekhaacapdmfaaDoorRows
import GoSem.ClaimSeven
namespace Go.Proofs.YtnekhaacapdmfaaDoor
namespace Rows

/-- THE TIED CARD OF 'handstitchlaw3.MailBack'. -/
def mailBackCard : Claim7 := { stood := { row := mailBackRow, standIns := [], harness := (true, "37350d23d7a4eef54777423e5021e51e24bd1287b9176ab82112584eed7c1c77"), looks := true }, kinds := [], alts := [], laidByText := true, laidKinds := [.data, .pinned], laidTests := true, laidLooks := .later }
def MailBackCardSaid : Prop := Claim7.holds Tryd.pinned (.plain (OpenSpec.ofChange mailBackSpec)) mailBackCard

/-- THE TIED CARD OF 'handstitchlaw3.GitLines'. -/
def gitLinesCard : Claim7 := { stood := { row := gitLinesRow, standIns := [], harness := (true, "37350d23d7a4eef54777423e5021e51e24bd1287b9176ab82112584eed7c1c77"), looks := true }, kinds := [], alts := [], laidByText := true, laidKinds := [.data, .data, .data, .data, .pinned], laidTests := true, laidLooks := .later }
def GitLinesCardSaid : Prop := Claim7.holds Tryd.pinned (.plain (OpenSpec.ofChange gitLinesSpec)) gitLinesCard

/-- THE TIED CARD OF 'handstitchlaw3.MailIs'. -/
def mailIsCard : Claim7 := { stood := { row := mailIsRow, standIns := [], harness := (true, "37350d23d7a4eef54777423e5021e51e24bd1287b9176ab82112584eed7c1c77"), looks := true }, kinds := [], alts := [], laidByText := true, laidKinds := [.data, .handle, .pinned], laidTests := true, laidLooks := .later }
def MailIsCardSaid : Prop := Claim7.holds Tryd.pinned (.plain (OpenSpec.ofChange mailIsSpec)) mailIsCard

/-- THE TIED CARD OF 'handstitchlaw2.GitBack'. -/
def gitBackCard : Claim7 := { stood := { row := gitBackRow, standIns := [], harness := (true, "37350d23d7a4eef54777423e5021e51e24bd1287b9176ab82112584eed7c1c77"), looks := true }, kinds := [], alts := [], laidByText := true, laidKinds := [.data, .data, .data, .data, .sentinel, .sentinel, .pinned], laidTests := true, laidLooks := .later }
def GitBackCardSaid : Prop := Claim7.holds Tryd.pinned (.plain (OpenSpec.ofChange gitBackSpec)) gitBackCard

/-- THE SECOND FORM's CARD OF 'handstitchlaw3.MailBack'. -/
def mailBackUptoCard : Claim7 := { stood := { row := mailBackUptoRow, standIns := [], harness := (true, "37350d23d7a4eef54777423e5021e51e24bd1287b9176ab82112584eed7c1c77"), looks := true }, kinds := [], alts := [], laidByText := true, laidKinds := [.data, .pinned], laidTests := true, laidLooks := .later }
def MailBackUptoCardSaid : Prop := Claim7.holds Tryd.pinned (.plain (OpenSpec.upto mailBackSpec)) mailBackUptoCard

/-- THE SECOND FORM's CARD OF 'handstitchlaw3.GitLines'. -/
def gitLinesUptoCard : Claim7 := { stood := { row := gitLinesUptoRow, standIns := [], harness := (true, "37350d23d7a4eef54777423e5021e51e24bd1287b9176ab82112584eed7c1c77"), looks := true }, kinds := [], alts := [], laidByText := true, laidKinds := [.data, .data, .data, .data, .pinned], laidTests := true, laidLooks := .later }
def GitLinesUptoCardSaid : Prop := Claim7.holds Tryd.pinned (.plain (OpenSpec.upto gitLinesSpec)) gitLinesUptoCard

/-- THE SECOND FORM's CARD OF 'handstitchlaw3.MailIs'. -/
def mailIsUptoCard : Claim7 := { stood := { row := mailIsUptoRow, standIns := [], harness := (true, "37350d23d7a4eef54777423e5021e51e24bd1287b9176ab82112584eed7c1c77"), looks := true }, kinds := [], alts := [], laidByText := true, laidKinds := [.data, .handle, .pinned], laidTests := true, laidLooks := .later }
def MailIsUptoCardSaid : Prop := Claim7.holds Tryd.pinned (.plain (OpenSpec.upto mailIsSpec)) mailIsUptoCard

/-- THE SECOND FORM's CARD OF 'handstitchlaw2.GitBack'. -/
def gitBackUptoCard : Claim7 := { stood := { row := gitBackUptoRow, standIns := [], harness := (true, "37350d23d7a4eef54777423e5021e51e24bd1287b9176ab82112584eed7c1c77"), looks := true }, kinds := [], alts := [], laidByText := true, laidKinds := [.data, .data, .data, .data, .sentinel, .sentinel, .pinned], laidTests := true, laidLooks := .later }
def GitBackUptoCardSaid : Prop := Claim7.holds Tryd.pinned (.plain (OpenSpec.upto gitBackSpec)) gitBackUptoCard
end Rows
end Go.Proofs.YtnekhaacapdmfaaDoor
