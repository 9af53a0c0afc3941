/-
  DERIVED. GIVEN WITH THE SEED: THE CARDS: each row of YtcgjegjnodopoaaDoorRows.lean that lists a variable, with what it lists TIED to the program's text (the seventh form; the later family's looks); each row that meets fmt, with fmt's text TOLD by the authors' own Lean function (tested against real Go, not proved from fmt's source: count such statements apart). THE CARD IS WHAT COUNTS. Prove the row's statement (the work); the ties are given (YtcgjegjnodopoaaDoorTie.lean); close each card by the builder's one call (the guide's Derived/Test/ToyasCard.lean, 'card_holds'). Laid BY PROGRAM, IN A SANDBOX (cutbox-door.mjs). By AI agents, Wed Nov 11 2026. No macro, syntax, notation, axiom, sorry.
-/
import Derived.Test.YtcgjegjnodopoaaDoorRows
import GoSem.ClaimSeven
namespace Go.Proofs.YtcgjegjnodopoaaDoor
namespace Rows

/-- THE TIED CARD OF 'handstitchlaw3.LettersIs'. -/
def lettersIsCard : Claim7 := { stood := { row := lettersIsRow, standIns := [], harness := (true, "9975275285c203e05af5ea78688dab6d59119c2039ce264908ca86d97830eb9d"), looks := true }, kinds := [], alts := [], laidByText := true, laidKinds := [.data, .handle, .pinned], laidTests := true, laidLooks := .later }
def LettersIsCardSaid : Prop := Claim7.holds Tryd.pinned (.plain (OpenSpec.ofChange lettersIsSpec)) lettersIsCard

/-- THE TIED CARD OF 'handstitchlaw3.LettersBack'. -/
def lettersBackCard : Claim7 := { stood := { row := lettersBackRow, standIns := [], harness := (true, "9975275285c203e05af5ea78688dab6d59119c2039ce264908ca86d97830eb9d"), looks := true }, kinds := [], alts := [], laidByText := true, laidKinds := [.data, .pinned], laidTests := true, laidLooks := .later }
def LettersBackCardSaid : Prop := Claim7.holds Tryd.pinned (.plain (OpenSpec.ofChange lettersBackSpec)) lettersBackCard

/-- THE TIED CARD OF 'handstitchlaw3.MatchIs'. -/
def matchIsCard : Claim7 := { stood := { row := matchIsRow, standIns := [], harness := (true, "9975275285c203e05af5ea78688dab6d59119c2039ce264908ca86d97830eb9d"), looks := true }, kinds := [], alts := [], laidByText := true, laidKinds := [.handle], laidTests := true, laidLooks := .later }
def MatchIsCardSaid : Prop := Claim7.holds Tryd.pinned (.plain (OpenSpec.ofChange matchIsSpec)) matchIsCard

/-- THE TIED CARD OF 'handstitchlaw3.MatchLeast'. -/
def matchLeastCard : Claim7 := { stood := { row := matchLeastRow, standIns := [], harness := (true, "9975275285c203e05af5ea78688dab6d59119c2039ce264908ca86d97830eb9d"), looks := true }, kinds := [], alts := [], laidByText := true, laidKinds := [.handle], laidTests := true, laidLooks := .later }
def MatchLeastCardSaid : Prop := Claim7.holds Tryd.pinned (.plain (OpenSpec.ofChange matchLeastSpec)) matchLeastCard

/-- THE SECOND FORM's CARD OF 'handstitchlaw3.LettersIs'. -/
def lettersIsUptoCard : Claim7 := { stood := { row := lettersIsUptoRow, standIns := [], harness := (true, "9975275285c203e05af5ea78688dab6d59119c2039ce264908ca86d97830eb9d"), looks := true }, kinds := [], alts := [], laidByText := true, laidKinds := [.data, .handle, .pinned], laidTests := true, laidLooks := .later }
def LettersIsUptoCardSaid : Prop := Claim7.holds Tryd.pinned (.plain (OpenSpec.upto lettersIsSpec)) lettersIsUptoCard

/-- THE SECOND FORM's CARD OF 'handstitchlaw3.LettersBack'. -/
def lettersBackUptoCard : Claim7 := { stood := { row := lettersBackUptoRow, standIns := [], harness := (true, "9975275285c203e05af5ea78688dab6d59119c2039ce264908ca86d97830eb9d"), looks := true }, kinds := [], alts := [], laidByText := true, laidKinds := [.data, .pinned], laidTests := true, laidLooks := .later }
def LettersBackUptoCardSaid : Prop := Claim7.holds Tryd.pinned (.plain (OpenSpec.upto lettersBackSpec)) lettersBackUptoCard

/-- THE SECOND FORM's CARD OF 'handstitchlaw3.MatchIs'. -/
def matchIsUptoCard : Claim7 := { stood := { row := matchIsUptoRow, standIns := [], harness := (true, "9975275285c203e05af5ea78688dab6d59119c2039ce264908ca86d97830eb9d"), looks := true }, kinds := [], alts := [], laidByText := true, laidKinds := [.handle], laidTests := true, laidLooks := .later }
def MatchIsUptoCardSaid : Prop := Claim7.holds Tryd.pinned (.plain (OpenSpec.upto matchIsSpec)) matchIsUptoCard

/-- THE SECOND FORM's CARD OF 'handstitchlaw3.MatchLeast'. -/
def matchLeastUptoCard : Claim7 := { stood := { row := matchLeastUptoRow, standIns := [], harness := (true, "9975275285c203e05af5ea78688dab6d59119c2039ce264908ca86d97830eb9d"), looks := true }, kinds := [], alts := [], laidByText := true, laidKinds := [.handle], laidTests := true, laidLooks := .later }
def MatchLeastUptoCardSaid : Prop := Claim7.holds Tryd.pinned (.plain (OpenSpec.upto matchLeastSpec)) matchLeastUptoCard
end Rows
end Go.Proofs.YtcgjegjnodopoaaDoor
