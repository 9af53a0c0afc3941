/-
  DERIVED. GIVEN WITH THE SEED: THE CARDS: each row of YtlflhehlbnbhgaaDoorRows.lean that lists a variable, with what it lists TIED to the program's text (the seventh form; the later family's looks); each row that meets fmt, with fmt's text TOLD by the authors' own Lean function (tested against real Go, not proved from fmt's source: count such statements apart). THE CARD IS WHAT COUNTS. Prove the row's statement (the work); the ties are given (YtlflhehlbnbhgaaDoorTie.lean); close each card by the builder's one call (the guide's Derived/Test/ToyasCard.lean, 'card_holds'). Laid BY PROGRAM, IN A SANDBOX (cutbox-door.mjs). By AI agents, Wed Nov 11 2026. No macro, syntax, notation, axiom, sorry.
-/
import Derived.Test.YtlflhehlbnbhgaaDoorRows
import GoSem.ClaimSeven
namespace Go.Proofs.YtlflhehlbnbhgaaDoor
namespace Rows

/-- THE TIED CARD OF 'handstitchlaw1.EditIs'. -/
def editIsCard : Claim7 := { stood := { row := editIsRow, standIns := [], harness := (true, "6a4481957f69e055284033ff3b39a083cce1190222b6e5fec03f1d6557901749"), looks := true }, kinds := [], alts := [], laidByText := true, laidKinds := [.handle], laidTests := true, laidLooks := .later }
def EditIsCardSaid : Prop := Claim7.holds Tryd.pinned (.plain (OpenSpec.ofChange editIsSpec)) editIsCard

/-- THE TIED CARD OF 'handstitchlaw1.HunkIs'. -/
def hunkIsCard : Claim7 := { stood := { row := hunkIsRow, standIns := [], harness := (true, "6a4481957f69e055284033ff3b39a083cce1190222b6e5fec03f1d6557901749"), looks := true }, kinds := [], alts := [], laidByText := true, laidKinds := [.handle], laidTests := true, laidLooks := .later }
def HunkIsCardSaid : Prop := Claim7.holds Tryd.pinned (.plain (OpenSpec.ofChange hunkIsSpec)) hunkIsCard

/-- THE TIED CARD OF 'handstitchlaw1.ApplyIs'. -/
def applyIsCard : Claim7 := { stood := { row := applyIsRow, standIns := [], harness := (true, "6a4481957f69e055284033ff3b39a083cce1190222b6e5fec03f1d6557901749"), looks := true }, kinds := [], alts := [], laidByText := true, laidKinds := [.handle], laidTests := true, laidLooks := .later }
def ApplyIsCardSaid : Prop := Claim7.holds Tryd.pinned (.plain (OpenSpec.ofChange applyIsSpec)) applyIsCard

/-- THE TIED CARD OF 'handstitchlaw1.LooseIs'. -/
def looseIsCard : Claim7 := { stood := { row := looseIsRow, standIns := [], harness := (true, "6a4481957f69e055284033ff3b39a083cce1190222b6e5fec03f1d6557901749"), looks := true }, kinds := [], alts := [], laidByText := true, laidKinds := [.handle], laidTests := true, laidLooks := .later }
def LooseIsCardSaid : Prop := Claim7.holds Tryd.pinned (.plain (OpenSpec.ofChange looseIsSpec)) looseIsCard

/-- THE SECOND FORM's CARD OF 'handstitchlaw1.EditIs'. -/
def editIsUptoCard : Claim7 := { stood := { row := editIsUptoRow, standIns := [], harness := (true, "6a4481957f69e055284033ff3b39a083cce1190222b6e5fec03f1d6557901749"), looks := true }, kinds := [], alts := [], laidByText := true, laidKinds := [.handle], laidTests := true, laidLooks := .later }
def EditIsUptoCardSaid : Prop := Claim7.holds Tryd.pinned (.plain (OpenSpec.upto editIsSpec)) editIsUptoCard

/-- THE SECOND FORM's CARD OF 'handstitchlaw1.HunkIs'. -/
def hunkIsUptoCard : Claim7 := { stood := { row := hunkIsUptoRow, standIns := [], harness := (true, "6a4481957f69e055284033ff3b39a083cce1190222b6e5fec03f1d6557901749"), looks := true }, kinds := [], alts := [], laidByText := true, laidKinds := [.handle], laidTests := true, laidLooks := .later }
def HunkIsUptoCardSaid : Prop := Claim7.holds Tryd.pinned (.plain (OpenSpec.upto hunkIsSpec)) hunkIsUptoCard

/-- THE SECOND FORM's CARD OF 'handstitchlaw1.ApplyIs'. -/
def applyIsUptoCard : Claim7 := { stood := { row := applyIsUptoRow, standIns := [], harness := (true, "6a4481957f69e055284033ff3b39a083cce1190222b6e5fec03f1d6557901749"), looks := true }, kinds := [], alts := [], laidByText := true, laidKinds := [.handle], laidTests := true, laidLooks := .later }
def ApplyIsUptoCardSaid : Prop := Claim7.holds Tryd.pinned (.plain (OpenSpec.upto applyIsSpec)) applyIsUptoCard

/-- THE SECOND FORM's CARD OF 'handstitchlaw1.LooseIs'. -/
def looseIsUptoCard : Claim7 := { stood := { row := looseIsUptoRow, standIns := [], harness := (true, "6a4481957f69e055284033ff3b39a083cce1190222b6e5fec03f1d6557901749"), looks := true }, kinds := [], alts := [], laidByText := true, laidKinds := [.handle], laidTests := true, laidLooks := .later }
def LooseIsUptoCardSaid : Prop := Claim7.holds Tryd.pinned (.plain (OpenSpec.upto looseIsSpec)) looseIsUptoCard
end Rows
end Go.Proofs.YtlflhehlbnbhgaaDoor
