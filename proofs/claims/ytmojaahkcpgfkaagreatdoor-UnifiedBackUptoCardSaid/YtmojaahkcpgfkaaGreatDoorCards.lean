/-
  DERIVED. GIVEN WITH THE SEED: THE CARDS: each row of YtmojaahkcpgfkaaGreatDoorRows.lean that lists a variable, with what it lists TIED to the program's text (the seventh form; the later family's looks); each row that meets fmt, with fmt's text TOLD by the authors' own Lean function (tested against real Go, not proved from fmt's source: count such statements apart). THE CARD IS WHAT COUNTS. Prove the row's statement (the work); the ties are given (YtmojaahkcpgfkaaGreatDoorTie.lean); close each card by the builder's one call (the guide's Derived/Test/ToyasCard.lean, 'card_holds'). Laid BY PROGRAM, IN A SANDBOX (cutbox-door.mjs). By AI agents, Wed Nov 11 2026. No macro, syntax, notation, axiom, sorry.
-/
import Derived.Test.YtmojaahkcpgfkaaGreatDoorRows
import GoSem.ClaimSeven
namespace Go.Proofs.YtmojaahkcpgfkaaGreatDoor
namespace Rows

/-- THE TIED CARD OF 'handstitchlaw1.UnifiedIs'. -/
def unifiedIsCard : Claim7 := { stood := { row := unifiedIsRow, standIns := [], harness := (true, "a6ffed7e4e568d55aef507012588a5cebcc4828a10644662f5ee8c599390b692"), looks := true }, kinds := [], alts := [], laidByText := true, laidKinds := [.data, .data, .data, .data, .handle, .sentinel, .sentinel, .pinned], laidTests := true, laidLooks := .later }
def UnifiedIsCardSaid : Prop := Claim7.holds Tryz.pinned (.plain (OpenSpec.ofChange unifiedIsSpec)) unifiedIsCard

/-- THE TIED CARD OF 'handstitchlaw1.UnifiedBack'. -/
def unifiedBackCard : Claim7 := { stood := { row := unifiedBackRow, standIns := [], harness := (true, "a6ffed7e4e568d55aef507012588a5cebcc4828a10644662f5ee8c599390b692"), looks := true }, kinds := [], alts := [], laidByText := true, laidKinds := [.data, .data, .data, .data, .handle, .sentinel, .sentinel, .pinned], laidTests := true, laidLooks := .later }
def UnifiedBackCardSaid : Prop := Claim7.holds Tryz.pinned (.plain (OpenSpec.ofChange unifiedBackSpec)) unifiedBackCard

/-- THE TIED CARD OF 'handstitchlaw2.GitIs'. -/
def gitIsCard : Claim7 := { stood := { row := gitIsRow, standIns := [], harness := (true, "a6ffed7e4e568d55aef507012588a5cebcc4828a10644662f5ee8c599390b692"), looks := true }, kinds := [], alts := [], laidByText := true, laidKinds := [.data, .data, .data, .data, .handle, .sentinel, .sentinel, .pinned], laidTests := true, laidLooks := .later }
def GitIsCardSaid : Prop := Claim7.holds Tryz.pinned (.plain (OpenSpec.ofChange gitIsSpec)) gitIsCard

/-- THE SECOND FORM's CARD OF 'handstitchlaw1.UnifiedIs'. -/
def unifiedIsUptoCard : Claim7 := { stood := { row := unifiedIsUptoRow, standIns := [], harness := (true, "a6ffed7e4e568d55aef507012588a5cebcc4828a10644662f5ee8c599390b692"), looks := true }, kinds := [], alts := [], laidByText := true, laidKinds := [.data, .data, .data, .data, .handle, .sentinel, .sentinel, .pinned], laidTests := true, laidLooks := .later }
def UnifiedIsUptoCardSaid : Prop := Claim7.holds Tryz.pinned (.plain (OpenSpec.upto unifiedIsSpec)) unifiedIsUptoCard

/-- THE SECOND FORM's CARD OF 'handstitchlaw1.UnifiedBack'. -/
def unifiedBackUptoCard : Claim7 := { stood := { row := unifiedBackUptoRow, standIns := [], harness := (true, "a6ffed7e4e568d55aef507012588a5cebcc4828a10644662f5ee8c599390b692"), looks := true }, kinds := [], alts := [], laidByText := true, laidKinds := [.data, .data, .data, .data, .handle, .sentinel, .sentinel, .pinned], laidTests := true, laidLooks := .later }
def UnifiedBackUptoCardSaid : Prop := Claim7.holds Tryz.pinned (.plain (OpenSpec.upto unifiedBackSpec)) unifiedBackUptoCard

/-- THE SECOND FORM's CARD OF 'handstitchlaw2.GitIs'. -/
def gitIsUptoCard : Claim7 := { stood := { row := gitIsUptoRow, standIns := [], harness := (true, "a6ffed7e4e568d55aef507012588a5cebcc4828a10644662f5ee8c599390b692"), looks := true }, kinds := [], alts := [], laidByText := true, laidKinds := [.data, .data, .data, .data, .handle, .sentinel, .sentinel, .pinned], laidTests := true, laidLooks := .later }
def GitIsUptoCardSaid : Prop := Claim7.holds Tryz.pinned (.plain (OpenSpec.upto gitIsSpec)) gitIsUptoCard
end Rows
end Go.Proofs.YtmojaahkcpgfkaaGreatDoor
