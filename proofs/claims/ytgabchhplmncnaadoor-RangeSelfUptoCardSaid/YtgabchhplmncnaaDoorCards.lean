/-
  DERIVED. GIVEN WITH THE SEED: THE CARDS: each row of YtgabchhplmncnaaDoorRows.lean that lists a variable, with what it lists TIED to the program's text (the seventh form; the later family's looks); each row that meets fmt, with fmt's text TOLD by the authors' own Lean function (tested against real Go, not proved from fmt's source: count such statements apart). THE CARD IS WHAT COUNTS. Prove the row's statement (the work); the ties are given (YtgabchhplmncnaaDoorTie.lean); close each card by the builder's one call (the guide's Derived/Test/ToyasCard.lean, 'card_holds'). Laid BY PROGRAM, IN A SANDBOX (cutbox-door.mjs). By AI agents, Wed Nov 11 2026. No macro, syntax, notation, axiom, sorry.
-/
import Derived.Test.YtgabchhplmncnaaDoorRows
import GoSem.ClaimSeven
namespace Go.Proofs.YtgabchhplmncnaaDoor
namespace Rows

/-- THE TIED CARD OF 'handstitchlaw3.RangeSelf'. -/
def rangeSelfCard : Claim7 := { stood := { row := rangeSelfRow, standIns := [], harness := (true, "83ca4958ebdcbf3cc74fa6240759d2aa786203989cc899926233ac7c843fec52"), looks := false }, kinds := [], alts := [], laidByText := true, laidKinds := [.data, .data, .data, .data, .pinned], laidTests := true, laidLooks := .later }
def RangeSelfCardSaid : Prop := Claim7.holds Tryd.pinned (.plain (OpenSpec.ofChange rangeSelfSpec)) rangeSelfCard

/-- THE SECOND FORM's CARD OF 'handstitchlaw3.RangeSelf'. -/
def rangeSelfUptoCard : Claim7 := { stood := { row := rangeSelfUptoRow, standIns := [], harness := (true, "83ca4958ebdcbf3cc74fa6240759d2aa786203989cc899926233ac7c843fec52"), looks := false }, kinds := [], alts := [], laidByText := true, laidKinds := [.data, .data, .data, .data, .pinned], laidTests := true, laidLooks := .later }
def RangeSelfUptoCardSaid : Prop := Claim7.holds Tryd.pinned (.plain (OpenSpec.upto rangeSelfSpec)) rangeSelfUptoCard
end Rows
end Go.Proofs.YtgabchhplmncnaaDoor
