/-
  No cell of these rows narrows 'for every input' (looked for: loops, veiled, ifaces, maps, wideKeys, modest, calm, conditions, laid).
  DERIVED. THE GIVEN ROWS OF THIS SEAT. 4 by the template 'for every input the law returns true; each argument reads behind the call as it read before'; 0 by the template 'total and deterministic' (their statements: YteaclccoicplgaaTotals.lean).
  GIVEN WITH THE SEED: the statements are not yours to turn. If you find one false, say at which input.
  Laid BY PROGRAM, IN A SANDBOX (cutbox-rows.mjs): the forced cells as the released guide's own fill.sh prints them over the translation 7058e6ec0a69e021… (all of the seat's roots in one cut). By AI agents, Wed Nov 11 2026. No macro, syntax, notation, axiom, sorry.
-/
import Derived.Test.YteaclccoicplgaaChecked
import GoSem.Claim
import GoSem.ClaimJoined
import GoSem.ClaimMapViews
import Derived.JoinedTies
import Derived.KernelRfl
namespace Go.Proofs.Yteaclccoicplgaa
/- THE CELL 'sum', in the pinned program and in every row, IS THE sha256 OF THE DUMP (.gsa) THAT YteaclccoicplgaaProg.lean LOADS. Nothing in Lean hashes anything: it is a label: what it is worth is what the hold of that sum in a sandbox is worth. -/
noncomputable def Try.pinned : Pinned := { name := "yteaclccoicplgaa", sum := "7058e6ec0a69e021df6d6db03e0ec7bbbbc948fbc8eaee573477ba54b8237568", checked := Try.checked }
namespace Rows
def none {H : Type} : Left H := { results := [], args := [] }

/-- 'handstitchlaw1.Names': WHATEVER THE INPUT: true; the input reads as it did. -/
def namesSpec : ChangeSpec := { name := "names", fn := fun _ => fun
  | [] => { results := [.lit (.bool true)], args := [] }
  | _ => none }
def namesRow : OpenClaim := { program := "yteaclccoicplgaa", sum := "7058e6ec0a69e021df6d6db03e0ec7bbbbc948fbc8eaee573477ba54b8237568", func := "handstitch/handstitchlaw1.Names", spec := "names", apart := false }
def NamesSaid : Prop := namesRow.holds Try.pinned (OpenSpec.ofChange namesSpec)

/-- ITS FALSE NEIGHBOUR: 'it returns false'. Refute it at one input. -/
def namesWrong : ChangeSpec := { name := "names", fn := fun _ => fun
  | [] => { results := [.lit (.bool false)], args := [] }
  | _ => none }
def NamesWrongFalsely : Prop := namesRow.holds Try.pinned (OpenSpec.ofChange namesWrong)

/-- 'handstitchlaw1.EditFar': WHATEVER THE INPUT: true; the input reads as it did. -/
def editFarSpec : ChangeSpec := { name := "editFar", fn := fun _ => fun
  | [d1, d2, d3] => { results := [.lit (.bool true)], args := [d1, d2, d3] }
  | _ => none }
def editFarRow : OpenClaim := { program := "yteaclccoicplgaa", sum := "7058e6ec0a69e021df6d6db03e0ec7bbbbc948fbc8eaee573477ba54b8237568", func := "handstitch/handstitchlaw1.EditFar", spec := "editFar", inPlace := ["internal/bytealg.IndexByteString", "internal/bytealg.IndexString"], named := ["internal/bytealg.MaxLen"], apart := false }
def EditFarSaid : Prop := editFarRow.holds Try.pinned (OpenSpec.ofChange editFarSpec)

/-- ITS FALSE NEIGHBOUR: 'it returns false'. Refute it at one input. -/
def editFarWrong : ChangeSpec := { name := "editFar", fn := fun _ => fun
  | [d1, d2, d3] => { results := [.lit (.bool false)], args := [d1, d2, d3] }
  | _ => none }
def EditFarWrongFalsely : Prop := editFarRow.holds Try.pinned (OpenSpec.ofChange editFarWrong)

/-- 'handstitchlaw1.EditLeads': WHATEVER THE INPUT: true; the input reads as it did. -/
def editLeadsSpec : ChangeSpec := { name := "editLeads", fn := fun _ => fun
  | [d1, d2, d3] => { results := [.lit (.bool true)], args := [d1, d2, d3] }
  | _ => none }
def editLeadsRow : OpenClaim := { program := "yteaclccoicplgaa", sum := "7058e6ec0a69e021df6d6db03e0ec7bbbbc948fbc8eaee573477ba54b8237568", func := "handstitch/handstitchlaw1.EditLeads", spec := "editLeads", inPlace := ["internal/bytealg.IndexByteString", "internal/bytealg.IndexString"], named := ["internal/bytealg.MaxLen"], apart := false }
def EditLeadsSaid : Prop := editLeadsRow.holds Try.pinned (OpenSpec.ofChange editLeadsSpec)

/-- ITS FALSE NEIGHBOUR: 'it returns false'. Refute it at one input. -/
def editLeadsWrong : ChangeSpec := { name := "editLeads", fn := fun _ => fun
  | [d1, d2, d3] => { results := [.lit (.bool false)], args := [d1, d2, d3] }
  | _ => none }
def EditLeadsWrongFalsely : Prop := editLeadsRow.holds Try.pinned (OpenSpec.ofChange editLeadsWrong)

/-- 'handstitchlaw1.HunkCovers': WHATEVER THE INPUT: true; the input reads as it did. -/
def hunkCoversSpec : ChangeSpec := { name := "hunkCovers", fn := fun _ => fun
  | [d1, d2, d3] => { results := [.lit (.bool true)], args := [d1, d2, d3] }
  | _ => none }
def hunkCoversRow : OpenClaim := { program := "yteaclccoicplgaa", sum := "7058e6ec0a69e021df6d6db03e0ec7bbbbc948fbc8eaee573477ba54b8237568", func := "handstitch/handstitchlaw1.HunkCovers", spec := "hunkCovers", inPlace := ["internal/bytealg.IndexByteString", "internal/bytealg.IndexString"], unfollowed := true, recurses := true, named := ["internal/bytealg.MaxLen"], apart := false }
def HunkCoversSaid : Prop := hunkCoversRow.holds Try.pinned (OpenSpec.ofChange hunkCoversSpec)

/-- ITS FALSE NEIGHBOUR: 'it returns false'. Refute it at one input. -/
def hunkCoversWrong : ChangeSpec := { name := "hunkCovers", fn := fun _ => fun
  | [d1, d2, d3] => { results := [.lit (.bool false)], args := [d1, d2, d3] }
  | _ => none }
def HunkCoversWrongFalsely : Prop := hunkCoversRow.holds Try.pinned (OpenSpec.ofChange hunkCoversWrong)

/- THE SECOND FORM. 'bulk': how many values and letters a reading holds, each counted each time it is reached (what is shared counts as often as it is met; a slice's spare places count too). A statement '..UptoSaid' is the law's where the arguments, and the package variables that the reading takes, are together of bulk at most 1048576: NARROWER than '..Said'. Prove '..Said' where nothing that the law and all that it calls make is longer than what came in: it says more and counts as full. Else prove '..UptoSaid'. A law counts once. -/
mutual
def uptoBulk {H : Type} : DataW H → Nat
  | .lit (.string bytes) => bytes.length + 1
  | .lit _ => 1
  | .nil => 1
  | .ptr d => uptoBulk d + 1
  | .slice elems spare => uptoBulkAll elems + uptoBulkAll spare + 1
  | .agg parts => uptoBulkAll parts + 1
  | .iface _ d => uptoBulk d + 1
  | .map entries => uptoBulkEntries entries + 1
  | .held _ => 1
def uptoBulkAll {H : Type} : List (DataW H) → Nat
  | [] => 0
  | d :: r => uptoBulk d + uptoBulkAll r
def uptoBulkEntries {H : Type} : List (Lit × DataW H) → Nat
  | [] => 0
  | x :: r => uptoBulkEntry x + uptoBulkEntries r
def uptoBulkEntry {H : Type} : Lit × DataW H → Nat
  | (.string bytes, d) => bytes.length + uptoBulk d + 1
  | (_, d) => uptoBulk d + 1
 end
def uptoSmall : (H : Type) → List (DataW H) → Bool := fun _ ds => decide (uptoBulkAll ds ≤ 1048576)
def OpenSpec.upto (s : _root_.Go.ChangeSpec) : _root_.Go.OpenSpec := { _root_.Go.OpenSpec.ofChange s with cond := some uptoSmall }

/-- 'handstitchlaw1.Names', WHERE WHAT IT READS IS OF BULK AT MOST 1048576: true; the input reads as it did. -/
def namesUptoRow : OpenClaim := { program := "yteaclccoicplgaa", sum := "7058e6ec0a69e021df6d6db03e0ec7bbbbc948fbc8eaee573477ba54b8237568", func := "handstitch/handstitchlaw1.Names", spec := "names", apart := false, narrowed := true }
def NamesUptoSaid : Prop := namesUptoRow.holds Try.pinned (OpenSpec.upto namesSpec)

/-- 'handstitchlaw1.EditFar', WHERE WHAT IT READS IS OF BULK AT MOST 1048576: true; the input reads as it did. -/
def editFarUptoRow : OpenClaim := { program := "yteaclccoicplgaa", sum := "7058e6ec0a69e021df6d6db03e0ec7bbbbc948fbc8eaee573477ba54b8237568", func := "handstitch/handstitchlaw1.EditFar", spec := "editFar", inPlace := ["internal/bytealg.IndexByteString", "internal/bytealg.IndexString"], named := ["internal/bytealg.MaxLen"], apart := false, narrowed := true }
def EditFarUptoSaid : Prop := editFarUptoRow.holds Try.pinned (OpenSpec.upto editFarSpec)

/-- 'handstitchlaw1.EditLeads', WHERE WHAT IT READS IS OF BULK AT MOST 1048576: true; the input reads as it did. -/
def editLeadsUptoRow : OpenClaim := { program := "yteaclccoicplgaa", sum := "7058e6ec0a69e021df6d6db03e0ec7bbbbc948fbc8eaee573477ba54b8237568", func := "handstitch/handstitchlaw1.EditLeads", spec := "editLeads", inPlace := ["internal/bytealg.IndexByteString", "internal/bytealg.IndexString"], named := ["internal/bytealg.MaxLen"], apart := false, narrowed := true }
def EditLeadsUptoSaid : Prop := editLeadsUptoRow.holds Try.pinned (OpenSpec.upto editLeadsSpec)

/-- 'handstitchlaw1.HunkCovers', WHERE WHAT IT READS IS OF BULK AT MOST 1048576: true; the input reads as it did. -/
def hunkCoversUptoRow : OpenClaim := { program := "yteaclccoicplgaa", sum := "7058e6ec0a69e021df6d6db03e0ec7bbbbc948fbc8eaee573477ba54b8237568", func := "handstitch/handstitchlaw1.HunkCovers", spec := "hunkCovers", inPlace := ["internal/bytealg.IndexByteString", "internal/bytealg.IndexString"], unfollowed := true, recurses := true, named := ["internal/bytealg.MaxLen"], apart := false, narrowed := true }
def HunkCoversUptoSaid : Prop := hunkCoversUptoRow.holds Try.pinned (OpenSpec.upto hunkCoversSpec)

end Rows
end Go.Proofs.Yteaclccoicplgaa
