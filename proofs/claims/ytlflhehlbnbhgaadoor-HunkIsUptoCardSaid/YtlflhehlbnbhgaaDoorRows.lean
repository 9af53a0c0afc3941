/-
  NARROWER THAN 'FOR EVERY INPUT', by the rows' own cells (each row's printed sentence says how): EditIs: laid · HunkIs: laid · ApplyIs: laid · LooseIs: laid.
  DERIVED. THE GIVEN ROWS OF THIS SEAT. 4 by the template 'for every input the law returns true; each argument reads behind the call as it read before'; 0 by the template 'total and deterministic' (their statements: YtlflhehlbnbhgaaDoorTotals.lean).
  GIVEN WITH THE SEED: the statements are not yours to turn. If you find one false, say at which input.
  Laid BY PROGRAM, IN A SANDBOX (cutbox-rows.mjs): the forced cells as the released guide's own fill.sh prints them over the translation 6c692b132994a86e… (all of the seat's roots in one cut). By AI agents, Wed Nov 11 2026. No macro, syntax, notation, axiom, sorry.
-/
import Derived.Test.YtlflhehlbnbhgaaDoorChecked
import GoSem.Claim
import GoSem.ClaimJoined
import GoSem.ClaimMapViews
import Derived.JoinedTies
import Derived.KernelRfl
namespace Go.Proofs.YtlflhehlbnbhgaaDoor
/- THE CELL 'sum', in the pinned program and in every row, IS THE sha256 OF THE DUMP (.gsa) THAT YtlflhehlbnbhgaaDoorProg.lean LOADS. Nothing in Lean hashes anything: it is a label: what it is worth is what the hold of that sum in a sandbox is worth. -/
noncomputable def Tryd.pinned : Pinned := { name := "ytlflhehlbnbhgaadoor", sum := "6c692b132994a86e6b8dbe054466e0b4a7f27b4b2f99baf4cc2ba017b1bda711", checked := Tryd.checked }
namespace Rows
def none {H : Type} : Left H := { results := [], args := [] }

/- WHAT THE LISTED PACKAGE-LEVEL VARIABLES READ AS WHEN THE CALL BEGINS. Each datum BY PROGRAM (the guide's laid-datum.mjs) off the statement by which the dump's own 'gosem.cut.vars' lays the variable. In a bare row this is a premise. The card (YtlflhehlbnbhgaaDoorCards.lean) ties it to the program's text. -/
def laid_errors_errorType {H : Type} : DataW H := .iface "internal/reflectlite.rtype" (.agg [.ptr (.lit (.string [101, 114, 114, 111, 114]))])

/-- 'handstitchlaw1.EditIs': WHATEVER THE INPUT: true; the input reads as it did. -/
def editIsSpec : ChangeSpec := { name := "editIs", fn := fun _ => fun
  | [d1, d2, d3] => { results := [.lit (.bool true)], args := [d1, d2, d3] }
  | _ => none }
def editIsRow : OpenClaim := { program := "ytlflhehlbnbhgaadoor", sum := "6c692b132994a86e6b8dbe054466e0b4a7f27b4b2f99baf4cc2ba017b1bda711", func := "handstitch/handstitchlaw1.EditIs", spec := "editIs", inPlace := ["internal/bytealg.IndexByteString", "internal/bytealg.IndexString", "internal/reflectlite.ValueOf", "(internal/reflectlite.Value).Type", "(internal/reflectlite.Value).IsNil", "internal/reflectlite.TypeOf", "(internal/reflectlite.Value).Elem", "(internal/reflectlite.Value).Set"], unfollowed := true, recurses := true, named := ["internal/bytealg.MaxLen", "errors.errorType"], apart := false, laid := [("errors.errorType", laid_errors_errorType)] }
def EditIsSaid : Prop := editIsRow.holds Tryd.pinned (OpenSpec.ofChange editIsSpec)

/-- ITS FALSE NEIGHBOUR: 'it returns false'. Refute it at one input. -/
def editIsWrong : ChangeSpec := { name := "editIs", fn := fun _ => fun
  | [d1, d2, d3] => { results := [.lit (.bool false)], args := [d1, d2, d3] }
  | _ => none }
def EditIsWrongFalsely : Prop := editIsRow.holds Tryd.pinned (OpenSpec.ofChange editIsWrong)

/-- 'handstitchlaw1.HunkIs': WHATEVER THE INPUT: true; the input reads as it did. -/
def hunkIsSpec : ChangeSpec := { name := "hunkIs", fn := fun _ => fun
  | [d1, d2, d3, d4, d5] => { results := [.lit (.bool true)], args := [d1, d2, d3, d4, d5] }
  | _ => none }
def hunkIsRow : OpenClaim := { program := "ytlflhehlbnbhgaadoor", sum := "6c692b132994a86e6b8dbe054466e0b4a7f27b4b2f99baf4cc2ba017b1bda711", func := "handstitch/handstitchlaw1.HunkIs", spec := "hunkIs", inPlace := ["internal/bytealg.IndexByteString", "internal/bytealg.IndexString", "internal/reflectlite.ValueOf", "(internal/reflectlite.Value).Type", "(internal/reflectlite.Value).IsNil", "internal/reflectlite.TypeOf", "(internal/reflectlite.Value).Elem", "(internal/reflectlite.Value).Set"], unfollowed := true, recurses := true, named := ["internal/bytealg.MaxLen", "errors.errorType"], apart := false, laid := [("errors.errorType", laid_errors_errorType)] }
def HunkIsSaid : Prop := hunkIsRow.holds Tryd.pinned (OpenSpec.ofChange hunkIsSpec)

/-- ITS FALSE NEIGHBOUR: 'it returns false'. Refute it at one input. -/
def hunkIsWrong : ChangeSpec := { name := "hunkIs", fn := fun _ => fun
  | [d1, d2, d3, d4, d5] => { results := [.lit (.bool false)], args := [d1, d2, d3, d4, d5] }
  | _ => none }
def HunkIsWrongFalsely : Prop := hunkIsRow.holds Tryd.pinned (OpenSpec.ofChange hunkIsWrong)

/-- 'handstitchlaw1.ApplyIs': WHATEVER THE INPUT: true; the input reads as it did. -/
def applyIsSpec : ChangeSpec := { name := "applyIs", fn := fun _ => fun
  | [d1, d2] => { results := [.lit (.bool true)], args := [d1, d2] }
  | _ => none }
def applyIsRow : OpenClaim := { program := "ytlflhehlbnbhgaadoor", sum := "6c692b132994a86e6b8dbe054466e0b4a7f27b4b2f99baf4cc2ba017b1bda711", func := "handstitch/handstitchlaw1.ApplyIs", spec := "applyIs", inPlace := ["internal/bytealg.IndexByteString", "internal/bytealg.IndexString", "internal/reflectlite.ValueOf", "(internal/reflectlite.Value).Type", "(internal/reflectlite.Value).IsNil", "internal/reflectlite.TypeOf", "(internal/reflectlite.Value).Elem", "(internal/reflectlite.Value).Set"], unfollowed := true, recurses := true, named := ["internal/bytealg.MaxLen", "errors.errorType"], apart := false, laid := [("errors.errorType", laid_errors_errorType)] }
def ApplyIsSaid : Prop := applyIsRow.holds Tryd.pinned (OpenSpec.ofChange applyIsSpec)

/-- ITS FALSE NEIGHBOUR: 'it returns false'. Refute it at one input. -/
def applyIsWrong : ChangeSpec := { name := "applyIs", fn := fun _ => fun
  | [d1, d2] => { results := [.lit (.bool false)], args := [d1, d2] }
  | _ => none }
def ApplyIsWrongFalsely : Prop := applyIsRow.holds Tryd.pinned (OpenSpec.ofChange applyIsWrong)

/-- 'handstitchlaw1.LooseIs': WHATEVER THE INPUT: true; the input reads as it did. -/
def looseIsSpec : ChangeSpec := { name := "looseIs", fn := fun _ => fun
  | [d1, d2, d3, d4] => { results := [.lit (.bool true)], args := [d1, d2, d3, d4] }
  | _ => none }
def looseIsRow : OpenClaim := { program := "ytlflhehlbnbhgaadoor", sum := "6c692b132994a86e6b8dbe054466e0b4a7f27b4b2f99baf4cc2ba017b1bda711", func := "handstitch/handstitchlaw1.LooseIs", spec := "looseIs", inPlace := ["internal/bytealg.IndexByteString", "internal/bytealg.IndexString", "internal/reflectlite.ValueOf", "(internal/reflectlite.Value).Type", "(internal/reflectlite.Value).IsNil", "internal/reflectlite.TypeOf", "(internal/reflectlite.Value).Elem", "(internal/reflectlite.Value).Set"], unfollowed := true, recurses := true, named := ["internal/bytealg.MaxLen", "errors.errorType"], apart := false, laid := [("errors.errorType", laid_errors_errorType)] }
def LooseIsSaid : Prop := looseIsRow.holds Tryd.pinned (OpenSpec.ofChange looseIsSpec)

/-- ITS FALSE NEIGHBOUR: 'it returns false'. Refute it at one input. -/
def looseIsWrong : ChangeSpec := { name := "looseIs", fn := fun _ => fun
  | [d1, d2, d3, d4] => { results := [.lit (.bool false)], args := [d1, d2, d3, d4] }
  | _ => none }
def LooseIsWrongFalsely : Prop := looseIsRow.holds Tryd.pinned (OpenSpec.ofChange looseIsWrong)

/- THE SECOND FORM. 'bulk': how many values and letters a reading holds, each counted each time it is reached (what is shared counts as often as it is met; a slice's spare places count too). A statement '..UptoSaid' is the law's where the arguments, and the package variables that the reading takes, are together of bulk at most 1048576: NARROWER than '..Said'. Prove '..Said' where nothing that the law and all that it calls make is longer than what came in: it says more and counts as full. Else prove '..UptoSaid'. A law counts once. -/
mutual
def uptoBulk {H : Type} : DataW H → Nat
  | .lit (.string bytes) => bytes.length + 1
  | .lit _ => 1
  | .nil => 1
  | .ptr d => uptoBulk d + 1
  | .slice elems spare => uptoBulkAll elems + uptoBulkAll spare + 1
  | .agg parts => uptoBulkAll parts + 1
  | .iface _ d => uptoBulk d + 1
  | .map entries => uptoBulkEntries entries + 1
  | .held _ => 1
def uptoBulkAll {H : Type} : List (DataW H) → Nat
  | [] => 0
  | d :: r => uptoBulk d + uptoBulkAll r
def uptoBulkEntries {H : Type} : List (Lit × DataW H) → Nat
  | [] => 0
  | x :: r => uptoBulkEntry x + uptoBulkEntries r
def uptoBulkEntry {H : Type} : Lit × DataW H → Nat
  | (.string bytes, d) => bytes.length + uptoBulk d + 1
  | (_, d) => uptoBulk d + 1
 end
def uptoSmall : (H : Type) → List (DataW H) → Bool := fun _ ds => decide (uptoBulkAll ds ≤ 1048576)
def OpenSpec.upto (s : _root_.Go.ChangeSpec) : _root_.Go.OpenSpec := { _root_.Go.OpenSpec.ofChange s with cond := some uptoSmall }

/-- 'handstitchlaw1.EditIs', WHERE WHAT IT READS IS OF BULK AT MOST 1048576: true; the input reads as it did. -/
def editIsUptoRow : OpenClaim := { program := "ytlflhehlbnbhgaadoor", sum := "6c692b132994a86e6b8dbe054466e0b4a7f27b4b2f99baf4cc2ba017b1bda711", func := "handstitch/handstitchlaw1.EditIs", spec := "editIs", inPlace := ["internal/bytealg.IndexByteString", "internal/bytealg.IndexString", "internal/reflectlite.ValueOf", "(internal/reflectlite.Value).Type", "(internal/reflectlite.Value).IsNil", "internal/reflectlite.TypeOf", "(internal/reflectlite.Value).Elem", "(internal/reflectlite.Value).Set"], unfollowed := true, recurses := true, named := ["internal/bytealg.MaxLen", "errors.errorType"], apart := false, laid := [("errors.errorType", laid_errors_errorType)], narrowed := true }
def EditIsUptoSaid : Prop := editIsUptoRow.holds Tryd.pinned (OpenSpec.upto editIsSpec)

/-- 'handstitchlaw1.HunkIs', WHERE WHAT IT READS IS OF BULK AT MOST 1048576: true; the input reads as it did. -/
def hunkIsUptoRow : OpenClaim := { program := "ytlflhehlbnbhgaadoor", sum := "6c692b132994a86e6b8dbe054466e0b4a7f27b4b2f99baf4cc2ba017b1bda711", func := "handstitch/handstitchlaw1.HunkIs", spec := "hunkIs", inPlace := ["internal/bytealg.IndexByteString", "internal/bytealg.IndexString", "internal/reflectlite.ValueOf", "(internal/reflectlite.Value).Type", "(internal/reflectlite.Value).IsNil", "internal/reflectlite.TypeOf", "(internal/reflectlite.Value).Elem", "(internal/reflectlite.Value).Set"], unfollowed := true, recurses := true, named := ["internal/bytealg.MaxLen", "errors.errorType"], apart := false, laid := [("errors.errorType", laid_errors_errorType)], narrowed := true }
def HunkIsUptoSaid : Prop := hunkIsUptoRow.holds Tryd.pinned (OpenSpec.upto hunkIsSpec)

/-- 'handstitchlaw1.ApplyIs', WHERE WHAT IT READS IS OF BULK AT MOST 1048576: true; the input reads as it did. -/
def applyIsUptoRow : OpenClaim := { program := "ytlflhehlbnbhgaadoor", sum := "6c692b132994a86e6b8dbe054466e0b4a7f27b4b2f99baf4cc2ba017b1bda711", func := "handstitch/handstitchlaw1.ApplyIs", spec := "applyIs", inPlace := ["internal/bytealg.IndexByteString", "internal/bytealg.IndexString", "internal/reflectlite.ValueOf", "(internal/reflectlite.Value).Type", "(internal/reflectlite.Value).IsNil", "internal/reflectlite.TypeOf", "(internal/reflectlite.Value).Elem", "(internal/reflectlite.Value).Set"], unfollowed := true, recurses := true, named := ["internal/bytealg.MaxLen", "errors.errorType"], apart := false, laid := [("errors.errorType", laid_errors_errorType)], narrowed := true }
def ApplyIsUptoSaid : Prop := applyIsUptoRow.holds Tryd.pinned (OpenSpec.upto applyIsSpec)

/-- 'handstitchlaw1.LooseIs', WHERE WHAT IT READS IS OF BULK AT MOST 1048576: true; the input reads as it did. -/
def looseIsUptoRow : OpenClaim := { program := "ytlflhehlbnbhgaadoor", sum := "6c692b132994a86e6b8dbe054466e0b4a7f27b4b2f99baf4cc2ba017b1bda711", func := "handstitch/handstitchlaw1.LooseIs", spec := "looseIs", inPlace := ["internal/bytealg.IndexByteString", "internal/bytealg.IndexString", "internal/reflectlite.ValueOf", "(internal/reflectlite.Value).Type", "(internal/reflectlite.Value).IsNil", "internal/reflectlite.TypeOf", "(internal/reflectlite.Value).Elem", "(internal/reflectlite.Value).Set"], unfollowed := true, recurses := true, named := ["internal/bytealg.MaxLen", "errors.errorType"], apart := false, laid := [("errors.errorType", laid_errors_errorType)], narrowed := true }
def LooseIsUptoSaid : Prop := looseIsUptoRow.holds Tryd.pinned (OpenSpec.upto looseIsSpec)

end Rows
end Go.Proofs.YtlflhehlbnbhgaaDoor
