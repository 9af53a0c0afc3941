/-
  No cell of these rows narrows 'for every input' (looked for: loops, veiled, ifaces, maps, wideKeys, modest, calm, conditions, laid).
  DERIVED. THE GIVEN ROWS OF THIS SEAT. 4 by the template 'for every input the law returns true; each argument reads behind the call as it read before'; 0 by the template 'total and deterministic' (their statements: YtlflhehlbnbhgaaTotals.lean).
  GIVEN WITH THE SEED: the statements are not yours to turn. If you find one false, say at which input.
  Laid BY PROGRAM, IN A SANDBOX (cutbox-rows.mjs): the forced cells as the released guide's own fill.sh prints them over the translation c42ac0f418be59e6… (all of the seat's roots in one cut). By AI agents, Wed Nov 11 2026. No macro, syntax, notation, axiom, sorry.
-/
import Derived.Test.YtlflhehlbnbhgaaChecked
import GoSem.Claim
import GoSem.ClaimJoined
import GoSem.ClaimMapViews
import Derived.JoinedTies
import Derived.KernelRfl
namespace Go.Proofs.Ytlflhehlbnbhgaa
/- THE CELL 'sum', in the pinned program and in every row, IS THE sha256 OF THE DUMP (.gsa) THAT YtlflhehlbnbhgaaProg.lean LOADS. Nothing in Lean hashes anything: it is a label: what it is worth is what the hold of that sum in a sandbox is worth. -/
noncomputable def Try.pinned : Pinned := { name := "ytlflhehlbnbhgaa", sum := "c42ac0f418be59e68483644071683168555ae0f0b92fda5ee8bc3463ffa2bd74", checked := Try.checked }
namespace Rows
def none {H : Type} : Left H := { results := [], args := [] }

/-- 'handstitchlaw1.HunkCovers': WHATEVER THE INPUT: true; the input reads as it did. -/
def hunkCoversSpec : ChangeSpec := { name := "hunkCovers", fn := fun _ => fun
  | [d1, d2, d3] => { results := [.lit (.bool true)], args := [d1, d2, d3] }
  | _ => none }
def hunkCoversRow : OpenClaim := { program := "ytlflhehlbnbhgaa", sum := "c42ac0f418be59e68483644071683168555ae0f0b92fda5ee8bc3463ffa2bd74", func := "handstitch/handstitchlaw1.HunkCovers", spec := "hunkCovers", inPlace := ["internal/bytealg.IndexByteString", "internal/bytealg.IndexString"], unfollowed := true, recurses := true, named := ["internal/bytealg.MaxLen"], apart := false }
def HunkCoversSaid : Prop := hunkCoversRow.holds Try.pinned (OpenSpec.ofChange hunkCoversSpec)

/-- ITS FALSE NEIGHBOUR: 'it returns false'. Refute it at one input. -/
def hunkCoversWrong : ChangeSpec := { name := "hunkCovers", fn := fun _ => fun
  | [d1, d2, d3] => { results := [.lit (.bool false)], args := [d1, d2, d3] }
  | _ => none }
def HunkCoversWrongFalsely : Prop := hunkCoversRow.holds Try.pinned (OpenSpec.ofChange hunkCoversWrong)

/-- 'handstitchlaw1.LooseExact': WHATEVER THE INPUT: true; the input reads as it did. -/
def looseExactSpec : ChangeSpec := { name := "looseExact", fn := fun _ => fun
  | [d1, d2, d3, d4] => { results := [.lit (.bool true)], args := [d1, d2, d3, d4] }
  | _ => none }
def looseExactRow : OpenClaim := { program := "ytlflhehlbnbhgaa", sum := "c42ac0f418be59e68483644071683168555ae0f0b92fda5ee8bc3463ffa2bd74", func := "handstitch/handstitchlaw1.LooseExact", spec := "looseExact", inPlace := ["internal/bytealg.IndexByteString", "internal/bytealg.IndexString"], unfollowed := true, recurses := true, named := ["internal/bytealg.MaxLen"], apart := false }
def LooseExactSaid : Prop := looseExactRow.holds Try.pinned (OpenSpec.ofChange looseExactSpec)

/-- ITS FALSE NEIGHBOUR: 'it returns false'. Refute it at one input. -/
def looseExactWrong : ChangeSpec := { name := "looseExact", fn := fun _ => fun
  | [d1, d2, d3, d4] => { results := [.lit (.bool false)], args := [d1, d2, d3, d4] }
  | _ => none }
def LooseExactWrongFalsely : Prop := looseExactRow.holds Try.pinned (OpenSpec.ofChange looseExactWrong)

/-- 'handstitchlaw1.ApplyMakes': WHATEVER THE INPUT: true; the input reads as it did. -/
def applyMakesSpec : ChangeSpec := { name := "applyMakes", fn := fun _ => fun
  | [d1, d2, d3, d4] => { results := [.lit (.bool true)], args := [d1, d2, d3, d4] }
  | _ => none }
def applyMakesRow : OpenClaim := { program := "ytlflhehlbnbhgaa", sum := "c42ac0f418be59e68483644071683168555ae0f0b92fda5ee8bc3463ffa2bd74", func := "handstitch/handstitchlaw1.ApplyMakes", spec := "applyMakes", inPlace := ["internal/bytealg.IndexByteString", "internal/bytealg.IndexString"], unfollowed := true, recurses := true, named := ["internal/bytealg.MaxLen"], apart := false }
def ApplyMakesSaid : Prop := applyMakesRow.holds Try.pinned (OpenSpec.ofChange applyMakesSpec)

/-- ITS FALSE NEIGHBOUR: 'it returns false'. Refute it at one input. -/
def applyMakesWrong : ChangeSpec := { name := "applyMakes", fn := fun _ => fun
  | [d1, d2, d3, d4] => { results := [.lit (.bool false)], args := [d1, d2, d3, d4] }
  | _ => none }
def ApplyMakesWrongFalsely : Prop := applyMakesRow.holds Try.pinned (OpenSpec.ofChange applyMakesWrong)

/-- 'handstitchlaw1.LooseMoves': WHATEVER THE INPUT: true; the input reads as it did. -/
def looseMovesSpec : ChangeSpec := { name := "looseMoves", fn := fun _ => fun
  | [d1, d2, d3, d4] => { results := [.lit (.bool true)], args := [d1, d2, d3, d4] }
  | _ => none }
def looseMovesRow : OpenClaim := { program := "ytlflhehlbnbhgaa", sum := "c42ac0f418be59e68483644071683168555ae0f0b92fda5ee8bc3463ffa2bd74", func := "handstitch/handstitchlaw1.LooseMoves", spec := "looseMoves", inPlace := ["internal/bytealg.IndexByteString", "internal/bytealg.IndexString"], unfollowed := true, recurses := true, named := ["internal/bytealg.MaxLen"], apart := false }
def LooseMovesSaid : Prop := looseMovesRow.holds Try.pinned (OpenSpec.ofChange looseMovesSpec)

/-- ITS FALSE NEIGHBOUR: 'it returns false'. Refute it at one input. -/
def looseMovesWrong : ChangeSpec := { name := "looseMoves", fn := fun _ => fun
  | [d1, d2, d3, d4] => { results := [.lit (.bool false)], args := [d1, d2, d3, d4] }
  | _ => none }
def LooseMovesWrongFalsely : Prop := looseMovesRow.holds Try.pinned (OpenSpec.ofChange looseMovesWrong)

/- THE SECOND FORM. 'bulk': how many values and letters a reading holds, each counted each time it is reached (what is shared counts as often as it is met; a slice's spare places count too). A statement '..UptoSaid' is the law's where the arguments, and the package variables that the reading takes, are together of bulk at most 1048576: NARROWER than '..Said'. Prove '..Said' where nothing that the law and all that it calls make is longer than what came in: it says more and counts as full. Else prove '..UptoSaid'. A law counts once. -/
mutual
def uptoBulk {H : Type} : DataW H → Nat
  | .lit (.string bytes) => bytes.length + 1
  | .lit _ => 1
  | .nil => 1
  | .ptr d => uptoBulk d + 1
  | .slice elems spare => uptoBulkAll elems + uptoBulkAll spare + 1
  | .agg parts => uptoBulkAll parts + 1
  | .iface _ d => uptoBulk d + 1
  | .map entries => uptoBulkEntries entries + 1
  | .held _ => 1
def uptoBulkAll {H : Type} : List (DataW H) → Nat
  | [] => 0
  | d :: r => uptoBulk d + uptoBulkAll r
def uptoBulkEntries {H : Type} : List (Lit × DataW H) → Nat
  | [] => 0
  | x :: r => uptoBulkEntry x + uptoBulkEntries r
def uptoBulkEntry {H : Type} : Lit × DataW H → Nat
  | (.string bytes, d) => bytes.length + uptoBulk d + 1
  | (_, d) => uptoBulk d + 1
 end
def uptoSmall : (H : Type) → List (DataW H) → Bool := fun _ ds => decide (uptoBulkAll ds ≤ 1048576)
def OpenSpec.upto (s : _root_.Go.ChangeSpec) : _root_.Go.OpenSpec := { _root_.Go.OpenSpec.ofChange s with cond := some uptoSmall }

/-- 'handstitchlaw1.HunkCovers', WHERE WHAT IT READS IS OF BULK AT MOST 1048576: true; the input reads as it did. -/
def hunkCoversUptoRow : OpenClaim := { program := "ytlflhehlbnbhgaa", sum := "c42ac0f418be59e68483644071683168555ae0f0b92fda5ee8bc3463ffa2bd74", func := "handstitch/handstitchlaw1.HunkCovers", spec := "hunkCovers", inPlace := ["internal/bytealg.IndexByteString", "internal/bytealg.IndexString"], unfollowed := true, recurses := true, named := ["internal/bytealg.MaxLen"], apart := false, narrowed := true }
def HunkCoversUptoSaid : Prop := hunkCoversUptoRow.holds Try.pinned (OpenSpec.upto hunkCoversSpec)

/-- 'handstitchlaw1.LooseExact', WHERE WHAT IT READS IS OF BULK AT MOST 1048576: true; the input reads as it did. -/
def looseExactUptoRow : OpenClaim := { program := "ytlflhehlbnbhgaa", sum := "c42ac0f418be59e68483644071683168555ae0f0b92fda5ee8bc3463ffa2bd74", func := "handstitch/handstitchlaw1.LooseExact", spec := "looseExact", inPlace := ["internal/bytealg.IndexByteString", "internal/bytealg.IndexString"], unfollowed := true, recurses := true, named := ["internal/bytealg.MaxLen"], apart := false, narrowed := true }
def LooseExactUptoSaid : Prop := looseExactUptoRow.holds Try.pinned (OpenSpec.upto looseExactSpec)

/-- 'handstitchlaw1.ApplyMakes', WHERE WHAT IT READS IS OF BULK AT MOST 1048576: true; the input reads as it did. -/
def applyMakesUptoRow : OpenClaim := { program := "ytlflhehlbnbhgaa", sum := "c42ac0f418be59e68483644071683168555ae0f0b92fda5ee8bc3463ffa2bd74", func := "handstitch/handstitchlaw1.ApplyMakes", spec := "applyMakes", inPlace := ["internal/bytealg.IndexByteString", "internal/bytealg.IndexString"], unfollowed := true, recurses := true, named := ["internal/bytealg.MaxLen"], apart := false, narrowed := true }
def ApplyMakesUptoSaid : Prop := applyMakesUptoRow.holds Try.pinned (OpenSpec.upto applyMakesSpec)

/-- 'handstitchlaw1.LooseMoves', WHERE WHAT IT READS IS OF BULK AT MOST 1048576: true; the input reads as it did. -/
def looseMovesUptoRow : OpenClaim := { program := "ytlflhehlbnbhgaa", sum := "c42ac0f418be59e68483644071683168555ae0f0b92fda5ee8bc3463ffa2bd74", func := "handstitch/handstitchlaw1.LooseMoves", spec := "looseMoves", inPlace := ["internal/bytealg.IndexByteString", "internal/bytealg.IndexString"], unfollowed := true, recurses := true, named := ["internal/bytealg.MaxLen"], apart := false, narrowed := true }
def LooseMovesUptoSaid : Prop := looseMovesUptoRow.holds Try.pinned (OpenSpec.upto looseMovesSpec)

end Rows
end Go.Proofs.Ytlflhehlbnbhgaa
