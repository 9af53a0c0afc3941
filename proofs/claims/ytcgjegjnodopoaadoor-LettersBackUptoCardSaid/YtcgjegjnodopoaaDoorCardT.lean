/-
  WHAT THE CARDS WANT WHERE utf8's TABLES ARE LISTED: the variables' cells, a world that meets the condition.
-/
import Derived.Test.YtcgjegjnodopoaaDoorCard
import Derived.Test.YtcgjegjnodopoaaDoorShelf
import Derived.ChangeMaps5
namespace Go.Proofs.YtcgjegjnodopoaaDoor
open Go.ChangeShapes Go.WideShapes Go.ChangeAt Go.RowKit

abbrev listedTE : List (String × DataW Unit) := [("unicode/utf8.acceptRanges", Rows.laid_unicode_utf8_acceptRanges), ("errors.errorType", Rows.laid_errors_errorType), ("unicode/utf8.first", Rows.laid_unicode_utf8_first)]
abbrev listedT : List (String × DataW Unit) := [("unicode/utf8.acceptRanges", Rows.laid_unicode_utf8_acceptRanges), ("unicode/utf8.first", Rows.laid_unicode_utf8_first)]
theorem handle_of_laidTE {W : World} (h : laidMetH Tryd.prog listedTE W) : W.cell? ⟨0, 0, none⟩ = some errT := by
  have h' : laidMet Tryd.prog listedT W ∧ handlesMet Tryd.prog listed W := h
  obtain ⟨name, u, ty, e1, e2, e3, e4, e5⟩ := h'.2 _ (List.mem_singleton.2 rfl)
  have en : name = [101, 114, 114, 111, 114] := (Option.some.inj e1).symm
  subst en
  obtain rfl := Option.some.inj (as_rt.symm.trans e2)
  have hm : ty ∈ (List.range 139).filter fun t => Tryd.prog.rowNamed t [101, 114, 114, 111, 114] := List.mem_filter.2 ⟨List.mem_range.2 (by rw [← as_size]; exact e3), e4⟩
  rw [as_oneRow] at hm
  obtain rfl := List.mem_singleton.1 hm
  have hh : typeHandle Tryd.prog 26 = .pointer (some ⟨4, 26, none⟩) := by kernel_rfl
  rw [hh] at e5
  simpa using World.var?_cell as_et e5 0
theorem maxlen_of {W : World} (h : W.ShapedOpen Tryd.prog) : ∃ m, W.cell? ⟨1, 0, none⟩ = some (.int .i64 m) := Go.Proofs.cell_of_shapedOpen_int (zero := #[.int .i64 0]) (t := 3) h (of_decide_eq_true (by kernel_rfl)) (by kernel_rfl) rfl (by kernel_rfl) (by kernel_rfl) Tryd.underlying3

def litOf : DataW Unit → List Value
  | .lit (.int k n) => [.int k n]
  | _ => []
def partOf : DataW Unit → List Value
  | .agg es => es.flatMap litOf
  | d => litOf d
def tableOf : DataW Unit → List Value
  | .agg ds => ds.flatMap partOf
  | d => litOf d
def setTable (w : World) (g : Nat) (cs : List Value) : World :=
  { w with heap := w.heap.modify g fun
      | .cells _ t frozen => .cells cs.toArray t frozen
      | o => o }
noncomputable def laidWorldT (os : Os) : World := setTable (setTable (laidWorld os) 3 (tableOf Rows.laid_unicode_utf8_acceptRanges)) 2 (tableOf Rows.laid_unicode_utf8_first)
theorem laidWorldT_metT (os : Os) (args : Array Value) : laidMet Tryd.prog listedT ((laidWorldT os).forCall (fun _ _ => 0) ⟨#[], args, []⟩).memory :=
  laidMet_of_run' 8 (by kernel_rfl) (by kernel_rfl)
theorem laidWorldT_met (os : Os) (args : Array Value) : laidMetH Tryd.prog listedT ((laidWorldT os).forCall (fun _ _ => 0) ⟨#[], args, []⟩).memory := laidWorldT_metT os args
theorem laidWorldTE_met (os : Os) (args : Array Value) : laidMetH Tryd.prog listedTE ((laidWorldT os).forCall (fun _ _ => 0) ⟨#[], args, []⟩).memory :=
  laidMetH_of_parts (laidWorldT_metT os args) (by kernel_rfl)
end Go.Proofs.YtcgjegjnodopoaaDoor
