/-
  THE LAW ApplyIs, walked.
-/
import Derived.Test.YtlflhehlbnbhgaaDoorRefG
import Derived.Test.YtlflhehlbnbhgaaDoorStrict
import Derived.Test.YtlflhehlbnbhgaaDoorAs
namespace Go.Proofs.YtlflhehlbnbhgaaDoor
open Go.RowKit

set_option maxHeartbeats 2000000 in
set_option maxRecDepth 100000 in
theorem law_applyIs (a : List ByteArray) (l : List Hunk) (va vl : Value) (w : World) (ha : Rdv w Never va a) (hl : Rdv w Never vl l) (hg : w.cell? ⟨0, 0, none⟩ = some errT) :
    Calls Tryd.prog 5 #[va, vl] w fun e w' => e = .returned (.bool true) ∧ Chg Never w w' := by
  go_enter Tryd.func5, Tryd.ntmps5
  go_wp2_with fail
  refine (strictOf_any a l _ _ _ ha hl).mono ?_
  rintro e w1 ⟨r1, rfl, hw, hr1⟩
  go_wp2_with fail
  refine (strict_any a l _ _ _ (ha.never hw) (hl.never hw)).mono ?_
  rintro e w2 ⟨r2, rfl, hc2, hr2⟩
  have hw := hw.trans hc2
  have hr1 := hr1.never hc2
  have hr2 := hr2.sub (O' := Never) (fun _ _ h => h.elim)
  clear hc2
  go_wp2_with fail
  refine (error_any _ _ _ (hw.cellNever hg)).mono ?_
  rintro e' w3 ⟨rfl, hc3⟩
  have hw := hw.trans hc3
  have hr1 := hr1.never hc3
  have hr2 := hr2.never hc3
  clear hc3
  rw [beq_self_eq_true]
  go_wp2_with fail
  refine (texts_any _ _ _ _ _ hr2 hr1).mono ?_
  rintro e w4 ⟨rfl, hc4⟩
  have hw := hw.trans hc4
  rw [decide_eq_true rfl]
  clear hc4 hr1 hr2
  go_wp2_with fail
  go_ret
  exact ⟨rfl, hw⟩
end Go.Proofs.YtlflhehlbnbhgaaDoor
