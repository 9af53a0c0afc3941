/-
  PARTS: THE LAW RunAnswers, walked.
-/
import Derived.Test.YtmjpfoeaobdaeaaGreatDoorRa27
set_option linter.unusedVariables false
set_option linter.unusedSimpArgs false
namespace Go.Proofs.YtmjpfoeaobdaeaaGreatDoor
open Go.RowKit

set_option maxHeartbeats 1000000 in
set_option maxRecDepth 100000 in
theorem law_runAnswers (s : ByteArray) (w : World) (hs : s.size ≤ 1048576) (mx : Int) (hg : Globs w mx) (hg9 : 9 ≤ w.heap.size) (he : w.cell? ⟨1, 0, none⟩ = some errT) :
    Calls Tryz.prog 3 #[.string s] w fun e w' => e = .returned (.bool true) ∧ Chg Never w w' := by
  have hR := Lib.hid (run_any s (by omega) w mx hg hg9 he)
  go_enter Tryz.func3, Tryz.ntmps3
  go_wp2_with fail
  refine hR.out.mono ?_
  rintro e w1 ⟨rfl, hc1⟩
  have hD := Lib.hid (docrun_any s (by omega) w1)
  generalize toB (runA s.data.toList) = T at hD ⊢
  have tt : (T.toList == T.toList) = true := by simp
  clear hR
  go_wp2_with fail
  refine hD.out.mono ?_
  rintro e w2 ⟨rfl, hc2⟩
  go_wp2_with fail
  go_ret
  exact ⟨rfl, hc1.trans hc2⟩
end Go.Proofs.YtmjpfoeaobdaeaaGreatDoor
