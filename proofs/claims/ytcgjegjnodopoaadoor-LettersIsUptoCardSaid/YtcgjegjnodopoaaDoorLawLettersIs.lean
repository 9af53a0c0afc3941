/-
  THE LAW LettersIs, walked.
-/
import Derived.Test.YtcgjegjnodopoaaDoorBytesOf
import Derived.Test.YtcgjegjnodopoaaDoorAs
namespace Go.Proofs.YtcgjegjnodopoaaDoor
open Go.RowKit

set_option maxHeartbeats 2000000 in
set_option maxRecDepth 100000 in
theorem law_lettersIs (l : List UInt8) (s : ByteArray) (vl : Value) (w : World) (hl : Rdv w Never vl l) (hs : s.size ≤ 1048576) (m : Int) (hm : w.cell? ⟨1, 0, none⟩ = some (.int .i64 m)) (hg : w.cell? ⟨0, 0, none⟩ = some errT) :
    Calls Tryd.prog 3 #[vl, .string s] w fun e w' => e = .returned (.bool true) ∧ Chg Never w w' := by
  have hv := hl
  obtain ⟨a, cap, rfl, h1, h2, h3⟩ := rdv_slice hl
  unfold maxLen at h2
  by_cases hA : 2000 < l.length ∧ l.length ≤ 40000
  · obtain ⟨q1, q2⟩ := hA
    go_enter Tryd.func3, Tryd.ntmps3
    go_wp2_with fail
    go_ret
    exact ⟨rfl, Chg.refl _ _⟩
  · by_cases hB : 4000 < s.size
    · by_cases q1 : 2000 < l.length
      · have q2 : ¬ l.length ≤ 40000 := fun q => hA ⟨q1, q⟩
        go_enter Tryd.func3, Tryd.ntmps3
        go_wp2_with fail
        go_ret
        exact ⟨rfl, Chg.refl _ _⟩
      · go_enter Tryd.func3, Tryd.ntmps3
        go_wp2_with fail
        go_ret
        exact ⟨rfl, Chg.refl _ _⟩
    · by_cases q1 : 2000 < l.length
      · have q2 : ¬ l.length ≤ 40000 := fun q => hA ⟨q1, q⟩
        have q3 : 40000 < l.length := by omega
        have HR : Hid (encodeR l = ByteArray.empty) := if_pos q3
        have HF : Hid (encFault l = 3) := if_pos q3
        clear hA
        go_enter Tryd.func3, Tryd.ntmps3
        go_wp2_with fail
        refine (Encode_any l _ _ hv).mono ?_
        rintro e w2 ⟨rfl, hw⟩
        rw [HR.out, HF.out]
        go_wp2_with fail
        refine (error_any _ _ _ (hw.cellNever hg)).mono ?_
        rintro e' w' ⟨rfl, hcE⟩
        have hw := hw.trans hcE
        skip
        clear hcE
        rw [beq_self_eq_true]
        go_wp2_with fail
        refine (refBytes_any s _ (by omega)).mono ?_
        rintro e w5 ⟨r5, rfl, hc5, hr5⟩
        have hw := hw.trans hc5
        have hr5 := hr5.sub (O' := Never) (fun _ _ h => h.elim)
        clear hc5
        go_wp2_with fail
        refine (Decode_any s _ (by omega) m (hw.cellNever hm)).mono ?_
        rintro e w6 ⟨r6, rfl, hc6, hr6⟩
        have hw := hw.trans hc6
        have hr5 := hr5.never hc6
        have hr6 := hr6.sub (O' := Never) (fun _ _ h => h.elim)
        clear hc6
        go_wp2_with fail
        refine (error_any _ _ _ (hw.cellNever hg)).mono ?_
        rintro e' w' ⟨rfl, hcE⟩
        have hw := hw.trans hcE
        have hr5 := hr5.never hcE; have hr6 := hr6.never hcE
        clear hcE
        rw [beq_self_eq_true]
        have hv5 := conv_str hr5
        have hv6 := conv_str hr6
        clear hr5 hr6
        go_wp2_with fail
        go_ret
        exact ⟨rfl, hw⟩
      · have q3 : ¬ 40000 < l.length := by omega
        have HR : Hid (encodeR l = toB (encL l)) := if_neg q3
        have HF : Hid (encFault l = 0) := if_neg q3
        clear hA
        go_enter Tryd.func3, Tryd.ntmps3
        go_wp2_with fail
        refine (refLetters_any l _ _ hv (by omega)).mono ?_
        rintro e w1 ⟨rfl, rfl⟩
        go_wp2_with fail
        refine (Encode_any l _ _ hv).mono ?_
        rintro e w2 ⟨rfl, hw⟩
        rw [HR.out, HF.out]
        go_wp2_with fail
        refine (error_any _ _ _ (hw.cellNever hg)).mono ?_
        rintro e' w' ⟨rfl, hcE⟩
        have hw := hw.trans hcE
        skip
        clear hcE
        rw [beq_self_eq_true]
        go_wp2_with fail
        refine (refBytes_any s _ (by omega)).mono ?_
        rintro e w5 ⟨r5, rfl, hc5, hr5⟩
        have hw := hw.trans hc5
        have hr5 := hr5.sub (O' := Never) (fun _ _ h => h.elim)
        clear hc5
        go_wp2_with fail
        refine (Decode_any s _ (by omega) m (hw.cellNever hm)).mono ?_
        rintro e w6 ⟨r6, rfl, hc6, hr6⟩
        have hw := hw.trans hc6
        have hr5 := hr5.never hc6
        have hr6 := hr6.sub (O' := Never) (fun _ _ h => h.elim)
        clear hc6
        go_wp2_with fail
        refine (error_any _ _ _ (hw.cellNever hg)).mono ?_
        rintro e' w' ⟨rfl, hcE⟩
        have hw := hw.trans hcE
        have hr5 := hr5.never hcE; have hr6 := hr6.never hcE
        clear hcE
        rw [beq_self_eq_true]
        have hv5 := conv_str hr5
        have hv6 := conv_str hr6
        clear hr5 hr6
        go_wp2_with fail
        go_ret
        exact ⟨rfl, hw⟩
end Go.Proofs.YtcgjegjnodopoaaDoor
