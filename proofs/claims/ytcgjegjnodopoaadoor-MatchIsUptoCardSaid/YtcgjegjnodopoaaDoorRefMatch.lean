/-
  THE WALKS of the document's MatchOf and of the law's has.
-/
import Derived.Test.YtcgjegjnodopoaaDoorRefBest
namespace Go.Proofs.YtcgjegjnodopoaaDoor
open Go.RowKit

set_option maxHeartbeats 1000000 in
set_option maxRecDepth 100000 in
theorem matchOf_any (l : List (List Int)) (v : Value) (w : World) (h : Rdv w Never v l) (hz : sqFault l = 0) :
    Calls Tryd.prog 13 #[v] w fun e w' => ∃ r, e = .returned r ∧ Chg Never w w' ∧ Rdv w' (Old w.heap.size) r (matchR l) := by
  obtain ⟨hn, hq⟩ := sq_bd hz
  have hv := h
  obtain ⟨a, cap, rfl, h1, h2, h3⟩ := rdv_slice h
  unfold maxLen at h2
  obtain ⟨ib, ib1, ib2, ib3, ib4⟩ := info_parts (show (Tryd.prog.info? 4).map (fun i => (i.zero, i.size, i.bytes)) = some (some (.bool false), 1, 1) by kernel_rfl)
  go_enter Tryd.func13, Tryd.ntmps13
  go_wp2_with (at_make; refine wpList_make_full _ rfl _ _ 55 rfl 0 4 ib (.bool false) 1 Tryd.underlying55 ib1 ib2 ib3 .i64 .i64 _ _ l.length rfl rfl rfl rfl (by rw [ib4]; omega) (by unfold maxLen; omega) (Nat.zero_le _) ?_; intro w1 hown hgrow)
  have hT := valRow_made (z := .bool false) rfl hown
  have hc := (Chg.refl Never w).trans' (Chg.of_grown hgrow) (fun _ _ h => by cases h)
  clear hown hgrow
  have hL : LeftRow w.heap.size w1 l.length (bitsOf (2 ^ l.length - 1)) := hT.congr fun k hk => by
    rw [bits_full, decide_eq_true hk]; rfl
  have hb := best_any l hn hq l.length 0 (bitsOf (2 ^ l.length - 1)) (.slice a l.length cap) w.heap.size w1 (by omega) (full_cnt hn)
    (hv.keep (O' := Never) (O'' := fun k => k = w.heap.size) hc (fun _ _ h => h.elim) (fun k hk h => absurd (h ▸ hk) (Nat.lt_irrefl _))) hL
  rw [List.drop_zero] at hb
  clear hT hL ib1 ib2 ib3 ib4
  go_wp2_with fail
  refine hb.mono ?_
  rintro e w2 ⟨r, rfl, hc2, _, hr⟩
  have hc3 : Chg Never w w2 := hc.trans' hc2 (fun k hk h => absurd (h ▸ hk) (Nat.lt_irrefl _))
  have hr2 : Rdv w2 (Old w.heap.size) r (matchR l) := by
    unfold matchR
    rw [choose_ref hq.ok (full_cnt hn)]
    exact hr.sub (fun k _ h => Nat.lt_of_lt_of_le h hc.size)
  clear hc2 hr hb
  go_wp2_with fail
  go_ret
  exact ⟨r, rfl, hc3, hr2⟩

set_option maxHeartbeats 1000000 in
set_option maxRecDepth 100000 in
theorem has_any (l : List Int) (n : Int) (v : Value) (w : World) (h : Rdv w Never v l) :
    Calls Tryd.prog 16 #[v, .int .i64 n] w fun e w' => e = .returned (.bool (decide (n ∈ l))) ∧ w' = w := by
  obtain ⟨a, cap, rfl, h1, h2, h3⟩ := rdv_slice h
  unfold maxLen at h2
  go_enter Tryd.func16, Tryd.ntmps16
  go_wp2_with fail
  go_loop [5] (fun i => ∃ k : Nat, k ≤ l.length ∧ i = .int .i64 k ∧ Hid ((n ∈ l) = (n ∈ l.drop k))) (fun i => l.length - (intOf i).toNat)
  case atStart => exact ⟨0, Nat.zero_le _, rfl, rfl⟩
  case round =>
    obtain ⟨k, hk, rfl, hf⟩ := hrel
    by_cases hlt : k < l.length
    · obtain ⟨x, hx⟩ : ∃ x, l[k]? = some x := ⟨l[k], by simp [hlt]⟩
      obtain ⟨b, off, rfl, _, hcx, _⟩ := elems_ints h3 hx
      have HX := Lib.hid (drop_eq hx)
      clear h3 h hx
      by_cases hxn : x = n
      · have t1 : (x == n) = true := by simp [hxn]
        have HI : Hid (decide (n ∈ l) = true) := by rw [Hid, decide_eq_true_eq, hf.out, HX.out, hxn]; simp
        clear hxn
        go_wp2_with fail
        go_ret
        exact ⟨by rw [HI.out]; rfl, rfl⟩
      · have t1 : (x == n) = false := by simp [hxn]
        have HI : Hid ((n ∈ l) = (n ∈ l.drop (k + 1))) := by rw [Hid, hf.out, HX.out]; simp [Ne.symm hxn]
        clear hxn
        go_wp2_with fail
        go_round
        case rel => exact ⟨k + 1, by omega, by go_num, HI.out⟩
        case measure => simp [intOf]; omega
    · have HI : Hid (decide (n ∈ l) = false) := by rw [Hid, decide_eq_false_iff_not, hf.out, List.drop_eq_nil_of_le (by omega)]; simp
      go_wp2_with fail
      go_ret
      exact ⟨by rw [HI.out]; rfl, rfl⟩
end Go.Proofs.YtcgjegjnodopoaaDoor
