/-
  THE WALKS OF LAYER 4: hunk.Make, sides, slices.Equal, stands.
-/
import Derived.Test.YtpoammapjmddfaaDoorTurn
import Derived.Test.YtpoammapjmddfaaDoorMany
namespace Go.Proofs.YtpoammapjmddfaaDoor
open Go.RowKit

def makeFault (a b : List ByteArray) (n : Int) : Int := if checkedFault a b ≠ 0 then checkedFault a b else cutFault (script a b) n
def makeR (a b : List ByteArray) (n : Int) : List Hunk := if checkedFault a b = 0 then cutR (script a b) n else []
theorem make_any (a b : List ByteArray) (n : Int) (v u : Value) (w : World) (ha : Rdv w Never v a) (hb : Rdv w Never u b) (hn : I64 n) :
    Calls Tryd.prog 69 #[v, u, .int .i64 n] w fun e w' => ∃ r, e = .returned (.tuple #[r, errV (makeFault a b n)]) ∧ Chg Never w w' ∧ Rdv w' (Old w.heap.size) r (makeR a b n) := by
  by_cases hz : checkedFault a b = 0
  · have HZ := Lib.hid hz
    have E1 : Hid (makeFault a b n = cutFault (script a b) n) := by unfold Hid makeFault; rw [if_neg (by simp [hz])]
    have E2 : Hid (makeR a b n = cutR (script a b) n) := if_pos hz
    have E3 : Hid (scriptR a b = script a b) := if_pos hz
    clear hz
    go_enter Tryd.func69, Tryd.ntmps69
    go_wp2_with fail
    refine (script_any a b _ _ _ ha hb).mono ?_
    rintro e w1 ⟨r1, rfl, hc1, hr1⟩
    rw [HZ.out, errV_zero]
    rw [E3.out] at hr1
    go_wp2_with fail
    refine (Cut_any (script a b) n _ _ (hr1.sub (fun _ _ h => h.elim)) hn).mono ?_
    rintro e w2 ⟨r2, rfl, hc2, hr2⟩
    go_wp2_with fail
    go_ret2
    exact ⟨r2, by rw [E1.out]; rfl, hc1.trans hc2, by rw [E2.out]; exact hr2.sub (fun k hk h => Nat.lt_of_lt_of_le h hc1.size)⟩
  · have HZ := Lib.hid hz
    have E1 : Hid (makeFault a b n = checkedFault a b) := if_pos hz
    have E2 : Hid (makeR a b n = []) := if_neg hz
    clear hz
    go_enter Tryd.func69, Tryd.ntmps69
    go_wp2_with fail
    refine (script_any a b _ _ _ ha hb).mono ?_
    rintro e w1 ⟨r1, rfl, hc1, hr1⟩
    rw [errV_pos HZ.out]
    go_wp2_with fail
    go_ret2
    exact ⟨.slice none 0 0, by rw [E1.out, errV_pos HZ.out]; rfl, hc1, by rw [E2.out]; exact rdv_nil _ _⟩

theorem sides_any (l : List Mark) (v : Value) (w : World) (h : Rdv w Never v l) (hz : scriptFault l = 0) :
    Calls Tryd.prog 119 #[v] w fun e w' => ∃ r s, e = .returned (.tuple #[r, s, .nilIface]) ∧ Chg Never w w' ∧ Rdv w' (Old w.heap.size) r (oldOf l) ∧ Rdv w' (Old w.heap.size) s (newOf l) := by
  have HZ := Lib.hid hz
  have H1 : Hid (thoseR l 43 = oldOf l) := if_pos hz
  have H2 : Hid (thoseR l 45 = newOf l) := if_pos hz
  clear hz
  go_enter Tryd.func119, Tryd.ntmps119
  go_wp2_with fail
  refine (old_any l _ _ h).mono ?_
  rintro e w1 ⟨r1, rfl, hc1, hr1⟩
  rw [HZ.out, errV_zero]
  rw [H1.out] at hr1
  go_wp2_with fail
  refine (new_any l _ _ (h.never hc1)).mono ?_
  rintro e w2 ⟨r2, rfl, hc2, hr2⟩
  rw [HZ.out, errV_zero]
  rw [H2.out] at hr2
  go_wp2_with fail
  go_ret3
  exact ⟨r1, r2, rfl, hc1.trans hc2, hr1.never hc2, hr2.sub (fun k hk h => Nat.lt_of_lt_of_le h hc1.size)⟩

theorem str_bne_true {x y : ByteArray} (h : x ≠ y) : (x.toList != y.toList) = true := by
  have := str_beq_false h
  simp only [bne, this, Bool.not_false]
theorem equal_any (l m : List ByteArray) (v u : Value) (w : World) (h : Rdv w Never v l) (g : Rdv w Never u m) :
    Calls Tryd.prog 137 #[v, u] w fun e w' => e = .returned (.bool (decide (l = m))) ∧ Chg Never w w' := by
  obtain ⟨a, cap, rfl, h1, h2, h3⟩ := rdv_slice h
  obtain ⟨c, cap', rfl, g1, g2, g3⟩ := rdv_slice g
  unfold maxLen at h2 g2
  by_cases h4 : l.length = m.length
  · have h4' : ((l.length : Int) != m.length) = false := by simp [h4]
    have H4 := Lib.hid h4
    clear h4
    go_enter Tryd.func137, Tryd.ntmps137
    go_wp2
    go_loopw [13] (fun i wr => ∃ k : Nat, k ≤ l.length ∧ i = .int .i64 k ∧ Hid (l.take k = m.take k) ∧ Chg Never w wr) (fun i _ => l.length - (intOf i).toNat)
    case atStart => exact ⟨0, Nat.zero_le _, rfl, by simp [Hid], Chg.refl _ _⟩
    case round =>
      obtain ⟨k, hk, rfl, hf, hc⟩ := hrel
      by_cases hlt : k < l.length
      · obtain ⟨x, hx⟩ : ∃ x, l[k]? = some x := ⟨l[k], by simp [hlt]⟩
        obtain ⟨y, hy⟩ : ∃ y, m[k]? = some y := ⟨m[k]'(by rw [← H4.out]; exact hlt), by simp [H4.out ▸ hlt]⟩
        obtain ⟨b, off, rfl, _, _, hcx, hxs⟩ := elems_str h3 hx
        obtain ⟨b', off', rfl, _, _, hcy, hys⟩ := elems_str g3 hy
        have hcx := hc.cellNever hcx
        have hcy := hc.cellNever hcy
        clear h3 g3 h g
        have hlm : k < m.length := by rw [← H4.out]; exact hlt
        have HX := Lib.hid hx
        have HY := Lib.hid hy
        clear hx hy
        have b1 : (k : Int) < l.length := by omega
        have b2 : (k : Int) < m.length := by omega
        by_cases hxy : x = y
        · subst hxy
          go_wp2
          go_quiet (fail)
          go_wp2
          go_roundw
          case rel => exact ⟨k + 1, by omega, by go_num, take_same hf HX.out HY.out, hc.drewN _⟩
          case measure => simp [intOf]; omega
        · have hne := str_beq_false hxy
          have hne' := str_bne_true hxy
          go_wp2
          go_quiet (fail)
          go_wp2
          go_ret
          exact ⟨by rw [decide_eq_false (ne_of_get HX.out HY.out hxy)]; rfl, hc.drewN _⟩
      · go_wp2
        go_ret
        have E : l = m := by
          have := hf.out
          rwa [List.take_of_length_le (by omega), List.take_of_length_le (by rw [← H4.out]; omega)] at this
        exact ⟨by rw [decide_eq_true E]; rfl, hc⟩
  · have h4' : ((l.length : Int) != m.length) = true := by simp; omega
    go_enter Tryd.func137, Tryd.ntmps137
    go_wp2
    go_ret
    exact ⟨by rw [decide_eq_false (fun e => h4 (by rw [e]))]; rfl, Chg.refl _ _⟩

theorem size_str (w : World) : (sizeOf (Tryd.prog.elem 22)).run Tryd.prog w = .ok 1 w := by kernel_rfl
/-- 'a[i:j]' of texts, as a run -/
theorem slice_str {w0 : World} {O : Nat → Prop} {a : Option Addr} {cap : Nat} {l : List ByteArray} (h : Rdv w0 O (.slice a l.length cap) l) (i j : Nat) (hij : i ≤ j) (hj : j ≤ l.length) :
    ∃ b, (∀ (x y : Int) (w : World), x = i → y = j → (Instr.slice 22 (.slice a l.length cap) (some (.int .i64 x)) (some (.int .i64 y)) none).run Tryd.prog w = .ok (.slice b (j - i) (cap - i)) w) ∧
      (∀ (x : Int) (w : World), x = i → j = l.length → (Instr.slice 22 (.slice a l.length cap) (some (.int .i64 x)) none none).run Tryd.prog w = .ok (.slice b (j - i) (cap - i)) w) ∧
      Rdv w0 O (.slice b (j - i) (cap - i)) ((l.drop i).take (j - i)) := by
  have hr := rdv_sliced h i j hij hj
  obtain ⟨b, hb⟩ := sliced_isSlice a i j cap 1
  obtain ⟨a', cap', e, h1, h2, h3⟩ := rdv_slice h
  simp only [Value.slice.injEq, true_and] at e
  obtain ⟨rfl, rfl⟩ := e
  refine ⟨b, ?_, ?_, hb ▸ hr⟩
  · rintro x y w rfl rfl
    rw [run_slice_lh w 22 a l.length cap (by kernel_rfl) .i64 .i64 _ _ (by omega) (by omega) (by omega), size_str]
    simp only [Result.andThen_ok, Int.toNat_natCast]
    rw [hb]
  · rintro x w rfl rfl
    rw [run_slice_l w 22 a l.length cap (by kernel_rfl) .i64 _ (by omega) (by omega), size_str]
    simp only [Result.andThen_ok, Int.toNat_natCast]
    rw [hb]

theorem stands_any (a l : List ByteArray) (at_ : Int) (v u : Value) (w : World) (ha : Rdv w Never v a) (hl : Rdv w Never u l) (h0 : -1000000 ≤ at_) (h1 : at_ ≤ 1000000) (hla : a.length ≤ 1000000) (hll : l.length ≤ 1000000) :
    Calls Tryd.prog 120 #[v, .int .i64 at_, u] w fun e w' => e = .returned (.bool (standsB a at_ l)) ∧ Chg Never w w' := by
  obtain ⟨b, cap, rfl, _, hcap, _⟩ := rdv_slice ha
  obtain ⟨c, cap', rfl, _, _, _⟩ := rdv_slice hl
  unfold maxLen at hcap
  by_cases c1 : at_ < 0
  · have E : standsB a at_ l = false := by unfold standsB; simp; omega
    rw [E]
    go_enter Tryd.func120, Tryd.ntmps120
    go_wp2_with fail
    go_ret
    exact ⟨rfl, Chg.refl _ _⟩
  · obtain ⟨n, rfl⟩ := Int.eq_ofNat_of_zero_le (show 0 ≤ at_ by omega)
    by_cases c2 : a.length < n + l.length
    · have E : standsB a n l = false := by unfold standsB; simp; omega
      rw [E]
      have t1 : decide ((n : Int) + l.length ≤ a.length) = false := by simp; omega
      go_enter Tryd.func120, Tryd.ntmps120
      go_wp2_with fail
      go_ret
      exact ⟨rfl, Chg.refl _ _⟩
    · have E : Hid (standsB a n l = decide ((a.drop n).take l.length = l)) := by
        unfold Hid standsB
        have e1 : decide ((0 : Int) ≤ n) = true := by simp
        have e2 : decide ((n : Int) + l.length ≤ a.length) = true := by simp; omega
        rw [e1, e2]; simp
      obtain ⟨sb, hrun, _, hsub⟩ := slice_str ha n (n + l.length) (by omega) (by omega)
      have hrun := fun (wx : World) => hrun n ((n : Int) + l.length) wx rfl (by push_cast; rfl)
      rw [show n + l.length - n = l.length by omega] at hrun hsub
      have t1 : decide ((n : Int) + l.length ≤ a.length) = true := by simp; omega
      clear c2
      go_enter Tryd.func120, Tryd.ntmps120
      go_wp2_with fail
      refine (equal_any ((a.drop n).take l.length) l _ _ _ hsub hl).mono ?_
      rintro e w1 ⟨rfl, hc1⟩
      go_wp2_with fail
      go_ret
      exact ⟨by rw [E.out]; rfl, hc1⟩
end Go.Proofs.YtpoammapjmddfaaDoor
