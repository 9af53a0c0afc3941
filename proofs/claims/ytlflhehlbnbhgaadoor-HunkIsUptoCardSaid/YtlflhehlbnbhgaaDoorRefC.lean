/-
  THE WALKS of the document's FarOf, ScriptOf.
-/
import Derived.Test.YtlflhehlbnbhgaaDoorRefB
import Derived.Test.YtlflhehlbnbhgaaDoorScript
namespace Go.Proofs.YtlflhehlbnbhgaaDoor
open Go.RowKit

theorem Tab.cells {T : Nat} {wr : World} {a b : List ByteArray} {Rf : Nat → Nat} {lo : Nat} (h : Tab T wr a b Rf lo) {i k : Nat} (hi : lo ≤ i) (hi' : i ≤ a.length) (hk : k ≤ b.length) :
    wr.cell? ⟨T, i, none⟩ = some (slI (Rf i) (b.length + 1)) ∧ wr.cell? ⟨Rf i, k, none⟩ = some (.int .i64 (lcsAt a b i k)) := by
  obtain ⟨g, h1, h2⟩ := h
  obtain ⟨q1, q2, q3⟩ := h2 i hi hi'
  exact ⟨by rw [h1.cell (by omega), q2], q3.cell (by omega)⟩
theorem farOf_eq (a b : List ByteArray) : (a.length : Int) + b.length - 2 * (lcsAt a b 0 0 : Nat) = far a b := by
  have := far_lcs' a b
  unfold lcsAt
  simp only [List.drop_zero]
  omega

set_option maxHeartbeats 1000000 in
set_option maxRecDepth 100000 in
theorem farOf_any (a b : List ByteArray) (va vb : Value) (w : World) (ha : Rdv w Never va a) (hb : Rdv w Never vb b) (hla : a.length ≤ 60) (hlb : b.length ≤ 60) :
    Calls Tryd.prog 17 #[va, vb] w fun e w' => e = .returned (.int .i64 (far a b)) ∧ Chg Never w w' := by
  have HF := Lib.hid (farOf_eq a b)
  have hb1 := lcsAt_le a b 0 0
  obtain ⟨aa, acap, rfl, h1, h2, h3⟩ := rdv_slice ha
  obtain ⟨ba, bcap, rfl, g1, g2, g3⟩ := rdv_slice hb
  unfold maxLen at h2 g2
  go_enter Tryd.func17, Tryd.ntmps17
  go_wp2_with fail
  refine (common_any a b _ _ _ ha hb hla hlb).mono ?_
  rintro e w1 ⟨rfl, hc, Rf, hT⟩
  obtain ⟨c1, c2⟩ := hT.cells (i := 0) (k := 0) (Nat.le_refl _) (Nat.zero_le _) (Nat.zero_le _)
  clear hT h3 g3
  go_wp2_with fail
  go_ret
  exact ⟨by rw [← HF.out]; rfl, hc⟩


set_option maxHeartbeats 2000000 in
set_option maxRecDepth 100000 in
theorem scriptOf_any (a b : List ByteArray) (va vb : Value) (w : World) (ha : Rdv w Never va a) (hb : Rdv w Never vb b) (hla : a.length ≤ 60) (hlb : b.length ≤ 60) :
    Calls Tryd.prog 16 #[va, vb] w fun e w' => ∃ r, e = .returned r ∧ Chg Never w w' ∧ Rdv w' (Old w.heap.size) r (script a b) := by
  obtain ⟨aa, acap, rfl, h1, h2, h3⟩ := rdv_slice ha
  obtain ⟨ba, bcap, rfl, g1, g2, g3⟩ := rdv_slice hb
  unfold maxLen at h2 g2
  go_enter Tryd.func16, Tryd.ntmps16
  go_wp2_with fail
  refine (common_any a b _ _ _ ha hb hla hlb).mono ?_
  rintro e w1 ⟨rfl, hw1, Rf, hT⟩
  generalize w.heap.size = T at hT ⊢
  go_wp2_with fail
  go_loopw [6, 7, 8] (fun o s7 s8 wr => ∃ (i k : Nat) (pre : List Mark), i ≤ a.length ∧ k ≤ b.length ∧ s7 = .int .i64 i ∧ s8 = .int .i64 k ∧ Chg Never w1 wr ∧
      Own 68 wr (Old w1.heap.size) o pre ∧ Hid (pre.length ≤ i + k) ∧ Hid (pre ++ script (a.drop i) (b.drop k) = script a b)) (fun _ s7 s8 _ => (a.length - (intOf s7).toNat) + (b.length - (intOf s8).toNat))
  case atStart => exact ⟨0, 0, [], Nat.zero_le _, Nat.zero_le _, rfl, rfl, Chg.refl _ _, own_nil _ _ _, Nat.zero_le _, by simp [Hid]⟩
  case round =>
    obtain ⟨i, k, pre, hi, hk, rfl, rfl, hc, hown, hpl0, hpre⟩ := hrel
    have hpl : pre.length ≤ 120 := by have := hpl0.out; omega
    by_cases hil : i < a.length
    · obtain ⟨s, hs⟩ : ∃ s, a[i]? = some s := ⟨a[i], by simp [hil]⟩
      obtain ⟨p, off, rfl, _, hbl, hcx0, hxs⟩ := elems_str h3 hs
      have hcx0 := hw1.cellNever hcx0
      have hcx := hc.cellNever hcx0
      have HS := Lib.hid hs
      have b1 : (i : Int) < a.length := by omega
      obtain ⟨D1, D2⟩ := hT.cells (i := i) (k := k) (Nat.zero_le _) hi hk
      obtain ⟨D3, D4⟩ := hT.cells (i := i + 1) (k := k) (Nat.zero_le _) hil hk
      have d1 := hc.cellNever D1
      have d2 := hc.cellNever D2
      have d3 := hc.cellNever D3
      have d4 := hc.cellNever D4
      have u1 := lcsAt_le a b i k
      have u2 := lcsAt_le a b (i + 1) k
      have e1 : IntKind.i64.wrap ((i : Int) + 1) = (i : Int) + 1 := IntWalk.i64_in _ (by omega)
      have e2 : IntKind.i64.wrap ((k : Int) + 1) = (k : Int) + 1 := IntWalk.i64_in _ (by omega)
      have e3 : (0 : Int) ≤ (i : Int) + 1 := by omega
      have e4 : (0 : Int) ≤ (k : Int) + 1 := by omega
      have e5 : (i : Int) + 1 < (a.length : Int) + 1 := by omega
      have e6 : (k : Int) < (b.length : Int) + 1 := by omega
      have e7 : ((i : Int) + 1).toNat = i + 1 := by omega
      have e8 : ((k : Int) + 1).toNat = k + 1 := by omega
      have e9 : (i : Int) < (a.length : Int) + 1 := by omega
      by_cases hkm : k < b.length
      · obtain ⟨t, ht⟩ : ∃ t, b[k]? = some t := ⟨b[k], by simp [hkm]⟩
        obtain ⟨p', off', rfl, _, hbl', hcy0, hys⟩ := elems_str g3 ht
        have hcy0 := hw1.cellNever hcy0
        have hcy := hc.cellNever hcy0
        have HT := Lib.hid ht
        have b2 : (k : Int) < b.length := by omega
        obtain ⟨_, D5⟩ := hT.cells (i := i + 1) (k := k + 1) (Nat.zero_le _) hil hkm
        have d5 := hc.cellNever D5
        have u3 := lcsAt_le a b (i + 1) (k + 1)
        have e11 : IntKind.i64.wrap (((lcsAt a b (i + 1) (k + 1) : Nat) : Int) + 1) = ((lcsAt a b (i + 1) (k + 1) : Nat) : Int) + 1 := IntWalk.i64_in _ (by omega)
        have e12 : (k : Int) + 1 < (b.length : Int) + 1 := by omega
        clear h3 g3 ha hb hs ht
        by_cases hst : s = t
        · subst hst
          have t0 : lcsAt a b i k = lcsAt a b (i + 1) (k + 1) + 1 := by
            unfold lcsAt
            rw [drop_cons HS.out, drop_cons HT.out, lcs_same]
          have t1 : (((lcsAt a b (i + 1) (k + 1) : Nat) : Int) + 1 == ((lcsAt a b i k : Nat) : Int)) = true := by rw [beq_iff_eq]; omega
          clear t0
          go_wp2_with fail
          go_quiet (fail)
          clear d1 d2 d3 d4 d5 e11 e12 hcx hcy D1 D2 D3 D4 D5
          clear e1 e2 e3 e4 e5 e6 e7 e8 e9
          generalize hw2 : World.drewN wr _ = wr2
          have hc : Chg Never w1 wr2 := hw2 ▸ hc.drewN _
          have hown : Own 68 wr2 (Old w1.heap.size) _ pre := hw2 ▸ hown.never ((Chg.refl _ wr).drewN _)
          clear hw2
          have hcx := hc.cellNever hcx0
          go_wp2_with (at_builtin; refine wpList_push rfl _ _ 22 rfl elemOk_mark (O := Old w1.heap.size) (l := pre) (y := ⟨32, s⟩) rfl rfl rfl hown (rd_mark _ _ 32 s (by decide) (by decide) (by assumption)) (old_lt hc) (by omega) ?_; intro v' w5 hown2 hc2 _)
          have hc3 := own_step hc hown hc2
          clear hc2 hc hown
          go_wp2_with fail
          go_roundw
          case rel => exact ⟨i + 1, k + 1, _, by omega, by omega, by go_num, by go_num, hc3, hown2, by have := hpl0.out; show (pre ++ [_]).length ≤ _; simp; omega, by have := hpre.out; rw [script_keep HS.out HT.out] at this; rw [Hid, ← this]; simp⟩
          case measure => simp [intOf] <;> omega
        · have hne := str_beq_false hst
          have HST := Lib.hid hst
          have htest := lcs_test s t (a.drop (i + 1)) (b.drop (k + 1))
          rw [← drop_cons HS.out, ← drop_cons HT.out] at htest
          clear hst
          by_cases htk : far (a.drop (i + 1)) (b.drop k) + 1 = far (a.drop i) (b.drop k)
          · have t0 : lcsAt a b (i + 1) k = lcsAt a b i k := htest.2 htk
            have t1 : (((lcsAt a b (i + 1) k : Nat) : Int) == ((lcsAt a b i k : Nat) : Int)) = true := by rw [beq_iff_eq]; omega
            have HTK := Lib.hid htk
            clear htk htest t0
            go_wp2_with fail
            go_quiet (fail)
            clear d1 d2 d3 d4 d5 hcx hcy D5
            generalize hw2 : World.drewN wr _ = wr2
            have hc : Chg Never w1 wr2 := hw2 ▸ hc.drewN _
            have hown : Own 68 wr2 (Old w1.heap.size) _ pre := hw2 ▸ hown.never ((Chg.refl _ wr).drewN _)
            clear hw2
            have hcx := hc.cellNever hcx0
            have d1 := hc.cellNever D1
            have d2 := hc.cellNever D2
            have d3 := hc.cellNever D3
            have d4 := hc.cellNever D4
            go_wp2_with fail
            go_quiet (fail)
            clear d1 d2 d3 d4 hcx D1 D2 D3 D4 e11 e12
            clear e1 e2 e3 e4 e5 e6 e7 e8 e9
            generalize hw2 : World.drewN wr2 _ = wr3
            have hc : Chg Never w1 wr3 := hw2 ▸ hc.drewN _
            have hown : Own 68 wr3 (Old w1.heap.size) _ pre := hw2 ▸ hown.never ((Chg.refl _ wr2).drewN _)
            clear hw2
            have hcx := hc.cellNever hcx0
            go_wp2_with (at_builtin; refine wpList_push rfl _ _ 22 rfl elemOk_mark (O := Old w1.heap.size) (l := pre) (y := ⟨45, s⟩) rfl rfl rfl hown (rd_mark _ _ 45 s (by decide) (by decide) (by assumption)) (old_lt hc) (by omega) ?_; intro v' w5 hown2 hc2 _)
            have hc3 := own_step hc hown hc2
            clear hc2 hc hown
            go_wp2_with fail
            go_roundw
            case rel => exact ⟨i + 1, k, _, by omega, by omega, by go_num, by go_num, hc3, hown2, by have := hpl0.out; show (pre ++ [_]).length ≤ _; simp; omega, by have := hpre.out; rw [script_take HS.out (fun y hy => by rw [HT.out] at hy; injection hy with hy; subst hy; exact HST.out) HTK.out] at this; rw [Hid, ← this]; simp⟩
            case measure => simp [intOf] <;> omega
          · have t0 : lcsAt a b (i + 1) k ≠ lcsAt a b i k := fun e => htk (htest.1 e)
            have t1 : (((lcsAt a b (i + 1) k : Nat) : Int) == ((lcsAt a b i k : Nat) : Int)) = false := by rw [beq_eq_false_iff_ne]; omega
            have HTK := Lib.hid htk
            clear htk htest t0
            go_wp2_with fail
            go_quiet (fail)
            clear d1 d2 d3 d4 d5 hcx hcy D5
            generalize hw2 : World.drewN wr _ = wr2
            have hc : Chg Never w1 wr2 := hw2 ▸ hc.drewN _
            have hown : Own 68 wr2 (Old w1.heap.size) _ pre := hw2 ▸ hown.never ((Chg.refl _ wr).drewN _)
            clear hw2
            have hcy := hc.cellNever hcy0
            have d1 := hc.cellNever D1
            have d2 := hc.cellNever D2
            have d3 := hc.cellNever D3
            have d4 := hc.cellNever D4
            go_wp2_with fail
            go_quiet (fail)
            clear d1 d2 d3 d4 hcy D1 D2 D3 D4 e11 e12
            clear e1 e2 e3 e4 e5 e6 e7 e8 e9
            generalize hw2 : World.drewN wr2 _ = wr3
            have hc : Chg Never w1 wr3 := hw2 ▸ hc.drewN _
            have hown : Own 68 wr3 (Old w1.heap.size) _ pre := hw2 ▸ hown.never ((Chg.refl _ wr2).drewN _)
            clear hw2
            have hcy := hc.cellNever hcy0
            go_wp2_with (at_builtin; refine wpList_push rfl _ _ 22 rfl elemOk_mark (O := Old w1.heap.size) (l := pre) (y := ⟨43, t⟩) rfl rfl rfl hown (rd_mark _ _ 43 t (by decide) (by decide) (by assumption)) (old_lt hc) (by omega) ?_; intro v' w5 hown2 hc2 _)
            have hc3 := own_step hc hown hc2
            clear hc2 hc hown
            go_wp2_with fail
            go_roundw
            case rel => exact ⟨i, k + 1, _, by omega, by omega, by go_num, by go_num, hc3, hown2, by have := hpl0.out; show (pre ++ [_]).length ≤ _; simp; omega, by have := hpre.out; rw [script_put HT.out (fun x hx => by rw [HS.out] at hx; injection hx with hx; subst hx; exact ⟨HST.out, HTK.out⟩)] at this; rw [Hid, ← this]; simp⟩
            case measure => simp [intOf] <;> omega
      · obtain rfl : k = b.length := by omega
        have g2' : decide ((b.length : Int) < b.length) = false := by simp
        have htk : far (a.drop (i + 1)) [] + 1 = far (a.drop i) [] := by
          rw [far_nil', far_nil', List.length_drop, List.length_drop]; omega
        rw [lcsAt_right] at d2 d4 D2 D4
        have HTK := Lib.hid htk
        clear htk hs h3 g3 ha hb
        go_wp2_with fail
        go_quiet (fail)
        clear d1 d2 d3 d4 hcx
        generalize hw2 : World.drewN wr _ = wr2
        have hc : Chg Never w1 wr2 := hw2 ▸ hc.drewN _
        have hown : Own 68 wr2 (Old w1.heap.size) _ pre := hw2 ▸ hown.never ((Chg.refl _ wr).drewN _)
        clear hw2
        have hcx := hc.cellNever hcx0
        have d1 := hc.cellNever D1
        have d2 := hc.cellNever D2
        have d3 := hc.cellNever D3
        have d4 := hc.cellNever D4
        go_wp2_with fail
        go_quiet (fail)
        clear d1 d2 d3 d4 hcx D1 D2 D3 D4
        clear e1 e2 e3 e4 e5 e6 e7 e8 e9
        generalize hw2 : World.drewN wr2 _ = wr3
        have hc : Chg Never w1 wr3 := hw2 ▸ hc.drewN _
        have hown : Own 68 wr3 (Old w1.heap.size) _ pre := hw2 ▸ hown.never ((Chg.refl _ wr2).drewN _)
        clear hw2
        have hcx := hc.cellNever hcx0
        go_wp2_with (at_builtin; refine wpList_push rfl _ _ 22 rfl elemOk_mark (O := Old w1.heap.size) (l := pre) (y := ⟨45, s⟩) rfl rfl rfl hown (rd_mark _ _ 45 s (by decide) (by decide) (by assumption)) (old_lt hc) (by omega) ?_; intro v' w5 hown2 hc2 _)
        have hc3 := own_step hc hown hc2
        clear hc2 hc hown
        go_wp2_with fail
        go_roundw
        case rel => exact ⟨i + 1, b.length, _, by omega, by omega, by go_num, by go_num, hc3, hown2, by have := hpl0.out; show (pre ++ [_]).length ≤ _; simp; omega, by have := hpre.out; rw [script_take HS.out (fun y hy => by simp at hy) (by rw [List.drop_length]; exact HTK.out)] at this; rw [Hid, ← this]; simp⟩
        case measure => simp [intOf] <;> omega
    · obtain rfl : i = a.length := by omega
      have g1' : decide ((a.length : Int) < a.length) = false := by simp
      by_cases hkm : k < b.length
      · obtain ⟨t, ht⟩ : ∃ t, b[k]? = some t := ⟨b[k], by simp [hkm]⟩
        obtain ⟨p', off', rfl, _, hbl', hcy0, hys⟩ := elems_str g3 ht
        have hcy0 := hw1.cellNever hcy0
        have HT := Lib.hid ht
        have b2 : (k : Int) < b.length := by omega
        clear h3 g3 ha hb ht
        go_wp2_with fail
        go_quiet (fail)
        generalize hw2 : World.drewN wr _ = wr2
        have hc : Chg Never w1 wr2 := hw2 ▸ hc.drewN _
        have hown : Own 68 wr2 (Old w1.heap.size) _ pre := hw2 ▸ hown.never ((Chg.refl _ wr).drewN _)
        clear hw2
        go_wp2_with fail
        go_quiet (fail)
        generalize hw2 : World.drewN wr2 _ = wr3
        have hc : Chg Never w1 wr3 := hw2 ▸ hc.drewN _
        have hown : Own 68 wr3 (Old w1.heap.size) _ pre := hw2 ▸ hown.never ((Chg.refl _ wr2).drewN _)
        clear hw2
        have hcy := hc.cellNever hcy0
        go_wp2_with (at_builtin; refine wpList_push rfl _ _ 22 rfl elemOk_mark (O := Old w1.heap.size) (l := pre) (y := ⟨43, t⟩) rfl rfl rfl hown (rd_mark _ _ 43 t (by decide) (by decide) (by assumption)) (old_lt hc) (by omega) ?_; intro v' w5 hown2 hc2 _)
        have hc3 := own_step hc hown hc2
        clear hc2 hc hown
        go_wp2_with fail
        go_roundw
        case rel => exact ⟨a.length, k + 1, _, by omega, by omega, by go_num, by go_num, hc3, hown2, by have := hpl0.out; show (pre ++ [_]).length ≤ _; simp; omega, by have := hpre.out; rw [script_put HT.out (fun x hx => by simp at hx)] at this; rw [Hid, ← this]; simp⟩
        case measure => simp [intOf] <;> omega
      · obtain rfl : k = b.length := by omega
        go_wp2_with fail
        go_ret
        have E : pre = script a b := by have := hpre.out; rw [List.drop_length, List.drop_length, script, List.append_nil] at this; exact this
        exact ⟨_, rfl, hw1.trans hc, E ▸ hown.rdv.sub (fun k _ hk => by have := hw1.size; unfold Old at *; omega)⟩
end Go.Proofs.YtlflhehlbnbhgaaDoor
