/-
  PARTS: THE WALKS of the document's FarOf, ScriptOf.; THE WALKS of the document's Dec and span (handstitchref2).; THE WALK of the document's Line: far.; PIECES OF A SCRIPT AS THE DOCUMENT FINDS THEM, in plain Lean: is a mark in a piece, told mark by mark.
-/
import Derived.Test.YtmjpfoeaobdaeaaGreatDoorRa18
import Derived.Test.YtmjpfoeaobdaeaaGreatDoorRa3
import Derived.Test.YtmjpfoeaobdaeaaGreatDoorRa13
import Derived.Test.YtmjpfoeaobdaeaaGreatDoorRa2
import Derived.Test.YtmjpfoeaobdaeaaGreatDoorRa16
import Derived.Test.YtmjpfoeaobdaeaaGreatDoorRa8
import Derived.Test.YtmjpfoeaobdaeaaGreatDoorRa10
import Derived.Test.YtmjpfoeaobdaeaaGreatDoorRa11
import Derived.Deep.RegionHeld3
import Derived.Test.YtmjpfoeaobdaeaaGreatDoorRa4
set_option linter.unusedVariables false
set_option linter.unusedSimpArgs false
namespace Go.Proofs.YtmjpfoeaobdaeaaGreatDoor
open Go.RowKit

theorem Tab.cells {T : Nat} {wr : World} {a b : List ByteArray} {Rf : Nat → Nat} {lo : Nat} (h : Tab T wr a b Rf lo) {i k : Nat} (hi : lo ≤ i) (hi' : i ≤ a.length) (hk : k ≤ b.length) :
    wr.cell? ⟨T, i, none⟩ = some (slI (Rf i) (b.length + 1)) ∧ wr.cell? ⟨Rf i, k, none⟩ = some (.int .i64 (lcsAt a b i k)) := by
  obtain ⟨g, h1, h2⟩ := h
  obtain ⟨q1, q2, q3⟩ := h2 i hi hi'
  exact ⟨by rw [h1.cell (by omega), q2], q3.cell (by omega)⟩
theorem farOf_eq (a b : List ByteArray) : (a.length : Int) + b.length - 2 * (lcsAt a b 0 0 : Nat) = far a b := by
  have := far_lcs' a b
  unfold lcsAt
  simp only [List.drop_zero]
  omega

set_option maxHeartbeats 1000000 in
set_option maxRecDepth 100000 in
theorem farOf_any (a b : List ByteArray) (va vb : Value) (w : World) (ha : Rdv w Never va a) (hb : Rdv w Never vb b) (hla : a.length ≤ 60) (hlb : b.length ≤ 60) :
    Calls Tryz.prog 30 #[va, vb] w fun e w' => e = .returned (.int .i64 (far a b)) ∧ Chg Never w w' := by
  have HF := Lib.hid (farOf_eq a b)
  have hb1 := lcsAt_le a b 0 0
  obtain ⟨aa, acap, rfl, h1, h2, h3⟩ := rdv_slice ha
  obtain ⟨ba, bcap, rfl, g1, g2, g3⟩ := rdv_slice hb
  unfold maxLen at h2 g2
  go_enter Tryz.func30, Tryz.ntmps30
  go_wp2_with fail
  refine (common_any a b _ _ _ ha hb hla hlb).mono ?_
  rintro e w1 ⟨rfl, hc, Rf, hT⟩
  obtain ⟨c1, c2⟩ := hT.cells (i := 0) (k := 0) (Nat.le_refl _) (Nat.zero_le _) (Nat.zero_le _)
  clear hT h3 g3
  go_wp2_with fail
  go_ret
  exact ⟨by rw [← HF.out]; rfl, hc⟩


set_option maxHeartbeats 2000000 in
set_option maxRecDepth 100000 in
theorem scriptOf_any (a b : List ByteArray) (va vb : Value) (w : World) (ha : Rdv w Never va a) (hb : Rdv w Never vb b) (hla : a.length ≤ 60) (hlb : b.length ≤ 60) :
    Calls Tryz.prog 54 #[va, vb] w fun e w' => ∃ r, e = .returned r ∧ Chg Never w w' ∧ Rdv w' (Old w.heap.size) r (script a b) := by
  obtain ⟨aa, acap, rfl, h1, h2, h3⟩ := rdv_slice ha
  obtain ⟨ba, bcap, rfl, g1, g2, g3⟩ := rdv_slice hb
  unfold maxLen at h2 g2
  go_enter Tryz.func54, Tryz.ntmps54
  go_wp2_with fail
  refine (common_any a b _ _ _ ha hb hla hlb).mono ?_
  rintro e w1 ⟨rfl, hw1, Rf, hT⟩
  generalize w.heap.size = T at hT ⊢
  go_wp2_with fail
  go_loopw [6, 7, 8] (fun o s7 s8 wr => ∃ (i k : Nat) (pre : List Mark), i ≤ a.length ∧ k ≤ b.length ∧ s7 = .int .i64 i ∧ s8 = .int .i64 k ∧ Chg Never w1 wr ∧
      Own 148 wr (Old w1.heap.size) o pre ∧ Hid (pre.length ≤ i + k) ∧ Hid (pre ++ script (a.drop i) (b.drop k) = script a b)) (fun _ s7 s8 _ => (a.length - (intOf s7).toNat) + (b.length - (intOf s8).toNat))
  case atStart => exact ⟨0, 0, [], Nat.zero_le _, Nat.zero_le _, rfl, rfl, Chg.refl _ _, own_nil _ _ _, Nat.zero_le _, by simp [Hid]⟩
  case round =>
    obtain ⟨i, k, pre, hi, hk, rfl, rfl, hc, hown, hpl0, hpre⟩ := hrel
    have hpl : pre.length ≤ 120 := by have := hpl0.out; omega
    by_cases hil : i < a.length
    · obtain ⟨s, hs⟩ : ∃ s, a[i]? = some s := ⟨a[i], by simp [hil]⟩
      obtain ⟨p, off, rfl, _, hbl, hcx0, hxs⟩ := elems_str h3 hs
      have hcx0 := hw1.cellNever hcx0
      have hcx := hc.cellNever hcx0
      have HS := Lib.hid hs
      have b1 : (i : Int) < a.length := by omega
      obtain ⟨D1, D2⟩ := hT.cells (i := i) (k := k) (Nat.zero_le _) hi hk
      obtain ⟨D3, D4⟩ := hT.cells (i := i + 1) (k := k) (Nat.zero_le _) hil hk
      have d1 := hc.cellNever D1
      have d2 := hc.cellNever D2
      have d3 := hc.cellNever D3
      have d4 := hc.cellNever D4
      have u1 := lcsAt_le a b i k
      have u2 := lcsAt_le a b (i + 1) k
      have e1 : IntKind.i64.wrap ((i : Int) + 1) = (i : Int) + 1 := IntWalk.i64_in _ (by omega)
      have e2 : IntKind.i64.wrap ((k : Int) + 1) = (k : Int) + 1 := IntWalk.i64_in _ (by omega)
      have e3 : (0 : Int) ≤ (i : Int) + 1 := by omega
      have e4 : (0 : Int) ≤ (k : Int) + 1 := by omega
      have e5 : (i : Int) + 1 < (a.length : Int) + 1 := by omega
      have e6 : (k : Int) < (b.length : Int) + 1 := by omega
      have e7 : ((i : Int) + 1).toNat = i + 1 := by omega
      have e8 : ((k : Int) + 1).toNat = k + 1 := by omega
      have e9 : (i : Int) < (a.length : Int) + 1 := by omega
      by_cases hkm : k < b.length
      · obtain ⟨t, ht⟩ : ∃ t, b[k]? = some t := ⟨b[k], by simp [hkm]⟩
        obtain ⟨p', off', rfl, _, hbl', hcy0, hys⟩ := elems_str g3 ht
        have hcy0 := hw1.cellNever hcy0
        have hcy := hc.cellNever hcy0
        have HT := Lib.hid ht
        have b2 : (k : Int) < b.length := by omega
        obtain ⟨_, D5⟩ := hT.cells (i := i + 1) (k := k + 1) (Nat.zero_le _) hil hkm
        have d5 := hc.cellNever D5
        have u3 := lcsAt_le a b (i + 1) (k + 1)
        have e11 : IntKind.i64.wrap (((lcsAt a b (i + 1) (k + 1) : Nat) : Int) + 1) = ((lcsAt a b (i + 1) (k + 1) : Nat) : Int) + 1 := IntWalk.i64_in _ (by omega)
        have e12 : (k : Int) + 1 < (b.length : Int) + 1 := by omega
        clear h3 g3 ha hb hs ht
        by_cases hst : s = t
        · subst hst
          have t0 : lcsAt a b i k = lcsAt a b (i + 1) (k + 1) + 1 := by
            unfold lcsAt
            rw [drop_cons HS.out, drop_cons HT.out, lcs_same]
          have t1 : (((lcsAt a b (i + 1) (k + 1) : Nat) : Int) + 1 == ((lcsAt a b i k : Nat) : Int)) = true := by rw [beq_iff_eq]; omega
          clear t0
          go_wp2_with fail
          go_quiet (fail)
          clear d1 d2 d3 d4 d5 e11 e12 hcx hcy D1 D2 D3 D4 D5
          clear e1 e2 e3 e4 e5 e6 e7 e8 e9
          generalize hw2 : World.drewN wr _ = wr2
          have hc : Chg Never w1 wr2 := hw2 ▸ hc.drewN _
          have hown : Own 148 wr2 (Old w1.heap.size) _ pre := hw2 ▸ hown.never ((Chg.refl _ wr).drewN _)
          clear hw2
          have hcx := hc.cellNever hcx0
          go_wp2_with (at_builtin; refine wpList_push rfl _ _ 102 rfl elemOk_mark (O := Old w1.heap.size) (l := pre) (y := ⟨32, s⟩) rfl rfl rfl hown (rd_mark _ _ 32 s (by decide) (by decide) (by assumption)) (old_lt hc) (by omega) ?_; intro v' w5 hown2 hc2 _)
          have hc3 := own_step hc hown hc2
          clear hc2 hc hown
          go_wp2_with fail
          go_roundw
          case rel => exact ⟨i + 1, k + 1, _, by omega, by omega, by go_num, by go_num, hc3, hown2, by have := hpl0.out; show (pre ++ [_]).length ≤ _; simp; omega, by have := hpre.out; rw [script_keep HS.out HT.out] at this; rw [Hid, ← this]; simp⟩
          case measure => simp [intOf] <;> omega
        · have hne := str_beq_false hst
          have HST := Lib.hid hst
          have htest := lcs_test s t (a.drop (i + 1)) (b.drop (k + 1))
          rw [← drop_cons HS.out, ← drop_cons HT.out] at htest
          clear hst
          by_cases htk : far (a.drop (i + 1)) (b.drop k) + 1 = far (a.drop i) (b.drop k)
          · have t0 : lcsAt a b (i + 1) k = lcsAt a b i k := htest.2 htk
            have t1 : (((lcsAt a b (i + 1) k : Nat) : Int) == ((lcsAt a b i k : Nat) : Int)) = true := by rw [beq_iff_eq]; omega
            have HTK := Lib.hid htk
            clear htk htest t0
            go_wp2_with fail
            go_quiet (fail)
            clear d1 d2 d3 d4 d5 hcx hcy D5
            generalize hw2 : World.drewN wr _ = wr2
            have hc : Chg Never w1 wr2 := hw2 ▸ hc.drewN _
            have hown : Own 148 wr2 (Old w1.heap.size) _ pre := hw2 ▸ hown.never ((Chg.refl _ wr).drewN _)
            clear hw2
            have hcx := hc.cellNever hcx0
            have d1 := hc.cellNever D1
            have d2 := hc.cellNever D2
            have d3 := hc.cellNever D3
            have d4 := hc.cellNever D4
            go_wp2_with fail
            go_quiet (fail)
            clear d1 d2 d3 d4 hcx D1 D2 D3 D4 e11 e12
            clear e1 e2 e3 e4 e5 e6 e7 e8 e9
            generalize hw2 : World.drewN wr2 _ = wr3
            have hc : Chg Never w1 wr3 := hw2 ▸ hc.drewN _
            have hown : Own 148 wr3 (Old w1.heap.size) _ pre := hw2 ▸ hown.never ((Chg.refl _ wr2).drewN _)
            clear hw2
            have hcx := hc.cellNever hcx0
            go_wp2_with (at_builtin; refine wpList_push rfl _ _ 102 rfl elemOk_mark (O := Old w1.heap.size) (l := pre) (y := ⟨45, s⟩) rfl rfl rfl hown (rd_mark _ _ 45 s (by decide) (by decide) (by assumption)) (old_lt hc) (by omega) ?_; intro v' w5 hown2 hc2 _)
            have hc3 := own_step hc hown hc2
            clear hc2 hc hown
            go_wp2_with fail
            go_roundw
            case rel => exact ⟨i + 1, k, _, by omega, by omega, by go_num, by go_num, hc3, hown2, by have := hpl0.out; show (pre ++ [_]).length ≤ _; simp; omega, by have := hpre.out; rw [script_take HS.out (fun y hy => by rw [HT.out] at hy; injection hy with hy; subst hy; exact HST.out) HTK.out] at this; rw [Hid, ← this]; simp⟩
            case measure => simp [intOf] <;> omega
          · have t0 : lcsAt a b (i + 1) k ≠ lcsAt a b i k := fun e => htk (htest.1 e)
            have t1 : (((lcsAt a b (i + 1) k : Nat) : Int) == ((lcsAt a b i k : Nat) : Int)) = false := by rw [beq_eq_false_iff_ne]; omega
            have HTK := Lib.hid htk
            clear htk htest t0
            go_wp2_with fail
            go_quiet (fail)
            clear d1 d2 d3 d4 d5 hcx hcy D5
            generalize hw2 : World.drewN wr _ = wr2
            have hc : Chg Never w1 wr2 := hw2 ▸ hc.drewN _
            have hown : Own 148 wr2 (Old w1.heap.size) _ pre := hw2 ▸ hown.never ((Chg.refl _ wr).drewN _)
            clear hw2
            have hcy := hc.cellNever hcy0
            have d1 := hc.cellNever D1
            have d2 := hc.cellNever D2
            have d3 := hc.cellNever D3
            have d4 := hc.cellNever D4
            go_wp2_with fail
            go_quiet (fail)
            clear d1 d2 d3 d4 hcy D1 D2 D3 D4 e11 e12
            clear e1 e2 e3 e4 e5 e6 e7 e8 e9
            generalize hw2 : World.drewN wr2 _ = wr3
            have hc : Chg Never w1 wr3 := hw2 ▸ hc.drewN _
            have hown : Own 148 wr3 (Old w1.heap.size) _ pre := hw2 ▸ hown.never ((Chg.refl _ wr2).drewN _)
            clear hw2
            have hcy := hc.cellNever hcy0
            go_wp2_with (at_builtin; refine wpList_push rfl _ _ 102 rfl elemOk_mark (O := Old w1.heap.size) (l := pre) (y := ⟨43, t⟩) rfl rfl rfl hown (rd_mark _ _ 43 t (by decide) (by decide) (by assumption)) (old_lt hc) (by omega) ?_; intro v' w5 hown2 hc2 _)
            have hc3 := own_step hc hown hc2
            clear hc2 hc hown
            go_wp2_with fail
            go_roundw
            case rel => exact ⟨i, k + 1, _, by omega, by omega, by go_num, by go_num, hc3, hown2, by have := hpl0.out; show (pre ++ [_]).length ≤ _; simp; omega, by have := hpre.out; rw [script_put HT.out (fun x hx => by rw [HS.out] at hx; injection hx with hx; subst hx; exact ⟨HST.out, HTK.out⟩)] at this; rw [Hid, ← this]; simp⟩
            case measure => simp [intOf] <;> omega
      · obtain rfl : k = b.length := by omega
        have g2' : decide ((b.length : Int) < b.length) = false := by simp
        have htk : far (a.drop (i + 1)) [] + 1 = far (a.drop i) [] := by
          rw [far_nil', far_nil', List.length_drop, List.length_drop]; omega
        rw [lcsAt_right] at d2 d4 D2 D4
        have HTK := Lib.hid htk
        clear htk hs h3 g3 ha hb
        go_wp2_with fail
        go_quiet (fail)
        clear d1 d2 d3 d4 hcx
        generalize hw2 : World.drewN wr _ = wr2
        have hc : Chg Never w1 wr2 := hw2 ▸ hc.drewN _
        have hown : Own 148 wr2 (Old w1.heap.size) _ pre := hw2 ▸ hown.never ((Chg.refl _ wr).drewN _)
        clear hw2
        have hcx := hc.cellNever hcx0
        have d1 := hc.cellNever D1
        have d2 := hc.cellNever D2
        have d3 := hc.cellNever D3
        have d4 := hc.cellNever D4
        go_wp2_with fail
        go_quiet (fail)
        clear d1 d2 d3 d4 hcx D1 D2 D3 D4
        clear e1 e2 e3 e4 e5 e6 e7 e8 e9
        generalize hw2 : World.drewN wr2 _ = wr3
        have hc : Chg Never w1 wr3 := hw2 ▸ hc.drewN _
        have hown : Own 148 wr3 (Old w1.heap.size) _ pre := hw2 ▸ hown.never ((Chg.refl _ wr2).drewN _)
        clear hw2
        have hcx := hc.cellNever hcx0
        go_wp2_with (at_builtin; refine wpList_push rfl _ _ 102 rfl elemOk_mark (O := Old w1.heap.size) (l := pre) (y := ⟨45, s⟩) rfl rfl rfl hown (rd_mark _ _ 45 s (by decide) (by decide) (by assumption)) (old_lt hc) (by omega) ?_; intro v' w5 hown2 hc2 _)
        have hc3 := own_step hc hown hc2
        clear hc2 hc hown
        go_wp2_with fail
        go_roundw
        case rel => exact ⟨i + 1, b.length, _, by omega, by omega, by go_num, by go_num, hc3, hown2, by have := hpl0.out; show (pre ++ [_]).length ≤ _; simp; omega, by have := hpre.out; rw [script_take HS.out (fun y hy => by simp at hy) (by rw [List.drop_length]; exact HTK.out)] at this; rw [Hid, ← this]; simp⟩
        case measure => simp [intOf] <;> omega
    · obtain rfl : i = a.length := by omega
      have g1' : decide ((a.length : Int) < a.length) = false := by simp
      by_cases hkm : k < b.length
      · obtain ⟨t, ht⟩ : ∃ t, b[k]? = some t := ⟨b[k], by simp [hkm]⟩
        obtain ⟨p', off', rfl, _, hbl', hcy0, hys⟩ := elems_str g3 ht
        have hcy0 := hw1.cellNever hcy0
        have HT := Lib.hid ht
        have b2 : (k : Int) < b.length := by omega
        clear h3 g3 ha hb ht
        go_wp2_with fail
        go_quiet (fail)
        generalize hw2 : World.drewN wr _ = wr2
        have hc : Chg Never w1 wr2 := hw2 ▸ hc.drewN _
        have hown : Own 148 wr2 (Old w1.heap.size) _ pre := hw2 ▸ hown.never ((Chg.refl _ wr).drewN _)
        clear hw2
        go_wp2_with fail
        go_quiet (fail)
        generalize hw2 : World.drewN wr2 _ = wr3
        have hc : Chg Never w1 wr3 := hw2 ▸ hc.drewN _
        have hown : Own 148 wr3 (Old w1.heap.size) _ pre := hw2 ▸ hown.never ((Chg.refl _ wr2).drewN _)
        clear hw2
        have hcy := hc.cellNever hcy0
        go_wp2_with (at_builtin; refine wpList_push rfl _ _ 102 rfl elemOk_mark (O := Old w1.heap.size) (l := pre) (y := ⟨43, t⟩) rfl rfl rfl hown (rd_mark _ _ 43 t (by decide) (by decide) (by assumption)) (old_lt hc) (by omega) ?_; intro v' w5 hown2 hc2 _)
        have hc3 := own_step hc hown hc2
        clear hc2 hc hown
        go_wp2_with fail
        go_roundw
        case rel => exact ⟨a.length, k + 1, _, by omega, by omega, by go_num, by go_num, hc3, hown2, by have := hpl0.out; show (pre ++ [_]).length ≤ _; simp; omega, by have := hpre.out; rw [script_put HT.out (fun x hx => by simp at hx)] at this; rw [Hid, ← this]; simp⟩
        case measure => simp [intOf] <;> omega
      · obtain rfl : k = b.length := by omega
        go_wp2_with fail
        go_ret
        have E : pre = script a b := by have := hpre.out; rw [List.drop_length, List.drop_length, script, List.append_nil] at this; exact this
        exact ⟨_, rfl, hw1.trans hc, E ▸ hown.rdv.sub (fun k _ hk => by have := hw1.size; unfold Old at *; omega)⟩
end Go.Proofs.YtmjpfoeaobdaeaaGreatDoor
namespace Go.Proofs.YtmjpfoeaobdaeaaGreatDoor
open Go.RowKit

def digitsB : ByteArray := ⟨#[48, 49, 50, 51, 52, 53, 54, 55, 56, 57]⟩
theorem digits_size : digitsB.size = 10 := rfl
theorem digit_fin : ∀ k : Fin 10, digitsB.extract k.1 (k.1 + 1) = toB [UInt8.ofNat (48 + k.1)] := by decide +kernel
theorem digit_slice {N : Nat} (hN : N < 10) (w : World) : (Instr.slice 9 (.string digitsB) (some (.int .i64 (N : Int))) (some (.int .i64 ((N : Int) + 1))) none).run Tryz.prog w = .ok (.string (toB [UInt8.ofNat (48 + N)])) w := by
  rw [run_slice_string_if (h := Tryz.underlying9), if_pos ⟨by omega, by rw [digits_size]; omega⟩, if_pos ⟨by omega, by omega⟩, ← digit_fin ⟨N, hN⟩]
  rfl
theorem dec_small {k : Nat} (h : k < 10) : Lib.decDigits k = [UInt8.ofNat (48 + k)] := by rw [Lib.decDigits, dif_pos h]
theorem dec_big {k : Nat} (h : ¬ k < 10) : Lib.decDigits k = Lib.decDigits (k / 10) ++ [UInt8.ofNat (48 + k % 10)] := by conv => lhs; rw [Lib.decDigits, dif_neg h]
theorem toB_cat (a b : List UInt8) : toB a ++ toB b = toB (a ++ b) := by
  apply ByteArray.ext
  apply Array.toList_inj.1
  rw [bytes_append, toB_data, toB_data, toB_data]

set_option maxHeartbeats 1000000 in
set_option maxRecDepth 100000 in
theorem dec_any (n : Nat) (hn : n < 1000000) (w : World) :
    Calls Tryz.prog 8 #[.int .i64 n] w fun e w' => e = .returned (.string (toB (Lib.decDigits n))) ∧ w = w' := by
  go_enter Tryz.func8, Tryz.ntmps8
  go_wp2_with fail
  go_loop [0, 3] (fun nv sv => ∃ (k : Nat) (acc : List UInt8), nv = .int .i64 k ∧ sv = .string (toB acc) ∧ acc.length + k ≤ n ∧ Hid (Lib.decDigits k ++ acc = Lib.decDigits n)) (fun nv _ => (intOf nv).toNat)
  case atStart => exact ⟨n, [], rfl, rfl, by simp, by rw [Hid, List.append_nil]⟩
  case round =>
    obtain ⟨k, acc, rfl, rfl, hk, hI⟩ := hrel
    by_cases hb : k < 10
    · have hrun := digit_slice (N := k) hb
      have HR : Hid (toB [UInt8.ofNat (48 + k)] ++ toB acc = toB (Lib.decDigits n)) := by rw [Hid, toB_cat, ← dec_small hb, hI.out]
      have s1 : IntKind.i64.wrap ((k : Int) + 1) = (k : Int) + 1 := IntWalk.i64_in _ (by omega)
      have z1 : ¬ (9223372036854775807 < (toB [UInt8.ofNat (48 + k)]).size + (toB acc).size) := by rw [toB_size', toB_size']; simp; omega
      unfold digitsB at hrun
      generalize toB [UInt8.ofNat (48 + k)] = D at hrun HR z1
      clear hI
      go_wp2_with fail
      go_ret
      exact ⟨by rw [← HR.out]; rfl, rfl⟩
    · have hrun := digit_slice (N := k % 10) (by omega)
      have HR : Hid (toB [UInt8.ofNat (48 + k % 10)] ++ toB acc = toB (UInt8.ofNat (48 + k % 10) :: acc)) := by rw [Hid, toB_cat]; rfl
      have hI2 : Hid (Lib.decDigits (k / 10) ++ (UInt8.ofNat (48 + k % 10) :: acc) = Lib.decDigits n) := by
        have := hI.out
        rw [dec_big hb, List.append_assoc] at this
        exact this
      have z1 : ¬ (9223372036854775807 < (toB [UInt8.ofNat (48 + k % 10)]).size + (toB acc).size) := by rw [toB_size', toB_size']; simp; omega
      have hlen : (UInt8.ofNat (48 + k % 10) :: acc).length + k / 10 ≤ n := by rw [List.length_cons]; omega
      unfold digitsB at hrun
      rw [show (((k % 10 : Nat)) : Int) = (k : Int) % 10 by omega] at hrun
      generalize toB [UInt8.ofNat (48 + k % 10)] = D at hrun HR z1
      have s1 : IntKind.i64.wrap ((k : Int) % 10 + 1) = (k : Int) % 10 + 1 := IntWalk.i64_in _ (by omega)
      clear hI
      go_wp2_with fail
      go_round
      case rel => exact ⟨k / 10, _, by go_num, by rw [HR.out], hlen, hI2⟩
      case measure => simp [intOf]; omega
set_option maxHeartbeats 1000000 in
set_option maxRecDepth 100000 in
theorem refSpan_any (a : Int) (m : Nat) (h0 : 0 ≤ a) (h1 : a < 999) (hm : m < 1000) (w : World) :
    Calls Tryz.prog 95 #[.int .i64 a, .int .i64 m] w fun e w' => e = .returned (.string (toB (spanL a m))) ∧ w = w' := by
  obtain ⟨x, rfl⟩ : ∃ x : Nat, a = x := ⟨a.toNat, by omega⟩
  have hD2 := Lib.hid (dec_any m (by omega) w)
  have hz : ∀ n, n < 1001 → (toB (Lib.decDigits n)).size ≤ 1000 := fun n hn => by
    rw [toB_size', Lib.decDigits_length]
    have : ∀ k, k < 1001 → Lib.nDigits k ≤ 1000 := by
      intro k hk
      rw [Lib.nDigits]
      split
      · omega
      · rw [Lib.nDigits]
        split
        · omega
        · rw [Lib.nDigits]
          split
          · omega
          · rw [Lib.nDigits]
            split
            · omega
            · omega
    exact this n hn
  have z2 := hz m (by omega)
  have q1 : (⟨#[44]⟩ : ByteArray).size = 1 := rfl
  by_cases hp : 0 < m
  · have hD : Calls Tryz.prog 8 #[.int .i64 ((x : Int) + 1)] w fun e w' => e = .returned (.string (toB (Lib.decDigits (x + 1)))) ∧ w = w' := by
      have := dec_any (x + 1) (by omega) w
      rw [show ((x + 1 : Nat) : Int) = (x : Int) + 1 by omega] at this
      exact this
    have hD := Lib.hid hD
    have z1 := hz (x + 1) (by omega)
    have HS : Hid (toB (Lib.decDigits (x + 1)) ++ (⟨#[44]⟩ : ByteArray) ++ toB (Lib.decDigits m) = toB (spanL (x : Int) m)) := by
      rw [Hid, show (⟨#[44]⟩ : ByteArray) = toB [44] from rfl, toB_cat, toB_cat]
      unfold spanL
      rw [if_pos hp, show (x : Int) + 1 = ((x + 1 : Nat) : Int) by omega, itoa_nat, itoa_nat]
    have s1 : IntKind.i64.wrap ((x : Int) + 1) = (x : Int) + 1 := IntWalk.i64_in _ (by omega)
    have tp : decide ((0 : Int) < (m : Int)) = true := decide_eq_true (by omega)
    generalize toB (Lib.decDigits (x + 1)) = X at hD z1 HS
    generalize toB (Lib.decDigits m) = Y at hD2 z2 HS
    have n1 : ¬ (9223372036854775807 < X.size + (⟨#[44]⟩ : ByteArray).size) := by rw [q1]; omega
    have n2 : ¬ (9223372036854775807 < (X ++ (⟨#[44]⟩ : ByteArray)).size + Y.size) := by rw [ByteArray.size_append, q1]; omega
    clear hz
    go_enter Tryz.func95, Tryz.ntmps95
    go_wp2_with fail
    refine hD.out.mono ?_
    rintro e w1 ⟨rfl, rfl⟩
    go_wp2_with fail
    refine hD2.out.mono ?_
    rintro e w1 ⟨rfl, rfl⟩
    go_wp2_with fail
    go_ret
    exact ⟨by rw [← HS.out]; rfl, rfl⟩
  · have hD := Lib.hid (dec_any x (by omega) w)
    have z1 := hz x (by omega)
    have HS : Hid (toB (Lib.decDigits x) ++ (⟨#[44]⟩ : ByteArray) ++ toB (Lib.decDigits m) = toB (spanL (x : Int) m)) := by
      rw [Hid, show (⟨#[44]⟩ : ByteArray) = toB [44] from rfl, toB_cat, toB_cat]
      unfold spanL
      rw [if_neg hp, itoa_nat, itoa_nat]
    have tp : decide ((0 : Int) < (m : Int)) = false := decide_eq_false (by omega)
    generalize toB (Lib.decDigits x) = X at hD z1 HS
    generalize toB (Lib.decDigits m) = Y at hD2 z2 HS
    have n1 : ¬ (9223372036854775807 < X.size + (⟨#[44]⟩ : ByteArray).size) := by rw [q1]; omega
    have n2 : ¬ (9223372036854775807 < (X ++ (⟨#[44]⟩ : ByteArray)).size + Y.size) := by rw [ByteArray.size_append, q1]; omega
    clear hz
    go_enter Tryz.func95, Tryz.ntmps95
    go_wp2_with fail
    refine hD.out.mono ?_
    rintro e w1 ⟨rfl, rfl⟩
    go_wp2_with fail
    refine hD2.out.mono ?_
    rintro e w1 ⟨rfl, rfl⟩
    go_wp2_with fail
    go_ret
    exact ⟨by rw [← HS.out]; rfl, rfl⟩
end Go.Proofs.YtmjpfoeaobdaeaaGreatDoor
namespace Go.Proofs.YtmjpfoeaobdaeaaGreatDoor
open Go.RowKit

theorem rdv_elems {α : Type} [Dat α] {w : World} {O : Nat → Prop} {a : Option Addr} {n c : Nat} {l : List α} (h : Rdv w O (.slice a n c) l) : Elems w O a l := by
  obtain ⟨a', c', e, _, _, g⟩ := rdv_slice h
  injection e with e1 e2 e3
  rw [e1]; exact g
set_option maxHeartbeats 4000000 in
set_option maxRecDepth 100000 in
theorem doc_far (b : Nat) (m : Ses) (s p : List UInt8) (w : World) (hd : DocAt w b m) (hok : SesOk m) (hs : s.length ≤ 100000) (hW : parts 32 s = [farW, p]) :
    Calls Tryz.prog 15 #[.pointer (some ⟨b, 0, none⟩), .string (toB s)] w (DocPost b (m, farS m (toB p)) w) := by
  obtain ⟨P, hP⟩ : ∃ P, toB p = P := ⟨_, rfl⟩
  rw [hP]
  have hns := hd.nostr
  obtain ⟨vo, vn, hb, ho, hn⟩ := hd
  obtain ⟨oa, oc, rfl, _, _, _⟩ := rdv_slice ho
  obtain ⟨na, nc, rfl, _, _, _⟩ := rdv_slice hn
  have HW := Lib.hid hW
  have t1 : ((toB farW).toList == [100, 114, 111, 112]) = false := by rw [wtest]; decide
  have t2 : ((toB farW).toList == [100, 105, 102, 102]) = false := by rw [wtest]; decide
  have t3 : ((toB farW).toList == [102, 97, 114]) = true := by rw [wtest]; decide
  have t4 : ((toB farW).toList == [103, 111]) = false := by rw [wtest]; decide
  have s1 : ((toB s).toList == [98, 97, 99, 107]) = false := wfalse (parts_ne1 HW.out (by decide))
  have s2 : ((toB s).toList == [115, 97, 109, 101]) = false := wfalse (parts_ne1 HW.out (by decide))
  clear hW
  go_enter Tryz.func15, Tryz.ntmps15
  go_wp2_with fail
  refine (words_any (toB s) w (by rw [toB_sz]; omega)).mono ?_
  rintro e w1 ⟨ws, rfl, hc1, hws⟩
  rw [toB_data, HW.out] at hws
  have hb1 := hb.keep hc1 (fun x => x)
  have ho1 := ho.never hc1
  have hn1 := hn.never hc1
  obtain ⟨c0, c1⟩ := hb1.cell
  clear hb ho hn
  obtain ⟨wa, wc, rfl, _, wz2, wz3⟩ := rdv_slice hws
  obtain ⟨wb, woff, rfl, _, _, k0, _⟩ := elems_str wz3 (i := 0) rfl
  obtain ⟨wb', woff', hwe, _, _, k1, hps⟩ := elems_str wz3 (i := 1) rfl
  injection hwe with hwe
  injection hwe with hwe1 hwe2 _
  subst hwe1 hwe2
  clear wz3 hws
  simp only [List.map_cons, List.map_nil, List.length_cons, List.length_nil, Nat.add_zero, Nat.zero_add, Nat.reduceAdd] at k0 k1 ⊢
  rw [hP] at k1 hps
  clear hP
  generalize toB farW = X at k0 t1 t2 t3 t4
  go_wp2_with fail
  refine (refPath_any P _).mono ?_
  rintro e w2 ⟨rfl, hc2⟩
  have hw := hc1
  have hb1 := hb1.keep hc2 (fun x => x)
  have ho1 := ho1.never hc2
  have hn1 := hn1.never hc2
  obtain ⟨c0, c1⟩ := hb1.cell
  have k1 := hc2.cellNever k1
  have hw := hw.trans hc2
  by_cases zp : pathFault P = 0
  · have HR : Hid (farS m P = Lib.itoa (far (linesIn m.old P) (linesIn m.new P)) ++ [10]) := if_pos zp
    have hlo := linesIn_len hok.1 P
    have hln := linesIn_len hok.2 P
    have hfar := farIn_le hok P
    rw [zp]
    clear zp hc1 hc2
    go_wp2_with fail
    refine wp_region_held_drew (S := fun w' => Chg Never w2 w' ∧ w'.cell? ⟨b, 0, none⟩ = some (.slice oa m.old.length oc) ∧ w'.cell? ⟨wb, woff + 1, none⟩ = some (.string P)) (by kernel_rfl) ⟨(Chg.refl Never w2).drew, c0, k1⟩ (fun hH => ?_)
    refine' tk 0 ?_
    refine' tk 1 ?_
    refine' tk 2 ?_
    refine' tk 3 ?_
    refine' tk 4 ?_
    refine' tk 5 ?_
    refine' tk 6 ?_
    refine wpAnyH_ready (rs := [7]) (by kernel_rfl) (by simp) ?_
    refine AllReadyH.cons rfl (fun K hK => ?_) AllReadyH.nil
    go_simp
    (go_at_call 27; refine (refPlace_any m.old P _ _ (ho1.never ((Chg.refl Never w2).drew))).mono ?_; rintro e w3 ⟨rfl, hc9⟩; have hw3 := ((Chg.refl Never w2).drew).trans hc9; have hS2 : Chg Never w2 w3 ∧ w3.cell? ⟨b, 0, none⟩ = some (.slice oa m.old.length oc) ∧ w3.cell? ⟨wb, woff + 1, none⟩ = some (.string P) := ⟨hw3, hw3.cellNever c0, hw3.cellNever k1⟩; clear hH hc9)
    try go_wp2_with fail
    refine hK.out _ _ ?_ (fun hH => ?_)
    · assumption
    clear hK K
    try simp only [Act.put, List.setIfInBounds_toArray, List.set_cons_zero, List.set_cons_succ]
    refine' tk 8 ?_
    refine wpAnyH_done (by kernel_rfl) ?_ _
    clear hS2
    have hb1 := hb1.keep hw3 (fun x => x)
    have ho1 := ho1.never hw3
    have hn1 := hn1.never hw3
    obtain ⟨c0, c1⟩ := hb1.cell
    have k1 := hw3.cellNever k1
    have hw := hw.trans hw3
    clear hw3
    rcases placeI_look m.old P with ⟨a1, a2⟩ | ⟨i, f, a1, a2, a3⟩
    · have HLO : Hid (linesIn m.old P = []) := by unfold Hid linesIn; rw [a2]; rfl
      rw [a1]
      clear a1 a2
      have hva0 : Rdv w3 Never (.slice none 0 0) (linesIn m.old P) := by rw [HLO.out]; exact rdv_nil _ _
      go_wp2_with fail
      refine wp_region_held_drew (S := fun w' => Chg Never w3 w' ∧ w'.cell? ⟨b, 1, none⟩ = some (.slice na m.new.length nc) ∧ w'.cell? ⟨wb, woff + 1, none⟩ = some (.string P)) (by kernel_rfl) ⟨(Chg.refl Never w3).drew, c1, k1⟩ (fun hH => ?_)
      refine' tk 0 ?_
      refine' tk 1 ?_
      refine' tk 2 ?_
      refine' tk 3 ?_
      refine' tk 4 ?_
      refine' tk 5 ?_
      refine' tk 6 ?_
      refine wpAnyH_ready (rs := [7]) (by kernel_rfl) (by simp) ?_
      refine AllReadyH.cons rfl (fun K hK => ?_) AllReadyH.nil
      go_simp
      (go_at_call 27; refine (refPlace_any m.new P _ _ (hn1.never ((Chg.refl Never w3).drew))).mono ?_; rintro e w4 ⟨rfl, hc9⟩; have hw4 := ((Chg.refl Never w3).drew).trans hc9; have hS2 : Chg Never w3 w4 ∧ w4.cell? ⟨b, 1, none⟩ = some (.slice na m.new.length nc) ∧ w4.cell? ⟨wb, woff + 1, none⟩ = some (.string P) := ⟨hw4, hw4.cellNever c1, hw4.cellNever k1⟩; clear hH hc9)
      try go_wp2_with fail
      refine hK.out _ _ ?_ (fun hH => ?_)
      · assumption
      clear hK K
      try simp only [Act.put, List.setIfInBounds_toArray, List.set_cons_zero, List.set_cons_succ]
      refine' tk 8 ?_
      refine wpAnyH_done (by kernel_rfl) ?_ _
      clear hS2
      have hb1 := hb1.keep hw4 (fun x => x)
      have ho1 := ho1.never hw4
      have hn1 := hn1.never hw4
      obtain ⟨c0, c1⟩ := hb1.cell
      have k1 := hw4.cellNever k1
      have hw := hw.trans hw4
      have hva := hva0.never hw4
      clear hw4
      rcases placeI_look m.new P with ⟨b1, b2⟩ | ⟨j, g, b1, b2, b3⟩
      · have HLN : Hid (linesIn m.new P = []) := by unfold Hid linesIn; rw [b2]; rfl
        rw [b1]
        clear b1 b2
        have hvb : Rdv w4 Never (.slice none 0 0) (linesIn m.new P) := by rw [HLN.out]; exact rdv_nil _ _
        have hFar := farOf_any (linesIn m.old P) (linesIn m.new P) (.slice none 0 0) (.slice none 0 0) _ hva hvb hlo hln
        have HFAR := Lib.hid hFar
        have hFL := (digits_len (far (linesIn m.old P) (linesIn m.new P)) 2 (by omega)).1
        generalize far (linesIn m.old P) (linesIn m.new P) = F at HFAR HR hfar hFL
        clear hFar
        go_wp2_with fail
        refine HFAR.out.mono ?_
        rintro e w8 ⟨rfl, hc8⟩
        have hw := hw.trans hc8
        have hb1 := hb1.keep hc8 (fun x => x)
        have ho1 := ho1.never hc8
        have hn1 := hn1.never hc8
        clear HFAR c0 c1 k1 k0
        have hD := dec_any F (by omega) w8
        have HL : Hid (toB (Lib.decDigits F) ++ (⟨#[10]⟩ : ByteArray) = toB (Lib.itoa F ++ [10])) := by rw [Hid, show (⟨#[10]⟩ : ByteArray) = toB [10] from rfl, toB_cat, itoa_nat]
        have hz : (toB (Lib.decDigits F)).size ≤ 10 := by rw [toB_sz]; omega
        generalize toB (Lib.decDigits F) = D at hD HL hz
        have q1 : (⟨#[10]⟩ : ByteArray).size = 1 := rfl
        have n1 : ¬ (9223372036854775807 < D.size + (⟨#[10]⟩ : ByteArray).size) := by rw [q1]; omega
        clear q1
        go_wp2_with fail
        refine hD.mono ?_
        rintro e w9 ⟨rfl, rfl⟩
        go_wp2_with fail
        go_ret
        exact ⟨never_b hw, ⟨_, _, hb1, ho1, hn1⟩, by rw [HR.out, ← HL.out]; rfl⟩
      · have HLN : Hid (linesIn m.new P = g.lines) := by unfold Hid linesIn; rw [b3]; rfl
        obtain ⟨gb, go, gv, rfl, _, _, _, z1, _, zl⟩ := elems_file (rdv_elems hn1) b2
        have hvb : Rdv w4 Never gv (linesIn m.new P) := by rw [HLN.out]; exact zl
        obtain ⟨ga, gc, rfl, _, _, _⟩ := rdv_slice zl
        have hj : j < m.new.length := (List.getElem?_eq_some_iff.1 b2).1
        have tj : decide ((0 : Int) ≤ (j : Int)) = true := decide_eq_true (by omega)
        rw [b1]
        clear b1 b2 b3 zl
        generalize g.lines.length = gn at z1 hvb
        have hFar := farOf_any (linesIn m.old P) (linesIn m.new P) (.slice none 0 0) (.slice ga gn gc) _ hva hvb hlo hln
        have HFAR := Lib.hid hFar
        have hFL := (digits_len (far (linesIn m.old P) (linesIn m.new P)) 2 (by omega)).1
        generalize far (linesIn m.old P) (linesIn m.new P) = F at HFAR HR hfar hFL
        clear hFar
        go_wp2_with fail
        refine HFAR.out.mono ?_
        rintro e w8 ⟨rfl, hc8⟩
        have hw := hw.trans hc8
        have hb1 := hb1.keep hc8 (fun x => x)
        have ho1 := ho1.never hc8
        have hn1 := hn1.never hc8
        clear HFAR c0 c1 k1 k0
        have hD := dec_any F (by omega) w8
        have HL : Hid (toB (Lib.decDigits F) ++ (⟨#[10]⟩ : ByteArray) = toB (Lib.itoa F ++ [10])) := by rw [Hid, show (⟨#[10]⟩ : ByteArray) = toB [10] from rfl, toB_cat, itoa_nat]
        have hz : (toB (Lib.decDigits F)).size ≤ 10 := by rw [toB_sz]; omega
        generalize toB (Lib.decDigits F) = D at hD HL hz
        have q1 : (⟨#[10]⟩ : ByteArray).size = 1 := rfl
        have n1 : ¬ (9223372036854775807 < D.size + (⟨#[10]⟩ : ByteArray).size) := by rw [q1]; omega
        clear q1
        go_wp2_with fail
        refine hD.mono ?_
        rintro e w9 ⟨rfl, rfl⟩
        go_wp2_with fail
        go_ret
        exact ⟨never_b hw, ⟨_, _, hb1, ho1, hn1⟩, by rw [HR.out, ← HL.out]; rfl⟩
    · have HLO : Hid (linesIn m.old P = f.lines) := by unfold Hid linesIn; rw [a3]; rfl
      obtain ⟨fb, fo, fv, rfl, _, _, _, y1, _, yl⟩ := elems_file (rdv_elems ho1) a2
      have hva0 : Rdv w3 Never fv (linesIn m.old P) := by rw [HLO.out]; exact yl
      obtain ⟨fa, fc, rfl, _, _, _⟩ := rdv_slice yl
      have hi : i < m.old.length := (List.getElem?_eq_some_iff.1 a2).1
      have ti : decide ((0 : Int) ≤ (i : Int)) = true := decide_eq_true (by omega)
      rw [a1]
      clear a1 a2 a3 yl
      generalize f.lines.length = fn at y1 hva0
      go_wp2_with fail
      refine wp_region_held_drew (S := fun w' => Chg Never w3 w' ∧ w'.cell? ⟨b, 1, none⟩ = some (.slice na m.new.length nc) ∧ w'.cell? ⟨wb, woff + 1, none⟩ = some (.string P)) (by kernel_rfl) ⟨(Chg.refl Never w3).drew, c1, k1⟩ (fun hH => ?_)
      refine' tk 0 ?_
      refine' tk 1 ?_
      refine' tk 2 ?_
      refine' tk 3 ?_
      refine' tk 4 ?_
      refine' tk 5 ?_
      refine' tk 6 ?_
      refine wpAnyH_ready (rs := [7]) (by kernel_rfl) (by simp) ?_
      refine AllReadyH.cons rfl (fun K hK => ?_) AllReadyH.nil
      go_simp
      (go_at_call 27; refine (refPlace_any m.new P _ _ (hn1.never ((Chg.refl Never w3).drew))).mono ?_; rintro e w4 ⟨rfl, hc9⟩; have hw4 := ((Chg.refl Never w3).drew).trans hc9; have hS2 : Chg Never w3 w4 ∧ w4.cell? ⟨b, 1, none⟩ = some (.slice na m.new.length nc) ∧ w4.cell? ⟨wb, woff + 1, none⟩ = some (.string P) := ⟨hw4, hw4.cellNever c1, hw4.cellNever k1⟩; clear hH hc9)
      try go_wp2_with fail
      refine hK.out _ _ ?_ (fun hH => ?_)
      · assumption
      clear hK K
      try simp only [Act.put, List.setIfInBounds_toArray, List.set_cons_zero, List.set_cons_succ]
      refine' tk 8 ?_
      refine wpAnyH_done (by kernel_rfl) ?_ _
      clear hS2
      have hb1 := hb1.keep hw4 (fun x => x)
      have ho1 := ho1.never hw4
      have hn1 := hn1.never hw4
      obtain ⟨c0, c1⟩ := hb1.cell
      have k1 := hw4.cellNever k1
      have hw := hw.trans hw4
      have hva := hva0.never hw4
      clear hw4
      rcases placeI_look m.new P with ⟨b1, b2⟩ | ⟨j, g, b1, b2, b3⟩
      · have HLN : Hid (linesIn m.new P = []) := by unfold Hid linesIn; rw [b2]; rfl
        rw [b1]
        clear b1 b2
        have hvb : Rdv w4 Never (.slice none 0 0) (linesIn m.new P) := by rw [HLN.out]; exact rdv_nil _ _
        have hFar := farOf_any (linesIn m.old P) (linesIn m.new P) (.slice fa fn fc) (.slice none 0 0) _ hva hvb hlo hln
        have HFAR := Lib.hid hFar
        have hFL := (digits_len (far (linesIn m.old P) (linesIn m.new P)) 2 (by omega)).1
        generalize far (linesIn m.old P) (linesIn m.new P) = F at HFAR HR hfar hFL
        clear hFar
        go_wp2_with fail
        refine HFAR.out.mono ?_
        rintro e w8 ⟨rfl, hc8⟩
        have hw := hw.trans hc8
        have hb1 := hb1.keep hc8 (fun x => x)
        have ho1 := ho1.never hc8
        have hn1 := hn1.never hc8
        clear HFAR c0 c1 k1 k0
        have hD := dec_any F (by omega) w8
        have HL : Hid (toB (Lib.decDigits F) ++ (⟨#[10]⟩ : ByteArray) = toB (Lib.itoa F ++ [10])) := by rw [Hid, show (⟨#[10]⟩ : ByteArray) = toB [10] from rfl, toB_cat, itoa_nat]
        have hz : (toB (Lib.decDigits F)).size ≤ 10 := by rw [toB_sz]; omega
        generalize toB (Lib.decDigits F) = D at hD HL hz
        have q1 : (⟨#[10]⟩ : ByteArray).size = 1 := rfl
        have n1 : ¬ (9223372036854775807 < D.size + (⟨#[10]⟩ : ByteArray).size) := by rw [q1]; omega
        clear q1
        go_wp2_with fail
        refine hD.mono ?_
        rintro e w9 ⟨rfl, rfl⟩
        go_wp2_with fail
        go_ret
        exact ⟨never_b hw, ⟨_, _, hb1, ho1, hn1⟩, by rw [HR.out, ← HL.out]; rfl⟩
      · have HLN : Hid (linesIn m.new P = g.lines) := by unfold Hid linesIn; rw [b3]; rfl
        obtain ⟨gb, go, gv, rfl, _, _, _, z1, _, zl⟩ := elems_file (rdv_elems hn1) b2
        have hvb : Rdv w4 Never gv (linesIn m.new P) := by rw [HLN.out]; exact zl
        obtain ⟨ga, gc, rfl, _, _, _⟩ := rdv_slice zl
        have hj : j < m.new.length := (List.getElem?_eq_some_iff.1 b2).1
        have tj : decide ((0 : Int) ≤ (j : Int)) = true := decide_eq_true (by omega)
        rw [b1]
        clear b1 b2 b3 zl
        generalize g.lines.length = gn at z1 hvb
        have hFar := farOf_any (linesIn m.old P) (linesIn m.new P) (.slice fa fn fc) (.slice ga gn gc) _ hva hvb hlo hln
        have HFAR := Lib.hid hFar
        have hFL := (digits_len (far (linesIn m.old P) (linesIn m.new P)) 2 (by omega)).1
        generalize far (linesIn m.old P) (linesIn m.new P) = F at HFAR HR hfar hFL
        clear hFar
        go_wp2_with fail
        refine HFAR.out.mono ?_
        rintro e w8 ⟨rfl, hc8⟩
        have hw := hw.trans hc8
        have hb1 := hb1.keep hc8 (fun x => x)
        have ho1 := ho1.never hc8
        have hn1 := hn1.never hc8
        clear HFAR c0 c1 k1 k0
        have hD := dec_any F (by omega) w8
        have HL : Hid (toB (Lib.decDigits F) ++ (⟨#[10]⟩ : ByteArray) = toB (Lib.itoa F ++ [10])) := by rw [Hid, show (⟨#[10]⟩ : ByteArray) = toB [10] from rfl, toB_cat, itoa_nat]
        have hz : (toB (Lib.decDigits F)).size ≤ 10 := by rw [toB_sz]; omega
        generalize toB (Lib.decDigits F) = D at hD HL hz
        have q1 : (⟨#[10]⟩ : ByteArray).size = 1 := rfl
        have n1 : ¬ (9223372036854775807 < D.size + (⟨#[10]⟩ : ByteArray).size) := by rw [q1]; omega
        clear q1
        go_wp2_with fail
        refine hD.mono ?_
        rintro e w9 ⟨rfl, rfl⟩
        go_wp2_with fail
        go_ret
        exact ⟨never_b hw, ⟨_, _, hb1, ho1, hn1⟩, by rw [HR.out, ← HL.out]; rfl⟩
  · have HR : Hid (farS m P = toldS [] (pathFault P)) := if_neg zp
    have z1 : (pathFault P == 0) = false := beq_eq_false_iff_ne.2 zp
    generalize pathFault P = E at z1 HR ⊢
    clear zp
    go_wp2_with fail
    refine (reftold_any [] (by simp) E _).mono ?_
    rintro e w5 ⟨rfl, rfl⟩
    go_wp2_with fail
    go_ret
    exact ⟨never_b hw, ⟨_, _, hb1, ho1, hn1⟩, by rw [HR.out]; rfl⟩
end Go.Proofs.YtmjpfoeaobdaeaaGreatDoor
namespace Go.Proofs.YtmjpfoeaobdaeaaGreatDoor

def inTo (s : List Mark) (n : Int) (k j : Nat) : Bool := (s[k]?.any isChange) || (List.range j).any fun i => (s[i]?.any isChange) && decide ((k : Int) ≤ i + n) && decide ((i : Int) ≤ k + n)
theorem inTo_zero {s : List Mark} {n : Int} {k : Nat} {x : Mark} (hx : s[k]? = some x) : inTo s n k 0 = isChange x := by
  unfold inTo; simp [hx]
theorem inTo_step {s : List Mark} {n : Int} {k j : Nat} {y : Mark} (hy : s[j]? = some y) : inTo s n k (j + 1) = (inTo s n k j || (isChange y && decide ((k : Int) ≤ j + n) && decide ((j : Int) ≤ k + n))) := by
  unfold inTo
  rw [List.range_succ, List.any_append]
  simp [hy, Bool.or_assoc]
theorem inTo_in {s : List Mark} {n : Int} {k j : Nat} {y : Mark} (hy : s[j]? = some y) (h1 : y.sign ≠ 32) (h2 : (j : Int) - k ≤ n) (h3 : (k : Int) - j ≤ n) : inTo s n k (j + 1) = true := by
  rw [inTo_step hy]
  have e1 : isChange y = true := by simp [isChange, h1]
  rw [e1, decide_eq_true (show (k : Int) ≤ j + n by omega), decide_eq_true (show (j : Int) ≤ k + n by omega)]
  simp
theorem inTo_out {s : List Mark} {n : Int} {k j : Nat} {y : Mark} (hy : s[j]? = some y) (h : y.sign = 32 ∨ ¬ (j : Int) - k ≤ n ∨ ¬ (k : Int) - j ≤ n) : inTo s n k (j + 1) = inTo s n k j := by
  rw [inTo_step hy]
  have : (isChange y && decide ((k : Int) ≤ j + n) && decide ((j : Int) ≤ k + n)) = false := by
    rcases h with h | h | h
    · have e1 : isChange y = false := by simp [isChange, h]
      rw [e1]; rfl
    · rw [decide_eq_false (show ¬ (j : Int) ≤ k + n by omega)]; simp
    · rw [decide_eq_false (show ¬ (k : Int) ≤ j + n by omega)]; simp
  rw [this, Bool.or_false]
theorem inTo_end {s : List Mark} {n : Int} {k : Nat} (hn : 0 ≤ n) (hk : k < s.length) : inTo s n k s.length = inAt s n k := by
  unfold inTo inAt
  cases hc : s[k]?.any isChange with
  | false => rfl
  | true =>
    rw [Bool.true_or]
    symm
    rw [List.any_eq_true]
    exact ⟨k, List.mem_range.2 hk, by rw [hc, decide_eq_true (show (k : Int) ≤ k + n by omega)]; rfl⟩
end Go.Proofs.YtmjpfoeaobdaeaaGreatDoor
