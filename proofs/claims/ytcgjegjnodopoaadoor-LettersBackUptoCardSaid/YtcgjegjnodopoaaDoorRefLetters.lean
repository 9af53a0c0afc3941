/-
  THE WALK of the document's Letters.
-/
import Derived.Test.YtcgjegjnodopoaaDoorFour
import Derived.Test.YtcgjegjnodopoaaDoorSpecLetters2
namespace Go.Proofs.YtcgjegjnodopoaaDoor
open Go.RowKit

def sixN (l : List UInt8) (i : Nat) : Nat → Nat
  | 0 => 0
  | t + 1 => sixN l i t * 2 + bitAt l (i + t)
theorem bit_lt (l : List UInt8) (k : Nat) : bitAt l k < 2 := by
  unfold bitAt
  split
  · exact Nat.mod_lt _ (by decide)
  · decide
theorem sixN_lt (l : List UInt8) (i : Nat) : ∀ t, sixN l i t < 2 ^ t
  | 0 => by simp [sixN]
  | t + 1 => by
    have h1 := sixN_lt l i t
    have h2 := bit_lt l (i + t)
    rw [sixN, Nat.pow_succ]
    omega
theorem sixN_6 (l : List UInt8) (i : Nat) : sixN l i 6 = sixAt l i := by
  simp [sixN, sixAt]
def rawN (l : List UInt8) (j : Nat) : List UInt8 := (List.range j).map fun j => letterAt (sixAt l (6 * j))
theorem rawN_step (l : List UInt8) (j : Nat) : rawN l (j + 1) = rawN l j ++ [letterAt (sixAt l (6 * j))] := by
  unfold rawN
  rw [List.range_succ, List.map_append]; rfl
theorem rawN_full (l : List UInt8) : rawN l ((8 * l.length + 5) / 6) = rawL l := rfl
theorem rawN_len (l : List UInt8) (j : Nat) : (rawN l j).length = j := by simp [rawN]

theorem bit8 : ∀ x : Fin 256, ∀ r : Fin 8, (bits .and .u8 ((x.1 : Int) / 2 ^ r.1) 1 == 1) = (x.1 / 2 ^ r.1 % 2 == 1) := by decide +kernel
theorem bit_eq {l : List UInt8} {k : Nat} {x : UInt8} (hk : k < 8 * l.length) (hx : l[k / 8]? = some x) : bitAt l k = x.toNat / 2 ^ (7 - k % 8) % 2 := by
  unfold bitAt
  rw [if_pos hk, List.getD_eq_getElem?_getD, hx]; rfl
theorem bit_test {l : List UInt8} {k : Nat} {x : UInt8} (hk : k < 8 * l.length) (hx : l[k / 8]? = some x) : (bits .and .u8 ((x.toNat : Int) / 2 ^ (7 - k % 8)) 1 == 1) = (bitAt l k == 1) := by
  rw [bit_eq hk hx]
  exact bit8 ⟨x.toNat, x.toNat_lt⟩ ⟨7 - k % 8, by omega⟩
theorem extract_fin : ∀ k : Fin 64, lettersB.extract k.1 (k.1 + 1) = toB [letterAt k.1] := by decide +kernel

theorem letter_slice {N : Nat} (hN : N < 64) (w : World) : (Instr.slice 9 (.string lettersB) (some (.int .i64 (N : Int))) (some (.int .i64 ((N : Int) + 1))) none).run Tryd.prog w = .ok (.string (toB [letterAt N])) w := by
  rw [run_slice_string_if (h := Tryd.underlying9), if_pos ⟨by omega, by rw [letters_size]; omega⟩, if_pos ⟨by omega, by omega⟩, ← extract_fin ⟨N, hN⟩]
  rfl

theorem pad_step {X : List UInt8} (h : X.length % 4 ≠ 0) : padL (X ++ [61]) = padL X := by
  unfold padL
  rw [List.append_assoc, List.length_append, List.length_singleton]
  congr 1
  have e : (4 - X.length % 4) % 4 = (4 - (X.length + 1) % 4) % 4 + 1 := by omega
  rw [e, List.replicate_succ]; rfl
theorem pad_done {X : List UInt8} (h : X.length % 4 = 0) : padL X = X := by
  unfold padL
  rw [h]; simp
theorem toB_size (X : List UInt8) : (toB X).size = X.length := by rw [Lib.size_eq, toB_data]
theorem toB_extract (X : List UInt8) (a b : Nat) : (toB X).extract a b = toB ((X.drop a).take (b - a)) := by
  apply ByteArray.ext
  apply Array.toList_inj.1
  rw [Lib.extract_data, toB_data, toB_data]
def padLeft : Value → Nat
  | .string b => (4 - b.size % 4) % 4
  | _ => 0
def strLen : Value → Nat
  | .string b => b.size
  | _ => 0

set_option maxHeartbeats 1000000 in
set_option maxRecDepth 100000 in
theorem refLetters_any (l : List UInt8) (v : Value) (w : World) (h : Rdv w Never v l) (hl : l.length ≤ 1000000) :
    Calls Tryd.prog 7 #[v] w fun e w' => e = .returned (.string (toB (encL l))) ∧ w = w' := by
  obtain ⟨a, cap, rfl, h1, h2, h3⟩ := rdv_slice h
  unfold maxLen at h2
  go_enter Tryd.func7, Tryd.ntmps7
  go_wp2_with fail
  go_loop [3, 4] (fun sv i => ∃ j : Nat, 6 * j ≤ 8 * l.length + 5 ∧ i = .int .i64 ((6 * j : Nat) : Int) ∧ sv = .string (toB (rawN l j))) (fun _ i => 8 * l.length + 6 - (intOf i).toNat)
  case atStart => exact ⟨0, by omega, rfl, rfl⟩
  case round =>
    obtain ⟨j, hj, rfl, rfl⟩ := hrel
    by_cases hlt : 6 * j < 8 * l.length
    · obtain ⟨i, hi⟩ : ∃ i, 6 * j = i := ⟨_, rfl⟩
      have hil : i < 8 * l.length := by omega
      have HI := Lib.hid hi
      rw [hi]
      clear hi hlt
      have hw8 : wrap64 ((l.length : Int) * 8) = (l.length : Int) * 8 := by unfold wrap64; omega
      go_wp2_with fail
      go_loop [5, 6] (fun n k => ∃ t : Nat, t ≤ 6 ∧ k = .int .i64 ((i + t : Nat) : Int) ∧ n = .int .i64 (sixN l i t)) (fun _ k => i + 6 - (intOf k).toNat)
      case atStart => exact ⟨0, by omega, rfl, rfl⟩
      case round =>
        obtain ⟨t, ht, rfl, rfl⟩ := hrel
        have hn := sixN_lt l i t
        by_cases ht6 : t < 6
        · have hn2 : sixN l i t < 64 := Nat.lt_of_lt_of_le hn (Nat.pow_le_pow_right (n := 2) (by decide) (show t ≤ 6 by omega))
          obtain ⟨k, hk⟩ : ∃ k, i + t = k := ⟨_, rfl⟩
          have HK := Lib.hid hk
          have hkt : k < i + 6 := by omega
          rw [hk]
          clear hk
          obtain ⟨N, hN⟩ : ∃ N, sixN l i t = N := ⟨_, rfl⟩
          have HN := Lib.hid hN
          rw [hN] at hn2 ⊢
          clear hN hn
          by_cases hkl : k < 8 * l.length
          · have t1 : decide ((k : Int) < (l.length : Int) * 8) = true := decide_eq_true (by omega)
            have hp : k / 8 < l.length := by omega
            obtain ⟨x, hx⟩ : ∃ x, l[k / 8]? = some x := ⟨l[k / 8], by simp [hp]⟩
            obtain ⟨b, off, rfl, _, _, hcx⟩ := elems_byte h3 hx
            have hbt := bit_test hkl hx
            clear h3 h hx
            cases hb : (bitAt l k == 1) with
            | true =>
              have HS : Hid (sixN l i (t + 1) = N * 2 + 1) := by rw [Hid, sixN, HN.out, HK.out, eq_of_beq hb]
              rw [hb] at hbt
              clear hb
              go_wp2_with fail
              go_round
              case rel => exact ⟨t + 1, by omega, by congr 1; have := HK.out; omega, by rw [HS.out]; congr 1⟩
              case measure => simp [intOf]; omega
            | false =>
              have HS : Hid (sixN l i (t + 1) = N * 2) := by
                have h2 := bit_lt l k
                have h3 : bitAt l k ≠ 1 := by simpa using hb
                rw [Hid, sixN, HN.out, HK.out]; omega
              rw [hb] at hbt
              clear hb
              go_wp2_with fail
              go_round
              case rel => exact ⟨t + 1, by omega, by congr 1; have := HK.out; omega, by rw [HS.out]; congr 1⟩
              case measure => simp [intOf]; omega
          · have t1 : decide ((k : Int) < (l.length : Int) * 8) = false := decide_eq_false (by omega)
            have HS : Hid (sixN l i (t + 1) = N * 2) := by
              rw [Hid, sixN, HN.out, HK.out, bit_end l (by omega)]; rfl
            go_wp2_with fail
            go_round
            case rel => exact ⟨t + 1, by omega, by congr 1; have := HK.out; omega, by rw [HS.out]; congr 1⟩
            case measure => simp [intOf]; omega
        · obtain rfl : t = 6 := by omega
          rw [sixN_6] at hn ⊢
          have hn64 : sixAt l i < 64 := hn
          clear hn
          have HL : Hid (rawN l (j + 1) = rawN l j ++ [letterAt (sixAt l i)]) := by rw [Hid, rawN_step, HI.out]
          obtain ⟨N, hN⟩ : ∃ N, sixAt l i = N := ⟨_, rfl⟩
          rw [hN] at hn64 HL ⊢
          have hsz : ¬ 9223372036854775807 < (toB (rawN l j)).size + (toB [letterAt N]).size := by
            rw [Lib.size_eq, Lib.size_eq, toB_data, toB_data, rawN_len]
            simp only [List.length_singleton]
            have := HI.out
            omega
          have hex := letter_slice hn64
          unfold lettersB at hex
          clear hN
          go_wp2_with fail
          go_round
          case rel => exact ⟨j + 1, by have := HI.out; omega, by congr 1; have := HI.out; omega, by rw [HL.out, toB_append]⟩
          case measure => simp [intOf]; omega
    · have HF : Hid (rawN l j = rawL l) := by
        rw [Hid, ← rawN_full]
        congr 1
        omega
      have hrl : (rawL l).length ≤ 2000000 := by rw [← HF.out, rawN_len]; omega
      rw [HF.out]
      have hw8 : wrap64 ((l.length : Int) * 8) = (l.length : Int) * 8 := by unfold wrap64; omega
      have t0 : ¬ ((6 * j : Nat) : Int) < (l.length : Int) * 8 := by omega
      clear h h3 HF
      go_wp2_with fail
      go_loop [3] (fun sv => ∃ X : List UInt8, sv = .string (toB X) ∧ X.length ≤ 2000000 + 4 ∧ (X.length ≤ 2000000 ∨ X.length % 4 = 0 ∨ X.length + (4 - X.length % 4) ≤ 2000004) ∧ Hid (padL X = padL (rawL l))) (fun sv => padLeft sv)
      case atStart => exact ⟨rawL l, rfl, by omega, .inl hrl, rfl⟩
      case round =>
        obtain ⟨X, rfl, hX, hX2, hP⟩ := hrel
        by_cases h4 : X.length % 4 = 0
        · have t1 : (((toB X).size : Int) % 4 != 0) = false := by rw [toB_size]; simp; omega
          have hP2 : Hid (X = padL (rawL l)) := by rw [Hid, ← hP.out, pad_done h4]
          clear hP h4 hX2
          go_wp2_with fail
          go_loop [3, 7] (fun sv ov => ∃ y o : ByteArray, sv = .string y ∧ ov = .string o ∧ o.size + 2 * y.size ≤ 5000000 ∧ Hid (o.data.toList ++ lineGo y.data.toList = lineGo X)) (fun sv _ => strLen sv)
          case atStart => exact ⟨toB X, ⟨#[]⟩, rfl, rfl, by rw [toB_size]; show 0 + _ ≤ _; omega, by rw [Hid, toB_data]; rfl⟩
          case round =>
            obtain ⟨y, o, rfl, rfl, hyo, hL⟩ := hrel
            have hyl : Hid (y.data.toList.length = y.size) := (Lib.size_eq y).symm
            by_cases h76 : 76 < y.size
            · have hL2 : Hid ((o ++ y.extract 0 76 ++ ⟨#[10]⟩ : ByteArray).data.toList ++ lineGo (y.extract 76 y.size).data.toList = lineGo X) := by
                rw [Hid, ← hL.out, bytes_append, bytes_append, Lib.extract_data, Lib.extract_data]
                conv => rhs; rw [lineGo, if_pos (by rw [hyl.out]; exact h76)]
                rw [List.drop_zero, Nat.sub_zero, List.take_of_length_le (l := y.data.toList.drop 76) (by rw [List.length_drop, hyl.out]; exact Nat.le_refl _)]
                simp only [List.append_assoc]
              have hs1 : (y.extract 0 76).size = 76 := by rw [ByteArray.size_extract]; omega
              have hs2 : (y.extract 76 y.size).size = y.size - 76 := by rw [ByteArray.size_extract]; omega
              have hs3 : (o ++ y.extract 0 76 ++ ⟨#[10]⟩ : ByteArray).size = o.size + 77 := by rw [ByteArray.size_append, ByteArray.size_append, hs1]; rfl
              have HS1 := Lib.hid hs1
              have HS2 := Lib.hid hs2
              have HS3 := Lib.hid hs3
              have hs1' : (y.extract 0 76).size ≤ 76 := by omega
              clear hL hs1 hs2 hs3
              go_wp2_with fail
              go_round
              case rel => exact ⟨_, _, rfl, rfl, by have h2 := HS2.out; have h3 := HS3.out; simp only [h2, h3]; omega, hL2.out⟩
              case measure => show (y.extract 76 y.size).size < y.size; rw [HS2.out]; omega
            · by_cases h0 : 0 < y.size
              · have hE : Hid (toB (encL l) = o ++ y ++ ⟨#[10]⟩) := by
                  apply ByteArray.ext
                  apply Array.toList_inj.1
                  rw [toB_data, ← letters_same, ← hP2.out, ← hL.out, lineGo, if_neg (by rw [hyl.out]; exact h76), if_neg (by intro e; have := hyl.out; rw [e] at this; simp at this; omega), bytes_append, bytes_append]
                  simp only [List.append_assoc]
                clear hL
                go_wp2_with fail
                go_ret
                exact ⟨by rw [hE.out]; rfl, rfl⟩
              · have hE : Hid (toB (encL l) = o) := by
                  apply ByteArray.ext
                  apply Array.toList_inj.1
                  rw [toB_data, ← letters_same, ← hP2.out, ← hL.out, lineGo, if_neg (by rw [hyl.out]; exact h76), if_pos (List.eq_nil_of_length_eq_zero (by rw [hyl.out]; omega)), List.append_nil]
                clear hL
                go_wp2_with fail
                go_ret
                exact ⟨by rw [hE.out]; rfl, rfl⟩
        · have t1 : (((toB X).size : Int) % 4 != 0) = true := by rw [toB_size]; simp; omega
          have hP2 : Hid (padL (X ++ [61]) = padL (rawL l)) := by rw [Hid, pad_step h4]; exact hP.out
          have hsz : ¬ 9223372036854775807 < (toB X).size + 1 := by rw [toB_size]; omega
          clear hP
          go_wp2_with fail
          go_round
          case rel => exact ⟨X ++ [61], by rw [toB_append]; rfl, by simp; omega, by simp; omega, hP2.out⟩
          case measure =>
            show (4 - ((toB X) ++ _).size % 4) % 4 < (4 - (toB X).size % 4) % 4
            rw [ByteArray.size_append, toB_size]
            show (4 - (X.length + 1) % 4) % 4 < _
            omega
end Go.Proofs.YtcgjegjnodopoaaDoor
