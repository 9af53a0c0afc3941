/-
  THE WALK of base64.four.
-/
import Derived.Test.YtcgjegjnodopoaaDoorBytes
import Derived.Test.YtcgjegjnodopoaaDoorRow
import Derived.Test.YtcgjegjnodopoaaDoorSpecLetters
import Derived.Test.YtcgjegjnodopoaaDoorBits64
namespace Go.Proofs.YtcgjegjnodopoaaDoor
open Go.RowKit

/-- the first k bytes of three as a number -/
def pre (l : List UInt8) : Nat → Nat
  | 0 => 0
  | k + 1 => pre l k * 256 + (l.getD k 0).toNat
theorem pre_lt (l : List UInt8) : ∀ k, pre l k < 256 ^ k
  | 0 => by simp [pre]
  | k + 1 => by
    have h1 := pre_lt l k
    have h2 := (l.getD k 0).toNat_lt
    rw [pre, Nat.pow_succ]
    omega
theorem pre_3 {l : List UInt8} (h : l.length ≤ 3) : pre l 3 = num3 l := by
  match l, h with
  | [], _ => rfl
  | [a], _ => simp [pre, num3]; omega
  | [a, b], _ => simp [pre, num3]; omega
  | [a, b, c], _ => simp [pre, num3]; omega
theorem or_byte {n : Nat} (hn : n < 65536) (x : UInt8) : bits .or .i64 ((n : Int) * 256) (x.toNat : Int) = ((n * 256 + x.toNat : Nat) : Int) := by
  have hx := x.toNat_lt
  have h1 := bits_or_i64 (n * 256) x.toNat (by omega) (by omega)
  rw [show ((n * 256 : Nat) : Int) = (n : Int) * 256 by omega] at h1
  rw [h1]
  congr 1
  have := Nat.two_pow_add_eq_or_of_lt (i := 8) (b := x.toNat) hx n
  rw [show (256 : Nat) = 2 ^ 8 by decide, Nat.mul_comm, ← this]
theorem and_63 (n : Nat) (h : n < 9223372036854775808) : bits .and .i64 (n : Int) 63 = ((n % 64 : Nat) : Int) := by
  have h1 := bits_and_i64 n 63 h (by decide)
  rw [show ((63 : Nat) : Int) = 63 by rfl] at h1
  rw [h1, show (63 : Nat) = 2 ^ 6 - 1 by decide, Nat.and_two_pow_sub_one_eq_mod]
def lettersB : ByteArray := ⟨#[65, 66, 67, 68, 69, 70, 71, 72, 73, 74, 75, 76, 77, 78, 79, 80, 81, 82, 83, 84, 85, 86, 87, 88, 89, 90, 97, 98, 99, 100, 101, 102, 103, 104, 105, 106, 107, 108, 109, 110, 111, 112, 113, 114, 115, 116, 117, 118, 119, 120, 121, 122, 48, 49, 50, 51, 52, 53, 54, 55, 56, 57, 43, 47]⟩
theorem letters_size : lettersB.size = 64 := rfl
theorem letters_get : ∀ k : Fin 64, (lettersB[k.1]'(by rw [letters_size]; exact k.2)) = letterAt k.1 := by decide +kernel
theorem letter_at {k : Nat} (hk : k < 64) (w : World) : (Instr.index 9 (.string lettersB) (.int .i64 (k : Int))).run Tryd.prog w = .ok (.int .u8 (letterAt k).toNat) w := by
  rw [run_index_string _ _ _ _ _ Tryd.underlying9]
  rw [dif_pos ⟨by omega, by rw [letters_size]; omega⟩]
  simp only [Int.toNat_natCast]
  rw [letters_get ⟨k, hk⟩]
/-- the letters of the first k places -/
def outAt (l : List UInt8) (k j : Nat) : Value := .int .u8 (if j < k then ((fourOf l).getD j 0).toNat else 0)
theorem four_get {l : List UInt8} {j : Nat} (hj : j < 4) : (fourOf l).getD j 0 = if l.length < j then 61 else letterAt (num3 l / 2 ^ (18 - 6 * j) % 64) := by
  unfold fourOf
  rw [List.getD_eq_getElem?_getD, List.getElem?_map, List.getElem?_range hj]; rfl

theorem outAt_step {l : List UInt8} {k j : Nat} {v : Value} (hv : v = .int .u8 ((fourOf l).getD k 0).toNat) : outAt l (k + 1) j = if j = k then v else outAt l k j := by
  unfold outAt
  by_cases e : j = k
  · subst e; rw [if_pos rfl, if_pos (by omega), hv]
  · rw [if_neg e]
    by_cases h : j < k
    · rw [if_pos h, if_pos (by omega)]
    · rw [if_neg h, if_neg (by omega)]

set_option maxHeartbeats 2000000 in
set_option maxRecDepth 100000 in
theorem four_any (l : List UInt8) (v : Value) (w : World) (h : Rdv w Never v l) (hl : l.length ≤ 3) :
    Calls Tryd.prog 27 #[v] w fun e w' => e = .returned (.string (toB (fourOf l))) ∧ Chg Never w w' := by
  obtain ⟨a, cap, rfl, h1, h2, h3⟩ := rdv_slice h
  unfold maxLen at h2
  go_enter Tryd.func27, Tryd.ntmps27
  go_wp2_with fail
  go_loop [3, 7] (fun n i => ∃ k : Nat, k ≤ 3 ∧ i = .int .i64 k ∧ n = .int .i64 (pre l k)) (fun _ i => 3 - (intOf i).toNat)
  case atStart => exact ⟨0, Nat.zero_le _, rfl, rfl⟩
  case round =>
    obtain ⟨k, hk, rfl, rfl⟩ := hrel
    have hp := pre_lt l k
    by_cases hk3 : k < 3
    · have hp2 : pre l k < 65536 := Nat.lt_of_lt_of_le hp (by match k, hk3 with
        | 0, _ => decide
        | 1, _ => decide
        | 2, _ => decide)
      have hwr : wrap64 ((pre l k : Int) * 256) = (pre l k : Int) * 256 := by unfold wrap64; omega
      by_cases hlt : k < l.length
      · obtain ⟨x, hx⟩ : ∃ x, l[k]? = some x := ⟨l[k], by simp [hlt]⟩
        obtain ⟨b, off, rfl, _, _, hcx⟩ := elems_byte h3 hx
        have hor := or_byte hp2 x
        have hwx : wrap64 (x.toNat : Int) = (x.toNat : Int) := by have := x.toNat_lt; unfold wrap64; omega
        have HN : Hid (pre l (k + 1) = pre l k * 256 + x.toNat) := by rw [Hid, pre, List.getD_eq_getElem?_getD, hx]; rfl
        clear hx h3 h
        go_wp2_with fail
        go_round
        case rel => exact ⟨k + 1, by omega, by go_num, by rw [HN.out]; congr 1⟩
        case measure => simp [intOf]; omega
      · have HN : Hid (pre l (k + 1) = pre l k * 256) := by rw [Hid, pre, List.getD_eq_getElem?_getD, List.getElem?_eq_none (by omega)]; rfl
        go_wp2_with fail
        go_round
        case rel => exact ⟨k + 1, by omega, by go_num, by rw [HN.out]; congr 1⟩
        case measure => simp [intOf]; omega
    · obtain rfl : k = 3 := by omega
      rw [pre_3 hl] at hp ⊢
      go_wp2_with fail
      have hB0 : ValRow 68 w.heap.size (w.alloc (.cells #[.int .u8 0, .int .u8 0, .int .u8 0, .int .u8 0] 68)) 4 (outAt l 0) := ⟨_, heap_alloc_new _ _, rfl, fun k hk => by
        match k, hk with
        | 0, _ => rfl
        | 1, _ => rfl
        | 2, _ => rfl
        | 3, _ => rfl⟩
      have hA : Chg Never w (w.alloc (.cells #[.int .u8 0, .int .u8 0, .int .u8 0, .int .u8 0] 68)) := (Chg.refl Never w).alloc _
      have hp' : num3 l < 16777216 := hp
      clear hp
      go_loopw [24] (fun i wr => ∃ k : Nat, k ≤ 4 ∧ i = .int .i64 k ∧ Chg Never w wr ∧ ValRow 68 w.heap.size wr 4 (outAt l k)) (fun i _ => 4 - (intOf i).toNat)
      case atStart => exact ⟨0, Nat.zero_le _, rfl, hA, hB0⟩
      case round =>
        obtain ⟨k, hk, rfl, hw, hB⟩ := hrel
        rename World => wr
        clear hB0 hA
        match k, hk with
        | 0, _ =>
          have hc : ¬ l.length < 0 := Nat.not_lt_zero _
          have hsh : bits .and .i64 ((num3 l : Int) / 262144) 63 = ((num3 l / 262144 % 64 : Nat) : Int) := by
            rw [show ((num3 l : Int) / 262144) = ((num3 l / 262144 : Nat) : Int) by omega]
            exact and_63 _ (by omega)
          have hla : (lettersB[num3 l / 262144 % 64]'(by rw [letters_size]; exact Nat.mod_lt _ (by decide))) = letterAt (num3 l / 2 ^ (18 - 6 * 0) % 64) := by
            rw [show letterAt (num3 l / 2 ^ (18 - 6 * 0) % 64) = letterAt (num3 l / 262144 % 64) by simp]
            exact letters_get ⟨_, Nat.mod_lt _ (by decide)⟩
          replace hla := Lib.hid hla
          have d0 := ValRow.cell hB (k := 0) (by decide)
          have d1 := ValRow.free hB 0
          have hB1 := ValRow.set hB (k := 0) (by decide) (.int .u8 (lettersB[num3 l / 262144 % 64]'(by rw [letters_size]; exact Nat.mod_lt _ (by decide))).toNat)
          have hw1 : Chg Never w (wr.setCell ⟨w.heap.size, 0, none⟩ (.int .u8 (lettersB[num3 l / 262144 % 64]'(by rw [letters_size]; exact Nat.mod_lt _ (by decide))).toNat)) := hw.setCell (.inl (Nat.le_refl _)) _
          have hB3 := hB1.congr (g := outAt l (0 + 1)) (fun j _ => outAt_step (by rw [four_get (by decide), if_neg hc, hla.out]))
          clear hB1
          go_wp2_with fail
          go_roundw
          case rel => exact ⟨0 + 1, by decide, by go_num, hw1, hB3⟩
          case measure => simp [intOf]
        | 1, _ =>
          have hsh : bits .and .i64 ((num3 l : Int) / 4096) 63 = ((num3 l / 4096 % 64 : Nat) : Int) := by
            rw [show ((num3 l : Int) / 4096) = ((num3 l / 4096 : Nat) : Int) by omega]
            exact and_63 _ (by omega)
          have hla : (lettersB[num3 l / 4096 % 64]'(by rw [letters_size]; exact Nat.mod_lt _ (by decide))) = letterAt (num3 l / 2 ^ (18 - 6 * 1) % 64) := by
            rw [show letterAt (num3 l / 2 ^ (18 - 6 * 1) % 64) = letterAt (num3 l / 4096 % 64) by simp]
            exact letters_get ⟨_, Nat.mod_lt _ (by decide)⟩
          replace hla := Lib.hid hla
          have d0 := ValRow.cell hB (k := 1) (by decide)
          have d1 := ValRow.free hB 1
          have hB1 := ValRow.set hB (k := 1) (by decide) (.int .u8 (lettersB[num3 l / 4096 % 64]'(by rw [letters_size]; exact Nat.mod_lt _ (by decide))).toNat)
          have hw1 : Chg Never w (wr.setCell ⟨w.heap.size, 1, none⟩ (.int .u8 (lettersB[num3 l / 4096 % 64]'(by rw [letters_size]; exact Nat.mod_lt _ (by decide))).toNat)) := hw.setCell (.inl (Nat.le_refl _)) _
          by_cases hc : l.length < 1
          · have d2 := ValRow.cell hB1 (k := 1) (by decide)
            have d3 := ValRow.free hB1 1
            have hB2 := ValRow.set hB1 (k := 1) (by decide) (.int .u8 61)
            have hw2 := hw1.setCell (p := ⟨w.heap.size, 1, none⟩) (.inl (Nat.le_refl _)) (.int .u8 61)
            have hB3 := hB2.congr (g := outAt l (1 + 1)) (fun j _ => by
              by_cases e : j = 1
              · rw [if_pos e, e, outAt_step (v := .int .u8 61) (by rw [four_get (by decide), if_pos hc]; rfl), if_pos rfl]
              · rw [if_neg e, if_neg e, outAt_step (v := .int .u8 61) (by rw [four_get (by decide), if_pos hc]; rfl), if_neg e])
            clear hB1 hB2
            go_wp2_with fail
            go_roundw
            case rel => exact ⟨1 + 1, by decide, by go_num, hw2, hB3⟩
            case measure => simp [intOf]
          · have hB3 := hB1.congr (g := outAt l (1 + 1)) (fun j _ => outAt_step (by rw [four_get (by decide), if_neg hc, hla.out]))
            clear hB1
            go_wp2_with fail
            go_roundw
            case rel => exact ⟨1 + 1, by decide, by go_num, hw1, hB3⟩
            case measure => simp [intOf]
        | 2, _ =>
          have hsh : bits .and .i64 ((num3 l : Int) / 64) 63 = ((num3 l / 64 % 64 : Nat) : Int) := by
            rw [show ((num3 l : Int) / 64) = ((num3 l / 64 : Nat) : Int) by omega]
            exact and_63 _ (by omega)
          have hla : (lettersB[num3 l / 64 % 64]'(by rw [letters_size]; exact Nat.mod_lt _ (by decide))) = letterAt (num3 l / 2 ^ (18 - 6 * 2) % 64) := by
            rw [show letterAt (num3 l / 2 ^ (18 - 6 * 2) % 64) = letterAt (num3 l / 64 % 64) by simp]
            exact letters_get ⟨_, Nat.mod_lt _ (by decide)⟩
          replace hla := Lib.hid hla
          have d0 := ValRow.cell hB (k := 2) (by decide)
          have d1 := ValRow.free hB 2
          have hB1 := ValRow.set hB (k := 2) (by decide) (.int .u8 (lettersB[num3 l / 64 % 64]'(by rw [letters_size]; exact Nat.mod_lt _ (by decide))).toNat)
          have hw1 : Chg Never w (wr.setCell ⟨w.heap.size, 2, none⟩ (.int .u8 (lettersB[num3 l / 64 % 64]'(by rw [letters_size]; exact Nat.mod_lt _ (by decide))).toNat)) := hw.setCell (.inl (Nat.le_refl _)) _
          by_cases hc : l.length < 2
          · have d2 := ValRow.cell hB1 (k := 2) (by decide)
            have d3 := ValRow.free hB1 2
            have hB2 := ValRow.set hB1 (k := 2) (by decide) (.int .u8 61)
            have hw2 := hw1.setCell (p := ⟨w.heap.size, 2, none⟩) (.inl (Nat.le_refl _)) (.int .u8 61)
            have hB3 := hB2.congr (g := outAt l (2 + 1)) (fun j _ => by
              by_cases e : j = 2
              · rw [if_pos e, e, outAt_step (v := .int .u8 61) (by rw [four_get (by decide), if_pos hc]; rfl), if_pos rfl]
              · rw [if_neg e, if_neg e, outAt_step (v := .int .u8 61) (by rw [four_get (by decide), if_pos hc]; rfl), if_neg e])
            clear hB1 hB2
            go_wp2_with fail
            go_roundw
            case rel => exact ⟨2 + 1, by decide, by go_num, hw2, hB3⟩
            case measure => simp [intOf]
          · have hB3 := hB1.congr (g := outAt l (2 + 1)) (fun j _ => outAt_step (by rw [four_get (by decide), if_neg hc, hla.out]))
            clear hB1
            go_wp2_with fail
            go_roundw
            case rel => exact ⟨2 + 1, by decide, by go_num, hw1, hB3⟩
            case measure => simp [intOf]
        | 3, _ =>
          have hsh : bits .and .i64 ((num3 l : Int)) 63 = ((num3 l % 64 : Nat) : Int) := by
            rw [show ((num3 l : Int)) = ((num3 l : Nat) : Int) by omega]
            exact and_63 _ (by omega)
          have hla : (lettersB[num3 l % 64]'(by rw [letters_size]; exact Nat.mod_lt _ (by decide))) = letterAt (num3 l / 2 ^ (18 - 6 * 3) % 64) := by
            rw [show letterAt (num3 l / 2 ^ (18 - 6 * 3) % 64) = letterAt (num3 l % 64) by simp]
            exact letters_get ⟨_, Nat.mod_lt _ (by decide)⟩
          replace hla := Lib.hid hla
          have d0 := ValRow.cell hB (k := 3) (by decide)
          have d1 := ValRow.free hB 3
          have hB1 := ValRow.set hB (k := 3) (by decide) (.int .u8 (lettersB[num3 l % 64]'(by rw [letters_size]; exact Nat.mod_lt _ (by decide))).toNat)
          have hw1 : Chg Never w (wr.setCell ⟨w.heap.size, 3, none⟩ (.int .u8 (lettersB[num3 l % 64]'(by rw [letters_size]; exact Nat.mod_lt _ (by decide))).toNat)) := hw.setCell (.inl (Nat.le_refl _)) _
          by_cases hc : l.length < 3
          · have d2 := ValRow.cell hB1 (k := 3) (by decide)
            have d3 := ValRow.free hB1 3
            have hB2 := ValRow.set hB1 (k := 3) (by decide) (.int .u8 61)
            have hw2 := hw1.setCell (p := ⟨w.heap.size, 3, none⟩) (.inl (Nat.le_refl _)) (.int .u8 61)
            have hB3 := hB2.congr (g := outAt l (3 + 1)) (fun j _ => by
              by_cases e : j = 3
              · rw [if_pos e, e, outAt_step (v := .int .u8 61) (by rw [four_get (by decide), if_pos hc]; rfl), if_pos rfl]
              · rw [if_neg e, if_neg e, outAt_step (v := .int .u8 61) (by rw [four_get (by decide), if_pos hc]; rfl), if_neg e])
            clear hB1 hB2
            go_wp2_with fail
            go_roundw
            case rel => exact ⟨3 + 1, by decide, by go_num, hw2, hB3⟩
            case measure => simp [intOf]
          · have hB3 := hB1.congr (g := outAt l (3 + 1)) (fun j _ => outAt_step (by rw [four_get (by decide), if_neg hc, hla.out]))
            clear hB1
            go_wp2_with fail
            go_roundw
            case rel => exact ⟨3 + 1, by decide, by go_num, hw1, hB3⟩
            case measure => simp [intOf]
        | 4, _ => 
          have hR : Rdv wr Never (.slice (some ⟨w.heap.size, 0, none⟩) 4 4) (fourOf l) := by
            have hL := four_len l
            refine ⟨some ⟨w.heap.size, 0, none⟩, 4, by rw [hL], by rw [hL]; decide, by unfold maxLen; omega, fun i x hx => ?_⟩
            have hi := (List.getElem?_eq_some_iff.1 hx).1
            rw [hL] at hi
            refine ⟨w.heap.size, 0, [.int .u8 x.toNat], rfl, fun h => h, ?_, rfl⟩
            intro j u hj
            match j, hj with
            | 0, hj =>
              simp only [List.getElem?_cons_zero, Option.some.injEq] at hj
              subst hj
              have := ValRow.cell hB hi
              unfold outAt at this
              rw [if_pos hi, List.getD_eq_getElem?_getD, hx] at this
              simpa [Dat.n] using this
          have hcv := conv_str hR
          go_wp2_with fail
          go_ret
          exact ⟨rfl, hw⟩
end Go.Proofs.YtcgjegjnodopoaaDoor
