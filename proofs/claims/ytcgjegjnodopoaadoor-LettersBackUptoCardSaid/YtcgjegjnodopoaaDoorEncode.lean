/-
  THE WALKS of base64.encode, Encode.
-/
import Derived.Test.YtcgjegjnodopoaaDoorFour
import Derived.Test.YtcgjegjnodopoaaDoorBuild
import Derived.Test.YtcgjegjnodopoaaDoorSliceG
namespace Go.Proofs.YtcgjegjnodopoaaDoor
open Go.RowKit

abbrev BAt' (p : Value) (B b : Nat) (bs : List Value) (w : World) : Prop := Lib.BuilderAtF 60 5 B b p bs w
theorem isB_keep {B b : Nat} {bs : List Value} {w w' : World} (h : IsB B b bs w) (hc : Chg Never w w') : IsB B b bs w' := by
  have key : ∀ p, BAt' p B b bs w → BAt' p B b bs w' := by
    rintro p hp
    have hlt := Lib.BuilderAtF.lt hp
    obtain ⟨hB, v, hv, hown, hne⟩ := hp
    exact ⟨hB, v, (hc.block b hlt (fun x => x)).trans hv, hown.kept (row := none) ⟨hc.os, hc.tape, hc.output, hc.size, fun k hk _ => hc.block k hk (fun x => x)⟩ (by cases hx : v.ownBlock <;> simp), hne⟩
  exact h.elim (fun x => .inl (key _ x)) (fun x => .inr (key _ x))
theorem size_byte (w : World) : (sizeOf (Tryd.prog.elem 22)).run Tryd.prog w = .ok 1 w := by kernel_rfl
theorem enc_cons {r : List UInt8} (h : r ≠ []) (n : Nat) : encGo r n = fourOf (r.take 3) ++ (if (n + 4) % 76 = 0 ∨ r.drop 3 = [] then [10] else []) ++ encGo (r.drop 3) (n + 4) := by
  match r, h with
  | x :: r, _ => rw [encGo]
theorem take_min (r : List UInt8) : r.take (min 3 r.length) = r.take 3 := by
  by_cases h : 3 ≤ r.length
  · rw [Nat.min_eq_left h]
  · rw [Nat.min_eq_right (by omega), List.take_length, List.take_of_length_le (by omega)]
theorem drop_min (r : List UInt8) : r.drop (min 3 r.length) = r.drop 3 := by
  by_cases h : 3 ≤ r.length
  · rw [Nat.min_eq_left h]
  · rw [Nat.min_eq_right (by omega), List.drop_length, List.drop_of_length_le (by omega)]

set_option maxHeartbeats 1000000 in
set_option maxRecDepth 100000 in
theorem encode_any (l : List UInt8) (v : Value) (w : World) (h : Rdv w Never v l) (hl : l.length ≤ 100000000) :
    Calls Tryd.prog 18 #[v] w fun e w' => e = .returned (.string (toB (encL l))) ∧ Chg Never w w' := by
  obtain ⟨a, cap, rfl, h1, h2, h3⟩ := rdv_slice h
  unfold maxLen at h2
  go_enter Tryd.func18, Tryd.ntmps18
  go_wp2_with fail
  go_loopw [0, 4] (fun bv nv wr => ∃ (p n : Nat) (acc : List UInt8), nv = .int .i64 n ∧ p ≤ l.length ∧ n ≤ 4 * p ∧ Chg Never w wr ∧ Rdv w Never bv (l.drop p) ∧ IsB w.heap.size w.heap.size (Lib.byteCells acc) wr ∧ acc.length ≤ 5 * p ∧ Hid (acc ++ encGo (l.drop p) n = encL l)) (fun _ nv _ => (4 * l.length + 4 - intOf nv).toNat)
  case atStart => exact ⟨0, 0, [], rfl, Nat.zero_le _, Nat.le_refl _, (Chg.refl Never w).alloc _, h, Lib.IsBuilderF.of (Lib.fresh_isBuilder _ _ w), Nat.zero_le _, rfl⟩
  case round =>
    clear h h3
    obtain ⟨p, n, acc, rfl, hp, hn, hw, hb, hI, hacc, hR⟩ := hrel
    rename World => wr
    have hbs : w.heap.size ≤ wr.heap.size := hw.size
    obtain ⟨ab, capb, rfl, b1, b2, b3⟩ := rdv_slice hb
    unfold maxLen at b2
    have hdl : (l.drop p).length = l.length - p := List.length_drop
    by_cases hlt : p < l.length
    · have hne : l.drop p ≠ [] := fun e => by rw [e] at hdl; simp at hdl; omega
      have HE := Lib.hid (enc_cons hne n)
      have HR2 : Hid (acc ++ fourOf ((l.drop p).take 3) ++ (if (n + 4) % 76 = 0 ∨ (l.drop p).drop 3 = [] then [10] else []) ++ encGo ((l.drop p).drop 3) (n + 4) = encL l) := by
        rw [Hid, ← hR.out, HE.out]
        simp only [List.append_assoc]
      obtain ⟨r, hr⟩ : ∃ r, l.drop p = r := ⟨_, rfl⟩
      obtain ⟨q, hq⟩ : ∃ q, min 3 r.length = q := ⟨_, rfl⟩
      rw [hr] at hb b1 b3 hdl HR2 ⊢
      have hq1 : 1 ≤ q ∧ q ≤ 3 ∧ q ≤ r.length := by omega
      have hmin : min (3 : Int) (r.length : Int) = (q : Int) := by omega
      obtain ⟨sb, z0, z1, hrunH, hsub⟩ := slice_g (P := Tryd.prog) (t := 22) (by kernel_rfl) size_byte hb 0 q (Nat.zero_le _) hq1.2.2
      have hrunH := fun (wx : World) => hrunH (q : Nat) wx rfl rfl
      obtain ⟨st, y0, hrunT, y1, hsut⟩ := slice_g (P := Tryd.prog) (t := 22) (by kernel_rfl) size_byte hb q r.length hq1.2.2 (Nat.le_refl _)
      have hrunT := fun (wx : World) => hrunT (q : Nat) wx rfl rfl
      clear z0 z1 y0 y1 b3 hb hne
      rw [List.drop_zero, Nat.sub_zero, Nat.sub_zero, ← hq, take_min] at hsub
      rw [hq] at hsub
      rw [Nat.sub_zero, Nat.sub_zero] at hrunH
      rw [← hq, drop_min, List.take_of_length_le (by rw [List.length_drop]; omega), hq] at hsut
      have hf4 : Hid ((fourOf (r.take 3)).length = 4) := four_len _
      have HT : Hid ((r.drop 3 = []) ↔ r.length - q = 0) := by
        rw [Hid, List.drop_eq_nil_iff]; omega
      have HP : Hid (l.drop (p + q) = r.drop 3) := by
        rw [Hid, ← drop_min r, hq, ← hr, List.drop_drop]
      have HQ := Lib.hid hq
      have HRL : Hid (r.length = l.length - p) := hdl
      have hrl1 : r.length ≤ l.length := by have := HRL.out; omega
      have hrl2 : p + q ≤ l.length := by have := HRL.out; omega
      clear hq hr hdl
      have htk : (r.take 3).length ≤ 3 := by rw [List.length_take]; omega
      go_wp2_with fail
      refine (four_any (r.take 3) _ _ (hsub.never hw) htk).mono ?_
      rintro e w2 ⟨rfl, hc2⟩
      have hI2 := isB_keep hI hc2
      have hw2 := hw.trans hc2
      have hbs2 := hw2.size
      clear hc2 hI hsub hw
      go_wp2_with fail
      refine (bld_string w.heap.size w.heap.size (Lib.byteCells acc) (toB (fourOf (r.take 3))) _ hI2 (by rw [Lib.byteCells_length, Lib.size_eq, toB_data, hf4.out]; omega) hbs2).mono ?_
      rintro e w3 ⟨rfl, hI3, hb3⟩
      rw [Lib.strCells_eq, toB_data, ← Lib.byteCells_append] at hI3
      have hbs3 := hb3.size
      have hw3 : Chg Never w w3 := Chg.of_below (hw2.never.trans hb3)
      have hm : Hid (((n : Int) + 4) % 76 = (((n + 4) % 76 : Nat) : Int)) := by rw [Hid]; omega
      clear hb3 hw2
      by_cases hnl : (n + 4) % 76 = 0
      · have HR3 : Hid (acc ++ fourOf (r.take 3) ++ [10] ++ encGo (r.drop 3) (n + 4) = encL l) := by have := HR2.out; rw [if_pos (.inl hnl)] at this; exact this
        have t1 : (((n : Int) + 4) % 76 == 0) = true := by rw [hm.out, hnl]; rfl
        clear hm hnl
        go_wp2_with fail
        refine (bld_byte1 w.heap.size w.heap.size _ 10 _ (.inr hI3) (by rw [Lib.byteCells_length, List.length_append, hf4.out]; omega) hw3.size).mono ?_
        rintro e w4 ⟨rfl, hI4, hb4⟩
        have hwE : Chg Never w w4 := Chg.of_below (hw3.never.trans hb4)
        have hIE : IsB w.heap.size w.heap.size (Lib.byteCells (acc ++ fourOf (r.take 3) ++ [10])) w4 := .inr (by rw [Lib.byteCells_append]; exact hI4)
        clear hI4 hb4 hI3 hw3
        go_wp2_with fail
        go_roundw
        case rel => exact ⟨p + q, n + 4, acc ++ fourOf (r.take 3) ++ [10], by first | rfl | (congr 1), hrl2, by omega, hwE, by rw [HP.out]; exact hsut, hIE, by simp only [List.length_append, List.length_singleton, hf4.out]; omega, by rw [HP.out]; exact HR3.out⟩
        case measure => simp [intOf]; omega
      · by_cases hend : r.length - q = 0
        · have HR3 : Hid (acc ++ fourOf (r.take 3) ++ [10] ++ encGo (r.drop 3) (n + 4) = encL l) := by have := HR2.out; rw [if_pos (.inr (HT.out.2 hend))] at this; exact this
          have t1 : (((n : Int) + 4) % 76 == 0) = false := by rw [hm.out]; simp; omega
          have t2 : (((r.length - q : Nat) : Int) == 0) = true := by rw [hend]; rfl
          clear hm hnl hend
          go_wp2_with fail
          refine (bld_byte1 w.heap.size w.heap.size _ 10 _ (.inr hI3) (by rw [Lib.byteCells_length, List.length_append, hf4.out]; omega) hw3.size).mono ?_
          rintro e w4 ⟨rfl, hI4, hb4⟩
          have hwE : Chg Never w w4 := Chg.of_below (hw3.never.trans hb4)
          have hIE : IsB w.heap.size w.heap.size (Lib.byteCells (acc ++ fourOf (r.take 3) ++ [10])) w4 := .inr (by rw [Lib.byteCells_append]; exact hI4)
          clear hI4 hb4 hI3 hw3
          go_wp2_with fail
          go_roundw
          case rel => exact ⟨p + q, n + 4, acc ++ fourOf (r.take 3) ++ [10], by first | rfl | (congr 1), hrl2, by omega, hwE, by rw [HP.out]; exact hsut, hIE, by simp only [List.length_append, List.length_singleton, hf4.out]; omega, by rw [HP.out]; exact HR3.out⟩
          case measure => simp [intOf]; omega
        · have HR3 : Hid (acc ++ fourOf (r.take 3) ++ encGo (r.drop 3) (n + 4) = encL l) := by
            have := HR2.out
            rw [if_neg (by rintro (e | e); · exact hnl e
                           · exact hend (HT.out.1 e)), List.append_nil] at this
            exact this
          have t1 : (((n : Int) + 4) % 76 == 0) = false := by rw [hm.out]; simp; omega
          have t2 : (((r.length - q : Nat) : Int) == 0) = false := by simp; omega
          have hwE := hw3
          have hIE : IsB w.heap.size w.heap.size (Lib.byteCells (acc ++ fourOf (r.take 3))) w3 := .inr hI3
          clear hm hnl hend hw3 hI3
          go_wp2_with fail
          go_roundw
          case rel => exact ⟨p + q, n + 4, acc ++ fourOf (r.take 3), by first | rfl | (congr 1), hrl2, by omega, hwE, by rw [HP.out]; exact hsut, hIE, by simp only [List.length_append, List.length_singleton, hf4.out]; omega, by rw [HP.out]; exact HR3.out⟩
          case measure => simp [intOf]; omega
    · obtain rfl : p = l.length := by omega
      have hR' := hR.out
      rw [List.drop_length, encGo, List.append_nil] at hR'
      rw [hR'] at hI
      clear hR hR' hacc
      go_wp2_with fail
      refine (Tryd.Builder_String_any_k w.heap.size w.heap.size (encL l) _ hI hbs).mono ?_
      rintro e w4 ⟨rfl, _, b4, _⟩
      have hwE : Chg Never w w4 := Chg.of_below (hw.never.trans b4)
      go_wp2_with fail
      go_ret
      exact ⟨rfl, hwE⟩
end Go.Proofs.YtcgjegjnodopoaaDoor
