/-
  PARTS: THE DOCUMENT'S WAY WITH LETTERS, in plain Lean: bit by bit it is the same; what it reads is what the program reads.; THE WALKS of base64.Encode, Decode.; THE WALK of the document's Letters.; THE WALK of the document's BytesOf.; THE DOCUMENT'S WAY WITH A MAIL'S TEXT, in plain Lean: it reads what the program reads.; THE WALKS of mail.Print, field; of the document's Find, Starts, Ends, MailFault, MailText.; THE WALKS of mail.field; of the document's Find, Starts, Ends, MailFault, MailText.
-/
import Derived.Test.YtjiaidchcldocaaGreatDoorPg1
import Derived.Test.YtjiaidchcldocaaGreatDoorPg2
import Derived.Test.YtjiaidchcldocaaGreatDoorPg3
import Derived.Test.YtjiaidchcldocaaGreatDoorPg4
import Derived.Test.YtjiaidchcldocaaGreatDoorPg5
import Derived.Test.YtjiaidchcldocaaGreatDoorPg6
import Derived.Test.YtjiaidchcldocaaGreatDoorPg7
import Derived.Test.YtjiaidchcldocaaGreatDoorPg8
import Derived.Test.YtjiaidchcldocaaGreatDoorPg9
import Derived.Test.YtjiaidchcldocaaGreatDoorPg10
import Derived.Test.YtjiaidchcldocaaGreatDoorPg11
import Derived.Test.YtjiaidchcldocaaGreatDoorPg12
import Derived.Test.YtjiaidchcldocaaGreatDoorPg13
import Derived.Test.YtjiaidchcldocaaGreatDoorPg14
import Derived.Test.YtjiaidchcldocaaGreatDoorPg15
import Derived.Test.YtjiaidchcldocaaGreatDoorPg16
import Derived.Test.YtjiaidchcldocaaGreatDoorPg17
import Derived.Test.YtjiaidchcldocaaGreatDoorPg18
import Derived.Test.YtjiaidchcldocaaGreatDoorPg19
import Derived.Test.YtjiaidchcldocaaGreatDoorPg20
import Derived.Test.YtjiaidchcldocaaGreatDoorPg21
import Derived.Test.YtjiaidchcldocaaGreatDoorPg22
import Derived.Test.YtjiaidchcldocaaGreatDoorPg23
import Derived.Test.YtjiaidchcldocaaGreatDoorPg24
import Derived.Test.YtjiaidchcldocaaGreatDoorPg25
import Derived.Test.YtjiaidchcldocaaGreatDoorPg26
import Derived.Test.YtjiaidchcldocaaGreatDoorPg27
import Derived.Test.YtjiaidchcldocaaGreatDoorPg28
import Derived.Test.YtjiaidchcldocaaGreatDoorPg29
import Derived.Test.YtjiaidchcldocaaGreatDoorPg30
import Derived.Test.YtjiaidchcldocaaGreatDoorPg31
import Derived.Test.YtjiaidchcldocaaGreatDoorPg32
import Derived.Test.YtjiaidchcldocaaGreatDoorPg33
import Derived.Test.YtjiaidchcldocaaGreatDoorPg34
import Derived.Test.YtjiaidchcldocaaGreatDoorPg35
import Derived.Test.YtjiaidchcldocaaGreatDoorPg36
import Derived.Test.YtjiaidchcldocaaGreatDoorPg37
import Derived.Test.YtjiaidchcldocaaGreatDoorPg38
import Derived.Test.YtjiaidchcldocaaGreatDoorQi2
import Derived.Lib.Replace
set_option linter.unusedVariables false
set_option linter.unusedSimpArgs false
namespace Go.Proofs.YtjiaidchcldocaaGreatDoor

def lineGo (s : List UInt8) : List UInt8 := if 76 < s.length then s.take 76 ++ [10] ++ lineGo (s.drop 76) else if s = [] then [] else s ++ [10]
termination_by s.length
decreasing_by simp; omega
def flatE : List UInt8 → List UInt8
  | [] => []
  | x :: r => fourOf ((x :: r).take 3) ++ flatE ((x :: r).drop 3)
termination_by l => l.length
decreasing_by simp; omega
theorem flat_3 (a b c : UInt8) (r : List UInt8) : flatE (a :: b :: c :: r) = fourOf [a, b, c] ++ flatE r := by rw [flatE]; rfl
theorem flat_2 (a b : UInt8) : flatE [a, b] = fourOf [a, b] := by rw [flatE]; show fourOf [a, b] ++ flatE [] = _; rw [flatE, List.append_nil]
theorem flat_1 (a : UInt8) : flatE [a] = fourOf [a] := by rw [flatE]; show fourOf [a] ++ flatE [] = _; rw [flatE, List.append_nil]
theorem flat_app : ∀ (k : Nat) (m b : List UInt8), m.length = 3 * k → flatE (m ++ b) = flatE m ++ flatE b ∧ (flatE m).length = 4 * k
  | 0, m, b, h => by
    have : m = [] := List.eq_nil_of_length_eq_zero h
    subst this
    rw [flatE]; exact ⟨rfl, rfl⟩
  | k + 1, m, b, h => by
    match m, h with
    | x :: y :: z :: r, h =>
      obtain ⟨h1, h2⟩ := flat_app k r b (by simp at h; omega)
      rw [show (x :: y :: z :: r) ++ b = x :: y :: z :: (r ++ b) from rfl, flat_3, flat_3, h1, List.append_assoc, List.length_append, four_len, h2]
      exact ⟨rfl, by omega⟩
theorem flat_len : ∀ (k : Nat) (l : List UInt8), l.length ≤ k → (flatE l).length = 4 * ((l.length + 2) / 3)
  | _, [], _ => by rw [flatE]; rfl
  | 0, _ :: _, h => by simp at h
  | _ + 1, [a], _ => by rw [flat_1, four_len]; simp
  | _ + 1, [a, b], _ => by rw [flat_2, four_len]; simp
  | k + 1, a :: b :: c :: r, h => by
    rw [flat_3, List.length_append, four_len, flat_len k r (by simp at h; omega)]
    simp only [List.length_cons]; omega
/-- a last line -/
theorem enc_short : ∀ (k : Nat) (l : List UInt8) (n : Nat), l.length ≤ k → l ≠ [] → n + (flatE l).length ≤ 76 → encGo l n = flatE l ++ [10]
  | _, [], _, _, h, _ => absurd rfl h
  | 0, _ :: _, _, h, _, _ => by simp at h
  | _ + 1, [a], n, _, _, _ => by rw [encGo, flat_1]; show fourOf [a] ++ _ ++ encGo [] _ = _; rw [encGo, if_pos (.inr rfl), List.append_nil]
  | _ + 1, [a, b], n, _, _, _ => by rw [encGo, flat_2]; show fourOf [a, b] ++ _ ++ encGo [] _ = _; rw [encGo, if_pos (.inr rfl), List.append_nil]
  | k + 1, a :: b :: c :: r, n, h, _, hn => by
    rw [flat_3, List.length_append, four_len] at hn
    rw [encGo, flat_3]
    show fourOf [a, b, c] ++ (if (n + 4) % 76 = 0 ∨ r = [] then [10] else []) ++ encGo r (n + 4) = _
    by_cases hr : r = []
    · subst hr
      rw [if_pos (.inr rfl), encGo, flatE]; simp
    · have hp : 0 < (flatE r).length := by
        rw [flat_len r.length r (Nat.le_refl _)]
        have := List.length_pos_iff.2 hr
        omega
      rw [if_neg (by rintro (e | e); · omega
                     · exact hr e), enc_short k r (n + 4) (by simp at h; omega) hr (by omega)]
      simp
theorem line_flat : ∀ (k : Nat) (l : List UInt8), l.length ≤ k → lineGo (flatE l) = encL l
  | 0, l, h => by
    have : l = [] := List.eq_nil_of_length_eq_zero (by omega)
    subst this
    unfold encL
    rw [flatE, encGo, lineGo]; rfl
  | k + 1, l, h => by
    by_cases h57 : l.length ≤ 57
    · have hl : (flatE l).length ≤ 76 := by rw [flat_len l.length l (Nat.le_refl _)]; omega
      rw [lineGo, if_neg (by omega)]
      by_cases h0 : l = []
      · subst h0
        unfold encL
        rw [flatE, encGo]; rfl
      · have hne : flatE l ≠ [] := fun e => by
          have := flat_len l.length l (Nat.le_refl _)
          rw [e] at this
          have := List.length_pos_iff.2 h0
          simp at *
          omega
        rw [if_neg hne]
        exact (enc_short l.length l 0 (Nat.le_refl _) h0 (by omega)).symm
    · have e : l = l.take 57 ++ l.drop 57 := (List.take_append_drop _ _).symm
      have ht : (l.take 57).length = 57 := by rw [List.length_take]; omega
      have hd : (l.drop 57).length = l.length - 57 := List.length_drop
      obtain ⟨f1, f2⟩ := flat_app 19 (l.take 57) (l.drop 57) (by omega)
      rw [← e] at f1
      have hdl : 0 < (flatE (l.drop 57)).length := by rw [flat_len _ _ (Nat.le_refl _), hd]; omega
      have hen : encL l = encL (l.take 57) ++ encL (l.drop 57) := by
        conv => lhs; rw [e]
        exact enc_line _ _ ht
      have h1 : encL (l.take 57) = flatE (l.take 57) ++ [10] := enc_short 57 (l.take 57) 0 (by omega) (fun e => by rw [e] at ht; simp at ht) (by omega)
      rw [hen, h1, ← line_flat k (l.drop 57) (by omega), f1]
      conv => lhs; rw [lineGo]
      rw [if_pos (by rw [List.length_append]; omega), show 76 = (flatE (l.take 57)).length by omega, List.take_left, List.drop_left]
theorem idx_lt {c : UInt8} {k : Nat} (h : idxOf c = some k) : k < 64 := by
  unfold idxOf at h
  exact (List.findIdx?_eq_some_iff_findIdx_eq.1 h).1
end Go.Proofs.YtjiaidchcldocaaGreatDoor
namespace Go.Proofs.YtjiaidchcldocaaGreatDoor
open Go.RowKit

theorem filter_nl_no {s : List UInt8} (h : ∀ k : Nat, s[k]? ≠ some 10) : s.filter (· ≠ 10) = s := List.filter_eq_self.2 fun c hc => by
  obtain ⟨i, hi⟩ := List.getElem?_of_mem hc
  have := h i
  rw [hi] at this
  simpa using this
theorem repl_filter : ∀ (n : Nat) (s : List UInt8), s.length ≤ n → Lib.replaceK [10] [] (Lib.count s [10]) s = s.filter (· ≠ 10)
  | n, s, hn => by
    have hidx := Lib.index_one s 10
    by_cases hm : Lib.index s [10] = -1
    · rw [Lib.count_miss hm, Lib.replaceK]
      exact (filter_nl_no (Lib.indexByte_none (hidx ▸ hm))).symm
    · have hge := Lib.index_ge s [10]
      obtain ⟨i, hi⟩ : ∃ i : Nat, Lib.index s [10] = i := ⟨(Lib.index s [10]).toNat, by omega⟩
      obtain ⟨q1, q2⟩ := Lib.indexByte_some (hidx ▸ hi)
      have hil := (List.getElem?_eq_some_iff.1 q1).1
      match n, hn with
      | 0, hn => omega
      | n + 1, hn =>
        rw [Lib.count_hit (by simp) hi, Nat.add_comm, Lib.replaceK_hit _ _ _ _ i hi, repl_filter n _ (by rw [List.length_drop]; simp; omega)]
        have e : s = s.take i ++ 10 :: s.drop (i + 1) := by
          conv => lhs; rw [← List.take_append_drop i s, drop_eq q1]
        conv => rhs; rw [e]
        rw [List.filter_append, List.append_nil, filter_nl_no (s := s.take i) (fun k hk => by
          rw [List.getElem?_take] at hk
          split at hk
          · rename_i hki; exact q2 k hki hk
          · cases hk)]
        simp
theorem replace_nl (s : List UInt8) : Lib.replaceAll s [10] [] = s.filter (· ≠ 10) := by
  unfold Lib.replaceAll Lib.replace
  rw [if_neg (by decide)]
  have : Lib.replaceNum s [10] (-1) = Lib.count s [10] := by unfold Lib.replaceNum; rw [if_pos (.inl (by decide))]
  rw [this]
  exact repl_filter s.length s (Nat.le_refl _)
theorem idx_fin : ∀ n : Fin 256, Lib.indexByte letters (UInt8.ofNat n.1) = match idxOf (UInt8.ofNat n.1) with
    | none => -1
    | some k => (k : Int) := by decide +kernel
theorem idx_byte (c : UInt8) : Lib.indexByte letters c = match idxOf c with
    | none => -1
    | some k => (k : Int) := by
  have := idx_fin ⟨c.toNat, c.toNat_lt⟩
  simpa using this
theorem letters_data : lettersB.data.toList = letters := rfl
theorem or_six {n k : Nat} (hn : n < 64) (hk : k < 64) : bits .or .i64 ((n : Int) * 64) (k : Int) = ((n * 64 + k : Nat) : Int) := by
  have h1 := bits_or_i64 (n * 64) k (by omega) (by omega)
  rw [show ((n * 64 : Nat) : Int) = (n : Int) * 64 by omega] at h1
  rw [h1]
  congr 1
  have := Nat.two_pow_add_eq_or_of_lt (i := 6) (b := k) hk n
  rw [show (64 : Nat) = 2 ^ 6 by decide, Nat.mul_comm, ← this]
theorem and_low (n m : Nat) (h : n < 9223372036854775808) (hm : m ≤ 8) : bits .and .i64 (n : Int) ((2 ^ m - 1 : Nat) : Int) = ((n % 2 ^ m : Nat) : Int) := by
  have hp : 2 ^ m ≤ 256 := Nat.pow_le_pow_right (n := 2) (by decide) hm
  rw [bits_and_i64 n (2 ^ m - 1) h (by omega), Nat.and_two_pow_sub_one_eq_mod]
theorem elemOk_byte : ElemOk Tryz.prog 29 5 1 := elemOk_of Tryz.underlying29 (z := .int .u8 0) (b := 1) (by kernel_rfl) rfl (by decide)
/-- what Encode, Decode answer -/
def encodeR (l : List UInt8) : ByteArray := if 40000 < l.length then ByteArray.empty else toB (encL l)
def encFault (l : List UInt8) : Int := if 40000 < l.length then 3 else 0
def decFault (s : ByteArray) : Int := if (decL s.data.toList).length ≤ 40000 ∧ encL (decL s.data.toList) = s.data.toList then 0 else 5
def decodeR (s : ByteArray) : List UInt8 := if decFault s = 0 then decL s.data.toList else []

set_option maxHeartbeats 1000000 in
set_option maxRecDepth 100000 in
theorem Encode_any (l : List UInt8) (v : Value) (w : World) (h : Rdv w Never v l) :
    Calls Tryz.prog 135 #[v] w fun e w' => e = .returned (.tuple #[.string (encodeR l), errV (encFault l)]) ∧ Chg Never w w' := by
  have hv := h
  obtain ⟨a, cap, rfl, h1, h2, h3⟩ := rdv_slice h
  unfold maxLen at h2
  by_cases hl : 40000 < l.length
  · have HR : Hid (encodeR l = ByteArray.empty) := if_pos hl
    have HF : Hid (encFault l = 3) := if_pos hl
    go_enter Tryz.func135, Tryz.ntmps135
    go_wp2_with fail
    go_ret2
    exact ⟨by rw [HR.out, HF.out]; rfl, Chg.refl _ _⟩
  · have HR : Hid (encodeR l = toB (encL l)) := if_neg hl
    have HF : Hid (encFault l = 0) := if_neg hl
    go_enter Tryz.func135, Tryz.ntmps135
    go_wp2_with fail
    refine (encode_any l _ _ hv (by omega)).mono ?_
    rintro e w1 ⟨rfl, hc⟩
    go_wp2_with fail
    go_ret2
    exact ⟨by rw [HR.out, HF.out]; rfl, hc⟩

theorem enc_len_le : ∀ (k : Nat) (l : List UInt8) (n : Nat), l.length ≤ k → (encGo l n).length ≤ 5 * l.length
  | _, [], n, _ => by rw [encGo]; simp
  | 0, _ :: _, _, h => by simp at h
  | k + 1, x :: r, n, h => by
    have ih := enc_len_le k ((x :: r).drop 3) (n + 4) (by simp at h ⊢; omega)
    rw [encGo, List.length_append, List.length_append, four_len]
    have h2 : (if (n + 4) % 76 = 0 ∨ (x :: r).drop 3 = [] then [(10 : UInt8)] else []).length ≤ 1 := by split <;> simp
    rw [List.length_drop] at ih
    simp only [List.length_cons] at ih ⊢
    omega
theorem str_nums (l : List UInt8) : strOfNums (l.map fun b => (b.toNat : Int)) = toB l := by
  unfold strOfNums toB
  rw [List.map_map]
  congr 2
  conv => rhs; rw [← List.map_id l]
  exact List.map_congr_left fun b _ => by simp
theorem bytes_nums (l : List UInt8) : Lib.bytesOf (l.map fun b => (b.toNat : Int)) = l := by
  have := congrArg (fun b : ByteArray => b.data.toList) (str_nums l)
  rw [toB_data] at this
  exact this

theorem conv_bytes2 {w : World} {s : ByteArray} (hs : s.size ≤ maxLen) : ∃ (a : Addr) (c : Nat) (w' : World),
    (convert 9 29 (.string s)).run Tryz.prog w = .ok (.slice (some a) s.size c) w' ∧ Chg Never w w' ∧ Rdv w' (Old w.heap.size) (.slice (some a) s.size c) s.data.toList := by
  obtain ⟨c, o, h1, h2⟩ := conv_bytes (w := w) hs
  exact ⟨_, c, _, h1, (Chg.refl Never w).drew.alloc o, h2⟩
set_option maxHeartbeats 2000000 in
set_option maxRecDepth 100000 in
theorem Decode_any (s : ByteArray) (w : World) (hs : s.size ≤ 10000000) (m : Int) (hm : w.cell? ⟨1, 0, none⟩ = some (.int .i64 m)) :
    Calls Tryz.prog 139 #[.string s] w fun e w' => ∃ r, e = .returned (.tuple #[r, errV (decFault s)]) ∧ Chg Never w w' ∧ Rdv w' (Old w.heap.size) r (decodeR s) := by
  obtain ⟨f, hf⟩ : ∃ f, s.data.toList.filter (· ≠ 10) = f := ⟨_, rfl⟩
  have hfl : f.length ≤ s.size := by rw [← hf, Lib.size_eq]; exact List.length_filter_le _ _
  have HD : Hid (decL s.data.toList = decGo f 0 0 []) := by unfold Hid decL; rw [hf]
  have hrep : Lib.replaceAll s.data.toList (⟨#[10]⟩ : ByteArray).data.toList (⟨#[]⟩ : ByteArray).data.toList = f := by rw [← hf]; exact replace_nl _
  go_enter Tryz.func139, Tryz.ntmps139
  go_wp2_with fail
  refine (Tryz.strings_ReplaceAll s ⟨#[10]⟩ ⟨#[]⟩ m _ (by omega) hm (by decide) (by show s.size + _ * 0 ≤ _; omega)).mono ?_
  rintro e w1 ⟨rfl, hb1⟩
  have hw : Chg Never w w1 := Chg.of_below hb1
  rw [hrep]
  clear hb1 hrep hf
  obtain ⟨sb, hsb⟩ : ∃ sb : ByteArray, (⟨f.toArray⟩ : ByteArray) = sb := ⟨_, rfl⟩
  have hsf : Hid (sb.data.toList = f) := by unfold Hid; rw [← hsb]
  have hss : Hid (sb.size = f.length) := by unfold Hid; rw [Lib.size_eq, hsf.out]
  have hsl : sb.size ≤ 10000000 := by have := hss.out; omega
  rw [hsb]
  clear hsb
  go_wp2_with fail
  go_loopw [5, 6, 7, 14] (fun o nv bv i wr => ∃ (N b k : Nat) (L : List UInt8), nv = .int .i64 N ∧ bv = .int .i64 b ∧ i = .int .i64 k ∧ k ≤ sb.size ∧ (b = 0 ∨ b = 2 ∨ b = 4 ∨ b = 6) ∧ N < 2 ^ b ∧ L.length ≤ k ∧ Chg Never w wr ∧ Own 5 wr (Old w.heap.size) o L ∧ Hid (decGo (f.drop k) N b L = decGo f 0 0 [])) (fun _ _ _ i _ => sb.size - (intOf i).toNat)
  case atStart => exact ⟨0, 0, 0, [], rfl, rfl, rfl, Nat.zero_le _, .inl rfl, by decide, Nat.le_refl _, hw, own_nil _ _ _, rfl⟩
  case round =>
    clear hw
    obtain ⟨N, b, k, L, rfl, rfl, rfl, hk, hb, hN, hL, hw, hown, hR⟩ := hrel
    rename World => wr
    by_cases hlt : k < sb.size
    · have hfk : Hid (f.drop k = sb[k] :: f.drop (k + 1)) := by
        rw [Hid, ← hsf.out]
        exact drop_eq (by rw [Array.getElem?_toList, Array.getElem?_eq_getElem hlt]; rfl)
      obtain ⟨c, hc⟩ : ∃ c, sb[k] = c := ⟨_, rfl⟩
      have hix := idx_byte c
      rw [hc] at hfk
      cases hic : idxOf c with
      | none =>
        rw [hic] at hix
        have hLL : Hid (decL s.data.toList = L) := by
          rw [Hid, HD.out, ← hR.out, hfk.out, decGo, hic]
        have hi2 : Lib.indexByte lettersB.data.toList ((c.toNat : Int)).toNat.toUInt8 = -1 := by
          rw [letters_data, show ((c.toNat : Int)).toNat.toUInt8 = c by simp]; exact hix
        clear hix hR hN hb hic hfk
        go_wp2_with fail
        refine (Tryz.strings_IndexByte lettersB (c.toNat : Int) _).mono ?_
        rintro e w' ⟨rfl, rfl⟩
        rw [hi2]
        clear hi2 hc
        have hv := hown.rdv
        obtain ⟨ao, capo, rfl, o1, o2, _⟩ := rdv_slice hv
        unfold maxLen at o2
        by_cases hlong : 40000 < L.length
        · have HF : Hid (decFault s = 5) := by unfold Hid decFault; rw [hLL.out, if_neg (by rintro ⟨h, _⟩; omega)]
          have HO : Hid (decodeR s = []) := by unfold Hid decodeR; rw [HF.out, if_neg (by decide)]
          clear hown
          go_wp2_with fail
          go_ret2
          exact ⟨_, by rw [HF.out]; rfl, hw, by rw [HO.out]; exact rdv_nil _ _⟩
        · have t40 : decide ((40000 : Int) < (L.length : Int)) = false := decide_eq_false (by omega)
          go_wp2_with fail
          refine (encode_any L _ _ (hv.sub (fun _ _ h => h.elim)) (by omega)).mono ?_
          rintro e w2 ⟨rfl, hc2⟩
          have hw2 := hw.trans hc2
          have hown2 := hown.never hc2
          have hel := enc_len_le L.length L 0 (Nat.le_refl _)
          obtain ⟨a1, c1, w5, hrun1, hc5, hr1⟩ := conv_bytes2 (w := w2) (s := toB (encL L)) (by rw [Lib.size_eq, toB_data]; unfold maxLen encL; omega)
          obtain ⟨a2, c2, w6, hrun2, hc6, hr2⟩ := conv_bytes2 (w := w5) (s := s) (by unfold maxLen; omega)
          have hcv1 := conv_str (hr1.never hc6)
          have hcv2 := conv_str hr2
          rw [toB_data] at hcv1
          have hw3 : Chg Never w w6 := (hw2.trans hc5).trans hc6
          have hown3 := hown2.never (hc5.trans hc6)
          clear hc5 hc6
          clear hel hr1 hr2 hv hw hown hc2 hown2 hw2
          go_wp2_with fail
          refine (Tryz.bytes_Equal _ _ ((encL L).map fun b => (b.toNat : Int)) (s.data.toList.map fun b => (b.toNat : Int)) _ (by rw [str_nums]; exact hcv1) (by rw [str_nums]; exact hcv2)).mono ?_
          rintro e w4 ⟨rfl, rfl⟩
          rw [bytes_nums, bytes_nums]
          clear hcv1 hcv2 hrun1 hrun2
          by_cases hsame : encL L = s.data.toList
          · have HF : Hid (decFault s = 0) := by unfold Hid decFault; rw [hLL.out, if_pos ⟨by omega, hsame⟩]
            have HO : Hid (decodeR s = L) := by unfold Hid decodeR; rw [HF.out, if_pos rfl, hLL.out]
            have ts : (encL L == s.data.toList) = true := by simp [hsame]
            clear hsame
            rw [ts]
            have hr := hown3.rdv
            clear hown3
            go_wp2_with fail
            go_ret2
            exact ⟨_, by rw [HF.out]; rfl, hw3, by rw [HO.out]; exact hr⟩
          · have HF : Hid (decFault s = 5) := by unfold Hid decFault; rw [hLL.out, if_neg (by rintro ⟨_, h⟩; exact hsame h)]
            have HO : Hid (decodeR s = []) := by unfold Hid decodeR; rw [HF.out, if_neg (by decide)]
            have ts : (encL L == s.data.toList) = false := by simp [hsame]
            clear hsame hown3
            rw [ts]
            go_wp2_with fail
            go_ret2
            exact ⟨_, by rw [HF.out]; rfl, hw3, by rw [HO.out]; exact rdv_nil _ _⟩
      | some q =>
        rw [hic] at hix
        have hq64 := idx_lt hic
        have hi2 : Lib.indexByte lettersB.data.toList ((c.toNat : Int)).toNat.toUInt8 = (q : Int) := by
          rw [letters_data, show ((c.toNat : Int)).toNat.toUInt8 = c by simp]; exact hix
        have hR2 : Hid ((if 8 ≤ b + 6 then decGo (f.drop (k + 1)) ((N * 64 + q) % 2 ^ (b + 6 - 8)) (b + 6 - 8) (L ++ [UInt8.ofNat ((N * 64 + q) / 2 ^ (b + 6 - 8))]) else decGo (f.drop (k + 1)) (N * 64 + q) (b + 6) L) = decGo f 0 0 []) := by
          rw [Hid, ← hR.out, hfk.out, decGo, hic]
        clear hix hR hic hfk
        have hN64 : N < 64 := by rcases hb with rfl | rfl | rfl | rfl <;> omega
        have hor := or_six hN64 hq64
        have hwr : wrap64 ((N : Int) * 64) = (N : Int) * 64 := by unfold wrap64; omega
        go_wp2_with fail
        refine (Tryz.strings_IndexByte lettersB (c.toNat : Int) _).mono ?_
        rintro e w' ⟨rfl, rfl⟩
        rw [hi2]
        clear hi2 hc
        rcases hb with rfl | rfl | rfl | rfl
        · have hR3 : Hid (decGo (f.drop (k + 1)) (N * 64 + q) 6 L = decGo f 0 0 []) := by have := hR2.out; rw [if_neg (by decide)] at this; exact this
          go_wp2_with fail
          go_roundw
          case rel => exact ⟨N * 64 + q, 6, k + 1, L, by first | rfl | (congr 1), rfl, by go_num, by omega, .inr (.inr (.inr rfl)), by omega, by omega, hw, hown, hR3.out⟩
          case measure => simp [intOf]; omega
        · have hR3 : Hid (decGo (f.drop (k + 1)) ((N * 64 + q) % 1) 0 (L ++ [UInt8.ofNat ((N * 64 + q) / 1)]) = decGo f 0 0 []) := by have := hR2.out; rw [if_pos (by decide)] at this; exact this
          have hlow : bits .and .i64 ((N : Int) * 64 + (q : Int)) (1 - 1) = (((N * 64 + q) % 1 : Nat) : Int) := by
            have := and_low (N * 64 + q) 0 (by omega) (by decide)
            rw [show ((N * 64 + q : Nat) : Int) = (N : Int) * 64 + (q : Int) by omega] at this
            exact this
          have hyv : ((UInt8.ofNat ((N * 64 + q) / 1)).toNat : Int) = (N : Int) * 64 + (q : Int) := by
            rw [UInt8.toNat_ofNat']
            omega
          go_wp2_with (at_builtin; refine wpList_push (by rfl) _ _ 29 (by rfl) elemOk_byte (O := Old w.heap.size) (l := L) (y := UInt8.ofNat ((N * 64 + q) / 1)) (by rfl) (by rfl) (by simp) hown (by show _ = _; rw [hyv]) (old_lt hw) (by omega) ?_; intro v' w7 hown2 hc7 _)
          have hw2 := own_step hw hown hc7
          clear hc7 hown hw hor hwr hyv
          go_wp2_with fail
          go_roundw
          case rel => exact ⟨(N * 64 + q) % 1, 0, k + 1, L ++ [UInt8.ofNat ((N * 64 + q) / 1)], by first | rfl | (congr 1), rfl, by go_num, by omega, .inl rfl, by omega, by simp; omega, hw2, hown2, hR3.out⟩
          case measure => simp [intOf]; omega
        · have hR3 : Hid (decGo (f.drop (k + 1)) ((N * 64 + q) % 4) 2 (L ++ [UInt8.ofNat ((N * 64 + q) / 4)]) = decGo f 0 0 []) := by have := hR2.out; rw [if_pos (by decide)] at this; exact this
          have hlow : bits .and .i64 ((N : Int) * 64 + (q : Int)) (4 - 1) = (((N * 64 + q) % 4 : Nat) : Int) := by
            have := and_low (N * 64 + q) 2 (by omega) (by decide)
            rw [show ((N * 64 + q : Nat) : Int) = (N : Int) * 64 + (q : Int) by omega] at this
            exact this
          have hyv : ((UInt8.ofNat ((N * 64 + q) / 4)).toNat : Int) = ((N : Int) * 64 + (q : Int)) / 4 := by
            rw [UInt8.toNat_ofNat']
            omega
          go_wp2_with (at_builtin; refine wpList_push (by rfl) _ _ 29 (by rfl) elemOk_byte (O := Old w.heap.size) (l := L) (y := UInt8.ofNat ((N * 64 + q) / 4)) (by rfl) (by rfl) (by simp) hown (by show _ = _; rw [hyv]) (old_lt hw) (by omega) ?_; intro v' w7 hown2 hc7 _)
          have hw2 := own_step hw hown hc7
          clear hc7 hown hw hor hwr hyv
          go_wp2_with fail
          go_roundw
          case rel => exact ⟨(N * 64 + q) % 4, 2, k + 1, L ++ [UInt8.ofNat ((N * 64 + q) / 4)], by first | rfl | (congr 1), rfl, by go_num, by omega, .inr (.inl rfl), by omega, by simp; omega, hw2, hown2, hR3.out⟩
          case measure => simp [intOf]; omega
        · have hR3 : Hid (decGo (f.drop (k + 1)) ((N * 64 + q) % 16) 4 (L ++ [UInt8.ofNat ((N * 64 + q) / 16)]) = decGo f 0 0 []) := by have := hR2.out; rw [if_pos (by decide)] at this; exact this
          have hlow : bits .and .i64 ((N : Int) * 64 + (q : Int)) (16 - 1) = (((N * 64 + q) % 16 : Nat) : Int) := by
            have := and_low (N * 64 + q) 4 (by omega) (by decide)
            rw [show ((N * 64 + q : Nat) : Int) = (N : Int) * 64 + (q : Int) by omega] at this
            exact this
          have hyv : ((UInt8.ofNat ((N * 64 + q) / 16)).toNat : Int) = ((N : Int) * 64 + (q : Int)) / 16 := by
            rw [UInt8.toNat_ofNat']
            omega
          go_wp2_with (at_builtin; refine wpList_push (by rfl) _ _ 29 (by rfl) elemOk_byte (O := Old w.heap.size) (l := L) (y := UInt8.ofNat ((N * 64 + q) / 16)) (by rfl) (by rfl) (by simp) hown (by show _ = _; rw [hyv]) (old_lt hw) (by omega) ?_; intro v' w7 hown2 hc7 _)
          have hw2 := own_step hw hown hc7
          clear hc7 hown hw hor hwr hyv
          go_wp2_with fail
          go_roundw
          case rel => exact ⟨(N * 64 + q) % 16, 4, k + 1, L ++ [UInt8.ofNat ((N * 64 + q) / 16)], by first | rfl | (congr 1), rfl, by go_num, by omega, .inr (.inr (.inl rfl)), by omega, by simp; omega, hw2, hown2, hR3.out⟩
          case measure => simp [intOf]; omega
    · have hLL : Hid (decL s.data.toList = L) := by
        rw [Hid, HD.out, ← hR.out, List.drop_of_length_le (by have := hss.out; omega), decGo]
      clear hR hN hb
      have hv := hown.rdv
      obtain ⟨ao, capo, rfl, o1, o2, _⟩ := rdv_slice hv
      unfold maxLen at o2
      by_cases hlong : 40000 < L.length
      · have HF : Hid (decFault s = 5) := by unfold Hid decFault; rw [hLL.out, if_neg (by rintro ⟨h, _⟩; omega)]
        have HO : Hid (decodeR s = []) := by unfold Hid decodeR; rw [HF.out, if_neg (by decide)]
        clear hown
        go_wp2_with fail
        go_ret2
        exact ⟨_, by rw [HF.out]; rfl, hw, by rw [HO.out]; exact rdv_nil _ _⟩
      · have t40 : decide ((40000 : Int) < (L.length : Int)) = false := decide_eq_false (by omega)
        go_wp2_with fail
        refine (encode_any L _ _ (hv.sub (fun _ _ h => h.elim)) (by omega)).mono ?_
        rintro e w2 ⟨rfl, hc2⟩
        have hw2 := hw.trans hc2
        have hown2 := hown.never hc2
        have hel := enc_len_le L.length L 0 (Nat.le_refl _)
        obtain ⟨a1, c1, w5, hrun1, hc5, hr1⟩ := conv_bytes2 (w := w2) (s := toB (encL L)) (by rw [Lib.size_eq, toB_data]; unfold maxLen encL; omega)
        obtain ⟨a2, c2, w6, hrun2, hc6, hr2⟩ := conv_bytes2 (w := w5) (s := s) (by unfold maxLen; omega)
        have hcv1 := conv_str (hr1.never hc6)
        have hcv2 := conv_str hr2
        rw [toB_data] at hcv1
        have hw3 : Chg Never w w6 := (hw2.trans hc5).trans hc6
        have hown3 := hown2.never (hc5.trans hc6)
        clear hc5 hc6
        clear hel hr1 hr2 hv hw hown hc2 hown2 hw2
        go_wp2_with fail
        refine (Tryz.bytes_Equal _ _ ((encL L).map fun b => (b.toNat : Int)) (s.data.toList.map fun b => (b.toNat : Int)) _ (by rw [str_nums]; exact hcv1) (by rw [str_nums]; exact hcv2)).mono ?_
        rintro e w4 ⟨rfl, rfl⟩
        rw [bytes_nums, bytes_nums]
        clear hcv1 hcv2 hrun1 hrun2
        by_cases hsame : encL L = s.data.toList
        · have HF : Hid (decFault s = 0) := by unfold Hid decFault; rw [hLL.out, if_pos ⟨by omega, hsame⟩]
          have HO : Hid (decodeR s = L) := by unfold Hid decodeR; rw [HF.out, if_pos rfl, hLL.out]
          have ts : (encL L == s.data.toList) = true := by simp [hsame]
          clear hsame
          rw [ts]
          have hr := hown3.rdv
          clear hown3
          go_wp2_with fail
          go_ret2
          exact ⟨_, by rw [HF.out]; rfl, hw3, by rw [HO.out]; exact hr⟩
        · have HF : Hid (decFault s = 5) := by unfold Hid decFault; rw [hLL.out, if_neg (by rintro ⟨_, h⟩; exact hsame h)]
          have HO : Hid (decodeR s = []) := by unfold Hid decodeR; rw [HF.out, if_neg (by decide)]
          have ts : (encL L == s.data.toList) = false := by simp [hsame]
          clear hsame hown3
          rw [ts]
          go_wp2_with fail
          go_ret2
          exact ⟨_, by rw [HF.out]; rfl, hw3, by rw [HO.out]; exact rdv_nil _ _⟩
end Go.Proofs.YtjiaidchcldocaaGreatDoor
namespace Go.Proofs.YtjiaidchcldocaaGreatDoor
open Go.RowKit

theorem toB_size (X : List UInt8) : (toB X).size = X.length := by rw [Lib.size_eq, toB_data]
end Go.Proofs.YtjiaidchcldocaaGreatDoor
namespace Go.Proofs.YtjiaidchcldocaaGreatDoor
open Go.RowKit

theorem line_len : ∀ (k : Nat) (s : List UInt8), s.length ≤ k → (lineGo s).length ≤ s.length + s.length / 76 + 1
  | 0, s, h => by
    have : s = [] := List.eq_nil_of_length_eq_zero (by omega)
    subst this
    rw [lineGo]; simp
  | k + 1, s, h => by
    rw [lineGo]
    by_cases h76 : 76 < s.length
    · have ih := line_len k (s.drop 76) (by rw [List.length_drop]; omega)
      rw [if_pos h76, List.length_append, List.length_append, List.length_take]
      rw [List.length_drop] at ih
      simp only [List.length_singleton]
      omega
    · rw [if_neg h76]
      split
      · simp
      · simp
theorem enc_short_len {l : List UInt8} (h : l.length ≤ 40000) : (encL l).length ≤ 60000 := by
  rw [← line_flat l.length l (Nat.le_refl _)]
  have h1 := flat_len l.length l (Nat.le_refl _)
  have h2 := line_len (flatE l).length (flatE l) (Nat.le_refl _)
  omega
end Go.Proofs.YtjiaidchcldocaaGreatDoor
namespace Go.Proofs.YtjiaidchcldocaaGreatDoor

theorem mail_ok {m : Mail} (h : mailFault m = 0) : wordB m.sender.data.toList = true ∧ wordB m.subject.data.toList = true ∧ wordB m.ident.data.toList = true ∧ m.body.length ≤ 40000 := by
  unfold mailFault at h
  by_cases h1 : wordB m.sender.data.toList = false ∨ wordB m.subject.data.toList = false ∨ wordB m.ident.data.toList = false ∨ 60 ∈ m.ident.data.toList ∨ 62 ∈ m.ident.data.toList
  · rw [if_pos h1] at h; cases h
  · rw [if_neg h1] at h
    by_cases h2 : 40000 < m.body.length
    · rw [if_pos h2] at h; cases h
    · simp only [not_or, Bool.not_eq_false] at h1
      exact ⟨h1.1, h1.2.1, h1.2.2.1, by omega⟩
end Go.Proofs.YtjiaidchcldocaaGreatDoor
namespace Go.Proofs.YtjiaidchcldocaaGreatDoor
open Go.RowKit

def printR (m : Mail) : ByteArray := if mailFault m = 0 then toB (mailText m) else ByteArray.empty
def printB (m : Mail) (y : ByteArray) : ByteArray := toB fromW ++ m.sender ++ toB (10 :: subjW) ++ m.subject ++ toB (10 :: idW) ++ m.ident ++ toB [62, 10] ++ toB codW ++ toB [10, 10] ++ y
theorem printB_eq (m : Mail) : toB (mailText m) = printB m (toB (encL m.body)) := by
  apply ByteArray.ext
  apply Array.toList_inj.1
  unfold printB
  simp only [bytes_append, toB_data]
  unfold mailText
  simp
theorem word_size {s : ByteArray} (h : wordB s.data.toList = true) : s.size ≤ 40 := by
  unfold wordB at h
  simp only [Bool.and_eq_true, decide_eq_true_eq] at h
  rw [Lib.size_eq]
  exact h.1.2

set_option maxHeartbeats 2000000 in
set_option maxRecDepth 100000 in
theorem mail_print_any (m : Mail) (v : Value) (w : World) (h : Rdv w Never v m.body) (hsz : MailSz m) :
    Calls Tryz.prog 87 #[mailV m v] w fun e w' => e = .returned (.tuple #[.string (printR m), errV (mailFault m)]) ∧ Chg Never w w' := by
  have hv := h
  obtain ⟨a, cap, rfl, h1, h2, _⟩ := rdv_slice h
  unfold maxLen at h2
  obtain ⟨hA, b0, b1, b2, b3⟩ := box1_mail w 31 m.sender m.subject m.ident (.slice a m.body.length cap) _ rfl
  by_cases hz : mailFault m = 0
  · obtain ⟨w1, w2, w3, w4⟩ := mail_ok hz
    have s1 := word_size w1
    have s2 := word_size w2
    have s3 := word_size w3
    obtain ⟨e1, e2⟩ : encodeR m.body = toB (encL m.body) ∧ encFault m.body = 0 := ⟨if_neg (by omega), if_neg (by omega)⟩
    have hel := enc_short_len w4
    have HE1 := Lib.hid e1
    have HE2 := Lib.hid e2
    have HR : Hid (printR m = printB m (toB (encL m.body))) := by rw [Hid, printR, if_pos hz, printB_eq]
    have HZ := Lib.hid hz
    clear hz w1 w2 w3 e1 e2
    go_enter Tryz.func87, Tryz.ntmps87
    go_wp2_with fail
    generalize w.alloc (.cells #[.string m.sender, .string m.subject, .string m.ident, .slice a m.body.length cap] 31) = wA at hA b0 b1 b2 b3 ⊢
    refine (mail_check_any m _ _ (hv.never hA) hsz).mono ?_
    rintro e w5 ⟨rfl, hc5⟩
    have hw := hA.trans hc5
    have b0 := hc5.cellNever b0
    have b1 := hc5.cellNever b1
    have b2 := hc5.cellNever b2
    have b3 := hc5.cellNever b3
    rw [HZ.out, errV_zero]
    clear hc5 hA
    go_wp2_with fail
    refine (Encode_any m.body _ _ (hv.never hw)).mono ?_
    rintro e w6 ⟨rfl, hc6⟩
    have hw := hw.trans hc6
    have b0 := hc6.cellNever b0
    have b1 := hc6.cellNever b1
    have b2 := hc6.cellNever b2
    rw [HE1.out, HE2.out, errV_zero]
    clear hc6 b3
    obtain ⟨y, hy⟩ : ∃ y, toB (encL m.body) = y := ⟨_, rfl⟩
    have hyz : y.size ≤ 60000 := by rw [← hy, Lib.size_eq, toB_data]; exact hel
    rw [hy] at HR ⊢
    clear hy hel
    go_wp2_with fail
    go_ret2
    exact ⟨by rw [HR.out, HZ.out]; rfl, hw⟩
  · have HR : Hid (printR m = ByteArray.empty) := if_neg hz
    have HZ := Lib.hid hz
    clear hz
    go_enter Tryz.func87, Tryz.ntmps87
    go_wp2_with fail
    generalize w.alloc (.cells #[.string m.sender, .string m.subject, .string m.ident, .slice a m.body.length cap] 31) = wA at hA b0 b1 b2 b3 ⊢
    refine (mail_check_any m _ _ (hv.never hA) hsz).mono ?_
    rintro e w5 ⟨rfl, hc5⟩
    have hw := hA.trans hc5
    rw [errV_pos HZ.out]
    clear b0 b1 b2 b3
    go_wp2_with fail
    go_ret2
    exact ⟨by rw [HR.out, errV_pos HZ.out]; rfl, hw⟩
end Go.Proofs.YtjiaidchcldocaaGreatDoor
namespace Go.Proofs.YtjiaidchcldocaaGreatDoor
open Go.RowKit

theorem trim_pre (s p : List UInt8) : Lib.trimPrefix s p = (dropPre p s).getD s := by
  unfold Lib.trimPrefix Lib.hasPrefix dropPre
  split <;> rfl
theorem trim_suf (s p : List UInt8) : Lib.trimSuffix s p = (dropSuf p s).getD s := by
  unfold Lib.trimSuffix Lib.hasSuffix dropSuf
  split <;> rfl
set_option maxHeartbeats 1000000 in
set_option maxRecDepth 100000 in
theorem field_any (s p q : ByteArray) (w : World) (hs : s.size ≤ 1000000000) :
    Calls Tryz.prog 140 #[.string s, .string p, .string q] w fun e w' => e = .returned (.string (toB (fieldL p.data.toList q.data.toList s.data.toList))) ∧ w' = w := by
  go_enter Tryz.func140, Tryz.ntmps140
  go_wp2_with fail
  refine (Tryz.strings_CutPrefix s p _).mono ?_
  rintro e w1 ⟨rfl, rfl⟩
  have hle : (⟨(Lib.trimPrefix s.data.toList p.data.toList).toArray⟩ : ByteArray).size ≤ 9223372036854775807 := by
    have h1 : (Lib.trimPrefix s.data.toList p.data.toList).length ≤ s.data.toList.length := by
      unfold Lib.trimPrefix
      split
      · rw [List.length_drop]; omega
      · exact Nat.le_refl _
    have h2 : (⟨(Lib.trimPrefix s.data.toList p.data.toList).toArray⟩ : ByteArray).size = (Lib.trimPrefix s.data.toList p.data.toList).length := by simp [ByteArray.size]
    rw [← Lib.size_eq] at h1
    omega
  have hE : Hid (toB (fieldL p.data.toList q.data.toList s.data.toList) = ⟨(Lib.trimSuffix (⟨(Lib.trimPrefix s.data.toList p.data.toList).toArray⟩ : ByteArray).data.toList q.data.toList).toArray⟩) := by
    rw [Hid, trim_suf]
    show toB _ = toB _
    congr 1
    unfold fieldL
    rw [trim_pre]
  generalize (⟨(Lib.trimPrefix s.data.toList p.data.toList).toArray⟩ : ByteArray) = u at hle hE ⊢
  go_wp2_with fail
  refine (Tryz.strings_CutSuffix u q _ hle).mono ?_
  rintro e w2 ⟨rfl, rfl⟩
  go_wp2_with fail
  go_ret
  exact ⟨by rw [hE.out]; rfl, rfl⟩
end Go.Proofs.YtjiaidchcldocaaGreatDoor
