/-
  THE WALKS of the document's Parts, SplitOf, JoinOf, and of line.Split, line.Join.
-/
import Derived.Test.YtpoammapjmddfaaDoorBuild
import Derived.Test.YtpoammapjmddfaaDoorSpecLine
import Derived.Test.YtpoammapjmddfaaDoorRefA
import Derived.Test.YtpoammapjmddfaaDoorSlice
namespace Go.Proofs.YtpoammapjmddfaaDoor
open Go.RowKit

theorem byte_at {s : ByteArray} {k : Nat} (h : k < s.size) : s.data.toList[k]? = some (s[k]'h) := by
  rw [Array.getElem?_toList, Array.getElem?_eq_getElem h]; rfl
theorem byte_eq {c d : UInt8} {n : Int} (h : ((c.toNat : Int) == n) = true) (hd : (d.toNat : Int) = n) : c = d := by
  have := eq_of_beq h
  exact UInt8.toNat_inj.1 (by omega)
theorem byte_ne {c d : UInt8} {n : Int} (h : ((c.toNat : Int) == n) = false) (hd : (d.toNat : Int) = n) : c ≠ d := by
  rintro rfl
  rw [hd] at h
  simp at h
/-- how far a text has been parted -/
def PartsInv (d : UInt8) (s : ByteArray) (q k : Nat) (L : List ByteArray) : Prop :=
  parts d s.data.toList = L.map (·.data.toList) ++ parts d (s.data.toList.drop q) ∧ ∀ j, q ≤ j → j < k → s.data.toList[j]? ≠ some d
theorem pinv_start (d : UInt8) (s : ByteArray) : PartsInv d s 0 0 [] := ⟨by simp, fun j _ h => absurd h (Nat.not_lt_zero j)⟩
theorem PartsInv.step {d : UInt8} {s : ByteArray} {q k : Nat} {L : List ByteArray} {c : UInt8} (h : PartsInv d s q k L) (hk : s.data.toList[k]? = some c) (hc : c ≠ d) : PartsInv d s q (k + 1) L :=
  ⟨h.1, fun j h1 h2 e => by
    by_cases hj : j = k
    · subst hj; rw [hk] at e; injection e with e; exact hc e
    · exact h.2 j h1 (by omega) e⟩
theorem no_sep {d : UInt8} {s : List UInt8} {q k : Nat} (h : ∀ j, q ≤ j → j < k → s[j]? ≠ some d) : ∀ x ∈ (s.drop q).take (k - q), x ≠ d := by
  rintro x hx rfl
  obtain ⟨i, hi⟩ := List.getElem?_of_mem hx
  rw [List.getElem?_take] at hi
  split at hi
  · rw [List.getElem?_drop] at hi
    exact h (q + i) (by omega) (by omega) hi
  · cases hi
theorem PartsInv.cut {d : UInt8} {s : ByteArray} {q k : Nat} {L : List ByteArray} (h : PartsInv d s q k L) (hq : q ≤ k) (hk : s.data.toList[k]? = some d) : PartsInv d s (k + 1) (k + 1) (L ++ [s.extract q k]) := by
  refine ⟨?_, fun j h1 h2 => by omega⟩
  have e : s.data.toList.drop q = (s.data.toList.drop q).take (k - q) ++ d :: s.data.toList.drop (k + 1) := by
    conv => lhs; rw [← List.take_append_drop (k - q) (s.data.toList.drop q), List.drop_drop, show q + (k - q) = k by omega, drop_eq hk]
  rw [h.1, e, parts_cut _ (no_sep h.2), List.map_append, List.append_assoc]
  simp only [List.map_cons, List.map_nil, List.singleton_append]
  rw [Lib.extract_data]
theorem PartsInv.fin {d : UInt8} {s : ByteArray} {q : Nat} {L : List ByteArray} (h : PartsInv d s q s.size L) : (parts d s.data.toList).map toB = L ++ [s.extract q s.size] := by
  have hl : s.data.toList.length = s.size := (Lib.size_eq s).symm
  have e : (s.data.toList.drop q).take (s.size - q) = s.data.toList.drop q := List.take_of_length_le (by rw [List.length_drop, hl]; exact Nat.le_refl _)
  have hn := no_sep h.2
  rw [e] at hn
  have e2 : toB (s.data.toList.drop q) = s.extract q s.size := by rw [← e, ← Lib.extract_data, toB_of]
  rw [h.1, parts_none hn, List.map_append, List.map_map, map_toB, List.map_cons, List.map_nil, e2]

set_option maxHeartbeats 1000000 in
set_option maxRecDepth 100000 in
theorem refParts_any (s : ByteArray) (w : World) (hs : s.size ≤ 100000000) :
    Calls Tryd.prog 53 #[.string s] w fun e w' => ∃ r, e = .returned r ∧ Chg Never w w' ∧ Rdv w' (Old w.heap.size) r ((parts 10 s.data.toList).map toB) := by
  go_enter Tryd.func53, Tryd.ntmps53
  go_wp2_with fail
  go_loopw [3, 4, 5] (fun o fr i wr => ∃ (q k : Nat) (L : List ByteArray), fr = .int .i64 q ∧ i = .int .i64 k ∧ q ≤ k ∧ k ≤ s.size ∧ Chg Never w wr ∧ Own 9 wr (Old w.heap.size) o L ∧ L.length ≤ k ∧ Hid (PartsInv 10 s q k L)) (fun _ _ i _ => s.size - (intOf i).toNat)
  case atStart => exact ⟨0, 0, [], rfl, rfl, Nat.le_refl _, Nat.zero_le _, Chg.refl _ _, own_nil _ _ _, Nat.le_refl _, pinv_start _ _⟩
  case round =>
    obtain ⟨q, k, L, rfl, rfl, hqk, hk, hc, hown, hL, hP⟩ := hrel
    by_cases hlt : k < s.size
    · have HB := Lib.hid (byte_at hlt)
      cases hq : (((s[k]'hlt).toNat : Int) == 10) with
      | true =>
        have HC : Hid (PartsInv 10 s (k + 1) (k + 1) (L ++ [s.extract q k])) := hP.out.cut hqk (by rw [HB.out, byte_eq (d := 10) hq rfl])
        have hes : (s.extract q k).size ≤ maxLen := by rw [ByteArray.size_extract]; unfold maxLen; omega
        go_wp2_with (at_builtin; refine wpList_push (by rfl) _ _ 22 (by rfl) elemOk_str (O := Old w.heap.size) (l := L) (y := s.extract q k) (by rfl) (by rfl) (by simp) hown ⟨rfl, hes⟩ (old_lt hc) (by omega) ?_; intro v' w2 hown2 hc2 _)
        have hc3 := own_step hc hown hc2
        clear hc2 hown hc
        go_wp2_with fail
        go_roundw
        case rel => exact ⟨k + 1, k + 1, _, by go_num, by go_num, Nat.le_refl _, by omega, hc3, hown2, by simp; omega, HC⟩
        case measure => simp [intOf] <;> omega
      | false =>
        have HC : Hid (PartsInv 10 s q (k + 1) L) := hP.out.step HB.out (byte_ne hq rfl)
        go_wp2_with fail
        go_roundw
        case rel => exact ⟨q, k + 1, L, rfl, by go_num, by omega, by omega, hc, hown, by omega, HC⟩
        case measure => simp [intOf] <;> omega
    · obtain rfl : k = s.size := by omega
      have HC := Lib.hid hP.out.fin
      have hes : (s.extract q s.size).size ≤ maxLen := by rw [ByteArray.size_extract]; unfold maxLen; omega
      go_wp2_with (at_builtin; refine wpList_push (by rfl) _ _ 22 (by rfl) elemOk_str (O := Old w.heap.size) (l := L) (y := s.extract q s.size) (by rfl) (by rfl) (by simp) hown ⟨rfl, hes⟩ (old_lt hc) (by omega) ?_; intro v' w2 hown2 hc2 _)
      have hc3 := own_step hc hown hc2
      clear hc2 hown hc
      go_wp2_with fail
      go_ret
      exact ⟨_, rfl, hc3, by rw [HC.out]; exact hown2.rdv⟩

theorem last_of {l : List (List UInt8)} (h : l ≠ []) : ∃ i z, l = i ++ [z] := ⟨l.dropLast, l.getLast h, (List.dropLast_concat_getLast h).symm⟩
theorem parts_count (d : UInt8) : ∀ s, (parts d s).length ≤ s.length + 1
  | [] => by simp [parts]
  | c :: r => by
    have := parts_count d r
    by_cases h : c = d
    · subst h; rw [parts_sep]; simp; omega
    · obtain ⟨h', t, e⟩ := List.exists_cons_of_ne_nil (parts_ne d r)
      rw [parts_other h e]
      rw [e] at this
      simp at this ⊢
      omega

set_option maxHeartbeats 1000000 in
set_option maxRecDepth 100000 in
theorem refSplit_any (s : ByteArray) (w : World) (hs : s.size ≤ 100000000) :
    Calls Tryd.prog 21 #[.string s] w fun e w' => ∃ r, e = .returned (.tuple #[r, .int .i64 (splitFault s)]) ∧ Chg Never w w' ∧ Rdv w' (Old w.heap.size) r (splitR s) := by
  obtain ⟨i, z, hiz⟩ := last_of (parts_ne 10 s.data.toList)
  have hlast : (parts 10 s.data.toList).getLast? = some z := by rw [hiz]; simp
  have hlines : linesOf s = i.map toB := by unfold linesOf; rw [hiz, List.dropLast_concat]
  have hcnt := parts_count 10 s.data.toList
  rw [hiz, List.length_append, ← Lib.size_eq] at hcnt
  simp only [List.length_cons, List.length_nil] at hcnt
  have HP := Lib.hid hiz
  have HLA := Lib.hid hlast
  have HLI := Lib.hid hlines
  clear hiz hlast hlines
  go_enter Tryd.func21, Tryd.ntmps21
  go_wp2_with fail
  refine (refParts_any s _ hs).mono ?_
  rintro e w1 ⟨r1, rfl, hc1, hr1⟩
  rw [HP.out, List.map_append, List.map_cons, List.map_nil] at hr1
  have HR := Lib.hid hr1
  obtain ⟨a, cap, rfl, h1, h2, h3⟩ := rdv_slice hr1
  have hel : (i.map toB ++ [toB z])[i.length]? = some (toB z) := by rw [List.getElem?_append_right (by simp)]; simp
  obtain ⟨b, off, rfl, _, _, c0, hzs⟩ := elems_str h3 hel
  obtain ⟨sb, z0, z1, hrun, hsub⟩ := slice_gen (P := Tryd.prog) (t := 22) (by kernel_rfl) size_str hr1 0 (i.map toB).length (Nat.zero_le _) (by simp)
  have hrun := fun (wx : World) => hrun ((i.map toB).length : Nat) wx rfl rfl
  clear z0 z1 h3 hr1 hel
  rw [List.drop_zero, Nat.sub_zero, Nat.sub_zero, List.take_left] at hsub
  rw [Nat.sub_zero, Nat.sub_zero] at hrun
  have e1 : (i.map toB ++ [toB z]).length = i.length + 1 := by simp
  have e2 : (i.map toB).length = i.length := by simp
  rw [e1] at hrun
  rw [e2] at hrun
  have e3 : ((i.length : Int) + 1 - 1) = i.length := by omega
  by_cases hz : z = []
  · subst hz
    have HF : Hid (splitFault s = linesFault (i.map toB)) := by unfold Hid splitFault; rw [if_pos HLA.out, HLI.out]
    have e4 : decide (0 < (toB []).size) = false := rfl
    rw [e1]
    go_wp2_with fail
    refine (refLines_any (i.map toB) _ _ (by rw [← e2] at *; exact (hsub.sub (fun _ _ h => h.elim)))).mono ?_
    rintro e w2 ⟨rfl, hc2⟩
    by_cases zf : linesFault (i.map toB) = 0
    · have HZ := Lib.hid zf
      have t1 : (linesFault (i.map toB) != 0) = false := by simp [zf]
      clear zf
      go_wp2_with fail
      go_ret2
      have hsp : splitFault s = 0 := by rw [HF.out, HZ.out]
      refine ⟨_, by rw [hsp]; rfl, hc1.trans hc2, ?_⟩
      unfold splitR
      rw [if_pos hsp, HLI.out]
      exact Rdv.never (by rw [← e2] at *; exact hsub) hc2
    · have HZ := Lib.hid zf
      have t1 : (linesFault (i.map toB) != 0) = true := by simp [zf]
      clear zf
      go_wp2_with fail
      go_ret2
      refine ⟨_, by rw [HF.out]; rfl, hc1.trans hc2, ?_⟩
      unfold splitR
      rw [if_neg (by rw [HF.out]; exact HZ.out)]
      exact rdv_nil _ _
  · have hsp : Hid (splitFault s = 5) := by
      unfold Hid splitFault
      rw [if_neg (by rw [HLA.out]; simp [hz])]
    have hp : 0 < (toB z).size := by rw [Lib.size_eq, toB_data]; exact List.length_pos_iff.2 hz
    have t1 := decide_eq_true hp
    rw [e1]
    clear hz
    go_wp2_with fail
    go_ret2
    refine ⟨_, by rw [hsp.out]; rfl, hc1, ?_⟩
    unfold splitR
    rw [if_neg (by rw [hsp.out]; decide)]
    exact rdv_nil _ _

theorem rdv_strs {w : World} {O : Nat → Prop} {g : Nat} {e : TypeId} {l : List ByteArray} {n : Nat} (h : w.heap[g]? = some (.cells (l.map Value.string).toArray e (0, 0))) (hO : ¬ O g) (hn : n = l.length) (hl : l.length ≤ maxLen) (hs : ∀ x ∈ l, x.size ≤ maxLen) : Rdv w O (.slice (some ⟨g, 0, none⟩) n n) l := by
  subst hn
  refine ⟨some ⟨g, 0, none⟩, l.length, rfl, Nat.le_refl _, hl, ?_⟩
  intro i x hx
  refine ⟨g, 0, [.string x], rfl, hO, ?_, rfl, hs x (List.mem_of_getElem? hx)⟩
  intro j u hj
  match j, hj with
  | 0, hj =>
    simp only [List.getElem?_cons_zero, Option.some.injEq] at hj
    subst hj
    simp only [World.cell?, h]
    simp [Dat.n, hx]

theorem joinL_size {l : List ByteArray} (h : ∀ x ∈ l, x.size ≤ 80) : (joinL l).length ≤ 81 * l.length := by
  induction l with
  | nil => simp [joinL]
  | cons x l ih =>
    have h1 := ih (fun y hy => h y (List.mem_cons_of_mem _ hy))
    have h2 := h x (List.mem_cons_self ..)
    rw [Lib.size_eq] at h2
    rw [joinL_cons]
    simp only [List.length_append, List.length_cons]
    omega
theorem linesFault_size {l : List ByteArray} (h : linesFault l = 0) : ∀ x ∈ l, x.size ≤ 80 := by
  unfold linesFault at h
  by_cases e : 60 < l.length
  · rw [if_pos e] at h; cases h
  · rw [if_neg e, firstOf_zero] at h
    intro x hx
    have := h x hx
    unfold lineFault at this
    by_cases e1 : hasNl x = true
    · rw [if_pos e1] at this; cases this
    · rw [if_neg e1] at this
      by_cases e2 : 80 < x.size
      · rw [if_pos e2] at this; cases this
      · omega
theorem joinOf_step {l : List ByteArray} {k : Nat} {x : ByteArray} (hx : l[k]? = some x) : joinOf (l.take k) ++ x ++ ⟨#[10]⟩ = joinOf (l.take (k + 1)) := by
  unfold joinOf
  rw [List.take_add_one, hx, joinL_append]
  apply ByteArray.ext
  apply Array.toList_inj.1
  rw [bytes_append, bytes_append, toB_data, toB_data]
  simp [joinL]
theorem joinL_step {l : List ByteArray} {k : Nat} {x : ByteArray} (hx : l[k]? = some x) : Lib.byteCells (joinL (l.take k)) ++ Lib.strCells x ++ [.int .u8 10] = Lib.byteCells (joinL (l.take (k + 1))) := by
  rw [List.take_add_one, hx, joinL_append, Lib.byteCells_append, Lib.strCells_eq, List.append_assoc]
  congr 1
  simp [joinL, Lib.byteCells_append]
  rfl

set_option maxHeartbeats 1000000 in
set_option maxRecDepth 100000 in
theorem refJoin_any (l : List ByteArray) (v : Value) (w : World) (h : Rdv w Never v l) (hz : linesFault l = 0) :
    Calls Tryd.prog 20 #[v] w fun e w' => e = .returned (.string (joinOf l)) ∧ Chg Never w w' := by
  have hlen := linesFault_len hz
  have hsz := linesFault_size hz
  have HZ := Lib.hid hz
  clear hz
  obtain ⟨a, cap, rfl, h1, h2, h3⟩ := rdv_slice h
  unfold maxLen at h2
  go_enter Tryd.func20, Tryd.ntmps20
  go_wp2_with fail
  go_loopw [3, 4] (fun st i wr => ∃ (k : Nat) (acc : ByteArray), k ≤ l.length ∧ i = .int .i64 k ∧ st = .string acc ∧ Chg Never w wr ∧ acc.size ≤ 81 * k ∧ Hid (acc = joinOf (l.take k))) (fun _ i _ => l.length - (intOf i).toNat)
  case atStart => exact ⟨0, _, Nat.zero_le _, rfl, rfl, Chg.refl _ _, Nat.zero_le _, rfl⟩
  case round =>
    obtain ⟨k, acc, hk, rfl, rfl, hc, hsa, hJ⟩ := hrel
    by_cases hlt : k < l.length
    · obtain ⟨x, hx⟩ : ∃ x, l[k]? = some x := ⟨l[k], by simp [hlt]⟩
      obtain ⟨b, off, rfl, _, _, c0, hxs⟩ := elems_str h3 hx
      have c0 := hc.cellNever c0
      have hx80 := hsz x (List.mem_of_getElem? hx)
      have HJ2 : Hid (acc ++ x ++ ⟨#[10]⟩ = joinOf (l.take (k + 1))) := by rw [Hid, hJ.out]; exact joinOf_step hx
      have hsz2 : (acc ++ x ++ ⟨#[10]⟩ : ByteArray).size ≤ 81 * (k + 1) := by rw [ByteArray.size_append, ByteArray.size_append]; show acc.size + x.size + 1 ≤ _; omega
      clear hx h3 h
      go_wp2_with fail
      go_roundw
      case rel => exact ⟨k + 1, _, by omega, by go_num, rfl, hc, hsz2, HJ2.out⟩
      case measure => simp [intOf] <;> omega
    · go_wp2_with fail
      go_ret
      have e := hJ.out
      rw [List.take_of_length_le (by omega)] at e
      exact ⟨by rw [e]; rfl, hc⟩

set_option maxHeartbeats 1000000 in
set_option maxRecDepth 100000 in
theorem line_join_any (l : List ByteArray) (v : Value) (w : World) (h : Rdv w Never v l) :
    Calls Tryd.prog 13 #[v] w fun e w' => e = .returned (.tuple #[.string (joinR l), errV (linesFault l)]) ∧ Chg Never w w' := by
  by_cases hz : linesFault l = 0
  · have hlen := linesFault_len hz
    have hsz := linesFault_size hz
    have HZ := Lib.hid hz
    clear hz
    have hv := h
    obtain ⟨a, cap, rfl, h1, h2, h3⟩ := rdv_slice h
    unfold maxLen at h2
    go_enter Tryd.func13, Tryd.ntmps13
    go_wp2_with fail
    refine (check_any l _ _ hv).mono ?_
    rintro e w1 ⟨rfl, rfl⟩
    rw [HZ.out, errV_zero]
    go_wp2_with fail
    go_loopw [15] (fun i wr => ∃ k : Nat, k ≤ l.length ∧ i = .int .i64 k ∧ IsB w.heap.size w.heap.size (Lib.byteCells (joinL (l.take k))) wr ∧ Below w.heap.size w wr) (fun i _ => l.length - (intOf i).toNat)
    case atStart => exact ⟨0, Nat.zero_le _, rfl, Lib.IsBuilderF.of (Lib.fresh_isBuilder _ _ w), (Below.refl _ w).alloc (Nat.le_refl _) _⟩
    case round =>
      obtain ⟨k, hk, rfl, hI, hb⟩ := hrel
      have hbs := hb.size
      by_cases hlt : k < l.length
      · obtain ⟨x, hx⟩ : ∃ x, l[k]? = some x := ⟨l[k], by simp [hlt]⟩
        obtain ⟨b, off, rfl, _, _, c0, hxs⟩ := elems_str h3 hx
        have c0 := (Chg.of_below hb).cellNever c0
        have hx80 := hsz x (List.mem_of_getElem? hx)
        have hl1 : (Lib.byteCells (joinL (l.take k))).length ≤ 81 * k := by
          rw [Lib.byteCells_length]
          have := joinL_size (l := l.take k) (fun y hy => hsz y (List.mem_of_mem_take hy))
          rw [List.length_take] at this
          omega
        have HJ := Lib.hid (joinL_step hx)
        generalize Lib.byteCells (joinL (l.take k)) = bs at hI HJ hl1
        clear hx h3 h hv
        go_wp2_with fail
        refine (bld_string w.heap.size w.heap.size bs x _ hI (by omega) hbs).mono ?_
        rintro e w2 ⟨rfl, hI2, b2⟩
        have hbs2 := b2.size
        go_wp2_with fail
        refine (bld_byte1 w.heap.size w.heap.size _ 10 _ (.inr hI2) (by rw [List.length_append, Lib.strCells_length]; omega) (by omega)).mono ?_
        rintro e w3 ⟨rfl, hI3, b3⟩
        go_wp2_with fail
        go_roundw
        case rel => exact ⟨k + 1, by omega, by go_num, .inr (by rw [← HJ.out]; exact hI3), (hb.trans b2).trans b3⟩
        case measure => simp [intOf] <;> omega
      · rw [List.take_of_length_le (by omega)] at hI
        have HR : Hid (joinR l = ⟨(joinL l).toArray⟩) := if_pos HZ.out
        go_wp2_with fail
        refine (Tryd.Builder_String_any_k w.heap.size w.heap.size (joinL l) _ hI hbs).mono ?_
        rintro e w4 ⟨rfl, _, b4, _⟩
        go_wp2_with fail
        go_ret2
        exact ⟨by rw [HR.out, HZ.out]; rfl, Chg.of_below (hb.trans b4)⟩
  · have HZ := Lib.hid hz
    have HR : Hid (joinR l = ByteArray.empty) := if_neg hz
    go_enter Tryd.func13, Tryd.ntmps13
    go_wp2_with fail
    refine (check_any l _ _ h).mono ?_
    rintro e w1 ⟨rfl, rfl⟩
    rw [errV_pos hz]
    clear hz
    go_wp2_with fail
    go_ret2
    exact ⟨by rw [HR.out, errV_pos HZ.out]; rfl, Chg.refl _ _⟩

theorem suffix_snoc (b : List UInt8) : Lib.hasSuffix (b ++ [10]) [10] = true ∧ Lib.trimSuffix (b ++ [10]) [10] = b := by
  have e : Lib.hasSuffix (b ++ [10]) [10] = true := by
    unfold Lib.hasSuffix
    rw [List.isSuffixOf_iff_suffix]
    exact List.suffix_append b [10]
  refine ⟨e, ?_⟩
  unfold Lib.trimSuffix
  rw [if_pos e]
  simp
theorem suffix_not {b : List UInt8} {c : UInt8} (h : c ≠ 10) : Lib.hasSuffix (b ++ [c]) [10] = false := by
  unfold Lib.hasSuffix
  rw [Bool.eq_false_iff]
  intro e
  rw [List.isSuffixOf_iff_suffix] at e
  obtain ⟨t, ht⟩ := e
  have := (List.append_inj' ht rfl).2
  simp at this
  exact h this.symm
theorem str_ne_empty {s : ByteArray} (h : s ≠ ByteArray.empty) : ∃ b c, s.data.toList = b ++ [c] := by
  have hne : s.data.toList ≠ [] := by
    intro e
    apply h
    apply ByteArray.ext
    apply Array.toList_inj.1
    rw [e]; rfl
  exact ⟨s.data.toList.dropLast, s.data.toList.getLast hne, (List.dropLast_concat_getLast hne).symm⟩
theorem parts_mem (d : UInt8) : ∀ (s : List UInt8) (x : List UInt8), x ∈ parts d s → x.length ≤ s.length
  | [], x, h => by simp [parts] at h; subst h; simp
  | c :: r, x, h => by
    have ih := parts_mem d r
    by_cases hc : c = d
    · subst hc
      rw [parts_sep] at h
      rcases List.mem_cons.1 h with rfl | h
      · simp
      · have := ih x h; simp; omega
    · obtain ⟨h', t, e⟩ := List.exists_cons_of_ne_nil (parts_ne d r)
      rw [parts_other hc e] at h
      rw [e] at ih
      rcases List.mem_cons.1 h with rfl | h
      · have := ih h' (List.mem_cons_self ..); simp; omega
      · have := ih x (List.mem_cons_of_mem _ h); simp; omega
set_option maxHeartbeats 1000000 in
set_option maxRecDepth 100000 in
theorem line_split_any (s : ByteArray) (w : World) (hs : s.size ≤ 100000000) (m : Int) (hm : w.cell? ⟨1, 0, none⟩ = some (.int .i64 m)) :
    Calls Tryd.prog 14 #[.string s] w fun e w' => ∃ r, e = .returned (.tuple #[r, errV (splitFault s)]) ∧ Chg Never w w' ∧ Rdv w' (Old w.heap.size) r (splitR s) := by
  by_cases h0 : s = ByteArray.empty
  · subst h0
    have t1 : ByteArray.empty.toList.isEmpty = true := by rw [Lib.toList_data]; rfl
    go_enter Tryd.func14, Tryd.ntmps14
    go_wp2_with fail
    go_ret2
    exact ⟨_, by rw [splitFault_empty]; rfl, Chg.refl _ _, by rw [splitR_empty]; exact rdv_nil _ _⟩
  · obtain ⟨b, c, hbc⟩ := str_ne_empty h0
    have t1 : s.toList.isEmpty = false := by rw [Lib.toList_data, hbc]; simp
    have hlen := Lib.size_eq s
    rw [hbc, List.length_append] at hlen
    simp only [List.length_cons, List.length_nil] at hlen
    by_cases hc : c = 10
    · subst hc
      have HS : Hid (s.data.toList = b ++ [10]) := hbc
      have HP : Hid (parts 10 s.data.toList = parts 10 b ++ [[]]) := by rw [Hid, hbc, parts_snoc]
      have HL : Hid (linesOf s = (parts 10 b).map toB) := by unfold Hid linesOf; rw [HP.out, List.dropLast_concat]
      have HF : Hid (splitFault s = linesFault ((parts 10 b).map toB)) := by unfold Hid splitFault; rw [HP.out, HL.out, if_pos (by simp)]
      have hcnt := parts_count 10 b
      have HSP : Hid (Lib.splitB ⟨#[10]⟩ 0 (Lib.countB (toB b) ⟨#[10]⟩) (toB b) = (parts 10 b).map toB) := by rw [Hid, splitB_parts, toB_data]
      have HLEN : Hid (Lib.countB (toB b) ⟨#[10]⟩ + 1 = ((parts 10 b).map toB).length) := by
        have := Lib.splitB_all ⟨#[10]⟩ (by decide) 0 _ (toB b) rfl
        rw [Hid, ← this, HSP.out]
      clear hbc h0
      have hsf := suffix_snoc b
      have S1 : Lib.hasSuffix (b ++ [10]) (⟨#[10]⟩ : ByteArray).data.toList = true := hsf.1
      have S2 : Lib.trimSuffix (b ++ [10]) (⟨#[10]⟩ : ByteArray).data.toList = b := hsf.2
      go_enter Tryd.func14, Tryd.ntmps14
      go_wp2_with fail
      refine (Tryd.strings_CutSuffix s ⟨#[10]⟩ _ (by omega)).mono ?_
      rintro e w1 ⟨rfl, hw1⟩
      rw [hw1]
      clear hw1 w1
      rw [HS.out]
      rw [S1, S2]
      clear S1 S2 hsf
      go_wp2_with fail
      refine (Tryd.strings_Split (toB b) ⟨#[10]⟩ m _ (by rw [Lib.size_eq, toB_data]; omega) hm (by decide)).mono ?_
      rintro e w2 ⟨rfl, rfl⟩
      rw [HSP.out, HLEN.out]
      have hA : Chg Never w (w.alloc (.cells (((parts 10 b).map toB).map Value.string).toArray 9)) := (Chg.refl Never w).alloc _
      have hR0 : Rdv (w.alloc (.cells (((parts 10 b).map toB).map Value.string).toArray 9)) (Old w.heap.size) (.slice (some ⟨w.heap.size, 0, none⟩) ((parts 10 b).map toB).length ((parts 10 b).map toB).length) ((parts 10 b).map toB) :=
        rdv_strs (heap_alloc_new _ _) (Nat.lt_irrefl _) rfl (by rw [List.length_map]; unfold maxLen; omega) (fun x hx => by
          obtain ⟨y, hy, rfl⟩ := List.mem_map.1 hx
          rw [Lib.size_eq, toB_data]
          have := parts_mem 10 b y hy
          unfold maxLen; omega)
      generalize (parts 10 b).map toB = L at HF HL hR0 hA ⊢
      generalize w.alloc (.cells (L.map Value.string).toArray 9) = w3 at hR0 hA ⊢
      go_wp2_with fail
      refine (check_any L _ _ (hR0.sub (fun _ _ h => h.elim))).mono ?_
      rintro e w4 ⟨rfl, rfl⟩
      by_cases zf : linesFault L = 0
      · have HZ := Lib.hid zf
        rw [zf, errV_zero]
        clear zf
        go_wp2_with fail
        go_ret2
        have hsp : splitFault s = 0 := by rw [HF.out, HZ.out]
        refine ⟨_, by rw [hsp]; rfl, hA, ?_⟩
        unfold splitR
        rw [if_pos hsp, HL.out]
        exact hR0
      · have HZ := Lib.hid zf
        rw [errV_pos zf]
        clear zf
        go_wp2_with fail
        go_ret2
        refine ⟨_, by rw [HF.out, errV_pos HZ.out]; rfl, hA, ?_⟩
        unfold splitR
        rw [if_neg (by rw [HF.out]; exact HZ.out)]
        exact rdv_nil _ _
    · have HS : Hid (s.data.toList = b ++ [c]) := hbc
      have S1 : Lib.hasSuffix (b ++ [c]) (⟨#[10]⟩ : ByteArray).data.toList = false := suffix_not hc
      have HF : Hid (splitFault s = 5) := by unfold Hid splitFault; rw [hbc, if_neg (parts_last hc b)]
      clear hbc h0
      go_enter Tryd.func14, Tryd.ntmps14
      go_wp2_with fail
      refine (Tryd.strings_CutSuffix s ⟨#[10]⟩ _ (by omega)).mono ?_
      rintro e w1 ⟨rfl, hw1⟩
      rw [hw1]
      clear hw1 w1
      rw [HS.out]
      rw [S1]
      clear S1
      go_wp2_with fail
      go_ret2
      refine ⟨_, by rw [HF.out]; rfl, Chg.refl _ _, ?_⟩
      unfold splitR
      rw [if_neg (by rw [HF.out]; decide)]
      exact rdv_nil _ _
end Go.Proofs.YtpoammapjmddfaaDoor
