/-
  PARTS: THE WALK of mail.Parse.; THE DOCUMENT'S MailOf READS THE FIRST PARTS AND THE REST, in plain Lean.; THE WALK of the document's Parts (a text of its own: no function of layers 1 to 9 in it).
-/
import Derived.Test.YtnekhaacapdmfaaDoorPackMi4
import Derived.Deep.RegionHeld3
import Derived.Deep.Cut
import Derived.Deep.CutRange
import Derived.Test.YtnekhaacapdmfaaDoorPackMi1
import Derived.Test.YtnekhaacapdmfaaDoorPackMi2
namespace Go.Proofs.YtnekhaacapdmfaaDoor
open Go.RowKit

def noMail : Mail := ⟨ByteArray.empty, ByteArray.empty, ByteArray.empty, []⟩
def parseR (s : ByteArray) : Mail := (parseM s.data.toList).getD noMail
def parseF (s : ByteArray) : Int := if (parseM s.data.toList).isSome = true then 0 else 5
theorem cell_put_eq {w : World} {p : Addr} {v : Value} (h : w.cell? p = some v) : w.setCell p v = w := by
  have e : (w.setCell p v).heap = w.heap := by
    unfold World.setCell World.cell? at *
    apply Array.ext_getElem?
    intro i
    simp only [Array.getElem?_modify]
    by_cases hi : p.block = i
    · subst hi
      rw [if_pos rfl]
      cases hb : w.heap[p.block]? with
      | none => rfl
      | some ob =>
        rw [hb] at h
        cases ob with
        | cells c e f =>
          simp only at h
          by_cases hs : p.spot.isSome = true
          · rw [if_pos hs] at h; cases h
          · rw [if_neg hs] at h
            simp only [Option.map_some, hs]
            congr 2
            apply Array.ext_getElem?
            intro j
            simp only [Bool.false_eq_true, if_false]
            rw [Array.getElem?_setIfInBounds]
            by_cases hj : p.off = j
            · subst hj
              rw [if_pos rfl]
              split
              · exact h.symm
              · rw [Array.getElem?_eq_none (by omega)]
            · rw [if_neg hj]
        | _ => rfl
    · rw [if_neg hi]
  have : w.setCell p v = { w with heap := (w.setCell p v).heap } := rfl
  rw [this, e]
theorem splitN_len : ∀ (k : Nat) (s : List UInt8), (splitN k s).length ≤ k + 1
  | 0, s => by rw [splitN]; simp
  | k + 1, s => by
    rw [splitN]
    cases cutSub [10] s with
    | none => simp
    | some p => have := splitN_len k p.2; simp; omega
theorem splitN_small : ∀ (k : Nat) (s : List UInt8), ∀ x ∈ splitN k s, x.length ≤ s.length
  | 0, s => by rw [splitN]; simp
  | k + 1, s => by
    rw [splitN]
    cases h : cutSub [10] s with
    | none => simp
    | some p =>
      obtain ⟨a, b⟩ := p
      have e := cut_some h
      intro x hx
      rw [e]
      simp only [List.length_append]
      rcases List.mem_cons.1 hx with rfl | hx
      · omega
      · have := splitN_small k b x hx; omega
theorem dec_fine {s : ByteArray} (h : decFault s = 0) : (decodeR s).length ≤ 40000 ∧ encL (decodeR s) = s.data.toList := by
  have h' := h
  unfold decFault at h
  split at h
  · rename_i q
    unfold decodeR
    rw [if_pos h']
    exact q
  · cases h
theorem field_len (p q s : List UInt8) : (fieldL p q s).length ≤ s.length := by
  unfold fieldL
  have h1 : ((dropPre p s).getD s).length ≤ s.length := by
    unfold dropPre
    split
    · show (s.drop _).length ≤ _; rw [List.length_drop]; omega
    · exact Nat.le_refl _
  refine Nat.le_trans ?_ h1
  unfold dropSuf
  split
  · show (List.take _ _).length ≤ _; rw [List.length_take]; omega
  · exact Nat.le_refl _
/-- the library's row of parts reads as the parts -/
theorem rdv_cellsOf {w : World} {g N n : Nat} {e : TypeId} {fr : Nat × Nat} {l : List ByteArray} (h : w.heap[g]? = some (.cells (Lib.cellsOf l N) e fr)) (hn : n = l.length) (hN : l.length ≤ N) (hm : N ≤ maxLen) (hs : ∀ x ∈ l, x.size ≤ maxLen) :
    Rdv w Never (.slice (some ⟨g, 0, none⟩) n N) l := by
  subst hn
  refine ⟨some ⟨g, 0, none⟩, N, rfl, hN, hm, ?_⟩
  intro i x hx
  refine ⟨g, 0, [.string x], rfl, fun h => h, ?_, rfl, hs x (List.mem_of_getElem? hx)⟩
  intro j u hj
  match j, hj with
  | 0, hj =>
    simp only [List.getElem?_cons_zero, Option.some.injEq] at hj
    subst hj
    have hi := (List.getElem?_eq_some_iff.1 hx).1
    simp only [World.cell?, h, Lib.cellsOf]
    show _ = _
    rw [show 0 + i * Dat.n ByteArray + 0 = i by show 0 + i * 1 + 0 = i; omega]
    simp only [List.getElem?_toArray]
    rw [List.getElem?_append_left (by simpa using hi), List.getElem?_map, hx]; rfl
/-- strings.SplitN(s, "\n", 6) -/
theorem pieces_eq (s : ByteArray) : Lib.splitB ⟨#[10]⟩ 0 (min 6 (s.size + 1) - 1) s = (splitN 5 s.data.toList).map toB := by
  have h := Lib.splitB_data ⟨#[10]⟩ 0 (min 6 (s.size + 1) - 1) s
  have h2 := splitN_6 s.data.toList
  rw [← Lib.size_eq] at h2
  rw [show (⟨#[10]⟩ : ByteArray).data.toList = [10] from rfl, h2] at h
  rw [← h, List.map_map, map_toB]

theorem mkeep {w2 wr : World} {o : Obj} {p q r : Addr} {a b c : Value} (h : Chg Never w2 wr ∧ wr.cell? p = some a ∧ wr.cell? q = some b ∧ wr.cell? r = some c) :
    Chg Never w2 (wr.alloc o) ∧ (wr.alloc o).cell? p = some a ∧ (wr.alloc o).cell? q = some b ∧ (wr.alloc o).cell? r = some c :=
  have k := (Chg.refl Never wr).alloc o
  ⟨h.1.alloc o, k.cellNever h.2.1, k.cellNever h.2.2.1, k.cellNever h.2.2.2⟩
theorem mfin {w2 : World} {o : Obj} {p q r : Addr} {a b c : Value} (c0 : w2.cell? p = some a) (c1 : w2.cell? q = some b) (c2 : w2.cell? r = some c) :
    Chg Never w2 (w2.alloc o).drew ∧ (w2.alloc o).drew.cell? p = some a ∧ (w2.alloc o).drew.cell? q = some b ∧ (w2.alloc o).drew.cell? r = some c :=
  have k := ((Chg.refl Never w2).alloc o).drew
  ⟨k, k.cellNever c0, k.cellNever c1, k.cellNever c2⟩
theorem put4 {w : World} {k : Nat} {a b c d x0 x1 x2 x3 : Value} (b0 : w.cell? ⟨k, 0, none⟩ = some x0) (b1 : w.cell? ⟨k, 1, none⟩ = some x1) (b2 : w.cell? ⟨k, 2, none⟩ = some x2) (b3 : w.cell? ⟨k, 3, none⟩ = some x3) :
    let W := (((w.setCell ⟨k, 0, none⟩ a).setCell ⟨k, 1, none⟩ b).setCell ⟨k, 2, none⟩ c).setCell ⟨k, 3, none⟩ d
    W.cell? ⟨k, 0, none⟩ = some a ∧ W.cell? ⟨k, 1, none⟩ = some b ∧ W.cell? ⟨k, 2, none⟩ = some c ∧ W.cell? ⟨k, 3, none⟩ = some d := by
  have n01 : (⟨k, 0, none⟩ : Addr) ≠ ⟨k, 1, none⟩ := by simp
  have n02 : (⟨k, 0, none⟩ : Addr) ≠ ⟨k, 2, none⟩ := by simp
  have n03 : (⟨k, 0, none⟩ : Addr) ≠ ⟨k, 3, none⟩ := by simp
  have n12 : (⟨k, 1, none⟩ : Addr) ≠ ⟨k, 2, none⟩ := by simp
  have n13 : (⟨k, 1, none⟩ : Addr) ≠ ⟨k, 3, none⟩ := by simp
  have n23 : (⟨k, 2, none⟩ : Addr) ≠ ⟨k, 3, none⟩ := by simp
  intro W
  refine ⟨?_, ?_, ?_, ?_⟩
  · rw [World.cell?_setCell_other _ _ _ _ n03.symm, World.cell?_setCell_other _ _ _ _ n02.symm, World.cell?_setCell_other _ _ _ _ n01.symm]
    exact World.cell?_setCell_same _ _ _ b0
  · rw [World.cell?_setCell_other _ _ _ _ n13.symm, World.cell?_setCell_other _ _ _ _ n12.symm]
    exact World.cell?_setCell_same _ _ _ (by rw [World.cell?_setCell_other _ _ _ _ n01]; exact b1)
  · rw [World.cell?_setCell_other _ _ _ _ n23.symm]
    exact World.cell?_setCell_same _ _ _ (by rw [World.cell?_setCell_other _ _ _ _ n12, World.cell?_setCell_other _ _ _ _ n02]; exact b2)
  · exact World.cell?_setCell_same _ _ _ (by rw [World.cell?_setCell_other _ _ _ _ n23, World.cell?_setCell_other _ _ _ _ n13, World.cell?_setCell_other _ _ _ _ n03]; exact b3)

set_option maxHeartbeats 1000000 in
set_option maxRecDepth 100000 in
theorem Parse_any (s : ByteArray) (w : World) (hs : s.size ≤ 10000000) (m : Int) (hm : w.cell? ⟨1, 0, none⟩ = some (.int .i64 m)) :
    Calls Tryd.prog 8 #[.string s] w fun e w' => ∃ v, e = .returned (.tuple #[mailV (parseR s) v, errV (parseF s)]) ∧ Chg Never w w' ∧ Rdv w' (Old w.heap.size) v (parseR s).body := by
  have hp := pieces_eq s
  have hpl : Hid ((Lib.splitB ⟨#[10]⟩ 0 (min 6 (s.size + 1) - 1) s).length ≤ min 6 (s.size + 1)) := by
    have := Lib.splitB_length_le ⟨#[10]⟩ 0 (min 6 (s.size + 1) - 1) s
    unfold Hid; omega
  go_enter Tryd.func8, Tryd.ntmps8
  go_wp2_with fail
  obtain ⟨hA, b0, b1, b2, b3⟩ := box1_mail w 24 ⟨#[]⟩ ⟨#[]⟩ ⟨#[]⟩ (.slice none 0 0) _ rfl
  have hfz : ∀ k, (w.alloc (.cells #[.string ⟨#[]⟩, .string ⟨#[]⟩, .string ⟨#[]⟩, .slice none 0 0] 24)).frozen? ⟨w.heap.size, k, none⟩ = false := fun k => by
    simp only [World.frozen?]
    rw [heap_alloc_new]
    simp
  have hB0 : w.heap.size < (w.alloc (.cells #[.string ⟨#[]⟩, .string ⟨#[]⟩, .string ⟨#[]⟩, .slice none 0 0] 24)).heap.size := by simp
  generalize w.alloc (.cells #[.string ⟨#[]⟩, .string ⟨#[]⟩, .string ⟨#[]⟩, .slice none 0 0] 24) = wA at hA b0 b1 b2 b3 hfz hB0 ⊢
  refine (Tryd.strings_SplitN s ⟨#[10]⟩ 6 m _ (by omega) (hA.cellNever hm) (by decide) (by decide) (by decide)).mono ?_
  rintro e w1 ⟨rfl, rfl⟩
  have hnew := heap_alloc_new wA (.cells (Lib.cellsOf (Lib.splitB ⟨#[10]⟩ 0 (min 6 (s.size + 1) - 1) s) (min 6 (s.size + 1))) 9)
  have hw1 : Chg Never w (wA.alloc (.cells (Lib.cellsOf (Lib.splitB ⟨#[10]⟩ 0 (min 6 (s.size + 1) - 1) s) (min 6 (s.size + 1))) 9)) := hA.alloc _
  have hc1 : Chg Never wA (wA.alloc (.cells (Lib.cellsOf (Lib.splitB ⟨#[10]⟩ 0 (min 6 (s.size + 1) - 1) s) (min 6 (s.size + 1))) 9)) := (Chg.refl Never wA).alloc _
  rw [hp] at hnew hw1 hc1 hpl ⊢
  have hpz : ∀ x ∈ (splitN 5 s.data.toList).map toB, x.size ≤ 10000000 := by
    intro x hx
    obtain ⟨y, hy, rfl⟩ := List.mem_map.1 hx
    have := splitN_small 5 _ y hy
    rw [toB_size]
    rw [← Lib.size_eq] at this
    omega
  have hrd := rdv_cellsOf hnew (n := ((splitN 5 s.data.toList).map toB).length) rfl hpl.out (by unfold maxLen; omega) (fun x hx => by have := hpz x hx; unfold maxLen; omega)
  obtain ⟨N, hN⟩ : ∃ N, min 6 (s.size + 1) = N := ⟨_, rfl⟩
  rw [hN] at hrd hw1 hc1 hpl ⊢
  have hN6 : N ≤ 6 := by omega
  generalize wA.alloc (.cells (Lib.cellsOf ((splitN 5 s.data.toList).map toB) N) 9) = wB at hrd hw1 hc1 ⊢
  have b0 := hc1.cellNever b0
  have b1 := hc1.cellNever b1
  have b2 := hc1.cellNever b2
  have b3 := hc1.cellNever b3
  have hfz : ∀ k, wB.frozen? ⟨w.heap.size, k, none⟩ = false := fun k => by rw [hc1.frozen hB0 (fun x => x)]; exact hfz k
  have hB0 : w.heap.size < wB.heap.size := Nat.lt_of_lt_of_le hB0 hc1.size
  clear hnew hN hA hc1 hp
  have hlen := splitN_len 5 s.data.toList
  obtain ⟨P, hP⟩ : ∃ P, splitN 5 s.data.toList = P := ⟨_, rfl⟩
  have HP := Lib.hid hP
  rw [hP] at hrd hpl hpz hlen ⊢
  clear hP
  by_cases h6 : P.length = 6
  · obtain ⟨a, b, c, d, e, z, rfl⟩ : ∃ a b c d e z, P = [a, b, c, d, e, z] := by
      match P, h6 with
      | [a, b, c, d, e, z], _ => exact ⟨a, b, c, d, e, z, rfl⟩
    clear h6 hlen
    have za := hpz (toB a) (by simp)
    have zb := hpz (toB b) (by simp)
    have zc := hpz (toB c) (by simp)
    have zz := hpz (toB z) (by simp)
    obtain ⟨aP, capP, hsl, _, _, hel⟩ := rdv_slice hrd
    simp only [Value.slice.injEq] at hsl
    obtain ⟨rfl, _, rfl⟩ := hsl
    obtain ⟨q1, q2, hq, _, _, c0, _⟩ := elems_str hel (i := 0) (x := toB a) rfl
    simp only [Option.some.injEq, Addr.mk.injEq, and_true] at hq
    obtain ⟨rfl, rfl⟩ := hq
    obtain ⟨q1, q2, hq, _, _, c1, _⟩ := elems_str hel (i := 1) (x := toB b) rfl
    simp only [Option.some.injEq, Addr.mk.injEq, and_true] at hq
    obtain ⟨rfl, rfl⟩ := hq
    obtain ⟨q1, q2, hq, _, _, c2, _⟩ := elems_str hel (i := 2) (x := toB c) rfl
    simp only [Option.some.injEq, Addr.mk.injEq, and_true] at hq
    obtain ⟨rfl, rfl⟩ := hq
    obtain ⟨q1, q2, hq, _, _, c5, _⟩ := elems_str hel (i := 5) (x := toB z) rfl
    simp only [Option.some.injEq, Addr.mk.injEq, and_true] at hq
    obtain ⟨rfl, rfl⟩ := hq
    simp only [Nat.zero_add] at c0 c1 c2 c5
    obtain ⟨PB, hPB⟩ : ∃ PB, wA.heap.size = PB := ⟨_, rfl⟩
    rw [hPB] at c0 c1 c2 c5 ⊢
    clear hPB
    clear hel hrd hpl
    go_wp2_with fail
    refine (Decode_any (toB z) _ (by omega) m (hw1.cellNever hm)).mono ?_
    rintro e' w2 ⟨r2, rfl, hc2, hr2⟩
    have hw2 := hw1.trans hc2
    have b0 := hc2.cellNever b0
    have b1 := hc2.cellNever b1
    have b2 := hc2.cellNever b2
    have b3 := hc2.cellNever b3
    have c0 := hc2.cellNever c0
    have c1 := hc2.cellNever c1
    have c2 := hc2.cellNever c2
    have hfz : ∀ k, w2.frozen? ⟨w.heap.size, k, none⟩ = false := fun k => by rw [hc2.frozen hB0 (fun x => x)]; exact hfz k
    have hBo := hB0
    have hB0 : w.heap.size < w2.heap.size := Nat.lt_of_lt_of_le hB0 hc2.size
    have hr2o := hr2
    have hr2 : Rdv w2 (Old w.heap.size) r2 _ := hr2.sub (fun k _ hk => Nat.lt_of_lt_of_le hk hw1.size)
    clear hc2 c5
    by_cases hf : decFault (toB z) = 0
    · have hdR : decodeR (toB z) = decL z := by unfold decodeR; rw [if_pos hf, toB_data]
      obtain ⟨hk1, hk2⟩ := dec_fine hf
      rw [hdR, toB_data] at hk2
      rw [hdR] at hk1 hr2 hr2o
      have hcond : Hid (encL (decL z) = z ∧ (decL z).length ≤ 40000) := ⟨hk2, hk1⟩
      have F1 : ∀ wx, Calls Tryd.prog 25 #[.string (toB a), .string ⟨#[70, 114, 111, 109, 58, 32]⟩, .string ⟨#[]⟩] wx fun e w' => e = .returned (.string (toB (fieldL fromW [] a))) ∧ w' = wx := fun wx => by
        have := field_any (toB a) (toB fromW) (toB []) wx (by omega)
        rw [toB_data, toB_data, toB_data] at this
        exact this
      have F2 : ∀ wx, Calls Tryd.prog 25 #[.string (toB b), .string ⟨#[83, 117, 98, 106, 101, 99, 116, 58, 32]⟩, .string ⟨#[]⟩] wx fun e w' => e = .returned (.string (toB (fieldL subjW [] b))) ∧ w' = wx := fun wx => by
        have := field_any (toB b) (toB subjW) (toB []) wx (by omega)
        rw [toB_data, toB_data, toB_data] at this
        exact this
      have F3 : ∀ wx, Calls Tryd.prog 25 #[.string (toB c), .string ⟨#[77, 101, 115, 115, 97, 103, 101, 45, 73, 68, 58, 32, 60]⟩, .string ⟨#[62]⟩] wx fun e w' => e = .returned (.string (toB (fieldL idW [62] c))) ∧ w' = wx := fun wx => by
        have := field_any (toB c) (toB idW) (toB [62]) wx (by omega)
        rw [toB_data, toB_data, toB_data] at this
        exact this
      have fl1 := field_len fromW [] a
      have fl2 := field_len subjW [] b
      have fl3 := field_len idW [62] c
      rw [toB_size] at za zb zc
      rw [hf, errV_zero]
      clear hf hk1 hk2 hdR
      go_wp2_with fail
      obtain ⟨A, hA1⟩ : ∃ A, toB a = A := ⟨_, rfl⟩
      obtain ⟨B, hB1⟩ : ∃ B, toB b = B := ⟨_, rfl⟩
      obtain ⟨C, hC1⟩ : ∃ C, toB c = C := ⟨_, rfl⟩
      obtain ⟨X, hX1⟩ : ∃ X, toB (fieldL fromW [] a) = X := ⟨_, rfl⟩
      obtain ⟨Y, hY1⟩ : ∃ Y, toB (fieldL subjW [] b) = Y := ⟨_, rfl⟩
      obtain ⟨Z, hZ1⟩ : ∃ Z, toB (fieldL idW [62] c) = Z := ⟨_, rfl⟩
      obtain ⟨r2a, r2c, rfl, _, _, _⟩ := rdv_slice hr2
      obtain ⟨L2, hL2⟩ : ∃ L2, (decL z).length = L2 := ⟨_, rfl⟩
      rw [hL2] at hr2 hr2o ⊢
      have HX1 := Lib.hid hX1
      have HY1 := Lib.hid hY1
      have HZ1 := Lib.hid hZ1
      rw [hA1] at c0
      rw [hB1] at c1
      rw [hC1] at c2
      rw [hA1, hX1] at F1
      rw [hB1, hY1] at F2
      rw [hC1, hZ1] at F3
      clear hA1 hB1 hC1 hX1 hY1 hZ1 hL2
      obtain ⟨gA, g0, g1, g2, g3⟩ := box1_mail w2 24 X Y Z (.slice r2a L2 r2c) _ rfl
      go_upto_region 7 with fail
      go_cut [7] from 28 to 56 (fun p wx => ∃ k, p = .pointer (some ⟨k, 0, none⟩) ∧ w2.heap.size ≤ k ∧ Hid (Chg Never w2 wx) ∧ wx.cell? ⟨k, 0, none⟩ = some (.string X) ∧ wx.cell? ⟨k, 1, none⟩ = some (.string Y) ∧ wx.cell? ⟨k, 2, none⟩ = some (.string Z) ∧ wx.cell? ⟨k, 3, none⟩ = some (.slice r2a L2 r2c))
      case first =>
        refine wp_region_held_drew (S := fun w' => Chg Never w2 w' ∧ w'.cell? ⟨PB, 0, none⟩ = some (.string A) ∧ w'.cell? ⟨PB, 1, none⟩ = some (.string B) ∧ w'.cell? ⟨PB, 2, none⟩ = some (.string C)) (by kernel_rfl) ⟨(Chg.refl Never w2).drew, c0, c1, c2⟩ (fun hH => ?_)
        refine' wpAnyH_take (i := 0) ?hi0 (by kernel_rfl) (by kernel_rfl) (by kernel_rfl) ?hQ0 (Or.inl ⟨?hw0, ?hy0⟩) (by assumption) ?_
        case hi0 => (simp only [List.getElem?_toArray, List.getElem?_cons_succ, List.getElem?_cons_zero]; rfl)
        case hQ0 => exact fun _ _ _ h => h
        case hw0 => rfl
        case hy0 => (intro w' hSw; (try dsimp only at hSw); go_simp; all_goals with_reducible rfl)
        try simp only [Act.put, List.setIfInBounds_toArray, List.set_cons_zero, List.set_cons_succ]
        refine' wpAnyH_take (i := 1) ?hi1 (by kernel_rfl) (by kernel_rfl) (by kernel_rfl) ?hQ1 (Or.inl ⟨?hw1, ?hy1⟩) (by assumption) ?_
        case hi1 => (simp only [List.getElem?_toArray, List.getElem?_cons_succ, List.getElem?_cons_zero]; rfl)
        case hQ1 => exact fun _ _ _ h => h
        case hw1 => rfl
        case hy1 => (intro w' hSw; (try dsimp only at hSw); go_simp; all_goals with_reducible rfl)
        try simp only [Act.put, List.setIfInBounds_toArray, List.set_cons_zero, List.set_cons_succ]
        refine' wpAnyH_take (i := 2) ?hi2 (by kernel_rfl) (by kernel_rfl) (by kernel_rfl) ?hQ2 (Or.inl ⟨?hw2, ?hy2⟩) (by assumption) ?_
        case hi2 => (simp only [List.getElem?_toArray, List.getElem?_cons_succ, List.getElem?_cons_zero]; rfl)
        case hQ2 => exact fun _ _ _ h => h
        case hw2 => rfl
        case hy2 => (intro w' hSw; (try dsimp only at hSw); go_simp; all_goals with_reducible rfl)
        try simp only [Act.put, List.setIfInBounds_toArray, List.set_cons_zero, List.set_cons_succ]
        refine' wpAnyH_take (i := 4) ?hi4 (by kernel_rfl) (by kernel_rfl) (by kernel_rfl) ?hQ4 (Or.inl ⟨?hw4, ?hy4⟩) (by assumption) ?_
        case hi4 => (simp only [List.getElem?_toArray, List.getElem?_cons_succ, List.getElem?_cons_zero]; rfl)
        case hQ4 => exact fun _ _ _ h => h
        case hw4 => rfl
        case hy4 => (intro w' hSw; (try dsimp only at hSw); go_simp; all_goals with_reducible rfl)
        try simp only [Act.put, List.setIfInBounds_toArray, List.set_cons_zero, List.set_cons_succ]
        refine' wpAnyH_take (i := 5) ?hi5 (by kernel_rfl) (by kernel_rfl) (by kernel_rfl) ?hQ5 (Or.inl ⟨?hw5, ?hy5⟩) (by assumption) ?_
        case hi5 => (simp only [List.getElem?_toArray, List.getElem?_cons_succ, List.getElem?_cons_zero]; rfl)
        case hQ5 => exact fun _ _ _ h => h
        case hw5 => rfl
        case hy5 => (intro w' hSw; (try dsimp only at hSw); go_simp; all_goals with_reducible rfl)
        try simp only [Act.put, List.setIfInBounds_toArray, List.set_cons_zero, List.set_cons_succ]
        refine' wpAnyH_take (i := 6) ?hi6 (by kernel_rfl) (by kernel_rfl) (by kernel_rfl) ?hQ6 (Or.inl ⟨?hw6, ?hy6⟩) (by assumption) ?_
        case hi6 => (simp only [List.getElem?_toArray, List.getElem?_cons_succ, List.getElem?_cons_zero]; rfl)
        case hQ6 => exact fun _ _ _ h => h
        case hw6 => rfl
        case hy6 => (intro w' hSw; (try dsimp only at hSw); go_simp; all_goals with_reducible rfl)
        try simp only [Act.put, List.setIfInBounds_toArray, List.set_cons_zero, List.set_cons_succ]
        refine' wpAnyH_take (i := 8) ?hi8 (by kernel_rfl) (by kernel_rfl) (by kernel_rfl) ?hQ8 (Or.inl ⟨?hw8, ?hy8⟩) (by assumption) ?_
        case hi8 => (simp only [List.getElem?_toArray, List.getElem?_cons_succ, List.getElem?_cons_zero]; rfl)
        case hQ8 => exact fun _ _ _ h => h
        case hw8 => rfl
        case hy8 => (intro w' hSw; (try dsimp only at hSw); go_simp; all_goals with_reducible rfl)
        try simp only [Act.put, List.setIfInBounds_toArray, List.set_cons_zero, List.set_cons_succ]
        refine' wpAnyH_take (i := 9) ?hi9 (by kernel_rfl) (by kernel_rfl) (by kernel_rfl) ?hQ9 (Or.inl ⟨?hw9, ?hy9⟩) (by assumption) ?_
        case hi9 => (simp only [List.getElem?_toArray, List.getElem?_cons_succ, List.getElem?_cons_zero]; rfl)
        case hQ9 => exact fun _ _ _ h => h
        case hw9 => rfl
        case hy9 => (intro w' hSw; (try dsimp only at hSw); go_simp; all_goals with_reducible rfl)
        try simp only [Act.put, List.setIfInBounds_toArray, List.set_cons_zero, List.set_cons_succ]
        refine' wpAnyH_take (i := 10) ?hi10 (by kernel_rfl) (by kernel_rfl) (by kernel_rfl) ?hQ10 (Or.inl ⟨?hw10, ?hy10⟩) (by assumption) ?_
        case hi10 => (simp only [List.getElem?_toArray, List.getElem?_cons_succ, List.getElem?_cons_zero]; rfl)
        case hQ10 => exact fun _ _ _ h => h
        case hw10 => rfl
        case hy10 => (intro w' hSw; (try dsimp only at hSw); go_simp; all_goals with_reducible rfl)
        try simp only [Act.put, List.setIfInBounds_toArray, List.set_cons_zero, List.set_cons_succ]
        refine' wpAnyH_take (i := 12) ?hi12 (by kernel_rfl) (by kernel_rfl) (by kernel_rfl) ?hQ12 (Or.inl ⟨?hw12, ?hy12⟩) (by assumption) ?_
        case hi12 => (simp only [List.getElem?_toArray, List.getElem?_cons_succ, List.getElem?_cons_zero]; rfl)
        case hQ12 => exact fun _ _ _ h => h
        case hw12 => rfl
        case hy12 => (intro w' hSw; (try dsimp only at hSw); go_simp; all_goals with_reducible rfl)
        try simp only [Act.put, List.setIfInBounds_toArray, List.set_cons_zero, List.set_cons_succ]
        refine wpAnyH_ready (rs := [3, 14]) (by kernel_rfl) (by simp) ?_
        refine AllReadyH.cons rfl (fun K hK => ?_) (AllReadyH.cons rfl (fun K hK => ?_) AllReadyH.nil)
        · go_simp
          go_at_call 25
          refine (F1 _).mono ?_
          rintro e wq ⟨rfl, rfl⟩
          try go_wp2_with fail
          refine hK.out _ _ ?_ (fun hH => ?_)
          · assumption
          clear hK K
          try simp only [Act.put, List.setIfInBounds_toArray, List.set_cons_zero, List.set_cons_succ]
          refine wpAnyH_ready (rs := [7, 14]) (by kernel_rfl) (by simp) ?_
          refine AllReadyH.cons rfl (fun K hK => ?_) (AllReadyH.cons rfl (fun K hK => ?_) AllReadyH.nil)
          · go_simp
            go_at_call 25
            refine (F2 _).mono ?_
            rintro e wq ⟨rfl, rfl⟩
            try go_wp2_with fail
            refine hK.out _ _ ?_ (fun hH => ?_)
            · assumption
            clear hK K
            try simp only [Act.put, List.setIfInBounds_toArray, List.set_cons_zero, List.set_cons_succ]
            refine wpAnyH_ready (rs := [11, 14]) (by kernel_rfl) (by simp) ?_
            refine AllReadyH.cons rfl (fun K hK => ?_) (AllReadyH.cons rfl (fun K hK => ?_) AllReadyH.nil)
            · go_simp
              go_at_call 25
              refine (F3 _).mono ?_
              rintro e wq ⟨rfl, rfl⟩
              try go_wp2_with fail
              refine hK.out _ _ ?_ (fun hH => ?_)
              · assumption
              clear hK K
              try simp only [Act.put, List.setIfInBounds_toArray, List.set_cons_zero, List.set_cons_succ]
              refine' wpAnyH_take (i := 13) ?hi13 (by kernel_rfl) (by kernel_rfl) (by kernel_rfl) ?hQ13 (Or.inl ⟨?hw13, ?hy13⟩) (by assumption) ?_
              case hi13 => (simp only [List.getElem?_toArray, List.getElem?_cons_succ, List.getElem?_cons_zero]; rfl)
              case hQ13 => exact fun _ _ _ h => h
              case hw13 => rfl
              case hy13 => (intro w' hSw; (try dsimp only at hSw); go_simp; all_goals with_reducible rfl)
              try simp only [Act.put, List.setIfInBounds_toArray, List.set_cons_zero, List.set_cons_succ]
              refine wpAnyH_ready (rs := [14]) (by kernel_rfl) (by simp) ?_
              refine AllReadyH.cons rfl (fun K hK => ?_) AllReadyH.nil
              go_simp
              refine hK.out _ _ ?_ (fun hH => ?_)
              · exact mkeep (by assumption)
              clear hK K
              try simp only [Act.put, List.setIfInBounds_toArray, List.set_cons_zero, List.set_cons_succ]
              refine wpAnyH_ready (rs := [15]) (by kernel_rfl) (by simp) ?_
              refine AllReadyH.cons rfl (fun K hK => ?_) AllReadyH.nil
              go_simp
              refine hK.out _ _ ?_ (fun hH => ?_)
              · exact mfin c0 c1 c2
              clear hK K
              try simp only [Act.put, List.setIfInBounds_toArray, List.set_cons_zero, List.set_cons_succ]
              refine wpAnyH_done (by kernel_rfl) ?_ _
              go_wp2_with fail
              go_meet
              exact ⟨_, rfl, Nat.le_refl _, gA.drew, g0, g1, g2, g3⟩
            · go_simp
              refine hK.out _ _ ?_ (fun hH => ?_)
              · exact mkeep (by assumption)
              clear hK K
              try simp only [Act.put, List.setIfInBounds_toArray, List.set_cons_zero, List.set_cons_succ]
              refine wpAnyH_ready (rs := [11]) (by kernel_rfl) (by simp) ?_
              refine AllReadyH.cons rfl (fun K hK => ?_) AllReadyH.nil
              go_simp
              go_at_call 25
              refine (F3 _).mono ?_
              rintro e wq ⟨rfl, rfl⟩
              try go_wp2_with fail
              refine hK.out _ _ ?_ (fun hH => ?_)
              · assumption
              clear hK K
              try simp only [Act.put, List.setIfInBounds_toArray, List.set_cons_zero, List.set_cons_succ]
              refine' wpAnyH_take (i := 13) ?hi13 (by kernel_rfl) (by kernel_rfl) (by kernel_rfl) ?hQ13 (Or.inl ⟨?hw13, ?hy13⟩) (by assumption) ?_
              case hi13 => (simp only [List.getElem?_toArray, List.getElem?_cons_succ, List.getElem?_cons_zero]; rfl)
              case hQ13 => exact fun _ _ _ h => h
              case hw13 => rfl
              case hy13 => (intro w' hSw; (try dsimp only at hSw); go_simp; all_goals with_reducible rfl)
              try simp only [Act.put, List.setIfInBounds_toArray, List.set_cons_zero, List.set_cons_succ]
              refine wpAnyH_ready (rs := [15]) (by kernel_rfl) (by simp) ?_
              refine AllReadyH.cons rfl (fun K hK => ?_) AllReadyH.nil
              go_simp
              refine hK.out _ _ ?_ (fun hH => ?_)
              · exact mfin c0 c1 c2
              clear hK K
              try simp only [Act.put, List.setIfInBounds_toArray, List.set_cons_zero, List.set_cons_succ]
              refine wpAnyH_done (by kernel_rfl) ?_ _
              go_wp2_with fail
              go_meet
              exact ⟨_, rfl, Nat.le_refl _, gA.drew, g0, g1, g2, g3⟩
          · go_simp
            refine hK.out _ _ ?_ (fun hH => ?_)
            · exact mkeep (by assumption)
            clear hK K
            try simp only [Act.put, List.setIfInBounds_toArray, List.set_cons_zero, List.set_cons_succ]
            refine wpAnyH_ready (rs := [7]) (by kernel_rfl) (by simp) ?_
            refine AllReadyH.cons rfl (fun K hK => ?_) AllReadyH.nil
            go_simp
            go_at_call 25
            refine (F2 _).mono ?_
            rintro e wq ⟨rfl, rfl⟩
            try go_wp2_with fail
            refine hK.out _ _ ?_ (fun hH => ?_)
            · assumption
            clear hK K
            try simp only [Act.put, List.setIfInBounds_toArray, List.set_cons_zero, List.set_cons_succ]
            refine wpAnyH_ready (rs := [11]) (by kernel_rfl) (by simp) ?_
            refine AllReadyH.cons rfl (fun K hK => ?_) AllReadyH.nil
            go_simp
            go_at_call 25
            refine (F3 _).mono ?_
            rintro e wq ⟨rfl, rfl⟩
            try go_wp2_with fail
            refine hK.out _ _ ?_ (fun hH => ?_)
            · assumption
            clear hK K
            try simp only [Act.put, List.setIfInBounds_toArray, List.set_cons_zero, List.set_cons_succ]
            refine' wpAnyH_take (i := 13) ?hi13 (by kernel_rfl) (by kernel_rfl) (by kernel_rfl) ?hQ13 (Or.inl ⟨?hw13, ?hy13⟩) (by assumption) ?_
            case hi13 => (simp only [List.getElem?_toArray, List.getElem?_cons_succ, List.getElem?_cons_zero]; rfl)
            case hQ13 => exact fun _ _ _ h => h
            case hw13 => rfl
            case hy13 => (intro w' hSw; (try dsimp only at hSw); go_simp; all_goals with_reducible rfl)
            try simp only [Act.put, List.setIfInBounds_toArray, List.set_cons_zero, List.set_cons_succ]
            refine wpAnyH_ready (rs := [15]) (by kernel_rfl) (by simp) ?_
            refine AllReadyH.cons rfl (fun K hK => ?_) AllReadyH.nil
            go_simp
            refine hK.out _ _ ?_ (fun hH => ?_)
            · exact mfin c0 c1 c2
            clear hK K
            try simp only [Act.put, List.setIfInBounds_toArray, List.set_cons_zero, List.set_cons_succ]
            refine wpAnyH_done (by kernel_rfl) ?_ _
            go_wp2_with fail
            go_meet
            exact ⟨_, rfl, Nat.le_refl _, gA.drew, g0, g1, g2, g3⟩
        · go_simp
          refine hK.out _ _ ?_ (fun hH => ?_)
          · exact mkeep (by assumption)
          clear hK K
          try simp only [Act.put, List.setIfInBounds_toArray, List.set_cons_zero, List.set_cons_succ]
          refine wpAnyH_ready (rs := [3]) (by kernel_rfl) (by simp) ?_
          refine AllReadyH.cons rfl (fun K hK => ?_) AllReadyH.nil
          go_simp
          go_at_call 25
          refine (F1 _).mono ?_
          rintro e wq ⟨rfl, rfl⟩
          try go_wp2_with fail
          refine hK.out _ _ ?_ (fun hH => ?_)
          · assumption
          clear hK K
          try simp only [Act.put, List.setIfInBounds_toArray, List.set_cons_zero, List.set_cons_succ]
          refine wpAnyH_ready (rs := [7]) (by kernel_rfl) (by simp) ?_
          refine AllReadyH.cons rfl (fun K hK => ?_) AllReadyH.nil
          go_simp
          go_at_call 25
          refine (F2 _).mono ?_
          rintro e wq ⟨rfl, rfl⟩
          try go_wp2_with fail
          refine hK.out _ _ ?_ (fun hH => ?_)
          · assumption
          clear hK K
          try simp only [Act.put, List.setIfInBounds_toArray, List.set_cons_zero, List.set_cons_succ]
          refine wpAnyH_ready (rs := [11]) (by kernel_rfl) (by simp) ?_
          refine AllReadyH.cons rfl (fun K hK => ?_) AllReadyH.nil
          go_simp
          go_at_call 25
          refine (F3 _).mono ?_
          rintro e wq ⟨rfl, rfl⟩
          try go_wp2_with fail
          refine hK.out _ _ ?_ (fun hH => ?_)
          · assumption
          clear hK K
          try simp only [Act.put, List.setIfInBounds_toArray, List.set_cons_zero, List.set_cons_succ]
          refine' wpAnyH_take (i := 13) ?hi13 (by kernel_rfl) (by kernel_rfl) (by kernel_rfl) ?hQ13 (Or.inl ⟨?hw13, ?hy13⟩) (by assumption) ?_
          case hi13 => (simp only [List.getElem?_toArray, List.getElem?_cons_succ, List.getElem?_cons_zero]; rfl)
          case hQ13 => exact fun _ _ _ h => h
          case hw13 => rfl
          case hy13 => (intro w' hSw; (try dsimp only at hSw); go_simp; all_goals with_reducible rfl)
          try simp only [Act.put, List.setIfInBounds_toArray, List.set_cons_zero, List.set_cons_succ]
          refine wpAnyH_ready (rs := [15]) (by kernel_rfl) (by simp) ?_
          refine AllReadyH.cons rfl (fun K hK => ?_) AllReadyH.nil
          go_simp
          refine hK.out _ _ ?_ (fun hH => ?_)
          · exact mfin c0 c1 c2
          clear hK K
          try simp only [Act.put, List.setIfInBounds_toArray, List.set_cons_zero, List.set_cons_succ]
          refine wpAnyH_done (by kernel_rfl) ?_ _
          go_wp2_with fail
          go_meet
          exact ⟨_, rfl, Nat.le_refl _, gA.drew, g0, g1, g2, g3⟩
      case rest =>
        obtain ⟨k, rfl, hk, hcc, k0, k1, k2, k3⟩ := hcut
        have hw3 := hw2.trans hcc.out
        have hrd : Rdv wc Never (.slice r2a L2 r2c) (decL z) := (hr2.never hcc.out).sub (fun _ _ h => h.elim)
        have hpm : Hid (parseM s.data.toList = if mailFault ⟨X, Y, Z, decL z⟩ = 0 ∧ mailText ⟨X, Y, Z, decL z⟩ = s.data.toList then some ⟨X, Y, Z, decL z⟩ else none) := by
          unfold Hid parseM
          rw [HP.out]
          simp only
          rw [if_pos hcond.out, HX1.out, HY1.out, HZ1.out]
        have sx : X.size ≤ maxLen := by rw [← HX1.out, toB_size]; unfold maxLen; omega
        have sy : Y.size ≤ maxLen := by rw [← HY1.out, toB_size]; unfold maxLen; omega
        have sz : Z.size ≤ maxLen := by rw [← HZ1.out, toB_size]; unfold maxLen; omega
        have PC := mail_print_any ⟨X, Y, Z, decL z⟩ (.slice r2a L2 r2c) wc hrd ⟨sx, sy, sz⟩
        obtain ⟨PR, hPR⟩ : ∃ PR, printR ⟨X, Y, Z, decL z⟩ = PR := ⟨_, rfl⟩
        have HPR := Lib.hid hPR
        rw [hPR] at PC
        clear hPR sx sy sz F1 F2 F3 gA g0 g1 g2 g3 c0 c1 c2
        have hfz5 : ∀ {w4 : World}, Chg Never w2 w4 → ∀ k, w4.frozen? ⟨w.heap.size, k, none⟩ = false := fun hc5 k => by rw [hc5.frozen hB0 (fun x => x)]; exact hfz k
        by_cases hz : mailFault ⟨X, Y, Z, decL z⟩ = 0
        · have HZ := Lib.hid hz
          have hPR : Hid (PR = toB (mailText ⟨X, Y, Z, decL z⟩)) := by have := HPR.out; unfold printR at this; rw [if_pos hz] at this; exact this.symm
          rw [hz, errV_zero] at PC
          clear hz
          by_cases hPs : PR = s
          · have hb : (PR.toList != s.toList) = false := by rw [hPs]; simp
            have hps : Hid (parseM s.data.toList = some ⟨X, Y, Z, decL z⟩) := by
              unfold Hid
              rw [hpm.out, if_pos]
              refine ⟨HZ.out, ?_⟩
              rw [← hPs, hPR.out, toB_data]
            have HR : Hid (parseR s = ⟨X, Y, Z, decL z⟩) := by unfold Hid parseR; rw [hps.out]; rfl
            have HF : Hid (parseF s = 0) := by unfold Hid parseF; rw [hps.out]; rfl
            go_wp2_with (first | (go_at_call 7; refine PC.mono ?_; rintro e' w4 ⟨rfl, hc4⟩; have hc5 := hcc.out.trans hc4; have b0 := hc5.cellNever b0; have b1 := hc5.cellNever b1; have b2 := hc5.cellNever b2; have b3 := hc5.cellNever b3; have k0 := hc4.cellNever k0; have k1 := hc4.cellNever k1; have k2 := hc4.cellNever k2; have k3 := hc4.cellNever k3; have f0 := hfz5 hc5 0; have f1 := hfz5 hc5 1; have f2 := hfz5 hc5 2; have f3 := hfz5 hc5 3))
            have P4 := put4 (a := .string X) (b := .string Y) (c := .string Z) (d := .slice r2a L2 r2c) b0 b1 b2 b3
            have P5 : Chg (fun k => k = w.heap.size) w2 ((((w4.setCell ⟨w.heap.size, 0, none⟩ (.string X)).setCell ⟨w.heap.size, 1, none⟩ (.string Y)).setCell ⟨w.heap.size, 2, none⟩ (.string Z)).setCell ⟨w.heap.size, 3, none⟩ (.slice r2a L2 r2c)) := ((((hc5.mono (O' := fun k => k = w.heap.size) (fun _ _ h => h.elim)).setCell (.inr rfl) _).setCell (.inr rfl) _).setCell (.inr rfl) _).setCell (.inr rfl) _
            have P6 : Chg Never w ((((w4.setCell ⟨w.heap.size, 0, none⟩ (.string X)).setCell ⟨w.heap.size, 1, none⟩ (.string Y)).setCell ⟨w.heap.size, 2, none⟩ (.string Z)).setCell ⟨w.heap.size, 3, none⟩ (.slice r2a L2 r2c)) := ((((hw3.trans hc4).setCell (.inl (Nat.le_refl _)) _).setCell (.inl (Nat.le_refl _)) _).setCell (.inl (Nat.le_refl _)) _).setCell (.inl (Nat.le_refl _)) _
            have P7 := hr2o.keep (O'' := Old w.heap.size) P5 (fun k _ e => by subst e; exact hBo) (fun k _ hk => Nat.lt_trans hk hBo)
            generalize (((w4.setCell ⟨w.heap.size, 0, none⟩ (.string X)).setCell ⟨w.heap.size, 1, none⟩ (.string Y)).setCell ⟨w.heap.size, 2, none⟩ (.string Z)).setCell ⟨w.heap.size, 3, none⟩ (.slice r2a L2 r2c) = wZ at P4 P5 P6 P7 ⊢
            obtain ⟨d0, d1, d2, d3⟩ := P4
            refine bodyPost_ret (v := .tuple #[.agg #[.string X, .string Y, .string Z, .slice r2a L2 r2c], .nilIface]) (by simp [results, Tryd.results8, go_sem, d0, d1, d2, d3]) rfl ?_
            exact ⟨_, by rw [HR.out, HF.out]; rfl, P6, by rw [HR.out]; exact P7⟩
          · have hb2 : (PR.toList == s.toList) = false := str_beq_false hPs
            have hb : (PR.toList != s.toList) = true := by
              simp only [bne, str_beq_false hPs, Bool.not_false]
            have hpn : Hid (parseM s.data.toList = none) := by
              unfold Hid
              rw [hpm.out, if_neg]
              rintro ⟨_, g⟩
              exact hPs (by rw [hPR.out, g]; rfl)
            have HR : Hid (parseR s = noMail) := by unfold Hid parseR; rw [hpn.out]; rfl
            have HF : Hid (parseF s = 5) := by unfold Hid parseF; rw [hpn.out]; rfl
            go_wp2_with (first | (go_at_call 7; refine PC.mono ?_; rintro e' w4 ⟨rfl, hc4⟩; have hc5 := hcc.out.trans hc4; have b0 := hc5.cellNever b0; have b1 := hc5.cellNever b1; have b2 := hc5.cellNever b2; have b3 := hc5.cellNever b3; have k0 := hc4.cellNever k0; have k1 := hc4.cellNever k1; have k2 := hc4.cellNever k2; have k3 := hc4.cellNever k3; have f0 := hfz5 hc5 0; have f1 := hfz5 hc5 1; have f2 := hfz5 hc5 2; have f3 := hfz5 hc5 3; have S0 := cell_put_eq b0; have S1 := cell_put_eq b1; have S2 := cell_put_eq b2; have S3 := cell_put_eq b3))
            refine bodyPost_ret (v := .tuple #[.agg #[.string ⟨#[]⟩, .string ⟨#[]⟩, .string ⟨#[]⟩, .slice none 0 0], .iface 32 (.int .i64 5)]) (by simp [results, Tryd.results8, go_sem, b0, b1, b2, b3]) rfl ?_
            exact ⟨_, by rw [HR.out, HF.out]; rfl, hw3.trans hc4, by rw [HR.out]; exact rdv_nil _ _⟩
        · have hpn : Hid (parseM s.data.toList = none) := by
            unfold Hid
            rw [hpm.out, if_neg]
            rintro ⟨g, _⟩
            exact hz g
          have HR : Hid (parseR s = noMail) := by unfold Hid parseR; rw [hpn.out]; rfl
          have HF : Hid (parseF s = 5) := by unfold Hid parseF; rw [hpn.out]; rfl
          rw [errV_pos hz] at PC
          clear hz
          go_wp2_with (first | (go_at_call 7; refine PC.mono ?_; rintro e' w4 ⟨rfl, hc4⟩; have hc5 := hcc.out.trans hc4; have b0 := hc5.cellNever b0; have b1 := hc5.cellNever b1; have b2 := hc5.cellNever b2; have b3 := hc5.cellNever b3; have k0 := hc4.cellNever k0; have k1 := hc4.cellNever k1; have k2 := hc4.cellNever k2; have k3 := hc4.cellNever k3; have f0 := hfz5 hc5 0; have f1 := hfz5 hc5 1; have f2 := hfz5 hc5 2; have f3 := hfz5 hc5 3; have S0 := cell_put_eq b0; have S1 := cell_put_eq b1; have S2 := cell_put_eq b2; have S3 := cell_put_eq b3))
          refine bodyPost_ret (v := .tuple #[.agg #[.string ⟨#[]⟩, .string ⟨#[]⟩, .string ⟨#[]⟩, .slice none 0 0], .iface 32 (.int .i64 5)]) (by simp [results, Tryd.results8, go_sem, b0, b1, b2, b3]) rfl ?_
          exact ⟨_, by rw [HR.out, HF.out]; rfl, hw3.trans hc4, by rw [HR.out]; exact rdv_nil _ _⟩
    · have hpn : Hid (parseM s.data.toList = none) := by
        unfold Hid parseM
        rw [HP.out]
        simp only
        rw [if_neg]
        rintro ⟨g1, g2⟩
        apply hf
        unfold decFault
        rw [toB_data, if_pos ⟨g2, g1⟩]
      have hf5 : Hid (decFault (toB z) = 5) := by
        unfold decFault at hf
        unfold Hid decFault
        split at hf
        · exact absurd rfl hf
        · rename_i g; rw [if_neg g]
      have HR : Hid (parseR s = noMail) := by unfold Hid parseR; rw [hpn.out]; rfl
      have HF : Hid (parseF s = 5) := by unfold Hid parseF; rw [hpn.out]; rfl
      have f0 := hfz 0
      have f1 := hfz 1
      have f2 := hfz 2
      have f3 := hfz 3
      have S0 := cell_put_eq b0
      have S1 := cell_put_eq b1
      have S2 := cell_put_eq b2
      have S3 := cell_put_eq b3
      rw [hf5.out, errV_pos (by decide)]
      clear hf
      go_wp2_with fail
      refine bodyPost_ret (v := .tuple #[.agg #[.string ⟨#[]⟩, .string ⟨#[]⟩, .string ⟨#[]⟩, .slice none 0 0], .iface 32 (.int .i64 5)]) (by simp [results, Tryd.results8, go_sem, b0, b1, b2, b3]) rfl ?_
      exact ⟨_, by rw [HR.out, HF.out]; rfl, hw2, by rw [HR.out]; exact rdv_nil _ _⟩
  · have hpn : Hid (parseM s.data.toList = none) := by
      unfold Hid parseM
      rw [HP.out]
      split
      · exact absurd rfl h6
      · rfl
    have HR : Hid (parseR s = noMail) := by unfold Hid parseR; rw [hpn.out]; rfl
    have HF : Hid (parseF s = 5) := by unfold Hid parseF; rw [hpn.out]; rfl
    have t6 : decide ((P.length : Int) < 6) = true := decide_eq_true (by omega)
    have f0 := hfz 0
    have f1 := hfz 1
    have f2 := hfz 2
    have f3 := hfz 3
    have S0 := cell_put_eq b0
    have S1 := cell_put_eq b1
    have S2 := cell_put_eq b2
    have S3 := cell_put_eq b3
    clear h6
    go_wp2_with fail
    refine bodyPost_ret (v := .tuple #[.agg #[.string ⟨#[]⟩, .string ⟨#[]⟩, .string ⟨#[]⟩, .slice none 0 0], .iface 32 (.int .i64 5)]) (by simp [results, Tryd.results8, go_sem, b0, b1, b2, b3]) rfl ?_
    exact ⟨_, by rw [HR.out, HF.out]; rfl, hw1, by rw [HR.out]; exact rdv_nil _ _⟩
end Go.Proofs.YtnekhaacapdmfaaDoor
namespace Go.Proofs.YtnekhaacapdmfaaDoor

theorem parts_cutSub (s : List UInt8) : match cutSub [10] s with
    | none => parts 10 s = [s]
    | some p => parts 10 s = p.1 :: parts 10 p.2 := by
  induction s with
  | nil => rw [cutSub]; simp [parts]
  | cons c r ih =>
    rw [cutSub]
    by_cases hc : c = 10
    · subst hc
      have : ([10] : List UInt8).isPrefixOf (10 :: r) = true := by simp [List.isPrefixOf]
      rw [if_pos this]
      simp [parts]
    · have : ([10] : List UInt8).isPrefixOf (c :: r) = false := by simp [List.isPrefixOf]; exact fun h => hc h.symm
      rw [this]
      simp only [Bool.false_eq_true, if_false]
      cases h : cutSub [10] r with
      | none => rw [h] at ih; simp only [Option.map_none]; simp only at ih; simp [parts, hc, ih]
      | some p => rw [h] at ih; simp only [Option.map_some]; simp only at ih; simp [parts, hc, ih]
/-- what lies behind so many parts -/
def restN : Nat → List UInt8 → List UInt8
  | 0, s => s
  | k + 1, s => match cutSub [10] s with
    | none => []
    | some p => restN k p.2
theorem splitN_parts : ∀ (k : Nat) (s : List UInt8), splitN k s = if (parts 10 s).length ≤ k then parts 10 s else (parts 10 s).take k ++ [restN k s]
  | 0, s => by
    have h := parts_cutSub s
    have : ¬ (parts 10 s).length ≤ 0 := by
      cases hc : cutSub [10] s with
      | none => rw [hc] at h; simp only at h; rw [h]; simp
      | some p => rw [hc] at h; simp only at h; rw [h]; simp
    rw [if_neg this, splitN, restN]; simp
  | k + 1, s => by
    have h := parts_cutSub s
    rw [splitN, restN]
    cases hc : cutSub [10] s with
    | none => rw [hc] at h; simp only at h ⊢; rw [h]; simp
    | some p =>
      rw [hc] at h
      simp only at h ⊢
      rw [h, splitN_parts k p.2]
      by_cases hk : (parts 10 p.2).length ≤ k
      · rw [if_pos hk, if_pos (by simpa using hk)]
      · rw [if_neg hk, if_neg (by simpa using hk)]
        simp
/-- the rest lies where the parts and their line feeds end -/
theorem rest_drop : ∀ (k : Nat) (s : List UInt8), k < (parts 10 s).length → s.drop ((((parts 10 s).take k).map List.length).sum + k) = restN k s ∧ (((parts 10 s).take k).map List.length).sum + k ≤ s.length
  | 0, s, _ => by simp [restN]
  | k + 1, s, hk => by
    have h := parts_cutSub s
    rw [restN]
    cases hc : cutSub [10] s with
    | none => rw [hc] at h; simp only at h; rw [h] at hk; simp at hk
    | some p =>
      rw [hc] at h
      simp only at h ⊢
      rw [h] at hk ⊢
      obtain ⟨i1, i2⟩ := rest_drop k p.2 (by simpa using hk)
      obtain ⟨a, b⟩ := p
      have e := cut_some hc
      simp only [List.take_succ_cons, List.map_cons, List.sum_cons] at i1 i2 ⊢
      constructor
      · rw [← i1, e, show a.length + (((parts 10 b).take k).map List.length).sum + (k + 1) = (a ++ [10]).length + ((((parts 10 b).take k).map List.length).sum + k) by simp; omega, ← List.drop_drop]
        simp
      · rw [e]; simp only [List.length_append, List.length_cons, List.length_nil] at i2 ⊢; omega
/-- fewer than six parts: no mail -/
theorem ref_short {s : List UInt8} (h : (parts 10 s).length < 6) : refM s = none := by
  unfold refM
  rw [splitN_parts, if_pos (by omega)]
  split
  · rename_i he; rw [he] at h; simp at h
  · rfl
/-- six parts or more: the first five, and the rest -/
theorem ref_long {s a b c d e f : List UInt8} {l : List (List UInt8)} (h : parts 10 s = a :: b :: c :: d :: e :: f :: l) :
    splitN 5 s = [a, b, c, d, e, s.drop (a.length + b.length + c.length + d.length + e.length + 5)] ∧ a.length + b.length + c.length + d.length + e.length + 5 ≤ s.length := by
  have hr := rest_drop 5 s (by rw [h]; simp)
  rw [h] at hr
  simp only [List.take_succ_cons, List.take_zero, List.map_cons, List.map_nil, List.sum_cons, List.sum_nil] at hr
  obtain ⟨h1, h2⟩ := hr
  refine ⟨?_, by omega⟩
  rw [splitN_parts, h, if_neg (by simp), ← h1]
  simp only [List.take_succ_cons, List.take_zero, List.cons_append, List.nil_append]
  rw [show a.length + b.length + c.length + d.length + e.length + 5 = a.length + (b.length + (c.length + (d.length + (e.length + 0)))) + 5 by omega]
end Go.Proofs.YtnekhaacapdmfaaDoor
namespace Go.Proofs.YtnekhaacapdmfaaDoor
open Go.RowKit

theorem byte_at {s : ByteArray} {k : Nat} (h : k < s.size) : s.data.toList[k]? = some (s[k]'h) := by
  rw [Array.getElem?_toList, Array.getElem?_eq_getElem h]; rfl
theorem byte_eq {c d : UInt8} {n : Int} (h : ((c.toNat : Int) == n) = true) (hd : (d.toNat : Int) = n) : c = d := by
  have := eq_of_beq h
  exact UInt8.toNat_inj.1 (by omega)
theorem byte_ne {c d : UInt8} {n : Int} (h : ((c.toNat : Int) == n) = false) (hd : (d.toNat : Int) = n) : c ≠ d := by
  rintro rfl
  rw [hd] at h
  simp at h
/-- how far a text has been parted -/
def PartsInv (d : UInt8) (s : ByteArray) (q k : Nat) (L : List ByteArray) : Prop :=
  parts d s.data.toList = L.map (·.data.toList) ++ parts d (s.data.toList.drop q) ∧ ∀ j, q ≤ j → j < k → s.data.toList[j]? ≠ some d
theorem pinv_start (d : UInt8) (s : ByteArray) : PartsInv d s 0 0 [] := ⟨by simp, fun j _ h => absurd h (Nat.not_lt_zero j)⟩
theorem PartsInv.step {d : UInt8} {s : ByteArray} {q k : Nat} {L : List ByteArray} {c : UInt8} (h : PartsInv d s q k L) (hk : s.data.toList[k]? = some c) (hc : c ≠ d) : PartsInv d s q (k + 1) L :=
  ⟨h.1, fun j h1 h2 e => by
    by_cases hj : j = k
    · subst hj; rw [hk] at e; injection e with e; exact hc e
    · exact h.2 j h1 (by omega) e⟩
theorem no_sep {d : UInt8} {s : List UInt8} {q k : Nat} (h : ∀ j, q ≤ j → j < k → s[j]? ≠ some d) : ∀ x ∈ (s.drop q).take (k - q), x ≠ d := by
  rintro x hx rfl
  obtain ⟨i, hi⟩ := List.getElem?_of_mem hx
  rw [List.getElem?_take] at hi
  split at hi
  · rw [List.getElem?_drop] at hi
    exact h (q + i) (by omega) (by omega) hi
  · cases hi
theorem PartsInv.cut {d : UInt8} {s : ByteArray} {q k : Nat} {L : List ByteArray} (h : PartsInv d s q k L) (hq : q ≤ k) (hk : s.data.toList[k]? = some d) : PartsInv d s (k + 1) (k + 1) (L ++ [s.extract q k]) := by
  refine ⟨?_, fun j h1 h2 => by omega⟩
  have e : s.data.toList.drop q = (s.data.toList.drop q).take (k - q) ++ d :: s.data.toList.drop (k + 1) := by
    conv => lhs; rw [← List.take_append_drop (k - q) (s.data.toList.drop q), List.drop_drop, show q + (k - q) = k by omega, drop_eq hk]
  rw [h.1, e, parts_cut _ (no_sep h.2), List.map_append, List.append_assoc]
  simp only [List.map_cons, List.map_nil, List.singleton_append]
  rw [Lib.extract_data]
theorem PartsInv.fin {d : UInt8} {s : ByteArray} {q : Nat} {L : List ByteArray} (h : PartsInv d s q s.size L) : (parts d s.data.toList).map toB = L ++ [s.extract q s.size] := by
  have hl : s.data.toList.length = s.size := (Lib.size_eq s).symm
  have e : (s.data.toList.drop q).take (s.size - q) = s.data.toList.drop q := List.take_of_length_le (by rw [List.length_drop, hl]; exact Nat.le_refl _)
  have hn := no_sep h.2
  rw [e] at hn
  have e2 : toB (s.data.toList.drop q) = s.extract q s.size := by rw [← e, ← Lib.extract_data, toB_of]
  rw [h.1, parts_none hn, List.map_append, List.map_map, map_toB, List.map_cons, List.map_nil, e2]

theorem elemOk_parts : ElemOk Tryd.prog 62 9 1 := elemOk_of Tryd.underlying62 (z := .string ⟨#[]⟩) (b := 16) (by kernel_rfl) rfl (by decide)
set_option maxHeartbeats 1000000 in
set_option maxRecDepth 100000 in
theorem refParts_any (s : ByteArray) (w : World) (hs : s.size ≤ 100000000) :
    Calls Tryd.prog 39 #[.string s] w fun e w' => ∃ r, e = .returned r ∧ Chg Never w w' ∧ Rdv w' (Old w.heap.size) r ((parts 10 s.data.toList).map toB) := by
  go_enter Tryd.func39, Tryd.ntmps39
  go_wp2_with fail
  go_loopw [3, 4, 5] (fun o fr i wr => ∃ (q k : Nat) (L : List ByteArray), fr = .int .i64 q ∧ i = .int .i64 k ∧ q ≤ k ∧ k ≤ s.size ∧ Chg Never w wr ∧ Own 9 wr (Old w.heap.size) o L ∧ L.length ≤ k ∧ Hid (PartsInv 10 s q k L)) (fun _ _ i _ => s.size - (intOf i).toNat)
  case atStart => exact ⟨0, 0, [], rfl, rfl, Nat.le_refl _, Nat.zero_le _, Chg.refl _ _, own_nil _ _ _, Nat.le_refl _, pinv_start _ _⟩
  case round =>
    obtain ⟨q, k, L, rfl, rfl, hqk, hk, hc, hown, hL, hP⟩ := hrel
    by_cases hlt : k < s.size
    · have HB := Lib.hid (byte_at hlt)
      cases hq : (((s[k]'hlt).toNat : Int) == 10) with
      | true =>
        have HC : Hid (PartsInv 10 s (k + 1) (k + 1) (L ++ [s.extract q k])) := hP.out.cut hqk (by rw [HB.out, byte_eq (d := 10) hq rfl])
        have hes : (s.extract q k).size ≤ maxLen := by rw [ByteArray.size_extract]; unfold maxLen; omega
        go_wp2_with (at_builtin; refine wpList_push (by rfl) _ _ 62 (by rfl) elemOk_parts (O := Old w.heap.size) (l := L) (y := s.extract q k) (by rfl) (by rfl) (by simp) hown ⟨rfl, hes⟩ (old_lt hc) (by omega) ?_; intro v' w2 hown2 hc2 _)
        have hc3 := own_step hc hown hc2
        clear hc2 hown hc
        go_wp2_with fail
        go_roundw
        case rel => exact ⟨k + 1, k + 1, _, by go_num, by go_num, Nat.le_refl _, by omega, hc3, hown2, by simp; omega, HC⟩
        case measure => simp [intOf] <;> omega
      | false =>
        have HC : Hid (PartsInv 10 s q (k + 1) L) := hP.out.step HB.out (byte_ne hq rfl)
        go_wp2_with fail
        go_roundw
        case rel => exact ⟨q, k + 1, L, rfl, by go_num, by omega, by omega, hc, hown, by omega, HC⟩
        case measure => simp [intOf] <;> omega
    · obtain rfl : k = s.size := by omega
      have HC := Lib.hid hP.out.fin
      have hes : (s.extract q s.size).size ≤ maxLen := by rw [ByteArray.size_extract]; unfold maxLen; omega
      go_wp2_with (at_builtin; refine wpList_push (by rfl) _ _ 62 (by rfl) elemOk_parts (O := Old w.heap.size) (l := L) (y := s.extract q s.size) (by rfl) (by rfl) (by simp) hown ⟨rfl, hes⟩ (old_lt hc) (by omega) ?_; intro v' w2 hown2 hc2 _)
      have hc3 := own_step hc hown hc2
      clear hc2 hown hc
      go_wp2_with fail
      go_ret
      exact ⟨_, rfl, hc3, by rw [HC.out]; exact hown2.rdv⟩

end Go.Proofs.YtnekhaacapdmfaaDoor
