/-
  PARTS: THE WALK of mail.Parse.; A BUILDER OF ONE'S OWN STAYS while only new blocks come.; BOXES, in plain Lean: the document's reading of a box (a mail at a time) is the program's (by its pieces).; THE WALKS of mail.Box and of the document's BoxText.; TEXTS IN PARTS: small laws on rows of strings (light: no function of layers 1 to 9).; THE WALK of mail.Open.; THE WALK of handstitchsame.Mails at two lists that read alike.; append OF A WHOLE SLICE whose elements lie in blocks of their own, to one of the call's own. No program in sight.
-/
import Derived.Test.YtnekhaacapdmfaaDoorPackMb4
import Derived.Deep.RegionHeld3
import Derived.Deep.Cut
import Derived.Deep.CutRange
import Derived.Test.YtnekhaacapdmfaaDoorPackMb3
import Derived.Test.YtnekhaacapdmfaaDoorPackMb1
import Derived.Test.YtnekhaacapdmfaaDoorPackMb2
import Derived.Deep.QuietTactic
import Derived.BigQuiet
namespace Go.Proofs.YtnekhaacapdmfaaDoor
open Go.RowKit

def noMail : Mail := ⟨ByteArray.empty, ByteArray.empty, ByteArray.empty, []⟩
def parseR (s : ByteArray) : Mail := (parseM s.data.toList).getD noMail
def parseF (s : ByteArray) : Int := if (parseM s.data.toList).isSome = true then 0 else 5
theorem cell_put_eq {w : World} {p : Addr} {v : Value} (h : w.cell? p = some v) : w.setCell p v = w := by
  have e : (w.setCell p v).heap = w.heap := by
    unfold World.setCell World.cell? at *
    apply Array.ext_getElem?
    intro i
    simp only [Array.getElem?_modify]
    by_cases hi : p.block = i
    · subst hi
      rw [if_pos rfl]
      cases hb : w.heap[p.block]? with
      | none => rfl
      | some ob =>
        rw [hb] at h
        cases ob with
        | cells c e f =>
          simp only at h
          by_cases hs : p.spot.isSome = true
          · rw [if_pos hs] at h; cases h
          · rw [if_neg hs] at h
            simp only [Option.map_some, hs]
            congr 2
            apply Array.ext_getElem?
            intro j
            simp only [Bool.false_eq_true, if_false]
            rw [Array.getElem?_setIfInBounds]
            by_cases hj : p.off = j
            · subst hj
              rw [if_pos rfl]
              split
              · exact h.symm
              · rw [Array.getElem?_eq_none (by omega)]
            · rw [if_neg hj]
        | _ => rfl
    · rw [if_neg hi]
  have : w.setCell p v = { w with heap := (w.setCell p v).heap } := rfl
  rw [this, e]
theorem splitN_len : ∀ (k : Nat) (s : List UInt8), (splitN k s).length ≤ k + 1
  | 0, s => by rw [splitN]; simp
  | k + 1, s => by
    rw [splitN]
    cases cutSub [10] s with
    | none => simp
    | some p => have := splitN_len k p.2; simp; omega
theorem splitN_small : ∀ (k : Nat) (s : List UInt8), ∀ x ∈ splitN k s, x.length ≤ s.length
  | 0, s => by rw [splitN]; simp
  | k + 1, s => by
    rw [splitN]
    cases h : cutSub [10] s with
    | none => simp
    | some p =>
      obtain ⟨a, b⟩ := p
      have e := cut_some h
      intro x hx
      rw [e]
      simp only [List.length_append]
      rcases List.mem_cons.1 hx with rfl | hx
      · omega
      · have := splitN_small k b x hx; omega
theorem dec_fine {s : ByteArray} (h : decFault s = 0) : (decodeR s).length ≤ 40000 ∧ encL (decodeR s) = s.data.toList := by
  have h' := h
  unfold decFault at h
  split at h
  · rename_i q
    unfold decodeR
    rw [if_pos h']
    exact q
  · cases h
theorem field_len (p q s : List UInt8) : (fieldL p q s).length ≤ s.length := by
  unfold fieldL
  have h1 : ((dropPre p s).getD s).length ≤ s.length := by
    unfold dropPre
    split
    · show (s.drop _).length ≤ _; rw [List.length_drop]; omega
    · exact Nat.le_refl _
  refine Nat.le_trans ?_ h1
  unfold dropSuf
  split
  · show (List.take _ _).length ≤ _; rw [List.length_take]; omega
  · exact Nat.le_refl _
/-- the library's row of parts reads as the parts -/
theorem rdv_cellsOf {w : World} {g N n : Nat} {e : TypeId} {fr : Nat × Nat} {l : List ByteArray} (h : w.heap[g]? = some (.cells (Lib.cellsOf l N) e fr)) (hn : n = l.length) (hN : l.length ≤ N) (hm : N ≤ maxLen) (hs : ∀ x ∈ l, x.size ≤ maxLen) :
    Rdv w Never (.slice (some ⟨g, 0, none⟩) n N) l := by
  subst hn
  refine ⟨some ⟨g, 0, none⟩, N, rfl, hN, hm, ?_⟩
  intro i x hx
  refine ⟨g, 0, [.string x], rfl, fun h => h, ?_, rfl, hs x (List.mem_of_getElem? hx)⟩
  intro j u hj
  match j, hj with
  | 0, hj =>
    simp only [List.getElem?_cons_zero, Option.some.injEq] at hj
    subst hj
    have hi := (List.getElem?_eq_some_iff.1 hx).1
    simp only [World.cell?, h, Lib.cellsOf]
    show _ = _
    rw [show 0 + i * Dat.n ByteArray + 0 = i by show 0 + i * 1 + 0 = i; omega]
    simp only [List.getElem?_toArray]
    rw [List.getElem?_append_left (by simpa using hi), List.getElem?_map, hx]; rfl
/-- strings.SplitN(s, "\n", 6) -/
theorem pieces_eq (s : ByteArray) : Lib.splitB ⟨#[10]⟩ 0 (min 6 (s.size + 1) - 1) s = (splitN 5 s.data.toList).map toB := by
  have h := Lib.splitB_data ⟨#[10]⟩ 0 (min 6 (s.size + 1) - 1) s
  have h2 := splitN_6 s.data.toList
  rw [← Lib.size_eq] at h2
  rw [show (⟨#[10]⟩ : ByteArray).data.toList = [10] from rfl, h2] at h
  rw [← h, List.map_map, map_toB]

theorem mkeep {w2 wr : World} {o : Obj} {p q r : Addr} {a b c : Value} (h : Chg Never w2 wr ∧ wr.cell? p = some a ∧ wr.cell? q = some b ∧ wr.cell? r = some c) :
    Chg Never w2 (wr.alloc o) ∧ (wr.alloc o).cell? p = some a ∧ (wr.alloc o).cell? q = some b ∧ (wr.alloc o).cell? r = some c :=
  have k := (Chg.refl Never wr).alloc o
  ⟨h.1.alloc o, k.cellNever h.2.1, k.cellNever h.2.2.1, k.cellNever h.2.2.2⟩
theorem mfin {w2 : World} {o : Obj} {p q r : Addr} {a b c : Value} (c0 : w2.cell? p = some a) (c1 : w2.cell? q = some b) (c2 : w2.cell? r = some c) :
    Chg Never w2 (w2.alloc o).drew ∧ (w2.alloc o).drew.cell? p = some a ∧ (w2.alloc o).drew.cell? q = some b ∧ (w2.alloc o).drew.cell? r = some c :=
  have k := ((Chg.refl Never w2).alloc o).drew
  ⟨k, k.cellNever c0, k.cellNever c1, k.cellNever c2⟩
theorem put4 {w : World} {k : Nat} {a b c d x0 x1 x2 x3 : Value} (b0 : w.cell? ⟨k, 0, none⟩ = some x0) (b1 : w.cell? ⟨k, 1, none⟩ = some x1) (b2 : w.cell? ⟨k, 2, none⟩ = some x2) (b3 : w.cell? ⟨k, 3, none⟩ = some x3) :
    let W := (((w.setCell ⟨k, 0, none⟩ a).setCell ⟨k, 1, none⟩ b).setCell ⟨k, 2, none⟩ c).setCell ⟨k, 3, none⟩ d
    W.cell? ⟨k, 0, none⟩ = some a ∧ W.cell? ⟨k, 1, none⟩ = some b ∧ W.cell? ⟨k, 2, none⟩ = some c ∧ W.cell? ⟨k, 3, none⟩ = some d := by
  have n01 : (⟨k, 0, none⟩ : Addr) ≠ ⟨k, 1, none⟩ := by simp
  have n02 : (⟨k, 0, none⟩ : Addr) ≠ ⟨k, 2, none⟩ := by simp
  have n03 : (⟨k, 0, none⟩ : Addr) ≠ ⟨k, 3, none⟩ := by simp
  have n12 : (⟨k, 1, none⟩ : Addr) ≠ ⟨k, 2, none⟩ := by simp
  have n13 : (⟨k, 1, none⟩ : Addr) ≠ ⟨k, 3, none⟩ := by simp
  have n23 : (⟨k, 2, none⟩ : Addr) ≠ ⟨k, 3, none⟩ := by simp
  intro W
  refine ⟨?_, ?_, ?_, ?_⟩
  · rw [World.cell?_setCell_other _ _ _ _ n03.symm, World.cell?_setCell_other _ _ _ _ n02.symm, World.cell?_setCell_other _ _ _ _ n01.symm]
    exact World.cell?_setCell_same _ _ _ b0
  · rw [World.cell?_setCell_other _ _ _ _ n13.symm, World.cell?_setCell_other _ _ _ _ n12.symm]
    exact World.cell?_setCell_same _ _ _ (by rw [World.cell?_setCell_other _ _ _ _ n01]; exact b1)
  · rw [World.cell?_setCell_other _ _ _ _ n23.symm]
    exact World.cell?_setCell_same _ _ _ (by rw [World.cell?_setCell_other _ _ _ _ n12, World.cell?_setCell_other _ _ _ _ n02]; exact b2)
  · exact World.cell?_setCell_same _ _ _ (by rw [World.cell?_setCell_other _ _ _ _ n23, World.cell?_setCell_other _ _ _ _ n13, World.cell?_setCell_other _ _ _ _ n03]; exact b3)

set_option maxHeartbeats 1000000 in
set_option maxRecDepth 100000 in
theorem Parse_any (s : ByteArray) (w : World) (hs : s.size ≤ 10000000) (m : Int) (hm : w.cell? ⟨1, 0, none⟩ = some (.int .i64 m)) :
    Calls Tryd.prog 8 #[.string s] w fun e w' => ∃ v, e = .returned (.tuple #[mailV (parseR s) v, errV (parseF s)]) ∧ Chg Never w w' ∧ Rdv w' (Old w.heap.size) v (parseR s).body := by
  have hp := pieces_eq s
  have hpl : Hid ((Lib.splitB ⟨#[10]⟩ 0 (min 6 (s.size + 1) - 1) s).length ≤ min 6 (s.size + 1)) := by
    have := Lib.splitB_length_le ⟨#[10]⟩ 0 (min 6 (s.size + 1) - 1) s
    unfold Hid; omega
  go_enter Tryd.func8, Tryd.ntmps8
  go_wp2_with fail
  obtain ⟨hA, b0, b1, b2, b3⟩ := box1_mail w 24 ⟨#[]⟩ ⟨#[]⟩ ⟨#[]⟩ (.slice none 0 0) _ rfl
  have hfz : ∀ k, (w.alloc (.cells #[.string ⟨#[]⟩, .string ⟨#[]⟩, .string ⟨#[]⟩, .slice none 0 0] 24)).frozen? ⟨w.heap.size, k, none⟩ = false := fun k => by
    simp only [World.frozen?]
    rw [heap_alloc_new]
    simp
  have hB0 : w.heap.size < (w.alloc (.cells #[.string ⟨#[]⟩, .string ⟨#[]⟩, .string ⟨#[]⟩, .slice none 0 0] 24)).heap.size := by simp
  generalize w.alloc (.cells #[.string ⟨#[]⟩, .string ⟨#[]⟩, .string ⟨#[]⟩, .slice none 0 0] 24) = wA at hA b0 b1 b2 b3 hfz hB0 ⊢
  refine (Tryd.strings_SplitN s ⟨#[10]⟩ 6 m _ (by omega) (hA.cellNever hm) (by decide) (by decide) (by decide)).mono ?_
  rintro e w1 ⟨rfl, rfl⟩
  have hnew := heap_alloc_new wA (.cells (Lib.cellsOf (Lib.splitB ⟨#[10]⟩ 0 (min 6 (s.size + 1) - 1) s) (min 6 (s.size + 1))) 9)
  have hw1 : Chg Never w (wA.alloc (.cells (Lib.cellsOf (Lib.splitB ⟨#[10]⟩ 0 (min 6 (s.size + 1) - 1) s) (min 6 (s.size + 1))) 9)) := hA.alloc _
  have hc1 : Chg Never wA (wA.alloc (.cells (Lib.cellsOf (Lib.splitB ⟨#[10]⟩ 0 (min 6 (s.size + 1) - 1) s) (min 6 (s.size + 1))) 9)) := (Chg.refl Never wA).alloc _
  rw [hp] at hnew hw1 hc1 hpl ⊢
  have hpz : ∀ x ∈ (splitN 5 s.data.toList).map toB, x.size ≤ 10000000 := by
    intro x hx
    obtain ⟨y, hy, rfl⟩ := List.mem_map.1 hx
    have := splitN_small 5 _ y hy
    rw [toB_size]
    rw [← Lib.size_eq] at this
    omega
  have hrd := rdv_cellsOf hnew (n := ((splitN 5 s.data.toList).map toB).length) rfl hpl.out (by unfold maxLen; omega) (fun x hx => by have := hpz x hx; unfold maxLen; omega)
  obtain ⟨N, hN⟩ : ∃ N, min 6 (s.size + 1) = N := ⟨_, rfl⟩
  rw [hN] at hrd hw1 hc1 hpl ⊢
  have hN6 : N ≤ 6 := by omega
  generalize wA.alloc (.cells (Lib.cellsOf ((splitN 5 s.data.toList).map toB) N) 9) = wB at hrd hw1 hc1 ⊢
  have b0 := hc1.cellNever b0
  have b1 := hc1.cellNever b1
  have b2 := hc1.cellNever b2
  have b3 := hc1.cellNever b3
  have hfz : ∀ k, wB.frozen? ⟨w.heap.size, k, none⟩ = false := fun k => by rw [hc1.frozen hB0 (fun x => x)]; exact hfz k
  have hB0 : w.heap.size < wB.heap.size := Nat.lt_of_lt_of_le hB0 hc1.size
  clear hnew hN hA hc1 hp
  have hlen := splitN_len 5 s.data.toList
  obtain ⟨P, hP⟩ : ∃ P, splitN 5 s.data.toList = P := ⟨_, rfl⟩
  have HP := Lib.hid hP
  rw [hP] at hrd hpl hpz hlen ⊢
  clear hP
  by_cases h6 : P.length = 6
  · obtain ⟨a, b, c, d, e, z, rfl⟩ : ∃ a b c d e z, P = [a, b, c, d, e, z] := by
      match P, h6 with
      | [a, b, c, d, e, z], _ => exact ⟨a, b, c, d, e, z, rfl⟩
    clear h6 hlen
    have za := hpz (toB a) (by simp)
    have zb := hpz (toB b) (by simp)
    have zc := hpz (toB c) (by simp)
    have zz := hpz (toB z) (by simp)
    obtain ⟨aP, capP, hsl, _, _, hel⟩ := rdv_slice hrd
    simp only [Value.slice.injEq] at hsl
    obtain ⟨rfl, _, rfl⟩ := hsl
    obtain ⟨q1, q2, hq, _, _, c0, _⟩ := elems_str hel (i := 0) (x := toB a) rfl
    simp only [Option.some.injEq, Addr.mk.injEq, and_true] at hq
    obtain ⟨rfl, rfl⟩ := hq
    obtain ⟨q1, q2, hq, _, _, c1, _⟩ := elems_str hel (i := 1) (x := toB b) rfl
    simp only [Option.some.injEq, Addr.mk.injEq, and_true] at hq
    obtain ⟨rfl, rfl⟩ := hq
    obtain ⟨q1, q2, hq, _, _, c2, _⟩ := elems_str hel (i := 2) (x := toB c) rfl
    simp only [Option.some.injEq, Addr.mk.injEq, and_true] at hq
    obtain ⟨rfl, rfl⟩ := hq
    obtain ⟨q1, q2, hq, _, _, c5, _⟩ := elems_str hel (i := 5) (x := toB z) rfl
    simp only [Option.some.injEq, Addr.mk.injEq, and_true] at hq
    obtain ⟨rfl, rfl⟩ := hq
    simp only [Nat.zero_add] at c0 c1 c2 c5
    obtain ⟨PB, hPB⟩ : ∃ PB, wA.heap.size = PB := ⟨_, rfl⟩
    rw [hPB] at c0 c1 c2 c5 ⊢
    clear hPB
    clear hel hrd hpl
    go_wp2_with fail
    refine (Decode_any (toB z) _ (by omega) m (hw1.cellNever hm)).mono ?_
    rintro e' w2 ⟨r2, rfl, hc2, hr2⟩
    have hw2 := hw1.trans hc2
    have b0 := hc2.cellNever b0
    have b1 := hc2.cellNever b1
    have b2 := hc2.cellNever b2
    have b3 := hc2.cellNever b3
    have c0 := hc2.cellNever c0
    have c1 := hc2.cellNever c1
    have c2 := hc2.cellNever c2
    have hfz : ∀ k, w2.frozen? ⟨w.heap.size, k, none⟩ = false := fun k => by rw [hc2.frozen hB0 (fun x => x)]; exact hfz k
    have hBo := hB0
    have hB0 : w.heap.size < w2.heap.size := Nat.lt_of_lt_of_le hB0 hc2.size
    have hr2o := hr2
    have hr2 : Rdv w2 (Old w.heap.size) r2 _ := hr2.sub (fun k _ hk => Nat.lt_of_lt_of_le hk hw1.size)
    clear hc2 c5
    by_cases hf : decFault (toB z) = 0
    · have hdR : decodeR (toB z) = decL z := by unfold decodeR; rw [if_pos hf, toB_data]
      obtain ⟨hk1, hk2⟩ := dec_fine hf
      rw [hdR, toB_data] at hk2
      rw [hdR] at hk1 hr2 hr2o
      have hcond : Hid (encL (decL z) = z ∧ (decL z).length ≤ 40000) := ⟨hk2, hk1⟩
      have F1 : ∀ wx, Calls Tryd.prog 25 #[.string (toB a), .string ⟨#[70, 114, 111, 109, 58, 32]⟩, .string ⟨#[]⟩] wx fun e w' => e = .returned (.string (toB (fieldL fromW [] a))) ∧ w' = wx := fun wx => by
        have := field_any (toB a) (toB fromW) (toB []) wx (by omega)
        rw [toB_data, toB_data, toB_data] at this
        exact this
      have F2 : ∀ wx, Calls Tryd.prog 25 #[.string (toB b), .string ⟨#[83, 117, 98, 106, 101, 99, 116, 58, 32]⟩, .string ⟨#[]⟩] wx fun e w' => e = .returned (.string (toB (fieldL subjW [] b))) ∧ w' = wx := fun wx => by
        have := field_any (toB b) (toB subjW) (toB []) wx (by omega)
        rw [toB_data, toB_data, toB_data] at this
        exact this
      have F3 : ∀ wx, Calls Tryd.prog 25 #[.string (toB c), .string ⟨#[77, 101, 115, 115, 97, 103, 101, 45, 73, 68, 58, 32, 60]⟩, .string ⟨#[62]⟩] wx fun e w' => e = .returned (.string (toB (fieldL idW [62] c))) ∧ w' = wx := fun wx => by
        have := field_any (toB c) (toB idW) (toB [62]) wx (by omega)
        rw [toB_data, toB_data, toB_data] at this
        exact this
      have fl1 := field_len fromW [] a
      have fl2 := field_len subjW [] b
      have fl3 := field_len idW [62] c
      rw [toB_size] at za zb zc
      rw [hf, errV_zero]
      clear hf hk1 hk2 hdR
      go_wp2_with fail
      obtain ⟨A, hA1⟩ : ∃ A, toB a = A := ⟨_, rfl⟩
      obtain ⟨B, hB1⟩ : ∃ B, toB b = B := ⟨_, rfl⟩
      obtain ⟨C, hC1⟩ : ∃ C, toB c = C := ⟨_, rfl⟩
      obtain ⟨X, hX1⟩ : ∃ X, toB (fieldL fromW [] a) = X := ⟨_, rfl⟩
      obtain ⟨Y, hY1⟩ : ∃ Y, toB (fieldL subjW [] b) = Y := ⟨_, rfl⟩
      obtain ⟨Z, hZ1⟩ : ∃ Z, toB (fieldL idW [62] c) = Z := ⟨_, rfl⟩
      obtain ⟨r2a, r2c, rfl, _, _, _⟩ := rdv_slice hr2
      obtain ⟨L2, hL2⟩ : ∃ L2, (decL z).length = L2 := ⟨_, rfl⟩
      rw [hL2] at hr2 hr2o ⊢
      have HX1 := Lib.hid hX1
      have HY1 := Lib.hid hY1
      have HZ1 := Lib.hid hZ1
      rw [hA1] at c0
      rw [hB1] at c1
      rw [hC1] at c2
      rw [hA1, hX1] at F1
      rw [hB1, hY1] at F2
      rw [hC1, hZ1] at F3
      clear hA1 hB1 hC1 hX1 hY1 hZ1 hL2
      obtain ⟨gA, g0, g1, g2, g3⟩ := box1_mail w2 24 X Y Z (.slice r2a L2 r2c) _ rfl
      go_upto_region 7 with fail
      go_cut [7] from 28 to 56 (fun p wx => ∃ k, p = .pointer (some ⟨k, 0, none⟩) ∧ w2.heap.size ≤ k ∧ Hid (Chg Never w2 wx) ∧ wx.cell? ⟨k, 0, none⟩ = some (.string X) ∧ wx.cell? ⟨k, 1, none⟩ = some (.string Y) ∧ wx.cell? ⟨k, 2, none⟩ = some (.string Z) ∧ wx.cell? ⟨k, 3, none⟩ = some (.slice r2a L2 r2c))
      case first =>
        refine wp_region_held_drew (S := fun w' => Chg Never w2 w' ∧ w'.cell? ⟨PB, 0, none⟩ = some (.string A) ∧ w'.cell? ⟨PB, 1, none⟩ = some (.string B) ∧ w'.cell? ⟨PB, 2, none⟩ = some (.string C)) (by kernel_rfl) ⟨(Chg.refl Never w2).drew, c0, c1, c2⟩ (fun hH => ?_)
        refine' wpAnyH_take (i := 0) ?hi0 (by kernel_rfl) (by kernel_rfl) (by kernel_rfl) ?hQ0 (Or.inl ⟨?hw0, ?hy0⟩) (by assumption) ?_
        case hi0 => (simp only [List.getElem?_toArray, List.getElem?_cons_succ, List.getElem?_cons_zero]; rfl)
        case hQ0 => exact fun _ _ _ h => h
        case hw0 => rfl
        case hy0 => (intro w' hSw; (try dsimp only at hSw); go_simp; all_goals with_reducible rfl)
        try simp only [Act.put, List.setIfInBounds_toArray, List.set_cons_zero, List.set_cons_succ]
        refine' wpAnyH_take (i := 1) ?hi1 (by kernel_rfl) (by kernel_rfl) (by kernel_rfl) ?hQ1 (Or.inl ⟨?hw1, ?hy1⟩) (by assumption) ?_
        case hi1 => (simp only [List.getElem?_toArray, List.getElem?_cons_succ, List.getElem?_cons_zero]; rfl)
        case hQ1 => exact fun _ _ _ h => h
        case hw1 => rfl
        case hy1 => (intro w' hSw; (try dsimp only at hSw); go_simp; all_goals with_reducible rfl)
        try simp only [Act.put, List.setIfInBounds_toArray, List.set_cons_zero, List.set_cons_succ]
        refine' wpAnyH_take (i := 2) ?hi2 (by kernel_rfl) (by kernel_rfl) (by kernel_rfl) ?hQ2 (Or.inl ⟨?hw2, ?hy2⟩) (by assumption) ?_
        case hi2 => (simp only [List.getElem?_toArray, List.getElem?_cons_succ, List.getElem?_cons_zero]; rfl)
        case hQ2 => exact fun _ _ _ h => h
        case hw2 => rfl
        case hy2 => (intro w' hSw; (try dsimp only at hSw); go_simp; all_goals with_reducible rfl)
        try simp only [Act.put, List.setIfInBounds_toArray, List.set_cons_zero, List.set_cons_succ]
        refine' wpAnyH_take (i := 4) ?hi4 (by kernel_rfl) (by kernel_rfl) (by kernel_rfl) ?hQ4 (Or.inl ⟨?hw4, ?hy4⟩) (by assumption) ?_
        case hi4 => (simp only [List.getElem?_toArray, List.getElem?_cons_succ, List.getElem?_cons_zero]; rfl)
        case hQ4 => exact fun _ _ _ h => h
        case hw4 => rfl
        case hy4 => (intro w' hSw; (try dsimp only at hSw); go_simp; all_goals with_reducible rfl)
        try simp only [Act.put, List.setIfInBounds_toArray, List.set_cons_zero, List.set_cons_succ]
        refine' wpAnyH_take (i := 5) ?hi5 (by kernel_rfl) (by kernel_rfl) (by kernel_rfl) ?hQ5 (Or.inl ⟨?hw5, ?hy5⟩) (by assumption) ?_
        case hi5 => (simp only [List.getElem?_toArray, List.getElem?_cons_succ, List.getElem?_cons_zero]; rfl)
        case hQ5 => exact fun _ _ _ h => h
        case hw5 => rfl
        case hy5 => (intro w' hSw; (try dsimp only at hSw); go_simp; all_goals with_reducible rfl)
        try simp only [Act.put, List.setIfInBounds_toArray, List.set_cons_zero, List.set_cons_succ]
        refine' wpAnyH_take (i := 6) ?hi6 (by kernel_rfl) (by kernel_rfl) (by kernel_rfl) ?hQ6 (Or.inl ⟨?hw6, ?hy6⟩) (by assumption) ?_
        case hi6 => (simp only [List.getElem?_toArray, List.getElem?_cons_succ, List.getElem?_cons_zero]; rfl)
        case hQ6 => exact fun _ _ _ h => h
        case hw6 => rfl
        case hy6 => (intro w' hSw; (try dsimp only at hSw); go_simp; all_goals with_reducible rfl)
        try simp only [Act.put, List.setIfInBounds_toArray, List.set_cons_zero, List.set_cons_succ]
        refine' wpAnyH_take (i := 8) ?hi8 (by kernel_rfl) (by kernel_rfl) (by kernel_rfl) ?hQ8 (Or.inl ⟨?hw8, ?hy8⟩) (by assumption) ?_
        case hi8 => (simp only [List.getElem?_toArray, List.getElem?_cons_succ, List.getElem?_cons_zero]; rfl)
        case hQ8 => exact fun _ _ _ h => h
        case hw8 => rfl
        case hy8 => (intro w' hSw; (try dsimp only at hSw); go_simp; all_goals with_reducible rfl)
        try simp only [Act.put, List.setIfInBounds_toArray, List.set_cons_zero, List.set_cons_succ]
        refine' wpAnyH_take (i := 9) ?hi9 (by kernel_rfl) (by kernel_rfl) (by kernel_rfl) ?hQ9 (Or.inl ⟨?hw9, ?hy9⟩) (by assumption) ?_
        case hi9 => (simp only [List.getElem?_toArray, List.getElem?_cons_succ, List.getElem?_cons_zero]; rfl)
        case hQ9 => exact fun _ _ _ h => h
        case hw9 => rfl
        case hy9 => (intro w' hSw; (try dsimp only at hSw); go_simp; all_goals with_reducible rfl)
        try simp only [Act.put, List.setIfInBounds_toArray, List.set_cons_zero, List.set_cons_succ]
        refine' wpAnyH_take (i := 10) ?hi10 (by kernel_rfl) (by kernel_rfl) (by kernel_rfl) ?hQ10 (Or.inl ⟨?hw10, ?hy10⟩) (by assumption) ?_
        case hi10 => (simp only [List.getElem?_toArray, List.getElem?_cons_succ, List.getElem?_cons_zero]; rfl)
        case hQ10 => exact fun _ _ _ h => h
        case hw10 => rfl
        case hy10 => (intro w' hSw; (try dsimp only at hSw); go_simp; all_goals with_reducible rfl)
        try simp only [Act.put, List.setIfInBounds_toArray, List.set_cons_zero, List.set_cons_succ]
        refine' wpAnyH_take (i := 12) ?hi12 (by kernel_rfl) (by kernel_rfl) (by kernel_rfl) ?hQ12 (Or.inl ⟨?hw12, ?hy12⟩) (by assumption) ?_
        case hi12 => (simp only [List.getElem?_toArray, List.getElem?_cons_succ, List.getElem?_cons_zero]; rfl)
        case hQ12 => exact fun _ _ _ h => h
        case hw12 => rfl
        case hy12 => (intro w' hSw; (try dsimp only at hSw); go_simp; all_goals with_reducible rfl)
        try simp only [Act.put, List.setIfInBounds_toArray, List.set_cons_zero, List.set_cons_succ]
        refine wpAnyH_ready (rs := [3, 14]) (by kernel_rfl) (by simp) ?_
        refine AllReadyH.cons rfl (fun K hK => ?_) (AllReadyH.cons rfl (fun K hK => ?_) AllReadyH.nil)
        · go_simp
          go_at_call 25
          refine (F1 _).mono ?_
          rintro e wq ⟨rfl, rfl⟩
          try go_wp2_with fail
          refine hK.out _ _ ?_ (fun hH => ?_)
          · assumption
          clear hK K
          try simp only [Act.put, List.setIfInBounds_toArray, List.set_cons_zero, List.set_cons_succ]
          refine wpAnyH_ready (rs := [7, 14]) (by kernel_rfl) (by simp) ?_
          refine AllReadyH.cons rfl (fun K hK => ?_) (AllReadyH.cons rfl (fun K hK => ?_) AllReadyH.nil)
          · go_simp
            go_at_call 25
            refine (F2 _).mono ?_
            rintro e wq ⟨rfl, rfl⟩
            try go_wp2_with fail
            refine hK.out _ _ ?_ (fun hH => ?_)
            · assumption
            clear hK K
            try simp only [Act.put, List.setIfInBounds_toArray, List.set_cons_zero, List.set_cons_succ]
            refine wpAnyH_ready (rs := [11, 14]) (by kernel_rfl) (by simp) ?_
            refine AllReadyH.cons rfl (fun K hK => ?_) (AllReadyH.cons rfl (fun K hK => ?_) AllReadyH.nil)
            · go_simp
              go_at_call 25
              refine (F3 _).mono ?_
              rintro e wq ⟨rfl, rfl⟩
              try go_wp2_with fail
              refine hK.out _ _ ?_ (fun hH => ?_)
              · assumption
              clear hK K
              try simp only [Act.put, List.setIfInBounds_toArray, List.set_cons_zero, List.set_cons_succ]
              refine' wpAnyH_take (i := 13) ?hi13 (by kernel_rfl) (by kernel_rfl) (by kernel_rfl) ?hQ13 (Or.inl ⟨?hw13, ?hy13⟩) (by assumption) ?_
              case hi13 => (simp only [List.getElem?_toArray, List.getElem?_cons_succ, List.getElem?_cons_zero]; rfl)
              case hQ13 => exact fun _ _ _ h => h
              case hw13 => rfl
              case hy13 => (intro w' hSw; (try dsimp only at hSw); go_simp; all_goals with_reducible rfl)
              try simp only [Act.put, List.setIfInBounds_toArray, List.set_cons_zero, List.set_cons_succ]
              refine wpAnyH_ready (rs := [14]) (by kernel_rfl) (by simp) ?_
              refine AllReadyH.cons rfl (fun K hK => ?_) AllReadyH.nil
              go_simp
              refine hK.out _ _ ?_ (fun hH => ?_)
              · exact mkeep (by assumption)
              clear hK K
              try simp only [Act.put, List.setIfInBounds_toArray, List.set_cons_zero, List.set_cons_succ]
              refine wpAnyH_ready (rs := [15]) (by kernel_rfl) (by simp) ?_
              refine AllReadyH.cons rfl (fun K hK => ?_) AllReadyH.nil
              go_simp
              refine hK.out _ _ ?_ (fun hH => ?_)
              · exact mfin c0 c1 c2
              clear hK K
              try simp only [Act.put, List.setIfInBounds_toArray, List.set_cons_zero, List.set_cons_succ]
              refine wpAnyH_done (by kernel_rfl) ?_ _
              go_wp2_with fail
              go_meet
              exact ⟨_, rfl, Nat.le_refl _, gA.drew, g0, g1, g2, g3⟩
            · go_simp
              refine hK.out _ _ ?_ (fun hH => ?_)
              · exact mkeep (by assumption)
              clear hK K
              try simp only [Act.put, List.setIfInBounds_toArray, List.set_cons_zero, List.set_cons_succ]
              refine wpAnyH_ready (rs := [11]) (by kernel_rfl) (by simp) ?_
              refine AllReadyH.cons rfl (fun K hK => ?_) AllReadyH.nil
              go_simp
              go_at_call 25
              refine (F3 _).mono ?_
              rintro e wq ⟨rfl, rfl⟩
              try go_wp2_with fail
              refine hK.out _ _ ?_ (fun hH => ?_)
              · assumption
              clear hK K
              try simp only [Act.put, List.setIfInBounds_toArray, List.set_cons_zero, List.set_cons_succ]
              refine' wpAnyH_take (i := 13) ?hi13 (by kernel_rfl) (by kernel_rfl) (by kernel_rfl) ?hQ13 (Or.inl ⟨?hw13, ?hy13⟩) (by assumption) ?_
              case hi13 => (simp only [List.getElem?_toArray, List.getElem?_cons_succ, List.getElem?_cons_zero]; rfl)
              case hQ13 => exact fun _ _ _ h => h
              case hw13 => rfl
              case hy13 => (intro w' hSw; (try dsimp only at hSw); go_simp; all_goals with_reducible rfl)
              try simp only [Act.put, List.setIfInBounds_toArray, List.set_cons_zero, List.set_cons_succ]
              refine wpAnyH_ready (rs := [15]) (by kernel_rfl) (by simp) ?_
              refine AllReadyH.cons rfl (fun K hK => ?_) AllReadyH.nil
              go_simp
              refine hK.out _ _ ?_ (fun hH => ?_)
              · exact mfin c0 c1 c2
              clear hK K
              try simp only [Act.put, List.setIfInBounds_toArray, List.set_cons_zero, List.set_cons_succ]
              refine wpAnyH_done (by kernel_rfl) ?_ _
              go_wp2_with fail
              go_meet
              exact ⟨_, rfl, Nat.le_refl _, gA.drew, g0, g1, g2, g3⟩
          · go_simp
            refine hK.out _ _ ?_ (fun hH => ?_)
            · exact mkeep (by assumption)
            clear hK K
            try simp only [Act.put, List.setIfInBounds_toArray, List.set_cons_zero, List.set_cons_succ]
            refine wpAnyH_ready (rs := [7]) (by kernel_rfl) (by simp) ?_
            refine AllReadyH.cons rfl (fun K hK => ?_) AllReadyH.nil
            go_simp
            go_at_call 25
            refine (F2 _).mono ?_
            rintro e wq ⟨rfl, rfl⟩
            try go_wp2_with fail
            refine hK.out _ _ ?_ (fun hH => ?_)
            · assumption
            clear hK K
            try simp only [Act.put, List.setIfInBounds_toArray, List.set_cons_zero, List.set_cons_succ]
            refine wpAnyH_ready (rs := [11]) (by kernel_rfl) (by simp) ?_
            refine AllReadyH.cons rfl (fun K hK => ?_) AllReadyH.nil
            go_simp
            go_at_call 25
            refine (F3 _).mono ?_
            rintro e wq ⟨rfl, rfl⟩
            try go_wp2_with fail
            refine hK.out _ _ ?_ (fun hH => ?_)
            · assumption
            clear hK K
            try simp only [Act.put, List.setIfInBounds_toArray, List.set_cons_zero, List.set_cons_succ]
            refine' wpAnyH_take (i := 13) ?hi13 (by kernel_rfl) (by kernel_rfl) (by kernel_rfl) ?hQ13 (Or.inl ⟨?hw13, ?hy13⟩) (by assumption) ?_
            case hi13 => (simp only [List.getElem?_toArray, List.getElem?_cons_succ, List.getElem?_cons_zero]; rfl)
            case hQ13 => exact fun _ _ _ h => h
            case hw13 => rfl
            case hy13 => (intro w' hSw; (try dsimp only at hSw); go_simp; all_goals with_reducible rfl)
            try simp only [Act.put, List.setIfInBounds_toArray, List.set_cons_zero, List.set_cons_succ]
            refine wpAnyH_ready (rs := [15]) (by kernel_rfl) (by simp) ?_
            refine AllReadyH.cons rfl (fun K hK => ?_) AllReadyH.nil
            go_simp
            refine hK.out _ _ ?_ (fun hH => ?_)
            · exact mfin c0 c1 c2
            clear hK K
            try simp only [Act.put, List.setIfInBounds_toArray, List.set_cons_zero, List.set_cons_succ]
            refine wpAnyH_done (by kernel_rfl) ?_ _
            go_wp2_with fail
            go_meet
            exact ⟨_, rfl, Nat.le_refl _, gA.drew, g0, g1, g2, g3⟩
        · go_simp
          refine hK.out _ _ ?_ (fun hH => ?_)
          · exact mkeep (by assumption)
          clear hK K
          try simp only [Act.put, List.setIfInBounds_toArray, List.set_cons_zero, List.set_cons_succ]
          refine wpAnyH_ready (rs := [3]) (by kernel_rfl) (by simp) ?_
          refine AllReadyH.cons rfl (fun K hK => ?_) AllReadyH.nil
          go_simp
          go_at_call 25
          refine (F1 _).mono ?_
          rintro e wq ⟨rfl, rfl⟩
          try go_wp2_with fail
          refine hK.out _ _ ?_ (fun hH => ?_)
          · assumption
          clear hK K
          try simp only [Act.put, List.setIfInBounds_toArray, List.set_cons_zero, List.set_cons_succ]
          refine wpAnyH_ready (rs := [7]) (by kernel_rfl) (by simp) ?_
          refine AllReadyH.cons rfl (fun K hK => ?_) AllReadyH.nil
          go_simp
          go_at_call 25
          refine (F2 _).mono ?_
          rintro e wq ⟨rfl, rfl⟩
          try go_wp2_with fail
          refine hK.out _ _ ?_ (fun hH => ?_)
          · assumption
          clear hK K
          try simp only [Act.put, List.setIfInBounds_toArray, List.set_cons_zero, List.set_cons_succ]
          refine wpAnyH_ready (rs := [11]) (by kernel_rfl) (by simp) ?_
          refine AllReadyH.cons rfl (fun K hK => ?_) AllReadyH.nil
          go_simp
          go_at_call 25
          refine (F3 _).mono ?_
          rintro e wq ⟨rfl, rfl⟩
          try go_wp2_with fail
          refine hK.out _ _ ?_ (fun hH => ?_)
          · assumption
          clear hK K
          try simp only [Act.put, List.setIfInBounds_toArray, List.set_cons_zero, List.set_cons_succ]
          refine' wpAnyH_take (i := 13) ?hi13 (by kernel_rfl) (by kernel_rfl) (by kernel_rfl) ?hQ13 (Or.inl ⟨?hw13, ?hy13⟩) (by assumption) ?_
          case hi13 => (simp only [List.getElem?_toArray, List.getElem?_cons_succ, List.getElem?_cons_zero]; rfl)
          case hQ13 => exact fun _ _ _ h => h
          case hw13 => rfl
          case hy13 => (intro w' hSw; (try dsimp only at hSw); go_simp; all_goals with_reducible rfl)
          try simp only [Act.put, List.setIfInBounds_toArray, List.set_cons_zero, List.set_cons_succ]
          refine wpAnyH_ready (rs := [15]) (by kernel_rfl) (by simp) ?_
          refine AllReadyH.cons rfl (fun K hK => ?_) AllReadyH.nil
          go_simp
          refine hK.out _ _ ?_ (fun hH => ?_)
          · exact mfin c0 c1 c2
          clear hK K
          try simp only [Act.put, List.setIfInBounds_toArray, List.set_cons_zero, List.set_cons_succ]
          refine wpAnyH_done (by kernel_rfl) ?_ _
          go_wp2_with fail
          go_meet
          exact ⟨_, rfl, Nat.le_refl _, gA.drew, g0, g1, g2, g3⟩
      case rest =>
        obtain ⟨k, rfl, hk, hcc, k0, k1, k2, k3⟩ := hcut
        have hw3 := hw2.trans hcc.out
        have hrd : Rdv wc Never (.slice r2a L2 r2c) (decL z) := (hr2.never hcc.out).sub (fun _ _ h => h.elim)
        have hpm : Hid (parseM s.data.toList = if mailFault ⟨X, Y, Z, decL z⟩ = 0 ∧ mailText ⟨X, Y, Z, decL z⟩ = s.data.toList then some ⟨X, Y, Z, decL z⟩ else none) := by
          unfold Hid parseM
          rw [HP.out]
          simp only
          rw [if_pos hcond.out, HX1.out, HY1.out, HZ1.out]
        have sx : X.size ≤ maxLen := by rw [← HX1.out, toB_size]; unfold maxLen; omega
        have sy : Y.size ≤ maxLen := by rw [← HY1.out, toB_size]; unfold maxLen; omega
        have sz : Z.size ≤ maxLen := by rw [← HZ1.out, toB_size]; unfold maxLen; omega
        have PC := mail_print_any ⟨X, Y, Z, decL z⟩ (.slice r2a L2 r2c) wc hrd ⟨sx, sy, sz⟩
        obtain ⟨PR, hPR⟩ : ∃ PR, printR ⟨X, Y, Z, decL z⟩ = PR := ⟨_, rfl⟩
        have HPR := Lib.hid hPR
        rw [hPR] at PC
        clear hPR sx sy sz F1 F2 F3 gA g0 g1 g2 g3 c0 c1 c2
        have hfz5 : ∀ {w4 : World}, Chg Never w2 w4 → ∀ k, w4.frozen? ⟨w.heap.size, k, none⟩ = false := fun hc5 k => by rw [hc5.frozen hB0 (fun x => x)]; exact hfz k
        by_cases hz : mailFault ⟨X, Y, Z, decL z⟩ = 0
        · have HZ := Lib.hid hz
          have hPR : Hid (PR = toB (mailText ⟨X, Y, Z, decL z⟩)) := by have := HPR.out; unfold printR at this; rw [if_pos hz] at this; exact this.symm
          rw [hz, errV_zero] at PC
          clear hz
          by_cases hPs : PR = s
          · have hb : (PR.toList != s.toList) = false := by rw [hPs]; simp
            have hps : Hid (parseM s.data.toList = some ⟨X, Y, Z, decL z⟩) := by
              unfold Hid
              rw [hpm.out, if_pos]
              refine ⟨HZ.out, ?_⟩
              rw [← hPs, hPR.out, toB_data]
            have HR : Hid (parseR s = ⟨X, Y, Z, decL z⟩) := by unfold Hid parseR; rw [hps.out]; rfl
            have HF : Hid (parseF s = 0) := by unfold Hid parseF; rw [hps.out]; rfl
            go_wp2_with (first | (go_at_call 7; refine PC.mono ?_; rintro e' w4 ⟨rfl, hc4⟩; have hc5 := hcc.out.trans hc4; have b0 := hc5.cellNever b0; have b1 := hc5.cellNever b1; have b2 := hc5.cellNever b2; have b3 := hc5.cellNever b3; have k0 := hc4.cellNever k0; have k1 := hc4.cellNever k1; have k2 := hc4.cellNever k2; have k3 := hc4.cellNever k3; have f0 := hfz5 hc5 0; have f1 := hfz5 hc5 1; have f2 := hfz5 hc5 2; have f3 := hfz5 hc5 3))
            have P4 := put4 (a := .string X) (b := .string Y) (c := .string Z) (d := .slice r2a L2 r2c) b0 b1 b2 b3
            have P5 : Chg (fun k => k = w.heap.size) w2 ((((w4.setCell ⟨w.heap.size, 0, none⟩ (.string X)).setCell ⟨w.heap.size, 1, none⟩ (.string Y)).setCell ⟨w.heap.size, 2, none⟩ (.string Z)).setCell ⟨w.heap.size, 3, none⟩ (.slice r2a L2 r2c)) := ((((hc5.mono (O' := fun k => k = w.heap.size) (fun _ _ h => h.elim)).setCell (.inr rfl) _).setCell (.inr rfl) _).setCell (.inr rfl) _).setCell (.inr rfl) _
            have P6 : Chg Never w ((((w4.setCell ⟨w.heap.size, 0, none⟩ (.string X)).setCell ⟨w.heap.size, 1, none⟩ (.string Y)).setCell ⟨w.heap.size, 2, none⟩ (.string Z)).setCell ⟨w.heap.size, 3, none⟩ (.slice r2a L2 r2c)) := ((((hw3.trans hc4).setCell (.inl (Nat.le_refl _)) _).setCell (.inl (Nat.le_refl _)) _).setCell (.inl (Nat.le_refl _)) _).setCell (.inl (Nat.le_refl _)) _
            have P7 := hr2o.keep (O'' := Old w.heap.size) P5 (fun k _ e => by subst e; exact hBo) (fun k _ hk => Nat.lt_trans hk hBo)
            generalize (((w4.setCell ⟨w.heap.size, 0, none⟩ (.string X)).setCell ⟨w.heap.size, 1, none⟩ (.string Y)).setCell ⟨w.heap.size, 2, none⟩ (.string Z)).setCell ⟨w.heap.size, 3, none⟩ (.slice r2a L2 r2c) = wZ at P4 P5 P6 P7 ⊢
            obtain ⟨d0, d1, d2, d3⟩ := P4
            refine bodyPost_ret (v := .tuple #[.agg #[.string X, .string Y, .string Z, .slice r2a L2 r2c], .nilIface]) (by simp [results, Tryd.results8, go_sem, d0, d1, d2, d3]) rfl ?_
            exact ⟨_, by rw [HR.out, HF.out]; rfl, P6, by rw [HR.out]; exact P7⟩
          · have hb2 : (PR.toList == s.toList) = false := str_beq_false hPs
            have hb : (PR.toList != s.toList) = true := by
              simp only [bne, str_beq_false hPs, Bool.not_false]
            have hpn : Hid (parseM s.data.toList = none) := by
              unfold Hid
              rw [hpm.out, if_neg]
              rintro ⟨_, g⟩
              exact hPs (by rw [hPR.out, g]; rfl)
            have HR : Hid (parseR s = noMail) := by unfold Hid parseR; rw [hpn.out]; rfl
            have HF : Hid (parseF s = 5) := by unfold Hid parseF; rw [hpn.out]; rfl
            go_wp2_with (first | (go_at_call 7; refine PC.mono ?_; rintro e' w4 ⟨rfl, hc4⟩; have hc5 := hcc.out.trans hc4; have b0 := hc5.cellNever b0; have b1 := hc5.cellNever b1; have b2 := hc5.cellNever b2; have b3 := hc5.cellNever b3; have k0 := hc4.cellNever k0; have k1 := hc4.cellNever k1; have k2 := hc4.cellNever k2; have k3 := hc4.cellNever k3; have f0 := hfz5 hc5 0; have f1 := hfz5 hc5 1; have f2 := hfz5 hc5 2; have f3 := hfz5 hc5 3; have S0 := cell_put_eq b0; have S1 := cell_put_eq b1; have S2 := cell_put_eq b2; have S3 := cell_put_eq b3))
            refine bodyPost_ret (v := .tuple #[.agg #[.string ⟨#[]⟩, .string ⟨#[]⟩, .string ⟨#[]⟩, .slice none 0 0], .iface 32 (.int .i64 5)]) (by simp [results, Tryd.results8, go_sem, b0, b1, b2, b3]) rfl ?_
            exact ⟨_, by rw [HR.out, HF.out]; rfl, hw3.trans hc4, by rw [HR.out]; exact rdv_nil _ _⟩
        · have hpn : Hid (parseM s.data.toList = none) := by
            unfold Hid
            rw [hpm.out, if_neg]
            rintro ⟨g, _⟩
            exact hz g
          have HR : Hid (parseR s = noMail) := by unfold Hid parseR; rw [hpn.out]; rfl
          have HF : Hid (parseF s = 5) := by unfold Hid parseF; rw [hpn.out]; rfl
          rw [errV_pos hz] at PC
          clear hz
          go_wp2_with (first | (go_at_call 7; refine PC.mono ?_; rintro e' w4 ⟨rfl, hc4⟩; have hc5 := hcc.out.trans hc4; have b0 := hc5.cellNever b0; have b1 := hc5.cellNever b1; have b2 := hc5.cellNever b2; have b3 := hc5.cellNever b3; have k0 := hc4.cellNever k0; have k1 := hc4.cellNever k1; have k2 := hc4.cellNever k2; have k3 := hc4.cellNever k3; have f0 := hfz5 hc5 0; have f1 := hfz5 hc5 1; have f2 := hfz5 hc5 2; have f3 := hfz5 hc5 3; have S0 := cell_put_eq b0; have S1 := cell_put_eq b1; have S2 := cell_put_eq b2; have S3 := cell_put_eq b3))
          refine bodyPost_ret (v := .tuple #[.agg #[.string ⟨#[]⟩, .string ⟨#[]⟩, .string ⟨#[]⟩, .slice none 0 0], .iface 32 (.int .i64 5)]) (by simp [results, Tryd.results8, go_sem, b0, b1, b2, b3]) rfl ?_
          exact ⟨_, by rw [HR.out, HF.out]; rfl, hw3.trans hc4, by rw [HR.out]; exact rdv_nil _ _⟩
    · have hpn : Hid (parseM s.data.toList = none) := by
        unfold Hid parseM
        rw [HP.out]
        simp only
        rw [if_neg]
        rintro ⟨g1, g2⟩
        apply hf
        unfold decFault
        rw [toB_data, if_pos ⟨g2, g1⟩]
      have hf5 : Hid (decFault (toB z) = 5) := by
        unfold decFault at hf
        unfold Hid decFault
        split at hf
        · exact absurd rfl hf
        · rename_i g; rw [if_neg g]
      have HR : Hid (parseR s = noMail) := by unfold Hid parseR; rw [hpn.out]; rfl
      have HF : Hid (parseF s = 5) := by unfold Hid parseF; rw [hpn.out]; rfl
      have f0 := hfz 0
      have f1 := hfz 1
      have f2 := hfz 2
      have f3 := hfz 3
      have S0 := cell_put_eq b0
      have S1 := cell_put_eq b1
      have S2 := cell_put_eq b2
      have S3 := cell_put_eq b3
      rw [hf5.out, errV_pos (by decide)]
      clear hf
      go_wp2_with fail
      refine bodyPost_ret (v := .tuple #[.agg #[.string ⟨#[]⟩, .string ⟨#[]⟩, .string ⟨#[]⟩, .slice none 0 0], .iface 32 (.int .i64 5)]) (by simp [results, Tryd.results8, go_sem, b0, b1, b2, b3]) rfl ?_
      exact ⟨_, by rw [HR.out, HF.out]; rfl, hw2, by rw [HR.out]; exact rdv_nil _ _⟩
  · have hpn : Hid (parseM s.data.toList = none) := by
      unfold Hid parseM
      rw [HP.out]
      split
      · exact absurd rfl h6
      · rfl
    have HR : Hid (parseR s = noMail) := by unfold Hid parseR; rw [hpn.out]; rfl
    have HF : Hid (parseF s = 5) := by unfold Hid parseF; rw [hpn.out]; rfl
    have t6 : decide ((P.length : Int) < 6) = true := decide_eq_true (by omega)
    have f0 := hfz 0
    have f1 := hfz 1
    have f2 := hfz 2
    have f3 := hfz 3
    have S0 := cell_put_eq b0
    have S1 := cell_put_eq b1
    have S2 := cell_put_eq b2
    have S3 := cell_put_eq b3
    clear h6
    go_wp2_with fail
    refine bodyPost_ret (v := .tuple #[.agg #[.string ⟨#[]⟩, .string ⟨#[]⟩, .string ⟨#[]⟩, .slice none 0 0], .iface 32 (.int .i64 5)]) (by simp [results, Tryd.results8, go_sem, b0, b1, b2, b3]) rfl ?_
    exact ⟨_, by rw [HR.out, HF.out]; rfl, hw1, by rw [HR.out]; exact rdv_nil _ _⟩
end Go.Proofs.YtnekhaacapdmfaaDoor
namespace Go.Proofs.YtnekhaacapdmfaaDoor
open Go.RowKit

theorem bat_keep {B b : Nat} {bs : List Value} {w w' : World} {p : Value} (h : Lib.BuilderAtF 71 5 B b p bs w) (hc : Chg Never w w') : Lib.BuilderAtF 71 5 B b p bs w' := by
  have hlt := h.lt
  obtain ⟨hB, v, hv, hown, hne⟩ := h
  refine ⟨hB, v, (hc.block b hlt (fun x => x)).trans hv, hown.kept (row := none) ⟨hc.os, hc.tape, hc.output, hc.size, fun k hk _ => hc.block k hk (fun x => x)⟩ (Classical.em _), hne⟩
theorem bld_keep {B b : Nat} {bs : List Value} {w w' : World} (h : IsB B b bs w) (hc : Chg Never w w') : IsB B b bs w' :=
  h.elim (fun x => .inl (bat_keep x hc)) (fun x => .inr (bat_keep x hc))
end Go.Proofs.YtnekhaacapdmfaaDoor
namespace Go.Proofs.YtnekhaacapdmfaaDoor

/-- a box, read a mail at a time -/
def boxGo : Nat → List UInt8 → List Mail → Option (List Mail)
  | _, [], acc => some acc
  | 0, _ :: _, _ => none
  | k + 1, c :: s, acc => match dropPre markW (c :: s) with
    | none => none
    | some r => if 16 ≤ acc.length then none else match cutSub sepW r with
      | some p => match parseM p.1 with
        | none => none
        | some m => boxGo k (markW ++ p.2) (acc ++ [m])
      | none => match dropSuf [10] r with
        | none => none
        | some y => match parseM y with
          | none => none
          | some m => some (acc ++ [m])
def boxRest (l : List (List UInt8)) (acc : List Mail) : Option (List Mail) :=
  if 16 < acc.length + l.length then none else match dropSuf [10] (l.getLastD []) with
  | none => none
  | some y => (allM (l.dropLast ++ [y])).map fun q => acc ++ q
theorem boxGo_step (k : Nat) (r : List UInt8) (acc : List Mail) : boxGo (k + 1) (markW ++ r) acc = if 16 ≤ acc.length then none else match cutSub sepW r with
      | some p => match parseM p.1 with
        | none => none
        | some m => boxGo k (markW ++ p.2) (acc ++ [m])
      | none => match dropSuf [10] r with
        | none => none
        | some y => match parseM y with
          | none => none
          | some m => some (acc ++ [m]) := by
  have e : markW ++ r = 70 :: ([114, 111, 109, 32, 45, 32, 10] ++ r) := rfl
  have h := pre_app markW r
  rw [e] at h ⊢
  rw [boxGo, h]
theorem cutsK_pos (t : List UInt8) : ∀ (k : Nat) (s : List UInt8), cutsK t k s ≠ []
  | 0, s => by rw [cutsK]; simp
  | k + 1, s => by
    rw [cutsK]
    cases cutSub t s with
    | none => simp
    | some p => simp
theorem split_enough {k : Nat} {s : List UInt8} (h : s.length ≤ k) : splitAll k s = splitAll s.length s := by
  rw [splitAll_cuts, splitAll_cuts]
  have := count_len (t := sepW) (by unfold sepW; simp) s.length s (Nat.le_refl _)
  exact cuts_enough (by unfold sepW; simp) s.length _ _ s (Nat.le_refl _) (by omega) this
theorem split_pos (s : List UInt8) : splitAll s.length s ≠ [] := by rw [splitAll_cuts]; exact cutsK_pos _ _ _
theorem split_one {s : List UInt8} (h : cutSub sepW s = none) : splitAll s.length s = [s] := by
  cases s with
  | nil => rfl
  | cons c s => rw [List.length_cons, splitAll, h]
theorem split_more {s : List UInt8} {p : List UInt8 × List UInt8} (h : cutSub sepW s = some p) : splitAll s.length s = p.1 :: splitAll p.2.length p.2 := by
  have hs := cut_shorter (by unfold sepW; simp) h
  obtain ⟨n, hn⟩ : ∃ n, s.length = n + 1 := ⟨s.length - 1, by omega⟩
  rw [hn, splitAll, h]
  simp only
  rw [split_enough (by omega)]
theorem boxGo_rest : ∀ (k : Nat) (r : List UInt8) (acc : List Mail), r.length + 8 ≤ k → acc.length ≤ 16 → boxGo k (markW ++ r) acc = boxRest (splitAll r.length r) acc
  | 0, _, _, h, _ => by omega
  | k + 1, r, acc, h, ha => by
    have hp := List.length_pos_iff.2 (split_pos r)
    rw [boxGo_step]
    by_cases h16 : 16 ≤ acc.length
    · rw [if_pos h16]
      unfold boxRest
      rw [if_pos (by omega)]
    · rw [if_neg h16]
      cases hc : cutSub sepW r with
      | none =>
        simp only
        unfold boxRest
        rw [split_one hc, if_neg (by simp; omega)]
        show _ = match dropSuf [10] r with
          | none => none
          | some y => (allM ([] ++ [y])).map fun q => acc ++ q
        cases hd : dropSuf [10] r with
        | none => rfl
        | some y =>
          simp only
          rw [List.nil_append, allM]
          cases parseM y with
          | none => rfl
          | some m => rfl
      | some p =>
        simp only
        have hs := cut_shorter (by unfold sepW; simp) hc
        have hc2 := cut_some (a := p.1) (b := p.2) hc
        have hl := congrArg List.length hc2
        simp only [List.length_append, show sepW.length = 9 from rfl] at hl
        rw [split_more hc]
        have hq := split_pos p.2
        generalize hL : splitAll p.2.length p.2 = L at hq ⊢
        have e1 : (p.1 :: L).getLastD [] = L.getLastD [] := by
          obtain ⟨x, y, rfl⟩ := List.exists_cons_of_ne_nil hq
          simp [List.getLastD]
        have e2 : (p.1 :: L).dropLast = p.1 :: L.dropLast := by
          obtain ⟨x, y, rfl⟩ := List.exists_cons_of_ne_nil hq
          rfl
        cases hm : parseM p.1 with
        | none =>
          unfold boxRest
          rw [e1, e2]
          show none = _
          by_cases hb : 16 < acc.length + (p.1 :: L).length
          · rw [if_pos hb]
          · rw [if_neg hb]
            cases dropSuf [10] (L.getLastD []) with
            | none => rfl
            | some y =>
              simp only
              rw [List.cons_append, allM, hm]
              rfl
        | some m =>
          simp only
          rw [boxGo_rest k p.2 (acc ++ [m]) (by omega) (by simp; omega), hL]
          unfold boxRest
          rw [e1, e2]
          simp only [List.length_append, List.length_cons, List.length_nil]
          by_cases hb : 16 < acc.length + (0 + 1) + L.length
          · rw [if_pos hb, if_pos (by omega)]
          · rw [if_neg hb, if_neg (by omega)]
            cases dropSuf [10] (L.getLastD []) with
            | none => rfl
            | some y =>
              simp only
              rw [List.cons_append, allM, hm]
              simp only
              cases allM (L.dropLast ++ [y]) with
              | none => rfl
              | some q => simp
theorem box_same (s : List UInt8) : boxGo (s.length + 8) s [] = parseBox s := by
  cases s with
  | nil => rfl
  | cons c s =>
    unfold parseBox
    rw [if_neg (by simp)]
    cases hd : dropPre markW (c :: s) with
    | none =>
      rw [List.length_cons, show s.length + 1 + 8 = s.length + 8 + 1 by omega, boxGo, hd]
    | some r =>
      have e := pre_some hd
      rw [e, boxGo_rest _ r [] (by rw [List.length_append]; show _ ≤ 8 + r.length + 8; omega) (by simp)]
      unfold boxRest
      simp only [List.length_nil, Nat.zero_add, List.nil_append]
      split
      · rfl
      · cases dropSuf [10] ((splitAll r.length r).getLastD []) with
        | none => rfl
        | some y => simp
end Go.Proofs.YtnekhaacapdmfaaDoor
namespace Go.Proofs.YtnekhaacapdmfaaDoor
open Go.RowKit

def boxFault (l : List Mail) : Int := if 16 < l.length then 3 else firstOf mailFault l
def boxR (l : List Mail) : ByteArray := if boxFault l = 0 then toB (boxText l) else ByteArray.empty
theorem mailText_len {m : Mail} (h : mailFault m = 0) : (mailText m).length ≤ 60999 := by
  obtain ⟨w1, w2, w3, w4⟩ := mail_ok h
  have s1 := word_size w1
  have s2 := word_size w2
  have s3 := word_size w3
  have s4 := enc_short_len w4
  rw [Lib.size_eq] at s1 s2 s3
  unfold mailText fromW subjW idW codW
  simp only [List.length_append, List.length_cons, List.length_nil]
  omega
theorem boxText_one (x : Mail) : boxText [x] = markW ++ (mailText x ++ [10]) := by simp [boxText]
theorem boxText_take {l : List Mail} {k : Nat} {x : Mail} (hx : l[k]? = some x) : boxText (l.take (k + 1)) = boxText (l.take k) ++ (markW ++ (mailText x ++ [10])) := by
  rw [List.take_add_one, hx, Option.toList_some, box_app, boxText_one]
theorem boxText_len : ∀ {l : List Mail}, (∀ x ∈ l, mailFault x = 0) → (boxText l).length ≤ 61010 * l.length
  | [], _ => by simp [boxText]
  | m :: l, h => by
    have h1 := boxText_len (l := l) fun x hx => h x (List.mem_cons_of_mem _ hx)
    have h2 := mailText_len (h m (List.mem_cons_self ..))
    rw [box_cons]
    unfold tailB markW
    simp only [List.length_append, List.length_cons, List.length_nil]
    omega
theorem firstOf_drop {α : Type} {f : α → Int} {l : List α} {k : Nat} {x : α} (h : firstOf f (l.drop k) = firstOf f l) (hx : l[k]? = some x) : (f x = 0 → firstOf f (l.drop (k + 1)) = firstOf f l) ∧ (f x ≠ 0 → firstOf f l = f x) := by
  rw [drop_eq hx, firstOf] at h
  constructor
  · intro e; rw [if_pos e] at h; exact h
  · intro e; rw [if_neg e] at h; exact h.symm

set_option maxHeartbeats 1000000 in
set_option maxRecDepth 100000 in
theorem box_any (l : List Mail) (v : Value) (w : World) (h : Rdv w Never v l) :
    Calls Tryd.prog 11 #[v] w fun e w' => e = .returned (.tuple #[.string (boxR l), errV (boxFault l)]) ∧ Chg Never w w' := by
  obtain ⟨a, cap, rfl, h1, h2, h3⟩ := rdv_slice h
  unfold maxLen at h2
  by_cases h16 : 16 < l.length
  · have HF : Hid (boxFault l = 3) := if_pos h16
    have HR : Hid (boxR l = ByteArray.empty) := by unfold Hid boxR; rw [HF.out]; rfl
    have t16 : decide ((16 : Int) < (l.length : Int)) = true := decide_eq_true (by omega)
    go_enter Tryd.func11, Tryd.ntmps11
    go_wp2_with fail
    go_ret2
    exact ⟨by rw [HR.out, HF.out, errV_pos (by decide)]; rfl, Chg.refl _ _⟩
  · have HF : Hid (boxFault l = firstOf mailFault l) := if_neg h16
    have t16 : decide ((16 : Int) < (l.length : Int)) = false := decide_eq_false (by omega)
    go_enter Tryd.func11, Tryd.ntmps11
    go_wp2_with fail
    go_loopw [15] (fun i wr => ∃ k : Nat, k ≤ l.length ∧ i = .int .i64 k ∧ IsB w.heap.size w.heap.size (Lib.byteCells (boxText (l.take k))) wr ∧ Below w.heap.size w wr ∧ Hid (firstOf mailFault (l.drop k) = firstOf mailFault l) ∧ Hid (∀ x ∈ l.take k, mailFault x = 0)) (fun i _ => l.length - (intOf i).toNat)
    case atStart => exact ⟨0, Nat.zero_le _, rfl, Lib.IsBuilderF.of (Lib.fresh_isBuilder _ _ w), (Below.refl _ w).alloc (Nat.le_refl _) _, rfl, fun x hx => by simp at hx⟩
    case round =>
      obtain ⟨k, hk, rfl, hI, hb, hf, ha⟩ := hrel
      rename World => wr
      have hbs := hb.size
      by_cases hlt : k < l.length
      · obtain ⟨x, hx⟩ : ∃ x, l[k]? = some x := ⟨l[k], by simp [hlt]⟩
        obtain ⟨b, off, v, rfl, _, _, c0, c1, c2, c3, z0, z1, z2, hv⟩ := elems_mail h3 hx
        have hcb := Chg.of_below hb
        have c0 := hcb.cellNever c0
        have c1 := hcb.cellNever c1
        have c2 := hcb.cellNever c2
        have c3 := hcb.cellNever c3
        obtain ⟨va, vc, rfl, _, _, _⟩ := rdv_slice hv
        have hA : Chg Never wr (wr.alloc (.cells #[.string x.sender, .string x.subject, .string x.ident, .slice va x.body.length vc] 24)) := (Chg.refl Never wr).alloc _
        obtain ⟨_, g0, g1, g2, g3⟩ := box1_mail wr 24 x.sender x.subject x.ident (.slice va x.body.length vc) _ rfl
        have hvA := (hv.never hcb).never hA
        have HX := Lib.hid hx
        obtain ⟨st1, st2⟩ := firstOf_drop hf.out hx
        clear hx h3 h
        go_wp2_with fail
        clear c0 c1 c2 c3
        have hI := bld_keep hI hA
        generalize wr.alloc (.cells #[.string x.sender, .string x.subject, .string x.ident, .slice va x.body.length vc] 24) = wA at hA g0 g1 g2 g3 hvA hI ⊢
        refine (mail_print_any x _ _ hvA ⟨z0, z1, z2⟩).mono ?_
        rintro e w5 ⟨rfl, hc5⟩
        have hI := bld_keep hI hc5
        have hw5 := (hcb.trans hA).trans hc5
        clear g0 g1 g2 g3 hvA hA hc5
        by_cases hz : mailFault x = 0
        · have HZ := Lib.hid hz
          have HS := Lib.hid (st1 hz)
          have HP : Hid (printR x = toB (mailText x)) := by unfold Hid printR; rw [if_pos hz]
          have hml := mailText_len hz
          have HA2 : Hid (∀ y ∈ l.take (k + 1), mailFault y = 0) := fun y hy => by
            rw [List.take_add_one, HX.out, Option.toList_some] at hy
            rcases List.mem_append.1 hy with q | q
            · exact ha.out y q
            · rw [List.mem_singleton.1 q]; exact HZ.out
          have hbl := boxText_len ha.out
          rw [List.length_take] at hbl
          obtain ⟨y, hy⟩ : ∃ y, printR x = y := ⟨_, rfl⟩
          have HJ : Hid (Lib.byteCells (boxText (l.take k)) ++ Lib.strCells (toB markW ++ y ++ toB [10]) = Lib.byteCells (boxText (l.take (k + 1)))) := by
            rw [Hid, boxText_take HX.out, Lib.byteCells_append, Lib.strCells_eq, bytes_append, bytes_append, toB_data, toB_data, ← hy, HP.out, toB_data]
            simp
          have hyz : y.size ≤ 60999 := by rw [← hy, HP.out, Lib.size_eq, toB_data]; exact hml
          have hl1 : (Lib.byteCells (boxText (l.take k))).length ≤ 1000000 := by rw [Lib.byteCells_length]; omega
          rw [hz, errV_zero, hy]
          generalize Lib.byteCells (boxText (l.take k)) = bs at hI HJ hl1
          clear hz st1 st2 hy hml hbl ha hf HX
          have hsz5 := hw5.size
          go_wp2_with fail
          refine (bld_string w.heap.size w.heap.size bs (toB markW ++ y ++ toB [10]) _ hI (by rw [ByteArray.size_append, ByteArray.size_append, toB_size, toB_size]; show _ + (8 + y.size + 1) ≤ _; omega) hsz5).mono ?_
          rintro e w6 ⟨rfl, hI6, b6⟩
          go_wp2_with fail
          go_roundw
          case rel => exact ⟨k + 1, by omega, by go_num, .inr (by rw [← HJ.out]; exact hI6), hw5.never.trans b6, HS, HA2⟩
          case measure => simp [intOf]; omega
        · have HF2 : Hid (boxFault l = mailFault x) := by rw [Hid, HF.out, st2 hz]
          have HR : Hid (boxR l = ByteArray.empty) := by unfold Hid boxR; rw [HF2.out, if_neg hz]
          rw [errV_pos hz]
          have HZ := Lib.hid hz
          clear hz st1 st2 hf ha HX
          go_wp2_with fail
          go_ret2
          exact ⟨by rw [HR.out, HF2.out, errV_pos HZ.out]; rfl, hw5⟩
      · rw [List.take_of_length_le (by omega)] at hI
        have hf' := hf.out
        rw [List.drop_of_length_le (by omega)] at hf'
        have HF2 : Hid (boxFault l = 0) := by rw [Hid, HF.out, ← hf']; rfl
        have HR : Hid (boxR l = ⟨(boxText l).toArray⟩) := by unfold Hid boxR; rw [if_pos HF2.out]; rfl
        clear hf hf' ha
        go_wp2_with fail
        refine (Tryd.Builder_String_any_k w.heap.size w.heap.size (boxText l) _ hI hbs).mono ?_
        rintro e w4 ⟨rfl, _, b4, _⟩
        go_wp2_with fail
        go_ret2
        exact ⟨by rw [HR.out, HF2.out]; rfl, Chg.of_below (hb.trans b4)⟩

set_option maxHeartbeats 1000000 in
set_option maxRecDepth 100000 in
theorem refBoxText_any (l : List Mail) (v : Value) (w : World) (h : Rdv w Never v l) (hz : boxFault l = 0) :
    Calls Tryd.prog 18 #[v] w fun e w' => e = .returned (.string (toB (boxText l))) ∧ Chg Never w w' := by
  obtain ⟨a, cap, rfl, h1, h2, h3⟩ := rdv_slice h
  unfold maxLen at h2
  have h16 : l.length ≤ 16 := by
    unfold boxFault at hz
    by_cases q : 16 < l.length
    · rw [if_pos q] at hz; cases hz
    · omega
  have hall : Hid (∀ x ∈ l, mailFault x = 0) := by
    unfold boxFault at hz
    rw [if_neg (by omega), firstOf_zero] at hz
    exact hz
  clear hz
  go_enter Tryd.func18, Tryd.ntmps18
  go_wp2_with fail
  go_loopw [3, 4] (fun st i wr => ∃ (k : Nat) (acc : ByteArray), k ≤ l.length ∧ i = .int .i64 k ∧ st = .string acc ∧ Chg Never w wr ∧ acc.size ≤ 61010 * k ∧ Hid (acc = toB (boxText (l.take k)))) (fun _ i _ => l.length - (intOf i).toNat)
  case atStart => exact ⟨0, _, Nat.zero_le _, rfl, rfl, Chg.refl _ _, Nat.zero_le _, rfl⟩
  case round =>
    obtain ⟨k, acc, hk, rfl, rfl, hc, hsa, hJ⟩ := hrel
    rename World => wr
    by_cases hlt : k < l.length
    · obtain ⟨x, hx⟩ : ∃ x, l[k]? = some x := ⟨l[k], by simp [hlt]⟩
      obtain ⟨b, off, v, rfl, _, _, c0, c1, c2, c3, z0, z1, z2, hv⟩ := elems_mail h3 hx
      have c0 := hc.cellNever c0
      have c1 := hc.cellNever c1
      have c2 := hc.cellNever c2
      have c3 := hc.cellNever c3
      obtain ⟨va, vc, rfl, _, _, _⟩ := rdv_slice hv
      have hz := hall.out x (List.mem_of_getElem? hx)
      have hml := mailText_len hz
      have HZ := Lib.hid hz
      have HJ2 : Hid (acc ++ toB markW ++ toB (mailText x) ++ toB [10] = toB (boxText (l.take (k + 1)))) := by
        rw [Hid, hJ.out, boxText_take hx]
        apply ByteArray.ext
        apply Array.toList_inj.1
        simp only [bytes_append, toB_data]
        simp
      obtain ⟨y, hy⟩ : ∃ y, toB (mailText x) = y := ⟨_, rfl⟩
      have hyz : y.size ≤ 60999 := by rw [← hy, toB_size]; exact hml
      have hsz2 : (acc ++ toB markW ++ y ++ toB [10] : ByteArray).size ≤ 61010 * (k + 1) := by rw [ByteArray.size_append, ByteArray.size_append, ByteArray.size_append, toB_size, toB_size]; show acc.size + 8 + y.size + 1 ≤ _; omega
      rw [hy] at HJ2
      have HY := Lib.hid hy
      clear hx h3 h hz hy hml
      go_wp2_with fail
      refine (mailText_any x _ _ (hv.never hc) HZ.out).mono ?_
      rintro e w5 ⟨rfl, hc5⟩
      rw [HY.out]
      clear c0 c1 c2 c3
      go_wp2_with fail
      go_roundw
      case rel => exact ⟨k + 1, _, by omega, by go_num, rfl, hc.trans hc5, hsz2, HJ2.out⟩
      case measure => simp [intOf]; omega
    · go_wp2_with fail
      go_ret
      have e := hJ.out
      rw [List.take_of_length_le (by omega)] at e
      exact ⟨by rw [e]; rfl, hc⟩
end Go.Proofs.YtnekhaacapdmfaaDoor
namespace Go.Proofs.YtnekhaacapdmfaaDoor
open Go.RowKit
theorem last_of {l : List (List UInt8)} (h : l ≠ []) : ∃ i z, l = i ++ [z] := ⟨l.dropLast, l.getLast h, (List.dropLast_concat_getLast h).symm⟩
theorem rdv_strs {w : World} {O : Nat → Prop} {g : Nat} {e : TypeId} {l : List ByteArray} {n : Nat} (h : w.heap[g]? = some (.cells (l.map Value.string).toArray e (0, 0))) (hO : ¬ O g) (hn : n = l.length) (hl : l.length ≤ maxLen) (hs : ∀ x ∈ l, x.size ≤ maxLen) : Rdv w O (.slice (some ⟨g, 0, none⟩) n n) l := by
  subst hn
  refine ⟨some ⟨g, 0, none⟩, l.length, rfl, Nat.le_refl _, hl, ?_⟩
  intro i x hx
  refine ⟨g, 0, [.string x], rfl, hO, ?_, rfl, hs x (List.mem_of_getElem? hx)⟩
  intro j u hj
  match j, hj with
  | 0, hj =>
    simp only [List.getElem?_cons_zero, Option.some.injEq] at hj
    subst hj
    simp only [World.cell?, h]
    simp [Dat.n, hx]
theorem suffix_snoc (b : List UInt8) : Lib.hasSuffix (b ++ [10]) [10] = true ∧ Lib.trimSuffix (b ++ [10]) [10] = b := by
  have e : Lib.hasSuffix (b ++ [10]) [10] = true := by
    unfold Lib.hasSuffix
    rw [List.isSuffixOf_iff_suffix]
    exact List.suffix_append b [10]
  refine ⟨e, ?_⟩
  unfold Lib.trimSuffix
  rw [if_pos e]
  simp
theorem suffix_not {b : List UInt8} {c : UInt8} (h : c ≠ 10) : Lib.hasSuffix (b ++ [c]) [10] = false := by
  unfold Lib.hasSuffix
  rw [Bool.eq_false_iff]
  intro e
  rw [List.isSuffixOf_iff_suffix] at e
  obtain ⟨t, ht⟩ := e
  have := (List.append_inj' ht rfl).2
  simp at this
  exact h this.symm
theorem str_ne_empty {s : ByteArray} (h : s ≠ ByteArray.empty) : ∃ b c, s.data.toList = b ++ [c] := by
  have hne : s.data.toList ≠ [] := by
    intro e
    apply h
    apply ByteArray.ext
    apply Array.toList_inj.1
    rw [e]; rfl
  exact ⟨s.data.toList.dropLast, s.data.toList.getLast hne, (List.dropLast_concat_getLast hne).symm⟩
end Go.Proofs.YtnekhaacapdmfaaDoor
namespace Go.Proofs.YtnekhaacapdmfaaDoor
open Go.RowKit

theorem elemOk_mail : ElemOk Tryd.prog 25 24 4 := elemOk_of Tryd.underlying25 (z := .agg #[.string ⟨#[]⟩, .string ⟨#[]⟩, .string ⟨#[]⟩, .slice none 0 0]) (b := 72) (by kernel_rfl) rfl (by decide)
def openR (s : ByteArray) : List Mail := (parseBox s.data.toList).getD []
def openF (s : ByteArray) : Int := if (parseBox s.data.toList).isSome = true then 0 else 5
theorem open_none {s : ByteArray} (h : parseBox s.data.toList = none) : openR s = [] ∧ openF s = 5 := by
  unfold openR openF; rw [h]; exact ⟨rfl, rfl⟩
theorem open_some {s : ByteArray} {l : List Mail} (h : parseBox s.data.toList = some l) : openR s = l ∧ openF s = 0 := by
  unfold openR openF; rw [h]; exact ⟨rfl, rfl⟩
theorem parse_some {s : ByteArray} {m : Mail} (h : parseM s.data.toList = some m) : parseR s = m ∧ parseF s = 0 := by
  unfold parseR parseF; rw [h]; exact ⟨rfl, rfl⟩
theorem parse_none {s : ByteArray} (h : parseM s.data.toList = none) : parseF s = 5 := by
  unfold parseF; rw [h]; rfl
theorem mail_sizes {s : List UInt8} {m : Mail} (h : parseM s = some m) : MailSz m := by
  obtain ⟨w1, w2, w3, _⟩ := mail_ok (mail_some h).2
  have s1 := word_size w1
  have s2 := word_size w2
  have s3 := word_size w3
  unfold MailSz maxLen; omega
/-- strings.Split(rest, "\nFrom - \n") -/
theorem boxes_eq (s : ByteArray) : Lib.splitB (toB sepW) 0 (Lib.countB s (toB sepW)) s = (splitAll s.size s.data.toList).map toB := by
  have h := Lib.splitB_data (toB sepW) 0 (Lib.countB s (toB sepW)) s
  have h2 := split_sep s.data.toList
  have h3 : Lib.countB s (toB sepW) = Lib.count s.data.toList sepW := by unfold Lib.countB; rw [toB_data]
  rw [h3] at h ⊢
  rw [toB_data, h2, ← Lib.size_eq] at h
  rw [← h, List.map_map, map_toB]
theorem cutsK_small {t : List UInt8} : ∀ (k : Nat) (s x : List UInt8), x ∈ cutsK t k s → x.length ≤ s.length
  | 0, s, x, h => by rw [cutsK] at h; rw [List.mem_singleton.1 h]; exact Nat.le_refl _
  | k + 1, s, x, h => by
    rw [cutsK] at h
    cases hc : cutSub t s with
    | none => rw [hc] at h; rw [List.mem_singleton.1 h]; exact Nat.le_refl _
    | some p =>
      rw [hc] at h
      have e := congrArg List.length (cut_some (a := p.1) (b := p.2) hc)
      simp only [List.length_append] at e
      rcases List.mem_cons.1 h with rfl | h
      · omega
      · have := cutsK_small k p.2 x h; omega
theorem split_small {s x : List UInt8} (h : x ∈ splitAll s.length s) : x.length ≤ s.length := by rw [splitAll_cuts] at h; exact cutsK_small _ _ _ h
theorem split_nonempty (s : List UInt8) : ∃ i z, splitAll s.length s = i ++ [z] := last_of (split_pos s)
theorem cutsK_len' (t : List UInt8) : ∀ (k : Nat) (s : List UInt8), (cutsK t k s).length ≤ k + 1
  | 0, s => by rw [cutsK]; simp
  | k + 1, s => by
    rw [cutsK]
    cases cutSub t s with
    | none => simp
    | some p => have := cutsK_len' t k p.2; simp; omega
theorem cutsK_len (s : List UInt8) : (splitAll s.length s).length ≤ s.length + 1 := by rw [splitAll_cuts]; exact cutsK_len' _ _ _
/-- a row of strings of which the last one is written -/
theorem rdv_last {w : World} {g : Nat} {e : TypeId} {i : List ByteArray} {z y : ByteArray} (h : w.heap[g]? = some (.cells ((i ++ [z]).map Value.string).toArray e (0, 0))) (hl : i.length < maxLen) (hs : ∀ x ∈ i ++ [y], x.size ≤ maxLen) {O : Nat → Prop} (hO : ¬ O g) :
    w.cell? ⟨g, i.length, none⟩ = some (.string z) ∧ w.frozen? ⟨g, i.length, none⟩ = false ∧ Rdv (w.setCell ⟨g, i.length, none⟩ (.string y)) O (.slice (some ⟨g, 0, none⟩) (i.length + 1) (i.length + 1)) (i ++ [y]) := by
  refine ⟨by simp [World.cell?, h], by simp [World.frozen?, h], ?_⟩
  refine rdv_strs (e := e) (g := g) ?_ hO (by simp) (by simp; omega) hs
  simp [World.setCell, Array.getElem?_modify, h]
/-- the parts that are still to be read -/
def AllInv (ps : List (List UInt8)) (k : Nat) (L : List Mail) : Prop := (allM (ps.drop k)).map (L ++ ·) = allM ps
theorem ainv_start (ps : List (List UInt8)) : AllInv ps 0 [] := by simp [AllInv]
theorem ainv_end {ps : List (List UInt8)} {k : Nat} {L : List Mail} (h : AllInv ps k L) (hk : ps.length ≤ k) : allM ps = some L := by
  rw [← h, List.drop_of_length_le hk]; simp [allM]
theorem ainv_bad {ps : List (List UInt8)} {k : Nat} {L : List Mail} {x : List UInt8} (h : AllInv ps k L) (hx : ps[k]? = some x) (hm : parseM x = none) : allM ps = none := by
  rw [← h, drop_eq hx, allM, hm]; rfl
theorem ainv_step {ps : List (List UInt8)} {k : Nat} {L : List Mail} {x : List UInt8} {m : Mail} (h : AllInv ps k L) (hx : ps[k]? = some x) (hm : parseM x = some m) : AllInv ps (k + 1) (L ++ [m]) := by
  unfold AllInv at *
  rw [← h, drop_eq hx, allM, hm]
  cases allM (ps.drop (k + 1)) with
  | none => rfl
  | some q => simp

set_option maxHeartbeats 1000000 in
set_option maxRecDepth 100000 in
theorem open_any (s : ByteArray) (w : World) (hs : s.size ≤ 10000000) (m : Int) (hm : w.cell? ⟨1, 0, none⟩ = some (.int .i64 m)) :
    Calls Tryd.prog 12 #[.string s] w fun e w' => ∃ r, e = .returned (.tuple #[r, errV (openF s)]) ∧ Chg Never w w' ∧ Rdv w' (Old w.heap.size) r (openR s) := by
  by_cases h0 : s = ByteArray.empty
  · subst h0
    have hp : parseBox ByteArray.empty.data.toList = some [] := rfl
    obtain ⟨HR, HF⟩ := open_some hp
    have HR := Lib.hid HR
    have HF := Lib.hid HF
    have t1 : (ByteArray.empty.toList == []) = true := by rw [Lib.toList_data]; rfl
    have t2 : ByteArray.empty.toList.isEmpty = true := by rw [Lib.toList_data]; rfl
    go_enter Tryd.func12, Tryd.ntmps12
    go_wp2_with fail
    go_ret2
    exact ⟨_, by rw [HF.out]; rfl, Chg.refl _ _, by rw [HR.out]; exact rdv_nil _ _⟩
  · obtain ⟨b0, c0, hbc⟩ := str_ne_empty h0
    have t2 : s.toList.isEmpty = false := by rw [Lib.toList_data, hbc]; simp
    have t1 : (s.toList == []) = false := by rw [Lib.toList_data, hbc]; simp
    have hne : s.data.toList ≠ [] := by rw [hbc]; simp
    clear hbc h0
    have hw := Chg.refl Never w
    cases hd : dropPre markW s.data.toList with
    | none =>
      have hp : parseBox s.data.toList = none := by unfold parseBox; rw [if_neg hne, hd]
      obtain ⟨HR, HF⟩ := open_none hp
      have HR := Lib.hid HR
      have HF := Lib.hid HF
      have hpre : Hid (Lib.hasPrefix s.data.toList (toB markW).data.toList = false) := by
        unfold Hid Lib.hasPrefix
        rw [toB_data]
        unfold dropPre at hd
        by_cases q : markW.isPrefixOf s.data.toList = true
        · rw [if_pos q] at hd; cases hd
        · exact Bool.eq_false_iff.2 q
      clear hd hp hne
      go_enter Tryd.func12, Tryd.ntmps12
      go_wp2_with fail
      refine (Tryd.strings_CutPrefix s (toB markW) _).mono ?_
      rintro e w1 ⟨rfl, rfl⟩
      rw [hpre.out]
      go_wp2_with fail
      go_ret2
      exact ⟨_, by rw [HF.out, errV_pos (by decide)]; rfl, hw, by rw [HR.out]; exact rdv_nil _ _⟩
    | some r =>
      have hpre : Hid (Lib.hasPrefix s.data.toList (toB markW).data.toList = true) := by
        unfold Hid Lib.hasPrefix
        rw [toB_data, pre_some hd]
        exact List.isPrefixOf_iff_prefix.2 ⟨r, rfl⟩
      have htr : Hid (Lib.trimPrefix s.data.toList (toB markW).data.toList = r) := by
        rw [Hid, trim_pre, toB_data, hd]; rfl
      have hrs : r.length ≤ 10000000 := by
        have := congrArg List.length (pre_some hd)
        rw [List.length_append, ← Lib.size_eq] at this
        omega
      have hpb : Hid (parseBox s.data.toList = if 16 < (splitAll r.length r).length then none else match dropSuf [10] ((splitAll r.length r).getLastD []) with
          | none => none
          | some y => allM ((splitAll r.length r).dropLast ++ [y])) := by
        unfold Hid parseBox; rw [if_neg hne, hd]; rfl
      obtain ⟨i, z, hiz⟩ := split_nonempty r
      have hsp := boxes_eq (toB r)
      rw [toB_data, toB_size, hiz] at hsp
      have hcount : Lib.countB (toB r) (toB sepW) + 1 = i.length + 1 := by
        have := Lib.splitB_all (toB sepW) (by decide) 0 _ (toB r) rfl
        rw [← this, hsp]; simp
      have hsm : ∀ x ∈ i ++ [z], x.length ≤ 10000000 := fun x hx => by
        have := split_small (s := r) (x := x) (by rw [hiz]; exact hx)
        omega
      have HIZ := Lib.hid hiz
      rw [hiz] at hpb
      rw [List.getLastD_concat, List.dropLast_concat] at hpb
      have HSP := Lib.hid hsp
      have HC := Lib.hid hcount
      clear hiz hsp hcount hd hne
      go_enter Tryd.func12, Tryd.ntmps12
      go_wp2_with fail
      refine (Tryd.strings_CutPrefix s (toB markW) _).mono ?_
      rintro e w1 ⟨rfl, rfl⟩
      rename World => w
      rw [hpre.out, htr.out]
      clear hpre htr
      go_wp2_with fail
      refine (Tryd.strings_Split (toB r) (toB sepW) m _ (by rw [toB_size]; omega) hm (by decide)).mono ?_
      rintro e w2 ⟨rfl, rfl⟩
      rename World => w
      rw [HSP.out, HC.out, List.map_append, List.map_cons, List.map_nil]
      have hA : Chg Never w (w.alloc (.cells (List.map Value.string (List.map toB i ++ [toB z])).toArray 9)) := (Chg.refl Never w).alloc _
      have hblk := heap_alloc_new w (.cells (List.map Value.string (List.map toB i ++ [toB z])).toArray 9)
      generalize w.alloc (.cells (List.map Value.string (List.map toB i ++ [toB z])).toArray 9) = w2 at hA hblk ⊢
      have hB0 : w.heap.size < w2.heap.size := (Array.getElem?_eq_some_iff.1 hblk).1
      have hil : (i.map toB).length = i.length := List.length_map ..
      have hpl : (splitAll r.length r).length ≤ r.length + 1 := cutsK_len r
      have hil2 : i.length ≤ 10000000 := by rw [HIZ.out] at hpl; simp at hpl; omega
      by_cases h16 : 16 < i.length + 1
      · have hp : parseBox s.data.toList = none := by rw [hpb.out, if_pos (by simpa using h16)]
        obtain ⟨HR, HF⟩ := open_none hp
        have HR := Lib.hid HR
        have HF := Lib.hid HF
        have hw := hA
        have t16 : decide ((16 : Int) < (i.length : Int) + 1) = true := decide_eq_true (by omega)
        have t16n : decide (16 < i.length + 1) = true := decide_eq_true h16
        clear hp h16 hpb hblk
        go_wp2_with fail
        go_ret2
        exact ⟨_, by rw [HF.out, errV_pos (by decide)]; rfl, hw, by rw [HR.out]; exact rdv_nil _ _⟩
      · have t16 : decide ((16 : Int) < (i.length : Int) + 1) = false := decide_eq_false (by omega)
        have t16n : decide (16 < i.length + 1) = false := decide_eq_false h16
        have hpb2 : Hid (parseBox s.data.toList = match dropSuf [10] z with
          | none => none
          | some y => allM (i ++ [y])) := by rw [Hid, hpb.out, if_neg (by simpa using h16)]
        have hzs := hsm z (by simp)
        obtain ⟨cL, fL, -⟩ := rdv_last (y := toB z) hblk (by rw [hil]; unfold maxLen; omega) (fun x hx => by
          rcases List.mem_append.1 hx with hx | hx
          · obtain ⟨q, hq, rfl⟩ := List.mem_map.1 hx
            have := hsm q (List.mem_append_left _ hq)
            rw [toB_size]; unfold maxLen; omega
          · rw [List.mem_singleton.1 hx, toB_size]; unfold maxLen; omega) (O := Never) (fun h => h)
        rw [hil] at cL fL
        clear hpb HSP HC
        go_wp2_with fail
        refine (Tryd.strings_CutSuffix (toB z) ⟨#[10]⟩ _ (by rw [toB_size]; omega)).mono ?_
        rintro e w3 ⟨rfl, rfl⟩
        rename World => w2
        rw [toB_data]
        cases hds : dropSuf [10] z with
        | none =>
          have hp : parseBox s.data.toList = none := by rw [hpb2.out, hds]
          obtain ⟨HR, HF⟩ := open_none hp
          have HR := Lib.hid HR
          have HF := Lib.hid HF
          have hsf : Lib.hasSuffix z (⟨#[10]⟩ : ByteArray).data.toList = false := by
            unfold dropSuf at hds
            by_cases q : [10].isSuffixOf z = true
            · rw [if_pos q] at hds; cases hds
            · exact Bool.eq_false_iff.2 q
          rw [hsf]
          have hw := hA
          clear hp hds hpb2 hblk hsf
          go_wp2_with fail
          go_ret2
          exact ⟨_, by rw [HF.out, errV_pos (by decide)]; rfl, hw, by rw [HR.out]; exact rdv_nil _ _⟩
        | some y =>
          have hsf : Lib.hasSuffix z (⟨#[10]⟩ : ByteArray).data.toList = true := by
            rw [suf_some hds]
            exact List.isSuffixOf_iff_suffix.2 ⟨y, rfl⟩
          have htr : Lib.trimSuffix z (⟨#[10]⟩ : ByteArray).data.toList = y := by
            rw [trim_suf]
            show (dropSuf [10] z).getD z = y
            rw [hds]; rfl
          have hpa : Hid (parseBox s.data.toList = allM (i ++ [y])) := by rw [Hid, hpb2.out, hds]
          have hys : y.length ≤ 10000000 := by
            have := congrArg List.length (suf_some hds)
            rw [List.length_append] at this
            omega
          have hsm2 : ∀ x ∈ i ++ [y], x.length ≤ 10000000 := fun x hx => by
            rcases List.mem_append.1 hx with hx | hx
            · exact hsm x (List.mem_append_left _ hx)
            · rw [List.mem_singleton.1 hx]; exact hys
          obtain ⟨-, -, hrd⟩ := rdv_last (y := toB y) hblk (by rw [hil]; unfold maxLen; omega) (fun x hx => by
            rcases List.mem_append.1 hx with hx | hx
            · obtain ⟨q, hq, rfl⟩ := List.mem_map.1 hx
              have := hsm q (List.mem_append_left _ hq)
              rw [toB_size]; unfold maxLen; omega
            · rw [List.mem_singleton.1 hx, toB_size]; unfold maxLen; omega) (O := Old w.heap.size) (Nat.lt_irrefl _)
          rw [hil] at hrd
          rw [hsf, htr]
          clear hsf htr hds hpb2 hsm
          rw [show (⟨y.toArray⟩ : ByteArray) = toB y from rfl]
          have hwS : Chg Never w (w2.setCell ⟨w.heap.size, i.length, none⟩ (.string (toB y))) := hA.setCell (.inl (Nat.le_refl _)) _
          clear hblk
          go_wp2_with fail
          generalize w2.setCell ⟨w.heap.size, i.length, none⟩ (.string (toB y)) = w4 at hrd hwS ⊢
          have hal := hrd
          obtain ⟨n, hn⟩ : ∃ n, i.length + 1 = n := ⟨_, rfl⟩
          have hps : (i ++ [y]).length = n := by simp [hn]
          obtain ⟨ps, hpse⟩ : ∃ ps, i ++ [y] = ps := ⟨_, rfl⟩
          have hmap : i.map toB ++ [toB y] = ps.map toB := by rw [← hpse]; simp
          rw [hpse] at hps hpa hsm2
          rw [hn, hmap] at hrd
          have hpn : n ≤ 16 := by omega
          have hni : ((i.length : Int) + 1) = (n : Int) := by omega
          rw [hn, hni]
          clear hni
          obtain ⟨aP, capP, hsl, -, -, hel⟩ := rdv_slice hrd
          simp only [Value.slice.injEq] at hsl
          obtain ⟨rfl, -, rfl⟩ := hsl
          have hmw := hwS.cellNever hm
          clear hn hmap hpse hal cL fL hys hzs t16 t16n h16 hil hil2 hpl HIZ hB0 hA
          go_loopw [8, 50] (fun o iv wr => ∃ (k : Nat) (L : List Mail), k ≤ n ∧ iv = .int .i64 k ∧ L.length = k ∧ Chg Never w4 wr ∧ Own 24 wr (Old w4.heap.size) o L ∧ Hid (AllInv ps k L)) (fun _ iv _ => n - (intOf iv).toNat)
          case atStart => exact ⟨0, [], Nat.zero_le _, rfl, rfl, Chg.refl _ _, own_nil _ _ _, ainv_start ps⟩
          case round =>
            obtain ⟨k, L, hk, rfl, hLk, hc, hown, hI⟩ := hrel
            rename World => wr
            have hwr := hwS.trans hc
            have hbl := own_block_lt hown
            by_cases hlt : k < n
            · obtain ⟨x, hx⟩ : ∃ x, ps[k]? = some x := ⟨ps[k]'(by omega), by simp [hps, hlt]⟩
              have hxm : (ps.map toB)[k]? = some (toB x) := by rw [List.getElem?_map, hx]; rfl
              obtain ⟨b, off, hq, _, _, c0, _⟩ := elems_str hel hxm
              simp only [Option.some.injEq, Addr.mk.injEq, and_true] at hq
              obtain ⟨rfl, rfl⟩ := hq
              have c0 := hc.cellNever c0
              rw [Nat.zero_add] at c0
              have hxs := hsm2 x (List.mem_of_getElem? hx)
              have b1 : (k : Int) < (n : Int) := by omega
              have t51 : decide ((k : Int) < (n : Int)) = true := decide_eq_true b1
              have t52 : decide (k < n) = true := decide_eq_true hlt
              have HX := Lib.hid hx
              clear hx hxm hel hsm2 hrd hrs hps
              go_wp2_with fail
              refine (Parse_any (toB x) _ (by rw [toB_size]; exact hxs) m (hc.cellNever hmw)).mono ?_
              rintro e w5 ⟨v, rfl, hc5, hr5⟩
              clear c0
              cases hpm : parseM x with
              | none =>
                have hp : parseBox s.data.toList = none := by rw [hpa.out]; exact ainv_bad hI.out HX.out hpm
                obtain ⟨HR, HF⟩ := open_none hp
                have HR := Lib.hid HR
                have HF := Lib.hid HF
                have HPF := parse_none (s := toB x) (by rw [toB_data]; exact hpm)
                rw [HPF, errV_pos (by decide)]
                obtain ⟨va, vc, rfl, -, -, -⟩ := rdv_slice hr5
                have hw := hwr.trans hc5
                clear hp hpm HPF hI hown
                go_wp2_with fail
                go_ret2
                exact ⟨_, by rw [HF.out, errV_pos (by decide)]; rfl, hw.alloc _, by rw [HR.out]; exact rdv_nil _ _⟩
              | some mm =>
                obtain ⟨HPR, HPF⟩ := parse_some (s := toB x) (m := mm) (by rw [toB_data]; exact hpm)
                have HI2 := Lib.hid (ainv_step hI.out HX.out hpm)
                have hmz := mail_sizes hpm
                rw [HPR] at hr5
                rw [HPF, HPR, errV_zero]
                obtain ⟨va, vc, rfl, _, _, _⟩ := rdv_slice hr5
                have hown5 := hown.never hc5
                have hwr5 := hwr.trans hc5
                have hc45 := hc.trans hc5
                clear HPF HPR hpm hI hown
                obtain ⟨gA, g0, g1, g2, g3⟩ := box1_mail w5 24 mm.sender mm.subject mm.ident (.slice va mm.body.length vc) _ rfl
                have hwA := hwr5.trans gA
                have hownA := hown5.never gA
                have hrA := hr5.never gA
                have hcA := hc45.trans gA
                have hlt5 := own_block_lt hown5
                have hsub : ∀ (q : World), ∀ j, j < q.heap.size → (Old w4.heap.size j ∨ u8.ownBlock = some j) → Old wr.heap.size j := fun q j _ hj => by
                  rcases hj with hj | hj
                  · exact Nat.lt_of_lt_of_le hj hc.size
                  · exact hbl j hj
                have hyr : Dat.rd (w5.alloc (.cells #[.string mm.sender, .string mm.subject, .string mm.ident, .slice va mm.body.length vc] 24)) (fun j => Old w4.heap.size j ∨ u8.ownBlock = some j) [.string mm.sender, .string mm.subject, .string mm.ident, .slice va mm.body.length vc] mm :=
                  ⟨_, rfl, hmz.1, hmz.2.1, hmz.2.2, hrA.sub (hsub _)⟩
                have holt : ∀ j, Old w4.heap.size j → j < (w5.alloc (.cells #[.string mm.sender, .string mm.subject, .string mm.ident, .slice va mm.body.length vc] 24)).heap.size := old_lt hcA
                clear hown5 hr5 hwr5 hc45 hlt5 hsub
                have hLl : L.length ≤ 1000000000 := by omega
                have HLK := Lib.hid hLk
                clear hLk
                go_wp2_with (at_builtin; refine wpList_push (by rfl) _ _ 25 (by rfl) elemOk_mail (O := Old w4.heap.size) (l := L) (y := mm) (by rfl) (by rfl) (by simp) hownA hyr holt hLl ?_; intro v' w7 hown7 hc7 _)
                have hc8 := own_step hcA hownA hc7
                clear hc7 hownA hyr holt hwA g0 g1 g2 g3 gA hrA
                go_wp2_with fail
                go_roundw
                case rel => exact ⟨k + 1, L ++ [mm], by omega, by go_num, by rw [List.length_append, HLK.out]; rfl, hc8, hown7, HI2⟩
                case measure => simp [intOf]; omega
            · have hp : parseBox s.data.toList = some L := by rw [hpa.out]; exact ainv_end hI.out (by omega)
              obtain ⟨HR, HF⟩ := open_some hp
              have HR := Lib.hid HR
              have HF := Lib.hid HF
              have hO := hown.rdv
              have t51 : decide ((k : Int) < (n : Int)) = false := decide_eq_false (by omega)
              have t52 : decide (k < n) = false := decide_eq_false hlt
              clear hp hI hLk hel hsm2 hrd hrs hps
              go_wp2_with fail
              go_ret2
              exact ⟨_, by rw [HF.out]; rfl, hwr, by rw [HR.out]; exact hO.sub (fun j _ hj => Nat.lt_of_lt_of_le hj hwS.size)⟩
end Go.Proofs.YtnekhaacapdmfaaDoor
namespace Go.Proofs.YtnekhaacapdmfaaDoor
open Go.RowKit

set_option maxHeartbeats 1000000 in
set_option maxRecDepth 100000 in
theorem mails_same (l : List Mail) (v u : Value) (w : World) (h : Rdv w Never v l) (g : Rdv w Never u l) :
    Calls Tryd.prog 10 #[v, u] w fun e w' => e = .returned (.bool true) ∧ Chg Never w w' := by
  obtain ⟨a, cap, rfl, h1, h2, h3⟩ := rdv_slice h
  obtain ⟨c, cap', rfl, g1, g2, g3⟩ := rdv_slice g
  unfold maxLen at h2 g2
  go_enter Tryd.func10, Tryd.ntmps10
  go_wp2_with fail
  go_loopw [5] (fun i wr => ∃ k : Nat, k ≤ l.length ∧ i = .int .i64 k ∧ Chg Never w wr) (fun i _ => l.length - (intOf i).toNat)
  case atStart => exact ⟨0, Nat.zero_le _, rfl, Chg.refl _ _⟩
  case round =>
    obtain ⟨k, hk, rfl, hc⟩ := hrel
    rename World => wr
    by_cases hlt : k < l.length
    · obtain ⟨x, hx⟩ : ∃ x, l[k]? = some x := ⟨l[k], by simp [hlt]⟩
      obtain ⟨b, off, v1, rfl, _, _, c0, c1, c2, c3, _, _, _, hv1⟩ := elems_mail h3 hx
      obtain ⟨b', off', v2, rfl, _, _, d0, d1, d2, d3, _, _, _, hv2⟩ := elems_mail g3 hx
      have c0 := hc.cellNever c0
      have c1 := hc.cellNever c1
      have c2 := hc.cellNever c2
      have c3 := hc.cellNever c3
      have d0 := hc.cellNever d0
      have d1 := hc.cellNever d1
      have d2 := hc.cellNever d2
      have d3 := hc.cellNever d3
      have hr1 : ∀ n, (convert 22 9 v1).run Tryd.prog (wr.drewN n) = .ok (.string (toB x.body)) (wr.drewN n) := fun n => conv_str ((hv1.never hc).never ((Chg.refl Never wr).drewN n))
      have hr2 : ∀ n, (convert 22 9 v2).run Tryd.prog (wr.drewN n) = .ok (.string (toB x.body)) (wr.drewN n) := fun n => conv_str ((hv2.never hc).never ((Chg.refl Never wr).drewN n))
      have b1 : (k : Int) < l.length := by omega
      obtain ⟨xs, hxs⟩ : ∃ y, x.sender = y := ⟨_, rfl⟩
      obtain ⟨xu, hxu⟩ : ∃ y, x.subject = y := ⟨_, rfl⟩
      obtain ⟨xi, hxi⟩ : ∃ y, x.ident = y := ⟨_, rfl⟩
      obtain ⟨xb, hxb⟩ : ∃ y, toB x.body = y := ⟨_, rfl⟩
      rw [hxs] at c0 d0
      rw [hxu] at c1 d1
      rw [hxi] at c2 d2
      simp only [hxb] at hr1 hr2
      have q1 : (xs.toList != xs.toList) = false := by simp
      have q2 : (xu.toList != xu.toList) = false := by simp
      have q3 : (xi.toList != xi.toList) = false := by simp
      have q4 : (xb.toList != xb.toList) = false := by simp
      clear hx h3 g3 h g hv1 hv2 hxs hxu hxi hxb
      go_wp2_with fail
      go_quiet (fail)
      go_wp2_with fail
      go_roundw
      case rel => exact ⟨k + 1, by omega, by go_num, hc.drewN _⟩
      case measure => simp [intOf]; omega
    · go_wp2_with fail
      go_ret
      exact ⟨rfl, hc⟩
end Go.Proofs.YtnekhaacapdmfaaDoor
namespace Go.Proofs.YtnekhaacapdmfaaDoor
open Go.RowKit

theorem run_many2 {P : Program} {α : Type} [Dat α] {t ty e : TypeId} (hP : ElemOk P t e (Dat.n α)) {w0 : World} {O : Nat → Prop} {v x : Value} {l m : List α}
    (hown : Own e w0 O v l) (hx : Rdv w0 (fun k => O k ∨ v.ownBlock = some k) x m) (hO : ∀ k, O k → k < w0.heap.size) (hlen : l.length + m.length ≤ 1000000000) :
    ∃ v' w', (Builtin.append_ #[t, t] ty #[v, x]).run P w0 = .ok v' w' ∧ Own e w' O v' (l ++ m) ∧ Chg (OwnB v) w0 w' ∧ (∀ k, v'.ownBlock = some k → v.ownBlock = some k ∨ w0.heap.size ≤ k) := by
  obtain ⟨a, cap, rfl, c1, c2, hel⟩ := rdv_slice hx
  rcases Nat.eq_zero_or_pos m.length with h0 | hpos
  · have : m = [] := List.eq_nil_of_length_eq_zero h0
    subst this
    refine ⟨v, w0, ?_, by rw [List.append_nil]; exact hown, Chg.refl _ _, fun k hk => .inl hk⟩
    obtain ⟨xs, hrow, _⟩ := hown
    exact run_append_empty hP hrow a cap
  · obtain ⟨b, off, rfl⟩ : ∃ b off, a = some ⟨b, off, none⟩ := by
      obtain ⟨b, off, es, ha, _⟩ := hel 0 m[0] (by simp [hpos])
      exact ⟨b, off, ha⟩
    obtain ⟨i, z, hi, hz, hsz, hzs, hby⟩ := hP.info
    obtain ⟨xs, hrow, hb, hels⟩ := id hown
    obtain ⟨news, n1, n2, n3, n4⟩ := elems_cells hel m.length (Nat.le_refl _)
    have hpos' := Dat.pos (α := α)
    have hcells : ∀ j u, news[j]? = some u → w0.cell? ((⟨b, off, none⟩ : Addr).add j) = some u := by
      intro j u hj
      have e1 : (⟨b, off, none⟩ : Addr).add j = ⟨b, off + j, none⟩ := by unfold Addr.add; split <;> simp_all
      rw [e1]
      exact n2 j u hj
    have hbound : (l.length + m.length) * i.bytes ≤ 140737488355328 := by
      have := Nat.mul_le_mul hlen hby
      omega
    obtain ⟨v', w', hrun, hown', hgrow, hnil⟩ := run_append_own (P := P) w0 0 t ty e i z (Dat.n α) i.bytes hP.ht hi hz hsz rfl hzs hpos' v l.length xs hrow
      ⟨b, off, none⟩ m.length cap news n1 hcells n3 (by unfold maxLen; omega) hbound (Nat.zero_le _)
    obtain ⟨kb, hkb, hkb'⟩ := append_block (P := P) w0 0 t ty e i z (Dat.n α) i.bytes hP.ht hi hz hsz rfl v l.length xs hrow
      ⟨b, off, none⟩ m.length cap news n1 hcells n3 (by unfold maxLen; omega) hbound (by omega) hrun
    have hc : Chg (OwnB v) w0 w' := Chg.of_grown hgrow
    have hsub : ∀ k, k < w0.heap.size → (O k ∨ v'.ownBlock = some k) → (O k ∨ v.ownBlock = some k) := by
      rintro k hk (h | h)
      · exact .inl h
      · rw [hkb] at h
        injection h with h
        subst h
        rcases hkb' with h | h
        · exact .inr h
        · omega
    refine ⟨v', w', hrun, ⟨xs ++ news, ?_, ?_, ?_⟩, hc, fun k hk => by rw [hkb] at hk; injection hk with hk; subst hk; exact hkb'.imp_right (fun h => Nat.le_of_eq h.symm)⟩
    · rw [List.length_append]; exact hown'
    · intro k hk ho
      rw [hkb] at hk
      injection hk with hk
      subst hk
      rcases hkb' with h | h
      · exact hb _ h ho
      · exact absurd (hO _ ho) (by omega)
    · intro j y hj
      have hxl : xs.length = l.length * Dat.n α := hrow.1
      rcases Nat.lt_or_ge j l.length with hjl | hjl
      · rw [List.getElem?_append_left hjl] at hj
        have hle : j * Dat.n α + Dat.n α ≤ xs.length := by rw [hxl, ← Nat.succ_mul]; exact Nat.mul_le_mul_right _ hjl
        rw [List.drop_append_of_le_length (by omega), List.take_append_of_le_length (by rw [List.length_drop]; omega)]
        exact Dat.keep (hels j y hj) hc (fun k _ hk => .inr hk) hsub
      · rw [List.getElem?_append_right hjl] at hj
        have hjm := (List.getElem?_eq_some_iff.1 hj).1
        have e1 : (xs ++ news).drop (j * Dat.n α) = news.drop ((j - l.length) * Dat.n α) := by
          have e2 : j * Dat.n α = xs.length + (j - l.length) * Dat.n α := by rw [hxl, ← Nat.add_mul]; congr 1; omega
          rw [e2, List.drop_append]
          simp
        rw [e1]
        exact Dat.keep (n4 _ y hjm hj) hc (fun k _ hk => .inr hk) hsub

theorem wpList_many2 {P : Program} {ops : Array Oper} {rest : List Oper} {o : Oper} {a : Act} {Q : Exit → Act → World → Prop} (hgd : o.guard = none) (s x : Operand) (t : TypeId)
    (ho : o.op = .call { callee := .builtin .append, args := #[s, x], argTypes := #[t, t] }) {α : Type} [Dat α] {e : TypeId} (hP : ElemOk P t e (Dat.n α)) {w0 : World} {O : Nat → Prop} {v u : Value} {l m : List α}
    (hs : a.eval s = v) (hx : a.eval x = u) (hown : Own e w0 O v l) (hu : Rdv w0 (fun k => O k ∨ v.ownBlock = some k) u m) (hO : ∀ k, O k → k < w0.heap.size) (hlen : l.length + m.length ≤ 1000000000)
    (h : ∀ v' w', Own e w' O v' (l ++ m) → Chg (OwnB v) w0 w' → (∀ k, v'.ownBlock = some k → v.ownBlock = some k ∨ w0.heap.size ≤ k) → wpList P ops Q rest (a.put o.dst v') w') :
    wpList P ops Q (o :: rest) a w0 := by
  refine wpList_plain hgd fun K hK => ?_
  obtain ⟨v', w', hrun, h1, h2, h3⟩ := run_many2 (ty := o.type) hP hown hu hO hlen
  unfold Oper.wp execOp
  simp only [ho, resolve, invoke, builtin, Sem.run_bind, Sem.run_pure, Result.andThen_ok, List.map_toArray, List.map_cons, List.map_nil, hs, hx, hrun]
  exact hK _ _ (h v' w' h1 h2 h3)

/-- v owns its row, which has come since w0; its elements may lie wherever -/
structure OwnN {α : Type} [Dat α] (e : TypeId) (w0 wr : World) (v : Value) (l : List α) : Prop where
  own : Own e wr Never v l
  new : ∀ k, v.ownBlock = some k → w0.heap.size ≤ k
  chg : Chg Never w0 wr
theorem ownN_nil {α : Type} [Dat α] (e : TypeId) {w0 wr : World} (h : Chg Never w0 wr) : OwnN e w0 wr (.slice none 0 0) ([] : List α) :=
  ⟨own_nil _ _ _, fun k hk => by simp [Value.ownBlock] at hk, h⟩
theorem OwnN.step {α : Type} [Dat α] {e : TypeId} {w0 wr w' : World} {v v' : Value} {l l' : List α} (h : OwnN e w0 wr v l) (hown : Own e w' Never v' l') (hc : Chg (OwnB v) wr w') (hk : ∀ k, v'.ownBlock = some k → v.ownBlock = some k ∨ wr.heap.size ≤ k) : OwnN e w0 w' v' l' :=
  ⟨hown, fun k hk' => (hk k hk').elim (h.new k) (fun hh => Nat.le_trans h.chg.size hh), h.chg.trans' hc (fun i hi hh => absurd (h.new i hh) (by omega))⟩
theorem OwnN.step1 {α : Type} [Dat α] {e : TypeId} {w0 wr w' : World} {v v' : Value} {l l' : List α} (h : OwnN e w0 wr v l) (hown : Own e w' Never v' l') (hc : Chg (OwnB v) wr w') (hk : ∃ k, v'.ownBlock = some k ∧ (v.ownBlock = some k ∨ wr.heap.size ≤ k)) : OwnN e w0 w' v' l' :=
  h.step hown hc (fun k hk' => by
    obtain ⟨j, h1, h2⟩ := hk
    rw [h1] at hk'
    injection hk' with hk'
    subst hk'
    exact h2)
theorem OwnN.never {α : Type} [Dat α] {e : TypeId} {w0 wr w' : World} {v : Value} {l : List α} (h : OwnN e w0 wr v l) (hc : Chg Never wr w') : OwnN e w0 w' v l := ⟨h.own.never hc, h.new, h.chg.trans hc⟩
/-- what was there at the beginning does not lie in the row -/
theorem OwnN.away {α β : Type} [Dat α] [Dat β] {e : TypeId} {w0 wr : World} {v u : Value} {l : List α} {x : β} (h : OwnN e w0 wr v l) (hu : Rdv w0 Never u x) : Rdv wr (fun k => Never k ∨ v.ownBlock = some k) u x :=
  (hu.sub (O' := fun k => Never k ∨ v.ownBlock = some k) (fun k hk hh => by
    rcases hh with hh | hh
    · exact hh
    · exact absurd (h.new k hh) (by omega))).never h.chg
end Go.Proofs.YtnekhaacapdmfaaDoor
