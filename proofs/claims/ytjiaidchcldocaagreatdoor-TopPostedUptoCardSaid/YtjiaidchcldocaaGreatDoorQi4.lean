/-
  PARTS: THE WALK of mail.Parse.; BOXES, in plain Lean: the document's reading of a box (a mail at a time) is the program's (by its pieces).; THE WALKS of mail.Box and of the document's BoxText.
-/
import Derived.Test.YtjiaidchcldocaaGreatDoorPg1
import Derived.Test.YtjiaidchcldocaaGreatDoorPg2
import Derived.Test.YtjiaidchcldocaaGreatDoorPg3
import Derived.Test.YtjiaidchcldocaaGreatDoorPg4
import Derived.Test.YtjiaidchcldocaaGreatDoorPg5
import Derived.Test.YtjiaidchcldocaaGreatDoorPg6
import Derived.Test.YtjiaidchcldocaaGreatDoorPg7
import Derived.Test.YtjiaidchcldocaaGreatDoorPg8
import Derived.Test.YtjiaidchcldocaaGreatDoorPg9
import Derived.Test.YtjiaidchcldocaaGreatDoorPg10
import Derived.Test.YtjiaidchcldocaaGreatDoorPg11
import Derived.Test.YtjiaidchcldocaaGreatDoorPg12
import Derived.Test.YtjiaidchcldocaaGreatDoorPg13
import Derived.Test.YtjiaidchcldocaaGreatDoorPg14
import Derived.Test.YtjiaidchcldocaaGreatDoorPg15
import Derived.Test.YtjiaidchcldocaaGreatDoorPg16
import Derived.Test.YtjiaidchcldocaaGreatDoorPg17
import Derived.Test.YtjiaidchcldocaaGreatDoorPg18
import Derived.Test.YtjiaidchcldocaaGreatDoorPg19
import Derived.Test.YtjiaidchcldocaaGreatDoorPg20
import Derived.Test.YtjiaidchcldocaaGreatDoorPg21
import Derived.Test.YtjiaidchcldocaaGreatDoorPg22
import Derived.Test.YtjiaidchcldocaaGreatDoorPg23
import Derived.Test.YtjiaidchcldocaaGreatDoorPg24
import Derived.Test.YtjiaidchcldocaaGreatDoorPg25
import Derived.Test.YtjiaidchcldocaaGreatDoorPg26
import Derived.Test.YtjiaidchcldocaaGreatDoorPg27
import Derived.Test.YtjiaidchcldocaaGreatDoorPg28
import Derived.Test.YtjiaidchcldocaaGreatDoorPg29
import Derived.Test.YtjiaidchcldocaaGreatDoorPg30
import Derived.Test.YtjiaidchcldocaaGreatDoorPg31
import Derived.Test.YtjiaidchcldocaaGreatDoorPg32
import Derived.Test.YtjiaidchcldocaaGreatDoorPg33
import Derived.Test.YtjiaidchcldocaaGreatDoorPg34
import Derived.Test.YtjiaidchcldocaaGreatDoorPg35
import Derived.Test.YtjiaidchcldocaaGreatDoorPg36
import Derived.Test.YtjiaidchcldocaaGreatDoorPg37
import Derived.Test.YtjiaidchcldocaaGreatDoorPg38
import Derived.Test.YtjiaidchcldocaaGreatDoorQi3
import Derived.Deep.RegionHeld3
import Derived.Deep.Cut
import Derived.Deep.CutRange
set_option linter.unusedVariables false
set_option linter.unusedSimpArgs false
namespace Go.Proofs.YtjiaidchcldocaaGreatDoor
open Go.RowKit

def noMail : Mail := ⟨ByteArray.empty, ByteArray.empty, ByteArray.empty, []⟩
def parseR (s : ByteArray) : Mail := (parseM s.data.toList).getD noMail
def parseF (s : ByteArray) : Int := if (parseM s.data.toList).isSome = true then 0 else 5
theorem splitN_len : ∀ (k : Nat) (s : List UInt8), (splitN k s).length ≤ k + 1
  | 0, s => by rw [splitN]; simp
  | k + 1, s => by
    rw [splitN]
    cases cutSub [10] s with
    | none => simp
    | some p => have := splitN_len k p.2; simp; omega
theorem splitN_small : ∀ (k : Nat) (s : List UInt8), ∀ x ∈ splitN k s, x.length ≤ s.length
  | 0, s => by rw [splitN]; simp
  | k + 1, s => by
    rw [splitN]
    cases h : cutSub [10] s with
    | none => simp
    | some p =>
      obtain ⟨a, b⟩ := p
      have e := cut_some h
      intro x hx
      rw [e]
      simp only [List.length_append]
      rcases List.mem_cons.1 hx with rfl | hx
      · omega
      · have := splitN_small k b x hx; omega
theorem dec_fine {s : ByteArray} (h : decFault s = 0) : (decodeR s).length ≤ 40000 ∧ encL (decodeR s) = s.data.toList := by
  have h' := h
  unfold decFault at h
  split at h
  · rename_i q
    unfold decodeR
    rw [if_pos h']
    exact q
  · cases h
theorem field_len (p q s : List UInt8) : (fieldL p q s).length ≤ s.length := by
  unfold fieldL
  have h1 : ((dropPre p s).getD s).length ≤ s.length := by
    unfold dropPre
    split
    · show (s.drop _).length ≤ _; rw [List.length_drop]; omega
    · exact Nat.le_refl _
  refine Nat.le_trans ?_ h1
  unfold dropSuf
  split
  · show (List.take _ _).length ≤ _; rw [List.length_take]; omega
  · exact Nat.le_refl _
/-- the library's row of parts reads as the parts -/
theorem rdv_cellsOf {w : World} {g N n : Nat} {e : TypeId} {fr : Nat × Nat} {l : List ByteArray} (h : w.heap[g]? = some (.cells (Lib.cellsOf l N) e fr)) (hn : n = l.length) (hN : l.length ≤ N) (hm : N ≤ maxLen) (hs : ∀ x ∈ l, x.size ≤ maxLen) :
    Rdv w Never (.slice (some ⟨g, 0, none⟩) n N) l := by
  subst hn
  refine ⟨some ⟨g, 0, none⟩, N, rfl, hN, hm, ?_⟩
  intro i x hx
  refine ⟨g, 0, [.string x], rfl, fun h => h, ?_, rfl, hs x (List.mem_of_getElem? hx)⟩
  intro j u hj
  match j, hj with
  | 0, hj =>
    simp only [List.getElem?_cons_zero, Option.some.injEq] at hj
    subst hj
    have hi := (List.getElem?_eq_some_iff.1 hx).1
    simp only [World.cell?, h, Lib.cellsOf]
    show _ = _
    rw [show 0 + i * Dat.n ByteArray + 0 = i by show 0 + i * 1 + 0 = i; omega]
    simp only [List.getElem?_toArray]
    rw [List.getElem?_append_left (by simpa using hi), List.getElem?_map, hx]; rfl
/-- strings.SplitN(s, "\n", 6) -/
theorem pieces_eq (s : ByteArray) : Lib.splitB ⟨#[10]⟩ 0 (min 6 (s.size + 1) - 1) s = (splitN 5 s.data.toList).map toB := by
  have h := Lib.splitB_data ⟨#[10]⟩ 0 (min 6 (s.size + 1) - 1) s
  have h2 := splitN_6 s.data.toList
  rw [← Lib.size_eq] at h2
  rw [show (⟨#[10]⟩ : ByteArray).data.toList = [10] from rfl, h2] at h
  rw [← h, List.map_map, map_toB]

theorem mkeep {w2 wr : World} {o : Obj} {p q r : Addr} {a b c : Value} (h : Chg Never w2 wr ∧ wr.cell? p = some a ∧ wr.cell? q = some b ∧ wr.cell? r = some c) :
    Chg Never w2 (wr.alloc o) ∧ (wr.alloc o).cell? p = some a ∧ (wr.alloc o).cell? q = some b ∧ (wr.alloc o).cell? r = some c :=
  have k := (Chg.refl Never wr).alloc o
  ⟨h.1.alloc o, k.cellNever h.2.1, k.cellNever h.2.2.1, k.cellNever h.2.2.2⟩
theorem mfin {w2 : World} {o : Obj} {p q r : Addr} {a b c : Value} (c0 : w2.cell? p = some a) (c1 : w2.cell? q = some b) (c2 : w2.cell? r = some c) :
    Chg Never w2 (w2.alloc o).drew ∧ (w2.alloc o).drew.cell? p = some a ∧ (w2.alloc o).drew.cell? q = some b ∧ (w2.alloc o).drew.cell? r = some c :=
  have k := ((Chg.refl Never w2).alloc o).drew
  ⟨k, k.cellNever c0, k.cellNever c1, k.cellNever c2⟩
theorem put4 {w : World} {k : Nat} {a b c d x0 x1 x2 x3 : Value} (b0 : w.cell? ⟨k, 0, none⟩ = some x0) (b1 : w.cell? ⟨k, 1, none⟩ = some x1) (b2 : w.cell? ⟨k, 2, none⟩ = some x2) (b3 : w.cell? ⟨k, 3, none⟩ = some x3) :
    let W := (((w.setCell ⟨k, 0, none⟩ a).setCell ⟨k, 1, none⟩ b).setCell ⟨k, 2, none⟩ c).setCell ⟨k, 3, none⟩ d
    W.cell? ⟨k, 0, none⟩ = some a ∧ W.cell? ⟨k, 1, none⟩ = some b ∧ W.cell? ⟨k, 2, none⟩ = some c ∧ W.cell? ⟨k, 3, none⟩ = some d := by
  have n01 : (⟨k, 0, none⟩ : Addr) ≠ ⟨k, 1, none⟩ := by simp
  have n02 : (⟨k, 0, none⟩ : Addr) ≠ ⟨k, 2, none⟩ := by simp
  have n03 : (⟨k, 0, none⟩ : Addr) ≠ ⟨k, 3, none⟩ := by simp
  have n12 : (⟨k, 1, none⟩ : Addr) ≠ ⟨k, 2, none⟩ := by simp
  have n13 : (⟨k, 1, none⟩ : Addr) ≠ ⟨k, 3, none⟩ := by simp
  have n23 : (⟨k, 2, none⟩ : Addr) ≠ ⟨k, 3, none⟩ := by simp
  intro W
  refine ⟨?_, ?_, ?_, ?_⟩
  · rw [World.cell?_setCell_other _ _ _ _ n03.symm, World.cell?_setCell_other _ _ _ _ n02.symm, World.cell?_setCell_other _ _ _ _ n01.symm]
    exact World.cell?_setCell_same _ _ _ b0
  · rw [World.cell?_setCell_other _ _ _ _ n13.symm, World.cell?_setCell_other _ _ _ _ n12.symm]
    exact World.cell?_setCell_same _ _ _ (by rw [World.cell?_setCell_other _ _ _ _ n01]; exact b1)
  · rw [World.cell?_setCell_other _ _ _ _ n23.symm]
    exact World.cell?_setCell_same _ _ _ (by rw [World.cell?_setCell_other _ _ _ _ n12, World.cell?_setCell_other _ _ _ _ n02]; exact b2)
  · exact World.cell?_setCell_same _ _ _ (by rw [World.cell?_setCell_other _ _ _ _ n23, World.cell?_setCell_other _ _ _ _ n13, World.cell?_setCell_other _ _ _ _ n03]; exact b3)

set_option maxHeartbeats 1000000 in
set_option maxRecDepth 100000 in
theorem Parse_any (s : ByteArray) (w : World) (hs : s.size ≤ 10000000) (m : Int) (hm : w.cell? ⟨1, 0, none⟩ = some (.int .i64 m)) :
    Calls Tryz.prog 90 #[.string s] w fun e w' => ∃ v, e = .returned (.tuple #[mailV (parseR s) v, errV (parseF s)]) ∧ Chg Never w w' ∧ Rdv w' (Old w.heap.size) v (parseR s).body := by
  have hp := pieces_eq s
  have hpl : Hid ((Lib.splitB ⟨#[10]⟩ 0 (min 6 (s.size + 1) - 1) s).length ≤ min 6 (s.size + 1)) := by
    have := Lib.splitB_length_le ⟨#[10]⟩ 0 (min 6 (s.size + 1) - 1) s
    unfold Hid; omega
  go_enter Tryz.func90, Tryz.ntmps90
  go_wp2_with fail
  obtain ⟨hA, b0, b1, b2, b3⟩ := box1_mail w 31 ⟨#[]⟩ ⟨#[]⟩ ⟨#[]⟩ (.slice none 0 0) _ rfl
  have hfz : ∀ k, (w.alloc (.cells #[.string ⟨#[]⟩, .string ⟨#[]⟩, .string ⟨#[]⟩, .slice none 0 0] 31)).frozen? ⟨w.heap.size, k, none⟩ = false := fun k => by
    simp only [World.frozen?]
    rw [heap_alloc_new]
    simp
  have hB0 : w.heap.size < (w.alloc (.cells #[.string ⟨#[]⟩, .string ⟨#[]⟩, .string ⟨#[]⟩, .slice none 0 0] 31)).heap.size := by simp
  generalize w.alloc (.cells #[.string ⟨#[]⟩, .string ⟨#[]⟩, .string ⟨#[]⟩, .slice none 0 0] 31) = wA at hA b0 b1 b2 b3 hfz hB0 ⊢
  refine (Tryz.strings_SplitN s ⟨#[10]⟩ 6 m _ (by omega) (hA.cellNever hm) (by decide) (by decide) (by decide)).mono ?_
  rintro e w1 ⟨rfl, rfl⟩
  have hnew := heap_alloc_new wA (.cells (Lib.cellsOf (Lib.splitB ⟨#[10]⟩ 0 (min 6 (s.size + 1) - 1) s) (min 6 (s.size + 1))) 9)
  have hw1 : Chg Never w (wA.alloc (.cells (Lib.cellsOf (Lib.splitB ⟨#[10]⟩ 0 (min 6 (s.size + 1) - 1) s) (min 6 (s.size + 1))) 9)) := hA.alloc _
  have hc1 : Chg Never wA (wA.alloc (.cells (Lib.cellsOf (Lib.splitB ⟨#[10]⟩ 0 (min 6 (s.size + 1) - 1) s) (min 6 (s.size + 1))) 9)) := (Chg.refl Never wA).alloc _
  rw [hp] at hnew hw1 hc1 hpl ⊢
  have hpz : ∀ x ∈ (splitN 5 s.data.toList).map toB, x.size ≤ 10000000 := by
    intro x hx
    obtain ⟨y, hy, rfl⟩ := List.mem_map.1 hx
    have := splitN_small 5 _ y hy
    rw [toB_size]
    rw [← Lib.size_eq] at this
    omega
  have hrd := rdv_cellsOf hnew (n := ((splitN 5 s.data.toList).map toB).length) rfl hpl.out (by unfold maxLen; omega) (fun x hx => by have := hpz x hx; unfold maxLen; omega)
  obtain ⟨N, hN⟩ : ∃ N, min 6 (s.size + 1) = N := ⟨_, rfl⟩
  rw [hN] at hrd hw1 hc1 hpl ⊢
  have hN6 : N ≤ 6 := by omega
  generalize wA.alloc (.cells (Lib.cellsOf ((splitN 5 s.data.toList).map toB) N) 9) = wB at hrd hw1 hc1 ⊢
  have b0 := hc1.cellNever b0
  have b1 := hc1.cellNever b1
  have b2 := hc1.cellNever b2
  have b3 := hc1.cellNever b3
  have hfz : ∀ k, wB.frozen? ⟨w.heap.size, k, none⟩ = false := fun k => by rw [hc1.frozen hB0 (fun x => x)]; exact hfz k
  have hB0 : w.heap.size < wB.heap.size := Nat.lt_of_lt_of_le hB0 hc1.size
  clear hnew hN hA hc1 hp
  have hlen := splitN_len 5 s.data.toList
  obtain ⟨P, hP⟩ : ∃ P, splitN 5 s.data.toList = P := ⟨_, rfl⟩
  have HP := Lib.hid hP
  rw [hP] at hrd hpl hpz hlen ⊢
  clear hP
  by_cases h6 : P.length = 6
  · obtain ⟨a, b, c, d, e, z, rfl⟩ : ∃ a b c d e z, P = [a, b, c, d, e, z] := by
      match P, h6 with
      | [a, b, c, d, e, z], _ => exact ⟨a, b, c, d, e, z, rfl⟩
    clear h6 hlen
    have za := hpz (toB a) (by simp)
    have zb := hpz (toB b) (by simp)
    have zc := hpz (toB c) (by simp)
    have zz := hpz (toB z) (by simp)
    obtain ⟨aP, capP, hsl, _, _, hel⟩ := rdv_slice hrd
    simp only [Value.slice.injEq] at hsl
    obtain ⟨rfl, _, rfl⟩ := hsl
    obtain ⟨q1, q2, hq, _, _, c0, _⟩ := elems_str hel (i := 0) (x := toB a) rfl
    simp only [Option.some.injEq, Addr.mk.injEq, and_true] at hq
    obtain ⟨rfl, rfl⟩ := hq
    obtain ⟨q1, q2, hq, _, _, c1, _⟩ := elems_str hel (i := 1) (x := toB b) rfl
    simp only [Option.some.injEq, Addr.mk.injEq, and_true] at hq
    obtain ⟨rfl, rfl⟩ := hq
    obtain ⟨q1, q2, hq, _, _, c2, _⟩ := elems_str hel (i := 2) (x := toB c) rfl
    simp only [Option.some.injEq, Addr.mk.injEq, and_true] at hq
    obtain ⟨rfl, rfl⟩ := hq
    obtain ⟨q1, q2, hq, _, _, c5, _⟩ := elems_str hel (i := 5) (x := toB z) rfl
    simp only [Option.some.injEq, Addr.mk.injEq, and_true] at hq
    obtain ⟨rfl, rfl⟩ := hq
    simp only [Nat.zero_add] at c0 c1 c2 c5
    obtain ⟨PB, hPB⟩ : ∃ PB, wA.heap.size = PB := ⟨_, rfl⟩
    rw [hPB] at c0 c1 c2 c5 ⊢
    clear hPB
    clear hel hrd hpl
    go_wp2_with fail
    refine (Decode_any (toB z) _ (by omega) m (hw1.cellNever hm)).mono ?_
    rintro e' w2 ⟨r2, rfl, hc2, hr2⟩
    have hw2 := hw1.trans hc2
    have b0 := hc2.cellNever b0
    have b1 := hc2.cellNever b1
    have b2 := hc2.cellNever b2
    have b3 := hc2.cellNever b3
    have c0 := hc2.cellNever c0
    have c1 := hc2.cellNever c1
    have c2 := hc2.cellNever c2
    have hfz : ∀ k, w2.frozen? ⟨w.heap.size, k, none⟩ = false := fun k => by rw [hc2.frozen hB0 (fun x => x)]; exact hfz k
    have hBo := hB0
    have hB0 : w.heap.size < w2.heap.size := Nat.lt_of_lt_of_le hB0 hc2.size
    have hr2o := hr2
    have hr2 : Rdv w2 (Old w.heap.size) r2 _ := hr2.sub (fun k _ hk => Nat.lt_of_lt_of_le hk hw1.size)
    clear hc2 c5
    by_cases hf : decFault (toB z) = 0
    · have hdR : decodeR (toB z) = decL z := by unfold decodeR; rw [if_pos hf, toB_data]
      obtain ⟨hk1, hk2⟩ := dec_fine hf
      rw [hdR, toB_data] at hk2
      rw [hdR] at hk1 hr2 hr2o
      have hcond : Hid (encL (decL z) = z ∧ (decL z).length ≤ 40000) := ⟨hk2, hk1⟩
      have F1 : ∀ wx, Calls Tryz.prog 140 #[.string (toB a), .string ⟨#[70, 114, 111, 109, 58, 32]⟩, .string ⟨#[]⟩] wx fun e w' => e = .returned (.string (toB (fieldL fromW [] a))) ∧ w' = wx := fun wx => by
        have := field_any (toB a) (toB fromW) (toB []) wx (by omega)
        rw [toB_data, toB_data, toB_data] at this
        exact this
      have F2 : ∀ wx, Calls Tryz.prog 140 #[.string (toB b), .string ⟨#[83, 117, 98, 106, 101, 99, 116, 58, 32]⟩, .string ⟨#[]⟩] wx fun e w' => e = .returned (.string (toB (fieldL subjW [] b))) ∧ w' = wx := fun wx => by
        have := field_any (toB b) (toB subjW) (toB []) wx (by omega)
        rw [toB_data, toB_data, toB_data] at this
        exact this
      have F3 : ∀ wx, Calls Tryz.prog 140 #[.string (toB c), .string ⟨#[77, 101, 115, 115, 97, 103, 101, 45, 73, 68, 58, 32, 60]⟩, .string ⟨#[62]⟩] wx fun e w' => e = .returned (.string (toB (fieldL idW [62] c))) ∧ w' = wx := fun wx => by
        have := field_any (toB c) (toB idW) (toB [62]) wx (by omega)
        rw [toB_data, toB_data, toB_data] at this
        exact this
      have fl1 := field_len fromW [] a
      have fl2 := field_len subjW [] b
      have fl3 := field_len idW [62] c
      rw [toB_size] at za zb zc
      rw [hf, errV_zero]
      clear hf hk1 hk2 hdR
      go_wp2_with fail
      obtain ⟨A, hA1⟩ : ∃ A, toB a = A := ⟨_, rfl⟩
      obtain ⟨B, hB1⟩ : ∃ B, toB b = B := ⟨_, rfl⟩
      obtain ⟨C, hC1⟩ : ∃ C, toB c = C := ⟨_, rfl⟩
      obtain ⟨X, hX1⟩ : ∃ X, toB (fieldL fromW [] a) = X := ⟨_, rfl⟩
      obtain ⟨Y, hY1⟩ : ∃ Y, toB (fieldL subjW [] b) = Y := ⟨_, rfl⟩
      obtain ⟨Z, hZ1⟩ : ∃ Z, toB (fieldL idW [62] c) = Z := ⟨_, rfl⟩
      obtain ⟨r2a, r2c, rfl, _, _, _⟩ := rdv_slice hr2
      obtain ⟨L2, hL2⟩ : ∃ L2, (decL z).length = L2 := ⟨_, rfl⟩
      rw [hL2] at hr2 hr2o ⊢
      have HX1 := Lib.hid hX1
      have HY1 := Lib.hid hY1
      have HZ1 := Lib.hid hZ1
      rw [hA1] at c0
      rw [hB1] at c1
      rw [hC1] at c2
      rw [hA1, hX1] at F1
      rw [hB1, hY1] at F2
      rw [hC1, hZ1] at F3
      clear hA1 hB1 hC1 hX1 hY1 hZ1 hL2
      obtain ⟨gA, g0, g1, g2, g3⟩ := box1_mail w2 31 X Y Z (.slice r2a L2 r2c) _ rfl
      go_upto_region 7 with fail
      go_cut [7] from 28 to 56 (fun p wx => ∃ k, p = .pointer (some ⟨k, 0, none⟩) ∧ w2.heap.size ≤ k ∧ Hid (Chg Never w2 wx) ∧ wx.cell? ⟨k, 0, none⟩ = some (.string X) ∧ wx.cell? ⟨k, 1, none⟩ = some (.string Y) ∧ wx.cell? ⟨k, 2, none⟩ = some (.string Z) ∧ wx.cell? ⟨k, 3, none⟩ = some (.slice r2a L2 r2c))
      case first =>
        refine wp_region_held_drew (S := fun w' => Chg Never w2 w' ∧ w'.cell? ⟨PB, 0, none⟩ = some (.string A) ∧ w'.cell? ⟨PB, 1, none⟩ = some (.string B) ∧ w'.cell? ⟨PB, 2, none⟩ = some (.string C)) (by kernel_rfl) ⟨(Chg.refl Never w2).drew, c0, c1, c2⟩ (fun hH => ?_)
        refine' tk 0 ?_
        refine' tk 1 ?_
        refine' tk 2 ?_
        refine' tk 4 ?_
        refine' tk 5 ?_
        refine' tk 6 ?_
        refine' tk 8 ?_
        refine' tk 9 ?_
        refine' tk 10 ?_
        refine' tk 12 ?_
        refine wpAnyH_ready (rs := [3, 14]) (by kernel_rfl) (by simp) ?_
        refine AllReadyH.cons rfl (fun K hK => ?_) (AllReadyH.cons rfl (fun K hK => ?_) AllReadyH.nil)
        · go_simp
          go_at_call 140
          refine (F1 _).mono ?_
          rintro e wq ⟨rfl, rfl⟩
          try go_wp2_with fail
          refine hK.out _ _ ?_ (fun hH => ?_)
          · assumption
          clear hK K
          try simp only [Act.put, List.setIfInBounds_toArray, List.set_cons_zero, List.set_cons_succ]
          refine wpAnyH_ready (rs := [7, 14]) (by kernel_rfl) (by simp) ?_
          refine AllReadyH.cons rfl (fun K hK => ?_) (AllReadyH.cons rfl (fun K hK => ?_) AllReadyH.nil)
          · go_simp
            go_at_call 140
            refine (F2 _).mono ?_
            rintro e wq ⟨rfl, rfl⟩
            try go_wp2_with fail
            refine hK.out _ _ ?_ (fun hH => ?_)
            · assumption
            clear hK K
            try simp only [Act.put, List.setIfInBounds_toArray, List.set_cons_zero, List.set_cons_succ]
            refine wpAnyH_ready (rs := [11, 14]) (by kernel_rfl) (by simp) ?_
            refine AllReadyH.cons rfl (fun K hK => ?_) (AllReadyH.cons rfl (fun K hK => ?_) AllReadyH.nil)
            · go_simp
              go_at_call 140
              refine (F3 _).mono ?_
              rintro e wq ⟨rfl, rfl⟩
              try go_wp2_with fail
              refine hK.out _ _ ?_ (fun hH => ?_)
              · assumption
              clear hK K
              try simp only [Act.put, List.setIfInBounds_toArray, List.set_cons_zero, List.set_cons_succ]
              refine' tk 13 ?_
              refine wpAnyH_ready (rs := [14]) (by kernel_rfl) (by simp) ?_
              refine AllReadyH.cons rfl (fun K hK => ?_) AllReadyH.nil
              go_simp
              refine hK.out _ _ ?_ (fun hH => ?_)
              · exact mkeep (by assumption)
              clear hK K
              try simp only [Act.put, List.setIfInBounds_toArray, List.set_cons_zero, List.set_cons_succ]
              refine wpAnyH_ready (rs := [15]) (by kernel_rfl) (by simp) ?_
              refine AllReadyH.cons rfl (fun K hK => ?_) AllReadyH.nil
              go_simp
              refine hK.out _ _ ?_ (fun hH => ?_)
              · exact mfin c0 c1 c2
              clear hK K
              try simp only [Act.put, List.setIfInBounds_toArray, List.set_cons_zero, List.set_cons_succ]
              refine wpAnyH_done (by kernel_rfl) ?_ _
              go_wp2_with fail
              go_meet
              exact ⟨_, rfl, Nat.le_refl _, gA.drew, g0, g1, g2, g3⟩
            · go_simp
              refine hK.out _ _ ?_ (fun hH => ?_)
              · exact mkeep (by assumption)
              clear hK K
              try simp only [Act.put, List.setIfInBounds_toArray, List.set_cons_zero, List.set_cons_succ]
              refine wpAnyH_ready (rs := [11]) (by kernel_rfl) (by simp) ?_
              refine AllReadyH.cons rfl (fun K hK => ?_) AllReadyH.nil
              go_simp
              go_at_call 140
              refine (F3 _).mono ?_
              rintro e wq ⟨rfl, rfl⟩
              try go_wp2_with fail
              refine hK.out _ _ ?_ (fun hH => ?_)
              · assumption
              clear hK K
              try simp only [Act.put, List.setIfInBounds_toArray, List.set_cons_zero, List.set_cons_succ]
              refine' tk 13 ?_
              refine wpAnyH_ready (rs := [15]) (by kernel_rfl) (by simp) ?_
              refine AllReadyH.cons rfl (fun K hK => ?_) AllReadyH.nil
              go_simp
              refine hK.out _ _ ?_ (fun hH => ?_)
              · exact mfin c0 c1 c2
              clear hK K
              try simp only [Act.put, List.setIfInBounds_toArray, List.set_cons_zero, List.set_cons_succ]
              refine wpAnyH_done (by kernel_rfl) ?_ _
              go_wp2_with fail
              go_meet
              exact ⟨_, rfl, Nat.le_refl _, gA.drew, g0, g1, g2, g3⟩
          · go_simp
            refine hK.out _ _ ?_ (fun hH => ?_)
            · exact mkeep (by assumption)
            clear hK K
            try simp only [Act.put, List.setIfInBounds_toArray, List.set_cons_zero, List.set_cons_succ]
            refine wpAnyH_ready (rs := [7]) (by kernel_rfl) (by simp) ?_
            refine AllReadyH.cons rfl (fun K hK => ?_) AllReadyH.nil
            go_simp
            go_at_call 140
            refine (F2 _).mono ?_
            rintro e wq ⟨rfl, rfl⟩
            try go_wp2_with fail
            refine hK.out _ _ ?_ (fun hH => ?_)
            · assumption
            clear hK K
            try simp only [Act.put, List.setIfInBounds_toArray, List.set_cons_zero, List.set_cons_succ]
            refine wpAnyH_ready (rs := [11]) (by kernel_rfl) (by simp) ?_
            refine AllReadyH.cons rfl (fun K hK => ?_) AllReadyH.nil
            go_simp
            go_at_call 140
            refine (F3 _).mono ?_
            rintro e wq ⟨rfl, rfl⟩
            try go_wp2_with fail
            refine hK.out _ _ ?_ (fun hH => ?_)
            · assumption
            clear hK K
            try simp only [Act.put, List.setIfInBounds_toArray, List.set_cons_zero, List.set_cons_succ]
            refine' tk 13 ?_
            refine wpAnyH_ready (rs := [15]) (by kernel_rfl) (by simp) ?_
            refine AllReadyH.cons rfl (fun K hK => ?_) AllReadyH.nil
            go_simp
            refine hK.out _ _ ?_ (fun hH => ?_)
            · exact mfin c0 c1 c2
            clear hK K
            try simp only [Act.put, List.setIfInBounds_toArray, List.set_cons_zero, List.set_cons_succ]
            refine wpAnyH_done (by kernel_rfl) ?_ _
            go_wp2_with fail
            go_meet
            exact ⟨_, rfl, Nat.le_refl _, gA.drew, g0, g1, g2, g3⟩
        · go_simp
          refine hK.out _ _ ?_ (fun hH => ?_)
          · exact mkeep (by assumption)
          clear hK K
          try simp only [Act.put, List.setIfInBounds_toArray, List.set_cons_zero, List.set_cons_succ]
          refine wpAnyH_ready (rs := [3]) (by kernel_rfl) (by simp) ?_
          refine AllReadyH.cons rfl (fun K hK => ?_) AllReadyH.nil
          go_simp
          go_at_call 140
          refine (F1 _).mono ?_
          rintro e wq ⟨rfl, rfl⟩
          try go_wp2_with fail
          refine hK.out _ _ ?_ (fun hH => ?_)
          · assumption
          clear hK K
          try simp only [Act.put, List.setIfInBounds_toArray, List.set_cons_zero, List.set_cons_succ]
          refine wpAnyH_ready (rs := [7]) (by kernel_rfl) (by simp) ?_
          refine AllReadyH.cons rfl (fun K hK => ?_) AllReadyH.nil
          go_simp
          go_at_call 140
          refine (F2 _).mono ?_
          rintro e wq ⟨rfl, rfl⟩
          try go_wp2_with fail
          refine hK.out _ _ ?_ (fun hH => ?_)
          · assumption
          clear hK K
          try simp only [Act.put, List.setIfInBounds_toArray, List.set_cons_zero, List.set_cons_succ]
          refine wpAnyH_ready (rs := [11]) (by kernel_rfl) (by simp) ?_
          refine AllReadyH.cons rfl (fun K hK => ?_) AllReadyH.nil
          go_simp
          go_at_call 140
          refine (F3 _).mono ?_
          rintro e wq ⟨rfl, rfl⟩
          try go_wp2_with fail
          refine hK.out _ _ ?_ (fun hH => ?_)
          · assumption
          clear hK K
          try simp only [Act.put, List.setIfInBounds_toArray, List.set_cons_zero, List.set_cons_succ]
          refine' tk 13 ?_
          refine wpAnyH_ready (rs := [15]) (by kernel_rfl) (by simp) ?_
          refine AllReadyH.cons rfl (fun K hK => ?_) AllReadyH.nil
          go_simp
          refine hK.out _ _ ?_ (fun hH => ?_)
          · exact mfin c0 c1 c2
          clear hK K
          try simp only [Act.put, List.setIfInBounds_toArray, List.set_cons_zero, List.set_cons_succ]
          refine wpAnyH_done (by kernel_rfl) ?_ _
          go_wp2_with fail
          go_meet
          exact ⟨_, rfl, Nat.le_refl _, gA.drew, g0, g1, g2, g3⟩
      case rest =>
        obtain ⟨k, rfl, hk, hcc, k0, k1, k2, k3⟩ := hcut
        have hw3 := hw2.trans hcc.out
        have hrd : Rdv wc Never (.slice r2a L2 r2c) (decL z) := (hr2.never hcc.out).sub (fun _ _ h => h.elim)
        have hpm : Hid (parseM s.data.toList = if mailFault ⟨X, Y, Z, decL z⟩ = 0 ∧ mailText ⟨X, Y, Z, decL z⟩ = s.data.toList then some ⟨X, Y, Z, decL z⟩ else none) := by
          unfold Hid parseM
          rw [HP.out]
          simp only
          rw [if_pos hcond.out, HX1.out, HY1.out, HZ1.out]
        have sx : X.size ≤ maxLen := by rw [← HX1.out, toB_size]; unfold maxLen; omega
        have sy : Y.size ≤ maxLen := by rw [← HY1.out, toB_size]; unfold maxLen; omega
        have sz : Z.size ≤ maxLen := by rw [← HZ1.out, toB_size]; unfold maxLen; omega
        have PC := mail_print_any ⟨X, Y, Z, decL z⟩ (.slice r2a L2 r2c) wc hrd ⟨sx, sy, sz⟩
        obtain ⟨PR, hPR⟩ : ∃ PR, printR ⟨X, Y, Z, decL z⟩ = PR := ⟨_, rfl⟩
        have HPR := Lib.hid hPR
        rw [hPR] at PC
        clear hPR sx sy sz F1 F2 F3 gA g0 g1 g2 g3 c0 c1 c2
        have hfz5 : ∀ {w4 : World}, Chg Never w2 w4 → ∀ k, w4.frozen? ⟨w.heap.size, k, none⟩ = false := fun hc5 k => by rw [hc5.frozen hB0 (fun x => x)]; exact hfz k
        by_cases hz : mailFault ⟨X, Y, Z, decL z⟩ = 0
        · have HZ := Lib.hid hz
          have hPR : Hid (PR = toB (mailText ⟨X, Y, Z, decL z⟩)) := by have := HPR.out; unfold printR at this; rw [if_pos hz] at this; exact this.symm
          rw [hz, errV_zero] at PC
          clear hz
          by_cases hPs : PR = s
          · have hb : (PR.toList != s.toList) = false := by rw [hPs]; simp
            have hps : Hid (parseM s.data.toList = some ⟨X, Y, Z, decL z⟩) := by
              unfold Hid
              rw [hpm.out, if_pos]
              refine ⟨HZ.out, ?_⟩
              rw [← hPs, hPR.out, toB_data]
            have HR : Hid (parseR s = ⟨X, Y, Z, decL z⟩) := by unfold Hid parseR; rw [hps.out]; rfl
            have HF : Hid (parseF s = 0) := by unfold Hid parseF; rw [hps.out]; rfl
            go_wp2_with (first | (go_at_call 87; refine PC.mono ?_; rintro e' w4 ⟨rfl, hc4⟩; have hc5 := hcc.out.trans hc4; have b0 := hc5.cellNever b0; have b1 := hc5.cellNever b1; have b2 := hc5.cellNever b2; have b3 := hc5.cellNever b3; have k0 := hc4.cellNever k0; have k1 := hc4.cellNever k1; have k2 := hc4.cellNever k2; have k3 := hc4.cellNever k3; have f0 := hfz5 hc5 0; have f1 := hfz5 hc5 1; have f2 := hfz5 hc5 2; have f3 := hfz5 hc5 3))
            have P4 := put4 (a := .string X) (b := .string Y) (c := .string Z) (d := .slice r2a L2 r2c) b0 b1 b2 b3
            have P5 : Chg (fun k => k = w.heap.size) w2 ((((w4.setCell ⟨w.heap.size, 0, none⟩ (.string X)).setCell ⟨w.heap.size, 1, none⟩ (.string Y)).setCell ⟨w.heap.size, 2, none⟩ (.string Z)).setCell ⟨w.heap.size, 3, none⟩ (.slice r2a L2 r2c)) := ((((hc5.mono (O' := fun k => k = w.heap.size) (fun _ _ h => h.elim)).setCell (.inr rfl) _).setCell (.inr rfl) _).setCell (.inr rfl) _).setCell (.inr rfl) _
            have P6 : Chg Never w ((((w4.setCell ⟨w.heap.size, 0, none⟩ (.string X)).setCell ⟨w.heap.size, 1, none⟩ (.string Y)).setCell ⟨w.heap.size, 2, none⟩ (.string Z)).setCell ⟨w.heap.size, 3, none⟩ (.slice r2a L2 r2c)) := ((((hw3.trans hc4).setCell (.inl (Nat.le_refl _)) _).setCell (.inl (Nat.le_refl _)) _).setCell (.inl (Nat.le_refl _)) _).setCell (.inl (Nat.le_refl _)) _
            have P7 := hr2o.keep (O'' := Old w.heap.size) P5 (fun k _ e => by subst e; exact hBo) (fun k _ hk => Nat.lt_trans hk hBo)
            generalize (((w4.setCell ⟨w.heap.size, 0, none⟩ (.string X)).setCell ⟨w.heap.size, 1, none⟩ (.string Y)).setCell ⟨w.heap.size, 2, none⟩ (.string Z)).setCell ⟨w.heap.size, 3, none⟩ (.slice r2a L2 r2c) = wZ at P4 P5 P6 P7 ⊢
            obtain ⟨d0, d1, d2, d3⟩ := P4
            refine bodyPost_ret (v := .tuple #[.agg #[.string X, .string Y, .string Z, .slice r2a L2 r2c], .nilIface]) (by simp [results, Tryz.results90, go_sem, d0, d1, d2, d3]) rfl ?_
            exact ⟨_, by rw [HR.out, HF.out]; rfl, P6, by rw [HR.out]; exact P7⟩
          · have hb2 : (PR.toList == s.toList) = false := str_beq_false hPs
            have hb : (PR.toList != s.toList) = true := by
              simp only [bne, str_beq_false hPs, Bool.not_false]
            have hpn : Hid (parseM s.data.toList = none) := by
              unfold Hid
              rw [hpm.out, if_neg]
              rintro ⟨_, g⟩
              exact hPs (by rw [hPR.out, g]; rfl)
            have HR : Hid (parseR s = noMail) := by unfold Hid parseR; rw [hpn.out]; rfl
            have HF : Hid (parseF s = 5) := by unfold Hid parseF; rw [hpn.out]; rfl
            go_wp2_with (first | (go_at_call 87; refine PC.mono ?_; rintro e' w4 ⟨rfl, hc4⟩; have hc5 := hcc.out.trans hc4; have b0 := hc5.cellNever b0; have b1 := hc5.cellNever b1; have b2 := hc5.cellNever b2; have b3 := hc5.cellNever b3; have k0 := hc4.cellNever k0; have k1 := hc4.cellNever k1; have k2 := hc4.cellNever k2; have k3 := hc4.cellNever k3; have f0 := hfz5 hc5 0; have f1 := hfz5 hc5 1; have f2 := hfz5 hc5 2; have f3 := hfz5 hc5 3; have S0 := cell_put_eq b0; have S1 := cell_put_eq b1; have S2 := cell_put_eq b2; have S3 := cell_put_eq b3))
            refine bodyPost_ret (v := .tuple #[.agg #[.string ⟨#[]⟩, .string ⟨#[]⟩, .string ⟨#[]⟩, .slice none 0 0], .iface 38 (.int .i64 5)]) (by simp [results, Tryz.results90, go_sem, b0, b1, b2, b3]) rfl ?_
            exact ⟨_, by rw [HR.out, HF.out]; rfl, hw3.trans hc4, by rw [HR.out]; exact rdv_nil _ _⟩
        · have hpn : Hid (parseM s.data.toList = none) := by
            unfold Hid
            rw [hpm.out, if_neg]
            rintro ⟨g, _⟩
            exact hz g
          have HR : Hid (parseR s = noMail) := by unfold Hid parseR; rw [hpn.out]; rfl
          have HF : Hid (parseF s = 5) := by unfold Hid parseF; rw [hpn.out]; rfl
          rw [errV_pos hz] at PC
          clear hz
          go_wp2_with (first | (go_at_call 87; refine PC.mono ?_; rintro e' w4 ⟨rfl, hc4⟩; have hc5 := hcc.out.trans hc4; have b0 := hc5.cellNever b0; have b1 := hc5.cellNever b1; have b2 := hc5.cellNever b2; have b3 := hc5.cellNever b3; have k0 := hc4.cellNever k0; have k1 := hc4.cellNever k1; have k2 := hc4.cellNever k2; have k3 := hc4.cellNever k3; have f0 := hfz5 hc5 0; have f1 := hfz5 hc5 1; have f2 := hfz5 hc5 2; have f3 := hfz5 hc5 3; have S0 := cell_put_eq b0; have S1 := cell_put_eq b1; have S2 := cell_put_eq b2; have S3 := cell_put_eq b3))
          refine bodyPost_ret (v := .tuple #[.agg #[.string ⟨#[]⟩, .string ⟨#[]⟩, .string ⟨#[]⟩, .slice none 0 0], .iface 38 (.int .i64 5)]) (by simp [results, Tryz.results90, go_sem, b0, b1, b2, b3]) rfl ?_
          exact ⟨_, by rw [HR.out, HF.out]; rfl, hw3.trans hc4, by rw [HR.out]; exact rdv_nil _ _⟩
    · have hpn : Hid (parseM s.data.toList = none) := by
        unfold Hid parseM
        rw [HP.out]
        simp only
        rw [if_neg]
        rintro ⟨g1, g2⟩
        apply hf
        unfold decFault
        rw [toB_data, if_pos ⟨g2, g1⟩]
      have hf5 : Hid (decFault (toB z) = 5) := by
        unfold decFault at hf
        unfold Hid decFault
        split at hf
        · exact absurd rfl hf
        · rename_i g; rw [if_neg g]
      have HR : Hid (parseR s = noMail) := by unfold Hid parseR; rw [hpn.out]; rfl
      have HF : Hid (parseF s = 5) := by unfold Hid parseF; rw [hpn.out]; rfl
      have f0 := hfz 0
      have f1 := hfz 1
      have f2 := hfz 2
      have f3 := hfz 3
      have S0 := cell_put_eq b0
      have S1 := cell_put_eq b1
      have S2 := cell_put_eq b2
      have S3 := cell_put_eq b3
      rw [hf5.out, errV_pos (by decide)]
      clear hf
      go_wp2_with fail
      refine bodyPost_ret (v := .tuple #[.agg #[.string ⟨#[]⟩, .string ⟨#[]⟩, .string ⟨#[]⟩, .slice none 0 0], .iface 38 (.int .i64 5)]) (by simp [results, Tryz.results90, go_sem, b0, b1, b2, b3]) rfl ?_
      exact ⟨_, by rw [HR.out, HF.out]; rfl, hw2, by rw [HR.out]; exact rdv_nil _ _⟩
  · have hpn : Hid (parseM s.data.toList = none) := by
      unfold Hid parseM
      rw [HP.out]
      split
      · exact absurd rfl h6
      · rfl
    have HR : Hid (parseR s = noMail) := by unfold Hid parseR; rw [hpn.out]; rfl
    have HF : Hid (parseF s = 5) := by unfold Hid parseF; rw [hpn.out]; rfl
    have t6 : decide ((P.length : Int) < 6) = true := decide_eq_true (by omega)
    have f0 := hfz 0
    have f1 := hfz 1
    have f2 := hfz 2
    have f3 := hfz 3
    have S0 := cell_put_eq b0
    have S1 := cell_put_eq b1
    have S2 := cell_put_eq b2
    have S3 := cell_put_eq b3
    clear h6
    go_wp2_with fail
    refine bodyPost_ret (v := .tuple #[.agg #[.string ⟨#[]⟩, .string ⟨#[]⟩, .string ⟨#[]⟩, .slice none 0 0], .iface 38 (.int .i64 5)]) (by simp [results, Tryz.results90, go_sem, b0, b1, b2, b3]) rfl ?_
    exact ⟨_, by rw [HR.out, HF.out]; rfl, hw1, by rw [HR.out]; exact rdv_nil _ _⟩
end Go.Proofs.YtjiaidchcldocaaGreatDoor
namespace Go.Proofs.YtjiaidchcldocaaGreatDoor

theorem cutsK_pos (t : List UInt8) : ∀ (k : Nat) (s : List UInt8), cutsK t k s ≠ []
  | 0, s => by rw [cutsK]; simp
  | k + 1, s => by
    rw [cutsK]
    cases cutSub t s with
    | none => simp
    | some p => simp
theorem split_pos (s : List UInt8) : splitAll s.length s ≠ [] := by rw [splitAll_cuts]; exact cutsK_pos _ _ _
end Go.Proofs.YtjiaidchcldocaaGreatDoor
namespace Go.Proofs.YtjiaidchcldocaaGreatDoor
open Go.RowKit

def boxFault (l : List Mail) : Int := if 16 < l.length then 3 else firstOf mailFault l
def boxR (l : List Mail) : ByteArray := if boxFault l = 0 then toB (boxText l) else ByteArray.empty
theorem mailText_len {m : Mail} (h : mailFault m = 0) : (mailText m).length ≤ 60999 := by
  obtain ⟨w1, w2, w3, w4⟩ := mail_ok h
  have s1 := word_size w1
  have s2 := word_size w2
  have s3 := word_size w3
  have s4 := enc_short_len w4
  rw [Lib.size_eq] at s1 s2 s3
  unfold mailText fromW subjW idW codW
  simp only [List.length_append, List.length_cons, List.length_nil]
  omega
theorem boxText_one (x : Mail) : boxText [x] = markW ++ (mailText x ++ [10]) := by simp [boxText]
theorem boxText_take {l : List Mail} {k : Nat} {x : Mail} (hx : l[k]? = some x) : boxText (l.take (k + 1)) = boxText (l.take k) ++ (markW ++ (mailText x ++ [10])) := by
  rw [List.take_add_one, hx, Option.toList_some, box_app, boxText_one]
theorem boxText_len : ∀ {l : List Mail}, (∀ x ∈ l, mailFault x = 0) → (boxText l).length ≤ 61010 * l.length
  | [], _ => by simp [boxText]
  | m :: l, h => by
    have h1 := boxText_len (l := l) fun x hx => h x (List.mem_cons_of_mem _ hx)
    have h2 := mailText_len (h m (List.mem_cons_self ..))
    rw [box_cons]
    unfold tailB markW
    simp only [List.length_append, List.length_cons, List.length_nil]
    omega
theorem firstOf_drop {α : Type} {f : α → Int} {l : List α} {k : Nat} {x : α} (h : firstOf f (l.drop k) = firstOf f l) (hx : l[k]? = some x) : (f x = 0 → firstOf f (l.drop (k + 1)) = firstOf f l) ∧ (f x ≠ 0 → firstOf f l = f x) := by
  rw [drop_eq hx, firstOf] at h
  constructor
  · intro e; rw [if_pos e] at h; exact h
  · intro e; rw [if_neg e] at h; exact h.symm

set_option maxHeartbeats 1000000 in
set_option maxRecDepth 100000 in
theorem box_any (l : List Mail) (v : Value) (w : World) (h : Rdv w Never v l) :
    Calls Tryz.prog 37 #[v] w fun e w' => e = .returned (.tuple #[.string (boxR l), errV (boxFault l)]) ∧ Chg Never w w' := by
  obtain ⟨a, cap, rfl, h1, h2, h3⟩ := rdv_slice h
  unfold maxLen at h2
  by_cases h16 : 16 < l.length
  · have HF : Hid (boxFault l = 3) := if_pos h16
    have HR : Hid (boxR l = ByteArray.empty) := by unfold Hid boxR; rw [HF.out]; rfl
    have t16 : decide ((16 : Int) < (l.length : Int)) = true := decide_eq_true (by omega)
    go_enter Tryz.func37, Tryz.ntmps37
    go_wp2_with fail
    go_ret2
    exact ⟨by rw [HR.out, HF.out, errV_pos (by decide)]; rfl, Chg.refl _ _⟩
  · have HF : Hid (boxFault l = firstOf mailFault l) := if_neg h16
    have t16 : decide ((16 : Int) < (l.length : Int)) = false := decide_eq_false (by omega)
    go_enter Tryz.func37, Tryz.ntmps37
    go_wp2_with fail
    go_loopw [15] (fun i wr => ∃ k : Nat, k ≤ l.length ∧ i = .int .i64 k ∧ IsB w.heap.size w.heap.size (Lib.byteCells (boxText (l.take k))) wr ∧ Below w.heap.size w wr ∧ Hid (firstOf mailFault (l.drop k) = firstOf mailFault l) ∧ Hid (∀ x ∈ l.take k, mailFault x = 0)) (fun i _ => l.length - (intOf i).toNat)
    case atStart => exact ⟨0, Nat.zero_le _, rfl, Lib.IsBuilderF.of (Lib.fresh_isBuilder _ _ w), (Below.refl _ w).alloc (Nat.le_refl _) _, rfl, fun x hx => by simp at hx⟩
    case round =>
      obtain ⟨k, hk, rfl, hI, hb, hf, ha⟩ := hrel
      rename World => wr
      have hbs := hb.size
      by_cases hlt : k < l.length
      · obtain ⟨x, hx⟩ : ∃ x, l[k]? = some x := ⟨l[k], by simp [hlt]⟩
        obtain ⟨b, off, v, rfl, _, _, c0, c1, c2, c3, z0, z1, z2, hv⟩ := elems_mail h3 hx
        have hcb := Chg.of_below hb
        have c0 := hcb.cellNever c0
        have c1 := hcb.cellNever c1
        have c2 := hcb.cellNever c2
        have c3 := hcb.cellNever c3
        obtain ⟨va, vc, rfl, _, _, _⟩ := rdv_slice hv
        have hA : Chg Never wr (wr.alloc (.cells #[.string x.sender, .string x.subject, .string x.ident, .slice va x.body.length vc] 31)) := (Chg.refl Never wr).alloc _
        obtain ⟨_, g0, g1, g2, g3⟩ := box1_mail wr 31 x.sender x.subject x.ident (.slice va x.body.length vc) _ rfl
        have hvA := (hv.never hcb).never hA
        have HX := Lib.hid hx
        obtain ⟨st1, st2⟩ := firstOf_drop hf.out hx
        clear hx h3 h
        go_wp2_with fail
        clear c0 c1 c2 c3
        have hI := bld_keep hI hA
        generalize wr.alloc (.cells #[.string x.sender, .string x.subject, .string x.ident, .slice va x.body.length vc] 31) = wA at hA g0 g1 g2 g3 hvA hI ⊢
        refine (mail_print_any x _ _ hvA ⟨z0, z1, z2⟩).mono ?_
        rintro e w5 ⟨rfl, hc5⟩
        have hI := bld_keep hI hc5
        have hw5 := (hcb.trans hA).trans hc5
        clear g0 g1 g2 g3 hvA hA hc5
        by_cases hz : mailFault x = 0
        · have HZ := Lib.hid hz
          have HS := Lib.hid (st1 hz)
          have HP : Hid (printR x = toB (mailText x)) := by unfold Hid printR; rw [if_pos hz]
          have hml := mailText_len hz
          have HA2 : Hid (∀ y ∈ l.take (k + 1), mailFault y = 0) := fun y hy => by
            rw [List.take_add_one, HX.out, Option.toList_some] at hy
            rcases List.mem_append.1 hy with q | q
            · exact ha.out y q
            · rw [List.mem_singleton.1 q]; exact HZ.out
          have hbl := boxText_len ha.out
          rw [List.length_take] at hbl
          obtain ⟨y, hy⟩ : ∃ y, printR x = y := ⟨_, rfl⟩
          have HJ : Hid (Lib.byteCells (boxText (l.take k)) ++ Lib.strCells (toB markW ++ y ++ toB [10]) = Lib.byteCells (boxText (l.take (k + 1)))) := by
            rw [Hid, boxText_take HX.out, Lib.byteCells_append, Lib.strCells_eq, bytes_append, bytes_append, toB_data, toB_data, ← hy, HP.out, toB_data]
            simp
          have hyz : y.size ≤ 60999 := by rw [← hy, HP.out, Lib.size_eq, toB_data]; exact hml
          have hl1 : (Lib.byteCells (boxText (l.take k))).length ≤ 1000000 := by rw [Lib.byteCells_length]; omega
          rw [hz, errV_zero, hy]
          generalize Lib.byteCells (boxText (l.take k)) = bs at hI HJ hl1
          clear hz st1 st2 hy hml hbl ha hf HX
          have hsz5 := hw5.size
          go_wp2_with fail
          refine (bld_string w.heap.size w.heap.size bs (toB markW ++ y ++ toB [10]) _ hI (by rw [ByteArray.size_append, ByteArray.size_append, toB_size, toB_size]; show _ + (8 + y.size + 1) ≤ _; omega) hsz5).mono ?_
          rintro e w6 ⟨rfl, hI6, b6⟩
          go_wp2_with fail
          go_roundw
          case rel => exact ⟨k + 1, by omega, by go_num, .inr (by rw [← HJ.out]; exact hI6), hw5.never.trans b6, HS, HA2⟩
          case measure => simp [intOf]; omega
        · have HF2 : Hid (boxFault l = mailFault x) := by rw [Hid, HF.out, st2 hz]
          have HR : Hid (boxR l = ByteArray.empty) := by unfold Hid boxR; rw [HF2.out, if_neg hz]
          rw [errV_pos hz]
          have HZ := Lib.hid hz
          clear hz st1 st2 hf ha HX
          go_wp2_with fail
          go_ret2
          exact ⟨by rw [HR.out, HF2.out, errV_pos HZ.out]; rfl, hw5⟩
      · rw [List.take_of_length_le (by omega)] at hI
        have hf' := hf.out
        rw [List.drop_of_length_le (by omega)] at hf'
        have HF2 : Hid (boxFault l = 0) := by rw [Hid, HF.out, ← hf']; rfl
        have HR : Hid (boxR l = ⟨(boxText l).toArray⟩) := by unfold Hid boxR; rw [if_pos HF2.out]; rfl
        clear hf hf' ha
        go_wp2_with fail
        refine (Tryz.Builder_String_any_k w.heap.size w.heap.size (boxText l) _ hI hbs).mono ?_
        rintro e w4 ⟨rfl, _, b4, _⟩
        go_wp2_with fail
        go_ret2
        exact ⟨by rw [HR.out, HF2.out]; rfl, Chg.of_below (hb.trans b4)⟩

end Go.Proofs.YtjiaidchcldocaaGreatDoor
