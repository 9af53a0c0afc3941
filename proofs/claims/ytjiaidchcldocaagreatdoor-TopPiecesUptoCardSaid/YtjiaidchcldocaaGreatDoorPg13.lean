/-
  PARTS: TEXTS IN PARTS: small laws on rows of strings (light: no function of layers 1 to 9).; THE WALKS of the document's Parts, SplitOf, JoinOf, and of line.Split, line.Join.; THE WALKS of line.letter, line.Path, and of the document's PathFault.
-/
import Derived.Test.YtjiaidchcldocaaGreatDoorPg1
import Derived.Test.YtjiaidchcldocaaGreatDoorPg3
import Derived.Test.YtjiaidchcldocaaGreatDoorPg6
import Derived.Test.YtjiaidchcldocaaGreatDoorPg10
import Derived.Test.YtjiaidchcldocaaGreatDoorPg12
import Derived.Lib.SplitLaws
set_option linter.unusedVariables false
set_option linter.unusedSimpArgs false
namespace Go.Proofs.YtjiaidchcldocaaGreatDoor
open Go.RowKit
theorem last_of {l : List (List UInt8)} (h : l ≠ []) : ∃ i z, l = i ++ [z] := ⟨l.dropLast, l.getLast h, (List.dropLast_concat_getLast h).symm⟩
theorem rdv_strs {w : World} {O : Nat → Prop} {g : Nat} {e : TypeId} {l : List ByteArray} {n : Nat} (h : w.heap[g]? = some (.cells (l.map Value.string).toArray e (0, 0))) (hO : ¬ O g) (hn : n = l.length) (hl : l.length ≤ maxLen) (hs : ∀ x ∈ l, x.size ≤ maxLen) : Rdv w O (.slice (some ⟨g, 0, none⟩) n n) l := by
  subst hn
  refine ⟨some ⟨g, 0, none⟩, l.length, rfl, Nat.le_refl _, hl, ?_⟩
  intro i x hx
  refine ⟨g, 0, [.string x], rfl, hO, ?_, rfl, hs x (List.mem_of_getElem? hx)⟩
  intro j u hj
  match j, hj with
  | 0, hj =>
    simp only [List.getElem?_cons_zero, Option.some.injEq] at hj
    subst hj
    simp only [World.cell?, h]
    simp [Dat.n, hx]
end Go.Proofs.YtjiaidchcldocaaGreatDoor
namespace Go.Proofs.YtjiaidchcldocaaGreatDoor
open Go.RowKit

theorem parts_count (d : UInt8) : ∀ s, (parts d s).length ≤ s.length + 1
  | [] => by simp [parts]
  | c :: r => by
    have := parts_count d r
    by_cases h : c = d
    · subst h; rw [parts_sep]; simp; omega
    · obtain ⟨h', t, e⟩ := List.exists_cons_of_ne_nil (parts_ne d r)
      rw [parts_other h e]
      rw [e] at this
      simp at this ⊢
      omega

theorem parts_mem (d : UInt8) : ∀ (s : List UInt8) (x : List UInt8), x ∈ parts d s → x.length ≤ s.length
  | [], x, h => by simp [parts] at h; subst h; simp
  | c :: r, x, h => by
    have ih := parts_mem d r
    by_cases hc : c = d
    · subst hc
      rw [parts_sep] at h
      rcases List.mem_cons.1 h with rfl | h
      · simp
      · have := ih x h; simp; omega
    · obtain ⟨h', t, e⟩ := List.exists_cons_of_ne_nil (parts_ne d r)
      rw [parts_other hc e] at h
      rw [e] at ih
      rcases List.mem_cons.1 h with rfl | h
      · have := ih h' (List.mem_cons_self ..); simp; omega
      · have := ih x (List.mem_cons_of_mem _ h); simp; omega
end Go.Proofs.YtjiaidchcldocaaGreatDoor
namespace Go.Proofs.YtjiaidchcldocaaGreatDoor
open Go.RowKit

def letterI (c : Int) : Bool := decide (97 ≤ c) && decide (c ≤ 122) || decide (48 ≤ c) && decide (c ≤ 57) || (c == 46) || (c == 45)
theorem letterI_byte (c : UInt8) : letterI c.toNat = letterB c := by
  unfold letterI letterB
  have e1 : decide ((97 : Int) ≤ (c.toNat : Int)) = decide (97 ≤ c.toNat) := by congr 1; apply propext; omega
  have e2 : decide ((c.toNat : Int) ≤ 122) = decide (c.toNat ≤ 122) := by congr 1; apply propext; omega
  have e3 : decide ((48 : Int) ≤ (c.toNat : Int)) = decide (48 ≤ c.toNat) := by congr 1; apply propext; omega
  have e4 : decide ((c.toNat : Int) ≤ 57) = decide (c.toNat ≤ 57) := by congr 1; apply propext; omega
  have e5 : ((c.toNat : Int) == 46) = decide (c.toNat = 46) := by rw [Bool.eq_iff_iff, beq_iff_eq, decide_eq_true_eq]; omega
  have e6 : ((c.toNat : Int) == 45) = decide (c.toNat = 45) := by rw [Bool.eq_iff_iff, beq_iff_eq, decide_eq_true_eq]; omega
  rw [e1, e2, e3, e4, e5, e6]

set_option maxHeartbeats 1000000 in
theorem letter_any (c : Int) (w : World) (h0 : 0 ≤ c) (h1 : c < 256) :
    Calls Tryz.prog 129 #[.int .u8 c] w fun e w' => e = .returned (.bool (letterI c)) ∧ w' = w := by
  by_cases b1 : 97 ≤ c
  · by_cases b2 : c ≤ 122
    · have a1 : decide ((97 : Int) ≤ c) = true := by simp; omega
      have a2 : decide (c ≤ (122 : Int)) = true := by simp; omega
      have a3 : decide ((48 : Int) ≤ c) = true := by simp; omega
      have a4 : decide (c ≤ (57 : Int)) = false := by simp; omega
      have a5 : (c == 46) = false := by simp; omega
      have a6 : (c == 45) = false := by simp; omega
      have HL : Hid (letterI c = (true && true || true && false || false || false)) := by unfold Hid letterI; rw [a1, a2, a3, a4, a5, a6]
      try clear b5
      try clear b6
      go_enter Tryz.func129, Tryz.ntmps129
      go_wp2_with fail
      go_ret
      exact ⟨by rw [HL.out]; rfl, rfl⟩
    · have a1 : decide ((97 : Int) ≤ c) = true := by simp; omega
      have a2 : decide (c ≤ (122 : Int)) = false := by simp; omega
      have a3 : decide ((48 : Int) ≤ c) = true := by simp; omega
      have a4 : decide (c ≤ (57 : Int)) = false := by simp; omega
      have a5 : (c == 46) = false := by simp; omega
      have a6 : (c == 45) = false := by simp; omega
      have HL : Hid (letterI c = (true && false || true && false || false || false)) := by unfold Hid letterI; rw [a1, a2, a3, a4, a5, a6]
      try clear b5
      try clear b6
      go_enter Tryz.func129, Tryz.ntmps129
      go_wp2_with fail
      go_ret
      exact ⟨by rw [HL.out]; rfl, rfl⟩
  · by_cases b3 : 48 ≤ c
    · by_cases b4 : c ≤ 57
      · have a1 : decide ((97 : Int) ≤ c) = false := by simp; omega
        have a2 : decide (c ≤ (122 : Int)) = true := by simp; omega
        have a3 : decide ((48 : Int) ≤ c) = true := by simp; omega
        have a4 : decide (c ≤ (57 : Int)) = true := by simp; omega
        have a5 : (c == 46) = false := by simp; omega
        have a6 : (c == 45) = false := by simp; omega
        have HL : Hid (letterI c = (false && true || true && true || false || false)) := by unfold Hid letterI; rw [a1, a2, a3, a4, a5, a6]
        try clear b5
        try clear b6
        go_enter Tryz.func129, Tryz.ntmps129
        go_wp2_with fail
        go_ret
        exact ⟨by rw [HL.out]; rfl, rfl⟩
      · have a1 : decide ((97 : Int) ≤ c) = false := by simp; omega
        have a2 : decide (c ≤ (122 : Int)) = true := by simp; omega
        have a3 : decide ((48 : Int) ≤ c) = true := by simp; omega
        have a4 : decide (c ≤ (57 : Int)) = false := by simp; omega
        have a5 : (c == 46) = false := by simp; omega
        have a6 : (c == 45) = false := by simp; omega
        have HL : Hid (letterI c = (false && true || true && false || false || false)) := by unfold Hid letterI; rw [a1, a2, a3, a4, a5, a6]
        try clear b5
        try clear b6
        go_enter Tryz.func129, Tryz.ntmps129
        go_wp2_with fail
        go_ret
        exact ⟨by rw [HL.out]; rfl, rfl⟩
    · by_cases b5 : c = 46
      · have a1 : decide ((97 : Int) ≤ c) = false := by simp; omega
        have a2 : decide (c ≤ (122 : Int)) = true := by simp; omega
        have a3 : decide ((48 : Int) ≤ c) = false := by simp; omega
        have a4 : decide (c ≤ (57 : Int)) = true := by simp; omega
        have a5 : (c == 46) = true := by simp; omega
        have a6 : (c == 45) = false := by simp; omega
        have HL : Hid (letterI c = (false && true || false && true || true || false)) := by unfold Hid letterI; rw [a1, a2, a3, a4, a5, a6]
        try clear b5
        try clear b6
        go_enter Tryz.func129, Tryz.ntmps129
        go_wp2_with fail
        go_ret
        exact ⟨by rw [HL.out]; rfl, rfl⟩
      · by_cases b6 : c = 45
        · have a1 : decide ((97 : Int) ≤ c) = false := by simp; omega
          have a2 : decide (c ≤ (122 : Int)) = true := by simp; omega
          have a3 : decide ((48 : Int) ≤ c) = false := by simp; omega
          have a4 : decide (c ≤ (57 : Int)) = true := by simp; omega
          have a5 : (c == 46) = false := by simp; omega
          have a6 : (c == 45) = true := by simp; omega
          have HL : Hid (letterI c = (false && true || false && true || false || true)) := by unfold Hid letterI; rw [a1, a2, a3, a4, a5, a6]
          try clear b5
          try clear b6
          go_enter Tryz.func129, Tryz.ntmps129
          go_wp2_with fail
          go_ret
          exact ⟨by rw [HL.out]; rfl, rfl⟩
        · have a1 : decide ((97 : Int) ≤ c) = false := by simp; omega
          have a2 : decide (c ≤ (122 : Int)) = true := by simp; omega
          have a3 : decide ((48 : Int) ≤ c) = false := by simp; omega
          have a4 : decide (c ≤ (57 : Int)) = true := by simp; omega
          have a5 : (c == 46) = false := by simp; omega
          have a6 : (c == 45) = false := by simp; omega
          have HL : Hid (letterI c = (false && true || false && true || false || false)) := by unfold Hid letterI; rw [a1, a2, a3, a4, a5, a6]
          try clear b5
          try clear b6
          go_enter Tryz.func129, Tryz.ntmps129
          go_wp2_with fail
          go_ret
          exact ⟨by rw [HL.out]; rfl, rfl⟩

theorem emp_false {x : ByteArray} (h : x.data.toList ≠ []) : x.toList.isEmpty = false := by rw [Lib.toList_data]; simpa using h
theorem str_false {x : ByteArray} {l : List UInt8} (h : x.data.toList ≠ l) : (x.toList == l) = false := by rw [Lib.toList_data]; simpa using h
/-! ### names -/
theorem nameOk_iff {x : List UInt8} : nameOk x = true ↔ x ≠ [] ∧ x ≠ [46] ∧ x ≠ [46, 46] ∧ ∀ c ∈ x, letterB c = true := by
  unfold nameOk
  simp only [Bool.and_eq_true, Bool.not_eq_true', beq_eq_false_iff_ne, List.all_eq_true, ne_eq]
  constructor
  · rintro ⟨⟨⟨a, b⟩, c⟩, d⟩; exact ⟨a, b, c, d⟩
  · rintro ⟨a, b, c, d⟩; exact ⟨⟨⟨a, b⟩, c⟩, d⟩
theorem pathFault_long {s : ByteArray} (h : 20 < s.size) : pathFault s = 3 := if_pos h
theorem pathFault_bad {s : ByteArray} (h : ¬ 20 < s.size) {x : List UInt8} (hx : x ∈ parts 47 s.data.toList) (hb : nameOk x = false) : pathFault s = 5 := by
  unfold pathFault
  rw [if_neg h, if_neg]
  intro e
  rw [List.all_eq_true] at e
  rw [e x hx] at hb
  cases hb
theorem pathFault_ok {s : ByteArray} (h : ¬ 20 < s.size) (ha : ∀ x ∈ parts 47 s.data.toList, nameOk x = true) : pathFault s = 0 := by
  unfold pathFault
  rw [if_neg h, if_pos]
  rw [List.all_eq_true]; exact ha

set_option maxHeartbeats 1000000 in
set_option maxRecDepth 100000 in
theorem line_path_any (s : ByteArray) (w : World) (m : Int) (hm : w.cell? ⟨1, 0, none⟩ = some (.int .i64 m)) :
    Calls Tryz.prog 80 #[.string s] w fun e w' => e = .returned (errV (pathFault s)) ∧ Chg Never w w' := by
  by_cases h20 : 20 < s.size
  · have HF := Lib.hid (pathFault_long h20)
    go_enter Tryz.func80, Tryz.ntmps80
    go_wp2_with fail
    go_ret
    exact ⟨by rw [HF.out]; rfl, Chg.refl _ _⟩
  · have HB := fun x hx hb => pathFault_bad (x := x) h20 hx hb
    have HO := pathFault_ok h20
    have hcnt : (parts 47 s.data.toList).length ≤ s.size + 1 := by rw [Lib.size_eq]; exact parts_count 47 _
    have HSP : Hid (Lib.splitB ⟨#[47]⟩ 0 (Lib.countB s ⟨#[47]⟩) s = (parts 47 s.data.toList).map toB) := splitB_parts 47 s
    have HLEN : Hid (Lib.countB s ⟨#[47]⟩ + 1 = ((parts 47 s.data.toList).map toB).length) := by
      have := Lib.splitB_all ⟨#[47]⟩ (by decide) 0 _ s rfl
      rw [Hid, ← this, HSP.out]
    have hmem : ∀ x ∈ parts 47 s.data.toList, x.length ≤ s.size := fun x hx => by rw [Lib.size_eq]; exact parts_mem 47 _ x hx
    have HMEM := Lib.hid hmem
    have HCNT := Lib.hid hcnt
    clear hmem hcnt
    have HH := Lib.hid (And.intro HB HO)
    clear HB HO
    go_enter Tryz.func80, Tryz.ntmps80
    go_wp2_with fail
    refine (Tryz.strings_Split s ⟨#[47]⟩ m _ (by omega) hm (by decide)).mono ?_
    rintro e w2 ⟨rfl, rfl⟩
    rw [HSP.out, HLEN.out]
    have hmem := HMEM.out
    have hcnt := HCNT.out
    have hA : Chg Never w (w.alloc (.cells (((parts 47 s.data.toList).map toB).map Value.string).toArray 9)) := (Chg.refl Never w).alloc _
    have hR0 : Rdv (w.alloc (.cells (((parts 47 s.data.toList).map toB).map Value.string).toArray 9)) Never (.slice (some ⟨w.heap.size, 0, none⟩) ((parts 47 s.data.toList).map toB).length ((parts 47 s.data.toList).map toB).length) ((parts 47 s.data.toList).map toB) :=
      rdv_strs (heap_alloc_new _ _) (fun h => h) rfl (by rw [List.length_map]; unfold maxLen; omega) (fun x hx => by
        obtain ⟨y, hy, rfl⟩ := List.mem_map.1 hx
        rw [Lib.size_eq, toB_data]
        have := hmem y hy
        unfold maxLen; omega)
    have hLL : ((parts 47 s.data.toList).map toB).length ≤ 21 := by rw [List.length_map]; omega
    have HM : Hid (∀ x ∈ (parts 47 s.data.toList).map toB, x.data.toList ∈ parts 47 s.data.toList ∧ x.size ≤ 20) := by
      intro x hx
      obtain ⟨y, hy, rfl⟩ := List.mem_map.1 hx
      have := hmem y hy
      exact ⟨by rw [toB_data]; exact hy, by rw [Lib.size_eq, toB_data]; omega⟩
    have HM2 : Hid (∀ y ∈ parts 47 s.data.toList, toB y ∈ (parts 47 s.data.toList).map toB) := fun y hy => List.mem_map.2 ⟨y, hy, rfl⟩
    clear hmem hcnt HSP HLEN
    generalize (parts 47 s.data.toList).map toB = L at hR0 hA hLL HM HM2 ⊢
    generalize w.alloc (.cells (L.map Value.string).toArray 9) = w3 at hR0 hA ⊢
    obtain ⟨la, lc, hlv, h1, h2, h3⟩ := rdv_slice hR0
    simp only [Value.slice.injEq, true_and] at hlv
    obtain ⟨rfl, rfl⟩ := hlv
    go_wp2_with fail
    go_loop [13] (fun i => ∃ k : Nat, k ≤ L.length ∧ i = .int .i64 k ∧ Hid (∀ x ∈ L.take k, nameOk x.data.toList = true)) (fun i => L.length - (intOf i).toNat)
    case atStart => exact ⟨0, Nat.zero_le _, rfl, fun x hx => by simp at hx⟩
    case round =>
      obtain ⟨k, hk, rfl, hf⟩ := hrel
      by_cases hlt : k < L.length
      · obtain ⟨x, hx⟩ : ∃ x, L[k]? = some x := ⟨L[k], by simp [hlt]⟩
        obtain ⟨b, off, hbo, _, _, c0, hxs⟩ := elems_str h3 hx
        simp only [Option.some.injEq, Addr.mk.injEq, and_true] at hbo
        obtain ⟨rfl, rfl⟩ := hbo
        rw [Nat.zero_add] at c0
        obtain ⟨hxm, hx20⟩ := HM.out x (List.mem_of_getElem? hx)
        have HX := Lib.hid hx
        have HXM := Lib.hid hxm
        clear hx hxm
        by_cases b1 : x.data.toList = []
        · have HN := Lib.hid (HH.out.1 _ HXM.out (by rw [b1]; rfl))
          have t1 : x.toList.isEmpty = true := by rw [Lib.toList_data, b1]; rfl
          clear b1
          go_wp2_with fail
          go_ret
          exact ⟨by rw [HN.out]; rfl, hA⟩
        · have t1 := emp_false b1
          by_cases b2 : x.data.toList = [46]
          · have HN := Lib.hid (HH.out.1 _ HXM.out (by rw [b2]; rfl))
            have t2 : (x.toList == [46]) = true := by rw [Lib.toList_data, b2]; rfl
            clear b1 b2
            go_wp2_with fail
            go_ret
            exact ⟨by rw [HN.out]; rfl, hA⟩
          · have t2 := str_false b2
            by_cases b3 : x.data.toList = [46, 46]
            · have HN := Lib.hid (HH.out.1 _ HXM.out (by rw [b3]; rfl))
              have t3 : (x.toList == [46, 46]) = true := by rw [Lib.toList_data, b3]; rfl
              clear b1 b2 b3
              go_wp2_with fail
              go_ret
              exact ⟨by rw [HN.out]; rfl, hA⟩
            · have t3 := str_false b3
              have HBB := Lib.hid (And.intro b1 (And.intro b2 b3))
              clear b1 b2 b3
              go_wp2_with fail
              go_loop [30] (fun i => ∃ j : Nat, j ≤ x.size ∧ i = .int .i64 j ∧ Hid (∀ q, q < j → ∀ c, x.data.toList[q]? = some c → letterB c = true)) (fun i => x.size - (intOf i).toNat)
              case atStart => exact ⟨0, Nat.zero_le _, rfl, fun q h => absurd h (Nat.not_lt_zero q)⟩
              case round =>
                obtain ⟨j, hj, rfl, hl⟩ := hrel
                by_cases hjl : j < x.size
                · have HAT := Lib.hid (byte_at hjl)
                  have hlt256 := (x[j]'hjl).toNat_lt
                  cases hlb : letterI ((x[j]'hjl).toNat : Int) with
                  | true =>
                    have HLB : Hid (letterB (x[j]'hjl) = true) := by rw [Hid, ← letterI_byte]; exact hlb
                    go_wp2_with fail
                    refine (letter_any _ _ (by omega) (by omega)).mono ?_
                    rintro e w5 ⟨rfl, hw5⟩
                    rw [hw5, hlb]
                    clear hlb hw5
                    go_wp2_with fail
                    go_round
                    case rel => exact ⟨j + 1, by omega, by go_num, fun q hq c hc => by
                      by_cases e : q = j
                      · subst e
                        rw [HAT.out] at hc
                        injection hc with hc
                        rw [← hc]; exact HLB.out
                      · exact hl.out q (by omega) c hc⟩
                    case measure => simp [intOf] <;> omega
                  | false =>
                    have HN := Lib.hid (HH.out.1 _ HXM.out (by
                      rw [Bool.eq_false_iff]
                      intro e
                      have := (nameOk_iff.1 e).2.2.2 _ (List.mem_of_getElem? HAT.out)
                      rw [← letterI_byte, hlb] at this
                      cases this))
                    go_wp2_with fail
                    refine (letter_any _ _ (by omega) (by omega)).mono ?_
                    rintro e w5 ⟨rfl, hw5⟩
                    rw [hw5, hlb]
                    clear hlb hw5
                    go_wp2_with fail
                    go_ret
                    exact ⟨by rw [HN.out]; rfl, hA⟩
                · have HOK : Hid (nameOk x.data.toList = true) := nameOk_iff.2 ⟨HBB.out.1, HBB.out.2.1, HBB.out.2.2, fun c hc => by
                    obtain ⟨q, hq⟩ := List.getElem?_of_mem hc
                    have hql := (List.getElem?_eq_some_iff.1 hq).1
                    rw [← Lib.size_eq] at hql
                    exact hl.out q (by omega) c hq⟩
                  clear hl
                  go_wp2_with fail
                  go_round
                  case rel => exact ⟨k + 1, by omega, by go_num, take_all_succ hf.out HX.out HOK.out⟩
                  case measure => simp [intOf] <;> omega
      · go_wp2_with fail
        go_ret
        have e := hf.out
        rw [List.take_of_length_le (by omega)] at e
        have e2 : pathFault s = 0 := HH.out.2 (fun y hy => by have := e _ (HM2.out y hy); rw [toB_data] at this; exact this)
        exact ⟨by rw [e2]; rfl, hA⟩

/-! ### the document's way -/
structure NameInv (s : ByteArray) (q k : Nat) (L : List ByteArray) : Prop where
  p : PartsInv 47 s q k L
  ok : ∀ x ∈ L, nameOk x.data.toList = true
  let_ : ∀ j, q ≤ j → j < k → ∀ c, s.data.toList[j]? = some c → letterB c = true
theorem NameInv.step {s : ByteArray} {q k : Nat} {L : List ByteArray} {c : UInt8} (h : NameInv s q k L) (hk : s.data.toList[k]? = some c) (hc : c ≠ 47) (hl : letterB c = true) : NameInv s q (k + 1) L :=
  ⟨h.p.step hk hc, h.ok, fun j h1 h2 d hd => by
    by_cases e : j = k
    · subst e
      rw [hk] at hd
      injection hd with hd
      rw [← hd]; exact hl
    · exact h.let_ j h1 (by omega) d hd⟩
theorem NameInv.name {s : ByteArray} {q k : Nat} {L : List ByteArray} (h : NameInv s q k L) : ∀ c ∈ (s.extract q k).data.toList, letterB c = true := by
  intro c hc
  rw [Lib.extract_data] at hc
  obtain ⟨i, hi⟩ := List.getElem?_of_mem hc
  rw [List.getElem?_take] at hi
  split at hi
  · rw [List.getElem?_drop] at hi
    exact h.let_ (q + i) (by omega) (by omega) c hi
  · cases hi
theorem NameInv.cut {s : ByteArray} {q k : Nat} {L : List ByteArray} (h : NameInv s q k L) (hq : q ≤ k) (hk : s.data.toList[k]? = some 47) (hn : nameOk (s.extract q k).data.toList = true) : NameInv s (k + 1) (k + 1) (L ++ [s.extract q k]) :=
  ⟨h.p.cut hq hk, fun x hx => by
    rcases List.mem_append.1 hx with hx | hx
    · exact h.ok x hx
    · rw [List.mem_singleton] at hx
      rw [hx]; exact hn, fun j h1 h2 => by omega⟩
theorem NameInv.all {s : ByteArray} {q : Nat} {L : List ByteArray} (h : NameInv s q s.size L) (hn : nameOk (s.extract q s.size).data.toList = true) : ∀ x ∈ parts 47 s.data.toList, nameOk x = true := by
  intro x hx
  have hm : toB x ∈ (parts 47 s.data.toList).map toB := List.mem_map.2 ⟨x, hx, rfl⟩
  rw [h.p.fin] at hm
  have : nameOk (toB x).data.toList = true := by
    rcases List.mem_append.1 hm with hm | hm
    · exact h.ok _ hm
    · rw [List.mem_singleton] at hm
      rw [hm]; exact hn
  rwa [toB_data] at this
end Go.Proofs.YtjiaidchcldocaaGreatDoor
