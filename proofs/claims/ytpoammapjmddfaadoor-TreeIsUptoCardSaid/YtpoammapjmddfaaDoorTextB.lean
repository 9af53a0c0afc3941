/-
  THE WALKS of line.letter, line.Path, and of the document's PathFault.
-/
import Derived.Test.YtpoammapjmddfaaDoorTextA
namespace Go.Proofs.YtpoammapjmddfaaDoor
open Go.RowKit

def letterI (c : Int) : Bool := decide (97 ≤ c) && decide (c ≤ 122) || decide (48 ≤ c) && decide (c ≤ 57) || (c == 46) || (c == 45)
theorem letterI_byte (c : UInt8) : letterI c.toNat = letterB c := by
  unfold letterI letterB
  have e1 : decide ((97 : Int) ≤ (c.toNat : Int)) = decide (97 ≤ c.toNat) := by congr 1; apply propext; omega
  have e2 : decide ((c.toNat : Int) ≤ 122) = decide (c.toNat ≤ 122) := by congr 1; apply propext; omega
  have e3 : decide ((48 : Int) ≤ (c.toNat : Int)) = decide (48 ≤ c.toNat) := by congr 1; apply propext; omega
  have e4 : decide ((c.toNat : Int) ≤ 57) = decide (c.toNat ≤ 57) := by congr 1; apply propext; omega
  have e5 : ((c.toNat : Int) == 46) = decide (c.toNat = 46) := by rw [Bool.eq_iff_iff, beq_iff_eq, decide_eq_true_eq]; omega
  have e6 : ((c.toNat : Int) == 45) = decide (c.toNat = 45) := by rw [Bool.eq_iff_iff, beq_iff_eq, decide_eq_true_eq]; omega
  rw [e1, e2, e3, e4, e5, e6]

set_option maxHeartbeats 1000000 in
theorem letter_any (c : Int) (w : World) (h0 : 0 ≤ c) (h1 : c < 256) :
    Calls Tryd.prog 49 #[.int .u8 c] w fun e w' => e = .returned (.bool (letterI c)) ∧ w' = w := by
  by_cases b1 : 97 ≤ c
  · by_cases b2 : c ≤ 122
    · have a1 : decide ((97 : Int) ≤ c) = true := by simp; omega
      have a2 : decide (c ≤ (122 : Int)) = true := by simp; omega
      have a3 : decide ((48 : Int) ≤ c) = true := by simp; omega
      have a4 : decide (c ≤ (57 : Int)) = false := by simp; omega
      have a5 : (c == 46) = false := by simp; omega
      have a6 : (c == 45) = false := by simp; omega
      have HL : Hid (letterI c = (true && true || true && false || false || false)) := by unfold Hid letterI; rw [a1, a2, a3, a4, a5, a6]
      try clear b5
      try clear b6
      go_enter Tryd.func49, Tryd.ntmps49
      go_wp2_with fail
      go_ret
      exact ⟨by rw [HL.out]; rfl, rfl⟩
    · have a1 : decide ((97 : Int) ≤ c) = true := by simp; omega
      have a2 : decide (c ≤ (122 : Int)) = false := by simp; omega
      have a3 : decide ((48 : Int) ≤ c) = true := by simp; omega
      have a4 : decide (c ≤ (57 : Int)) = false := by simp; omega
      have a5 : (c == 46) = false := by simp; omega
      have a6 : (c == 45) = false := by simp; omega
      have HL : Hid (letterI c = (true && false || true && false || false || false)) := by unfold Hid letterI; rw [a1, a2, a3, a4, a5, a6]
      try clear b5
      try clear b6
      go_enter Tryd.func49, Tryd.ntmps49
      go_wp2_with fail
      go_ret
      exact ⟨by rw [HL.out]; rfl, rfl⟩
  · by_cases b3 : 48 ≤ c
    · by_cases b4 : c ≤ 57
      · have a1 : decide ((97 : Int) ≤ c) = false := by simp; omega
        have a2 : decide (c ≤ (122 : Int)) = true := by simp; omega
        have a3 : decide ((48 : Int) ≤ c) = true := by simp; omega
        have a4 : decide (c ≤ (57 : Int)) = true := by simp; omega
        have a5 : (c == 46) = false := by simp; omega
        have a6 : (c == 45) = false := by simp; omega
        have HL : Hid (letterI c = (false && true || true && true || false || false)) := by unfold Hid letterI; rw [a1, a2, a3, a4, a5, a6]
        try clear b5
        try clear b6
        go_enter Tryd.func49, Tryd.ntmps49
        go_wp2_with fail
        go_ret
        exact ⟨by rw [HL.out]; rfl, rfl⟩
      · have a1 : decide ((97 : Int) ≤ c) = false := by simp; omega
        have a2 : decide (c ≤ (122 : Int)) = true := by simp; omega
        have a3 : decide ((48 : Int) ≤ c) = true := by simp; omega
        have a4 : decide (c ≤ (57 : Int)) = false := by simp; omega
        have a5 : (c == 46) = false := by simp; omega
        have a6 : (c == 45) = false := by simp; omega
        have HL : Hid (letterI c = (false && true || true && false || false || false)) := by unfold Hid letterI; rw [a1, a2, a3, a4, a5, a6]
        try clear b5
        try clear b6
        go_enter Tryd.func49, Tryd.ntmps49
        go_wp2_with fail
        go_ret
        exact ⟨by rw [HL.out]; rfl, rfl⟩
    · by_cases b5 : c = 46
      · have a1 : decide ((97 : Int) ≤ c) = false := by simp; omega
        have a2 : decide (c ≤ (122 : Int)) = true := by simp; omega
        have a3 : decide ((48 : Int) ≤ c) = false := by simp; omega
        have a4 : decide (c ≤ (57 : Int)) = true := by simp; omega
        have a5 : (c == 46) = true := by simp; omega
        have a6 : (c == 45) = false := by simp; omega
        have HL : Hid (letterI c = (false && true || false && true || true || false)) := by unfold Hid letterI; rw [a1, a2, a3, a4, a5, a6]
        try clear b5
        try clear b6
        go_enter Tryd.func49, Tryd.ntmps49
        go_wp2_with fail
        go_ret
        exact ⟨by rw [HL.out]; rfl, rfl⟩
      · by_cases b6 : c = 45
        · have a1 : decide ((97 : Int) ≤ c) = false := by simp; omega
          have a2 : decide (c ≤ (122 : Int)) = true := by simp; omega
          have a3 : decide ((48 : Int) ≤ c) = false := by simp; omega
          have a4 : decide (c ≤ (57 : Int)) = true := by simp; omega
          have a5 : (c == 46) = false := by simp; omega
          have a6 : (c == 45) = true := by simp; omega
          have HL : Hid (letterI c = (false && true || false && true || false || true)) := by unfold Hid letterI; rw [a1, a2, a3, a4, a5, a6]
          try clear b5
          try clear b6
          go_enter Tryd.func49, Tryd.ntmps49
          go_wp2_with fail
          go_ret
          exact ⟨by rw [HL.out]; rfl, rfl⟩
        · have a1 : decide ((97 : Int) ≤ c) = false := by simp; omega
          have a2 : decide (c ≤ (122 : Int)) = true := by simp; omega
          have a3 : decide ((48 : Int) ≤ c) = false := by simp; omega
          have a4 : decide (c ≤ (57 : Int)) = true := by simp; omega
          have a5 : (c == 46) = false := by simp; omega
          have a6 : (c == 45) = false := by simp; omega
          have HL : Hid (letterI c = (false && true || false && true || false || false)) := by unfold Hid letterI; rw [a1, a2, a3, a4, a5, a6]
          try clear b5
          try clear b6
          go_enter Tryd.func49, Tryd.ntmps49
          go_wp2_with fail
          go_ret
          exact ⟨by rw [HL.out]; rfl, rfl⟩

theorem emp_false {x : ByteArray} (h : x.data.toList ≠ []) : x.toList.isEmpty = false := by rw [Lib.toList_data]; simpa using h
theorem str_false {x : ByteArray} {l : List UInt8} (h : x.data.toList ≠ l) : (x.toList == l) = false := by rw [Lib.toList_data]; simpa using h
/-! ### names -/
theorem nameOk_iff {x : List UInt8} : nameOk x = true ↔ x ≠ [] ∧ x ≠ [46] ∧ x ≠ [46, 46] ∧ ∀ c ∈ x, letterB c = true := by
  unfold nameOk
  simp only [Bool.and_eq_true, Bool.not_eq_true', beq_eq_false_iff_ne, List.all_eq_true, ne_eq]
  constructor
  · rintro ⟨⟨⟨a, b⟩, c⟩, d⟩; exact ⟨a, b, c, d⟩
  · rintro ⟨a, b, c, d⟩; exact ⟨⟨⟨a, b⟩, c⟩, d⟩
theorem pathFault_long {s : ByteArray} (h : 20 < s.size) : pathFault s = 3 := if_pos h
theorem pathFault_bad {s : ByteArray} (h : ¬ 20 < s.size) {x : List UInt8} (hx : x ∈ parts 47 s.data.toList) (hb : nameOk x = false) : pathFault s = 5 := by
  unfold pathFault
  rw [if_neg h, if_neg]
  intro e
  rw [List.all_eq_true] at e
  rw [e x hx] at hb
  cases hb
theorem pathFault_ok {s : ByteArray} (h : ¬ 20 < s.size) (ha : ∀ x ∈ parts 47 s.data.toList, nameOk x = true) : pathFault s = 0 := by
  unfold pathFault
  rw [if_neg h, if_pos]
  rw [List.all_eq_true]; exact ha

set_option maxHeartbeats 1000000 in
set_option maxRecDepth 100000 in
theorem line_path_any (s : ByteArray) (w : World) (m : Int) (hm : w.cell? ⟨1, 0, none⟩ = some (.int .i64 m)) :
    Calls Tryd.prog 16 #[.string s] w fun e w' => e = .returned (errV (pathFault s)) ∧ Chg Never w w' := by
  by_cases h20 : 20 < s.size
  · have HF := Lib.hid (pathFault_long h20)
    go_enter Tryd.func16, Tryd.ntmps16
    go_wp2_with fail
    go_ret
    exact ⟨by rw [HF.out]; rfl, Chg.refl _ _⟩
  · have HB := fun x hx hb => pathFault_bad (x := x) h20 hx hb
    have HO := pathFault_ok h20
    have hcnt : (parts 47 s.data.toList).length ≤ s.size + 1 := by rw [Lib.size_eq]; exact parts_count 47 _
    have HSP : Hid (Lib.splitB ⟨#[47]⟩ 0 (Lib.countB s ⟨#[47]⟩) s = (parts 47 s.data.toList).map toB) := splitB_parts 47 s
    have HLEN : Hid (Lib.countB s ⟨#[47]⟩ + 1 = ((parts 47 s.data.toList).map toB).length) := by
      have := Lib.splitB_all ⟨#[47]⟩ (by decide) 0 _ s rfl
      rw [Hid, ← this, HSP.out]
    have hmem : ∀ x ∈ parts 47 s.data.toList, x.length ≤ s.size := fun x hx => by rw [Lib.size_eq]; exact parts_mem 47 _ x hx
    have HMEM := Lib.hid hmem
    have HCNT := Lib.hid hcnt
    clear hmem hcnt
    have HH := Lib.hid (And.intro HB HO)
    clear HB HO
    go_enter Tryd.func16, Tryd.ntmps16
    go_wp2_with fail
    refine (Tryd.strings_Split s ⟨#[47]⟩ m _ (by omega) hm (by decide)).mono ?_
    rintro e w2 ⟨rfl, rfl⟩
    rw [HSP.out, HLEN.out]
    have hmem := HMEM.out
    have hcnt := HCNT.out
    have hA : Chg Never w (w.alloc (.cells (((parts 47 s.data.toList).map toB).map Value.string).toArray 9)) := (Chg.refl Never w).alloc _
    have hR0 : Rdv (w.alloc (.cells (((parts 47 s.data.toList).map toB).map Value.string).toArray 9)) Never (.slice (some ⟨w.heap.size, 0, none⟩) ((parts 47 s.data.toList).map toB).length ((parts 47 s.data.toList).map toB).length) ((parts 47 s.data.toList).map toB) :=
      rdv_strs (heap_alloc_new _ _) (fun h => h) rfl (by rw [List.length_map]; unfold maxLen; omega) (fun x hx => by
        obtain ⟨y, hy, rfl⟩ := List.mem_map.1 hx
        rw [Lib.size_eq, toB_data]
        have := hmem y hy
        unfold maxLen; omega)
    have hLL : ((parts 47 s.data.toList).map toB).length ≤ 21 := by rw [List.length_map]; omega
    have HM : Hid (∀ x ∈ (parts 47 s.data.toList).map toB, x.data.toList ∈ parts 47 s.data.toList ∧ x.size ≤ 20) := by
      intro x hx
      obtain ⟨y, hy, rfl⟩ := List.mem_map.1 hx
      have := hmem y hy
      exact ⟨by rw [toB_data]; exact hy, by rw [Lib.size_eq, toB_data]; omega⟩
    have HM2 : Hid (∀ y ∈ parts 47 s.data.toList, toB y ∈ (parts 47 s.data.toList).map toB) := fun y hy => List.mem_map.2 ⟨y, hy, rfl⟩
    clear hmem hcnt HSP HLEN
    generalize (parts 47 s.data.toList).map toB = L at hR0 hA hLL HM HM2 ⊢
    generalize w.alloc (.cells (L.map Value.string).toArray 9) = w3 at hR0 hA ⊢
    obtain ⟨la, lc, hlv, h1, h2, h3⟩ := rdv_slice hR0
    simp only [Value.slice.injEq, true_and] at hlv
    obtain ⟨rfl, rfl⟩ := hlv
    go_wp2_with fail
    go_loop [13] (fun i => ∃ k : Nat, k ≤ L.length ∧ i = .int .i64 k ∧ Hid (∀ x ∈ L.take k, nameOk x.data.toList = true)) (fun i => L.length - (intOf i).toNat)
    case atStart => exact ⟨0, Nat.zero_le _, rfl, fun x hx => by simp at hx⟩
    case round =>
      obtain ⟨k, hk, rfl, hf⟩ := hrel
      by_cases hlt : k < L.length
      · obtain ⟨x, hx⟩ : ∃ x, L[k]? = some x := ⟨L[k], by simp [hlt]⟩
        obtain ⟨b, off, hbo, _, _, c0, hxs⟩ := elems_str h3 hx
        simp only [Option.some.injEq, Addr.mk.injEq, and_true] at hbo
        obtain ⟨rfl, rfl⟩ := hbo
        rw [Nat.zero_add] at c0
        obtain ⟨hxm, hx20⟩ := HM.out x (List.mem_of_getElem? hx)
        have HX := Lib.hid hx
        have HXM := Lib.hid hxm
        clear hx hxm
        by_cases b1 : x.data.toList = []
        · have HN := Lib.hid (HH.out.1 _ HXM.out (by rw [b1]; rfl))
          have t1 : x.toList.isEmpty = true := by rw [Lib.toList_data, b1]; rfl
          clear b1
          go_wp2_with fail
          go_ret
          exact ⟨by rw [HN.out]; rfl, hA⟩
        · have t1 := emp_false b1
          by_cases b2 : x.data.toList = [46]
          · have HN := Lib.hid (HH.out.1 _ HXM.out (by rw [b2]; rfl))
            have t2 : (x.toList == [46]) = true := by rw [Lib.toList_data, b2]; rfl
            clear b1 b2
            go_wp2_with fail
            go_ret
            exact ⟨by rw [HN.out]; rfl, hA⟩
          · have t2 := str_false b2
            by_cases b3 : x.data.toList = [46, 46]
            · have HN := Lib.hid (HH.out.1 _ HXM.out (by rw [b3]; rfl))
              have t3 : (x.toList == [46, 46]) = true := by rw [Lib.toList_data, b3]; rfl
              clear b1 b2 b3
              go_wp2_with fail
              go_ret
              exact ⟨by rw [HN.out]; rfl, hA⟩
            · have t3 := str_false b3
              have HBB := Lib.hid (And.intro b1 (And.intro b2 b3))
              clear b1 b2 b3
              go_wp2_with fail
              go_loop [30] (fun i => ∃ j : Nat, j ≤ x.size ∧ i = .int .i64 j ∧ Hid (∀ q, q < j → ∀ c, x.data.toList[q]? = some c → letterB c = true)) (fun i => x.size - (intOf i).toNat)
              case atStart => exact ⟨0, Nat.zero_le _, rfl, fun q h => absurd h (Nat.not_lt_zero q)⟩
              case round =>
                obtain ⟨j, hj, rfl, hl⟩ := hrel
                by_cases hjl : j < x.size
                · have HAT := Lib.hid (byte_at hjl)
                  have hlt256 := (x[j]'hjl).toNat_lt
                  cases hlb : letterI ((x[j]'hjl).toNat : Int) with
                  | true =>
                    have HLB : Hid (letterB (x[j]'hjl) = true) := by rw [Hid, ← letterI_byte]; exact hlb
                    go_wp2_with fail
                    refine (letter_any _ _ (by omega) (by omega)).mono ?_
                    rintro e w5 ⟨rfl, hw5⟩
                    rw [hw5, hlb]
                    clear hlb hw5
                    go_wp2_with fail
                    go_round
                    case rel => exact ⟨j + 1, by omega, by go_num, fun q hq c hc => by
                      by_cases e : q = j
                      · subst e
                        rw [HAT.out] at hc
                        injection hc with hc
                        rw [← hc]; exact HLB.out
                      · exact hl.out q (by omega) c hc⟩
                    case measure => simp [intOf] <;> omega
                  | false =>
                    have HN := Lib.hid (HH.out.1 _ HXM.out (by
                      rw [Bool.eq_false_iff]
                      intro e
                      have := (nameOk_iff.1 e).2.2.2 _ (List.mem_of_getElem? HAT.out)
                      rw [← letterI_byte, hlb] at this
                      cases this))
                    go_wp2_with fail
                    refine (letter_any _ _ (by omega) (by omega)).mono ?_
                    rintro e w5 ⟨rfl, hw5⟩
                    rw [hw5, hlb]
                    clear hlb hw5
                    go_wp2_with fail
                    go_ret
                    exact ⟨by rw [HN.out]; rfl, hA⟩
                · have HOK : Hid (nameOk x.data.toList = true) := nameOk_iff.2 ⟨HBB.out.1, HBB.out.2.1, HBB.out.2.2, fun c hc => by
                    obtain ⟨q, hq⟩ := List.getElem?_of_mem hc
                    have hql := (List.getElem?_eq_some_iff.1 hq).1
                    rw [← Lib.size_eq] at hql
                    exact hl.out q (by omega) c hq⟩
                  clear hl
                  go_wp2_with fail
                  go_round
                  case rel => exact ⟨k + 1, by omega, by go_num, take_all_succ hf.out HX.out HOK.out⟩
                  case measure => simp [intOf] <;> omega
      · go_wp2_with fail
        go_ret
        have e := hf.out
        rw [List.take_of_length_le (by omega)] at e
        have e2 : pathFault s = 0 := HH.out.2 (fun y hy => by have := e _ (HM2.out y hy); rw [toB_data] at this; exact this)
        exact ⟨by rw [e2]; rfl, hA⟩

/-! ### the document's way -/
theorem parts_head {d : UInt8} : ∀ {a : List UInt8} (r : List UInt8), (∀ x ∈ a, x ≠ d) → ∃ t u, parts d (a ++ r) = (a ++ t) :: u ∧ parts d r = t :: u
  | [], r, _ => by
    obtain ⟨h', t, e⟩ := List.exists_cons_of_ne_nil (parts_ne d r)
    exact ⟨h', t, e, e⟩
  | c :: a, r, h => by
    obtain ⟨t, u, e1, e2⟩ := parts_head (a := a) r (fun x hx => h x (List.mem_cons_of_mem _ hx))
    exact ⟨t, u, parts_other (h c (List.mem_cons_self ..)) e1, e2⟩
structure NameInv (s : ByteArray) (q k : Nat) (L : List ByteArray) : Prop where
  p : PartsInv 47 s q k L
  ok : ∀ x ∈ L, nameOk x.data.toList = true
  let_ : ∀ j, q ≤ j → j < k → ∀ c, s.data.toList[j]? = some c → letterB c = true
theorem ninv_start (s : ByteArray) : NameInv s 0 0 [] := ⟨pinv_start _ _, fun x h => by simp at h, fun j _ h => absurd h (Nat.not_lt_zero j)⟩
theorem NameInv.step {s : ByteArray} {q k : Nat} {L : List ByteArray} {c : UInt8} (h : NameInv s q k L) (hk : s.data.toList[k]? = some c) (hc : c ≠ 47) (hl : letterB c = true) : NameInv s q (k + 1) L :=
  ⟨h.p.step hk hc, h.ok, fun j h1 h2 d hd => by
    by_cases e : j = k
    · subst e
      rw [hk] at hd
      injection hd with hd
      rw [← hd]; exact hl
    · exact h.let_ j h1 (by omega) d hd⟩
theorem NameInv.bad {s : ByteArray} {q k : Nat} {L : List ByteArray} {c : UInt8} (h : NameInv s q k L) (hq : q ≤ k) (hk : s.data.toList[k]? = some c) (hc : c ≠ 47) (hl : letterB c = false) : ∃ x ∈ parts 47 s.data.toList, nameOk x = false := by
  have e : s.data.toList.drop q = (s.data.toList.drop q).take (k - q) ++ c :: s.data.toList.drop (k + 1) := by
    conv => lhs; rw [← List.take_append_drop (k - q) (s.data.toList.drop q), List.drop_drop, show q + (k - q) = k by omega, drop_eq hk]
  obtain ⟨h', t', e3⟩ := List.exists_cons_of_ne_nil (parts_ne 47 (s.data.toList.drop (k + 1)))
  have hns := no_sep h.p.2
  generalize (s.data.toList.drop q).take (k - q) = A at e hns
  obtain ⟨t, u, e1, e2⟩ := parts_head (c :: s.data.toList.drop (k + 1)) hns
  rw [parts_other hc e3] at e2
  injection e2 with e2 e2'
  refine ⟨A ++ t, ?_, ?_⟩
  · rw [h.p.1, e, e1]
    exact List.mem_append_right _ (List.mem_cons_self ..)
  · rw [Bool.eq_false_iff]
    intro hn
    have hct : c ∈ t := by rw [← e2]; exact List.mem_cons_self ..
    have := (nameOk_iff.1 hn).2.2.2 c (List.mem_append_right _ hct)
    rw [hl] at this
    cases this
theorem NameInv.name {s : ByteArray} {q k : Nat} {L : List ByteArray} (h : NameInv s q k L) : ∀ c ∈ (s.extract q k).data.toList, letterB c = true := by
  intro c hc
  rw [Lib.extract_data] at hc
  obtain ⟨i, hi⟩ := List.getElem?_of_mem hc
  rw [List.getElem?_take] at hi
  split at hi
  · rw [List.getElem?_drop] at hi
    exact h.let_ (q + i) (by omega) (by omega) c hi
  · cases hi
theorem NameInv.nameMem {s : ByteArray} {q k : Nat} {L : List ByteArray} (h : NameInv s q k L) (hq : q ≤ k) (hk : s.data.toList[k]? = some 47 ∨ k = s.size) : (s.extract q k).data.toList ∈ parts 47 s.data.toList := by
  rcases hk with hk | rfl
  · have e := (h.p.cut hq hk).1
    rw [e]
    exact List.mem_append_left _ (List.mem_map.2 ⟨_, List.mem_append_right _ (List.mem_cons_self ..), rfl⟩)
  · have e := h.p.fin
    have hm : s.extract q s.size ∈ (parts 47 s.data.toList).map toB := by rw [e]; exact List.mem_append_right _ (List.mem_cons_self ..)
    obtain ⟨y, hy, e2⟩ := List.mem_map.1 hm
    rw [← e2, toB_data]; exact hy
theorem NameInv.cut {s : ByteArray} {q k : Nat} {L : List ByteArray} (h : NameInv s q k L) (hq : q ≤ k) (hk : s.data.toList[k]? = some 47) (hn : nameOk (s.extract q k).data.toList = true) : NameInv s (k + 1) (k + 1) (L ++ [s.extract q k]) :=
  ⟨h.p.cut hq hk, fun x hx => by
    rcases List.mem_append.1 hx with hx | hx
    · exact h.ok x hx
    · rw [List.mem_singleton] at hx
      rw [hx]; exact hn, fun j h1 h2 => by omega⟩
theorem NameInv.all {s : ByteArray} {q : Nat} {L : List ByteArray} (h : NameInv s q s.size L) (hn : nameOk (s.extract q s.size).data.toList = true) : ∀ x ∈ parts 47 s.data.toList, nameOk x = true := by
  intro x hx
  have hm : toB x ∈ (parts 47 s.data.toList).map toB := List.mem_map.2 ⟨x, hx, rfl⟩
  rw [h.p.fin] at hm
  have : nameOk (toB x).data.toList = true := by
    rcases List.mem_append.1 hm with hm | hm
    · exact h.ok _ hm
    · rw [List.mem_singleton] at hm
      rw [hm]; exact hn
  rwa [toB_data] at this
/-- where the loop over the letters stands: at a letter, or behind the end -/
def PathSt (s : ByteArray) (q k : Nat) : Prop := (k ≤ s.size → ∃ L, NameInv s q k L) ∧ (k = s.size + 1 → ∀ x ∈ parts 47 s.data.toList, nameOk x = true)

set_option maxHeartbeats 2000000 in
set_option maxRecDepth 100000 in
theorem refPath_any (s : ByteArray) (w : World) :
    Calls Tryd.prog 22 #[.string s] w fun e w' => e = .returned (.int .i64 (pathFault s)) ∧ Chg Never w w' := by
  by_cases h20 : 20 < s.size
  · have HF := Lib.hid (pathFault_long h20)
    go_enter Tryd.func22, Tryd.ntmps22
    go_wp2_with fail
    go_ret
    exact ⟨by rw [HF.out]; rfl, Chg.refl _ _⟩
  · have h20' : s.size ≤ 20 := by omega
    go_enter Tryd.func22, Tryd.ntmps22
    go_wp2_with fail
    go_loopw [3, 4] (fun fr i wr => ∃ (q k : Nat), fr = .int .i64 q ∧ i = .int .i64 k ∧ q ≤ k ∧ k ≤ s.size + 1 ∧ Chg Never w wr ∧ Hid (PathSt s q k)) (fun _ i _ => s.size + 1 - (intOf i).toNat)
    case atStart => exact ⟨0, 0, rfl, rfl, Nat.le_refl _, Nat.zero_le _, Chg.refl _ _, ⟨fun _ => ⟨[], ninv_start s⟩, fun e => by omega⟩⟩
    case round =>
      obtain ⟨q, k, rfl, rfl, hqk, hk, hc, hS⟩ := hrel
      by_cases hle : k ≤ s.size
      · obtain ⟨L, hNI⟩ := hS.out.1 hle
        have HNI := Lib.hid hNI
        clear hNI hS
        by_cases hlt : k < s.size
        · have HB := Lib.hid (byte_at hlt)
          have h256 := (s[k]'hlt).toNat_lt
          cases hq : (((s[k]'hlt).toNat : Int) == 47) with
          | false =>
            have t0 : (((s[k]'hlt).toNat : Int) != 47) = true := by simpa using hq
            have HC := Lib.hid (byte_ne (d := 47) hq rfl)
            clear hq
            by_cases c1 : 97 ≤ (s[k]'hlt).toNat
            · by_cases c2 : (s[k]'hlt).toNat ≤ 122
              · have a1 : decide (((s[k]'hlt).toNat : Int) < 97) = false := by simp; omega
                have a2 : decide ((122 : Int) < ((s[k]'hlt).toNat : Int)) = false := by simp; omega
                have a3 : decide (((s[k]'hlt).toNat : Int) < 48) = false := by simp; omega
                have a4 : decide ((57 : Int) < ((s[k]'hlt).toNat : Int)) = true := by simp; omega
                have a5 : (((s[k]'hlt).toNat : Int) != 46) = true := by simp; omega
                have a6 : (((s[k]'hlt).toNat : Int) != 45) = true := by simp; omega
                have HLB : Hid (letterB (s[k]'hlt) = true) := by
                  unfold Hid letterB
                  simp only [Bool.or_eq_true, Bool.and_eq_true, decide_eq_true_eq]
                  omega
                have HST : Hid (PathSt s q (k + 1)) := ⟨fun _ => ⟨L, HNI.out.step HB.out HC.out HLB.out⟩, fun e => by omega⟩
                go_wp2_with fail
                go_roundw
                case rel => exact ⟨q, k + 1, rfl, by go_num, by omega, by omega, hc, HST⟩
                case measure => simp [intOf] <;> omega
              · have a1 : decide (((s[k]'hlt).toNat : Int) < 97) = false := by simp; omega
                have a2 : decide ((122 : Int) < ((s[k]'hlt).toNat : Int)) = true := by simp; omega
                have a3 : decide (((s[k]'hlt).toNat : Int) < 48) = false := by simp; omega
                have a4 : decide ((57 : Int) < ((s[k]'hlt).toNat : Int)) = true := by simp; omega
                have a5 : (((s[k]'hlt).toNat : Int) != 46) = true := by simp; omega
                have a6 : (((s[k]'hlt).toNat : Int) != 45) = true := by simp; omega
                have HLB : Hid (letterB (s[k]'hlt) = false) := by
                  rw [Hid, Bool.eq_false_iff]
                  unfold letterB
                  simp only [ne_eq, Bool.or_eq_true, Bool.and_eq_true, decide_eq_true_eq]
                  omega
                have HF : Hid (pathFault s = 5) := by
                  obtain ⟨x, hx, hb⟩ := HNI.out.bad hqk HB.out HC.out HLB.out
                  exact pathFault_bad h20 hx hb
                go_wp2_with fail
                go_ret
                exact ⟨by rw [HF.out]; rfl, hc⟩
            · by_cases c3 : 48 ≤ (s[k]'hlt).toNat
              · by_cases c4 : (s[k]'hlt).toNat ≤ 57
                · have a1 : decide (((s[k]'hlt).toNat : Int) < 97) = true := by simp; omega
                  have a2 : decide ((122 : Int) < ((s[k]'hlt).toNat : Int)) = false := by simp; omega
                  have a3 : decide (((s[k]'hlt).toNat : Int) < 48) = false := by simp; omega
                  have a4 : decide ((57 : Int) < ((s[k]'hlt).toNat : Int)) = false := by simp; omega
                  have a5 : (((s[k]'hlt).toNat : Int) != 46) = true := by simp; omega
                  have a6 : (((s[k]'hlt).toNat : Int) != 45) = true := by simp; omega
                  have HLB : Hid (letterB (s[k]'hlt) = true) := by
                    unfold Hid letterB
                    simp only [Bool.or_eq_true, Bool.and_eq_true, decide_eq_true_eq]
                    omega
                  have HST : Hid (PathSt s q (k + 1)) := ⟨fun _ => ⟨L, HNI.out.step HB.out HC.out HLB.out⟩, fun e => by omega⟩
                  go_wp2_with fail
                  go_roundw
                  case rel => exact ⟨q, k + 1, rfl, by go_num, by omega, by omega, hc, HST⟩
                  case measure => simp [intOf] <;> omega
                · have a1 : decide (((s[k]'hlt).toNat : Int) < 97) = true := by simp; omega
                  have a2 : decide ((122 : Int) < ((s[k]'hlt).toNat : Int)) = false := by simp; omega
                  have a3 : decide (((s[k]'hlt).toNat : Int) < 48) = false := by simp; omega
                  have a4 : decide ((57 : Int) < ((s[k]'hlt).toNat : Int)) = true := by simp; omega
                  have a5 : (((s[k]'hlt).toNat : Int) != 46) = true := by simp; omega
                  have a6 : (((s[k]'hlt).toNat : Int) != 45) = true := by simp; omega
                  have HLB : Hid (letterB (s[k]'hlt) = false) := by
                    rw [Hid, Bool.eq_false_iff]
                    unfold letterB
                    simp only [ne_eq, Bool.or_eq_true, Bool.and_eq_true, decide_eq_true_eq]
                    omega
                  have HF : Hid (pathFault s = 5) := by
                    obtain ⟨x, hx, hb⟩ := HNI.out.bad hqk HB.out HC.out HLB.out
                    exact pathFault_bad h20 hx hb
                  go_wp2_with fail
                  go_ret
                  exact ⟨by rw [HF.out]; rfl, hc⟩
              · by_cases c5 : (s[k]'hlt).toNat = 46
                · have a1 : decide (((s[k]'hlt).toNat : Int) < 97) = true := by simp; omega
                  have a2 : decide ((122 : Int) < ((s[k]'hlt).toNat : Int)) = false := by simp; omega
                  have a3 : decide (((s[k]'hlt).toNat : Int) < 48) = true := by simp; omega
                  have a4 : decide ((57 : Int) < ((s[k]'hlt).toNat : Int)) = false := by simp; omega
                  have a5 : (((s[k]'hlt).toNat : Int) != 46) = false := by simp; omega
                  have a6 : (((s[k]'hlt).toNat : Int) != 45) = true := by simp; omega
                  have HLB : Hid (letterB (s[k]'hlt) = true) := by
                    unfold Hid letterB
                    simp only [Bool.or_eq_true, Bool.and_eq_true, decide_eq_true_eq]
                    omega
                  have HST : Hid (PathSt s q (k + 1)) := ⟨fun _ => ⟨L, HNI.out.step HB.out HC.out HLB.out⟩, fun e => by omega⟩
                  go_wp2_with fail
                  go_roundw
                  case rel => exact ⟨q, k + 1, rfl, by go_num, by omega, by omega, hc, HST⟩
                  case measure => simp [intOf] <;> omega
                · by_cases c6 : (s[k]'hlt).toNat = 45
                  · have a1 : decide (((s[k]'hlt).toNat : Int) < 97) = true := by simp; omega
                    have a2 : decide ((122 : Int) < ((s[k]'hlt).toNat : Int)) = false := by simp; omega
                    have a3 : decide (((s[k]'hlt).toNat : Int) < 48) = true := by simp; omega
                    have a4 : decide ((57 : Int) < ((s[k]'hlt).toNat : Int)) = false := by simp; omega
                    have a5 : (((s[k]'hlt).toNat : Int) != 46) = true := by simp; omega
                    have a6 : (((s[k]'hlt).toNat : Int) != 45) = false := by simp; omega
                    have HLB : Hid (letterB (s[k]'hlt) = true) := by
                      unfold Hid letterB
                      simp only [Bool.or_eq_true, Bool.and_eq_true, decide_eq_true_eq]
                      omega
                    have HST : Hid (PathSt s q (k + 1)) := ⟨fun _ => ⟨L, HNI.out.step HB.out HC.out HLB.out⟩, fun e => by omega⟩
                    go_wp2_with fail
                    go_roundw
                    case rel => exact ⟨q, k + 1, rfl, by go_num, by omega, by omega, hc, HST⟩
                    case measure => simp [intOf] <;> omega
                  · have a1 : decide (((s[k]'hlt).toNat : Int) < 97) = true := by simp; omega
                    have a2 : decide ((122 : Int) < ((s[k]'hlt).toNat : Int)) = false := by simp; omega
                    have a3 : decide (((s[k]'hlt).toNat : Int) < 48) = true := by simp; omega
                    have a4 : decide ((57 : Int) < ((s[k]'hlt).toNat : Int)) = false := by simp; omega
                    have a5 : (((s[k]'hlt).toNat : Int) != 46) = true := by simp; omega
                    have a6 : (((s[k]'hlt).toNat : Int) != 45) = true := by simp; omega
                    have HLB : Hid (letterB (s[k]'hlt) = false) := by
                      rw [Hid, Bool.eq_false_iff]
                      unfold letterB
                      simp only [ne_eq, Bool.or_eq_true, Bool.and_eq_true, decide_eq_true_eq]
                      omega
                    have HF : Hid (pathFault s = 5) := by
                      obtain ⟨x, hx, hb⟩ := HNI.out.bad hqk HB.out HC.out HLB.out
                      exact pathFault_bad h20 hx hb
                    go_wp2_with fail
                    go_ret
                    exact ⟨by rw [HF.out]; rfl, hc⟩
          | true =>
            have t0 : (((s[k]'hlt).toNat : Int) != 47) = false := by simpa using hq
            have HC : Hid (s.data.toList[k]? = some 47) := by rw [Hid, HB.out, byte_eq (d := 47) hq rfl]
            have HMEM := Lib.hid (HNI.out.nameMem hqk (.inl HC.out))
            clear hq
            by_cases b1 : (s.extract q k).data.toList = []
            · have HN := Lib.hid (pathFault_bad h20 HMEM.out (by rw [b1]; rfl))
              have t1 : (s.extract q k).toList.isEmpty = true := by rw [Lib.toList_data, b1]; rfl
              clear b1
              go_wp2_with fail
              go_ret
              exact ⟨by rw [HN.out]; rfl, hc⟩
            · have t1 := emp_false b1
              by_cases b2 : (s.extract q k).data.toList = [46]
              · have HN := Lib.hid (pathFault_bad h20 HMEM.out (by rw [b2]; rfl))
                have t2 : ((s.extract q k).toList == [46]) = true := by rw [Lib.toList_data, b2]; rfl
                clear b1 b2
                go_wp2_with fail
                go_ret
                exact ⟨by rw [HN.out]; rfl, hc⟩
              · have t2 := str_false b2
                by_cases b3 : (s.extract q k).data.toList = [46, 46]
                · have HN := Lib.hid (pathFault_bad h20 HMEM.out (by rw [b3]; rfl))
                  have t3 : ((s.extract q k).toList == [46, 46]) = true := by rw [Lib.toList_data, b3]; rfl
                  clear b1 b2 b3
                  go_wp2_with fail
                  go_ret
                  exact ⟨by rw [HN.out]; rfl, hc⟩
                · have t3 := str_false b3
                  have HOK : Hid (nameOk (s.extract q k).data.toList = true) := nameOk_iff.2 ⟨b1, b2, b3, HNI.out.name⟩
                  clear b1 b2 b3
                  have HST : Hid (PathSt s (k + 1) (k + 1)) := ⟨fun _ => ⟨_, HNI.out.cut hqk HC.out HOK.out⟩, fun e => by omega⟩
                  go_wp2_with fail
                  go_roundw
                  case rel => exact ⟨k + 1, k + 1, by go_num, by go_num, Nat.le_refl _, by omega, hc, HST⟩
                  case measure => simp [intOf] <;> omega
        · have hks : k = s.size := by omega
          have HMEM := Lib.hid (HNI.out.nameMem hqk (.inr hks))
          have HKS := Lib.hid hks
          clear hks
          by_cases b1 : (s.extract q k).data.toList = []
          · have HN := Lib.hid (pathFault_bad h20 HMEM.out (by rw [b1]; rfl))
            have t1 : (s.extract q k).toList.isEmpty = true := by rw [Lib.toList_data, b1]; rfl
            clear b1
            go_wp2_with fail
            go_ret
            exact ⟨by rw [HN.out]; rfl, hc⟩
          · have t1 := emp_false b1
            by_cases b2 : (s.extract q k).data.toList = [46]
            · have HN := Lib.hid (pathFault_bad h20 HMEM.out (by rw [b2]; rfl))
              have t2 : ((s.extract q k).toList == [46]) = true := by rw [Lib.toList_data, b2]; rfl
              clear b1 b2
              go_wp2_with fail
              go_ret
              exact ⟨by rw [HN.out]; rfl, hc⟩
            · have t2 := str_false b2
              by_cases b3 : (s.extract q k).data.toList = [46, 46]
              · have HN := Lib.hid (pathFault_bad h20 HMEM.out (by rw [b3]; rfl))
                have t3 : ((s.extract q k).toList == [46, 46]) = true := by rw [Lib.toList_data, b3]; rfl
                clear b1 b2 b3
                go_wp2_with fail
                go_ret
                exact ⟨by rw [HN.out]; rfl, hc⟩
              · have t3 := str_false b3
                have HOK : Hid (nameOk (s.extract q k).data.toList = true) := nameOk_iff.2 ⟨b1, b2, b3, HNI.out.name⟩
                clear b1 b2 b3
                have HST : Hid (PathSt s (k + 1) (k + 1)) := ⟨fun e => by have := HKS.out; omega, fun _ => by have a := HNI.out; have b := HOK.out; rw [HKS.out] at a b; exact a.all b⟩
                go_wp2_with fail
                go_roundw
                case rel => exact ⟨k + 1, k + 1, by go_num, by go_num, Nat.le_refl _, by omega, hc, HST⟩
                case measure => simp [intOf] <;> omega
      · have HF : Hid (pathFault s = 0) := pathFault_ok h20 (hS.out.2 (by omega))
        clear hS
        go_wp2_with fail
        go_ret
        exact ⟨by rw [HF.out]; rfl, hc⟩
end Go.Proofs.YtpoammapjmddfaaDoor
