/-
  PARTS: THE WALKS of line.letter, line.Path, and of the document's PathFault.; THE WALKS of tree.Check and of the document's TreeFault, Place.
-/
import Derived.Test.YtmjpfoeaobdaeaaGreatDoorRa7
import Derived.Lib.SplitLaws
import Derived.Test.YtmjpfoeaobdaeaaGreatDoorRa2
set_option linter.unusedVariables false
set_option linter.unusedSimpArgs false
namespace Go.Proofs.YtmjpfoeaobdaeaaGreatDoor
open Go.RowKit

def letterI (c : Int) : Bool := decide (97 ≤ c) && decide (c ≤ 122) || decide (48 ≤ c) && decide (c ≤ 57) || (c == 46) || (c == 45)
theorem letterI_byte (c : UInt8) : letterI c.toNat = letterB c := by
  unfold letterI letterB
  have e1 : decide ((97 : Int) ≤ (c.toNat : Int)) = decide (97 ≤ c.toNat) := by congr 1; apply propext; omega
  have e2 : decide ((c.toNat : Int) ≤ 122) = decide (c.toNat ≤ 122) := by congr 1; apply propext; omega
  have e3 : decide ((48 : Int) ≤ (c.toNat : Int)) = decide (48 ≤ c.toNat) := by congr 1; apply propext; omega
  have e4 : decide ((c.toNat : Int) ≤ 57) = decide (c.toNat ≤ 57) := by congr 1; apply propext; omega
  have e5 : ((c.toNat : Int) == 46) = decide (c.toNat = 46) := by rw [Bool.eq_iff_iff, beq_iff_eq, decide_eq_true_eq]; omega
  have e6 : ((c.toNat : Int) == 45) = decide (c.toNat = 45) := by rw [Bool.eq_iff_iff, beq_iff_eq, decide_eq_true_eq]; omega
  rw [e1, e2, e3, e4, e5, e6]

set_option maxHeartbeats 1000000 in
theorem letter_any (c : Int) (w : World) (h0 : 0 ≤ c) (h1 : c < 256) :
    Calls Tryz.prog 131 #[.int .u8 c] w fun e w' => e = .returned (.bool (letterI c)) ∧ w' = w := by
  by_cases b1 : 97 ≤ c
  · by_cases b2 : c ≤ 122
    · have a1 : decide ((97 : Int) ≤ c) = true := by simp; omega
      have a2 : decide (c ≤ (122 : Int)) = true := by simp; omega
      have a3 : decide ((48 : Int) ≤ c) = true := by simp; omega
      have a4 : decide (c ≤ (57 : Int)) = false := by simp; omega
      have a5 : (c == 46) = false := by simp; omega
      have a6 : (c == 45) = false := by simp; omega
      have HL : Hid (letterI c = (true && true || true && false || false || false)) := by unfold Hid letterI; rw [a1, a2, a3, a4, a5, a6]
      try clear b5
      try clear b6
      go_enter Tryz.func131, Tryz.ntmps131
      go_wp2_with fail
      go_ret
      exact ⟨by rw [HL.out]; rfl, rfl⟩
    · have a1 : decide ((97 : Int) ≤ c) = true := by simp; omega
      have a2 : decide (c ≤ (122 : Int)) = false := by simp; omega
      have a3 : decide ((48 : Int) ≤ c) = true := by simp; omega
      have a4 : decide (c ≤ (57 : Int)) = false := by simp; omega
      have a5 : (c == 46) = false := by simp; omega
      have a6 : (c == 45) = false := by simp; omega
      have HL : Hid (letterI c = (true && false || true && false || false || false)) := by unfold Hid letterI; rw [a1, a2, a3, a4, a5, a6]
      try clear b5
      try clear b6
      go_enter Tryz.func131, Tryz.ntmps131
      go_wp2_with fail
      go_ret
      exact ⟨by rw [HL.out]; rfl, rfl⟩
  · by_cases b3 : 48 ≤ c
    · by_cases b4 : c ≤ 57
      · have a1 : decide ((97 : Int) ≤ c) = false := by simp; omega
        have a2 : decide (c ≤ (122 : Int)) = true := by simp; omega
        have a3 : decide ((48 : Int) ≤ c) = true := by simp; omega
        have a4 : decide (c ≤ (57 : Int)) = true := by simp; omega
        have a5 : (c == 46) = false := by simp; omega
        have a6 : (c == 45) = false := by simp; omega
        have HL : Hid (letterI c = (false && true || true && true || false || false)) := by unfold Hid letterI; rw [a1, a2, a3, a4, a5, a6]
        try clear b5
        try clear b6
        go_enter Tryz.func131, Tryz.ntmps131
        go_wp2_with fail
        go_ret
        exact ⟨by rw [HL.out]; rfl, rfl⟩
      · have a1 : decide ((97 : Int) ≤ c) = false := by simp; omega
        have a2 : decide (c ≤ (122 : Int)) = true := by simp; omega
        have a3 : decide ((48 : Int) ≤ c) = true := by simp; omega
        have a4 : decide (c ≤ (57 : Int)) = false := by simp; omega
        have a5 : (c == 46) = false := by simp; omega
        have a6 : (c == 45) = false := by simp; omega
        have HL : Hid (letterI c = (false && true || true && false || false || false)) := by unfold Hid letterI; rw [a1, a2, a3, a4, a5, a6]
        try clear b5
        try clear b6
        go_enter Tryz.func131, Tryz.ntmps131
        go_wp2_with fail
        go_ret
        exact ⟨by rw [HL.out]; rfl, rfl⟩
    · by_cases b5 : c = 46
      · have a1 : decide ((97 : Int) ≤ c) = false := by simp; omega
        have a2 : decide (c ≤ (122 : Int)) = true := by simp; omega
        have a3 : decide ((48 : Int) ≤ c) = false := by simp; omega
        have a4 : decide (c ≤ (57 : Int)) = true := by simp; omega
        have a5 : (c == 46) = true := by simp; omega
        have a6 : (c == 45) = false := by simp; omega
        have HL : Hid (letterI c = (false && true || false && true || true || false)) := by unfold Hid letterI; rw [a1, a2, a3, a4, a5, a6]
        try clear b5
        try clear b6
        go_enter Tryz.func131, Tryz.ntmps131
        go_wp2_with fail
        go_ret
        exact ⟨by rw [HL.out]; rfl, rfl⟩
      · by_cases b6 : c = 45
        · have a1 : decide ((97 : Int) ≤ c) = false := by simp; omega
          have a2 : decide (c ≤ (122 : Int)) = true := by simp; omega
          have a3 : decide ((48 : Int) ≤ c) = false := by simp; omega
          have a4 : decide (c ≤ (57 : Int)) = true := by simp; omega
          have a5 : (c == 46) = false := by simp; omega
          have a6 : (c == 45) = true := by simp; omega
          have HL : Hid (letterI c = (false && true || false && true || false || true)) := by unfold Hid letterI; rw [a1, a2, a3, a4, a5, a6]
          try clear b5
          try clear b6
          go_enter Tryz.func131, Tryz.ntmps131
          go_wp2_with fail
          go_ret
          exact ⟨by rw [HL.out]; rfl, rfl⟩
        · have a1 : decide ((97 : Int) ≤ c) = false := by simp; omega
          have a2 : decide (c ≤ (122 : Int)) = true := by simp; omega
          have a3 : decide ((48 : Int) ≤ c) = false := by simp; omega
          have a4 : decide (c ≤ (57 : Int)) = true := by simp; omega
          have a5 : (c == 46) = false := by simp; omega
          have a6 : (c == 45) = false := by simp; omega
          have HL : Hid (letterI c = (false && true || false && true || false || false)) := by unfold Hid letterI; rw [a1, a2, a3, a4, a5, a6]
          try clear b5
          try clear b6
          go_enter Tryz.func131, Tryz.ntmps131
          go_wp2_with fail
          go_ret
          exact ⟨by rw [HL.out]; rfl, rfl⟩

theorem emp_false {x : ByteArray} (h : x.data.toList ≠ []) : x.toList.isEmpty = false := by rw [Lib.toList_data]; simpa using h
theorem str_false {x : ByteArray} {l : List UInt8} (h : x.data.toList ≠ l) : (x.toList == l) = false := by rw [Lib.toList_data]; simpa using h
theorem nameOk_iff {x : List UInt8} : nameOk x = true ↔ x ≠ [] ∧ x ≠ [46] ∧ x ≠ [46, 46] ∧ ∀ c ∈ x, letterB c = true := by
  unfold nameOk
  simp only [Bool.and_eq_true, Bool.not_eq_true', beq_eq_false_iff_ne, List.all_eq_true, ne_eq]
  constructor
  · rintro ⟨⟨⟨a, b⟩, c⟩, d⟩; exact ⟨a, b, c, d⟩
  · rintro ⟨a, b, c, d⟩; exact ⟨⟨⟨a, b⟩, c⟩, d⟩
theorem pathFault_long {s : ByteArray} (h : 20 < s.size) : pathFault s = 3 := if_pos h
theorem pathFault_bad {s : ByteArray} (h : ¬ 20 < s.size) {x : List UInt8} (hx : x ∈ parts 47 s.data.toList) (hb : nameOk x = false) : pathFault s = 5 := by
  unfold pathFault
  rw [if_neg h, if_neg]
  intro e
  rw [List.all_eq_true] at e
  rw [e x hx] at hb
  cases hb
theorem pathFault_ok {s : ByteArray} (h : ¬ 20 < s.size) (ha : ∀ x ∈ parts 47 s.data.toList, nameOk x = true) : pathFault s = 0 := by
  unfold pathFault
  rw [if_neg h, if_pos]
  rw [List.all_eq_true]; exact ha

set_option maxHeartbeats 1000000 in
set_option maxRecDepth 100000 in
theorem line_path_any (s : ByteArray) (w : World) (m : Int) (hm : w.cell? ⟨0, 0, none⟩ = some (.int .i64 m)) :
    Calls Tryz.prog 108 #[.string s] w fun e w' => e = .returned (errV (pathFault s)) ∧ Chg Never w w' := by
  by_cases h20 : 20 < s.size
  · have HF := Lib.hid (pathFault_long h20)
    go_enter Tryz.func108, Tryz.ntmps108
    go_wp2_with fail
    go_ret
    exact ⟨by rw [HF.out]; rfl, Chg.refl _ _⟩
  · have HB := fun x hx hb => pathFault_bad (x := x) h20 hx hb
    have HO := pathFault_ok h20
    have hcnt : (parts 47 s.data.toList).length ≤ s.size + 1 := by rw [Lib.size_eq]; exact parts_count 47 _
    have HSP : Hid (Lib.splitB ⟨#[47]⟩ 0 (Lib.countB s ⟨#[47]⟩) s = (parts 47 s.data.toList).map toB) := splitB_parts 47 s
    have HLEN : Hid (Lib.countB s ⟨#[47]⟩ + 1 = ((parts 47 s.data.toList).map toB).length) := by
      have := Lib.splitB_all ⟨#[47]⟩ (by decide) 0 _ s rfl
      rw [Hid, ← this, HSP.out]
    have hmem : ∀ x ∈ parts 47 s.data.toList, x.length ≤ s.size := fun x hx => by rw [Lib.size_eq]; exact parts_mem 47 _ x hx
    have HMEM := Lib.hid hmem
    have HCNT := Lib.hid hcnt
    clear hmem hcnt
    have HH := Lib.hid (And.intro HB HO)
    clear HB HO
    go_enter Tryz.func108, Tryz.ntmps108
    go_wp2_with fail
    refine (Tryz.strings_Split s ⟨#[47]⟩ m _ (by omega) hm (by decide)).mono ?_
    rintro e w2 ⟨rfl, rfl⟩
    rw [HSP.out, HLEN.out]
    have hmem := HMEM.out
    have hcnt := HCNT.out
    have hA : Chg Never w (w.alloc (.cells (((parts 47 s.data.toList).map toB).map Value.string).toArray 9)) := (Chg.refl Never w).alloc _
    have hR0 : Rdv (w.alloc (.cells (((parts 47 s.data.toList).map toB).map Value.string).toArray 9)) Never (.slice (some ⟨w.heap.size, 0, none⟩) ((parts 47 s.data.toList).map toB).length ((parts 47 s.data.toList).map toB).length) ((parts 47 s.data.toList).map toB) :=
      rdv_strs (heap_alloc_new _ _) (fun h => h) rfl (by rw [List.length_map]; unfold maxLen; omega) (fun x hx => by
        obtain ⟨y, hy, rfl⟩ := List.mem_map.1 hx
        rw [Lib.size_eq, toB_data]
        have := hmem y hy
        unfold maxLen; omega)
    have hLL : ((parts 47 s.data.toList).map toB).length ≤ 21 := by rw [List.length_map]; omega
    have HM : Hid (∀ x ∈ (parts 47 s.data.toList).map toB, x.data.toList ∈ parts 47 s.data.toList ∧ x.size ≤ 20) := by
      intro x hx
      obtain ⟨y, hy, rfl⟩ := List.mem_map.1 hx
      have := hmem y hy
      exact ⟨by rw [toB_data]; exact hy, by rw [Lib.size_eq, toB_data]; omega⟩
    have HM2 : Hid (∀ y ∈ parts 47 s.data.toList, toB y ∈ (parts 47 s.data.toList).map toB) := fun y hy => List.mem_map.2 ⟨y, hy, rfl⟩
    clear hmem hcnt HSP HLEN
    generalize (parts 47 s.data.toList).map toB = L at hR0 hA hLL HM HM2 ⊢
    generalize w.alloc (.cells (L.map Value.string).toArray 9) = w3 at hR0 hA ⊢
    obtain ⟨la, lc, hlv, h1, h2, h3⟩ := rdv_slice hR0
    simp only [Value.slice.injEq, true_and] at hlv
    obtain ⟨rfl, rfl⟩ := hlv
    go_wp2_with fail
    go_loop [13] (fun i => ∃ k : Nat, k ≤ L.length ∧ i = .int .i64 k ∧ Hid (∀ x ∈ L.take k, nameOk x.data.toList = true)) (fun i => L.length - (intOf i).toNat)
    case atStart => exact ⟨0, Nat.zero_le _, rfl, fun x hx => by simp at hx⟩
    case round =>
      obtain ⟨k, hk, rfl, hf⟩ := hrel
      by_cases hlt : k < L.length
      · obtain ⟨x, hx⟩ : ∃ x, L[k]? = some x := ⟨L[k], by simp [hlt]⟩
        obtain ⟨b, off, hbo, _, _, c0, hxs⟩ := elems_str h3 hx
        simp only [Option.some.injEq, Addr.mk.injEq, and_true] at hbo
        obtain ⟨rfl, rfl⟩ := hbo
        rw [Nat.zero_add] at c0
        obtain ⟨hxm, hx20⟩ := HM.out x (List.mem_of_getElem? hx)
        have HX := Lib.hid hx
        have HXM := Lib.hid hxm
        clear hx hxm
        by_cases b1 : x.data.toList = []
        · have HN := Lib.hid (HH.out.1 _ HXM.out (by rw [b1]; rfl))
          have t1 : x.toList.isEmpty = true := by rw [Lib.toList_data, b1]; rfl
          clear b1
          go_wp2_with fail
          go_ret
          exact ⟨by rw [HN.out]; rfl, hA⟩
        · have t1 := emp_false b1
          by_cases b2 : x.data.toList = [46]
          · have HN := Lib.hid (HH.out.1 _ HXM.out (by rw [b2]; rfl))
            have t2 : (x.toList == [46]) = true := by rw [Lib.toList_data, b2]; rfl
            clear b1 b2
            go_wp2_with fail
            go_ret
            exact ⟨by rw [HN.out]; rfl, hA⟩
          · have t2 := str_false b2
            by_cases b3 : x.data.toList = [46, 46]
            · have HN := Lib.hid (HH.out.1 _ HXM.out (by rw [b3]; rfl))
              have t3 : (x.toList == [46, 46]) = true := by rw [Lib.toList_data, b3]; rfl
              clear b1 b2 b3
              go_wp2_with fail
              go_ret
              exact ⟨by rw [HN.out]; rfl, hA⟩
            · have t3 := str_false b3
              have HBB := Lib.hid (And.intro b1 (And.intro b2 b3))
              clear b1 b2 b3
              go_wp2_with fail
              go_loop [30] (fun i => ∃ j : Nat, j ≤ x.size ∧ i = .int .i64 j ∧ Hid (∀ q, q < j → ∀ c, x.data.toList[q]? = some c → letterB c = true)) (fun i => x.size - (intOf i).toNat)
              case atStart => exact ⟨0, Nat.zero_le _, rfl, fun q h => absurd h (Nat.not_lt_zero q)⟩
              case round =>
                obtain ⟨j, hj, rfl, hl⟩ := hrel
                by_cases hjl : j < x.size
                · have HAT := Lib.hid (byte_at hjl)
                  have hlt256 := (x[j]'hjl).toNat_lt
                  cases hlb : letterI ((x[j]'hjl).toNat : Int) with
                  | true =>
                    have HLB : Hid (letterB (x[j]'hjl) = true) := by rw [Hid, ← letterI_byte]; exact hlb
                    go_wp2_with fail
                    refine (letter_any _ _ (by omega) (by omega)).mono ?_
                    rintro e w5 ⟨rfl, hw5⟩
                    rw [hw5, hlb]
                    clear hlb hw5
                    go_wp2_with fail
                    go_round
                    case rel => exact ⟨j + 1, by omega, by go_num, fun q hq c hc => by
                      by_cases e : q = j
                      · subst e
                        rw [HAT.out] at hc
                        injection hc with hc
                        rw [← hc]; exact HLB.out
                      · exact hl.out q (by omega) c hc⟩
                    case measure => simp [intOf] <;> omega
                  | false =>
                    have HN := Lib.hid (HH.out.1 _ HXM.out (by
                      rw [Bool.eq_false_iff]
                      intro e
                      have := (nameOk_iff.1 e).2.2.2 _ (List.mem_of_getElem? HAT.out)
                      rw [← letterI_byte, hlb] at this
                      cases this))
                    go_wp2_with fail
                    refine (letter_any _ _ (by omega) (by omega)).mono ?_
                    rintro e w5 ⟨rfl, hw5⟩
                    rw [hw5, hlb]
                    clear hlb hw5
                    go_wp2_with fail
                    go_ret
                    exact ⟨by rw [HN.out]; rfl, hA⟩
                · have HOK : Hid (nameOk x.data.toList = true) := nameOk_iff.2 ⟨HBB.out.1, HBB.out.2.1, HBB.out.2.2, fun c hc => by
                    obtain ⟨q, hq⟩ := List.getElem?_of_mem hc
                    have hql := (List.getElem?_eq_some_iff.1 hq).1
                    rw [← Lib.size_eq] at hql
                    exact hl.out q (by omega) c hq⟩
                  clear hl
                  go_wp2_with fail
                  go_round
                  case rel => exact ⟨k + 1, by omega, by go_num, take_all_succ hf.out HX.out HOK.out⟩
                  case measure => simp [intOf] <;> omega
      · go_wp2_with fail
        go_ret
        have e := hf.out
        rw [List.take_of_length_le (by omega)] at e
        have e2 : pathFault s = 0 := HH.out.2 (fun y hy => by have := e _ (HM2.out y hy); rw [toB_data] at this; exact this)
        exact ⟨by rw [e2]; rfl, hA⟩

theorem parts_head {d : UInt8} : ∀ {a : List UInt8} (r : List UInt8), (∀ x ∈ a, x ≠ d) → ∃ t u, parts d (a ++ r) = (a ++ t) :: u ∧ parts d r = t :: u
  | [], r, _ => by
    obtain ⟨h', t, e⟩ := List.exists_cons_of_ne_nil (parts_ne d r)
    exact ⟨h', t, e, e⟩
  | c :: a, r, h => by
    obtain ⟨t, u, e1, e2⟩ := parts_head (a := a) r (fun x hx => h x (List.mem_cons_of_mem _ hx))
    exact ⟨t, u, parts_other (h c (List.mem_cons_self ..)) e1, e2⟩
structure NameInv (s : ByteArray) (q k : Nat) (L : List ByteArray) : Prop where
  p : PartsInv 47 s q k L
  ok : ∀ x ∈ L, nameOk x.data.toList = true
  let_ : ∀ j, q ≤ j → j < k → ∀ c, s.data.toList[j]? = some c → letterB c = true
theorem ninv_start (s : ByteArray) : NameInv s 0 0 [] := ⟨pinv_start _ _, fun x h => by simp at h, fun j _ h => absurd h (Nat.not_lt_zero j)⟩
theorem NameInv.step {s : ByteArray} {q k : Nat} {L : List ByteArray} {c : UInt8} (h : NameInv s q k L) (hk : s.data.toList[k]? = some c) (hc : c ≠ 47) (hl : letterB c = true) : NameInv s q (k + 1) L :=
  ⟨h.p.step hk hc, h.ok, fun j h1 h2 d hd => by
    by_cases e : j = k
    · subst e
      rw [hk] at hd
      injection hd with hd
      rw [← hd]; exact hl
    · exact h.let_ j h1 (by omega) d hd⟩
theorem NameInv.bad {s : ByteArray} {q k : Nat} {L : List ByteArray} {c : UInt8} (h : NameInv s q k L) (hq : q ≤ k) (hk : s.data.toList[k]? = some c) (hc : c ≠ 47) (hl : letterB c = false) : ∃ x ∈ parts 47 s.data.toList, nameOk x = false := by
  have e : s.data.toList.drop q = (s.data.toList.drop q).take (k - q) ++ c :: s.data.toList.drop (k + 1) := by
    conv => lhs; rw [← List.take_append_drop (k - q) (s.data.toList.drop q), List.drop_drop, show q + (k - q) = k by omega, drop_eq hk]
  obtain ⟨h', t', e3⟩ := List.exists_cons_of_ne_nil (parts_ne 47 (s.data.toList.drop (k + 1)))
  have hns := no_sep h.p.2
  generalize (s.data.toList.drop q).take (k - q) = A at e hns
  obtain ⟨t, u, e1, e2⟩ := parts_head (c :: s.data.toList.drop (k + 1)) hns
  rw [parts_other hc e3] at e2
  injection e2 with e2 e2'
  refine ⟨A ++ t, ?_, ?_⟩
  · rw [h.p.1, e, e1]
    exact List.mem_append_right _ (List.mem_cons_self ..)
  · rw [Bool.eq_false_iff]
    intro hn
    have hct : c ∈ t := by rw [← e2]; exact List.mem_cons_self ..
    have := (nameOk_iff.1 hn).2.2.2 c (List.mem_append_right _ hct)
    rw [hl] at this
    cases this
theorem NameInv.name {s : ByteArray} {q k : Nat} {L : List ByteArray} (h : NameInv s q k L) : ∀ c ∈ (s.extract q k).data.toList, letterB c = true := by
  intro c hc
  rw [Lib.extract_data] at hc
  obtain ⟨i, hi⟩ := List.getElem?_of_mem hc
  rw [List.getElem?_take] at hi
  split at hi
  · rw [List.getElem?_drop] at hi
    exact h.let_ (q + i) (by omega) (by omega) c hi
  · cases hi
theorem NameInv.nameMem {s : ByteArray} {q k : Nat} {L : List ByteArray} (h : NameInv s q k L) (hq : q ≤ k) (hk : s.data.toList[k]? = some 47 ∨ k = s.size) : (s.extract q k).data.toList ∈ parts 47 s.data.toList := by
  rcases hk with hk | rfl
  · have e := (h.p.cut hq hk).1
    rw [e]
    exact List.mem_append_left _ (List.mem_map.2 ⟨_, List.mem_append_right _ (List.mem_cons_self ..), rfl⟩)
  · have e := h.p.fin
    have hm : s.extract q s.size ∈ (parts 47 s.data.toList).map toB := by rw [e]; exact List.mem_append_right _ (List.mem_cons_self ..)
    obtain ⟨y, hy, e2⟩ := List.mem_map.1 hm
    rw [← e2, toB_data]; exact hy
theorem NameInv.cut {s : ByteArray} {q k : Nat} {L : List ByteArray} (h : NameInv s q k L) (hq : q ≤ k) (hk : s.data.toList[k]? = some 47) (hn : nameOk (s.extract q k).data.toList = true) : NameInv s (k + 1) (k + 1) (L ++ [s.extract q k]) :=
  ⟨h.p.cut hq hk, fun x hx => by
    rcases List.mem_append.1 hx with hx | hx
    · exact h.ok x hx
    · rw [List.mem_singleton] at hx
      rw [hx]; exact hn, fun j h1 h2 => by omega⟩
theorem NameInv.all {s : ByteArray} {q : Nat} {L : List ByteArray} (h : NameInv s q s.size L) (hn : nameOk (s.extract q s.size).data.toList = true) : ∀ x ∈ parts 47 s.data.toList, nameOk x = true := by
  intro x hx
  have hm : toB x ∈ (parts 47 s.data.toList).map toB := List.mem_map.2 ⟨x, hx, rfl⟩
  rw [h.p.fin] at hm
  have : nameOk (toB x).data.toList = true := by
    rcases List.mem_append.1 hm with hm | hm
    · exact h.ok _ hm
    · rw [List.mem_singleton] at hm
      rw [hm]; exact hn
  rwa [toB_data] at this
def PathSt (s : ByteArray) (q k : Nat) : Prop := (k ≤ s.size → ∃ L, NameInv s q k L) ∧ (k = s.size + 1 → ∀ x ∈ parts 47 s.data.toList, nameOk x = true)

set_option maxHeartbeats 2000000 in
set_option maxRecDepth 100000 in
theorem refPath_any (s : ByteArray) (w : World) :
    Calls Tryz.prog 26 #[.string s] w fun e w' => e = .returned (.int .i64 (pathFault s)) ∧ Chg Never w w' := by
  by_cases h20 : 20 < s.size
  · have HF := Lib.hid (pathFault_long h20)
    go_enter Tryz.func26, Tryz.ntmps26
    go_wp2_with fail
    go_ret
    exact ⟨by rw [HF.out]; rfl, Chg.refl _ _⟩
  · have h20' : s.size ≤ 20 := by omega
    go_enter Tryz.func26, Tryz.ntmps26
    go_wp2_with fail
    go_loopw [3, 4] (fun fr i wr => ∃ (q k : Nat), fr = .int .i64 q ∧ i = .int .i64 k ∧ q ≤ k ∧ k ≤ s.size + 1 ∧ Chg Never w wr ∧ Hid (PathSt s q k)) (fun _ i _ => s.size + 1 - (intOf i).toNat)
    case atStart => exact ⟨0, 0, rfl, rfl, Nat.le_refl _, Nat.zero_le _, Chg.refl _ _, ⟨fun _ => ⟨[], ninv_start s⟩, fun e => by omega⟩⟩
    case round =>
      obtain ⟨q, k, rfl, rfl, hqk, hk, hc, hS⟩ := hrel
      by_cases hle : k ≤ s.size
      · obtain ⟨L, hNI⟩ := hS.out.1 hle
        have HNI := Lib.hid hNI
        clear hNI hS
        by_cases hlt : k < s.size
        · have HB := Lib.hid (byte_at hlt)
          have h256 := (s[k]'hlt).toNat_lt
          cases hq : (((s[k]'hlt).toNat : Int) == 47) with
          | false =>
            have t0 : (((s[k]'hlt).toNat : Int) != 47) = true := by simpa using hq
            have HC := Lib.hid (byte_ne (d := 47) hq rfl)
            clear hq
            by_cases c1 : 97 ≤ (s[k]'hlt).toNat
            · by_cases c2 : (s[k]'hlt).toNat ≤ 122
              · have a1 : decide (((s[k]'hlt).toNat : Int) < 97) = false := by simp; omega
                have a2 : decide ((122 : Int) < ((s[k]'hlt).toNat : Int)) = false := by simp; omega
                have a3 : decide (((s[k]'hlt).toNat : Int) < 48) = false := by simp; omega
                have a4 : decide ((57 : Int) < ((s[k]'hlt).toNat : Int)) = true := by simp; omega
                have a5 : (((s[k]'hlt).toNat : Int) != 46) = true := by simp; omega
                have a6 : (((s[k]'hlt).toNat : Int) != 45) = true := by simp; omega
                have HLB : Hid (letterB (s[k]'hlt) = true) := by
                  unfold Hid letterB
                  simp only [Bool.or_eq_true, Bool.and_eq_true, decide_eq_true_eq]
                  omega
                have HST : Hid (PathSt s q (k + 1)) := ⟨fun _ => ⟨L, HNI.out.step HB.out HC.out HLB.out⟩, fun e => by omega⟩
                go_wp2_with fail
                go_roundw
                case rel => exact ⟨q, k + 1, rfl, by go_num, by omega, by omega, hc, HST⟩
                case measure => simp [intOf] <;> omega
              · have a1 : decide (((s[k]'hlt).toNat : Int) < 97) = false := by simp; omega
                have a2 : decide ((122 : Int) < ((s[k]'hlt).toNat : Int)) = true := by simp; omega
                have a3 : decide (((s[k]'hlt).toNat : Int) < 48) = false := by simp; omega
                have a4 : decide ((57 : Int) < ((s[k]'hlt).toNat : Int)) = true := by simp; omega
                have a5 : (((s[k]'hlt).toNat : Int) != 46) = true := by simp; omega
                have a6 : (((s[k]'hlt).toNat : Int) != 45) = true := by simp; omega
                have HLB : Hid (letterB (s[k]'hlt) = false) := by
                  rw [Hid, Bool.eq_false_iff]
                  unfold letterB
                  simp only [ne_eq, Bool.or_eq_true, Bool.and_eq_true, decide_eq_true_eq]
                  omega
                have HF : Hid (pathFault s = 5) := by
                  obtain ⟨x, hx, hb⟩ := HNI.out.bad hqk HB.out HC.out HLB.out
                  exact pathFault_bad h20 hx hb
                go_wp2_with fail
                go_ret
                exact ⟨by rw [HF.out]; rfl, hc⟩
            · by_cases c3 : 48 ≤ (s[k]'hlt).toNat
              · by_cases c4 : (s[k]'hlt).toNat ≤ 57
                · have a1 : decide (((s[k]'hlt).toNat : Int) < 97) = true := by simp; omega
                  have a2 : decide ((122 : Int) < ((s[k]'hlt).toNat : Int)) = false := by simp; omega
                  have a3 : decide (((s[k]'hlt).toNat : Int) < 48) = false := by simp; omega
                  have a4 : decide ((57 : Int) < ((s[k]'hlt).toNat : Int)) = false := by simp; omega
                  have a5 : (((s[k]'hlt).toNat : Int) != 46) = true := by simp; omega
                  have a6 : (((s[k]'hlt).toNat : Int) != 45) = true := by simp; omega
                  have HLB : Hid (letterB (s[k]'hlt) = true) := by
                    unfold Hid letterB
                    simp only [Bool.or_eq_true, Bool.and_eq_true, decide_eq_true_eq]
                    omega
                  have HST : Hid (PathSt s q (k + 1)) := ⟨fun _ => ⟨L, HNI.out.step HB.out HC.out HLB.out⟩, fun e => by omega⟩
                  go_wp2_with fail
                  go_roundw
                  case rel => exact ⟨q, k + 1, rfl, by go_num, by omega, by omega, hc, HST⟩
                  case measure => simp [intOf] <;> omega
                · have a1 : decide (((s[k]'hlt).toNat : Int) < 97) = true := by simp; omega
                  have a2 : decide ((122 : Int) < ((s[k]'hlt).toNat : Int)) = false := by simp; omega
                  have a3 : decide (((s[k]'hlt).toNat : Int) < 48) = false := by simp; omega
                  have a4 : decide ((57 : Int) < ((s[k]'hlt).toNat : Int)) = true := by simp; omega
                  have a5 : (((s[k]'hlt).toNat : Int) != 46) = true := by simp; omega
                  have a6 : (((s[k]'hlt).toNat : Int) != 45) = true := by simp; omega
                  have HLB : Hid (letterB (s[k]'hlt) = false) := by
                    rw [Hid, Bool.eq_false_iff]
                    unfold letterB
                    simp only [ne_eq, Bool.or_eq_true, Bool.and_eq_true, decide_eq_true_eq]
                    omega
                  have HF : Hid (pathFault s = 5) := by
                    obtain ⟨x, hx, hb⟩ := HNI.out.bad hqk HB.out HC.out HLB.out
                    exact pathFault_bad h20 hx hb
                  go_wp2_with fail
                  go_ret
                  exact ⟨by rw [HF.out]; rfl, hc⟩
              · by_cases c5 : (s[k]'hlt).toNat = 46
                · have a1 : decide (((s[k]'hlt).toNat : Int) < 97) = true := by simp; omega
                  have a2 : decide ((122 : Int) < ((s[k]'hlt).toNat : Int)) = false := by simp; omega
                  have a3 : decide (((s[k]'hlt).toNat : Int) < 48) = true := by simp; omega
                  have a4 : decide ((57 : Int) < ((s[k]'hlt).toNat : Int)) = false := by simp; omega
                  have a5 : (((s[k]'hlt).toNat : Int) != 46) = false := by simp; omega
                  have a6 : (((s[k]'hlt).toNat : Int) != 45) = true := by simp; omega
                  have HLB : Hid (letterB (s[k]'hlt) = true) := by
                    unfold Hid letterB
                    simp only [Bool.or_eq_true, Bool.and_eq_true, decide_eq_true_eq]
                    omega
                  have HST : Hid (PathSt s q (k + 1)) := ⟨fun _ => ⟨L, HNI.out.step HB.out HC.out HLB.out⟩, fun e => by omega⟩
                  go_wp2_with fail
                  go_roundw
                  case rel => exact ⟨q, k + 1, rfl, by go_num, by omega, by omega, hc, HST⟩
                  case measure => simp [intOf] <;> omega
                · by_cases c6 : (s[k]'hlt).toNat = 45
                  · have a1 : decide (((s[k]'hlt).toNat : Int) < 97) = true := by simp; omega
                    have a2 : decide ((122 : Int) < ((s[k]'hlt).toNat : Int)) = false := by simp; omega
                    have a3 : decide (((s[k]'hlt).toNat : Int) < 48) = true := by simp; omega
                    have a4 : decide ((57 : Int) < ((s[k]'hlt).toNat : Int)) = false := by simp; omega
                    have a5 : (((s[k]'hlt).toNat : Int) != 46) = true := by simp; omega
                    have a6 : (((s[k]'hlt).toNat : Int) != 45) = false := by simp; omega
                    have HLB : Hid (letterB (s[k]'hlt) = true) := by
                      unfold Hid letterB
                      simp only [Bool.or_eq_true, Bool.and_eq_true, decide_eq_true_eq]
                      omega
                    have HST : Hid (PathSt s q (k + 1)) := ⟨fun _ => ⟨L, HNI.out.step HB.out HC.out HLB.out⟩, fun e => by omega⟩
                    go_wp2_with fail
                    go_roundw
                    case rel => exact ⟨q, k + 1, rfl, by go_num, by omega, by omega, hc, HST⟩
                    case measure => simp [intOf] <;> omega
                  · have a1 : decide (((s[k]'hlt).toNat : Int) < 97) = true := by simp; omega
                    have a2 : decide ((122 : Int) < ((s[k]'hlt).toNat : Int)) = false := by simp; omega
                    have a3 : decide (((s[k]'hlt).toNat : Int) < 48) = true := by simp; omega
                    have a4 : decide ((57 : Int) < ((s[k]'hlt).toNat : Int)) = false := by simp; omega
                    have a5 : (((s[k]'hlt).toNat : Int) != 46) = true := by simp; omega
                    have a6 : (((s[k]'hlt).toNat : Int) != 45) = true := by simp; omega
                    have HLB : Hid (letterB (s[k]'hlt) = false) := by
                      rw [Hid, Bool.eq_false_iff]
                      unfold letterB
                      simp only [ne_eq, Bool.or_eq_true, Bool.and_eq_true, decide_eq_true_eq]
                      omega
                    have HF : Hid (pathFault s = 5) := by
                      obtain ⟨x, hx, hb⟩ := HNI.out.bad hqk HB.out HC.out HLB.out
                      exact pathFault_bad h20 hx hb
                    go_wp2_with fail
                    go_ret
                    exact ⟨by rw [HF.out]; rfl, hc⟩
          | true =>
            have t0 : (((s[k]'hlt).toNat : Int) != 47) = false := by simpa using hq
            have HC : Hid (s.data.toList[k]? = some 47) := by rw [Hid, HB.out, byte_eq (d := 47) hq rfl]
            have HMEM := Lib.hid (HNI.out.nameMem hqk (.inl HC.out))
            clear hq
            by_cases b1 : (s.extract q k).data.toList = []
            · have HN := Lib.hid (pathFault_bad h20 HMEM.out (by rw [b1]; rfl))
              have t1 : (s.extract q k).toList.isEmpty = true := by rw [Lib.toList_data, b1]; rfl
              clear b1
              go_wp2_with fail
              go_ret
              exact ⟨by rw [HN.out]; rfl, hc⟩
            · have t1 := emp_false b1
              by_cases b2 : (s.extract q k).data.toList = [46]
              · have HN := Lib.hid (pathFault_bad h20 HMEM.out (by rw [b2]; rfl))
                have t2 : ((s.extract q k).toList == [46]) = true := by rw [Lib.toList_data, b2]; rfl
                clear b1 b2
                go_wp2_with fail
                go_ret
                exact ⟨by rw [HN.out]; rfl, hc⟩
              · have t2 := str_false b2
                by_cases b3 : (s.extract q k).data.toList = [46, 46]
                · have HN := Lib.hid (pathFault_bad h20 HMEM.out (by rw [b3]; rfl))
                  have t3 : ((s.extract q k).toList == [46, 46]) = true := by rw [Lib.toList_data, b3]; rfl
                  clear b1 b2 b3
                  go_wp2_with fail
                  go_ret
                  exact ⟨by rw [HN.out]; rfl, hc⟩
                · have t3 := str_false b3
                  have HOK : Hid (nameOk (s.extract q k).data.toList = true) := nameOk_iff.2 ⟨b1, b2, b3, HNI.out.name⟩
                  clear b1 b2 b3
                  have HST : Hid (PathSt s (k + 1) (k + 1)) := ⟨fun _ => ⟨_, HNI.out.cut hqk HC.out HOK.out⟩, fun e => by omega⟩
                  go_wp2_with fail
                  go_roundw
                  case rel => exact ⟨k + 1, k + 1, by go_num, by go_num, Nat.le_refl _, by omega, hc, HST⟩
                  case measure => simp [intOf] <;> omega
        · have hks : k = s.size := by omega
          have HMEM := Lib.hid (HNI.out.nameMem hqk (.inr hks))
          have HKS := Lib.hid hks
          clear hks
          by_cases b1 : (s.extract q k).data.toList = []
          · have HN := Lib.hid (pathFault_bad h20 HMEM.out (by rw [b1]; rfl))
            have t1 : (s.extract q k).toList.isEmpty = true := by rw [Lib.toList_data, b1]; rfl
            clear b1
            go_wp2_with fail
            go_ret
            exact ⟨by rw [HN.out]; rfl, hc⟩
          · have t1 := emp_false b1
            by_cases b2 : (s.extract q k).data.toList = [46]
            · have HN := Lib.hid (pathFault_bad h20 HMEM.out (by rw [b2]; rfl))
              have t2 : ((s.extract q k).toList == [46]) = true := by rw [Lib.toList_data, b2]; rfl
              clear b1 b2
              go_wp2_with fail
              go_ret
              exact ⟨by rw [HN.out]; rfl, hc⟩
            · have t2 := str_false b2
              by_cases b3 : (s.extract q k).data.toList = [46, 46]
              · have HN := Lib.hid (pathFault_bad h20 HMEM.out (by rw [b3]; rfl))
                have t3 : ((s.extract q k).toList == [46, 46]) = true := by rw [Lib.toList_data, b3]; rfl
                clear b1 b2 b3
                go_wp2_with fail
                go_ret
                exact ⟨by rw [HN.out]; rfl, hc⟩
              · have t3 := str_false b3
                have HOK : Hid (nameOk (s.extract q k).data.toList = true) := nameOk_iff.2 ⟨b1, b2, b3, HNI.out.name⟩
                clear b1 b2 b3
                have HST : Hid (PathSt s (k + 1) (k + 1)) := ⟨fun e => by have := HKS.out; omega, fun _ => by have a := HNI.out; have b := HOK.out; rw [HKS.out] at a b; exact a.all b⟩
                go_wp2_with fail
                go_roundw
                case rel => exact ⟨k + 1, k + 1, by go_num, by go_num, Nat.le_refl _, by omega, hc, HST⟩
                case measure => simp [intOf] <;> omega
      · have HF : Hid (pathFault s = 0) := pathFault_ok h20 (hS.out.2 (by omega))
        clear hS
        go_wp2_with fail
        go_ret
        exact ⟨by rw [HF.out]; rfl, hc⟩
end Go.Proofs.YtmjpfoeaobdaeaaGreatDoor
namespace Go.Proofs.YtmjpfoeaobdaeaaGreatDoor
open Go.RowKit

theorem elems_file {w : World} {O : Nat → Prop} {a : Option Addr} {l : List File} (h : Elems w O a l) {i : Nat} {x : File} (hx : l[i]? = some x) :
    ∃ b off v, a = some ⟨b, off, none⟩ ∧ ¬ O b ∧ b < w.heap.size ∧ w.cell? ⟨b, off + i * 2, none⟩ = some (.string x.path) ∧ w.cell? ⟨b, off + i * 2 + 1, none⟩ = some v ∧ x.path.size ≤ maxLen ∧ Rdv w O v x.lines := by
  obtain ⟨b, off, es, ha, hb, hcs, v, rfl, hp, hv⟩ := h i x hx
  refine ⟨b, off, v, ha, hb, hcs.lt (by simp), ?_, ?_, hp, hv⟩
  · simpa [Dat.n] using hcs 0 _ rfl
  · simpa [Dat.n] using hcs 1 _ rfl
def prevOf (t : List File) (k : Nat) : Option ByteArray := if k = 0 then none else (t[k - 1]?).map (·.path)
theorem prevOf_succ {t : List File} {k : Nat} {f : File} (h : t[k]? = some f) : prevOf t (k + 1) = some f.path := by unfold prevOf; simp [h]
theorem treeGo_next {t : List File} {k : Nat} {f : File} {prev : Option ByteArray} (hd : t.drop k = f :: t.drop (k + 1)) (h1 : fileFault f = 0) (h2 : prev.any (fun p => leqB f.path p) = false) : treeGo k prev (t.drop k) = treeGo (k + 1) (some f.path) (t.drop (k + 1)) := by
  rw [hd, treeGo, if_neg (by simp [h1]), if_neg (by rw [h2]; decide)]
theorem treeGo_bad {t : List File} {k : Nat} {f : File} {prev : Option ByteArray} (hd : t.drop k = f :: t.drop (k + 1)) (h1 : fileFault f ≠ 0) : treeGo k prev (t.drop k) = (k, fileFault f) := by
  rw [hd, treeGo, if_pos h1]
theorem treeGo_order {t : List File} {k : Nat} {f : File} {p : ByteArray} (hd : t.drop k = f :: t.drop (k + 1)) (h1 : fileFault f = 0) (h2 : leqB f.path p = true) : treeGo k (some p) (t.drop k) = (k, 2) := by
  rw [hd, treeGo, if_neg (by simp [h1]), if_pos (by simpa using h2)]
theorem treeGo_end {t : List File} {prev : Option ByteArray} : treeGo t.length prev (t.drop t.length) = (0, 0) := by rw [List.drop_length]; rfl

set_option maxHeartbeats 2000000 in
set_option maxRecDepth 100000 in
theorem tree_check_any (t : List File) (v : Value) (w : World) (h : Rdv w Never v t) (m : Int) (hm : w.cell? ⟨0, 0, none⟩ = some (.int .i64 m)) :
    Calls Tryz.prog 81 #[v] w fun e w' => e = .returned (.tuple #[.int .i64 (treeFault t).1, errV (treeFault t).2]) ∧ Chg Never w w' := by
  obtain ⟨a, cap, rfl, h1, h2, h3⟩ := rdv_slice h
  unfold maxLen at h2
  by_cases h8 : 8 < t.length
  · have HF : Hid (treeFault t = (0, 3)) := if_pos h8
    go_enter Tryz.func81, Tryz.ntmps81
    go_wp2_with fail
    go_ret2
    exact ⟨by rw [HF.out]; rfl, Chg.refl _ _⟩
  · have HF : Hid (treeFault t = treeGo 0 (prevOf t 0) (t.drop 0)) := if_neg h8
    go_enter Tryz.func81, Tryz.ntmps81
    go_wp2_with fail
    go_loopw [14] (fun i wr => ∃ k : Nat, k ≤ t.length ∧ i = .int .i64 k ∧ Chg Never w wr ∧ Hid (treeFault t = treeGo k (prevOf t k) (t.drop k))) (fun i _ => t.length - (intOf i).toNat)
    case atStart => exact ⟨0, Nat.zero_le _, rfl, Chg.refl _ _, HF.out⟩
    case round =>
      clear HF
      obtain ⟨k, hk, rfl, hc, hG⟩ := hrel
      by_cases hlt : k < t.length
      · obtain ⟨x, hx⟩ : ∃ x, t[k]? = some x := ⟨t[k], by simp [hlt]⟩
        obtain ⟨b, off, lv, rfl, _, _, c0, c1, hps, hlv⟩ := elems_file h3 hx
        obtain ⟨la, lcap, rfl, _, _, _⟩ := rdv_slice hlv
        have c0 := hc.cellNever c0
        have c1 := hc.cellNever c1
        have HD := Lib.hid (drop_eq hx)
        have HPV := Lib.hid (prevOf_succ hx)
        have HX := Lib.hid hx
        have hA : Chg Never wr (wr.alloc (.cells #[.string x.path, .slice la x.lines.length lcap] 70)) := (Chg.refl Never wr).alloc _
        have b0 : (wr.alloc (.cells #[.string x.path, .slice la x.lines.length lcap] 70)).cell? ⟨wr.heap.size, 0, none⟩ = some (.string x.path) := by simp only [World.cell?]; rw [heap_alloc_new]; rfl
        have b1 : (wr.alloc (.cells #[.string x.path, .slice la x.lines.length lcap] 70)).cell? ⟨wr.heap.size, 1, none⟩ = some (.slice la x.lines.length lcap) := by simp only [World.cell?]; rw [heap_alloc_new]; rfl
        clear hx
        by_cases p0 : pathFault x.path = 0
        · have P0 := Lib.hid p0
          by_cases l0 : linesFault x.lines = 0
          · have HFF : Hid (fileFault x = 0) := by unfold Hid fileFault; rw [if_pos p0, l0]
            have L0 := Lib.hid l0
            clear p0 l0
            go_wp2_with fail
            generalize wr.alloc (.cells #[.string x.path, .slice la x.lines.length lcap] 70) = w3 at hA b0 b1 ⊢
            have hc3 := hc.trans hA
            refine (line_path_any x.path _ m (hc3.cellNever hm)).mono ?_
            rintro e w4 ⟨rfl, hc4⟩
            have b0 := hc4.cellNever b0
            have b1 := hc4.cellNever b1
            have hcD := hc3.trans hc4
            clear hc4 hc3 hA c0 c1
            rw [P0.out, errV_zero]
            go_wp2_with fail
            refine (check_any x.lines _ _ (hlv.never hcD)).mono ?_
            rintro e w5 ⟨rfl, rfl⟩
            rw [L0.out, errV_zero]
            clear b1
            rcases Nat.eq_zero_or_pos k with h0 | h0
            · subst h0
              have HNX : Hid (treeFault t = treeGo (0 + 1) (prevOf t (0 + 1)) (t.drop (0 + 1))) := by rw [Hid, HPV.out, hG.out]; exact treeGo_next HD.out HFF.out rfl
              clear hG
              go_wp2_with fail
              go_quiet (fail)
              go_wp2_with fail
              go_roundw
              case rel => exact ⟨0 + 1, by omega, by go_num, hcD.drewN _, HNX⟩
              case measure => simp [intOf] <;> omega
            · obtain ⟨k', rfl⟩ : ∃ k', k = k' + 1 := ⟨k - 1, by omega⟩
              obtain ⟨y, hy⟩ : ∃ y, t[k']? = some y := ⟨t[k']'(by omega), by simp [show k' < t.length by omega]⟩
              obtain ⟨b', off', lv', hbo, _, _, y0, _, _, _⟩ := elems_file h3 hy
              simp only [Option.some.injEq, Addr.mk.injEq, and_true] at hbo
              obtain ⟨rfl, rfl⟩ := hbo
              have y0 := hcD.cellNever y0
              have HPY : Hid (prevOf t (k' + 1) = some y.path) := prevOf_succ hy
              have z1 : (k' : Int) + 1 - 1 = k' := by omega
              have z2 : decide ((0 : Int) < (k' : Int) + 1) = true := decide_eq_true (by omega)
              clear hy
              rcases less_tri x.path y.path with g | g | g
              · have HE : Hid (treeFault t = (k' + 1, 2)) := by rw [Hid, hG.out, HPY.out]; exact treeGo_order HD.out HFF.out (leqB_true.2 (less_asymm g))
                have a1 : Op.bytesLess x.path.toList y.path.toList = true := g
                clear g hG
                go_wp2_with fail
                go_quiet (fail)
                go_wp2_with fail; go_ret2; exact ⟨by rw [HE.out]; rfl, hcD.drewN _⟩
              · have HE : Hid (treeFault t = (k' + 1, 2)) := by rw [Hid, hG.out, HPY.out]; exact treeGo_order HD.out HFF.out (leqB_true.2 (by rw [g]; exact less_irrefl _))
                have a1 : Op.bytesLess x.path.toList y.path.toList = false := by rw [g]; exact bl_irrefl _
                have a2 : (x.path.toList == y.path.toList) = true := by rw [g]; exact beq_self_eq_true _
                clear g hG
                go_wp2_with fail
                go_quiet (fail)
                go_wp2_with fail; go_ret2; exact ⟨by rw [HE.out]; rfl, hcD.drewN _⟩
              · have HNX : Hid (treeFault t = treeGo (k' + 1 + 1) (prevOf t (k' + 1 + 1)) (t.drop (k' + 1 + 1))) := by
                  rw [Hid, HPV.out, hG.out]
                  refine treeGo_next HD.out HFF.out ?_
                  rw [HPY.out, Option.any_some, Bool.eq_false_iff]
                  intro e
                  rw [leqB_true.1 e] at g; cases g
                have a1 : Op.bytesLess x.path.toList y.path.toList = false := less_asymm g
                have a2 := str_beq_false (less_ne g).symm
                clear g hG
                go_wp2_with fail
                go_quiet (fail)
                go_wp2_with fail
                go_roundw
                case rel => exact ⟨k' + 1 + 1, by omega, by go_num, hcD.drewN _, HNX⟩
                case measure => simp [intOf] <;> omega
          · have HE : Hid (treeFault t = (k, linesFault x.lines)) := by
              have e : fileFault x = linesFault x.lines := by unfold fileFault; rw [if_pos p0]
              rw [Hid, hG.out, treeGo_bad HD.out (by rw [e]; exact l0), e]
            have L0 := Lib.hid l0
            clear p0 hG l0
            go_wp2_with fail
            generalize wr.alloc (.cells #[.string x.path, .slice la x.lines.length lcap] 70) = w3 at hA b0 b1 ⊢
            have hc3 := hc.trans hA
            refine (line_path_any x.path _ m (hc3.cellNever hm)).mono ?_
            rintro e w4 ⟨rfl, hc4⟩
            have b0 := hc4.cellNever b0
            have b1 := hc4.cellNever b1
            have hcD := hc3.trans hc4
            clear hc4 hc3 hA c0 c1
            rw [P0.out, errV_zero]
            go_wp2_with fail
            refine (check_any x.lines _ _ (hlv.never hcD)).mono ?_
            rintro e w5 ⟨rfl, rfl⟩
            rw [errV_pos L0.out]
            go_wp2_with fail
            go_ret2
            exact ⟨by rw [HE.out, errV_pos L0.out]; rfl, hcD⟩
        · have HE : Hid (treeFault t = (k, pathFault x.path)) := by
            have e : fileFault x = pathFault x.path := by unfold fileFault; rw [if_neg p0]
            rw [Hid, hG.out, treeGo_bad HD.out (by rw [e]; exact p0), e]
          have P0 := Lib.hid p0
          clear p0 hG
          go_wp2_with fail
          generalize wr.alloc (.cells #[.string x.path, .slice la x.lines.length lcap] 70) = w3 at hA b0 b1 ⊢
          have hc3 := hc.trans hA
          refine (line_path_any x.path _ m (hc3.cellNever hm)).mono ?_
          rintro e w4 ⟨rfl, hc4⟩
          have b0 := hc4.cellNever b0
          have b1 := hc4.cellNever b1
          have hcD := hc3.trans hc4
          clear hc4 hc3 hA c0 c1
          rw [errV_pos P0.out]
          go_wp2_with fail
          go_ret2
          exact ⟨by rw [HE.out, errV_pos P0.out]; rfl, hcD⟩
      · obtain rfl : k = t.length := by omega
        have e := hG.out
        rw [treeGo_end] at e
        have HE := Lib.hid e
        clear hG e
        go_wp2_with fail
        go_ret2
        exact ⟨by rw [HE.out]; rfl, hc⟩

set_option maxHeartbeats 2000000 in
set_option maxRecDepth 100000 in
theorem refTree_any (t : List File) (v : Value) (w : World) (h : Rdv w Never v t) :
    Calls Tryz.prog 57 #[v] w fun e w' => e = .returned (.tuple #[.int .i64 (treeFault t).1, .int .i64 (treeFault t).2]) ∧ Chg Never w w' := by
  obtain ⟨a, cap, rfl, h1, h2, h3⟩ := rdv_slice h
  unfold maxLen at h2
  by_cases h8 : 8 < t.length
  · have HF : Hid (treeFault t = (0, 3)) := if_pos h8
    go_enter Tryz.func57, Tryz.ntmps57
    go_wp2_with fail
    go_ret2
    exact ⟨by rw [HF.out]; rfl, Chg.refl _ _⟩
  · have HF : Hid (treeFault t = treeGo 0 (prevOf t 0) (t.drop 0)) := if_neg h8
    go_enter Tryz.func57, Tryz.ntmps57
    go_wp2_with fail
    go_loopw [4] (fun i wr => ∃ k : Nat, k ≤ t.length ∧ i = .int .i64 k ∧ Chg Never w wr ∧ Hid (treeFault t = treeGo k (prevOf t k) (t.drop k))) (fun i _ => t.length - (intOf i).toNat)
    case atStart => exact ⟨0, Nat.zero_le _, rfl, Chg.refl _ _, HF.out⟩
    case round =>
      clear HF
      obtain ⟨k, hk, rfl, hc, hG⟩ := hrel
      by_cases hlt : k < t.length
      · obtain ⟨x, hx⟩ : ∃ x, t[k]? = some x := ⟨t[k], by simp [hlt]⟩
        obtain ⟨b, off, lv, rfl, _, _, d0, d1, hps, hlv⟩ := elems_file h3 hx
        have c0 := hc.cellNever d0
        have HD := Lib.hid (drop_eq hx)
        have HPV := Lib.hid (prevOf_succ hx)
        have HX := Lib.hid hx
        have D0 := Lib.hid d0
        have D1 := Lib.hid d1
        clear hx d0 d1
        by_cases p0 : pathFault x.path = 0
        · have P0 := Lib.hid p0
          by_cases l0 : linesFault x.lines = 0
          · have HFF : Hid (fileFault x = 0) := by unfold Hid fileFault; rw [if_pos p0, l0]
            have L0 := Lib.hid l0
            clear p0 l0
            go_wp2_with fail
            refine (refPath_any x.path _).mono ?_
            rintro e w4 ⟨rfl, hc4⟩
            have hc4 := hc.trans hc4
            have c1 := hc4.cellNever D1.out
            clear c0
            rw [P0.out]
            go_wp2_with fail
            refine (refLines_any x.lines _ _ (hlv.never hc4)).mono ?_
            rintro e w5 ⟨rfl, hc5⟩
            have hc5 := hc4.trans hc5
            have c0 := hc5.cellNever D0.out
            rw [L0.out]
            clear c1 hc4
            have hcD := hc5
            clear hc5
            rcases Nat.eq_zero_or_pos k with h0 | h0
            · subst h0
              have HNX : Hid (treeFault t = treeGo (0 + 1) (prevOf t (0 + 1)) (t.drop (0 + 1))) := by rw [Hid, HPV.out, hG.out]; exact treeGo_next HD.out HFF.out rfl
              clear hG
              go_wp2_with fail
              go_quiet (fail)
              go_wp2_with fail
              go_roundw
              case rel => exact ⟨0 + 1, by omega, by go_num, hcD.drewN _, HNX⟩
              case measure => simp [intOf] <;> omega
            · obtain ⟨k', rfl⟩ : ∃ k', k = k' + 1 := ⟨k - 1, by omega⟩
              obtain ⟨y, hy⟩ : ∃ y, t[k']? = some y := ⟨t[k']'(by omega), by simp [show k' < t.length by omega]⟩
              obtain ⟨b', off', lv', hbo, _, _, y0, _, _, _⟩ := elems_file h3 hy
              simp only [Option.some.injEq, Addr.mk.injEq, and_true] at hbo
              obtain ⟨rfl, rfl⟩ := hbo
              have y0 := hcD.cellNever y0
              have HPY : Hid (prevOf t (k' + 1) = some y.path) := prevOf_succ hy
              have z1 : (k' : Int) + 1 - 1 = k' := by omega
              have z2 : decide ((0 : Int) < (k' : Int) + 1) = true := decide_eq_true (by omega)
              clear hy
              rcases less_tri x.path y.path with g | g | g
              · have HE : Hid (treeFault t = (k' + 1, 2)) := by rw [Hid, hG.out, HPY.out]; exact treeGo_order HD.out HFF.out (leqB_true.2 (less_asymm g))
                have a1 : Op.bytesLess x.path.toList y.path.toList = true := g
                clear g hG
                go_wp2_with fail
                go_quiet (fail)
                go_wp2_with fail; go_ret2; exact ⟨by rw [HE.out]; rfl, hcD.drewN _⟩
              · have HE : Hid (treeFault t = (k' + 1, 2)) := by rw [Hid, hG.out, HPY.out]; exact treeGo_order HD.out HFF.out (leqB_true.2 (by rw [g]; exact less_irrefl _))
                have a1 : Op.bytesLess x.path.toList y.path.toList = false := by rw [g]; exact bl_irrefl _
                have a2 : (x.path.toList == y.path.toList) = true := by rw [g]; exact beq_self_eq_true _
                clear g hG
                go_wp2_with fail
                go_quiet (fail)
                go_wp2_with fail; go_ret2; exact ⟨by rw [HE.out]; rfl, hcD.drewN _⟩
              · have HNX : Hid (treeFault t = treeGo (k' + 1 + 1) (prevOf t (k' + 1 + 1)) (t.drop (k' + 1 + 1))) := by
                  rw [Hid, HPV.out, hG.out]
                  refine treeGo_next HD.out HFF.out ?_
                  rw [HPY.out, Option.any_some, Bool.eq_false_iff]
                  intro e
                  rw [leqB_true.1 e] at g; cases g
                have a1 : Op.bytesLess x.path.toList y.path.toList = false := less_asymm g
                have a2 := str_beq_false (less_ne g).symm
                clear g hG
                go_wp2_with fail
                go_quiet (fail)
                go_wp2_with fail
                go_roundw
                case rel => exact ⟨k' + 1 + 1, by omega, by go_num, hcD.drewN _, HNX⟩
                case measure => simp [intOf] <;> omega
          · have HE : Hid (treeFault t = (k, linesFault x.lines)) := by
              have e : fileFault x = linesFault x.lines := by unfold fileFault; rw [if_pos p0]
              rw [Hid, hG.out, treeGo_bad HD.out (by rw [e]; exact l0), e]
            have t1 : (linesFault x.lines == 0) = false := by simp [l0]
            have t2 : (linesFault x.lines != 0) = true := by simp [l0]
            clear p0 l0 hG
            go_wp2_with fail
            refine (refPath_any x.path _).mono ?_
            rintro e w4 ⟨rfl, hc4⟩
            have hc4 := hc.trans hc4
            have c1 := hc4.cellNever D1.out
            clear c0
            rw [P0.out]
            go_wp2_with fail
            refine (refLines_any x.lines _ _ (hlv.never hc4)).mono ?_
            rintro e w5 ⟨rfl, hc5⟩
            have hc5 := hc4.trans hc5
            clear c1 hc4
            go_wp2_with fail
            go_quiet (fail)
            go_wp2_with fail
            go_ret2
            exact ⟨by rw [HE.out]; rfl, hc5.drewN _⟩
        · have HE : Hid (treeFault t = (k, pathFault x.path)) := by
            have e : fileFault x = pathFault x.path := by unfold fileFault; rw [if_neg p0]
            rw [Hid, hG.out, treeGo_bad HD.out (by rw [e]; exact p0), e]
          have t1 : (pathFault x.path == 0) = false := by simp [p0]
          have t2 : (pathFault x.path != 0) = true := by simp [p0]
          clear p0 hG
          go_wp2_with fail
          refine (refPath_any x.path _).mono ?_
          rintro e w4 ⟨rfl, hc5⟩
          have hc5 := hc.trans hc5
          clear c0
          go_wp2_with fail
          go_quiet (fail)
          go_wp2_with fail
          go_ret2
          exact ⟨by rw [HE.out]; rfl, hc5.drewN _⟩
      · obtain rfl : k = t.length := by omega
        have e := hG.out
        rw [treeGo_end] at e
        have HE := Lib.hid e
        clear hG e
        go_wp2_with fail
        go_ret2
        exact ⟨by rw [HE.out]; rfl, hc⟩

def placeI (t : List File) (p : ByteArray) : Int := match placeOf t p with | some i => i | none => -1
set_option maxHeartbeats 1000000 in
set_option maxRecDepth 100000 in
theorem refPlace_any (t : List File) (p : ByteArray) (v : Value) (w : World) (h : Rdv w Never v t) :
    Calls Tryz.prog 27 #[v, .string p] w fun e w' => e = .returned (.int .i64 (placeI t p)) ∧ Chg Never w w' := by
  obtain ⟨a, cap, rfl, h1, h2, h3⟩ := rdv_slice h
  unfold maxLen at h2
  go_enter Tryz.func27, Tryz.ntmps27
  go_wp2_with fail
  go_loopw [5] (fun i wr => ∃ k : Nat, k ≤ t.length ∧ i = .int .i64 k ∧ Chg Never w wr ∧ Hid (placeOf t p = ((t.drop k).findIdx? fun f => decide (f.path = p)).map (· + k))) (fun i _ => t.length - (intOf i).toNat)
  case atStart => exact ⟨0, Nat.zero_le _, rfl, Chg.refl _ _, by rw [Hid, List.drop_zero]; unfold placeOf; cases t.findIdx? fun f => decide (f.path = p) <;> rfl⟩
  case round =>
    obtain ⟨k, hk, rfl, hc, hP⟩ := hrel
    by_cases hlt : k < t.length
    · obtain ⟨x, hx⟩ : ∃ x, t[k]? = some x := ⟨t[k], by simp [hlt]⟩
      obtain ⟨b, off, lv, rfl, _, _, c0, _, hps, _⟩ := elems_file h3 hx
      have c0 := hc.cellNever c0
      have HD := Lib.hid (drop_eq hx)
      clear hx h3 h
      by_cases e : x.path = p
      · have HE : Hid (placeI t p = k) := by
          unfold Hid placeI
          rw [hP.out, HD.out, List.findIdx?_cons, decide_eq_true e]
          simp
        have t1 : (x.path.toList == p.toList) = true := by rw [e]; exact beq_self_eq_true _
        clear e
        go_wp2_with fail
        go_ret
        exact ⟨by rw [HE.out]; rfl, hc⟩
      · have HN : Hid (placeOf t p = ((t.drop (k + 1)).findIdx? fun f => decide (f.path = p)).map (· + (k + 1))) := by
          rw [Hid, hP.out, HD.out, List.findIdx?_cons, decide_eq_false e]
          cases (t.drop (k + 1)).findIdx? fun f => decide (f.path = p) with
          | none => rfl
          | some i => simp; omega
        have t1 := str_beq_false e
        clear e hP
        go_wp2_with fail
        go_roundw
        case rel => exact ⟨k + 1, by omega, by go_num, hc, HN.out⟩
        case measure => simp [intOf] <;> omega
    · have HE : Hid (placeI t p = -1) := by
        unfold Hid placeI
        rw [hP.out, List.drop_eq_nil_of_le (by omega)]; rfl
      go_wp2_with fail
      go_ret
      exact ⟨by rw [HE.out]; rfl, hc⟩
end Go.Proofs.YtmjpfoeaobdaeaaGreatDoor
