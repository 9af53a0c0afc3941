/-
  THE WALKS OF LAYER 3: kept, changed, Size, ContainsFunc, one.
-/
import Derived.Test.YtpoammapjmddfaaDoorScript
namespace Go.Proofs.YtpoammapjmddfaaDoor
open Go.RowKit

/-- a mark, a hunk as values -/
def markV (m : Mark) : Value := .agg #[.int .u8 m.sign, .string m.text]
def hunkV (h : Hunk) (mv : Value) : Value := .agg #[.int .i64 h.old, .int .i64 h.new, mv]

theorem kept_any (sg : Int) (tx : ByteArray) (w : World) :
    Calls Tryd.prog 132 #[.agg #[.int .u8 sg, .string tx]] w fun e w' => e = .returned (.bool (sg == 32)) ∧ Chg Never w w' := by
  go_enter Tryd.func132, Tryd.ntmps132
  go_wp2
  go_ret
  exact ⟨rfl, by repeat (first | exact Chg.refl _ _ | apply Chg.alloc)⟩
theorem changed_any (sg : Int) (tx : ByteArray) (w : World) :
    Calls Tryd.prog 114 #[.agg #[.int .u8 sg, .string tx]] w fun e w' => e = .returned (.bool (!(sg == 32))) ∧ Chg Never w w' := by
  go_enter Tryd.func114, Tryd.ntmps114
  go_wp2_with (go_at_call 132; refine (kept_any _ _ _).mono ?_; rintro e w1 ⟨rfl, hc1⟩)
  go_ret
  exact ⟨rfl, ((Chg.refl _ _).alloc _).trans hc1⟩

theorem oldN_take {l : List Mark} {k : Nat} {x : Mark} (hx : l[k]? = some x) : oldN (l.take (k + 1)) = oldN (l.take k) + (if x.sign = 43 then 0 else 1) := by
  unfold oldN
  rw [those_take hx]
  by_cases h : x.sign = 43 <;> simp [h]
theorem newN_take {l : List Mark} {k : Nat} {x : Mark} (hx : l[k]? = some x) : newN (l.take (k + 1)) = newN (l.take k) + (if x.sign = 45 then 0 else 1) := by
  unfold newN
  rw [those_take hx]
  by_cases h : x.sign = 45 <;> simp [h]
theorem oldN_le (l : List Mark) : oldN l ≤ l.length := those_le _ _
theorem newN_le (l : List Mark) : newN l ≤ l.length := those_le _ _

theorem size_any (h : Hunk) (mv : Value) (w : World) (hm : Rdv w Never mv h.marks) :
    Calls Tryd.prog 58 #[.agg #[.int .i64 h.old, .int .i64 h.new, mv]] w fun e w' => e = .returned (.tuple #[.int .i64 (oldN h.marks), .int .i64 (newN h.marks)]) ∧ Chg Never w w' := by
  obtain ⟨o, n, l⟩ := h
  simp only at hm ⊢
  obtain ⟨a, cap, rfl, h1, h2, h3⟩ := rdv_slice hm
  unfold maxLen at h2
  go_enter Tryd.func58, Tryd.ntmps58
  go_wp2
  go_loopw [2, 3, 9] (fun s2 s3 i wr => ∃ k : Nat, k ≤ l.length ∧ i = .int .i64 k ∧ s2 = .int .i64 (oldN (l.take k)) ∧ s3 = .int .i64 (newN (l.take k)) ∧ Chg Never w wr) (fun _ _ i _ => l.length - (intOf i).toNat)
  case atStart => exact ⟨0, Nat.zero_le _, rfl, rfl, rfl, (Chg.refl _ _).alloc _⟩
  case round =>
    obtain ⟨k, hk, rfl, rfl, rfl, hc⟩ := hrel
    by_cases hlt : k < l.length
    · obtain ⟨x, hx⟩ : ∃ x, l[k]? = some x := ⟨l[k], by simp [hlt]⟩
      obtain ⟨b, off, rfl, _, _, c0, c1, s0, s1, hxs⟩ := elems_mark h3 hx
      have c0 := hc.cellNever c0
      have c1 := hc.cellNever c1
      have HO := Lib.hid (oldN_take hx)
      have HN := Lib.hid (newN_take hx)
      have l1 : oldN (l.take k) ≤ k := Nat.le_trans (oldN_le _) (List.length_take_le _ _)
      have l2 : newN (l.take k) ≤ k := Nat.le_trans (newN_le _) (List.length_take_le _ _)
      clear hx h3 hm
      obtain ⟨sg, tx⟩ := x
      simp only at c0 c1 s0 s1 hxs
      by_cases h43 : sg = 43
      · subst h43
        go_wp2
        go_roundw
        case rel => exact ⟨k + 1, by omega, by go_num, by rw [HO.out]; rfl, by rw [HN.out]; go_num, hc.alloc _⟩
        case measure => simp [intOf] <;> omega
      · have t1 : (sg != 43) = true := by simp [h43]
        by_cases h45 : sg = 45
        · subst h45
          go_wp2
          go_roundw
          case rel => exact ⟨k + 1, by omega, by go_num, by rw [HO.out]; go_num, by rw [HN.out]; rfl, hc.alloc _⟩
          case measure => simp [intOf] <;> omega
        · have t2 : (sg != 45) = true := by simp [h45]
          have H43 := Lib.hid h43
          have H45 := Lib.hid h45
          clear h43 h45
          go_wp2
          go_roundw
          case rel => exact ⟨k + 1, by omega, by go_num, by rw [HO.out, if_neg H43.out]; go_num, by rw [HN.out, if_neg H45.out]; go_num, hc.alloc _⟩
          case measure => simp [intOf] <;> omega
    · go_wp2
      go_ret2
      exact ⟨by rw [List.take_of_length_le (by omega)]; rfl, hc⟩

theorem hasChange_take {l : List Mark} {k : Nat} {x : Mark} (hx : l[k]? = some x) (h : hasChange (l.take k) = false) : hasChange (l.take (k + 1)) = (!(x.sign == 32)) := by
  rw [List.take_add_one, hx]
  unfold hasChange at *
  rw [List.any_append, h]
  by_cases h1 : x.sign = 32 <;> simp [h1]
theorem hasChange_of {l : List Mark} {k : Nat} (h : hasChange (l.take k) = true) : hasChange l = true := by
  unfold hasChange at *
  rw [List.any_eq_true] at *
  obtain ⟨x, hx, hp⟩ := h
  exact ⟨x, List.mem_of_mem_take hx, hp⟩

def IdxPost (l : List Mark) (w : World) (e : Ending) (w' : World) : Prop := ∃ n : Int, e = .returned (.int .i64 n) ∧ -1 ≤ n ∧ decide (0 ≤ n) = hasChange l ∧ Chg Never w w'
theorem index_changed (l : List Mark) (v : Value) (w : World) (h : Rdv w Never v l) :
    Calls Tryd.prog 131 #[v, .func (.func 114) #[] #[]] w (IdxPost l w) := by
  obtain ⟨a, cap, rfl, h1, h2, h3⟩ := rdv_slice h
  unfold maxLen at h2
  go_enter Tryd.func131, Tryd.ntmps131
  go_wp2_with fail
  go_loopw [8] (fun i wr => ∃ k : Nat, k ≤ l.length ∧ i = .int .i64 k ∧ Hid (hasChange (l.take k) = false) ∧ Chg Never w wr) (fun i _ => l.length - (intOf i).toNat)
  case atStart => exact ⟨0, Nat.zero_le _, rfl, rfl, Chg.refl _ _⟩
  case round =>
    obtain ⟨k, hk, rfl, hf, hc⟩ := hrel
    by_cases hlt : k < l.length
    · obtain ⟨x, hx⟩ : ∃ x, l[k]? = some x := ⟨l[k], by simp [hlt]⟩
      obtain ⟨b, off, rfl, _, _, c0, c1, s0, s1, hxs⟩ := elems_mark h3 hx
      have c0 := hc.cellNever c0
      have c1 := hc.cellNever c1
      have HT := Lib.hid (hasChange_take hx hf.out)
      clear hx h3 h
      obtain ⟨sg, tx⟩ := x
      simp only at c0 c1 s0 s1 hxs
      by_cases h32 : sg = 32
      · subst h32
        go_wp2_with (go_at_call 114; refine (changed_any _ _ _).mono ?_; rintro e w2 ⟨rfl, hc2⟩)
        go_roundw
        case rel => exact ⟨k + 1, by omega, by go_num, by rw [Hid, HT.out]; rfl, hc.trans hc2⟩
        case measure => simp [intOf] <;> omega
      · have t1 : (sg == 32) = false := by simp [h32]
        go_wp2_with (go_at_call 114; refine (changed_any _ _ _).mono ?_; rintro e w2 ⟨rfl, hc2⟩)
        go_ret
        have E : hasChange l = true := hasChange_of (k := k + 1) (by rw [HT.out]; simp [h32])
        exact ⟨k, rfl, by omega, by rw [E]; simp, hc.trans hc2⟩
    · go_wp2_with fail
      go_ret
      have E : hasChange l = false := by have := hf.out; rwa [List.take_of_length_le (by omega)] at this
      exact ⟨-1, rfl, by omega, by rw [E]; rfl, hc⟩

theorem contains_changed (l : List Mark) (v : Value) (w : World) (h : Rdv w Never v l) :
    Calls Tryd.prog 113 #[v, .func (.func 114) #[] #[]] w fun e w' => e = .returned (.bool (hasChange l)) ∧ Chg Never w w' := by
  go_enter Tryd.func113, Tryd.ntmps113
  go_wp2_with fail
  refine (index_changed l _ _ h).mono ?_
  rintro e w1 ⟨n, rfl, hn, hd, hc⟩
  have HD := Lib.hid hd
  clear hd
  go_wp2_with fail
  go_ret
  exact ⟨by rw [← HD.out]; rfl, hc⟩
end Go.Proofs.YtpoammapjmddfaaDoor
