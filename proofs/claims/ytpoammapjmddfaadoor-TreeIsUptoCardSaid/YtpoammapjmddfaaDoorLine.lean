/-
  THE WALKS OF LAYER 1: One, Check, Texts.
-/
import Derived.Test.YtpoammapjmddfaaDoorShelf
import Derived.Test.YtpoammapjmddfaaDoorDat
import Derived.WalkLawsBesides
import Derived.WalkSpells
import Derived.Deep.QuietTactic
import Derived.BigQuiet
import Derived.Lib.Hide
namespace Go.Proofs.YtpoammapjmddfaaDoor
open Go.RowKit

def errV (k : Int) : Value := if k = 0 then .nilIface else .iface 32 (.int .i64 k)
theorem errV_zero : errV 0 = .nilIface := rfl
theorem errV_pos {k : Int} (h : k ≠ 0) : errV k = .iface 32 (.int .i64 k) := by simp [errV, h]

theorem indexByte_nonneg (l : List UInt8) (c : UInt8) : decide (0 ≤ Lib.indexByte l c) = l.contains c := by
  have key : ∀ l : List UInt8, -1 ≤ Lib.indexByte l c ∧ (0 ≤ Lib.indexByte l c ↔ c ∈ l) := by
    intro l
    induction l with
    | nil => simp [Lib.indexByte]
    | cons b l ih =>
      obtain ⟨i1, i2⟩ := ih
      simp only [Lib.indexByte]
      by_cases hb : b = c
      · simp [hb]
      · by_cases hm : Lib.indexByte l c = -1
        · have : c ∉ l := fun h => by have := i2.2 h; omega
          simp [hb, hm, this, Ne.symm hb]
        · have : c ∈ l := i2.1 (by omega)
          simp [hb, hm, this]
          omega
  have := (key l).2
  by_cases hm : c ∈ l
  · simp [hm, this.2 hm]
  · have hn : ¬ 0 ≤ Lib.indexByte l c := fun h => hm (this.1 h)
    simp [hm, hn]
theorem hasNl_index (s : ByteArray) : decide (0 ≤ Lib.indexByte s.data.toList 10) = hasNl s := indexByte_nonneg _ _
theorem drop_eq {α : Type} {l : List α} {k : Nat} {x : α} (h : l[k]? = some x) : l.drop k = x :: l.drop (k + 1) := by
  obtain ⟨hk, hx⟩ := List.getElem?_eq_some_iff.1 h
  rw [List.drop_eq_getElem_cons hk, hx]

theorem one_any (s : ByteArray) (w : World) (hs : s.size ≤ maxLen) :
    Calls Tryd.prog 52 #[.string s] w fun e w' => e = .returned (errV (lineFault s)) ∧ w = w' := by
  unfold maxLen at hs
  by_cases h1 : hasNl s = true
  · go_enter Tryd.func52, Tryd.ntmps52
    go_wp2_with (go_at_call 86; refine (Tryd.strings_Contains_one _ _ _).mono ?_; rintro e w' ⟨rfl, rfl⟩; rw [hasNl_index, h1])
    go_ret
    exact ⟨by simp [lineFault, h1, errV], rfl⟩
  · have h1' : hasNl s = false := by simpa using h1
    by_cases h2 : 80 < s.size
    · go_enter Tryd.func52, Tryd.ntmps52
      go_wp2_with (go_at_call 86; refine (Tryd.strings_Contains_one _ _ _).mono ?_; rintro e w' ⟨rfl, rfl⟩; rw [hasNl_index, h1'])
      go_ret
      exact ⟨by simp [lineFault, h1', h2, errV], rfl⟩
    · go_enter Tryd.func52, Tryd.ntmps52
      go_wp2_with (go_at_call 86; refine (Tryd.strings_Contains_one _ _ _).mono ?_; rintro e w' ⟨rfl, rfl⟩; rw [hasNl_index, h1'])
      go_ret
      exact ⟨by simp [lineFault, h1', h2, errV], rfl⟩

theorem check_any (l : List ByteArray) (v : Value) (w : World) (h : Rdv w Never v l) :
    Calls Tryd.prog 19 #[v] w fun e w' => e = .returned (errV (linesFault l)) ∧ w = w' := by
  obtain ⟨a, cap, rfl, h1, h2, h3⟩ := rdv_slice h
  unfold maxLen at h2
  by_cases h4 : 60 < l.length
  · go_enter Tryd.func19, Tryd.ntmps19
    go_wp2
    go_ret
    exact ⟨by simp [linesFault, h4, errV], rfl⟩
  · go_enter Tryd.func19, Tryd.ntmps19
    go_wp2
    go_loop [12] (fun i => ∃ k : Nat, k ≤ l.length ∧ i = .int .i64 k ∧ Hid (firstOf lineFault (l.drop k) = linesFault l)) (fun i => l.length - (intOf i).toNat)
    case atStart => exact ⟨0, Nat.zero_le _, rfl, by simp [Hid, linesFault, h4]⟩
    case round =>
      obtain ⟨k, hk, rfl, hf⟩ := hrel
      by_cases hlt : k < l.length
      · obtain ⟨x, hx⟩ : ∃ x, l[k]? = some x := ⟨l[k], by simp [hlt]⟩
        obtain ⟨b, off, rfl, _, _, hc, hxs⟩ := elems_str h3 hx
        have hd := Lib.hid (drop_eq hx)
        clear hx h3 h
        by_cases hz : lineFault x = 0
        · go_wp2_with (go_at_call 52; refine (one_any _ _ hxs).mono ?_; rintro e w' ⟨rfl, rfl⟩; rw [hz, errV_zero])
          go_round
          case rel => exact ⟨k + 1, by omega, by go_num, by have := hf.out; rw [hd.out, firstOf, if_pos hz] at this; exact this⟩
          case measure => simp [intOf]; omega
        · go_wp2_with (go_at_call 52; refine (one_any _ _ hxs).mono ?_; rintro e w' ⟨rfl, rfl⟩; rw [errV_pos hz])
          go_ret
          have E : errV (linesFault l) = errV (lineFault x) := by rw [← hf.out, hd.out, firstOf, if_neg hz]
          exact ⟨by rw [E, errV_pos hz]; rfl, rfl⟩
      · go_wp2
        go_ret
        exact ⟨by have := hf.out; rw [List.drop_of_length_le (by omega), firstOf] at this; rw [← this]; rfl, rfl⟩

theorem take_same {α : Type} {l m : List α} {k : Nat} {x : α} (h : l.take k = m.take k) (hx : l[k]? = some x) (hy : m[k]? = some x) : l.take (k + 1) = m.take (k + 1) := by
  rw [List.take_add_one, List.take_add_one, h, hx, hy]
theorem ne_of_get {α : Type} {l m : List α} {k : Nat} {x y : α} (hx : l[k]? = some x) (hy : m[k]? = some y) (h : x ≠ y) : l ≠ m := by
  rintro rfl
  rw [hx] at hy
  exact h (Option.some.inj hy)
theorem str_beq_false {x y : ByteArray} (h : x ≠ y) : (x.toList == y.toList) = false := by
  rw [ByteArray.toList_eq, ByteArray.toList_eq]
  refine beq_eq_false_iff_ne.2 (fun e => h ?_)
  have := Array.toList_inj.1 e
  cases x; cases y; simp_all

theorem texts_any (l m : List ByteArray) (v u : Value) (w : World) (h : Rdv w Never v l) (g : Rdv w Never u m) :
    Calls Tryd.prog 15 #[v, u] w fun e w' => e = .returned (.bool (decide (l = m))) ∧ Chg Never w w' := by
  obtain ⟨a, cap, rfl, h1, h2, h3⟩ := rdv_slice h
  obtain ⟨c, cap', rfl, g1, g2, g3⟩ := rdv_slice g
  unfold maxLen at h2 g2
  by_cases h4 : l.length = m.length
  · have h4' : ((l.length : Int) != m.length) = false := by simp [h4]
    have H4 := Lib.hid h4
    clear h4
    go_enter Tryd.func15, Tryd.ntmps15
    go_wp2
    go_loopw [5] (fun i wr => ∃ k : Nat, k ≤ l.length ∧ i = .int .i64 k ∧ Hid (l.take k = m.take k) ∧ Chg Never w wr) (fun i _ => l.length - (intOf i).toNat)
    case atStart => exact ⟨0, Nat.zero_le _, rfl, by simp [Hid], Chg.refl _ _⟩
    case round =>
      obtain ⟨k, hk, rfl, hf, hc⟩ := hrel
      by_cases hlt : k < l.length
      · obtain ⟨x, hx⟩ : ∃ x, l[k]? = some x := ⟨l[k], by simp [hlt]⟩
        obtain ⟨y, hy⟩ : ∃ y, m[k]? = some y := ⟨m[k]'(by rw [← H4.out]; exact hlt), by simp [H4.out ▸ hlt]⟩
        obtain ⟨b, off, rfl, _, _, hcx, hxs⟩ := elems_str h3 hx
        obtain ⟨b', off', rfl, _, _, hcy, hys⟩ := elems_str g3 hy
        have hcx := hc.cellNever hcx
        have hcy := hc.cellNever hcy
        clear h3 g3 h g
        have hlm : k < m.length := by rw [← H4.out]; exact hlt
        have HX := Lib.hid hx
        have HY := Lib.hid hy
        clear hx hy
        have b1 : (k : Int) < l.length := by omega
        have b2 : (k : Int) < m.length := by omega
        by_cases hxy : x = y
        · subst hxy
          go_wp2
          go_quiet (fail)
          go_wp2
          go_roundw
          case rel => exact ⟨k + 1, by omega, by go_num, take_same hf HX.out HY.out, hc.drewN _⟩
          case measure => simp [intOf]; omega
        · have hne := str_beq_false hxy
          go_wp2
          go_quiet (fail)
          go_wp2
          go_ret
          exact ⟨by rw [decide_eq_false (ne_of_get HX.out HY.out hxy)]; rfl, hc.drewN _⟩
      · go_wp2
        go_ret
        have E : l = m := by
          have := hf.out
          rwa [List.take_of_length_le (by omega), List.take_of_length_le (by rw [← H4.out]; omega)] at this
        exact ⟨by rw [decide_eq_true E]; rfl, hc⟩
  · have h4' : ((l.length : Int) != m.length) = true := by simp; omega
    go_enter Tryd.func15, Tryd.ntmps15
    go_wp2
    go_ret
    exact ⟨by rw [decide_eq_false (fun e => h4 (by rw [e]))]; rfl, Chg.refl _ _⟩
end Go.Proofs.YtpoammapjmddfaaDoor
