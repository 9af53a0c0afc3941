/-
  THE WALKS OF LAYER 1: One, Check, Texts.
-/
import Derived.Test.YtcgjegjnodopoaaDoorShelf
import Derived.Test.YtcgjegjnodopoaaDoorDat
import Derived.WalkLawsBesides
import Derived.WalkSpells
import Derived.Deep.QuietTactic
import Derived.BigQuiet
import Derived.Lib.Hide
namespace Go.Proofs.YtcgjegjnodopoaaDoor
open Go.RowKit

def errV (k : Int) : Value := if k = 0 then .nilIface else .iface 23 (.int .i64 k)
theorem errV_zero : errV 0 = .nilIface := rfl
theorem errV_pos {k : Int} (h : k ≠ 0) : errV k = .iface 23 (.int .i64 k) := by simp [errV, h]

theorem indexByte_nonneg (l : List UInt8) (c : UInt8) : decide (0 ≤ Lib.indexByte l c) = l.contains c := by
  have key : ∀ l : List UInt8, -1 ≤ Lib.indexByte l c ∧ (0 ≤ Lib.indexByte l c ↔ c ∈ l) := by
    intro l
    induction l with
    | nil => simp [Lib.indexByte]
    | cons b l ih =>
      obtain ⟨i1, i2⟩ := ih
      simp only [Lib.indexByte]
      by_cases hb : b = c
      · simp [hb]
      · by_cases hm : Lib.indexByte l c = -1
        · have : c ∉ l := fun h => by have := i2.2 h; omega
          simp [hb, hm, this, Ne.symm hb]
        · have : c ∈ l := i2.1 (by omega)
          simp [hb, hm, this]
          omega
  have := (key l).2
  by_cases hm : c ∈ l
  · simp [hm, this.2 hm]
  · have hn : ¬ 0 ≤ Lib.indexByte l c := fun h => hm (this.1 h)
    simp [hm, hn]
theorem hasNl_index (s : ByteArray) : decide (0 ≤ Lib.indexByte s.data.toList 10) = hasNl s := indexByte_nonneg _ _
theorem drop_eq {α : Type} {l : List α} {k : Nat} {x : α} (h : l[k]? = some x) : l.drop k = x :: l.drop (k + 1) := by
  obtain ⟨hk, hx⟩ := List.getElem?_eq_some_iff.1 h
  rw [List.drop_eq_getElem_cons hk, hx]

theorem take_same {α : Type} {l m : List α} {k : Nat} {x : α} (h : l.take k = m.take k) (hx : l[k]? = some x) (hy : m[k]? = some x) : l.take (k + 1) = m.take (k + 1) := by
  rw [List.take_add_one, List.take_add_one, h, hx, hy]
theorem ne_of_get {α : Type} {l m : List α} {k : Nat} {x y : α} (hx : l[k]? = some x) (hy : m[k]? = some y) (h : x ≠ y) : l ≠ m := by
  rintro rfl
  rw [hx] at hy
  exact h (Option.some.inj hy)
theorem str_beq_false {x y : ByteArray} (h : x ≠ y) : (x.toList == y.toList) = false := by
  rw [ByteArray.toList_eq, ByteArray.toList_eq]
  refine beq_eq_false_iff_ne.2 (fun e => h ?_)
  have := Array.toList_inj.1 e
  cases x; cases y; simp_all

end Go.Proofs.YtcgjegjnodopoaaDoor
