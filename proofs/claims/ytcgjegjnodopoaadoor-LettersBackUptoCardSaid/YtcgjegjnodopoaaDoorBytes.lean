/-
  ROWS OF BYTES: an element's cell; as a string, and a string as bytes.
-/
import Derived.Test.YtcgjegjnodopoaaDoorLine
import Derived.Test.YtcgjegjnodopoaaDoorSpecLine
import Derived.Laws.IdiomStrings
import Derived.Laws.BytesArg
namespace Go.Proofs.YtcgjegjnodopoaaDoor
open Go.RowKit

theorem elems_byte {w : World} {O : Nat → Prop} {a : Option Addr} {l : List UInt8} (h : Elems w O a l) {i : Nat} {x : UInt8} (hx : l[i]? = some x) :
    ∃ b off, a = some ⟨b, off, none⟩ ∧ ¬ O b ∧ b < w.heap.size ∧ w.cell? ⟨b, off + i, none⟩ = some (.int .u8 x.toNat) := by
  obtain ⟨b, off, es, ha, hb, hc, rfl⟩ := h i x hx
  refine ⟨b, off, ha, hb, hc.lt (by simp), ?_⟩
  have := hc 0 _ rfl
  rw [show off + i * Dat.n UInt8 + 0 = off + i by show off + i * 1 + 0 = _; omega] at this
  exact this
/-- 'string(b)' -/
theorem conv_str {w : World} {O : Nat → Prop} {v : Value} {l : List UInt8} (h : Rdv w O v l) : (convert 22 9 v).run Tryd.prog w = .ok (.string (toB l)) w := by
  obtain ⟨a, cap, rfl, h1, h2, h3⟩ := rdv_slice h
  by_cases h0 : l = []
  · subst h0
    cases a with
    | none => exact run_convert_bytes_nil w _ 5 Tryd.underlying22 Tryd.underlying5 _ cap _ Tryd.underlying9
    | some a => exact run_convert_bytes_back w _ _ 5 a cap [] Tryd.underlying22 Tryd.underlying5 Tryd.underlying9 (fun j hj => absurd hj (Nat.not_lt_zero j))
  · have hp : 0 < l.length := List.length_pos_iff.2 h0
    obtain ⟨b, off, rfl, _⟩ := elems_byte h3 (i := 0) (x := l[0]) (by simp [hp])
    refine run_convert_bytes_back w _ _ 5 ⟨b, off, none⟩ cap l Tryd.underlying22 Tryd.underlying5 Tryd.underlying9 (fun j hj => ?_)
    obtain ⟨b', off', e, _, _, hc⟩ := elems_byte h3 (i := j) (x := l[j]) (by simp [hj])
    simp only [Option.some.injEq, Addr.mk.injEq, and_true] at e
    obtain ⟨rfl, rfl⟩ := e
    rw [show (⟨b, off, none⟩ : Addr).add j = ⟨b, off + j, none⟩ by unfold Addr.add; split <;> simp_all]
    exact hc
/-- '[]byte(s)' -/
theorem conv_bytes {w : World} {s : ByteArray} (hs : s.size ≤ maxLen) : ∃ c : Nat, ∃ o : Obj,
    (convert 9 22 (.string s)).run Tryd.prog w = .ok (.slice (some ⟨w.heap.size, 0, none⟩) s.size c) (w.drew.alloc o) ∧
      Rdv (w.drew.alloc o) (Old w.heap.size) (.slice (some ⟨w.heap.size, 0, none⟩) s.size c) s.data.toList := by
  refine ⟨_, _, run_bytes_of_string w _ _ 5 s Tryd.underlying9 Tryd.underlying22 Tryd.underlying5, ?_⟩
  have hl : s.data.toList.length = s.size := (Lib.size_eq s).symm
  have hge := grownCap_ge w s.size 0 5
  have hcm := grownCap_le_maxLen w s.size 0 5 hs
  refine ⟨some ⟨w.heap.size, 0, none⟩, grownCap w s.size 0 5, by rw [hl], by rw [hl]; exact hge, hcm, ?_⟩
  intro i x hx
  have hi := (List.getElem?_eq_some_iff.1 hx).1
  refine ⟨w.heap.size, 0, [.int .u8 x.toNat], rfl, fun h => absurd h (Nat.lt_irrefl _), ?_, rfl⟩
  intro j u hj
  match j, hj with
  | 0, hj =>
    simp only [List.getElem?_cons_zero, Option.some.injEq] at hj
    subst hj
    have hb := heap_alloc_new w.drew (.cells (bytesRow s (grownCap w s.size 0 5)) 5 ((bytesRow s (grownCap w s.size 0 5)).size, (bytesRow s (grownCap w s.size 0 5)).size + 1))
    have hb' : (w.drew.alloc (.cells (bytesRow s (grownCap w s.size 0 5)) 5 ((bytesRow s (grownCap w s.size 0 5)).size, (bytesRow s (grownCap w s.size 0 5)).size + 1))).heap[w.heap.size]? = _ := hb
    simp only [World.cell?, hb']
    show (bytesRow s _)[0 + i * 1 + 0]? = _
    rw [show 0 + i * 1 + 0 = i by omega, bytesRow, Array.getElem?_append_left (by simpa using hi), Array.getElem?_map]
    rw [Array.getElem?_toList] at hx
    rw [hx]; rfl
end Go.Proofs.YtcgjegjnodopoaaDoor
