/-
  PARTS: MORE ON SLICES THAT append HAS BUILT.; THE WALKS of patch.all and of the document's whole.; THE WALK of algebra.Split: a patch in pieces.
-/
import Derived.Test.YtjiaidchcldocaaGreatDoorPg3
import Derived.Test.YtjiaidchcldocaaGreatDoorPg9
import Derived.Test.YtjiaidchcldocaaGreatDoorPg10
import Derived.Test.YtjiaidchcldocaaGreatDoorPg16
import Derived.Test.YtjiaidchcldocaaGreatDoorPg23
import Derived.Test.YtjiaidchcldocaaGreatDoorPg26
set_option linter.unusedVariables false
set_option linter.unusedSimpArgs false
namespace Go.Proofs.YtjiaidchcldocaaGreatDoor
open Go.RowKit

theorem own_out {α : Type} [Dat α] {e : TypeId} {w : World} {O : Nat → Prop} {v : Value} {l : List α} (h : Own e w O v l) : ∀ k, v.ownBlock = some k → ¬ O k := by
  obtain ⟨_, _, q, _⟩ := h
  exact q
end Go.Proofs.YtjiaidchcldocaaGreatDoor
namespace Go.Proofs.YtjiaidchcldocaaGreatDoor
open Go.RowKit

theorem wholeR_nil (s : Int) : wholeR [] s = [] := if_pos rfl
theorem wholeR_some {l : List ByteArray} (h : l ≠ []) (s : Int) : wholeR l s = [⟨0, 0, l.map fun x => ⟨s, x⟩⟩] := if_neg h
theorem sign_take {l : List ByteArray} {k : Nat} {x : ByteArray} {s : Int} (hx : l[k]? = some x) : (l.take (k + 1)).map (fun x => (⟨s, x⟩ : Mark)) = (l.take k).map (fun x => (⟨s, x⟩ : Mark)) ++ [⟨s, x⟩] := by
  rw [List.take_add_one, hx]; simp
theorem rdv_hunkO {w : World} {O : Nat → Prop} {x : Hunk} {mv : Value} {t : TypeId} (h : Rdv w O mv x.marks) (hO : ¬ O w.heap.size) : Rdv (w.alloc (.cells #[.int .i64 x.old, .int .i64 x.new, mv] t)) O (.slice (some ⟨w.heap.size, 0, none⟩) 1 1) [x] := by
  refine ⟨some ⟨w.heap.size, 0, none⟩, 1, rfl, Nat.le_refl _, by decide, ?_⟩
  intro i y hy
  obtain rfl : i = 0 := by
    cases i with
    | zero => rfl
    | succ i => simp at hy
  simp only [List.getElem?_cons_zero, Option.some.injEq] at hy
  subst hy
  refine ⟨w.heap.size, 0, [.int .i64 x.old, .int .i64 x.new, mv], rfl, hO, ?_, ⟨mv, rfl, h.never ((Chg.refl Never w).alloc _)⟩⟩
  intro j u hj
  simp only [World.cell?, heap_alloc_new]
  simpa using hj
set_option maxHeartbeats 2000000 in
set_option maxRecDepth 100000 in
theorem all_any (l : List ByteArray) (s : Int) (v : Value) (w : World) (h : Rdv w Never v l) (s0 : 0 ≤ s) (s1 : s < 256) (hl : l.length ≤ 1000000) :
    Calls Tryz.prog 64 #[v, .int .u8 s] w fun e w' => ∃ r, e = .returned r ∧ Chg Never w w' ∧ Rdv w' (Old w.heap.size) r (wholeR l s) := by
  obtain ⟨a, cap, rfl, h1, h2, h3⟩ := rdv_slice h
  unfold maxLen at h2
  by_cases hn : l = []
  · subst hn
    rw [wholeR_nil]
    go_enter Tryz.func64, Tryz.ntmps64
    go_wp2_with fail
    go_ret
    exact ⟨_, rfl, Chg.refl _ _, rdv_nil _ _⟩
  · have hpos : 0 < l.length := List.length_pos_iff.2 hn
    have t0 : ((l.length : Int) == 0) = false := by simp; omega
    have HN := Lib.hid hn
    clear hn
    have hB0 := Blk3.new w 129 (.int .i64 0) (.int .i64 0) (.slice none 0 0)
    have hc0 : Chg Never w (w.alloc (.cells #[.int .i64 0, .int .i64 0, .slice none 0 0] 129)) := (Chg.refl Never w).alloc _
    go_enter Tryz.func64, Tryz.ntmps64
    go_wp2_with fail
    generalize w.alloc (.cells #[.int .i64 0, .int .i64 0, .slice none 0 0] 129) = wA at hB0 hc0 ⊢
    generalize hBe : w.heap.size = B at hB0 ⊢
    have hBge : w.heap.size ≤ B := Nat.le_of_eq hBe
    clear hBe
    go_loopw [13] (fun i wr => ∃ (j : Nat) (mv : Value), j ≤ l.length ∧ i = .int .i64 j ∧ Chg Never w wr ∧ Blk3 wr B 129 (.int .i64 0) (.int .i64 0) mv ∧ Own 126 wr (Old (B + 1)) mv ((l.take j).map fun x => (⟨s, x⟩ : Mark))) (fun i _ => l.length - (intOf i).toNat)
    case atStart => exact ⟨0, .slice none 0 0, Nat.zero_le _, rfl, hc0, hB0, own_nil _ _ _⟩
    case round =>
      clear hc0 hB0
      obtain ⟨j, mv, hj, rfl, hc, hB, hmk⟩ := hrel
      obtain ⟨qa, qn, qc, rfl⟩ := own_isSlice hmk
      obtain ⟨f0, f1, f2⟩ := hB.cell
      have hBlt := hB.lt
      by_cases hlt : j < l.length
      · obtain ⟨x, hx⟩ : ∃ x, l[j]? = some x := ⟨l[j], by simp [hlt]⟩
        obtain ⟨b, off, rfl, _, _, c0, hxs⟩ := elems_str h3 hx
        have c0 := hc.cellNever c0
        have HX := Lib.hid hx
        have hOm : ∀ q, Old (B + 1) q → q < wr.heap.size := fun q hq => by unfold Old at hq; omega
        have hml : ((l.take j).map fun x => (⟨s, x⟩ : Mark)).length ≤ 1000000000 := by rw [List.length_map, List.length_take]; omega
        clear hx h3 h
        go_wp2_with (at_builtin; refine wpList_push (by rfl) _ _ 127 (by rfl) elemOk_mark (O := Old (B + 1)) (l := (l.take j).map fun x => (⟨s, x⟩ : Mark)) (y := ⟨s, x⟩) (by rfl) (by rfl) (by simp) hmk (rd_mark _ _ s x s0 s1 hxs) hOm hml ?_; intro mv' w5 hmk5 hc2 _; obtain ⟨sa, sn, sc, rfl⟩ := own_isSlice hmk5; have hB5 := hB.keep hc2 (fun hh => own_out hmk _ hh (Nat.lt_succ_self _)); have hc5 := hc.trans' hc2 (fun i hi hh => own_out hmk i hh (by unfold Old; omega)); obtain ⟨g0, g1, g2⟩ := hB5.cell; have g3 := hB5.free 2; clear hc2)
        have hB6 := hB5.set2 (.slice sa sn sc)
        have hmk6 := hmk5.keep (O' := fun q => q = B) (O'' := Old (B + 1)) ((Chg.refl (fun q => q = B) w5).setCell (p := ⟨B, 2, none⟩) (.inr rfl) (.slice sa sn sc)) (fun q _ hq => by have h : q = B := hq; unfold Old; omega) (fun _ _ hh => hh)
        have hc6 := hc5.setCell (p := ⟨B, 2, none⟩) (.inl hBge) (.slice sa sn sc)
        clear g0 g1 g2 g3 hB5 hmk5 hc5 hB hmk hc
        go_roundw
        case rel => exact ⟨j + 1, .slice sa sn sc, by omega, by go_num, hc6, hB6, by rw [sign_take HX.out]; exact hmk6⟩
        case measure => simp [intOf] <;> omega
      · obtain rfl : j = l.length := by omega
        rw [List.take_length] at hmk
        have hr := hmk.rdv.sub (O' := Old w.heap.size) (fun k _ h => by unfold Old at *; omega)
        have hl1 := rdv_hunkO (x := ⟨0, 0, l.map fun x => ⟨s, x⟩⟩) (t := 129) hr (fun h => absurd hc.size (Nat.not_le_of_lt h))
        go_wp2_with fail
        go_ret
        exact ⟨_, rfl, hc.alloc _, by rw [wholeR_some HN.out]; exact hl1⟩

end Go.Proofs.YtjiaidchcldocaaGreatDoor
namespace Go.Proofs.YtjiaidchcldocaaGreatDoor
open Go.RowKit

def hpieceOf (k : Int) (p : ByteArray) (h : Hunk) : List Change := [⟨k, p, [⟨h.new, h.new, h.marks⟩]⟩]
def piecesC (c : Change) : List (List Change) := if c.hunks = [] then [[c]] else c.hunks.map (hpieceOf c.what c.path)
def pieces (p : List Change) : List (List Change) := p.flatMap piecesC
theorem elemOk_changes : ElemOk Tryz.prog 22 51 1 := elemOk_of Tryz.underlying22 (z := .slice none 0 0) (b := 24) (by kernel_rfl) rfl (by decide)
end Go.Proofs.YtjiaidchcldocaaGreatDoor
