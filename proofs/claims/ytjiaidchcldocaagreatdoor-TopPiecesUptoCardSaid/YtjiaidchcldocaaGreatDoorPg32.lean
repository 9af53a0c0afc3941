/-
  PARTS: THE WALKS of tree.Copy, and of slices.Concat of files.
-/
import Derived.Test.YtjiaidchcldocaaGreatDoorPg24
import Derived.Test.YtjiaidchcldocaaGreatDoorPg23
import Derived.Test.YtjiaidchcldocaaGreatDoorPg6
set_option linter.unusedVariables false
set_option linter.unusedSimpArgs false
namespace Go.Proofs.YtjiaidchcldocaaGreatDoor
open Go.RowKit

theorem take_snoc {α : Type} {l : List α} {k : Nat} {x : α} (hx : l[k]? = some x) : l.take (k + 1) = l.take k ++ [x] := by rw [List.take_add_one, hx]; rfl
set_option maxHeartbeats 2000000 in
set_option maxRecDepth 100000 in
theorem tree_copy_any (t : List File) (v : Value) (w : World) (h : Rdv w Never v t) (hl : t.length ≤ 1000000) (hll : ∀ f ∈ t, f.lines.length ≤ 1000000) :
    Calls Tryz.prog 63 #[v] w fun e w' => ∃ r, e = .returned r ∧ Chg Never w w' ∧ Own 117 w' (Old w.heap.size) r t := by
  obtain ⟨a, cap, rfl, h1, h2, h3⟩ := rdv_slice h
  unfold maxLen at h2
  go_enter Tryz.func63, Tryz.ntmps63
  go_wp2_with fail
  go_loopw [3, 8] (fun o i wr => ∃ k : Nat, k ≤ t.length ∧ i = .int .i64 k ∧ Chg Never w wr ∧ Own 117 wr (Old w.heap.size) o (t.take k)) (fun _ i _ => t.length - (intOf i).toNat)
  case atStart => exact ⟨0, Nat.zero_le _, rfl, Chg.refl _ _, own_nil _ _ _⟩
  case round =>
    obtain ⟨k, hk, rfl, hc, hown⟩ := hrel
    by_cases hlt : k < t.length
    · obtain ⟨x, hx⟩ : ∃ x, t[k]? = some x := ⟨t[k], by simp [hlt]⟩
      obtain ⟨b, off, lv, rfl, _, _, c0, c1, hps, hlv⟩ := elems_file h3 hx
      obtain ⟨la, lcap, rfl, _, _, _⟩ := rdv_slice hlv
      have hxl := hll x (List.mem_of_getElem? hx)
      have c0 := hc.cellNever c0
      have c1 := hc.cellNever c1
      have HT := Lib.hid (take_snoc hx)
      have htl : (t.take k).length ≤ 1000000000 := Nat.le_trans (List.length_take_le _ _) (by omega)
      have hsz := hc.size
      have holt := own_block_lt hown
      have hA : Chg Never wr (wr.alloc (.cells #[.string x.path, .slice la x.lines.length lcap] 117)) := (Chg.refl Never wr).alloc _
      have hBX := Blk2.new wr 117 (.string x.path) (.slice la x.lines.length lcap)
      have hownA := hown.keep (O'' := fun j => Old w.heap.size j ∨ j = wr.heap.size) hA (fun _ _ hh => hh.elim) (by rintro j hj (hh | rfl); exact hh; exact absurd hj (Nat.lt_irrefl _))
      have hlvA := (hlv.never hc).never hA
      have hcA := hc.trans hA
      have hBlt := hBX.lt
      obtain ⟨b0, b1⟩ := hBX.cell
      clear hx h3 h hown hlv
      go_wp2_with fail
      generalize wr.alloc (.cells #[.string x.path, .slice la x.lines.length lcap] 117) = w3 at hBX hownA hlvA hcA hBlt b0 b1 hA ⊢
      generalize hBe : wr.heap.size = B at hBX hownA hBlt b0 b1 hsz holt ⊢
      clear hc hA hBe
      refine (clone_str Never x.lines _ _ hlvA hxl).mono ?_
      rintro e w4 ⟨r4, rfl, hc4, hown4⟩
      obtain ⟨ra, rn, rc, rfl⟩ := own_isSlice hown4
      have hB4 := hBX.keep hc4 (fun h => h)
      have b3 := hB4.free
      have hB5 := hB4.set1 (.slice ra rn rc)
      obtain ⟨b0, b1⟩ := hB4.cell
      obtain ⟨k0, k1⟩ := hB5.cell
      have hS : Chg (fun j => j = B) w4 (w4.setCell ⟨B, 1, none⟩ (.slice ra rn rc)) := (Chg.refl (fun j => j = B) w4).setCell (p := ⟨B, 1, none⟩) (.inr rfl) _
      have hown5 := (hownA.never hc4).keep (O'' := Old w.heap.size) hS (fun j _ hh => .inr hh) (fun j _ hh => .inl hh)
      have hr := (hown4.keep (O'' := Old w3.heap.size) hS (fun j _ hh => by subst hh; exact hBlt) (fun _ _ hh => hh)).rdv
      have hc5 := (hcA.trans hc4).setCell (p := ⟨B, 1, none⟩) (.inl hsz) (.slice ra rn rc)
      have hszw := hcA.size
      have hy : Dat.rd (w4.setCell ⟨B, 1, none⟩ (.slice ra rn rc)) (fun j => Old w.heap.size j ∨ u3.ownBlock = some j) [.string x.path, .slice ra rn rc] x := ⟨_, rfl, hps, hr.sub (fun j _ hh => by
        rcases hh with hh | hh
        · exact Nat.lt_of_lt_of_le hh hszw
        · exact Nat.lt_trans (holt j hh) hBlt)⟩
      clear hr hS hB4 hBX hown4 hc4 hownA hcA hlvA hB5
      go_wp2_with (at_builtin; refine wpList_push (by rfl) _ _ 41 (by rfl) elemOk_file (O := Old w.heap.size) (l := t.take k) (y := x) (by rfl) (by rfl) (by simp) hown5 hy (old_lt hc5) htl ?_; intro v' w6 hown6 hc6 _)
      have hc7 := own_step hc5 hown5 hc6
      clear hc6 hown5 hy
      go_wp2_with fail
      go_roundw
      case rel => exact ⟨k + 1, by omega, by go_num, hc7, by rw [HT.out]; exact hown6⟩
      case measure => simp [intOf] <;> omega
    · rw [List.take_of_length_le (by omega)] at hown
      go_wp2_with fail
      go_ret
      exact ⟨_, rfl, hc, hown⟩
end Go.Proofs.YtjiaidchcldocaaGreatDoor
