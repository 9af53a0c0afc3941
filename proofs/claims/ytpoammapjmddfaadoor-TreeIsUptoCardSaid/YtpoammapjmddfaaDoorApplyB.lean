/-
  THE WALKS OF LAYER 4: slices.Grow of nil, slices.Concat.
-/
import Derived.Test.YtpoammapjmddfaaDoorApplyA
import Derived.Lib.Walk
import Derived.Lib.SliceRun
import Derived.Lib.AppendZerosOnto
namespace Go.Proofs.YtpoammapjmddfaaDoor
open Go.RowKit

set_option maxRecDepth 100000 in
theorem grow_nil (n : Nat) (w : World) (hn : n ≤ 1000000) :
    Calls Tryd.prog 138 #[.slice none 0 0, .int .i64 n] w fun e w' => ∃ r, e = .returned r ∧ Chg Never w w' ∧ Own 9 w' (Old w.heap.size) r ([] : List ByteArray) := by
  rcases Nat.eq_zero_or_pos n with h0 | hpos
  · subst h0
    go_enter Tryd.func138, Tryd.ntmps138
    go_wp2_with fail
    go_ret
    exact ⟨_, rfl, Chg.refl _ _, own_nil _ _ _⟩
  · obtain ⟨i0, hi0, hz0, hs0, hb0⟩ := info_parts (show (Tryd.prog.info? 9).map (fun i => (i.zero, i.size, i.bytes)) = some (some (.string ⟨#[]⟩), 1, 16) by kernel_rfl)
    have hold : (Builtin.firstCells i0.size 0 (.slice none 0 0)).run Tryd.prog w.drew = .ok ([] : List Value).toArray w.drew := run_firstCells_none w.drew i0.size 0 0 0
    have hrz : ∀ ty, (Builtin.append_ #[22, 3] ty #[.slice none 0 0, .int .i64 (n : Int)]).run Tryd.prog w = .ok (.slice (some ⟨w.heap.size, 0, none⟩) n (grownCap w n 0 9))
        (w.drew.alloc (.cells (([] : List Value).toArray ++ Builtin.zeroCells (Value.string ⟨#[]⟩).cells n ++ Builtin.zeroCells (Value.string ⟨#[]⟩).cells (grownCap w n 0 9 - n)) 9)) := fun ty => by
      have h := Lib.run_append_grow_zeros w 22 3 ty 9 i0 (.string ⟨#[]⟩) .i64 .i64 Tryd.underlying22 Tryd.underlying3 hi0 hz0 none 0 0 [] hold n hpos (by omega) (by omega) (by omega) (by rw [hb0]; omega)
        (growslice_fits (by omega) (by rw [hb0]; omega))
      rw [Nat.zero_add] at h
      exact h
    have hGn : n ≤ grownCap w n 0 9 := grownCap_ge w _ _ _
    have hGm : grownCap w n 0 9 ≤ maxLen := grownCap_le_maxLen w n 0 9 (by unfold maxLen; omega)
    generalize grownCap w n 0 9 = G at hrz hGn hGm
    have hG63 : G ≤ 9223372036854775807 := by unfold maxLen at hGm; omega
    obtain ⟨cur, hcur⟩ : ∃ cur, cur = ([] : List Value).toArray ++ Builtin.zeroCells (Value.string ⟨#[]⟩).cells n ++ Builtin.zeroCells (Value.string ⟨#[]⟩).cells (G - n) := ⟨_, rfl⟩
    rw [← hcur] at hrz
    have hcs : cur.size = G * 1 := by rw [hcur]; simp [Builtin.zeroCells, Value.cells]; omega
    clear hcur
    have hmade : (w.drew.alloc (.cells cur 9)).ownsRow 0 9 1 (.slice (some ⟨w.heap.size, 0, none⟩) 0 G) 0 [] :=
      World.ownsRow_made w.drew _ G (Nat.zero_le _) hGm hcs
    have hcw : Chg Never w (w.drew.alloc (.cells cur 9)) := (Chg.refl Never w).drew.alloc _
    clear hcs
    have HM := Lib.hid hmade
    have HC := Lib.hid hcw
    clear hmade hcw hold hi0 hz0 hs0 hb0 hGm
    go_enter Tryd.func138, Tryd.ntmps138
    go_wp2_with (at_builtin; refine Lib.wpList_append_run _ rfl _ _ _ _ rfl _ _ rfl rfl _ _ (hrz _) ?_)
    all_goals
      go_ret
      have HO : ∀ k, (Value.slice (some ⟨w.heap.size, 0, none⟩) 0 G).ownBlock = some k → ¬ Old w.heap.size k := by
        intro k hk ho
        simp only [Value.ownBlock, Option.some.injEq] at hk
        subst hk
        unfold Old at ho
        omega
      exact ⟨.slice (some ⟨w.heap.size, 0, none⟩) 0 G, rfl, HC.out, [], HM.out, HO, fun i x hi => by simp at hi⟩

theorem elems_list {α : Type} [Dat α] {w : World} {O : Nat → Prop} {a : Option Addr} {l : List (List α)} (h : Elems w O a l) {i : Nat} {x : List α} (hx : l[i]? = some x) :
    ∃ b off v, a = some ⟨b, off, none⟩ ∧ ¬ O b ∧ b < w.heap.size ∧ w.cell? ⟨b, off + i, none⟩ = some v ∧ Rdv w O v x := by
  obtain ⟨b, off, es, ha, hb, hcs, hr⟩ := h i x hx
  obtain ⟨v, rfl⟩ : ∃ v, es = [v] := by
    have hl : es.length = 1 := Dat.len hr
    match es, hl with
    | [v], _ => exact ⟨v, rfl⟩
  refine ⟨b, off, v, ha, hb, hcs.lt (by simp), ?_, hr⟩
  have := hcs 0 v rfl
  simpa [Dat.n] using this
theorem flatten_take {l : List (List ByteArray)} {k : Nat} {x : List ByteArray} (hx : l[k]? = some x) : (l.take (k + 1)).flatten = (l.take k).flatten ++ x := by
  rw [List.take_add_one, hx]; simp
def totalOf (l : List (List ByteArray)) (k : Nat) : Nat := (l.take k).flatten.length
theorem flatten_take_le (l : List (List ByteArray)) (k : Nat) : (l.take k).flatten.length ≤ l.flatten.length := by
  have h : ((l.take k) ++ (l.drop k)).flatten.length = l.flatten.length := by rw [List.take_append_drop]
  rw [List.flatten_append, List.length_append] at h
  omega
theorem rd_str_any (w : World) (O O' : Nat → Prop) : ∀ cs (y : ByteArray), Dat.rd w O cs y → Dat.rd w O' cs y := fun _ _ h => h

set_option maxHeartbeats 800000 in
set_option maxRecDepth 100000 in
theorem concat_any (ls : List (List ByteArray)) (v : Value) (w : World) (h : Rdv w Never v ls) (hb : ls.flatten.length ≤ 1000000) :
    Calls Tryd.prog 121 #[v] w fun e w' => ∃ r, e = .returned r ∧ Chg Never w w' ∧ Own 9 w' (Old w.heap.size) r ls.flatten := by
  obtain ⟨a, cap, rfl, h1, h2, h3⟩ := rdv_slice h
  unfold maxLen at h2
  go_enter Tryd.func121, Tryd.ntmps121
  go_wp2_with fail
  go_loop [3, 5, 11] (fun sz _ i => ∃ k : Nat, k ≤ ls.length ∧ i = .int .i64 k ∧ sz = .int .i64 (totalOf ls k)) (fun _ _ i => ls.length - (intOf i).toNat)
  case atStart => exact ⟨0, Nat.zero_le _, rfl, rfl⟩
  case round =>
    obtain ⟨k, hk, rfl, rfl⟩ := hrel
    by_cases hlt : k < ls.length
    · obtain ⟨x, hx⟩ : ∃ x, ls[k]? = some x := ⟨ls[k], by simp [hlt]⟩
      obtain ⟨b, off, sv, rfl, _, _, c0, hsv⟩ := elems_list h3 hx
      obtain ⟨xa, xcap, rfl, _, _, _⟩ := rdv_slice hsv
      have HT : Hid (totalOf ls (k + 1) = totalOf ls k + x.length) := by rw [Hid, totalOf, flatten_take hx, List.length_append]; rfl
      have hle : totalOf ls k + x.length ≤ 1000000 := by
        have h1 : totalOf ls (k + 1) ≤ ls.flatten.length := flatten_take_le ls (k + 1)
        rw [HT.out] at h1
        omega
      clear hx h3 h hsv
      go_wp2_with fail
      go_round
      case rel => exact ⟨k + 1, by omega, by go_num, by rw [HT.out]; go_num⟩
      case measure => simp [intOf] <;> omega
    · obtain rfl : k = ls.length := by omega
      have hb' : totalOf ls ls.length ≤ 1000000 := Nat.le_trans (flatten_take_le ls _) hb
      go_wp2_with fail
      refine (grow_nil (totalOf ls ls.length) _ hb').mono ?_
      rintro e w1 ⟨r1, rfl, hc1, hown1⟩
      go_wp2_with fail
      go_loopw [6, 8, 27] (fun o _ i wr => ∃ k : Nat, k ≤ ls.length ∧ i = .int .i64 k ∧ Chg Never w wr ∧ Own 9 wr (Old w.heap.size) o (ls.take k).flatten) (fun _ _ i _ => ls.length - (intOf i).toNat)
      case atStart => exact ⟨0, Nat.zero_le _, rfl, hc1, hown1⟩
      case round =>
        clear hc1 hown1
        obtain ⟨k, hk, rfl, hc, hown⟩ := hrel
        by_cases hlt : k < ls.length
        · obtain ⟨x, hx⟩ : ∃ x, ls[k]? = some x := ⟨ls[k], by simp [hlt]⟩
          obtain ⟨b, off, sv, rfl, _, _, c0, hsv⟩ := elems_list h3 hx
          obtain ⟨xa, xcap, rfl, _, _, _⟩ := rdv_slice hsv
          have c0 := hc.cellNever c0
          have hsv := hsv.never hc
          have HF := Lib.hid (flatten_take hx)
          have hle : (ls.take k).flatten.length + x.length ≤ 1000000000 := by
            have := flatten_take_le ls (k + 1)
            rw [HF.out, List.length_append] at this
            omega
          clear hx h3 h
          go_wp2_with (at_builtin; refine wpList_many (by rfl) _ _ 22 (by rfl) elemOk_str (O := Old w.heap.size) (by rfl) (by rfl) hown hsv (rd_str_any _ _ _) (old_lt hc) hle ?_; intro v' w5 hown2 hc2)
          have hc3 := own_step hc hown hc2
          clear hc2 hown
          go_wp2_with fail
          go_roundw
          case rel => exact ⟨k + 1, by omega, by go_num, hc3, by rw [HF.out]; exact hown2⟩
          case measure => simp [intOf] <;> omega
        · obtain rfl : k = ls.length := by omega
          rw [List.take_length] at hown
          go_wp2_with fail
          go_ret
          exact ⟨_, rfl, hc, hown⟩
end Go.Proofs.YtpoammapjmddfaaDoor
