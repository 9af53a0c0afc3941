/-
  THE WALKS of slices.Grow of nil, slices.Concat, of files.
-/
import Derived.Test.YtpoammapjmddfaaDoorTreeD
import Derived.Test.YtpoammapjmddfaaDoorApplyB
namespace Go.Proofs.YtpoammapjmddfaaDoor
open Go.RowKit

set_option maxRecDepth 100000 in
theorem growf_nil (n : Nat) (w : World) (hn : n ≤ 1000000) :
    Calls Tryd.prog 90 #[.slice none 0 0, .int .i64 n] w fun e w' => ∃ r, e = .returned r ∧ OwnN 50 w w' r ([] : List File) := by
  rcases Nat.eq_zero_or_pos n with h0 | hpos
  · subst h0
    go_enter Tryd.func90, Tryd.ntmps90
    go_wp2_with fail
    go_ret
    exact ⟨_, rfl, ownN_nil _ (Chg.refl _ _)⟩
  · obtain ⟨i0, hi0, hz0, hs0, hb0⟩ := info_parts (show (Tryd.prog.info? 50).map (fun i => (i.zero, i.size, i.bytes)) = some (some (.agg #[.string ⟨#[]⟩, .slice none 0 0]), 2, 40) by kernel_rfl)
    have hold : (Builtin.firstCells i0.size 0 (.slice none 0 0)).run Tryd.prog w.drew = .ok ([] : List Value).toArray w.drew := run_firstCells_none w.drew i0.size 0 0 0
    have hrz : ∀ ty, (Builtin.append_ #[48, 3] ty #[.slice none 0 0, .int .i64 (n : Int)]).run Tryd.prog w = .ok (.slice (some ⟨w.heap.size, 0, none⟩) n (grownCap w n 0 50))
        (w.drew.alloc (.cells (([] : List Value).toArray ++ Builtin.zeroCells (Value.agg #[.string ⟨#[]⟩, .slice none 0 0]).cells n ++ Builtin.zeroCells (Value.agg #[.string ⟨#[]⟩, .slice none 0 0]).cells (grownCap w n 0 50 - n)) 50)) := fun ty => by
      have h := Lib.run_append_grow_zeros w 48 3 ty 50 i0 (Value.agg #[.string ⟨#[]⟩, .slice none 0 0]) .i64 .i64 Tryd.underlying48 Tryd.underlying3 hi0 hz0 none 0 0 [] hold n hpos (by omega) (by omega) (by omega) (by rw [hb0]; omega)
        (growslice_fits (by omega) (by rw [hb0]; omega))
      rw [Nat.zero_add] at h
      exact h
    have hGn : n ≤ grownCap w n 0 50 := grownCap_ge w _ _ _
    have hGm : grownCap w n 0 50 ≤ maxLen := grownCap_le_maxLen w n 0 50 (by unfold maxLen; omega)
    generalize grownCap w n 0 50 = G at hrz hGn hGm
    have hG63 : G ≤ 9223372036854775807 := by unfold maxLen at hGm; omega
    obtain ⟨cur, hcur⟩ : ∃ cur, cur = ([] : List Value).toArray ++ Builtin.zeroCells (Value.agg #[.string ⟨#[]⟩, .slice none 0 0]).cells n ++ Builtin.zeroCells (Value.agg #[.string ⟨#[]⟩, .slice none 0 0]).cells (G - n) := ⟨_, rfl⟩
    rw [← hcur] at hrz
    have hcs : cur.size = G * 2 := by rw [hcur]; simp [Builtin.zeroCells, Value.cells]; omega
    clear hcur
    have hmade : (w.drew.alloc (.cells cur 50)).ownsRow 0 50 2 (.slice (some ⟨w.heap.size, 0, none⟩) 0 G) 0 [] :=
      World.ownsRow_made w.drew _ G (Nat.zero_le _) hGm hcs
    have hcw : Chg Never w (w.drew.alloc (.cells cur 50)) := (Chg.refl Never w).drew.alloc _
    clear hcs
    have HM := Lib.hid hmade
    have HC := Lib.hid hcw
    clear hmade hcw hold hi0 hz0 hs0 hb0 hGm
    go_enter Tryd.func90, Tryd.ntmps90
    go_wp2_with (at_builtin; refine Lib.wpList_append_run _ rfl _ _ _ _ rfl _ _ rfl rfl _ _ (hrz _) ?_)
    all_goals
      go_ret
      exact ⟨.slice (some ⟨w.heap.size, 0, none⟩) 0 G, rfl, ⟨[], HM.out, fun _ _ h => h.elim, fun i x hi => by simp at hi⟩, fun k hk => by
        simp only [Value.ownBlock, Option.some.injEq] at hk
        omega, HC.out⟩

def totalF (l : List (List File)) (k : Nat) : Nat := (l.take k).flatten.length
theorem flattenF {l : List (List File)} {k : Nat} {x : List File} (hx : l[k]? = some x) : (l.take (k + 1)).flatten = (l.take k).flatten ++ x := by
  rw [List.take_add_one, hx]; simp
theorem flattenF_le (l : List (List File)) (k : Nat) : (l.take k).flatten.length ≤ l.flatten.length := by
  have h : ((l.take k) ++ (l.drop k)).flatten.length = l.flatten.length := by rw [List.take_append_drop]
  rw [List.flatten_append, List.length_append] at h
  omega
set_option maxHeartbeats 800000 in
set_option maxRecDepth 100000 in
theorem concatf_any (ls : List (List File)) (v : Value) (w : World) (h : Rdv w Never v ls) (hb : ls.flatten.length ≤ 1000000) :
    Calls Tryd.prog 64 #[v] w fun e w' => ∃ r, e = .returned r ∧ OwnN 50 w w' r ls.flatten := by
  obtain ⟨a, cap, rfl, h1, h2, h3⟩ := rdv_slice h
  unfold maxLen at h2
  go_enter Tryd.func64, Tryd.ntmps64
  go_wp2_with fail
  go_loop [3, 5, 11] (fun sz _ i => ∃ k : Nat, k ≤ ls.length ∧ i = .int .i64 k ∧ sz = .int .i64 (totalF ls k)) (fun _ _ i => ls.length - (intOf i).toNat)
  case atStart => exact ⟨0, Nat.zero_le _, rfl, rfl⟩
  case round =>
    obtain ⟨k, hk, rfl, rfl⟩ := hrel
    by_cases hlt : k < ls.length
    · obtain ⟨x, hx⟩ : ∃ x, ls[k]? = some x := ⟨ls[k], by simp [hlt]⟩
      obtain ⟨b, off, sv, rfl, _, _, c0, hsv⟩ := elems_list h3 hx
      obtain ⟨xa, xcap, rfl, _, _, _⟩ := rdv_slice hsv
      have HT : Hid (totalF ls (k + 1) = totalF ls k + x.length) := by rw [Hid, totalF, flattenF hx, List.length_append]; rfl
      have hle : totalF ls k + x.length ≤ 1000000 := by
        have h1 : totalF ls (k + 1) ≤ ls.flatten.length := flattenF_le ls (k + 1)
        rw [HT.out] at h1
        omega
      clear hx h3 h hsv
      go_wp2_with fail
      go_round
      case rel => exact ⟨k + 1, by omega, by go_num, by rw [HT.out]; go_num⟩
      case measure => simp [intOf] <;> omega
    · obtain rfl : k = ls.length := by omega
      have hb' : totalF ls ls.length ≤ 1000000 := Nat.le_trans (flattenF_le ls _) hb
      go_wp2_with fail
      refine (growf_nil (totalF ls ls.length) _ hb').mono ?_
      rintro e w1 ⟨r1, rfl, hn1⟩
      go_wp2_with fail
      go_loopw [6, 8, 27] (fun o _ i wr => ∃ k : Nat, k ≤ ls.length ∧ i = .int .i64 k ∧ OwnN 50 w wr o (ls.take k).flatten) (fun _ _ i _ => ls.length - (intOf i).toNat)
      case atStart => exact ⟨0, Nat.zero_le _, rfl, hn1⟩
      case round =>
        clear hn1
        obtain ⟨k, hk, rfl, hn⟩ := hrel
        by_cases hlt : k < ls.length
        · obtain ⟨x, hx⟩ : ∃ x, ls[k]? = some x := ⟨ls[k], by simp [hlt]⟩
          obtain ⟨b, off, sv, rfl, _, _, c0, hsv⟩ := elems_list h3 hx
          obtain ⟨xa, xcap, rfl, _, _, _⟩ := rdv_slice hsv
          have c0 := hn.chg.cellNever c0
          have HF := Lib.hid (flattenF hx)
          have hle : (ls.take k).flatten.length + x.length ≤ 1000000000 := by
            have := flattenF_le ls (k + 1)
            rw [HF.out, List.length_append] at this
            omega
          clear hx h3 h
          go_wp2_with (at_builtin; refine wpList_many2 (by rfl) _ _ 48 (by rfl) elemOk_file (O := Never) (by rfl) (by rfl) hn.own (hn.away hsv) (fun _ h => h.elim) hle ?_; intro v' w5 hown2 hc2 hk2)
          have hn2 := hn.step hown2 hc2 hk2
          clear hc2 hown2 hk2 hn
          go_wp2_with fail
          go_roundw
          case rel => exact ⟨k + 1, by omega, by go_num, by rw [HF.out]; exact hn2⟩
          case measure => simp [intOf] <;> omega
        · obtain rfl : k = ls.length := by omega
          rw [List.take_length] at hn
          go_wp2_with fail
          go_ret
          exact ⟨_, rfl, hn⟩
end Go.Proofs.YtpoammapjmddfaaDoor
