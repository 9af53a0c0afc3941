/-
  PARTS: THE WALKS OF LAYER 4: slices.Clone, hunk.Copy.; THE WALKS of tree.Copy, and of slices.Concat of files.; THE WALKS of slices.Grow of nil, slices.Concat, of files.; THE WALKS of tree.at, Get, Drop, Put.; THE WALKS of tree.Drop, Put.; THE WALK of tree.Put.; THE FAULTS OF Get, Drop, Put BY PLACES, in plain Lean.; WHAT IS PUT IS THERE, in plain Lean.; WHAT LIES BETWEEN TWO TREES, in plain Lean: file by file of two sorted lists; the document's way by all paths of both is the same.
-/
import Derived.Test.YtmjpfoeaobdaeaaGreatDoorPr7
import Derived.Test.YtmjpfoeaobdaeaaGreatDoorPr6
import Derived.Deep.RegionHeld3
import Derived.Test.YtmjpfoeaobdaeaaGreatDoorPr2
import Derived.Test.YtmjpfoeaobdaeaaGreatDoorPr4
set_option linter.unusedVariables false
set_option linter.unusedSimpArgs false
namespace Go.Proofs.YtmjpfoeaobdaeaaGreatDoor
open Go.RowKit

theorem own_made {α : Type} [Dat α] (w : World) (e : TypeId) : Own e (w.alloc (.cells #[] e)) (Old w.heap.size) (.slice (some ⟨w.heap.size, 0, none⟩) 0 0) ([] : List α) :=
  ⟨[], World.ownsRow_made w #[] 0 (Nat.zero_le _) (by unfold maxLen; omega) (by simp), fun k hk ho => by
    simp only [Value.ownBlock, Option.some.injEq] at hk
    subst hk
    unfold Old at ho
    omega, fun i x hi => by simp at hi⟩

set_option maxHeartbeats 800000 in
set_option maxRecDepth 100000 in
theorem clone_str (O : Nat → Prop) (l : List ByteArray) (v : Value) (w : World) (h : Rdv w O v l) (hl : l.length ≤ 1000000) :
    Calls Tryz.prog 101 #[v] w fun e w' => ∃ r, e = .returned r ∧ Chg Never w w' ∧ Own 9 w' (Old w.heap.size) r l := by
  obtain ⟨a, cap, rfl, h1, h2, h3⟩ := rdv_slice h
  unfold maxLen at h2
  cases a with
  | none =>
    have hn : l = [] := by
      cases l with
      | nil => rfl
      | cons x l =>
        obtain ⟨b, off, es, ha, _⟩ := h3 0 x rfl
        cases ha
    subst hn
    have he : ∀ wx, (binOp .eql 25 (.slice none 0 cap) (.slice none 0 0)).run Tryz.prog wx = .ok (.bool true) wx := fun wx => Lib.run_eql_slice_nil wx 25 9 none 0 cap 0 0 Tryz.underlying25
    go_enter Tryz.func101, Tryz.ntmps101
    go_wp2_with fail
    go_ret
    exact ⟨_, rfl, Chg.refl _ _, own_nil _ _ _⟩
  | some a =>
    have hm := own_made (α := ByteArray) w 9
    have hA : Chg Never w (w.alloc (.cells #[] 9)) := (Chg.refl Never w).alloc _
    have hr := (h.sub (O' := Never) (fun _ _ h => h.elim)).never hA
    have hO : ∀ k, Old w.heap.size k → k < (w.alloc (.cells #[] 9)).heap.size := by
      intro k hk
      unfold Old at hk
      simp
      omega
    have hle : ([] : List ByteArray).length + l.length ≤ 1000000000 := by simp; omega
    clear h3 h
    have he : ∀ wx, (binOp .eql 25 (.slice (some a) l.length cap) (.slice none 0 0)).run Tryz.prog wx = .ok (.bool false) wx := fun wx => Lib.run_eql_slice_nil wx 25 9 (some a) l.length cap 0 0 Tryz.underlying25
    go_enter Tryz.func101, Tryz.ntmps101
    go_wp2_with (at_builtin; refine wpList_many (by rfl) _ _ 25 (by rfl) elemOk_str (O := Old w.heap.size) (by rfl) (by rfl) hm hr (rd_str_any _ _ _) hO hle ?_; intro v' w5 hown2 hc2)
    have hc3 := own_step hA hm hc2
    clear hm hr hc2
    go_wp2_with fail
    go_ret
    exact ⟨_, rfl, hc3, hown2⟩
end Go.Proofs.YtmjpfoeaobdaeaaGreatDoor
namespace Go.Proofs.YtmjpfoeaobdaeaaGreatDoor
open Go.RowKit

theorem take_snoc {α : Type} {l : List α} {k : Nat} {x : α} (hx : l[k]? = some x) : l.take (k + 1) = l.take k ++ [x] := by rw [List.take_add_one, hx]; rfl
set_option maxHeartbeats 2000000 in
set_option maxRecDepth 100000 in
theorem tree_copy_any (t : List File) (v : Value) (w : World) (h : Rdv w Never v t) (hl : t.length ≤ 1000000) (hll : ∀ f ∈ t, f.lines.length ≤ 1000000) :
    Calls Tryz.prog 73 #[v] w fun e w' => ∃ r, e = .returned r ∧ Chg Never w w' ∧ Own 70 w' (Old w.heap.size) r t := by
  obtain ⟨a, cap, rfl, h1, h2, h3⟩ := rdv_slice h
  unfold maxLen at h2
  go_enter Tryz.func73, Tryz.ntmps73
  go_wp2_with fail
  go_loopw [3, 8] (fun o i wr => ∃ k : Nat, k ≤ t.length ∧ i = .int .i64 k ∧ Chg Never w wr ∧ Own 70 wr (Old w.heap.size) o (t.take k)) (fun _ i _ => t.length - (intOf i).toNat)
  case atStart => exact ⟨0, Nat.zero_le _, rfl, Chg.refl _ _, own_nil _ _ _⟩
  case round =>
    obtain ⟨k, hk, rfl, hc, hown⟩ := hrel
    by_cases hlt : k < t.length
    · obtain ⟨x, hx⟩ : ∃ x, t[k]? = some x := ⟨t[k], by simp [hlt]⟩
      obtain ⟨b, off, lv, rfl, _, _, c0, c1, hps, hlv⟩ := elems_file h3 hx
      obtain ⟨la, lcap, rfl, _, _, _⟩ := rdv_slice hlv
      have hxl := hll x (List.mem_of_getElem? hx)
      have c0 := hc.cellNever c0
      have c1 := hc.cellNever c1
      have HT := Lib.hid (take_snoc hx)
      have htl : (t.take k).length ≤ 1000000000 := Nat.le_trans (List.length_take_le _ _) (by omega)
      have hsz := hc.size
      have holt := own_block_lt hown
      have hA : Chg Never wr (wr.alloc (.cells #[.string x.path, .slice la x.lines.length lcap] 70)) := (Chg.refl Never wr).alloc _
      have hBX := Blk2.new wr 70 (.string x.path) (.slice la x.lines.length lcap)
      have hownA := hown.keep (O'' := fun j => Old w.heap.size j ∨ j = wr.heap.size) hA (fun _ _ hh => hh.elim) (by rintro j hj (hh | rfl); exact hh; exact absurd hj (Nat.lt_irrefl _))
      have hlvA := (hlv.never hc).never hA
      have hcA := hc.trans hA
      have hBlt := hBX.lt
      obtain ⟨b0, b1⟩ := hBX.cell
      clear hx h3 h hown hlv
      go_wp2_with fail
      generalize wr.alloc (.cells #[.string x.path, .slice la x.lines.length lcap] 70) = w3 at hBX hownA hlvA hcA hBlt b0 b1 hA ⊢
      generalize hBe : wr.heap.size = B at hBX hownA hBlt b0 b1 hsz holt ⊢
      clear hc hA hBe
      refine (clone_str Never x.lines _ _ hlvA hxl).mono ?_
      rintro e w4 ⟨r4, rfl, hc4, hown4⟩
      obtain ⟨ra, rn, rc, rfl⟩ := own_isSlice hown4
      have hB4 := hBX.keep hc4 (fun h => h)
      have b3 := hB4.free
      have hB5 := hB4.set1 (.slice ra rn rc)
      obtain ⟨b0, b1⟩ := hB4.cell
      obtain ⟨k0, k1⟩ := hB5.cell
      have hS : Chg (fun j => j = B) w4 (w4.setCell ⟨B, 1, none⟩ (.slice ra rn rc)) := (Chg.refl (fun j => j = B) w4).setCell (p := ⟨B, 1, none⟩) (.inr rfl) _
      have hown5 := (hownA.never hc4).keep (O'' := Old w.heap.size) hS (fun j _ hh => .inr hh) (fun j _ hh => .inl hh)
      have hr := (hown4.keep (O'' := Old w3.heap.size) hS (fun j _ hh => by subst hh; exact hBlt) (fun _ _ hh => hh)).rdv
      have hc5 := (hcA.trans hc4).setCell (p := ⟨B, 1, none⟩) (.inl hsz) (.slice ra rn rc)
      have hszw := hcA.size
      have hy : Dat.rd (w4.setCell ⟨B, 1, none⟩ (.slice ra rn rc)) (fun j => Old w.heap.size j ∨ u3.ownBlock = some j) [.string x.path, .slice ra rn rc] x := ⟨_, rfl, hps, hr.sub (fun j _ hh => by
        rcases hh with hh | hh
        · exact Nat.lt_of_lt_of_le hh hszw
        · exact Nat.lt_trans (holt j hh) hBlt)⟩
      clear hr hS hB4 hBX hown4 hc4 hownA hcA hlvA hB5
      go_wp2_with (at_builtin; refine wpList_push (by rfl) _ _ 29 (by rfl) elemOk_file (O := Old w.heap.size) (l := t.take k) (y := x) (by rfl) (by rfl) (by simp) hown5 hy (old_lt hc5) htl ?_; intro v' w6 hown6 hc6 _)
      have hc7 := own_step hc5 hown5 hc6
      clear hc6 hown5 hy
      go_wp2_with fail
      go_roundw
      case rel => exact ⟨k + 1, by omega, by go_num, hc7, by rw [HT.out]; exact hown6⟩
      case measure => simp [intOf] <;> omega
    · rw [List.take_of_length_le (by omega)] at hown
      go_wp2_with fail
      go_ret
      exact ⟨_, rfl, hc, hown⟩
end Go.Proofs.YtmjpfoeaobdaeaaGreatDoor
namespace Go.Proofs.YtmjpfoeaobdaeaaGreatDoor
open Go.RowKit

set_option maxRecDepth 100000 in
theorem growf_nil (n : Nat) (w : World) (hn : n ≤ 1000000) :
    Calls Tryz.prog 110 #[.slice none 0 0, .int .i64 n] w fun e w' => ∃ r, e = .returned r ∧ OwnN 70 w w' r ([] : List File) := by
  rcases Nat.eq_zero_or_pos n with h0 | hpos
  · subst h0
    go_enter Tryz.func110, Tryz.ntmps110
    go_wp2_with fail
    go_ret
    exact ⟨_, rfl, ownN_nil _ (Chg.refl _ _)⟩
  · obtain ⟨i0, hi0, hz0, hs0, hb0⟩ := info_parts (show (Tryz.prog.info? 70).map (fun i => (i.zero, i.size, i.bytes)) = some (some (.agg #[.string ⟨#[]⟩, .slice none 0 0]), 2, 40) by kernel_rfl)
    have hold : (Builtin.firstCells i0.size 0 (.slice none 0 0)).run Tryz.prog w.drew = .ok ([] : List Value).toArray w.drew := run_firstCells_none w.drew i0.size 0 0 0
    have hrz : ∀ ty, (Builtin.append_ #[29, 3] ty #[.slice none 0 0, .int .i64 (n : Int)]).run Tryz.prog w = .ok (.slice (some ⟨w.heap.size, 0, none⟩) n (grownCap w n 0 70))
        (w.drew.alloc (.cells (([] : List Value).toArray ++ Builtin.zeroCells (Value.agg #[.string ⟨#[]⟩, .slice none 0 0]).cells n ++ Builtin.zeroCells (Value.agg #[.string ⟨#[]⟩, .slice none 0 0]).cells (grownCap w n 0 70 - n)) 70)) := fun ty => by
      have h := Lib.run_append_grow_zeros w 29 3 ty 70 i0 (Value.agg #[.string ⟨#[]⟩, .slice none 0 0]) .i64 .i64 Tryz.underlying29 Tryz.underlying3 hi0 hz0 none 0 0 [] hold n hpos (by omega) (by omega) (by omega) (by rw [hb0]; omega)
        (growslice_fits (by omega) (by rw [hb0]; omega))
      rw [Nat.zero_add] at h
      exact h
    have hGn : n ≤ grownCap w n 0 70 := grownCap_ge w _ _ _
    have hGm : grownCap w n 0 70 ≤ maxLen := grownCap_le_maxLen w n 0 70 (by unfold maxLen; omega)
    generalize grownCap w n 0 70 = G at hrz hGn hGm
    have hG63 : G ≤ 9223372036854775807 := by unfold maxLen at hGm; omega
    obtain ⟨cur, hcur⟩ : ∃ cur, cur = ([] : List Value).toArray ++ Builtin.zeroCells (Value.agg #[.string ⟨#[]⟩, .slice none 0 0]).cells n ++ Builtin.zeroCells (Value.agg #[.string ⟨#[]⟩, .slice none 0 0]).cells (G - n) := ⟨_, rfl⟩
    rw [← hcur] at hrz
    have hcs : cur.size = G * 2 := by rw [hcur]; simp [Builtin.zeroCells, Value.cells]; omega
    clear hcur
    have hmade : (w.drew.alloc (.cells cur 70)).ownsRow 0 70 2 (.slice (some ⟨w.heap.size, 0, none⟩) 0 G) 0 [] :=
      World.ownsRow_made w.drew _ G (Nat.zero_le _) hGm hcs
    have hcw : Chg Never w (w.drew.alloc (.cells cur 70)) := (Chg.refl Never w).drew.alloc _
    clear hcs
    have HM := Lib.hid hmade
    have HC := Lib.hid hcw
    clear hmade hcw hold hi0 hz0 hs0 hb0 hGm
    go_enter Tryz.func110, Tryz.ntmps110
    go_wp2_with (at_builtin; refine Lib.wpList_append_run _ rfl _ _ _ _ rfl _ _ rfl rfl _ _ (hrz _) ?_)
    all_goals
      go_ret
      exact ⟨.slice (some ⟨w.heap.size, 0, none⟩) 0 G, rfl, ⟨[], HM.out, fun _ _ h => h.elim, fun i x hi => by simp at hi⟩, fun k hk => by
        simp only [Value.ownBlock, Option.some.injEq] at hk
        omega, HC.out⟩

def totalF (l : List (List File)) (k : Nat) : Nat := (l.take k).flatten.length
theorem flattenF {l : List (List File)} {k : Nat} {x : List File} (hx : l[k]? = some x) : (l.take (k + 1)).flatten = (l.take k).flatten ++ x := by
  rw [List.take_add_one, hx]; simp
theorem flattenF_le (l : List (List File)) (k : Nat) : (l.take k).flatten.length ≤ l.flatten.length := by
  have h : ((l.take k) ++ (l.drop k)).flatten.length = l.flatten.length := by rw [List.take_append_drop]
  rw [List.flatten_append, List.length_append] at h
  omega
set_option maxHeartbeats 800000 in
set_option maxRecDepth 100000 in
theorem concatf_any (ls : List (List File)) (v : Value) (w : World) (h : Rdv w Never v ls) (hb : ls.flatten.length ≤ 1000000) :
    Calls Tryz.prog 74 #[v] w fun e w' => ∃ r, e = .returned r ∧ OwnN 70 w w' r ls.flatten := by
  obtain ⟨a, cap, rfl, h1, h2, h3⟩ := rdv_slice h
  unfold maxLen at h2
  go_enter Tryz.func74, Tryz.ntmps74
  go_wp2_with fail
  go_loop [3, 5, 11] (fun sz _ i => ∃ k : Nat, k ≤ ls.length ∧ i = .int .i64 k ∧ sz = .int .i64 (totalF ls k)) (fun _ _ i => ls.length - (intOf i).toNat)
  case atStart => exact ⟨0, Nat.zero_le _, rfl, rfl⟩
  case round =>
    obtain ⟨k, hk, rfl, rfl⟩ := hrel
    by_cases hlt : k < ls.length
    · obtain ⟨x, hx⟩ : ∃ x, ls[k]? = some x := ⟨ls[k], by simp [hlt]⟩
      obtain ⟨b, off, sv, rfl, _, _, c0, hsv⟩ := elems_list h3 hx
      obtain ⟨xa, xcap, rfl, _, _, _⟩ := rdv_slice hsv
      have HT : Hid (totalF ls (k + 1) = totalF ls k + x.length) := by rw [Hid, totalF, flattenF hx, List.length_append]; rfl
      have hle : totalF ls k + x.length ≤ 1000000 := by
        have h1 : totalF ls (k + 1) ≤ ls.flatten.length := flattenF_le ls (k + 1)
        rw [HT.out] at h1
        omega
      clear hx h3 h hsv
      go_wp2_with fail
      go_round
      case rel => exact ⟨k + 1, by omega, by go_num, by rw [HT.out]; go_num⟩
      case measure => simp [intOf] <;> omega
    · obtain rfl : k = ls.length := by omega
      have hb' : totalF ls ls.length ≤ 1000000 := Nat.le_trans (flattenF_le ls _) hb
      go_wp2_with fail
      refine (growf_nil (totalF ls ls.length) _ hb').mono ?_
      rintro e w1 ⟨r1, rfl, hn1⟩
      go_wp2_with fail
      go_loopw [6, 8, 27] (fun o _ i wr => ∃ k : Nat, k ≤ ls.length ∧ i = .int .i64 k ∧ OwnN 70 w wr o (ls.take k).flatten) (fun _ _ i _ => ls.length - (intOf i).toNat)
      case atStart => exact ⟨0, Nat.zero_le _, rfl, hn1⟩
      case round =>
        clear hn1
        obtain ⟨k, hk, rfl, hn⟩ := hrel
        by_cases hlt : k < ls.length
        · obtain ⟨x, hx⟩ : ∃ x, ls[k]? = some x := ⟨ls[k], by simp [hlt]⟩
          obtain ⟨b, off, sv, rfl, _, _, c0, hsv⟩ := elems_list h3 hx
          obtain ⟨xa, xcap, rfl, _, _, _⟩ := rdv_slice hsv
          have c0 := hn.chg.cellNever c0
          have HF := Lib.hid (flattenF hx)
          have hle : (ls.take k).flatten.length + x.length ≤ 1000000000 := by
            have := flattenF_le ls (k + 1)
            rw [HF.out, List.length_append] at this
            omega
          clear hx h3 h
          go_wp2_with (at_builtin; refine wpList_many2 (by rfl) _ _ 29 (by rfl) elemOk_file (O := Never) (by rfl) (by rfl) hn.own (hn.away hsv) (fun _ h => h.elim) hle ?_; intro v' w5 hown2 hc2 hk2)
          have hn2 := hn.step hown2 hc2 hk2
          clear hc2 hown2 hk2 hn
          go_wp2_with fail
          go_roundw
          case rel => exact ⟨k + 1, by omega, by go_num, by rw [HF.out]; exact hn2⟩
          case measure => simp [intOf] <;> omega
        · obtain rfl : k = ls.length := by omega
          rw [List.take_length] at hn
          go_wp2_with fail
          go_ret
          exact ⟨_, rfl, hn⟩
end Go.Proofs.YtmjpfoeaobdaeaaGreatDoor
namespace Go.Proofs.YtmjpfoeaobdaeaaGreatDoor
open Go.RowKit

def atFault (t : List File) (p : ByteArray) : Int := if (treeFault t).2 = 0 then pathFault p else (treeFault t).2
def atPos (t : List File) (p : ByteArray) : Int := if atFault t p = 0 then (posOf t p : Int) else 0
def atIs (t : List File) (p : ByteArray) : Bool := if atFault t p = 0 then isAt t p else false
def getFault (t : List File) (p : ByteArray) : Int := if atFault t p = 0 then (if isAt t p = true then 0 else 4) else atFault t p
def linesAt (t : List File) (p : ByteArray) : List ByteArray := ((t[posOf t p]?).map (·.lines)).getD []
def getR (t : List File) (p : ByteArray) : List ByteArray := if getFault t p = 0 then linesAt t p else []
def dropR (t : List File) (p : ByteArray) : List File := if getFault t p = 0 then dropAt t (posOf t p) else []
def putFault (t : List File) (f : File) : Int :=
  if atFault t f.path = 0 then (if linesFault f.lines = 0 then (if isAt t f.path = false ∧ t.length = 8 then 3 else 0) else linesFault f.lines) else atFault t f.path
def putR (t : List File) (f : File) : List File := if putFault t f = 0 then putAt t f else []
theorem isAt_get {t : List File} {p : ByteArray} (h : isAt t p = true) : ∃ x, t[posOf t p]? = some x ∧ x.path = p := by
  unfold isAt at h
  cases hx : t[posOf t p]? with
  | none => rw [hx] at h; cases h
  | some x =>
    rw [hx] at h
    simp only [Option.any_some, decide_eq_true_eq] at h
    exact ⟨x, rfl, h⟩

set_option maxHeartbeats 1000000 in
set_option maxRecDepth 100000 in
theorem tree_at_any (t : List File) (p : ByteArray) (v : Value) (w : World) (h : Rdv w Never v t) (m : Int) (hm : w.cell? ⟨0, 0, none⟩ = some (.int .i64 m)) :
    Calls Tryz.prog 71 #[v, .string p] w fun e w' => e = .returned (.tuple #[.int .i64 (atPos t p), .bool (atIs t p), errV (atFault t p)]) ∧ Chg Never w w' := by
  by_cases z : (treeFault t).2 = 0
  · have Z := Lib.hid z
    obtain ⟨hl8, _, hs, _⟩ := treeFault_zero z
    have HS := Lib.hid hs
    by_cases zp : pathFault p = 0
    · have HA : Hid (atFault t p = 0) := by unfold Hid atFault; rw [if_pos z, zp]
      have ZP := Lib.hid zp
      clear z zp hs
      go_enter Tryz.func71, Tryz.ntmps71
      go_wp2_with fail
      refine (tree_check_any t _ _ h m hm).mono ?_
      rintro e w1 ⟨rfl, hw⟩
      rw [Z.out, errV_zero]
      go_wp2_with fail
      refine (line_path_any p _ m (hw.cellNever hm)).mono ?_
      rintro e w2 ⟨rfl, hc2⟩
      have hw := hw.trans hc2
      clear hc2
      rw [ZP.out, errV_zero]
      go_wp2_with fail
      refine (treefind_any t p _ _ (h.never hw) HS.out (by omega)).mono ?_
      rintro e w3 ⟨rfl, hc3⟩
      have hw := hw.trans hc3
      clear hc3
      go_wp2_with fail
      go_ret3
      exact ⟨by rw [show atPos t p = posOf t p from if_pos HA.out, show atIs t p = isAt t p from if_pos HA.out, HA.out]; rfl, hw⟩
    · have HA : Hid (atFault t p = pathFault p) := if_pos z
      have ZP := Lib.hid zp
      clear z hs
      go_enter Tryz.func71, Tryz.ntmps71
      go_wp2_with fail
      refine (tree_check_any t _ _ h m hm).mono ?_
      rintro e w1 ⟨rfl, hw⟩
      rw [Z.out, errV_zero]
      go_wp2_with fail
      refine (line_path_any p _ m (hw.cellNever hm)).mono ?_
      rintro e w2 ⟨rfl, hc2⟩
      have hw := hw.trans hc2
      clear hc2
      rw [errV_pos zp]
      clear zp
      go_wp2_with fail
      go_ret3
      exact ⟨by rw [show atPos t p = 0 from if_neg (by rw [HA.out]; exact ZP.out), show atIs t p = false from if_neg (by rw [HA.out]; exact ZP.out), HA.out, errV_pos ZP.out]; rfl, hw⟩
  · have HA : Hid (atFault t p = (treeFault t).2) := if_neg z
    have Z := Lib.hid z
    go_enter Tryz.func71, Tryz.ntmps71
    go_wp2_with fail
    refine (tree_check_any t _ _ h m hm).mono ?_
    rintro e w1 ⟨rfl, hw⟩
    rw [errV_pos z]
    clear z
    go_wp2_with fail
    go_ret3
    exact ⟨by rw [show atPos t p = 0 from if_neg (by rw [HA.out]; exact Z.out), show atIs t p = false from if_neg (by rw [HA.out]; exact Z.out), HA.out, errV_pos Z.out]; rfl, hw⟩

end Go.Proofs.YtmjpfoeaobdaeaaGreatDoor
namespace Go.Proofs.YtmjpfoeaobdaeaaGreatDoor
open Go.RowKit

theorem atFault_zero {t : List File} {p : ByteArray} (h : atFault t p = 0) : (treeFault t).2 = 0 ∧ pathFault p = 0 := by
  unfold atFault at h
  by_cases e : (treeFault t).2 = 0
  · rw [if_pos e] at h; exact ⟨e, h⟩
  · rw [if_neg e] at h; exact absurd h e
theorem tree_lines {t : List File} (h : (treeFault t).2 = 0) : ∀ f ∈ t, f.lines.length ≤ 60 := fun f hf => linesFault_len (fileFault_zero ((treeFault_zero h).2.1 f hf)).2
set_option maxHeartbeats 2000000 in
set_option maxRecDepth 100000 in
theorem tree_drop_any (t : List File) (p : ByteArray) (v : Value) (w : World) (h : Rdv w Never v t) (m : Int) (hm : w.cell? ⟨0, 0, none⟩ = some (.int .i64 m)) :
    Calls Tryz.prog 40 #[v, .string p] w fun e w' => ∃ r, e = .returned (.tuple #[r, errV (getFault t p)]) ∧ Chg Never w w' ∧ Rdv w' (Old w.heap.size) r (dropR t p) := by
  obtain ⟨a, cap, rfl, h1, h2, _⟩ := rdv_slice h
  unfold maxLen at h2
  by_cases z : atFault t p = 0
  · have Z := Lib.hid z
    by_cases zi : isAt t p = true
    · have ZI := Lib.hid zi
      have HF : Hid (getFault t p = 0) := by unfold Hid getFault; rw [if_pos z, if_pos zi]
      have HR : Hid (dropR t p = dropAt t (posOf t p)) := if_pos HF.out
      obtain ⟨x, hx, _⟩ := isAt_get zi
      have hlt := (List.getElem?_eq_some_iff.1 hx).1
      have hz8 := (atFault_zero z).1
      have HTL := Lib.hid (tree_lines hz8)
      have hl8 := (treeFault_zero hz8).1
      clear z zi hx hz8
      go_enter Tryz.func40, Tryz.ntmps40
      go_wp2_with fail
      refine (tree_at_any t p _ _ h m hm).mono ?_
      rintro e w1 ⟨rfl, hw⟩
      rw [show atPos t p = posOf t p from if_pos Z.out, show atIs t p = isAt t p from if_pos Z.out, Z.out, ZI.out, errV_zero]
      generalize posOf t p = k at hlt HR ⊢
      obtain ⟨sb1, y0, y1, hrunH, hsub1⟩ := slice_gen (P := Tryz.prog) (t := 29) (by kernel_rfl) size_file h 0 k (Nat.zero_le _) (by omega)
      have hrunH := fun (wx : World) => hrunH k wx rfl rfl
      clear y0 y1
      rw [Nat.sub_zero, Nat.sub_zero] at hrunH hsub1
      rw [List.drop_zero] at hsub1
      obtain ⟨sb2, y0, hrunL, y1, hsub2⟩ := slice_gen (P := Tryz.prog) (t := 29) (by kernel_rfl) size_file h (k + 1) t.length (by omega) (Nat.le_refl _)
      have hrunL := fun (wx : World) => hrunL ((k : Int) + 1) wx (by push_cast; rfl) rfl
      clear y0 y1
      rw [List.take_of_length_le (by rw [List.length_drop]; omega)] at hsub2
      have e1 : (t.take k).length = k := by rw [List.length_take]; omega
      have e2 : (t.drop (k + 1)).length = t.length - (k + 1) := List.length_drop
      have E1 := Lib.hid e1
      have E2 := Lib.hid e2
      have zw : IntKind.i64.wrap ((k : Int) + 1) = (k : Int) + 1 := IntWalk.i64_in _ (by omega)
      clear e1 e2
      go_wp2_with fail
      refine wp_region_held_drew (S := fun w' => Chg Never w w') (by kernel_rfl) hw.drew (fun hH => ?_)
      refine' tk 0 ?_
      refine' tk 1 ?_
      refine' tk 2 ?_
      refine' tk 3 ?_
      refine' tk 4 ?_
      refine' tk 5 ?_
      refine' tk 6 ?_
      refine wpAnyH_ready (rs := [7]) (by kernel_rfl) (by simp) ?_
      refine AllReadyH.cons rfl (fun K hK => ?_) AllReadyH.nil
      go_simp
      refine hK.out _ _ (hH.alloc _) (fun hHn => ?_)
      clear hK K hH
      have hH := hHn
      clear hHn
      try simp only [Act.put, List.setIfInBounds_toArray, List.set_cons_zero, List.set_cons_succ]
      have HFL : Hid ([t.take k, t.drop (k + 1)].flatten = dropAt t k) := by unfold Hid dropAt; simp
      have hbl : [t.take k, t.drop (k + 1)].flatten.length ≤ 1000000 := by rw [HFL.out]; unfold dropAt; rw [List.length_append, E1.out, E2.out]; omega
      have hda : (dropAt t k).length ≤ 1000000 := by rw [← HFL.out]; exact hbl
      have hdl : ∀ f ∈ dropAt t k, f.lines.length ≤ 1000000 := fun f hf => by
        have hm : f ∈ t := by
          unfold dropAt at hf
          rcases List.mem_append.1 hf with hf | hf
          · exact List.mem_of_mem_take hf
          · exact List.mem_of_mem_drop hf
        have := HTL.out f hm
        omega
      have HDL := Lib.hid hdl
      clear hdl
      refine wpAnyH_ready (rs := [8]) (by kernel_rfl) (by simp) ?_
      refine AllReadyH.cons rfl (fun K hK => ?_) AllReadyH.nil
      go_simp
      (go_at_call 74; refine (concatf_any [t.take k, t.drop (k + 1)] _ _ (rdv_lit (cs := [.slice sb1 k cap, .slice sb2 (t.length - (k + 1)) (cap - (k + 1))]) (by exact heap_alloc_new w1 _) rfl (by simp) ⟨(hsub1.never hH), (hsub2.never hH), trivial⟩) hbl).mono ?_; rintro e wq ⟨rq, rfl, hnq⟩; rw [HFL.out] at hnq; have hrq := hnq.own.rdv.sub (O' := Never) (fun _ _ h => h.elim); obtain ⟨qa, qn, qc, rfl⟩ := own_isSlice hnq.own; have hS2 := hH.trans hnq.chg; clear hH hnq)
      try go_wp2_with fail
      refine hK.out _ _ ?_ (fun hH => ?_)
      · assumption
      clear hK K
      try simp only [Act.put, List.setIfInBounds_toArray, List.set_cons_zero, List.set_cons_succ]
      refine wpAnyH_ready (rs := [9]) (by kernel_rfl) (by simp) ?_
      refine AllReadyH.cons rfl (fun K hK => ?_) AllReadyH.nil
      go_simp
      (go_at_call 73; refine (tree_copy_any (dropAt t k) _ _ hrq hda HDL.out).mono ?_; rintro e wq2 ⟨rq2, rfl, hcq2, hown2⟩; have hsz2 := hH.size; have hr2 := hown2.rdv.sub (O' := Old w.heap.size) (fun j _ hj => Nat.lt_of_lt_of_le hj hsz2); obtain ⟨ra, rn, rc, rfl⟩ := own_isSlice hown2; have hS3 := hH.trans hcq2; clear hH hcq2 hown2)
      try go_wp2_with fail
      refine hK.out _ _ ?_ (fun hH => ?_)
      · assumption
      clear hK K
      try simp only [Act.put, List.setIfInBounds_toArray, List.set_cons_zero, List.set_cons_succ]
      refine' tk 10 ?_
      refine' tk 11 ?_
      refine wpAnyH_done (by kernel_rfl) ?_ _
      go_wp2_with fail
      go_ret2
      exact ⟨_, by rw [HF.out]; rfl, hH, by rw [HR.out]; exact hr2⟩
    · have ZI : Hid (isAt t p = false) := Bool.eq_false_iff.2 zi
      have HF : Hid (getFault t p = 4) := by unfold Hid getFault; rw [if_pos z, if_neg zi]
      have HR : Hid (dropR t p = []) := if_neg (by rw [HF.out]; decide)
      clear z zi
      go_enter Tryz.func40, Tryz.ntmps40
      go_wp2_with fail
      refine (tree_at_any t p _ _ h m hm).mono ?_
      rintro e w1 ⟨rfl, hw⟩
      rw [show atPos t p = posOf t p from if_pos Z.out, show atIs t p = isAt t p from if_pos Z.out, Z.out, ZI.out, errV_zero]
      go_wp2_with fail
      go_ret2
      exact ⟨_, by rw [HF.out]; rfl, hw, by rw [HR.out]; exact rdv_nil _ _⟩
  · have Z := Lib.hid z
    have HF : Hid (getFault t p = atFault t p) := if_neg z
    have HR : Hid (dropR t p = []) := if_neg (by rw [HF.out]; exact z)
    go_enter Tryz.func40, Tryz.ntmps40
    go_wp2_with fail
    refine (tree_at_any t p _ _ h m hm).mono ?_
    rintro e w1 ⟨rfl, hw⟩
    rw [show atPos t p = 0 from if_neg Z.out, show atIs t p = false from if_neg Z.out, errV_pos Z.out]
    clear z
    go_wp2_with fail
    go_ret2
    exact ⟨_, by rw [HF.out, errV_pos Z.out]; rfl, hw, by rw [HR.out]; exact rdv_nil _ _⟩
end Go.Proofs.YtmjpfoeaobdaeaaGreatDoor
namespace Go.Proofs.YtmjpfoeaobdaeaaGreatDoor
open Go.RowKit

theorem cells2_keepT {w0 w w' : World} {p q : Addr} {x y : Value} (h : Chg Never w0 w ∧ w.cell? p = some x ∧ w.cell? q = some y) (hc : Chg Never w w') : Chg Never w0 w' ∧ w'.cell? p = some x ∧ w'.cell? q = some y :=
  ⟨h.1.trans hc, hc.cellNever h.2.1, hc.cellNever h.2.2⟩
set_option maxHeartbeats 4000000 in
set_option maxRecDepth 100000 in
theorem put_is (t : List File) (f : File) (v fv : Value) (w : World) (h : Rdv w Never v t) (hf : Rdv w Never fv f.lines) (hp : f.path.size ≤ maxLen) (m : Int) (hm : w.cell? ⟨0, 0, none⟩ = some (.int .i64 m)) (z : atFault t f.path = 0) (zl : linesFault f.lines = 0) (zi : isAt t f.path = true) :
    Calls Tryz.prog 39 #[v, .agg #[.string f.path, fv]] w fun e w' => ∃ r, e = .returned (.tuple #[r, errV (putFault t f)]) ∧ Chg Never w w' ∧ Rdv w' (Old w.heap.size) r (putR t f) := by
  obtain ⟨a, cap, rfl, h1, h2, _⟩ := rdv_slice h
  obtain ⟨fa, fcap, rfl, _, _, _⟩ := rdv_slice hf
  unfold maxLen at h2
  have hA : Chg Never w (w.alloc (.cells #[.string f.path, .slice fa f.lines.length fcap] 70)) := (Chg.refl Never w).alloc _
  have b0 : (w.alloc (.cells #[.string f.path, .slice fa f.lines.length fcap] 70)).cell? ⟨w.heap.size, 0, none⟩ = some (.string f.path) := by simp only [World.cell?]; rw [heap_alloc_new]; rfl
  have b1 : (w.alloc (.cells #[.string f.path, .slice fa f.lines.length fcap] 70)).cell? ⟨w.heap.size, 1, none⟩ = some (.slice fa f.lines.length fcap) := by simp only [World.cell?]; rw [heap_alloc_new]; rfl
  have Z := Lib.hid z
  have hz8 := (atFault_zero z).1
  have hl8 := (treeFault_zero hz8).1
  have HTL := Lib.hid (tree_lines hz8)
  have ZL := Lib.hid zl
  have hfl := linesFault_len zl
  have hpos := posOf_le t f.path
  clear hz8
  have ZI := Lib.hid zi
  have HF : Hid (putFault t f = 0) := by unfold Hid putFault; rw [if_pos z, if_pos zl, if_neg (by rw [zi]; simp)]
  have HR : Hid (putR t f = t.take (posOf t f.path) ++ f :: t.drop (posOf t f.path + 1)) := by unfold Hid putR; rw [if_pos HF.out]; unfold putAt; rw [if_pos zi]
  obtain ⟨x, hx, _⟩ := isAt_get zi
  have hlt := (List.getElem?_eq_some_iff.1 hx).1
  clear z zi zl hx
  go_enter Tryz.func39, Tryz.ntmps39
  go_wp2_with fail
  generalize w.alloc (.cells #[.string f.path, .slice fa f.lines.length fcap] 70) = wA at hA b0 b1 ⊢
  generalize hBe : w.heap.size = B at b0 b1 ⊢
  refine (tree_at_any t f.path _ _ (h.never hA) m (hA.cellNever hm)).mono ?_
  rintro e w2 ⟨rfl, hc2⟩
  have b0 := hc2.cellNever b0
  have b1 := hc2.cellNever b1
  have hw := hA.trans hc2
  clear hA hc2
  rw [show atPos t f.path = posOf t f.path from if_pos Z.out, show atIs t f.path = isAt t f.path from if_pos Z.out, Z.out, ZI.out, errV_zero]
  generalize posOf t f.path = k at hlt HR hpos ⊢
  obtain ⟨sb1, y0, y1, hrunH, hsub1⟩ := slice_gen (P := Tryz.prog) (t := 29) (by kernel_rfl) size_file h 0 k (Nat.zero_le _) (by omega)
  have hrunH := fun (wx : World) => hrunH k wx rfl rfl
  clear y0 y1
  rw [Nat.sub_zero, Nat.sub_zero] at hrunH hsub1
  rw [List.drop_zero] at hsub1
  obtain ⟨sb2, y0, hrunL, y1, hsub2⟩ := slice_gen (P := Tryz.prog) (t := 29) (by kernel_rfl) size_file h k t.length (by omega) (Nat.le_refl _)
  have hrunL := fun (wx : World) => hrunL k wx rfl rfl
  clear y0 y1
  rw [List.take_of_length_le (by rw [List.length_drop]; omega)] at hsub2
  obtain ⟨sb3, y0, hrunM, y1, hsub3⟩ := slice_gen (P := Tryz.prog) (t := 29) (by kernel_rfl) size_file h (k + 1) t.length (by omega) (Nat.le_refl _)
  have hrunM := fun (wx : World) => hrunM ((k : Int) + 1) wx (by push_cast; rfl) rfl
  clear y0 y1
  rw [List.take_of_length_le (by rw [List.length_drop]; omega)] at hsub3
  have E1 : Hid ((t.take k).length = k) := by rw [Hid, List.length_take]; omega
  have HFL : Hid ([t.take k, [f], t.drop (k + 1)].flatten = t.take k ++ f :: t.drop (k + 1)) := by unfold Hid; simp
  have hrl : (t.drop (k + 1)).length ≤ 8 := by rw [List.length_drop]; omega
  have hbl : [t.take k, [f], t.drop (k + 1)].flatten.length ≤ 1000000 := by rw [HFL.out, List.length_append, List.length_cons, E1.out]; omega
  have hda : (t.take k ++ f :: t.drop (k + 1)).length ≤ 1000000 := by rw [← HFL.out]; exact hbl
  have HDL : Hid (∀ x ∈ t.take k ++ f :: t.drop (k + 1), x.lines.length ≤ 1000000) := fun x hx => by
    rcases List.mem_append.1 hx with hx | hx
    · have := HTL.out x (List.mem_of_mem_take hx); omega
    · rcases List.mem_cons.1 hx with rfl | hx
      · omega
      · have := HTL.out x (List.mem_of_mem_drop hx); omega
  go_wp2_with fail
  refine (check_any f.lines _ _ (hf.never hw)).mono ?_
  rintro e w3 ⟨rfl, hw3⟩
  have hfr : Rdv (w2.alloc (.cells #[.string f.path, .slice fa f.lines.length fcap] 70)) Never (.slice (some ⟨w2.heap.size, 0, none⟩) 1 1) [f] := rdv_lit (cs := [.string f.path, .slice fa f.lines.length fcap]) (heap_alloc_new w2 _) rfl (by simp) ⟨⟨_, rfl, hp, hf.never (hw.alloc _)⟩, trivial⟩
  rw [ZL.out, errV_zero, ← hw3]
  clear hw3
  go_wp2_with fail
  refine wp_region_held_drew (S := fun w' => Chg Never w w' ∧ w'.cell? ⟨B, 0, none⟩ = some (.string f.path) ∧ w'.cell? ⟨B, 1, none⟩ = some (.slice fa f.lines.length fcap)) (by kernel_rfl) ⟨hw.drew, b0, b1⟩ (fun hH => ?_)
  refine' tk 0 ?_
  refine' tk 1 ?_
  refine' tk 2 ?_
  refine' tk 3 ?_
  refine' tk 5 ?_
  refine wpAnyH_ready (rs := [4]) (by kernel_rfl) (by simp) ?_
  refine AllReadyH.cons rfl (fun K hK => ?_) AllReadyH.nil
  go_simp
  refine hK.out _ _ ⟨hH.1.alloc _, ((Chg.refl Never _).alloc _).cellNever hH.2.1, ((Chg.refl Never _).alloc _).cellNever hH.2.2⟩ (fun hHn => ?_)
  clear hK K
  try simp only [Act.put, List.setIfInBounds_toArray, List.set_cons_zero, List.set_cons_succ]
  clear hH
  have hH := hHn
  clear hHn
  refine wpAnyH_ready (rs := [6]) (by kernel_rfl) (by simp) ?_
  refine AllReadyH.cons rfl (fun K hK => ?_) AllReadyH.nil
  go_simp
  refine hK.out _ _ ⟨hH.1.alloc _, ((Chg.refl Never _).alloc _).cellNever hH.2.1, ((Chg.refl Never _).alloc _).cellNever hH.2.2⟩ (fun hHn => ?_)
  clear hK K
  try simp only [Act.put, List.setIfInBounds_toArray, List.set_cons_zero, List.set_cons_succ]
  clear hH
  have hH := hHn
  clear hHn
  refine wpAnyH_ready (rs := [7]) (by kernel_rfl) (by simp) ?_
  refine AllReadyH.cons rfl (fun K hK => ?_) AllReadyH.nil
  go_simp
  (go_at_call 74; refine (concatf_any [t.take k, [f], t.drop (k + 1)] _ _ (rdv_lit (cs := [.slice sb1 k cap, .slice (some ⟨w2.heap.size, 0, none⟩) 1 1, .slice sb3 (t.length - (k + 1)) (cap - (k + 1))]) (by have e := heap_alloc_new (w2.alloc (.cells #[.string f.path, .slice fa f.lines.length fcap] 70)) (.cells #[.slice sb1 k cap, .slice (some ⟨w2.heap.size, 0, none⟩) 1 1, .slice sb3 (t.length - (k + 1)) (cap - (k + 1))] 29); rw [World.size_alloc] at e; exact e) rfl (by simp) ⟨(hsub1.never hH.1), (hfr.never ((Chg.refl Never _).alloc _).drew), (hsub3.never hH.1), trivial⟩) hbl).mono ?_; rintro e wq ⟨rq, rfl, hnq⟩; rw [HFL.out] at hnq; have hrq := hnq.own.rdv.sub (O' := Never) (fun _ _ h => h.elim); obtain ⟨qa, qn, qc, rfl⟩ := own_isSlice hnq.own; have hS2 := cells2_keepT hH hnq.chg; clear hH hnq)
  try go_wp2_with fail
  refine hK.out _ _ ?_ (fun hH => ?_)
  · assumption
  clear hK K
  try simp only [Act.put, List.setIfInBounds_toArray, List.set_cons_zero, List.set_cons_succ]
  refine wpAnyH_ready (rs := [8]) (by kernel_rfl) (by simp) ?_
  refine AllReadyH.cons rfl (fun K hK => ?_) AllReadyH.nil
  go_simp
  (go_at_call 73; refine (tree_copy_any (t.take k ++ f :: t.drop (k + 1)) _ _ hrq hda HDL.out).mono ?_; rintro e wq2 ⟨rq2, rfl, hcq2, hown2⟩; have hsz2 := hH.1.size; have hr2 := hown2.rdv.sub (O' := Old w.heap.size) (fun j _ hj => Nat.lt_of_lt_of_le hj hsz2); obtain ⟨ra, rn, rc, rfl⟩ := own_isSlice hown2; have hS3 := cells2_keepT hH hcq2; clear hH hcq2 hown2)
  try go_wp2_with fail
  refine hK.out _ _ ?_ (fun hH => ?_)
  · assumption
  clear hK K
  try simp only [Act.put, List.setIfInBounds_toArray, List.set_cons_zero, List.set_cons_succ]
  refine' tk 9 ?_
  refine' tk 10 ?_
  refine wpAnyH_done (by kernel_rfl) ?_ _
  go_wp2_with fail
  go_ret2
  exact ⟨_, by rw [HF.out]; rfl, hH.1, by rw [HR.out]; exact hr2⟩
set_option maxHeartbeats 4000000 in
set_option maxRecDepth 100000 in
theorem put_new (t : List File) (f : File) (v fv : Value) (w : World) (h : Rdv w Never v t) (hf : Rdv w Never fv f.lines) (hp : f.path.size ≤ maxLen) (m : Int) (hm : w.cell? ⟨0, 0, none⟩ = some (.int .i64 m)) (z : atFault t f.path = 0) (zl : linesFault f.lines = 0) (zi : isAt t f.path = false) :
    Calls Tryz.prog 39 #[v, .agg #[.string f.path, fv]] w fun e w' => ∃ r, e = .returned (.tuple #[r, errV (putFault t f)]) ∧ Chg Never w w' ∧ Rdv w' (Old w.heap.size) r (putR t f) := by
  obtain ⟨a, cap, rfl, h1, h2, _⟩ := rdv_slice h
  obtain ⟨fa, fcap, rfl, _, _, _⟩ := rdv_slice hf
  unfold maxLen at h2
  have hA : Chg Never w (w.alloc (.cells #[.string f.path, .slice fa f.lines.length fcap] 70)) := (Chg.refl Never w).alloc _
  have b0 : (w.alloc (.cells #[.string f.path, .slice fa f.lines.length fcap] 70)).cell? ⟨w.heap.size, 0, none⟩ = some (.string f.path) := by simp only [World.cell?]; rw [heap_alloc_new]; rfl
  have b1 : (w.alloc (.cells #[.string f.path, .slice fa f.lines.length fcap] 70)).cell? ⟨w.heap.size, 1, none⟩ = some (.slice fa f.lines.length fcap) := by simp only [World.cell?]; rw [heap_alloc_new]; rfl
  have Z := Lib.hid z
  have hz8 := (atFault_zero z).1
  have hl8 := (treeFault_zero hz8).1
  have HTL := Lib.hid (tree_lines hz8)
  have ZL := Lib.hid zl
  have hfl := linesFault_len zl
  have hpos := posOf_le t f.path
  clear hz8
  have ZI := Lib.hid zi
  by_cases h8 : t.length = 8
  · have HF : Hid (putFault t f = 3) := by unfold Hid putFault; rw [if_pos z, if_pos zl, if_pos ⟨zi, h8⟩]
    have HR : Hid (putR t f = []) := if_neg (by rw [HF.out]; decide)
    have t8 : ((t.length : Int) == 8) = true := by rw [h8]; rfl
    clear z zi zl h8
    go_enter Tryz.func39, Tryz.ntmps39
    go_wp2_with fail
    generalize w.alloc (.cells #[.string f.path, .slice fa f.lines.length fcap] 70) = wA at hA b0 b1 ⊢
    generalize hBe : w.heap.size = B at b0 b1 ⊢
    refine (tree_at_any t f.path _ _ (h.never hA) m (hA.cellNever hm)).mono ?_
    rintro e w2 ⟨rfl, hc2⟩
    have b0 := hc2.cellNever b0
    have b1 := hc2.cellNever b1
    have hw := hA.trans hc2
    clear hA hc2
    rw [show atPos t f.path = posOf t f.path from if_pos Z.out, show atIs t f.path = isAt t f.path from if_pos Z.out, Z.out, ZI.out, errV_zero]
    generalize posOf t f.path = k at HR hpos ⊢
    obtain ⟨sb1, y0, y1, hrunH, hsub1⟩ := slice_gen (P := Tryz.prog) (t := 29) (by kernel_rfl) size_file h 0 k (Nat.zero_le _) (by omega)
    have hrunH := fun (wx : World) => hrunH k wx rfl rfl
    clear y0 y1
    rw [Nat.sub_zero, Nat.sub_zero] at hrunH hsub1
    rw [List.drop_zero] at hsub1
    obtain ⟨sb2, y0, hrunL, y1, hsub2⟩ := slice_gen (P := Tryz.prog) (t := 29) (by kernel_rfl) size_file h k t.length (by omega) (Nat.le_refl _)
    have hrunL := fun (wx : World) => hrunL k wx rfl rfl
    clear y0 y1
    rw [List.take_of_length_le (by rw [List.length_drop]; omega)] at hsub2
    go_wp2_with fail
    refine (check_any f.lines _ _ (hf.never hw)).mono ?_
    rintro e w3 ⟨rfl, rfl⟩
    rw [ZL.out, errV_zero]
    go_wp2_with fail
    go_ret2
    exact ⟨_, by rw [HF.out]; rfl, hw, by rw [HR.out]; exact rdv_nil _ _⟩
  · have HF : Hid (putFault t f = 0) := by unfold Hid putFault; rw [if_pos z, if_pos zl, if_neg (fun hh => h8 hh.2)]
    have HR : Hid (putR t f = t.take (posOf t f.path) ++ f :: t.drop (posOf t f.path)) := by unfold Hid putR; rw [if_pos HF.out]; unfold putAt; rw [if_neg (by rw [zi]; decide)]
    have t8 : ((t.length : Int) == 8) = false := by simp; omega
    clear z zi zl h8
    go_enter Tryz.func39, Tryz.ntmps39
    go_wp2_with fail
    generalize w.alloc (.cells #[.string f.path, .slice fa f.lines.length fcap] 70) = wA at hA b0 b1 ⊢
    generalize hBe : w.heap.size = B at b0 b1 ⊢
    refine (tree_at_any t f.path _ _ (h.never hA) m (hA.cellNever hm)).mono ?_
    rintro e w2 ⟨rfl, hc2⟩
    have b0 := hc2.cellNever b0
    have b1 := hc2.cellNever b1
    have hw := hA.trans hc2
    clear hA hc2
    rw [show atPos t f.path = posOf t f.path from if_pos Z.out, show atIs t f.path = isAt t f.path from if_pos Z.out, Z.out, ZI.out, errV_zero]
    generalize posOf t f.path = k at HR hpos ⊢
    obtain ⟨sb1, y0, y1, hrunH, hsub1⟩ := slice_gen (P := Tryz.prog) (t := 29) (by kernel_rfl) size_file h 0 k (Nat.zero_le _) (by omega)
    have hrunH := fun (wx : World) => hrunH k wx rfl rfl
    clear y0 y1
    rw [Nat.sub_zero, Nat.sub_zero] at hrunH hsub1
    rw [List.drop_zero] at hsub1
    obtain ⟨sb2, y0, hrunL, y1, hsub2⟩ := slice_gen (P := Tryz.prog) (t := 29) (by kernel_rfl) size_file h k t.length (by omega) (Nat.le_refl _)
    have hrunL := fun (wx : World) => hrunL k wx rfl rfl
    clear y0 y1
    rw [List.take_of_length_le (by rw [List.length_drop]; omega)] at hsub2
    have E1 : Hid ((t.take k).length = k) := by rw [Hid, List.length_take]; omega
    have HFL : Hid ([t.take k, [f], t.drop k].flatten = t.take k ++ f :: t.drop k) := by unfold Hid; simp
    have hrl : (t.drop k).length ≤ 8 := by rw [List.length_drop]; omega
    have hbl : [t.take k, [f], t.drop k].flatten.length ≤ 1000000 := by rw [HFL.out, List.length_append, List.length_cons, E1.out]; omega
    have hda : (t.take k ++ f :: t.drop k).length ≤ 1000000 := by rw [← HFL.out]; exact hbl
    have HDL : Hid (∀ x ∈ t.take k ++ f :: t.drop k, x.lines.length ≤ 1000000) := fun x hx => by
      rcases List.mem_append.1 hx with hx | hx
      · have := HTL.out x (List.mem_of_mem_take hx); omega
      · rcases List.mem_cons.1 hx with rfl | hx
        · omega
        · have := HTL.out x (List.mem_of_mem_drop hx); omega
    go_wp2_with fail
    refine (check_any f.lines _ _ (hf.never hw)).mono ?_
    rintro e w3 ⟨rfl, hw3⟩
    have hfr : Rdv (w2.alloc (.cells #[.string f.path, .slice fa f.lines.length fcap] 70)) Never (.slice (some ⟨w2.heap.size, 0, none⟩) 1 1) [f] := rdv_lit (cs := [.string f.path, .slice fa f.lines.length fcap]) (heap_alloc_new w2 _) rfl (by simp) ⟨⟨_, rfl, hp, hf.never (hw.alloc _)⟩, trivial⟩
    rw [ZL.out, errV_zero, ← hw3]
    clear hw3
    go_wp2_with fail
    refine wp_region_held_drew (S := fun w' => Chg Never w w' ∧ w'.cell? ⟨B, 0, none⟩ = some (.string f.path) ∧ w'.cell? ⟨B, 1, none⟩ = some (.slice fa f.lines.length fcap)) (by kernel_rfl) ⟨hw.drew, b0, b1⟩ (fun hH => ?_)
    refine' tk 0 ?_
    refine' tk 1 ?_
    refine' tk 2 ?_
    refine' tk 3 ?_
    refine' tk 5 ?_
    refine wpAnyH_ready (rs := [4]) (by kernel_rfl) (by simp) ?_
    refine AllReadyH.cons rfl (fun K hK => ?_) AllReadyH.nil
    go_simp
    refine hK.out _ _ ⟨hH.1.alloc _, ((Chg.refl Never _).alloc _).cellNever hH.2.1, ((Chg.refl Never _).alloc _).cellNever hH.2.2⟩ (fun hHn => ?_)
    clear hK K
    try simp only [Act.put, List.setIfInBounds_toArray, List.set_cons_zero, List.set_cons_succ]
    clear hH
    have hH := hHn
    clear hHn
    refine wpAnyH_ready (rs := [6]) (by kernel_rfl) (by simp) ?_
    refine AllReadyH.cons rfl (fun K hK => ?_) AllReadyH.nil
    go_simp
    refine hK.out _ _ ⟨hH.1.alloc _, ((Chg.refl Never _).alloc _).cellNever hH.2.1, ((Chg.refl Never _).alloc _).cellNever hH.2.2⟩ (fun hHn => ?_)
    clear hK K
    try simp only [Act.put, List.setIfInBounds_toArray, List.set_cons_zero, List.set_cons_succ]
    clear hH
    have hH := hHn
    clear hHn
    refine wpAnyH_ready (rs := [7]) (by kernel_rfl) (by simp) ?_
    refine AllReadyH.cons rfl (fun K hK => ?_) AllReadyH.nil
    go_simp
    (go_at_call 74; refine (concatf_any [t.take k, [f], t.drop k] _ _ (rdv_lit (cs := [.slice sb1 k cap, .slice (some ⟨w2.heap.size, 0, none⟩) 1 1, .slice sb2 (t.length - k) (cap - k)]) (by have e := heap_alloc_new (w2.alloc (.cells #[.string f.path, .slice fa f.lines.length fcap] 70)) (.cells #[.slice sb1 k cap, .slice (some ⟨w2.heap.size, 0, none⟩) 1 1, .slice sb2 (t.length - k) (cap - k)] 29); rw [World.size_alloc] at e; exact e) rfl (by simp) ⟨(hsub1.never hH.1), (hfr.never ((Chg.refl Never _).alloc _).drew), (hsub2.never hH.1), trivial⟩) hbl).mono ?_; rintro e wq ⟨rq, rfl, hnq⟩; rw [HFL.out] at hnq; have hrq := hnq.own.rdv.sub (O' := Never) (fun _ _ h => h.elim); obtain ⟨qa, qn, qc, rfl⟩ := own_isSlice hnq.own; have hS2 := cells2_keepT hH hnq.chg; clear hH hnq)
    try go_wp2_with fail
    refine hK.out _ _ ?_ (fun hH => ?_)
    · assumption
    clear hK K
    try simp only [Act.put, List.setIfInBounds_toArray, List.set_cons_zero, List.set_cons_succ]
    refine wpAnyH_ready (rs := [8]) (by kernel_rfl) (by simp) ?_
    refine AllReadyH.cons rfl (fun K hK => ?_) AllReadyH.nil
    go_simp
    (go_at_call 73; refine (tree_copy_any (t.take k ++ f :: t.drop k) _ _ hrq hda HDL.out).mono ?_; rintro e wq2 ⟨rq2, rfl, hcq2, hown2⟩; have hsz2 := hH.1.size; have hr2 := hown2.rdv.sub (O' := Old w.heap.size) (fun j _ hj => Nat.lt_of_lt_of_le hj hsz2); obtain ⟨ra, rn, rc, rfl⟩ := own_isSlice hown2; have hS3 := cells2_keepT hH hcq2; clear hH hcq2 hown2)
    try go_wp2_with fail
    refine hK.out _ _ ?_ (fun hH => ?_)
    · assumption
    clear hK K
    try simp only [Act.put, List.setIfInBounds_toArray, List.set_cons_zero, List.set_cons_succ]
    refine' tk 9 ?_
    refine' tk 10 ?_
    refine wpAnyH_done (by kernel_rfl) ?_ _
    go_wp2_with fail
    go_ret2
    exact ⟨_, by rw [HF.out]; rfl, hH.1, by rw [HR.out]; exact hr2⟩
set_option maxHeartbeats 4000000 in
set_option maxRecDepth 100000 in
theorem tree_put_any (t : List File) (f : File) (v fv : Value) (w : World) (h : Rdv w Never v t) (hf : Rdv w Never fv f.lines) (hp : f.path.size ≤ maxLen) (m : Int) (hm : w.cell? ⟨0, 0, none⟩ = some (.int .i64 m)) :
    Calls Tryz.prog 39 #[v, .agg #[.string f.path, fv]] w fun e w' => ∃ r, e = .returned (.tuple #[r, errV (putFault t f)]) ∧ Chg Never w w' ∧ Rdv w' (Old w.heap.size) r (putR t f) := by
  by_cases z : atFault t f.path = 0
  · by_cases zl : linesFault f.lines = 0
    · cases zi : isAt t f.path with
      | true => exact put_is t f v fv w h hf hp m hm z zl zi
      | false => exact put_new t f v fv w h hf hp m hm z zl zi
    · have Z := Lib.hid z
      obtain ⟨a, cap, rfl, h1, h2, _⟩ := rdv_slice h
      obtain ⟨fa, fcap, rfl, _, _, _⟩ := rdv_slice hf
      unfold maxLen at h2
      have hA : Chg Never w (w.alloc (.cells #[.string f.path, .slice fa f.lines.length fcap] 70)) := (Chg.refl Never w).alloc _
      have b0 : (w.alloc (.cells #[.string f.path, .slice fa f.lines.length fcap] 70)).cell? ⟨w.heap.size, 0, none⟩ = some (.string f.path) := by simp only [World.cell?]; rw [heap_alloc_new]; rfl
      have b1 : (w.alloc (.cells #[.string f.path, .slice fa f.lines.length fcap] 70)).cell? ⟨w.heap.size, 1, none⟩ = some (.slice fa f.lines.length fcap) := by simp only [World.cell?]; rw [heap_alloc_new]; rfl
      have HF : Hid (putFault t f = linesFault f.lines) := by unfold Hid putFault; rw [if_pos z, if_neg zl]
      have HR : Hid (putR t f = []) := if_neg (by rw [HF.out]; exact zl)
      have ZL := Lib.hid zl
      clear z zl
      go_enter Tryz.func39, Tryz.ntmps39
      go_wp2_with fail
      generalize w.alloc (.cells #[.string f.path, .slice fa f.lines.length fcap] 70) = wA at hA b0 b1 ⊢
      generalize hBe : w.heap.size = B at b0 b1 ⊢
      refine (tree_at_any t f.path _ _ (h.never hA) m (hA.cellNever hm)).mono ?_
      rintro e w2 ⟨rfl, hc2⟩
      have b0 := hc2.cellNever b0
      have b1 := hc2.cellNever b1
      have hw := hA.trans hc2
      clear hA hc2
      rw [show atPos t f.path = posOf t f.path from if_pos Z.out, show atIs t f.path = isAt t f.path from if_pos Z.out, Z.out, errV_zero]
      go_wp2_with fail
      refine (check_any f.lines _ _ (hf.never hw)).mono ?_
      rintro e w3 ⟨rfl, rfl⟩
      rw [errV_pos ZL.out]
      go_wp2_with fail
      go_ret2
      exact ⟨_, by rw [HF.out, errV_pos ZL.out]; rfl, hw, by rw [HR.out]; exact rdv_nil _ _⟩
  · have Z := Lib.hid z
    obtain ⟨a, cap, rfl, h1, h2, _⟩ := rdv_slice h
    obtain ⟨fa, fcap, rfl, _, _, _⟩ := rdv_slice hf
    unfold maxLen at h2
    have hA : Chg Never w (w.alloc (.cells #[.string f.path, .slice fa f.lines.length fcap] 70)) := (Chg.refl Never w).alloc _
    have b0 : (w.alloc (.cells #[.string f.path, .slice fa f.lines.length fcap] 70)).cell? ⟨w.heap.size, 0, none⟩ = some (.string f.path) := by simp only [World.cell?]; rw [heap_alloc_new]; rfl
    have b1 : (w.alloc (.cells #[.string f.path, .slice fa f.lines.length fcap] 70)).cell? ⟨w.heap.size, 1, none⟩ = some (.slice fa f.lines.length fcap) := by simp only [World.cell?]; rw [heap_alloc_new]; rfl
    have HF : Hid (putFault t f = atFault t f.path) := if_neg z
    have HR : Hid (putR t f = []) := if_neg (by rw [HF.out]; exact z)
    clear z
    go_enter Tryz.func39, Tryz.ntmps39
    go_wp2_with fail
    generalize w.alloc (.cells #[.string f.path, .slice fa f.lines.length fcap] 70) = wA at hA b0 b1 ⊢
    generalize hBe : w.heap.size = B at b0 b1 ⊢
    refine (tree_at_any t f.path _ _ (h.never hA) m (hA.cellNever hm)).mono ?_
    rintro e w2 ⟨rfl, hc2⟩
    have b0 := hc2.cellNever b0
    have b1 := hc2.cellNever b1
    have hw := hA.trans hc2
    clear hA hc2
    rw [show atPos t f.path = 0 from if_neg Z.out, show atIs t f.path = false from if_neg Z.out, errV_pos Z.out]
    go_wp2_with fail
    go_ret2
    exact ⟨_, by rw [HF.out, errV_pos Z.out]; rfl, hw, by rw [HR.out]; exact rdv_nil _ _⟩
end Go.Proofs.YtmjpfoeaobdaeaaGreatDoor
namespace Go.Proofs.YtmjpfoeaobdaeaaGreatDoor

theorem putFault_zero {t : List File} {f : File} (h : putFault t f = 0) : atFault t f.path = 0 := by
  unfold putFault at h
  by_cases e : atFault t f.path = 0
  · exact e
  · rw [if_neg e] at h; exact absurd h e
end Go.Proofs.YtmjpfoeaobdaeaaGreatDoor
namespace Go.Proofs.YtmjpfoeaobdaeaaGreatDoor

theorem fileFault_is {f : File} (h1 : pathFault f.path = 0) (h2 : linesFault f.lines = 0) : fileFault f = 0 := by unfold fileFault; rw [if_pos h1, h2]
theorem putFault_parts {t : List File} {f : File} (h : putFault t f = 0) : Tree t ∧ fileFault f = 0 ∧ (isAt t f.path = false → t.length < 8) := by
  have ha := putFault_zero h
  unfold putFault at h
  rw [if_pos ha] at h
  by_cases e : linesFault f.lines = 0
  · rw [if_pos e] at h
    obtain ⟨z1, z2⟩ := atFault_zero ha
    have hT := tree_iff.2 z1
    refine ⟨hT, fileFault_is z2 e, fun hi => ?_⟩
    by_cases h8 : t.length = 8
    · rw [if_pos ⟨hi, h8⟩] at h; cases h
    · have := hT.1; omega
  · rw [if_neg e] at h; exact absurd h e
theorem putR_tree {t : List File} {f : File} (h : putFault t f = 0) : Tree (putR t f) := by
  obtain ⟨⟨t1, t2, t3⟩, hf, h8⟩ := putFault_parts h
  rw [putR, if_pos h]
  refine ⟨?_, ?_, putAt_sorted t3 f⟩
  · rw [putAt_len t3]
    by_cases e : isAt t f.path = true
    · rw [if_pos e]; exact t1
    · rw [if_neg e]; have := h8 (by simpa using e); omega
  · intro x hx
    rcases putAt_mem hx with rfl | hx
    · exact hf
    · exact t2 x hx
theorem getFault_look {t : List File} (h : Tree t) (p : ByteArray) : getFault t p = if pathFault p = 0 then (if (look t p).isSome = true then 0 else 4) else pathFault p := by
  unfold getFault atFault
  rw [if_pos (tree_iff.1 h), isAt_look h.2.2]
theorem getR_look {t : List File} (h : Tree t) {p : ByteArray} (hp : pathFault p = 0) : getR t p = (look t p).getD [] := by
  unfold getR
  rw [getFault_look h, if_pos hp]
  cases e : look t p with
  | none => rfl
  | some l =>
    rw [Option.isSome_some, if_pos rfl, if_pos rfl]
    unfold linesAt
    rcases posOf_look h.2.2 p with h' | h'
    · rw [h', e]
    · rw [isAt_look h.2.2, e] at h'; cases h'
/-- what the law asks behind put -/
theorem stays {t : List File} {f : File} (h : putFault t f = 0) :
    getFault (putR t f) f.path = 0 ∧ getR (putR t f) f.path = f.lines ∧ (treeFault (putR t f)).2 = 0 ∧ getFault (dropR (putR t f) f.path) f.path = 4 := by
  obtain ⟨hT, hf, h8⟩ := putFault_parts h
  have hX := putR_tree h
  have hp := (fileFault_zero hf).1
  have hl : look (putR t f) f.path = some f.lines := by rw [putR, if_pos h, putAt_look hT.2.2, if_pos rfl]
  have g0 : getFault (putR t f) f.path = 0 := by rw [getFault_look hX, if_pos hp, hl]; rfl
  have hi : isAt (putR t f) f.path = true := by rw [isAt_look hX.2.2, hl]; rfl
  refine ⟨g0, by rw [getR_look hX hp, hl]; rfl, tree_iff.1 hX, ?_⟩
  have hY : Tree (dropR (putR t f) f.path) := by
    rw [dropR, if_pos g0]
    refine ⟨?_, fun x hx => hX.2.1 x (dropAt_mem hx), dropAt_sorted hX.2.2 hi⟩
    have := dropAt_len hX.2.2 hi
    have := hX.1
    omega
  rw [getFault_look hY, if_pos hp, dropR, if_pos g0, dropAt_look hX.2.2 hi, if_pos rfl]; rfl
end Go.Proofs.YtmjpfoeaobdaeaaGreatDoor
namespace Go.Proofs.YtmjpfoeaobdaeaaGreatDoor

def wholeR (l : List ByteArray) (s : Int) : List Hunk := if l = [] then [] else [⟨0, 0, l.map fun x => ⟨s, x⟩⟩]
/-- the change of a path by what it reads ahead and behind -/
def chg (n : Int) (p : ByteArray) : Option (List ByteArray) → Option (List ByteArray) → List Change
  | none, none => []
  | none, some y => [⟨2, p, wholeR y 43⟩]
  | some x, none => [⟨3, p, wholeR x 45⟩]
  | some x, some y => if cutOf (script x y) n = [] then [] else [⟨1, p, cutOf (script x y) n⟩]
def diffL (n : Int) : List File → List File → List Change
  | [], [] => []
  | x :: a, [] => ⟨3, x.path, wholeR x.lines 45⟩ :: diffL n a []
  | [], y :: b => ⟨2, y.path, wholeR y.lines 43⟩ :: diffL n [] b
  | x :: a, y :: b =>
    if less x.path y.path = true then ⟨3, x.path, wholeR x.lines 45⟩ :: diffL n a (y :: b)
    else if less y.path x.path = true then ⟨2, y.path, wholeR y.lines 43⟩ :: diffL n (x :: a) b
    else chg n x.path (some x.lines) (some y.lines) ++ diffL n a b
termination_by a b => a.length + b.length
def mergeT : List File → List File → List File
  | [], [] => []
  | x :: a, [] => x :: mergeT a []
  | [], y :: b => y :: mergeT [] b
  | x :: a, y :: b =>
    if less x.path y.path = true then x :: mergeT a (y :: b)
    else if less y.path x.path = true then y :: mergeT (x :: a) b
    else y :: mergeT a b
termination_by a b => a.length + b.length
def allOf (a b : List File) : List File := b.foldl putAt a
def refDiff (a b : List File) (n : Int) : List Change := (allOf a b).flatMap fun f => chg n f.path (look a f.path) (look b f.path)

theorem flat_congr {α β : Type} {g h : α → List β} : ∀ {l : List α}, (∀ x ∈ l, g x = h x) → l.flatMap g = l.flatMap h
  | [], _ => rfl
  | x :: r, e => by rw [List.flatMap_cons, List.flatMap_cons, e x (List.mem_cons_self ..), flat_congr fun y hy => e y (List.mem_cons_of_mem _ hy)]
theorem less_same {p q : ByteArray} (h : ¬ less p q = true) (g : ¬ less q p = true) : p = q := by
  rcases less_tri p q with e | e | e
  · exact absurd e h
  · exact e
  · exact absurd e g
/-- all of two lists lie behind a path -/
def Behind (p : ByteArray) (a : List File) : Prop := ∀ x ∈ a, less p x.path = true
theorem Behind.trans {p q : ByteArray} {a : List File} (h : Behind q a) (g : less p q = true) : Behind p a := fun x hx => less_trans g (h x hx)
theorem Behind.cons {p : ByteArray} {x : File} {a : List File} (h : Behind p a) (g : less p x.path = true) : Behind p (x :: a) := fun y hy => by
  rcases List.mem_cons.1 hy with rfl | hy
  · exact g
  · exact h y hy
theorem Behind.none {p : ByteArray} {a : List File} (h : Behind p a) : look a p = none := look_none fun x hx => (less_ne (h x hx)).symm
theorem sorted_cons {x : File} {a : List File} (h : Sorted (x :: a)) : Behind x.path a ∧ Sorted a := List.pairwise_cons.1 h
theorem merge_behind (p : ByteArray) : ∀ (a b : List File), Behind p a → Behind p b → Behind p (mergeT a b)
  | [], [], _, _ => by rw [mergeT]; exact fun x hx => by cases hx
  | x :: a, [], h, g => by
    rw [mergeT]
    exact Behind.cons (merge_behind p a [] (fun y hy => h y (List.mem_cons_of_mem _ hy)) g) (h x (List.mem_cons_self ..))
  | [], y :: b, h, g => by
    rw [mergeT]
    exact Behind.cons (merge_behind p [] b h (fun z hz => g z (List.mem_cons_of_mem _ hz))) (g y (List.mem_cons_self ..))
  | x :: a, y :: b, h, g => by
    have h1 : Behind p a := fun y hy => h y (List.mem_cons_of_mem _ hy)
    have g1 : Behind p b := fun y hy => g y (List.mem_cons_of_mem _ hy)
    rw [mergeT]
    split
    · exact Behind.cons (merge_behind p a (y :: b) h1 g) (h x (List.mem_cons_self ..))
    · split
      · exact Behind.cons (merge_behind p (x :: a) b h g1) (g y (List.mem_cons_self ..))
      · exact Behind.cons (merge_behind p a b h1 g1) (g y (List.mem_cons_self ..))
termination_by a b => a.length + b.length
theorem merge_sorted : ∀ (a b : List File), Sorted a → Sorted b → Sorted (mergeT a b)
  | [], [], _, _ => by rw [mergeT]; exact List.Pairwise.nil
  | x :: a, [], h, g => by
    rw [mergeT]
    exact List.Pairwise.cons (merge_behind x.path a [] (sorted_cons h).1 (fun y hy => by cases hy)) (merge_sorted a [] (sorted_cons h).2 g)
  | [], y :: b, h, g => by
    rw [mergeT]
    exact List.Pairwise.cons (merge_behind y.path [] b (fun y hy => by cases hy) (sorted_cons g).1) (merge_sorted [] b h (sorted_cons g).2)
  | x :: a, y :: b, h, g => by
    obtain ⟨h1, h2⟩ := sorted_cons h
    obtain ⟨g1, g2⟩ := sorted_cons g
    rw [mergeT]
    split
    · rename_i l1
      exact List.Pairwise.cons (merge_behind x.path a (y :: b) h1 ((g1.trans l1).cons l1)) (merge_sorted a (y :: b) h2 g)
    · rename_i l1
      split
      · rename_i l2
        exact List.Pairwise.cons (merge_behind y.path (x :: a) b ((h1.trans l2).cons l2) g1) (merge_sorted (x :: a) b h g2)
      · rename_i l2
        have e := less_same l1 l2
        exact List.Pairwise.cons (merge_behind y.path a b (by rw [← e]; exact h1) g1) (merge_sorted a b h2 g2)
termination_by a b => a.length + b.length
theorem merge_look (p : ByteArray) : ∀ (a b : List File), Sorted a → Sorted b → look (mergeT a b) p = (look b p).or (look a p)
  | [], [], _, _ => by rw [mergeT]; rfl
  | x :: a, [], h, g => by
    rw [mergeT, look_cons, look_cons, merge_look p a [] (sorted_cons h).2 g]
    rw [look_nil]; rfl
  | [], y :: b, h, g => by
    rw [mergeT, look_cons, look_cons, merge_look p [] b h (sorted_cons g).2]
    by_cases e : y.path = p
    · rw [if_pos e, if_pos e]; rfl
    · rw [if_neg e, if_neg e]
  | x :: a, y :: b, h, g => by
    obtain ⟨h1, h2⟩ := sorted_cons h
    obtain ⟨g1, g2⟩ := sorted_cons g
    rw [mergeT]
    split
    · rename_i l1
      rw [look_cons, merge_look p a (y :: b) h2 g, look_cons x a]
      by_cases e : x.path = p
      · rw [if_pos e, if_pos e, Behind.none (p := p) (by rw [← e]; exact (g1.trans l1).cons l1)]; rfl
      · rw [if_neg e, if_neg e]
    · rename_i l1
      split
      · rename_i l2
        rw [look_cons, merge_look p (x :: a) b h g2, look_cons y b]
        by_cases e : y.path = p
        · rw [if_pos e, if_pos e]; rfl
        · rw [if_neg e, if_neg e]
      · rename_i l2
        have e := less_same l1 l2
        rw [look_cons, merge_look p a b h2 g2, look_cons y b, look_cons x a]
        by_cases q : y.path = p
        · rw [if_pos q, if_pos q]; rfl
        · rw [if_neg q, if_neg q, if_neg (by rw [e]; exact q)]
termination_by a b => a.length + b.length
theorem all_sorted : ∀ (b a : List File), Sorted a → Sorted (allOf a b)
  | [], _, h => h
  | x :: r, a, h => all_sorted r (putAt a x) (putAt_sorted h x)
theorem all_look (p : ByteArray) : ∀ (b a : List File), Sorted a → Sorted b → look (allOf a b) p = (look b p).or (look a p)
  | [], a, _, _ => rfl
  | x :: r, a, h, g => by
    obtain ⟨g1, g2⟩ := sorted_cons g
    have := all_look p r (putAt a x) (putAt_sorted h x) g2
    rw [show allOf a (x :: r) = allOf (putAt a x) r from rfl, this, putAt_look h, look_cons]
    by_cases e : x.path = p
    · rw [if_pos e, if_pos e, Behind.none (p := p) (by rw [← e]; exact g1)]; rfl
    · rw [if_neg e, if_neg e]
theorem all_merge {a b : List File} (h : Sorted a) (g : Sorted b) : allOf a b = mergeT a b :=
  sorted_ext (all_sorted b a h) (merge_sorted a b h g) fun p => by rw [all_look p b a h g, merge_look p a b h g]
theorem merge_diff (n : Int) : ∀ (a b : List File), Sorted a → Sorted b → ((mergeT a b).flatMap fun f => chg n f.path (look a f.path) (look b f.path)) = diffL n a b
  | [], [], _, _ => by rw [mergeT, diffL]; rfl
  | x :: a, [], h, g => by
    obtain ⟨h1, h2⟩ := sorted_cons h
    rw [mergeT, diffL, List.flatMap_cons, ← merge_diff n a [] h2 g, look_cons, if_pos rfl, look_nil]
    refine congrArg (fun l => _ :: l) (flat_congr fun f hf => ?_)
    rw [look_cons, if_neg (less_ne (merge_behind x.path a [] h1 (fun y hy => by cases hy) f hf))]
  | [], y :: b, h, g => by
    obtain ⟨g1, g2⟩ := sorted_cons g
    rw [mergeT, diffL, List.flatMap_cons, ← merge_diff n [] b h g2, look_cons, if_pos rfl, look_nil]
    refine congrArg (fun l => _ :: l) (flat_congr fun f hf => ?_)
    rw [look_cons, if_neg (less_ne (merge_behind y.path [] b (fun y hy => by cases hy) g1 f hf))]
  | x :: a, y :: b, h, g => by
    obtain ⟨h1, h2⟩ := sorted_cons h
    obtain ⟨g1, g2⟩ := sorted_cons g
    rw [mergeT, diffL]
    by_cases l1 : less x.path y.path = true
    · have q := (g1.trans l1).cons l1
      rw [if_pos l1, if_pos l1, List.flatMap_cons, ← merge_diff n a (y :: b) h2 g, q.none, look_cons, if_pos rfl]
      refine congrArg (fun l => _ :: l) (flat_congr fun f hf => ?_)
      rw [look_cons x a, if_neg (less_ne (merge_behind x.path a (y :: b) h1 q f hf))]
    · rw [if_neg l1, if_neg l1]
      by_cases l2 : less y.path x.path = true
      · have q := (h1.trans l2).cons l2
        rw [if_pos l2, if_pos l2, List.flatMap_cons, ← merge_diff n (x :: a) b h g2, q.none, look_cons, if_pos rfl]
        refine congrArg (fun l => _ :: l) (flat_congr fun f hf => ?_)
        rw [look_cons y b, if_neg (less_ne (merge_behind y.path (x :: a) b q g1 f hf))]
      · have e := less_same l1 l2
        rw [if_neg l2, if_neg l2, List.flatMap_cons, ← merge_diff n a b h2 g2, look_cons, if_pos e, look_cons, if_pos rfl, e]
        refine congrArg (fun l => _ ++ l) (flat_congr fun f hf => ?_)
        have q := less_ne (merge_behind y.path a b (by rw [← e]; exact h1) g1 f hf)
        rw [look_cons y b, look_cons x a, if_neg (by rw [e]; exact q), if_neg q]
termination_by a b => a.length + b.length
theorem diff_same {a b : List File} (n : Int) (h : Sorted a) (g : Sorted b) : refDiff a b n = diffL n a b := by
  unfold refDiff
  rw [all_merge h g, merge_diff n a b h g]
end Go.Proofs.YtmjpfoeaobdaeaaGreatDoor
