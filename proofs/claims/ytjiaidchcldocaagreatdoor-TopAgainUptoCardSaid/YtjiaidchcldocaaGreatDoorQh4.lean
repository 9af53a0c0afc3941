/-
  PARTS: THE WALKS of match.choose, Match.; A ROW OF A BLOCK's CELLS, as a function of the place; a row of numbers that make([]int, n) has made.
-/
import Derived.Test.YtjiaidchcldocaaGreatDoorPg1
import Derived.Test.YtjiaidchcldocaaGreatDoorPg2
import Derived.Test.YtjiaidchcldocaaGreatDoorPg3
import Derived.Test.YtjiaidchcldocaaGreatDoorPg4
import Derived.Test.YtjiaidchcldocaaGreatDoorPg5
import Derived.Test.YtjiaidchcldocaaGreatDoorPg6
import Derived.Test.YtjiaidchcldocaaGreatDoorPg7
import Derived.Test.YtjiaidchcldocaaGreatDoorPg8
import Derived.Test.YtjiaidchcldocaaGreatDoorPg9
import Derived.Test.YtjiaidchcldocaaGreatDoorPg10
import Derived.Test.YtjiaidchcldocaaGreatDoorPg11
import Derived.Test.YtjiaidchcldocaaGreatDoorPg12
import Derived.Test.YtjiaidchcldocaaGreatDoorPg13
import Derived.Test.YtjiaidchcldocaaGreatDoorPg14
import Derived.Test.YtjiaidchcldocaaGreatDoorPg15
import Derived.Test.YtjiaidchcldocaaGreatDoorPg16
import Derived.Test.YtjiaidchcldocaaGreatDoorPg17
import Derived.Test.YtjiaidchcldocaaGreatDoorPg18
import Derived.Test.YtjiaidchcldocaaGreatDoorPg19
import Derived.Test.YtjiaidchcldocaaGreatDoorPg20
import Derived.Test.YtjiaidchcldocaaGreatDoorPg21
import Derived.Test.YtjiaidchcldocaaGreatDoorPg22
import Derived.Test.YtjiaidchcldocaaGreatDoorPg23
import Derived.Test.YtjiaidchcldocaaGreatDoorPg24
import Derived.Test.YtjiaidchcldocaaGreatDoorPg25
import Derived.Test.YtjiaidchcldocaaGreatDoorPg26
import Derived.Test.YtjiaidchcldocaaGreatDoorPg27
import Derived.Test.YtjiaidchcldocaaGreatDoorPg28
import Derived.Test.YtjiaidchcldocaaGreatDoorPg29
import Derived.Test.YtjiaidchcldocaaGreatDoorPg30
import Derived.Test.YtjiaidchcldocaaGreatDoorPg31
import Derived.Test.YtjiaidchcldocaaGreatDoorPg32
import Derived.Test.YtjiaidchcldocaaGreatDoorPg33
import Derived.Test.YtjiaidchcldocaaGreatDoorPg34
import Derived.Test.YtjiaidchcldocaaGreatDoorPg35
import Derived.Test.YtjiaidchcldocaaGreatDoorPg36
import Derived.Test.YtjiaidchcldocaaGreatDoorPg37
import Derived.Test.YtjiaidchcldocaaGreatDoorPg38
import Derived.Test.YtjiaidchcldocaaGreatDoorQh3
set_option linter.unusedVariables false
set_option linter.unusedSimpArgs false
namespace Go.Proofs.YtjiaidchcldocaaGreatDoor
open Go.RowKit

theorem elemOk_ints : ElemOk Tryz.prog 23 3 1 := elemOk_of Tryz.underlying23 (z := .int .i64 0) (b := 8) (by kernel_rfl) rfl (by decide)
/-- what is chosen of a square -/
def matchR (l : List (List Int)) : List Int := chooseS l (bitsOf (2 ^ l.length - 1))
/-- the first column that is as cheap as can be -/
theorem choose_hit {row : List Int} {rest : List (List Int)} {left : Nat → Bool} {k : Nat} (hk : k < row.length) (hl : left k = true) (he : row.getD k 0 + bestS rest (delC left k) = bestS (row :: rest) left)
    (hb : ∀ j, j < k → left j = true → row.getD j 0 + bestS rest (delC left j) ≠ bestS (row :: rest) left) : chooseS (row :: rest) left = (k : Int) :: chooseS rest (delC left k) := by
  have hf : (List.range row.length).find? (fun k => left k && row.getD k 0 + bestS rest (delC left k) == bestS (row :: rest) left) = some k := by
    rw [List.find?_range_eq_some]
    refine ⟨by rw [hl, he]; simp, List.mem_range.2 hk, fun i qi => ?_⟩
    cases li : left i with
    | false => rfl
    | true =>
      have := hb i qi li
      simp only [Bool.true_and, Bool.not_eq_true', beq_eq_false_iff_ne, ne_eq]
      exact this
  rw [chooseS, hf]
def MissTo (row : List Int) (rest : List (List Int)) (left : Nat → Bool) (k : Nat) : Prop := ∀ j, j < k → left j = true → row.getD j 0 + bestS rest (delC left j) ≠ bestS (row :: rest) left
theorem MissTo.step {row : List Int} {rest : List (List Int)} {left : Nat → Bool} {k : Nat} (h : MissTo row rest left k) (hk : left k = true → row.getD k 0 + bestS rest (delC left k) ≠ bestS (row :: rest) left) : MissTo row rest left (k + 1) := fun j hj hl => by
  by_cases e : j = k
  · subst e; exact hk hl
  · exact h j (by omega) hl

set_option maxHeartbeats 2000000 in
set_option maxRecDepth 100000 in
theorem choose_any (l : List (List Int)) (v : Value) (w : World) (h : Rdv w Never v l) (hn : l.length ≤ 8) (hq : SqBd l.length l) :
    Calls Tryz.prog 86 #[v] w fun e w' => ∃ r, e = .returned r ∧ Chg Never w w' ∧ Rdv w' (Old w.heap.size) r (matchR l) := by
  have hv := h
  obtain ⟨a, cap, rfl, h1, h2, h3⟩ := rdv_slice h
  unfold maxLen at h2
  have hp1 : 1 ≤ 2 ^ l.length := Nat.two_pow_pos _
  have hp2 : 2 ^ l.length ≤ 256 := Nat.pow_le_pow_right (n := 2) (by decide) hn
  have hpw := pow_wrap hn
  have hst : wrap64 ((2 : Int) ^ l.length - 1) = ((2 ^ l.length - 1 : Nat) : Int) := by
    have e : ((2 : Int) ^ l.length) = ((2 ^ l.length : Nat) : Int) := by rw [Int.natCast_pow]; rfl
    rw [e]
    generalize 2 ^ l.length = p at hp1 hp2
    unfold wrap64; omega
  go_enter Tryz.func86, Tryz.ntmps86
  go_wp2_with fail
  refine (least_any l _ _ hv hn hq).mono ?_
  rintro e w1 ⟨mb, F, rfl, hw1, hmb, hm, hF⟩
  have HF := Lib.hid hF
  clear hF hv
  go_wp2_with fail
  go_loopw [4, 5, 18] (fun st o i wr => ∃ (s k : Nat) (L : List Int), st = .int .i64 s ∧ i = .int .i64 k ∧ k ≤ l.length ∧ s < 2 ^ l.length ∧ L.length = k ∧ Chg Never w1 wr ∧ Own 3 wr (Old w1.heap.size) o L ∧ Hid (k + cntN s = l.length) ∧ Hid (L ++ chooseS (l.drop k) (bitsOf s) = matchR l)) (fun _ _ i _ => l.length - (intOf i).toNat)
  case atStart =>
    refine ⟨2 ^ l.length - 1, 0, [], by first | rfl | (congr 1), rfl, Nat.zero_le _, by omega, rfl, Chg.refl _ _, own_nil _ _ _, ?_, rfl⟩
    rw [Hid, cntN_full hn, Nat.zero_add]
  case round =>
    obtain ⟨s, k, L, rfl, rfl, hk, hs, hL, hc, hown, hcn, hR⟩ := hrel
    clear hpw hst
    by_cases hlt : k < l.length
    · have hs256 : s < 256 := by omega
      obtain ⟨x, hx⟩ : ∃ x, l[k]? = some x := ⟨l[k], by simp [hlt]⟩
      have hxl : x.length = l.length := (hq x (List.mem_of_getElem? hx)).1
      obtain ⟨b, off, xv, rfl, _, _, hcx, hxr⟩ := elems_row h3 hx
      have hcw := hw1.trans hc
      have hcx := hcw.cellNever hcx
      have hxr := hxr.never hcw
      clear h3 h
      obtain ⟨a', cap', rfl, g1, g2, g3⟩ := rdv_slice hxr
      unfold maxLen at g2
      clear hxr
      have hmr := hm.keep hc (fun q => q)
      have HX := Lib.hid hx
      have HL := Lib.hid hxl
      have HD := Lib.hid (drop_eq hx)
      have HS := Lib.hid hs
      have hFs : Hid (F s = bestS (x :: l.drop (k + 1)) (bitsOf s)) := by
        rw [Hid, HF.out s (by have := Nat.two_pow_pos l.length; omega), bestN]
        rw [show l.length - cntN s = k by have := hcn.out; omega, drop_eq hx]
      have hFb : 0 ≤ F s ∧ F s ≤ 800000 := by rw [HF.out s hs]; exact bestN_bd hq hn hs
      clear hx hxl hs
      go_wp2_with fail
      go_loopw [4, 5, 24] (fun st u i wx => ∃ j : Nat, j ≤ l.length ∧ i = .int .i64 j ∧ st = .int .i64 s ∧ Chg Never wr wx ∧ Own 3 wx (Old w1.heap.size) u L ∧ Hid (MissTo x (l.drop (k + 1)) (bitsOf s) j)) (fun _ _ i _ => l.length - (intOf i).toNat)
      case atStart => exact ⟨0, Nat.zero_le _, rfl, rfl, Chg.refl _ _, hown, fun j hj => absurd hj (Nat.not_lt_zero j)⟩
      case round =>
        obtain ⟨j, hj, rfl, rfl, hwx, hown, hM⟩ := hrel
        rename World => wx
        by_cases hjl : j < l.length
        · have hbt := bits_at64 s hs256 j (by omega)
          obtain ⟨y, hy⟩ : ∃ y, x[j]? = some y := ⟨x[j]'(by rw [HL.out]; exact hjl), by simp [HL.out ▸ hjl]⟩
          obtain ⟨b', off', rfl, _, hcy, hyi⟩ := elems_ints g3 hy
          have hcy := hwx.cellNever hcy
          have hyb := (hq x (List.mem_of_getElem? HX.out)).2 y (List.mem_of_getElem? hy)
          have hyd : x.getD j 0 = y := by rw [List.getD_eq_getElem?_getD, hy]; rfl
          have hjx : j < x.length := by rw [HL.out]; exact hjl
          have HY := Lib.hid hyd
          clear g3 hy hyd
          cases hb : s.testBit j with
          | false =>
            have hM2 : Hid (MissTo x (l.drop (k + 1)) (bitsOf s) (j + 1)) := hM.out.step (fun q => by unfold bitsOf at q; rw [hb] at q; cases q)
            rw [hb] at hbt
            clear hb hcx
            go_wp2_with fail
            go_quiet (fail)
            go_wp2_with fail
            go_roundw
            case rel => exact ⟨j + 1, by omega, by go_num, rfl, hwx.drewN _, hown.never ((Chg.refl _ _).drewN _), hM2⟩
            case measure => simp [intOf]; omega
          | true =>
            rw [hb] at hbt
            have hbo : bitsOf s j = true := hb
            obtain ⟨d, hds, hdl, hFd, hF0, hF8, hsd⟩ := del_step hq hn HS.out (by omega) hb hcn.out (fun d hd => HF.out d (Nat.lt_trans hd HS.out))
            have hlk : ∀ q, (Instr.lookup 163 (.map (some mb)) (.int .i64 (d : Int)) false).run Tryz.prog (wx.drewN q) = .ok (.int .i64 (F d)) (wx.drewN q) := fun q => (hmr.keep (hwx.drewN q) (fun q => q)).look (j := (d : Int)) (by unfold I64; omega)
            have hlk2 : ∀ q, (Instr.lookup 163 (.map (some mb)) (.int .i64 (s : Int)) false).run Tryz.prog (wx.drewN q) = .ok (.int .i64 (F s)) (wx.drewN q) := fun q => (hmr.keep (hwx.drewN q) (fun q => q)).look (j := (s : Int)) (by unfold I64; omega)
            have hsum : wrap64 (y + F d) = y + F d := by unfold wrap64; omega
            have HFD := Lib.hid hFd
            have HBO := Lib.hid hbo
            by_cases hit : y + F d = F s
            · have ht : (y + F d == F s) = true := by simp [hit]
              have hch : Hid (chooseS (x :: l.drop (k + 1)) (bitsOf s) = (j : Int) :: chooseS (l.drop (k + 1)) (bitsOf d)) := by
                rw [Hid, choose_hit hjx hbo (by rw [HY.out, ← HFD.out, hit, hFs.out]) hM.out, ← hsd, bits_del hs256 (by omega) hbo]
              have hcd : Hid (k + 1 + cntN d = l.length) := by
                have := (cntN_del hs256 (k := j) (by omega) hbo).1
                have := hcn.out
                rw [hsd] at *
                unfold Hid; omega
              clear hit hb hbo hFd hcx hsd
              go_wp2_with fail
              go_quiet (fail)
              have hown2 := hown.never ((Chg.refl Never wx).drewN nq)
              have hc2 := hc.trans (hwx.drewN nq)
              have hji : I64 (j : Int) := by unfold I64; omega
              clear hown hlk hlk2
              go_wp2_with (at_builtin; refine wpList_push (by rfl) _ _ 23 (by rfl) elemOk_ints (O := Old w1.heap.size) (l := L) (y := (j : Int)) (by rfl) (by rfl) (by simp) hown2 ⟨rfl, hji⟩ (old_lt hc2) (by omega) ?_; intro v' w2 hown3 hc3 _)
              have hc4 := own_step hc2 hown2 hc3
              clear hc3 hown2 hc2 hwx hcw hc
              go_wp2_with fail
              go_roundw
              case rel =>
                refine ⟨d, k + 1, L ++ [(j : Int)], by first | rfl | (congr 1), by go_num, by omega, by have := HS.out; omega, by simp; omega, hc4, hown3, hcd.out, ?_⟩
                have e := hR.out
                rw [HD.out, hch.out] at e
                rw [Hid, List.append_assoc]
                exact e
              case measure => simp [intOf]; omega
            · have ht : (y + F d == F s) = false := by simp [hit]
              have hM2 : Hid (MissTo x (l.drop (k + 1)) (bitsOf s) (j + 1)) := hM.out.step (fun _ => by rw [HY.out, ← HFD.out, ← hFs.out]; exact hit)
              clear hit hb hbo hFd hcx hsd
              go_wp2_with fail
              go_quiet (fail)
              go_wp2_with fail
              go_roundw
              case rel => exact ⟨j + 1, by omega, by go_num, rfl, hwx.drewN _, hown.never ((Chg.refl _ _).drewN _), hM2⟩
              case measure => simp [intOf]; omega
        · exfalso
          obtain ⟨q, q1, q2, q3, _⟩ := best_step (n := l.length) (left := bitsOf s) (hq.ok |> fun hh => (show SqOk l.length (x :: l.drop (k + 1)) by rw [← HD.out]; exact fun r hr => hh r (List.mem_of_mem_drop hr))) (by
            rw [List.length_drop]
            have := hcn.out
            unfold cntN at this
            rw [cnt_beyond HS.out 8 hn] at this
            omega)
          exact hM.out q (by omega) q2 q3.symm
    · obtain rfl : k = l.length := by omega
      have hR' := hR.out
      rw [List.drop_length, chooseS, List.append_nil] at hR'
      subst hR'
      clear hcn hR
      go_wp2_with fail
      go_ret
      exact ⟨_, rfl, hw1.trans hc, hown.rdv.sub (fun k _ hk => Nat.lt_of_lt_of_le hk hw1.size)⟩
end Go.Proofs.YtjiaidchcldocaaGreatDoor
namespace Go.Proofs.YtjiaidchcldocaaGreatDoor
open Go.RowKit

/-- the block B has so many cells of one kind: at each place what g says -/
def ValRow (e : TypeId) (B : Nat) (wr : World) (len : Nat) (g : Nat → Value) : Prop :=
  ∃ c : Array Value, wr.heap[B]? = some (.cells c e (0, 0)) ∧ c.size = len ∧ ∀ k, k < len → c[k]? = some (g k)
theorem ValRow.cell {e : TypeId} {B : Nat} {wr : World} {len : Nat} {g : Nat → Value} (h : ValRow e B wr len g) {k : Nat} (hk : k < len) : wr.cell? ⟨B, k, none⟩ = some (g k) := by
  obtain ⟨c, h1, h2, h3⟩ := h
  simp only [World.cell?, h1]
  exact h3 k hk
theorem ValRow.lt {e : TypeId} {B : Nat} {wr : World} {len : Nat} {g : Nat → Value} (h : ValRow e B wr len g) : B < wr.heap.size := by
  obtain ⟨c, h1, _⟩ := h
  exact (Array.getElem?_eq_some_iff.1 h1).1
theorem ValRow.free {e : TypeId} {B : Nat} {wr : World} {len : Nat} {g : Nat → Value} (h : ValRow e B wr len g) (k : Nat) : wr.frozen? ⟨B, k, none⟩ = false := by
  obtain ⟨c, h1, h2, h3⟩ := h
  simp [World.frozen?, h1]
theorem ValRow.keep {e : TypeId} {B : Nat} {wr w' : World} {len : Nat} {g : Nat → Value} {O : Nat → Prop} (h : ValRow e B wr len g) (hc : Chg O wr w') (hB : ¬ O B) : ValRow e B w' len g := by
  obtain ⟨c, h1, h2⟩ := h
  refine ⟨c, ?_, h2⟩
  rw [hc.block B (Array.getElem?_eq_some_iff.1 h1).1 hB]
  exact h1
theorem ValRow.set {e : TypeId} {B : Nat} {wr : World} {len : Nat} {f : Nat → Value} (h : ValRow e B wr len f) {k : Nat} (hk : k < len) (b : Value) :
    ValRow e B (wr.setCell ⟨B, k, none⟩ b) len (fun j => if j = k then b else f j) := by
  obtain ⟨c, h1, h2, h3⟩ := h
  refine ⟨c.setIfInBounds k b, ?_, by simpa using h2, ?_⟩
  · simp [World.setCell, Array.getElem?_modify, h1]
  · intro j hj
    show _ = some (if j = k then b else f j)
    rw [Array.getElem?_setIfInBounds]
    by_cases e : j = k
    · subst e; simp [h2, hj]
    · rw [if_neg (fun h => e h.symm), if_neg e]; exact h3 j hj
theorem ValRow.other {e : TypeId} {B : Nat} {wr : World} {len : Nat} {f : Nat → Value} (h : ValRow e B wr len f) {p : Addr} (hp : p.block ≠ B) (v : Value) : ValRow e B (wr.setCell p v) len f :=
  h.keep (O := fun k => k = p.block) ((Chg.refl (fun k => k = p.block) wr).setCell (p := p) (.inr rfl) v) (fun h => hp h.symm)
theorem ValRow.congr {e : TypeId} {B : Nat} {wr : World} {len : Nat} {f g : Nat → Value} (h : ValRow e B wr len f) (hg : ∀ k, k < len → g k = f k) : ValRow e B wr len g := by
  obtain ⟨c, h1, h2, h3⟩ := h
  exact ⟨c, h1, h2, fun k hk => by rw [hg k hk]; exact h3 k hk⟩
/-- what make([]T, n) has made, T of one cell -/
theorem valRow_made {e : TypeId} {z : Value} (hz : z.cells = #[z]) {w1 : World} {B len : Nat} (h : w1.ownsRow 0 e 1 (.slice (some ⟨B, 0, none⟩) len len) len (madeCells z.cells (len * 1)).toList) : ValRow e B w1 len fun _ => z := by
  obtain ⟨_, hx⟩ := h
  rcases hx with ⟨h, _⟩ | ⟨g, cap, cur, hv, _, hh, hn, hm, hcs, htake⟩
  · cases h
  · injection hv with hv1 _ hv3
    injection hv1 with hv1
    injection hv1 with hv1
    subst hv1 hv3
    refine ⟨cur, hh, by simpa using hcs, ?_⟩
    intro k hk
    have e : cur.toList[k]? = (cur.toList.take (len * 1))[k]? := by rw [List.getElem?_take, if_pos (by omega)]
    rw [← Array.getElem?_toList, e, htake]
    simp [madeCells, hz, hk, Nat.mod_one]
end Go.Proofs.YtjiaidchcldocaaGreatDoor
