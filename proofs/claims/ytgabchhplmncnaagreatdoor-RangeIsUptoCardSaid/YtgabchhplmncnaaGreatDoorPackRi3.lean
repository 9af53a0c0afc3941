/-
  PARTS: THE WALKS of match.apart, alone, and of the document's differ.; A SLICE OF SLICES: an element's cell. No program in sight.; THE WALKS of strings.Builder's methods at a builder of one's own: copyCheck, WriteString, WriteByte.; A BUILDER OF ONE'S OWN STAYS while only new blocks come.; A BOX OF TWO CELLS, and of three (Blk3). No program in sight.; THE WALKS of strings.Builder's methods once more, saying that every block that holds no bytes (but the builder's own) stays.; HUNKS AS TEXTS, in plain Lean: the document's reading (hunk by hunk) is the program's (line by line).; NUMBERS AS TEXTS, in plain Lean: a text that is the decimal numeral of its number; the document's reading of one.; HUNKS AS TEXTS, in plain Lean: what the program's functions compute, as the walks want it.; THE WALKS of unified.span and Write.; BYTES AS LETTERS, in plain Lean: what is written is read; 57 bytes more ahead are a line more ahead.; MAILS AS TEXTS, in plain Lean (chapter 12): one mail.; BOXES, in plain Lean (chapter 12): one mail behind the other.; PARTS BETWEEN CUTS, in plain Lean: the library's splits are those of the plain laws.; THE WALKS of unified.number and read.; A SLICE OF HUNKS THAT THE CALL ITSELF BUILDS, OF WHICH THE LAST ONE STILL GROWS ('OwnLast'): pushed onto, its last one's marks pushed onto, closed. No program in sight.; A READER OF HUNKS IN MEMORY ('RdrAt'): a box of three cells: the hunks that have been read (the last one still grows), how many marks it needs.; THE WALKS: the laws' Hunk, Hunks.; THE WALK of hunk.near.; THE WALK of hunk.cut.; THE WALKS of unified.Reader's Open and mark.; THE WALK of unified.Reader's Line.; THE WALK of the document's Parts (a text of its own: no function of layers 1 to 9 in it).; THE WALKS of hunk.Cut, Turned, Turn.; append OF A WHOLE SLICE to one of the call's own; a slice's slice. No program in sight.; THE WALKS OF LAYER 4: hunk.Make, sides, slices.Equal, stands.; THE WALKS OF LAYER 4: slices.Grow of nil, slices.Concat.; THE WALK of apply.Strict.; THE WALKS of the document's NewOf, OldOf.; THE WALKS of the document's LineFault, LinesFault, ScriptFault.; A SLICE OF A SLICE, as a run, at whatever element type.; TEXTS IN PARTS: small laws on rows of strings (light: no function of layers 1 to 9).; THE WALKS of the document's Parts, SplitOf, JoinOf, and of line.Split, line.Join.
-/
import Derived.Test.YtgabchhplmncnaaGreatDoorPackRi1
import Derived.Test.YtgabchhplmncnaaGreatDoorPackRi2
import Derived.Deep.QuietTactic
import Derived.BigQuiet
import Derived.Shelf.Strings.BuilderK
import Derived.StillTailTactics
import Derived.Lib.SplitLaws
import Derived.Lib.IndexMore
import Derived.WalkLawsBesides
import Derived.Deep.RegionLaw
import Derived.Deep.DrawnRows
import Derived.Deep.RegionHeld3
import Derived.Deep.Cut
import Derived.Lib.Walk
import Derived.Lib.SliceRun
import Derived.Lib.AppendZerosOnto
namespace Go.Proofs.YtgabchhplmncnaaGreatDoor
open Go.RowKit

theorem diffZ_step {a b : List ByteArray} {k : Nat} {x y : ByteArray} (hx : a[k]? = some x) (hy : b[k]? = some y) : diffZ (a.drop k) (b.drop k) = (if x = y then 0 else 1) + diffZ (a.drop (k + 1)) (b.drop (k + 1)) := by
  rw [drop_eq hx, drop_eq hy, diffZ]
theorem diffZ_end {a b : List ByteArray} {k : Nat} (h : min a.length b.length ≤ k) : diffZ (a.drop k) (b.drop k) = 0 := by
  rcases Nat.le_total a.length b.length with q | q
  · rw [List.drop_of_length_le (by omega), diffZ]; intros; simp_all
  · rw [List.drop_of_length_le (l := b) (by omega), diffZ_nil]
theorem diffN_step {a b : List ByteArray} {k : Nat} {x y : ByteArray} (hx : a[k]? = some x) (hy : b[k]? = some y) : diffN (a.drop k) (b.drop k) = (if x = y then 0 else 1) + diffN (a.drop (k + 1)) (b.drop (k + 1)) := by
  rw [drop_eq hx, drop_eq hy, diffN]
theorem diffN_left {a b : List ByteArray} {k : Nat} (ha : k < a.length) (hb : b.length ≤ k) : diffN (a.drop k) (b.drop k) = 1 + diffN (a.drop (k + 1)) (b.drop (k + 1)) := by
  rw [List.drop_of_length_le (l := b) hb, List.drop_of_length_le (l := b) (by omega), diffN_nil, diffN_nil, List.length_drop, List.length_drop]
  omega
theorem diffN_right {a b : List ByteArray} {k : Nat} (ha : a.length ≤ k) (hb : k < b.length) : diffN (a.drop k) (b.drop k) = 1 + diffN (a.drop (k + 1)) (b.drop (k + 1)) := by
  rw [List.drop_of_length_le (l := a) ha, List.drop_of_length_le (l := a) (by omega), diffN, diffN, List.length_drop, List.length_drop]
  omega
theorem diffN_end {a b : List ByteArray} {k : Nat} (ha : a.length ≤ k) (hb : b.length ≤ k) : diffN (a.drop k) (b.drop k) = 0 := by
  rw [List.drop_of_length_le ha, List.drop_of_length_le hb]; rfl
theorem str_ne (x y : ByteArray) : (x.toList != y.toList) = decide (x ≠ y) := by
  by_cases h : x = y
  · subst h; simp
  · rw [decide_eq_true h]
    simp only [bne_iff_ne, ne_eq]
    intro e
    apply h
    apply ByteArray.ext
    apply Array.toList_inj.1
    rw [← Lib.toList_data, ← Lib.toList_data, e]
theorem str_eqq (x y : ByteArray) : (x.toList == y.toList) = decide (x = y) := by
  by_cases h : x = y
  · subst h; simp
  · rw [decide_eq_false h]
    rw [beq_eq_false_iff_ne]
    intro e
    apply h
    apply ByteArray.ext
    apply Array.toList_inj.1
    rw [← Lib.toList_data, ← Lib.toList_data, e]

set_option maxHeartbeats 1000000 in
set_option maxRecDepth 100000 in
theorem apart_any (l m : List ByteArray) (v u : Value) (w : World) (h : Rdv w Never v l) (g : Rdv w Never u m) (hl : l.length ≤ 1000000) (hm : m.length ≤ 1000000) :
    Calls Tryz.prog 90 #[v, u] w fun e w' => e = .returned (.int .i64 (diffN l m : Nat)) ∧ Chg Never w w' := by
  obtain ⟨a, cap, rfl, h1, h2, h3⟩ := rdv_slice h
  obtain ⟨c, cap', rfl, g1, g2, g3⟩ := rdv_slice g
  unfold maxLen at h2 g2
  have HD := Lib.hid (diffN_eq l m)
  obtain ⟨M, hM⟩ : ∃ M, max l.length m.length - min l.length m.length = M := ⟨_, rfl⟩
  rw [hM] at HD
  have hMz : M ≤ 1000000 := by omega
  have hK : min l.length m.length ≤ 1000000 := by omega
  go_enter Tryz.func90, Tryz.ntmps90
  go_wp2_with fail
  have hm1 : max l.length m.length - min l.length m.length = M := hM
  go_loopw [5, 23] (fun nv iv wr => ∃ k n : Nat, k ≤ min l.length m.length ∧ iv = .int .i64 k ∧ nv = .int .i64 n ∧ n ≤ M + k ∧ Chg Never w wr ∧ Hid (n + diffZ (l.drop k) (m.drop k) = diffN l m)) (fun _ iv _ => min l.length m.length - (intOf iv).toNat)
  case atStart => exact ⟨0, M, Nat.zero_le _, rfl, by go_num, by omega, Chg.refl _ _, HD.out.symm⟩
  case round =>
    obtain ⟨k, n, hk, rfl, rfl, hn, hc, hJ⟩ := hrel
    rename World => wr
    by_cases hlt : k < min l.length m.length
    · obtain ⟨x, hx⟩ : ∃ x, l[k]? = some x := ⟨l[k]'(by omega), by simp⟩
      obtain ⟨y, hy⟩ : ∃ y, m[k]? = some y := ⟨m[k]'(by omega), by simp⟩
      obtain ⟨b, off, rfl, -, -, c0, -⟩ := elems_str h3 hx
      obtain ⟨b', off', rfl, -, -, d0, -⟩ := elems_str g3 hy
      have c0 := hc.cellNever c0
      have d0 := hc.cellNever d0
      have hst := diffZ_step hx hy
      have ib1 : (k : Int) < (l.length : Int) := by omega
      have ib2 : (k : Int) < (m.length : Int) := by omega
      clear h3 g3 hx hy
      by_cases e : x = y
      · have t1 := (str_ne x y).trans (decide_eq_false (by simpa using e))
        have t1b := (str_eqq x y).trans (decide_eq_true e)
        have HJ2 : Hid (n + diffZ (l.drop (k + 1)) (m.drop (k + 1)) = diffN l m) := by rw [Hid, ← hJ.out, hst, if_pos e]; omega
        clear e hst hJ
        go_wp2_with fail
        go_quiet (fail)
        go_wp2_with fail
        go_roundw
        case rel => exact ⟨k + 1, n, by omega, by go_num, rfl, by omega, hc.drewN _, HJ2⟩
        case measure => simp [intOf]; omega
      · have t1 := (str_ne x y).trans (decide_eq_true (by simpa using e))
        have t1b := (str_eqq x y).trans (decide_eq_false e)
        have HJ2 : Hid (n + 1 + diffZ (l.drop (k + 1)) (m.drop (k + 1)) = diffN l m) := by rw [Hid, ← hJ.out, hst, if_neg e]; omega
        clear e hst hJ
        go_wp2_with fail
        go_quiet (fail)
        go_wp2_with fail
        go_roundw
        case rel => exact ⟨k + 1, n + 1, by omega, by go_num, by go_num, by omega, hc.drewN _, HJ2⟩
        case measure => simp [intOf]; omega
    · have hJ2 := hJ.out
      rw [diffZ_end (by omega), Nat.add_zero] at hJ2
      go_wp2_with fail
      go_ret
      exact ⟨by rw [← hJ2]; rfl, hc⟩

set_option maxHeartbeats 1000000 in
set_option maxRecDepth 100000 in
theorem alone_any (l : List ByteArray) (v : Value) (w : World) (h : Rdv w Never v l) (hl : l.length ≤ 1000000) :
    Calls Tryz.prog 91 #[v] w fun e w' => e = .returned (.int .i64 (aloneN l : Nat)) ∧ Chg Never w w' := by
  obtain ⟨a, cap, rfl, h1, h2, h3⟩ := rdv_slice h
  have e1 : IntKind.i64.wrap ((l.length : Int) + 1) = ((l.length + 1 : Nat) : Int) := by rw [show (l.length : Int) + 1 = ((l.length + 1 : Nat) : Int) by omega]; exact IntWalk.i64_in _ (by omega)
  have e2 : (((l.length + 1 : Nat) : Int)).tdiv 2 = (((l.length + 1) / 2 : Nat) : Int) := by rw [Int.tdiv_eq_ediv_of_nonneg (by omega)]; omega
  have e3 : IntKind.i64.wrap ((((l.length + 1) / 2 : Nat) : Int)) = (((l.length + 1) / 2 : Nat) : Int) := IntWalk.i64_in _ (by omega)
  have e4 : IntKind.i64.wrap ((((l.length + 1) / 2 : Nat) : Int) + 1) = (aloneN l : Int) := by unfold aloneN; rw [show (((l.length + 1) / 2 : Nat) : Int) + 1 = (((l.length + 1) / 2 + 1 : Nat) : Int) by omega]; exact IntWalk.i64_in _ (by omega)
  go_enter Tryz.func91, Tryz.ntmps91
  go_wp2_with fail
  go_ret
  exact ⟨rfl, Chg.refl _ _⟩

set_option maxHeartbeats 1000000 in
set_option maxRecDepth 100000 in
theorem differ_any (l m : List ByteArray) (v u : Value) (w : World) (h : Rdv w Never v l) (g : Rdv w Never u m) (hl : l.length ≤ 1000000) (hm : m.length ≤ 1000000) :
    Calls Tryz.prog 40 #[v, u] w fun e w' => e = .returned (.int .i64 (diffN l m : Nat)) ∧ Chg Never w w' := by
  obtain ⟨a, cap, rfl, h1, h2, h3⟩ := rdv_slice h
  obtain ⟨c, cap', rfl, g1, g2, g3⟩ := rdv_slice g
  unfold maxLen at h2 g2
  go_enter Tryz.func40, Tryz.ntmps40
  go_wp2_with fail
  go_loopw [5, 6] (fun nv iv wr => ∃ k n : Nat, k ≤ max l.length m.length ∧ iv = .int .i64 k ∧ nv = .int .i64 n ∧ n ≤ k ∧ Chg Never w wr ∧ Hid (n + diffN (l.drop k) (m.drop k) = diffN l m)) (fun _ iv _ => max l.length m.length - (intOf iv).toNat)
  case atStart => exact ⟨0, 0, Nat.zero_le _, rfl, rfl, Nat.le_refl _, Chg.refl _ _, by rw [Hid, Nat.zero_add]; rfl⟩
  case round =>
    obtain ⟨k, n, hk, rfl, rfl, hn, hc, hJ⟩ := hrel
    rename World => wr
    have ko : ∀ j : Nat, decide ((k : Int) < (j : Int)) = decide (k < j) := fun j => by by_cases q : k < j <;> simp [q]
    by_cases hl1 : k < l.length
    · have t1 : decide ((k : Int) < (l.length : Int)) = true := decide_eq_true (by omega)
      have u1 : decide ((l.length : Int) ≤ (k : Int)) = false := decide_eq_false (by omega)
      have t1n : decide (k < l.length) = true := decide_eq_true hl1
      have u1n : decide (l.length ≤ k) = false := decide_eq_false (by omega)
      obtain ⟨x, hx⟩ : ∃ x, l[k]? = some x := ⟨l[k], by simp [hl1]⟩
      obtain ⟨b, off, rfl, -, -, c0, -⟩ := elems_str h3 hx
      have c0 := hc.cellNever c0
      by_cases hm1 : k < m.length
      · have t2 : decide ((k : Int) < (m.length : Int)) = true := decide_eq_true (by omega)
        have u2 : decide ((m.length : Int) ≤ (k : Int)) = false := decide_eq_false (by omega)
        have u2n : decide (m.length ≤ k) = false := decide_eq_false (by omega)
        obtain ⟨y, hy⟩ : ∃ y, m[k]? = some y := ⟨m[k], by simp [hm1]⟩
        obtain ⟨b', off', rfl, -, -, d0, -⟩ := elems_str g3 hy
        have d0 := hc.cellNever d0
        have hst := diffN_step hx hy
        clear h3 g3 hx hy
        by_cases e : x = y
        · have t3 := (str_ne x y).trans (decide_eq_false (by simpa using e))
          have t3b := (str_eqq x y).trans (decide_eq_true e)
          have HJ2 : Hid (n + diffN (l.drop (k + 1)) (m.drop (k + 1)) = diffN l m) := by rw [Hid, ← hJ.out, hst, if_pos e]; omega
          clear e hst hJ ko
          go_wp2_with fail
          go_quiet (fail)
          go_wp2_with fail
          go_roundw
          case rel => exact ⟨k + 1, n, by omega, by go_num, rfl, by omega, hc.drewN _, HJ2⟩
          case measure => simp [intOf]; omega
        · have t3 := (str_ne x y).trans (decide_eq_true (by simpa using e))
          have t3b := (str_eqq x y).trans (decide_eq_false e)
          have HJ2 : Hid (n + 1 + diffN (l.drop (k + 1)) (m.drop (k + 1)) = diffN l m) := by rw [Hid, ← hJ.out, hst, if_neg e]; omega
          clear e hst hJ ko
          go_wp2_with fail
          go_quiet (fail)
          go_wp2_with fail
          go_roundw
          case rel => exact ⟨k + 1, n + 1, by omega, by go_num, by go_num, by omega, hc.drewN _, HJ2⟩
          case measure => simp [intOf]; omega
      · have u2 : decide ((m.length : Int) ≤ (k : Int)) = true := decide_eq_true (by omega)
        have u2n : decide (m.length ≤ k) = true := decide_eq_true (by omega)
        have HJ2 : Hid (n + 1 + diffN (l.drop (k + 1)) (m.drop (k + 1)) = diffN l m) := by rw [Hid, ← hJ.out, diffN_left hl1 (by omega)]; omega
        clear h3 g3 hx hJ ko
        go_wp2_with fail
        go_quiet (fail)
        go_wp2_with fail
        go_roundw
        case rel => exact ⟨k + 1, n + 1, by omega, by go_num, by go_num, by omega, hc.drewN _, HJ2⟩
        case measure => simp [intOf]; omega
    · have t1 : decide ((k : Int) < (l.length : Int)) = false := decide_eq_false (by omega)
      have t1n : decide (k < l.length) = false := decide_eq_false hl1
      have u1 : decide ((l.length : Int) ≤ (k : Int)) = true := decide_eq_true (by omega)
      have u1n : decide (l.length ≤ k) = true := decide_eq_true (by omega)
      by_cases hm1 : k < m.length
      · have t2 : decide ((k : Int) < (m.length : Int)) = true := decide_eq_true (by omega)
        have t2n : decide (k < m.length) = true := decide_eq_true hm1
        have HJ2 : Hid (n + 1 + diffN (l.drop (k + 1)) (m.drop (k + 1)) = diffN l m) := by rw [Hid, ← hJ.out, diffN_right (by omega) hm1]; omega
        clear h3 g3 hJ ko
        go_wp2_with fail
        go_quiet (fail)
        go_wp2_with fail
        go_roundw
        case rel => exact ⟨k + 1, n + 1, by omega, by go_num, by go_num, by omega, hc.drewN _, HJ2⟩
        case measure => simp [intOf]; omega
      · have t2 : decide ((k : Int) < (m.length : Int)) = false := decide_eq_false (by omega)
        have t2n : decide (k < m.length) = false := decide_eq_false hm1
        have hJ2 := hJ.out
        rw [diffN_end (by omega) (by omega), Nat.add_zero] at hJ2
        clear h3 g3 ko
        go_wp2_with fail
        go_ret
        exact ⟨by rw [← hJ2]; rfl, hc⟩
end Go.Proofs.YtgabchhplmncnaaGreatDoor
namespace Go.Proofs.YtgabchhplmncnaaGreatDoor
open Go.RowKit
theorem elems_row {α : Type} [Dat α] {w : World} {O : Nat → Prop} {a : Option Addr} {l : List (List α)} (h : Elems w O a l) {i : Nat} {x : List α} (hx : l[i]? = some x) :
    ∃ b off v, a = some ⟨b, off, none⟩ ∧ ¬ O b ∧ b < w.heap.size ∧ w.cell? ⟨b, off + i, none⟩ = some v ∧ Rdv w O v x := by
  obtain ⟨b, off, es, ha, hb, hcs, hr⟩ := h i x hx
  obtain ⟨v, rfl⟩ : ∃ v, es = [v] := by
    have hl : es.length = 1 := Dat.len hr
    match es, hl with
    | [v], _ => exact ⟨v, rfl⟩
  refine ⟨b, off, v, ha, hb, hcs.lt (by simp), ?_, hr⟩
  have := hcs 0 v rfl
  simpa [Dat.n] using this
end Go.Proofs.YtgabchhplmncnaaGreatDoor
namespace Go.Proofs.YtgabchhplmncnaaGreatDoor
open Go.RowKit

abbrev IsB : Nat → Nat → List Value → World → Prop := Lib.IsBuilderF 141 5
abbrev BAt (B b : Nat) (bs : List Value) (w : World) : Prop := Lib.BuilderAtF 141 5 B b (.pointer (some ⟨b, 0, none⟩)) bs w
theorem bld_info : (Tryz.prog.info? 141).map (·.size) = some 2 := by kernel_rfl
theorem bld_lies : liesAt Tryz.prog Tryz.prog.depth 141 (2 / Tryz.prog.cellsOf 141) 0 141 1 = true := by kernel_rfl
theorem bld_byte : (Tryz.prog.info? 5).map (fun i => (i.zero, i.size, i.bytes)) = some (some (.int .u8 0), 1, 1) := by kernel_rfl

end Go.Proofs.YtgabchhplmncnaaGreatDoor
namespace Go.Proofs.YtgabchhplmncnaaGreatDoor
open Go.RowKit

theorem bat_keep {B b : Nat} {bs : List Value} {w w' : World} {p : Value} (h : Lib.BuilderAtF 141 5 B b p bs w) (hc : Chg Never w w') : Lib.BuilderAtF 141 5 B b p bs w' := by
  have hlt := h.lt
  obtain ⟨hB, v, hv, hown, hne⟩ := h
  refine ⟨hB, v, (hc.block b hlt (fun x => x)).trans hv, hown.kept (row := none) ⟨hc.os, hc.tape, hc.output, hc.size, fun k hk _ => hc.block k hk (fun x => x)⟩ (Classical.em _), hne⟩
theorem bld_keep {B b : Nat} {bs : List Value} {w w' : World} (h : IsB B b bs w) (hc : Chg Never w w') : IsB B b bs w' :=
  h.elim (fun x => .inl (bat_keep x hc)) (fun x => .inr (bat_keep x hc))
end Go.Proofs.YtgabchhplmncnaaGreatDoor
namespace Go.Proofs.YtgabchhplmncnaaGreatDoor
open Go.RowKit

/-- block B holds two cells of its own -/
def Blk2 (w : World) (B : Nat) (t : TypeId) (x y : Value) : Prop := w.heap[B]? = some (.cells #[x, y] t (0, 0))
theorem Blk2.cell {w : World} {B : Nat} {t : TypeId} {x y : Value} (h : Blk2 w B t x y) : w.cell? ⟨B, 0, none⟩ = some x ∧ w.cell? ⟨B, 1, none⟩ = some y := by
  unfold Blk2 at h
  refine ⟨?_, ?_⟩ <;> (unfold World.cell?; rw [h]; rfl)
theorem Blk2.free {w : World} {B : Nat} {t : TypeId} {x y : Value} (h : Blk2 w B t x y) (j : Nat) : w.frozen? ⟨B, j, none⟩ = false := by
  unfold Blk2 at h
  unfold World.frozen?; rw [h]; simp
theorem Blk2.lt {w : World} {B : Nat} {t : TypeId} {x y : Value} (h : Blk2 w B t x y) : B < w.heap.size := (Array.getElem?_eq_some_iff.1 h).1
theorem Blk2.keep {w w' : World} {B : Nat} {t : TypeId} {x y : Value} {O : Nat → Prop} (h : Blk2 w B t x y) (hc : Chg O w w') (hB : ¬ O B) : Blk2 w' B t x y := by
  unfold Blk2 at *
  rw [hc.block B (Array.getElem?_eq_some_iff.1 h).1 hB]
  exact h
theorem Blk2.new (w : World) (t : TypeId) (x y : Value) : Blk2 (w.alloc (.cells #[x, y] t)) w.heap.size t x y := heap_alloc_new _ _
/-- a block of three cells, as it is -/
def Blk3 (w : World) (B : Nat) (t : TypeId) (x y z : Value) : Prop := w.heap[B]? = some (.cells #[x, y, z] t (0, 0))
theorem Blk3.cell {w : World} {B : Nat} {t : TypeId} {x y z : Value} (h : Blk3 w B t x y z) : w.cell? ⟨B, 0, none⟩ = some x ∧ w.cell? ⟨B, 1, none⟩ = some y ∧ w.cell? ⟨B, 2, none⟩ = some z := by
  unfold Blk3 at h
  simp [World.cell?, h]
theorem Blk3.free {w : World} {B : Nat} {t : TypeId} {x y z : Value} (h : Blk3 w B t x y z) (j : Nat) : w.frozen? ⟨B, j, none⟩ = false := by
  unfold Blk3 at h
  simp [World.frozen?, h]
theorem Blk3.lt {w : World} {B : Nat} {t : TypeId} {x y z : Value} (h : Blk3 w B t x y z) : B < w.heap.size := (Array.getElem?_eq_some_iff.1 h).1
theorem Blk3.keep {w w' : World} {B : Nat} {t : TypeId} {x y z : Value} {O : Nat → Prop} (h : Blk3 w B t x y z) (hc : Chg O w w') (hB : ¬ O B) : Blk3 w' B t x y z := by
  have := hc.block B h.lt hB
  unfold Blk3 at *
  rw [this]
  exact h
theorem Blk3.new (w : World) (t : TypeId) (x y z : Value) : Blk3 (w.alloc (.cells #[x, y, z] t)) w.heap.size t x y z := heap_alloc_new _ _
theorem own_isSlice {α : Type} [Dat α] {e : TypeId} {w : World} {O : Nat → Prop} {v : Value} {l : List α} (h : Own e w O v l) : ∃ a n c, v = .slice a n c := by
  obtain ⟨xs, hx, _⟩ := h
  rcases hx.2 with ⟨h, _⟩ | ⟨g, cap, cur, h, _⟩
  · exact ⟨_, _, _, h⟩
  · exact ⟨_, _, _, h⟩
end Go.Proofs.YtgabchhplmncnaaGreatDoor
namespace Go.Proofs.YtgabchhplmncnaaGreatDoor
open Go.RowKit

/-- each block of cells that are no bytes, but for block b, stays -/
def Keeps (b : Nat) (w w' : World) : Prop := ∀ (k : Nat) (c : Array Value) (T : TypeId) (fz : Nat × Nat), k ≠ b → w.heap[k]? = some (.cells c T fz) → T ≠ 5 → w'.heap[k]? = some (.cells c T fz)
theorem Keeps.trans {b : Nat} {x y z : World} (h : Keeps b x y) (g : Keeps b y z) : Keeps b x z := fun k c T fz h1 h2 h3 => g k c T fz h1 (h k c T fz h1 h2 h3) h3
theorem keeps_set {b : Nat} (w : World) (j : Nat) (u : Value) : Keeps b w (w.setCell ⟨b, j, none⟩ u) := fun k c T fz h1 h2 _ => by
  rw [Below.heap_setCell _ _ _ _ (fun e => h1 e)]; exact h2
theorem keeps_alloc {b : Nat} (w : World) (o : Obj) : Keeps b w (w.alloc o) := fun k c T fz _ h2 _ => by
  rw [Below.heap_alloc _ _ _ (Array.getElem?_eq_some_iff.1 h2).1]; exact h2
theorem keeps_grow {b B n : Nat} {w w' : World} {v : Value} {bs : List Value} (hown : w.ownsRowF B 5 1 v n bs) (h : w.grownBy w' v.ownBlock) : Keeps b w w' := fun k c T fz _ h2 h3 => by
  rw [h.block k (Array.getElem?_eq_some_iff.1 h2).1 ?_]
  · exact h2
  · intro e
    rcases hown.2 with ⟨rfl, _⟩ | ⟨g, cap, cur, f, rfl, _, hg, _⟩
    · cases e
    · injection e with e
      subst e
      rw [h2] at hg
      injection hg with hg
      injection hg with _ hg _
      exact h3 hg
theorem Keeps.blk3 {b B : Nat} {w w' : World} {t : TypeId} {x y z : Value} (h : Keeps b w w') (hb : Blk3 w B t x y z) (hne : B ≠ b) (ht : t ≠ 5) : Blk3 w' B t x y z := h B _ t _ hne hb ht
theorem Keeps.blk2 {b B : Nat} {w w' : World} {t : TypeId} {x y : Value} (h : Keeps b w w') (hb : Blk2 w B t x y) (hne : B ≠ b) (ht : t ≠ 5) : Blk2 w' B t x y := h B _ t _ hne hb ht

set_option maxHeartbeats 1000000 in
set_option maxRecDepth 100000 in
theorem bldk_check (B b : Nat) (bs : List Value) (w : World) (h : IsB B b bs w) :
    Calls Tryz.prog 108 #[.pointer (some ⟨b, 0, none⟩)] w fun e w' => e = .returned (.tuple #[]) ∧ BAt B b bs w' ∧ Below B w w' ∧ Keeps b w w' := by
  obtain ⟨j, hj, hjs⟩ := Option.map_eq_some_iff.1 bld_info
  rcases h with h | h
  · have c0 := h.cell0
    have hsh := h.shape
    have hfz := h.frozen0
    have hfin : BAt B b bs (w.setCell ⟨b, 0, none⟩ (.pointer (some ⟨b, 0, none⟩))) ∧ Below B w (w.setCell ⟨b, 0, none⟩ (.pointer (some ⟨b, 0, none⟩))) ∧ Keeps b w (w.setCell ⟨b, 0, none⟩ (.pointer (some ⟨b, 0, none⟩))) := ⟨h.used _, (Below.refl B w).setCell (p := ⟨b, 0, none⟩) h.1 _, keeps_set _ _ _⟩
    clear h
    go_enter Tryz.func108, Tryz.ntmps108
    go_wp2_with fail
    rw [Lib.run_to_unsafe w ⟨b, 0, none⟩ Tryz.underlying139 Tryz.underlying206 hj (by rw [hjs]; decide) hsh (Nat.zero_lt_succ 1)]
    simp only [Result.andThen]
    rw [Oper.upon_value]
    go_wp2_with fail
    rw [run_callFunc_extern Tryz.func148 (by kernel_rfl) (by kernel_rfl) (by kernel_rfl) (e := Extern.AbiNoEscape.same) (by kernel_rfl)]
    rw [Lib.run_noEscape]
    simp only [Result.andThen]
    rw [Oper.upon_value]
    go_wp2_with fail
    rw [Lib.run_from_unsafe w ⟨b, 0, none⟩ Tryz.underlying206 Tryz.underlying139 hj hsh bld_lies]
    simp only [Result.andThen]
    rw [Oper.upon_value]
    go_wp2_with fail
    go_end0
    exact ⟨rfl, hfin.1, hfin.2⟩
  · have c0 := h.cell0
    go_enter Tryz.func108, Tryz.ntmps108
    go_wp2_with fail
    rw [Lib.run_neq_ptr_same w _ Tryz.underlying139 hj]
    go_wp2_with fail
    go_end0
    exact ⟨rfl, h, Below.refl B _, fun _ _ _ _ _ h _ => h⟩
set_option maxHeartbeats 1000000 in
set_option maxRecDepth 100000 in
theorem bldk_string (B b : Nat) (bs : List Value) (s : ByteArray) (w : World) (h : IsB B b bs w) (hlen : bs.length + s.size ≤ 140737488355328) (hBw : B ≤ w.heap.size) :
    Calls Tryz.prog 72 #[.pointer (some ⟨b, 0, none⟩), .string s] w fun e w' => e = .returned (.tuple #[.int .i64 s.size, .nilIface]) ∧ BAt B b (bs ++ Lib.strCells s) w' ∧ Below B w w' ∧ Keeps b w w' := by
  obtain ⟨i0, hi, hz0, hz1, hz2⟩ := info_parts bld_byte
  go_enter Tryz.func72, Tryz.ntmps72
  go_wp2_with fail
  refine (bldk_check B b bs _ h).mono ?_
  rintro e w1 ⟨rfl, h1, hb1, hk1⟩
  obtain ⟨hB, v, hbk, hown, hne⟩ := h1
  have c0 : w1.cell? ⟨b, 0, none⟩ = some (.pointer (some ⟨b, 0, none⟩)) := by rw [Lib.cell_of_heap hbk]; rfl
  have c1 : w1.cell? ⟨b, 1, none⟩ = some v := by rw [Lib.cell_of_heap hbk]; rfl
  have hlt : b < w1.heap.size := (Array.getElem?_eq_some_iff.1 hbk).1
  have hs1 := hb1.size
  go_wp2_with (at_builtin; refine Lib.wpList_append_own_stringF _ rfl _ _ 38 9 rfl B 5 i0 Tryz.underlying38 Tryz.underlying9 hi hz0 hz1 hz2 _ _ _ rfl hown s rfl (by unfold maxLen; omega) (by omega) (by omega) ?_)
  intro v' w2 hown' hgrow _
  have hb2 : w2.heap[b]? = some (.cells #[.pointer (some ⟨b, 0, none⟩), v] 141 (0, 0)) := (hgrow.block b hlt (fun e => hne e.symm)).trans hbk
  have d0 : w2.cell? ⟨b, 0, none⟩ = some (.pointer (some ⟨b, 0, none⟩)) := by rw [Lib.cell_of_heap hb2]; rfl
  have d1 : w2.cell? ⟨b, 1, none⟩ = some v := by rw [Lib.cell_of_heap hb2]; rfl
  have f1 : w2.frozen? ⟨b, 1, none⟩ = false := Lib.frozen_of_heap hb2 1
  have hfin := Lib.BuilderAtF.put (T := 141) (e := 5) (v' := v') hB hb2 (bs' := bs ++ Lib.strCells s) (by simpa [Lib.strCells_length] using hown') (by decide)
  have hfin2 := (hb1.grown hgrow (by omega) (fun k hk => (hown.lt k hk).1)).setCell (p := ⟨b, 1, none⟩) hB v'
  have hk3 : Keeps b _ (w2.setCell ⟨b, 1, none⟩ v') := (hk1.trans (keeps_grow hown hgrow)).trans (keeps_set _ _ _)
  obtain ⟨ao, n', cap, rfl⟩ : ∃ ao n' cap, v' = .slice ao n' cap := by
    rcases hown'.2 with ⟨hv, _⟩ | ⟨g, cap, cur, fz, hv, _⟩
    · exact ⟨_, _, _, hv⟩
    · exact ⟨_, _, _, hv⟩
  clear hgrow hown hown' hbk hb2 c0 c1 hk1
  go_wp2_with fail
  go_ret2
  exact ⟨rfl, hfin, hfin2, hk3⟩
set_option maxHeartbeats 1000000 in
set_option maxRecDepth 100000 in
theorem bldk_byte1 (B b : Nat) (bs : List Value) (c : Int) (w : World) (h : IsB B b bs w) (hlen : bs.length + 1 ≤ 140737488355328) (hBw : B ≤ w.heap.size) :
    Calls Tryz.prog 111 #[.pointer (some ⟨b, 0, none⟩), .int .u8 c] w fun e w' => e = .returned .nilIface ∧ BAt B b (bs ++ [.int .u8 c]) w' ∧ Below B w w' ∧ Keeps b w w' := by
  obtain ⟨i0, hi, hz0, hz1, hz2⟩ := info_parts bld_byte
  go_enter Tryz.func111, Tryz.ntmps111
  go_wp2_with fail
  refine (bldk_check B b bs _ h).mono ?_
  rintro e w1 ⟨rfl, h1, hb1, hk1⟩
  obtain ⟨hB, v, hbk, hown, hne⟩ := h1
  have c0 : w1.cell? ⟨b, 0, none⟩ = some (.pointer (some ⟨b, 0, none⟩)) := by rw [Lib.cell_of_heap hbk]; rfl
  have c1 : w1.cell? ⟨b, 1, none⟩ = some v := by rw [Lib.cell_of_heap hbk]; rfl
  have hlt : b < w1.heap.size := (Array.getElem?_eq_some_iff.1 hbk).1
  have hs1 := hb1.size
  go_wp2_with (at_builtin; refine wpList_append_ownF _ rfl _ _ 38 rfl B 5 i0 (.int .u8 0) 1 1 Tryz.underlying38 hi hz0 hz1 hz2 rfl (by decide) _ _ _ rfl (hown.alloc _) ⟨w1.heap.size, 0, none⟩ 1 1 [.int .u8 c] rfl rfl ?c1 ?c2 (by unfold maxLen; omega) (by omega) (by simp; omega) ?_)
  case c1 =>
    intro j u hj
    match j, hj with
    | 0, hj => simp at hj; subst hj; simp [Addr.add]
  case c2 => intro u hu; simp at hu; subst hu; rfl
  intro v' w2 hown' hgrow _
  have hb2 : w2.heap[b]? = some (.cells #[.pointer (some ⟨b, 0, none⟩), v] 141 (0, 0)) := ((hgrow.block b (by simp; omega) (fun e => hne e.symm)).trans (Lib.alloc_old w1 _ b hlt)).trans hbk
  have d0 : w2.cell? ⟨b, 0, none⟩ = some (.pointer (some ⟨b, 0, none⟩)) := by rw [Lib.cell_of_heap hb2]; rfl
  have d1 : w2.cell? ⟨b, 1, none⟩ = some v := by rw [Lib.cell_of_heap hb2]; rfl
  have f1 : w2.frozen? ⟨b, 1, none⟩ = false := Lib.frozen_of_heap hb2 1
  have hfin := Lib.BuilderAtF.put (T := 141) (e := 5) (v' := v') hB hb2 (bs' := bs ++ [.int .u8 c]) (by simpa using hown') (by decide)
  have hfin2 := ((hb1.alloc (by omega) _).grown hgrow (by simp; omega) (fun k hk => (hown.lt k hk).1)).setCell (p := ⟨b, 1, none⟩) hB v'
  have hk3 : Keeps b _ (w2.setCell ⟨b, 1, none⟩ v') := ((hk1.trans (keeps_alloc _ _)).trans (keeps_grow (hown.alloc _) hgrow)).trans (keeps_set _ _ _)
  obtain ⟨ao, n', cap, rfl⟩ : ∃ ao n' cap, v' = .slice ao n' cap := by
    rcases hown'.2 with ⟨hv, _⟩ | ⟨g, cap, cur, fz, hv, _⟩
    · exact ⟨_, _, _, hv⟩
    · exact ⟨_, _, _, hv⟩
  clear hgrow hown hown' hbk hb2 c0 c1 hk1
  go_wp2_with fail
  go_ret
  exact ⟨rfl, hfin, hfin2, hk3⟩
end Go.Proofs.YtgabchhplmncnaaGreatDoor
namespace Go.Proofs.YtgabchhplmncnaaGreatDoor

end Go.Proofs.YtgabchhplmncnaaGreatDoor
namespace Go.Proofs.YtgabchhplmncnaaGreatDoor

end Go.Proofs.YtgabchhplmncnaaGreatDoor
namespace Go.Proofs.YtgabchhplmncnaaGreatDoor

end Go.Proofs.YtgabchhplmncnaaGreatDoor
namespace Go.Proofs.YtgabchhplmncnaaGreatDoor
open Go.RowKit

theorem toB_size' (X : List UInt8) : (toB X).size = X.length := by rw [Lib.size_eq, toB_data]
theorem toB_three (a b c : List UInt8) : toB a ++ toB b ++ toB c = toB (a ++ b ++ c) := by
  apply ByteArray.ext
  apply Array.toList_inj.1
  rw [bytes_append, bytes_append, toB_data, toB_data, toB_data, toB_data]
theorem itoa_any (x : Int) (n : Nat) (hx : x = n) (h : n < 100) (w : World) :
    Calls Tryz.prog 94 #[.int .i64 x] w fun e w' => e = .returned (.string (toB (Lib.itoa x))) ∧ w' = w := by
  subst hx
  rw [itoa_nat]
  exact Tryz.strconv_Itoa_small n h w
set_option maxHeartbeats 1000000 in
set_option maxRecDepth 100000 in
theorem span_any (a : Int) (n : Nat) (h0 : 0 ≤ a) (h1 : a < 99) (hn : n < 100) (w : World) :
    Calls Tryz.prog 110 #[.int .i64 a, .int .i64 n] w fun e w' => e = .returned (.string (toB (spanL a n))) ∧ w' = w := by
  have hs2 : (toB (Lib.itoa (n : Int))).size ≤ 20 := by
    rw [toB_size', itoa_nat]
    have := dec_len (n := n) (by omega)
    omega
  by_cases hp : 0 < n
  · have HE : Hid (spanL a n = Lib.itoa (a + 1) ++ [44] ++ Lib.itoa n) := by unfold Hid spanL; rw [if_pos hp]
    have t1 : decide ((0 : Int) < (n : Int)) = true := decide_eq_true (by omega)
    have t1n : decide (0 < n) = true := decide_eq_true hp
    have F1 : ∀ wx, Calls Tryz.prog 94 #[.int .i64 (a + 1)] wx fun e w' => e = .returned (.string (toB (Lib.itoa (a + 1)))) ∧ w' = wx := fun wx => itoa_any (a + 1) (a + 1).toNat (by omega) (by omega) wx
    have hs1 : (toB (Lib.itoa (a + 1))).size ≤ 20 := by
      obtain ⟨k, hk⟩ : ∃ k : Nat, a + 1 = k := ⟨(a + 1).toNat, by omega⟩
      rw [toB_size', hk, itoa_nat]
      have := dec_len (n := k) (by omega)
      omega
    clear hp
    go_enter Tryz.func110, Tryz.ntmps110
    go_wp2_with fail
    refine (F1 _).mono ?_
    rintro e w1 ⟨rfl, rfl⟩
    go_wp2_with fail
    refine (itoa_any n n rfl hn _).mono ?_
    rintro e w1 ⟨rfl, rfl⟩
    go_wp2_with fail
    go_ret
    exact ⟨by rw [HE.out]; exact congrArg (fun x => Ending.returned (Value.string x)) (toB_three _ _ _), rfl⟩
  · obtain rfl : n = 0 := by omega
    have HE : Hid (spanL a 0 = Lib.itoa a ++ [44] ++ Lib.itoa 0) := by unfold Hid spanL; rw [if_neg hp]; rfl
    have F1 : ∀ wx, Calls Tryz.prog 94 #[.int .i64 a] wx fun e w' => e = .returned (.string (toB (Lib.itoa a))) ∧ w' = wx := fun wx => itoa_any a a.toNat (by omega) (by omega) wx
    have F2 : ∀ wx, Calls Tryz.prog 94 #[.int .i64 0] wx fun e w' => e = .returned (.string (toB (Lib.itoa 0))) ∧ w' = wx := fun wx => itoa_any 0 0 rfl (by omega) wx
    have hs1 : (toB (Lib.itoa a)).size ≤ 20 := by
      obtain ⟨k, hk⟩ : ∃ k : Nat, a = k := ⟨a.toNat, by omega⟩
      rw [toB_size', hk, itoa_nat]
      have := dec_len (n := k) (by omega)
      omega
    have hs2 : (toB (Lib.itoa 0)).size ≤ 20 := hs2
    clear hp
    go_enter Tryz.func110, Tryz.ntmps110
    go_wp2_with fail
    refine (F1 _).mono ?_
    rintro e w1 ⟨rfl, rfl⟩
    go_wp2_with fail
    refine (F2 _).mono ?_
    rintro e w1 ⟨rfl, rfl⟩
    go_wp2_with fail
    go_ret
    exact ⟨by rw [HE.out]; exact congrArg (fun x => Ending.returned (Value.string x)) (toB_three _ _ _), rfl⟩

theorem chg_below {B : Nat} {w w' : World} (h : Below B w w') : Chg (From B) w w' :=
  ⟨h.os, h.tape, h.output, h.size, fun k hk hn => h.block k (by unfold From at hn; omega)⟩
theorem hunkR_head (h : Hunk) : textL (hunkL h) = headL h.old (oldN h.marks) h.new (newN h.marks) ++ [10] ++ textL (h.marks.map markL) := rfl
theorem textU_take {l : List Hunk} {k : Nat} {x : Hunk} (hx : l[k]? = some x) : textU (l.take (k + 1)) = textU (l.take k) ++ textL (hunkL x) := by
  unfold textU linesU
  rw [List.take_add_one, hx, Option.toList_some, List.flatMap_append, textL_app]
  simp
theorem textM_take {l : List Mark} {k : Nat} {x : Mark} (hx : l[k]? = some x) : textL ((l.take (k + 1)).map markL) = textL ((l.take k).map markL) ++ (signOf x :: (x.text.data.toList ++ [10])) := by
  rw [List.take_add_one, hx, Option.toList_some, List.map_append, textL_app]
  simp [textL, markL]
/-- what each of the hunks that may be is -/
def EachH (x : Hunk) : Prop := scriptFault x.marks = 0 ∧ 0 ≤ x.old ∧ x.old ≤ 60 ∧ 0 ≤ x.new ∧ x.new ≤ 60 ∧ oldN x.marks ≤ 60 ∧ newN x.marks ≤ 60
theorem one_scr {h : Hunk} {fin more : Int} (e : oneFault h fin more = 0) : scriptFault h.marks = 0 := by
  unfold oneFault at e
  by_cases h1 : scriptFault h.marks ≠ 0
  · rw [if_pos h1] at e; exact absurd e h1
  · simpa using h1
theorem go_each : ∀ (l : List Hunk) (i : Nat) (fin more : Int), (hunksGo i fin more l).2 = 0 → ∀ x ∈ l, EachH x
  | [], _, _, _, _ => fun _ h => by cases h
  | h :: l, i, fin, more, e => by
    rw [hunksGo] at e
    by_cases h0 : oneFault h fin more = 0
    · rw [if_pos h0] at e
      obtain ⟨q1, q2, q3, q4, q5, q6, q7⟩ := one_ok h0
      intro x hx
      rcases List.mem_cons.1 hx with rfl | hx
      · exact ⟨one_scr h0, q2, by omega, q3, by omega, by omega, by omega⟩
      · exact go_each l _ _ _ e x hx
    · rw [if_neg h0] at e
      exact absurd e h0
theorem hunks_each {l : List Hunk} (h : (hunksFault l).2 = 0) : ∀ x ∈ l, EachH x := by
  unfold hunksFault at h
  by_cases hl : 60 < l.length
  · rw [if_pos hl] at h; cases h
  · rw [if_neg hl] at h
    exact go_each l _ _ _ h
theorem textU_mono {l : List Hunk} {k : Nat} : (textU (l.take k)).length ≤ (textU l).length := by
  conv => rhs; rw [← List.take_append_drop k l]
  unfold textU linesU
  rw [List.flatMap_append, textL_app, List.length_append]
  omega
theorem cells_toB (x : List UInt8) : Lib.strCells (toB x) = Lib.byteCells x := by rw [Lib.strCells_eq, toB_data]
/-- a head, as the walk writes it -/
theorem head_row (a b : Int) (x y : Nat) : toB [64, 64, 32, 45] ++ toB (spanL a x) ++ toB [32, 43] ++ toB (spanL b y) ++ toB [32, 64, 64, 10] = toB (headL a x b y ++ [10]) := by
  apply ByteArray.ext
  apply Array.toList_inj.1
  simp only [bytes_append, toB_data]
  unfold headL atAt endAt
  simp
theorem mark_cells {m : Mark} (h : SignOk m) : [.int .u8 m.sign] ++ Lib.strCells (m.text ++ toB [10]) = Lib.byteCells (signOf m :: (m.text.data.toList ++ [10])) := by
  rw [Lib.strCells_eq, bytes_append, toB_data]
  unfold signOf
  rcases h with e | e | e <;> rw [e] <;> rfl
theorem marks_take_len {ms : List Mark} {q : Nat} (h : ∀ m ∈ ms, markFault m = 0) (hl : ms.length ≤ 120) : (textL ((ms.take q).map markL)).length ≤ 82 * 120 := by
  have : ∀ (k : List Mark), (∀ m ∈ k, markFault m = 0) → (textL (k.map markL)).length ≤ 82 * k.length := fun k hk => by
    induction k with
    | nil => simp [textL]
    | cons m k ih =>
      obtain ⟨-, -, q3⟩ := mark_ok (hk m (List.mem_cons_self ..))
      have := ih fun x hx => hk x (List.mem_cons_of_mem _ hx)
      have e : (textL ((m :: k).map markL)).length = m.text.size + 2 + (textL (k.map markL)).length := by
        show (markL m ++ [10] ++ textL (k.map markL)).length = _
        unfold markL
        simp only [List.length_append, List.length_cons, List.length_nil, Array.length_toList, ByteArray.size_data]
      rw [e, List.length_cons]; omega
  have h1 := this (ms.take q) (fun m hm => h m (List.mem_of_mem_take hm))
  rw [List.length_take] at h1
  omega
set_option maxHeartbeats 1000000 in
set_option maxRecDepth 100000 in
theorem write_any (B b : Nat) (bs : List Value) (l : List Hunk) (v : Value) (w : World) (h : Rdv w (From B) v l) (hI : IsB B b bs w) (hz : (hunksFault l).2 = 0) (hlen : bs.length ≤ 1000000000) (hBw : B ≤ w.heap.size) :
    Calls Tryz.prog 73 #[.pointer (some ⟨b, 0, none⟩), v] w fun e w' => e = .returned (.tuple #[]) ∧ IsB B b (bs ++ Lib.byteCells (textU l)) w' ∧ Below B w w' := by
  obtain ⟨a, cap, rfl, h1, h2, h3⟩ := rdv_slice h
  unfold maxLen at h2
  have hTL := Lib.hid (hunks_ok hz).2.2
  have hH := Lib.hid (hunks_each hz)
  clear hz
  go_enter Tryz.func73, Tryz.ntmps73
  go_wp2_with fail
  go_loopw [12] (fun i wr => ∃ k : Nat, k ≤ l.length ∧ i = .int .i64 k ∧ IsB B b (bs ++ Lib.byteCells (textU (l.take k))) wr ∧ Below B w wr) (fun i _ => l.length - (intOf i).toNat)
  case atStart => exact ⟨0, Nat.zero_le _, rfl, by simpa [textU, textL, linesU, Lib.byteCells] using hI, Below.refl _ _⟩
  case round =>
    clear hI
    obtain ⟨k, hk, rfl, hI, hb⟩ := hrel
    rename World => wr
    have hbs := hb.size
    by_cases hlt : k < l.length
    · obtain ⟨x, hx⟩ : ∃ x, l[k]? = some x := ⟨l[k], by simp [hlt]⟩
      obtain ⟨b', off, mv, rfl, hnb, -, c0, c1, c2, hmv⟩ := elems_hunk h3 hx
      have hcb := chg_below hb
      have hbne : wr.heap.size ≠ b := by
        have : b < wr.heap.size := hI.elim (fun q => q.lt) (fun q => q.lt)
        omega
      obtain ⟨e1, e2, e3, e4, e5, e6, e7⟩ := hH.out x (List.mem_of_getElem? hx)
      have E1 := Lib.hid e1
      have hml := scriptFault_len e1
      have HT := Lib.hid (textU_take hx)
      have hTk := @textU_mono l k
      have hTk1 := @textU_mono l (k + 1)
      have hTLo := hTL.out
      obtain ⟨ma, mc, rfl, -, -, hme⟩ := rdv_slice hmv
      have c0 := hcb.cell c0 hnb
      have c1 := hcb.cell c1 hnb
      have c2 := hcb.cell c2 hnb
      have hmr : Rdv wr (From B) (.slice ma x.marks.length mc) x.marks := hmv.keep hcb (fun _ _ h => h) (fun _ _ h => h)
      have hA : Chg Never wr (wr.alloc (.cells #[.int .i64 x.old, .int .i64 x.new, .slice ma x.marks.length mc] 130)) := (Chg.refl Never wr).alloc _
      have hbox := Blk3.new wr 130 (.int .i64 x.old) (.int .i64 x.new) (.slice ma x.marks.length mc)
      obtain ⟨g0, g1, g2⟩ := hbox.cell
      have hIA := bld_keep hI hA
      have hmA := hmr.never hA
      have hbA : Below B w (wr.alloc (.cells #[.int .i64 x.old, .int .i64 x.new, .slice ma x.marks.length mc] 130)) := hb.alloc (by omega) _
      clear hx h3 h hI hmr hmv e1
      go_wp2_with fail
      clear c0 c1 c2
      generalize wr.alloc (.cells #[.int .i64 x.old, .int .i64 x.new, .slice ma x.marks.length mc] 130) = wA at hA hbox g0 g1 g2 hIA hmA hbA ⊢
      refine (size_any x _ _ (hmA.sub (fun _ _ h => h.elim))).mono ?_
      rintro e w2 ⟨rfl, hc2⟩
      have g0 := hc2.cellNever g0
      have g1 := hc2.cellNever g1
      have g2 := hc2.cellNever g2
      have hI2 := bld_keep hIA hc2
      have hm2 := hmA.never hc2
      have hb2 := hbA.trans (hc2.never.mono (Nat.le_trans hBw hbA.size))
      have hwsz := hb2.size
      have hl1 : (spanL x.old (oldN x.marks)).length ≤ 7 := span_len e2 (by omega) (by omega)
      have hl2 : (spanL x.new (newN x.marks)).length ≤ 7 := span_len e4 (by omega) (by omega)
      have FS1 : ∀ wx, Calls Tryz.prog 110 #[.int .i64 x.old, .int .i64 (oldN x.marks : Nat)] wx fun e w' => e = .returned (.string (toB (spanL x.old (oldN x.marks)))) ∧ w' = wx := fun wx => span_any _ _ e2 (by omega) (by omega) wx
      have FS2 : ∀ wx, Calls Tryz.prog 110 #[.int .i64 x.new, .int .i64 (newN x.marks : Nat)] wx fun e w' => e = .returned (.string (toB (spanL x.new (newN x.marks)))) ∧ w' = wx := fun wx => span_any _ _ e4 (by omega) (by omega) wx
      have HR := Lib.hid (head_row x.old x.new (oldN x.marks) (newN x.marks))
      have HUL := Lib.hid (hunkR_head x)
      obtain ⟨S1, hS1⟩ : ∃ S1, toB (spanL x.old (oldN x.marks)) = S1 := ⟨_, rfl⟩
      obtain ⟨S2, hS2⟩ : ∃ S2, toB (spanL x.new (newN x.marks)) = S2 := ⟨_, rfl⟩
      obtain ⟨HD, hHD⟩ : ∃ HD, headL x.old (oldN x.marks) x.new (newN x.marks) ++ [10] = HD := ⟨_, rfl⟩
      have hz1 : S1.size ≤ 7 := by rw [← hS1, toB_size']; exact hl1
      have hz2 : S2.size ≤ 7 := by rw [← hS2, toB_size']; exact hl2
      have hbl : (bs ++ Lib.byteCells (textU (l.take k))).length ≤ 1000400000 := by rw [List.length_append, Lib.byteCells_length]; omega
      rw [hS1, hS2, hHD] at HR
      rw [hHD] at HUL
      rw [hS1] at FS1
      rw [hS2] at FS2
      obtain ⟨bs1, hbs1⟩ : ∃ bs1, bs ++ Lib.byteCells (textU (l.take k)) = bs1 := ⟨_, rfl⟩
      rw [hbs1] at hI2 hbl
      have HB1 := Lib.hid hbs1
      clear hbs1
      clear hS1 hS2 hl1 hl2 hIA hmA hbA hA hb hH hTL hTk hTk1
      go_wp2_with fail
      have n1 : ¬ (9223372036854775807 < 4 + S1.size) := by omega
      have n2 : ¬ (9223372036854775807 < 4 + S1.size + 2) := by omega
      have n3 : ¬ (9223372036854775807 < 4 + S1.size + 2 + S2.size) := by omega
      have n4 : ¬ (9223372036854775807 < 4 + S1.size + 2 + S2.size + 4) := by omega
      refine wp_region_still_tail 13 (by kernel_rfl) (by kernel_rfl) ?_
      simp only [List.take_succ_cons, List.take_zero, List.drop_succ_cons, List.drop_zero]
      change wpStill _ _ w2.drew _ _ _
      still_step
      still_step
      still_step
      still_step
      refine wpStill_step (fun K hK => ?_)
      go_simp
      refine ⟨.string S1, FS1 _, ?_⟩
      refine hK _ ?_
      clear hK K
      still_step
      still_step
      still_step
      still_step
      still_step
      refine wpStill_step (fun K hK => ?_)
      go_simp
      refine ⟨.string S2, FS2 _, ?_⟩
      refine hK _ ?_
      clear hK K
      still_step
      still_step
      refine wpStill_nil ?_
      change wpList _ _ _ _ _ w2.drew
      have hbox2 := hbox.keep hc2 (fun h => h)
      have hcd : Chg Never w2 w2.drew := (Chg.refl Never w2).drew
      have hbox3 := hbox2.keep hcd (fun h => h)
      have hI3 := bld_keep hI2 hcd
      have hm3 := hm2.never hcd
      have hb3 := hb2.trans (hcd.never.mono (Nat.le_trans hBw hb2.size))
      have hw3s : B ≤ w2.drew.heap.size := Nat.le_trans hBw hb3.size
      have hHl : HD.length ≤ 24 := by
        have := head_len ⟨e2, by omega, e4, by omega, by omega, by omega, fun m hm => (mark_ok (marks_ok E1.out m hm)).1⟩
        rw [← hHD, List.length_append]; simp; omega
      generalize w2.drew = w3 at hI3 hm3 hb3 hw3s hbox3
      clear hcd hI2 hm2 hb2 g0 g1 g2 hHD n1 n2 n3 n4 FS1 FS2 hbox hbox2 hc2 hwsz
      go_wp2_with fail
      refine (bldk_string B b bs1 _ _ hI3 (by rw [ByteArray.size_append, ByteArray.size_append, ByteArray.size_append, ByteArray.size_append]; show _ + (4 + S1.size + 2 + S2.size + 4) ≤ _; omega) hw3s).mono ?_
      rintro e w4 ⟨rfl, hI4, b4, k4⟩
      have hI4 : BAt B b (bs1 ++ Lib.byteCells HD) w4 := by rw [← cells_toB, ← HR.out]; exact hI4
      have hb4 := hb3.trans b4
      have hc4 := chg_below b4
      have hm4 : Rdv w4 (From B) (.slice ma x.marks.length mc) x.marks := hm3.keep hc4 (fun _ _ h => h) (fun _ _ h => h)
      obtain ⟨-, -, g2⟩ := (k4.blk3 hbox3 hbne (by decide)).cell
      have hbl2 : (bs1 ++ Lib.byteCells HD).length ≤ 1000500000 := by rw [List.length_append, Lib.byteCells_length]; omega
      obtain ⟨bs2, hbs2⟩ : ∃ bs2, bs1 ++ Lib.byteCells HD = bs2 := ⟨_, rfl⟩
      rw [hbs2] at hI4 hbl2
      have HB2 := Lib.hid hbs2
      clear hI3 hm3 hb3 b4 hc4 HR hbs2 hz1 hz2 k4 hbox3
      have hme4 := (rdv_slice hm4)
      obtain ⟨ma', mc', hq, -, -, hme⟩ := hme4
      injection hq with hq1 _ hq2
      subst hq1 hq2
      have hMK := Lib.hid (marks_ok E1.out)
      have hw4s := Nat.le_trans hBw hb4.size
      have hst0 : bs2 ++ Lib.byteCells (textL ((x.marks.take 0).map markL)) = bs2 := by simp [textL, Lib.byteCells]
      unfold maxLen at *
      go_wp2_with fail
      clear g2
      go_loopw [38] (fun i wi => ∃ q : Nat, q ≤ x.marks.length ∧ i = .int .i64 q ∧ IsB B b (bs2 ++ Lib.byteCells (textL ((x.marks.take q).map markL))) wi ∧ Below B w4 wi) (fun i _ => x.marks.length - (intOf i).toNat)
      case atStart => exact ⟨0, Nat.zero_le _, rfl, by rw [hst0]; exact .inr hI4, Below.refl _ _⟩
      case round =>
        clear hI4
        obtain ⟨q, hq, rfl, hJ, hbi⟩ := hrel
        rename World => wi
        by_cases hql : q < x.marks.length
        · obtain ⟨y, hy⟩ : ∃ y, x.marks[q]? = some y := ⟨x.marks[q], by simp [hql]⟩
          obtain ⟨yb, yoff, rfl, hynb, -, d0, d1, s0, s1, hys⟩ := elems_mark hme hy
          have hci := chg_below hbi
          have d0 := hci.cell d0 hynb
          have d1 := hci.cell d1 hynb
          obtain ⟨m1, m2, m3⟩ := mark_ok (hMK.out y (List.mem_of_getElem? hy))
          have HMT := Lib.hid (textM_take hy)
          have hA : Chg Never wi (wi.alloc (.cells #[.int .u8 y.sign, .string y.text] 127)) := (Chg.refl Never wi).alloc _
          have hbx := Blk2.new wi 127 (.int .u8 y.sign) (.string y.text)
          have hbn : wi.heap.size ≠ b := by
            have : b < wi.heap.size := hJ.elim (fun q => q.lt) (fun q => q.lt)
            omega
          obtain ⟨f0, f1⟩ := hbx.cell
          have hJA := bld_keep hJ hA
          have hbA := hbi.trans (hA.never.mono (Nat.le_trans hw4s hbi.size))
          have hsA := Nat.le_trans hw4s hbA.size
          have hmt : (textL ((x.marks.take q).map markL)).length ≤ 82 * 120 := marks_take_len hMK.out hml
          have hbl3 : (bs2 ++ Lib.byteCells (textL ((x.marks.take q).map markL))).length ≤ 1000600000 := by rw [List.length_append, Lib.byteCells_length]; omega
          have HJ2 : Hid (bs2 ++ Lib.byteCells (textL ((x.marks.take q).map markL)) ++ [.int .u8 y.sign] ++ Lib.strCells (y.text ++ toB [10]) = bs2 ++ Lib.byteCells (textL ((x.marks.take (q + 1)).map markL))) := by
            rw [Hid, HMT.out, Lib.byteCells_append, List.append_assoc, List.append_assoc, mark_cells m1]
          generalize bs2 ++ Lib.byteCells (textL ((x.marks.take q).map markL)) = bs3 at hJA hbl3 HJ2
          clear hy hJ hmt
          go_wp2_with fail
          clear d0 d1
          refine (bldk_byte1 B b bs3 y.sign _ hJA (by omega) hsA).mono ?_
          rintro e w5 ⟨rfl, hJ5, b5, k5⟩
          obtain ⟨f0, f1⟩ := (k5.blk2 hbx hbn (by decide)).cell
          have hb5 := hbA.trans b5
          clear hJA hbx b5 k5 hA
          go_wp2_with fail
          refine (bldk_string B b _ _ _ (.inr hJ5) (by rw [List.length_append, ByteArray.size_append]; show bs3.length + 1 + (y.text.size + 1) ≤ _; omega) (Nat.le_trans hw4s hb5.size)).mono ?_
          rintro e w6 ⟨rfl, hJ6, b6, -⟩
          go_wp2_with fail
          go_roundw
          case rel => exact ⟨q + 1, by omega, by go_num, .inr (by rw [← HJ2.out]; exact hJ6), hb5.trans b6⟩
          case measure => simp [intOf]; omega
        · rw [List.take_of_length_le (by omega)] at hJ
          have hfin : IsB B b (bs ++ Lib.byteCells (textU (l.take (k + 1)))) wi := by
            rw [HT.out, Lib.byteCells_append, ← List.append_assoc, HB1.out, HUL.out, Lib.byteCells_append, ← List.append_assoc, HB2.out]
            exact hJ
          have hbf := hb4.trans hbi
          clear hJ hbi hme hMK
          go_wp2_with fail
          go_roundw
          case rel => exact ⟨k + 1, by omega, by go_num, hfin, hbf⟩
          case measure => simp [intOf]; omega
    · rw [List.take_of_length_le (by omega)] at hI
      go_wp2_with fail
      go_end0
      exact ⟨rfl, hI, hb⟩
end Go.Proofs.YtgabchhplmncnaaGreatDoor
namespace Go.Proofs.YtgabchhplmncnaaGreatDoor

/-- the 64 letters -/
def letters : List UInt8 := [65, 66, 67, 68, 69, 70, 71, 72, 73, 74, 75, 76, 77, 78, 79, 80, 81, 82, 83, 84, 85, 86, 87, 88, 89, 90, 97, 98, 99, 100, 101, 102, 103, 104, 105, 106, 107, 108, 109, 110, 111, 112, 113, 114, 115, 116, 117, 118, 119, 120, 121, 122, 48, 49, 50, 51, 52, 53, 54, 55, 56, 57, 43, 47]
/-! ### lines -/
end Go.Proofs.YtgabchhplmncnaaGreatDoor
namespace Go.Proofs.YtgabchhplmncnaaGreatDoor

end Go.Proofs.YtgabchhplmncnaaGreatDoor
namespace Go.Proofs.YtgabchhplmncnaaGreatDoor

end Go.Proofs.YtgabchhplmncnaaGreatDoor
namespace Go.Proofs.YtgabchhplmncnaaGreatDoor

end Go.Proofs.YtgabchhplmncnaaGreatDoor
namespace Go.Proofs.YtgabchhplmncnaaGreatDoor
open Go.RowKit

end Go.Proofs.YtgabchhplmncnaaGreatDoor
namespace Go.Proofs.YtgabchhplmncnaaGreatDoor
open Go.RowKit

structure OwnLast (e em : TypeId) (w : World) (O : Nat → Prop) (v : Value) (init : List Hunk) (h : Hunk) (mv : Value) (xs : List Value) : Prop where
  row : w.ownsRow 0 e 3 v (init.length + 1) xs
  out : ∀ k, v.ownBlock = some k → ¬ O k
  firsts : ∀ (i : Nat) (x : Hunk), init[i]? = some x → Dat.rd w (fun k => (O k ∨ v.ownBlock = some k) ∨ mv.ownBlock = some k) ((xs.drop (i * 3)).take 3) x
  last : xs.drop (init.length * 3) = [.int .i64 h.old, .int .i64 h.new, mv]
  marks : Own em w (fun k => O k ∨ v.ownBlock = some k) mv h.marks

/-- closed, it is a slice as any other -/
theorem OwnLast.own {e em : TypeId} {w : World} {O : Nat → Prop} {v : Value} {init : List Hunk} {h : Hunk} {mv : Value} {xs : List Value} (hl : OwnLast e em w O v init h mv xs) : Own e w O v (init ++ [h]) := by
  obtain ⟨h1, h2, h3, h4, h5⟩ := hl
  refine ⟨xs, by rw [List.length_append]; exact h1, h2, ?_⟩
  intro i x hx
  rcases Nat.lt_or_ge i init.length with hi | hi
  · rw [List.getElem?_append_left hi] at hx
    exact Dat.keep (h3 i x hx) (Chg.refl Never w) (fun _ _ h => h.elim) (fun k _ ho => .inl ho)
  · have hil : i = init.length := by
      have := (List.getElem?_eq_some_iff.1 hx).1
      simp at this
      omega
    subst hil
    simp at hx
    subst hx
    show Dat.rd w _ ((xs.drop (init.length * 3)).take 3) h
    rw [h4]
    exact ⟨mv, rfl, h5.rdv⟩

/-- its shape, and the place of the last one's marks -/
theorem OwnLast.shape {e em : TypeId} {w : World} {O : Nat → Prop} {v : Value} {init : List Hunk} {h : Hunk} {mv : Value} {xs : List Value} (hl : OwnLast e em w O v init h mv xs) :
    ∃ g cap, v = .slice (some ⟨g, 0, none⟩) (init.length + 1) cap ∧ g < w.heap.size ∧ ¬ O g ∧ init.length + 1 ≤ cap ∧ cap ≤ maxLen ∧ w.cell? ⟨g, init.length * 3 + 2, none⟩ = some mv ∧ w.cell? ⟨g, init.length * 3, none⟩ = some (.int .i64 h.old) ∧ w.cell? ⟨g, init.length * 3 + 1, none⟩ = some (.int .i64 h.new) ∧ ∀ j, w.frozen? ⟨g, j, none⟩ = false := by
  obtain ⟨h1, h2, h3, h4, h5⟩ := hl
  have h1' := h1
  rcases h1.2 with ⟨rfl, h0⟩ | ⟨g, cap, cur, rfl, hg, hh, hnc, hm, hcs, htake⟩
  · cases h0
  · have hc : ∀ j, j < 3 → w.cell? ⟨g, init.length * 3 + j, none⟩ = (xs.drop (init.length * 3))[j]? := by
      intro j hj
      rw [h1'.cellAt (init.length * 3 + j) (by omega), List.getElem?_drop]
    refine ⟨g, cap, rfl, (h1'.lt g rfl).2, h2 g rfl, hnc, hm, ?_, ?_, ?_, fun j => h1'.frozenAt j⟩
    · rw [hc 2 (by omega), h4]; rfl
    · rw [← Nat.add_zero (init.length * 3), hc 0 (by omega), h4]; rfl
    · rw [hc 1 (by omega), h4]; rfl

theorem OwnLast.keep {e em : TypeId} {w w' : World} {O : Nat → Prop} {v : Value} {init : List Hunk} {h : Hunk} {mv : Value} {xs : List Value} (hl : OwnLast e em w O v init h mv xs) (hc : Chg Never w w') : OwnLast e em w' O v init h mv xs := by
  obtain ⟨h1, h2, h3, h4, h5⟩ := hl
  refine ⟨⟨h1.1, ?_⟩, h2, fun i x hi => Dat.never (h3 i x hi) hc, h4, h5.never hc⟩
  rcases h1.2 with h | ⟨g', cap', cur, hv, r1, r2, r3⟩
  · exact .inl h
  · subst hv
    exact .inr ⟨g', cap', cur, rfl, r1, (hc.block g' (h1.lt g' rfl).2 (fun x => x)).trans r2, r3⟩
end Go.Proofs.YtgabchhplmncnaaGreatDoor
namespace Go.Proofs.YtgabchhplmncnaaGreatDoor
open Go.RowKit

theorem OwnLast.keepO {e em : TypeId} {w w' : World} {O O' O'' : Nat → Prop} {v : Value} {init : List Hunk} {h : Hunk} {mv : Value} {xs : List Value} (hl : OwnLast e em w O v init h mv xs) (hc : Chg O' w w')
    (k1 : ∀ k, k < w.heap.size → O' k → O k) (k2 : ∀ k, k < w.heap.size → O'' k → O k) : OwnLast e em w' O'' v init h mv xs := by
  obtain ⟨h1, h2, h3, h4, h5⟩ := hl
  have hlt := fun k hk => (h1.lt k hk).2
  refine ⟨⟨h1.1, ?_⟩, fun k hk ho => h2 k hk (k2 k (hlt k hk) ho), fun i x hi => ?_, h4, ?_⟩
  · rcases h1.2 with h | ⟨g', cap', cur, hv, r1, r2, r3⟩
    · exact .inl h
    · subst hv
      exact .inr ⟨g', cap', cur, rfl, r1, (hc.block g' (hlt g' rfl) (fun ho => h2 g' rfl (k1 g' (hlt g' rfl) ho))).trans r2, r3⟩
  · refine Dat.keep (h3 i x hi) hc (fun k hk ho => .inl (.inl (k1 k hk ho))) ?_
    rintro k hk ((ho | ho) | ho)
    · exact .inl (.inl (k2 k hk ho))
    · exact .inl (.inr ho)
    · exact .inr ho
  · refine h5.keep hc (fun k hk ho => .inl (k1 k hk ho)) ?_
    rintro k hk (ho | ho)
    · exact .inl (k2 k hk ho)
    · exact .inr ho

/-- the blocks that a reader's rows avoid: what was there before, and its own box -/
def RdO (W0 B : Nat) : Nat → Prop := fun k => k < W0 ∨ k = B
structure RdrAt (w : World) (W0 B : Nat) (v : Value) (hs : List Hunk) (o n : Nat) : Prop where
  base : W0 ≤ w.heap.size
  box : Blk3 w B 192 v (.int .i64 o) (.int .i64 n)
  rows : (hs = [] ∧ v = .slice none 0 0) ∨ ∃ init h mv xs, hs = init ++ [h] ∧ OwnLast 130 127 w (RdO W0 B) v init h mv xs
theorem RdrAt.own {w : World} {W0 B : Nat} {v : Value} {hs : List Hunk} {o n : Nat} (h : RdrAt w W0 B v hs o n) : Own 130 w (RdO W0 B) v hs := by
  rcases h.rows with ⟨rfl, rfl⟩ | ⟨init, x, mv, xs, rfl, hl⟩
  · exact own_nil _ _ _
  · exact hl.own
theorem RdrAt.keep {w w' : World} {W0 B : Nat} {v : Value} {hs : List Hunk} {o n : Nat} (h : RdrAt w W0 B v hs o n) (hc : Chg Never w w') : RdrAt w' W0 B v hs o n := by
  refine ⟨Nat.le_trans h.base hc.size, h.box.keep hc (fun x => x), ?_⟩
  rcases h.rows with q | ⟨init, x, mv, xs, e, hl⟩
  · exact .inl q
  · exact .inr ⟨init, x, mv, xs, e, hl.keep hc⟩
theorem RdrAt.new (w : World) : RdrAt (w.alloc (.cells #[.slice none 0 0, .int .i64 0, .int .i64 0] 192)) w.heap.size w.heap.size (.slice none 0 0) [] 0 0 :=
  ⟨Nat.le_of_lt (by simp), Blk3.new w _ _ _ _, .inl ⟨rfl, rfl⟩⟩
/-- the box's cells may be written -/
theorem RdrAt.set {w w' : World} {W0 B : Nat} {v : Value} {hs : List Hunk} {o n o' n' : Nat} (h : RdrAt w W0 B v hs o n) (hb : Blk3 w' B 192 v (.int .i64 o') (.int .i64 n')) (hc : Chg (fun k => k = B) w w') : RdrAt w' W0 B v hs o' n' := by
  refine ⟨Nat.le_trans h.base hc.size, hb, ?_⟩
  rcases h.rows with q | ⟨init, x, mv, xs, e, hl⟩
  · exact .inl q
  · exact .inr ⟨init, x, mv, xs, e, hl.keepO hc (fun _ _ hk => .inr hk) (fun _ _ hk => hk)⟩
theorem RdrAt.nil {w : World} {W0 B : Nat} {v : Value} {o n : Nat} (h : RdrAt w W0 B v [] o n) : v = .slice none 0 0 := by
  rcases h.rows with ⟨_, q⟩ | ⟨init, x, mv, xs, e, hl⟩
  · exact q
  · simp at e
theorem RdrAt.lt {w : World} {W0 B : Nat} {v : Value} {hs : List Hunk} {o n : Nat} (h : RdrAt w W0 B v hs o n) : B < w.heap.size := h.box.lt
/-- read, it is as any other slice -/
theorem RdrAt.rdv {w : World} {W0 B : Nat} {v : Value} {hs : List Hunk} {o n : Nat} (h : RdrAt w W0 B v hs o n) : Rdv w (RdO W0 B) v hs := h.own.rdv
end Go.Proofs.YtgabchhplmncnaaGreatDoor
namespace Go.Proofs.YtgabchhplmncnaaGreatDoor
open Go.RowKit

end Go.Proofs.YtgabchhplmncnaaGreatDoor
namespace Go.Proofs.YtgabchhplmncnaaGreatDoor
open Go.RowKit

def BoolRow (B : Nat) (wr : World) (len : Nat) (f : Nat → Bool) : Prop :=
  ∃ c : Array Value, wr.heap[B]? = some (.cells c 4 (0, 0)) ∧ c.size = len ∧ ∀ k, k < len → c[k]? = some (.bool (f k))

theorem BoolRow.cell {B : Nat} {wr : World} {len : Nat} {f : Nat → Bool} (h : BoolRow B wr len f) {k : Nat} (hk : k < len) : wr.cell? ⟨B, k, none⟩ = some (.bool (f k)) := by
  obtain ⟨c, h1, h2, h3⟩ := h
  simp only [World.cell?, h1]
  exact h3 k hk
theorem BoolRow.free {B : Nat} {wr : World} {len : Nat} {f : Nat → Bool} (h : BoolRow B wr len f) (k : Nat) : wr.frozen? ⟨B, k, none⟩ = false := by
  obtain ⟨c, h1, h2, h3⟩ := h
  simp [World.frozen?, h1]
theorem BoolRow.keep {B : Nat} {wr w' : World} {len : Nat} {f : Nat → Bool} {O : Nat → Prop} (h : BoolRow B wr len f) (hc : Chg O wr w') (hB : ¬ O B) : BoolRow B w' len f := by
  obtain ⟨c, h1, h2⟩ := h
  refine ⟨c, ?_, h2⟩
  rw [hc.block B (Array.getElem?_eq_some_iff.1 h1).1 hB]
  exact h1
theorem BoolRow.set {B : Nat} {wr : World} {len : Nat} {f : Nat → Bool} (h : BoolRow B wr len f) {k : Nat} (hk : k < len) (b : Bool) {g : Nat → Bool} (hg : ∀ j, j < len → g j = if j = k then b else f j) :
    BoolRow B (wr.setCell ⟨B, k, none⟩ (.bool b)) len g := by
  obtain ⟨c, h1, h2, h3⟩ := h
  refine ⟨c.setIfInBounds k (.bool b), ?_, by simpa using h2, ?_⟩
  · simp [World.setCell, Array.getElem?_modify, h1]
  · intro j hj
    rw [Array.getElem?_setIfInBounds, hg j hj]
    by_cases e : j = k
    · subst e; simp [h2, hj]
    · rw [if_neg (fun h => e h.symm), if_neg e]; exact h3 j hj

end Go.Proofs.YtgabchhplmncnaaGreatDoor
namespace Go.Proofs.YtgabchhplmncnaaGreatDoor
open Go.RowKit

/-- 'append(v, y)' at a step of a region that draws: y's cells have just been laid in a block of their own -/
theorem step_push {P : Program} {ops : Array Oper} {o : Oper} {a : Act} {K : Act → World → Prop} {Q : Exit → Act → World → Prop} {E : Prop} (hgd : o.guard = none) (s x : Operand) (t : TypeId)
    (ho : o.op = .call { callee := .builtin .append, args := #[s, x], argTypes := #[t, t] }) {α : Type} [Dat α] {e : TypeId} (hP : ElemOk P t e (Dat.n α)) {w0 : World} {O : Nat → Prop} {v : Value} {l : List α} {y : α} {es : List Value} {E' : TypeId} {B : Nat}
    (hs : a.eval s = v) (hx : a.eval x = .slice (some ⟨B, 0, none⟩) 1 1) (hB : B = w0.heap.size)
    (hown : Own e w0 O v l) (hy : Dat.rd w0 (fun k => O k ∨ v.ownBlock = some k) es y) (hO : ∀ k, O k → k < w0.heap.size) (hlen : l.length ≤ 1000000000)
    (h : ∀ v' w', Own e w' O v' (l ++ [y]) → Chg (OwnB v) w0 w' → (∃ k, v'.ownBlock = some k ∧ (v.ownBlock = some k ∨ w0.heap.size ≤ k)) → K (a.put o.dst v') w') :
    if Region.wanted o (yielded ops a.tmps) = true then Oper.wp P o a (w0.alloc (.cells es.toArray E')) K Q else E := by
  have hw : Region.wanted o (yielded ops a.tmps) = true := by simp [Region.wanted, hgd]
  rw [if_pos hw]
  subst hB
  obtain ⟨v', w', hrun, h1, h2, h3⟩ := run_push (ty := o.type) hP E' hown hy hO hlen
  unfold Oper.wp execOp
  simp only [ho, resolve, invoke, builtin, Sem.run_bind, Sem.run_pure, Result.andThen_ok, List.map_toArray, List.map_cons, List.map_nil, hs, hx, hrun]
  exact h v' w' h1 h2 h3

theorem own_slice {v : Value} {p : Nat → Prop} (h : ∃ k, v.ownBlock = some k ∧ p k) : ∃ a n c, v = .slice (some a) n c := by
  obtain ⟨k, hk, _⟩ := h
  unfold Value.ownBlock at hk
  split at hk
  · exact ⟨_, _, _, rfl⟩
  · cases hk

/-- the hunks so far -/
def CutOwn (w : World) (O : Nat → Prop) (v : Value) (l : List Hunk) (was : Bool) : Prop :=
  if was = true then ∃ init h mv xs, l = init ++ [h] ∧ OwnLast 130 127 w O v init h mv xs else Own 130 w O v l
theorem CutOwn.own {w : World} {O : Nat → Prop} {v : Value} {l : List Hunk} {was : Bool} (h : CutOwn w O v l was) : Own 130 w O v l := by
  unfold CutOwn at h
  split at h
  · obtain ⟨init, q, mv, xs, rfl, hl⟩ := h
    exact hl.own
  · exact h


end Go.Proofs.YtgabchhplmncnaaGreatDoor
namespace Go.Proofs.YtgabchhplmncnaaGreatDoor
open Go.RowKit

end Go.Proofs.YtgabchhplmncnaaGreatDoor
namespace Go.Proofs.YtgabchhplmncnaaGreatDoor
open Go.RowKit

end Go.Proofs.YtgabchhplmncnaaGreatDoor
namespace Go.Proofs.YtgabchhplmncnaaGreatDoor
open Go.RowKit

theorem byte_at {s : ByteArray} {k : Nat} (h : k < s.size) : s.data.toList[k]? = some (s[k]'h) := by
  rw [Array.getElem?_toList, Array.getElem?_eq_getElem h]; rfl
theorem byte_eq {c d : UInt8} {n : Int} (h : ((c.toNat : Int) == n) = true) (hd : (d.toNat : Int) = n) : c = d := by
  have := eq_of_beq h
  exact UInt8.toNat_inj.1 (by omega)
theorem byte_ne {c d : UInt8} {n : Int} (h : ((c.toNat : Int) == n) = false) (hd : (d.toNat : Int) = n) : c ≠ d := by
  rintro rfl
  rw [hd] at h
  simp at h
/-- how far a text has been parted -/
def PartsInv (d : UInt8) (s : ByteArray) (q k : Nat) (L : List ByteArray) : Prop :=
  parts d s.data.toList = L.map (·.data.toList) ++ parts d (s.data.toList.drop q) ∧ ∀ j, q ≤ j → j < k → s.data.toList[j]? ≠ some d
theorem pinv_start (d : UInt8) (s : ByteArray) : PartsInv d s 0 0 [] := ⟨by simp, fun j _ h => absurd h (Nat.not_lt_zero j)⟩
theorem PartsInv.step {d : UInt8} {s : ByteArray} {q k : Nat} {L : List ByteArray} {c : UInt8} (h : PartsInv d s q k L) (hk : s.data.toList[k]? = some c) (hc : c ≠ d) : PartsInv d s q (k + 1) L :=
  ⟨h.1, fun j h1 h2 e => by
    by_cases hj : j = k
    · subst hj; rw [hk] at e; injection e with e; exact hc e
    · exact h.2 j h1 (by omega) e⟩
theorem no_sep {d : UInt8} {s : List UInt8} {q k : Nat} (h : ∀ j, q ≤ j → j < k → s[j]? ≠ some d) : ∀ x ∈ (s.drop q).take (k - q), x ≠ d := by
  rintro x hx rfl
  obtain ⟨i, hi⟩ := List.getElem?_of_mem hx
  rw [List.getElem?_take] at hi
  split at hi
  · rw [List.getElem?_drop] at hi
    exact h (q + i) (by omega) (by omega) hi
  · cases hi
theorem PartsInv.cut {d : UInt8} {s : ByteArray} {q k : Nat} {L : List ByteArray} (h : PartsInv d s q k L) (hq : q ≤ k) (hk : s.data.toList[k]? = some d) : PartsInv d s (k + 1) (k + 1) (L ++ [s.extract q k]) := by
  refine ⟨?_, fun j h1 h2 => by omega⟩
  have e : s.data.toList.drop q = (s.data.toList.drop q).take (k - q) ++ d :: s.data.toList.drop (k + 1) := by
    conv => lhs; rw [← List.take_append_drop (k - q) (s.data.toList.drop q), List.drop_drop, show q + (k - q) = k by omega, drop_eq hk]
  rw [h.1, e, parts_cut _ (no_sep h.2), List.map_append, List.append_assoc]
  simp only [List.map_cons, List.map_nil, List.singleton_append]
  rw [Lib.extract_data]
theorem PartsInv.fin {d : UInt8} {s : ByteArray} {q : Nat} {L : List ByteArray} (h : PartsInv d s q s.size L) : (parts d s.data.toList).map toB = L ++ [s.extract q s.size] := by
  have hl : s.data.toList.length = s.size := (Lib.size_eq s).symm
  have e : (s.data.toList.drop q).take (s.size - q) = s.data.toList.drop q := List.take_of_length_le (by rw [List.length_drop, hl]; exact Nat.le_refl _)
  have hn := no_sep h.2
  rw [e] at hn
  have e2 : toB (s.data.toList.drop q) = s.extract q s.size := by rw [← e, ← Lib.extract_data, toB_of]
  rw [h.1, parts_none hn, List.map_append, List.map_map, map_toB, List.map_cons, List.map_nil, e2]

theorem elemOk_parts : ElemOk Tryz.prog 84 9 1 := elemOk_of Tryz.underlying84 (z := .string ⟨#[]⟩) (b := 16) (by kernel_rfl) rfl (by decide)
set_option maxHeartbeats 1000000 in
set_option maxRecDepth 100000 in
theorem refParts_any (s : ByteArray) (w : World) (hs : s.size ≤ 100000000) :
    Calls Tryz.prog 38 #[.string s] w fun e w' => ∃ r, e = .returned r ∧ Chg Never w w' ∧ Rdv w' (Old w.heap.size) r ((parts 10 s.data.toList).map toB) := by
  go_enter Tryz.func38, Tryz.ntmps38
  go_wp2_with fail
  go_loopw [3, 4, 5] (fun o fr i wr => ∃ (q k : Nat) (L : List ByteArray), fr = .int .i64 q ∧ i = .int .i64 k ∧ q ≤ k ∧ k ≤ s.size ∧ Chg Never w wr ∧ Own 9 wr (Old w.heap.size) o L ∧ L.length ≤ k ∧ Hid (PartsInv 10 s q k L)) (fun _ _ i _ => s.size - (intOf i).toNat)
  case atStart => exact ⟨0, 0, [], rfl, rfl, Nat.le_refl _, Nat.zero_le _, Chg.refl _ _, own_nil _ _ _, Nat.le_refl _, pinv_start _ _⟩
  case round =>
    obtain ⟨q, k, L, rfl, rfl, hqk, hk, hc, hown, hL, hP⟩ := hrel
    by_cases hlt : k < s.size
    · have HB := Lib.hid (byte_at hlt)
      cases hq : (((s[k]'hlt).toNat : Int) == 10) with
      | true =>
        have HC : Hid (PartsInv 10 s (k + 1) (k + 1) (L ++ [s.extract q k])) := hP.out.cut hqk (by rw [HB.out, byte_eq (d := 10) hq rfl])
        have hes : (s.extract q k).size ≤ maxLen := by rw [ByteArray.size_extract]; unfold maxLen; omega
        go_wp2_with (at_builtin; refine wpList_push (by rfl) _ _ 84 (by rfl) elemOk_parts (O := Old w.heap.size) (l := L) (y := s.extract q k) (by rfl) (by rfl) (by simp) hown ⟨rfl, hes⟩ (old_lt hc) (by omega) ?_; intro v' w2 hown2 hc2 _)
        have hc3 := own_step hc hown hc2
        clear hc2 hown hc
        go_wp2_with fail
        go_roundw
        case rel => exact ⟨k + 1, k + 1, _, by go_num, by go_num, Nat.le_refl _, by omega, hc3, hown2, by simp; omega, HC⟩
        case measure => simp [intOf] <;> omega
      | false =>
        have HC : Hid (PartsInv 10 s q (k + 1) L) := hP.out.step HB.out (byte_ne hq rfl)
        go_wp2_with fail
        go_roundw
        case rel => exact ⟨q, k + 1, L, rfl, by go_num, by omega, by omega, hc, hown, by omega, HC⟩
        case measure => simp [intOf] <;> omega
    · obtain rfl : k = s.size := by omega
      have HC := Lib.hid hP.out.fin
      have hes : (s.extract q s.size).size ≤ maxLen := by rw [ByteArray.size_extract]; unfold maxLen; omega
      go_wp2_with (at_builtin; refine wpList_push (by rfl) _ _ 84 (by rfl) elemOk_parts (O := Old w.heap.size) (l := L) (y := s.extract q s.size) (by rfl) (by rfl) (by simp) hown ⟨rfl, hes⟩ (old_lt hc) (by omega) ?_; intro v' w2 hown2 hc2 _)
      have hc3 := own_step hc hown hc2
      clear hc2 hown hc
      go_wp2_with fail
      go_ret
      exact ⟨_, rfl, hc3, by rw [HC.out]; exact hown2.rdv⟩

end Go.Proofs.YtgabchhplmncnaaGreatDoor
namespace Go.Proofs.YtgabchhplmncnaaGreatDoor
open Go.RowKit

/-! ### turned -/

end Go.Proofs.YtgabchhplmncnaaGreatDoor
namespace Go.Proofs.YtgabchhplmncnaaGreatDoor
open Go.RowKit

theorem elems_cells {α : Type} [Dat α] {w : World} {O : Nat → Prop} {b off : Nat} {m : List α} (h : Elems w O (some ⟨b, off, none⟩) m) : ∀ k, k ≤ m.length →
    ∃ news : List Value, news.length = k * Dat.n α ∧ (∀ (j : Nat) (u : Value), news[j]? = some u → w.cell? ⟨b, off + j, none⟩ = some u) ∧ (∀ u ∈ news, u.oneCell' = true) ∧
      (∀ (i : Nat) (x : α), i < k → m[i]? = some x → Dat.rd w O ((news.drop (i * Dat.n α)).take (Dat.n α)) x) := by
  intro k
  induction k with
  | zero => intro _; exact ⟨[], by simp, by simp, by simp, fun i x hi => by omega⟩
  | succ k ih =>
    intro hk
    obtain ⟨news, h1, h2, h3, h4⟩ := ih (by omega)
    have hx : m[k]? = some m[k] := by simp
    obtain ⟨b', off', es, he, hb, hcs, hr⟩ := h k m[k] hx
    simp only [Option.some.injEq, Addr.mk.injEq, and_true] at he
    obtain ⟨rfl, rfl⟩ := he
    have hes := Dat.len hr
    refine ⟨news ++ es, by rw [List.length_append, h1, hes, Nat.succ_mul], ?_, ?_, ?_⟩
    · intro j u hj
      rcases Nat.lt_or_ge j news.length with hl | hl
      · rw [List.getElem?_append_left hl] at hj
        exact h2 j u hj
      · rw [List.getElem?_append_right hl] at hj
        have := hcs _ u hj
        rw [show off + k * Dat.n α + (j - news.length) = off + j by omega] at this
        exact this
    · intro u hu
      rcases List.mem_append.1 hu with hu | hu
      · exact h3 u hu
      · exact Dat.one hr u hu
    · intro i x hi hxi
      rcases Nat.lt_or_ge i k with hl | hl
      · have hle : i * Dat.n α + Dat.n α ≤ news.length := by rw [h1, ← Nat.succ_mul]; exact Nat.mul_le_mul_right _ hl
        rw [List.drop_append_of_le_length (by omega), List.take_append_of_le_length (by rw [List.length_drop]; omega)]
        exact h4 i x hl hxi
      · obtain rfl : i = k := by omega
        rw [hx] at hxi
        injection hxi with hxi
        subst hxi
        rw [← h1, List.drop_left, List.take_of_length_le (by omega)]
        exact hr

theorem run_append_empty {P : Program} {t ty e : TypeId} {n : Nat} (hP : ElemOk P t e n) {w : World} {v : Value} {m : Nat} {xs : List Value} (hown : w.ownsRow 0 e n v m xs) (a : Option Addr) (c : Nat) :
    (Builtin.append_ #[t, t] ty #[v, .slice a 0 c]).run P w = .ok v w := by
  obtain ⟨i, z, hi, _⟩ := hP.info
  have ht := hP.ht
  cases a with
  | none =>
    rcases hown.2 with ⟨rfl, rfl⟩ | ⟨g, cap, cur, rfl, _, _, hnc, _⟩
    · simp [Builtin.append_, run_underlying ht, sizeOf, typeInfo, hi, Builtin.lenOf, Builtin.firstCells]
    · simp [Builtin.append_, run_underlying ht, sizeOf, typeInfo, hi, Builtin.lenOf, Builtin.firstCells, hnc, storeCells]
  | some a =>
    rcases hown.2 with ⟨rfl, rfl⟩ | ⟨g, cap, cur, rfl, _, _, hnc, _⟩
    · simp [Builtin.append_, run_underlying ht, sizeOf, typeInfo, hi, Builtin.lenOf, Builtin.firstCells, loadCells, loadCellsFrom]
    · simp [Builtin.append_, run_underlying ht, sizeOf, typeInfo, hi, Builtin.lenOf, Builtin.firstCells, loadCells, loadCellsFrom, hnc, storeCells]

/-! ### a slice's slice -/
theorem elems_sub {α : Type} [Dat α] {w : World} {O : Nat → Prop} {b off : Nat} {l : List α} (h : Elems w O (some ⟨b, off, none⟩) l) (i k : Nat) : Elems w O (some ⟨b, off + i * Dat.n α, none⟩) ((l.drop i).take k) := by
  intro q x hx
  rw [List.getElem?_take] at hx
  split at hx
  · rw [List.getElem?_drop] at hx
    obtain ⟨b', off', es, he, hb, hcs, hr⟩ := h (i + q) x hx
    simp only [Option.some.injEq, Addr.mk.injEq, and_true] at he
    obtain ⟨rfl, rfl⟩ := he
    refine ⟨b, _, es, rfl, hb, ?_, hr⟩
    rw [Nat.add_assoc, ← Nat.add_mul]
    exact hcs
  · cases hx
/-- 's[i:j]' as a value -/
theorem rdv_sliced {α : Type} [Dat α] {w : World} {O : Nat → Prop} {a : Option Addr} {cap : Nat} {l : List α} (h : Rdv w O (.slice a l.length cap) l) (i j : Nat) (hij : i ≤ j) (hj : j ≤ l.length) :
    Rdv w O (sliced a i j cap (Dat.n α)) ((l.drop i).take (j - i)) := by
  obtain ⟨a', cap', e, h1, h2, h3⟩ := rdv_slice h
  simp only [Value.slice.injEq, true_and] at e
  obtain ⟨rfl, rfl⟩ := e
  have hl : ((l.drop i).take (j - i)).length = j - i := by rw [List.length_take, List.length_drop]; omega
  refine ⟨if cap = i then a else a.map (·.add (i * Dat.n α)), cap - i, by rw [hl]; rfl, by rw [hl]; omega, by omega, ?_⟩
  by_cases hc : cap = i
  · have : (l.drop i).take (j - i) = [] := List.eq_nil_of_length_eq_zero (by rw [hl]; omega)
    rw [this]
    intro q x hx
    simp at hx
  · rw [if_neg hc]
    intro q x hx
    have hq := (List.getElem?_eq_some_iff.1 hx).1
    have hpos : 0 < l.length := by rw [hl] at hq; omega
    obtain ⟨b, off, es, ha, _⟩ := h3 0 l[0] (by simp [hpos])
    subst ha
    have e1 : (some (⟨b, off, none⟩ : Addr)).map (·.add (i * Dat.n α)) = some ⟨b, off + i * Dat.n α, none⟩ := by
      simp only [Option.map_some]
      unfold Addr.add
      split <;> simp_all
    rw [e1]
    exact elems_sub h3 i (j - i) q x hx
theorem sliced_isSlice (a : Option Addr) (i j cap s : Nat) : ∃ b, sliced a i j cap s = .slice b (j - i) (cap - i) := ⟨_, rfl⟩
end Go.Proofs.YtgabchhplmncnaaGreatDoor
namespace Go.Proofs.YtgabchhplmncnaaGreatDoor
open Go.RowKit

theorem size_str (w : World) : (sizeOf (Tryz.prog.elem 84)).run Tryz.prog w = .ok 1 w := by kernel_rfl
end Go.Proofs.YtgabchhplmncnaaGreatDoor
namespace Go.Proofs.YtgabchhplmncnaaGreatDoor
open Go.RowKit

end Go.Proofs.YtgabchhplmncnaaGreatDoor
namespace Go.Proofs.YtgabchhplmncnaaGreatDoor
open Go.RowKit

end Go.Proofs.YtgabchhplmncnaaGreatDoor
namespace Go.Proofs.YtgabchhplmncnaaGreatDoor
open Go.RowKit

theorem those_signs {l : List Mark} (h : scriptFault l = 0) {k : Nat} {x : Mark} (hx : l[k]? = some x) : x.sign = 32 ∨ x.sign = 45 ∨ x.sign = 43 := by
  have := (scriptFault_zero.1 h).2 x (List.mem_of_getElem? hx)
  unfold markFault at this
  by_cases h1 : x.sign ≠ 32 ∧ x.sign ≠ 45 ∧ x.sign ≠ 43
  · rw [if_pos h1] at this; simp at this
  · omega

set_option maxHeartbeats 1000000 in
set_option maxRecDepth 100000 in
theorem refNew_any (l : List Mark) (v : Value) (w : World) (h : Rdv w Never v l) (hz : scriptFault l = 0) :
    Calls Tryz.prog 87 #[v] w fun e w' => ∃ r, e = .returned r ∧ Chg Never w w' ∧ Rdv w' (Old w.heap.size) r (those l 45) := by
  have hlen := scriptFault_len hz
  have HZ := Lib.hid hz
  clear hz
  obtain ⟨a, cap, rfl, h1, h2, h3⟩ := rdv_slice h
  unfold maxLen at h2
  go_enter Tryz.func87, Tryz.ntmps87
  go_wp2_with fail
  go_loopw [3, 4] (fun o i wr => ∃ k : Nat, k ≤ l.length ∧ i = .int .i64 k ∧ Chg Never w wr ∧ Own 9 wr (Old w.heap.size) o (those (l.take k) 45)) (fun _ i _ => l.length - (intOf i).toNat)
  case atStart => exact ⟨0, Nat.zero_le _, rfl, Chg.refl _ _, own_nil _ _ _⟩
  case round =>
    obtain ⟨k, hk, rfl, hc, hown⟩ := hrel
    by_cases hlt : k < l.length
    · obtain ⟨x, hx⟩ : ∃ x, l[k]? = some x := ⟨l[k], by simp [hlt]⟩
      obtain ⟨b, off, rfl, _, _, c0, c1, s0, s1, hxs⟩ := elems_mark h3 hx
      have c0 := hc.cellNever c0
      have c1 := hc.cellNever c1
      have ht := Lib.hid (those_take (no := 45) hx)
      have hle := those_le (l.take k) 45
      have hle2 : (l.take k).length ≤ 120 := by simp; omega
      have hsg := those_signs HZ.out hx
      clear hx h3 h
      obtain ⟨sg, tx⟩ := x
      simp only at c0 c1 s0 s1 hxs hsg
      rcases hsg with rfl | rfl | rfl
      all_goals
        first
          | (have hno : Hid ((32 : Int) ≠ 45 ∧ True) := ⟨by decide, trivial⟩
             go_wp2_with (at_builtin; refine wpList_push (by rfl) _ _ 84 (by rfl) elemOk_str (O := Old w.heap.size) (l := those (l.take k) 45) (y := tx) (by rfl) (by rfl) (by simp) hown ⟨rfl, hxs⟩ (old_lt hc) (by omega) ?_; intro v' w2 hown2 hc2 _)
             have hc3 := own_step hc hown hc2
             clear hc2 hle hle2
             go_wp2_with fail
             go_roundw
             case rel => exact ⟨k + 1, by omega, by go_num, hc3, by rw [ht.out, if_neg (by simp)]; exact hown2⟩
             case measure => simp [intOf] <;> omega)
          | (clear hle hle2
             go_wp2_with fail
             go_roundw
             case rel => exact ⟨k + 1, by omega, by go_num, hc, by rw [ht.out, if_pos (by simp)]; exact hown⟩
             case measure => simp [intOf] <;> omega)
    · go_wp2_with fail
      go_ret
      rw [List.take_of_length_le (by omega)] at hown
      exact ⟨_, rfl, hc, hown.rdv⟩
set_option maxHeartbeats 1000000 in
set_option maxRecDepth 100000 in
theorem refOld_any (l : List Mark) (v : Value) (w : World) (h : Rdv w Never v l) (hz : scriptFault l = 0) :
    Calls Tryz.prog 86 #[v] w fun e w' => ∃ r, e = .returned r ∧ Chg Never w w' ∧ Rdv w' (Old w.heap.size) r (those l 43) := by
  have hlen := scriptFault_len hz
  have HZ := Lib.hid hz
  clear hz
  obtain ⟨a, cap, rfl, h1, h2, h3⟩ := rdv_slice h
  unfold maxLen at h2
  go_enter Tryz.func86, Tryz.ntmps86
  go_wp2_with fail
  go_loopw [3, 4] (fun o i wr => ∃ k : Nat, k ≤ l.length ∧ i = .int .i64 k ∧ Chg Never w wr ∧ Own 9 wr (Old w.heap.size) o (those (l.take k) 43)) (fun _ i _ => l.length - (intOf i).toNat)
  case atStart => exact ⟨0, Nat.zero_le _, rfl, Chg.refl _ _, own_nil _ _ _⟩
  case round =>
    obtain ⟨k, hk, rfl, hc, hown⟩ := hrel
    by_cases hlt : k < l.length
    · obtain ⟨x, hx⟩ : ∃ x, l[k]? = some x := ⟨l[k], by simp [hlt]⟩
      obtain ⟨b, off, rfl, _, _, c0, c1, s0, s1, hxs⟩ := elems_mark h3 hx
      have c0 := hc.cellNever c0
      have c1 := hc.cellNever c1
      have ht := Lib.hid (those_take (no := 43) hx)
      have hle := those_le (l.take k) 43
      have hle2 : (l.take k).length ≤ 120 := by simp; omega
      have hsg := those_signs HZ.out hx
      clear hx h3 h
      obtain ⟨sg, tx⟩ := x
      simp only at c0 c1 s0 s1 hxs hsg
      rcases hsg with rfl | rfl | rfl
      all_goals
        first
          | (have hno : Hid ((32 : Int) ≠ 43 ∧ True) := ⟨by decide, trivial⟩
             go_wp2_with (at_builtin; refine wpList_push (by rfl) _ _ 84 (by rfl) elemOk_str (O := Old w.heap.size) (l := those (l.take k) 43) (y := tx) (by rfl) (by rfl) (by simp) hown ⟨rfl, hxs⟩ (old_lt hc) (by omega) ?_; intro v' w2 hown2 hc2 _)
             have hc3 := own_step hc hown hc2
             clear hc2 hle hle2
             go_wp2_with fail
             go_roundw
             case rel => exact ⟨k + 1, by omega, by go_num, hc3, by rw [ht.out, if_neg (by simp)]; exact hown2⟩
             case measure => simp [intOf] <;> omega)
          | (clear hle hle2
             go_wp2_with fail
             go_roundw
             case rel => exact ⟨k + 1, by omega, by go_num, hc, by rw [ht.out, if_pos (by simp)]; exact hown⟩
             case measure => simp [intOf] <;> omega)
    · go_wp2_with fail
      go_ret
      rw [List.take_of_length_le (by omega)] at hown
      exact ⟨_, rfl, hc, hown.rdv⟩
end Go.Proofs.YtgabchhplmncnaaGreatDoor
namespace Go.Proofs.YtgabchhplmncnaaGreatDoor
open Go.RowKit

theorem nl_mem {s : ByteArray} {k : Nat} (hlt : k < s.size) (h : (((s[k]'hlt).toNat : Int) == 10) = true) : hasNl s = true := by
  unfold hasNl
  have h1 : (s[k]'hlt).toNat = 10 := by have := eq_of_beq h; omega
  have h2 : s[k]'hlt = (10 : UInt8) := UInt8.toNat_inj.1 h1
  have h3 : s.data[k]'hlt = (10 : UInt8) := h2
  rw [List.contains_iff_mem, Array.mem_toList_iff]
  rw [← h3]
  exact Array.getElem_mem _
theorem nl_none {s : ByteArray} (h : ∀ (j : Nat) (hj : j < s.size), (((s[j]'hj).toNat : Int) == 10) = false) : hasNl s = false := by
  unfold hasNl
  rw [Bool.eq_false_iff]
  intro e
  rw [List.contains_iff_mem, Array.mem_toList_iff] at e
  obtain ⟨j, hj, e⟩ := Array.mem_iff_getElem.1 e
  have := h j hj
  have h2 : s[j]'hj = (10 : UInt8) := e
  rw [h2] at this
  exact absurd this (by decide)

set_option maxHeartbeats 1000000 in
set_option maxRecDepth 100000 in
theorem refLine_any (s : ByteArray) (w : World) (hs : s.size ≤ maxLen) :
    Calls Tryz.prog 100 #[.string s] w fun e w' => e = .returned (.int .i64 (lineFault s)) ∧ Chg Never w w' := by
  unfold maxLen at hs
  go_enter Tryz.func100, Tryz.ntmps100
  go_wp2_with fail
  go_loopw [3] (fun i wr => ∃ k : Nat, k ≤ s.size ∧ i = .int .i64 k ∧ Chg Never w wr ∧ Hid (∀ (j : Nat), j < k → ∀ (hj : j < s.size), (((s[j]'hj).toNat : Int) == 10) = false)) (fun i _ => s.size - (intOf i).toNat)
  case atStart => exact ⟨0, Nat.zero_le _, rfl, Chg.refl _ _, fun j h => absurd h (Nat.not_lt_zero j)⟩
  case round =>
    obtain ⟨k, hk, rfl, hc, hf⟩ := hrel
    by_cases hlt : k < s.size
    · cases hq : (((s[k]'hlt).toNat : Int) == 10) with
      | true =>
        have HN := Lib.hid (nl_mem hlt hq)
        go_wp2_with fail
        go_ret
        exact ⟨by rw [lineFault, if_pos HN.out]; rfl, hc⟩
      | false =>
        have HQ : Hid ((((s[k]'hlt).toNat : Int) == 10) = false) := hq
        go_wp2_with fail
        go_roundw
        case rel => exact ⟨k + 1, by omega, by go_num, hc, fun j hj hj' => by
          by_cases e : j = k
          · subst e; exact HQ.out
          · exact hf.out j (by omega) hj'⟩
        case measure => simp [intOf] <;> omega
    · have HN := Lib.hid (nl_none (fun j hj => hf.out j (by omega) hj))
      clear hf
      by_cases h80 : 80 < s.size
      · go_wp2_with fail
        go_ret
        exact ⟨by rw [lineFault, if_neg (by rw [HN.out]; decide), if_pos h80]; rfl, hc⟩
      · go_wp2_with fail
        go_ret
        exact ⟨by rw [lineFault, if_neg (by rw [HN.out]; decide), if_neg h80]; rfl, hc⟩

theorem firstOf_bad {α : Type} (f : α → Int) : ∀ (l : List α) (k : Nat) (x : α), (∀ y ∈ l.take k, f y = 0) → l[k]? = some x → f x ≠ 0 → firstOf f l = f x
  | [], _, _, _, h, _ => by simp at h
  | y :: r, 0, x, _, h, hx => by
    simp only [List.getElem?_cons_zero, Option.some.injEq] at h
    subst h
    rw [firstOf, if_neg hx]
  | y :: r, k + 1, x, ha, h, hx => by
    rw [firstOf, if_pos (ha y (by simp))]
    exact firstOf_bad f r k x (fun z hz => ha z (by simp [hz])) (by simpa using h) hx
theorem take_all_succ {α : Type} {p : α → Prop} {l : List α} {k : Nat} {x : α} (h : ∀ y ∈ l.take k, p y) (hx : l[k]? = some x) (hp : p x) : ∀ y ∈ l.take (k + 1), p y := by
  intro y hy
  rw [List.take_add_one, hx] at hy
  rcases List.mem_append.1 hy with h' | h'
  · exact h y h'
  · simp at h'; rw [h']; exact hp

theorem markFault_line' {sg : Int} (h : sg = 32 ∨ sg = 45 ∨ sg = 43) (tx : ByteArray) : markFault ⟨sg, tx⟩ = lineFault tx := by
  unfold markFault
  rw [if_neg (by simp only []; omega)]
set_option maxHeartbeats 2000000 in
set_option maxRecDepth 100000 in
theorem refScript_any (l : List Mark) (v : Value) (w : World) (h : Rdv w Never v l) :
    Calls Tryz.prog 127 #[v] w fun e w' => e = .returned (.int .i64 (scriptFault l)) ∧ Chg Never w w' := by
  obtain ⟨a, cap, rfl, h1, h2, h3⟩ := rdv_slice h
  unfold maxLen at h2
  by_cases h60 : 120 < l.length
  · have HF : Hid (scriptFault l = 3) := if_pos h60
    go_enter Tryz.func127, Tryz.ntmps127
    go_wp2_with fail
    go_ret
    exact ⟨by rw [HF.out]; rfl, Chg.refl _ _⟩
  · have HF : Hid (scriptFault l = firstOf markFault l) := if_neg h60
    go_enter Tryz.func127, Tryz.ntmps127
    go_wp2_with fail
    go_loopw [3] (fun i wr => ∃ k : Nat, k ≤ l.length ∧ i = .int .i64 k ∧ Chg Never w wr ∧ Hid (∀ y ∈ l.take k, markFault y = 0)) (fun i _ => l.length - (intOf i).toNat)
    case atStart => exact ⟨0, Nat.zero_le _, rfl, Chg.refl _ _, fun y hy => by simp at hy⟩
    case round =>
      obtain ⟨k, hk, rfl, hc, hf⟩ := hrel
      by_cases hlt : k < l.length
      · obtain ⟨x, hx⟩ : ∃ x, l[k]? = some x := ⟨l[k], by simp [hlt]⟩
        obtain ⟨b, off, rfl, _, _, c0, c1, s0, s1, hxs⟩ := elems_mark h3 hx
        have c0 := hc.cellNever c0
        have c1 := hc.cellNever c1
        obtain ⟨sg, tx⟩ := x
        simp only at c0 c1 s0 s1 hxs
        have HX := Lib.hid hx
        clear hx h3 h
        by_cases hs : sg = 32 ∨ sg = 45 ∨ sg = 43
        · have HM := Lib.hid (markFault_line' hs tx)
          by_cases hz : lineFault tx = 0
          · have HZ : Hid (markFault ⟨sg, tx⟩ = 0) := by rw [Hid, HM.out, hz]
            have HL := Lib.hid hz
            clear hz
            rcases hs with rfl | rfl | rfl
            all_goals
              go_wp2_with fail
              refine (refLine_any tx _ hxs).mono ?_
              rintro e w2 ⟨rfl, hc2⟩
              rw [HL.out]
              have hc := hc.trans hc2
              go_wp2_with fail
              go_roundw
              case rel => exact ⟨k + 1, by omega, by go_num, hc, take_all_succ hf.out HX.out HZ.out⟩
              case measure => simp [intOf] <;> omega
          · have HB := Lib.hid (firstOf_bad markFault l k _ hf.out HX.out (by rw [HM.out]; exact hz))
            have t1 : (lineFault tx == 0) = false := by simp [hz]
            have t2 : (lineFault tx != 0) = true := by simp [hz]
            clear hz
            rcases hs with rfl | rfl | rfl
            all_goals
              go_wp2_with fail
              refine (refLine_any tx _ hxs).mono ?_
              rintro e w2 ⟨rfl, hc2⟩
              have hc := hc.trans hc2
              go_wp2_with fail
              go_ret
              exact ⟨by rw [HF.out, HB.out, HM.out]; rfl, hc⟩
        · have HZ : Hid (markFault ⟨sg, tx⟩ = 1) := by unfold Hid markFault; rw [if_pos (by simp only []; omega)]
          have HB := Lib.hid (firstOf_bad markFault l k _ hf.out HX.out (by rw [HZ.out]; decide))
          have t1 : (sg != 32) = true := by simp; omega
          have t2 : (sg != 45) = true := by simp; omega
          have t3 : (sg != 43) = true := by simp; omega
          clear hs
          go_wp2_with fail
          go_ret
          exact ⟨by rw [HF.out, HB.out, HZ.out]; rfl, hc⟩
      · have HZ := Lib.hid ((firstOf_zero markFault l).2 (fun y hy => hf.out y (by rw [List.take_of_length_le (by omega)]; exact hy)))
        go_wp2_with fail
        go_ret
        exact ⟨by rw [HF.out, HZ.out]; rfl, hc⟩
end Go.Proofs.YtgabchhplmncnaaGreatDoor
namespace Go.Proofs.YtgabchhplmncnaaGreatDoor
open Go.RowKit

end Go.Proofs.YtgabchhplmncnaaGreatDoor
namespace Go.Proofs.YtgabchhplmncnaaGreatDoor
open Go.RowKit
theorem rdv_strs {w : World} {O : Nat → Prop} {g : Nat} {e : TypeId} {l : List ByteArray} {n : Nat} (h : w.heap[g]? = some (.cells (l.map Value.string).toArray e (0, 0))) (hO : ¬ O g) (hn : n = l.length) (hl : l.length ≤ maxLen) (hs : ∀ x ∈ l, x.size ≤ maxLen) : Rdv w O (.slice (some ⟨g, 0, none⟩) n n) l := by
  subst hn
  refine ⟨some ⟨g, 0, none⟩, l.length, rfl, Nat.le_refl _, hl, ?_⟩
  intro i x hx
  refine ⟨g, 0, [.string x], rfl, hO, ?_, rfl, hs x (List.mem_of_getElem? hx)⟩
  intro j u hj
  match j, hj with
  | 0, hj =>
    simp only [List.getElem?_cons_zero, Option.some.injEq] at hj
    subst hj
    simp only [World.cell?, h]
    simp [Dat.n, hx]
end Go.Proofs.YtgabchhplmncnaaGreatDoor
namespace Go.Proofs.YtgabchhplmncnaaGreatDoor
open Go.RowKit

theorem parts_count (d : UInt8) : ∀ s, (parts d s).length ≤ s.length + 1
  | [] => by simp [parts]
  | c :: r => by
    have := parts_count d r
    by_cases h : c = d
    · subst h; rw [parts_sep]; simp; omega
    · obtain ⟨h', t, e⟩ := List.exists_cons_of_ne_nil (parts_ne d r)
      rw [parts_other h e]
      rw [e] at this
      simp at this ⊢
      omega

theorem parts_mem (d : UInt8) : ∀ (s : List UInt8) (x : List UInt8), x ∈ parts d s → x.length ≤ s.length
  | [], x, h => by simp [parts] at h; subst h; simp
  | c :: r, x, h => by
    have ih := parts_mem d r
    by_cases hc : c = d
    · subst hc
      rw [parts_sep] at h
      rcases List.mem_cons.1 h with rfl | h
      · simp
      · have := ih x h; simp; omega
    · obtain ⟨h', t, e⟩ := List.exists_cons_of_ne_nil (parts_ne d r)
      rw [parts_other hc e] at h
      rw [e] at ih
      rcases List.mem_cons.1 h with rfl | h
      · have := ih h' (List.mem_cons_self ..); simp; omega
      · have := ih x (List.mem_cons_of_mem _ h); simp; omega
end Go.Proofs.YtgabchhplmncnaaGreatDoor
