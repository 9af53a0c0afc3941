/-
  PARTS: THE WALK of apply.Strict.; THE WALKS of the document's NewOf, OldOf.; ROWS OF BYTES: an element's cell; as a string, and a string as bytes.; THE WALK of the document's HunksText (handstitchref2).; BYTES AS LETTERS, in plain Lean: what is written is read; 57 bytes more ahead are a line more ahead.; MAILS AS TEXTS, in plain Lean (chapter 12): one mail.; BOXES, in plain Lean (chapter 12): one mail behind the other.; PARTS BETWEEN CUTS, in plain Lean: the library's splits are those of the plain laws.; THE WALKS of unified.number and read.; A READER OF HUNKS IN MEMORY ('RdrAt'): a box of three cells: the hunks that have been read (the last one still grows), how many marks it needs.
-/
import Derived.Test.YtmojaahkcpgfkaaGreatDoorPackGu4
import Derived.Test.YtmojaahkcpgfkaaGreatDoorPackGu1
import Derived.Test.YtmojaahkcpgfkaaGreatDoorPackGu2
import Derived.Laws.IdiomStrings
import Derived.Laws.BytesArg
import Derived.Test.YtmojaahkcpgfkaaGreatDoorPackGu3
import Derived.Deep.RegionHeld3
import Derived.Lib.SplitLaws
import Derived.Lib.IndexMore
namespace Go.Proofs.YtmojaahkcpgfkaaGreatDoor
open Go.RowKit

theorem own_shape {α : Type} [Dat α] {e : TypeId} {w : World} {O : Nat → Prop} {v : Value} {l : List α} (h : Own e w O v l) : ∃ a c, v = .slice a l.length c ∧ c ≤ maxLen := by
  obtain ⟨xs, hx, _⟩ := h
  rcases hx.2 with ⟨h, h0⟩ | ⟨g, cap, cur, h, _, _, _, hm, _⟩
  · exact ⟨none, 0, by rw [h, h0], Nat.zero_le _⟩
  · exact ⟨_, _, h, hm⟩

end Go.Proofs.YtmojaahkcpgfkaaGreatDoor
namespace Go.Proofs.YtmojaahkcpgfkaaGreatDoor
open Go.RowKit

theorem those_signs {l : List Mark} (h : scriptFault l = 0) {k : Nat} {x : Mark} (hx : l[k]? = some x) : x.sign = 32 ∨ x.sign = 45 ∨ x.sign = 43 := by
  have := (scriptFault_zero.1 h).2 x (List.mem_of_getElem? hx)
  unfold markFault at this
  by_cases h1 : x.sign ≠ 32 ∧ x.sign ≠ 45 ∧ x.sign ≠ 43
  · rw [if_pos h1] at this; simp at this
  · omega

set_option maxHeartbeats 1000000 in
set_option maxRecDepth 100000 in
theorem refNew_any (l : List Mark) (v : Value) (w : World) (h : Rdv w Never v l) (hz : scriptFault l = 0) :
    Calls Tryz.prog 22 #[v] w fun e w' => ∃ r, e = .returned r ∧ Chg Never w w' ∧ Rdv w' (Old w.heap.size) r (those l 45) := by
  have hlen := scriptFault_len hz
  have HZ := Lib.hid hz
  clear hz
  obtain ⟨a, cap, rfl, h1, h2, h3⟩ := rdv_slice h
  unfold maxLen at h2
  go_enter Tryz.func22, Tryz.ntmps22
  go_wp2_with fail
  go_loopw [3, 4] (fun o i wr => ∃ k : Nat, k ≤ l.length ∧ i = .int .i64 k ∧ Chg Never w wr ∧ Own 9 wr (Old w.heap.size) o (those (l.take k) 45)) (fun _ i _ => l.length - (intOf i).toNat)
  case atStart => exact ⟨0, Nat.zero_le _, rfl, Chg.refl _ _, own_nil _ _ _⟩
  case round =>
    obtain ⟨k, hk, rfl, hc, hown⟩ := hrel
    by_cases hlt : k < l.length
    · obtain ⟨x, hx⟩ : ∃ x, l[k]? = some x := ⟨l[k], by simp [hlt]⟩
      obtain ⟨b, off, rfl, _, _, c0, c1, s0, s1, hxs⟩ := elems_mark h3 hx
      have c0 := hc.cellNever c0
      have c1 := hc.cellNever c1
      have ht := Lib.hid (those_take (no := 45) hx)
      have hle := those_le (l.take k) 45
      have hle2 : (l.take k).length ≤ 120 := by simp; omega
      have hsg := those_signs HZ.out hx
      clear hx h3 h
      obtain ⟨sg, tx⟩ := x
      simp only at c0 c1 s0 s1 hxs hsg
      rcases hsg with rfl | rfl | rfl
      all_goals
        first
          | (have hno : Hid ((32 : Int) ≠ 45 ∧ True) := ⟨by decide, trivial⟩
             go_wp2_with (at_builtin; refine wpList_push (by rfl) _ _ 56 (by rfl) elemOk_str (O := Old w.heap.size) (l := those (l.take k) 45) (y := tx) (by rfl) (by rfl) (by simp) hown ⟨rfl, hxs⟩ (old_lt hc) (by omega) ?_; intro v' w2 hown2 hc2 _)
             have hc3 := own_step hc hown hc2
             clear hc2 hle hle2
             go_wp2_with fail
             go_roundw
             case rel => exact ⟨k + 1, by omega, by go_num, hc3, by rw [ht.out, if_neg (by simp)]; exact hown2⟩
             case measure => simp [intOf] <;> omega)
          | (clear hle hle2
             go_wp2_with fail
             go_roundw
             case rel => exact ⟨k + 1, by omega, by go_num, hc, by rw [ht.out, if_pos (by simp)]; exact hown⟩
             case measure => simp [intOf] <;> omega)
    · go_wp2_with fail
      go_ret
      rw [List.take_of_length_le (by omega)] at hown
      exact ⟨_, rfl, hc, hown.rdv⟩
set_option maxHeartbeats 1000000 in
set_option maxRecDepth 100000 in
theorem refOld_any (l : List Mark) (v : Value) (w : World) (h : Rdv w Never v l) (hz : scriptFault l = 0) :
    Calls Tryz.prog 21 #[v] w fun e w' => ∃ r, e = .returned r ∧ Chg Never w w' ∧ Rdv w' (Old w.heap.size) r (those l 43) := by
  have hlen := scriptFault_len hz
  have HZ := Lib.hid hz
  clear hz
  obtain ⟨a, cap, rfl, h1, h2, h3⟩ := rdv_slice h
  unfold maxLen at h2
  go_enter Tryz.func21, Tryz.ntmps21
  go_wp2_with fail
  go_loopw [3, 4] (fun o i wr => ∃ k : Nat, k ≤ l.length ∧ i = .int .i64 k ∧ Chg Never w wr ∧ Own 9 wr (Old w.heap.size) o (those (l.take k) 43)) (fun _ i _ => l.length - (intOf i).toNat)
  case atStart => exact ⟨0, Nat.zero_le _, rfl, Chg.refl _ _, own_nil _ _ _⟩
  case round =>
    obtain ⟨k, hk, rfl, hc, hown⟩ := hrel
    by_cases hlt : k < l.length
    · obtain ⟨x, hx⟩ : ∃ x, l[k]? = some x := ⟨l[k], by simp [hlt]⟩
      obtain ⟨b, off, rfl, _, _, c0, c1, s0, s1, hxs⟩ := elems_mark h3 hx
      have c0 := hc.cellNever c0
      have c1 := hc.cellNever c1
      have ht := Lib.hid (those_take (no := 43) hx)
      have hle := those_le (l.take k) 43
      have hle2 : (l.take k).length ≤ 120 := by simp; omega
      have hsg := those_signs HZ.out hx
      clear hx h3 h
      obtain ⟨sg, tx⟩ := x
      simp only at c0 c1 s0 s1 hxs hsg
      rcases hsg with rfl | rfl | rfl
      all_goals
        first
          | (have hno : Hid ((32 : Int) ≠ 43 ∧ True) := ⟨by decide, trivial⟩
             go_wp2_with (at_builtin; refine wpList_push (by rfl) _ _ 56 (by rfl) elemOk_str (O := Old w.heap.size) (l := those (l.take k) 43) (y := tx) (by rfl) (by rfl) (by simp) hown ⟨rfl, hxs⟩ (old_lt hc) (by omega) ?_; intro v' w2 hown2 hc2 _)
             have hc3 := own_step hc hown hc2
             clear hc2 hle hle2
             go_wp2_with fail
             go_roundw
             case rel => exact ⟨k + 1, by omega, by go_num, hc3, by rw [ht.out, if_neg (by simp)]; exact hown2⟩
             case measure => simp [intOf] <;> omega)
          | (clear hle hle2
             go_wp2_with fail
             go_roundw
             case rel => exact ⟨k + 1, by omega, by go_num, hc, by rw [ht.out, if_pos (by simp)]; exact hown⟩
             case measure => simp [intOf] <;> omega)
    · go_wp2_with fail
      go_ret
      rw [List.take_of_length_le (by omega)] at hown
      exact ⟨_, rfl, hc, hown.rdv⟩
end Go.Proofs.YtmojaahkcpgfkaaGreatDoor
namespace Go.Proofs.YtmojaahkcpgfkaaGreatDoor
open Go.RowKit

theorem elems_byte {w : World} {O : Nat → Prop} {a : Option Addr} {l : List UInt8} (h : Elems w O a l) {i : Nat} {x : UInt8} (hx : l[i]? = some x) :
    ∃ b off, a = some ⟨b, off, none⟩ ∧ ¬ O b ∧ b < w.heap.size ∧ w.cell? ⟨b, off + i, none⟩ = some (.int .u8 x.toNat) := by
  obtain ⟨b, off, es, ha, hb, hc, rfl⟩ := h i x hx
  refine ⟨b, off, ha, hb, hc.lt (by simp), ?_⟩
  have := hc 0 _ rfl
  rw [show off + i * Dat.n UInt8 + 0 = off + i by show off + i * 1 + 0 = _; omega] at this
  exact this
/-- 'string(b)' -/
theorem conv_str {w : World} {O : Nat → Prop} {v : Value} {l : List UInt8} (h : Rdv w O v l) : (convert 60 9 v).run Tryz.prog w = .ok (.string (toB l)) w := by
  obtain ⟨a, cap, rfl, h1, h2, h3⟩ := rdv_slice h
  by_cases h0 : l = []
  · subst h0
    cases a with
    | none => exact run_convert_bytes_nil w _ 5 Tryz.underlying60 Tryz.underlying5 _ cap _ Tryz.underlying9
    | some a => exact run_convert_bytes_back w _ _ 5 a cap [] Tryz.underlying60 Tryz.underlying5 Tryz.underlying9 (fun j hj => absurd hj (Nat.not_lt_zero j))
  · have hp : 0 < l.length := List.length_pos_iff.2 h0
    obtain ⟨b, off, rfl, _⟩ := elems_byte h3 (i := 0) (x := l[0]) (by simp [hp])
    refine run_convert_bytes_back w _ _ 5 ⟨b, off, none⟩ cap l Tryz.underlying60 Tryz.underlying5 Tryz.underlying9 (fun j hj => ?_)
    obtain ⟨b', off', e, _, _, hc⟩ := elems_byte h3 (i := j) (x := l[j]) (by simp [hj])
    simp only [Option.some.injEq, Addr.mk.injEq, and_true] at e
    obtain ⟨rfl, rfl⟩ := e
    rw [show (⟨b, off, none⟩ : Addr).add j = ⟨b, off + j, none⟩ by unfold Addr.add; split <;> simp_all]
    exact hc
/-- '[]byte(s)' -/
theorem conv_bytes {w : World} {s : ByteArray} (hs : s.size ≤ maxLen) : ∃ c : Nat, ∃ o : Obj,
    (convert 9 60 (.string s)).run Tryz.prog w = .ok (.slice (some ⟨w.heap.size, 0, none⟩) s.size c) (w.drew.alloc o) ∧
      Rdv (w.drew.alloc o) (Old w.heap.size) (.slice (some ⟨w.heap.size, 0, none⟩) s.size c) s.data.toList := by
  refine ⟨_, _, run_bytes_of_string w _ _ 5 s Tryz.underlying9 Tryz.underlying60 Tryz.underlying5, ?_⟩
  have hl : s.data.toList.length = s.size := (Lib.size_eq s).symm
  have hge := grownCap_ge w s.size 0 5
  have hcm := grownCap_le_maxLen w s.size 0 5 hs
  refine ⟨some ⟨w.heap.size, 0, none⟩, grownCap w s.size 0 5, by rw [hl], by rw [hl]; exact hge, hcm, ?_⟩
  intro i x hx
  have hi := (List.getElem?_eq_some_iff.1 hx).1
  refine ⟨w.heap.size, 0, [.int .u8 x.toNat], rfl, fun h => absurd h (Nat.lt_irrefl _), ?_, rfl⟩
  intro j u hj
  match j, hj with
  | 0, hj =>
    simp only [List.getElem?_cons_zero, Option.some.injEq] at hj
    subst hj
    have hb := heap_alloc_new w.drew (.cells (bytesRow s (grownCap w s.size 0 5)) 5 ((bytesRow s (grownCap w s.size 0 5)).size, (bytesRow s (grownCap w s.size 0 5)).size + 1))
    have hb' : (w.drew.alloc (.cells (bytesRow s (grownCap w s.size 0 5)) 5 ((bytesRow s (grownCap w s.size 0 5)).size, (bytesRow s (grownCap w s.size 0 5)).size + 1))).heap[w.heap.size]? = _ := hb
    simp only [World.cell?, hb']
    show (bytesRow s _)[0 + i * 1 + 0]? = _
    rw [show 0 + i * 1 + 0 = i by omega, bytesRow, Array.getElem?_append_left (by simpa using hi), Array.getElem?_map]
    rw [Array.getElem?_toList] at hx
    rw [hx]; rfl
end Go.Proofs.YtmojaahkcpgfkaaGreatDoor
namespace Go.Proofs.YtmojaahkcpgfkaaGreatDoor
open Go.RowKit

theorem tkeep {w2 wr wq : World} {p q r : Addr} {a b c : Value} (h : Chg Never w2 wr ∧ wr.cell? p = some a ∧ wr.cell? q = some b ∧ wr.cell? r = some c) (k : Chg Never wr wq) : Chg Never w2 wq ∧ wq.cell? p = some a ∧ wq.cell? q = some b ∧ wq.cell? r = some c :=
  ⟨h.1.trans k, k.cellNever h.2.1, k.cellNever h.2.2.1, k.cellNever h.2.2.2⟩
set_option maxHeartbeats 2000000 in
set_option maxRecDepth 100000 in
theorem refHunksText_any (l : List Hunk) (v : Value) (w : World) (h : Rdv w Never v l) (hz : (hunksFault l).2 = 0) :
    Calls Tryz.prog 7 #[v] w fun e w' => e = .returned (.string (toB (textU l))) ∧ Chg Never w w' := by
  obtain ⟨a, cap, rfl, h1, h2, h3⟩ := rdv_slice h
  unfold maxLen at h2
  have hTL := Lib.hid (hunks_ok hz).2.2
  have hH := Lib.hid (hunks_each hz)
  clear hz
  go_enter Tryz.func7, Tryz.ntmps7
  go_wp2_with fail
  go_loopw [3, 4] (fun sv i wr => ∃ k : Nat, k ≤ l.length ∧ i = .int .i64 k ∧ sv = .string (toB (textU (l.take k))) ∧ Chg Never w wr) (fun _ i _ => l.length - (intOf i).toNat)
  case atStart => exact ⟨0, Nat.zero_le _, rfl, rfl, Chg.refl _ _⟩
  case round =>
    obtain ⟨k, hk, rfl, rfl, hc⟩ := hrel
    rename World => wr
    by_cases hlt : k < l.length
    · obtain ⟨x, hx⟩ : ∃ x, l[k]? = some x := ⟨l[k], by simp [hlt]⟩
      obtain ⟨b', off, mv, rfl, hnb, -, c0, c1, c2, hmv⟩ := elems_hunk h3 hx
      obtain ⟨e1, e2, e3, e4, e5, e6, e7⟩ := hH.out x (List.mem_of_getElem? hx)
      have E1 := Lib.hid e1
      have HT := Lib.hid (textU_take hx)
      have hTk := @textU_mono l k
      have hTLo := hTL.out
      obtain ⟨ma, mc, rfl, -, -, hme⟩ := rdv_slice hmv
      have c0 := hc.cellNever c0
      have c1 := hc.cellNever c1
      have c2 := hc.cellNever c2
      have hmr : Rdv wr Never (.slice ma x.marks.length mc) x.marks := hmv.never hc
      have hA : Chg Never wr (wr.alloc (.cells #[.int .i64 x.old, .int .i64 x.new, .slice ma x.marks.length mc] 42)) := (Chg.refl Never wr).alloc _
      have hbox := Blk3.new wr 42 (.int .i64 x.old) (.int .i64 x.new) (.slice ma x.marks.length mc)
      have hmA := hmr.never hA
      have hzk : (toB (textU (l.take k))).size ≤ 400000 := by rw [toB_size']; omega
      clear hx h3 h hmr hmv e1
      go_wp2_with fail
      clear c0 c1 c2
      generalize wr.alloc (.cells #[.int .i64 x.old, .int .i64 x.new, .slice ma x.marks.length mc] 42) = w2 at hA hbox hmA ⊢
      obtain ⟨g0, g1, g2⟩ := hbox.cell
      obtain ⟨S, hS⟩ : ∃ S, toB (textU (l.take k)) = S := ⟨_, rfl⟩
      rw [hS] at hzk ⊢
      have HK := Lib.hid hS
      clear hS
      have hl1 : (spanL x.old (oldN x.marks)).length ≤ 7 := span_len e2 (by omega) (by omega)
      have hl2 : (spanL x.new (newN x.marks)).length ≤ 7 := span_len e4 (by omega) (by omega)
      have FS1 : ∀ wx, Calls Tryz.prog 24 #[.int .i64 x.old, .int .i64 ((those x.marks 43).length : Nat)] wx fun e w' => e = .returned (.string (toB (spanL x.old (oldN x.marks)))) ∧ wx = w' := fun wx => refSpan_any _ _ e2 (by omega) (by show oldN x.marks < 1000; omega) wx
      have FS2 : ∀ wx, Calls Tryz.prog 24 #[.int .i64 x.new, .int .i64 ((those x.marks 45).length : Nat)] wx fun e w' => e = .returned (.string (toB (spanL x.new (newN x.marks)))) ∧ wx = w' := fun wx => refSpan_any _ _ e4 (by omega) (by show newN x.marks < 1000; omega) wx
      obtain ⟨S1, hS1⟩ : ∃ S1, toB (spanL x.old (oldN x.marks)) = S1 := ⟨_, rfl⟩
      obtain ⟨S2, hS2⟩ : ∃ S2, toB (spanL x.new (newN x.marks)) = S2 := ⟨_, rfl⟩
      have hz1 : S1.size ≤ 7 := by rw [← hS1, toB_size']; exact hl1
      have hz2 : S2.size ≤ 7 := by rw [← hS2, toB_size']; exact hl2
      rw [hS1] at FS1
      rw [hS2] at FS2
      have HS1 := Lib.hid hS1
      have HS2 := Lib.hid hS2
      clear hS1 hS2
      have n1 : ¬ (9223372036854775807 < S.size + 4) := by omega
      have n2 : ¬ (9223372036854775807 < S.size + 4 + S1.size) := by omega
      have n3 : ¬ (9223372036854775807 < S.size + 4 + S1.size + 2) := by omega
      have n4 : ¬ (9223372036854775807 < S.size + 4 + S1.size + 2 + S2.size) := by omega
      have n5 : ¬ (9223372036854775807 < S.size + 4 + S1.size + 2 + S2.size + 4) := by omega
      refine wp_region_held_drew (S := fun w' => Chg Never w2 w' ∧ w'.cell? ⟨wr.heap.size, 0, none⟩ = some (.int .i64 x.old) ∧ w'.cell? ⟨wr.heap.size, 1, none⟩ = some (.int .i64 x.new) ∧ w'.cell? ⟨wr.heap.size, 2, none⟩ = some (.slice ma x.marks.length mc)) (by kernel_rfl) ⟨(Chg.refl Never w2).drew, g0, g1, g2⟩ (fun hH => ?_)
      refine' wpAnyH_take (i := 0) ?hi0 (by kernel_rfl) (by kernel_rfl) (by kernel_rfl) ?hQ0 (Or.inl ⟨?hw0, ?hy0⟩) (by assumption) ?_
      case hi0 => (simp only [List.getElem?_toArray, List.getElem?_cons_zero]; rfl)
      case hQ0 => exact fun _ _ _ h => h
      case hw0 => rfl
      case hy0 => (intro w' hSw; (try dsimp only at hSw); go_simp; all_goals with_reducible rfl)
      try simp only [Act.put, List.setIfInBounds_toArray, List.set_cons_zero, List.set_cons_succ]
      refine' wpAnyH_take (i := 1) ?hi1 (by kernel_rfl) (by kernel_rfl) (by kernel_rfl) ?hQ1 (Or.inl ⟨?hw1, ?hy1⟩) (by assumption) ?_
      case hi1 => (simp only [List.getElem?_toArray, List.getElem?_cons_succ, List.getElem?_cons_zero]; rfl)
      case hQ1 => exact fun _ _ _ h => h
      case hw1 => rfl
      case hy1 => (intro w' hSw; (try dsimp only at hSw); go_simp; all_goals with_reducible rfl)
      try simp only [Act.put, List.setIfInBounds_toArray, List.set_cons_zero, List.set_cons_succ]
      refine' wpAnyH_take (i := 2) ?hi2 (by kernel_rfl) (by kernel_rfl) (by kernel_rfl) ?hQ2 (Or.inl ⟨?hw2, ?hy2⟩) (by assumption) ?_
      case hi2 => (simp only [List.getElem?_toArray, List.getElem?_cons_succ, List.getElem?_cons_zero]; rfl)
      case hQ2 => exact fun _ _ _ h => h
      case hw2 => rfl
      case hy2 => (intro w' hSw; (try dsimp only at hSw); go_simp; all_goals with_reducible rfl)
      try simp only [Act.put, List.setIfInBounds_toArray, List.set_cons_zero, List.set_cons_succ]
      refine' wpAnyH_take (i := 3) ?hi3 (by kernel_rfl) (by kernel_rfl) (by kernel_rfl) ?hQ3 (Or.inl ⟨?hw3, ?hy3⟩) (by assumption) ?_
      case hi3 => (simp only [List.getElem?_toArray, List.getElem?_cons_succ, List.getElem?_cons_zero]; rfl)
      case hQ3 => exact fun _ _ _ h => h
      case hw3 => rfl
      case hy3 => (intro w' hSw; (try dsimp only at hSw); go_simp; all_goals with_reducible rfl)
      try simp only [Act.put, List.setIfInBounds_toArray, List.set_cons_zero, List.set_cons_succ]
      refine' wpAnyH_take (i := 4) ?hi4 (by kernel_rfl) (by kernel_rfl) (by kernel_rfl) ?hQ4 (Or.inl ⟨?hw4, ?hy4⟩) (by assumption) ?_
      case hi4 => (simp only [List.getElem?_toArray, List.getElem?_cons_succ, List.getElem?_cons_zero]; rfl)
      case hQ4 => exact fun _ _ _ h => h
      case hw4 => rfl
      case hy4 => (intro w' hSw; (try dsimp only at hSw); go_simp; all_goals with_reducible rfl)
      try simp only [Act.put, List.setIfInBounds_toArray, List.set_cons_zero, List.set_cons_succ]
      refine' wpAnyH_take (i := 5) ?hi5 (by kernel_rfl) (by kernel_rfl) (by kernel_rfl) ?hQ5 (Or.inl ⟨?hw5, ?hy5⟩) (by assumption) ?_
      case hi5 => (simp only [List.getElem?_toArray, List.getElem?_cons_succ, List.getElem?_cons_zero]; rfl)
      case hQ5 => exact fun _ _ _ h => h
      case hw5 => rfl
      case hy5 => (intro w' hSw; (try dsimp only at hSw); go_simp; all_goals with_reducible rfl)
      try simp only [Act.put, List.setIfInBounds_toArray, List.set_cons_zero, List.set_cons_succ]
      refine' wpAnyH_take (i := 11) ?hi11 (by kernel_rfl) (by kernel_rfl) (by kernel_rfl) ?hQ11 (Or.inl ⟨?hw11, ?hy11⟩) (by assumption) ?_
      case hi11 => (simp only [List.getElem?_toArray, List.getElem?_cons_succ, List.getElem?_cons_zero]; rfl)
      case hQ11 => exact fun _ _ _ h => h
      case hw11 => rfl
      case hy11 => (intro w' hSw; (try dsimp only at hSw); go_simp; all_goals with_reducible rfl)
      try simp only [Act.put, List.setIfInBounds_toArray, List.set_cons_zero, List.set_cons_succ]
      refine' wpAnyH_take (i := 12) ?hi12 (by kernel_rfl) (by kernel_rfl) (by kernel_rfl) ?hQ12 (Or.inl ⟨?hw12, ?hy12⟩) (by assumption) ?_
      case hi12 => (simp only [List.getElem?_toArray, List.getElem?_cons_succ, List.getElem?_cons_zero]; rfl)
      case hQ12 => exact fun _ _ _ h => h
      case hw12 => rfl
      case hy12 => (intro w' hSw; (try dsimp only at hSw); go_simp; all_goals with_reducible rfl)
      try simp only [Act.put, List.setIfInBounds_toArray, List.set_cons_zero, List.set_cons_succ]
      refine' wpAnyH_take (i := 13) ?hi13 (by kernel_rfl) (by kernel_rfl) (by kernel_rfl) ?hQ13 (Or.inl ⟨?hw13, ?hy13⟩) (by assumption) ?_
      case hi13 => (simp only [List.getElem?_toArray, List.getElem?_cons_succ, List.getElem?_cons_zero]; rfl)
      case hQ13 => exact fun _ _ _ h => h
      case hw13 => rfl
      case hy13 => (intro w' hSw; (try dsimp only at hSw); go_simp; all_goals with_reducible rfl)
      try simp only [Act.put, List.setIfInBounds_toArray, List.set_cons_zero, List.set_cons_succ]
      refine' wpAnyH_take (i := 14) ?hi14 (by kernel_rfl) (by kernel_rfl) (by kernel_rfl) ?hQ14 (Or.inl ⟨?hw14, ?hy14⟩) (by assumption) ?_
      case hi14 => (simp only [List.getElem?_toArray, List.getElem?_cons_succ, List.getElem?_cons_zero]; rfl)
      case hQ14 => exact fun _ _ _ h => h
      case hw14 => rfl
      case hy14 => (intro w' hSw; (try dsimp only at hSw); go_simp; all_goals with_reducible rfl)
      try simp only [Act.put, List.setIfInBounds_toArray, List.set_cons_zero, List.set_cons_succ]
      refine wpAnyH_ready (rs := [6]) (by kernel_rfl) (by simp) ?_
      refine AllReadyH.cons rfl (fun K hK => ?_) AllReadyH.nil
      go_simp
      (go_at_call 21; refine (refOld_any x.marks _ _ (hmA.never (And.left (by assumption))) E1.out).mono ?_; rintro e wq ⟨rq, rfl, hcq, hrq⟩; obtain ⟨qa, qc, rfl, _, _, _⟩ := rdv_slice hrq; have hS2 := tkeep (by assumption) hcq)
      try go_wp2_with fail
      refine hK.out _ _ ?_ (fun hH => ?_)
      · assumption
      clear hK K
      try simp only [Act.put, List.setIfInBounds_toArray, List.set_cons_zero, List.set_cons_succ]
      refine' wpAnyH_take (i := 7) ?hi7 (by kernel_rfl) (by kernel_rfl) (by kernel_rfl) ?hQ7 (Or.inl ⟨?hw7, ?hy7⟩) (by assumption) ?_
      case hi7 => (simp only [List.getElem?_toArray, List.getElem?_cons_succ, List.getElem?_cons_zero]; rfl)
      case hQ7 => exact fun _ _ _ h => h
      case hw7 => rfl
      case hy7 => (intro w' hSw; (try dsimp only at hSw); go_simp; all_goals with_reducible rfl)
      try simp only [Act.put, List.setIfInBounds_toArray, List.set_cons_zero, List.set_cons_succ]
      refine wpAnyH_ready (rs := [8]) (by kernel_rfl) (by simp) ?_
      refine AllReadyH.cons rfl (fun K hK => ?_) AllReadyH.nil
      go_simp
      (go_at_call 24; refine (FS1 _).mono ?_; rintro e wq ⟨rfl, rfl⟩)
      try go_wp2_with fail
      refine hK.out _ _ ?_ (fun hH => ?_)
      · assumption
      clear hK K
      try simp only [Act.put, List.setIfInBounds_toArray, List.set_cons_zero, List.set_cons_succ]
      refine' wpAnyH_take (i := 9) ?hi9 (by kernel_rfl) (by kernel_rfl) (by kernel_rfl) ?hQ9 (Or.inl ⟨?hw9, ?hy9⟩) (by assumption) ?_
      case hi9 => (simp only [List.getElem?_toArray, List.getElem?_cons_succ, List.getElem?_cons_zero]; rfl)
      case hQ9 => exact fun _ _ _ h => h
      case hw9 => rfl
      case hy9 => (intro w' hSw; (try dsimp only at hSw); go_simp; all_goals with_reducible rfl)
      try simp only [Act.put, List.setIfInBounds_toArray, List.set_cons_zero, List.set_cons_succ]
      refine' wpAnyH_take (i := 10) ?hi10 (by kernel_rfl) (by kernel_rfl) (by kernel_rfl) ?hQ10 (Or.inl ⟨?hw10, ?hy10⟩) (by assumption) ?_
      case hi10 => (simp only [List.getElem?_toArray, List.getElem?_cons_succ, List.getElem?_cons_zero]; rfl)
      case hQ10 => exact fun _ _ _ h => h
      case hw10 => rfl
      case hy10 => (intro w' hSw; (try dsimp only at hSw); go_simp; all_goals with_reducible rfl)
      try simp only [Act.put, List.setIfInBounds_toArray, List.set_cons_zero, List.set_cons_succ]
      refine wpAnyH_ready (rs := [15]) (by kernel_rfl) (by simp) ?_
      refine AllReadyH.cons rfl (fun K hK => ?_) AllReadyH.nil
      go_simp
      (go_at_call 22; refine (refNew_any x.marks _ _ (hmA.never (And.left (by assumption))) E1.out).mono ?_; rintro e wq ⟨rq, rfl, hcq, hrq⟩; obtain ⟨qa, qc, rfl, _, _, _⟩ := rdv_slice hrq; have hS2 := tkeep (by assumption) hcq)
      try go_wp2_with fail
      refine hK.out _ _ ?_ (fun hH => ?_)
      · assumption
      clear hK K
      try simp only [Act.put, List.setIfInBounds_toArray, List.set_cons_zero, List.set_cons_succ]
      refine' wpAnyH_take (i := 16) ?hi16 (by kernel_rfl) (by kernel_rfl) (by kernel_rfl) ?hQ16 (Or.inl ⟨?hw16, ?hy16⟩) (by assumption) ?_
      case hi16 => (simp only [List.getElem?_toArray, List.getElem?_cons_succ, List.getElem?_cons_zero]; rfl)
      case hQ16 => exact fun _ _ _ h => h
      case hw16 => rfl
      case hy16 => (intro w' hSw; (try dsimp only at hSw); go_simp; all_goals with_reducible rfl)
      try simp only [Act.put, List.setIfInBounds_toArray, List.set_cons_zero, List.set_cons_succ]
      refine wpAnyH_ready (rs := [17]) (by kernel_rfl) (by simp) ?_
      refine AllReadyH.cons rfl (fun K hK => ?_) AllReadyH.nil
      go_simp
      (go_at_call 24; refine (FS2 _).mono ?_; rintro e wq ⟨rfl, rfl⟩)
      try go_wp2_with fail
      refine hK.out _ _ ?_ (fun hH => ?_)
      · assumption
      clear hK K
      try simp only [Act.put, List.setIfInBounds_toArray, List.set_cons_zero, List.set_cons_succ]
      refine' wpAnyH_take (i := 18) ?hi18 (by kernel_rfl) (by kernel_rfl) (by kernel_rfl) ?hQ18 (Or.inl ⟨?hw18, ?hy18⟩) (by assumption) ?_
      case hi18 => (simp only [List.getElem?_toArray, List.getElem?_cons_succ, List.getElem?_cons_zero]; rfl)
      case hQ18 => exact fun _ _ _ h => h
      case hw18 => rfl
      case hy18 => (intro w' hSw; (try dsimp only at hSw); go_simp; all_goals with_reducible rfl)
      try simp only [Act.put, List.setIfInBounds_toArray, List.set_cons_zero, List.set_cons_succ]
      refine' wpAnyH_take (i := 19) ?hi19 (by kernel_rfl) (by kernel_rfl) (by kernel_rfl) ?hQ19 (Or.inl ⟨?hw19, ?hy19⟩) (by assumption) ?_
      case hi19 => (simp only [List.getElem?_toArray, List.getElem?_cons_succ, List.getElem?_cons_zero]; rfl)
      case hQ19 => exact fun _ _ _ h => h
      case hw19 => rfl
      case hy19 => (intro w' hSw; (try dsimp only at hSw); go_simp; all_goals with_reducible rfl)
      try simp only [Act.put, List.setIfInBounds_toArray, List.set_cons_zero, List.set_cons_succ]
      refine' wpAnyH_take (i := 20) ?hi20 (by kernel_rfl) (by kernel_rfl) (by kernel_rfl) ?hQ20 (Or.inl ⟨?hw20, ?hy20⟩) (by assumption) ?_
      case hi20 => (simp only [List.getElem?_toArray, List.getElem?_cons_succ, List.getElem?_cons_zero]; rfl)
      case hQ20 => exact fun _ _ _ h => h
      case hw20 => rfl
      case hy20 => (intro w' hSw; (try dsimp only at hSw); go_simp; all_goals with_reducible rfl)
      try simp only [Act.put, List.setIfInBounds_toArray, List.set_cons_zero, List.set_cons_succ]
      refine wpAnyH_done (by kernel_rfl) ?_ _
      rename (Chg Never w2 _ ∧ _) => hF
      obtain ⟨hw3, k0, k1, k2⟩ := hF
      clear g0 g1 g2 n1 n2 n3 n4 n5
      rename World => w3
      go_wp2_with fail
      obtain ⟨T, hT⟩ : ∃ T, S ++ (⟨#[64, 64, 32, 45]⟩ : ByteArray) ++ S1 ++ ⟨#[32, 43]⟩ ++ S2 ++ ⟨#[32, 64, 64, 10]⟩ = T := ⟨_, rfl⟩
      have hTz : T.size ≤ 400100 := by rw [← hT, ByteArray.size_append, ByteArray.size_append, ByteArray.size_append, ByteArray.size_append, ByteArray.size_append]; show S.size + 4 + S1.size + 2 + S2.size + 4 ≤ _; omega
      have HT2 : Hid (T = toB (textU (l.take k) ++ (headL x.old (oldN x.marks) x.new (newN x.marks) ++ [10]))) := by
        rw [Hid, ← hT, toB_append, ← head_row, HS1.out, HS2.out, HK.out]
        simp only [ByteArray.append_assoc]; rfl
      rw [hT]
      have hmw := hmA.never hw3
      have HMK := Lib.hid (marks_ok E1.out)
      have hml := scriptFault_len E1.out
      obtain ⟨_, _, hq, -, -, hme3⟩ := rdv_slice hmw
      injection hq with hq1 _ hq2
      subst hq1 hq2
      have HUL := Lib.hid (hunkR_head x)
      have hcw3 := (hc.trans hA).trans hw3
      clear hT hmw hmA hw3 k0 k1 hA hbox hme hc FS1 FS2 hrq hcq hS2
      go_loopw [3, 6] (fun sv i wi => ∃ (q : Nat) (U : ByteArray), q ≤ x.marks.length ∧ i = .int .i64 q ∧ sv = .string U ∧ U.size ≤ 420000 ∧ Hid (U = T ++ toB (textL ((x.marks.take q).map markL))) ∧ Chg Never w3 wi) (fun _ i _ => x.marks.length - (intOf i).toNat)
      case atStart => exact ⟨0, T, Nat.zero_le _, rfl, rfl, by omega, by rw [Hid]; show T = T ++ ByteArray.empty; exact ByteArray.append_empty.symm, Chg.refl _ _⟩
      case round =>
        obtain ⟨q, U, hq, rfl, rfl, hUz, hU, hci⟩ := hrel
        rename World => wi
        have k2 := hci.cellNever k2
        by_cases hql : q < x.marks.length
        · obtain ⟨y, hy⟩ : ∃ y, x.marks[q]? = some y := ⟨x.marks[q], by simp [hql]⟩
          obtain ⟨yb, yoff, rfl, -, -, d0, d1, -, -, hys⟩ := elems_mark hme3 hy
          obtain ⟨m1, m2, m3⟩ := mark_ok (HMK.out y (List.mem_of_getElem? hy))
          have HMT := Lib.hid (textM_take hy)
          have hsg : y.sign = ((signOf y).toNat : Int) := by unfold signOf; rcases m1 with e | e | e <;> rw [e] <;> rfl
          have d0 := hci.cellNever d0
          have d1 := hci.cellNever d1
          rw [hsg] at d0
          obtain ⟨c, hce⟩ : ∃ c, signOf y = c := ⟨_, rfl⟩
          rw [hce] at d0 HMT
          have hmt := marks_take_len (q := q + 1) HMK.out hml
          have hU2 : Hid (U ++ toB [c] ++ y.text ++ ⟨#[10]⟩ = T ++ toB (textL ((x.marks.take (q + 1)).map markL))) := by
            rw [Hid, hU.out, HMT.out]
            apply ByteArray.ext
            apply Array.toList_inj.1
            simp only [bytes_append, toB_data]
            simp
          have hzU : (T ++ toB (textL ((x.marks.take (q + 1)).map markL))).size ≤ 420000 := by rw [ByteArray.size_append, toB_size']; omega
          have hyz : y.text.size ≤ 100 := by omega
          have hcc : (toB [c]).size = 1 := rfl
          have n1 : ¬ (9223372036854775807 < U.size + 1) := by omega
          have n2 : ¬ (9223372036854775807 < U.size + 1 + y.text.size) := by omega
          have n3 : ¬ (9223372036854775807 < U.size + 1 + y.text.size + 1) := by omega
          have n0 := heap_alloc_new wi (.cells #[.int .u8 c.toNat] 5)
          have hcv : (convert 60 9 (.slice (some ⟨wi.heap.size, 0, none⟩) 1 1)).run Tryz.prog (wi.alloc (.cells #[.int .u8 c.toNat] 5)).drew = .ok (.string (toB [c])) (wi.alloc (.cells #[.int .u8 c.toNat] 5)).drew := by
            have hrl : Rdv (wi.alloc (.cells #[.int .u8 c.toNat] 5)) Never (.slice (some ⟨wi.heap.size, 0, none⟩) 1 1) [c] := rdv_lit (cs := [.int .u8 c.toNat]) n0 rfl (by decide) ⟨rfl, trivial⟩
            exact conv_str (hrl.never (Chg.refl Never _).drew)
          clear n0
          clear hy hce hsg hme3 HMT hmt
          go_wp2_with fail
          refine wp_region_held_drew (S := fun w' => Chg Never wi w' ∧ w'.cell? ⟨wr.heap.size, 2, none⟩ = some (.slice (some ⟨yb, yoff, none⟩) x.marks.length mc) ∧ w'.cell? ⟨yb, yoff + q * 2, none⟩ = some (.int .u8 c.toNat) ∧ w'.cell? ⟨yb, yoff + q * 2 + 1, none⟩ = some (.string y.text)) (by kernel_rfl) ⟨(Chg.refl Never wi).drew, k2, d0, d1⟩ (fun hH => ?_)
          refine' wpAnyH_take (i := 0) ?hi0 (by kernel_rfl) (by kernel_rfl) (by kernel_rfl) ?hQ0 (Or.inl ⟨?hw0, ?hy0⟩) (by assumption) ?_
          case hi0 => (simp only [List.getElem?_toArray, List.getElem?_cons_zero]; rfl)
          case hQ0 => exact fun _ _ _ h => h
          case hw0 => rfl
          case hy0 => (intro w' hSw; (try dsimp only at hSw); go_simp; all_goals with_reducible rfl)
          try simp only [Act.put, List.setIfInBounds_toArray, List.set_cons_zero, List.set_cons_succ]
          refine' wpAnyH_take (i := 1) ?hi1 (by kernel_rfl) (by kernel_rfl) (by kernel_rfl) ?hQ1 (Or.inl ⟨?hw1, ?hy1⟩) (by assumption) ?_
          case hi1 => (simp only [List.getElem?_toArray, List.getElem?_cons_succ, List.getElem?_cons_zero]; rfl)
          case hQ1 => exact fun _ _ _ h => h
          case hw1 => rfl
          case hy1 => (intro w' hSw; (try dsimp only at hSw); go_simp; all_goals with_reducible rfl)
          try simp only [Act.put, List.setIfInBounds_toArray, List.set_cons_zero, List.set_cons_succ]
          refine' wpAnyH_take (i := 2) ?hi2 (by kernel_rfl) (by kernel_rfl) (by kernel_rfl) ?hQ2 (Or.inl ⟨?hw2, ?hy2⟩) (by assumption) ?_
          case hi2 => (simp only [List.getElem?_toArray, List.getElem?_cons_succ, List.getElem?_cons_zero]; rfl)
          case hQ2 => exact fun _ _ _ h => h
          case hw2 => rfl
          case hy2 => (intro w' hSw; (try dsimp only at hSw); go_simp; all_goals with_reducible rfl)
          try simp only [Act.put, List.setIfInBounds_toArray, List.set_cons_zero, List.set_cons_succ]
          refine' wpAnyH_take (i := 3) ?hi3 (by kernel_rfl) (by kernel_rfl) (by kernel_rfl) ?hQ3 (Or.inl ⟨?hw3, ?hy3⟩) (by assumption) ?_
          case hi3 => (simp only [List.getElem?_toArray, List.getElem?_cons_succ, List.getElem?_cons_zero]; rfl)
          case hQ3 => exact fun _ _ _ h => h
          case hw3 => rfl
          case hy3 => (intro w' hSw; (try dsimp only at hSw); go_simp; all_goals with_reducible rfl)
          try simp only [Act.put, List.setIfInBounds_toArray, List.set_cons_zero, List.set_cons_succ]
          refine' wpAnyH_take (i := 4) ?hi4 (by kernel_rfl) (by kernel_rfl) (by kernel_rfl) ?hQ4 (Or.inl ⟨?hw4, ?hy4⟩) (by assumption) ?_
          case hi4 => (simp only [List.getElem?_toArray, List.getElem?_cons_succ, List.getElem?_cons_zero]; rfl)
          case hQ4 => exact fun _ _ _ h => h
          case hw4 => rfl
          case hy4 => (intro w' hSw; (try dsimp only at hSw); go_simp; all_goals with_reducible rfl)
          try simp only [Act.put, List.setIfInBounds_toArray, List.set_cons_zero, List.set_cons_succ]
          refine' wpAnyH_take (i := 5) ?hi5 (by kernel_rfl) (by kernel_rfl) (by kernel_rfl) ?hQ5 (Or.inl ⟨?hw5, ?hy5⟩) (by assumption) ?_
          case hi5 => (simp only [List.getElem?_toArray, List.getElem?_cons_succ, List.getElem?_cons_zero]; rfl)
          case hQ5 => exact fun _ _ _ h => h
          case hw5 => rfl
          case hy5 => (intro w' hSw; (try dsimp only at hSw); go_simp; all_goals with_reducible rfl)
          try simp only [Act.put, List.setIfInBounds_toArray, List.set_cons_zero, List.set_cons_succ]
          refine' wpAnyH_take (i := 6) ?hi6 (by kernel_rfl) (by kernel_rfl) (by kernel_rfl) ?hQ6 (Or.inl ⟨?hw6, ?hy6⟩) (by assumption) ?_
          case hi6 => (simp only [List.getElem?_toArray, List.getElem?_cons_succ, List.getElem?_cons_zero]; rfl)
          case hQ6 => exact fun _ _ _ h => h
          case hw6 => rfl
          case hy6 => (intro w' hSw; (try dsimp only at hSw); go_simp; all_goals with_reducible rfl)
          try simp only [Act.put, List.setIfInBounds_toArray, List.set_cons_zero, List.set_cons_succ]
          refine' wpAnyH_take (i := 10) ?hi10 (by kernel_rfl) (by kernel_rfl) (by kernel_rfl) ?hQ10 (Or.inl ⟨?hw10, ?hy10⟩) (by assumption) ?_
          case hi10 => (simp only [List.getElem?_toArray, List.getElem?_cons_succ, List.getElem?_cons_zero]; rfl)
          case hQ10 => exact fun _ _ _ h => h
          case hw10 => rfl
          case hy10 => (intro w' hSw; (try dsimp only at hSw); go_simp; all_goals with_reducible rfl)
          try simp only [Act.put, List.setIfInBounds_toArray, List.set_cons_zero, List.set_cons_succ]
          refine' wpAnyH_take (i := 11) ?hi11 (by kernel_rfl) (by kernel_rfl) (by kernel_rfl) ?hQ11 (Or.inl ⟨?hw11, ?hy11⟩) (by assumption) ?_
          case hi11 => (simp only [List.getElem?_toArray, List.getElem?_cons_succ, List.getElem?_cons_zero]; rfl)
          case hQ11 => exact fun _ _ _ h => h
          case hw11 => rfl
          case hy11 => (intro w' hSw; (try dsimp only at hSw); go_simp; all_goals with_reducible rfl)
          try simp only [Act.put, List.setIfInBounds_toArray, List.set_cons_zero, List.set_cons_succ]
          refine' wpAnyH_take (i := 12) ?hi12 (by kernel_rfl) (by kernel_rfl) (by kernel_rfl) ?hQ12 (Or.inl ⟨?hw12, ?hy12⟩) (by assumption) ?_
          case hi12 => (simp only [List.getElem?_toArray, List.getElem?_cons_succ, List.getElem?_cons_zero]; rfl)
          case hQ12 => exact fun _ _ _ h => h
          case hw12 => rfl
          case hy12 => (intro w' hSw; (try dsimp only at hSw); go_simp; all_goals with_reducible rfl)
          try simp only [Act.put, List.setIfInBounds_toArray, List.set_cons_zero, List.set_cons_succ]
          refine' wpAnyH_take (i := 13) ?hi13 (by kernel_rfl) (by kernel_rfl) (by kernel_rfl) ?hQ13 (Or.inl ⟨?hw13, ?hy13⟩) (by assumption) ?_
          case hi13 => (simp only [List.getElem?_toArray, List.getElem?_cons_succ, List.getElem?_cons_zero]; rfl)
          case hQ13 => exact fun _ _ _ h => h
          case hw13 => rfl
          case hy13 => (intro w' hSw; (try dsimp only at hSw); go_simp; all_goals with_reducible rfl)
          try simp only [Act.put, List.setIfInBounds_toArray, List.set_cons_zero, List.set_cons_succ]
          refine' wpAnyH_take (i := 14) ?hi14 (by kernel_rfl) (by kernel_rfl) (by kernel_rfl) ?hQ14 (Or.inl ⟨?hw14, ?hy14⟩) (by assumption) ?_
          case hi14 => (simp only [List.getElem?_toArray, List.getElem?_cons_succ, List.getElem?_cons_zero]; rfl)
          case hQ14 => exact fun _ _ _ h => h
          case hw14 => rfl
          case hy14 => (intro w' hSw; (try dsimp only at hSw); go_simp; all_goals with_reducible rfl)
          try simp only [Act.put, List.setIfInBounds_toArray, List.set_cons_zero, List.set_cons_succ]
          refine' wpAnyH_take (i := 15) ?hi15 (by kernel_rfl) (by kernel_rfl) (by kernel_rfl) ?hQ15 (Or.inl ⟨?hw15, ?hy15⟩) (by assumption) ?_
          case hi15 => (simp only [List.getElem?_toArray, List.getElem?_cons_succ, List.getElem?_cons_zero]; rfl)
          case hQ15 => exact fun _ _ _ h => h
          case hw15 => rfl
          case hy15 => (intro w' hSw; (try dsimp only at hSw); go_simp; all_goals with_reducible rfl)
          try simp only [Act.put, List.setIfInBounds_toArray, List.set_cons_zero, List.set_cons_succ]
          refine wpAnyH_ready (rs := [7]) (by kernel_rfl) (by simp) ?_
          refine AllReadyH.cons rfl (fun K hK => ?_) AllReadyH.nil
          go_simp
          refine hK.out _ _ ?_ (fun hH => ?_)
          · exact tkeep (by assumption) ((Chg.refl Never _).alloc _)
          clear hK K
          try simp only [Act.put, List.setIfInBounds_toArray, List.set_cons_zero, List.set_cons_succ]
          refine wpAnyH_ready (rs := [8]) (by kernel_rfl) (by simp) ?_
          refine AllReadyH.cons rfl (fun K hK => ?_) AllReadyH.nil
          go_simp
          refine hK.out _ _ ?_ (fun hH => ?_)
          · assumption
          clear hK K
          try simp only [Act.put, List.setIfInBounds_toArray, List.set_cons_zero, List.set_cons_succ]
          refine' wpAnyH_take (i := 9) ?hi9 (by kernel_rfl) (by kernel_rfl) (by kernel_rfl) ?hQ9 (Or.inl ⟨?hw9, ?hy9⟩) (by assumption) ?_
          case hi9 => (simp only [List.getElem?_toArray, List.getElem?_cons_succ, List.getElem?_cons_zero]; rfl)
          case hQ9 => exact fun _ _ _ h => h
          case hw9 => rfl
          case hy9 => (intro w' hSw; (try dsimp only at hSw); go_simp; all_goals with_reducible rfl)
          try simp only [Act.put, List.setIfInBounds_toArray, List.set_cons_zero, List.set_cons_succ]
          refine' wpAnyH_take (i := 16) ?hi16 (by kernel_rfl) (by kernel_rfl) (by kernel_rfl) ?hQ16 (Or.inl ⟨?hw16, ?hy16⟩) (by assumption) ?_
          case hi16 => (simp only [List.getElem?_toArray, List.getElem?_cons_succ, List.getElem?_cons_zero]; rfl)
          case hQ16 => exact fun _ _ _ h => h
          case hw16 => rfl
          case hy16 => (intro w' hSw; (try dsimp only at hSw); go_simp; all_goals with_reducible rfl)
          try simp only [Act.put, List.setIfInBounds_toArray, List.set_cons_zero, List.set_cons_succ]
          refine' wpAnyH_take (i := 17) ?hi17 (by kernel_rfl) (by kernel_rfl) (by kernel_rfl) ?hQ17 (Or.inl ⟨?hw17, ?hy17⟩) (by assumption) ?_
          case hi17 => (simp only [List.getElem?_toArray, List.getElem?_cons_succ, List.getElem?_cons_zero]; rfl)
          case hQ17 => exact fun _ _ _ h => h
          case hw17 => rfl
          case hy17 => (intro w' hSw; (try dsimp only at hSw); go_simp; all_goals with_reducible rfl)
          try simp only [Act.put, List.setIfInBounds_toArray, List.set_cons_zero, List.set_cons_succ]
          refine' wpAnyH_take (i := 18) ?hi18 (by kernel_rfl) (by kernel_rfl) (by kernel_rfl) ?hQ18 (Or.inl ⟨?hw18, ?hy18⟩) (by assumption) ?_
          case hi18 => (simp only [List.getElem?_toArray, List.getElem?_cons_succ, List.getElem?_cons_zero]; rfl)
          case hQ18 => exact fun _ _ _ h => h
          case hw18 => rfl
          case hy18 => (intro w' hSw; (try dsimp only at hSw); go_simp; all_goals with_reducible rfl)
          try simp only [Act.put, List.setIfInBounds_toArray, List.set_cons_zero, List.set_cons_succ]
          refine wpAnyH_done (by kernel_rfl) ?_ _
          rename (Chg Never wi _ ∧ _) => hF
          have hcF := hF.1
          clear hF d0 d1 k2
          go_wp2_with fail
          go_roundw
          case rel => exact ⟨q + 1, _, by omega, by go_num, rfl, by rw [hU2.out]; exact hzU, hU2.out, hci.trans hcF⟩
          case measure => simp [intOf]; omega
        · rw [List.take_of_length_le (by omega)] at hU
          have hfin : Hid (U = toB (textU (l.take (k + 1)))) := by
            rw [Hid, hU.out, HT2.out, HT.out, HUL.out, ← toB_append]
            simp
          have hcf := hcw3.trans hci
          clear hU
          go_wp2_with fail
          go_roundw
          case rel => exact ⟨k + 1, by omega, by go_num, by rw [hfin.out], hcf⟩
          case measure => simp [intOf]; omega
    · rw [List.take_of_length_le (by omega)]
      go_wp2_with fail
      go_ret
      exact ⟨rfl, hc⟩
end Go.Proofs.YtmojaahkcpgfkaaGreatDoor
namespace Go.Proofs.YtmojaahkcpgfkaaGreatDoor

/-- the 64 letters -/
def letters : List UInt8 := [65, 66, 67, 68, 69, 70, 71, 72, 73, 74, 75, 76, 77, 78, 79, 80, 81, 82, 83, 84, 85, 86, 87, 88, 89, 90, 97, 98, 99, 100, 101, 102, 103, 104, 105, 106, 107, 108, 109, 110, 111, 112, 113, 114, 115, 116, 117, 118, 119, 120, 121, 122, 48, 49, 50, 51, 52, 53, 54, 55, 56, 57, 43, 47]
def letterAt (k : Nat) : UInt8 := letters.getD k 0
def idxOf (c : UInt8) : Option Nat := letters.findIdx? (· == c)
/-- up to three bytes as a number -/
def num3 : List UInt8 → Nat
  | [] => 0
  | [a] => a.toNat * 65536
  | [a, b] => a.toNat * 65536 + b.toNat * 256
  | a :: b :: c :: _ => a.toNat * 65536 + b.toNat * 256 + c.toNat
/-- four letters of at most three bytes -/
def fourOf (l : List UInt8) : List UInt8 :=
  (List.range 4).map fun i => if l.length < i then 61 else letterAt (num3 l / 2 ^ (18 - 6 * i) % 64)
/-- the letters of some bytes, so many of them written before -/
def encGo : List UInt8 → Nat → List UInt8
  | [], _ => []
  | x :: r, n => fourOf ((x :: r).take 3) ++ (if (n + 4) % 76 = 0 ∨ (x :: r).drop 3 = [] then [10] else []) ++ encGo ((x :: r).drop 3) (n + 4)
termination_by l _ => l.length
decreasing_by simp; omega
def encL (l : List UInt8) : List UInt8 := encGo l 0
/-- letter by letter: bytes that come of them -/
def decGo : List UInt8 → Nat → Nat → List UInt8 → List UInt8
  | [], _, _, out => out
  | c :: r, n, bits, out => match idxOf c with
    | none => out
    | some k => if 8 ≤ bits + 6 then decGo r ((n * 64 + k) % 2 ^ (bits + 6 - 8)) (bits + 6 - 8) (out ++ [UInt8.ofNat ((n * 64 + k) / 2 ^ (bits + 6 - 8))]) else decGo r (n * 64 + k) (bits + 6) out
def decL (s : List UInt8) : List UInt8 := decGo (s.filter (· ≠ 10)) 0 0 []

theorem idx_letter : ∀ k, k < 64 → idxOf (letterAt k) = some k := by decide +kernel
theorem letter_nl : ∀ k, k < 64 → letterAt k ≠ 10 := by decide +kernel
theorem four_nl (l : List UInt8) : ∀ c ∈ fourOf l, c ≠ 10 := by
  intro c hc
  unfold fourOf at hc
  obtain ⟨i, _, rfl⟩ := List.mem_map.1 hc
  split
  · decide
  · exact letter_nl _ (Nat.mod_lt _ (by decide))
theorem four_len (l : List UInt8) : (fourOf l).length = 4 := by simp [fourOf]
theorem num3_0 (a b c : UInt8) : num3 [a, b, c] = a.toNat * 65536 + b.toNat * 256 + c.toNat := rfl
theorem four_3 (a b c : UInt8) : fourOf [a, b, c] = [letterAt (a.toNat / 4), letterAt (a.toNat % 4 * 16 + b.toNat / 16), letterAt (b.toNat % 16 * 4 + c.toNat / 64), letterAt (c.toNat % 64)] := by
  have ha := a.toNat_lt
  have hb := b.toNat_lt
  have hc := c.toNat_lt
  have e0 : (a.toNat * 65536 + b.toNat * 256 + c.toNat) / 262144 % 64 = a.toNat / 4 := by omega
  have e1 : (a.toNat * 65536 + b.toNat * 256 + c.toNat) / 4096 % 64 = a.toNat % 4 * 16 + b.toNat / 16 := by omega
  have e2 : (a.toNat * 65536 + b.toNat * 256 + c.toNat) / 64 % 64 = b.toNat % 16 * 4 + c.toNat / 64 := by omega
  have e3 : (a.toNat * 65536 + b.toNat * 256 + c.toNat) / 1 % 64 = c.toNat % 64 := by omega
  show [letterAt ((a.toNat * 65536 + b.toNat * 256 + c.toNat) / 262144 % 64), letterAt ((a.toNat * 65536 + b.toNat * 256 + c.toNat) / 4096 % 64), letterAt ((a.toNat * 65536 + b.toNat * 256 + c.toNat) / 64 % 64), letterAt ((a.toNat * 65536 + b.toNat * 256 + c.toNat) / 1 % 64)] = _
  rw [e0, e1, e2, e3]
theorem four_2 (a b : UInt8) : fourOf [a, b] = [letterAt (a.toNat / 4), letterAt (a.toNat % 4 * 16 + b.toNat / 16), letterAt (b.toNat % 16 * 4), 61] := by
  have ha := a.toNat_lt
  have hb := b.toNat_lt
  have e0 : (a.toNat * 65536 + b.toNat * 256) / 262144 % 64 = a.toNat / 4 := by omega
  have e1 : (a.toNat * 65536 + b.toNat * 256) / 4096 % 64 = a.toNat % 4 * 16 + b.toNat / 16 := by omega
  have e2 : (a.toNat * 65536 + b.toNat * 256) / 64 % 64 = b.toNat % 16 * 4 := by omega
  show [letterAt ((a.toNat * 65536 + b.toNat * 256) / 262144 % 64), letterAt ((a.toNat * 65536 + b.toNat * 256) / 4096 % 64), letterAt ((a.toNat * 65536 + b.toNat * 256) / 64 % 64), 61] = _
  rw [e0, e1, e2]
theorem four_1 (a : UInt8) : fourOf [a] = [letterAt (a.toNat / 4), letterAt (a.toNat % 4 * 16), 61, 61] := by
  have ha := a.toNat_lt
  have e0 : (a.toNat * 65536) / 262144 % 64 = a.toNat / 4 := by omega
  have e1 : (a.toNat * 65536) / 4096 % 64 = a.toNat % 4 * 16 := by omega
  show [letterAt ((a.toNat * 65536) / 262144 % 64), letterAt ((a.toNat * 65536) / 4096 % 64), 61, 61] = _
  rw [e0, e1]
theorem dec_step {k n bits : Nat} (hk : k < 64) (r out : List UInt8) : decGo (letterAt k :: r) n bits out = if 8 ≤ bits + 6 then decGo r ((n * 64 + k) % 2 ^ (bits + 6 - 8)) (bits + 6 - 8) (out ++ [UInt8.ofNat ((n * 64 + k) / 2 ^ (bits + 6 - 8))]) else decGo r (n * 64 + k) (bits + 6) out := by
  rw [decGo, idx_letter k hk]
theorem dec_stop (r : List UInt8) (n bits : Nat) (out : List UInt8) : decGo (61 :: r) n bits out = out := by
  rw [decGo, show idxOf 61 = none by decide +kernel]
theorem ofNat_is {a : UInt8} {n : Nat} (h : n = a.toNat) : UInt8.ofNat n = a := by rw [h]; simp
theorem dec_two (a : UInt8) {k : Nat} (hk : k < 16) (r out : List UInt8) : decGo (letterAt (a.toNat / 4) :: letterAt (a.toNat % 4 * 16 + k) :: r) 0 0 out = decGo r k 4 (out ++ [a]) := by
  have ha := a.toNat_lt
  rw [dec_step (by omega), if_neg (by decide), dec_step (by omega), if_pos (by decide)]
  show decGo r (((0 * 64 + a.toNat / 4) * 64 + (a.toNat % 4 * 16 + k)) % 16) 4 (out ++ [UInt8.ofNat (((0 * 64 + a.toNat / 4) * 64 + (a.toNat % 4 * 16 + k)) / 16)]) = _
  rw [show ((0 * 64 + a.toNat / 4) * 64 + (a.toNat % 4 * 16 + k)) % 16 = k by omega, ofNat_is (a := a) (by omega)]
theorem dec_three (b : UInt8) {k : Nat} (hk : k < 4) (r out : List UInt8) : decGo (letterAt (b.toNat % 16 * 4 + k) :: r) (b.toNat / 16) 4 out = decGo r k 2 (out ++ [b]) := by
  have hb := b.toNat_lt
  rw [dec_step (by omega), if_pos (by decide)]
  show decGo r ((b.toNat / 16 * 64 + (b.toNat % 16 * 4 + k)) % 4) 2 (out ++ [UInt8.ofNat ((b.toNat / 16 * 64 + (b.toNat % 16 * 4 + k)) / 4)]) = _
  rw [show (b.toNat / 16 * 64 + (b.toNat % 16 * 4 + k)) % 4 = k by omega, ofNat_is (a := b) (by omega)]
theorem dec_four (c : UInt8) (r out : List UInt8) : decGo (letterAt (c.toNat % 64) :: r) (c.toNat / 64) 2 out = decGo r 0 0 (out ++ [c]) := by
  have hc := c.toNat_lt
  rw [dec_step (by omega), if_pos (by decide)]
  show decGo r ((c.toNat / 64 * 64 + c.toNat % 64) % 1) 0 (out ++ [UInt8.ofNat ((c.toNat / 64 * 64 + c.toNat % 64) / 1)]) = _
  rw [show (c.toNat / 64 * 64 + c.toNat % 64) % 1 = 0 by omega, ofNat_is (a := c) (by omega)]
theorem filter_four (l : List UInt8) : (fourOf l).filter (· ≠ 10) = fourOf l := List.filter_eq_self.2 fun c hc => by simpa using four_nl l c hc
theorem filter_nl (p : Prop) [Decidable p] : (if p then [(10 : UInt8)] else []).filter (· ≠ 10) = [] := by split <;> rfl
theorem dec_enc : ∀ (k : Nat) (l : List UInt8) (n : Nat) (out : List UInt8), l.length ≤ k → decGo ((encGo l n).filter (· ≠ 10)) 0 0 out = out ++ l
  | _, [], n, out, _ => by rw [encGo]; simp [decGo]
  | 0, _ :: _, _, _, h => by simp at h
  | _ + 1, [a], n, out, _ => by
    have ha := a.toNat_lt
    rw [encGo]
    simp only [List.take_succ_cons, List.take_nil, List.drop_succ_cons, List.drop_nil, List.filter_append, filter_four, filter_nl, List.append_nil]
    rw [encGo, four_1, show a.toNat % 4 * 16 = a.toNat % 4 * 16 + 0 by omega]
    simp only [List.filter_nil, List.append_nil]
    rw [dec_two a (by decide), dec_stop]
  | _ + 1, [a, b], n, out, _ => by
    have ha := a.toNat_lt
    have hb := b.toNat_lt
    rw [encGo]
    simp only [List.take_succ_cons, List.take_nil, List.drop_succ_cons, List.drop_nil, List.filter_append, filter_four, filter_nl, List.append_nil]
    rw [encGo, four_2, show b.toNat % 16 * 4 = b.toNat % 16 * 4 + 0 by omega]
    simp only [List.filter_nil, List.append_nil]
    rw [dec_two a (by omega), dec_three b (by decide), dec_stop]
    simp
  | k + 1, a :: b :: c :: r, n, out, h => by
    have ha := a.toNat_lt
    have hb := b.toNat_lt
    have hc := c.toNat_lt
    rw [encGo]
    simp only [List.take_succ_cons, List.take_zero, List.drop_succ_cons, List.drop_zero, List.filter_append, filter_four, filter_nl, List.append_nil]
    rw [four_3]
    simp only [List.cons_append, List.nil_append]
    rw [dec_two a (by omega), dec_three b (by omega), dec_four c, dec_enc k r (n + 4) _ (by simp at h; omega)]
    simp
/-- what is written is read -/
theorem dec_encL (l : List UInt8) : decL (encL l) = l := by
  unfold decL encL
  rw [dec_enc l.length l 0 [] (Nat.le_refl _), List.nil_append]
/-! ### lines -/
theorem enc_mod : ∀ (k : Nat) (l : List UInt8) (n m : Nat), l.length ≤ k → n % 76 = m % 76 → encGo l n = encGo l m
  | _, [], n, m, _, _ => by rw [encGo, encGo]
  | 0, _ :: _, _, _, h, _ => by simp at h
  | k + 1, x :: r, n, m, h, e => by
    rw [encGo, encGo]
    have e2 : (n + 4) % 76 = (m + 4) % 76 := by omega
    rw [enc_mod k ((x :: r).drop 3) (n + 4) (m + 4) (by simp at h ⊢; omega) e2, e2]
/-- so many groups of three ahead, and more behind -/
theorem enc_ahead : ∀ (k : Nat) (m : List UInt8) (b : List UInt8) (n : Nat), m.length = 3 * k → b ≠ [] → n + 4 * k ≤ 76 → ∃ s, encGo (m ++ b) n = s ++ (if n + 4 * k = 76 ∧ 0 < k then [10] else []) ++ encGo b (n + 4 * k) ∧ (0 < k → encGo m n = s ++ [10])
  | 0, m, b, n, h, _, _ => by
    have : m = [] := List.eq_nil_of_length_eq_zero h
    subst this
    exact ⟨[], by simp, fun h => absurd h (by decide)⟩
  | k + 1, m, b, n, h, hb, hn => by
    match m, h with
    | x :: y :: z :: r, h =>
      have hr : r.length = 3 * k := by simp at h; omega
      obtain ⟨s, h1, h2⟩ := enc_ahead k r b (n + 4) hr hb (by omega)
      have e1 : ((x :: y :: z :: r) ++ b).take 3 = [x, y, z] := rfl
      have e2 : ((x :: y :: z :: r) ++ b).drop 3 = r ++ b := rfl
      have e3 : (x :: y :: z :: r).take 3 = [x, y, z] := rfl
      have e4 : (x :: y :: z :: r).drop 3 = r := rfl
      have hne : r ++ b ≠ [] := by simp [hb]
      rw [List.cons_append, encGo, encGo]
      rw [show (x :: (y :: z :: r ++ b)) = (x :: y :: z :: r) ++ b from rfl, e1, e2, e3, e4, h1]
      by_cases hk : k = 0
      · subst hk
        have hr0 : r = [] := List.eq_nil_of_length_eq_zero hr
        subst hr0
        have hs : s = [] := by
          have := congrArg List.length h1
          simp at this
          exact this
        subst hs
        refine ⟨fourOf [x, y, z], ?_, fun _ => by rw [encGo, if_pos (.inr rfl)]; simp⟩
        by_cases h76 : n + 4 = 76
        · rw [if_pos (.inl (by rw [h76])), if_neg (by simp), if_pos ⟨by omega, by decide⟩]; simp
        · rw [if_neg (by rintro (h | h); · omega
                         · exact hne h), if_neg (by simp), if_neg (by rintro ⟨h, _⟩; omega)]; simp
      · have hn4 : ¬ (n + 4) % 76 = 0 := by omega
        have hrn : r ≠ [] := fun e => by rw [e] at hr; simp at hr; omega
        rw [if_neg (by rintro (h | h); · exact hn4 h
                       · exact hne h)]
        refine ⟨fourOf [x, y, z] ++ s, ?_, fun _ => ?_⟩
        · have e5 : n + 4 + 4 * k = n + 4 * (k + 1) := by omega
          rw [e5]
          have e6 : (n + 4 * (k + 1) = 76 ∧ 0 < k) ↔ (n + 4 * (k + 1) = 76 ∧ 0 < k + 1) := by omega
          simp only [e6, List.append_assoc, List.nil_append]
        · rw [if_neg (by rintro (h | h); · exact hn4 h
                         · exact hrn h), h2 (by omega)]
          simp
/-- 57 bytes more ahead are a line more ahead -/
theorem enc_line (m b : List UInt8) (h : m.length = 57) : encL (m ++ b) = encL m ++ encL b := by
  unfold encL
  by_cases hb : b = []
  · subst hb
    rw [List.append_nil, show encGo [] 0 = [] by rw [encGo], List.append_nil]
  · obtain ⟨s, h1, h2⟩ := enc_ahead 19 m b 0 (by omega) hb (by omega)
    rw [h1, h2 (by decide), enc_mod b.length b (0 + 4 * 19) 0 (Nat.le_refl _) (by decide)]
    simp
end Go.Proofs.YtmojaahkcpgfkaaGreatDoor
namespace Go.Proofs.YtmojaahkcpgfkaaGreatDoor

def wordB (s : List UInt8) : Bool := !(s == []) && decide (s.length ≤ 40) && s.all fun c => decide (32 ≤ c.toNat) && decide (c.toNat ≤ 126)
def mailFault (m : Mail) : Int :=
  if wordB m.sender.data.toList = false ∨ wordB m.subject.data.toList = false ∨ wordB m.ident.data.toList = false ∨ 60 ∈ m.ident.data.toList ∨ 62 ∈ m.ident.data.toList then 5
  else if 40000 < m.body.length then 3 else 0
def fromW : List UInt8 := [70, 114, 111, 109, 58, 32]
def subjW : List UInt8 := [83, 117, 98, 106, 101, 99, 116, 58, 32]
def idW : List UInt8 := [77, 101, 115, 115, 97, 103, 101, 45, 73, 68, 58, 32, 60]
def codW : List UInt8 := [67, 111, 110, 116, 101, 110, 116, 45, 84, 114, 97, 110, 115, 102, 101, 114, 45, 69, 110, 99, 111, 100, 105, 110, 103, 58, 32, 98, 97, 115, 101, 54, 52]
def mailText (m : Mail) : List UInt8 :=
  (fromW ++ m.sender.data.toList) ++ [10] ++ ((subjW ++ m.subject.data.toList) ++ [10] ++ ((idW ++ (m.ident.data.toList ++ [62])) ++ [10] ++ (codW ++ [10] ++ ([] ++ [10] ++ encL m.body))))
/-- so many cuts at most -/
def splitN : Nat → List UInt8 → List (List UInt8)
  | 0, s => [s]
  | k + 1, s => match cutSub [10] s with
    | none => [s]
    | some (a, b) => a :: splitN k b
def fieldL (p q s : List UInt8) : List UInt8 := (dropSuf q ((dropPre p s).getD s)).getD ((dropPre p s).getD s)
def parseM (s : List UInt8) : Option Mail := match splitN 5 s with
  | [a, b, c, _, _, z] => if encL (decL z) = z ∧ (decL z).length ≤ 40000 then
      if mailFault ⟨toB (fieldL fromW [] a), toB (fieldL subjW [] b), toB (fieldL idW [62] c), decL z⟩ = 0 ∧ mailText ⟨toB (fieldL fromW [] a), toB (fieldL subjW [] b), toB (fieldL idW [62] c), decL z⟩ = s then
        some ⟨toB (fieldL fromW [] a), toB (fieldL subjW [] b), toB (fieldL idW [62] c), decL z⟩ else none
      else none
  | _ => none
theorem split_next {a : List UInt8} (k : Nat) (b : List UInt8) (h : ∀ c ∈ a, c ≠ 10) : splitN (k + 1) (a ++ [10] ++ b) = a :: splitN k b := by
  rw [splitN, cut_at (x := 10) (t := []) b h]
theorem word_nl {s : List UInt8} (h : wordB s = true) : ∀ c ∈ s, c ≠ 10 := fun c hc e => by
  unfold wordB at h
  rw [Bool.and_eq_true] at h
  have := List.all_eq_true.1 h.2 c hc
  rw [e] at this
  exact absurd this (by decide)
theorem field_back (p q r : List UInt8) : fieldL p q (p ++ (r ++ q)) = r := by
  unfold fieldL
  rw [pre_app]
  show (dropSuf q (r ++ q)).getD (r ++ q) = r
  rw [suf_app]; rfl
/-- what is printed is read -/
theorem mail_back {m : Mail} (h : mailFault m = 0) : parseM (mailText m) = some m := by
  have h0 := h
  unfold mailFault at h
  by_cases h1 : wordB m.sender.data.toList = false ∨ wordB m.subject.data.toList = false ∨ wordB m.ident.data.toList = false ∨ 60 ∈ m.ident.data.toList ∨ 62 ∈ m.ident.data.toList
  · rw [if_pos h1] at h; cases h
  · rw [if_neg h1] at h
    by_cases h2 : 40000 < m.body.length
    · rw [if_pos h2] at h; cases h
    · have w1 : wordB m.sender.data.toList = true := by
        cases e : wordB m.sender.data.toList with
        | true => rfl
        | false => exact absurd (.inl e) h1
      have w2 : wordB m.subject.data.toList = true := by
        cases e : wordB m.subject.data.toList with
        | true => rfl
        | false => exact absurd (.inr (.inl e)) h1
      have w3 : wordB m.ident.data.toList = true := by
        cases e : wordB m.ident.data.toList with
        | true => rfl
        | false => exact absurd (.inr (.inr (.inl e))) h1
      have join : ∀ {a b : List UInt8}, (∀ c ∈ a, c ≠ 10) → (∀ c ∈ b, c ≠ 10) → ∀ c ∈ a ++ b, c ≠ 10 := fun ha hb c hc => by
        rcases List.mem_append.1 hc with q | q
        · exact ha c q
        · exact hb c q
      have es : splitN 5 (mailText m) = [fromW ++ m.sender.data.toList, subjW ++ m.subject.data.toList, idW ++ (m.ident.data.toList ++ [62]), codW, [], encL m.body] := by
        unfold mailText
        rw [split_next 4 _ (join (by decide) (word_nl w1)), split_next 3 _ (join (by decide) (word_nl w2)), split_next 2 _ (join (by decide) (join (word_nl w3) (by decide))), split_next 1 _ (by decide), split_next 0 _ (by simp), splitN]
      have f1 : fieldL fromW [] (fromW ++ m.sender.data.toList) = m.sender.data.toList := by
        have := field_back fromW [] m.sender.data.toList
        rwa [List.append_nil] at this
      have f2 : fieldL subjW [] (subjW ++ m.subject.data.toList) = m.subject.data.toList := by
        have := field_back subjW [] m.subject.data.toList
        rwa [List.append_nil] at this
      unfold parseM
      rw [es]
      simp only
      rw [f1, f2, field_back, dec_encL, toB_of, toB_of, toB_of, if_pos ⟨rfl, by omega⟩, if_pos ⟨h0, rfl⟩]
/-- what is read is printed so -/
theorem mail_some {s : List UInt8} {m : Mail} (h : parseM s = some m) : mailText m = s ∧ mailFault m = 0 := by
  unfold parseM at h
  split at h
  · split at h
    · split at h
      · rename_i q
        injection h with h
        subst h
        exact ⟨q.2, q.1⟩
      · cases h
    · cases h
  · cases h
end Go.Proofs.YtmojaahkcpgfkaaGreatDoor
namespace Go.Proofs.YtmojaahkcpgfkaaGreatDoor

def markW : List UInt8 := [70, 114, 111, 109, 32, 45, 32, 10]
def sepW : List UInt8 := 10 :: markW
def boxText (l : List Mail) : List UInt8 := l.flatMap fun m => markW ++ (mailText m ++ [10])
def splitAll : Nat → List UInt8 → List (List UInt8)
  | 0, s => [s]
  | k + 1, s => match cutSub sepW s with
    | none => [s]
    | some (a, b) => a :: splitAll k b
/-- no newline of a text has the mark behind it -/
def Clean (t : List UInt8) : Prop := ∀ u v r, t = u ++ 10 :: v → markW.isPrefixOf (v ++ 10 :: r) = false
theorem clean_tail {c : UInt8} {t : List UInt8} (h : Clean (c :: t)) : Clean t := fun u v r e => h (c :: u) v r (by rw [e]; rfl)
theorem cut_clean (b : List UInt8) : ∀ {t : List UInt8}, Clean t → cutSub sepW (t ++ sepW ++ b) = some (t, b)
  | [], _ => by
    rw [List.nil_append]
    show cutSub sepW (10 :: (markW ++ b)) = _
    rw [cutSub, if_pos (by rw [List.isPrefixOf_iff_prefix]; exact ⟨b, rfl⟩)]
    show some ([], (sepW ++ b).drop sepW.length) = _
    rw [List.drop_left]
  | c :: t, h => by
    rw [List.cons_append, List.cons_append, cutSub, if_neg, cut_clean b (clean_tail h)]
    · rfl
    · intro q
      unfold sepW at q
      rw [List.isPrefixOf, Bool.and_eq_true] at q
      obtain ⟨q1, q2⟩ := q
      have q1 : c = 10 := (eq_of_beq q1).symm
      subst q1
      have := h [] t (markW ++ b) rfl
      rw [show t ++ 10 :: (markW ++ b) = t ++ 10 :: markW ++ b by simp] at this
      rw [q2] at this; cases this
theorem cut_last : ∀ {t : List UInt8}, Clean t → cutSub sepW (t ++ [10]) = none
  | [], _ => rfl
  | c :: t, h => by
    rw [List.cons_append, cutSub, if_neg, cut_last (t := t) (clean_tail h)]
    · rfl
    · intro q
      unfold sepW at q
      rw [List.isPrefixOf, Bool.and_eq_true] at q
      obtain ⟨q1, q2⟩ := q
      have q1 : c = 10 := (eq_of_beq q1).symm
      subst q1
      rw [h [] t [] rfl] at q2; cases q2
theorem clean_line {t : List UInt8} (ht : ∀ r, markW.isPrefixOf (t ++ 10 :: r) = false) (hc : Clean t) : ∀ {a : List UInt8}, (∀ c ∈ a, c ≠ 10) → Clean (a ++ [10] ++ t)
  | [], _, u, v, r, e => by
    cases u with
    | nil =>
      injection e with _ e
      rw [← e]; exact ht r
    | cons x u =>
      injection e with _ e
      exact hc u v r e
  | c :: a, h, u, v, r, e => by
    cases u with
    | nil =>
      injection e with e _
      exact absurd e (h c (List.mem_cons_self ..))
    | cons x u =>
      injection e with _ e
      exact clean_line ht hc (fun d hd => h d (List.mem_cons_of_mem _ hd)) u v r e
theorem mark_space (r : List UInt8) : ∀ (v : List UInt8), (∀ c ∈ v, c ≠ 32) → markW.isPrefixOf (v ++ 10 :: r) = false
  | [], _ => rfl
  | [a], _ => by simp [markW, List.isPrefixOf]
  | [a, b], _ => by simp [markW, List.isPrefixOf]
  | [a, b, c], _ => by simp [markW, List.isPrefixOf]
  | [a, b, c, d], _ => by simp [markW, List.isPrefixOf]
  | a :: b :: c :: d :: e :: v, h => by
    have he : e ≠ 32 := h e (by simp)
    have : (32 == e) = false := by simpa using fun q => he q.symm
    simp [markW, List.isPrefixOf, this]
theorem clean_space {t : List UInt8} (h : ∀ c ∈ t, c ≠ 32) : Clean t := fun u v r e => mark_space r v fun c hc => h c (by rw [e]; simp [hc])
theorem letter_sp : ∀ k, k < 64 → letterAt k ≠ 32 := by decide +kernel
theorem enc_sp : ∀ (k : Nat) (l : List UInt8) (n : Nat), l.length ≤ k → ∀ c ∈ encGo l n, c ≠ 32
  | _, [], n, _, c, hc => by rw [encGo] at hc; cases hc
  | 0, _ :: _, _, h, _, _ => by simp at h
  | k + 1, x :: r, n, h, c, hc => by
    rw [encGo] at hc
    rcases List.mem_append.1 hc with hc | hc
    · rcases List.mem_append.1 hc with hc | hc
      · unfold fourOf at hc
        obtain ⟨i, _, rfl⟩ := List.mem_map.1 hc
        split
        · decide
        · exact letter_sp _ (Nat.mod_lt _ (by decide))
      · split at hc
        · rw [List.mem_singleton.1 hc]; decide
        · cases hc
    · exact enc_sp k _ _ (by simp at h ⊢; omega) c hc
theorem mail_clean {m : Mail} (h : mailFault m = 0) : Clean (mailText m) := by
  unfold mailFault at h
  by_cases h1 : wordB m.sender.data.toList = false ∨ wordB m.subject.data.toList = false ∨ wordB m.ident.data.toList = false ∨ 60 ∈ m.ident.data.toList ∨ 62 ∈ m.ident.data.toList
  · rw [if_pos h1] at h; cases h
  · have w1 : wordB m.sender.data.toList = true := by
      cases e : wordB m.sender.data.toList with
      | true => rfl
      | false => exact absurd (.inl e) h1
    have w2 : wordB m.subject.data.toList = true := by
      cases e : wordB m.subject.data.toList with
      | true => rfl
      | false => exact absurd (.inr (.inl e)) h1
    have w3 : wordB m.ident.data.toList = true := by
      cases e : wordB m.ident.data.toList with
      | true => rfl
      | false => exact absurd (.inr (.inr (.inl e))) h1
    have join : ∀ {a b : List UInt8}, (∀ c ∈ a, c ≠ 10) → (∀ c ∈ b, c ≠ 10) → ∀ c ∈ a ++ b, c ≠ 10 := fun ha hb c hc => by
      rcases List.mem_append.1 hc with q | q
      · exact ha c q
      · exact hb c q
    have he : Clean (encL m.body) := clean_space (enc_sp _ _ _ (Nat.le_refl _))
    have h5 : Clean ([] ++ [10] ++ encL m.body) := clean_line (fun r => mark_space r _ (enc_sp _ _ _ (Nat.le_refl _))) he (by simp)
    have h4 : Clean (codW ++ [10] ++ ([] ++ [10] ++ encL m.body)) := clean_line (fun r => rfl) h5 (by decide)
    have h3 := clean_line (a := idW ++ (m.ident.data.toList ++ [62])) (fun r => rfl) h4 (join (by decide) (join (word_nl w3) (by decide)))
    have h2 := clean_line (a := subjW ++ m.subject.data.toList) (fun r => rfl) h3 (join (by decide) (word_nl w2))
    exact clean_line (a := fromW ++ m.sender.data.toList) (fun r => rfl) h2 (join (by decide) (word_nl w1))
def allM : List (List UInt8) → Option (List Mail)
  | [] => some []
  | s :: r => match parseM s with
    | none => none
    | some m => (allM r).map fun l => m :: l
def parseBox (s : List UInt8) : Option (List Mail) :=
  if s = [] then some [] else match dropPre markW s with
  | none => none
  | some r => if 16 < (splitAll r.length r).length then none else match dropSuf [10] ((splitAll r.length r).getLastD []) with
    | none => none
    | some y => allM ((splitAll r.length r).dropLast ++ [y])
def tailB (m : Mail) (l : List Mail) : List UInt8 := mailText m ++ [10] ++ boxText l
theorem box_cons (m : Mail) (l : List Mail) : boxText (m :: l) = markW ++ tailB m l := by
  show (markW ++ (mailText m ++ [10])) ++ boxText l = _
  unfold tailB
  simp
theorem split_box : ∀ (l : List Mail) (m : Mail) (k : Nat), l.length ≤ k → mailFault m = 0 → (∀ x ∈ l, mailFault x = 0) → ∃ a z, splitAll k (tailB m l) = a ++ [z ++ [10]] ∧ a ++ [z] = (m :: l).map mailText
  | [], m, k, _, hm, _ => by
    refine ⟨[], mailText m, ?_, rfl⟩
    have e : tailB m [] = mailText m ++ [10] := by unfold tailB boxText; simp
    rw [e]
    cases k with
    | zero => rfl
    | succ k => rw [splitAll, cut_last (mail_clean hm)]; rfl
  | x :: l, m, k, hk, hm, hl => by
    obtain ⟨k, rfl⟩ : ∃ j, k = j + 1 := ⟨k - 1, by simp at hk; omega⟩
    obtain ⟨a, z, h1, h2⟩ := split_box l x k (by simpa using hk) (hl x (List.mem_cons_self ..)) fun y hy => hl y (List.mem_cons_of_mem _ hy)
    refine ⟨mailText m :: a, z, ?_, by rw [List.cons_append, h2]; rfl⟩
    have e : tailB m (x :: l) = mailText m ++ sepW ++ tailB x l := by
      show mailText m ++ [10] ++ boxText (x :: l) = _
      rw [box_cons]
      unfold sepW
      simp
    rw [e, splitAll, cut_clean _ (mail_clean hm)]
    simp only
    rw [h1]; rfl
theorem all_back : ∀ (l : List Mail), (∀ x ∈ l, mailFault x = 0) → allM (l.map mailText) = some l
  | [], _ => rfl
  | m :: l, h => by
    rw [List.map_cons, allM, mail_back (h m (List.mem_cons_self ..))]
    simp only
    rw [all_back l fun x hx => h x (List.mem_cons_of_mem _ hx)]; rfl
theorem box_len : ∀ (l : List Mail), l.length ≤ (boxText l).length
  | [] => Nat.le_refl _
  | m :: l => by
    rw [box_cons]
    unfold tailB markW
    have := box_len l
    simp only [List.length_append, List.length_cons, List.length_nil]
    omega
/-- what is boxed is opened -/
theorem box_back {l : List Mail} (hl : l.length ≤ 16) (h : ∀ x ∈ l, mailFault x = 0) : parseBox (boxText l) = some l := by
  cases l with
  | nil => rfl
  | cons m l =>
    have hk : l.length ≤ (tailB m l).length := by
      have := box_len l
      unfold tailB
      simp only [List.length_append, List.length_cons, List.length_nil]
      omega
    obtain ⟨a, z, h1, h2⟩ := split_box l m _ hk (h m (List.mem_cons_self ..)) fun y hy => h y (List.mem_cons_of_mem _ hy)
    have hlen : (a ++ [z ++ [10]]).length = (m :: l).length := by
      have := congrArg List.length h2
      rw [List.length_map] at this
      rw [← this]
      simp
    rw [box_cons]
    unfold parseBox
    rw [if_neg (by unfold markW; simp), pre_app]
    simp only
    rw [h1, if_neg (by omega), List.getLastD_concat, suf_app, List.dropLast_concat]
    simp only
    rw [h2, all_back _ h]
theorem box_app (l k : List Mail) : boxText (l ++ k) = boxText l ++ boxText k := List.flatMap_append ..
end Go.Proofs.YtmojaahkcpgfkaaGreatDoor
namespace Go.Proofs.YtmojaahkcpgfkaaGreatDoor

theorem cut_index {t : List UInt8} (ht : t ≠ []) : ∀ (s : List UInt8), match cutSub t s with
    | none => Lib.index s t = -1
    | some p => Lib.index s t = (p.1.length : Int) ∧ p.1 = s.take p.1.length ∧ p.2 = s.drop (p.1.length + t.length)
  | [] => by
    rw [cutSub, if_neg ht]
    show Lib.index [] t = -1
    unfold Lib.index
    rw [if_neg (by simpa using ht)]
  | c :: r => by
    have ih := cut_index ht r
    rw [cutSub]
    by_cases hp : t.isPrefixOf (c :: r) = true
    · rw [if_pos hp]
      refine ⟨?_, rfl, by simp⟩
      unfold Lib.index
      rw [if_pos hp]; rfl
    · rw [if_neg hp]
      cases hc : cutSub t r with
      | none =>
        rw [hc] at ih
        show Lib.index (c :: r) t = -1
        unfold Lib.index
        rw [if_neg hp, ih]; rfl
      | some p =>
        rw [hc] at ih
        obtain ⟨h1, h2, h3⟩ := ih
        show Lib.index (c :: r) t = ((c :: p.1).length : Int) ∧ c :: p.1 = (c :: r).take (c :: p.1).length ∧ p.2 = (c :: r).drop ((c :: p.1).length + t.length)
        refine ⟨?_, ?_, ?_⟩
        · unfold Lib.index
          rw [if_neg hp, h1, if_neg (by simp), List.length_cons]; omega
        · rw [List.length_cons, List.take_succ_cons, ← h2]
        · rw [List.length_cons, show p.1.length + 1 + t.length = p.1.length + t.length + 1 by omega, List.drop_succ_cons]; exact h3
/-- cut so many times at most -/
def cutsK (t : List UInt8) : Nat → List UInt8 → List (List UInt8)
  | 0, s => [s]
  | k + 1, s => match cutSub t s with
    | none => [s]
    | some (a, b) => a :: cutsK t k b
theorem splitK_cuts {t : List UInt8} (ht : t ≠ []) : ∀ (k : Nat) (s : List UInt8), Lib.splitK t 0 k s = cutsK t k s
  | 0, s => rfl
  | k + 1, s => by
    have h := cut_index ht s
    rw [Lib.splitK, cutsK]
    cases hc : cutSub t s with
    | none =>
      rw [hc] at h
      rw [if_pos (by rw [h]; rfl)]
    | some p =>
      rw [hc] at h
      obtain ⟨h1, h2, h3⟩ := h
      rw [if_neg (by rw [h1]; simp), h1]
      simp only [Int.toNat_natCast, Nat.add_zero]
      rw [← h2, ← h3, splitK_cuts ht k p.2]
theorem splitN_cuts : ∀ (k : Nat) (s : List UInt8), splitN k s = cutsK [10] k s
  | 0, s => rfl
  | k + 1, s => by
    rw [splitN, cutsK]
    cases cutSub [10] s with
    | none => rfl
    | some p => simp only; rw [splitN_cuts k p.2]
theorem splitAll_cuts : ∀ (k : Nat) (s : List UInt8), splitAll k s = cutsK sepW k s
  | 0, s => rfl
  | k + 1, s => by
    rw [splitAll, cutsK]
    cases cutSub sepW s with
    | none => rfl
    | some p => simp only; rw [splitAll_cuts k p.2]
theorem cut_shorter {t s : List UInt8} {p : List UInt8 × List UInt8} (ht : t ≠ []) (h : cutSub t s = some p) : p.2.length < s.length := by
  have := cut_some (a := p.1) (b := p.2) h
  have hl := congrArg List.length this
  simp only [List.length_append] at hl
  have := List.length_pos_iff.2 ht
  omega
/-- so many cuts are enough -/
theorem cuts_enough {t : List UInt8} (ht : t ≠ []) : ∀ (n k j : Nat) (s : List UInt8), s.length ≤ n → Lib.count s t ≤ k → Lib.count s t ≤ j → cutsK t k s = cutsK t j s
  | n, k, j, s, hn, hk, hj => by
    have h := cut_index ht s
    cases hc : cutSub t s with
    | none =>
      match k, j with
      | 0, 0 => rfl
      | 0, j + 1 => rw [cutsK, cutsK, hc]
      | k + 1, 0 => rw [cutsK, cutsK, hc]
      | k + 1, j + 1 => rw [cutsK, cutsK, hc]
    | some p =>
      rw [hc] at h
      obtain ⟨h1, h2, h3⟩ := h
      have hcnt := Lib.count_hit ht h1
      rw [← h3] at hcnt
      have hsh := cut_shorter ht hc
      match n, k, j, hn, hk, hj with
      | 0, _, _, hn, _, _ => omega
      | n + 1, 0, _, _, hk, _ => omega
      | n + 1, k + 1, 0, _, _, hj => omega
      | n + 1, k + 1, j + 1, hn, hk, hj =>
        rw [cutsK, cutsK, hc]
        simp only
        rw [cuts_enough ht n k j p.2 (by omega) (by omega) (by omega)]
theorem count_len {t : List UInt8} (ht : t ≠ []) : ∀ (n : Nat) (s : List UInt8), s.length ≤ n → Lib.count s t ≤ s.length
  | n, s, hn => by
    have h := cut_index ht s
    cases hc : cutSub t s with
    | none => rw [hc] at h; rw [Lib.count_miss h]; exact Nat.zero_le _
    | some p =>
      rw [hc] at h
      obtain ⟨h1, h2, h3⟩ := h
      have hcnt := Lib.count_hit ht h1
      rw [← h3] at hcnt
      have hsh := cut_shorter ht hc
      match n, hn with
      | 0, hn => omega
      | n + 1, hn =>
        have := count_len ht n p.2 (by omega)
        omega
/-- strings.SplitN(s, "\n", 6) -/
theorem splitN_6 (s : List UInt8) : Lib.splitK [10] 0 (min 6 (s.length + 1) - 1) s = splitN 5 s := by
  rw [splitK_cuts (by simp), splitN_cuts]
  by_cases h : 5 ≤ s.length
  · rw [show min 6 (s.length + 1) - 1 = 5 by omega]
  · have hc := count_len (t := [10]) (by simp) s.length s (Nat.le_refl _)
    exact cuts_enough (by simp) s.length _ _ s (Nat.le_refl _) (by omega) (by omega)
/-- strings.Split(s, "\nFrom - \n") -/
theorem split_sep (s : List UInt8) : Lib.splitK sepW 0 (Lib.count s sepW) s = splitAll s.length s := by
  rw [splitK_cuts (by decide), splitAll_cuts]
  exact cuts_enough (by decide) s.length _ _ s (Nat.le_refl _) (Nat.le_refl _) (count_len (by decide) s.length s (Nat.le_refl _))
theorem pos_of_index {t s : List UInt8} (ht : t ≠ []) : (cutSub t s = none ∧ Lib.index s t = -1) ∨ ∃ a b, cutSub t s = some (a, b) ∧ Lib.index s t = (a.length : Int) ∧ s = a ++ t ++ b := by
  have h := cut_index ht s
  cases hc : cutSub t s with
  | none => rw [hc] at h; exact .inl ⟨rfl, h⟩
  | some p =>
    rw [hc] at h
    exact .inr ⟨p.1, p.2, rfl, h.1, cut_some hc⟩
end Go.Proofs.YtmojaahkcpgfkaaGreatDoor
namespace Go.Proofs.YtmojaahkcpgfkaaGreatDoor
open Go.RowKit

theorem atoi_three : ∀ n, n < 1000 → Lib.atoi (dec3 n) = some (n : Int) := by decide +kernel
theorem num_atoi {l : List UInt8} {n : Nat} (h : numOf l = some n) : Lib.atoiAll l = .ok (n : Int) ∧ l.length ≤ 3 ∧ Lib.itoa n = l ∧ n < 1000 := by
  obtain ⟨h1, h2⟩ := num_some h
  have h3 : l.length ≤ 3 := by rw [← h2]; exact dec_len h1
  refine ⟨?_, h3, by rw [itoa_nat, h2], h1⟩
  rw [Lib.atoiAll_short l (by omega), ← h2, digits_three h1, atoi_three n h1]
  rfl
theorem num_of_ok {l : List UInt8} {v : Int} (h0 : 0 ≤ v) (h3 : l.length ≤ 3) (he : Lib.itoa v = l) : numOf l = some v.toNat := by
  obtain ⟨n, rfl⟩ : ∃ n : Nat, v = n := ⟨v.toNat, by omega⟩
  rw [itoa_nat] at he
  have hl : n < 1000 := by
    have h1 := Lib.lt_pow_nDigits n
    have h2 := Lib.decDigits_length n
    rw [he] at h2
    have : (10 : Nat) ^ Lib.nDigits n ≤ 10 ^ 3 := Nat.pow_le_pow_right (by decide) (by omega)
    omega
  rw [← he, num_dec hl]; rfl
def AtoiBad (w : World) (e : Ending) (w' : World) : Prop := ∃ (x : Int) (T : TypeId) (p : Value), I64 x ∧ e = .returned (.tuple #[.int .i64 x, .iface T p]) ∧ Chg Never w w'
theorem atoi_bad (s : ByteArray) (hs : s.size ≤ 1000000000) (h : ∀ v, Lib.atoiAll s.data.toList ≠ .ok v) (w : World) (m : Int) (hg : Globs w m) :
    Calls Tryz.prog 94 #[.string s] w (AtoiBad w) := by
  obtain ⟨e1, h3, h4⟩ := hg.es
  obtain ⟨e2, h5, h6⟩ := hg.er
  cases hx : Lib.atoiAll s.data.toList with
  | ok v => exact absurd hx (h v)
  | range =>
    refine (Tryz.strconv_Atoi_range s (by omega) hx e2 w h5 h6).mono ?_
    rintro e w' ⟨N, rfl, _, _, hb⟩
    obtain ⟨b0, b1⟩ := Lib.atoiSat_bounds s.data.toList
    exact ⟨_, _, _, ⟨by omega, by omega⟩, rfl, Chg.of_below hb⟩
  | _ =>
    refine (Any.strconv_Atoi_syntax Tryz.laysC172 s (by omega) hx e1 w h3 h4).mono ?_
    rintro e w' ⟨N, rfl, _, _, hb⟩
    exact ⟨_, _, _, ⟨by omega, by omega⟩, rfl, Chg.of_below hb⟩
def NumPost (s : ByteArray) (w : World) (e : Ending) (w' : World) : Prop :=
  ∃ x : Int, I64 x ∧ e = .returned (.tuple #[.int .i64 x, .bool (numOf s.data.toList).isSome]) ∧ (∀ n, numOf s.data.toList = some n → x = n) ∧ Chg Never w w'
theorem numPost_no {s : ByteArray} {w w' : World} {e : Ending} (x : Int) (hx : I64 x) (hn : numOf s.data.toList = none) (he : e = .returned (.tuple #[.int .i64 x, .bool false])) (hc : Chg Never w w') : NumPost s w e w' := by
  refine ⟨x, hx, by rw [hn]; exact he, ?_, hc⟩
  intro n h
  rw [hn] at h; cases h
theorem numPost_yes {s : ByteArray} {w w' : World} {e : Ending} (x : Int) (hx : I64 x) (hn : numOf s.data.toList = some x.toNat) (h0 : 0 ≤ x) (he : e = .returned (.tuple #[.int .i64 x, .bool true])) (hc : Chg Never w w') : NumPost s w e w' := by
  refine ⟨x, hx, by rw [hn]; exact he, ?_, hc⟩
  intro n h
  rw [hn] at h; injection h with h; omega
set_option maxHeartbeats 1000000 in
set_option maxRecDepth 100000 in
theorem number_any (s : ByteArray) (hs : s.size ≤ 1000000000) (w : World) (m : Int) (hg : Globs w m) :
    Calls Tryz.prog 76 #[.string s] w (NumPost s w) := by
  by_cases hok : ∃ v, Lib.atoiAll s.data.toList = .ok v
  · obtain ⟨v, hv⟩ := hok
    obtain ⟨vb0, vb1⟩ := Lib.atoiAll_bounds hv
    have hvi : I64 v := ⟨by omega, by omega⟩
    have hno : numOf s.data.toList = none ∨ numOf s.data.toList = some v.toNat ∧ 0 ≤ v ∧ s.size ≤ 3 ∧ Lib.itoa v = s.data.toList := by
      cases hn : numOf s.data.toList with
      | none => exact .inl rfl
      | some n =>
        obtain ⟨q1, q2, q3, _⟩ := num_atoi hn
        rw [hv] at q1
        injection q1 with q1
        subst q1
        exact .inr ⟨by simp, by omega, by rw [Lib.size_eq]; exact q2, q3⟩
    have HNO := Lib.hid hno
    have HV := Lib.hid hv
    clear hno hv
    go_enter Tryz.func76, Tryz.ntmps76
    go_wp2_with fail
    refine (Tryz.strconv_Atoi_ok s (by omega) v HV.out _).mono ?_
    rintro e w1 ⟨rfl, hW⟩
    have hc1 : Chg Never w w1 := by
      rcases hW with rfl | ⟨t, rfl⟩
      · exact Chg.refl _ _
      · exact Chg.of_below (Lib.bytesWorld_below _ _ _)
    clear hW
    by_cases v0 : 0 ≤ v
    · by_cases l3 : s.size ≤ 3
      · have t3 : decide ((s.size : Int) ≤ 3) = true := decide_eq_true (by omega)
        go_wp2_with fail
        refine (Tryz.strconv_Itoa v vb0 (by omega) _ (hg.never hc1).tab).mono ?_
        rintro e w2 ⟨rfl, k, os, rfl⟩
        have hc2 := hc1.trans (chg_grow w1 k os)
        by_cases he : Lib.itoa v = s.data.toList
        · have hyes := Lib.hid (num_of_ok v0 (by rw [← Lib.size_eq]; exact l3) he)
          have ht : ((⟨(Lib.itoa v).toArray⟩ : ByteArray).toList == s.toList) = true := by rw [Lib.toList_data, Lib.toList_data, he]; simp
          clear he HNO
          generalize (⟨(Lib.itoa v).toArray⟩ : ByteArray) = X at ht ⊢
          go_wp2_with fail
          go_ret2
          exact numPost_yes v hvi hyes.out v0 rfl hc2
        · have hn : Hid (numOf s.data.toList = none) := by
            rcases HNO.out with q | q
            · exact q
            · exact absurd q.2.2.2 he
          have ht : ((⟨(Lib.itoa v).toArray⟩ : ByteArray).toList == s.toList) = false := by rw [Lib.toList_data, Lib.toList_data]; simpa using he
          clear he HNO
          generalize (⟨(Lib.itoa v).toArray⟩ : ByteArray) = X at ht ⊢
          go_wp2_with fail
          go_ret2
          exact numPost_no v hvi hn.out rfl hc2
      · have hn : Hid (numOf s.data.toList = none) := by
          rcases HNO.out with q | q
          · exact q
          · exact absurd q.2.2.1 l3
        have t3 : decide ((s.size : Int) ≤ 3) = false := decide_eq_false (by omega)
        clear HNO
        go_wp2_with fail
        go_ret2
        exact numPost_no v hvi hn.out rfl hc1
    · have hn : Hid (numOf s.data.toList = none) := by
        rcases HNO.out with q | q
        · exact q
        · exact absurd q.2.1 v0
      have t0 : decide ((0 : Int) ≤ v) = false := decide_eq_false v0
      clear HNO
      go_wp2_with fail
      go_ret2
      exact numPost_no v hvi hn.out rfl hc1
  · have hn : Hid (numOf s.data.toList = none) := by
      cases hn : numOf s.data.toList with
      | none => rfl
      | some n => exact absurd ⟨_, (num_atoi hn).1⟩ hok
    go_enter Tryz.func76, Tryz.ntmps76
    go_wp2_with fail
    refine (atoi_bad s hs (fun v q => hok ⟨v, q⟩) _ m hg).mono ?_
    rintro e w1 ⟨x, T, p, hx, rfl, hc1⟩
    clear hok
    go_wp2_with fail
    go_ret2
    exact numPost_no x hx hn.out rfl hc1

/-- what read answers: a span's two numbers where it is one -/
def ReadPost (s : ByteArray) (w : World) (e : Ending) (w' : World) : Prop :=
  ∃ x y : Int, e = .returned (.tuple #[.int .i64 x, .int .i64 y, .bool (spanOf s.data.toList).isSome]) ∧ (∀ a n, spanOf s.data.toList = some (a, n) → x = a ∧ y = (n : Int)) ∧ Chg Never w w'
theorem readPost_no {s : ByteArray} {w w' : World} {e : Ending} (x y : Int) (hn : spanOf s.data.toList = none) (he : e = .returned (.tuple #[.int .i64 x, .int .i64 y, .bool false])) (hc : Chg Never w w') : ReadPost s w e w' := by
  refine ⟨x, y, by rw [hn]; exact he, ?_, hc⟩
  intro a n h
  rw [hn] at h; cases h
theorem readPost_yes {s : ByteArray} {w w' : World} {e : Ending} (x : Int) (y : Nat) (hn : spanOf s.data.toList = some (x, y)) (he : e = .returned (.tuple #[.int .i64 x, .int .i64 y, .bool true])) (hc : Chg Never w w') : ReadPost s w e w' := by
  refine ⟨x, y, by rw [hn]; exact he, ?_, hc⟩
  intro a n h
  rw [hn] at h
  injection h with h
  injection h with h1 h2
  exact ⟨h1, by rw [h2]⟩
/-- strings.Cut's parts -/
def cutA (t s : List UInt8) : List UInt8 := match cutSub t s with
  | none => s
  | some p => p.1
def cutB (t s : List UInt8) : List UInt8 := match cutSub t s with
  | none => []
  | some p => p.2
theorem lib_cut {t s : List UInt8} (ht : t ≠ []) : Lib.cut s t = (cutA t s, cutB t s, (cutSub t s).isSome) := by
  have h := cut_index ht s
  unfold Lib.cut cutA cutB
  cases hc : cutSub t s with
  | none =>
    rw [hc] at h
    simp only at h ⊢
    simp [h]
  | some p =>
    rw [hc] at h
    obtain ⟨h1, h2, h3⟩ := h
    simp only
    rw [h1]
    simp [← h2, ← h3]
theorem cutA_len (t s : List UInt8) : (cutA t s).length ≤ s.length := by
  unfold cutA
  cases hc : cutSub t s with
  | none => exact Nat.le_refl _
  | some p => have := congrArg List.length (cut_some (a := p.1) (b := p.2) hc); simp only [List.length_append] at this; simp only; omega
theorem cutB_len (t s : List UInt8) : (cutB t s).length ≤ s.length := by
  unfold cutB
  cases hc : cutSub t s with
  | none => exact Nat.zero_le _
  | some p => have := congrArg List.length (cut_some (a := p.1) (b := p.2) hc); simp only [List.length_append] at this; simp only; omega
theorem span_cut (s : List UInt8) : spanOf s = match numOf (cutA [44] s) with
    | none => none
    | some x => match numOf (cutB [44] s) with
      | none => none
      | some y => if 0 < y then (if x = 0 then none else some ((x : Int) - 1, y)) else some ((x : Int), y) := by
  unfold spanOf cutA cutB
  cases hc : cutSub [44] s with
  | none =>
    simp only
    have : numOf [] = none := rfl
    rw [this]
    cases numOf s <;> rfl
  | some p => rfl

set_option maxHeartbeats 1000000 in
set_option maxRecDepth 100000 in
theorem read_any (s : ByteArray) (hs : s.size ≤ 1000000000) (w : World) (m : Int) (hg : Globs w m) :
    Calls Tryz.prog 53 #[.string s] w (ReadPost s w) := by
  have hsp := span_cut s.data.toList
  have hA := cutA_len [44] s.data.toList
  have hB := cutB_len [44] s.data.toList
  rw [← Lib.size_eq] at hA hB
  obtain ⟨ca, hca⟩ : ∃ x, cutA [44] s.data.toList = x := ⟨_, rfl⟩
  obtain ⟨cb, hcb⟩ : ∃ x, cutB [44] s.data.toList = x := ⟨_, rfl⟩
  have hcut : Hid (Lib.cut s.data.toList (toB [44]).data.toList = (ca, cb, (cutSub [44] s.data.toList).isSome)) := by rw [Hid, toB_data, lib_cut (by simp), hca, hcb]
  rw [hca] at hsp hA
  rw [hcb] at hsp hB
  have HSP := Lib.hid hsp
  clear hsp hca hcb
  go_enter Tryz.func53, Tryz.ntmps53
  go_wp2_with fail
  refine (Tryz.strings_Cut s (toB [44]) m _ (by omega) hg.ml).mono ?_
  rintro e w1 ⟨rfl, nd, rfl⟩
  have hc1 : Chg Never w (w.drewN nd) := (Chg.refl Never w).drewN nd
  rw [hcut.out]
  generalize (cutSub [44] s.data.toList).isSome = fb
  generalize w.drewN nd = w1 at hc1 ⊢
  go_wp2_with fail
  refine (number_any (toB ca) (by rw [toB_size']; omega) _ m (hg.never hc1)).mono ?_
  rintro e w2 ⟨x, hx, rfl, hxn, hc2⟩
  rw [toB_data] at hxn ⊢
  have hc2 := hc1.trans hc2
  go_wp2_with fail
  refine (number_any (toB cb) (by rw [toB_size']; omega) _ m (hg.never hc2)).mono ?_
  rintro e w3 ⟨y, hy, rfl, hyn, hc3⟩
  rw [toB_data] at hyn ⊢
  have hc3 := hc2.trans hc3
  clear hc1 hc2 hcut hA hB
  cases ha : numOf ca with
  | none =>
    have hn : Hid (spanOf s.data.toList = none) := by rw [Hid, HSP.out, ha]
    clear hxn hyn HSP ha
    rw [Option.isSome_none]
    generalize (numOf cb).isSome = fb2
    by_cases hy0 : 0 < y
    · have t0 : decide ((0 : Int) < y) = true := decide_eq_true hy0
      go_wp2_with fail
      go_ret3
      exact readPost_no _ _ hn.out rfl hc3
    · have t0 : decide ((0 : Int) < y) = false := decide_eq_false hy0
      go_wp2_with fail
      go_ret3
      exact readPost_no _ _ hn.out rfl hc3
  | some n1 =>
    have hn1 := numOf_lt ha
    have hx1 := hxn n1 ha
    subst hx1
    rw [Option.isSome_some]
    cases hb : numOf cb with
    | none =>
      have hn : Hid (spanOf s.data.toList = none) := by rw [Hid, HSP.out, ha, hb]
      clear hxn hyn HSP ha hb
      rw [Option.isSome_none]
      by_cases hy0 : 0 < y
      · have t0 : decide ((0 : Int) < y) = true := decide_eq_true hy0
        go_wp2_with fail
        go_ret3
        exact readPost_no _ _ hn.out rfl hc3
      · have t0 : decide ((0 : Int) < y) = false := decide_eq_false hy0
        go_wp2_with fail
        go_ret3
        exact readPost_no _ _ hn.out rfl hc3
    | some n2 =>
      have hn2 := numOf_lt hb
      have hy1 := hyn n2 hb
      subst hy1
      rw [Option.isSome_some]
      have HS : Hid (spanOf s.data.toList = if 0 < n2 then (if n1 = 0 then none else some ((n1 : Int) - 1, n2)) else some ((n1 : Int), n2)) := by rw [Hid, HSP.out, ha, hb]
      clear hxn hyn HSP ha hb
      by_cases h2 : 0 < n2
      · have t0 : decide ((0 : Int) < (n2 : Int)) = true := decide_eq_true (by omega)
        have t0n : decide (0 < n2) = true := decide_eq_true h2
        by_cases h1 : n1 = 0
        · subst h1
          have hn : Hid (spanOf s.data.toList = none) := by rw [Hid, HS.out, if_pos h2, if_pos rfl]
          clear HS
          go_wp2_with fail
          go_ret3
          exact readPost_no _ _ hn.out rfl hc3
        · have hn : Hid (spanOf s.data.toList = some ((n1 : Int) - 1, n2)) := by rw [Hid, HS.out, if_pos h2, if_neg h1]
          have g1 : (0 : Int) ≤ (n1 : Int) - 1 := by omega
          have g2 : (1 : Int) ≤ (n1 : Int) := by omega
          have g3 : decide ((0 : Int) ≤ (n1 : Int) - 1) = true := decide_eq_true g1
          clear HS
          go_wp2_with fail
          go_ret3
          exact readPost_yes _ _ hn.out rfl hc3
      · have t0 : decide ((0 : Int) < (n2 : Int)) = false := decide_eq_false (by omega)
        have t0n : decide (0 < n2) = false := decide_eq_false h2
        have hn : Hid (spanOf s.data.toList = some ((n1 : Int), n2)) := by rw [Hid, HS.out, if_neg h2]
        obtain rfl : n2 = 0 := by omega
        clear HS
        go_wp2_with fail
        go_ret3
        exact readPost_yes _ _ hn.out rfl hc3
end Go.Proofs.YtmojaahkcpgfkaaGreatDoor
namespace Go.Proofs.YtmojaahkcpgfkaaGreatDoor
open Go.RowKit

theorem OwnLast.keepO {e em : TypeId} {w w' : World} {O O' O'' : Nat → Prop} {v : Value} {init : List Hunk} {h : Hunk} {mv : Value} {xs : List Value} (hl : OwnLast e em w O v init h mv xs) (hc : Chg O' w w')
    (k1 : ∀ k, k < w.heap.size → O' k → O k) (k2 : ∀ k, k < w.heap.size → O'' k → O k) : OwnLast e em w' O'' v init h mv xs := by
  obtain ⟨h1, h2, h3, h4, h5⟩ := hl
  have hlt := fun k hk => (h1.lt k hk).2
  refine ⟨⟨h1.1, ?_⟩, fun k hk ho => h2 k hk (k2 k (hlt k hk) ho), fun i x hi => ?_, h4, ?_⟩
  · rcases h1.2 with h | ⟨g', cap', cur, hv, r1, r2, r3⟩
    · exact .inl h
    · subst hv
      exact .inr ⟨g', cap', cur, rfl, r1, (hc.block g' (hlt g' rfl) (fun ho => h2 g' rfl (k1 g' (hlt g' rfl) ho))).trans r2, r3⟩
  · refine Dat.keep (h3 i x hi) hc (fun k hk ho => .inl (.inl (k1 k hk ho))) ?_
    rintro k hk ((ho | ho) | ho)
    · exact .inl (.inl (k2 k hk ho))
    · exact .inl (.inr ho)
    · exact .inr ho
  · refine h5.keep hc (fun k hk ho => .inl (k1 k hk ho)) ?_
    rintro k hk (ho | ho)
    · exact .inl (k2 k hk ho)
    · exact .inr ho

/-- the blocks that a reader's rows avoid: what was there before, and its own box -/
def RdO (W0 B : Nat) : Nat → Prop := fun k => k < W0 ∨ k = B
/-- the blocks that a reader may change: its own box, and what is made from W0 on -/
def RdC (W0 B : Nat) : Nat → Prop := fun k => k = B ∨ W0 ≤ k
structure RdrAt (w : World) (W0 B : Nat) (v : Value) (hs : List Hunk) (o n : Nat) : Prop where
  base : W0 ≤ w.heap.size
  box : Blk3 w B 73 v (.int .i64 o) (.int .i64 n)
  rows : (hs = [] ∧ v = .slice none 0 0) ∨ ∃ init h mv xs, hs = init ++ [h] ∧ OwnLast 42 39 w (RdO W0 B) v init h mv xs
theorem RdrAt.own {w : World} {W0 B : Nat} {v : Value} {hs : List Hunk} {o n : Nat} (h : RdrAt w W0 B v hs o n) : Own 42 w (RdO W0 B) v hs := by
  rcases h.rows with ⟨rfl, rfl⟩ | ⟨init, x, mv, xs, rfl, hl⟩
  · exact own_nil _ _ _
  · exact hl.own
theorem RdrAt.keep {w w' : World} {W0 B : Nat} {v : Value} {hs : List Hunk} {o n : Nat} (h : RdrAt w W0 B v hs o n) (hc : Chg Never w w') : RdrAt w' W0 B v hs o n := by
  refine ⟨Nat.le_trans h.base hc.size, h.box.keep hc (fun x => x), ?_⟩
  rcases h.rows with q | ⟨init, x, mv, xs, e, hl⟩
  · exact .inl q
  · exact .inr ⟨init, x, mv, xs, e, hl.keep hc⟩
theorem RdrAt.new (w : World) : RdrAt (w.alloc (.cells #[.slice none 0 0, .int .i64 0, .int .i64 0] 73)) w.heap.size w.heap.size (.slice none 0 0) [] 0 0 :=
  ⟨Nat.le_of_lt (by simp), Blk3.new w _ _ _ _, .inl ⟨rfl, rfl⟩⟩
theorem RdrAt.start {w : World} {W0 B : Nat} (h : Blk3 w B 73 (.slice none 0 0) (.int .i64 (0 : Nat)) (.int .i64 (0 : Nat))) (hw : W0 ≤ w.heap.size) : RdrAt w W0 B (.slice none 0 0) [] 0 0 := ⟨hw, h, .inl ⟨rfl, rfl⟩⟩
/-- the box's cells may be written -/
theorem RdrAt.set {w w' : World} {W0 B : Nat} {v : Value} {hs : List Hunk} {o n o' n' : Nat} (h : RdrAt w W0 B v hs o n) (hb : Blk3 w' B 73 v (.int .i64 o') (.int .i64 n')) (hc : Chg (fun k => k = B) w w') : RdrAt w' W0 B v hs o' n' := by
  refine ⟨Nat.le_trans h.base hc.size, hb, ?_⟩
  rcases h.rows with q | ⟨init, x, mv, xs, e, hl⟩
  · exact .inl q
  · exact .inr ⟨init, x, mv, xs, e, hl.keepO hc (fun _ _ hk => .inr hk) (fun _ _ hk => hk)⟩
theorem RdrAt.nil {w : World} {W0 B : Nat} {v : Value} {o n : Nat} (h : RdrAt w W0 B v [] o n) : v = .slice none 0 0 := by
  rcases h.rows with ⟨_, q⟩ | ⟨init, x, mv, xs, e, hl⟩
  · exact q
  · simp at e
theorem RdrAt.lt {w : World} {W0 B : Nat} {v : Value} {hs : List Hunk} {o n : Nat} (h : RdrAt w W0 B v hs o n) : B < w.heap.size := h.box.lt
/-- read, it is as any other slice -/
theorem RdrAt.rdv {w : World} {W0 B : Nat} {v : Value} {hs : List Hunk} {o n : Nat} (h : RdrAt w W0 B v hs o n) : Rdv w (RdO W0 B) v hs := h.own.rdv
end Go.Proofs.YtmojaahkcpgfkaaGreatDoor
