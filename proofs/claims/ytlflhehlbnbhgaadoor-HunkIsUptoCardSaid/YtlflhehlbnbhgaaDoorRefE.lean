/-
  THE WALK of the document's TurnOf.
-/
import Derived.Test.YtlflhehlbnbhgaaDoorRefA
import Derived.Test.YtlflhehlbnbhgaaDoorPieces
import Derived.Test.YtlflhehlbnbhgaaDoorCut
import Derived.Test.YtlflhehlbnbhgaaDoorTurn
import Derived.Test.YtlflhehlbnbhgaaDoorStrict
import Derived.Test.YtlflhehlbnbhgaaDoorOwn2
import Derived.Deep.RegionHeld3
namespace Go.Proofs.YtlflhehlbnbhgaaDoor
open Go.RowKit

theorem turn_take {l : List Mark} {j : Nat} {y z : Mark} (hy : l[j]? = some y) (hz : turnMark y = z) : (l.take (j + 1)).map turnMark = (l.take j).map turnMark ++ [z] := by
  rw [List.take_add_one, hy]; simp [hz]

set_option maxHeartbeats 4000000 in
set_option maxRecDepth 100000 in
theorem turnOf_any (l : List Hunk) (v : Value) (w : World) (h : Rdv w Never v l) (hl : l.length ≤ 60) (hm : ∀ x ∈ l, x.marks.length ≤ 120) :
    Calls Tryd.prog 23 #[v] w fun e w' => ∃ r, e = .returned r ∧ Chg Never w w' ∧ Rdv w' (Old w.heap.size) r (turnHunks l) := by
  obtain ⟨a, cap, rfl, h1, h2, h3⟩ := rdv_slice h
  unfold maxLen at h2
  go_enter Tryd.func23, Tryd.ntmps23
  go_wp2_with fail
  go_loopw [3, 4] (fun o i wr => ∃ k : Nat, k ≤ l.length ∧ i = .int .i64 k ∧ Chg Never w wr ∧ Own 80 wr (Old w.heap.size) o (turnHunks (l.take k))) (fun _ i _ => l.length - (intOf i).toNat)
  case atStart => exact ⟨0, Nat.zero_le _, rfl, Chg.refl _ _, own_nil _ _ _⟩
  case round =>
    obtain ⟨k, hk, rfl, hc, hout0⟩ := hrel
    by_cases hlt : k < l.length
    · obtain ⟨x, hx⟩ : ∃ x, l[k]? = some x := ⟨l[k], by simp [hlt]⟩
      obtain ⟨b, off, mv, rfl, _, _, d0, d1, d2, hmv0⟩ := elems_hunk h3 hx
      obtain ⟨ma, mcap, rfl, m1, m2, m3⟩ := rdv_slice hmv0
      unfold maxLen at m2
      have c0 := hc.cellNever d0
      have c1 := hc.cellNever d1
      have HX := Lib.hid hx
      have hml := hm x (List.mem_of_getElem? hx)
      have b1 : (k : Int) < l.length := by omega
      have hlen2 : (turnHunks (l.take k)).length ≤ 1000000000 := by unfold turnHunks; rw [List.length_map, List.length_take]; omega
      clear hx h h3 hmv0
      go_wp2_with fail
      refine wp_region_held_drew (S := fun w' => Chg Never wr w' ∧ w'.cell? ⟨b, off + k * 3, none⟩ = some (.int .i64 x.old) ∧ w'.cell? ⟨b, off + k * 3 + 1, none⟩ = some (.int .i64 x.new)) (by kernel_rfl) ⟨(Chg.refl _ _).drew, c0, c1⟩ (fun hH => ?_)
      refine' wpAnyH_take (i := 0) ?hi0 (by kernel_rfl) (by kernel_rfl) (by kernel_rfl) ?hQ0 (Or.inl ⟨?hw0, ?hy0⟩) (by assumption) ?_
      case hi0 => (simp only [List.getElem?_toArray, List.getElem?_cons_succ, List.getElem?_cons_zero]; rfl)
      case hQ0 => exact fun _ _ _ h => h
      case hw0 => rfl
      case hy0 => (intro w' hSw; (try dsimp only at hSw); go_simp; all_goals with_reducible rfl)
      try simp only [Act.put, List.setIfInBounds_toArray, List.set_cons_zero, List.set_cons_succ]
      refine' wpAnyH_take (i := 1) ?hi1 (by kernel_rfl) (by kernel_rfl) (by kernel_rfl) ?hQ1 (Or.inl ⟨?hw1, ?hy1⟩) (by assumption) ?_
      case hi1 => (simp only [List.getElem?_toArray, List.getElem?_cons_succ, List.getElem?_cons_zero]; rfl)
      case hQ1 => exact fun _ _ _ h => h
      case hw1 => rfl
      case hy1 => (intro w' hSw; (try dsimp only at hSw); go_simp; all_goals with_reducible rfl)
      try simp only [Act.put, List.setIfInBounds_toArray, List.set_cons_zero, List.set_cons_succ]
      refine' wpAnyH_take (i := 2) ?hi2 (by kernel_rfl) (by kernel_rfl) (by kernel_rfl) ?hQ2 (Or.inl ⟨?hw2, ?hy2⟩) (by assumption) ?_
      case hi2 => (simp only [List.getElem?_toArray, List.getElem?_cons_succ, List.getElem?_cons_zero]; rfl)
      case hQ2 => exact fun _ _ _ h => h
      case hw2 => rfl
      case hy2 => (intro w' hSw; (try dsimp only at hSw); go_simp; all_goals with_reducible rfl)
      try simp only [Act.put, List.setIfInBounds_toArray, List.set_cons_zero, List.set_cons_succ]
      refine' wpAnyH_take (i := 3) ?hi3 (by kernel_rfl) (by kernel_rfl) (by kernel_rfl) ?hQ3 (Or.inl ⟨?hw3, ?hy3⟩) (by assumption) ?_
      case hi3 => (simp only [List.getElem?_toArray, List.getElem?_cons_succ, List.getElem?_cons_zero]; rfl)
      case hQ3 => exact fun _ _ _ h => h
      case hw3 => rfl
      case hy3 => (intro w' hSw; (try dsimp only at hSw); go_simp; all_goals with_reducible rfl)
      try simp only [Act.put, List.setIfInBounds_toArray, List.set_cons_zero, List.set_cons_succ]
      refine' wpAnyH_take (i := 4) ?hi4 (by kernel_rfl) (by kernel_rfl) (by kernel_rfl) ?hQ4 (Or.inl ⟨?hw4, ?hy4⟩) (by assumption) ?_
      case hi4 => (simp only [List.getElem?_toArray, List.getElem?_cons_succ, List.getElem?_cons_zero]; rfl)
      case hQ4 => exact fun _ _ _ h => h
      case hw4 => rfl
      case hy4 => (intro w' hSw; (try dsimp only at hSw); go_simp; all_goals with_reducible rfl)
      try simp only [Act.put, List.setIfInBounds_toArray, List.set_cons_zero, List.set_cons_succ]
      refine' wpAnyH_take (i := 5) ?hi5 (by kernel_rfl) (by kernel_rfl) (by kernel_rfl) ?hQ5 (Or.inl ⟨?hw5, ?hy5⟩) (by assumption) ?_
      case hi5 => (simp only [List.getElem?_toArray, List.getElem?_cons_succ, List.getElem?_cons_zero]; rfl)
      case hQ5 => exact fun _ _ _ h => h
      case hw5 => rfl
      case hy5 => (intro w' hSw; (try dsimp only at hSw); go_simp; all_goals with_reducible rfl)
      try simp only [Act.put, List.setIfInBounds_toArray, List.set_cons_zero, List.set_cons_succ]
      refine' wpAnyH_take (i := 6) ?hi6 (by kernel_rfl) (by kernel_rfl) (by kernel_rfl) ?hQ6 (Or.inl ⟨?hw6, ?hy6⟩) (by assumption) ?_
      case hi6 => (simp only [List.getElem?_toArray, List.getElem?_cons_succ, List.getElem?_cons_zero]; rfl)
      case hQ6 => exact fun _ _ _ h => h
      case hw6 => rfl
      case hy6 => (intro w' hSw; (try dsimp only at hSw); go_simp; all_goals with_reducible rfl)
      try simp only [Act.put, List.setIfInBounds_toArray, List.set_cons_zero, List.set_cons_succ]
      refine' wpAnyH_take (i := 7) ?hi7 (by kernel_rfl) (by kernel_rfl) (by kernel_rfl) ?hQ7 (Or.inl ⟨?hw7, ?hy7⟩) (by assumption) ?_
      case hi7 => (simp only [List.getElem?_toArray, List.getElem?_cons_succ, List.getElem?_cons_zero]; rfl)
      case hQ7 => exact fun _ _ _ h => h
      case hw7 => rfl
      case hy7 => (intro w' hSw; (try dsimp only at hSw); go_simp; all_goals with_reducible rfl)
      try simp only [Act.put, List.setIfInBounds_toArray, List.set_cons_zero, List.set_cons_succ]
      refine' wpAnyH_take (i := 8) ?hi8 (by kernel_rfl) (by kernel_rfl) (by kernel_rfl) ?hQ8 (Or.inl ⟨?hw8, ?hy8⟩) (by assumption) ?_
      case hi8 => (simp only [List.getElem?_toArray, List.getElem?_cons_succ, List.getElem?_cons_zero]; rfl)
      case hQ8 => exact fun _ _ _ h => h
      case hw8 => rfl
      case hy8 => (intro w' hSw; (try dsimp only at hSw); go_simp; all_goals with_reducible rfl)
      try simp only [Act.put, List.setIfInBounds_toArray, List.set_cons_zero, List.set_cons_succ]
      refine' wpAnyH_take (i := 9) ?hi9 (by kernel_rfl) (by kernel_rfl) (by kernel_rfl) ?hQ9 (Or.inl ⟨?hw9, ?hy9⟩) (by assumption) ?_
      case hi9 => (simp only [List.getElem?_toArray, List.getElem?_cons_succ, List.getElem?_cons_zero]; rfl)
      case hQ9 => exact fun _ _ _ h => h
      case hw9 => rfl
      case hy9 => (intro w' hSw; (try dsimp only at hSw); go_simp; all_goals with_reducible rfl)
      try simp only [Act.put, List.setIfInBounds_toArray, List.set_cons_zero, List.set_cons_succ]
      refine' wpAnyH_take (i := 10) ?hi10 (by kernel_rfl) (by kernel_rfl) (by kernel_rfl) ?hQ10 (Or.inl ⟨?hw10, ?hy10⟩) (by assumption) ?_
      case hi10 => (simp only [List.getElem?_toArray, List.getElem?_cons_succ, List.getElem?_cons_zero]; rfl)
      case hQ10 => exact fun _ _ _ h => h
      case hw10 => rfl
      case hy10 => (intro w' hSw; (try dsimp only at hSw); go_simp; all_goals with_reducible rfl)
      try simp only [Act.put, List.setIfInBounds_toArray, List.set_cons_zero, List.set_cons_succ]
      refine wpAnyH_ready (rs := [11]) (by kernel_rfl) (by simp) ?_
      refine AllReadyH.cons rfl (fun K hK => ?_) AllReadyH.nil
      go_simp
      refine hK.out _ _ ⟨((Chg.refl Never wr).alloc _).drew, ((Chg.refl Never wr).alloc _).drew.cellNever c0, ((Chg.refl Never wr).alloc _).drew.cellNever c1⟩ (fun hH2 => ?_)
      clear hK K hH
      try simp only [Act.put, List.setIfInBounds_toArray, List.set_cons_zero, List.set_cons_succ]
      refine wpAnyH_ready (rs := [12]) (by kernel_rfl) (by simp) ?_
      refine AllReadyH.cons rfl (fun K hK => ?_) AllReadyH.nil
      go_simp
      refine hK.out _ _ ⟨((Chg.refl Never wr).alloc _).drew, ((Chg.refl Never wr).alloc _).drew.cellNever c0, ((Chg.refl Never wr).alloc _).drew.cellNever c1⟩ (fun hH3 => ?_)
      clear hK K hH2 hH3
      try simp only [Act.put, List.setIfInBounds_toArray, List.set_cons_zero, List.set_cons_succ]
      refine wpAnyH_done (by kernel_rfl) ?_ _
      have hB0 := (Blk3.new wr 80 (.int .i64 x.new) (.int .i64 x.old) (.slice none 0 0)).keep (O := Never) (Chg.refl Never _).drew (fun h => h)
      have hc4 := (hc.alloc (.cells #[.int .i64 x.new, .int .i64 x.old, .slice none 0 0] 80)).drew
      have hout4 := hout0.keep (O'' := fun q => Old w.heap.size q ∨ wr.heap.size ≤ q) ((Chg.refl Never wr).alloc (.cells #[.int .i64 x.new, .int .i64 x.old, .slice none 0 0] 80)).drew (fun _ _ hh => hh.elim) (fun q hq hh => hh.elim (fun h => h) (fun h => by omega))
      have hBge := hc.size
      have hBlt := hB0.lt
      clear hc hout0 c0 c1
      generalize (wr.alloc (.cells #[.int .i64 x.new, .int .i64 x.old, .slice none 0 0] 80)).drew = w4 at hB0 hc4 hout4 hBlt ⊢
      generalize wr.heap.size = B at hB0 hout4 hBge hBlt ⊢
      go_wp2_with fail
      go_loopw [6] (fun i2 wr' => ∃ (j : Nat) (mvv : Value), j ≤ x.marks.length ∧ i2 = .int .i64 j ∧ Chg Never w wr' ∧ Own 80 wr' (fun q => Old w.heap.size q ∨ B ≤ q) u3 (turnHunks (l.take k)) ∧
        Blk3 wr' B 80 (.int .i64 x.new) (.int .i64 x.old) mvv ∧ Own 68 wr' (Old (B + 1)) mvv ((x.marks.take j).map turnMark)) (fun i2 _ => x.marks.length - (intOf i2).toNat)
      case atStart => exact ⟨0, .slice none 0 0, Nat.zero_le _, rfl, hc4, hout4, hB0, own_nil _ _ _⟩
      case round =>
        clear hc4 hout4 hB0
        obtain ⟨j, mvv, hj, rfl, hc, hout, hB, hmk⟩ := hrel
        obtain ⟨qa, qn, qc, rfl⟩ := own_isSlice hmk
        obtain ⟨f0, f1, f2⟩ := hB.cell
        have e2 := hc.cellNever d2
        have hBlt2 := hB.lt
        have hOm : ∀ o : Obj, ∀ q, Old (B + 1) q → q < (wr.alloc o).heap.size := fun o q hq => by rw [World.size_alloc]; unfold Old at hq; omega
        have hml2 : ((x.marks.take j).map turnMark).length ≤ 1000000000 := by rw [List.length_map, List.length_take]; omega
        by_cases hjl : j < x.marks.length
        · obtain ⟨y, hy⟩ : ∃ y, x.marks[j]? = some y := ⟨x.marks[j], by simp [hjl]⟩
          obtain ⟨b', off', rfl, _, _, g0, g1, s0, s1, hxs⟩ := elems_mark m3 hy
          have g0 := hc.cellNever g0
          have g1 := hc.cellNever g1
          obtain ⟨sg, tx⟩ := y
          simp only at g0 g1 s0 s1 hxs
          have HY := Lib.hid hy
          clear hy m3
          by_cases h43 : sg = 43
          · subst h43
            go_wp2_with (at_builtin; refine wpList_push (by rfl) _ _ 22 (by rfl) elemOk_mark (O := Old (B + 1)) (l := (x.marks.take j).map turnMark) (y := ⟨45, tx⟩) (by rfl) (by rfl) (by simp) (hmk.never ((Chg.refl Never wr).alloc _)) (rd_mark _ _ 45 tx (by first | decide | omega) (by first | decide | omega) hxs) (hOm _) hml2 ?_; intro mv' w5 hmk5 hc2 _; obtain ⟨sa, sn, sc, rfl⟩ := own_isSlice hmk5; have hmk4 := hmk.never ((Chg.refl Never wr).alloc (.cells #[.int .u8 45, .string tx] 68)); have hB5 := (hB.keep ((Chg.refl Never wr).alloc _) (fun h => h)).keep hc2 (fun hh => own_out hmk4 _ hh (Nat.lt_succ_self _)); have hout5 := (hout.never ((Chg.refl Never wr).alloc _)).keep (O'' := fun q => Old w.heap.size q ∨ B ≤ q) hc2 (fun q _ hq => .inr (by have := own_out hmk4 q hq; unfold Old at this; omega)) (fun _ _ hh => hh); have hc5 := (hc.alloc (.cells #[.int .u8 45, .string tx] 68)).trans' hc2 (fun i hi hh => own_out hmk4 i hh (by unfold Old; omega)); obtain ⟨g0, g1, g2⟩ := hB5.cell; have g3 := hB5.free 2; clear hc2 hmk4)
            have hB6 := hB5.set2 (.slice sa sn sc)
            have hmk6 := hmk5.keep (O' := fun q => q = B) (O'' := Old (B + 1)) ((Chg.refl (fun q => q = B) w5).setCell (p := ⟨B, 2, none⟩) (.inr rfl) (.slice sa sn sc)) (fun q _ hq => by have h : q = B := hq; unfold Old; omega) (fun _ _ hh => hh)
            have hout6 := hout5.keep (O' := fun q => q = B) (O'' := fun q => Old w.heap.size q ∨ B ≤ q) ((Chg.refl (fun q => q = B) w5).setCell (p := ⟨B, 2, none⟩) (.inr rfl) (.slice sa sn sc)) (fun q _ hq => .inr (Nat.le_of_eq (Eq.symm hq))) (fun _ _ hh => hh)
            have hc6 := hc5.setCell (p := ⟨B, 2, none⟩) (.inl hBge) (.slice sa sn sc)
            clear g0 g1 g2 g3 hB5 hmk5 hout5 hc5 hB hmk hout hc
            go_roundw
            case rel => exact ⟨j + 1, .slice sa sn sc, by omega, by go_num, hc6, hout6, hB6, by rw [turn_take (z := ⟨45, tx⟩) HY.out (by unfold turnMark; simp [*])]; exact hmk6⟩
            case measure => simp [intOf] <;> omega
          · by_cases h45 : sg = 45
            · subst h45
              go_wp2_with (at_builtin; refine wpList_push (by rfl) _ _ 22 (by rfl) elemOk_mark (O := Old (B + 1)) (l := (x.marks.take j).map turnMark) (y := ⟨43, tx⟩) (by rfl) (by rfl) (by simp) (hmk.never ((Chg.refl Never wr).alloc _)) (rd_mark _ _ 43 tx (by first | decide | omega) (by first | decide | omega) hxs) (hOm _) hml2 ?_; intro mv' w5 hmk5 hc2 _; obtain ⟨sa, sn, sc, rfl⟩ := own_isSlice hmk5; have hmk4 := hmk.never ((Chg.refl Never wr).alloc (.cells #[.int .u8 43, .string tx] 68)); have hB5 := (hB.keep ((Chg.refl Never wr).alloc _) (fun h => h)).keep hc2 (fun hh => own_out hmk4 _ hh (Nat.lt_succ_self _)); have hout5 := (hout.never ((Chg.refl Never wr).alloc _)).keep (O'' := fun q => Old w.heap.size q ∨ B ≤ q) hc2 (fun q _ hq => .inr (by have := own_out hmk4 q hq; unfold Old at this; omega)) (fun _ _ hh => hh); have hc5 := (hc.alloc (.cells #[.int .u8 43, .string tx] 68)).trans' hc2 (fun i hi hh => own_out hmk4 i hh (by unfold Old; omega)); obtain ⟨g0, g1, g2⟩ := hB5.cell; have g3 := hB5.free 2; clear hc2 hmk4)
              have hB6 := hB5.set2 (.slice sa sn sc)
              have hmk6 := hmk5.keep (O' := fun q => q = B) (O'' := Old (B + 1)) ((Chg.refl (fun q => q = B) w5).setCell (p := ⟨B, 2, none⟩) (.inr rfl) (.slice sa sn sc)) (fun q _ hq => by have h : q = B := hq; unfold Old; omega) (fun _ _ hh => hh)
              have hout6 := hout5.keep (O' := fun q => q = B) (O'' := fun q => Old w.heap.size q ∨ B ≤ q) ((Chg.refl (fun q => q = B) w5).setCell (p := ⟨B, 2, none⟩) (.inr rfl) (.slice sa sn sc)) (fun q _ hq => .inr (Nat.le_of_eq (Eq.symm hq))) (fun _ _ hh => hh)
              have hc6 := hc5.setCell (p := ⟨B, 2, none⟩) (.inl hBge) (.slice sa sn sc)
              clear g0 g1 g2 g3 hB5 hmk5 hout5 hc5 hB hmk hout hc
              go_roundw
              case rel => exact ⟨j + 1, .slice sa sn sc, by omega, by go_num, hc6, hout6, hB6, by rw [turn_take (z := ⟨43, tx⟩) HY.out (by unfold turnMark; simp [*])]; exact hmk6⟩
              case measure => simp [intOf] <;> omega
            · have t1 : (sg == 43) = false := by simp [h43]
              have t2 : (sg == 45) = false := by simp [h45]
              go_wp2_with (at_builtin; refine wpList_push (by rfl) _ _ 22 (by rfl) elemOk_mark (O := Old (B + 1)) (l := (x.marks.take j).map turnMark) (y := ⟨sg, tx⟩) (by rfl) (by rfl) (by simp) (hmk.never ((Chg.refl Never wr).alloc _)) (rd_mark _ _ sg tx (by first | decide | omega) (by first | decide | omega) hxs) (hOm _) hml2 ?_; intro mv' w5 hmk5 hc2 _; obtain ⟨sa, sn, sc, rfl⟩ := own_isSlice hmk5; have hmk4 := hmk.never ((Chg.refl Never wr).alloc (.cells #[.int .u8 sg, .string tx] 68)); have hB5 := (hB.keep ((Chg.refl Never wr).alloc _) (fun h => h)).keep hc2 (fun hh => own_out hmk4 _ hh (Nat.lt_succ_self _)); have hout5 := (hout.never ((Chg.refl Never wr).alloc _)).keep (O'' := fun q => Old w.heap.size q ∨ B ≤ q) hc2 (fun q _ hq => .inr (by have := own_out hmk4 q hq; unfold Old at this; omega)) (fun _ _ hh => hh); have hc5 := (hc.alloc (.cells #[.int .u8 sg, .string tx] 68)).trans' hc2 (fun i hi hh => own_out hmk4 i hh (by unfold Old; omega)); obtain ⟨g0, g1, g2⟩ := hB5.cell; have g3 := hB5.free 2; clear hc2 hmk4)
              have hB6 := hB5.set2 (.slice sa sn sc)
              have hmk6 := hmk5.keep (O' := fun q => q = B) (O'' := Old (B + 1)) ((Chg.refl (fun q => q = B) w5).setCell (p := ⟨B, 2, none⟩) (.inr rfl) (.slice sa sn sc)) (fun q _ hq => by have h : q = B := hq; unfold Old; omega) (fun _ _ hh => hh)
              have hout6 := hout5.keep (O' := fun q => q = B) (O'' := fun q => Old w.heap.size q ∨ B ≤ q) ((Chg.refl (fun q => q = B) w5).setCell (p := ⟨B, 2, none⟩) (.inr rfl) (.slice sa sn sc)) (fun q _ hq => .inr (Nat.le_of_eq (Eq.symm hq))) (fun _ _ hh => hh)
              have hc6 := hc5.setCell (p := ⟨B, 2, none⟩) (.inl hBge) (.slice sa sn sc)
              clear g0 g1 g2 g3 hB5 hmk5 hout5 hc5 hB hmk hout hc
              go_roundw
              case rel => exact ⟨j + 1, .slice sa sn sc, by omega, by go_num, hc6, hout6, hB6, by rw [turn_take (z := ⟨sg, tx⟩) HY.out (by unfold turnMark; simp [*])]; exact hmk6⟩
              case measure => simp [intOf] <;> omega
        · obtain rfl : j = x.marks.length := by omega
          rw [List.take_length] at hmk
          have hout' := hout.keep (O'' := Old w.heap.size) (Chg.refl Never wr) (fun _ _ hh => hh.elim) (fun _ _ hh => .inl hh)
          have hy : Dat.rd wr (fun q => Old w.heap.size q ∨ u3.ownBlock = some q) [.int .i64 x.new, .int .i64 x.old, .slice qa qn qc] (turnHunk x) := ⟨_, rfl, by
            refine (hmk.rdv).sub ?_
            rintro q hq (hh | hh)
            · unfold Old at *; omega
            · have := own_out hout q hh
              unfold Old at *
              omega⟩
          clear m3
          go_wp2_with (at_builtin; refine wpList_push (by rfl) _ _ 43 (by rfl) elemOk_hunk (O := Old w.heap.size) (l := turnHunks (l.take k)) (y := turnHunk x) (by rfl) (by rfl) (by rfl) hout' hy (old_lt hc) hlen2 ?_; intro v' w7 hout7 hc7 _)
          have hc8 := own_step hc hout' hc7
          clear hc7 hout' hout hc
          go_roundw
          case rel => exact ⟨k + 1, by omega, by go_num, hc8, by rw [turnHunks_take HX.out]; exact hout7⟩
          case measure => simp [intOf] <;> omega
    · obtain rfl : k = l.length := by omega
      rw [List.take_length] at hout0
      go_wp2_with fail
      go_ret
      exact ⟨_, rfl, hc, hout0.rdv⟩
end Go.Proofs.YtlflhehlbnbhgaaDoor
