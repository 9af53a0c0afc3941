/-
  PARTS: THE WALKS of the document's SplitOf, and of handstitchsame.Series.; HUNKS DONE FROM THE LAST ONE ON, in plain Lean: it comes to the same as from the first one on.; THE WALKS of the document's Stands, replaced, StrictOf.; THE WALK of the document's StrictOf.; THE WALK of patch.done: what a change does to what a path reads.
-/
import Derived.Test.YteocmmejfnmjcaaGreatDoorPackAi8
import Derived.Test.YteocmmejfnmjcaaGreatDoorPackAi9
import Derived.Deep.RegionHeld3
import Derived.Test.YteocmmejfnmjcaaGreatDoorPackAi4
import Derived.Test.YteocmmejfnmjcaaGreatDoorPackAi7
import Derived.Test.YteocmmejfnmjcaaGreatDoorPackAi5
import Derived.Test.YteocmmejfnmjcaaGreatDoorPackAi6
import Derived.BigQuiet
namespace Go.Proofs.YteocmmejfnmjcaaGreatDoor
open Go.RowKit

theorem five_keep {w0 w w' : World} {a b c d e : Addr} {x y z u v : Value} (h : Chg Never w0 w ∧ w.cell? a = some x ∧ w.cell? b = some y ∧ w.cell? c = some z ∧ w.cell? d = some u ∧ w.cell? e = some v) (hc : Chg Never w w') :
    Chg Never w0 w' ∧ w'.cell? a = some x ∧ w'.cell? b = some y ∧ w'.cell? c = some z ∧ w'.cell? d = some u ∧ w'.cell? e = some v :=
  ⟨h.1.trans hc, hc.cellNever h.2.1, hc.cellNever h.2.2.1, hc.cellNever h.2.2.2.1, hc.cellNever h.2.2.2.2.1, hc.cellNever h.2.2.2.2.2⟩
theorem lit_piece {w4 W6 : World} {O : Nat → Prop} {h : Hunk} {k : Int} {pt : ByteArray} {r : Value} {s : Nat} (hs : w4.heap.size = s) (hr : Rdv w4 O r h.marks) (hO : ∀ q, s ≤ q → ¬ O q) (hpc : pt.size ≤ maxLen)
    (hW : W6 = (w4.alloc (.cells #[.int .i64 h.new, .int .i64 h.new, r] 61)).alloc (.cells #[.int .i64 k, .string pt, .slice (some ⟨s, 0, none⟩) 1 1] 36)) :
    Chg Never w4 W6 ∧ Rdv W6 O (.slice (some ⟨s + 1, 0, none⟩) 1 1) (pieceOf k pt h) := by
  subst hs
  have hh5 := rdv_hunkO (t := 61) (x := ⟨h.new, h.new, h.marks⟩) hr (hO _ (Nat.le_refl _))
  have hs5 : (w4.alloc (.cells #[.int .i64 h.new, .int .i64 h.new, r] 61)).heap.size = w4.heap.size + 1 := World.size_alloc _ _
  have hA5 : Chg Never w4 (w4.alloc (.cells #[.int .i64 h.new, .int .i64 h.new, r] 61)) := (Chg.refl Never w4).alloc _
  simp only at hh5
  generalize w4.alloc (.cells #[.int .i64 h.new, .int .i64 h.new, r] 61) = W5 at hh5 hs5 hA5 hW
  have hn := heap_alloc_new W5 (.cells #[.int .i64 k, .string pt, .slice (some ⟨w4.heap.size, 0, none⟩) 1 1] 36)
  have hA6 : Chg Never W5 (W5.alloc (.cells #[.int .i64 k, .string pt, .slice (some ⟨w4.heap.size, 0, none⟩) 1 1] 36)) := (Chg.refl Never W5).alloc _
  rw [← hW] at hn hA6
  rw [hs5] at hn
  exact ⟨hA5.trans hA6, rdv_at (cs := [.int .i64 k, .string pt, .slice (some ⟨w4.heap.size, 0, none⟩) 1 1]) hn (hO _ (by omega)) ⟨_, rfl, hpc, hh5.never hA6⟩⟩
set_option maxHeartbeats 4000000 in
set_option maxRecDepth 100000 in
theorem refSplitP_any (p : List Change) (vp : Value) (w : World) (hp : Rdv w Never vp p) :
    Calls Tryz.prog 19 #[vp] w fun e w' => ∃ r, e = .returned (.tuple #[r, .int .i64 (splitPF p)]) ∧ Chg Never w w' ∧ Rdv w' Never r (splitPR p) := by
  obtain ⟨pa, pcap, rfl, p1, p2, p3⟩ := rdv_slice hp
  unfold maxLen at p2
  by_cases y : (patchFault p).2 = 0
  · have Y := Lib.hid y
    have pl := (patch_of y).1
    have PV : Hid (∀ c ∈ p, changeFault c = 0) := (patch_of y).2.1
    have PL : Hid (∀ c ∈ p, c.hunks.length ≤ 60) := fun c hc => (hunksFault_zero (by rw [(changeFault_zero (PV.out c hc)).2.2.2.1])).1
    clear y
    go_enter Tryz.func19, Tryz.ntmps19
    go_wp2_with fail
    refine (refPatch_any p _ _ hp).mono ?_
    rintro e w1 ⟨rfl, hw⟩
    rw [Y.out]
    have hn0 := ownN_nil (α := List Change) 23 hw
    go_wp2_with fail
    go_loopw [6, 7] (fun o i wr => ∃ k : Nat, k ≤ p.length ∧ i = .int .i64 k ∧ OwnN 23 w wr o (pieces (p.take k)) ∧ Hid (firstOf pcF (pieces (p.take k)) = 0)) (fun _ i _ => p.length - (intOf i).toNat)
    case atStart => exact ⟨0, Nat.zero_le _, rfl, hn0, rfl⟩
    case round =>
      clear hn0 hw
      rename World => wr
      obtain ⟨k, hk, rfl, hn, HF⟩ := hrel
      obtain ⟨oa, on, oc, rfl⟩ := own_isSlice hn.own
      by_cases hlt : k < p.length
      · obtain ⟨c, hx⟩ : ∃ c, p[k]? = some c := ⟨p[k], by simp [hlt]⟩
        have HT := Lib.hid (pieces_take hx)
        have HX := Lib.hid hx
        have HCV : Hid (changeFault c = 0) := PV.out c (List.mem_of_getElem? hx)
        have hcl : c.hunks.length ≤ 60 := PL.out c (List.mem_of_getElem? hx)
        obtain ⟨wh, pt, hs⟩ := c
        obtain ⟨pb, po, hv, hpo, _, _, c0, c1, c2, hpc, hhv⟩ := elems_change p3 hx
        subst hpo
        simp only at c0 c1 c2 hpc hhv hcl
        obtain ⟨ha, hcap, rfl, hh1, hh2, hh3⟩ := rdv_slice hhv
        unfold maxLen at hh2
        have C0 := Lib.hid c0
        have C1 := Lib.hid c1
        have C2 := Lib.hid c2
        have hpl : (pieces (p.take k)).length ≤ 61 * 16 := by
          have := pieces_len (p.take k) (fun d hd => PL.out d (List.mem_of_mem_take hd))
          rw [List.length_take] at this
          omega
        clear hx p3 c0 c1 c2
        have c0 := hn.chg.cellNever C0.out
        have c1 := hn.chg.cellNever C1.out
        have c2 := hn.chg.cellNever C2.out
        by_cases h0 : hs = []
        · subst h0
          have HP : Hid (piecesC ⟨wh, pt, []⟩ = [[⟨wh, pt, []⟩]]) := if_pos rfl
          have hlen : (pieces (p.take k)).length ≤ 1000000000 := by omega
          have hltO := own_block_lt hn.own
          have hA1 : Chg Never wr (wr.alloc (.cells #[.int .i64 wh, .string pt, .slice ha ([] : List Hunk).length hcap] 36)) := (Chg.refl Never _).alloc _
          have hnew := heap_alloc_new wr (.cells #[.int .i64 wh, .string pt, .slice ha ([] : List Hunk).length hcap] 36)
          have hn1 := hn.never hA1
          have hy1 : Rdv _ (fun q => Never q ∨ (Value.slice oa on oc).ownBlock = some q) (.slice (some ⟨wr.heap.size, 0, none⟩) 1 1) [(⟨wh, pt, []⟩ : Change)] := rdv_at (cs := [.int .i64 wh, .string pt, .slice ha ([] : List Hunk).length hcap]) hnew (fun h => h.elim (fun h => h) (fun h => by have := hltO _ h; omega)) ⟨_, rfl, hpc, (hn.away hhv).never hA1⟩
          have hyo : Dat.rd _ (fun q => Never q ∨ (Value.slice oa on oc).ownBlock = some q) [.slice (some ⟨wr.heap.size, 0, none⟩) 1 1] [(⟨wh, pt, []⟩ : Change)] := hy1
          go_wp2_with (at_builtin; refine wpList_push (by rfl) _ _ 50 (by rfl) elemOk_changes (O := Never) (l := pieces (p.take k)) (y := [(⟨wh, pt, []⟩ : Change)]) (by rfl) (by rfl) (by simp) hn1.own hyo (fun _ h => h.elim) hlen ?_; intro v' w9 hown2 hc2 hk2; have hn9 := hn1.step1 hown2 hc2 hk2; clear hown2 hc2 hk2 hn1 hyo hy1 hnew hA1 c0 c1 c2; obtain ⟨ya, yn, yc, rfl⟩ := own_isSlice hn9.own)
          go_loopw [6, 8] (fun o i wz => i = .int .i64 0 ∧ OwnN 23 w wz o (pieces (p.take k) ++ [[(⟨wh, pt, []⟩ : Change)]])) (fun _ _ _ => 0)
          case atStart => exact ⟨rfl, hn9⟩
          case round =>
            clear hn9
            rename World => wz
            obtain ⟨rfl, hnz⟩ := hrel
            obtain ⟨za, zn, zc, rfl⟩ := own_isSlice hnz.own
            have c2 := hnz.chg.cellNever C2.out
            go_wp2_with fail
            clear c2
            go_roundw
            case rel => exact ⟨k + 1, by omega, by go_num, by rw [HT.out, HP.out]; exact hnz, by rw [Hid, HT.out, HP.out, first_app, if_pos HF.out, first_one]; exact pcF_ok HCV.out⟩
            case measure => simp [intOf] <;> omega
        · have h0' : ((hs.length : Int) == 0) = false := beq_eq_false_iff_ne.2 (by have := List.length_pos_iff.2 h0; omega)
          have HP : Hid (piecesC ⟨wh, pt, hs⟩ = hs.map (pieceOf wh pt)) := if_neg h0
          clear h0
          go_wp2_with fail
          clear c0 c1 c2
          go_loopw [6, 8] (fun o i wz => ∃ j : Nat, j ≤ hs.length ∧ i = .int .i64 j ∧ OwnN 23 w wz o (pieces (p.take k) ++ (hs.take j).map (pieceOf wh pt)) ∧ Hid (firstOf pcF ((hs.take j).map (pieceOf wh pt)) = 0)) (fun _ i _ => hs.length - (intOf i).toNat)
          case atStart => exact ⟨0, Nat.zero_le _, rfl, by rw [List.take_zero, List.map_nil, List.append_nil]; exact hn, rfl⟩
          case round =>
            clear hn
            rename World => wz
            obtain ⟨j, hj, rfl, hnz, HFj⟩ := hrel
            obtain ⟨za, zn, zc, rfl⟩ := own_isSlice hnz.own
            have c0 := hnz.chg.cellNever C0.out
            have c1 := hnz.chg.cellNever C1.out
            have c2 := hnz.chg.cellNever C2.out
            by_cases hjl : j < hs.length
            · obtain ⟨h, hhx⟩ : ∃ h, hs[j]? = some h := ⟨hs[j], by simp [hjl]⟩
              obtain ⟨hb, ho, mv, hha, _, _, g0, g1, g2, hmv⟩ := elems_hunk hh3 hhx
              subst hha
              have g0 := hnz.chg.cellNever g0
              have g1 := hnz.chg.cellNever g1
              have g2 := hnz.chg.cellNever g2
              have HHX := Lib.hid hhx
              obtain ⟨ma, mc, rfl, _, _, _⟩ := rdv_slice hmv
              have hltZ := own_block_lt hnz.own
              have hB3 := Blk3.new wz 61 (.int .i64 h.new) (.int .i64 h.new) (.slice ma h.marks.length mc)
              have hZ3 : Chg Never wz (wz.alloc (.cells #[.int .i64 h.new, .int .i64 h.new, .slice ma h.marks.length mc] 61)) := (Chg.refl Never wz).alloc _
              have hs3 : (wz.alloc (.cells #[.int .i64 h.new, .int .i64 h.new, .slice ma h.marks.length mc] 61)).heap.size = wz.heap.size + 1 := World.size_alloc _ _
              have hBo := Blk3.new wz 61 (.int .i64 h.old) (.int .i64 h.new) (.slice ma h.marks.length mc)
              obtain ⟨q0, q1, q2⟩ := hBo.cell
              have qf := hBo.free
              have qf0 := qf 0
              have hmz := hnz.away hmv
              clear hhx
              go_upto_region 15 with fail
              generalize wz.alloc (.cells #[.int .i64 h.new, .int .i64 h.new, .slice ma h.marks.length mc] 61) = w3 at hB3 hZ3 hs3 ⊢
              clear g0 g1 g2 q0 q1 q2 qf qf0 hBo
              have c0 := hZ3.cellNever c0
              have c1 := hZ3.cellNever c1
              have hmz := hmz.never hZ3
              obtain ⟨r0, r1, r2⟩ := hB3.cell
              refine wp_region_held_drew (S := fun w' => Chg Never w3 w' ∧ w'.cell? ⟨pb, po + k * 3, none⟩ = some (.int .i64 wh) ∧ w'.cell? ⟨pb, po + k * 3 + 1, none⟩ = some (.string pt) ∧ w'.cell? ⟨wz.heap.size, 0, none⟩ = some (.int .i64 h.new) ∧ w'.cell? ⟨wz.heap.size, 1, none⟩ = some (.int .i64 h.new) ∧ w'.cell? ⟨wz.heap.size, 2, none⟩ = some (.slice ma h.marks.length mc)) (by kernel_rfl) ⟨(Chg.refl Never w3).drew, c0, c1, r0, r1, r2⟩ (fun hH => ?_)
              refine' wpAnyH_take (i := 0) ?hi0 (by kernel_rfl) (by kernel_rfl) (by kernel_rfl) ?hQ0 (Or.inl ⟨?hw0, ?hy0⟩) (by assumption) ?_
              case hi0 => (simp only [List.getElem?_toArray, List.getElem?_cons_succ, List.getElem?_cons_zero]; rfl)
              case hQ0 => exact fun _ _ _ h => h
              case hw0 => rfl
              case hy0 => (intro w' hSw; (try dsimp only at hSw); go_simp; all_goals with_reducible rfl)
              try simp only [Act.put, List.setIfInBounds_toArray, List.set_cons_zero, List.set_cons_succ]
              refine' wpAnyH_take (i := 1) ?hi1 (by kernel_rfl) (by kernel_rfl) (by kernel_rfl) ?hQ1 (Or.inl ⟨?hw1, ?hy1⟩) (by assumption) ?_
              case hi1 => (simp only [List.getElem?_toArray, List.getElem?_cons_succ, List.getElem?_cons_zero]; rfl)
              case hQ1 => exact fun _ _ _ h => h
              case hw1 => rfl
              case hy1 => (intro w' hSw; (try dsimp only at hSw); go_simp; all_goals with_reducible rfl)
              try simp only [Act.put, List.setIfInBounds_toArray, List.set_cons_zero, List.set_cons_succ]
              refine' wpAnyH_take (i := 2) ?hi2 (by kernel_rfl) (by kernel_rfl) (by kernel_rfl) ?hQ2 (Or.inl ⟨?hw2, ?hy2⟩) (by assumption) ?_
              case hi2 => (simp only [List.getElem?_toArray, List.getElem?_cons_succ, List.getElem?_cons_zero]; rfl)
              case hQ2 => exact fun _ _ _ h => h
              case hw2 => rfl
              case hy2 => (intro w' hSw; (try dsimp only at hSw); go_simp; all_goals with_reducible rfl)
              try simp only [Act.put, List.setIfInBounds_toArray, List.set_cons_zero, List.set_cons_succ]
              refine' wpAnyH_take (i := 3) ?hi3 (by kernel_rfl) (by kernel_rfl) (by kernel_rfl) ?hQ3 (Or.inl ⟨?hw3, ?hy3⟩) (by assumption) ?_
              case hi3 => (simp only [List.getElem?_toArray, List.getElem?_cons_succ, List.getElem?_cons_zero]; rfl)
              case hQ3 => exact fun _ _ _ h => h
              case hw3 => rfl
              case hy3 => (intro w' hSw; (try dsimp only at hSw); go_simp; all_goals with_reducible rfl)
              try simp only [Act.put, List.setIfInBounds_toArray, List.set_cons_zero, List.set_cons_succ]
              refine' wpAnyH_take (i := 4) ?hi4 (by kernel_rfl) (by kernel_rfl) (by kernel_rfl) ?hQ4 (Or.inl ⟨?hw4, ?hy4⟩) (by assumption) ?_
              case hi4 => (simp only [List.getElem?_toArray, List.getElem?_cons_succ, List.getElem?_cons_zero]; rfl)
              case hQ4 => exact fun _ _ _ h => h
              case hw4 => rfl
              case hy4 => (intro w' hSw; (try dsimp only at hSw); go_simp; all_goals with_reducible rfl)
              try simp only [Act.put, List.setIfInBounds_toArray, List.set_cons_zero, List.set_cons_succ]
              refine' wpAnyH_take (i := 5) ?hi5 (by kernel_rfl) (by kernel_rfl) (by kernel_rfl) ?hQ5 (Or.inl ⟨?hw5, ?hy5⟩) (by assumption) ?_
              case hi5 => (simp only [List.getElem?_toArray, List.getElem?_cons_succ, List.getElem?_cons_zero]; rfl)
              case hQ5 => exact fun _ _ _ h => h
              case hw5 => rfl
              case hy5 => (intro w' hSw; (try dsimp only at hSw); go_simp; all_goals with_reducible rfl)
              try simp only [Act.put, List.setIfInBounds_toArray, List.set_cons_zero, List.set_cons_succ]
              refine' wpAnyH_take (i := 6) ?hi6 (by kernel_rfl) (by kernel_rfl) (by kernel_rfl) ?hQ6 (Or.inl ⟨?hw6, ?hy6⟩) (by assumption) ?_
              case hi6 => (simp only [List.getElem?_toArray, List.getElem?_cons_succ, List.getElem?_cons_zero]; rfl)
              case hQ6 => exact fun _ _ _ h => h
              case hw6 => rfl
              case hy6 => (intro w' hSw; (try dsimp only at hSw); go_simp; all_goals with_reducible rfl)
              try simp only [Act.put, List.setIfInBounds_toArray, List.set_cons_zero, List.set_cons_succ]
              refine' wpAnyH_take (i := 7) ?hi7 (by kernel_rfl) (by kernel_rfl) (by kernel_rfl) ?hQ7 (Or.inl ⟨?hw7, ?hy7⟩) (by assumption) ?_
              case hi7 => (simp only [List.getElem?_toArray, List.getElem?_cons_succ, List.getElem?_cons_zero]; rfl)
              case hQ7 => exact fun _ _ _ h => h
              case hw7 => rfl
              case hy7 => (intro w' hSw; (try dsimp only at hSw); go_simp; all_goals with_reducible rfl)
              try simp only [Act.put, List.setIfInBounds_toArray, List.set_cons_zero, List.set_cons_succ]
              refine' wpAnyH_take (i := 8) ?hi8 (by kernel_rfl) (by kernel_rfl) (by kernel_rfl) ?hQ8 (Or.inl ⟨?hw8, ?hy8⟩) (by assumption) ?_
              case hi8 => (simp only [List.getElem?_toArray, List.getElem?_cons_succ, List.getElem?_cons_zero]; rfl)
              case hQ8 => exact fun _ _ _ h => h
              case hw8 => rfl
              case hy8 => (intro w' hSw; (try dsimp only at hSw); go_simp; all_goals with_reducible rfl)
              try simp only [Act.put, List.setIfInBounds_toArray, List.set_cons_zero, List.set_cons_succ]
              refine' wpAnyH_take (i := 9) ?hi9 (by kernel_rfl) (by kernel_rfl) (by kernel_rfl) ?hQ9 (Or.inl ⟨?hw9, ?hy9⟩) (by assumption) ?_
              case hi9 => (simp only [List.getElem?_toArray, List.getElem?_cons_succ, List.getElem?_cons_zero]; rfl)
              case hQ9 => exact fun _ _ _ h => h
              case hw9 => rfl
              case hy9 => (intro w' hSw; (try dsimp only at hSw); go_simp; all_goals with_reducible rfl)
              try simp only [Act.put, List.setIfInBounds_toArray, List.set_cons_zero, List.set_cons_succ]
              refine' wpAnyH_take (i := 10) ?hi10 (by kernel_rfl) (by kernel_rfl) (by kernel_rfl) ?hQ10 (Or.inl ⟨?hw10, ?hy10⟩) (by assumption) ?_
              case hi10 => (simp only [List.getElem?_toArray, List.getElem?_cons_succ, List.getElem?_cons_zero]; rfl)
              case hQ10 => exact fun _ _ _ h => h
              case hw10 => rfl
              case hy10 => (intro w' hSw; (try dsimp only at hSw); go_simp; all_goals with_reducible rfl)
              try simp only [Act.put, List.setIfInBounds_toArray, List.set_cons_zero, List.set_cons_succ]
              refine wpAnyH_ready (rs := [11]) (by kernel_rfl) (by simp) ?_
              refine AllReadyH.cons rfl (fun K hK => ?_) AllReadyH.nil
              go_simp
              refine hK.out _ _ (five_keep hH ((Chg.refl Never _).alloc _)) (fun hH2 => ?_)
              clear hK K
              try simp only [Act.put, List.setIfInBounds_toArray, List.set_cons_zero, List.set_cons_succ]
              refine' wpAnyH_take (i := 12) ?hi12 (by kernel_rfl) (by kernel_rfl) (by kernel_rfl) ?hQ12 (Or.inl ⟨?hw12, ?hy12⟩) (by assumption) ?_
              case hi12 => (simp only [List.getElem?_toArray, List.getElem?_cons_succ, List.getElem?_cons_zero]; rfl)
              case hQ12 => exact fun _ _ _ h => h
              case hw12 => rfl
              case hy12 => (intro w' hSw; (try dsimp only at hSw); go_simp; all_goals with_reducible rfl)
              try simp only [Act.put, List.setIfInBounds_toArray, List.set_cons_zero, List.set_cons_succ]
              refine wpAnyH_ready (rs := [13]) (by kernel_rfl) (by simp) ?_
              refine AllReadyH.cons rfl (fun K hK => ?_) AllReadyH.nil
              go_simp
              refine hK.out _ _ (five_keep hH2 ((Chg.refl Never _).alloc _)) (fun hH3 => ?_)
              clear hK K
              try simp only [Act.put, List.setIfInBounds_toArray, List.set_cons_zero, List.set_cons_succ]
              refine' wpAnyH_take (i := 14) ?hi14 (by kernel_rfl) (by kernel_rfl) (by kernel_rfl) ?hQ14 (Or.inl ⟨?hw14, ?hy14⟩) (by assumption) ?_
              case hi14 => (simp only [List.getElem?_toArray, List.getElem?_cons_succ, List.getElem?_cons_zero]; rfl)
              case hQ14 => exact fun _ _ _ h => h
              case hw14 => rfl
              case hy14 => (intro w' hSw; (try dsimp only at hSw); go_simp; all_goals with_reducible rfl)
              try simp only [Act.put, List.setIfInBounds_toArray, List.set_cons_zero, List.set_cons_succ]
              refine wpAnyH_done (by kernel_rfl) ?_ _
              clear hH hH2 hH3 r0 r1 r2 hB3
              have hOO : ∀ q, wz.heap.size + 1 ≤ q → ¬ (Never q ∨ (Value.slice za zn zc).ownBlock = some q) := fun q hq h => h.elim (fun h => h) (fun h => by have := hltZ q h; omega)
              obtain ⟨W6, hW6⟩ : ∃ W6, W6 = (w3.alloc (.cells #[.int .i64 h.new, .int .i64 h.new, .slice ma h.marks.length mc] 61)).alloc (.cells #[.int .i64 wh, .string pt, .slice (some ⟨wz.heap.size + 1, 0, none⟩) 1 1] 36) := ⟨_, rfl⟩
              obtain ⟨hc6, hone⟩ := lit_piece (h := h) hs3 hmz hOO hpc hW6
              rw [← hW6]
              have hdr : Chg Never W6 W6.drew := (Chg.refl Never W6).drew
              have hZ6 := (hZ3.trans hc6).trans hdr
              have hone := hone.never hdr
              clear hW6 hc6 hdr hZ3 hs3 hmz hOO c0 c1 c2
              generalize W6.drew = w6 at hZ6 hone ⊢
              go_wp2_with fail
              refine (refPatch_any (pieceOf wh pt h) _ _ (hone.sub (fun _ _ h => h.elim))).mono ?_
              rintro e w7 ⟨rfl, hc7⟩
              have hZ7 := hZ6.trans hc7
              have hone := hone.never hc7
              have hn7 := hnz.never hZ7
              clear hZ6 hc7
              by_cases zz : (patchFault (pieceOf wh pt h)).2 = 0
              · have HZ := Lib.hid zz
                have HL : Hid ((hs.take (j + 1)).map (pieceOf wh pt) = (hs.take j).map (pieceOf wh pt) ++ [pieceOf wh pt h]) := by rw [Hid, List.take_add_one, HHX.out]; simp
                have hlen : (pieces (p.take k) ++ (hs.take j).map (pieceOf wh pt)).length ≤ 1000000000 := by rw [List.length_append, List.length_map, List.length_take]; omega
                rw [zz]
                clear zz
                have hyo : Dat.rd w7 (fun q => Never q ∨ (Value.slice za zn zc).ownBlock = some q) [.slice (some ⟨wz.heap.size + 1 + 1, 0, none⟩) 1 1] (pieceOf wh pt h) := hone
                go_wp2_with (at_builtin; refine wpList_push (by rfl) _ _ 50 (by rfl) elemOk_changes (O := Never) (l := pieces (p.take k) ++ (hs.take j).map (pieceOf wh pt)) (y := pieceOf wh pt h) (by rfl) (by rfl) (by rfl) hn7.own hyo (fun _ h => h.elim) hlen ?_; intro v' w9 hown2 hc2 hk2; have hn9 := hn7.step1 hown2 hc2 hk2; clear hown2 hc2 hk2 hn7 hyo hone; obtain ⟨ya, yn, yc, rfl⟩ := own_isSlice hn9.own)
                go_roundw
                case rel => exact ⟨j + 1, by omega, by go_num, by rw [HL.out, ← List.append_assoc]; exact hn9, by rw [Hid, HL.out, first_app, if_pos HFj.out, first_one]; exact HZ.out⟩
                case measure => simp [intOf] <;> omega
              · have HS := Lib.hid (split_bad Y.out HX.out HHX.out HF.out HFj.out zz)
                have HR : Hid (splitPR p = []) := if_neg (by rw [HS.out]; exact zz)
                have hcf := hn7.chg
                have z0 : ((patchFault (pieceOf wh pt h)).2 == 0) = false := by simp [zz]
                have z0' : ((patchFault (pieceOf wh pt h)).2 != 0) = true := by simp [zz]
                clear zz hone hn7
                go_wp2_with fail
                go_ret2
                exact ⟨.slice none 0 0, by rw [HS.out]; rfl, hcf, by rw [HR.out]; exact rdv_nil _ _⟩
            · obtain rfl : j = hs.length := by omega
              rw [List.take_length] at hnz HFj
              go_wp2_with fail
              clear c0 c1 c2
              go_roundw
              case rel => exact ⟨k + 1, by omega, by go_num, by rw [HT.out, HP.out]; exact hnz, by rw [Hid, HT.out, HP.out, first_app, if_pos HF.out]; exact HFj.out⟩
              case measure => simp [intOf] <;> omega
      · obtain rfl : k = p.length := by omega
        rw [List.take_length] at hn HF
        have HS : Hid (splitPF p = 0) := by unfold Hid splitPF; rw [if_neg (by rw [Y.out]; decide)]; exact HF.out
        have HR : Hid (splitPR p = pieces p) := if_pos HS.out
        go_wp2_with fail
        go_ret2
        exact ⟨_, by rw [HS.out]; rfl, hn.chg, by rw [HR.out]; exact hn.own.rdv.sub (fun _ _ h => h.elim)⟩
  · have HS : Hid (splitPF p = (patchFault p).2) := if_pos y
    have HR : Hid (splitPR p = []) := if_neg (by rw [HS.out]; exact y)
    have y0 : ((patchFault p).2 == 0) = false := by simp [y]
    have y0' : ((patchFault p).2 != 0) = true := by simp [y]
    clear y
    go_enter Tryz.func19, Tryz.ntmps19
    go_wp2_with fail
    refine (refPatch_any p _ _ hp).mono ?_
    rintro e w1 ⟨rfl, hw⟩
    go_wp2_with fail
    go_ret2
    exact ⟨.slice none 0 0, by rw [HS.out]; rfl, hw, by rw [HR.out]; exact rdv_nil _ _⟩
end Go.Proofs.YteocmmejfnmjcaaGreatDoor
namespace Go.Proofs.YteocmmejfnmjcaaGreatDoor

def repl (a : List ByteArray) (at_ n : Nat) (l : List ByteArray) : List ByteArray := a.take at_ ++ l ++ a.drop (at_ + n)
def backDo (a : List ByteArray) (r : List Hunk) : List ByteArray := r.foldr (fun h acc => repl acc h.old.toNat (oldN h.marks) (newOf h.marks)) a
theorem backDo_cons (a : List ByteArray) (h : Hunk) (r : List Hunk) : backDo a (h :: r) = repl (backDo a r) h.old.toNat (oldN h.marks) (newOf h.marks) := rfl
/-- the number of the first hunk whose old lines do not stand where it says -/
def firstClash (a : List ByteArray) : Nat → List Hunk → Option Nat
  | _, [] => none
  | i, h :: r => if standsB a h.old (oldOf h.marks) then firstClash a (i + 1) r else some i
theorem stands_bound {a : List ByteArray} {h : Hunk} (hs : standsB a h.old (oldOf h.marks) = true) : 0 ≤ h.old ∧ h.old.toNat + oldN h.marks ≤ a.length := by
  obtain ⟨s1, s2, _⟩ := stands_split hs
  exact ⟨s1, s2⟩
theorem back_take (a : List ByteArray) : ∀ (r : List Hunk) (i fr : Nat) (more : Int), fr ≤ a.length → hOk fr more r → firstClash a i r = none → (backDo a r).take fr = a.take fr ∧ fr ≤ (backDo a r).length
  | [], _, fr, _, h1, _, _ => ⟨rfl, h1⟩
  | h :: r, i, fr, more, h1, hk, hf => by
    rw [firstClash] at hf
    by_cases hs : standsB a h.old (oldOf h.marks) = true
    · rw [if_pos hs] at hf
      obtain ⟨b0, b1⟩ := stands_bound hs
      obtain ⟨_, _, _, _, _, _, z7, _⟩ := oneFault_zero hk.1
      obtain ⟨o, ho⟩ := Int.eq_ofNat_of_zero_le b0
      rw [ho, Int.toNat_natCast] at b1
      have hfo : fr ≤ o := by omega
      obtain ⟨i1, i2⟩ := back_take a r (i + 1) (o + oldN h.marks) (more + newN h.marks - oldN h.marks) b1 (by have := hk.2; rw [ho] at this; push_cast; exact this) hf
      rw [backDo_cons, ho, Int.toNat_natCast, repl]
      have e1 : (backDo a r).take fr = a.take fr := by
        have := congrArg (List.take fr) i1
        rwa [List.take_take, List.take_take, Nat.min_eq_left (by omega)] at this
      constructor
      · rw [List.append_assoc, List.take_append_of_le_length (by rw [List.length_take]; omega), List.take_take, Nat.min_eq_left hfo, e1]
      · rw [List.length_append, List.length_append, List.length_take]; omega
    · rw [if_neg hs] at hf; cases hf
theorem strictGo_back (a : List ByteArray) : ∀ (r : List Hunk) (i fr : Nat) (out : List ByteArray) (more : Int), fr ≤ a.length → hOk fr more r →
    strictGo a i fr out r = match firstClash a i r with
      | some k => ([], k, 6)
      | none => if 60 < (out ++ (backDo a r).drop fr).length then ([], 0, 3) else (out ++ (backDo a r).drop fr, 0, 0)
  | [], i, fr, out, more, h1, hk => by rw [firstClash, strictGo]; rfl
  | h :: r, i, fr, out, more, h1, hk => by
    rw [firstClash, strictGo]
    by_cases hs : standsB a h.old (oldOf h.marks) = true
    · rw [if_pos hs, if_pos hs]
      obtain ⟨b0, b1⟩ := stands_bound hs
      obtain ⟨_, _, _, _, _, _, z7, _⟩ := oneFault_zero hk.1
      obtain ⟨o, ho⟩ := Int.eq_ofNat_of_zero_le b0
      rw [ho, Int.toNat_natCast] at b1
      have hfo : fr ≤ o := by omega
      have hk2 : hOk ((o + oldN h.marks : Nat) : Int) (more + newN h.marks - oldN h.marks) r := by have := hk.2; rw [ho] at this; push_cast; exact this
      rw [ho, Int.toNat_natCast, strictGo_back a r (i + 1) (o + oldN h.marks) _ _ b1 hk2]
      cases hf : firstClash a (i + 1) r with
      | some k => rfl
      | none =>
        obtain ⟨i1, i2⟩ := back_take a r (i + 1) (o + oldN h.marks) _ b1 hk2 hf
        have e : out ++ (a.drop fr).take (o - fr) ++ newOf h.marks ++ (backDo a r).drop (o + oldN h.marks) = out ++ (backDo a (h :: r)).drop fr := by
          rw [backDo_cons, ho, Int.toNat_natCast, repl]
          have e1 : (backDo a r).take o = a.take o := by
            have := congrArg (List.take o) i1
            rwa [List.take_take, List.take_take, Nat.min_eq_left (by omega)] at this
          rw [e1, List.append_assoc, List.append_assoc, List.append_assoc, List.drop_append_of_le_length (by rw [List.length_take]; omega), List.drop_take]
        simp only [e]
    · rw [if_neg hs, if_neg hs]
theorem repl_length (a : List ByteArray) (at_ n : Nat) (l : List ByteArray) : (repl a at_ n l).length ≤ a.length + l.length := by
  unfold repl
  rw [List.length_append, List.length_append, List.length_take, List.length_drop]
  omega
theorem backDo_length (a : List ByteArray) : ∀ (r : List Hunk), (∀ x ∈ r, newN x.marks ≤ 120) → (backDo a r).length ≤ a.length + 120 * r.length
  | [], _ => by simp [backDo]
  | h :: r, hn => by
    have h1 := backDo_length a r (fun x hx => hn x (List.mem_cons_of_mem _ hx))
    have h2 := hn h (List.mem_cons_self ..)
    have h3 := repl_length (backDo a r) h.old.toNat (oldN h.marks) (newOf h.marks)
    rw [backDo_cons]
    have e : newN h.marks = (newOf h.marks).length := rfl
    simp only [List.length_cons]
    omega
theorem firstClash_none (a : List ByteArray) : ∀ (r : List Hunk) (i : Nat), firstClash a i r = none → ∀ x ∈ r, standsB a x.old (oldOf x.marks) = true
  | [], _, _, x, hx => by simp at hx
  | h :: r, i, hf, x, hx => by
    rw [firstClash] at hf
    by_cases hs : standsB a h.old (oldOf h.marks) = true
    · rw [if_pos hs] at hf
      rcases List.mem_cons.1 hx with rfl | hx
      · exact hs
      · exact firstClash_none a r (i + 1) hf x hx
    · rw [if_neg hs] at hf; cases hf
theorem hOk_drop : ∀ (l : List Hunk) (fin more : Int) (k : Nat), hOk fin more l → ∃ fin' more', hOk fin' more' (l.drop k) ∧ (0 ≤ fin → 0 ≤ fin')
  | [], fin, more, k, h => ⟨fin, more, by simpa using h, fun h => h⟩
  | x :: r, fin, more, 0, h => ⟨fin, more, h, fun h => h⟩
  | x :: r, fin, more, k + 1, h => by
    obtain ⟨_, _, z3, _⟩ := oneFault_zero h.1
    obtain ⟨f, m, h1, h2⟩ := hOk_drop r _ _ k h.2
    exact ⟨f, m, h1, fun _ => h2 (by omega)⟩
theorem hOk_old : ∀ (l : List Hunk) (fin more : Int), hOk fin more l → ∀ h ∈ l, 0 ≤ h.old ∧ h.old ≤ 60
  | [], _, _, _, h, hh => by simp at hh
  | x :: r, fin, more, hk, h, hh => by
    rcases List.mem_cons.1 hh with rfl | hh
    · obtain ⟨_, _, z3, _, z5, _⟩ := oneFault_zero hk.1
      exact ⟨z3, by omega⟩
    · exact hOk_old r _ _ hk.2 h hh
end Go.Proofs.YteocmmejfnmjcaaGreatDoor
namespace Go.Proofs.YteocmmejfnmjcaaGreatDoor
open Go.RowKit

theorem standsB_iff {a l : List ByteArray} {n : Nat} (h : n + l.length ≤ a.length) : standsB a n l = decide ((a.drop n).take l.length = l) := by
  unfold standsB
  have e1 : decide ((0 : Int) ≤ n) = true := by simp
  have e2 : decide ((n : Int) + l.length ≤ a.length) = true := by simp; omega
  rw [e1, e2]; simp
theorem stands_all {a l : List ByteArray} {n : Nat} (h : n + l.length ≤ a.length) (hf : ∀ k, k < l.length → a[n + k]? = l[k]?) : standsB a n l = true := by
  rw [standsB_iff h, decide_eq_true_eq]
  apply List.ext_getElem?
  intro k
  rw [List.getElem?_take]
  by_cases hk : k < l.length
  · rw [if_pos hk, List.getElem?_drop, hf k hk]
  · rw [if_neg hk, List.getElem?_eq_none (by omega)]
theorem stands_not {a l : List ByteArray} {n k : Nat} (h : n + l.length ≤ a.length) {x y : ByteArray} (hx : a[n + k]? = some x) (hy : l[k]? = some y) (hne : x ≠ y) : standsB a n l = false := by
  rw [standsB_iff h, decide_eq_false_iff_not]
  intro e
  have := congrArg (fun q => q[k]?) e
  simp only [List.getElem?_take, List.getElem?_drop] at this
  rw [if_pos (List.getElem?_eq_some_iff.1 hy).1, hx, hy] at this
  injection this with this
  exact hne this

set_option maxHeartbeats 1000000 in
set_option maxRecDepth 100000 in
theorem refStands_any (a l : List ByteArray) (at_ : Int) (v u : Value) (w : World) (ha : Rdv w Never v a) (hl : Rdv w Never u l) (h0 : -1000000 ≤ at_) (h1 : at_ ≤ 1000000) (hla : a.length ≤ 1000000) (hll : l.length ≤ 1000000) :
    Calls Tryz.prog 60 #[v, .int .i64 at_, u] w fun e w' => e = .returned (.bool (standsB a at_ l)) ∧ Chg Never w w' := by
  obtain ⟨b, cap, rfl, _, hcap, ha3⟩ := rdv_slice ha
  obtain ⟨c, cap', rfl, _, hcap', hl3⟩ := rdv_slice hl
  unfold maxLen at hcap hcap'
  by_cases c1 : at_ < 0
  · have E : standsB a at_ l = false := by unfold standsB; simp; omega
    rw [E]
    go_enter Tryz.func60, Tryz.ntmps60
    go_wp2_with fail
    go_ret
    exact ⟨rfl, Chg.refl _ _⟩
  · obtain ⟨n, rfl⟩ := Int.eq_ofNat_of_zero_le (show 0 ≤ at_ by omega)
    by_cases c2 : a.length < n + l.length
    · have E : standsB a n l = false := by unfold standsB; simp; omega
      rw [E]
      have t1 : decide ((a.length : Int) - l.length < n) = true := by simp; omega
      go_enter Tryz.func60, Tryz.ntmps60
      go_wp2_with fail
      go_ret
      exact ⟨rfl, Chg.refl _ _⟩
    · have hle : n + l.length ≤ a.length := by omega
      have t1 : decide ((a.length : Int) - l.length < n) = false := by simp; omega
      clear c2
      go_enter Tryz.func60, Tryz.ntmps60
      go_wp2_with fail
      go_loopw [7] (fun i wr => ∃ k : Nat, k ≤ l.length ∧ i = .int .i64 k ∧ Chg Never w wr ∧ Hid (∀ q, q < k → a[n + q]? = l[q]?)) (fun i _ => l.length - (intOf i).toNat)
      case atStart => exact ⟨0, Nat.zero_le _, rfl, Chg.refl _ _, fun q h => absurd h (Nat.not_lt_zero q)⟩
      case round =>
        obtain ⟨k, hk, rfl, hc, hf⟩ := hrel
        by_cases hlt : k < l.length
        · obtain ⟨y, hy⟩ : ∃ y, l[k]? = some y := ⟨l[k], by simp [hlt]⟩
          obtain ⟨x, hx⟩ : ∃ x, a[n + k]? = some x := ⟨a[n + k]'(by omega), by simp [show n + k < a.length by omega]⟩
          obtain ⟨b1, o1, rfl, _, _, hcx, hxs⟩ := elems_str ha3 hx
          obtain ⟨b2, o2, rfl, _, _, hcy, hys⟩ := elems_str hl3 hy
          have hcx := hc.cellNever hcx
          have hcy := hc.cellNever hcy
          have HX := Lib.hid hx
          have HY := Lib.hid hy
          have e1 : IntKind.i64.wrap ((n : Int) + k) = (n : Int) + k := IntWalk.i64_in _ (by omega)
          have e2 : (0 : Int) ≤ (n : Int) + k := by omega
          have e3 : (n : Int) + k < a.length := by omega
          have e4 : ((n : Int) + k).toNat = n + k := by omega
          have e5 : (k : Int) < l.length := by omega
          clear ha3 hl3 ha hl hx hy
          by_cases hxy : x = y
          · subst hxy
            go_wp2_with fail
            go_quiet (fail)
            go_wp2_with fail
            clear e1 e2 e3 e4 e5
            go_roundw
            case rel => exact ⟨k + 1, by omega, by go_num, hc.drewN _, fun q hq => by
              by_cases e : q = k
              · subst e; rw [HX.out, HY.out]
              · exact hf.out q (by omega)⟩
            case measure => simp [intOf] <;> omega
          · have hne := str_beq_false hxy
            have HN := Lib.hid (stands_not hle HX.out HY.out hxy)
            go_wp2_with fail
            go_quiet (fail)
            go_wp2_with fail
            go_ret
            exact ⟨by rw [HN.out]; rfl, hc.drewN _⟩
        · have HN := Lib.hid (stands_all hle (fun q hq => hf.out q (by omega)))
          go_wp2_with fail
          go_ret
          exact ⟨by rw [HN.out]; rfl, hc⟩

set_option maxHeartbeats 1000000 in
set_option maxRecDepth 100000 in
theorem replaced_any (a l : List ByteArray) (at_ n : Nat) (v u : Value) (w : World) (ha : Rdv w Never v a) (hl : Rdv w Never u l) (h0 : at_ + n ≤ a.length) (hla : a.length ≤ 1000000) (hll : l.length ≤ 1000000) :
    Calls Tryz.prog 61 #[v, .int .i64 at_, .int .i64 n, u] w fun e w' => ∃ r, e = .returned r ∧ Chg Never w w' ∧ Rdv w' (Old w.heap.size) r (repl a at_ n l) := by
  obtain ⟨b, cap, rfl, _, hcap, _⟩ := rdv_slice ha
  obtain ⟨c, cap', rfl, _, _, _⟩ := rdv_slice hl
  unfold maxLen at hcap
  obtain ⟨sb1, u0, u1, hrunH, hsub1⟩ := slice_gen (P := Tryz.prog) (t := 62) (by kernel_rfl) size_str ha 0 at_ (Nat.zero_le _) (by omega)
  have hrunH := fun (wx : World) => hrunH at_ wx rfl rfl
  clear u0 u1
  rw [Nat.sub_zero, Nat.sub_zero] at hrunH hsub1
  rw [List.drop_zero] at hsub1
  obtain ⟨sb2, u0, hrunL, u1, hsub2⟩ := slice_gen (P := Tryz.prog) (t := 62) (by kernel_rfl) size_str ha (at_ + n) a.length h0 (Nat.le_refl _)
  have hrunL := fun (wx : World) => hrunL ((at_ : Int) + n) wx (by push_cast; rfl) rfl
  clear u0 u1
  rw [List.take_of_length_le (by rw [List.length_drop]; omega)] at hsub2
  have hl1 : (a.take at_).length = at_ := by rw [List.length_take]; omega
  have hl2 : (a.drop (at_ + n)).length = a.length - (at_ + n) := List.length_drop
  have hle1 : ([] : List ByteArray).length + (a.take at_).length ≤ 1000000000 := by rw [hl1]; simp; omega
  have hle2 : ([] ++ a.take at_).length + l.length ≤ 1000000000 := by rw [List.nil_append, hl1]; omega
  have hle3 : ([] ++ a.take at_ ++ l).length + (a.drop (at_ + n)).length ≤ 1000000000 := by rw [List.nil_append, List.length_append, hl1, hl2]; omega
  go_enter Tryz.func61, Tryz.ntmps61
  go_wp2_with (first
    | (at_builtin; refine wpList_many (by rfl) _ _ 62 (by rfl) elemOk_str (O := Old w.heap.size) (l := []) (m := a.take at_) (by rfl) (by rfl) (own_nil _ _ _) hsub1 (rd_str_any _ _ _) (fun _ h => h) hle1 ?_; intro v1 w1 hw1 hd1; obtain ⟨s1, n1, c1, rfl⟩ := own_isSlice hw1; have hd1' : Chg Never w w1 := hd1.mono (fun q _ h => by cases h); have hl1' := hl.never hd1'; have hs1' := hsub2.never hd1'; have hol := old_lt hd1'; clear hd1 hsub1)
    | (at_builtin; refine wpList_many (by rfl) _ _ 62 (by rfl) elemOk_str (O := Old w.heap.size) (l := [] ++ a.take at_) (m := l) (by rfl) (by rfl) hw1 hl1' (rd_str_any _ _ _) hol hle2 ?_; intro v2 w2 hw2 hd2; obtain ⟨s2, n2, c2, rfl⟩ := own_isSlice hw2; have hd2' := own_step hd1' hw1 hd2; have hs2' := hsub2.never hd2'; have hol2 := old_lt hd2'; clear hd2 hl1' hs1' hol hw1 hd1')
    | (at_builtin; refine wpList_many (by rfl) _ _ 62 (by rfl) elemOk_str (O := Old w.heap.size) (l := [] ++ a.take at_ ++ l) (m := a.drop (at_ + n)) (by rfl) (by rfl) hw2 hs2' (rd_str_any _ _ _) hol2 hle3 ?_; intro v3 w3 hw3 hd3; obtain ⟨s3, n3, c3, rfl⟩ := own_isSlice hw3; have hd3' := own_step hd2' hw2 hd3; clear hd3 hs2' hol2 hw2 hd2'))
  go_ret
  exact ⟨_, rfl, hd3', hw3.rdv⟩
end Go.Proofs.YteocmmejfnmjcaaGreatDoor
namespace Go.Proofs.YteocmmejfnmjcaaGreatDoor
open Go.RowKit

theorem cells2_keep {w0 w w' : World} {b o : Nat} {u v : Value} (h : Chg Never w0 w ∧ w.cell? ⟨b, o, none⟩ = some u ∧ w.cell? ⟨b, o + 2, none⟩ = some v) (hc : Chg Never w w') :
    Chg Never w0 w' ∧ w'.cell? ⟨b, o, none⟩ = some u ∧ w'.cell? ⟨b, o + 2, none⟩ = some v := ⟨h.1.trans hc, hc.cellNever h.2.1, hc.cellNever h.2.2⟩
theorem firstClash_step {a : List ByteArray} {l : List Hunk} {k : Nat} {x : Hunk} (hx : l[k]? = some x) (hs : standsB a x.old (oldOf x.marks) = true) : firstClash a k (l.drop k) = firstClash a (k + 1) (l.drop (k + 1)) := by
  rw [drop_eq hx, firstClash, if_pos hs]
theorem firstClash_hit {a : List ByteArray} {l : List Hunk} {k : Nat} {x : Hunk} (hx : l[k]? = some x) (hs : standsB a x.old (oldOf x.marks) = false) : firstClash a k (l.drop k) = some k := by
  rw [drop_eq hx, firstClash, if_neg (by simp [hs])]
theorem firstClash_end (a : List ByteArray) (l : List Hunk) : firstClash a l.length (l.drop l.length) = none := by rw [List.drop_length]; rfl
/-- strict, by way of the last hunk first -/
theorem strict_clash {a : List ByteArray} {l : List Hunk} {k : Nat} (h1 : linesFault a = 0) (h2 : hunksFault l = (0, 0)) (hf : firstClash a 0 l = some k) : strict a l = ([], k, 6) := by
  have hok := (hunksFault_zero (l := l) (by rw [h2])).2
  rw [strict, if_neg (by simp [h1]), if_neg (by simp [h2]), strictGo_back a l 0 0 [] 0 (Nat.zero_le _) hok, hf]
theorem strict_back {a : List ByteArray} {l : List Hunk} (h1 : linesFault a = 0) (h2 : hunksFault l = (0, 0)) (hf : firstClash a 0 l = none) : strict a l = if 60 < (backDo a l).length then ([], 0, 3) else (backDo a l, 0, 0) := by
  have hok := (hunksFault_zero (l := l) (by rw [h2])).2
  rw [strict, if_neg (by simp [h1]), if_neg (by simp [h2]), strictGo_back a l 0 0 [] 0 (Nat.zero_le _) hok, hf]
  simp
theorem firstClash_drop : ∀ (a : List ByteArray) (l : List Hunk) (i k : Nat), firstClash a i l = none → firstClash a (i + k) (l.drop k) = none
  | _, _, _, 0, h => by simpa using h
  | a, [], i, k + 1, h => by simp [firstClash]
  | a, x :: r, i, k + 1, h => by
    rw [firstClash] at h
    by_cases hs : standsB a x.old (oldOf x.marks) = true
    · rw [if_pos hs] at h
      have := firstClash_drop a r (i + 1) k h
      rw [List.drop_succ_cons, show i + (k + 1) = i + 1 + k by omega]
      exact this
    · rw [if_neg hs] at h; cases h
/-- what the step from number q + 1 to number q asks -/
theorem back_step {a : List ByteArray} {l : List Hunk} {q : Nat} {x : Hunk} (h2 : hunksFault l = (0, 0)) (hf : firstClash a 0 l = none) (hx : l[q]? = some x) :
    ∃ o : Nat, x.old = o ∧ o ≤ 60 ∧ o + oldN x.marks ≤ (backDo a (l.drop (q + 1))).length ∧ backDo a (l.drop q) = repl (backDo a (l.drop (q + 1))) o (oldN x.marks) (newOf x.marks) := by
  have hok := (hunksFault_zero (l := l) (by rw [h2])).2
  have hs := firstClash_none a l 0 hf x (List.mem_of_getElem? hx)
  obtain ⟨b0, b1⟩ := stands_bound hs
  obtain ⟨o, ho⟩ := Int.eq_ofNat_of_zero_le b0
  rw [ho, Int.toNat_natCast] at b1
  obtain ⟨fin', more', hk, _⟩ := hOk_drop l 0 0 q hok
  rw [drop_eq hx] at hk
  obtain ⟨_, _, z3, _, z5, _⟩ := oneFault_zero hk.1
  have hk2 : hOk ((o + oldN x.marks : Nat) : Int) (more' + newN x.marks - oldN x.marks) (l.drop (q + 1)) := by have := hk.2; rw [ho] at this; push_cast; exact this
  have hfd := firstClash_drop a l 0 (q + 1) hf
  obtain ⟨_, i2⟩ := back_take a _ _ _ _ b1 hk2 hfd
  refine ⟨o, ho, by omega, i2, ?_⟩
  rw [drop_eq hx, backDo_cons, ho, Int.toNat_natCast]

set_option maxHeartbeats 4000000 in
set_option maxRecDepth 100000 in
theorem strictOf_any (a : List ByteArray) (l : List Hunk) (va vl : Value) (w : World) (ha : Rdv w Never va a) (hl : Rdv w Never vl l) :
    Calls Tryz.prog 33 #[va, vl] w fun e w' => ∃ r, e = .returned (.tuple #[r, .int .i64 (strict a l).2.1, .int .i64 (strict a l).2.2]) ∧ Chg Never w w' ∧ Rdv w' Never r (strict a l).1 := by
  by_cases h1 : linesFault a = 0
  · by_cases h2 : (hunksFault l).2 = 0
    · have h2' := hunksFault_first h2
      obtain ⟨hl60, hok⟩ := hunksFault_zero (l := l) h2
      have hla := linesFault_len h1
      have hmem := hOk_mem _ _ _ hok
      have ho60 := hOk_old _ _ _ hok
      have H1 := Lib.hid h1
      have H2 := Lib.hid h2'
      have t1 : (linesFault a != 0) = false := by rw [h1]; rfl
      have hn120 : ∀ x ∈ l, newN x.marks ≤ 120 := fun x hx => Nat.le_trans (newN_le _) (scriptFault_len (hmem x hx))
      obtain ⟨aa, acap, rfl, a1, a2, _⟩ := rdv_slice ha
      obtain ⟨la, lcap, rfl, l1, l2, l3⟩ := rdv_slice hl
      unfold maxLen at a2 l2
      clear h1 h2 h2' hok
      go_enter Tryz.func33, Tryz.ntmps33
      go_wp2_with fail
      refine (refLines_any a _ _ ha).mono ?_
      rintro e w1 ⟨rfl, hw⟩
      rw [H1.out]
      go_wp2_with fail
      refine (refHunks_any l _ _ (hl.never hw)).mono ?_
      rintro e w2 ⟨rfl, hc2⟩
      have hw := hw.trans hc2
      clear hc2
      rw [H2.out]
      go_wp2_with fail
      go_loopw [9] (fun i wr => ∃ k : Nat, k ≤ l.length ∧ i = .int .i64 k ∧ Chg Never w wr ∧ Hid (firstClash a 0 l = firstClash a k (l.drop k))) (fun i _ => l.length - (intOf i).toNat)
      case atStart => exact ⟨0, Nat.zero_le _, rfl, hw, rfl⟩
      case round =>
        clear hw
        obtain ⟨k, hk, rfl, hc, hf⟩ := hrel
        by_cases hlt : k < l.length
        · obtain ⟨x, hx⟩ : ∃ x, l[k]? = some x := ⟨l[k], by simp [hlt]⟩
          obtain ⟨b, off, mv, rfl, _, _, c0, c1, c2, hmv⟩ := elems_hunk l3 hx
          have c0 := hc.cellNever c0
          have c2 := hc.cellNever c2
          have hmv := hmv.never hc
          have hav := ha.never hc
          have HSF := Lib.hid (hmem x (List.mem_of_getElem? hx))
          have hml := scriptFault_len HSF.out
          have hol : (those x.marks 43).length ≤ 120 := Nat.le_trans (those_le _ _) hml
          obtain ⟨o0, o1⟩ := ho60 x (List.mem_of_getElem? hx)
          have HX := Lib.hid hx
          have b1 : (k : Int) < l.length := by omega
          clear hx c1 ha hl
          go_wp2_with fail
          cases hs : standsB a x.old (those x.marks 43) with
          | true =>
            have HS := Lib.hid hs
            clear hs l3
            refine wp_region_held_drew (S := fun w' => Chg Never wr w' ∧ w'.cell? ⟨b, off + k * 3, none⟩ = some (.int .i64 x.old) ∧ w'.cell? ⟨b, off + k * 3 + 2, none⟩ = some mv) (by kernel_rfl) ⟨(Chg.refl _ _).drew, c0, c2⟩ (fun hH => ?_)
            refine' wpAnyH_take (i := 0) ?hi0 (by kernel_rfl) (by kernel_rfl) (by kernel_rfl) ?hQ0 (Or.inl ⟨?hw0, ?hy0⟩) (by assumption) ?_
            case hi0 => (simp only [List.getElem?_toArray, List.getElem?_cons_succ, List.getElem?_cons_zero]; rfl)
            case hQ0 => exact fun _ _ _ h => h
            case hw0 => rfl
            case hy0 => (intro w' hSw; (try dsimp only at hSw); go_simp; all_goals with_reducible rfl)
            try simp only [Act.put, List.setIfInBounds_toArray, List.set_cons_zero, List.set_cons_succ]
            refine' wpAnyH_take (i := 1) ?hi1 (by kernel_rfl) (by kernel_rfl) (by kernel_rfl) ?hQ1 (Or.inl ⟨?hw1, ?hy1⟩) (by assumption) ?_
            case hi1 => (simp only [List.getElem?_toArray, List.getElem?_cons_succ, List.getElem?_cons_zero]; rfl)
            case hQ1 => exact fun _ _ _ h => h
            case hw1 => rfl
            case hy1 => (intro w' hSw; (try dsimp only at hSw); go_simp; all_goals with_reducible rfl)
            try simp only [Act.put, List.setIfInBounds_toArray, List.set_cons_zero, List.set_cons_succ]
            refine' wpAnyH_take (i := 2) ?hi2 (by kernel_rfl) (by kernel_rfl) (by kernel_rfl) ?hQ2 (Or.inl ⟨?hw2, ?hy2⟩) (by assumption) ?_
            case hi2 => (simp only [List.getElem?_toArray, List.getElem?_cons_succ, List.getElem?_cons_zero]; rfl)
            case hQ2 => exact fun _ _ _ h => h
            case hw2 => rfl
            case hy2 => (intro w' hSw; (try dsimp only at hSw); go_simp; all_goals with_reducible rfl)
            try simp only [Act.put, List.setIfInBounds_toArray, List.set_cons_zero, List.set_cons_succ]
            refine' wpAnyH_take (i := 3) ?hi3 (by kernel_rfl) (by kernel_rfl) (by kernel_rfl) ?hQ3 (Or.inl ⟨?hw3, ?hy3⟩) (by assumption) ?_
            case hi3 => (simp only [List.getElem?_toArray, List.getElem?_cons_succ, List.getElem?_cons_zero]; rfl)
            case hQ3 => exact fun _ _ _ h => h
            case hw3 => rfl
            case hy3 => (intro w' hSw; (try dsimp only at hSw); go_simp; all_goals with_reducible rfl)
            try simp only [Act.put, List.setIfInBounds_toArray, List.set_cons_zero, List.set_cons_succ]
            refine' wpAnyH_take (i := 4) ?hi4 (by kernel_rfl) (by kernel_rfl) (by kernel_rfl) ?hQ4 (Or.inl ⟨?hw4, ?hy4⟩) (by assumption) ?_
            case hi4 => (simp only [List.getElem?_toArray, List.getElem?_cons_succ, List.getElem?_cons_zero]; rfl)
            case hQ4 => exact fun _ _ _ h => h
            case hw4 => rfl
            case hy4 => (intro w' hSw; (try dsimp only at hSw); go_simp; all_goals with_reducible rfl)
            try simp only [Act.put, List.setIfInBounds_toArray, List.set_cons_zero, List.set_cons_succ]
            refine' wpAnyH_take (i := 5) ?hi5 (by kernel_rfl) (by kernel_rfl) (by kernel_rfl) ?hQ5 (Or.inl ⟨?hw5, ?hy5⟩) (by assumption) ?_
            case hi5 => (simp only [List.getElem?_toArray, List.getElem?_cons_succ, List.getElem?_cons_zero]; rfl)
            case hQ5 => exact fun _ _ _ h => h
            case hw5 => rfl
            case hy5 => (intro w' hSw; (try dsimp only at hSw); go_simp; all_goals with_reducible rfl)
            try simp only [Act.put, List.setIfInBounds_toArray, List.set_cons_zero, List.set_cons_succ]
            refine' wpAnyH_take (i := 6) ?hi6 (by kernel_rfl) (by kernel_rfl) (by kernel_rfl) ?hQ6 (Or.inl ⟨?hw6, ?hy6⟩) (by assumption) ?_
            case hi6 => (simp only [List.getElem?_toArray, List.getElem?_cons_succ, List.getElem?_cons_zero]; rfl)
            case hQ6 => exact fun _ _ _ h => h
            case hw6 => rfl
            case hy6 => (intro w' hSw; (try dsimp only at hSw); go_simp; all_goals with_reducible rfl)
            try simp only [Act.put, List.setIfInBounds_toArray, List.set_cons_zero, List.set_cons_succ]
            refine' wpAnyH_take (i := 7) ?hi7 (by kernel_rfl) (by kernel_rfl) (by kernel_rfl) ?hQ7 (Or.inl ⟨?hw7, ?hy7⟩) (by assumption) ?_
            case hi7 => (simp only [List.getElem?_toArray, List.getElem?_cons_succ, List.getElem?_cons_zero]; rfl)
            case hQ7 => exact fun _ _ _ h => h
            case hw7 => rfl
            case hy7 => (intro w' hSw; (try dsimp only at hSw); go_simp; all_goals with_reducible rfl)
            try simp only [Act.put, List.setIfInBounds_toArray, List.set_cons_zero, List.set_cons_succ]
            refine' wpAnyH_take (i := 8) ?hi8 (by kernel_rfl) (by kernel_rfl) (by kernel_rfl) ?hQ8 (Or.inl ⟨?hw8, ?hy8⟩) (by assumption) ?_
            case hi8 => (simp only [List.getElem?_toArray, List.getElem?_cons_succ, List.getElem?_cons_zero]; rfl)
            case hQ8 => exact fun _ _ _ h => h
            case hw8 => rfl
            case hy8 => (intro w' hSw; (try dsimp only at hSw); go_simp; all_goals with_reducible rfl)
            try simp only [Act.put, List.setIfInBounds_toArray, List.set_cons_zero, List.set_cons_succ]
            refine' wpAnyH_take (i := 9) ?hi9 (by kernel_rfl) (by kernel_rfl) (by kernel_rfl) ?hQ9 (Or.inl ⟨?hw9, ?hy9⟩) (by assumption) ?_
            case hi9 => (simp only [List.getElem?_toArray, List.getElem?_cons_succ, List.getElem?_cons_zero]; rfl)
            case hQ9 => exact fun _ _ _ h => h
            case hw9 => rfl
            case hy9 => (intro w' hSw; (try dsimp only at hSw); go_simp; all_goals with_reducible rfl)
            try simp only [Act.put, List.setIfInBounds_toArray, List.set_cons_zero, List.set_cons_succ]
            refine' wpAnyH_take (i := 10) ?hi10 (by kernel_rfl) (by kernel_rfl) (by kernel_rfl) ?hQ10 (Or.inl ⟨?hw10, ?hy10⟩) (by assumption) ?_
            case hi10 => (simp only [List.getElem?_toArray, List.getElem?_cons_succ, List.getElem?_cons_zero]; rfl)
            case hQ10 => exact fun _ _ _ h => h
            case hw10 => rfl
            case hy10 => (intro w' hSw; (try dsimp only at hSw); go_simp; all_goals with_reducible rfl)
            try simp only [Act.put, List.setIfInBounds_toArray, List.set_cons_zero, List.set_cons_succ]
            refine wpAnyH_ready (rs := [11]) (by kernel_rfl) (by simp) ?_
            refine AllReadyH.cons rfl (fun K hK => ?_) AllReadyH.nil
            go_simp
            (go_at_call 24; refine (refOld_any x.marks _ _ (hmv.never (And.left hH)) HSF.out).mono ?_; rintro e wq ⟨rq, rfl, hcq, hrq⟩; have hrO := hrq.sub (O' := Never) (fun _ _ h => h.elim); clear hrq; obtain ⟨oa, oc, rfl, _, _, _⟩ := rdv_slice hrO; have hS2 := cells2_keep hH hcq; clear hH hcq)
            try go_wp2_with fail
            refine hK.out _ _ ?_ (fun hH => ?_)
            · assumption
            clear hK K
            try simp only [Act.put, List.setIfInBounds_toArray, List.set_cons_zero, List.set_cons_succ]
            refine wpAnyH_ready (rs := [12]) (by kernel_rfl) (by simp) ?_
            refine AllReadyH.cons rfl (fun K hK => ?_) AllReadyH.nil
            go_simp
            (go_at_call 60; refine (refStands_any a (those x.marks 43) x.old _ _ _ (hav.never (And.left hH)) hrO (by omega) (by omega) (by omega) (by omega)).mono ?_; rintro e wq2 ⟨rfl, hcq2⟩; have hS3 := cells2_keep hH hcq2; clear hH hcq2; rw [HS.out])
            try go_wp2_with fail
            refine hK.out _ _ ?_ (fun hH => ?_)
            · assumption
            clear hK K
            try simp only [Act.put, List.setIfInBounds_toArray, List.set_cons_zero, List.set_cons_succ]
            refine' wpAnyH_take (i := 13) ?hi13 (by kernel_rfl) (by kernel_rfl) (by kernel_rfl) ?hQ13 (Or.inl ⟨?hw13, ?hy13⟩) (by assumption) ?_
            case hi13 => (simp only [List.getElem?_toArray, List.getElem?_cons_succ, List.getElem?_cons_zero]; rfl)
            case hQ13 => exact fun _ _ _ h => h
            case hw13 => rfl
            case hy13 => (intro w' hSw; (try dsimp only at hSw); go_simp; all_goals with_reducible rfl)
            try simp only [Act.put, List.setIfInBounds_toArray, List.set_cons_zero, List.set_cons_succ]
            refine wpAnyH_done (by kernel_rfl) ?_ _
            have hcF := hc.trans (And.left hH)
            clear hH c0 c2 hmv hav hrO
            go_wp2_with fail
            go_roundw
            case rel => exact ⟨k + 1, by omega, by go_num, hcF, by rw [Hid, hf.out]; exact firstClash_step HX.out HS.out⟩
            case measure => simp [intOf] <;> omega
          | false =>
            have HS := Lib.hid hs
            have HB := Lib.hid (strict_clash H1.out H2.out (by rw [hf.out]; exact firstClash_hit HX.out HS.out))
            clear hs l3
            refine wp_region_held_drew (S := fun w' => Chg Never wr w' ∧ w'.cell? ⟨b, off + k * 3, none⟩ = some (.int .i64 x.old) ∧ w'.cell? ⟨b, off + k * 3 + 2, none⟩ = some mv) (by kernel_rfl) ⟨(Chg.refl _ _).drew, c0, c2⟩ (fun hH => ?_)
            refine' wpAnyH_take (i := 0) ?hi0 (by kernel_rfl) (by kernel_rfl) (by kernel_rfl) ?hQ0 (Or.inl ⟨?hw0, ?hy0⟩) (by assumption) ?_
            case hi0 => (simp only [List.getElem?_toArray, List.getElem?_cons_succ, List.getElem?_cons_zero]; rfl)
            case hQ0 => exact fun _ _ _ h => h
            case hw0 => rfl
            case hy0 => (intro w' hSw; (try dsimp only at hSw); go_simp; all_goals with_reducible rfl)
            try simp only [Act.put, List.setIfInBounds_toArray, List.set_cons_zero, List.set_cons_succ]
            refine' wpAnyH_take (i := 1) ?hi1 (by kernel_rfl) (by kernel_rfl) (by kernel_rfl) ?hQ1 (Or.inl ⟨?hw1, ?hy1⟩) (by assumption) ?_
            case hi1 => (simp only [List.getElem?_toArray, List.getElem?_cons_succ, List.getElem?_cons_zero]; rfl)
            case hQ1 => exact fun _ _ _ h => h
            case hw1 => rfl
            case hy1 => (intro w' hSw; (try dsimp only at hSw); go_simp; all_goals with_reducible rfl)
            try simp only [Act.put, List.setIfInBounds_toArray, List.set_cons_zero, List.set_cons_succ]
            refine' wpAnyH_take (i := 2) ?hi2 (by kernel_rfl) (by kernel_rfl) (by kernel_rfl) ?hQ2 (Or.inl ⟨?hw2, ?hy2⟩) (by assumption) ?_
            case hi2 => (simp only [List.getElem?_toArray, List.getElem?_cons_succ, List.getElem?_cons_zero]; rfl)
            case hQ2 => exact fun _ _ _ h => h
            case hw2 => rfl
            case hy2 => (intro w' hSw; (try dsimp only at hSw); go_simp; all_goals with_reducible rfl)
            try simp only [Act.put, List.setIfInBounds_toArray, List.set_cons_zero, List.set_cons_succ]
            refine' wpAnyH_take (i := 3) ?hi3 (by kernel_rfl) (by kernel_rfl) (by kernel_rfl) ?hQ3 (Or.inl ⟨?hw3, ?hy3⟩) (by assumption) ?_
            case hi3 => (simp only [List.getElem?_toArray, List.getElem?_cons_succ, List.getElem?_cons_zero]; rfl)
            case hQ3 => exact fun _ _ _ h => h
            case hw3 => rfl
            case hy3 => (intro w' hSw; (try dsimp only at hSw); go_simp; all_goals with_reducible rfl)
            try simp only [Act.put, List.setIfInBounds_toArray, List.set_cons_zero, List.set_cons_succ]
            refine' wpAnyH_take (i := 4) ?hi4 (by kernel_rfl) (by kernel_rfl) (by kernel_rfl) ?hQ4 (Or.inl ⟨?hw4, ?hy4⟩) (by assumption) ?_
            case hi4 => (simp only [List.getElem?_toArray, List.getElem?_cons_succ, List.getElem?_cons_zero]; rfl)
            case hQ4 => exact fun _ _ _ h => h
            case hw4 => rfl
            case hy4 => (intro w' hSw; (try dsimp only at hSw); go_simp; all_goals with_reducible rfl)
            try simp only [Act.put, List.setIfInBounds_toArray, List.set_cons_zero, List.set_cons_succ]
            refine' wpAnyH_take (i := 5) ?hi5 (by kernel_rfl) (by kernel_rfl) (by kernel_rfl) ?hQ5 (Or.inl ⟨?hw5, ?hy5⟩) (by assumption) ?_
            case hi5 => (simp only [List.getElem?_toArray, List.getElem?_cons_succ, List.getElem?_cons_zero]; rfl)
            case hQ5 => exact fun _ _ _ h => h
            case hw5 => rfl
            case hy5 => (intro w' hSw; (try dsimp only at hSw); go_simp; all_goals with_reducible rfl)
            try simp only [Act.put, List.setIfInBounds_toArray, List.set_cons_zero, List.set_cons_succ]
            refine' wpAnyH_take (i := 6) ?hi6 (by kernel_rfl) (by kernel_rfl) (by kernel_rfl) ?hQ6 (Or.inl ⟨?hw6, ?hy6⟩) (by assumption) ?_
            case hi6 => (simp only [List.getElem?_toArray, List.getElem?_cons_succ, List.getElem?_cons_zero]; rfl)
            case hQ6 => exact fun _ _ _ h => h
            case hw6 => rfl
            case hy6 => (intro w' hSw; (try dsimp only at hSw); go_simp; all_goals with_reducible rfl)
            try simp only [Act.put, List.setIfInBounds_toArray, List.set_cons_zero, List.set_cons_succ]
            refine' wpAnyH_take (i := 7) ?hi7 (by kernel_rfl) (by kernel_rfl) (by kernel_rfl) ?hQ7 (Or.inl ⟨?hw7, ?hy7⟩) (by assumption) ?_
            case hi7 => (simp only [List.getElem?_toArray, List.getElem?_cons_succ, List.getElem?_cons_zero]; rfl)
            case hQ7 => exact fun _ _ _ h => h
            case hw7 => rfl
            case hy7 => (intro w' hSw; (try dsimp only at hSw); go_simp; all_goals with_reducible rfl)
            try simp only [Act.put, List.setIfInBounds_toArray, List.set_cons_zero, List.set_cons_succ]
            refine' wpAnyH_take (i := 8) ?hi8 (by kernel_rfl) (by kernel_rfl) (by kernel_rfl) ?hQ8 (Or.inl ⟨?hw8, ?hy8⟩) (by assumption) ?_
            case hi8 => (simp only [List.getElem?_toArray, List.getElem?_cons_succ, List.getElem?_cons_zero]; rfl)
            case hQ8 => exact fun _ _ _ h => h
            case hw8 => rfl
            case hy8 => (intro w' hSw; (try dsimp only at hSw); go_simp; all_goals with_reducible rfl)
            try simp only [Act.put, List.setIfInBounds_toArray, List.set_cons_zero, List.set_cons_succ]
            refine' wpAnyH_take (i := 9) ?hi9 (by kernel_rfl) (by kernel_rfl) (by kernel_rfl) ?hQ9 (Or.inl ⟨?hw9, ?hy9⟩) (by assumption) ?_
            case hi9 => (simp only [List.getElem?_toArray, List.getElem?_cons_succ, List.getElem?_cons_zero]; rfl)
            case hQ9 => exact fun _ _ _ h => h
            case hw9 => rfl
            case hy9 => (intro w' hSw; (try dsimp only at hSw); go_simp; all_goals with_reducible rfl)
            try simp only [Act.put, List.setIfInBounds_toArray, List.set_cons_zero, List.set_cons_succ]
            refine' wpAnyH_take (i := 10) ?hi10 (by kernel_rfl) (by kernel_rfl) (by kernel_rfl) ?hQ10 (Or.inl ⟨?hw10, ?hy10⟩) (by assumption) ?_
            case hi10 => (simp only [List.getElem?_toArray, List.getElem?_cons_succ, List.getElem?_cons_zero]; rfl)
            case hQ10 => exact fun _ _ _ h => h
            case hw10 => rfl
            case hy10 => (intro w' hSw; (try dsimp only at hSw); go_simp; all_goals with_reducible rfl)
            try simp only [Act.put, List.setIfInBounds_toArray, List.set_cons_zero, List.set_cons_succ]
            refine wpAnyH_ready (rs := [11]) (by kernel_rfl) (by simp) ?_
            refine AllReadyH.cons rfl (fun K hK => ?_) AllReadyH.nil
            go_simp
            (go_at_call 24; refine (refOld_any x.marks _ _ (hmv.never (And.left hH)) HSF.out).mono ?_; rintro e wq ⟨rq, rfl, hcq, hrq⟩; have hrO := hrq.sub (O' := Never) (fun _ _ h => h.elim); clear hrq; obtain ⟨oa, oc, rfl, _, _, _⟩ := rdv_slice hrO; have hS2 := cells2_keep hH hcq; clear hH hcq)
            try go_wp2_with fail
            refine hK.out _ _ ?_ (fun hH => ?_)
            · assumption
            clear hK K
            try simp only [Act.put, List.setIfInBounds_toArray, List.set_cons_zero, List.set_cons_succ]
            refine wpAnyH_ready (rs := [12]) (by kernel_rfl) (by simp) ?_
            refine AllReadyH.cons rfl (fun K hK => ?_) AllReadyH.nil
            go_simp
            (go_at_call 60; refine (refStands_any a (those x.marks 43) x.old _ _ _ (hav.never (And.left hH)) hrO (by omega) (by omega) (by omega) (by omega)).mono ?_; rintro e wq2 ⟨rfl, hcq2⟩; have hS3 := cells2_keep hH hcq2; clear hH hcq2; rw [HS.out])
            try go_wp2_with fail
            refine hK.out _ _ ?_ (fun hH => ?_)
            · assumption
            clear hK K
            try simp only [Act.put, List.setIfInBounds_toArray, List.set_cons_zero, List.set_cons_succ]
            refine' wpAnyH_take (i := 13) ?hi13 (by kernel_rfl) (by kernel_rfl) (by kernel_rfl) ?hQ13 (Or.inl ⟨?hw13, ?hy13⟩) (by assumption) ?_
            case hi13 => (simp only [List.getElem?_toArray, List.getElem?_cons_succ, List.getElem?_cons_zero]; rfl)
            case hQ13 => exact fun _ _ _ h => h
            case hw13 => rfl
            case hy13 => (intro w' hSw; (try dsimp only at hSw); go_simp; all_goals with_reducible rfl)
            try simp only [Act.put, List.setIfInBounds_toArray, List.set_cons_zero, List.set_cons_succ]
            refine wpAnyH_done (by kernel_rfl) ?_ _
            have hcF := hc.trans (And.left hH)
            clear hH c0 c2 hmv hav hrO
            go_wp2_with fail
            go_ret3
            exact ⟨.slice none 0 0, by rw [HB.out]; rfl, hcF, by rw [HB.out]; exact rdv_nil _ _⟩
        · obtain rfl : k = l.length := by omega
          have HFC : Hid (firstClash a 0 l = none) := by rw [Hid, hf.out, List.drop_length]; rfl
          have HST := Lib.hid (strict_back H1.out H2.out HFC.out)
          clear hf hlt hk
          go_wp2_with fail
          go_loopw [11, 12] (fun o i wr => ∃ (y : Int) (oa : Option Addr) (oc : Nat), -1 ≤ y ∧ y < l.length ∧ i = .int .i64 y ∧ Chg Never w wr ∧ o = .slice oa (backDo a (l.drop (y + 1).toNat)).length oc ∧ Rdv wr Never o (backDo a (l.drop (y + 1).toNat))) (fun _ i _ => (intOf i + 1).toNat)
          case atStart => exact ⟨(l.length : Int) - 1, _, _, by omega, by omega, rfl, hc, by rw [show ((l.length : Int) - 1 + 1).toNat = l.length by omega, List.drop_length]; rfl, by rw [show ((l.length : Int) - 1 + 1).toNat = l.length by omega, List.drop_length]; exact ha.never hc⟩
          case round =>
            clear hc
            obtain ⟨y, oa, oc, hy0, hy1, rfl, hc, rfl, hov⟩ := hrel
            by_cases hy : 0 ≤ y
            · obtain ⟨k, rfl⟩ := Int.eq_ofNat_of_zero_le hy
              rw [show ((k : Int) + 1).toNat = k + 1 by omega] at hov ⊢
              have hlt : k < l.length := by omega
              obtain ⟨x, hx⟩ : ∃ x, l[k]? = some x := ⟨l[k], by simp [hlt]⟩
              obtain ⟨b, off, mv, rfl, _, _, c0, c1, c2, hmv⟩ := elems_hunk l3 hx
              have c0 := hc.cellNever c0
              have c2 := hc.cellNever c2
              have hmv := hmv.never hc
              have HSF := Lib.hid (hmem x (List.mem_of_getElem? hx))
              have hml := scriptFault_len HSF.out
              have hol : (those x.marks 43).length ≤ 120 := Nat.le_trans (those_le _ _) hml
              have hnl : (those x.marks 45).length ≤ 120 := Nat.le_trans (those_le _ _) hml
              obtain ⟨o, ho, ho6, hole, hbk⟩ := back_step H2.out HFC.out hx
              have HBK := Lib.hid hbk
              have hbl := backDo_length a (l.drop (k + 1)) (fun z hz => hn120 z (List.mem_of_mem_drop hz))
              rw [List.length_drop] at hbl
              have eo : oldN x.marks = (those x.marks 43).length := rfl
              have en : newOf x.marks = those x.marks 45 := rfl
              rw [ho] at c0
              clear hx c1 l3 ha hl hbk
              generalize backDo a (l.drop (k + 1)) = BK at *
              go_wp2_with fail
              refine wp_region_held_drew (S := fun w' => Chg Never wr w' ∧ w'.cell? ⟨b, off + k * 3, none⟩ = some (.int .i64 (o : Int)) ∧ w'.cell? ⟨b, off + k * 3 + 2, none⟩ = some mv) (by kernel_rfl) ⟨(Chg.refl _ _).drew, c0, c2⟩ (fun hH => ?_)
              refine' wpAnyH_take (i := 0) ?hi0 (by kernel_rfl) (by kernel_rfl) (by kernel_rfl) ?hQ0 (Or.inl ⟨?hw0, ?hy0⟩) (by assumption) ?_
              case hi0 => (simp only [List.getElem?_toArray, List.getElem?_cons_succ, List.getElem?_cons_zero]; rfl)
              case hQ0 => exact fun _ _ _ h => h
              case hw0 => rfl
              case hy0 => (intro w' hSw; (try dsimp only at hSw); go_simp; all_goals with_reducible rfl)
              try simp only [Act.put, List.setIfInBounds_toArray, List.set_cons_zero, List.set_cons_succ]
              refine' wpAnyH_take (i := 1) ?hi1 (by kernel_rfl) (by kernel_rfl) (by kernel_rfl) ?hQ1 (Or.inl ⟨?hw1, ?hy1⟩) (by assumption) ?_
              case hi1 => (simp only [List.getElem?_toArray, List.getElem?_cons_succ, List.getElem?_cons_zero]; rfl)
              case hQ1 => exact fun _ _ _ h => h
              case hw1 => rfl
              case hy1 => (intro w' hSw; (try dsimp only at hSw); go_simp; all_goals with_reducible rfl)
              try simp only [Act.put, List.setIfInBounds_toArray, List.set_cons_zero, List.set_cons_succ]
              refine' wpAnyH_take (i := 2) ?hi2 (by kernel_rfl) (by kernel_rfl) (by kernel_rfl) ?hQ2 (Or.inl ⟨?hw2, ?hy2⟩) (by assumption) ?_
              case hi2 => (simp only [List.getElem?_toArray, List.getElem?_cons_succ, List.getElem?_cons_zero]; rfl)
              case hQ2 => exact fun _ _ _ h => h
              case hw2 => rfl
              case hy2 => (intro w' hSw; (try dsimp only at hSw); go_simp; all_goals with_reducible rfl)
              try simp only [Act.put, List.setIfInBounds_toArray, List.set_cons_zero, List.set_cons_succ]
              refine' wpAnyH_take (i := 3) ?hi3 (by kernel_rfl) (by kernel_rfl) (by kernel_rfl) ?hQ3 (Or.inl ⟨?hw3, ?hy3⟩) (by assumption) ?_
              case hi3 => (simp only [List.getElem?_toArray, List.getElem?_cons_succ, List.getElem?_cons_zero]; rfl)
              case hQ3 => exact fun _ _ _ h => h
              case hw3 => rfl
              case hy3 => (intro w' hSw; (try dsimp only at hSw); go_simp; all_goals with_reducible rfl)
              try simp only [Act.put, List.setIfInBounds_toArray, List.set_cons_zero, List.set_cons_succ]
              refine' wpAnyH_take (i := 4) ?hi4 (by kernel_rfl) (by kernel_rfl) (by kernel_rfl) ?hQ4 (Or.inl ⟨?hw4, ?hy4⟩) (by assumption) ?_
              case hi4 => (simp only [List.getElem?_toArray, List.getElem?_cons_succ, List.getElem?_cons_zero]; rfl)
              case hQ4 => exact fun _ _ _ h => h
              case hw4 => rfl
              case hy4 => (intro w' hSw; (try dsimp only at hSw); go_simp; all_goals with_reducible rfl)
              try simp only [Act.put, List.setIfInBounds_toArray, List.set_cons_zero, List.set_cons_succ]
              refine' wpAnyH_take (i := 5) ?hi5 (by kernel_rfl) (by kernel_rfl) (by kernel_rfl) ?hQ5 (Or.inl ⟨?hw5, ?hy5⟩) (by assumption) ?_
              case hi5 => (simp only [List.getElem?_toArray, List.getElem?_cons_succ, List.getElem?_cons_zero]; rfl)
              case hQ5 => exact fun _ _ _ h => h
              case hw5 => rfl
              case hy5 => (intro w' hSw; (try dsimp only at hSw); go_simp; all_goals with_reducible rfl)
              try simp only [Act.put, List.setIfInBounds_toArray, List.set_cons_zero, List.set_cons_succ]
              refine' wpAnyH_take (i := 6) ?hi6 (by kernel_rfl) (by kernel_rfl) (by kernel_rfl) ?hQ6 (Or.inl ⟨?hw6, ?hy6⟩) (by assumption) ?_
              case hi6 => (simp only [List.getElem?_toArray, List.getElem?_cons_succ, List.getElem?_cons_zero]; rfl)
              case hQ6 => exact fun _ _ _ h => h
              case hw6 => rfl
              case hy6 => (intro w' hSw; (try dsimp only at hSw); go_simp; all_goals with_reducible rfl)
              try simp only [Act.put, List.setIfInBounds_toArray, List.set_cons_zero, List.set_cons_succ]
              refine' wpAnyH_take (i := 7) ?hi7 (by kernel_rfl) (by kernel_rfl) (by kernel_rfl) ?hQ7 (Or.inl ⟨?hw7, ?hy7⟩) (by assumption) ?_
              case hi7 => (simp only [List.getElem?_toArray, List.getElem?_cons_succ, List.getElem?_cons_zero]; rfl)
              case hQ7 => exact fun _ _ _ h => h
              case hw7 => rfl
              case hy7 => (intro w' hSw; (try dsimp only at hSw); go_simp; all_goals with_reducible rfl)
              try simp only [Act.put, List.setIfInBounds_toArray, List.set_cons_zero, List.set_cons_succ]
              refine' wpAnyH_take (i := 8) ?hi8 (by kernel_rfl) (by kernel_rfl) (by kernel_rfl) ?hQ8 (Or.inl ⟨?hw8, ?hy8⟩) (by assumption) ?_
              case hi8 => (simp only [List.getElem?_toArray, List.getElem?_cons_succ, List.getElem?_cons_zero]; rfl)
              case hQ8 => exact fun _ _ _ h => h
              case hw8 => rfl
              case hy8 => (intro w' hSw; (try dsimp only at hSw); go_simp; all_goals with_reducible rfl)
              try simp only [Act.put, List.setIfInBounds_toArray, List.set_cons_zero, List.set_cons_succ]
              refine' wpAnyH_take (i := 9) ?hi9 (by kernel_rfl) (by kernel_rfl) (by kernel_rfl) ?hQ9 (Or.inl ⟨?hw9, ?hy9⟩) (by assumption) ?_
              case hi9 => (simp only [List.getElem?_toArray, List.getElem?_cons_succ, List.getElem?_cons_zero]; rfl)
              case hQ9 => exact fun _ _ _ h => h
              case hw9 => rfl
              case hy9 => (intro w' hSw; (try dsimp only at hSw); go_simp; all_goals with_reducible rfl)
              try simp only [Act.put, List.setIfInBounds_toArray, List.set_cons_zero, List.set_cons_succ]
              refine' wpAnyH_take (i := 10) ?hi10 (by kernel_rfl) (by kernel_rfl) (by kernel_rfl) ?hQ10 (Or.inl ⟨?hw10, ?hy10⟩) (by assumption) ?_
              case hi10 => (simp only [List.getElem?_toArray, List.getElem?_cons_succ, List.getElem?_cons_zero]; rfl)
              case hQ10 => exact fun _ _ _ h => h
              case hw10 => rfl
              case hy10 => (intro w' hSw; (try dsimp only at hSw); go_simp; all_goals with_reducible rfl)
              try simp only [Act.put, List.setIfInBounds_toArray, List.set_cons_zero, List.set_cons_succ]
              refine' wpAnyH_take (i := 13) ?hi13 (by kernel_rfl) (by kernel_rfl) (by kernel_rfl) ?hQ13 (Or.inl ⟨?hw13, ?hy13⟩) (by assumption) ?_
              case hi13 => (simp only [List.getElem?_toArray, List.getElem?_cons_succ, List.getElem?_cons_zero]; rfl)
              case hQ13 => exact fun _ _ _ h => h
              case hw13 => rfl
              case hy13 => (intro w' hSw; (try dsimp only at hSw); go_simp; all_goals with_reducible rfl)
              try simp only [Act.put, List.setIfInBounds_toArray, List.set_cons_zero, List.set_cons_succ]
              refine' wpAnyH_take (i := 14) ?hi14 (by kernel_rfl) (by kernel_rfl) (by kernel_rfl) ?hQ14 (Or.inl ⟨?hw14, ?hy14⟩) (by assumption) ?_
              case hi14 => (simp only [List.getElem?_toArray, List.getElem?_cons_succ, List.getElem?_cons_zero]; rfl)
              case hQ14 => exact fun _ _ _ h => h
              case hw14 => rfl
              case hy14 => (intro w' hSw; (try dsimp only at hSw); go_simp; all_goals with_reducible rfl)
              try simp only [Act.put, List.setIfInBounds_toArray, List.set_cons_zero, List.set_cons_succ]
              refine' wpAnyH_take (i := 15) ?hi15 (by kernel_rfl) (by kernel_rfl) (by kernel_rfl) ?hQ15 (Or.inl ⟨?hw15, ?hy15⟩) (by assumption) ?_
              case hi15 => (simp only [List.getElem?_toArray, List.getElem?_cons_succ, List.getElem?_cons_zero]; rfl)
              case hQ15 => exact fun _ _ _ h => h
              case hw15 => rfl
              case hy15 => (intro w' hSw; (try dsimp only at hSw); go_simp; all_goals with_reducible rfl)
              try simp only [Act.put, List.setIfInBounds_toArray, List.set_cons_zero, List.set_cons_succ]
              refine' wpAnyH_take (i := 16) ?hi16 (by kernel_rfl) (by kernel_rfl) (by kernel_rfl) ?hQ16 (Or.inl ⟨?hw16, ?hy16⟩) (by assumption) ?_
              case hi16 => (simp only [List.getElem?_toArray, List.getElem?_cons_succ, List.getElem?_cons_zero]; rfl)
              case hQ16 => exact fun _ _ _ h => h
              case hw16 => rfl
              case hy16 => (intro w' hSw; (try dsimp only at hSw); go_simp; all_goals with_reducible rfl)
              try simp only [Act.put, List.setIfInBounds_toArray, List.set_cons_zero, List.set_cons_succ]
              refine' wpAnyH_take (i := 17) ?hi17 (by kernel_rfl) (by kernel_rfl) (by kernel_rfl) ?hQ17 (Or.inl ⟨?hw17, ?hy17⟩) (by assumption) ?_
              case hi17 => (simp only [List.getElem?_toArray, List.getElem?_cons_succ, List.getElem?_cons_zero]; rfl)
              case hQ17 => exact fun _ _ _ h => h
              case hw17 => rfl
              case hy17 => (intro w' hSw; (try dsimp only at hSw); go_simp; all_goals with_reducible rfl)
              try simp only [Act.put, List.setIfInBounds_toArray, List.set_cons_zero, List.set_cons_succ]
              refine wpAnyH_ready (rs := [11]) (by kernel_rfl) (by simp) ?_
              refine AllReadyH.cons rfl (fun K hK => ?_) AllReadyH.nil
              go_simp
              (go_at_call 24; refine (refOld_any x.marks _ _ (hmv.never (And.left hH)) HSF.out).mono ?_; rintro e wq ⟨rq, rfl, hcq, hrq⟩; obtain ⟨qa, qc, rfl, _, _, _⟩ := rdv_slice hrq; have hS2 := cells2_keep hH hcq; clear hH hcq hrq)
              try go_wp2_with fail
              refine hK.out _ _ ?_ (fun hH => ?_)
              · assumption
              clear hK K
              try simp only [Act.put, List.setIfInBounds_toArray, List.set_cons_zero, List.set_cons_succ]
              refine' wpAnyH_take (i := 12) ?hi12 (by kernel_rfl) (by kernel_rfl) (by kernel_rfl) ?hQ12 (Or.inl ⟨?hw12, ?hy12⟩) (by assumption) ?_
              case hi12 => (simp only [List.getElem?_toArray, List.getElem?_cons_succ, List.getElem?_cons_zero]; rfl)
              case hQ12 => exact fun _ _ _ h => h
              case hw12 => rfl
              case hy12 => (intro w' hSw; (try dsimp only at hSw); go_simp; all_goals with_reducible rfl)
              try simp only [Act.put, List.setIfInBounds_toArray, List.set_cons_zero, List.set_cons_succ]
              refine wpAnyH_ready (rs := [18]) (by kernel_rfl) (by simp) ?_
              refine AllReadyH.cons rfl (fun K hK => ?_) AllReadyH.nil
              go_simp
              (go_at_call 25; refine (refNew_any x.marks _ _ (hmv.never (And.left hH)) HSF.out).mono ?_; rintro e wq2 ⟨rq2, rfl, hcq2, hrq2⟩; have hrN := hrq2.sub (O' := Never) (fun _ _ h => h.elim); obtain ⟨na, nc, rfl, _, _, _⟩ := rdv_slice hrN; have hS3 := cells2_keep hH hcq2; clear hH hcq2 hrq2)
              try go_wp2_with fail
              refine hK.out _ _ ?_ (fun hH => ?_)
              · assumption
              clear hK K
              try simp only [Act.put, List.setIfInBounds_toArray, List.set_cons_zero, List.set_cons_succ]
              refine wpAnyH_ready (rs := [19]) (by kernel_rfl) (by simp) ?_
              refine AllReadyH.cons rfl (fun K hK => ?_) AllReadyH.nil
              go_simp
              (go_at_call 61; refine (replaced_any BK (those x.marks 45) o (those x.marks 43).length _ _ _ (hov.never (And.left hH)) hrN (by omega) (by omega) (by omega)).mono ?_; rintro e wq3 ⟨rq3, rfl, hcq3, hrq3⟩; have hrR := hrq3.sub (O' := Never) (fun _ _ h => h.elim); obtain ⟨ra, rc, rfl, _, _, _⟩ := rdv_slice hrR; have hS4 := cells2_keep hH hcq3; clear hH hcq3 hrq3)
              try go_wp2_with fail
              refine hK.out _ _ ?_ (fun hH => ?_)
              · assumption
              clear hK K
              try simp only [Act.put, List.setIfInBounds_toArray, List.set_cons_zero, List.set_cons_succ]
              refine' wpAnyH_take (i := 20) ?hi20 (by kernel_rfl) (by kernel_rfl) (by kernel_rfl) ?hQ20 (Or.inl ⟨?hw20, ?hy20⟩) (by assumption) ?_
              case hi20 => (simp only [List.getElem?_toArray, List.getElem?_cons_succ, List.getElem?_cons_zero]; rfl)
              case hQ20 => exact fun _ _ _ h => h
              case hw20 => rfl
              case hy20 => (intro w' hSw; (try dsimp only at hSw); go_simp; all_goals with_reducible rfl)
              try simp only [Act.put, List.setIfInBounds_toArray, List.set_cons_zero, List.set_cons_succ]
              refine wpAnyH_done (by kernel_rfl) ?_ _
              have hcF := hc.trans (And.left hH)
              clear hH c0 c2 hmv hov hrN
              have hE : repl BK o (those x.marks 43).length (those x.marks 45) = backDo a (l.drop k) := by rw [HBK.out, eo, en]
              rw [hE] at hrR ⊢
              go_wp2_with fail
              go_roundw
              case rel => exact ⟨(k : Int) - 1, ra, rc, by omega, by omega, rfl, hcF, by rw [show ((k : Int) - 1 + 1).toNat = k by omega], by rw [show ((k : Int) - 1 + 1).toNat = k by omega]; exact hrR⟩
              case measure => simp [intOf] <;> omega
            · obtain rfl : y = -1 := by omega
              rw [show ((-1 : Int) + 1).toNat = 0 from rfl, List.drop_zero] at hov ⊢
              have hbl := backDo_length a l hn120
              generalize backDo a l = BK at *
              by_cases h60 : 60 < BK.length
              · have HE : Hid (strict a l = ([], 0, 3)) := by rw [Hid, HST.out, if_pos h60]
                go_wp2_with fail
                go_ret3
                exact ⟨.slice none 0 0, by rw [HE.out]; rfl, hc, by rw [HE.out]; exact rdv_nil _ _⟩
              · have HE : Hid (strict a l = (BK, 0, 0)) := by rw [Hid, HST.out, if_neg h60]
                go_wp2_with fail
                go_ret3
                exact ⟨_, by rw [HE.out]; rfl, hc, by rw [HE.out]; exact hov⟩
    · have HS : Hid (strict a l = ([], (hunksFault l).1, (hunksFault l).2)) := by unfold Hid strict; rw [if_neg (by simp [h1]), if_pos h2]
      have H1 := Lib.hid h1
      have t2 : ((hunksFault l).2 != 0) = true := by simp [h2]
      clear h1 h2
      go_enter Tryz.func33, Tryz.ntmps33
      go_wp2_with fail
      refine (refLines_any a _ _ ha).mono ?_
      rintro e w1 ⟨rfl, hw⟩
      rw [H1.out]
      go_wp2_with fail
      refine (refHunks_any l _ _ (hl.never hw)).mono ?_
      rintro e w2 ⟨rfl, hc2⟩
      have hw := hw.trans hc2
      clear hc2
      go_wp2_with fail
      go_ret3
      exact ⟨.slice none 0 0, by rw [HS.out]; rfl, hw, by rw [HS.out]; exact rdv_nil _ _⟩
  · have HS : Hid (strict a l = ([], 0, linesFault a)) := if_pos h1
    have t1 : (linesFault a != 0) = true := by simp [h1]
    clear h1
    go_enter Tryz.func33, Tryz.ntmps33
    go_wp2_with fail
    refine (refLines_any a _ _ ha).mono ?_
    rintro e w1 ⟨rfl, hw⟩
    go_wp2_with fail
    go_ret3
    exact ⟨.slice none 0 0, by rw [HS.out]; rfl, hw, by rw [HS.out]; exact rdv_nil _ _⟩
end Go.Proofs.YteocmmejfnmjcaaGreatDoor
namespace Go.Proofs.YteocmmejfnmjcaaGreatDoor
open Go.RowKit

def doneR (there : Bool) (L : List ByteArray) (c : Change) : List ByteArray × Bool × Int :=
  if c.what = 2 ∧ there = true then ([], false, 6)
  else if c.what ≠ 2 ∧ there = false then ([], false, 4)
  else if (strict L c.hunks).2.2 ≠ 0 then ([], false, (strict L c.hunks).2.2)
  else if c.what = 3 ∧ (strict L c.hunks).1 ≠ [] then ([], false, 6)
  else ((strict L c.hunks).1, decide (c.what ≠ 3), 0)
theorem done_step (x : Option (List ByteArray)) (c : Change) : stepOf x c = (if (doneR x.isSome (x.getD []) c).2.1 = true then some (doneR x.isSome (x.getD []) c).1 else none, (doneR x.isSome (x.getD []) c).2.2) := by
  unfold stepOf doneR
  by_cases h1 : c.what = 2 ∧ x.isSome = true
  · rw [if_pos h1, if_pos h1]; rfl
  · rw [if_neg h1, if_neg h1]
    by_cases h2 : c.what ≠ 2 ∧ x.isSome = false
    · rw [if_pos h2, if_pos h2]; rfl
    · rw [if_neg h2, if_neg h2]
      by_cases h3 : (strict (x.getD []) c.hunks).2.2 ≠ 0
      · rw [if_pos h3, if_pos h3]; rfl
      · rw [if_neg h3, if_neg h3]
        by_cases h4 : c.what = 3
        · by_cases h5 : (strict (x.getD []) c.hunks).1 = []
          · simp [h4, h5]
          · simp [h4, h5]
        · simp [h4]
theorem done_clash {there : Bool} {L : List ByteArray} {c : Change} (h : c.what = 2 ∧ there = true) : doneR there L c = ([], false, 6) := if_pos h
theorem done_none {there : Bool} {L : List ByteArray} {c : Change} (h : c.what ≠ 2 ∧ there = false) : doneR there L c = ([], false, 4) := by unfold doneR; rw [if_neg (fun g => h.1 g.1), if_pos h]
theorem done_bad {there : Bool} {L : List ByteArray} {c : Change} (h1 : ¬ (c.what = 2 ∧ there = true)) (h2 : ¬ (c.what ≠ 2 ∧ there = false)) (h : (strict L c.hunks).2.2 ≠ 0) : doneR there L c = ([], false, (strict L c.hunks).2.2) := by unfold doneR; rw [if_neg h1, if_neg h2, if_pos h]
theorem done_left {there : Bool} {L : List ByteArray} {c : Change} (h1 : ¬ (c.what = 2 ∧ there = true)) (h2 : ¬ (c.what ≠ 2 ∧ there = false)) (h : (strict L c.hunks).2.2 = 0) (g : c.what = 3 ∧ (strict L c.hunks).1 ≠ []) : doneR there L c = ([], false, 6) := by unfold doneR; rw [if_neg h1, if_neg h2, if_neg (by rw [h]; decide), if_pos g]
theorem done_good {there : Bool} {L : List ByteArray} {c : Change} (h1 : ¬ (c.what = 2 ∧ there = true)) (h2 : ¬ (c.what ≠ 2 ∧ there = false)) (h : (strict L c.hunks).2.2 = 0) (g : ¬ (c.what = 3 ∧ (strict L c.hunks).1 ≠ [])) : doneR there L c = ((strict L c.hunks).1, decide (c.what ≠ 3), 0) := by unfold doneR; rw [if_neg h1, if_neg h2, if_neg (by rw [h]; decide), if_neg g]
def DonePost (there : Bool) (L : List ByteArray) (c : Change) (w : World) (e : Ending) (w' : World) : Prop := ∃ r, e = .returned (.tuple #[r, .bool (doneR there L c).2.1, errV (doneR there L c).2.2]) ∧ Chg Never w w' ∧ Rdv w' (Old w.heap.size) r (doneR there L c).1
theorem donePost_bad {there : Bool} {L : List ByteArray} {c : Change} {w w' : World} {k : Int} (h : doneR there L c = ([], false, k)) (hc : Chg Never w w') : DonePost there L c w (.returned (.tuple #[.slice none 0 0, .bool false, errV k])) w' :=
  ⟨_, by rw [h], hc, by rw [h]; exact rdv_nil _ _⟩
theorem donePost_ok {there b : Bool} {L R : List ByteArray} {c : Change} {w w' : World} {r : Value} (h : doneR there L c = (R, b, 0)) (hc : Chg Never w w') (hr : Rdv w' (Old w.heap.size) r R) : DonePost there L c w (.returned (.tuple #[r, .bool b, .nilIface])) w' :=
  ⟨_, by rw [h]; rfl, hc, by rw [h]; exact hr⟩
set_option maxHeartbeats 2000000 in
set_option maxRecDepth 100000 in
theorem done_go (there : Bool) (L : List ByteArray) (wh : Int) (pa : ByteArray) (hs : List Hunk) (lv hv : Value) (w : World) (hL : Rdv w Never lv L) (hh : Rdv w Never hv hs) :
    Calls Tryz.prog 39 #[lv, .bool there, .agg #[.int .i64 wh, .string pa, hv]] w fun e w' => DonePost there L ⟨wh, pa, hs⟩ w e w' := by
  obtain ⟨a, cap, rfl, h1, h2, _⟩ := rdv_slice hh
  obtain ⟨la, lcap, rfl, _, _, _⟩ := rdv_slice hL
  by_cases k2 : wh = 2
  · subst k2
    obtain ⟨hA, b0, b1, b2⟩ := box1_change w 36 2 pa (.slice a hs.length cap) _ rfl
    cases there with
    | true =>
      have HG := Lib.hid (donePost_bad (w := w) (done_clash (L := L) (c := ⟨2, pa, hs⟩) ⟨rfl, rfl⟩) hA)
      go_enter Tryz.func39, Tryz.ntmps39
      go_wp2_with fail
      go_ret3
      have E := HG.out
      rw [errV_pos (by decide)] at E
      exact E
    | false =>
      have n1 : ¬ ((⟨2, pa, hs⟩ : Change).what = 2 ∧ false = true) := fun h => by cases h.2
      have n2 : ¬ ((⟨2, pa, hs⟩ : Change).what ≠ 2 ∧ false = false) := fun h => h.1 rfl
      by_cases z : (strict L hs).2.2 = 0
      · have HG : Hid (doneR false L ⟨2, pa, hs⟩ = ((strict L hs).1, true, 0)) := done_good n1 n2 z (fun h => absurd (show (2 : Int) = 3 from h.1) (by decide))
        have ZS := Lib.hid z
        clear z n1 n2
        go_enter Tryz.func39, Tryz.ntmps39
        go_wp2_with fail
        generalize w.alloc (.cells #[.int .i64 2, .string pa, .slice a hs.length cap] 36) = wA at hA b0 b1 b2 ⊢
        refine (strict_any L hs _ _ _ (hL.never hA) (hh.never hA)).mono ?_
        rintro e w2 ⟨r, rfl, hc2, hr⟩
        have hw := hA.trans hc2
        have b0 := hc2.cellNever b0
        have hr := hr.sub (O' := Old w.heap.size) (fun k _ h => Nat.lt_of_lt_of_le h hA.size)
        clear hc2 b1 b2
        skip
        obtain ⟨ra, rc, rfl, _, _, _⟩ := rdv_slice hr
        rw [ZS.out, errV_zero]
        go_wp2_with fail
        go_quiet (fail)
        go_wp2_with fail
        go_ret3
        exact donePost_ok HG.out (hw.drewN _) (hr.never ((Chg.refl Never _).drewN _))
      · have HG := Lib.hid (done_bad n1 n2 z)
        have ZS := Lib.hid z
        clear z n1 n2
        go_enter Tryz.func39, Tryz.ntmps39
        go_wp2_with fail
        generalize w.alloc (.cells #[.int .i64 2, .string pa, .slice a hs.length cap] 36) = wA at hA b0 b1 b2 ⊢
        refine (strict_any L hs _ _ _ (hL.never hA) (hh.never hA)).mono ?_
        rintro e w2 ⟨r, rfl, hc2, hr⟩
        have hw := hA.trans hc2
        have b0 := hc2.cellNever b0
        have hr := hr.sub (O' := Old w.heap.size) (fun k _ h => Nat.lt_of_lt_of_le h hA.size)
        clear hc2 b1 b2
        skip
        obtain ⟨ra, rc, rfl, _, _, _⟩ := rdv_slice hr
        rw [errV_pos ZS.out]
        clear b0
        go_wp2_with fail
        go_ret3
        have E := donePost_bad HG.out hw
        rw [errV_pos ZS.out] at E
        exact E
  · have t2 : (wh == 2) = false := by simp [k2]
    have t2' : (wh != 2) = true := by simp [k2]
    obtain ⟨hA, b0, b1, b2⟩ := box1_change w 36 wh pa (.slice a hs.length cap) _ rfl
    cases there with
    | false =>
      have HG := Lib.hid (donePost_bad (w := w) (done_none (L := L) (c := ⟨wh, pa, hs⟩) ⟨k2, rfl⟩) hA)
      clear k2
      go_enter Tryz.func39, Tryz.ntmps39
      go_wp2_with fail
      go_ret3
      have E := HG.out
      rw [errV_pos (by decide)] at E
      exact E
    | true =>
      have n1 : ¬ ((⟨wh, pa, hs⟩ : Change).what = 2 ∧ true = true) := fun h => k2 h.1
      have n2 : ¬ ((⟨wh, pa, hs⟩ : Change).what ≠ 2 ∧ true = false) := fun h => by cases h.2
      by_cases z : (strict L hs).2.2 = 0
      · have ZS := Lib.hid z
        by_cases k3 : wh = 3
        · subst k3
          by_cases h0 : (strict L hs).1 = []
          · have HG : Hid (doneR true L ⟨3, pa, hs⟩ = ([], false, 0)) := (done_good n1 n2 z (fun h => h.2 h0)).trans (by rw [show (strict L (⟨3, pa, hs⟩ : Change).hunks).1 = [] from h0]; rfl)
            have H0 := Lib.hid h0
            clear z n1 n2 k2 h0 t2 t2'
            go_enter Tryz.func39, Tryz.ntmps39
            go_wp2_with fail
            generalize w.alloc (.cells #[.int .i64 3, .string pa, .slice a hs.length cap] 36) = wA at hA b0 b1 b2 ⊢
            refine (strict_any L hs _ _ _ (hL.never hA) (hh.never hA)).mono ?_
            rintro e w2 ⟨r, rfl, hc2, hr⟩
            have hw := hA.trans hc2
            have b0 := hc2.cellNever b0
            have hr := hr.sub (O' := Old w.heap.size) (fun k _ h => Nat.lt_of_lt_of_le h hA.size)
            clear hc2 b1 b2
            rw [H0.out] at hr
            obtain ⟨ra, rc, rfl, _, _, _⟩ := rdv_slice hr
            rw [ZS.out, errV_zero]
            go_wp2_with fail
            go_quiet (fail)
            go_wp2_with fail
            go_ret3
            exact donePost_ok HG.out (hw.drewN _) (hr.never ((Chg.refl Never _).drewN _))
          · have HG := Lib.hid (done_left n1 n2 z ⟨rfl, h0⟩)
            have hpos : 0 < (strict L hs).1.length := List.length_pos_iff.2 h0
            clear z n1 n2 k2 h0 t2 t2'
            go_enter Tryz.func39, Tryz.ntmps39
            go_wp2_with fail
            generalize w.alloc (.cells #[.int .i64 3, .string pa, .slice a hs.length cap] 36) = wA at hA b0 b1 b2 ⊢
            refine (strict_any L hs _ _ _ (hL.never hA) (hh.never hA)).mono ?_
            rintro e w2 ⟨r, rfl, hc2, hr⟩
            have hw := hA.trans hc2
            have b0 := hc2.cellNever b0
            have hr := hr.sub (O' := Old w.heap.size) (fun k _ h => Nat.lt_of_lt_of_le h hA.size)
            clear hc2 b1 b2
            skip
            obtain ⟨ra, rc, rfl, _, _, _⟩ := rdv_slice hr
            rw [ZS.out, errV_zero]
            go_wp2_with fail
            all_goals first | (go_ret3; have E := donePost_bad HG.out hw; rw [errV_pos (by decide)] at E; exact E) | skip
        · have t3 : (wh == 3) = false := by simp [k3]
          have HG : Hid (doneR true L ⟨wh, pa, hs⟩ = ((strict L hs).1, wh != 3, 0)) := (done_good n1 n2 z (fun h => k3 h.1)).trans (by rw [show decide ((⟨wh, pa, hs⟩ : Change).what ≠ 3) = true from decide_eq_true k3, show (wh != 3) = true by simp [k3]])
          clear z n1 n2 k2 k3
          go_enter Tryz.func39, Tryz.ntmps39
          go_wp2_with fail
          generalize w.alloc (.cells #[.int .i64 wh, .string pa, .slice a hs.length cap] 36) = wA at hA b0 b1 b2 ⊢
          refine (strict_any L hs _ _ _ (hL.never hA) (hh.never hA)).mono ?_
          rintro e w2 ⟨r, rfl, hc2, hr⟩
          have hw := hA.trans hc2
          have b0 := hc2.cellNever b0
          have hr := hr.sub (O' := Old w.heap.size) (fun k _ h => Nat.lt_of_lt_of_le h hA.size)
          clear hc2 b1 b2
          skip
          obtain ⟨ra, rc, rfl, _, _, _⟩ := rdv_slice hr
          rw [ZS.out, errV_zero]
          go_wp2_with fail
          go_quiet (fail)
          go_wp2_with fail
          go_ret3
          exact donePost_ok HG.out (hw.drewN _) (hr.never ((Chg.refl Never _).drewN _))
      · clear k2
        have HG := Lib.hid (done_bad n1 n2 z)
        have ZS := Lib.hid z
        clear z n1 n2
        go_enter Tryz.func39, Tryz.ntmps39
        go_wp2_with fail
        generalize w.alloc (.cells #[.int .i64 wh, .string pa, .slice a hs.length cap] 36) = wA at hA b0 b1 b2 ⊢
        refine (strict_any L hs _ _ _ (hL.never hA) (hh.never hA)).mono ?_
        rintro e w2 ⟨r, rfl, hc2, hr⟩
        have hw := hA.trans hc2
        have b0 := hc2.cellNever b0
        have hr := hr.sub (O' := Old w.heap.size) (fun k _ h => Nat.lt_of_lt_of_le h hA.size)
        clear hc2 b1 b2
        skip
        obtain ⟨ra, rc, rfl, _, _, _⟩ := rdv_slice hr
        rw [errV_pos ZS.out]
        clear b0
        go_wp2_with fail
        go_ret3
        have E := donePost_bad HG.out hw
        rw [errV_pos ZS.out] at E
        exact E
theorem done_any (there : Bool) (L : List ByteArray) (c : Change) (lv hv : Value) (w : World) (hL : Rdv w Never lv L) (hh : Rdv w Never hv c.hunks) :
    Calls Tryz.prog 39 #[lv, .bool there, .agg #[.int .i64 c.what, .string c.path, hv]] w fun e w' => DonePost there L c w e w' := done_go there L c.what c.path c.hunks lv hv w hL hh
end Go.Proofs.YteocmmejfnmjcaaGreatDoor
