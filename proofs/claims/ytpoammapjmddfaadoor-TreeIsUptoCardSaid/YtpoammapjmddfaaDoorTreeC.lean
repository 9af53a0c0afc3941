/-
  THE WALKS of the document's DropOf, PutOf.
-/
import Derived.Test.YtpoammapjmddfaaDoorTreeA
import Derived.Test.YtpoammapjmddfaaDoorMany2
namespace Go.Proofs.YtpoammapjmddfaaDoor
open Go.RowKit

theorem elemOk_file : ElemOk Tryd.prog 48 50 2 := elemOk_of Tryd.underlying48 (z := .agg #[.string ⟨#[]⟩, .slice none 0 0]) (b := 40) (by kernel_rfl) rfl (by decide)
theorem size_file (w : World) : (sizeOf (Tryd.prog.elem 48)).run Tryd.prog w = .ok 2 w := by kernel_rfl

set_option maxHeartbeats 1000000 in
set_option maxRecDepth 100000 in
theorem refDrop_any (t : List File) (k : Nat) (v : Value) (w : World) (h : Rdv w Never v t) (hk : k < t.length) (hl : t.length ≤ 1000000) :
    Calls Tryd.prog 29 #[v, .int .i64 k] w fun e w' => ∃ r, e = .returned r ∧ Chg Never w w' ∧ Rdv w' Never r (dropAt t k) := by
  obtain ⟨a, cap, rfl, h1, h2, _⟩ := rdv_slice h
  unfold maxLen at h2
  obtain ⟨sb1, u0, u1, hrunH, hsub1⟩ := slice_gen (P := Tryd.prog) (t := 48) (by kernel_rfl) size_file h 0 k (Nat.zero_le _) (by omega)
  have hrunH := fun (wx : World) => hrunH k wx rfl rfl
  clear u0 u1
  rw [Nat.sub_zero, Nat.sub_zero] at hrunH hsub1
  rw [List.drop_zero] at hsub1
  obtain ⟨sb2, u0, hrunL, u1, hsub2⟩ := slice_gen (P := Tryd.prog) (t := 48) (by kernel_rfl) size_file h (k + 1) t.length (by omega) (Nat.le_refl _)
  have hrunL := fun (wx : World) => hrunL ((k : Int) + 1) wx (by push_cast; rfl) rfl
  clear u0 u1
  rw [List.take_of_length_le (by rw [List.length_drop]; omega)] at hsub2
  have hn := ownN_nil (α := File) 50 (Chg.refl Never w)
  have hle1 : ([] : List File).length + (t.take k).length ≤ 1000000000 := by simp; omega
  have hle2 : ([] ++ t.take k).length + (t.drop (k + 1)).length ≤ 1000000000 := by simp; omega
  go_enter Tryd.func29, Tryd.ntmps29
  go_wp2_with (first
    | (at_builtin; refine wpList_many2 (by rfl) _ _ 48 (by rfl) elemOk_file (O := Never) (l := []) (m := t.take k) (by rfl) (by rfl) hn.own (hn.away hsub1) (fun _ h => h.elim) hle1 ?_; intro v1 w1 hw1 hd1 hk1; have hn1 := hn.step hw1 hd1 hk1; clear hw1 hd1 hk1 hn; obtain ⟨s1, n1, c1, rfl⟩ := own_isSlice hn1.own)
    | (at_builtin; refine wpList_many2 (by rfl) _ _ 48 (by rfl) elemOk_file (O := Never) (l := [] ++ t.take k) (m := t.drop (k + 1)) (by rfl) (by rfl) hn1.own (hn1.away hsub2) (fun _ h => h.elim) hle2 ?_; intro v2 w2 hw2 hd2 hk2; have hn2 := hn1.step hw2 hd2 hk2; clear hw2 hd2 hk2 hn1; obtain ⟨s2, n2, c2, rfl⟩ := own_isSlice hn2.own))
  go_ret
  exact ⟨_, rfl, hn2.chg, hn2.own.rdv.sub (fun _ _ h => h.elim)⟩

theorem putLoop_step (f x : File) (done : Bool) (r : List File) : putLoop f done (x :: r) = (if !done && leqB f.path x.path then [f] else []) ++ (if x.path = f.path then [] else [x]) ++ putLoop f (done || leqB f.path x.path) r := by rw [putLoop]
set_option maxHeartbeats 2000000 in
set_option maxRecDepth 100000 in
theorem refPut_any (t : List File) (f : File) (v fv : Value) (w : World) (h : Rdv w Never v t) (hf : Rdv w Never fv f.lines) (hp : f.path.size ≤ maxLen) (hl : t.length ≤ 1000000) :
    Calls Tryd.prog 33 #[v, .agg #[.string f.path, fv]] w fun e w' => ∃ r, e = .returned r ∧ Chg Never w w' ∧ Rdv w' Never r (putLoop f false t) := by
  obtain ⟨a, cap, rfl, h1, h2, _⟩ := rdv_slice h
  obtain ⟨fa, fcap, rfl, _, _, _⟩ := rdv_slice hf
  unfold maxLen at h2
  have hA : Chg Never w (w.alloc (.cells #[.string f.path, .slice fa f.lines.length fcap] 50)) := (Chg.refl Never w).alloc _
  have b0 : (w.alloc (.cells #[.string f.path, .slice fa f.lines.length fcap] 50)).cell? ⟨w.heap.size, 0, none⟩ = some (.string f.path) := by simp only [World.cell?]; rw [heap_alloc_new]; rfl
  have b1 : (w.alloc (.cells #[.string f.path, .slice fa f.lines.length fcap] 50)).cell? ⟨w.heap.size, 1, none⟩ = some (.slice fa f.lines.length fcap) := by simp only [World.cell?]; rw [heap_alloc_new]; rfl
  go_enter Tryd.func33, Tryd.ntmps33
  go_wp2_with fail
  generalize w.alloc (.cells #[.string f.path, .slice fa f.lines.length fcap] 50) = w1 at hA b0 b1 ⊢
  generalize w.heap.size = B at b0 b1 ⊢
  have h := h.never hA
  have hf := hf.never hA
  obtain ⟨_, _, hav, _, _, h3⟩ := rdv_slice h
  simp only [Value.slice.injEq, true_and] at hav
  obtain ⟨rfl, rfl⟩ := hav
  go_loopw [5, 6, 7] (fun o dn i wr => ∃ (k : Nat) (done : Bool) (L : List File), k ≤ t.length ∧ i = .int .i64 k ∧ dn = .bool done ∧ OwnN 50 w1 wr o L ∧ L.length ≤ 2 * k ∧ Hid (L ++ putLoop f done (t.drop k) = putLoop f false t)) (fun _ _ i _ => t.length - (intOf i).toNat)
  case atStart => exact ⟨0, false, [], Nat.zero_le _, rfl, rfl, ownN_nil _ (Chg.refl _ _), Nat.le_refl _, rfl⟩
  case round =>
    obtain ⟨k, done, L, hk, rfl, rfl, hn, hL, hP⟩ := hrel
    have q0 := hn.chg.cellNever b0
    have q1 := hn.chg.cellNever b1
    by_cases hlt : k < t.length
    · obtain ⟨x, hx⟩ : ∃ x, t[k]? = some x := ⟨t[k], by simp [hlt]⟩
      obtain ⟨b, off, lv, rfl, _, _, c0, c1, hps, hlv⟩ := elems_file h3 hx
      obtain ⟨la, lcap, rfl, _, _, _⟩ := rdv_slice hlv
      have C0 := Lib.hid c0
      have C1 := Lib.hid c1
      have c0 := hn.chg.cellNever c0
      have c1 := hn.chg.cellNever c1
      have HD := Lib.hid (drop_eq hx)
      clear hx
      cases done with
      | true =>
        by_cases e : x.path = f.path
        · have HN : Hid (L ++ putLoop f true (t.drop (k + 1)) = putLoop f false t) := by
            rw [Hid, ← hP.out, HD.out, putLoop_step]; simp [e]
          have t1 : (x.path.toList == f.path.toList) = true := by rw [e]; exact beq_self_eq_true _
          clear e hP
          go_wp2_with fail
          go_quiet (fail)
          generalize hwqw5 : World.drewN wr _ = w5
          have hn5 := hwqw5 ▸ hn.never ((Chg.refl Never wr).drewN _)
          clear hwqw5 hn
          clear c0 c1 q0 q1
          have c0 := (hn5).chg.cellNever C0.out
          have c1 := (hn5).chg.cellNever C1.out
          have q0 := (hn5).chg.cellNever b0
          have q1 := (hn5).chg.cellNever b1
          go_wp2_with fail
          go_quiet (fail)
          generalize hwqw7 : World.drewN w5 _ = w7
          have hn7 := hwqw7 ▸ hn5.never ((Chg.refl Never w5).drewN _)
          clear hwqw7 hn5
          clear c0 c1 q0 q1
          have c0 := (hn7).chg.cellNever C0.out
          have c1 := (hn7).chg.cellNever C1.out
          have q0 := (hn7).chg.cellNever b0
          have q1 := (hn7).chg.cellNever b1
          go_wp2_with fail
          go_roundw
          case rel => exact ⟨k + 1, true, L, by omega, by go_num, rfl, hn7, by first | omega | (simp; omega), HN⟩
          case measure => simp [intOf] <;> omega
        · have HN : Hid ((L ++ [x]) ++ putLoop f true (t.drop (k + 1)) = putLoop f false t) := by
            rw [Hid, ← hP.out, HD.out, putLoop_step]; simp [e]
          have t1 := str_beq_false e
          clear e hP
          go_wp2_with fail
          go_quiet (fail)
          generalize hwqw5 : World.drewN wr _ = w5
          have hn5 := hwqw5 ▸ hn.never ((Chg.refl Never wr).drewN _)
          clear hwqw5 hn
          clear c0 c1 q0 q1
          have c0 := (hn5).chg.cellNever C0.out
          have c1 := (hn5).chg.cellNever C1.out
          have q0 := (hn5).chg.cellNever b0
          have q1 := (hn5).chg.cellNever b1
          go_wp2_with fail
          go_quiet (fail)
          generalize hwqw7 : World.drewN w5 _ = w7
          have hn7 := hwqw7 ▸ hn5.never ((Chg.refl Never w5).drewN _)
          clear hwqw7 hn5
          clear c0 c1 q0 q1
          have c0 := (hn7).chg.cellNever C0.out
          have c1 := (hn7).chg.cellNever C1.out
          have q0 := (hn7).chg.cellNever b0
          have q1 := (hn7).chg.cellNever b1
          have hyw8 : Dat.rd _ (fun k => Never k ∨ _ = some k) _ x := ⟨_, rfl, hps, hn7.away hlv⟩
          go_wp2_with (at_builtin; refine wpList_push (by rfl) _ _ 48 (by rfl) elemOk_file (O := Never) (l := L) (y := x) (by rfl) (by rfl) (by rfl) hn7.own hyw8 (fun _ h => h.elim) (by first | omega | (simp; omega)) ?_; intro vw8 w8 hown2 hc2 hk2; have hn8 := hn7.step1 hown2 hc2 hk2; clear hown2 hc2 hk2 hn7 hyw8; obtain ⟨vaw8, vnw8, vcw8, rfl⟩ := own_isSlice hn8.own)
          clear c0 c1 q0 q1
          have c0 := (hn8).chg.cellNever C0.out
          have c1 := (hn8).chg.cellNever C1.out
          have q0 := (hn8).chg.cellNever b0
          have q1 := (hn8).chg.cellNever b1
          go_wp2_with fail
          go_roundw
          case rel => exact ⟨k + 1, true, L ++ [x], by omega, by go_num, rfl, hn8, by first | omega | (simp; omega), HN⟩
          case measure => simp [intOf] <;> omega
      | false =>
        rcases less_tri x.path f.path with g | g | g
        · have HN : Hid ((L ++ [x]) ++ putLoop f false (t.drop (k + 1)) = putLoop f false t) := by
            have e1 : leqB f.path x.path = false := by
              rw [Bool.eq_false_iff]; intro e
              rw [leqB_true.1 e] at g; cases g
            rw [Hid, ← hP.out, HD.out, putLoop_step, e1]; simp [less_ne g]
          have a1 : Op.bytesLess f.path.toList x.path.toList = false := less_asymm g
          have a2 := str_beq_false (less_ne g).symm
          have t1 := str_beq_false (less_ne g)
          clear g hP
          go_wp2_with fail
          go_quiet (fail)
          generalize hwqw5 : World.drewN wr _ = w5
          have hn5 := hwqw5 ▸ hn.never ((Chg.refl Never wr).drewN _)
          clear hwqw5 hn
          clear c0 c1 q0 q1
          have c0 := (hn5).chg.cellNever C0.out
          have c1 := (hn5).chg.cellNever C1.out
          have q0 := (hn5).chg.cellNever b0
          have q1 := (hn5).chg.cellNever b1
          go_wp2_with fail
          go_quiet (fail)
          generalize hwqw7 : World.drewN w5 _ = w7
          have hn7 := hwqw7 ▸ hn5.never ((Chg.refl Never w5).drewN _)
          clear hwqw7 hn5
          clear c0 c1 q0 q1
          have c0 := (hn7).chg.cellNever C0.out
          have c1 := (hn7).chg.cellNever C1.out
          have q0 := (hn7).chg.cellNever b0
          have q1 := (hn7).chg.cellNever b1
          have hyw8 : Dat.rd _ (fun k => Never k ∨ _ = some k) _ x := ⟨_, rfl, hps, hn7.away hlv⟩
          go_wp2_with (at_builtin; refine wpList_push (by rfl) _ _ 48 (by rfl) elemOk_file (O := Never) (l := L) (y := x) (by rfl) (by rfl) (by rfl) hn7.own hyw8 (fun _ h => h.elim) (by first | omega | (simp; omega)) ?_; intro vw8 w8 hown2 hc2 hk2; have hn8 := hn7.step1 hown2 hc2 hk2; clear hown2 hc2 hk2 hn7 hyw8; obtain ⟨vaw8, vnw8, vcw8, rfl⟩ := own_isSlice hn8.own)
          clear c0 c1 q0 q1
          have c0 := (hn8).chg.cellNever C0.out
          have c1 := (hn8).chg.cellNever C1.out
          have q0 := (hn8).chg.cellNever b0
          have q1 := (hn8).chg.cellNever b1
          go_wp2_with fail
          go_roundw
          case rel => exact ⟨k + 1, false, L ++ [x], by omega, by go_num, rfl, hn8, by first | omega | (simp; omega), HN⟩
          case measure => simp [intOf] <;> omega
        · have HN : Hid ((L ++ [f]) ++ putLoop f true (t.drop (k + 1)) = putLoop f false t) := by
            have e1 : leqB f.path x.path = true := leqB_true.2 (by rw [g]; exact less_irrefl _)
            rw [Hid, ← hP.out, HD.out, putLoop_step, e1]; simp [g]
          have a1 : Op.bytesLess f.path.toList x.path.toList = false := by rw [g]; exact bl_irrefl _
          have a2 : (f.path.toList == x.path.toList) = true := by rw [g]; exact beq_self_eq_true _
          have t1 : (x.path.toList == f.path.toList) = true := by rw [g]; exact beq_self_eq_true _
          clear g hP
          go_wp2_with fail
          go_quiet (fail)
          generalize hwqw5 : World.drewN wr _ = w5
          have hn5 := hwqw5 ▸ hn.never ((Chg.refl Never wr).drewN _)
          clear hwqw5 hn
          clear c0 c1 q0 q1
          have c0 := (hn5).chg.cellNever C0.out
          have c1 := (hn5).chg.cellNever C1.out
          have q0 := (hn5).chg.cellNever b0
          have q1 := (hn5).chg.cellNever b1
          have hyw6 : Dat.rd _ (fun k => Never k ∨ _ = some k) _ f := ⟨_, rfl, hp, hn5.away hf⟩
          go_wp2_with (at_builtin; refine wpList_push (by rfl) _ _ 48 (by rfl) elemOk_file (O := Never) (l := L) (y := f) (by rfl) (by rfl) (by rfl) hn5.own hyw6 (fun _ h => h.elim) (by first | omega | (simp; omega)) ?_; intro vw6 w6 hown2 hc2 hk2; have hn6 := hn5.step1 hown2 hc2 hk2; clear hown2 hc2 hk2 hn5 hyw6; obtain ⟨vaw6, vnw6, vcw6, rfl⟩ := own_isSlice hn6.own)
          clear c0 c1 q0 q1
          have c0 := (hn6).chg.cellNever C0.out
          have c1 := (hn6).chg.cellNever C1.out
          have q0 := (hn6).chg.cellNever b0
          have q1 := (hn6).chg.cellNever b1
          go_wp2_with fail
          go_quiet (fail)
          generalize hwqw7 : World.drewN w6 _ = w7
          have hn7 := hwqw7 ▸ hn6.never ((Chg.refl Never w6).drewN _)
          clear hwqw7 hn6
          clear c0 c1 q0 q1
          have c0 := (hn7).chg.cellNever C0.out
          have c1 := (hn7).chg.cellNever C1.out
          have q0 := (hn7).chg.cellNever b0
          have q1 := (hn7).chg.cellNever b1
          go_wp2_with fail
          go_roundw
          case rel => exact ⟨k + 1, true, L ++ [f], by omega, by go_num, rfl, hn7, by first | omega | (simp; omega), HN⟩
          case measure => simp [intOf] <;> omega
        · have HN : Hid ((L ++ [f] ++ [x]) ++ putLoop f true (t.drop (k + 1)) = putLoop f false t) := by
            have e1 : leqB f.path x.path = true := leqB_true.2 (less_asymm g)
            rw [Hid, ← hP.out, HD.out, putLoop_step, e1]; simp [(less_ne g).symm]
          have a1 : Op.bytesLess f.path.toList x.path.toList = true := g
          have t1 := str_beq_false (less_ne g).symm
          clear g hP
          go_wp2_with fail
          go_quiet (fail)
          generalize hwqw5 : World.drewN wr _ = w5
          have hn5 := hwqw5 ▸ hn.never ((Chg.refl Never wr).drewN _)
          clear hwqw5 hn
          clear c0 c1 q0 q1
          have c0 := (hn5).chg.cellNever C0.out
          have c1 := (hn5).chg.cellNever C1.out
          have q0 := (hn5).chg.cellNever b0
          have q1 := (hn5).chg.cellNever b1
          have hyw6 : Dat.rd _ (fun k => Never k ∨ _ = some k) _ f := ⟨_, rfl, hp, hn5.away hf⟩
          go_wp2_with (at_builtin; refine wpList_push (by rfl) _ _ 48 (by rfl) elemOk_file (O := Never) (l := L) (y := f) (by rfl) (by rfl) (by rfl) hn5.own hyw6 (fun _ h => h.elim) (by first | omega | (simp; omega)) ?_; intro vw6 w6 hown2 hc2 hk2; have hn6 := hn5.step1 hown2 hc2 hk2; clear hown2 hc2 hk2 hn5 hyw6; obtain ⟨vaw6, vnw6, vcw6, rfl⟩ := own_isSlice hn6.own)
          clear c0 c1 q0 q1
          have c0 := (hn6).chg.cellNever C0.out
          have c1 := (hn6).chg.cellNever C1.out
          have q0 := (hn6).chg.cellNever b0
          have q1 := (hn6).chg.cellNever b1
          go_wp2_with fail
          go_quiet (fail)
          generalize hwqw7 : World.drewN w6 _ = w7
          have hn7 := hwqw7 ▸ hn6.never ((Chg.refl Never w6).drewN _)
          clear hwqw7 hn6
          clear c0 c1 q0 q1
          have c0 := (hn7).chg.cellNever C0.out
          have c1 := (hn7).chg.cellNever C1.out
          have q0 := (hn7).chg.cellNever b0
          have q1 := (hn7).chg.cellNever b1
          have hyw8 : Dat.rd _ (fun k => Never k ∨ _ = some k) _ x := ⟨_, rfl, hps, hn7.away hlv⟩
          go_wp2_with (at_builtin; refine wpList_push (by rfl) _ _ 48 (by rfl) elemOk_file (O := Never) (l := L ++ [f]) (y := x) (by rfl) (by rfl) (by rfl) hn7.own hyw8 (fun _ h => h.elim) (by first | omega | (simp; omega)) ?_; intro vw8 w8 hown2 hc2 hk2; have hn8 := hn7.step1 hown2 hc2 hk2; clear hown2 hc2 hk2 hn7 hyw8; obtain ⟨vaw8, vnw8, vcw8, rfl⟩ := own_isSlice hn8.own)
          clear c0 c1 q0 q1
          have c0 := (hn8).chg.cellNever C0.out
          have c1 := (hn8).chg.cellNever C1.out
          have q0 := (hn8).chg.cellNever b0
          have q1 := (hn8).chg.cellNever b1
          go_wp2_with fail
          go_roundw
          case rel => exact ⟨k + 1, true, L ++ [f] ++ [x], by omega, by go_num, rfl, hn8, by first | omega | (simp; omega), HN⟩
          case measure => simp [intOf] <;> omega
    · have hP2 := hP.out
      rw [List.drop_eq_nil_of_le (by omega), putLoop] at hP2
      have HP := Lib.hid hP2
      clear hP hP2
      cases done with
      | true =>
        have HE : Hid (L = putLoop f false t) := by rw [Hid, ← HP.out]; simp
        go_wp2_with fail
        go_ret
        exact ⟨_, rfl, hA.trans hn.chg, by rw [← HE.out]; exact hn.own.rdv.sub (fun _ _ h => h.elim)⟩
      | false =>
        have HE : Hid (L ++ [f] = putLoop f false t) := by rw [Hid, ← HP.out]; simp
        have hyf : Dat.rd wr (fun k => Never k ∨ u5.ownBlock = some k) [.string f.path, .slice fa f.lines.length fcap] f := ⟨_, rfl, hp, hn.away hf⟩
        go_wp2_with (at_builtin; refine wpList_push (by rfl) _ _ 48 (by rfl) elemOk_file (O := Never) (l := L) (y := f) (by rfl) (by rfl) (by rfl) hn.own hyf (fun _ h => h.elim) (by omega) ?_; intro v' w2 hown2 hc2 hk2; have hn2 := hn.step1 hown2 hc2 hk2; clear hown2 hc2 hk2 hn hyf; obtain ⟨va, vn, vc, rfl⟩ := own_isSlice hn2.own)
        go_wp2_with fail
        go_ret
        exact ⟨_, rfl, hA.trans hn2.chg, by rw [← HE.out]; exact hn2.own.rdv.sub (fun _ _ h => h.elim)⟩
end Go.Proofs.YtpoammapjmddfaaDoor
