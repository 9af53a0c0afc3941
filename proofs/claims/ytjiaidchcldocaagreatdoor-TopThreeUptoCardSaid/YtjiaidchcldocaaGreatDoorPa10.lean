/-
  PARTS: THE WALK of series.read.
-/
import Derived.Test.YtjiaidchcldocaaGreatDoorPa5
import Derived.Test.YtjiaidchcldocaaGreatDoorPa9
import Derived.Test.YtjiaidchcldocaaGreatDoorPa1
import Derived.Deep.RegionHeld3
import Derived.BigQuiet
import Derived.Deep.QuietTactic
set_option linter.unusedVariables false
set_option linter.unusedSimpArgs false
namespace Go.Proofs.YtjiaidchcldocaaGreatDoor
open Go.RowKit

theorem load_part {w : World} {B : Nat} {T : TypeId} {x y z u : Value} (h : Blk4 w B T x y z u) : (loadVar 97 ⟨B, 0, none⟩).run Tryz.prog w = .ok (.agg #[x, y, z, u]) w := by
  obtain ⟨c0, c1, c2, c3⟩ := h.cell
  go_simp
theorem results_partF {fn : Func} {t a r : Nat} (h : fn.results = #[.cell a t, .tmp r]) {tmps : Array Value} {P : Program} {w : World} {p : Addr} {v : Value} (ha : tmps.getD a undef = .pointer (some p)) (hl : (loadVar t p).run P w = .ok v w) :
    (results fn tmps).run P w = .ok (.tuple #[v, tmps.getD r undef]) w := by
  simp [results, h, -Array.getD_eq_getD_getElem?, ha, asAddr, hl]
theorem titled_here (s : ByteArray) (w : World) (hs : s.size ≤ maxLen) :
    Calls Tryz.prog 43 #[.string s] w fun e w' => e = .returned (.bool (titledB s.data.toList)) ∧ w' = w := (titled_any s w hs).mono fun _ _ h => ⟨h.1, h.2.symm⟩
def AtoiPost (s : ByteArray) (w : World) (e : Ending) (w' : World) : Prop := ∃ (x : Int) (v : Value), I64 x ∧ e = .returned (.tuple #[.int .i64 x, v]) ∧ Chg Never w w' ∧ ((v = .nilIface ∧ Lib.atoiAll s.data.toList = .ok x) ∨ ∃ T p, v = .iface T p ∧ ∀ y, Lib.atoiAll s.data.toList ≠ .ok y)
theorem atoi_each (s : ByteArray) (hs : s.size ≤ 1000000000) (w : World) (m : Int) (hg : Globs w m) :
    Calls Tryz.prog 99 #[.string s] w (AtoiPost s w) := by
  by_cases hok : ∃ v, Lib.atoiAll s.data.toList = .ok v
  · obtain ⟨v, hv⟩ := hok
    obtain ⟨vb0, vb1⟩ := Lib.atoiAll_bounds hv
    refine (Tryz.strconv_Atoi_ok s (by omega) v hv _).mono ?_
    rintro e w1 ⟨rfl, hW⟩
    refine ⟨v, _, ⟨by omega, by omega⟩, rfl, ?_, .inl ⟨rfl, hv⟩⟩
    rcases hW with rfl | ⟨t, rfl⟩
    · exact Chg.refl _ _
    · exact Chg.of_below (Lib.bytesWorld_below _ _ _)
  · refine (atoi_bad s hs (fun v q => hok ⟨v, q⟩) _ m hg).mono ?_
    rintro e w1 ⟨x, T, p, hx, rfl, hc1⟩
    exact ⟨x, _, hx, rfl, hc1, .inr ⟨T, p, rfl, fun y q => hok ⟨y, q⟩⟩⟩
/-- what read answers: a part and a fault; where there is none, the mail's piece -/
def SReadPost (m : Mail) (w : World) (e : Ending) (w' : World) : Prop := ∃ (t : ByteArray) (a b : Int) (pv : Value) (L : List Change), e = .returned (.tuple #[.agg #[.string t, .int .i64 a, .int .i64 b, pv], errV (pieceF m)]) ∧ Chg Never w w' ∧ Rdv w' (Old w.heap.size) pv L ∧ (pieceF m = 0 → t = toB (pieceOf m).title ∧ a = (pieceOf m).at' ∧ b = (pieceOf m).many ∧ L = (pieceOf m).patch)
theorem sread_no {m : Mail} {w w' : World} {e : Ending} {k : Int} (hk : pieceF m = k) (h0 : k ≠ 0) (he : e = .returned (.tuple #[.agg #[.string ⟨#[]⟩, .int .i64 0, .int .i64 0, .slice none 0 0], errV k])) (hc : Chg Never w w') : SReadPost m w e w' :=
  ⟨_, _, _, _, [], by rw [hk]; exact he, hc, rdv_nil _ _, fun h => absurd (hk.symm.trans h) h0⟩
theorem skeep8 {w2 wr wq : World} {A Q : Nat} {a b c d e f g h : Value} (H : Chg Never w2 wr ∧ (wr.cell? ⟨A, 0, none⟩ = some a ∧ wr.cell? ⟨A, 1, none⟩ = some b ∧ wr.cell? ⟨A, 2, none⟩ = some c ∧ wr.cell? ⟨A, 3, none⟩ = some d) ∧ wr.cell? ⟨Q, 0, none⟩ = some e ∧ wr.cell? ⟨Q, 1, none⟩ = some f ∧ wr.cell? ⟨Q, 2, none⟩ = some g ∧ wr.cell? ⟨Q, 3, none⟩ = some h) (k : Chg Never wr wq) :
    Chg Never w2 wq ∧ (wq.cell? ⟨A, 0, none⟩ = some a ∧ wq.cell? ⟨A, 1, none⟩ = some b ∧ wq.cell? ⟨A, 2, none⟩ = some c ∧ wq.cell? ⟨A, 3, none⟩ = some d) ∧ wq.cell? ⟨Q, 0, none⟩ = some e ∧ wq.cell? ⟨Q, 1, none⟩ = some f ∧ wq.cell? ⟨Q, 2, none⟩ = some g ∧ wq.cell? ⟨Q, 3, none⟩ = some h := by
  obtain ⟨h1, ⟨h2, h3, h4, h5⟩, h6, h7, h8, h9⟩ := H
  exact ⟨h1.trans k, ⟨k.cellNever h2, k.cellNever h3, k.cellNever h4, k.cellNever h5⟩, k.cellNever h6, k.cellNever h7, k.cellNever h8, k.cellNever h9⟩
set_option maxHeartbeats 4000000 in
set_option maxRecDepth 100000 in
theorem sread_any (m : Mail) (v : Value) (w : World) (h : Rdv w Never v m.body) (hsz : MailSz m) (mx : Int) (hg : Globs w mx) :
    Calls Tryz.prog 46 #[mailV m v] w (SReadPost m w) := by
  obtain ⟨ba, bc, rfl, b1, b2, -⟩ := rdv_slice h
  unfold maxLen at b2
  obtain ⟨z1, z2, z3⟩ := hsz
  obtain ⟨W1, hW1⟩ : ∃ W, w.alloc (.cells #[.string m.sender, .string m.subject, .string m.ident, .slice ba m.body.length bc] 31) = W := ⟨_, rfl⟩
  obtain ⟨A, hAe⟩ : ∃ A, w.heap.size = A := ⟨_, rfl⟩
  have hA0 := Blk4.new w 31 (.string m.sender) (.string m.subject) (.string m.ident) (.slice ba m.body.length bc)
  have hc1 : Chg Never w W1 := by rw [← hW1]; exact (Chg.refl Never w).alloc _
  rw [hW1, hAe] at hA0
  obtain ⟨W2, hW2⟩ : ∃ W, W1.alloc (.cells #[.string ⟨#[]⟩, .int .i64 0, .int .i64 0, .slice none 0 0] 97) = W := ⟨_, rfl⟩
  obtain ⟨R, hRe⟩ : ∃ R, W1.heap.size = R := ⟨_, rfl⟩
  have hR2 := Blk4.new W1 97 (.string ⟨#[]⟩) (.int .i64 0) (.int .i64 0) (.slice none 0 0)
  have hA2 := hA0.keep ((Chg.refl Never W1).alloc (.cells #[.string ⟨#[]⟩, .int .i64 0, .int .i64 0, .slice none 0 0] 97)) (fun h => h)
  have hc2 := hc1.alloc (.cells #[.string ⟨#[]⟩, .int .i64 0, .int .i64 0, .slice none 0 0] 97)
  have hRle : w.heap.size ≤ R := by rw [← hRe]; exact hc1.size
  have hAR : A < R := by rw [← hRe]; exact hA0.lt
  rw [hW2] at hR2 hA2 hc2
  rw [hRe] at hR2
  obtain ⟨x0, x1, x2, x3⟩ := hA2.cell
  have HAE := Lib.hid hAe
  clear hA0 hc1
  go_enter Tryz.func46, Tryz.ntmps46
  go_wp2_with fail
  clear hW1 hAe hW2 hRe
  refine (mail_check_any m (.slice ba m.body.length bc) _ (h.never hc2) ⟨z1, z2, z3⟩).mono ?_
  rintro e W3 ⟨rfl, hc3⟩
  have hR3 := hR2.keep hc3 (fun h => h)
  have hA3 := hA2.keep hc3 (fun h => h)
  have hc3 := hc2.trans hc3
  clear hR2 hA2 hc2 x0 x1 x2 x3
  by_cases hz : mailFault m = 0
  · obtain ⟨s1, s2, s3, s4⟩ := mail_small hz
    have HF := Lib.hid hz
    obtain ⟨P, hP⟩ : ∃ P, Lib.trimPrefix m.subject.data.toList patW = P := ⟨_, rfl⟩
    obtain ⟨ca, hca⟩ : ∃ x, cutA [47] P = x := ⟨_, rfl⟩
    obtain ⟨r, hr⟩ : ∃ x, cutB [47] P = x := ⟨_, rfl⟩
    obtain ⟨cb, hcb⟩ : ∃ x, cutA [93, 32] r = x := ⟨_, rfl⟩
    obtain ⟨t, ht⟩ : ∃ x, cutB [93, 32] r = x := ⟨_, rfl⟩
    have HA : Hid (subA m = ca) := by unfold Hid subA; rw [hP, hca]
    have HB : Hid (subB m = cb) := by unfold Hid subB; rw [hP, hr, hcb]
    have HT : Hid (subT m = t) := by unfold Hid subT; rw [hP, hr, ht]
    have l0 := trim_len m.subject.data.toList patW
    rw [hP, ← Lib.size_eq] at l0
    have l1 := cutA_len [47] P
    have l2 := cutB_len [47] P
    have l3 := cutA_len [93, 32] r
    have l4 := cutB_len [93, 32] r
    rw [hca] at l1
    rw [hr] at l2
    rw [hcb] at l3
    rw [ht] at l4
    have E5 : Hid (Lib.cut P [47] = (ca, r, (cutSub [47] P).isSome)) := by rw [Hid, lib_cut (by simp), hca, hr]
    have E6 : Hid (Lib.cut r [93, 32] = (cb, t, (cutSub [93, 32] r).isSome)) := by rw [Hid, lib_cut (by simp), hcb, ht]
    have EP := Lib.hid hP
    rw [hz, errV_zero]
    clear hz hP hca hr hcb ht
    obtain ⟨x0, x1, x2, x3⟩ := hA3.cell
    go_wp2_with fail
    clear x0 x1 x2 x3
    refine (Tryz.strings_CutPrefix m.subject (toB patW) _).mono ?_
    rintro e w1 ⟨rfl, rfl⟩
    rename World => W3
    rw [toB_data, EP.out, show (⟨P.toArray⟩ : ByteArray) = toB P from rfl]
    generalize Lib.hasPrefix m.subject.data.toList patW = pb
    go_wp2_with fail
    refine (Tryz.strings_Cut (toB P) (toB [47]) mx _ (by rw [toB_size']; omega) (hg.never hc3).ml).mono ?_
    rintro e w2 ⟨rfl, nd, rfl⟩
    have hc4 : Chg Never W3 (W3.drewN nd) := (Chg.refl Never W3).drewN nd
    rw [toB_data, toB_data, E5.out, show (⟨ca.toArray⟩ : ByteArray) = toB ca from rfl, show (⟨r.toArray⟩ : ByteArray) = toB r from rfl]
    generalize (cutSub [47] P).isSome = fb
    generalize W3.drewN nd = W4 at hc4 ⊢
    go_wp2_with fail
    refine (Tryz.strings_Cut (toB r) (toB [93, 32]) mx _ (by rw [toB_size']; omega) (hg.never (hc3.trans hc4)).ml).mono ?_
    rintro e w2 ⟨rfl, nd, rfl⟩
    have hc5 := hc4.drewN nd
    rw [toB_data, toB_data, E6.out, show (⟨cb.toArray⟩ : ByteArray) = toB cb from rfl, show (⟨t.toArray⟩ : ByteArray) = toB t from rfl]
    generalize (cutSub [93, 32] r).isSome = fb2
    generalize W4.drewN nd = W5 at hc5 ⊢
    clear hc4 E5 E6 EP
    go_wp2_with fail
    refine (atoi_each (toB ca) (by rw [toB_size']; omega) _ mx (hg.never (hc3.trans hc5))).mono ?_
    rintro e w6 ⟨x, ev1, hx, rfl, hc6, ho1⟩
    have hc6 := hc5.trans hc6
    rw [toB_data] at ho1
    go_wp2_with fail
    refine (atoi_each (toB cb) (by rw [toB_size']; omega) _ mx (hg.never (hc3.trans hc6))).mono ?_
    rintro e w7 ⟨y, ev2, hy, rfl, hc7, ho2⟩
    have hc7 := hc6.trans hc7
    rw [toB_data] at ho2
    have hc8 := hc7.alloc (.cells #[.string (toB t), .int .i64 x, .int .i64 y, .slice none 0 0] 97)
    have hR7 := hR3.keep hc8 (fun h => h)
    have hA7 := hA3.keep hc8 (fun h => h)
    have hcc := hc3.trans hc8
    have hP7 := Blk4.new w7 97 (.string (toB t)) (.int .i64 x) (.int .i64 y) (.slice none 0 0)
    have hR8 := hR3.keep hc7 (fun h => h)
    have hRP := hR8.lt
    clear hR8
    obtain ⟨ax, ay, ae⟩ : I64 x ∧ I64 y ∧ True := ⟨hx, hy, trivial⟩
    clear hc5 hc6 hc7 hc8
    go_wp2_with fail
    obtain ⟨W7, hW7⟩ : ∃ W, w7.alloc (.cells #[.string (toB t), .int .i64 x, .int .i64 y, .slice none 0 0] 97) = W := ⟨_, rfl⟩
    obtain ⟨Q, hQe⟩ : ∃ Q, w7.heap.size = Q := ⟨_, rfl⟩
    rw [hW7] at hR7 hA7 hcc hP7 ⊢
    rw [hQe] at hP7 hRP ⊢
    clear hW7 hQe hR3 hA3
    have htz : (toB t).size ≤ maxLen := by rw [toB_size']; unfold maxLen; omega
    rcases ho1 with ⟨rfl, ho1⟩ | ⟨T1, p1, rfl, ho1⟩
    · rcases ho2 with ⟨rfl, ho2⟩ | ⟨T2, p2, rfl, ho2⟩
      · have eqx : ∀ x' y', ReadOk m x' y' → x' = x ∧ y' = y := fun x' y' q => by
          have q1 := q.1
          have q2 := q.2.1
          rw [HA.out, ho1] at q1
          rw [HB.out, ho2] at q2
          injection q1 with q1
          injection q2 with q2
          exact ⟨q1.symm, q2.symm⟩
        by_cases hx0 : x < 0
        · have u1 : decide (x < 0) = true := decide_eq_true hx0
          have hk := Lib.hid (pieceF_none HF.out (read_none (fun x' y' q => by have := (eqx x' y' q).1; have := q.2.2.1; omega)))
          go_quiet (fail)
          have hR7 := hR7.keep (O := Never) ((Chg.refl Never W7).drewN nq) (fun h => h)
          have hcc := hcc.drewN nq
          generalize W7.drewN nq = W8 at hR7 hcc ⊢
          obtain ⟨k0, k1, k2, k3⟩ := hR7.cell
          have f0 := hR7.free 0
          have f1 := hR7.free 1
          have f2 := hR7.free 2
          have f3 := hR7.free 3
          obtain ⟨j0, j1, j2, j3⟩ := (hR7.setAll (.string ⟨#[]⟩) (.int .i64 0) (.int .i64 0) (.slice none 0 0)).cell
          go_wp2_with fail
          try simp only [Exit.inBlock, Exit.then]
          refine bodyPost_ret (results_partF rfl rfl (load_part (hR7.setAll _ _ _ _))) rfl ?_
          exact sread_no hk.out (by decide) rfl (chg_four hcc (.inl hRle) _ _ _ _)
        · have u1 : decide (x < 0) = false := decide_eq_false hx0
          by_cases hxy : y < x
          · have u2 : decide (y < x) = true := decide_eq_true hxy
            have hk := Lib.hid (pieceF_none HF.out (read_none (fun x' y' q => by have := eqx x' y' q; have := q.2.2.2.1; omega)))
            go_quiet (fail)
            have hR7 := hR7.keep (O := Never) ((Chg.refl Never W7).drewN nq) (fun h => h)
            have hcc := hcc.drewN nq
            generalize W7.drewN nq = W8 at hR7 hcc ⊢
            obtain ⟨k0, k1, k2, k3⟩ := hR7.cell
            have f0 := hR7.free 0
            have f1 := hR7.free 1
            have f2 := hR7.free 2
            have f3 := hR7.free 3
            obtain ⟨j0, j1, j2, j3⟩ := (hR7.setAll (.string ⟨#[]⟩) (.int .i64 0) (.int .i64 0) (.slice none 0 0)).cell
            go_wp2_with fail
            try simp only [Exit.inBlock, Exit.then]
            refine bodyPost_ret (results_partF rfl rfl (load_part (hR7.setAll _ _ _ _))) rfl ?_
            exact sread_no hk.out (by decide) rfl (chg_four hcc (.inl hRle) _ _ _ _)
          · have u2 : decide (y < x) = false := decide_eq_false hxy
            by_cases hy8 : 8 < y
            · have u3 : decide ((8 : Int) < y) = true := decide_eq_true hy8
              have hk := Lib.hid (pieceF_none HF.out (read_none (fun x' y' q => by have := eqx x' y' q; have := q.2.2.2.2.1; omega)))
              go_quiet (fail)
              have hR7 := hR7.keep (O := Never) ((Chg.refl Never W7).drewN nq) (fun h => h)
              have hcc := hcc.drewN nq
              generalize W7.drewN nq = W8 at hR7 hcc ⊢
              obtain ⟨k0, k1, k2, k3⟩ := hR7.cell
              have f0 := hR7.free 0
              have f1 := hR7.free 1
              have f2 := hR7.free 2
              have f3 := hR7.free 3
              obtain ⟨j0, j1, j2, j3⟩ := (hR7.setAll (.string ⟨#[]⟩) (.int .i64 0) (.int .i64 0) (.slice none 0 0)).cell
              go_wp2_with fail
              try simp only [Exit.inBlock, Exit.then]
              refine bodyPost_ret (results_partF rfl rfl (load_part (hR7.setAll _ _ _ _))) rfl ?_
              exact sread_no hk.out (by decide) rfl (chg_four hcc (.inl hRle) _ _ _ _)
            · have u3 : decide ((8 : Int) < y) = false := decide_eq_false hy8
              cases htt : titledB t with
              | false =>
                have HTT := Lib.hid htt
                have hk := Lib.hid (pieceF_none HF.out (read_none (fun x' y' q => by have := q.2.2.2.2.2.1; rw [HT.out, HTT.out] at this; cases this)))
                go_quiet (first | (go_at_call 43; refine Calls.quiet_of_same ((titled_any (toB t) _ htz).mono fun e w' hh => ⟨by rw [hh.1, toB_data, HTT.out], hh.2.symm⟩)))
                have hR7 := hR7.keep (O := Never) ((Chg.refl Never W7).drewN nq) (fun h => h)
                have hcc := hcc.drewN nq
                generalize W7.drewN nq = W8 at hR7 hcc ⊢
                obtain ⟨k0, k1, k2, k3⟩ := hR7.cell
                have f0 := hR7.free 0
                have f1 := hR7.free 1
                have f2 := hR7.free 2
                have f3 := hR7.free 3
                obtain ⟨j0, j1, j2, j3⟩ := (hR7.setAll (.string ⟨#[]⟩) (.int .i64 0) (.int .i64 0) (.slice none 0 0)).cell
                go_wp2_with fail
                try simp only [Exit.inBlock, Exit.then]
                refine bodyPost_ret (results_partF rfl rfl (load_part (hR7.setAll _ _ _ _))) rfl ?_
                exact sread_no hk.out (by decide) rfl (chg_four hcc (.inl hRle) _ _ _ _)
              | true =>
                have HTT := Lib.hid htt
                by_cases hfr : m.sender.data.toList = handW
                · have u4 : (m.sender.toList == [104, 97, 110, 100, 115, 116, 105, 116, 99, 104]) = true := by rw [Lib.toList_data, hfr]; rfl
                  have u5 : (m.sender.toList != [104, 97, 110, 100, 115, 116, 105, 116, 99, 104]) = false := by rw [bne, u4]; rfl
                  obtain ⟨x0, x1, x2, x3⟩ := hA7.cell
                  obtain ⟨q0, q1, q2, q3⟩ := hP7.cell
                  obtain ⟨xn, hxn⟩ : ∃ n : Nat, x = n := ⟨x.toNat, by omega⟩
                  obtain ⟨yn, hyn⟩ : ∃ n : Nat, y = n := ⟨y.toNat, by omega⟩
                  have l8 : yn ≤ 8 := by omega
                  have lx : xn ≤ yn := by omega
                  have exy : x.toNat = xn ∧ y.toNat = yn := by omega
                  obtain ⟨X, hX⟩ : ∃ X, toB (subjL xn yn t) = X := ⟨_, rfl⟩
                  obtain ⟨Y, hY⟩ : ∃ Y, toB (idL xn yn) = Y := ⟨_, rfl⟩
                  have FS : Hid (∀ wx, Calls Tryz.prog 44 #[.agg #[.string (toB t), .int .i64 x, .int .i64 y, .slice none 0 0]] wx fun e w' => e = .returned (.string X) ∧ Chg Never wx w') := fun wx => by
                    have := subject_any (toB t) xn yn (.slice none 0 0) wx (by omega) l8 (by rw [toB_size']; omega) rfl
                    rw [toB_data, hX, ← hxn, ← hyn] at this
                    exact this
                  have FI : Hid (∀ wx, Calls Tryz.prog 45 #[.agg #[.string (toB t), .int .i64 x, .int .i64 y, .slice none 0 0]] wx fun e w' => e = .returned (.string Y) ∧ Chg Never wx w') := fun wx => by
                    have := partid_any (toB t) xn yn (.slice none 0 0) wx (by omega) l8
                    rw [hY, ← hxn, ← hyn] at this
                    exact this
                  have HXN := Lib.hid hxn
                  have HYN := Lib.hid hyn
                  clear hxn hyn
                  have eX : Hid (X.toList = subjL xn yn t) := by rw [Hid, ← hX, Lib.toList_data, toB_data]
                  have eY : Hid (Y.toList = idL xn yn) := by rw [Hid, ← hY, Lib.toList_data, toB_data]
                  clear hX hY
                  have hD7 : Chg Never W7 W7.drew := (Chg.refl Never W7).drew
                  refine wp_region_held_drew (S := (fun w' => Chg Never W7 w' ∧ (w'.cell? ⟨A, 0, none⟩ = some (.string m.sender) ∧ w'.cell? ⟨A, 1, none⟩ = some (.string m.subject) ∧ w'.cell? ⟨A, 2, none⟩ = some (.string m.ident) ∧ w'.cell? ⟨A, 3, none⟩ = some (.slice ba m.body.length bc)) ∧ w'.cell? ⟨Q, 0, none⟩ = some (.string (toB t)) ∧ w'.cell? ⟨Q, 1, none⟩ = some (.int .i64 x) ∧ w'.cell? ⟨Q, 2, none⟩ = some (.int .i64 y) ∧ w'.cell? ⟨Q, 3, none⟩ = some (.slice none 0 0))) (by kernel_rfl) ⟨hD7, ⟨x0, x1, x2, x3⟩, q0, q1, q2, q3⟩ (fun hH => ?_)
                  refine' wpAnyH_take (i := 0) ?hi0 (by kernel_rfl) (by kernel_rfl) (by kernel_rfl) ?hQ0 (Or.inl ⟨?hw0, ?hy0⟩) (by assumption) ?_
                  case hi0 => (simp only [List.getElem?_toArray, List.getElem?_cons_zero]; rfl)
                  case hQ0 => exact fun _ _ _ h => h
                  case hw0 => rfl
                  case hy0 => (intro w' hSw; (try dsimp only at hSw); go_simp; all_goals with_reducible rfl)
                  try simp only [Act.put, List.setIfInBounds_toArray, List.set_cons_zero, List.set_cons_succ]
                  refine' wpAnyH_take (i := 1) ?hi1 (by kernel_rfl) (by kernel_rfl) (by kernel_rfl) ?hQ1 (Or.inl ⟨?hw1, ?hy1⟩) (by assumption) ?_
                  case hi1 => (simp only [List.getElem?_toArray, List.getElem?_cons_succ, List.getElem?_cons_zero]; rfl)
                  case hQ1 => exact fun _ _ _ h => h
                  case hw1 => rfl
                  case hy1 => (intro w' hSw; (try dsimp only at hSw); go_simp; all_goals with_reducible rfl)
                  try simp only [Act.put, List.setIfInBounds_toArray, List.set_cons_zero, List.set_cons_succ]
                  refine' wpAnyH_take (i := 2) ?hi2 (by kernel_rfl) (by kernel_rfl) (by kernel_rfl) ?hQ2 (Or.inl ⟨?hw2, ?hy2⟩) (by assumption) ?_
                  case hi2 => (simp only [List.getElem?_toArray, List.getElem?_cons_succ, List.getElem?_cons_zero]; rfl)
                  case hQ2 => exact fun _ _ _ h => h
                  case hw2 => rfl
                  case hy2 => (intro w' hSw; (try dsimp only at hSw); go_simp; all_goals with_reducible rfl)
                  try simp only [Act.put, List.setIfInBounds_toArray, List.set_cons_zero, List.set_cons_succ]
                  refine' wpAnyH_take (i := 3) ?hi3 (by kernel_rfl) (by kernel_rfl) (by kernel_rfl) ?hQ3 (Or.inl ⟨?hw3, ?hy3⟩) (by assumption) ?_
                  case hi3 => (simp only [List.getElem?_toArray, List.getElem?_cons_succ, List.getElem?_cons_zero]; rfl)
                  case hQ3 => exact fun _ _ _ h => h
                  case hw3 => rfl
                  case hy3 => (intro w' hSw; (try dsimp only at hSw); go_simp; all_goals with_reducible rfl)
                  try simp only [Act.put, List.setIfInBounds_toArray, List.set_cons_zero, List.set_cons_succ]
                  refine' wpAnyH_take (i := 4) ?hi4 (by kernel_rfl) (by kernel_rfl) (by kernel_rfl) ?hQ4 (Or.inl ⟨?hw4, ?hy4⟩) (by assumption) ?_
                  case hi4 => (simp only [List.getElem?_toArray, List.getElem?_cons_succ, List.getElem?_cons_zero]; rfl)
                  case hQ4 => exact fun _ _ _ h => h
                  case hw4 => rfl
                  case hy4 => (intro w' hSw; (try dsimp only at hSw); go_simp; all_goals with_reducible rfl)
                  try simp only [Act.put, List.setIfInBounds_toArray, List.set_cons_zero, List.set_cons_succ]
                  refine' wpAnyH_take (i := 5) ?hi5 (by kernel_rfl) (by kernel_rfl) (by kernel_rfl) ?hQ5 (Or.inl ⟨?hw5, ?hy5⟩) (by assumption) ?_
                  case hi5 => (simp only [List.getElem?_toArray, List.getElem?_cons_succ, List.getElem?_cons_zero]; rfl)
                  case hQ5 => exact fun _ _ _ h => h
                  case hw5 => rfl
                  case hy5 => (intro w' hSw; (try dsimp only at hSw); go_simp; all_goals with_reducible rfl)
                  try simp only [Act.put, List.setIfInBounds_toArray, List.set_cons_zero, List.set_cons_succ]
                  refine' wpAnyH_take (i := 6) ?hi6 (by kernel_rfl) (by kernel_rfl) (by kernel_rfl) ?hQ6 (Or.inl ⟨?hw6, ?hy6⟩) (by assumption) ?_
                  case hi6 => (simp only [List.getElem?_toArray, List.getElem?_cons_succ, List.getElem?_cons_zero]; rfl)
                  case hQ6 => exact fun _ _ _ h => h
                  case hw6 => rfl
                  case hy6 => (intro w' hSw; (try dsimp only at hSw); go_simp; all_goals with_reducible rfl)
                  try simp only [Act.put, List.setIfInBounds_toArray, List.set_cons_zero, List.set_cons_succ]
                  refine' wpAnyH_take (i := 7) ?hi7 (by kernel_rfl) (by kernel_rfl) (by kernel_rfl) ?hQ7 (Or.inl ⟨?hw7, ?hy7⟩) (by assumption) ?_
                  case hi7 => (simp only [List.getElem?_toArray, List.getElem?_cons_succ, List.getElem?_cons_zero]; rfl)
                  case hQ7 => exact fun _ _ _ h => h
                  case hw7 => rfl
                  case hy7 => (intro w' hSw; (try dsimp only at hSw); go_simp; all_goals with_reducible rfl)
                  try simp only [Act.put, List.setIfInBounds_toArray, List.set_cons_zero, List.set_cons_succ]
                  refine' wpAnyH_take (i := 8) ?hi8 (by kernel_rfl) (by kernel_rfl) (by kernel_rfl) ?hQ8 (Or.inl ⟨?hw8, ?hy8⟩) (by assumption) ?_
                  case hi8 => (simp only [List.getElem?_toArray, List.getElem?_cons_succ, List.getElem?_cons_zero]; rfl)
                  case hQ8 => exact fun _ _ _ h => h
                  case hw8 => rfl
                  case hy8 => (intro w' hSw; (try dsimp only at hSw); go_simp; all_goals with_reducible rfl)
                  try simp only [Act.put, List.setIfInBounds_toArray, List.set_cons_zero, List.set_cons_succ]
                  refine' wpAnyH_take (i := 9) ?hi9 (by kernel_rfl) (by kernel_rfl) (by kernel_rfl) ?hQ9 (Or.inl ⟨?hw9, ?hy9⟩) (by assumption) ?_
                  case hi9 => (simp only [List.getElem?_toArray, List.getElem?_cons_succ, List.getElem?_cons_zero]; rfl)
                  case hQ9 => exact fun _ _ _ h => h
                  case hw9 => rfl
                  case hy9 => (intro w' hSw; (try dsimp only at hSw); go_simp; all_goals with_reducible rfl)
                  try simp only [Act.put, List.setIfInBounds_toArray, List.set_cons_zero, List.set_cons_succ]
                  refine' wpAnyH_take (i := 10) ?hi10 (by kernel_rfl) (by kernel_rfl) (by kernel_rfl) ?hQ10 (Or.inl ⟨?hw10, ?hy10⟩) (by assumption) ?_
                  case hi10 => (simp only [List.getElem?_toArray, List.getElem?_cons_succ, List.getElem?_cons_zero]; rfl)
                  case hQ10 => exact fun _ _ _ h => h
                  case hw10 => rfl
                  case hy10 => (intro w' hSw; (try dsimp only at hSw); go_simp; all_goals with_reducible rfl)
                  try simp only [Act.put, List.setIfInBounds_toArray, List.set_cons_zero, List.set_cons_succ]
                  refine' wpAnyH_take (i := 11) ?hi11 (by kernel_rfl) (by kernel_rfl) (by kernel_rfl) ?hQ11 (Or.inl ⟨?hw11, ?hy11⟩) (by assumption) ?_
                  case hi11 => (simp only [List.getElem?_toArray, List.getElem?_cons_succ, List.getElem?_cons_zero]; rfl)
                  case hQ11 => exact fun _ _ _ h => h
                  case hw11 => rfl
                  case hy11 => (intro w' hSw; (try dsimp only at hSw); go_simp; all_goals with_reducible rfl)
                  try simp only [Act.put, List.setIfInBounds_toArray, List.set_cons_zero, List.set_cons_succ]
                  refine' wpAnyH_take (i := 12) ?hi12 (by kernel_rfl) (by kernel_rfl) (by kernel_rfl) ?hQ12 (Or.inl ⟨?hw12, ?hy12⟩) (by assumption) ?_
                  case hi12 => (simp only [List.getElem?_toArray, List.getElem?_cons_succ, List.getElem?_cons_zero]; rfl)
                  case hQ12 => exact fun _ _ _ h => h
                  case hw12 => rfl
                  case hy12 => (intro w' hSw; (try dsimp only at hSw); go_simp; all_goals with_reducible rfl)
                  try simp only [Act.put, List.setIfInBounds_toArray, List.set_cons_zero, List.set_cons_succ]
                  refine' wpAnyH_take (i := 13) ?hi13 (by kernel_rfl) (by kernel_rfl) (by kernel_rfl) ?hQ13 (Or.inl ⟨?hw13, ?hy13⟩) (by assumption) ?_
                  case hi13 => (simp only [List.getElem?_toArray, List.getElem?_cons_succ, List.getElem?_cons_zero]; rfl)
                  case hQ13 => exact fun _ _ _ h => h
                  case hw13 => rfl
                  case hy13 => (intro w' hSw; (try dsimp only at hSw); go_simp; all_goals with_reducible rfl)
                  try simp only [Act.put, List.setIfInBounds_toArray, List.set_cons_zero, List.set_cons_succ]
                  refine' wpAnyH_take (i := 14) ?hi14 (by kernel_rfl) (by kernel_rfl) (by kernel_rfl) ?hQ14 (Or.inl ⟨?hw14, ?hy14⟩) (by assumption) ?_
                  case hi14 => (simp only [List.getElem?_toArray, List.getElem?_cons_succ, List.getElem?_cons_zero]; rfl)
                  case hQ14 => exact fun _ _ _ h => h
                  case hw14 => rfl
                  case hy14 => (intro w' hSw; (try dsimp only at hSw); go_simp; all_goals with_reducible rfl)
                  try simp only [Act.put, List.setIfInBounds_toArray, List.set_cons_zero, List.set_cons_succ]
                  refine' wpAnyH_take (i := 15) ?hi15 (by kernel_rfl) (by kernel_rfl) (by kernel_rfl) ?hQ15 (Or.inl ⟨?hw15, ?hy15⟩) (by assumption) ?_
                  case hi15 => (simp only [List.getElem?_toArray, List.getElem?_cons_succ, List.getElem?_cons_zero]; rfl)
                  case hQ15 => exact fun _ _ _ h => h
                  case hw15 => rfl
                  case hy15 => (intro w' hSw; (try dsimp only at hSw); go_simp; all_goals with_reducible rfl)
                  try simp only [Act.put, List.setIfInBounds_toArray, List.set_cons_zero, List.set_cons_succ]
                  refine' wpAnyH_take (i := 16) ?hi16 (by kernel_rfl) (by kernel_rfl) (by kernel_rfl) ?hQ16 (Or.inl ⟨?hw16, ?hy16⟩) (by assumption) ?_
                  case hi16 => (simp only [List.getElem?_toArray, List.getElem?_cons_succ, List.getElem?_cons_zero]; rfl)
                  case hQ16 => exact fun _ _ _ h => h
                  case hw16 => rfl
                  case hy16 => (intro w' hSw; (try dsimp only at hSw); go_simp; all_goals with_reducible rfl)
                  try simp only [Act.put, List.setIfInBounds_toArray, List.set_cons_zero, List.set_cons_succ]
                  refine' wpAnyH_take (i := 17) ?hi17 (by kernel_rfl) (by kernel_rfl) (by kernel_rfl) ?hQ17 (Or.inl ⟨?hw17, ?hy17⟩) (by assumption) ?_
                  case hi17 => (simp only [List.getElem?_toArray, List.getElem?_cons_succ, List.getElem?_cons_zero]; rfl)
                  case hQ17 => exact fun _ _ _ h => h
                  case hw17 => rfl
                  case hy17 => (intro w' hSw; (try dsimp only at hSw); go_simp; all_goals with_reducible rfl)
                  try simp only [Act.put, List.setIfInBounds_toArray, List.set_cons_zero, List.set_cons_succ]
                  refine' wpAnyH_take (i := 18) ?hi18 (by kernel_rfl) (by kernel_rfl) (by kernel_rfl) ?hQ18 (Or.inl ⟨?hw18, ?hy18⟩) (by assumption) ?_
                  case hi18 => (simp only [List.getElem?_toArray, List.getElem?_cons_succ, List.getElem?_cons_zero]; rfl)
                  case hQ18 => exact fun _ _ _ h => h
                  case hw18 => rfl
                  case hy18 => (intro w' hSw; (try dsimp only at hSw); go_simp; all_goals with_reducible rfl)
                  try simp only [Act.put, List.setIfInBounds_toArray, List.set_cons_zero, List.set_cons_succ]
                  refine' wpAnyH_take (i := 19) ?hi19 (by kernel_rfl) (by kernel_rfl) (by kernel_rfl) ?hQ19 (Or.inl ⟨?hw19, ?hy19⟩) (by assumption) ?_
                  case hi19 => (simp only [List.getElem?_toArray, List.getElem?_cons_succ, List.getElem?_cons_zero]; rfl)
                  case hQ19 => exact fun _ _ _ h => h
                  case hw19 => rfl
                  case hy19 => (intro w' hSw; (try dsimp only at hSw); go_simp; all_goals with_reducible rfl)
                  try simp only [Act.put, List.setIfInBounds_toArray, List.set_cons_zero, List.set_cons_succ]
                  refine' wpAnyH_take (i := 20) ?hi20 (by kernel_rfl) (by kernel_rfl) (by kernel_rfl) ?hQ20 (Or.inl ⟨?hw20, ?hy20⟩) (by assumption) ?_
                  case hi20 => (simp only [List.getElem?_toArray, List.getElem?_cons_succ, List.getElem?_cons_zero]; rfl)
                  case hQ20 => exact fun _ _ _ h => h
                  case hw20 => rfl
                  case hy20 => (intro w' hSw; (try dsimp only at hSw); go_simp; all_goals with_reducible rfl)
                  try simp only [Act.put, List.setIfInBounds_toArray, List.set_cons_zero, List.set_cons_succ]
                  refine wpAnyH_ready (rs := [21]) (by kernel_rfl) (by simp) ?_
                  refine AllReadyH.cons rfl (fun K hK => ?_) AllReadyH.nil
                  go_simp
                  (go_at_call 43; refine (titled_here (toB t) _ htz).mono ?_; rintro e wq ⟨rfl, rfl⟩; rw [toB_data, HTT.out])
                  try go_wp2_with fail
                  refine hK.out _ _ ?_ (fun hH => ?_)
                  · assumption
                  clear hK K
                  try simp only [Act.put, List.setIfInBounds_toArray, List.set_cons_zero, List.set_cons_succ]
                  refine' wpAnyH_take (i := 22) ?hi22 (by kernel_rfl) (by kernel_rfl) (by kernel_rfl) ?hQ22 (Or.inl ⟨?hw22, ?hy22⟩) (by assumption) ?_
                  case hi22 => (simp only [List.getElem?_toArray, List.getElem?_cons_succ, List.getElem?_cons_zero]; rfl)
                  case hQ22 => exact fun _ _ _ h => h
                  case hw22 => rfl
                  case hy22 => (intro w' hSw; (try dsimp only at hSw); go_simp; all_goals with_reducible rfl)
                  try simp only [Act.put, List.setIfInBounds_toArray, List.set_cons_zero, List.set_cons_succ]
                  refine' wpAnyH_take (i := 23) ?hi23 (by kernel_rfl) (by kernel_rfl) (by kernel_rfl) ?hQ23 (Or.inl ⟨?hw23, ?hy23⟩) (by assumption) ?_
                  case hi23 => (simp only [List.getElem?_toArray, List.getElem?_cons_succ, List.getElem?_cons_zero]; rfl)
                  case hQ23 => exact fun _ _ _ h => h
                  case hw23 => rfl
                  case hy23 => (intro w' hSw; (try dsimp only at hSw); go_simp; all_goals with_reducible rfl)
                  try simp only [Act.put, List.setIfInBounds_toArray, List.set_cons_zero, List.set_cons_succ]
                  refine' wpAnyH_take (i := 24) ?hi24 (by kernel_rfl) (by kernel_rfl) (by kernel_rfl) ?hQ24 (Or.inl ⟨?hw24, ?hy24⟩) (by assumption) ?_
                  case hi24 => (simp only [List.getElem?_toArray, List.getElem?_cons_succ, List.getElem?_cons_zero]; rfl)
                  case hQ24 => exact fun _ _ _ h => h
                  case hw24 => rfl
                  case hy24 => (intro w' hSw; (try dsimp only at hSw); go_simp; all_goals with_reducible rfl)
                  try simp only [Act.put, List.setIfInBounds_toArray, List.set_cons_zero, List.set_cons_succ]
                  refine' wpAnyH_take (i := 25) ?hi25 (by kernel_rfl) (by kernel_rfl) (by kernel_rfl) ?hQ25 (Or.inl ⟨?hw25, ?hy25⟩) (by assumption) ?_
                  case hi25 => (simp only [List.getElem?_toArray, List.getElem?_cons_succ, List.getElem?_cons_zero]; rfl)
                  case hQ25 => exact fun _ _ _ h => h
                  case hw25 => rfl
                  case hy25 => (intro w' hSw; (try dsimp only at hSw); go_simp; all_goals with_reducible rfl)
                  try simp only [Act.put, List.setIfInBounds_toArray, List.set_cons_zero, List.set_cons_succ]
                  refine' wpAnyH_take (i := 26) ?hi26 (by kernel_rfl) (by kernel_rfl) (by kernel_rfl) ?hQ26 (Or.inl ⟨?hw26, ?hy26⟩) (by assumption) ?_
                  case hi26 => (simp only [List.getElem?_toArray, List.getElem?_cons_succ, List.getElem?_cons_zero]; rfl)
                  case hQ26 => exact fun _ _ _ h => h
                  case hw26 => rfl
                  case hy26 => (intro w' hSw; (try dsimp only at hSw); go_simp; all_goals with_reducible rfl)
                  try simp only [Act.put, List.setIfInBounds_toArray, List.set_cons_zero, List.set_cons_succ]
                  refine' wpAnyH_take (i := 27) ?hi27 (by kernel_rfl) (by kernel_rfl) (by kernel_rfl) ?hQ27 (Or.inl ⟨?hw27, ?hy27⟩) (by assumption) ?_
                  case hi27 => (simp only [List.getElem?_toArray, List.getElem?_cons_succ, List.getElem?_cons_zero]; rfl)
                  case hQ27 => exact fun _ _ _ h => h
                  case hw27 => rfl
                  case hy27 => (intro w' hSw; (try dsimp only at hSw); go_simp; all_goals with_reducible rfl)
                  try simp only [Act.put, List.setIfInBounds_toArray, List.set_cons_zero, List.set_cons_succ]
                  refine' wpAnyH_take (i := 28) ?hi28 (by kernel_rfl) (by kernel_rfl) (by kernel_rfl) ?hQ28 (Or.inl ⟨?hw28, ?hy28⟩) (by assumption) ?_
                  case hi28 => (simp only [List.getElem?_toArray, List.getElem?_cons_succ, List.getElem?_cons_zero]; rfl)
                  case hQ28 => exact fun _ _ _ h => h
                  case hw28 => rfl
                  case hy28 => (intro w' hSw; (try dsimp only at hSw); go_simp; all_goals with_reducible rfl)
                  try simp only [Act.put, List.setIfInBounds_toArray, List.set_cons_zero, List.set_cons_succ]
                  refine' wpAnyH_take (i := 29) ?hi29 (by kernel_rfl) (by kernel_rfl) (by kernel_rfl) ?hQ29 (Or.inl ⟨?hw29, ?hy29⟩) (by assumption) ?_
                  case hi29 => (simp only [List.getElem?_toArray, List.getElem?_cons_succ, List.getElem?_cons_zero]; rfl)
                  case hQ29 => exact fun _ _ _ h => h
                  case hw29 => rfl
                  case hy29 => (intro w' hSw; (try dsimp only at hSw); go_simp; all_goals with_reducible rfl)
                  try simp only [Act.put, List.setIfInBounds_toArray, List.set_cons_zero, List.set_cons_succ]
                  refine' wpAnyH_take (i := 30) ?hi30 (by kernel_rfl) (by kernel_rfl) (by kernel_rfl) ?hQ30 (Or.inl ⟨?hw30, ?hy30⟩) (by assumption) ?_
                  case hi30 => (simp only [List.getElem?_toArray, List.getElem?_cons_succ, List.getElem?_cons_zero]; rfl)
                  case hQ30 => exact fun _ _ _ h => h
                  case hw30 => rfl
                  case hy30 => (intro w' hSw; (try dsimp only at hSw); go_simp; all_goals with_reducible rfl)
                  try simp only [Act.put, List.setIfInBounds_toArray, List.set_cons_zero, List.set_cons_succ]
                  refine' wpAnyH_take (i := 31) ?hi31 (by kernel_rfl) (by kernel_rfl) (by kernel_rfl) ?hQ31 (Or.inl ⟨?hw31, ?hy31⟩) (by assumption) ?_
                  case hi31 => (simp only [List.getElem?_toArray, List.getElem?_cons_succ, List.getElem?_cons_zero]; rfl)
                  case hQ31 => exact fun _ _ _ h => h
                  case hw31 => rfl
                  case hy31 => (intro w' hSw; (try dsimp only at hSw); go_simp; all_goals with_reducible rfl)
                  try simp only [Act.put, List.setIfInBounds_toArray, List.set_cons_zero, List.set_cons_succ]
                  refine' wpAnyH_take (i := 32) ?hi32 (by kernel_rfl) (by kernel_rfl) (by kernel_rfl) ?hQ32 (Or.inl ⟨?hw32, ?hy32⟩) (by assumption) ?_
                  case hi32 => (simp only [List.getElem?_toArray, List.getElem?_cons_succ, List.getElem?_cons_zero]; rfl)
                  case hQ32 => exact fun _ _ _ h => h
                  case hw32 => rfl
                  case hy32 => (intro w' hSw; (try dsimp only at hSw); go_simp; all_goals with_reducible rfl)
                  try simp only [Act.put, List.setIfInBounds_toArray, List.set_cons_zero, List.set_cons_succ]
                  refine wpAnyH_ready (rs := [33]) (by kernel_rfl) (by simp) ?_
                  refine AllReadyH.cons rfl (fun K hK => ?_) AllReadyH.nil
                  go_simp
                  (go_at_call 44; refine (FS.out _).mono ?_; rintro e wq ⟨rfl, hcq⟩; have hS2 := skeep8 (by assumption) hcq)
                  try go_wp2_with fail
                  refine hK.out _ _ ?_ (fun hH => ?_)
                  · assumption
                  clear hK K
                  try simp only [Act.put, List.setIfInBounds_toArray, List.set_cons_zero, List.set_cons_succ]
                  by_cases hsu : m.subject.data.toList = subjL xn yn t
                  · have u6 : (m.subject.toList == X.toList) = true := by rw [Lib.toList_data m.subject, hsu, eX.out]; simp
                    have u7 : (m.subject.toList != X.toList) = false := by rw [bne, u6]; rfl
                    refine' wpAnyH_take (i := 34) ?hi34 (by kernel_rfl) (by kernel_rfl) (by kernel_rfl) ?hQ34 (Or.inl ⟨?hw34, ?hy34⟩) (by assumption) ?_
                    case hi34 => (simp only [List.getElem?_toArray, List.getElem?_cons_succ, List.getElem?_cons_zero]; rfl)
                    case hQ34 => exact fun _ _ _ h => h
                    case hw34 => rfl
                    case hy34 => (intro w' hSw; (try dsimp only at hSw); go_simp; all_goals with_reducible rfl)
                    try simp only [Act.put, List.setIfInBounds_toArray, List.set_cons_zero, List.set_cons_succ]
                    refine' wpAnyH_take (i := 35) ?hi35 (by kernel_rfl) (by kernel_rfl) (by kernel_rfl) ?hQ35 (Or.inl ⟨?hw35, ?hy35⟩) (by assumption) ?_
                    case hi35 => (simp only [List.getElem?_toArray, List.getElem?_cons_succ, List.getElem?_cons_zero]; rfl)
                    case hQ35 => exact fun _ _ _ h => h
                    case hw35 => rfl
                    case hy35 => (intro w' hSw; (try dsimp only at hSw); go_simp; all_goals with_reducible rfl)
                    try simp only [Act.put, List.setIfInBounds_toArray, List.set_cons_zero, List.set_cons_succ]
                    refine' wpAnyH_take (i := 36) ?hi36 (by kernel_rfl) (by kernel_rfl) (by kernel_rfl) ?hQ36 (Or.inl ⟨?hw36, ?hy36⟩) (by assumption) ?_
                    case hi36 => (simp only [List.getElem?_toArray, List.getElem?_cons_succ, List.getElem?_cons_zero]; rfl)
                    case hQ36 => exact fun _ _ _ h => h
                    case hw36 => rfl
                    case hy36 => (intro w' hSw; (try dsimp only at hSw); go_simp; all_goals with_reducible rfl)
                    try simp only [Act.put, List.setIfInBounds_toArray, List.set_cons_zero, List.set_cons_succ]
                    refine' wpAnyH_take (i := 37) ?hi37 (by kernel_rfl) (by kernel_rfl) (by kernel_rfl) ?hQ37 (Or.inl ⟨?hw37, ?hy37⟩) (by assumption) ?_
                    case hi37 => (simp only [List.getElem?_toArray, List.getElem?_cons_succ, List.getElem?_cons_zero]; rfl)
                    case hQ37 => exact fun _ _ _ h => h
                    case hw37 => rfl
                    case hy37 => (intro w' hSw; (try dsimp only at hSw); go_simp; all_goals with_reducible rfl)
                    try simp only [Act.put, List.setIfInBounds_toArray, List.set_cons_zero, List.set_cons_succ]
                    refine' wpAnyH_take (i := 38) ?hi38 (by kernel_rfl) (by kernel_rfl) (by kernel_rfl) ?hQ38 (Or.inl ⟨?hw38, ?hy38⟩) (by assumption) ?_
                    case hi38 => (simp only [List.getElem?_toArray, List.getElem?_cons_succ, List.getElem?_cons_zero]; rfl)
                    case hQ38 => exact fun _ _ _ h => h
                    case hw38 => rfl
                    case hy38 => (intro w' hSw; (try dsimp only at hSw); go_simp; all_goals with_reducible rfl)
                    try simp only [Act.put, List.setIfInBounds_toArray, List.set_cons_zero, List.set_cons_succ]
                    refine' wpAnyH_take (i := 39) ?hi39 (by kernel_rfl) (by kernel_rfl) (by kernel_rfl) ?hQ39 (Or.inl ⟨?hw39, ?hy39⟩) (by assumption) ?_
                    case hi39 => (simp only [List.getElem?_toArray, List.getElem?_cons_succ, List.getElem?_cons_zero]; rfl)
                    case hQ39 => exact fun _ _ _ h => h
                    case hw39 => rfl
                    case hy39 => (intro w' hSw; (try dsimp only at hSw); go_simp; all_goals with_reducible rfl)
                    try simp only [Act.put, List.setIfInBounds_toArray, List.set_cons_zero, List.set_cons_succ]
                    refine wpAnyH_ready (rs := [40]) (by kernel_rfl) (by simp) ?_
                    refine AllReadyH.cons rfl (fun K hK => ?_) AllReadyH.nil
                    go_simp
                    (go_at_call 45; refine (FI.out _).mono ?_; rintro e wq ⟨rfl, hcq⟩; have hS2 := skeep8 (by assumption) hcq)
                    try go_wp2_with fail
                    refine hK.out _ _ ?_ (fun hH => ?_)
                    · assumption
                    clear hK K
                    try simp only [Act.put, List.setIfInBounds_toArray, List.set_cons_zero, List.set_cons_succ]
                    by_cases hid : m.ident.data.toList = idL xn yn
                    · have u8 : (m.ident.toList == Y.toList) = true := by rw [Lib.toList_data m.ident, hid, eY.out]; simp
                      have u9 : (m.ident.toList != Y.toList) = false := by rw [bne, u8]; rfl
                      clear eX eY
                      by_cases h0 : xn = 0
                      · have v0 : decide (x = 0) = true := decide_eq_true (by have := HXN.out; omega)
                        have v0b : (x == 0) = true := v0
                        have v0c : (x != 0) = false := by rw [bne, v0b]; rfl
                        by_cases hbd : m.body = []
                        · have v1 : decide ((0 : Int) < (m.body.length : Int)) = false := decide_eq_false (by rw [hbd]; simp)
                          have v2 : decide (0 < m.body.length) = false := decide_eq_false (by rw [hbd]; simp)
                          have HP := Lib.hid (read_of (m := m) (x := x) (y := y) ⟨by rw [HA.out]; exact ho1, by rw [HB.out]; exact ho2, by omega, by omega, by omega, by rw [HT.out]; exact htt, hfr, by rw [HT.out, exy.1, exy.2]; exact hsu, by rw [exy.1, exy.2]; exact hid, fun q => q.2 hbd⟩)
                          clear hbd
                          refine' wpAnyH_take (i := 41) ?hi41 (by kernel_rfl) (by kernel_rfl) (by kernel_rfl) ?hQ41 (Or.inl ⟨?hw41, ?hy41⟩) (by assumption) ?_
                          case hi41 => (simp only [List.getElem?_toArray, List.getElem?_cons_succ, List.getElem?_cons_zero]; rfl)
                          case hQ41 => exact fun _ _ _ h => h
                          case hw41 => rfl
                          case hy41 => (intro w' hSw; (try dsimp only at hSw); go_simp; all_goals with_reducible rfl)
                          try simp only [Act.put, List.setIfInBounds_toArray, List.set_cons_zero, List.set_cons_succ]
                          refine' wpAnyH_take (i := 42) ?hi42 (by kernel_rfl) (by kernel_rfl) (by kernel_rfl) ?hQ42 (Or.inl ⟨?hw42, ?hy42⟩) (by assumption) ?_
                          case hi42 => (simp only [List.getElem?_toArray, List.getElem?_cons_succ, List.getElem?_cons_zero]; rfl)
                          case hQ42 => exact fun _ _ _ h => h
                          case hw42 => rfl
                          case hy42 => (intro w' hSw; (try dsimp only at hSw); go_simp; all_goals with_reducible rfl)
                          try simp only [Act.put, List.setIfInBounds_toArray, List.set_cons_zero, List.set_cons_succ]
                          refine' wpAnyH_take (i := 43) ?hi43 (by kernel_rfl) (by kernel_rfl) (by kernel_rfl) ?hQ43 (Or.inl ⟨?hw43, ?hy43⟩) (by assumption) ?_
                          case hi43 => (simp only [List.getElem?_toArray, List.getElem?_cons_succ, List.getElem?_cons_zero]; rfl)
                          case hQ43 => exact fun _ _ _ h => h
                          case hw43 => rfl
                          case hy43 => (intro w' hSw; (try dsimp only at hSw); go_simp; all_goals with_reducible rfl)
                          try simp only [Act.put, List.setIfInBounds_toArray, List.set_cons_zero, List.set_cons_succ]
                          refine' wpAnyH_take (i := 44) ?hi44 (by kernel_rfl) (by kernel_rfl) (by kernel_rfl) ?hQ44 (Or.inl ⟨?hw44, ?hy44⟩) (by assumption) ?_
                          case hi44 => (simp only [List.getElem?_toArray, List.getElem?_cons_succ, List.getElem?_cons_zero]; rfl)
                          case hQ44 => exact fun _ _ _ h => h
                          case hw44 => rfl
                          case hy44 => (intro w' hSw; (try dsimp only at hSw); go_simp; all_goals with_reducible rfl)
                          try simp only [Act.put, List.setIfInBounds_toArray, List.set_cons_zero, List.set_cons_succ]
                          refine' wpAnyH_take (i := 45) ?hi45 (by kernel_rfl) (by kernel_rfl) (by kernel_rfl) ?hQ45 (Or.inl ⟨?hw45, ?hy45⟩) (by assumption) ?_
                          case hi45 => (simp only [List.getElem?_toArray, List.getElem?_cons_succ, List.getElem?_cons_zero]; rfl)
                          case hQ45 => exact fun _ _ _ h => h
                          case hw45 => rfl
                          case hy45 => (intro w' hSw; (try dsimp only at hSw); go_simp; all_goals with_reducible rfl)
                          try simp only [Act.put, List.setIfInBounds_toArray, List.set_cons_zero, List.set_cons_succ]
                          refine' wpAnyH_take (i := 46) ?hi46 (by kernel_rfl) (by kernel_rfl) (by kernel_rfl) ?hQ46 (Or.inl ⟨?hw46, ?hy46⟩) (by assumption) ?_
                          case hi46 => (simp only [List.getElem?_toArray, List.getElem?_cons_succ, List.getElem?_cons_zero]; rfl)
                          case hQ46 => exact fun _ _ _ h => h
                          case hw46 => rfl
                          case hy46 => (intro w' hSw; (try dsimp only at hSw); go_simp; all_goals with_reducible rfl)
                          try simp only [Act.put, List.setIfInBounds_toArray, List.set_cons_zero, List.set_cons_succ]
                          refine' wpAnyH_take (i := 47) ?hi47 (by kernel_rfl) (by kernel_rfl) (by kernel_rfl) ?hQ47 (Or.inl ⟨?hw47, ?hy47⟩) (by assumption) ?_
                          case hi47 => (simp only [List.getElem?_toArray, List.getElem?_cons_succ, List.getElem?_cons_zero]; rfl)
                          case hQ47 => exact fun _ _ _ h => h
                          case hw47 => rfl
                          case hy47 => (intro w' hSw; (try dsimp only at hSw); go_simp; all_goals with_reducible rfl)
                          try simp only [Act.put, List.setIfInBounds_toArray, List.set_cons_zero, List.set_cons_succ]
                          refine' wpAnyH_take (i := 48) ?hi48 (by kernel_rfl) (by kernel_rfl) (by kernel_rfl) ?hQ48 (Or.inl ⟨?hw48, ?hy48⟩) (by assumption) ?_
                          case hi48 => (simp only [List.getElem?_toArray, List.getElem?_cons_succ, List.getElem?_cons_zero]; rfl)
                          case hQ48 => exact fun _ _ _ h => h
                          case hw48 => rfl
                          case hy48 => (intro w' hSw; (try dsimp only at hSw); go_simp; all_goals with_reducible rfl)
                          try simp only [Act.put, List.setIfInBounds_toArray, List.set_cons_zero, List.set_cons_succ]
                          refine' wpAnyH_take (i := 49) ?hi49 (by kernel_rfl) (by kernel_rfl) (by kernel_rfl) ?hQ49 (Or.inl ⟨?hw49, ?hy49⟩) (by assumption) ?_
                          case hi49 => (simp only [List.getElem?_toArray, List.getElem?_cons_succ, List.getElem?_cons_zero]; rfl)
                          case hQ49 => exact fun _ _ _ h => h
                          case hw49 => rfl
                          case hy49 => (intro w' hSw; (try dsimp only at hSw); go_simp; all_goals with_reducible rfl)
                          try simp only [Act.put, List.setIfInBounds_toArray, List.set_cons_zero, List.set_cons_succ]
                          refine' wpAnyH_take (i := 50) ?hi50 (by kernel_rfl) (by kernel_rfl) (by kernel_rfl) ?hQ50 (Or.inl ⟨?hw50, ?hy50⟩) (by assumption) ?_
                          case hi50 => (simp only [List.getElem?_toArray, List.getElem?_cons_succ, List.getElem?_cons_zero]; rfl)
                          case hQ50 => exact fun _ _ _ h => h
                          case hw50 => rfl
                          case hy50 => (intro w' hSw; (try dsimp only at hSw); go_simp; all_goals with_reducible rfl)
                          try simp only [Act.put, List.setIfInBounds_toArray, List.set_cons_zero, List.set_cons_succ]
                          refine' wpAnyH_take (i := 51) ?hi51 (by kernel_rfl) (by kernel_rfl) (by kernel_rfl) ?hQ51 (Or.inl ⟨?hw51, ?hy51⟩) (by assumption) ?_
                          case hi51 => (simp only [List.getElem?_toArray, List.getElem?_cons_succ, List.getElem?_cons_zero]; rfl)
                          case hQ51 => exact fun _ _ _ h => h
                          case hw51 => rfl
                          case hy51 => (intro w' hSw; (try dsimp only at hSw); go_simp; all_goals with_reducible rfl)
                          try simp only [Act.put, List.setIfInBounds_toArray, List.set_cons_zero, List.set_cons_succ]
                          refine' wpAnyH_take (i := 52) ?hi52 (by kernel_rfl) (by kernel_rfl) (by kernel_rfl) ?hQ52 (Or.inl ⟨?hw52, ?hy52⟩) (by assumption) ?_
                          case hi52 => (simp only [List.getElem?_toArray, List.getElem?_cons_succ, List.getElem?_cons_zero]; rfl)
                          case hQ52 => exact fun _ _ _ h => h
                          case hw52 => rfl
                          case hy52 => (intro w' hSw; (try dsimp only at hSw); go_simp; all_goals with_reducible rfl)
                          try simp only [Act.put, List.setIfInBounds_toArray, List.set_cons_zero, List.set_cons_succ]
                          refine wpAnyH_done (by kernel_rfl) ?_ _
                          have hF := And.left (by assumption : Chg Never W7 wq ∧ _)
                          have hR9 := hR7.keep hF (fun h => h)
                          have hA9 := hA7.keep hF (fun h => h)
                          have hP9 := hP7.keep hF (fun h => h)
                          have hcd := hcc.trans hF
                          have hQR : R < Q := hRP
                          have HPS := Lib.hid (pieceF_some HF.out HP.out)
                          clear x0 x1 x2 x3 q0 q1 q2 q3 hR7 hA7 hP7 hcc hF
                          obtain ⟨x0, x1, x2, x3⟩ := hA9.cell
                          have hcv := conv_str (h.never hcd)
                          go_wp2_with fail
                          refine (gitparse_old (toB m.body) _ (by rw [toB_size']; omega) mx (hg.never hcd)).mono ?_
                          rintro e w9 ⟨r9, rfl, hc9, hr9⟩
                          rw [toB_data] at hr9 ⊢
                          have hR9 := hR9.keep hc9 (fun h => h)
                          have hPw := hP9.lt
                          have hP9 := hP9.keep hc9 (fun h => h)
                          have hcd := hcd.trans hc9
                          have hwq : w.heap.size ≤ wq.heap.size := by omega
                          clear x0 x1 x2 x3 hA9 hc9 hcv
                          obtain ⟨ra, rc, rfl, _, _, _⟩ := rdv_slice hr9
                          obtain ⟨q0, q1, q2, q3⟩ := hP9.cell
                          have g3 := hP9.free 3
                          obtain ⟨e0, e1, e2, e3⟩ := (hP9.set3 (.slice ra (parseG m.body).1.length rc)).cell
                          have hR10 := hR9.keep (O := fun k => k = Q) ((Chg.refl (fun k => k = Q) w9).setCell (p := ⟨Q, 3, none⟩) (.inr rfl) (.slice ra (parseG m.body).1.length rc)) (by omega)
                          have hcd10 := hcd.setCell (p := ⟨Q, 3, none⟩) (.inl (by show w.heap.size ≤ Q; omega)) (.slice ra (parseG m.body).1.length rc)
                          obtain ⟨k0, k1, k2, k3⟩ := hR10.cell
                          have f0 := hR10.free 0
                          have f1 := hR10.free 1
                          have f2 := hR10.free 2
                          have f3 := hR10.free 3
                          have hR11 := hR10.setAll (.string (toB t)) (.int .i64 x) (.int .i64 y) (.slice ra (parseG m.body).1.length rc)
                          obtain ⟨j0, j1, j2, j3⟩ := hR11.cell
                          go_wp2_with fail
                          try simp only [Exit.inBlock, Exit.then]
                          refine bodyPost_ret (results_partF rfl rfl (load_part (hR11))) rfl ?_
                          have hch : Chg (fun k => k = Q ∨ k = R) w9 _ := chg_four ((Chg.refl (fun k => k = Q ∨ k = R) w9).setCell (p := ⟨Q, 3, none⟩) (.inr (.inl rfl)) (.slice ra (parseG m.body).1.length rc)) (.inr (.inr rfl)) (.string (toB t)) (.int .i64 x) (.int .i64 y) (.slice ra (parseG m.body).1.length rc)
                          refine ⟨toB t, x, y, _, _, by rw [HPS.out.1]; rfl, chg_four hcd10 (.inl hRle) _ _ _ _, hr9.keep hch (fun k _ hk => by unfold Old; rcases hk with hk | hk <;> omega) (fun k _ hk => Nat.lt_of_lt_of_le hk hwq), fun _ => ?_⟩
                          rw [HPS.out.2, HT.out]
                          exact ⟨rfl, by show x = ((x.toNat : Nat) : Int); omega, by show y = ((y.toNat : Nat) : Int); omega, rfl⟩
                        · have hbl : 0 < m.body.length := List.length_pos_iff.2 hbd
                          have v1 : decide ((0 : Int) < (m.body.length : Int)) = true := decide_eq_true (by omega)
                          have v2 : decide (0 < m.body.length) = true := decide_eq_true hbl
                          clear hbl
                          refine' wpAnyH_take (i := 41) ?hi41 (by kernel_rfl) (by kernel_rfl) (by kernel_rfl) ?hQ41 (Or.inl ⟨?hw41, ?hy41⟩) (by assumption) ?_
                          case hi41 => (simp only [List.getElem?_toArray, List.getElem?_cons_succ, List.getElem?_cons_zero]; rfl)
                          case hQ41 => exact fun _ _ _ h => h
                          case hw41 => rfl
                          case hy41 => (intro w' hSw; (try dsimp only at hSw); go_simp; all_goals with_reducible rfl)
                          try simp only [Act.put, List.setIfInBounds_toArray, List.set_cons_zero, List.set_cons_succ]
                          refine' wpAnyH_take (i := 42) ?hi42 (by kernel_rfl) (by kernel_rfl) (by kernel_rfl) ?hQ42 (Or.inl ⟨?hw42, ?hy42⟩) (by assumption) ?_
                          case hi42 => (simp only [List.getElem?_toArray, List.getElem?_cons_succ, List.getElem?_cons_zero]; rfl)
                          case hQ42 => exact fun _ _ _ h => h
                          case hw42 => rfl
                          case hy42 => (intro w' hSw; (try dsimp only at hSw); go_simp; all_goals with_reducible rfl)
                          try simp only [Act.put, List.setIfInBounds_toArray, List.set_cons_zero, List.set_cons_succ]
                          refine' wpAnyH_take (i := 43) ?hi43 (by kernel_rfl) (by kernel_rfl) (by kernel_rfl) ?hQ43 (Or.inl ⟨?hw43, ?hy43⟩) (by assumption) ?_
                          case hi43 => (simp only [List.getElem?_toArray, List.getElem?_cons_succ, List.getElem?_cons_zero]; rfl)
                          case hQ43 => exact fun _ _ _ h => h
                          case hw43 => rfl
                          case hy43 => (intro w' hSw; (try dsimp only at hSw); go_simp; all_goals with_reducible rfl)
                          try simp only [Act.put, List.setIfInBounds_toArray, List.set_cons_zero, List.set_cons_succ]
                          refine' wpAnyH_take (i := 44) ?hi44 (by kernel_rfl) (by kernel_rfl) (by kernel_rfl) ?hQ44 (Or.inl ⟨?hw44, ?hy44⟩) (by assumption) ?_
                          case hi44 => (simp only [List.getElem?_toArray, List.getElem?_cons_succ, List.getElem?_cons_zero]; rfl)
                          case hQ44 => exact fun _ _ _ h => h
                          case hw44 => rfl
                          case hy44 => (intro w' hSw; (try dsimp only at hSw); go_simp; all_goals with_reducible rfl)
                          try simp only [Act.put, List.setIfInBounds_toArray, List.set_cons_zero, List.set_cons_succ]
                          refine' wpAnyH_take (i := 45) ?hi45 (by kernel_rfl) (by kernel_rfl) (by kernel_rfl) ?hQ45 (Or.inl ⟨?hw45, ?hy45⟩) (by assumption) ?_
                          case hi45 => (simp only [List.getElem?_toArray, List.getElem?_cons_succ, List.getElem?_cons_zero]; rfl)
                          case hQ45 => exact fun _ _ _ h => h
                          case hw45 => rfl
                          case hy45 => (intro w' hSw; (try dsimp only at hSw); go_simp; all_goals with_reducible rfl)
                          try simp only [Act.put, List.setIfInBounds_toArray, List.set_cons_zero, List.set_cons_succ]
                          refine' wpAnyH_take (i := 46) ?hi46 (by kernel_rfl) (by kernel_rfl) (by kernel_rfl) ?hQ46 (Or.inl ⟨?hw46, ?hy46⟩) (by assumption) ?_
                          case hi46 => (simp only [List.getElem?_toArray, List.getElem?_cons_succ, List.getElem?_cons_zero]; rfl)
                          case hQ46 => exact fun _ _ _ h => h
                          case hw46 => rfl
                          case hy46 => (intro w' hSw; (try dsimp only at hSw); go_simp; all_goals with_reducible rfl)
                          try simp only [Act.put, List.setIfInBounds_toArray, List.set_cons_zero, List.set_cons_succ]
                          refine' wpAnyH_take (i := 47) ?hi47 (by kernel_rfl) (by kernel_rfl) (by kernel_rfl) ?hQ47 (Or.inl ⟨?hw47, ?hy47⟩) (by assumption) ?_
                          case hi47 => (simp only [List.getElem?_toArray, List.getElem?_cons_succ, List.getElem?_cons_zero]; rfl)
                          case hQ47 => exact fun _ _ _ h => h
                          case hw47 => rfl
                          case hy47 => (intro w' hSw; (try dsimp only at hSw); go_simp; all_goals with_reducible rfl)
                          try simp only [Act.put, List.setIfInBounds_toArray, List.set_cons_zero, List.set_cons_succ]
                          refine' wpAnyH_take (i := 48) ?hi48 (by kernel_rfl) (by kernel_rfl) (by kernel_rfl) ?hQ48 (Or.inl ⟨?hw48, ?hy48⟩) (by assumption) ?_
                          case hi48 => (simp only [List.getElem?_toArray, List.getElem?_cons_succ, List.getElem?_cons_zero]; rfl)
                          case hQ48 => exact fun _ _ _ h => h
                          case hw48 => rfl
                          case hy48 => (intro w' hSw; (try dsimp only at hSw); go_simp; all_goals with_reducible rfl)
                          try simp only [Act.put, List.setIfInBounds_toArray, List.set_cons_zero, List.set_cons_succ]
                          refine' wpAnyH_take (i := 49) ?hi49 (by kernel_rfl) (by kernel_rfl) (by kernel_rfl) ?hQ49 (Or.inl ⟨?hw49, ?hy49⟩) (by assumption) ?_
                          case hi49 => (simp only [List.getElem?_toArray, List.getElem?_cons_succ, List.getElem?_cons_zero]; rfl)
                          case hQ49 => exact fun _ _ _ h => h
                          case hw49 => rfl
                          case hy49 => (intro w' hSw; (try dsimp only at hSw); go_simp; all_goals with_reducible rfl)
                          try simp only [Act.put, List.setIfInBounds_toArray, List.set_cons_zero, List.set_cons_succ]
                          refine' wpAnyH_take (i := 50) ?hi50 (by kernel_rfl) (by kernel_rfl) (by kernel_rfl) ?hQ50 (Or.inl ⟨?hw50, ?hy50⟩) (by assumption) ?_
                          case hi50 => (simp only [List.getElem?_toArray, List.getElem?_cons_succ, List.getElem?_cons_zero]; rfl)
                          case hQ50 => exact fun _ _ _ h => h
                          case hw50 => rfl
                          case hy50 => (intro w' hSw; (try dsimp only at hSw); go_simp; all_goals with_reducible rfl)
                          try simp only [Act.put, List.setIfInBounds_toArray, List.set_cons_zero, List.set_cons_succ]
                          refine' wpAnyH_take (i := 51) ?hi51 (by kernel_rfl) (by kernel_rfl) (by kernel_rfl) ?hQ51 (Or.inl ⟨?hw51, ?hy51⟩) (by assumption) ?_
                          case hi51 => (simp only [List.getElem?_toArray, List.getElem?_cons_succ, List.getElem?_cons_zero]; rfl)
                          case hQ51 => exact fun _ _ _ h => h
                          case hw51 => rfl
                          case hy51 => (intro w' hSw; (try dsimp only at hSw); go_simp; all_goals with_reducible rfl)
                          try simp only [Act.put, List.setIfInBounds_toArray, List.set_cons_zero, List.set_cons_succ]
                          refine' wpAnyH_take (i := 52) ?hi52 (by kernel_rfl) (by kernel_rfl) (by kernel_rfl) ?hQ52 (Or.inl ⟨?hw52, ?hy52⟩) (by assumption) ?_
                          case hi52 => (simp only [List.getElem?_toArray, List.getElem?_cons_succ, List.getElem?_cons_zero]; rfl)
                          case hQ52 => exact fun _ _ _ h => h
                          case hw52 => rfl
                          case hy52 => (intro w' hSw; (try dsimp only at hSw); go_simp; all_goals with_reducible rfl)
                          try simp only [Act.put, List.setIfInBounds_toArray, List.set_cons_zero, List.set_cons_succ]
                          refine wpAnyH_done (by kernel_rfl) ?_ _
                          have hF := And.left (by assumption : Chg Never W7 wq ∧ _)
                          have hk := Lib.hid (pieceF_none HF.out (read_none (fun x' y' q => q.2.2.2.2.2.2.2.2.2 ⟨by have := (eqx x' y' q).1; have := HXN.out; omega, hbd⟩)))
                          have hR7 := hR7.keep hF (fun h => h)
                          have hcd := hcc.trans hF
                          obtain ⟨k0, k1, k2, k3⟩ := hR7.cell
                          have f0 := hR7.free 0
                          have f1 := hR7.free 1
                          have f2 := hR7.free 2
                          have f3 := hR7.free 3
                          obtain ⟨j0, j1, j2, j3⟩ := (hR7.setAll (.string ⟨#[]⟩) (.int .i64 0) (.int .i64 0) (.slice none 0 0)).cell
                          go_wp2_with fail
                          try simp only [Exit.inBlock, Exit.then]
                          refine bodyPost_ret (results_partF rfl rfl (load_part (hR7.setAll _ _ _ _))) rfl ?_
                          exact sread_no hk.out (by decide) rfl (chg_four hcd (.inl hRle) _ _ _ _)
                      · have v0 : decide (x = 0) = false := decide_eq_false (by have := HXN.out; omega)
                        have v0b : (x == 0) = false := v0
                        have v0c : (x != 0) = true := by rw [bne, v0b]; rfl
                        have HP := Lib.hid (read_of (m := m) (x := x) (y := y) ⟨by rw [HA.out]; exact ho1, by rw [HB.out]; exact ho2, by omega, by omega, by omega, by rw [HT.out]; exact htt, hfr, by rw [HT.out, exy.1, exy.2]; exact hsu, by rw [exy.1, exy.2]; exact hid, fun q => h0 (by have := HXN.out; have := q.1; omega)⟩)
                        refine' wpAnyH_take (i := 41) ?hi41 (by kernel_rfl) (by kernel_rfl) (by kernel_rfl) ?hQ41 (Or.inl ⟨?hw41, ?hy41⟩) (by assumption) ?_
                        case hi41 => (simp only [List.getElem?_toArray, List.getElem?_cons_succ, List.getElem?_cons_zero]; rfl)
                        case hQ41 => exact fun _ _ _ h => h
                        case hw41 => rfl
                        case hy41 => (intro w' hSw; (try dsimp only at hSw); go_simp; all_goals with_reducible rfl)
                        try simp only [Act.put, List.setIfInBounds_toArray, List.set_cons_zero, List.set_cons_succ]
                        refine' wpAnyH_take (i := 42) ?hi42 (by kernel_rfl) (by kernel_rfl) (by kernel_rfl) ?hQ42 (Or.inl ⟨?hw42, ?hy42⟩) (by assumption) ?_
                        case hi42 => (simp only [List.getElem?_toArray, List.getElem?_cons_succ, List.getElem?_cons_zero]; rfl)
                        case hQ42 => exact fun _ _ _ h => h
                        case hw42 => rfl
                        case hy42 => (intro w' hSw; (try dsimp only at hSw); go_simp; all_goals with_reducible rfl)
                        try simp only [Act.put, List.setIfInBounds_toArray, List.set_cons_zero, List.set_cons_succ]
                        refine' wpAnyH_take (i := 43) ?hi43 (by kernel_rfl) (by kernel_rfl) (by kernel_rfl) ?hQ43 (Or.inl ⟨?hw43, ?hy43⟩) (by assumption) ?_
                        case hi43 => (simp only [List.getElem?_toArray, List.getElem?_cons_succ, List.getElem?_cons_zero]; rfl)
                        case hQ43 => exact fun _ _ _ h => h
                        case hw43 => rfl
                        case hy43 => (intro w' hSw; (try dsimp only at hSw); go_simp; all_goals with_reducible rfl)
                        try simp only [Act.put, List.setIfInBounds_toArray, List.set_cons_zero, List.set_cons_succ]
                        refine' wpAnyH_take (i := 44) ?hi44 (by kernel_rfl) (by kernel_rfl) (by kernel_rfl) ?hQ44 (Or.inl ⟨?hw44, ?hy44⟩) (by assumption) ?_
                        case hi44 => (simp only [List.getElem?_toArray, List.getElem?_cons_succ, List.getElem?_cons_zero]; rfl)
                        case hQ44 => exact fun _ _ _ h => h
                        case hw44 => rfl
                        case hy44 => (intro w' hSw; (try dsimp only at hSw); go_simp; all_goals with_reducible rfl)
                        try simp only [Act.put, List.setIfInBounds_toArray, List.set_cons_zero, List.set_cons_succ]
                        refine' wpAnyH_take (i := 45) ?hi45 (by kernel_rfl) (by kernel_rfl) (by kernel_rfl) ?hQ45 (Or.inl ⟨?hw45, ?hy45⟩) (by assumption) ?_
                        case hi45 => (simp only [List.getElem?_toArray, List.getElem?_cons_succ, List.getElem?_cons_zero]; rfl)
                        case hQ45 => exact fun _ _ _ h => h
                        case hw45 => rfl
                        case hy45 => (intro w' hSw; (try dsimp only at hSw); go_simp; all_goals with_reducible rfl)
                        try simp only [Act.put, List.setIfInBounds_toArray, List.set_cons_zero, List.set_cons_succ]
                        refine' wpAnyH_take (i := 46) ?hi46 (by kernel_rfl) (by kernel_rfl) (by kernel_rfl) ?hQ46 (Or.inl ⟨?hw46, ?hy46⟩) (by assumption) ?_
                        case hi46 => (simp only [List.getElem?_toArray, List.getElem?_cons_succ, List.getElem?_cons_zero]; rfl)
                        case hQ46 => exact fun _ _ _ h => h
                        case hw46 => rfl
                        case hy46 => (intro w' hSw; (try dsimp only at hSw); go_simp; all_goals with_reducible rfl)
                        try simp only [Act.put, List.setIfInBounds_toArray, List.set_cons_zero, List.set_cons_succ]
                        refine' wpAnyH_take (i := 47) (v := undef) ?hi47 (by kernel_rfl) (by kernel_rfl) (by kernel_rfl) ?hQ47 (Or.inr ⟨?hw47, rfl⟩) (by assumption) ?_
                        case hi47 => (simp only [List.getElem?_toArray, List.getElem?_cons_succ, List.getElem?_cons_zero]; rfl)
                        case hQ47 => exact fun _ _ _ h => h
                        case hw47 => rfl
                        try simp only [Act.put, List.setIfInBounds_toArray, List.set_cons_zero, List.set_cons_succ]
                        refine' wpAnyH_take (i := 48) (v := undef) ?hi48 (by kernel_rfl) (by kernel_rfl) (by kernel_rfl) ?hQ48 (Or.inr ⟨?hw48, rfl⟩) (by assumption) ?_
                        case hi48 => (simp only [List.getElem?_toArray, List.getElem?_cons_succ, List.getElem?_cons_zero]; rfl)
                        case hQ48 => exact fun _ _ _ h => h
                        case hw48 => rfl
                        try simp only [Act.put, List.setIfInBounds_toArray, List.set_cons_zero, List.set_cons_succ]
                        refine' wpAnyH_take (i := 49) (v := undef) ?hi49 (by kernel_rfl) (by kernel_rfl) (by kernel_rfl) ?hQ49 (Or.inr ⟨?hw49, rfl⟩) (by assumption) ?_
                        case hi49 => (simp only [List.getElem?_toArray, List.getElem?_cons_succ, List.getElem?_cons_zero]; rfl)
                        case hQ49 => exact fun _ _ _ h => h
                        case hw49 => rfl
                        try simp only [Act.put, List.setIfInBounds_toArray, List.set_cons_zero, List.set_cons_succ]
                        refine' wpAnyH_take (i := 50) (v := undef) ?hi50 (by kernel_rfl) (by kernel_rfl) (by kernel_rfl) ?hQ50 (Or.inr ⟨?hw50, rfl⟩) (by assumption) ?_
                        case hi50 => (simp only [List.getElem?_toArray, List.getElem?_cons_succ, List.getElem?_cons_zero]; rfl)
                        case hQ50 => exact fun _ _ _ h => h
                        case hw50 => rfl
                        try simp only [Act.put, List.setIfInBounds_toArray, List.set_cons_zero, List.set_cons_succ]
                        refine' wpAnyH_take (i := 51) ?hi51 (by kernel_rfl) (by kernel_rfl) (by kernel_rfl) ?hQ51 (Or.inl ⟨?hw51, ?hy51⟩) (by assumption) ?_
                        case hi51 => (simp only [List.getElem?_toArray, List.getElem?_cons_succ, List.getElem?_cons_zero]; rfl)
                        case hQ51 => exact fun _ _ _ h => h
                        case hw51 => rfl
                        case hy51 => (intro w' hSw; (try dsimp only at hSw); go_simp; all_goals with_reducible rfl)
                        try simp only [Act.put, List.setIfInBounds_toArray, List.set_cons_zero, List.set_cons_succ]
                        refine' wpAnyH_take (i := 52) ?hi52 (by kernel_rfl) (by kernel_rfl) (by kernel_rfl) ?hQ52 (Or.inl ⟨?hw52, ?hy52⟩) (by assumption) ?_
                        case hi52 => (simp only [List.getElem?_toArray, List.getElem?_cons_succ, List.getElem?_cons_zero]; rfl)
                        case hQ52 => exact fun _ _ _ h => h
                        case hw52 => rfl
                        case hy52 => (intro w' hSw; (try dsimp only at hSw); go_simp; all_goals with_reducible rfl)
                        try simp only [Act.put, List.setIfInBounds_toArray, List.set_cons_zero, List.set_cons_succ]
                        refine wpAnyH_done (by kernel_rfl) ?_ _
                        have hF := And.left (by assumption : Chg Never W7 wq ∧ _)
                        have hR9 := hR7.keep hF (fun h => h)
                        have hA9 := hA7.keep hF (fun h => h)
                        have hP9 := hP7.keep hF (fun h => h)
                        have hcd := hcc.trans hF
                        have hQR : R < Q := hRP
                        have HPS := Lib.hid (pieceF_some HF.out HP.out)
                        clear x0 x1 x2 x3 q0 q1 q2 q3 hR7 hA7 hP7 hcc hF
                        obtain ⟨x0, x1, x2, x3⟩ := hA9.cell
                        have hcv := conv_str (h.never hcd)
                        go_wp2_with fail
                        refine (gitparse_old (toB m.body) _ (by rw [toB_size']; omega) mx (hg.never hcd)).mono ?_
                        rintro e w9 ⟨r9, rfl, hc9, hr9⟩
                        rw [toB_data] at hr9 ⊢
                        have hR9 := hR9.keep hc9 (fun h => h)
                        have hPw := hP9.lt
                        have hP9 := hP9.keep hc9 (fun h => h)
                        have hcd := hcd.trans hc9
                        have hwq : w.heap.size ≤ wq.heap.size := by omega
                        clear x0 x1 x2 x3 hA9 hc9 hcv
                        obtain ⟨ra, rc, rfl, _, _, _⟩ := rdv_slice hr9
                        obtain ⟨q0, q1, q2, q3⟩ := hP9.cell
                        have g3 := hP9.free 3
                        obtain ⟨e0, e1, e2, e3⟩ := (hP9.set3 (.slice ra (parseG m.body).1.length rc)).cell
                        have hR10 := hR9.keep (O := fun k => k = Q) ((Chg.refl (fun k => k = Q) w9).setCell (p := ⟨Q, 3, none⟩) (.inr rfl) (.slice ra (parseG m.body).1.length rc)) (by omega)
                        have hcd10 := hcd.setCell (p := ⟨Q, 3, none⟩) (.inl (by show w.heap.size ≤ Q; omega)) (.slice ra (parseG m.body).1.length rc)
                        obtain ⟨k0, k1, k2, k3⟩ := hR10.cell
                        have f0 := hR10.free 0
                        have f1 := hR10.free 1
                        have f2 := hR10.free 2
                        have f3 := hR10.free 3
                        have hR11 := hR10.setAll (.string (toB t)) (.int .i64 x) (.int .i64 y) (.slice ra (parseG m.body).1.length rc)
                        obtain ⟨j0, j1, j2, j3⟩ := hR11.cell
                        go_wp2_with fail
                        try simp only [Exit.inBlock, Exit.then]
                        refine bodyPost_ret (results_partF rfl rfl (load_part (hR11))) rfl ?_
                        have hch : Chg (fun k => k = Q ∨ k = R) w9 _ := chg_four ((Chg.refl (fun k => k = Q ∨ k = R) w9).setCell (p := ⟨Q, 3, none⟩) (.inr (.inl rfl)) (.slice ra (parseG m.body).1.length rc)) (.inr (.inr rfl)) (.string (toB t)) (.int .i64 x) (.int .i64 y) (.slice ra (parseG m.body).1.length rc)
                        refine ⟨toB t, x, y, _, _, by rw [HPS.out.1]; rfl, chg_four hcd10 (.inl hRle) _ _ _ _, hr9.keep hch (fun k _ hk => by unfold Old; rcases hk with hk | hk <;> omega) (fun k _ hk => Nat.lt_of_lt_of_le hk hwq), fun _ => ?_⟩
                        rw [HPS.out.2, HT.out]
                        exact ⟨rfl, by show x = ((x.toNat : Nat) : Int); omega, by show y = ((y.toNat : Nat) : Int); omega, rfl⟩
                    · have u8 : (m.ident.toList == Y.toList) = false := by rw [Lib.toList_data m.ident, eY.out, beq_eq_false_iff_ne]; exact hid
                      have u9 : (m.ident.toList != Y.toList) = true := by rw [bne, u8]; rfl
                      clear eX eY
                      refine' wpAnyH_take (i := 41) ?hi41 (by kernel_rfl) (by kernel_rfl) (by kernel_rfl) ?hQ41 (Or.inl ⟨?hw41, ?hy41⟩) (by assumption) ?_
                      case hi41 => (simp only [List.getElem?_toArray, List.getElem?_cons_succ, List.getElem?_cons_zero]; rfl)
                      case hQ41 => exact fun _ _ _ h => h
                      case hw41 => rfl
                      case hy41 => (intro w' hSw; (try dsimp only at hSw); go_simp; all_goals with_reducible rfl)
                      try simp only [Act.put, List.setIfInBounds_toArray, List.set_cons_zero, List.set_cons_succ]
                      refine' wpAnyH_take (i := 42) ?hi42 (by kernel_rfl) (by kernel_rfl) (by kernel_rfl) ?hQ42 (Or.inl ⟨?hw42, ?hy42⟩) (by assumption) ?_
                      case hi42 => (simp only [List.getElem?_toArray, List.getElem?_cons_succ, List.getElem?_cons_zero]; rfl)
                      case hQ42 => exact fun _ _ _ h => h
                      case hw42 => rfl
                      case hy42 => (intro w' hSw; (try dsimp only at hSw); go_simp; all_goals with_reducible rfl)
                      try simp only [Act.put, List.setIfInBounds_toArray, List.set_cons_zero, List.set_cons_succ]
                      refine' wpAnyH_take (i := 43) ?hi43 (by kernel_rfl) (by kernel_rfl) (by kernel_rfl) ?hQ43 (Or.inl ⟨?hw43, ?hy43⟩) (by assumption) ?_
                      case hi43 => (simp only [List.getElem?_toArray, List.getElem?_cons_succ, List.getElem?_cons_zero]; rfl)
                      case hQ43 => exact fun _ _ _ h => h
                      case hw43 => rfl
                      case hy43 => (intro w' hSw; (try dsimp only at hSw); go_simp; all_goals with_reducible rfl)
                      try simp only [Act.put, List.setIfInBounds_toArray, List.set_cons_zero, List.set_cons_succ]
                      refine' wpAnyH_take (i := 44) (v := undef) ?hi44 (by kernel_rfl) (by kernel_rfl) (by kernel_rfl) ?hQ44 (Or.inr ⟨?hw44, rfl⟩) (by assumption) ?_
                      case hi44 => (simp only [List.getElem?_toArray, List.getElem?_cons_succ, List.getElem?_cons_zero]; rfl)
                      case hQ44 => exact fun _ _ _ h => h
                      case hw44 => rfl
                      try simp only [Act.put, List.setIfInBounds_toArray, List.set_cons_zero, List.set_cons_succ]
                      refine' wpAnyH_take (i := 45) (v := undef) ?hi45 (by kernel_rfl) (by kernel_rfl) (by kernel_rfl) ?hQ45 (Or.inr ⟨?hw45, rfl⟩) (by assumption) ?_
                      case hi45 => (simp only [List.getElem?_toArray, List.getElem?_cons_succ, List.getElem?_cons_zero]; rfl)
                      case hQ45 => exact fun _ _ _ h => h
                      case hw45 => rfl
                      try simp only [Act.put, List.setIfInBounds_toArray, List.set_cons_zero, List.set_cons_succ]
                      refine' wpAnyH_take (i := 46) (v := undef) ?hi46 (by kernel_rfl) (by kernel_rfl) (by kernel_rfl) ?hQ46 (Or.inr ⟨?hw46, rfl⟩) (by assumption) ?_
                      case hi46 => (simp only [List.getElem?_toArray, List.getElem?_cons_succ, List.getElem?_cons_zero]; rfl)
                      case hQ46 => exact fun _ _ _ h => h
                      case hw46 => rfl
                      try simp only [Act.put, List.setIfInBounds_toArray, List.set_cons_zero, List.set_cons_succ]
                      refine' wpAnyH_take (i := 47) (v := undef) ?hi47 (by kernel_rfl) (by kernel_rfl) (by kernel_rfl) ?hQ47 (Or.inr ⟨?hw47, rfl⟩) (by assumption) ?_
                      case hi47 => (simp only [List.getElem?_toArray, List.getElem?_cons_succ, List.getElem?_cons_zero]; rfl)
                      case hQ47 => exact fun _ _ _ h => h
                      case hw47 => rfl
                      try simp only [Act.put, List.setIfInBounds_toArray, List.set_cons_zero, List.set_cons_succ]
                      refine' wpAnyH_take (i := 48) (v := undef) ?hi48 (by kernel_rfl) (by kernel_rfl) (by kernel_rfl) ?hQ48 (Or.inr ⟨?hw48, rfl⟩) (by assumption) ?_
                      case hi48 => (simp only [List.getElem?_toArray, List.getElem?_cons_succ, List.getElem?_cons_zero]; rfl)
                      case hQ48 => exact fun _ _ _ h => h
                      case hw48 => rfl
                      try simp only [Act.put, List.setIfInBounds_toArray, List.set_cons_zero, List.set_cons_succ]
                      refine' wpAnyH_take (i := 49) (v := undef) ?hi49 (by kernel_rfl) (by kernel_rfl) (by kernel_rfl) ?hQ49 (Or.inr ⟨?hw49, rfl⟩) (by assumption) ?_
                      case hi49 => (simp only [List.getElem?_toArray, List.getElem?_cons_succ, List.getElem?_cons_zero]; rfl)
                      case hQ49 => exact fun _ _ _ h => h
                      case hw49 => rfl
                      try simp only [Act.put, List.setIfInBounds_toArray, List.set_cons_zero, List.set_cons_succ]
                      refine' wpAnyH_take (i := 50) (v := undef) ?hi50 (by kernel_rfl) (by kernel_rfl) (by kernel_rfl) ?hQ50 (Or.inr ⟨?hw50, rfl⟩) (by assumption) ?_
                      case hi50 => (simp only [List.getElem?_toArray, List.getElem?_cons_succ, List.getElem?_cons_zero]; rfl)
                      case hQ50 => exact fun _ _ _ h => h
                      case hw50 => rfl
                      try simp only [Act.put, List.setIfInBounds_toArray, List.set_cons_zero, List.set_cons_succ]
                      refine' wpAnyH_take (i := 51) (v := undef) ?hi51 (by kernel_rfl) (by kernel_rfl) (by kernel_rfl) ?hQ51 (Or.inr ⟨?hw51, rfl⟩) (by assumption) ?_
                      case hi51 => (simp only [List.getElem?_toArray, List.getElem?_cons_succ, List.getElem?_cons_zero]; rfl)
                      case hQ51 => exact fun _ _ _ h => h
                      case hw51 => rfl
                      try simp only [Act.put, List.setIfInBounds_toArray, List.set_cons_zero, List.set_cons_succ]
                      refine' wpAnyH_take (i := 52) ?hi52 (by kernel_rfl) (by kernel_rfl) (by kernel_rfl) ?hQ52 (Or.inl ⟨?hw52, ?hy52⟩) (by assumption) ?_
                      case hi52 => (simp only [List.getElem?_toArray, List.getElem?_cons_succ, List.getElem?_cons_zero]; rfl)
                      case hQ52 => exact fun _ _ _ h => h
                      case hw52 => rfl
                      case hy52 => (intro w' hSw; (try dsimp only at hSw); go_simp; all_goals with_reducible rfl)
                      try simp only [Act.put, List.setIfInBounds_toArray, List.set_cons_zero, List.set_cons_succ]
                      refine wpAnyH_done (by kernel_rfl) ?_ _
                      have hF := And.left (by assumption : Chg Never W7 wq ∧ _)
                      have hk := Lib.hid (pieceF_none HF.out (read_none (fun x' y' q => hid (by have h1 := q.2.2.2.2.2.2.2.2.1; have h2 := eqx x' y' q; rw [h2.1, h2.2, exy.1, exy.2] at h1; exact h1))))
                      have hR7 := hR7.keep hF (fun h => h)
                      have hcd := hcc.trans hF
                      obtain ⟨k0, k1, k2, k3⟩ := hR7.cell
                      have f0 := hR7.free 0
                      have f1 := hR7.free 1
                      have f2 := hR7.free 2
                      have f3 := hR7.free 3
                      obtain ⟨j0, j1, j2, j3⟩ := (hR7.setAll (.string ⟨#[]⟩) (.int .i64 0) (.int .i64 0) (.slice none 0 0)).cell
                      go_wp2_with fail
                      try simp only [Exit.inBlock, Exit.then]
                      refine bodyPost_ret (results_partF rfl rfl (load_part (hR7.setAll _ _ _ _))) rfl ?_
                      exact sread_no hk.out (by decide) rfl (chg_four hcd (.inl hRle) _ _ _ _)
                  · have u6 : (m.subject.toList == X.toList) = false := by rw [Lib.toList_data m.subject, eX.out, beq_eq_false_iff_ne]; exact hsu
                    have u7 : (m.subject.toList != X.toList) = true := by rw [bne, u6]; rfl
                    clear eX eY
                    refine' wpAnyH_take (i := 34) ?hi34 (by kernel_rfl) (by kernel_rfl) (by kernel_rfl) ?hQ34 (Or.inl ⟨?hw34, ?hy34⟩) (by assumption) ?_
                    case hi34 => (simp only [List.getElem?_toArray, List.getElem?_cons_succ, List.getElem?_cons_zero]; rfl)
                    case hQ34 => exact fun _ _ _ h => h
                    case hw34 => rfl
                    case hy34 => (intro w' hSw; (try dsimp only at hSw); go_simp; all_goals with_reducible rfl)
                    try simp only [Act.put, List.setIfInBounds_toArray, List.set_cons_zero, List.set_cons_succ]
                    refine' wpAnyH_take (i := 35) ?hi35 (by kernel_rfl) (by kernel_rfl) (by kernel_rfl) ?hQ35 (Or.inl ⟨?hw35, ?hy35⟩) (by assumption) ?_
                    case hi35 => (simp only [List.getElem?_toArray, List.getElem?_cons_succ, List.getElem?_cons_zero]; rfl)
                    case hQ35 => exact fun _ _ _ h => h
                    case hw35 => rfl
                    case hy35 => (intro w' hSw; (try dsimp only at hSw); go_simp; all_goals with_reducible rfl)
                    try simp only [Act.put, List.setIfInBounds_toArray, List.set_cons_zero, List.set_cons_succ]
                    refine' wpAnyH_take (i := 36) ?hi36 (by kernel_rfl) (by kernel_rfl) (by kernel_rfl) ?hQ36 (Or.inl ⟨?hw36, ?hy36⟩) (by assumption) ?_
                    case hi36 => (simp only [List.getElem?_toArray, List.getElem?_cons_succ, List.getElem?_cons_zero]; rfl)
                    case hQ36 => exact fun _ _ _ h => h
                    case hw36 => rfl
                    case hy36 => (intro w' hSw; (try dsimp only at hSw); go_simp; all_goals with_reducible rfl)
                    try simp only [Act.put, List.setIfInBounds_toArray, List.set_cons_zero, List.set_cons_succ]
                    refine' wpAnyH_take (i := 37) (v := undef) ?hi37 (by kernel_rfl) (by kernel_rfl) (by kernel_rfl) ?hQ37 (Or.inr ⟨?hw37, rfl⟩) (by assumption) ?_
                    case hi37 => (simp only [List.getElem?_toArray, List.getElem?_cons_succ, List.getElem?_cons_zero]; rfl)
                    case hQ37 => exact fun _ _ _ h => h
                    case hw37 => rfl
                    try simp only [Act.put, List.setIfInBounds_toArray, List.set_cons_zero, List.set_cons_succ]
                    refine' wpAnyH_take (i := 38) (v := undef) ?hi38 (by kernel_rfl) (by kernel_rfl) (by kernel_rfl) ?hQ38 (Or.inr ⟨?hw38, rfl⟩) (by assumption) ?_
                    case hi38 => (simp only [List.getElem?_toArray, List.getElem?_cons_succ, List.getElem?_cons_zero]; rfl)
                    case hQ38 => exact fun _ _ _ h => h
                    case hw38 => rfl
                    try simp only [Act.put, List.setIfInBounds_toArray, List.set_cons_zero, List.set_cons_succ]
                    refine' wpAnyH_take (i := 39) (v := undef) ?hi39 (by kernel_rfl) (by kernel_rfl) (by kernel_rfl) ?hQ39 (Or.inr ⟨?hw39, rfl⟩) (by assumption) ?_
                    case hi39 => (simp only [List.getElem?_toArray, List.getElem?_cons_succ, List.getElem?_cons_zero]; rfl)
                    case hQ39 => exact fun _ _ _ h => h
                    case hw39 => rfl
                    try simp only [Act.put, List.setIfInBounds_toArray, List.set_cons_zero, List.set_cons_succ]
                    refine' wpAnyH_take (i := 40) (v := undef) ?hi40 (by kernel_rfl) (by kernel_rfl) (by kernel_rfl) ?hQ40 (Or.inr ⟨?hw40, rfl⟩) (by assumption) ?_
                    case hi40 => (simp only [List.getElem?_toArray, List.getElem?_cons_succ, List.getElem?_cons_zero]; rfl)
                    case hQ40 => exact fun _ _ _ h => h
                    case hw40 => rfl
                    try simp only [Act.put, List.setIfInBounds_toArray, List.set_cons_zero, List.set_cons_succ]
                    refine' wpAnyH_take (i := 41) (v := undef) ?hi41 (by kernel_rfl) (by kernel_rfl) (by kernel_rfl) ?hQ41 (Or.inr ⟨?hw41, rfl⟩) (by assumption) ?_
                    case hi41 => (simp only [List.getElem?_toArray, List.getElem?_cons_succ, List.getElem?_cons_zero]; rfl)
                    case hQ41 => exact fun _ _ _ h => h
                    case hw41 => rfl
                    try simp only [Act.put, List.setIfInBounds_toArray, List.set_cons_zero, List.set_cons_succ]
                    refine' wpAnyH_take (i := 42) ?hi42 (by kernel_rfl) (by kernel_rfl) (by kernel_rfl) ?hQ42 (Or.inl ⟨?hw42, ?hy42⟩) (by assumption) ?_
                    case hi42 => (simp only [List.getElem?_toArray, List.getElem?_cons_succ, List.getElem?_cons_zero]; rfl)
                    case hQ42 => exact fun _ _ _ h => h
                    case hw42 => rfl
                    case hy42 => (intro w' hSw; (try dsimp only at hSw); go_simp; all_goals with_reducible rfl)
                    try simp only [Act.put, List.setIfInBounds_toArray, List.set_cons_zero, List.set_cons_succ]
                    refine' wpAnyH_take (i := 43) ?hi43 (by kernel_rfl) (by kernel_rfl) (by kernel_rfl) ?hQ43 (Or.inl ⟨?hw43, ?hy43⟩) (by assumption) ?_
                    case hi43 => (simp only [List.getElem?_toArray, List.getElem?_cons_succ, List.getElem?_cons_zero]; rfl)
                    case hQ43 => exact fun _ _ _ h => h
                    case hw43 => rfl
                    case hy43 => (intro w' hSw; (try dsimp only at hSw); go_simp; all_goals with_reducible rfl)
                    try simp only [Act.put, List.setIfInBounds_toArray, List.set_cons_zero, List.set_cons_succ]
                    refine' wpAnyH_take (i := 44) (v := undef) ?hi44 (by kernel_rfl) (by kernel_rfl) (by kernel_rfl) ?hQ44 (Or.inr ⟨?hw44, rfl⟩) (by assumption) ?_
                    case hi44 => (simp only [List.getElem?_toArray, List.getElem?_cons_succ, List.getElem?_cons_zero]; rfl)
                    case hQ44 => exact fun _ _ _ h => h
                    case hw44 => rfl
                    try simp only [Act.put, List.setIfInBounds_toArray, List.set_cons_zero, List.set_cons_succ]
                    refine' wpAnyH_take (i := 45) (v := undef) ?hi45 (by kernel_rfl) (by kernel_rfl) (by kernel_rfl) ?hQ45 (Or.inr ⟨?hw45, rfl⟩) (by assumption) ?_
                    case hi45 => (simp only [List.getElem?_toArray, List.getElem?_cons_succ, List.getElem?_cons_zero]; rfl)
                    case hQ45 => exact fun _ _ _ h => h
                    case hw45 => rfl
                    try simp only [Act.put, List.setIfInBounds_toArray, List.set_cons_zero, List.set_cons_succ]
                    refine' wpAnyH_take (i := 46) (v := undef) ?hi46 (by kernel_rfl) (by kernel_rfl) (by kernel_rfl) ?hQ46 (Or.inr ⟨?hw46, rfl⟩) (by assumption) ?_
                    case hi46 => (simp only [List.getElem?_toArray, List.getElem?_cons_succ, List.getElem?_cons_zero]; rfl)
                    case hQ46 => exact fun _ _ _ h => h
                    case hw46 => rfl
                    try simp only [Act.put, List.setIfInBounds_toArray, List.set_cons_zero, List.set_cons_succ]
                    refine' wpAnyH_take (i := 47) (v := undef) ?hi47 (by kernel_rfl) (by kernel_rfl) (by kernel_rfl) ?hQ47 (Or.inr ⟨?hw47, rfl⟩) (by assumption) ?_
                    case hi47 => (simp only [List.getElem?_toArray, List.getElem?_cons_succ, List.getElem?_cons_zero]; rfl)
                    case hQ47 => exact fun _ _ _ h => h
                    case hw47 => rfl
                    try simp only [Act.put, List.setIfInBounds_toArray, List.set_cons_zero, List.set_cons_succ]
                    refine' wpAnyH_take (i := 48) (v := undef) ?hi48 (by kernel_rfl) (by kernel_rfl) (by kernel_rfl) ?hQ48 (Or.inr ⟨?hw48, rfl⟩) (by assumption) ?_
                    case hi48 => (simp only [List.getElem?_toArray, List.getElem?_cons_succ, List.getElem?_cons_zero]; rfl)
                    case hQ48 => exact fun _ _ _ h => h
                    case hw48 => rfl
                    try simp only [Act.put, List.setIfInBounds_toArray, List.set_cons_zero, List.set_cons_succ]
                    refine' wpAnyH_take (i := 49) (v := undef) ?hi49 (by kernel_rfl) (by kernel_rfl) (by kernel_rfl) ?hQ49 (Or.inr ⟨?hw49, rfl⟩) (by assumption) ?_
                    case hi49 => (simp only [List.getElem?_toArray, List.getElem?_cons_succ, List.getElem?_cons_zero]; rfl)
                    case hQ49 => exact fun _ _ _ h => h
                    case hw49 => rfl
                    try simp only [Act.put, List.setIfInBounds_toArray, List.set_cons_zero, List.set_cons_succ]
                    refine' wpAnyH_take (i := 50) (v := undef) ?hi50 (by kernel_rfl) (by kernel_rfl) (by kernel_rfl) ?hQ50 (Or.inr ⟨?hw50, rfl⟩) (by assumption) ?_
                    case hi50 => (simp only [List.getElem?_toArray, List.getElem?_cons_succ, List.getElem?_cons_zero]; rfl)
                    case hQ50 => exact fun _ _ _ h => h
                    case hw50 => rfl
                    try simp only [Act.put, List.setIfInBounds_toArray, List.set_cons_zero, List.set_cons_succ]
                    refine' wpAnyH_take (i := 51) (v := undef) ?hi51 (by kernel_rfl) (by kernel_rfl) (by kernel_rfl) ?hQ51 (Or.inr ⟨?hw51, rfl⟩) (by assumption) ?_
                    case hi51 => (simp only [List.getElem?_toArray, List.getElem?_cons_succ, List.getElem?_cons_zero]; rfl)
                    case hQ51 => exact fun _ _ _ h => h
                    case hw51 => rfl
                    try simp only [Act.put, List.setIfInBounds_toArray, List.set_cons_zero, List.set_cons_succ]
                    refine' wpAnyH_take (i := 52) ?hi52 (by kernel_rfl) (by kernel_rfl) (by kernel_rfl) ?hQ52 (Or.inl ⟨?hw52, ?hy52⟩) (by assumption) ?_
                    case hi52 => (simp only [List.getElem?_toArray, List.getElem?_cons_succ, List.getElem?_cons_zero]; rfl)
                    case hQ52 => exact fun _ _ _ h => h
                    case hw52 => rfl
                    case hy52 => (intro w' hSw; (try dsimp only at hSw); go_simp; all_goals with_reducible rfl)
                    try simp only [Act.put, List.setIfInBounds_toArray, List.set_cons_zero, List.set_cons_succ]
                    refine wpAnyH_done (by kernel_rfl) ?_ _
                    have hF := And.left (by assumption : Chg Never W7 wq ∧ _)
                    have hk := Lib.hid (pieceF_none HF.out (read_none (fun x' y' q => hsu (by have h1 := q.2.2.2.2.2.2.2.1; have h2 := eqx x' y' q; rw [h2.1, h2.2, exy.1, exy.2, HT.out] at h1; exact h1))))
                    have hR7 := hR7.keep hF (fun h => h)
                    have hcd := hcc.trans hF
                    obtain ⟨k0, k1, k2, k3⟩ := hR7.cell
                    have f0 := hR7.free 0
                    have f1 := hR7.free 1
                    have f2 := hR7.free 2
                    have f3 := hR7.free 3
                    obtain ⟨j0, j1, j2, j3⟩ := (hR7.setAll (.string ⟨#[]⟩) (.int .i64 0) (.int .i64 0) (.slice none 0 0)).cell
                    go_wp2_with fail
                    try simp only [Exit.inBlock, Exit.then]
                    refine bodyPost_ret (results_partF rfl rfl (load_part (hR7.setAll _ _ _ _))) rfl ?_
                    exact sread_no hk.out (by decide) rfl (chg_four hcd (.inl hRle) _ _ _ _)
                · have u4 : (m.sender.toList == [104, 97, 110, 100, 115, 116, 105, 116, 99, 104]) = false := by rw [Lib.toList_data, beq_eq_false_iff_ne]; exact hfr
                  have u5 : (m.sender.toList != [104, 97, 110, 100, 115, 116, 105, 116, 99, 104]) = true := by rw [bne, u4]; rfl
                  obtain ⟨x0, x1, x2, x3⟩ := hA7.cell
                  have hk := Lib.hid (pieceF_none HF.out (read_none (fun x' y' q => hfr q.2.2.2.2.2.2.1)))
                  go_quiet (first | (go_at_call 43; refine Calls.quiet_of_same ((titled_any (toB t) _ htz).mono fun e w' hh => ⟨by rw [hh.1, toB_data, HTT.out], hh.2.symm⟩)))
                  have hR7 := hR7.keep (O := Never) ((Chg.refl Never W7).drewN nq) (fun h => h)
                  have hcc := hcc.drewN nq
                  generalize W7.drewN nq = W8 at hR7 hcc ⊢
                  obtain ⟨k0, k1, k2, k3⟩ := hR7.cell
                  have f0 := hR7.free 0
                  have f1 := hR7.free 1
                  have f2 := hR7.free 2
                  have f3 := hR7.free 3
                  obtain ⟨j0, j1, j2, j3⟩ := (hR7.setAll (.string ⟨#[]⟩) (.int .i64 0) (.int .i64 0) (.slice none 0 0)).cell
                  go_wp2_with fail
                  try simp only [Exit.inBlock, Exit.then]
                  refine bodyPost_ret (results_partF rfl rfl (load_part (hR7.setAll _ _ _ _))) rfl ?_
                  exact sread_no hk.out (by decide) rfl (chg_four hcc (.inl hRle) _ _ _ _)
      · have hk := Lib.hid (pieceF_none HF.out (read_none (fun x' y' q => ho2 y' (by have := q.2.1; rw [HB.out] at this; exact this))))
        go_quiet (fail)
        have hR7 := hR7.keep (O := Never) ((Chg.refl Never W7).drewN nq) (fun h => h)
        have hcc := hcc.drewN nq
        generalize W7.drewN nq = W8 at hR7 hcc ⊢
        obtain ⟨k0, k1, k2, k3⟩ := hR7.cell
        have f0 := hR7.free 0
        have f1 := hR7.free 1
        have f2 := hR7.free 2
        have f3 := hR7.free 3
        obtain ⟨j0, j1, j2, j3⟩ := (hR7.setAll (.string ⟨#[]⟩) (.int .i64 0) (.int .i64 0) (.slice none 0 0)).cell
        go_wp2_with fail
        try simp only [Exit.inBlock, Exit.then]
        refine bodyPost_ret (results_partF rfl rfl (load_part (hR7.setAll _ _ _ _))) rfl ?_
        exact sread_no hk.out (by decide) rfl (chg_four hcc (.inl hRle) _ _ _ _)
    · have hk := Lib.hid (pieceF_none HF.out (read_none (fun x' y' q => ho1 x' (by have := q.1; rw [HA.out] at this; exact this))))
      go_quiet (fail)
      have hR7 := hR7.keep (O := Never) ((Chg.refl Never W7).drewN nq) (fun h => h)
      have hcc := hcc.drewN nq
      generalize W7.drewN nq = W8 at hR7 hcc ⊢
      obtain ⟨k0, k1, k2, k3⟩ := hR7.cell
      have f0 := hR7.free 0
      have f1 := hR7.free 1
      have f2 := hR7.free 2
      have f3 := hR7.free 3
      obtain ⟨j0, j1, j2, j3⟩ := (hR7.setAll (.string ⟨#[]⟩) (.int .i64 0) (.int .i64 0) (.slice none 0 0)).cell
      go_wp2_with fail
      try simp only [Exit.inBlock, Exit.then]
      refine bodyPost_ret (results_partF rfl rfl (load_part (hR7.setAll _ _ _ _))) rfl ?_
      exact sread_no hk.out (by decide) rfl (chg_four hcc (.inl hRle) _ _ _ _)
  · have hk := pieceF_chk hz
    rw [errV_pos hz]
    have HZ := Lib.hid hz
    generalize mailFault m = fz at hk HZ ⊢
    have hk := Lib.hid hk
    have hR7 := hR3
    clear hz
    obtain ⟨k0, k1, k2, k3⟩ := hR7.cell
    have f0 := hR7.free 0
    have f1 := hR7.free 1
    have f2 := hR7.free 2
    have f3 := hR7.free 3
    obtain ⟨j0, j1, j2, j3⟩ := (hR7.setAll (.string ⟨#[]⟩) (.int .i64 0) (.int .i64 0) (.slice none 0 0)).cell
    go_wp2_with fail
    try simp only [Exit.inBlock, Exit.then]
    refine bodyPost_ret (results_partF rfl rfl (load_part (hR7.setAll _ _ _ _))) rfl ?_
    exact sread_no hk.out HZ.out (by rw [errV_pos HZ.out]; rfl) (chg_four hc3 (.inl hRle) _ _ _ _)
end Go.Proofs.YtjiaidchcldocaaGreatDoor
