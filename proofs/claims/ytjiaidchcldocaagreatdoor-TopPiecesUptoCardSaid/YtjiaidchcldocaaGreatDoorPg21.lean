/-
  PARTS: THE WALK of series.read.
-/
import Derived.Test.YtjiaidchcldocaaGreatDoorPg1
import Derived.Test.YtjiaidchcldocaaGreatDoorPg7
import Derived.Test.YtjiaidchcldocaaGreatDoorPg8
import Derived.Test.YtjiaidchcldocaaGreatDoorPg20
import Derived.Deep.RegionHeld3
import Derived.BigQuiet
import Derived.Deep.QuietTactic
set_option linter.unusedVariables false
set_option linter.unusedSimpArgs false
namespace Go.Proofs.YtjiaidchcldocaaGreatDoor
open Go.RowKit

theorem load_part {w : World} {B : Nat} {T : TypeId} {x y z u : Value} (h : Blk4 w B T x y z u) : (loadVar 97 ⟨B, 0, none⟩).run Tryz.prog w = .ok (.agg #[x, y, z, u]) w := by
  obtain ⟨c0, c1, c2, c3⟩ := h.cell
  go_simp
theorem results_partF {fn : Func} {t a r : Nat} (h : fn.results = #[.cell a t, .tmp r]) {tmps : Array Value} {P : Program} {w : World} {p : Addr} {v : Value} (ha : tmps.getD a undef = .pointer (some p)) (hl : (loadVar t p).run P w = .ok v w) :
    (results fn tmps).run P w = .ok (.tuple #[v, tmps.getD r undef]) w := by
  simp [results, h, -Array.getD_eq_getD_getElem?, ha, asAddr, hl]
theorem titled_here (s : ByteArray) (w : World) (hs : s.size ≤ maxLen) :
    Calls Tryz.prog 43 #[.string s] w fun e w' => e = .returned (.bool (titledB s.data.toList)) ∧ w' = w := (titled_any s w hs).mono fun _ _ h => ⟨h.1, h.2.symm⟩
def AtoiPost (s : ByteArray) (w : World) (e : Ending) (w' : World) : Prop := ∃ (x : Int) (v : Value), I64 x ∧ e = .returned (.tuple #[.int .i64 x, v]) ∧ Chg Never w w' ∧ ((v = .nilIface ∧ Lib.atoiAll s.data.toList = .ok x) ∨ ∃ T p, v = .iface T p ∧ ∀ y, Lib.atoiAll s.data.toList ≠ .ok y)
theorem atoi_each (s : ByteArray) (hs : s.size ≤ 1000000000) (w : World) (m : Int) (hg : Globs w m) :
    Calls Tryz.prog 99 #[.string s] w (AtoiPost s w) := by
  by_cases hok : ∃ v, Lib.atoiAll s.data.toList = .ok v
  · obtain ⟨v, hv⟩ := hok
    obtain ⟨vb0, vb1⟩ := Lib.atoiAll_bounds hv
    refine (Tryz.strconv_Atoi_ok s (by omega) v hv _).mono ?_
    rintro e w1 ⟨rfl, hW⟩
    refine ⟨v, _, ⟨by omega, by omega⟩, rfl, ?_, .inl ⟨rfl, hv⟩⟩
    rcases hW with rfl | ⟨t, rfl⟩
    · exact Chg.refl _ _
    · exact Chg.of_below (Lib.bytesWorld_below _ _ _)
  · refine (atoi_bad s hs (fun v q => hok ⟨v, q⟩) _ m hg).mono ?_
    rintro e w1 ⟨x, T, p, hx, rfl, hc1⟩
    exact ⟨x, _, hx, rfl, hc1, .inr ⟨T, p, rfl, fun y q => hok ⟨y, q⟩⟩⟩
/-- what read answers: a part and a fault; where there is none, the mail's piece -/
def SReadPost (m : Mail) (w : World) (e : Ending) (w' : World) : Prop := ∃ (t : ByteArray) (a b : Int) (pv : Value) (L : List Change), e = .returned (.tuple #[.agg #[.string t, .int .i64 a, .int .i64 b, pv], errV (pieceF m)]) ∧ Chg Never w w' ∧ Rdv w' (Old w.heap.size) pv L ∧ (pieceF m = 0 → t = toB (pieceOf m).title ∧ a = (pieceOf m).at' ∧ b = (pieceOf m).many ∧ L = (pieceOf m).patch)
theorem sread_no {m : Mail} {w w' : World} {e : Ending} {k : Int} (hk : pieceF m = k) (h0 : k ≠ 0) (he : e = .returned (.tuple #[.agg #[.string ⟨#[]⟩, .int .i64 0, .int .i64 0, .slice none 0 0], errV k])) (hc : Chg Never w w') : SReadPost m w e w' :=
  ⟨_, _, _, _, [], by rw [hk]; exact he, hc, rdv_nil _ _, fun h => absurd (hk.symm.trans h) h0⟩
theorem skeep8 {w2 wr wq : World} {A Q : Nat} {a b c d e f g h : Value} (H : Chg Never w2 wr ∧ (wr.cell? ⟨A, 0, none⟩ = some a ∧ wr.cell? ⟨A, 1, none⟩ = some b ∧ wr.cell? ⟨A, 2, none⟩ = some c ∧ wr.cell? ⟨A, 3, none⟩ = some d) ∧ wr.cell? ⟨Q, 0, none⟩ = some e ∧ wr.cell? ⟨Q, 1, none⟩ = some f ∧ wr.cell? ⟨Q, 2, none⟩ = some g ∧ wr.cell? ⟨Q, 3, none⟩ = some h) (k : Chg Never wr wq) :
    Chg Never w2 wq ∧ (wq.cell? ⟨A, 0, none⟩ = some a ∧ wq.cell? ⟨A, 1, none⟩ = some b ∧ wq.cell? ⟨A, 2, none⟩ = some c ∧ wq.cell? ⟨A, 3, none⟩ = some d) ∧ wq.cell? ⟨Q, 0, none⟩ = some e ∧ wq.cell? ⟨Q, 1, none⟩ = some f ∧ wq.cell? ⟨Q, 2, none⟩ = some g ∧ wq.cell? ⟨Q, 3, none⟩ = some h := by
  obtain ⟨h1, ⟨h2, h3, h4, h5⟩, h6, h7, h8, h9⟩ := H
  exact ⟨h1.trans k, ⟨k.cellNever h2, k.cellNever h3, k.cellNever h4, k.cellNever h5⟩, k.cellNever h6, k.cellNever h7, k.cellNever h8, k.cellNever h9⟩
set_option maxHeartbeats 4000000 in
set_option maxRecDepth 100000 in
theorem sread_any (m : Mail) (v : Value) (w : World) (h : Rdv w Never v m.body) (hsz : MailSz m) (mx : Int) (hg : Globs w mx) :
    Calls Tryz.prog 46 #[mailV m v] w (SReadPost m w) := by
  obtain ⟨ba, bc, rfl, b1, b2, -⟩ := rdv_slice h
  unfold maxLen at b2
  obtain ⟨z1, z2, z3⟩ := hsz
  obtain ⟨W1, hW1⟩ : ∃ W, w.alloc (.cells #[.string m.sender, .string m.subject, .string m.ident, .slice ba m.body.length bc] 31) = W := ⟨_, rfl⟩
  obtain ⟨A, hAe⟩ : ∃ A, w.heap.size = A := ⟨_, rfl⟩
  have hA0 := Blk4.new w 31 (.string m.sender) (.string m.subject) (.string m.ident) (.slice ba m.body.length bc)
  have hc1 : Chg Never w W1 := by rw [← hW1]; exact (Chg.refl Never w).alloc _
  rw [hW1, hAe] at hA0
  obtain ⟨W2, hW2⟩ : ∃ W, W1.alloc (.cells #[.string ⟨#[]⟩, .int .i64 0, .int .i64 0, .slice none 0 0] 97) = W := ⟨_, rfl⟩
  obtain ⟨R, hRe⟩ : ∃ R, W1.heap.size = R := ⟨_, rfl⟩
  have hR2 := Blk4.new W1 97 (.string ⟨#[]⟩) (.int .i64 0) (.int .i64 0) (.slice none 0 0)
  have hA2 := hA0.keep ((Chg.refl Never W1).alloc (.cells #[.string ⟨#[]⟩, .int .i64 0, .int .i64 0, .slice none 0 0] 97)) (fun h => h)
  have hc2 := hc1.alloc (.cells #[.string ⟨#[]⟩, .int .i64 0, .int .i64 0, .slice none 0 0] 97)
  have hRle : w.heap.size ≤ R := by rw [← hRe]; exact hc1.size
  have hAR : A < R := by rw [← hRe]; exact hA0.lt
  rw [hW2] at hR2 hA2 hc2
  rw [hRe] at hR2
  obtain ⟨x0, x1, x2, x3⟩ := hA2.cell
  have HAE := Lib.hid hAe
  clear hA0 hc1
  go_enter Tryz.func46, Tryz.ntmps46
  go_wp2_with fail
  clear hW1 hAe hW2 hRe
  refine (mail_check_any m (.slice ba m.body.length bc) _ (h.never hc2) ⟨z1, z2, z3⟩).mono ?_
  rintro e W3 ⟨rfl, hc3⟩
  have hR3 := hR2.keep hc3 (fun h => h)
  have hA3 := hA2.keep hc3 (fun h => h)
  have hc3 := hc2.trans hc3
  clear hR2 hA2 hc2 x0 x1 x2 x3
  by_cases hz : mailFault m = 0
  · obtain ⟨s1, s2, s3, s4⟩ := mail_small hz
    have HF := Lib.hid hz
    obtain ⟨P, hP⟩ : ∃ P, Lib.trimPrefix m.subject.data.toList patW = P := ⟨_, rfl⟩
    obtain ⟨ca, hca⟩ : ∃ x, cutA [47] P = x := ⟨_, rfl⟩
    obtain ⟨r, hr⟩ : ∃ x, cutB [47] P = x := ⟨_, rfl⟩
    obtain ⟨cb, hcb⟩ : ∃ x, cutA [93, 32] r = x := ⟨_, rfl⟩
    obtain ⟨t, ht⟩ : ∃ x, cutB [93, 32] r = x := ⟨_, rfl⟩
    have HA : Hid (subA m = ca) := by unfold Hid subA; rw [hP, hca]
    have HB : Hid (subB m = cb) := by unfold Hid subB; rw [hP, hr, hcb]
    have HT : Hid (subT m = t) := by unfold Hid subT; rw [hP, hr, ht]
    have l0 := trim_len m.subject.data.toList patW
    rw [hP, ← Lib.size_eq] at l0
    have l1 := cutA_len [47] P
    have l2 := cutB_len [47] P
    have l3 := cutA_len [93, 32] r
    have l4 := cutB_len [93, 32] r
    rw [hca] at l1
    rw [hr] at l2
    rw [hcb] at l3
    rw [ht] at l4
    have E5 : Hid (Lib.cut P [47] = (ca, r, (cutSub [47] P).isSome)) := by rw [Hid, lib_cut (by simp), hca, hr]
    have E6 : Hid (Lib.cut r [93, 32] = (cb, t, (cutSub [93, 32] r).isSome)) := by rw [Hid, lib_cut (by simp), hcb, ht]
    have EP := Lib.hid hP
    rw [hz, errV_zero]
    clear hz hP hca hr hcb ht
    obtain ⟨x0, x1, x2, x3⟩ := hA3.cell
    go_wp2_with fail
    clear x0 x1 x2 x3
    refine (Tryz.strings_CutPrefix m.subject (toB patW) _).mono ?_
    rintro e w1 ⟨rfl, rfl⟩
    rename World => W3
    rw [toB_data, EP.out, show (⟨P.toArray⟩ : ByteArray) = toB P from rfl]
    generalize Lib.hasPrefix m.subject.data.toList patW = pb
    go_wp2_with fail
    refine (Tryz.strings_Cut (toB P) (toB [47]) mx _ (by rw [toB_size']; omega) (hg.never hc3).ml).mono ?_
    rintro e w2 ⟨rfl, nd, rfl⟩
    have hc4 : Chg Never W3 (W3.drewN nd) := (Chg.refl Never W3).drewN nd
    rw [toB_data, toB_data, E5.out, show (⟨ca.toArray⟩ : ByteArray) = toB ca from rfl, show (⟨r.toArray⟩ : ByteArray) = toB r from rfl]
    generalize (cutSub [47] P).isSome = fb
    generalize W3.drewN nd = W4 at hc4 ⊢
    go_wp2_with fail
    refine (Tryz.strings_Cut (toB r) (toB [93, 32]) mx _ (by rw [toB_size']; omega) (hg.never (hc3.trans hc4)).ml).mono ?_
    rintro e w2 ⟨rfl, nd, rfl⟩
    have hc5 := hc4.drewN nd
    rw [toB_data, toB_data, E6.out, show (⟨cb.toArray⟩ : ByteArray) = toB cb from rfl, show (⟨t.toArray⟩ : ByteArray) = toB t from rfl]
    generalize (cutSub [93, 32] r).isSome = fb2
    generalize W4.drewN nd = W5 at hc5 ⊢
    clear hc4 E5 E6 EP
    go_wp2_with fail
    refine (atoi_each (toB ca) (by rw [toB_size']; omega) _ mx (hg.never (hc3.trans hc5))).mono ?_
    rintro e w6 ⟨x, ev1, hx, rfl, hc6, ho1⟩
    have hc6 := hc5.trans hc6
    rw [toB_data] at ho1
    go_wp2_with fail
    refine (atoi_each (toB cb) (by rw [toB_size']; omega) _ mx (hg.never (hc3.trans hc6))).mono ?_
    rintro e w7 ⟨y, ev2, hy, rfl, hc7, ho2⟩
    have hc7 := hc6.trans hc7
    rw [toB_data] at ho2
    have hc8 := hc7.alloc (.cells #[.string (toB t), .int .i64 x, .int .i64 y, .slice none 0 0] 97)
    have hR7 := hR3.keep hc8 (fun h => h)
    have hA7 := hA3.keep hc8 (fun h => h)
    have hcc := hc3.trans hc8
    have hP7 := Blk4.new w7 97 (.string (toB t)) (.int .i64 x) (.int .i64 y) (.slice none 0 0)
    have hR8 := hR3.keep hc7 (fun h => h)
    have hRP := hR8.lt
    clear hR8
    obtain ⟨ax, ay, ae⟩ : I64 x ∧ I64 y ∧ True := ⟨hx, hy, trivial⟩
    clear hc5 hc6 hc7 hc8
    go_wp2_with fail
    obtain ⟨W7, hW7⟩ : ∃ W, w7.alloc (.cells #[.string (toB t), .int .i64 x, .int .i64 y, .slice none 0 0] 97) = W := ⟨_, rfl⟩
    obtain ⟨Q, hQe⟩ : ∃ Q, w7.heap.size = Q := ⟨_, rfl⟩
    rw [hW7] at hR7 hA7 hcc hP7 ⊢
    rw [hQe] at hP7 hRP ⊢
    clear hW7 hQe hR3 hA3
    have htz : (toB t).size ≤ maxLen := by rw [toB_size']; unfold maxLen; omega
    rcases ho1 with ⟨rfl, ho1⟩ | ⟨T1, p1, rfl, ho1⟩
    · rcases ho2 with ⟨rfl, ho2⟩ | ⟨T2, p2, rfl, ho2⟩
      · have eqx : ∀ x' y', ReadOk m x' y' → x' = x ∧ y' = y := fun x' y' q => by
          have q1 := q.1
          have q2 := q.2.1
          rw [HA.out, ho1] at q1
          rw [HB.out, ho2] at q2
          injection q1 with q1
          injection q2 with q2
          exact ⟨q1.symm, q2.symm⟩
        by_cases hx0 : x < 0
        · have u1 : decide (x < 0) = true := decide_eq_true hx0
          have hk := Lib.hid (pieceF_none HF.out (read_none (fun x' y' q => by have := (eqx x' y' q).1; have := q.2.2.1; omega)))
          go_quiet (fail)
          have hR7 := hR7.keep (O := Never) ((Chg.refl Never W7).drewN nq) (fun h => h)
          have hcc := hcc.drewN nq
          generalize W7.drewN nq = W8 at hR7 hcc ⊢
          obtain ⟨k0, k1, k2, k3⟩ := hR7.cell
          have f0 := hR7.free 0
          have f1 := hR7.free 1
          have f2 := hR7.free 2
          have f3 := hR7.free 3
          obtain ⟨j0, j1, j2, j3⟩ := (hR7.setAll (.string ⟨#[]⟩) (.int .i64 0) (.int .i64 0) (.slice none 0 0)).cell
          go_wp2_with fail
          try simp only [Exit.inBlock, Exit.then]
          refine bodyPost_ret (results_partF rfl rfl (load_part (hR7.setAll _ _ _ _))) rfl ?_
          exact sread_no hk.out (by decide) rfl (chg_four hcc (.inl hRle) _ _ _ _)
        · have u1 : decide (x < 0) = false := decide_eq_false hx0
          by_cases hxy : y < x
          · have u2 : decide (y < x) = true := decide_eq_true hxy
            have hk := Lib.hid (pieceF_none HF.out (read_none (fun x' y' q => by have := eqx x' y' q; have := q.2.2.2.1; omega)))
            go_quiet (fail)
            have hR7 := hR7.keep (O := Never) ((Chg.refl Never W7).drewN nq) (fun h => h)
            have hcc := hcc.drewN nq
            generalize W7.drewN nq = W8 at hR7 hcc ⊢
            obtain ⟨k0, k1, k2, k3⟩ := hR7.cell
            have f0 := hR7.free 0
            have f1 := hR7.free 1
            have f2 := hR7.free 2
            have f3 := hR7.free 3
            obtain ⟨j0, j1, j2, j3⟩ := (hR7.setAll (.string ⟨#[]⟩) (.int .i64 0) (.int .i64 0) (.slice none 0 0)).cell
            go_wp2_with fail
            try simp only [Exit.inBlock, Exit.then]
            refine bodyPost_ret (results_partF rfl rfl (load_part (hR7.setAll _ _ _ _))) rfl ?_
            exact sread_no hk.out (by decide) rfl (chg_four hcc (.inl hRle) _ _ _ _)
          · have u2 : decide (y < x) = false := decide_eq_false hxy
            by_cases hy8 : 8 < y
            · have u3 : decide ((8 : Int) < y) = true := decide_eq_true hy8
              have hk := Lib.hid (pieceF_none HF.out (read_none (fun x' y' q => by have := eqx x' y' q; have := q.2.2.2.2.1; omega)))
              go_quiet (fail)
              have hR7 := hR7.keep (O := Never) ((Chg.refl Never W7).drewN nq) (fun h => h)
              have hcc := hcc.drewN nq
              generalize W7.drewN nq = W8 at hR7 hcc ⊢
              obtain ⟨k0, k1, k2, k3⟩ := hR7.cell
              have f0 := hR7.free 0
              have f1 := hR7.free 1
              have f2 := hR7.free 2
              have f3 := hR7.free 3
              obtain ⟨j0, j1, j2, j3⟩ := (hR7.setAll (.string ⟨#[]⟩) (.int .i64 0) (.int .i64 0) (.slice none 0 0)).cell
              go_wp2_with fail
              try simp only [Exit.inBlock, Exit.then]
              refine bodyPost_ret (results_partF rfl rfl (load_part (hR7.setAll _ _ _ _))) rfl ?_
              exact sread_no hk.out (by decide) rfl (chg_four hcc (.inl hRle) _ _ _ _)
            · have u3 : decide ((8 : Int) < y) = false := decide_eq_false hy8
              cases htt : titledB t with
              | false =>
                have HTT := Lib.hid htt
                have hk := Lib.hid (pieceF_none HF.out (read_none (fun x' y' q => by have := q.2.2.2.2.2.1; rw [HT.out, HTT.out] at this; cases this)))
                go_quiet (first | (go_at_call 43; refine Calls.quiet_of_same ((titled_any (toB t) _ htz).mono fun e w' hh => ⟨by rw [hh.1, toB_data, HTT.out], hh.2.symm⟩)))
                have hR7 := hR7.keep (O := Never) ((Chg.refl Never W7).drewN nq) (fun h => h)
                have hcc := hcc.drewN nq
                generalize W7.drewN nq = W8 at hR7 hcc ⊢
                obtain ⟨k0, k1, k2, k3⟩ := hR7.cell
                have f0 := hR7.free 0
                have f1 := hR7.free 1
                have f2 := hR7.free 2
                have f3 := hR7.free 3
                obtain ⟨j0, j1, j2, j3⟩ := (hR7.setAll (.string ⟨#[]⟩) (.int .i64 0) (.int .i64 0) (.slice none 0 0)).cell
                go_wp2_with fail
                try simp only [Exit.inBlock, Exit.then]
                refine bodyPost_ret (results_partF rfl rfl (load_part (hR7.setAll _ _ _ _))) rfl ?_
                exact sread_no hk.out (by decide) rfl (chg_four hcc (.inl hRle) _ _ _ _)
              | true =>
                have HTT := Lib.hid htt
                by_cases hfr : m.sender.data.toList = handW
                · have u4 : (m.sender.toList == [104, 97, 110, 100, 115, 116, 105, 116, 99, 104]) = true := by rw [Lib.toList_data, hfr]; rfl
                  have u5 : (m.sender.toList != [104, 97, 110, 100, 115, 116, 105, 116, 99, 104]) = false := by rw [bne, u4]; rfl
                  obtain ⟨x0, x1, x2, x3⟩ := hA7.cell
                  obtain ⟨q0, q1, q2, q3⟩ := hP7.cell
                  obtain ⟨xn, hxn⟩ : ∃ n : Nat, x = n := ⟨x.toNat, by omega⟩
                  obtain ⟨yn, hyn⟩ : ∃ n : Nat, y = n := ⟨y.toNat, by omega⟩
                  have l8 : yn ≤ 8 := by omega
                  have lx : xn ≤ yn := by omega
                  have exy : x.toNat = xn ∧ y.toNat = yn := by omega
                  obtain ⟨X, hX⟩ : ∃ X, toB (subjL xn yn t) = X := ⟨_, rfl⟩
                  obtain ⟨Y, hY⟩ : ∃ Y, toB (idL xn yn) = Y := ⟨_, rfl⟩
                  have FS : Hid (∀ wx, Calls Tryz.prog 44 #[.agg #[.string (toB t), .int .i64 x, .int .i64 y, .slice none 0 0]] wx fun e w' => e = .returned (.string X) ∧ Chg Never wx w') := fun wx => by
                    have := subject_any (toB t) xn yn (.slice none 0 0) wx (by omega) l8 (by rw [toB_size']; omega) rfl
                    rw [toB_data, hX, ← hxn, ← hyn] at this
                    exact this
                  have FI : Hid (∀ wx, Calls Tryz.prog 45 #[.agg #[.string (toB t), .int .i64 x, .int .i64 y, .slice none 0 0]] wx fun e w' => e = .returned (.string Y) ∧ Chg Never wx w') := fun wx => by
                    have := partid_any (toB t) xn yn (.slice none 0 0) wx (by omega) l8
                    rw [hY, ← hxn, ← hyn] at this
                    exact this
                  have HXN := Lib.hid hxn
                  have HYN := Lib.hid hyn
                  clear hxn hyn
                  have eX : Hid (X.toList = subjL xn yn t) := by rw [Hid, ← hX, Lib.toList_data, toB_data]
                  have eY : Hid (Y.toList = idL xn yn) := by rw [Hid, ← hY, Lib.toList_data, toB_data]
                  clear hX hY
                  have hD7 : Chg Never W7 W7.drew := (Chg.refl Never W7).drew
                  refine wp_region_held_drew (S := (fun w' => Chg Never W7 w' ∧ (w'.cell? ⟨A, 0, none⟩ = some (.string m.sender) ∧ w'.cell? ⟨A, 1, none⟩ = some (.string m.subject) ∧ w'.cell? ⟨A, 2, none⟩ = some (.string m.ident) ∧ w'.cell? ⟨A, 3, none⟩ = some (.slice ba m.body.length bc)) ∧ w'.cell? ⟨Q, 0, none⟩ = some (.string (toB t)) ∧ w'.cell? ⟨Q, 1, none⟩ = some (.int .i64 x) ∧ w'.cell? ⟨Q, 2, none⟩ = some (.int .i64 y) ∧ w'.cell? ⟨Q, 3, none⟩ = some (.slice none 0 0))) (by kernel_rfl) ⟨hD7, ⟨x0, x1, x2, x3⟩, q0, q1, q2, q3⟩ (fun hH => ?_)
                  refine' tk 0 ?_
                  refine' tk 1 ?_
                  refine' tk 2 ?_
                  refine' tk 3 ?_
                  refine' tk 4 ?_
                  refine' tk 5 ?_
                  refine' tk 6 ?_
                  refine' tk 7 ?_
                  refine' tk 8 ?_
                  refine' tk 9 ?_
                  refine' tk 10 ?_
                  refine' tk 11 ?_
                  refine' tk 12 ?_
                  refine' tk 13 ?_
                  refine' tk 14 ?_
                  refine' tk 15 ?_
                  refine' tk 16 ?_
                  refine' tk 17 ?_
                  refine' tk 18 ?_
                  refine' tk 19 ?_
                  refine' tk 20 ?_
                  refine wpAnyH_ready (rs := [21]) (by kernel_rfl) (by simp) ?_
                  refine AllReadyH.cons rfl (fun K hK => ?_) AllReadyH.nil
                  go_simp
                  (go_at_call 43; refine (titled_here (toB t) _ htz).mono ?_; rintro e wq ⟨rfl, rfl⟩; rw [toB_data, HTT.out])
                  try go_wp2_with fail
                  refine hK.out _ _ ?_ (fun hH => ?_)
                  · assumption
                  clear hK K
                  try simp only [Act.put, List.setIfInBounds_toArray, List.set_cons_zero, List.set_cons_succ]
                  refine' tk 22 ?_
                  refine' tk 23 ?_
                  refine' tk 24 ?_
                  refine' tk 25 ?_
                  refine' tk 26 ?_
                  refine' tk 27 ?_
                  refine' tk 28 ?_
                  refine' tk 29 ?_
                  refine' tk 30 ?_
                  refine' tk 31 ?_
                  refine' tk 32 ?_
                  refine wpAnyH_ready (rs := [33]) (by kernel_rfl) (by simp) ?_
                  refine AllReadyH.cons rfl (fun K hK => ?_) AllReadyH.nil
                  go_simp
                  (go_at_call 44; refine (FS.out _).mono ?_; rintro e wq ⟨rfl, hcq⟩; have hS2 := skeep8 (by assumption) hcq)
                  try go_wp2_with fail
                  refine hK.out _ _ ?_ (fun hH => ?_)
                  · assumption
                  clear hK K
                  try simp only [Act.put, List.setIfInBounds_toArray, List.set_cons_zero, List.set_cons_succ]
                  by_cases hsu : m.subject.data.toList = subjL xn yn t
                  · have u6 : (m.subject.toList == X.toList) = true := by rw [Lib.toList_data m.subject, hsu, eX.out]; simp
                    have u7 : (m.subject.toList != X.toList) = false := by rw [bne, u6]; rfl
                    refine' tk 34 ?_
                    refine' tk 35 ?_
                    refine' tk 36 ?_
                    refine' tk 37 ?_
                    refine' tk 38 ?_
                    refine' tk 39 ?_
                    refine wpAnyH_ready (rs := [40]) (by kernel_rfl) (by simp) ?_
                    refine AllReadyH.cons rfl (fun K hK => ?_) AllReadyH.nil
                    go_simp
                    (go_at_call 45; refine (FI.out _).mono ?_; rintro e wq ⟨rfl, hcq⟩; have hS2 := skeep8 (by assumption) hcq)
                    try go_wp2_with fail
                    refine hK.out _ _ ?_ (fun hH => ?_)
                    · assumption
                    clear hK K
                    try simp only [Act.put, List.setIfInBounds_toArray, List.set_cons_zero, List.set_cons_succ]
                    by_cases hid : m.ident.data.toList = idL xn yn
                    · have u8 : (m.ident.toList == Y.toList) = true := by rw [Lib.toList_data m.ident, hid, eY.out]; simp
                      have u9 : (m.ident.toList != Y.toList) = false := by rw [bne, u8]; rfl
                      clear eX eY
                      by_cases h0 : xn = 0
                      · have v0 : decide (x = 0) = true := decide_eq_true (by have := HXN.out; omega)
                        have v0b : (x == 0) = true := v0
                        have v0c : (x != 0) = false := by rw [bne, v0b]; rfl
                        by_cases hbd : m.body = []
                        · have v1 : decide ((0 : Int) < (m.body.length : Int)) = false := decide_eq_false (by rw [hbd]; simp)
                          have v2 : decide (0 < m.body.length) = false := decide_eq_false (by rw [hbd]; simp)
                          have HP := Lib.hid (read_of (m := m) (x := x) (y := y) ⟨by rw [HA.out]; exact ho1, by rw [HB.out]; exact ho2, by omega, by omega, by omega, by rw [HT.out]; exact htt, hfr, by rw [HT.out, exy.1, exy.2]; exact hsu, by rw [exy.1, exy.2]; exact hid, fun q => q.2 hbd⟩)
                          clear hbd
                          refine' tk 41 ?_
                          refine' tk 42 ?_
                          refine' tk 43 ?_
                          refine' tk 44 ?_
                          refine' tk 45 ?_
                          refine' tk 46 ?_
                          refine' tk 47 ?_
                          refine' tk 48 ?_
                          refine' tk 49 ?_
                          refine' tk 50 ?_
                          refine' tk 51 ?_
                          refine' tk 52 ?_
                          refine wpAnyH_done (by kernel_rfl) ?_ _
                          have hF := And.left (by assumption : Chg Never W7 wq ∧ _)
                          have hR9 := hR7.keep hF (fun h => h)
                          have hA9 := hA7.keep hF (fun h => h)
                          have hP9 := hP7.keep hF (fun h => h)
                          have hcd := hcc.trans hF
                          have hQR : R < Q := hRP
                          have HPS := Lib.hid (pieceF_some HF.out HP.out)
                          clear x0 x1 x2 x3 q0 q1 q2 q3 hR7 hA7 hP7 hcc hF
                          obtain ⟨x0, x1, x2, x3⟩ := hA9.cell
                          have hcv := conv_str (h.never hcd)
                          go_wp2_with fail
                          refine (gitparse_old (toB m.body) _ (by rw [toB_size']; omega) mx (hg.never hcd)).mono ?_
                          rintro e w9 ⟨r9, rfl, hc9, hr9⟩
                          rw [toB_data] at hr9 ⊢
                          have hR9 := hR9.keep hc9 (fun h => h)
                          have hPw := hP9.lt
                          have hP9 := hP9.keep hc9 (fun h => h)
                          have hcd := hcd.trans hc9
                          have hwq : w.heap.size ≤ wq.heap.size := by omega
                          clear x0 x1 x2 x3 hA9 hc9 hcv
                          obtain ⟨ra, rc, rfl, _, _, _⟩ := rdv_slice hr9
                          obtain ⟨q0, q1, q2, q3⟩ := hP9.cell
                          have g3 := hP9.free 3
                          obtain ⟨e0, e1, e2, e3⟩ := (hP9.set3 (.slice ra (parseG m.body).1.length rc)).cell
                          have hR10 := hR9.keep (O := fun k => k = Q) ((Chg.refl (fun k => k = Q) w9).setCell (p := ⟨Q, 3, none⟩) (.inr rfl) (.slice ra (parseG m.body).1.length rc)) (by omega)
                          have hcd10 := hcd.setCell (p := ⟨Q, 3, none⟩) (.inl (by show w.heap.size ≤ Q; omega)) (.slice ra (parseG m.body).1.length rc)
                          obtain ⟨k0, k1, k2, k3⟩ := hR10.cell
                          have f0 := hR10.free 0
                          have f1 := hR10.free 1
                          have f2 := hR10.free 2
                          have f3 := hR10.free 3
                          have hR11 := hR10.setAll (.string (toB t)) (.int .i64 x) (.int .i64 y) (.slice ra (parseG m.body).1.length rc)
                          obtain ⟨j0, j1, j2, j3⟩ := hR11.cell
                          go_wp2_with fail
                          try simp only [Exit.inBlock, Exit.then]
                          refine bodyPost_ret (results_partF rfl rfl (load_part (hR11))) rfl ?_
                          have hch : Chg (fun k => k = Q ∨ k = R) w9 _ := chg_four ((Chg.refl (fun k => k = Q ∨ k = R) w9).setCell (p := ⟨Q, 3, none⟩) (.inr (.inl rfl)) (.slice ra (parseG m.body).1.length rc)) (.inr (.inr rfl)) (.string (toB t)) (.int .i64 x) (.int .i64 y) (.slice ra (parseG m.body).1.length rc)
                          refine ⟨toB t, x, y, _, _, by rw [HPS.out.1]; rfl, chg_four hcd10 (.inl hRle) _ _ _ _, hr9.keep hch (fun k _ hk => by unfold Old; rcases hk with hk | hk <;> omega) (fun k _ hk => Nat.lt_of_lt_of_le hk hwq), fun _ => ?_⟩
                          rw [HPS.out.2, HT.out]
                          exact ⟨rfl, by show x = ((x.toNat : Nat) : Int); omega, by show y = ((y.toNat : Nat) : Int); omega, rfl⟩
                        · have hbl : 0 < m.body.length := List.length_pos_iff.2 hbd
                          have v1 : decide ((0 : Int) < (m.body.length : Int)) = true := decide_eq_true (by omega)
                          have v2 : decide (0 < m.body.length) = true := decide_eq_true hbl
                          clear hbl
                          refine' tk 41 ?_
                          refine' tk 42 ?_
                          refine' tk 43 ?_
                          refine' tk 44 ?_
                          refine' tk 45 ?_
                          refine' tk 46 ?_
                          refine' tk 47 ?_
                          refine' tk 48 ?_
                          refine' tk 49 ?_
                          refine' tk 50 ?_
                          refine' tk 51 ?_
                          refine' tk 52 ?_
                          refine wpAnyH_done (by kernel_rfl) ?_ _
                          have hF := And.left (by assumption : Chg Never W7 wq ∧ _)
                          have hk := Lib.hid (pieceF_none HF.out (read_none (fun x' y' q => q.2.2.2.2.2.2.2.2.2 ⟨by have := (eqx x' y' q).1; have := HXN.out; omega, hbd⟩)))
                          have hR7 := hR7.keep hF (fun h => h)
                          have hcd := hcc.trans hF
                          obtain ⟨k0, k1, k2, k3⟩ := hR7.cell
                          have f0 := hR7.free 0
                          have f1 := hR7.free 1
                          have f2 := hR7.free 2
                          have f3 := hR7.free 3
                          obtain ⟨j0, j1, j2, j3⟩ := (hR7.setAll (.string ⟨#[]⟩) (.int .i64 0) (.int .i64 0) (.slice none 0 0)).cell
                          go_wp2_with fail
                          try simp only [Exit.inBlock, Exit.then]
                          refine bodyPost_ret (results_partF rfl rfl (load_part (hR7.setAll _ _ _ _))) rfl ?_
                          exact sread_no hk.out (by decide) rfl (chg_four hcd (.inl hRle) _ _ _ _)
                      · have v0 : decide (x = 0) = false := decide_eq_false (by have := HXN.out; omega)
                        have v0b : (x == 0) = false := v0
                        have v0c : (x != 0) = true := by rw [bne, v0b]; rfl
                        have HP := Lib.hid (read_of (m := m) (x := x) (y := y) ⟨by rw [HA.out]; exact ho1, by rw [HB.out]; exact ho2, by omega, by omega, by omega, by rw [HT.out]; exact htt, hfr, by rw [HT.out, exy.1, exy.2]; exact hsu, by rw [exy.1, exy.2]; exact hid, fun q => h0 (by have := HXN.out; have := q.1; omega)⟩)
                        refine' tk 41 ?_
                        refine' tk 42 ?_
                        refine' tk 43 ?_
                        refine' tk 44 ?_
                        refine' tk 45 ?_
                        refine' tk 46 ?_
                        refine' sk 47 ?_
                        refine' sk 48 ?_
                        refine' sk 49 ?_
                        refine' sk 50 ?_
                        refine' tk 51 ?_
                        refine' tk 52 ?_
                        refine wpAnyH_done (by kernel_rfl) ?_ _
                        have hF := And.left (by assumption : Chg Never W7 wq ∧ _)
                        have hR9 := hR7.keep hF (fun h => h)
                        have hA9 := hA7.keep hF (fun h => h)
                        have hP9 := hP7.keep hF (fun h => h)
                        have hcd := hcc.trans hF
                        have hQR : R < Q := hRP
                        have HPS := Lib.hid (pieceF_some HF.out HP.out)
                        clear x0 x1 x2 x3 q0 q1 q2 q3 hR7 hA7 hP7 hcc hF
                        obtain ⟨x0, x1, x2, x3⟩ := hA9.cell
                        have hcv := conv_str (h.never hcd)
                        go_wp2_with fail
                        refine (gitparse_old (toB m.body) _ (by rw [toB_size']; omega) mx (hg.never hcd)).mono ?_
                        rintro e w9 ⟨r9, rfl, hc9, hr9⟩
                        rw [toB_data] at hr9 ⊢
                        have hR9 := hR9.keep hc9 (fun h => h)
                        have hPw := hP9.lt
                        have hP9 := hP9.keep hc9 (fun h => h)
                        have hcd := hcd.trans hc9
                        have hwq : w.heap.size ≤ wq.heap.size := by omega
                        clear x0 x1 x2 x3 hA9 hc9 hcv
                        obtain ⟨ra, rc, rfl, _, _, _⟩ := rdv_slice hr9
                        obtain ⟨q0, q1, q2, q3⟩ := hP9.cell
                        have g3 := hP9.free 3
                        obtain ⟨e0, e1, e2, e3⟩ := (hP9.set3 (.slice ra (parseG m.body).1.length rc)).cell
                        have hR10 := hR9.keep (O := fun k => k = Q) ((Chg.refl (fun k => k = Q) w9).setCell (p := ⟨Q, 3, none⟩) (.inr rfl) (.slice ra (parseG m.body).1.length rc)) (by omega)
                        have hcd10 := hcd.setCell (p := ⟨Q, 3, none⟩) (.inl (by show w.heap.size ≤ Q; omega)) (.slice ra (parseG m.body).1.length rc)
                        obtain ⟨k0, k1, k2, k3⟩ := hR10.cell
                        have f0 := hR10.free 0
                        have f1 := hR10.free 1
                        have f2 := hR10.free 2
                        have f3 := hR10.free 3
                        have hR11 := hR10.setAll (.string (toB t)) (.int .i64 x) (.int .i64 y) (.slice ra (parseG m.body).1.length rc)
                        obtain ⟨j0, j1, j2, j3⟩ := hR11.cell
                        go_wp2_with fail
                        try simp only [Exit.inBlock, Exit.then]
                        refine bodyPost_ret (results_partF rfl rfl (load_part (hR11))) rfl ?_
                        have hch : Chg (fun k => k = Q ∨ k = R) w9 _ := chg_four ((Chg.refl (fun k => k = Q ∨ k = R) w9).setCell (p := ⟨Q, 3, none⟩) (.inr (.inl rfl)) (.slice ra (parseG m.body).1.length rc)) (.inr (.inr rfl)) (.string (toB t)) (.int .i64 x) (.int .i64 y) (.slice ra (parseG m.body).1.length rc)
                        refine ⟨toB t, x, y, _, _, by rw [HPS.out.1]; rfl, chg_four hcd10 (.inl hRle) _ _ _ _, hr9.keep hch (fun k _ hk => by unfold Old; rcases hk with hk | hk <;> omega) (fun k _ hk => Nat.lt_of_lt_of_le hk hwq), fun _ => ?_⟩
                        rw [HPS.out.2, HT.out]
                        exact ⟨rfl, by show x = ((x.toNat : Nat) : Int); omega, by show y = ((y.toNat : Nat) : Int); omega, rfl⟩
                    · have u8 : (m.ident.toList == Y.toList) = false := by rw [Lib.toList_data m.ident, eY.out, beq_eq_false_iff_ne]; exact hid
                      have u9 : (m.ident.toList != Y.toList) = true := by rw [bne, u8]; rfl
                      clear eX eY
                      refine' tk 41 ?_
                      refine' tk 42 ?_
                      refine' tk 43 ?_
                      refine' sk 44 ?_
                      refine' sk 45 ?_
                      refine' sk 46 ?_
                      refine' sk 47 ?_
                      refine' sk 48 ?_
                      refine' sk 49 ?_
                      refine' sk 50 ?_
                      refine' sk 51 ?_
                      refine' tk 52 ?_
                      refine wpAnyH_done (by kernel_rfl) ?_ _
                      have hF := And.left (by assumption : Chg Never W7 wq ∧ _)
                      have hk := Lib.hid (pieceF_none HF.out (read_none (fun x' y' q => hid (by have h1 := q.2.2.2.2.2.2.2.2.1; have h2 := eqx x' y' q; rw [h2.1, h2.2, exy.1, exy.2] at h1; exact h1))))
                      have hR7 := hR7.keep hF (fun h => h)
                      have hcd := hcc.trans hF
                      obtain ⟨k0, k1, k2, k3⟩ := hR7.cell
                      have f0 := hR7.free 0
                      have f1 := hR7.free 1
                      have f2 := hR7.free 2
                      have f3 := hR7.free 3
                      obtain ⟨j0, j1, j2, j3⟩ := (hR7.setAll (.string ⟨#[]⟩) (.int .i64 0) (.int .i64 0) (.slice none 0 0)).cell
                      go_wp2_with fail
                      try simp only [Exit.inBlock, Exit.then]
                      refine bodyPost_ret (results_partF rfl rfl (load_part (hR7.setAll _ _ _ _))) rfl ?_
                      exact sread_no hk.out (by decide) rfl (chg_four hcd (.inl hRle) _ _ _ _)
                  · have u6 : (m.subject.toList == X.toList) = false := by rw [Lib.toList_data m.subject, eX.out, beq_eq_false_iff_ne]; exact hsu
                    have u7 : (m.subject.toList != X.toList) = true := by rw [bne, u6]; rfl
                    clear eX eY
                    refine' tk 34 ?_
                    refine' tk 35 ?_
                    refine' tk 36 ?_
                    refine' sk 37 ?_
                    refine' sk 38 ?_
                    refine' sk 39 ?_
                    refine' sk 40 ?_
                    refine' sk 41 ?_
                    refine' tk 42 ?_
                    refine' tk 43 ?_
                    refine' sk 44 ?_
                    refine' sk 45 ?_
                    refine' sk 46 ?_
                    refine' sk 47 ?_
                    refine' sk 48 ?_
                    refine' sk 49 ?_
                    refine' sk 50 ?_
                    refine' sk 51 ?_
                    refine' tk 52 ?_
                    refine wpAnyH_done (by kernel_rfl) ?_ _
                    have hF := And.left (by assumption : Chg Never W7 wq ∧ _)
                    have hk := Lib.hid (pieceF_none HF.out (read_none (fun x' y' q => hsu (by have h1 := q.2.2.2.2.2.2.2.1; have h2 := eqx x' y' q; rw [h2.1, h2.2, exy.1, exy.2, HT.out] at h1; exact h1))))
                    have hR7 := hR7.keep hF (fun h => h)
                    have hcd := hcc.trans hF
                    obtain ⟨k0, k1, k2, k3⟩ := hR7.cell
                    have f0 := hR7.free 0
                    have f1 := hR7.free 1
                    have f2 := hR7.free 2
                    have f3 := hR7.free 3
                    obtain ⟨j0, j1, j2, j3⟩ := (hR7.setAll (.string ⟨#[]⟩) (.int .i64 0) (.int .i64 0) (.slice none 0 0)).cell
                    go_wp2_with fail
                    try simp only [Exit.inBlock, Exit.then]
                    refine bodyPost_ret (results_partF rfl rfl (load_part (hR7.setAll _ _ _ _))) rfl ?_
                    exact sread_no hk.out (by decide) rfl (chg_four hcd (.inl hRle) _ _ _ _)
                · have u4 : (m.sender.toList == [104, 97, 110, 100, 115, 116, 105, 116, 99, 104]) = false := by rw [Lib.toList_data, beq_eq_false_iff_ne]; exact hfr
                  have u5 : (m.sender.toList != [104, 97, 110, 100, 115, 116, 105, 116, 99, 104]) = true := by rw [bne, u4]; rfl
                  obtain ⟨x0, x1, x2, x3⟩ := hA7.cell
                  have hk := Lib.hid (pieceF_none HF.out (read_none (fun x' y' q => hfr q.2.2.2.2.2.2.1)))
                  go_quiet (first | (go_at_call 43; refine Calls.quiet_of_same ((titled_any (toB t) _ htz).mono fun e w' hh => ⟨by rw [hh.1, toB_data, HTT.out], hh.2.symm⟩)))
                  have hR7 := hR7.keep (O := Never) ((Chg.refl Never W7).drewN nq) (fun h => h)
                  have hcc := hcc.drewN nq
                  generalize W7.drewN nq = W8 at hR7 hcc ⊢
                  obtain ⟨k0, k1, k2, k3⟩ := hR7.cell
                  have f0 := hR7.free 0
                  have f1 := hR7.free 1
                  have f2 := hR7.free 2
                  have f3 := hR7.free 3
                  obtain ⟨j0, j1, j2, j3⟩ := (hR7.setAll (.string ⟨#[]⟩) (.int .i64 0) (.int .i64 0) (.slice none 0 0)).cell
                  go_wp2_with fail
                  try simp only [Exit.inBlock, Exit.then]
                  refine bodyPost_ret (results_partF rfl rfl (load_part (hR7.setAll _ _ _ _))) rfl ?_
                  exact sread_no hk.out (by decide) rfl (chg_four hcc (.inl hRle) _ _ _ _)
      · have hk := Lib.hid (pieceF_none HF.out (read_none (fun x' y' q => ho2 y' (by have := q.2.1; rw [HB.out] at this; exact this))))
        go_quiet (fail)
        have hR7 := hR7.keep (O := Never) ((Chg.refl Never W7).drewN nq) (fun h => h)
        have hcc := hcc.drewN nq
        generalize W7.drewN nq = W8 at hR7 hcc ⊢
        obtain ⟨k0, k1, k2, k3⟩ := hR7.cell
        have f0 := hR7.free 0
        have f1 := hR7.free 1
        have f2 := hR7.free 2
        have f3 := hR7.free 3
        obtain ⟨j0, j1, j2, j3⟩ := (hR7.setAll (.string ⟨#[]⟩) (.int .i64 0) (.int .i64 0) (.slice none 0 0)).cell
        go_wp2_with fail
        try simp only [Exit.inBlock, Exit.then]
        refine bodyPost_ret (results_partF rfl rfl (load_part (hR7.setAll _ _ _ _))) rfl ?_
        exact sread_no hk.out (by decide) rfl (chg_four hcc (.inl hRle) _ _ _ _)
    · have hk := Lib.hid (pieceF_none HF.out (read_none (fun x' y' q => ho1 x' (by have := q.1; rw [HA.out] at this; exact this))))
      go_quiet (fail)
      have hR7 := hR7.keep (O := Never) ((Chg.refl Never W7).drewN nq) (fun h => h)
      have hcc := hcc.drewN nq
      generalize W7.drewN nq = W8 at hR7 hcc ⊢
      obtain ⟨k0, k1, k2, k3⟩ := hR7.cell
      have f0 := hR7.free 0
      have f1 := hR7.free 1
      have f2 := hR7.free 2
      have f3 := hR7.free 3
      obtain ⟨j0, j1, j2, j3⟩ := (hR7.setAll (.string ⟨#[]⟩) (.int .i64 0) (.int .i64 0) (.slice none 0 0)).cell
      go_wp2_with fail
      try simp only [Exit.inBlock, Exit.then]
      refine bodyPost_ret (results_partF rfl rfl (load_part (hR7.setAll _ _ _ _))) rfl ?_
      exact sread_no hk.out (by decide) rfl (chg_four hcc (.inl hRle) _ _ _ _)
  · have hk := pieceF_chk hz
    rw [errV_pos hz]
    have HZ := Lib.hid hz
    generalize mailFault m = fz at hk HZ ⊢
    have hk := Lib.hid hk
    have hR7 := hR3
    clear hz
    obtain ⟨k0, k1, k2, k3⟩ := hR7.cell
    have f0 := hR7.free 0
    have f1 := hR7.free 1
    have f2 := hR7.free 2
    have f3 := hR7.free 3
    obtain ⟨j0, j1, j2, j3⟩ := (hR7.setAll (.string ⟨#[]⟩) (.int .i64 0) (.int .i64 0) (.slice none 0 0)).cell
    go_wp2_with fail
    try simp only [Exit.inBlock, Exit.then]
    refine bodyPost_ret (results_partF rfl rfl (load_part (hR7.setAll _ _ _ _))) rfl ?_
    exact sread_no hk.out HZ.out (by rw [errV_pos HZ.out]; rfl) (chg_four hc3 (.inl hRle) _ _ _ _)
end Go.Proofs.YtjiaidchcldocaaGreatDoor
