/-
  PARTS: THE WALK of git.changes.; THE WALK of git.Parse.; THE WALK of series.read.; OF ITSELF EACH IS ITSELF, in plain Lean (RangeSelf): costs that are 0 from corner to corner.; TWO SERIES, WHICH IS WHICH, in plain Lean: the costs, what is told of a choice.; SERIES, in plain Lean (chapter 13): the pieces of a series, test by test; what the document gathers of them.; A MAP FROM NUMBERS TO PARTS OF A SERIES, as a function.
-/
import Derived.Test.YtjiaidchcldocaaGreatDoorPf5
import Derived.Test.YtjiaidchcldocaaGreatDoorPf8
import Derived.Test.YtjiaidchcldocaaGreatDoorPf4
import Derived.Test.YtjiaidchcldocaaGreatDoorPf3
import Derived.Deep.RegionHeld3
import Derived.Deep.Cut
import Derived.Deep.CutRange
import Derived.Test.YtjiaidchcldocaaGreatDoorPf7
import Derived.Test.YtjiaidchcldocaaGreatDoorPf2
import Derived.Test.YtjiaidchcldocaaGreatDoorPf1
import Derived.BigQuiet
import Derived.Deep.QuietTactic
import Derived.Test.YtjiaidchcldocaaGreatDoorPf6
import Derived.Maps.OwnSet
set_option linter.unusedVariables false
set_option linter.unusedSimpArgs false
namespace Go.Proofs.YtjiaidchcldocaaGreatDoor
open Go.RowKit

def bytesL (l : List ByteArray) : List (List UInt8) := l.map fun x => x.data.toList
def chgsL (l : List ByteArray) : Option (List Change) := changesG (bytesL l).length (bytesL l)
theorem bytesL_drop (l : List ByteArray) (i : Nat) : (bytesL l).drop i = bytesL (l.drop i) := (List.map_drop ..).symm
def sliceLenOf : Value → Nat
  | .slice _ n _ => n
  | _ => 0
def HeadIs (H : Option (Int × List UInt8)) (K : Int) (P : ByteArray) (B : Bool) : Prop := (B = false ∧ H = none) ∨ (B = true ∧ ∃ p, H = some (K, p) ∧ P = toB p)
theorem headed_is (a b : ByteArray) (w : World) (ha : a.size ≤ 1000000000) (hb : b.size ≤ 1000000000) :
    Calls Tryz.prog 119 #[.string a, .string b] w fun e w' => ∃ K P B, e = .returned (.tuple #[.agg #[.int .i64 K, .string P, .slice none 0 0], .bool B]) ∧ Chg Never w w' ∧ Hid (HeadIs (headedL a.data.toList b.data.toList) K P B) := by
  refine (headed_any a b w ha hb).mono ?_
  rintro e w' ⟨hc, hp⟩
  cases hh : headedL a.data.toList b.data.toList with
  | none =>
    rw [hh] at hp
    exact ⟨_, _, _, hp, hc, .inl ⟨rfl, rfl⟩⟩
  | some x =>
    obtain ⟨c, p⟩ := x
    rw [hh] at hp
    exact ⟨_, _, _, hp, hc, .inr ⟨rfl, p, rfl, rfl⟩⟩
theorem headed_len {a b p : List UInt8} {c : Int} (h : headedL a b = some (c, p)) : p.length ≤ a.length + b.length := by
  obtain ⟨hw, e1, e2⟩ := headed_some h
  have l1 := congrArg List.length e1
  have l2 := congrArg List.length e2
  rw [List.length_append] at l1 l2
  rcases hw with rfl | rfl | rfl
  · rw [show fromL 1 p = [97, 47] ++ p from rfl, List.length_append] at l1; omega
  · rw [show toL 2 p = [98, 47] ++ p from rfl, List.length_append] at l2; omega
  · rw [show fromL 3 p = [97, 47] ++ p from rfl, List.length_append] at l1; omega
theorem rdv_tail {w : World} {O : Nat → Prop} {a : Option Addr} {n cap k : Nat} {l : List ByteArray} (h : Rdv w O (.slice a n cap) l) (hn : n = l.length) (hk : k ≤ l.length) :
    ∃ b, (∀ (wx : World), (Instr.slice 86 (.slice a n cap) (some (.int .i64 (k : Nat))) none none).run Tryz.prog wx = .ok (.slice b (n - k) (cap - k)) wx) ∧ Rdv w O (.slice b (n - k) (cap - k)) (l.drop k) := by
  subst hn
  obtain ⟨b, _, h2, _, h4⟩ := slice_g (P := Tryz.prog) (t := 86) (by kernel_rfl) size_str h k l.length hk (Nat.le_refl _)
  exact ⟨b, fun wx => h2 (k : Nat) wx rfl rfl, by rw [List.take_of_length_le (by rw [List.length_drop]; omega)] at h4; exact h4⟩

theorem ckeep {w2 wr wq : World} {p q : Addr} {a b : Value} (h : Chg Never w2 wr ∧ wr.cell? p = some a ∧ wr.cell? q = some b) (k : Chg Never wr wq) : Chg Never w2 wq ∧ wq.cell? p = some a ∧ wq.cell? q = some b :=
  ⟨h.1.trans k, k.cellNever h.2.1, k.cellNever h.2.2⟩
set_option maxHeartbeats 2000000 in
set_option maxRecDepth 100000 in
theorem gitchanges_old (l : List ByteArray) (v : Value) (w : World) (h : Rdv w Never v l) (hl : l.length ≤ 1000000) (hs : ∀ x ∈ l, x.size ≤ 1000000000) (m : Int) (hg : Globs w m) :
    Calls Tryz.prog 75 #[v] w fun e w' => ∃ r, e = .returned (.tuple #[r, .bool (chgsL l).isSome]) ∧ Chg Never w w' ∧ Rdv w' (Old w.heap.size) r ((chgsL l).getD []) := by
  obtain ⟨a, cap, rfl, h1, h2, -⟩ := rdv_slice h
  unfold maxLen at h2
  have HS := Lib.hid hs
  clear hs
  go_enter Tryz.func75, Tryz.ntmps75
  go_wp2_with fail
  go_loopw [0, 4] (fun bv ov wr => ∃ (i : Nat) (L : List Change), i ≤ l.length ∧ Rdv w Never bv (l.drop i) ∧ OwnO 85 w wr ov L ∧ L.length ≤ i ∧ Hid (ChgsInv (bytesL l) i L)) (fun bv _ _ => sliceLenOf bv)
  case atStart => exact ⟨0, [], Nat.zero_le _, h, ownO_nil _ (Chg.refl Never w), Nat.le_refl _, cinv_start _⟩
  case round =>
    clear h
    obtain ⟨i, L, hi, hb, hn, hLl, hI⟩ := hrel
    rename World => wr
    obtain ⟨oa, on, oc, rfl⟩ := own_isSlice hn.own
    obtain ⟨ab, capb, rfl, b1, b2, b3⟩ := rdv_slice hb
    unfold maxLen at b2
    have hdl : (l.drop i).length = l.length - i := List.length_drop
    have HD := Lib.hid (bytesL_drop l i)
    cases hR : l.drop i with
    | nil =>
      have hr : Hid (chgsL l = some L) := cinv_end hI.out (by rw [hR] at hdl; simp at hdl; unfold bytesL; rw [List.length_map]; omega)
      clear hb b3 hdl HD
      go_wp2_with fail
      go_ret2
      exact ⟨_, by rw [hr.out]; rfl, hn.chg, by rw [hr.out]; exact hn.own.rdv⟩
    | cons x R1 =>
      cases R1 with
      | nil =>
        rw [hR] at hdl
        simp only [List.length_cons, List.length_nil] at hdl
        clear hb b3 HD
        have hr : Hid (chgsL l = none) := cinv_one hI.out (by unfold bytesL; rw [List.length_map]; omega)
        go_wp2_with fail
        go_ret2
        exact ⟨_, by rw [hr.out]; rfl, hn.chg, by rw [hr.out]; exact rdv_nil _ _⟩
      | cons y R2 =>
        have zx := HS.out x (List.mem_of_mem_drop (i := i) (by rw [hR]; simp))
        have zy := HS.out y (List.mem_of_mem_drop (i := i) (by rw [hR]; simp))
        have HD2 : Hid ((bytesL l).drop i = x.data.toList :: y.data.toList :: bytesL R2) := by rw [Hid, HD.out, hR]; rfl
        rw [hR] at hb b1 b3 hdl
        obtain ⟨g, off, rfl, -, -, c0, -⟩ := elems_str b3 (i := 0) (x := x) rfl
        obtain ⟨g', off', hq, -, -, c1, -⟩ := elems_str b3 (i := 1) (x := y) rfl
        simp only [Option.some.injEq, Addr.mk.injEq, and_true] at hq
        obtain ⟨rfl, rfl⟩ := hq
        have hdR : l.drop (i + 2) = R2 := by rw [← List.drop_drop, hR]; rfl
        obtain ⟨sb, hrun, hsub⟩ := rdv_tail hb rfl (k := 2) (by simp)
        have hn2 : 2 ≤ (x :: y :: R2).length := by simp
        have HR2 := Lib.hid hdR
        obtain ⟨n, hnn⟩ : ∃ n, (x :: y :: R2).length = n := ⟨_, rfl⟩
        rw [hnn] at hrun hsub hn2 hdl b1 ⊢
        have hsub : Rdv w Never (.slice sb (n - 2) (capb - 2)) (l.drop (i + 2)) := by rw [hdR]; exact hsub
        have hil : i + 2 ≤ l.length := by omega
        have hnl : n ≤ 1000000 := by omega
        simp only [Nat.add_zero] at c0
        have c0 := hn.chg.cellNever c0
        have c1 := hn.chg.cellNever c1
        have HN := Lib.hid hdl
        have hn1 : (1 : Int) < (n : Int) := by omega
        have hn0 : (0 : Int) < (n : Int) := by omega
        clear hb b3 hR hdR hnn HD hdl
        go_upto_region 5 with fail
        go_cut [5, 6] from 8 to 54 (fun p b wx => ∃ k K P B, p = .pointer (some ⟨k, 0, none⟩) ∧ b = .bool B ∧ wr.heap.size ≤ k ∧ Hid (Chg Never wr wx) ∧ Hid (HeadIs (headedL x.data.toList y.data.toList) K P B) ∧ Blk3 wx k 85 (.int .i64 K) (.string P) (.slice none 0 0))
        case first =>
          refine wp_region_held_drew (S := fun w' => Chg Never wr w' ∧ w'.cell? ⟨g, off, none⟩ = some (.string x) ∧ w'.cell? ⟨g, off + 1, none⟩ = some (.string y)) (by kernel_rfl) ⟨(Chg.refl Never wr).drew, c0, c1⟩ (fun hH => ?_)
          refine' tk 0 ?_
          refine' tk 1 ?_
          refine' tk 2 ?_
          refine' tk 3 ?_
          refine' tk 4 ?_
          refine' tk 5 ?_
          refine wpAnyH_ready (rs := [6, 10]) (by kernel_rfl) (by simp) ?_
          refine AllReadyH.cons rfl (fun K hK => ?_) (AllReadyH.cons rfl (fun K hK => ?_) AllReadyH.nil)
          · go_simp
            go_at_call 119
            refine (headed_is x y _ zx zy).mono ?_
            rintro e wq ⟨K1, P, B, rfl, hcq, hHq⟩
            try go_wp2_with fail
            refine hK.out _ _ ?_ (fun hH => ?_)
            · exact ckeep (by assumption) hcq
            clear hK K
            try simp only [Act.put, List.setIfInBounds_toArray, List.set_cons_zero, List.set_cons_succ]
            refine' tk 7 ?_
            refine' tk 8 ?_
            refine' tk 9 ?_
            refine wpAnyH_ready (rs := [10]) (by kernel_rfl) (by simp) ?_
            refine AllReadyH.cons rfl (fun K hK => ?_) AllReadyH.nil
            go_simp
            refine hK.out _ _ ?_ (fun hH => ?_)
            · exact ckeep (by assumption) ((Chg.refl Never _).alloc _)
            clear hK K
            try simp only [Act.put, List.setIfInBounds_toArray, List.set_cons_zero, List.set_cons_succ]
            refine wpAnyH_ready (rs := [11]) (by kernel_rfl) (by simp) ?_
            refine AllReadyH.cons rfl (fun K hK => ?_) AllReadyH.nil
            go_simp
            have hBk := Blk3.new wq 85 (.int .i64 K1) (.string P) (.slice none 0 0)
            have hcA := ((And.left (by assumption) : Chg Never wr wq)).alloc (.cells #[.int .i64 K1, .string P, .slice none 0 0] 85)
            have hle : wr.heap.size ≤ wq.heap.size := (And.left (by assumption) : Chg Never wr wq).size
            refine hK.out _ _ (ckeep (by assumption) ((Chg.refl Never _).alloc _)) (fun hH => ?_)
            clear hK K
            try simp only [Act.put, List.setIfInBounds_toArray, List.set_cons_zero, List.set_cons_succ]
            refine' tk 12 ?_
            refine wpAnyH_done (by kernel_rfl) ?_ _
            go_wp2_with fail
            go_meet
            exact ⟨_, K1, P, B, rfl, rfl, hle, hcA, hHq, hBk⟩
          · go_simp
            refine hK.out _ _ ?_ (fun hH => ?_)
            · exact ckeep (by assumption) ((Chg.refl Never _).alloc _)
            clear hK K
            try simp only [Act.put, List.setIfInBounds_toArray, List.set_cons_zero, List.set_cons_succ]
            refine wpAnyH_ready (rs := [6]) (by kernel_rfl) (by simp) ?_
            refine AllReadyH.cons rfl (fun K hK => ?_) AllReadyH.nil
            go_simp
            go_at_call 119
            refine (headed_is x y _ zx zy).mono ?_
            rintro e wq ⟨K1, P, B, rfl, hcq, hHq⟩
            try go_wp2_with fail
            refine hK.out _ _ ?_ (fun hH => ?_)
            · exact ckeep (by assumption) hcq
            clear hK K
            try simp only [Act.put, List.setIfInBounds_toArray, List.set_cons_zero, List.set_cons_succ]
            refine' tk 7 ?_
            refine' tk 8 ?_
            refine' tk 9 ?_
            refine wpAnyH_ready (rs := [11]) (by kernel_rfl) (by simp) ?_
            refine AllReadyH.cons rfl (fun K hK => ?_) AllReadyH.nil
            have hBk : Blk3 wq wr.heap.size 85 (.int .i64 0) (.string ⟨#[]⟩) (.slice none 0 0) := (Blk3.new wr.drew 85 (.int .i64 0) (.string ⟨#[]⟩) (.slice none 0 0)).keep hcq (fun h => h)
            obtain ⟨b0, b1, b2⟩ := hBk.cell
            have f0 := hBk.free 0
            have f1 := hBk.free 1
            have f2 := hBk.free 2
            have hBk := ((hBk.set0 (.int .i64 K1)).set1 (.string P)).set2 (.slice none 0 0)
            have hcq0 : Chg Never wr wq := And.left (by assumption)
            have hcA := ((hcq0.setCell (p := ⟨wr.heap.size, 0, none⟩) (.inl (Nat.le_refl _)) (.int .i64 K1)).setCell (p := ⟨wr.heap.size, 1, none⟩) (.inl (Nat.le_refl _)) (.string P)).setCell (p := ⟨wr.heap.size, 2, none⟩) (.inl (Nat.le_refl _)) (.slice none 0 0)
            go_simp
            refine hK.out _ _ ⟨hcA, hcA.cellNever c0, hcA.cellNever c1⟩ (fun hH => ?_)
            clear hK K
            try simp only [Act.put, List.setIfInBounds_toArray, List.set_cons_zero, List.set_cons_succ]
            refine' tk 12 ?_
            refine wpAnyH_done (by kernel_rfl) ?_ _
            go_wp2_with fail
            go_meet
            exact ⟨_, K1, P, B, rfl, rfl, Nat.le_refl _, hcA, hHq, hBk⟩
        case rest =>
          obtain ⟨k, K, P, B, rfl, rfl, hk, hc, hH, hB3⟩ := hcut
          have hcc := hc.out
          rcases hH.out with ⟨rfl, hh⟩ | ⟨rfl, p, hh, hP⟩
          · clear hH hc hB3 hsub hrun c0 c1
            have hr : Hid (chgsL l = none) := cinv_head hI.out HD2.out hh
            go_wp2_with fail
            go_ret2
            exact ⟨_, by rw [hr.out]; rfl, hn.chg.trans hcc, by rw [hr.out]; exact rdv_nil _ _⟩
          · have HH := Lib.hid hh
            have hPz : P.size ≤ maxLen := by
              have := headed_len hh
              rw [hP, toB_size', ]
              rw [← Lib.size_eq, ← Lib.size_eq] at this
              unfold maxLen; omega
            have HP := Lib.hid hP
            have hkl := hB3.lt
            have hgc : Globs wc m := hg.never (hn.chg.trans hcc)
            have hrun : ∀ wx : World, (Instr.slice 86 (.slice (some ⟨g, off, none⟩) n capb) (some (.int .i64 2)) none none).run Tryz.prog wx = .ok (.slice sb (n - 2) (capb - 2)) wx := hrun
            clear hh hP hH hc c0 c1 zx zy
            go_wp2_with fail
            clear hrun
            go_loopw [0] (fun bv wx => ∃ (q : Nat) (vr : Value) (hs : List Hunk) (o d : Nat), i + 2 + q ≤ l.length ∧ Rdv w Never bv (l.drop (i + 2 + q)) ∧ RdrAt wx wc.heap.size wc.heap.size vr hs o d ∧ Chg Never wc wx ∧ Hid (RdB hs o d q) ∧ Hid (TakeInv (bytesL R2) (bytesL (l.drop (i + 2 + q))) hs o d)) (fun bv _ => sliceLenOf bv)
            case atStart => exact ⟨0, _, [], 0, 0, hil, hsub, RdrAt.new wc, (Chg.refl Never wc).alloc _, rdB_start, by rw [Nat.add_zero, HR2.out]; exact tinv_start _⟩
            case round =>
              clear hsub
              obtain ⟨q, vr, hs, o, d, hq, hb, hR, hcw, hB, hT⟩ := hrel
              rename World => wx
              obtain ⟨rb, rc, rfl, r1, r2, r3⟩ := rdv_slice hb
              unfold maxLen at r2
              have hdl : (l.drop (i + 2 + q)).length = l.length - (i + 2 + q) := List.length_drop
              have hbox := hR.box
              obtain ⟨va, vn, vc, rfl⟩ := own_isSlice hR.own
              obtain ⟨N, hN⟩ : ∃ N, (l.drop (i + 2 + q)).length = N := ⟨_, rfl⟩
              rw [hN] at hb r1 hdl ⊢
              have hNn : N < n := by have := HN.out; omega
              have HDQ : Hid ((bytesL l).drop (i + 2 + q) = bytesL (l.drop (i + 2 + q))) := bytesL_drop _ _
              have hcx : Chg Never wr wx := hcc.trans hcw
              cases hRR : l.drop (i + 2 + q) with
              | nil =>
                rw [hRR] at hN hT
                obtain rfl : N = 0 := by rw [← hN]; rfl
                clear hN r3 hdl
                by_cases hop : 0 < o ∨ 0 < d
                · have HO := Lib.hid (opn_true hop)
                  have hTk := Lib.hid (tinv_open hT.out hop)
                  clear hop hRR
                  go_wp2_with fail
                  refine (rd_open wc.heap.size (.slice va vn vc) o d _ hbox).mono ?_
                  rintro e w1 ⟨rfl, rfl⟩
                  rename World => wx
                  rw [HO.out]
                  have hr : Hid (chgsL l = none) := cinv_take hI.out HD2.out HH.out hTk.out
                  go_wp2_with fail
                  go_ret2
                  exact ⟨_, by rw [hr.out]; rfl, hn.chg.trans hcx, by rw [hr.out]; exact rdv_nil _ _⟩
                · have HO := Lib.hid (opn_false hop)
                  have hTk : Hid (takeU (bytesL R2) [] 0 0 = some (hs, (bytesL l).drop (i + 2 + q))) := by
                    rw [Hid, HDQ.out, hRR]
                    exact tinv_end hT.out hop (fun s r e => by cases e)
                  clear hop hRR
                  go_wp2_with fail
                  refine (rd_open wc.heap.size (.slice va vn vc) o d _ hbox).mono ?_
                  rintro e w1 ⟨rfl, rfl⟩
                  rename World => wx
                  rw [HO.out]
                  obtain ⟨x0, -, -⟩ := hbox.cell
                  have hBk : Blk3 wx k 85 (.int .i64 K) (.string P) (.slice none 0 0) := hB3.keep hcw (fun h => h)
                  obtain ⟨k0, k1, k2⟩ := hBk.cell
                  have kf := hBk.free 2
                  have hcS : Chg (fun b => b = k) wx (wx.setCell ⟨k, 2, none⟩ (.slice va vn vc)) := (Chg.refl (fun b => b = k) wx).setCell (p := ⟨k, 2, none⟩) (.inr rfl) _
                  have hcR : Chg Never wr (wx.setCell ⟨k, 2, none⟩ (.slice va vn vc)) := hcx.setCell (p := ⟨k, 2, none⟩) (.inl hk) _
                  obtain ⟨j0, j1, j2⟩ := (hBk.set2 (.slice va vn vc)).cell
                  have hnx := hn.never hcR
                  have hv : Rdv (wx.setCell ⟨k, 2, none⟩ (.slice va vn vc)) (Old wr.heap.size) (.slice va vn vc) hs := hR.rdv.keep hcS (fun b _ e => .inl (by rw [e]; exact hkl)) (fun b _ hb => .inl (Nat.lt_of_lt_of_le hb hcc.size))
                  have hy : Dat.rd (wx.setCell ⟨k, 2, none⟩ (.slice va vn vc)) (fun k => Old w.heap.size k ∨ (Value.slice oa on oc).ownBlock = some k) [.int .i64 K, .string P, .slice va vn vc] (⟨K, P, hs⟩ : Change) := ⟨_, rfl, hPz, hn.fresh hv⟩
                  have hLx : L.length ≤ 1000000000 := by omega
                  clear hBk hcS hcR hv
                  go_wp2_with (at_builtin; refine wpList_push (by rfl) _ _ 51 (by rfl) elemOk_change (O := Old w.heap.size) (l := L) (y := ⟨K, P, hs⟩) (by rfl) (by rfl) (by simp) hnx.own hy hnx.olds hLx ?_; intro v' w9 hown2 hc2 hk2; have hn2 := hnx.step1 hown2 hc2; clear hown2 hc2 hk2 hnx hy; obtain ⟨oa2, on2, oc2, rfl⟩ := own_isSlice hn2.own)
                  go_roundw
                  case rel => exact ⟨i + 2 + q, L ++ [⟨K, P, hs⟩], hq, hb, hn2, by rw [List.length_append]; simp only [List.length_cons, List.length_nil]; omega, by rw [HP.out]; exact cinv_step hI.out HD2.out HH.out hTk.out (by omega)⟩
                  case measure => exact hNn
              | cons s R3 =>
                have hcnd : Hid (TakeInv (bytesL R2) (s.data.toList :: bytesL R3) hs o d) := by have := hT; rw [hRR] at this; exact this
                have zs := HS.out s (List.mem_of_mem_drop (i := i + 2 + q) (by rw [hRR]; simp))
                have HD3 : Hid (l.drop (i + 2 + (q + 1)) = R3) := by
                  rw [Hid, show i + 2 + (q + 1) = i + 2 + q + 1 from rfl, ← List.drop_drop, hRR]; rfl
                obtain ⟨g2, off2, rfl, -, -, c0, -⟩ := elems_str r3 (i := 0) (x := s) (by rw [hRR]; rfl)
                simp only [Nat.add_zero] at c0
                have c0 := (hn.chg.trans hcx).cellNever c0
                obtain ⟨sb2, hrun, hsub⟩ := rdv_tail hb hN.symm (k := 1) (by rw [hRR]; simp)
                have hrun : ∀ wx : World, (Instr.slice 86 (.slice (some ⟨g2, off2, none⟩) N rc) (some (.int .i64 1)) none none).run Tryz.prog wx = .ok (.slice sb2 (N - 1) (rc - 1)) wx := hrun
                rw [List.drop_drop] at hsub
                have hN0 : 1 ≤ N := by rw [← hN, hRR]; simp
                have hNi : (0 : Int) < (N : Int) := by omega
                have hN6 : N ≤ 1000000 := by omega
                have hgx : Globs wx m := hgc.never hcw
                have hq2 : i + 2 + (q + 1) ≤ l.length := by omega
                clear r3
                by_cases hop : 0 < o ∨ 0 < d
                · have HO := Lib.hid (opn_true hop)
                  have hcd : Hid ((0 < o ∨ 0 < d) ∨ hunkHead s.data.toList = true) := .inl hop
                  clear hop hRR hN hdl
                  go_wp2_with fail
                  refine (rd_open wc.heap.size (.slice va vn vc) o d _ hbox).mono ?_
                  rintro e w1 ⟨rfl, rfl⟩
                  rename World => wx
                  rw [HO.out]
                  go_wp2_with fail
                  refine (reader_line wc.heap.size wc.heap.size (.slice va vn vc) hs o d s _ hR hB.out.ok zs ⟨by have := hB.out.on; omega, by have := hB.out.on; omega⟩ (by have := hB.out.len; omega) (fun h hh => by have := hB.out.marks h hh; omega) m hgx).mono ?_
                  rintro e wy ⟨hcy, hp⟩
                  have hcz : Chg Never wc wy := ((hcw.mono (O' := RdC wc.heap.size wc.heap.size) (fun _ _ h => h.elim)).trans hcy).mono (O' := Never) (fun k hk h => h.elim (fun e => Nat.lt_irrefl _ (e ▸ hk)) (fun e => Nat.not_lt_of_le e hk))
                  cases hrl : readLine hs o d s.data.toList with
                  | none =>
                    rw [hrl] at hp
                    subst hp
                    have hTk := Lib.hid (tinv_bad hcnd.out hcd.out hrl)
                    clear hrl hrun c0
                    have hr : Hid (chgsL l = none) := cinv_take hI.out HD2.out HH.out hTk.out
                    go_wp2_with fail
                    go_ret2
                    exact ⟨_, by rw [hr.out]; rfl, hn.chg.trans (hcc.trans hcz), by rw [hr.out]; exact rdv_nil _ _⟩
                  | some t =>
                    obtain ⟨hs', o', d'⟩ := t
                    rw [hrl] at hp
                    obtain ⟨rfl, vr', hR'⟩ := hp
                    have hT2 := Lib.hid (tinv_step hcnd.out hcd.out hrl)
                    have hB2 := Lib.hid (rdB_step hB.out hrl)
                    clear hrl c0
                    go_wp2_with fail
                    go_roundw
                    case rel => exact ⟨q + 1, vr', hs', o', d', hq2, hsub, hR', hcz, hB2, by rw [HD3.out]; exact hT2⟩
                    case measure => show N - 1 < N; omega
                · have HO := Lib.hid (opn_false hop)
                  have hpx : Lib.hasPrefix s.data.toList [64, 64] = hunkHead s.data.toList := rfl
                  cases hh : hunkHead s.data.toList with
                  | true =>
                    have HX := Lib.hid (hpx.trans hh)
                    have hcd : Hid ((0 < o ∨ 0 < d) ∨ hunkHead s.data.toList = true) := .inr hh
                    clear hop hRR hpx hh hN hdl
                    go_wp2_with fail
                    refine (rd_open wc.heap.size (.slice va vn vc) o d _ hbox).mono ?_
                    rintro e w1 ⟨rfl, rfl⟩
                    rename World => wx
                    rw [HO.out]
                    go_wp2_with fail
                    refine (Tryz.strings_HasPrefix s (toB [64, 64]) _).mono ?_
                    rintro e w1 ⟨rfl, rfl⟩
                    rename World => wx
                    rw [toB_data, HX.out]
                    go_wp2_with fail
                    refine (reader_line wc.heap.size wc.heap.size (.slice va vn vc) hs o d s _ hR hB.out.ok zs ⟨by have := hB.out.on; omega, by have := hB.out.on; omega⟩ (by have := hB.out.len; omega) (fun h hh => by have := hB.out.marks h hh; omega) m hgx).mono ?_
                    rintro e wy ⟨hcy, hp⟩
                    have hcz : Chg Never wc wy := ((hcw.mono (O' := RdC wc.heap.size wc.heap.size) (fun _ _ h => h.elim)).trans hcy).mono (O' := Never) (fun k hk h => h.elim (fun e => Nat.lt_irrefl _ (e ▸ hk)) (fun e => Nat.not_lt_of_le e hk))
                    cases hrl : readLine hs o d s.data.toList with
                    | none =>
                      rw [hrl] at hp
                      subst hp
                      have hTk := Lib.hid (tinv_bad hcnd.out hcd.out hrl)
                      clear hrl hrun c0
                      have hr : Hid (chgsL l = none) := cinv_take hI.out HD2.out HH.out hTk.out
                      go_wp2_with fail
                      go_ret2
                      exact ⟨_, by rw [hr.out]; rfl, hn.chg.trans (hcc.trans hcz), by rw [hr.out]; exact rdv_nil _ _⟩
                    | some t =>
                      obtain ⟨hs', o', d'⟩ := t
                      rw [hrl] at hp
                      obtain ⟨rfl, vr', hR'⟩ := hp
                      have hT2 := Lib.hid (tinv_step hcnd.out hcd.out hrl)
                      have hB2 := Lib.hid (rdB_step hB.out hrl)
                      clear hrl c0
                      go_wp2_with fail
                      go_roundw
                      case rel => exact ⟨q + 1, vr', hs', o', d', hq2, hsub, hR', hcz, hB2, by rw [HD3.out]; exact hT2⟩
                      case measure => show N - 1 < N; omega
                  | false =>
                    have HX := Lib.hid (hpx.trans hh)
                    have hTk : Hid (takeU (bytesL R2) [] 0 0 = some (hs, (bytesL l).drop (i + 2 + q))) := by
                      rw [Hid, HDQ.out, hRR]
                      exact tinv_end hcnd.out hop (fun s' r e => by injection e with e1 _; rw [← e1]; exact hh)
                    clear hop hRR hpx hh hN hdl
                    go_wp2_with fail
                    refine (rd_open wc.heap.size (.slice va vn vc) o d _ hbox).mono ?_
                    rintro e w1 ⟨rfl, rfl⟩
                    rename World => wx
                    rw [HO.out]
                    go_wp2_with fail
                    refine (Tryz.strings_HasPrefix s (toB [64, 64]) _).mono ?_
                    rintro e w1 ⟨rfl, rfl⟩
                    rename World => wx
                    rw [toB_data, HX.out]
                    go_wp2_with fail
                    refine (rd_open wc.heap.size (.slice va vn vc) o d _ hbox).mono ?_
                    rintro e w1 ⟨rfl, rfl⟩
                    rename World => wx
                    rw [HO.out]
                    obtain ⟨x0, -, -⟩ := hbox.cell
                    have hBk : Blk3 wx k 85 (.int .i64 K) (.string P) (.slice none 0 0) := hB3.keep hcw (fun h => h)
                    obtain ⟨k0, k1, k2⟩ := hBk.cell
                    have kf := hBk.free 2
                    have hcS : Chg (fun b => b = k) wx (wx.setCell ⟨k, 2, none⟩ (.slice va vn vc)) := (Chg.refl (fun b => b = k) wx).setCell (p := ⟨k, 2, none⟩) (.inr rfl) _
                    have hcR : Chg Never wr (wx.setCell ⟨k, 2, none⟩ (.slice va vn vc)) := hcx.setCell (p := ⟨k, 2, none⟩) (.inl hk) _
                    obtain ⟨j0, j1, j2⟩ := (hBk.set2 (.slice va vn vc)).cell
                    have hnx := hn.never hcR
                    have hv : Rdv (wx.setCell ⟨k, 2, none⟩ (.slice va vn vc)) (Old wr.heap.size) (.slice va vn vc) hs := hR.rdv.keep hcS (fun b _ e => .inl (by rw [e]; exact hkl)) (fun b _ hb => .inl (Nat.lt_of_lt_of_le hb hcc.size))
                    have hy : Dat.rd (wx.setCell ⟨k, 2, none⟩ (.slice va vn vc)) (fun k => Old w.heap.size k ∨ (Value.slice oa on oc).ownBlock = some k) [.int .i64 K, .string P, .slice va vn vc] (⟨K, P, hs⟩ : Change) := ⟨_, rfl, hPz, hn.fresh hv⟩
                    have hLx : L.length ≤ 1000000000 := by omega
                    clear hBk hcS hcR hv
                    go_wp2_with (at_builtin; refine wpList_push (by rfl) _ _ 51 (by rfl) elemOk_change (O := Old w.heap.size) (l := L) (y := ⟨K, P, hs⟩) (by rfl) (by rfl) (by simp) hnx.own hy hnx.olds hLx ?_; intro v' w9 hown2 hc2 hk2; have hn2 := hnx.step1 hown2 hc2; clear hown2 hc2 hk2 hnx hy; obtain ⟨oa2, on2, oc2, rfl⟩ := own_isSlice hn2.own)
                    go_roundw
                    case rel => exact ⟨i + 2 + q, L ++ [⟨K, P, hs⟩], hq, hb, hn2, by rw [List.length_append]; simp only [List.length_cons, List.length_nil]; omega, by rw [HP.out]; exact cinv_step hI.out HD2.out HH.out hTk.out (by omega)⟩
                    case measure => exact hNn
end Go.Proofs.YtjiaidchcldocaaGreatDoor
namespace Go.Proofs.YtjiaidchcldocaaGreatDoor
open Go.RowKit

theorem bytesL_toB (I : List (List UInt8)) : bytesL (I.map toB) = I := by
  unfold bytesL
  rw [List.map_map]
  have : ((fun x : ByteArray => x.data.toList) ∘ toB) = id := by funext x; exact toB_data x
  rw [this, List.map_id]
set_option maxHeartbeats 1000000 in
set_option maxRecDepth 100000 in
theorem gitparse_old (s : ByteArray) (w : World) (hs : s.size ≤ 100000000) (m : Int) (hg : Globs w m) :
    Calls Tryz.prog 30 #[.string s] w fun e w' => ∃ r, e = .returned (.tuple #[r, errV (parseG s.data.toList).2]) ∧ Chg Never w w' ∧ Rdv w' (Old w.heap.size) r (parseG s.data.toList).1 := by
  have hsz := Lib.size_eq s
  by_cases hl : 400000 < s.size
  · have HR : Hid (parseG s.data.toList = ([], 5)) := by unfold Hid parseG; rw [if_pos (by omega)]
    clear hsz
    go_enter Tryz.func30, Tryz.ntmps30
    go_wp2_with fail
    go_ret2
    exact ⟨_, by rw [HR.out]; rfl, Chg.refl _ _, by rw [HR.out]; exact rdv_nil _ _⟩
  · obtain ⟨I, z, hIz⟩ := last_of (parts_ne 10 s.data.toList)
    have hcnt := parts_count 10 s.data.toList
    have hpm := parts_mem 10 s.data.toList
    have HIZ := Lib.hid hIz
    have hdl : Hid ((parts 10 s.data.toList).dropLast = I) := by rw [Hid, hIz, List.dropLast_concat]
    have hgl : Hid ((parts 10 s.data.toList).getLast? = some z) := by rw [Hid, hIz]; simp
    have HSP : Hid (Lib.splitB ⟨#[10]⟩ 0 (Lib.countB s ⟨#[10]⟩) s = I.map toB ++ [toB z]) := by rw [Hid, splitB_parts, hIz, List.map_append]; rfl
    have HLEN : Hid (Lib.countB s ⟨#[10]⟩ + 1 = (I.map toB ++ [toB z]).length) := by
      have := Lib.splitB_all ⟨#[10]⟩ (by decide) 0 _ s rfl
      rw [Hid, ← this, HSP.out]
    have hIl : I.length ≤ 1000000 := by
      rw [hIz, List.length_append] at hcnt
      simp only [List.length_cons, List.length_nil] at hcnt
      omega
    have hIs : Hid (∀ x ∈ I.map toB ++ [toB z], x.size ≤ 1000000000) := by
      intro x hx
      have : ∃ y ∈ parts 10 s.data.toList, x = toB y := by
        rw [hIz]
        rcases List.mem_append.1 hx with hx | hx
        · obtain ⟨y, hy, rfl⟩ := List.mem_map.1 hx
          exact ⟨y, List.mem_append_left _ hy, rfl⟩
        · simp only [List.mem_cons, List.not_mem_nil, or_false] at hx
          exact ⟨z, by simp, hx⟩
      obtain ⟨y, hy, rfl⟩ := this
      have := hpm y hy
      rw [toB_size']
      omega
    have hbL := bytesL_toB I
    have HG : Hid (chgsL (I.map toB) = changesG (parts 10 s.data.toList).dropLast.length (parts 10 s.data.toList).dropLast) := by
      unfold Hid chgsL
      rw [hbL, hdl.out]
    have hLl : (I.map toB).length ≤ 1000000 := by rw [List.length_map]; exact hIl
    clear hIz hcnt hpm hbL hIl hdl
    generalize I.map toB = L at HSP HLEN hIs HG hLl
    have hl4 : s.data.toList.length ≤ 400000 := by omega
    have hl4 := Lib.hid hl4
    clear hsz
    go_enter Tryz.func30, Tryz.ntmps30
    go_wp2_with fail
    refine (Tryz.strings_Split s ⟨#[10]⟩ m _ (by omega) hg.ml (by decide)).mono ?_
    rintro e w2 ⟨rfl, rfl⟩
    rw [HSP.out, HLEN.out]
    have hA : Chg Never w (w.alloc (.cells ((L ++ [toB z]).map Value.string).toArray 9)) := (Chg.refl Never w).alloc _
    have hR0 : Rdv (w.alloc (.cells ((L ++ [toB z]).map Value.string).toArray 9)) Never (.slice (some ⟨w.heap.size, 0, none⟩) (L ++ [toB z]).length (L ++ [toB z]).length) (L ++ [toB z]) :=
      rdv_strs (heap_alloc_new _ _) (fun h => h) rfl (by rw [List.length_append]; simp only [List.length_cons, List.length_nil]; unfold maxLen; omega) (fun x hx => by have := hIs.out x hx; unfold maxLen; omega)
    generalize w.alloc (.cells ((L ++ [toB z]).map Value.string).toArray 9) = w3 at hR0 hA ⊢
    obtain ⟨sb, -, -, hrun, hsub⟩ := slice_g (P := Tryz.prog) (t := 86) (by kernel_rfl) size_str hR0 0 L.length (Nat.zero_le _) (by simp)
    obtain ⟨_, _, hq, -, -, hel⟩ := rdv_slice hR0
    simp only [Value.slice.injEq, true_and] at hq
    obtain ⟨rfl, rfl⟩ := hq
    obtain ⟨g, off, hq, -, -, cz, -⟩ := elems_str hel (i := L.length) (x := toB z) (by simp)
    simp only [Option.some.injEq, Addr.mk.injEq, and_true] at hq
    obtain ⟨rfl, rfl⟩ := hq
    rw [List.drop_zero, Nat.sub_zero, Nat.sub_zero, List.take_left] at hsub
    have hNL : (L ++ [toB z]).length = L.length + 1 := by simp
    rw [hNL] at hrun hsub ⊢
    rw [Nat.sub_zero, Nat.sub_zero] at hrun
    have hrun := fun (wx : World) => hrun (L.length : Nat) wx rfl rfl
    have sw : IntKind.i64.wrap (((L.length + 1 : Nat) : Int) - 1) = (L.length : Int) := by rw [show ((L.length + 1 : Nat) : Int) - 1 = (L.length : Int) by omega]; exact IntWalk.i64_in _ (by omega)
    have hCA := Lib.hid (gitchanges_old L _ _ hsub hLl (fun x hx => hIs.out x (List.mem_append_left _ hx)) m (hg.never hA))
    have hmL : Hid (m = m) := rfl
    simp only [Nat.zero_add] at cz
    generalize L.length = n at hrun hCA sw cz hLl ⊢
    clear hel hR0 hNL hsub
    go_wp2_with fail
    refine hCA.out.mono ?_
    rintro e w4 ⟨r, rfl, hc4, hr4⟩
    have hr4 : Rdv w4 (Old w.heap.size) r ((chgsL L).getD []) := hr4.sub (fun k _ hk => Nat.lt_of_lt_of_le hk hA.size)
    have cz := hc4.cellNever cz
    have hc4 := hA.trans hc4
    clear hrun sw hCA hA
    cases hC : chgsL L with
    | none =>
      rw [hC] at HG
      have HR := Lib.hid (parseG_none HG.out.symm)
      rw [Option.isSome_none]
      clear hC hr4
      go_wp2_with fail
      go_ret2
      exact ⟨_, by rw [HR.out]; rfl, by first | exact hc4 | exact hc5, by rw [HR.out]; exact rdv_nil _ _⟩
    | some p =>
      rw [hC] at HG hr4
      rw [Option.getD_some] at hr4
      rw [Option.isSome_some]
      clear hC
      cases z with
      | cons c z =>
        have HR : Hid (parseG s.data.toList = ([], 5)) := parseG_last (by rw [hgl.out]; simp)
        have tz : (toB (c :: z)).toList = c :: z := by rw [Lib.toList_data, toB_data]
        clear hr4
        go_wp2_with fail
        go_ret2
        exact ⟨_, by rw [HR.out]; rfl, by first | exact hc4 | exact hc5, by rw [HR.out]; exact rdv_nil _ _⟩
      | nil =>
        have tz : (toB []).toList = [] := by rw [Lib.toList_data, toB_data]
        have HR0 := Lib.hid (parseG_some (s := s.data.toList) hl4.out HG.out.symm hgl.out)
        have hmc := hg.ml
        have hm4 := hc4.cellNever hmc
        clear hmc
        go_wp2_with fail
        refine (patch_check_any p r _ (hr4.sub (fun k _ hk => hk.elim)) m hm4).mono ?_
        rintro e w5 ⟨rfl, hc5⟩
        have hr5 := hr4.never hc5
        have hc5 := hc4.trans hc5
        generalize (patchFault p).1 = at0
        by_cases hz : (patchFault p).2 = 0
        · have HR : Hid (parseG s.data.toList = (p, 0)) := by rw [Hid, HR0.out, if_neg (by rw [hz]; decide)]
          rw [hz, errV_zero]
          clear hz
          go_wp2_with fail
          go_ret2
          exact ⟨_, by rw [HR.out]; rfl, hc5, by rw [HR.out]; exact hr5⟩
        · have HR : Hid (parseG s.data.toList = ([], (patchFault p).2)) := by rw [Hid, HR0.out, if_pos hz]
          have HZ := Lib.hid hz
          rw [errV_pos hz]
          clear hz
          go_wp2_with fail
          go_ret2
          exact ⟨.slice none 0 0, by rw [HR.out]; show _ = Ending.returned (.tuple #[.slice none 0 0, errV (patchFault p).2]); rw [errV_pos HZ.out]; rfl, hc5, by rw [HR.out]; exact rdv_nil _ _⟩
end Go.Proofs.YtjiaidchcldocaaGreatDoor
namespace Go.Proofs.YtjiaidchcldocaaGreatDoor
open Go.RowKit

theorem load_part {w : World} {B : Nat} {T : TypeId} {x y z u : Value} (h : Blk4 w B T x y z u) : (loadVar 97 ⟨B, 0, none⟩).run Tryz.prog w = .ok (.agg #[x, y, z, u]) w := by
  obtain ⟨c0, c1, c2, c3⟩ := h.cell
  go_simp
theorem results_partF {fn : Func} {t a r : Nat} (h : fn.results = #[.cell a t, .tmp r]) {tmps : Array Value} {P : Program} {w : World} {p : Addr} {v : Value} (ha : tmps.getD a undef = .pointer (some p)) (hl : (loadVar t p).run P w = .ok v w) :
    (results fn tmps).run P w = .ok (.tuple #[v, tmps.getD r undef]) w := by
  simp [results, h, -Array.getD_eq_getD_getElem?, ha, asAddr, hl]
theorem titled_here (s : ByteArray) (w : World) (hs : s.size ≤ maxLen) :
    Calls Tryz.prog 43 #[.string s] w fun e w' => e = .returned (.bool (titledB s.data.toList)) ∧ w' = w := (titled_any s w hs).mono fun _ _ h => ⟨h.1, h.2.symm⟩
def AtoiPost (s : ByteArray) (w : World) (e : Ending) (w' : World) : Prop := ∃ (x : Int) (v : Value), I64 x ∧ e = .returned (.tuple #[.int .i64 x, v]) ∧ Chg Never w w' ∧ ((v = .nilIface ∧ Lib.atoiAll s.data.toList = .ok x) ∨ ∃ T p, v = .iface T p ∧ ∀ y, Lib.atoiAll s.data.toList ≠ .ok y)
theorem atoi_each (s : ByteArray) (hs : s.size ≤ 1000000000) (w : World) (m : Int) (hg : Globs w m) :
    Calls Tryz.prog 99 #[.string s] w (AtoiPost s w) := by
  by_cases hok : ∃ v, Lib.atoiAll s.data.toList = .ok v
  · obtain ⟨v, hv⟩ := hok
    obtain ⟨vb0, vb1⟩ := Lib.atoiAll_bounds hv
    refine (Tryz.strconv_Atoi_ok s (by omega) v hv _).mono ?_
    rintro e w1 ⟨rfl, hW⟩
    refine ⟨v, _, ⟨by omega, by omega⟩, rfl, ?_, .inl ⟨rfl, hv⟩⟩
    rcases hW with rfl | ⟨t, rfl⟩
    · exact Chg.refl _ _
    · exact Chg.of_below (Lib.bytesWorld_below _ _ _)
  · refine (atoi_bad s hs (fun v q => hok ⟨v, q⟩) _ m hg).mono ?_
    rintro e w1 ⟨x, T, p, hx, rfl, hc1⟩
    exact ⟨x, _, hx, rfl, hc1, .inr ⟨T, p, rfl, fun y q => hok ⟨y, q⟩⟩⟩
def SReadPost (m : Mail) (w : World) (e : Ending) (w' : World) : Prop := ∃ (t : ByteArray) (a b : Int) (pv : Value) (L : List Change), e = .returned (.tuple #[.agg #[.string t, .int .i64 a, .int .i64 b, pv], errV (pieceF m)]) ∧ Chg Never w w' ∧ Rdv w' (Old w.heap.size) pv L ∧ (pieceF m = 0 → t = toB (pieceOf m).title ∧ a = (pieceOf m).at' ∧ b = (pieceOf m).many ∧ L = (pieceOf m).patch)
theorem sread_no {m : Mail} {w w' : World} {e : Ending} {k : Int} (hk : pieceF m = k) (h0 : k ≠ 0) (he : e = .returned (.tuple #[.agg #[.string ⟨#[]⟩, .int .i64 0, .int .i64 0, .slice none 0 0], errV k])) (hc : Chg Never w w') : SReadPost m w e w' :=
  ⟨_, _, _, _, [], by rw [hk]; exact he, hc, rdv_nil _ _, fun h => absurd (hk.symm.trans h) h0⟩
theorem skeep8 {w2 wr wq : World} {A Q : Nat} {a b c d e f g h : Value} (H : Chg Never w2 wr ∧ (wr.cell? ⟨A, 0, none⟩ = some a ∧ wr.cell? ⟨A, 1, none⟩ = some b ∧ wr.cell? ⟨A, 2, none⟩ = some c ∧ wr.cell? ⟨A, 3, none⟩ = some d) ∧ wr.cell? ⟨Q, 0, none⟩ = some e ∧ wr.cell? ⟨Q, 1, none⟩ = some f ∧ wr.cell? ⟨Q, 2, none⟩ = some g ∧ wr.cell? ⟨Q, 3, none⟩ = some h) (k : Chg Never wr wq) :
    Chg Never w2 wq ∧ (wq.cell? ⟨A, 0, none⟩ = some a ∧ wq.cell? ⟨A, 1, none⟩ = some b ∧ wq.cell? ⟨A, 2, none⟩ = some c ∧ wq.cell? ⟨A, 3, none⟩ = some d) ∧ wq.cell? ⟨Q, 0, none⟩ = some e ∧ wq.cell? ⟨Q, 1, none⟩ = some f ∧ wq.cell? ⟨Q, 2, none⟩ = some g ∧ wq.cell? ⟨Q, 3, none⟩ = some h := by
  obtain ⟨h1, ⟨h2, h3, h4, h5⟩, h6, h7, h8, h9⟩ := H
  exact ⟨h1.trans k, ⟨k.cellNever h2, k.cellNever h3, k.cellNever h4, k.cellNever h5⟩, k.cellNever h6, k.cellNever h7, k.cellNever h8, k.cellNever h9⟩
set_option maxHeartbeats 4000000 in
set_option maxRecDepth 100000 in
theorem sread_any (m : Mail) (v : Value) (w : World) (h : Rdv w Never v m.body) (hsz : MailSz m) (mx : Int) (hg : Globs w mx) :
    Calls Tryz.prog 46 #[mailV m v] w (SReadPost m w) := by
  obtain ⟨ba, bc, rfl, b1, b2, -⟩ := rdv_slice h
  unfold maxLen at b2
  obtain ⟨z1, z2, z3⟩ := hsz
  obtain ⟨W1, hW1⟩ : ∃ W, w.alloc (.cells #[.string m.sender, .string m.subject, .string m.ident, .slice ba m.body.length bc] 31) = W := ⟨_, rfl⟩
  obtain ⟨A, hAe⟩ : ∃ A, w.heap.size = A := ⟨_, rfl⟩
  have hA0 := Blk4.new w 31 (.string m.sender) (.string m.subject) (.string m.ident) (.slice ba m.body.length bc)
  have hc1 : Chg Never w W1 := by rw [← hW1]; exact (Chg.refl Never w).alloc _
  rw [hW1, hAe] at hA0
  obtain ⟨W2, hW2⟩ : ∃ W, W1.alloc (.cells #[.string ⟨#[]⟩, .int .i64 0, .int .i64 0, .slice none 0 0] 97) = W := ⟨_, rfl⟩
  obtain ⟨R, hRe⟩ : ∃ R, W1.heap.size = R := ⟨_, rfl⟩
  have hR2 := Blk4.new W1 97 (.string ⟨#[]⟩) (.int .i64 0) (.int .i64 0) (.slice none 0 0)
  have hA2 := hA0.keep ((Chg.refl Never W1).alloc (.cells #[.string ⟨#[]⟩, .int .i64 0, .int .i64 0, .slice none 0 0] 97)) (fun h => h)
  have hc2 := hc1.alloc (.cells #[.string ⟨#[]⟩, .int .i64 0, .int .i64 0, .slice none 0 0] 97)
  have hRle : w.heap.size ≤ R := by rw [← hRe]; exact hc1.size
  have hAR : A < R := by rw [← hRe]; exact hA0.lt
  rw [hW2] at hR2 hA2 hc2
  rw [hRe] at hR2
  obtain ⟨x0, x1, x2, x3⟩ := hA2.cell
  have HAE := Lib.hid hAe
  clear hA0 hc1
  go_enter Tryz.func46, Tryz.ntmps46
  go_wp2_with fail
  clear hW1 hAe hW2 hRe
  refine (mail_check_any m (.slice ba m.body.length bc) _ (h.never hc2) ⟨z1, z2, z3⟩).mono ?_
  rintro e W3 ⟨rfl, hc3⟩
  have hR3 := hR2.keep hc3 (fun h => h)
  have hA3 := hA2.keep hc3 (fun h => h)
  have hc3 := hc2.trans hc3
  clear hR2 hA2 hc2 x0 x1 x2 x3
  by_cases hz : mailFault m = 0
  · obtain ⟨s1, s2, s3, s4⟩ := mail_small hz
    have HF := Lib.hid hz
    obtain ⟨P, hP⟩ : ∃ P, Lib.trimPrefix m.subject.data.toList patW = P := ⟨_, rfl⟩
    obtain ⟨ca, hca⟩ : ∃ x, cutA [47] P = x := ⟨_, rfl⟩
    obtain ⟨r, hr⟩ : ∃ x, cutB [47] P = x := ⟨_, rfl⟩
    obtain ⟨cb, hcb⟩ : ∃ x, cutA [93, 32] r = x := ⟨_, rfl⟩
    obtain ⟨t, ht⟩ : ∃ x, cutB [93, 32] r = x := ⟨_, rfl⟩
    have HA : Hid (subA m = ca) := by unfold Hid subA; rw [hP, hca]
    have HB : Hid (subB m = cb) := by unfold Hid subB; rw [hP, hr, hcb]
    have HT : Hid (subT m = t) := by unfold Hid subT; rw [hP, hr, ht]
    have l0 := trim_len m.subject.data.toList patW
    rw [hP, ← Lib.size_eq] at l0
    have l1 := cutA_len [47] P
    have l2 := cutB_len [47] P
    have l3 := cutA_len [93, 32] r
    have l4 := cutB_len [93, 32] r
    rw [hca] at l1
    rw [hr] at l2
    rw [hcb] at l3
    rw [ht] at l4
    have E5 : Hid (Lib.cut P [47] = (ca, r, (cutSub [47] P).isSome)) := by rw [Hid, lib_cut (by simp), hca, hr]
    have E6 : Hid (Lib.cut r [93, 32] = (cb, t, (cutSub [93, 32] r).isSome)) := by rw [Hid, lib_cut (by simp), hcb, ht]
    have EP := Lib.hid hP
    rw [hz, errV_zero]
    clear hz hP hca hr hcb ht
    obtain ⟨x0, x1, x2, x3⟩ := hA3.cell
    go_wp2_with fail
    clear x0 x1 x2 x3
    refine (Tryz.strings_CutPrefix m.subject (toB patW) _).mono ?_
    rintro e w1 ⟨rfl, rfl⟩
    rename World => W3
    rw [toB_data, EP.out, show (⟨P.toArray⟩ : ByteArray) = toB P from rfl]
    generalize Lib.hasPrefix m.subject.data.toList patW = pb
    go_wp2_with fail
    refine (Tryz.strings_Cut (toB P) (toB [47]) mx _ (by rw [toB_size']; omega) (hg.never hc3).ml).mono ?_
    rintro e w2 ⟨rfl, nd, rfl⟩
    have hc4 : Chg Never W3 (W3.drewN nd) := (Chg.refl Never W3).drewN nd
    rw [toB_data, toB_data, E5.out, show (⟨ca.toArray⟩ : ByteArray) = toB ca from rfl, show (⟨r.toArray⟩ : ByteArray) = toB r from rfl]
    generalize (cutSub [47] P).isSome = fb
    generalize W3.drewN nd = W4 at hc4 ⊢
    go_wp2_with fail
    refine (Tryz.strings_Cut (toB r) (toB [93, 32]) mx _ (by rw [toB_size']; omega) (hg.never (hc3.trans hc4)).ml).mono ?_
    rintro e w2 ⟨rfl, nd, rfl⟩
    have hc5 := hc4.drewN nd
    rw [toB_data, toB_data, E6.out, show (⟨cb.toArray⟩ : ByteArray) = toB cb from rfl, show (⟨t.toArray⟩ : ByteArray) = toB t from rfl]
    generalize (cutSub [93, 32] r).isSome = fb2
    generalize W4.drewN nd = W5 at hc5 ⊢
    clear hc4 E5 E6 EP
    go_wp2_with fail
    refine (atoi_each (toB ca) (by rw [toB_size']; omega) _ mx (hg.never (hc3.trans hc5))).mono ?_
    rintro e w6 ⟨x, ev1, hx, rfl, hc6, ho1⟩
    have hc6 := hc5.trans hc6
    rw [toB_data] at ho1
    go_wp2_with fail
    refine (atoi_each (toB cb) (by rw [toB_size']; omega) _ mx (hg.never (hc3.trans hc6))).mono ?_
    rintro e w7 ⟨y, ev2, hy, rfl, hc7, ho2⟩
    have hc7 := hc6.trans hc7
    rw [toB_data] at ho2
    have hc8 := hc7.alloc (.cells #[.string (toB t), .int .i64 x, .int .i64 y, .slice none 0 0] 97)
    have hR7 := hR3.keep hc8 (fun h => h)
    have hA7 := hA3.keep hc8 (fun h => h)
    have hcc := hc3.trans hc8
    have hP7 := Blk4.new w7 97 (.string (toB t)) (.int .i64 x) (.int .i64 y) (.slice none 0 0)
    have hR8 := hR3.keep hc7 (fun h => h)
    have hRP := hR8.lt
    clear hR8
    obtain ⟨ax, ay, ae⟩ : I64 x ∧ I64 y ∧ True := ⟨hx, hy, trivial⟩
    clear hc5 hc6 hc7 hc8
    go_wp2_with fail
    obtain ⟨W7, hW7⟩ : ∃ W, w7.alloc (.cells #[.string (toB t), .int .i64 x, .int .i64 y, .slice none 0 0] 97) = W := ⟨_, rfl⟩
    obtain ⟨Q, hQe⟩ : ∃ Q, w7.heap.size = Q := ⟨_, rfl⟩
    rw [hW7] at hR7 hA7 hcc hP7 ⊢
    rw [hQe] at hP7 hRP ⊢
    clear hW7 hQe hR3 hA3
    have htz : (toB t).size ≤ maxLen := by rw [toB_size']; unfold maxLen; omega
    rcases ho1 with ⟨rfl, ho1⟩ | ⟨T1, p1, rfl, ho1⟩
    · rcases ho2 with ⟨rfl, ho2⟩ | ⟨T2, p2, rfl, ho2⟩
      · have eqx : ∀ x' y', ReadOk m x' y' → x' = x ∧ y' = y := fun x' y' q => by
          have q1 := q.1
          have q2 := q.2.1
          rw [HA.out, ho1] at q1
          rw [HB.out, ho2] at q2
          injection q1 with q1
          injection q2 with q2
          exact ⟨q1.symm, q2.symm⟩
        by_cases hx0 : x < 0
        · have u1 : decide (x < 0) = true := decide_eq_true hx0
          have hk := Lib.hid (pieceF_none HF.out (read_none (fun x' y' q => by have := (eqx x' y' q).1; have := q.2.2.1; omega)))
          go_quiet (fail)
          have hR7 := hR7.keep (O := Never) ((Chg.refl Never W7).drewN nq) (fun h => h)
          have hcc := hcc.drewN nq
          generalize W7.drewN nq = W8 at hR7 hcc ⊢
          obtain ⟨k0, k1, k2, k3⟩ := hR7.cell
          have f0 := hR7.free 0
          have f1 := hR7.free 1
          have f2 := hR7.free 2
          have f3 := hR7.free 3
          obtain ⟨j0, j1, j2, j3⟩ := (hR7.setAll (.string ⟨#[]⟩) (.int .i64 0) (.int .i64 0) (.slice none 0 0)).cell
          go_wp2_with fail
          try simp only [Exit.inBlock, Exit.then]
          refine bodyPost_ret (results_partF rfl rfl (load_part (hR7.setAll _ _ _ _))) rfl ?_
          exact sread_no hk.out (by decide) rfl (chg_four hcc (.inl hRle) _ _ _ _)
        · have u1 : decide (x < 0) = false := decide_eq_false hx0
          by_cases hxy : y < x
          · have u2 : decide (y < x) = true := decide_eq_true hxy
            have hk := Lib.hid (pieceF_none HF.out (read_none (fun x' y' q => by have := eqx x' y' q; have := q.2.2.2.1; omega)))
            go_quiet (fail)
            have hR7 := hR7.keep (O := Never) ((Chg.refl Never W7).drewN nq) (fun h => h)
            have hcc := hcc.drewN nq
            generalize W7.drewN nq = W8 at hR7 hcc ⊢
            obtain ⟨k0, k1, k2, k3⟩ := hR7.cell
            have f0 := hR7.free 0
            have f1 := hR7.free 1
            have f2 := hR7.free 2
            have f3 := hR7.free 3
            obtain ⟨j0, j1, j2, j3⟩ := (hR7.setAll (.string ⟨#[]⟩) (.int .i64 0) (.int .i64 0) (.slice none 0 0)).cell
            go_wp2_with fail
            try simp only [Exit.inBlock, Exit.then]
            refine bodyPost_ret (results_partF rfl rfl (load_part (hR7.setAll _ _ _ _))) rfl ?_
            exact sread_no hk.out (by decide) rfl (chg_four hcc (.inl hRle) _ _ _ _)
          · have u2 : decide (y < x) = false := decide_eq_false hxy
            by_cases hy8 : 8 < y
            · have u3 : decide ((8 : Int) < y) = true := decide_eq_true hy8
              have hk := Lib.hid (pieceF_none HF.out (read_none (fun x' y' q => by have := eqx x' y' q; have := q.2.2.2.2.1; omega)))
              go_quiet (fail)
              have hR7 := hR7.keep (O := Never) ((Chg.refl Never W7).drewN nq) (fun h => h)
              have hcc := hcc.drewN nq
              generalize W7.drewN nq = W8 at hR7 hcc ⊢
              obtain ⟨k0, k1, k2, k3⟩ := hR7.cell
              have f0 := hR7.free 0
              have f1 := hR7.free 1
              have f2 := hR7.free 2
              have f3 := hR7.free 3
              obtain ⟨j0, j1, j2, j3⟩ := (hR7.setAll (.string ⟨#[]⟩) (.int .i64 0) (.int .i64 0) (.slice none 0 0)).cell
              go_wp2_with fail
              try simp only [Exit.inBlock, Exit.then]
              refine bodyPost_ret (results_partF rfl rfl (load_part (hR7.setAll _ _ _ _))) rfl ?_
              exact sread_no hk.out (by decide) rfl (chg_four hcc (.inl hRle) _ _ _ _)
            · have u3 : decide ((8 : Int) < y) = false := decide_eq_false hy8
              cases htt : titledB t with
              | false =>
                have HTT := Lib.hid htt
                have hk := Lib.hid (pieceF_none HF.out (read_none (fun x' y' q => by have := q.2.2.2.2.2.1; rw [HT.out, HTT.out] at this; cases this)))
                go_quiet (first | (go_at_call 43; refine Calls.quiet_of_same ((titled_any (toB t) _ htz).mono fun e w' hh => ⟨by rw [hh.1, toB_data, HTT.out], hh.2.symm⟩)))
                have hR7 := hR7.keep (O := Never) ((Chg.refl Never W7).drewN nq) (fun h => h)
                have hcc := hcc.drewN nq
                generalize W7.drewN nq = W8 at hR7 hcc ⊢
                obtain ⟨k0, k1, k2, k3⟩ := hR7.cell
                have f0 := hR7.free 0
                have f1 := hR7.free 1
                have f2 := hR7.free 2
                have f3 := hR7.free 3
                obtain ⟨j0, j1, j2, j3⟩ := (hR7.setAll (.string ⟨#[]⟩) (.int .i64 0) (.int .i64 0) (.slice none 0 0)).cell
                go_wp2_with fail
                try simp only [Exit.inBlock, Exit.then]
                refine bodyPost_ret (results_partF rfl rfl (load_part (hR7.setAll _ _ _ _))) rfl ?_
                exact sread_no hk.out (by decide) rfl (chg_four hcc (.inl hRle) _ _ _ _)
              | true =>
                have HTT := Lib.hid htt
                by_cases hfr : m.sender.data.toList = handW
                · have u4 : (m.sender.toList == [104, 97, 110, 100, 115, 116, 105, 116, 99, 104]) = true := by rw [Lib.toList_data, hfr]; rfl
                  have u5 : (m.sender.toList != [104, 97, 110, 100, 115, 116, 105, 116, 99, 104]) = false := by rw [bne, u4]; rfl
                  obtain ⟨x0, x1, x2, x3⟩ := hA7.cell
                  obtain ⟨q0, q1, q2, q3⟩ := hP7.cell
                  obtain ⟨xn, hxn⟩ : ∃ n : Nat, x = n := ⟨x.toNat, by omega⟩
                  obtain ⟨yn, hyn⟩ : ∃ n : Nat, y = n := ⟨y.toNat, by omega⟩
                  have l8 : yn ≤ 8 := by omega
                  have lx : xn ≤ yn := by omega
                  have exy : x.toNat = xn ∧ y.toNat = yn := by omega
                  obtain ⟨X, hX⟩ : ∃ X, toB (subjL xn yn t) = X := ⟨_, rfl⟩
                  obtain ⟨Y, hY⟩ : ∃ Y, toB (idL xn yn) = Y := ⟨_, rfl⟩
                  have FS : Hid (∀ wx, Calls Tryz.prog 44 #[.agg #[.string (toB t), .int .i64 x, .int .i64 y, .slice none 0 0]] wx fun e w' => e = .returned (.string X) ∧ Chg Never wx w') := fun wx => by
                    have := subject_any (toB t) xn yn (.slice none 0 0) wx (by omega) l8 (by rw [toB_size']; omega) rfl
                    rw [toB_data, hX, ← hxn, ← hyn] at this
                    exact this
                  have FI : Hid (∀ wx, Calls Tryz.prog 45 #[.agg #[.string (toB t), .int .i64 x, .int .i64 y, .slice none 0 0]] wx fun e w' => e = .returned (.string Y) ∧ Chg Never wx w') := fun wx => by
                    have := partid_any (toB t) xn yn (.slice none 0 0) wx (by omega) l8
                    rw [hY, ← hxn, ← hyn] at this
                    exact this
                  have HXN := Lib.hid hxn
                  have HYN := Lib.hid hyn
                  clear hxn hyn
                  have eX : Hid (X.toList = subjL xn yn t) := by rw [Hid, ← hX, Lib.toList_data, toB_data]
                  have eY : Hid (Y.toList = idL xn yn) := by rw [Hid, ← hY, Lib.toList_data, toB_data]
                  clear hX hY
                  have hD7 : Chg Never W7 W7.drew := (Chg.refl Never W7).drew
                  refine wp_region_held_drew (S := (fun w' => Chg Never W7 w' ∧ (w'.cell? ⟨A, 0, none⟩ = some (.string m.sender) ∧ w'.cell? ⟨A, 1, none⟩ = some (.string m.subject) ∧ w'.cell? ⟨A, 2, none⟩ = some (.string m.ident) ∧ w'.cell? ⟨A, 3, none⟩ = some (.slice ba m.body.length bc)) ∧ w'.cell? ⟨Q, 0, none⟩ = some (.string (toB t)) ∧ w'.cell? ⟨Q, 1, none⟩ = some (.int .i64 x) ∧ w'.cell? ⟨Q, 2, none⟩ = some (.int .i64 y) ∧ w'.cell? ⟨Q, 3, none⟩ = some (.slice none 0 0))) (by kernel_rfl) ⟨hD7, ⟨x0, x1, x2, x3⟩, q0, q1, q2, q3⟩ (fun hH => ?_)
                  refine' tk 0 ?_
                  refine' tk 1 ?_
                  refine' tk 2 ?_
                  refine' tk 3 ?_
                  refine' tk 4 ?_
                  refine' tk 5 ?_
                  refine' tk 6 ?_
                  refine' tk 7 ?_
                  refine' tk 8 ?_
                  refine' tk 9 ?_
                  refine' tk 10 ?_
                  refine' tk 11 ?_
                  refine' tk 12 ?_
                  refine' tk 13 ?_
                  refine' tk 14 ?_
                  refine' tk 15 ?_
                  refine' tk 16 ?_
                  refine' tk 17 ?_
                  refine' tk 18 ?_
                  refine' tk 19 ?_
                  refine' tk 20 ?_
                  refine wpAnyH_ready (rs := [21]) (by kernel_rfl) (by simp) ?_
                  refine AllReadyH.cons rfl (fun K hK => ?_) AllReadyH.nil
                  go_simp
                  (go_at_call 43; refine (titled_here (toB t) _ htz).mono ?_; rintro e wq ⟨rfl, rfl⟩; rw [toB_data, HTT.out])
                  try go_wp2_with fail
                  refine hK.out _ _ ?_ (fun hH => ?_)
                  · assumption
                  clear hK K
                  try simp only [Act.put, List.setIfInBounds_toArray, List.set_cons_zero, List.set_cons_succ]
                  refine' tk 22 ?_
                  refine' tk 23 ?_
                  refine' tk 24 ?_
                  refine' tk 25 ?_
                  refine' tk 26 ?_
                  refine' tk 27 ?_
                  refine' tk 28 ?_
                  refine' tk 29 ?_
                  refine' tk 30 ?_
                  refine' tk 31 ?_
                  refine' tk 32 ?_
                  refine wpAnyH_ready (rs := [33]) (by kernel_rfl) (by simp) ?_
                  refine AllReadyH.cons rfl (fun K hK => ?_) AllReadyH.nil
                  go_simp
                  (go_at_call 44; refine (FS.out _).mono ?_; rintro e wq ⟨rfl, hcq⟩; have hS2 := skeep8 (by assumption) hcq)
                  try go_wp2_with fail
                  refine hK.out _ _ ?_ (fun hH => ?_)
                  · assumption
                  clear hK K
                  try simp only [Act.put, List.setIfInBounds_toArray, List.set_cons_zero, List.set_cons_succ]
                  by_cases hsu : m.subject.data.toList = subjL xn yn t
                  · have u6 : (m.subject.toList == X.toList) = true := by rw [Lib.toList_data m.subject, hsu, eX.out]; simp
                    have u7 : (m.subject.toList != X.toList) = false := by rw [bne, u6]; rfl
                    refine' tk 34 ?_
                    refine' tk 35 ?_
                    refine' tk 36 ?_
                    refine' tk 37 ?_
                    refine' tk 38 ?_
                    refine' tk 39 ?_
                    refine wpAnyH_ready (rs := [40]) (by kernel_rfl) (by simp) ?_
                    refine AllReadyH.cons rfl (fun K hK => ?_) AllReadyH.nil
                    go_simp
                    (go_at_call 45; refine (FI.out _).mono ?_; rintro e wq ⟨rfl, hcq⟩; have hS2 := skeep8 (by assumption) hcq)
                    try go_wp2_with fail
                    refine hK.out _ _ ?_ (fun hH => ?_)
                    · assumption
                    clear hK K
                    try simp only [Act.put, List.setIfInBounds_toArray, List.set_cons_zero, List.set_cons_succ]
                    by_cases hid : m.ident.data.toList = idL xn yn
                    · have u8 : (m.ident.toList == Y.toList) = true := by rw [Lib.toList_data m.ident, hid, eY.out]; simp
                      have u9 : (m.ident.toList != Y.toList) = false := by rw [bne, u8]; rfl
                      clear eX eY
                      by_cases h0 : xn = 0
                      · have v0 : decide (x = 0) = true := decide_eq_true (by have := HXN.out; omega)
                        have v0b : (x == 0) = true := v0
                        have v0c : (x != 0) = false := by rw [bne, v0b]; rfl
                        by_cases hbd : m.body = []
                        · have v1 : decide ((0 : Int) < (m.body.length : Int)) = false := decide_eq_false (by rw [hbd]; simp)
                          have v2 : decide (0 < m.body.length) = false := decide_eq_false (by rw [hbd]; simp)
                          have HP := Lib.hid (read_of (m := m) (x := x) (y := y) ⟨by rw [HA.out]; exact ho1, by rw [HB.out]; exact ho2, by omega, by omega, by omega, by rw [HT.out]; exact htt, hfr, by rw [HT.out, exy.1, exy.2]; exact hsu, by rw [exy.1, exy.2]; exact hid, fun q => q.2 hbd⟩)
                          clear hbd
                          refine' tk 41 ?_
                          refine' tk 42 ?_
                          refine' tk 43 ?_
                          refine' tk 44 ?_
                          refine' tk 45 ?_
                          refine' tk 46 ?_
                          refine' tk 47 ?_
                          refine' tk 48 ?_
                          refine' tk 49 ?_
                          refine' tk 50 ?_
                          refine' tk 51 ?_
                          refine' tk 52 ?_
                          refine wpAnyH_done (by kernel_rfl) ?_ _
                          have hF := And.left (by assumption : Chg Never W7 wq ∧ _)
                          have hR9 := hR7.keep hF (fun h => h)
                          have hA9 := hA7.keep hF (fun h => h)
                          have hP9 := hP7.keep hF (fun h => h)
                          have hcd := hcc.trans hF
                          have hQR : R < Q := hRP
                          have HPS := Lib.hid (pieceF_some HF.out HP.out)
                          clear x0 x1 x2 x3 q0 q1 q2 q3 hR7 hA7 hP7 hcc hF
                          obtain ⟨x0, x1, x2, x3⟩ := hA9.cell
                          have hcv := conv_str (h.never hcd)
                          go_wp2_with fail
                          refine (gitparse_old (toB m.body) _ (by rw [toB_size']; omega) mx (hg.never hcd)).mono ?_
                          rintro e w9 ⟨r9, rfl, hc9, hr9⟩
                          rw [toB_data] at hr9 ⊢
                          have hR9 := hR9.keep hc9 (fun h => h)
                          have hPw := hP9.lt
                          have hP9 := hP9.keep hc9 (fun h => h)
                          have hcd := hcd.trans hc9
                          have hwq : w.heap.size ≤ wq.heap.size := by omega
                          clear x0 x1 x2 x3 hA9 hc9 hcv
                          obtain ⟨ra, rc, rfl, _, _, _⟩ := rdv_slice hr9
                          obtain ⟨q0, q1, q2, q3⟩ := hP9.cell
                          have g3 := hP9.free 3
                          obtain ⟨e0, e1, e2, e3⟩ := (hP9.set3 (.slice ra (parseG m.body).1.length rc)).cell
                          have hR10 := hR9.keep (O := fun k => k = Q) ((Chg.refl (fun k => k = Q) w9).setCell (p := ⟨Q, 3, none⟩) (.inr rfl) (.slice ra (parseG m.body).1.length rc)) (by omega)
                          have hcd10 := hcd.setCell (p := ⟨Q, 3, none⟩) (.inl (by show w.heap.size ≤ Q; omega)) (.slice ra (parseG m.body).1.length rc)
                          obtain ⟨k0, k1, k2, k3⟩ := hR10.cell
                          have f0 := hR10.free 0
                          have f1 := hR10.free 1
                          have f2 := hR10.free 2
                          have f3 := hR10.free 3
                          have hR11 := hR10.setAll (.string (toB t)) (.int .i64 x) (.int .i64 y) (.slice ra (parseG m.body).1.length rc)
                          obtain ⟨j0, j1, j2, j3⟩ := hR11.cell
                          go_wp2_with fail
                          try simp only [Exit.inBlock, Exit.then]
                          refine bodyPost_ret (results_partF rfl rfl (load_part (hR11))) rfl ?_
                          have hch : Chg (fun k => k = Q ∨ k = R) w9 _ := chg_four ((Chg.refl (fun k => k = Q ∨ k = R) w9).setCell (p := ⟨Q, 3, none⟩) (.inr (.inl rfl)) (.slice ra (parseG m.body).1.length rc)) (.inr (.inr rfl)) (.string (toB t)) (.int .i64 x) (.int .i64 y) (.slice ra (parseG m.body).1.length rc)
                          refine ⟨toB t, x, y, _, _, by rw [HPS.out.1]; rfl, chg_four hcd10 (.inl hRle) _ _ _ _, hr9.keep hch (fun k _ hk => by unfold Old; rcases hk with hk | hk <;> omega) (fun k _ hk => Nat.lt_of_lt_of_le hk hwq), fun _ => ?_⟩
                          rw [HPS.out.2, HT.out]
                          exact ⟨rfl, by show x = ((x.toNat : Nat) : Int); omega, by show y = ((y.toNat : Nat) : Int); omega, rfl⟩
                        · have hbl : 0 < m.body.length := List.length_pos_iff.2 hbd
                          have v1 : decide ((0 : Int) < (m.body.length : Int)) = true := decide_eq_true (by omega)
                          have v2 : decide (0 < m.body.length) = true := decide_eq_true hbl
                          clear hbl
                          refine' tk 41 ?_
                          refine' tk 42 ?_
                          refine' tk 43 ?_
                          refine' tk 44 ?_
                          refine' tk 45 ?_
                          refine' tk 46 ?_
                          refine' tk 47 ?_
                          refine' tk 48 ?_
                          refine' tk 49 ?_
                          refine' tk 50 ?_
                          refine' tk 51 ?_
                          refine' tk 52 ?_
                          refine wpAnyH_done (by kernel_rfl) ?_ _
                          have hF := And.left (by assumption : Chg Never W7 wq ∧ _)
                          have hk := Lib.hid (pieceF_none HF.out (read_none (fun x' y' q => q.2.2.2.2.2.2.2.2.2 ⟨by have := (eqx x' y' q).1; have := HXN.out; omega, hbd⟩)))
                          have hR7 := hR7.keep hF (fun h => h)
                          have hcd := hcc.trans hF
                          obtain ⟨k0, k1, k2, k3⟩ := hR7.cell
                          have f0 := hR7.free 0
                          have f1 := hR7.free 1
                          have f2 := hR7.free 2
                          have f3 := hR7.free 3
                          obtain ⟨j0, j1, j2, j3⟩ := (hR7.setAll (.string ⟨#[]⟩) (.int .i64 0) (.int .i64 0) (.slice none 0 0)).cell
                          go_wp2_with fail
                          try simp only [Exit.inBlock, Exit.then]
                          refine bodyPost_ret (results_partF rfl rfl (load_part (hR7.setAll _ _ _ _))) rfl ?_
                          exact sread_no hk.out (by decide) rfl (chg_four hcd (.inl hRle) _ _ _ _)
                      · have v0 : decide (x = 0) = false := decide_eq_false (by have := HXN.out; omega)
                        have v0b : (x == 0) = false := v0
                        have v0c : (x != 0) = true := by rw [bne, v0b]; rfl
                        have HP := Lib.hid (read_of (m := m) (x := x) (y := y) ⟨by rw [HA.out]; exact ho1, by rw [HB.out]; exact ho2, by omega, by omega, by omega, by rw [HT.out]; exact htt, hfr, by rw [HT.out, exy.1, exy.2]; exact hsu, by rw [exy.1, exy.2]; exact hid, fun q => h0 (by have := HXN.out; have := q.1; omega)⟩)
                        refine' tk 41 ?_
                        refine' tk 42 ?_
                        refine' tk 43 ?_
                        refine' tk 44 ?_
                        refine' tk 45 ?_
                        refine' tk 46 ?_
                        refine' sk 47 ?_
                        refine' sk 48 ?_
                        refine' sk 49 ?_
                        refine' sk 50 ?_
                        refine' tk 51 ?_
                        refine' tk 52 ?_
                        refine wpAnyH_done (by kernel_rfl) ?_ _
                        have hF := And.left (by assumption : Chg Never W7 wq ∧ _)
                        have hR9 := hR7.keep hF (fun h => h)
                        have hA9 := hA7.keep hF (fun h => h)
                        have hP9 := hP7.keep hF (fun h => h)
                        have hcd := hcc.trans hF
                        have hQR : R < Q := hRP
                        have HPS := Lib.hid (pieceF_some HF.out HP.out)
                        clear x0 x1 x2 x3 q0 q1 q2 q3 hR7 hA7 hP7 hcc hF
                        obtain ⟨x0, x1, x2, x3⟩ := hA9.cell
                        have hcv := conv_str (h.never hcd)
                        go_wp2_with fail
                        refine (gitparse_old (toB m.body) _ (by rw [toB_size']; omega) mx (hg.never hcd)).mono ?_
                        rintro e w9 ⟨r9, rfl, hc9, hr9⟩
                        rw [toB_data] at hr9 ⊢
                        have hR9 := hR9.keep hc9 (fun h => h)
                        have hPw := hP9.lt
                        have hP9 := hP9.keep hc9 (fun h => h)
                        have hcd := hcd.trans hc9
                        have hwq : w.heap.size ≤ wq.heap.size := by omega
                        clear x0 x1 x2 x3 hA9 hc9 hcv
                        obtain ⟨ra, rc, rfl, _, _, _⟩ := rdv_slice hr9
                        obtain ⟨q0, q1, q2, q3⟩ := hP9.cell
                        have g3 := hP9.free 3
                        obtain ⟨e0, e1, e2, e3⟩ := (hP9.set3 (.slice ra (parseG m.body).1.length rc)).cell
                        have hR10 := hR9.keep (O := fun k => k = Q) ((Chg.refl (fun k => k = Q) w9).setCell (p := ⟨Q, 3, none⟩) (.inr rfl) (.slice ra (parseG m.body).1.length rc)) (by omega)
                        have hcd10 := hcd.setCell (p := ⟨Q, 3, none⟩) (.inl (by show w.heap.size ≤ Q; omega)) (.slice ra (parseG m.body).1.length rc)
                        obtain ⟨k0, k1, k2, k3⟩ := hR10.cell
                        have f0 := hR10.free 0
                        have f1 := hR10.free 1
                        have f2 := hR10.free 2
                        have f3 := hR10.free 3
                        have hR11 := hR10.setAll (.string (toB t)) (.int .i64 x) (.int .i64 y) (.slice ra (parseG m.body).1.length rc)
                        obtain ⟨j0, j1, j2, j3⟩ := hR11.cell
                        go_wp2_with fail
                        try simp only [Exit.inBlock, Exit.then]
                        refine bodyPost_ret (results_partF rfl rfl (load_part (hR11))) rfl ?_
                        have hch : Chg (fun k => k = Q ∨ k = R) w9 _ := chg_four ((Chg.refl (fun k => k = Q ∨ k = R) w9).setCell (p := ⟨Q, 3, none⟩) (.inr (.inl rfl)) (.slice ra (parseG m.body).1.length rc)) (.inr (.inr rfl)) (.string (toB t)) (.int .i64 x) (.int .i64 y) (.slice ra (parseG m.body).1.length rc)
                        refine ⟨toB t, x, y, _, _, by rw [HPS.out.1]; rfl, chg_four hcd10 (.inl hRle) _ _ _ _, hr9.keep hch (fun k _ hk => by unfold Old; rcases hk with hk | hk <;> omega) (fun k _ hk => Nat.lt_of_lt_of_le hk hwq), fun _ => ?_⟩
                        rw [HPS.out.2, HT.out]
                        exact ⟨rfl, by show x = ((x.toNat : Nat) : Int); omega, by show y = ((y.toNat : Nat) : Int); omega, rfl⟩
                    · have u8 : (m.ident.toList == Y.toList) = false := by rw [Lib.toList_data m.ident, eY.out, beq_eq_false_iff_ne]; exact hid
                      have u9 : (m.ident.toList != Y.toList) = true := by rw [bne, u8]; rfl
                      clear eX eY
                      refine' tk 41 ?_
                      refine' tk 42 ?_
                      refine' tk 43 ?_
                      refine' sk 44 ?_
                      refine' sk 45 ?_
                      refine' sk 46 ?_
                      refine' sk 47 ?_
                      refine' sk 48 ?_
                      refine' sk 49 ?_
                      refine' sk 50 ?_
                      refine' sk 51 ?_
                      refine' tk 52 ?_
                      refine wpAnyH_done (by kernel_rfl) ?_ _
                      have hF := And.left (by assumption : Chg Never W7 wq ∧ _)
                      have hk := Lib.hid (pieceF_none HF.out (read_none (fun x' y' q => hid (by have h1 := q.2.2.2.2.2.2.2.2.1; have h2 := eqx x' y' q; rw [h2.1, h2.2, exy.1, exy.2] at h1; exact h1))))
                      have hR7 := hR7.keep hF (fun h => h)
                      have hcd := hcc.trans hF
                      obtain ⟨k0, k1, k2, k3⟩ := hR7.cell
                      have f0 := hR7.free 0
                      have f1 := hR7.free 1
                      have f2 := hR7.free 2
                      have f3 := hR7.free 3
                      obtain ⟨j0, j1, j2, j3⟩ := (hR7.setAll (.string ⟨#[]⟩) (.int .i64 0) (.int .i64 0) (.slice none 0 0)).cell
                      go_wp2_with fail
                      try simp only [Exit.inBlock, Exit.then]
                      refine bodyPost_ret (results_partF rfl rfl (load_part (hR7.setAll _ _ _ _))) rfl ?_
                      exact sread_no hk.out (by decide) rfl (chg_four hcd (.inl hRle) _ _ _ _)
                  · have u6 : (m.subject.toList == X.toList) = false := by rw [Lib.toList_data m.subject, eX.out, beq_eq_false_iff_ne]; exact hsu
                    have u7 : (m.subject.toList != X.toList) = true := by rw [bne, u6]; rfl
                    clear eX eY
                    refine' tk 34 ?_
                    refine' tk 35 ?_
                    refine' tk 36 ?_
                    refine' sk 37 ?_
                    refine' sk 38 ?_
                    refine' sk 39 ?_
                    refine' sk 40 ?_
                    refine' sk 41 ?_
                    refine' tk 42 ?_
                    refine' tk 43 ?_
                    refine' sk 44 ?_
                    refine' sk 45 ?_
                    refine' sk 46 ?_
                    refine' sk 47 ?_
                    refine' sk 48 ?_
                    refine' sk 49 ?_
                    refine' sk 50 ?_
                    refine' sk 51 ?_
                    refine' tk 52 ?_
                    refine wpAnyH_done (by kernel_rfl) ?_ _
                    have hF := And.left (by assumption : Chg Never W7 wq ∧ _)
                    have hk := Lib.hid (pieceF_none HF.out (read_none (fun x' y' q => hsu (by have h1 := q.2.2.2.2.2.2.2.1; have h2 := eqx x' y' q; rw [h2.1, h2.2, exy.1, exy.2, HT.out] at h1; exact h1))))
                    have hR7 := hR7.keep hF (fun h => h)
                    have hcd := hcc.trans hF
                    obtain ⟨k0, k1, k2, k3⟩ := hR7.cell
                    have f0 := hR7.free 0
                    have f1 := hR7.free 1
                    have f2 := hR7.free 2
                    have f3 := hR7.free 3
                    obtain ⟨j0, j1, j2, j3⟩ := (hR7.setAll (.string ⟨#[]⟩) (.int .i64 0) (.int .i64 0) (.slice none 0 0)).cell
                    go_wp2_with fail
                    try simp only [Exit.inBlock, Exit.then]
                    refine bodyPost_ret (results_partF rfl rfl (load_part (hR7.setAll _ _ _ _))) rfl ?_
                    exact sread_no hk.out (by decide) rfl (chg_four hcd (.inl hRle) _ _ _ _)
                · have u4 : (m.sender.toList == [104, 97, 110, 100, 115, 116, 105, 116, 99, 104]) = false := by rw [Lib.toList_data, beq_eq_false_iff_ne]; exact hfr
                  have u5 : (m.sender.toList != [104, 97, 110, 100, 115, 116, 105, 116, 99, 104]) = true := by rw [bne, u4]; rfl
                  obtain ⟨x0, x1, x2, x3⟩ := hA7.cell
                  have hk := Lib.hid (pieceF_none HF.out (read_none (fun x' y' q => hfr q.2.2.2.2.2.2.1)))
                  go_quiet (first | (go_at_call 43; refine Calls.quiet_of_same ((titled_any (toB t) _ htz).mono fun e w' hh => ⟨by rw [hh.1, toB_data, HTT.out], hh.2.symm⟩)))
                  have hR7 := hR7.keep (O := Never) ((Chg.refl Never W7).drewN nq) (fun h => h)
                  have hcc := hcc.drewN nq
                  generalize W7.drewN nq = W8 at hR7 hcc ⊢
                  obtain ⟨k0, k1, k2, k3⟩ := hR7.cell
                  have f0 := hR7.free 0
                  have f1 := hR7.free 1
                  have f2 := hR7.free 2
                  have f3 := hR7.free 3
                  obtain ⟨j0, j1, j2, j3⟩ := (hR7.setAll (.string ⟨#[]⟩) (.int .i64 0) (.int .i64 0) (.slice none 0 0)).cell
                  go_wp2_with fail
                  try simp only [Exit.inBlock, Exit.then]
                  refine bodyPost_ret (results_partF rfl rfl (load_part (hR7.setAll _ _ _ _))) rfl ?_
                  exact sread_no hk.out (by decide) rfl (chg_four hcc (.inl hRle) _ _ _ _)
      · have hk := Lib.hid (pieceF_none HF.out (read_none (fun x' y' q => ho2 y' (by have := q.2.1; rw [HB.out] at this; exact this))))
        go_quiet (fail)
        have hR7 := hR7.keep (O := Never) ((Chg.refl Never W7).drewN nq) (fun h => h)
        have hcc := hcc.drewN nq
        generalize W7.drewN nq = W8 at hR7 hcc ⊢
        obtain ⟨k0, k1, k2, k3⟩ := hR7.cell
        have f0 := hR7.free 0
        have f1 := hR7.free 1
        have f2 := hR7.free 2
        have f3 := hR7.free 3
        obtain ⟨j0, j1, j2, j3⟩ := (hR7.setAll (.string ⟨#[]⟩) (.int .i64 0) (.int .i64 0) (.slice none 0 0)).cell
        go_wp2_with fail
        try simp only [Exit.inBlock, Exit.then]
        refine bodyPost_ret (results_partF rfl rfl (load_part (hR7.setAll _ _ _ _))) rfl ?_
        exact sread_no hk.out (by decide) rfl (chg_four hcc (.inl hRle) _ _ _ _)
    · have hk := Lib.hid (pieceF_none HF.out (read_none (fun x' y' q => ho1 x' (by have := q.1; rw [HA.out] at this; exact this))))
      go_quiet (fail)
      have hR7 := hR7.keep (O := Never) ((Chg.refl Never W7).drewN nq) (fun h => h)
      have hcc := hcc.drewN nq
      generalize W7.drewN nq = W8 at hR7 hcc ⊢
      obtain ⟨k0, k1, k2, k3⟩ := hR7.cell
      have f0 := hR7.free 0
      have f1 := hR7.free 1
      have f2 := hR7.free 2
      have f3 := hR7.free 3
      obtain ⟨j0, j1, j2, j3⟩ := (hR7.setAll (.string ⟨#[]⟩) (.int .i64 0) (.int .i64 0) (.slice none 0 0)).cell
      go_wp2_with fail
      try simp only [Exit.inBlock, Exit.then]
      refine bodyPost_ret (results_partF rfl rfl (load_part (hR7.setAll _ _ _ _))) rfl ?_
      exact sread_no hk.out (by decide) rfl (chg_four hcc (.inl hRle) _ _ _ _)
  · have hk := pieceF_chk hz
    rw [errV_pos hz]
    have HZ := Lib.hid hz
    generalize mailFault m = fz at hk HZ ⊢
    have hk := Lib.hid hk
    have hR7 := hR3
    clear hz
    obtain ⟨k0, k1, k2, k3⟩ := hR7.cell
    have f0 := hR7.free 0
    have f1 := hR7.free 1
    have f2 := hR7.free 2
    have f3 := hR7.free 3
    obtain ⟨j0, j1, j2, j3⟩ := (hR7.setAll (.string ⟨#[]⟩) (.int .i64 0) (.int .i64 0) (.slice none 0 0)).cell
    go_wp2_with fail
    try simp only [Exit.inBlock, Exit.then]
    refine bodyPost_ret (results_partF rfl rfl (load_part (hR7.setAll _ _ _ _))) rfl ?_
    exact sread_no hk.out HZ.out (by rw [errV_pos HZ.out]; rfl) (chg_four hc3 (.inl hRle) _ _ _ _)
end Go.Proofs.YtjiaidchcldocaaGreatDoor
namespace Go.Proofs.YtjiaidchcldocaaGreatDoor

end Go.Proofs.YtjiaidchcldocaaGreatDoor
namespace Go.Proofs.YtjiaidchcldocaaGreatDoor

theorem nodup_le {α : Type} [BEq α] [LawfulBEq α] : ∀ (l r : List α), l.Nodup → (∀ x ∈ l, x ∈ r) → l.length ≤ r.length
  | [], _, _, _ => Nat.zero_le _
  | x :: l, r, h, hs => by
    rw [List.nodup_cons] at h
    have hx := hs x (List.mem_cons_self ..)
    have := nodup_le l (r.erase x) h.2 fun y hy => (List.mem_erase_of_ne (by rintro rfl; exact h.1 hy)).2 (hs y (List.mem_cons_of_mem _ hy))
    rw [List.length_erase_of_mem hx] at this
    have := List.length_pos_of_mem hx
    rw [List.length_cons]; omega
structure Choice (n : Nat) (m : List Int) : Prop where
  len : m.length = n
  nodup : m.Nodup
  mem : ∀ c ∈ m, ∃ k : Nat, c = k ∧ k < n
end Go.Proofs.YtjiaidchcldocaaGreatDoor
namespace Go.Proofs.YtjiaidchcldocaaGreatDoor

def PieceOk (x : Piece) : Prop := titledB x.title = true ∧ x.at' ≤ x.many ∧ x.many ≤ 8
theorem pieceOk_of {m : Mail} (h : pieceF m = 0) : PieceOk (pieceOf m) := by
  unfold pieceF at h
  unfold pieceOf
  by_cases hm : mailFault m = 0
  · rw [if_neg (by rw [hm]; simp)] at h
    cases e : mpartOf m with
    | none => rw [e] at h; cases h
    | some p =>
      obtain ⟨t, a, b⟩ := p
      obtain ⟨h1, h2, h3, _⟩ := part_some e
      exact ⟨h3, h1, h2⟩
  · rw [if_pos hm] at h; exact absurd h hm
def SameTo (ps : List Piece) (k : Nat) : Prop := ∀ y ∈ ps.take k, ∀ x, ps[0]? = some x → y.title = x.title ∧ y.many = x.many
theorem same_zero (ps : List Piece) : SameTo ps 0 := fun y hy => by cases hy
theorem same_step {ps : List Piece} {k : Nat} {y : Piece} (h : SameTo ps k) (hy : ps[k]? = some y) (hs : ∀ x, ps[0]? = some x → y.title = x.title ∧ y.many = x.many) : SameTo ps (k + 1) := fun z hz x hx => by
  rw [List.take_add_one, hy, Option.toList_some] at hz
  rcases List.mem_append.1 hz with hz | hz
  · exact h z hz x hx
  · rw [List.mem_singleton] at hz
    subst hz
    exact hs x hx
theorem same_all {x : Piece} {r : List Piece} (h : SameTo (x :: r) (x :: r).length) : (x :: r).all (fun y => y.title == x.title && y.many == x.many) = true := by
  rw [List.all_eq_true]
  intro y hy
  obtain ⟨a, b⟩ := h y (by rw [List.take_length]; exact hy) x rfl
  rw [a, b]; simp
theorem open_shape {ps : List Piece} {k : Nat} {x y : Piece} (hx : ps[0]? = some x) (hy : ps[k]? = some y) (h : ¬ (y.title = x.title ∧ y.many = x.many)) : openPs ps = ([], [], 2) := by
  match ps, hx, hy with
  | z :: r, hx, hy =>
    simp only [List.getElem?_cons_zero, Option.some.injEq] at hx
    subst hx
    unfold openPs
    simp only
    rw [if_pos]
    cases e : (z :: r).all (fun y => y.title == z.title && y.many == z.many) with
    | false => rfl
    | true =>
      have a := List.all_eq_true.1 e y (List.mem_of_getElem? hy)
      rw [Bool.and_eq_true] at a
      exact absurd ⟨eq_of_beq a.1, eq_of_beq a.2⟩ h
theorem open_clash {ps : List Piece} (hs : SameTo ps ps.length) {k : Nat} {y : Piece} (hy : ps[k]? = some y) (h : y.at' ∈ (ps.take k).map (·.at')) : openPs ps = ([], [], 6) := by
  have hn : ¬ (ps.map (·.at')).Nodup := fun q => by
    have e : ps.map (·.at') = (ps.take k).map (·.at') ++ y.at' :: (ps.drop (k + 1)).map (·.at') := by
      obtain ⟨hk, e⟩ := List.getElem?_eq_some_iff.1 hy
      conv => lhs; rw [← List.take_append_drop k ps, List.drop_eq_getElem_cons hk, e]
      simp
    rw [e, List.nodup_append] at q
    exact q.2.2 _ h _ (List.mem_cons_self ..) rfl
  match ps, hs, hn with
  | [], _, hn => exact absurd List.nodup_nil hn
  | x :: r, hs, hn =>
    unfold openPs
    simp only
    rw [same_all hs, if_neg (by decide), if_pos hn]
theorem nodup_step {ps : List Piece} {k : Nat} {y : Piece} (h : ((ps.take k).map (·.at')).Nodup) (hy : ps[k]? = some y) (hn : y.at' ∉ (ps.take k).map (·.at')) : ((ps.take (k + 1)).map (·.at')).Nodup := by
  rw [List.take_add_one, hy, Option.toList_some, List.map_append, List.nodup_append]
  refine ⟨h, by simp, fun a ha b hb e => ?_⟩
  rw [List.map_cons, List.map_nil, List.mem_singleton] at hb
  subst hb; subst e
  exact hn ha
theorem openp_none : openPs [] = ([], [], 4) := rfl
theorem open_few {ps : List Piece} (hs : SameTo ps ps.length) (hn : (ps.map (·.at')).Nodup) {x : Piece} (hx : ps[0]? = some x) (hl : ps.length ≤ x.many) : openPs ps = ([], [], 4) := by
  match ps, hs, hn, hx, hl with
  | z :: r, hs, hn, hx, hl =>
    simp only [List.getElem?_cons_zero, Option.some.injEq] at hx
    subst hx
    unfold openPs
    simp only
    rw [same_all hs, if_neg (by decide), if_neg (by simpa using hn), if_pos hl]
theorem open_good {ps : List Piece} (hs : SameTo ps ps.length) (hn : (ps.map (·.at')).Nodup) {x : Piece} (hx : ps[0]? = some x) (hl : x.many < ps.length) : openPs ps = (x.title, (List.range x.many).map fun i => getP ps (i + 1), 0) := by
  match ps, hs, hn, hx, hl with
  | z :: r, hs, hn, hx, hl =>
    simp only [List.getElem?_cons_zero, Option.some.injEq] at hx
    subst hx
    unfold openPs
    simp only
    rw [same_all hs, if_neg (by decide), if_neg (by simpa using hn), if_neg (by omega)]
def foundAt (ps : List Piece) (k : Nat) : Option Piece := ps.find? fun x => x.at' == k
theorem found_none {ps : List Piece} {k : Nat} (h : k ∉ ps.map (·.at')) : foundAt ps k = none := by
  unfold foundAt
  rw [List.find?_eq_none]
  intro x hx q
  exact h (List.mem_map.2 ⟨x, hx, by simpa using q⟩)
theorem found_mem {ps : List Piece} {k : Nat} (h : k ∈ ps.map (·.at')) : ∃ x, foundAt ps k = some x ∧ x.at' = k := by
  cases e : foundAt ps k with
  | none =>
    obtain ⟨x, hx, hk⟩ := List.mem_map.1 h
    unfold foundAt at e
    rw [List.find?_eq_none] at e
    exact absurd (by simpa using hk) (e x hx)
  | some x => exact ⟨x, rfl, by have := List.find?_some e; simpa using this⟩
theorem found_step {ps : List Piece} {k : Nat} {y : Piece} (hy : ps[k]? = some y) (hn : y.at' ∉ (ps.take k).map (·.at')) (j : Nat) : foundAt (ps.take (k + 1)) j = if j = y.at' then some y else foundAt (ps.take k) j := by
  have h0 : foundAt (ps.take (k + 1)) j = (foundAt (ps.take k) j).or (if y.at' == j then some y else none) := by
    unfold foundAt
    rw [List.take_add_one, hy, Option.toList_some, List.find?_append, List.find?_cons]
    by_cases q : (y.at' == j) = true
    · rw [q]; rfl
    · rw [Bool.not_eq_true] at q
      rw [q]; rfl
  rw [h0]
  by_cases e : j = y.at'
  · subst e
    rw [if_pos rfl, found_none hn, if_pos (by simp)]; rfl
  · rw [if_neg e, if_neg (by simp; omega)]
    cases foundAt (ps.take k) j <;> rfl
theorem get_found (ps : List Piece) (k : Nat) : getP ps k = ((foundAt ps k).map (·.patch)).getD [] := rfl

def refGo (ps : List Piece) (n k : Nat) : List (List Change) := ((ps.take k).filter fun x => x.at' == n).map (·.patch)
def refAll (ps : List Piece) : Nat → List (List Change)
  | 0 => []
  | n + 1 => refAll ps n ++ refGo ps (n + 1) ps.length
theorem refGo_yes {ps : List Piece} {n k : Nat} {y : Piece} (hy : ps[k]? = some y) (h : y.at' = n) : refGo ps n (k + 1) = refGo ps n k ++ [y.patch] := by
  unfold refGo
  rw [List.take_add_one, hy, Option.toList_some, List.filter_append, List.map_append, List.filter_cons, if_pos (by simp [h])]; rfl
theorem refGo_no {ps : List Piece} {n k : Nat} {y : Piece} (hy : ps[k]? = some y) (h : y.at' ≠ n) : refGo ps n (k + 1) = refGo ps n k := by
  unfold refGo
  rw [List.take_add_one, hy, Option.toList_some, List.filter_append, List.map_append, List.filter_cons, if_neg (by simp [h])]
  simp
theorem filter_only {x : Piece} : ∀ {ps : List Piece}, (ps.map (·.at')).Nodup → x ∈ ps → ps.filter (fun y => y.at' == x.at') = [x]
  | [], _, h => by cases h
  | y :: r, hn, h => by
    rw [List.map_cons, List.nodup_cons] at hn
    rw [List.filter_cons]
    rcases List.mem_cons.1 h with rfl | h
    · rw [if_pos (by simp)]
      congr 1
      rw [List.filter_eq_nil_iff]
      intro z hz q
      exact hn.1 (List.mem_map.2 ⟨z, hz, by simpa using q⟩)
    · have : (y.at' == x.at') = false := by
        rw [beq_eq_false_iff_ne]
        intro e
        exact hn.1 (List.mem_map.2 ⟨x, h, e.symm⟩)
      rw [this, if_neg (by decide)]
      exact filter_only hn.2 h
theorem ref_all {ps : List Piece} {n : Nat} (hn : (ps.map (·.at')).Nodup) (hb : ∀ x ∈ ps, x.at' ≤ n) (hl : ps.length = n + 1) : ∀ k, k ≤ n → refAll ps k = (List.range k).map fun i => getP ps (i + 1)
  | 0, _ => rfl
  | k + 1, hk => by
    have hm : k + 1 ∈ ps.map (·.at') := by
      by_cases h : k + 1 ∈ ps.map (·.at')
      · exact h
      · exfalso
        have := nodup_le ((k + 1) :: ps.map (·.at')) (List.range (n + 1)) (by rw [List.nodup_cons]; exact ⟨h, hn⟩) (by
          intro x hx
          rcases List.mem_cons.1 hx with rfl | hx
          · exact List.mem_range.2 (by omega)
          · obtain ⟨y, hy, rfl⟩ := List.mem_map.1 hx
            have := hb y hy
            exact List.mem_range.2 (by omega))
        rw [List.length_cons, List.length_map, List.length_range] at this
        omega
    obtain ⟨x, hx, e⟩ := List.mem_map.1 hm
    have h1 := filter_only hn hx
    have h2 := findp_only hn hx
    rw [e] at h1 h2
    rw [refAll, ref_all hn hb hl k (by omega), List.range_succ, List.map_append]
    congr 1
    unfold refGo getP
    rw [List.take_length, h1, List.map_cons, List.map_nil, List.map_cons, List.map_nil, h2]
    rfl
end Go.Proofs.YtjiaidchcldocaaGreatDoor
namespace Go.Proofs.YtjiaidchcldocaaGreatDoor
open Go.RowKit
open Go.Maps
open Go.Maps (Keyed IsMap)
open Go.WideElems (Fit)

def heldE (v : Value) : Option (DataW Value × List MemPlace) := some (.held v, [])
def zeroPart : Value := .agg #[.string ⟨#[]⟩, .int .i64 0, .int .i64 0, .slice none 0 0]
theorem zero_part (w : World) : (zeroValue 97).run Tryz.prog w = .ok zeroPart w := by kernel_rfl
def PartMap (w : World) (b n : Nat) (F : Int → Option Value) : Prop :=
  ∃ D : DataW Value, w.ownsMap Tryz.prog 3 heldE b n D ∧ IsMap D ∧ Maps.size D = n ∧ (∀ j, D.atKey (.int .i64 j) (.held zeroPart) = .held ((F j).getD zeroPart)) ∧ ∀ j, Maps.has D (.int .i64 j) = (F j).isSome
theorem PartMap.lt {w : World} {b n : Nat} {F : Int → Option Value} (h : PartMap w b n F) : b < w.heap.size := by
  obtain ⟨D, h1, _⟩ := h
  exact h1.lt
theorem PartMap.keep {w w' : World} {b n : Nat} {F : Int → Option Value} {O : Nat → Prop} (h : PartMap w b n F) (hc : Chg O w w') (hb : ¬ O b) : PartMap w' b n F := by
  have hlt := h.lt
  obtain ⟨D, ⟨es, clock, h1, h2⟩, h3⟩ := h
  exact ⟨D, ⟨es, clock, (hc.block b hlt hb).trans h1, h2⟩, h3⟩
theorem partMap_made (w : World) : PartMap (w.alloc (.map #[] 0)) w.heap.size 0 fun _ => none :=
  ⟨_, World.ownsMap_made w _ _ _, Go.Maps.isMap_empty, rfl, fun j => by simp [DataW.atKey], fun j => by simp [Maps.has]⟩
theorem PartMap.look {w : World} {b n : Nat} {F : Int → Option Value} (h : PartMap w b n F) {j : Int} (hj : I64 j) : (Instr.lookup 102 (.map (some b)) (.int .i64 j) false).run Tryz.prog w = .ok ((F j).getD zeroPart) w := by
  obtain ⟨D, h1, h2, h3, h4, h5⟩ := h
  obtain ⟨v, ps, hrun, hv⟩ := h1.lookup int_law Tryz.underlying102 (zero_part w) (zd := .held zeroPart) (zp := []) rfl (keyOf_int_mk Tryz.underlying3 (wf_i64 hj))
  rw [h4 j] at hv
  unfold heldE at hv
  simp only [Option.some.injEq, Prod.mk.injEq, DataW.held.injEq] at hv
  rw [← hv.1]
  exact hrun
theorem PartMap.lookOk {w : World} {b n : Nat} {F : Int → Option Value} (h : PartMap w b n F) {j : Int} (hj : I64 j) : (Instr.lookup 102 (.map (some b)) (.int .i64 j) true).run Tryz.prog w = .ok (.tuple #[(F j).getD zeroPart, .bool (F j).isSome]) w := by
  obtain ⟨D, h1, h2, h3, h4, h5⟩ := h
  obtain ⟨v, ps, hrun, hv⟩ := h1.look_ok int_law Tryz.underlying102 (zero_part w) (zd := .held zeroPart) (zp := []) rfl (keyOf_int_mk Tryz.underlying3 (wf_i64 hj))
  rw [h4 j] at hv
  rw [h5 j] at hrun
  unfold heldE at hv
  simp only [Option.some.injEq, Prod.mk.injEq, DataW.held.injEq] at hv
  rw [← hv.1]
  exact hrun
theorem size_put_new {D : DataW Value} (hD : IsMap D) {k : Lit} (d : DataW Value) (hn : Maps.has D k = false) : Maps.size (D.put k d) = Maps.size D + 1 := by
  obtain ⟨es, rfl⟩ := hD
  have hf : es.filter (fun p => !p.1.sameKey k) = es := by
    rw [List.filter_eq_self]
    intro p hp
    have : es.any (fun p => p.1.sameKey k) = false := hn
    rw [List.any_eq_false] at this
    simpa using this p hp
  have hi : ∀ (x : Lit × DataW Value) (l : List (Lit × DataW Value)), (DataW.insert x l).length = l.length + 1 := fun x l => by
    induction l with
    | nil => rfl
    | cons y r ih =>
      unfold DataW.insert
      split
      · rfl
      · rw [List.length_cons, ih, List.length_cons]
  show (DataW.insert (k, d) (es.filter fun p => !p.1.sameKey k)).length = es.length + 1
  rw [hf, hi]
theorem PartMap.put {w : World} {b n : Nat} {F : Int → Option Value} (h : PartMap w b n F) (hn : n < maxLen) {j : Int} (hj : I64 j) (v : Value) (hF : F j = none) :
    ∃ w', (Instr.mapUpdate 102 (.map (some b)) (.int .i64 j) v).run Tryz.prog w = .ok () w' ∧ PartMap w' b (n + 1) (fun i => if i = j then some v else F i) ∧ Chg (fun k => k = b) w w' := by
  obtain ⟨D, h1, h2, h3, h4, h5⟩ := h
  obtain ⟨w', hrun, r1, r2⟩ := h1.update int_law Tryz.underlying102 hn (keyOf_int_mk Tryz.underlying3 (wf_i64 hj)) (val := v) (d := .held v) (ps := []) rfl
  refine ⟨w', hrun, ⟨_, r1, h2.put _ _, ?_, fun i => ?_, fun i => ?_⟩, (Chg.of_grown r2).mono (fun k _ hk => (Option.some.inj hk).symm)⟩
  · rw [size_put_new h2 _ (by rw [h5 j, hF]; rfl), h3]
  · by_cases e : i = j
    · subst e
      show _ = DataW.held ((if i = i then some v else F i).getD zeroPart)
      rw [if_pos rfl]
      exact Go.Maps.atKey_put_same h2 (by simp [WideAt.IsKeyLit]) _ _
    · show _ = DataW.held ((if i = j then some v else F i).getD zeroPart)
      rw [if_neg e, Go.Maps.atKey_put_other (by simp [e])]
      exact h4 i
  · by_cases e : i = j
    · subst e
      show _ = (if i = i then some v else F i).isSome
      rw [if_pos rfl, Go.Maps.has_put_same h2 (by simp [WideAt.IsKeyLit])]; rfl
    · show _ = (if i = j then some v else F i).isSome
      rw [if_neg e, Go.Maps.has_put_other (by simp [e])]
      exact h5 i
theorem PartMap.len {w : World} {b n : Nat} {F : Int → Option Value} (h : PartMap w b n F) (ty : TypeId) : (Builtin.len_ #[102] ty #[.map (some b)]).run Tryz.prog w = .ok (.int .i64 n) w := by
  obtain ⟨D, h1, h2, h3, h4, h5⟩ := h
  have := h1.len Tryz.underlying102 ty
  rw [h3] at this
  exact this
end Go.Proofs.YtjiaidchcldocaaGreatDoor
