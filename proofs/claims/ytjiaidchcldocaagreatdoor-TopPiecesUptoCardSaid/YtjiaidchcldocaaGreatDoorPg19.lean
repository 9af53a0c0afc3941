/-
  PARTS: THE WALK of git.changes.
-/
import Derived.Test.YtjiaidchcldocaaGreatDoorPg1
import Derived.Test.YtjiaidchcldocaaGreatDoorPg17
import Derived.Test.YtjiaidchcldocaaGreatDoorPg14
import Derived.Test.YtjiaidchcldocaaGreatDoorPg18
import Derived.Test.YtjiaidchcldocaaGreatDoorPg11
import Derived.Deep.RegionHeld3
import Derived.Deep.Cut
import Derived.Deep.CutRange
set_option linter.unusedVariables false
set_option linter.unusedSimpArgs false
namespace Go.Proofs.YtjiaidchcldocaaGreatDoor
open Go.RowKit

def bytesL (l : List ByteArray) : List (List UInt8) := l.map fun x => x.data.toList
def chgsL (l : List ByteArray) : Option (List Change) := changesG (bytesL l).length (bytesL l)
theorem bytesL_drop (l : List ByteArray) (i : Nat) : (bytesL l).drop i = bytesL (l.drop i) := (List.map_drop ..).symm
def sliceLenOf : Value → Nat
  | .slice _ n _ => n
  | _ => 0
/-- what the two lines' reading says -/
def HeadIs (H : Option (Int × List UInt8)) (K : Int) (P : ByteArray) (B : Bool) : Prop := (B = false ∧ H = none) ∨ (B = true ∧ ∃ p, H = some (K, p) ∧ P = toB p)
theorem headed_is (a b : ByteArray) (w : World) (ha : a.size ≤ 1000000000) (hb : b.size ≤ 1000000000) :
    Calls Tryz.prog 119 #[.string a, .string b] w fun e w' => ∃ K P B, e = .returned (.tuple #[.agg #[.int .i64 K, .string P, .slice none 0 0], .bool B]) ∧ Chg Never w w' ∧ Hid (HeadIs (headedL a.data.toList b.data.toList) K P B) := by
  refine (headed_any a b w ha hb).mono ?_
  rintro e w' ⟨hc, hp⟩
  cases hh : headedL a.data.toList b.data.toList with
  | none =>
    rw [hh] at hp
    exact ⟨_, _, _, hp, hc, .inl ⟨rfl, rfl⟩⟩
  | some x =>
    obtain ⟨c, p⟩ := x
    rw [hh] at hp
    exact ⟨_, _, _, hp, hc, .inr ⟨rfl, p, rfl, rfl⟩⟩
theorem headed_len {a b p : List UInt8} {c : Int} (h : headedL a b = some (c, p)) : p.length ≤ a.length + b.length := by
  obtain ⟨hw, e1, e2⟩ := headed_some h
  have l1 := congrArg List.length e1
  have l2 := congrArg List.length e2
  rw [List.length_append] at l1 l2
  rcases hw with rfl | rfl | rfl
  · rw [show fromL 1 p = [97, 47] ++ p from rfl, List.length_append] at l1; omega
  · rw [show toL 2 p = [98, 47] ++ p from rfl, List.length_append] at l2; omega
  · rw [show fromL 3 p = [97, 47] ++ p from rfl, List.length_append] at l1; omega
theorem rdv_tail {w : World} {O : Nat → Prop} {a : Option Addr} {n cap k : Nat} {l : List ByteArray} (h : Rdv w O (.slice a n cap) l) (hn : n = l.length) (hk : k ≤ l.length) :
    ∃ b, (∀ (wx : World), (Instr.slice 86 (.slice a n cap) (some (.int .i64 (k : Nat))) none none).run Tryz.prog wx = .ok (.slice b (n - k) (cap - k)) wx) ∧ Rdv w O (.slice b (n - k) (cap - k)) (l.drop k) := by
  subst hn
  obtain ⟨b, _, h2, _, h4⟩ := slice_g (P := Tryz.prog) (t := 86) (by kernel_rfl) size_str h k l.length hk (Nat.le_refl _)
  exact ⟨b, fun wx => h2 (k : Nat) wx rfl rfl, by rw [List.take_of_length_le (by rw [List.length_drop]; omega)] at h4; exact h4⟩

theorem ckeep {w2 wr wq : World} {p q : Addr} {a b : Value} (h : Chg Never w2 wr ∧ wr.cell? p = some a ∧ wr.cell? q = some b) (k : Chg Never wr wq) : Chg Never w2 wq ∧ wq.cell? p = some a ∧ wq.cell? q = some b :=
  ⟨h.1.trans k, k.cellNever h.2.1, k.cellNever h.2.2⟩
set_option maxHeartbeats 2000000 in
set_option maxRecDepth 100000 in
theorem gitchanges_old (l : List ByteArray) (v : Value) (w : World) (h : Rdv w Never v l) (hl : l.length ≤ 1000000) (hs : ∀ x ∈ l, x.size ≤ 1000000000) (m : Int) (hg : Globs w m) :
    Calls Tryz.prog 75 #[v] w fun e w' => ∃ r, e = .returned (.tuple #[r, .bool (chgsL l).isSome]) ∧ Chg Never w w' ∧ Rdv w' (Old w.heap.size) r ((chgsL l).getD []) := by
  obtain ⟨a, cap, rfl, h1, h2, -⟩ := rdv_slice h
  unfold maxLen at h2
  have HS := Lib.hid hs
  clear hs
  go_enter Tryz.func75, Tryz.ntmps75
  go_wp2_with fail
  go_loopw [0, 4] (fun bv ov wr => ∃ (i : Nat) (L : List Change), i ≤ l.length ∧ Rdv w Never bv (l.drop i) ∧ OwnO 85 w wr ov L ∧ L.length ≤ i ∧ Hid (ChgsInv (bytesL l) i L)) (fun bv _ _ => sliceLenOf bv)
  case atStart => exact ⟨0, [], Nat.zero_le _, h, ownO_nil _ (Chg.refl Never w), Nat.le_refl _, cinv_start _⟩
  case round =>
    clear h
    obtain ⟨i, L, hi, hb, hn, hLl, hI⟩ := hrel
    rename World => wr
    obtain ⟨oa, on, oc, rfl⟩ := own_isSlice hn.own
    obtain ⟨ab, capb, rfl, b1, b2, b3⟩ := rdv_slice hb
    unfold maxLen at b2
    have hdl : (l.drop i).length = l.length - i := List.length_drop
    have HD := Lib.hid (bytesL_drop l i)
    cases hR : l.drop i with
    | nil =>
      have hr : Hid (chgsL l = some L) := cinv_end hI.out (by rw [hR] at hdl; simp at hdl; unfold bytesL; rw [List.length_map]; omega)
      clear hb b3 hdl HD
      go_wp2_with fail
      go_ret2
      exact ⟨_, by rw [hr.out]; rfl, hn.chg, by rw [hr.out]; exact hn.own.rdv⟩
    | cons x R1 =>
      cases R1 with
      | nil =>
        rw [hR] at hdl
        simp only [List.length_cons, List.length_nil] at hdl
        clear hb b3 HD
        have hr : Hid (chgsL l = none) := cinv_one hI.out (by unfold bytesL; rw [List.length_map]; omega)
        go_wp2_with fail
        go_ret2
        exact ⟨_, by rw [hr.out]; rfl, hn.chg, by rw [hr.out]; exact rdv_nil _ _⟩
      | cons y R2 =>
        have zx := HS.out x (List.mem_of_mem_drop (i := i) (by rw [hR]; simp))
        have zy := HS.out y (List.mem_of_mem_drop (i := i) (by rw [hR]; simp))
        have HD2 : Hid ((bytesL l).drop i = x.data.toList :: y.data.toList :: bytesL R2) := by rw [Hid, HD.out, hR]; rfl
        rw [hR] at hb b1 b3 hdl
        obtain ⟨g, off, rfl, -, -, c0, -⟩ := elems_str b3 (i := 0) (x := x) rfl
        obtain ⟨g', off', hq, -, -, c1, -⟩ := elems_str b3 (i := 1) (x := y) rfl
        simp only [Option.some.injEq, Addr.mk.injEq, and_true] at hq
        obtain ⟨rfl, rfl⟩ := hq
        have hdR : l.drop (i + 2) = R2 := by rw [← List.drop_drop, hR]; rfl
        obtain ⟨sb, hrun, hsub⟩ := rdv_tail hb rfl (k := 2) (by simp)
        have hn2 : 2 ≤ (x :: y :: R2).length := by simp
        have HR2 := Lib.hid hdR
        obtain ⟨n, hnn⟩ : ∃ n, (x :: y :: R2).length = n := ⟨_, rfl⟩
        rw [hnn] at hrun hsub hn2 hdl b1 ⊢
        have hsub : Rdv w Never (.slice sb (n - 2) (capb - 2)) (l.drop (i + 2)) := by rw [hdR]; exact hsub
        have hil : i + 2 ≤ l.length := by omega
        have hnl : n ≤ 1000000 := by omega
        simp only [Nat.add_zero] at c0
        have c0 := hn.chg.cellNever c0
        have c1 := hn.chg.cellNever c1
        have HN := Lib.hid hdl
        have hn1 : (1 : Int) < (n : Int) := by omega
        have hn0 : (0 : Int) < (n : Int) := by omega
        clear hb b3 hR hdR hnn HD hdl
        go_upto_region 5 with fail
        go_cut [5, 6] from 8 to 54 (fun p b wx => ∃ k K P B, p = .pointer (some ⟨k, 0, none⟩) ∧ b = .bool B ∧ wr.heap.size ≤ k ∧ Hid (Chg Never wr wx) ∧ Hid (HeadIs (headedL x.data.toList y.data.toList) K P B) ∧ Blk3 wx k 85 (.int .i64 K) (.string P) (.slice none 0 0))
        case first =>
          refine wp_region_held_drew (S := fun w' => Chg Never wr w' ∧ w'.cell? ⟨g, off, none⟩ = some (.string x) ∧ w'.cell? ⟨g, off + 1, none⟩ = some (.string y)) (by kernel_rfl) ⟨(Chg.refl Never wr).drew, c0, c1⟩ (fun hH => ?_)
          refine' tk 0 ?_
          refine' tk 1 ?_
          refine' tk 2 ?_
          refine' tk 3 ?_
          refine' tk 4 ?_
          refine' tk 5 ?_
          refine wpAnyH_ready (rs := [6, 10]) (by kernel_rfl) (by simp) ?_
          refine AllReadyH.cons rfl (fun K hK => ?_) (AllReadyH.cons rfl (fun K hK => ?_) AllReadyH.nil)
          · go_simp
            go_at_call 119
            refine (headed_is x y _ zx zy).mono ?_
            rintro e wq ⟨K1, P, B, rfl, hcq, hHq⟩
            try go_wp2_with fail
            refine hK.out _ _ ?_ (fun hH => ?_)
            · exact ckeep (by assumption) hcq
            clear hK K
            try simp only [Act.put, List.setIfInBounds_toArray, List.set_cons_zero, List.set_cons_succ]
            refine' tk 7 ?_
            refine' tk 8 ?_
            refine' tk 9 ?_
            refine wpAnyH_ready (rs := [10]) (by kernel_rfl) (by simp) ?_
            refine AllReadyH.cons rfl (fun K hK => ?_) AllReadyH.nil
            go_simp
            refine hK.out _ _ ?_ (fun hH => ?_)
            · exact ckeep (by assumption) ((Chg.refl Never _).alloc _)
            clear hK K
            try simp only [Act.put, List.setIfInBounds_toArray, List.set_cons_zero, List.set_cons_succ]
            refine wpAnyH_ready (rs := [11]) (by kernel_rfl) (by simp) ?_
            refine AllReadyH.cons rfl (fun K hK => ?_) AllReadyH.nil
            go_simp
            have hBk := Blk3.new wq 85 (.int .i64 K1) (.string P) (.slice none 0 0)
            have hcA := ((And.left (by assumption) : Chg Never wr wq)).alloc (.cells #[.int .i64 K1, .string P, .slice none 0 0] 85)
            have hle : wr.heap.size ≤ wq.heap.size := (And.left (by assumption) : Chg Never wr wq).size
            refine hK.out _ _ (ckeep (by assumption) ((Chg.refl Never _).alloc _)) (fun hH => ?_)
            clear hK K
            try simp only [Act.put, List.setIfInBounds_toArray, List.set_cons_zero, List.set_cons_succ]
            refine' tk 12 ?_
            refine wpAnyH_done (by kernel_rfl) ?_ _
            go_wp2_with fail
            go_meet
            exact ⟨_, K1, P, B, rfl, rfl, hle, hcA, hHq, hBk⟩
          · go_simp
            refine hK.out _ _ ?_ (fun hH => ?_)
            · exact ckeep (by assumption) ((Chg.refl Never _).alloc _)
            clear hK K
            try simp only [Act.put, List.setIfInBounds_toArray, List.set_cons_zero, List.set_cons_succ]
            refine wpAnyH_ready (rs := [6]) (by kernel_rfl) (by simp) ?_
            refine AllReadyH.cons rfl (fun K hK => ?_) AllReadyH.nil
            go_simp
            go_at_call 119
            refine (headed_is x y _ zx zy).mono ?_
            rintro e wq ⟨K1, P, B, rfl, hcq, hHq⟩
            try go_wp2_with fail
            refine hK.out _ _ ?_ (fun hH => ?_)
            · exact ckeep (by assumption) hcq
            clear hK K
            try simp only [Act.put, List.setIfInBounds_toArray, List.set_cons_zero, List.set_cons_succ]
            refine' tk 7 ?_
            refine' tk 8 ?_
            refine' tk 9 ?_
            refine wpAnyH_ready (rs := [11]) (by kernel_rfl) (by simp) ?_
            refine AllReadyH.cons rfl (fun K hK => ?_) AllReadyH.nil
            have hBk : Blk3 wq wr.heap.size 85 (.int .i64 0) (.string ⟨#[]⟩) (.slice none 0 0) := (Blk3.new wr.drew 85 (.int .i64 0) (.string ⟨#[]⟩) (.slice none 0 0)).keep hcq (fun h => h)
            obtain ⟨b0, b1, b2⟩ := hBk.cell
            have f0 := hBk.free 0
            have f1 := hBk.free 1
            have f2 := hBk.free 2
            have hBk := ((hBk.set0 (.int .i64 K1)).set1 (.string P)).set2 (.slice none 0 0)
            have hcq0 : Chg Never wr wq := And.left (by assumption)
            have hcA := ((hcq0.setCell (p := ⟨wr.heap.size, 0, none⟩) (.inl (Nat.le_refl _)) (.int .i64 K1)).setCell (p := ⟨wr.heap.size, 1, none⟩) (.inl (Nat.le_refl _)) (.string P)).setCell (p := ⟨wr.heap.size, 2, none⟩) (.inl (Nat.le_refl _)) (.slice none 0 0)
            go_simp
            refine hK.out _ _ ⟨hcA, hcA.cellNever c0, hcA.cellNever c1⟩ (fun hH => ?_)
            clear hK K
            try simp only [Act.put, List.setIfInBounds_toArray, List.set_cons_zero, List.set_cons_succ]
            refine' tk 12 ?_
            refine wpAnyH_done (by kernel_rfl) ?_ _
            go_wp2_with fail
            go_meet
            exact ⟨_, K1, P, B, rfl, rfl, Nat.le_refl _, hcA, hHq, hBk⟩
        case rest =>
          obtain ⟨k, K, P, B, rfl, rfl, hk, hc, hH, hB3⟩ := hcut
          have hcc := hc.out
          rcases hH.out with ⟨rfl, hh⟩ | ⟨rfl, p, hh, hP⟩
          · clear hH hc hB3 hsub hrun c0 c1
            have hr : Hid (chgsL l = none) := cinv_head hI.out HD2.out hh
            go_wp2_with fail
            go_ret2
            exact ⟨_, by rw [hr.out]; rfl, hn.chg.trans hcc, by rw [hr.out]; exact rdv_nil _ _⟩
          · have HH := Lib.hid hh
            have hPz : P.size ≤ maxLen := by
              have := headed_len hh
              rw [hP, toB_size', ]
              rw [← Lib.size_eq, ← Lib.size_eq] at this
              unfold maxLen; omega
            have HP := Lib.hid hP
            have hkl := hB3.lt
            have hgc : Globs wc m := hg.never (hn.chg.trans hcc)
            have hrun : ∀ wx : World, (Instr.slice 86 (.slice (some ⟨g, off, none⟩) n capb) (some (.int .i64 2)) none none).run Tryz.prog wx = .ok (.slice sb (n - 2) (capb - 2)) wx := hrun
            clear hh hP hH hc c0 c1 zx zy
            go_wp2_with fail
            clear hrun
            go_loopw [0] (fun bv wx => ∃ (q : Nat) (vr : Value) (hs : List Hunk) (o d : Nat), i + 2 + q ≤ l.length ∧ Rdv w Never bv (l.drop (i + 2 + q)) ∧ RdrAt wx wc.heap.size wc.heap.size vr hs o d ∧ Chg Never wc wx ∧ Hid (RdB hs o d q) ∧ Hid (TakeInv (bytesL R2) (bytesL (l.drop (i + 2 + q))) hs o d)) (fun bv _ => sliceLenOf bv)
            case atStart => exact ⟨0, _, [], 0, 0, hil, hsub, RdrAt.new wc, (Chg.refl Never wc).alloc _, rdB_start, by rw [Nat.add_zero, HR2.out]; exact tinv_start _⟩
            case round =>
              clear hsub
              obtain ⟨q, vr, hs, o, d, hq, hb, hR, hcw, hB, hT⟩ := hrel
              rename World => wx
              obtain ⟨rb, rc, rfl, r1, r2, r3⟩ := rdv_slice hb
              unfold maxLen at r2
              have hdl : (l.drop (i + 2 + q)).length = l.length - (i + 2 + q) := List.length_drop
              have hbox := hR.box
              obtain ⟨va, vn, vc, rfl⟩ := own_isSlice hR.own
              obtain ⟨N, hN⟩ : ∃ N, (l.drop (i + 2 + q)).length = N := ⟨_, rfl⟩
              rw [hN] at hb r1 hdl ⊢
              have hNn : N < n := by have := HN.out; omega
              have HDQ : Hid ((bytesL l).drop (i + 2 + q) = bytesL (l.drop (i + 2 + q))) := bytesL_drop _ _
              have hcx : Chg Never wr wx := hcc.trans hcw
              cases hRR : l.drop (i + 2 + q) with
              | nil =>
                rw [hRR] at hN hT
                obtain rfl : N = 0 := by rw [← hN]; rfl
                clear hN r3 hdl
                by_cases hop : 0 < o ∨ 0 < d
                · have HO := Lib.hid (opn_true hop)
                  have hTk := Lib.hid (tinv_open hT.out hop)
                  clear hop hRR
                  go_wp2_with fail
                  refine (rd_open wc.heap.size (.slice va vn vc) o d _ hbox).mono ?_
                  rintro e w1 ⟨rfl, rfl⟩
                  rename World => wx
                  rw [HO.out]
                  have hr : Hid (chgsL l = none) := cinv_take hI.out HD2.out HH.out hTk.out
                  go_wp2_with fail
                  go_ret2
                  exact ⟨_, by rw [hr.out]; rfl, hn.chg.trans hcx, by rw [hr.out]; exact rdv_nil _ _⟩
                · have HO := Lib.hid (opn_false hop)
                  have hTk : Hid (takeU (bytesL R2) [] 0 0 = some (hs, (bytesL l).drop (i + 2 + q))) := by
                    rw [Hid, HDQ.out, hRR]
                    exact tinv_end hT.out hop (fun s r e => by cases e)
                  clear hop hRR
                  go_wp2_with fail
                  refine (rd_open wc.heap.size (.slice va vn vc) o d _ hbox).mono ?_
                  rintro e w1 ⟨rfl, rfl⟩
                  rename World => wx
                  rw [HO.out]
                  obtain ⟨x0, -, -⟩ := hbox.cell
                  have hBk : Blk3 wx k 85 (.int .i64 K) (.string P) (.slice none 0 0) := hB3.keep hcw (fun h => h)
                  obtain ⟨k0, k1, k2⟩ := hBk.cell
                  have kf := hBk.free 2
                  have hcS : Chg (fun b => b = k) wx (wx.setCell ⟨k, 2, none⟩ (.slice va vn vc)) := (Chg.refl (fun b => b = k) wx).setCell (p := ⟨k, 2, none⟩) (.inr rfl) _
                  have hcR : Chg Never wr (wx.setCell ⟨k, 2, none⟩ (.slice va vn vc)) := hcx.setCell (p := ⟨k, 2, none⟩) (.inl hk) _
                  obtain ⟨j0, j1, j2⟩ := (hBk.set2 (.slice va vn vc)).cell
                  have hnx := hn.never hcR
                  have hv : Rdv (wx.setCell ⟨k, 2, none⟩ (.slice va vn vc)) (Old wr.heap.size) (.slice va vn vc) hs := hR.rdv.keep hcS (fun b _ e => .inl (by rw [e]; exact hkl)) (fun b _ hb => .inl (Nat.lt_of_lt_of_le hb hcc.size))
                  have hy : Dat.rd (wx.setCell ⟨k, 2, none⟩ (.slice va vn vc)) (fun k => Old w.heap.size k ∨ (Value.slice oa on oc).ownBlock = some k) [.int .i64 K, .string P, .slice va vn vc] (⟨K, P, hs⟩ : Change) := ⟨_, rfl, hPz, hn.fresh hv⟩
                  have hLx : L.length ≤ 1000000000 := by omega
                  clear hBk hcS hcR hv
                  go_wp2_with (at_builtin; refine wpList_push (by rfl) _ _ 51 (by rfl) elemOk_change (O := Old w.heap.size) (l := L) (y := ⟨K, P, hs⟩) (by rfl) (by rfl) (by simp) hnx.own hy hnx.olds hLx ?_; intro v' w9 hown2 hc2 hk2; have hn2 := hnx.step1 hown2 hc2; clear hown2 hc2 hk2 hnx hy; obtain ⟨oa2, on2, oc2, rfl⟩ := own_isSlice hn2.own)
                  go_roundw
                  case rel => exact ⟨i + 2 + q, L ++ [⟨K, P, hs⟩], hq, hb, hn2, by rw [List.length_append]; simp only [List.length_cons, List.length_nil]; omega, by rw [HP.out]; exact cinv_step hI.out HD2.out HH.out hTk.out (by omega)⟩
                  case measure => exact hNn
              | cons s R3 =>
                have hcnd : Hid (TakeInv (bytesL R2) (s.data.toList :: bytesL R3) hs o d) := by have := hT; rw [hRR] at this; exact this
                have zs := HS.out s (List.mem_of_mem_drop (i := i + 2 + q) (by rw [hRR]; simp))
                have HD3 : Hid (l.drop (i + 2 + (q + 1)) = R3) := by
                  rw [Hid, show i + 2 + (q + 1) = i + 2 + q + 1 from rfl, ← List.drop_drop, hRR]; rfl
                obtain ⟨g2, off2, rfl, -, -, c0, -⟩ := elems_str r3 (i := 0) (x := s) (by rw [hRR]; rfl)
                simp only [Nat.add_zero] at c0
                have c0 := (hn.chg.trans hcx).cellNever c0
                obtain ⟨sb2, hrun, hsub⟩ := rdv_tail hb hN.symm (k := 1) (by rw [hRR]; simp)
                have hrun : ∀ wx : World, (Instr.slice 86 (.slice (some ⟨g2, off2, none⟩) N rc) (some (.int .i64 1)) none none).run Tryz.prog wx = .ok (.slice sb2 (N - 1) (rc - 1)) wx := hrun
                rw [List.drop_drop] at hsub
                have hN0 : 1 ≤ N := by rw [← hN, hRR]; simp
                have hNi : (0 : Int) < (N : Int) := by omega
                have hN6 : N ≤ 1000000 := by omega
                have hgx : Globs wx m := hgc.never hcw
                have hq2 : i + 2 + (q + 1) ≤ l.length := by omega
                clear r3
                by_cases hop : 0 < o ∨ 0 < d
                · have HO := Lib.hid (opn_true hop)
                  have hcd : Hid ((0 < o ∨ 0 < d) ∨ hunkHead s.data.toList = true) := .inl hop
                  clear hop hRR hN hdl
                  go_wp2_with fail
                  refine (rd_open wc.heap.size (.slice va vn vc) o d _ hbox).mono ?_
                  rintro e w1 ⟨rfl, rfl⟩
                  rename World => wx
                  rw [HO.out]
                  go_wp2_with fail
                  refine (reader_line wc.heap.size wc.heap.size (.slice va vn vc) hs o d s _ hR hB.out.ok zs ⟨by have := hB.out.on; omega, by have := hB.out.on; omega⟩ (by have := hB.out.len; omega) (fun h hh => by have := hB.out.marks h hh; omega) m hgx).mono ?_
                  rintro e wy ⟨hcy, hp⟩
                  have hcz : Chg Never wc wy := ((hcw.mono (O' := RdC wc.heap.size wc.heap.size) (fun _ _ h => h.elim)).trans hcy).mono (O' := Never) (fun k hk h => h.elim (fun e => Nat.lt_irrefl _ (e ▸ hk)) (fun e => Nat.not_lt_of_le e hk))
                  cases hrl : readLine hs o d s.data.toList with
                  | none =>
                    rw [hrl] at hp
                    subst hp
                    have hTk := Lib.hid (tinv_bad hcnd.out hcd.out hrl)
                    clear hrl hrun c0
                    have hr : Hid (chgsL l = none) := cinv_take hI.out HD2.out HH.out hTk.out
                    go_wp2_with fail
                    go_ret2
                    exact ⟨_, by rw [hr.out]; rfl, hn.chg.trans (hcc.trans hcz), by rw [hr.out]; exact rdv_nil _ _⟩
                  | some t =>
                    obtain ⟨hs', o', d'⟩ := t
                    rw [hrl] at hp
                    obtain ⟨rfl, vr', hR'⟩ := hp
                    have hT2 := Lib.hid (tinv_step hcnd.out hcd.out hrl)
                    have hB2 := Lib.hid (rdB_step hB.out hrl)
                    clear hrl c0
                    go_wp2_with fail
                    go_roundw
                    case rel => exact ⟨q + 1, vr', hs', o', d', hq2, hsub, hR', hcz, hB2, by rw [HD3.out]; exact hT2⟩
                    case measure => show N - 1 < N; omega
                · have HO := Lib.hid (opn_false hop)
                  have hpx : Lib.hasPrefix s.data.toList [64, 64] = hunkHead s.data.toList := rfl
                  cases hh : hunkHead s.data.toList with
                  | true =>
                    have HX := Lib.hid (hpx.trans hh)
                    have hcd : Hid ((0 < o ∨ 0 < d) ∨ hunkHead s.data.toList = true) := .inr hh
                    clear hop hRR hpx hh hN hdl
                    go_wp2_with fail
                    refine (rd_open wc.heap.size (.slice va vn vc) o d _ hbox).mono ?_
                    rintro e w1 ⟨rfl, rfl⟩
                    rename World => wx
                    rw [HO.out]
                    go_wp2_with fail
                    refine (Tryz.strings_HasPrefix s (toB [64, 64]) _).mono ?_
                    rintro e w1 ⟨rfl, rfl⟩
                    rename World => wx
                    rw [toB_data, HX.out]
                    go_wp2_with fail
                    refine (reader_line wc.heap.size wc.heap.size (.slice va vn vc) hs o d s _ hR hB.out.ok zs ⟨by have := hB.out.on; omega, by have := hB.out.on; omega⟩ (by have := hB.out.len; omega) (fun h hh => by have := hB.out.marks h hh; omega) m hgx).mono ?_
                    rintro e wy ⟨hcy, hp⟩
                    have hcz : Chg Never wc wy := ((hcw.mono (O' := RdC wc.heap.size wc.heap.size) (fun _ _ h => h.elim)).trans hcy).mono (O' := Never) (fun k hk h => h.elim (fun e => Nat.lt_irrefl _ (e ▸ hk)) (fun e => Nat.not_lt_of_le e hk))
                    cases hrl : readLine hs o d s.data.toList with
                    | none =>
                      rw [hrl] at hp
                      subst hp
                      have hTk := Lib.hid (tinv_bad hcnd.out hcd.out hrl)
                      clear hrl hrun c0
                      have hr : Hid (chgsL l = none) := cinv_take hI.out HD2.out HH.out hTk.out
                      go_wp2_with fail
                      go_ret2
                      exact ⟨_, by rw [hr.out]; rfl, hn.chg.trans (hcc.trans hcz), by rw [hr.out]; exact rdv_nil _ _⟩
                    | some t =>
                      obtain ⟨hs', o', d'⟩ := t
                      rw [hrl] at hp
                      obtain ⟨rfl, vr', hR'⟩ := hp
                      have hT2 := Lib.hid (tinv_step hcnd.out hcd.out hrl)
                      have hB2 := Lib.hid (rdB_step hB.out hrl)
                      clear hrl c0
                      go_wp2_with fail
                      go_roundw
                      case rel => exact ⟨q + 1, vr', hs', o', d', hq2, hsub, hR', hcz, hB2, by rw [HD3.out]; exact hT2⟩
                      case measure => show N - 1 < N; omega
                  | false =>
                    have HX := Lib.hid (hpx.trans hh)
                    have hTk : Hid (takeU (bytesL R2) [] 0 0 = some (hs, (bytesL l).drop (i + 2 + q))) := by
                      rw [Hid, HDQ.out, hRR]
                      exact tinv_end hcnd.out hop (fun s' r e => by injection e with e1 _; rw [← e1]; exact hh)
                    clear hop hRR hpx hh hN hdl
                    go_wp2_with fail
                    refine (rd_open wc.heap.size (.slice va vn vc) o d _ hbox).mono ?_
                    rintro e w1 ⟨rfl, rfl⟩
                    rename World => wx
                    rw [HO.out]
                    go_wp2_with fail
                    refine (Tryz.strings_HasPrefix s (toB [64, 64]) _).mono ?_
                    rintro e w1 ⟨rfl, rfl⟩
                    rename World => wx
                    rw [toB_data, HX.out]
                    go_wp2_with fail
                    refine (rd_open wc.heap.size (.slice va vn vc) o d _ hbox).mono ?_
                    rintro e w1 ⟨rfl, rfl⟩
                    rename World => wx
                    rw [HO.out]
                    obtain ⟨x0, -, -⟩ := hbox.cell
                    have hBk : Blk3 wx k 85 (.int .i64 K) (.string P) (.slice none 0 0) := hB3.keep hcw (fun h => h)
                    obtain ⟨k0, k1, k2⟩ := hBk.cell
                    have kf := hBk.free 2
                    have hcS : Chg (fun b => b = k) wx (wx.setCell ⟨k, 2, none⟩ (.slice va vn vc)) := (Chg.refl (fun b => b = k) wx).setCell (p := ⟨k, 2, none⟩) (.inr rfl) _
                    have hcR : Chg Never wr (wx.setCell ⟨k, 2, none⟩ (.slice va vn vc)) := hcx.setCell (p := ⟨k, 2, none⟩) (.inl hk) _
                    obtain ⟨j0, j1, j2⟩ := (hBk.set2 (.slice va vn vc)).cell
                    have hnx := hn.never hcR
                    have hv : Rdv (wx.setCell ⟨k, 2, none⟩ (.slice va vn vc)) (Old wr.heap.size) (.slice va vn vc) hs := hR.rdv.keep hcS (fun b _ e => .inl (by rw [e]; exact hkl)) (fun b _ hb => .inl (Nat.lt_of_lt_of_le hb hcc.size))
                    have hy : Dat.rd (wx.setCell ⟨k, 2, none⟩ (.slice va vn vc)) (fun k => Old w.heap.size k ∨ (Value.slice oa on oc).ownBlock = some k) [.int .i64 K, .string P, .slice va vn vc] (⟨K, P, hs⟩ : Change) := ⟨_, rfl, hPz, hn.fresh hv⟩
                    have hLx : L.length ≤ 1000000000 := by omega
                    clear hBk hcS hcR hv
                    go_wp2_with (at_builtin; refine wpList_push (by rfl) _ _ 51 (by rfl) elemOk_change (O := Old w.heap.size) (l := L) (y := ⟨K, P, hs⟩) (by rfl) (by rfl) (by simp) hnx.own hy hnx.olds hLx ?_; intro v' w9 hown2 hc2 hk2; have hn2 := hnx.step1 hown2 hc2; clear hown2 hc2 hk2 hnx hy; obtain ⟨oa2, on2, oc2, rfl⟩ := own_isSlice hn2.own)
                    go_roundw
                    case rel => exact ⟨i + 2 + q, L ++ [⟨K, P, hs⟩], hq, hb, hn2, by rw [List.length_append]; simp only [List.length_cons, List.length_nil]; omega, by rw [HP.out]; exact cinv_step hI.out HD2.out HH.out hTk.out (by omega)⟩
                    case measure => exact hNn
end Go.Proofs.YtjiaidchcldocaaGreatDoor
