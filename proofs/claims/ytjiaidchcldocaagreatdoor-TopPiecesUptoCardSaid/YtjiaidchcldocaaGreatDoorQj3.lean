/-
  PARTS: THE WALKS OF LAYER 4: trimmed, slices.Clone, hunk.Copy.
-/
import Derived.Test.YtjiaidchcldocaaGreatDoorPg1
import Derived.Test.YtjiaidchcldocaaGreatDoorPg2
import Derived.Test.YtjiaidchcldocaaGreatDoorPg3
import Derived.Test.YtjiaidchcldocaaGreatDoorPg4
import Derived.Test.YtjiaidchcldocaaGreatDoorPg5
import Derived.Test.YtjiaidchcldocaaGreatDoorPg6
import Derived.Test.YtjiaidchcldocaaGreatDoorPg7
import Derived.Test.YtjiaidchcldocaaGreatDoorPg8
import Derived.Test.YtjiaidchcldocaaGreatDoorPg9
import Derived.Test.YtjiaidchcldocaaGreatDoorPg10
import Derived.Test.YtjiaidchcldocaaGreatDoorPg11
import Derived.Test.YtjiaidchcldocaaGreatDoorPg12
import Derived.Test.YtjiaidchcldocaaGreatDoorPg13
import Derived.Test.YtjiaidchcldocaaGreatDoorPg14
import Derived.Test.YtjiaidchcldocaaGreatDoorPg15
import Derived.Test.YtjiaidchcldocaaGreatDoorPg16
import Derived.Test.YtjiaidchcldocaaGreatDoorPg17
import Derived.Test.YtjiaidchcldocaaGreatDoorPg18
import Derived.Test.YtjiaidchcldocaaGreatDoorPg19
import Derived.Test.YtjiaidchcldocaaGreatDoorPg20
import Derived.Test.YtjiaidchcldocaaGreatDoorPg21
import Derived.Test.YtjiaidchcldocaaGreatDoorPg22
import Derived.Test.YtjiaidchcldocaaGreatDoorPg23
import Derived.Test.YtjiaidchcldocaaGreatDoorPg24
import Derived.Test.YtjiaidchcldocaaGreatDoorPg25
import Derived.Test.YtjiaidchcldocaaGreatDoorPg26
import Derived.Test.YtjiaidchcldocaaGreatDoorPg27
import Derived.Test.YtjiaidchcldocaaGreatDoorPg28
import Derived.Test.YtjiaidchcldocaaGreatDoorPg29
import Derived.Test.YtjiaidchcldocaaGreatDoorPg30
import Derived.Test.YtjiaidchcldocaaGreatDoorPg31
import Derived.Test.YtjiaidchcldocaaGreatDoorPg32
import Derived.Test.YtjiaidchcldocaaGreatDoorPg33
import Derived.Test.YtjiaidchcldocaaGreatDoorPg34
import Derived.Test.YtjiaidchcldocaaGreatDoorPg35
import Derived.Test.YtjiaidchcldocaaGreatDoorPg36
import Derived.Test.YtjiaidchcldocaaGreatDoorPg37
import Derived.Test.YtjiaidchcldocaaGreatDoorPg38
import Derived.Test.YtjiaidchcldocaaGreatDoorQj2
set_option linter.unusedVariables false
set_option linter.unusedSimpArgs false
namespace Go.Proofs.YtjiaidchcldocaaGreatDoor
open Go.RowKit

theorem tkept_any (sg : Int) (tx : ByteArray) (w : World) :
    Calls Tryz.prog 183 #[.agg #[.int .u8 sg, .string tx]] w fun e w' => e = .returned (.bool (sg == 32)) ∧ Chg Never w w' := by
  go_enter Tryz.func183, Tryz.ntmps183
  go_wp2
  go_ret
  exact ⟨rfl, by repeat (first | exact Chg.refl _ _ | apply Chg.alloc)⟩

theorem headN_step {f : Nat} {s : List Mark} {k : Nat} {x : Mark} (hk : k < f) (hx : s[k]? = some x) (hs : x.sign = 32) (h : headN f s = k + headN (f - k) (s.drop k)) : headN f s = (k + 1) + headN (f - (k + 1)) (s.drop (k + 1)) := by
  rw [h, drop_eq hx, show f - k = (f - (k + 1)) + 1 by omega, headN, if_pos hs]; omega
theorem headN_stop {f : Nat} {s : List Mark} {k : Nat} {x : Mark} (hx : s[k]? = some x) (hs : x.sign ≠ 32) (h : headN f s = k + headN (f - k) (s.drop k)) : headN f s = k := by
  rw [h, drop_eq hx]
  cases f - k with
  | zero => rfl
  | succ n => rw [headN, if_neg hs]; exact Nat.add_zero k
theorem trimTail_snoc (f : Nat) (r : List Mark) (m : Mark) : trimTail (f + 1) (r ++ [m]) = if m.sign = 32 then trimTail f r else r ++ [m] := by
  unfold trimTail
  rw [List.reverse_append, List.reverse_singleton, List.singleton_append, headN]
  split
  · rw [List.length_append, List.length_singleton, show r.length + 1 - (headN f r.reverse + 1) = r.length - headN f r.reverse by omega, List.take_append_of_le_length (by omega)]
  · rw [Nat.sub_zero, List.take_length]
theorem trimTail_zero (r : List Mark) : trimTail 0 r = r := by unfold trimTail; simp [headN_zero]
theorem trimTail_nil (f : Nat) : trimTail f [] = [] := by unfold trimTail; simp
theorem snoc_of_last {l : List Mark} {x : Mark} (hx : l[l.length - 1]? = some x) : l = l.take (l.length - 1) ++ [x] := by
  have hpos : l.length - 1 < l.length := (List.getElem?_eq_some_iff.1 hx).1
  have := take_snoc' hx
  rw [show l.length - 1 + 1 = l.length by omega, List.take_length] at this
  exact this


set_option maxHeartbeats 1600000 in
set_option maxRecDepth 100000 in
theorem trimmed_any (O : Nat → Prop) (s : List Mark) (f : Nat) (v : Value) (w : World) (h : Rdv w O v s) (hf : f ≤ 3) (hs : s.length ≤ 120) :
    Calls Tryz.prog 142 #[v, .int .i64 f] w fun e w' => ∃ r, e = .returned (.tuple #[.int .i64 (headN f s), r]) ∧ Chg Never w w' ∧ Rdv w' O r (trimmedOf f s) := by
  obtain ⟨a, cap, rfl, h1, h2, h3⟩ := rdv_slice h
  unfold maxLen at h2
  go_enter Tryz.func142, Tryz.ntmps142
  go_wp2_with fail
  go_loopw [4] (fun hd wr => ∃ k : Nat, k ≤ f ∧ k ≤ s.length ∧ hd = .int .i64 k ∧ Chg Never w wr ∧ Hid (headN f s = k + headN (f - k) (s.drop k))) (fun hd _ => f - (intOf hd).toNat)
  case atStart => exact ⟨0, Nat.zero_le _, Nat.zero_le _, rfl, Chg.refl _ _, by simp [Hid]⟩
  case round =>
    obtain ⟨k, hkf, hk, rfl, hc, hhd⟩ := hrel
    by_cases hgo : k < f ∧ k < s.length ∧ keptAt s k = true
    · obtain ⟨g1, g2, g3⟩ := hgo
      obtain ⟨x, hx⟩ : ∃ x, s[k]? = some x := ⟨s[k], by simp [g2]⟩
      have hx32 : x.sign = 32 := by unfold keptAt at g3; rw [hx] at g3; simpa using g3
      obtain ⟨b, off, rfl, _, _, c0, c1, s0, s1, hxs⟩ := elems_mark h3 hx
      have c0 := hc.cellNever c0
      have c1 := hc.cellNever c1
      have HS := Lib.hid (headN_step g1 hx hx32 hhd.out)
      obtain ⟨sg, tx⟩ := x
      simp only at c0 c1 s0 s1 hxs hx32
      subst hx32
      clear g3 hx h3 h
      go_wp2_with fail
      refine (tkept_any _ _ _).mono ?_
      rintro e w2 ⟨rfl, hc2⟩
      go_wp2_with fail
      go_roundw
      case rel => exact ⟨k + 1, by omega, by omega, by go_num, hc.trans hc2, HS.out⟩
      case measure => simp [intOf] <;> omega
    · have hE : Hid (headN f s = k) := by
        unfold Hid
        by_cases g1 : k < f
        · by_cases g2 : k < s.length
          · have hx : s[k]? = some s[k] := by simp [g2]
            refine headN_stop hx (fun e => hgo ⟨g1, g2, by unfold keptAt; rw [hx]; simp [e]⟩) hhd.out
          · have := hhd.out
            rw [List.drop_of_length_le (by omega)] at this
            rw [this]
            cases f - k <;> rfl
        · have := hhd.out
          rw [show f - k = 0 by omega, headN_zero] at this
          exact this
      obtain ⟨sb, hrun0, hrun1, hrun2, hsub⟩ := slice_gen (P := Tryz.prog) (t := 127) (by kernel_rfl) size_mark (h.never hc) k s.length hk (Nat.le_refl _)
      have hrun := fun (wx : World) => hrun1 (k : Int) wx rfl rfl
      clear hrun0 hrun1 hrun2
      rw [List.take_of_length_le (by rw [List.length_drop]; omega)] at hsub
      by_cases g1 : k < f
      · by_cases g2 : k < s.length
        · obtain ⟨x, hx⟩ : ∃ x, s[k]? = some x := ⟨s[k], by simp [g2]⟩
          have hx32 : x.sign ≠ 32 := fun e => hgo ⟨g1, g2, by unfold keptAt; rw [hx]; simp [e]⟩
          obtain ⟨b, off, rfl, _, _, c0, c1, s0, s1, hxs⟩ := elems_mark h3 hx
          have c0 := hc.cellNever c0
          have c1 := hc.cellNever c1
          obtain ⟨sg, tx⟩ := x
          simp only at c0 c1 s0 s1 hxs hx32
          have t1 : (sg == 32) = false := by simp [hx32]
          clear hx h3 h hgo hx32
          go_wp2_with fail
          refine (tkept_any _ _ _).mono ?_
          rintro e w2 ⟨rfl, hc2⟩
          have hc := hc.trans hc2
          have hsub := hsub.never hc2
          clear hc2 c0 c1
          go_wp2_with fail
          go_loopw [5, 7] (fun rest nn wr => ∃ (j : Nat) (cur : List Mark), j ≤ f ∧ nn = .int .i64 j ∧ Chg Never w wr ∧ Rdv wr O rest cur ∧ cur.length ≤ 120 ∧ Hid (trimTail f (s.drop k) = trimTail (f - j) cur)) (fun _ nn _ => f - (intOf nn).toNat)
          case atStart => exact ⟨0, s.drop k, Nat.zero_le _, rfl, hc, hsub, by rw [List.length_drop]; omega, rfl⟩
          case round =>
            clear hc hsub hrun hhd
            obtain ⟨j, cur, hj, rfl, hc, hr, hcl, ht⟩ := hrel
            obtain ⟨ra, rcap, rfl, r1, r2, r3⟩ := rdv_slice hr
            unfold maxLen at r2
            by_cases k1 : j < f
            · by_cases k2 : 0 < cur.length
              · obtain ⟨q, hq⟩ : ∃ q, cur.length = q + 1 := ⟨cur.length - 1, by omega⟩
                have hq1 : q ≤ 120 := by omega
                obtain ⟨x, hx⟩ : ∃ x, cur[cur.length - 1]? = some x := ⟨cur[cur.length - 1], by simp [k2]⟩
                have hsn := snoc_of_last hx
                rw [show cur.length - 1 = q by omega] at hx hsn
                obtain ⟨b, off, rfl, _, _, c0, c1, s0, s1, hxs⟩ := elems_mark r3 hx
                obtain ⟨tb, t0, t1', t2, tsub⟩ := slice_gen (P := Tryz.prog) (t := 127) (by kernel_rfl) size_mark hr 0 q (Nat.zero_le _) (by omega)
                have trun : ∀ wx, (Instr.slice 127 (.slice (some ⟨b, off, none⟩) (q + 1) rcap) none (some (.int .i64 (q : Int))) none).run Tryz.prog wx = .ok (.slice tb q rcap) wx := by
                  intro wx
                  have := t2 (q : Int) wx rfl rfl
                  rwa [hq, Nat.sub_zero, Nat.sub_zero] at this
                clear t0 t1' t2
                rw [List.drop_zero, Nat.sub_zero, Nat.sub_zero] at tsub
                obtain ⟨sg, tx⟩ := x
                simp only at c0 c1 s0 s1 hxs
                by_cases k3 : sg = 32
                · have HT : Hid (trimTail f (s.drop k) = trimTail (f - (j + 1)) (cur.take q)) := by
                    unfold Hid
                    rw [ht.out, show f - j = (f - (j + 1)) + 1 by omega, hsn, trimTail_snoc, if_pos k3]
                    rw [← hsn]
                  have hl2 : (cur.take q).length = q := by rw [List.length_take]; omega
                  have HL := Lib.hid hl2
                  subst k3
                  rw [hq]
                  clear hsn hx r3 hr ht hl2 hq k2
                  go_wp2_with fail
                  refine (tkept_any _ _ _).mono ?_
                  rintro e w5 ⟨rfl, hc5⟩
                  go_wp2_with fail
                  go_roundw
                  case rel => exact ⟨j + 1, cur.take q, by omega, by go_num, hc.trans hc5, tsub.never hc5, by rw [HL.out]; omega, HT.out⟩
                  case measure => simp [intOf] <;> omega
                · have HR : Hid (trimmedOf f s = cur) := by
                    unfold Hid trimmedOf
                    rw [hE.out, ht.out, show f - j = (f - (j + 1)) + 1 by omega, hsn, trimTail_snoc, if_neg k3]
                  have t1 : (sg == 32) = false := by simp [k3]
                  have HQ := Lib.hid hq
                  rw [hq]
                  clear hsn hx r3 ht k3 hq k2 trun tsub
                  go_wp2_with fail
                  refine (tkept_any _ _ _).mono ?_
                  rintro e w5 ⟨rfl, hc5⟩
                  have hc := hc.trans hc5
                  have hr := hr.never hc5
                  rw [HQ.out] at hr
                  go_wp2_with fail
                  go_ret2
                  exact ⟨_, by rw [hE.out]; rfl, hc, by rw [HR.out]; exact hr⟩
              · have hcn : cur = [] := List.eq_nil_of_length_eq_zero (by omega)
                have HR : Hid (trimmedOf f s = cur) := by
                  unfold Hid trimmedOf
                  rw [hE.out, ht.out, hcn, trimTail_nil]
                have HL : Hid (cur.length = 0) := by rw [hcn]; rfl
                rw [HL.out]
                rw [HL.out] at hr
                clear hcn k2 r3 ht
                go_wp2_with fail
                go_ret2
                exact ⟨_, by rw [hE.out]; rfl, hc, by rw [HR.out]; exact hr⟩
            · have HR : Hid (trimmedOf f s = cur) := by
                unfold Hid trimmedOf
                rw [hE.out, ht.out, show f - j = 0 by omega, trimTail_zero]
              clear r3 ht
              go_wp2_with fail
              go_ret2
              exact ⟨_, by rw [hE.out]; rfl, hc, by rw [HR.out]; exact hr⟩
        · clear hgo h3 h
          go_wp2_with fail
          go_loopw [5, 7] (fun rest nn wr => ∃ (j : Nat) (cur : List Mark), j ≤ f ∧ nn = .int .i64 j ∧ Chg Never w wr ∧ Rdv wr O rest cur ∧ cur.length ≤ 120 ∧ Hid (trimTail f (s.drop k) = trimTail (f - j) cur)) (fun _ nn _ => f - (intOf nn).toNat)
          case atStart => exact ⟨0, s.drop k, Nat.zero_le _, rfl, hc, hsub, by rw [List.length_drop]; omega, rfl⟩
          case round =>
            clear hc hsub hrun hhd
            obtain ⟨j, cur, hj, rfl, hc, hr, hcl, ht⟩ := hrel
            obtain ⟨ra, rcap, rfl, r1, r2, r3⟩ := rdv_slice hr
            unfold maxLen at r2
            by_cases k1 : j < f
            · by_cases k2 : 0 < cur.length
              · obtain ⟨q, hq⟩ : ∃ q, cur.length = q + 1 := ⟨cur.length - 1, by omega⟩
                have hq1 : q ≤ 120 := by omega
                obtain ⟨x, hx⟩ : ∃ x, cur[cur.length - 1]? = some x := ⟨cur[cur.length - 1], by simp [k2]⟩
                have hsn := snoc_of_last hx
                rw [show cur.length - 1 = q by omega] at hx hsn
                obtain ⟨b, off, rfl, _, _, c0, c1, s0, s1, hxs⟩ := elems_mark r3 hx
                obtain ⟨tb, t0, t1', t2, tsub⟩ := slice_gen (P := Tryz.prog) (t := 127) (by kernel_rfl) size_mark hr 0 q (Nat.zero_le _) (by omega)
                have trun : ∀ wx, (Instr.slice 127 (.slice (some ⟨b, off, none⟩) (q + 1) rcap) none (some (.int .i64 (q : Int))) none).run Tryz.prog wx = .ok (.slice tb q rcap) wx := by
                  intro wx
                  have := t2 (q : Int) wx rfl rfl
                  rwa [hq, Nat.sub_zero, Nat.sub_zero] at this
                clear t0 t1' t2
                rw [List.drop_zero, Nat.sub_zero, Nat.sub_zero] at tsub
                obtain ⟨sg, tx⟩ := x
                simp only at c0 c1 s0 s1 hxs
                by_cases k3 : sg = 32
                · have HT : Hid (trimTail f (s.drop k) = trimTail (f - (j + 1)) (cur.take q)) := by
                    unfold Hid
                    rw [ht.out, show f - j = (f - (j + 1)) + 1 by omega, hsn, trimTail_snoc, if_pos k3]
                    rw [← hsn]
                  have hl2 : (cur.take q).length = q := by rw [List.length_take]; omega
                  have HL := Lib.hid hl2
                  subst k3
                  rw [hq]
                  clear hsn hx r3 hr ht hl2 hq k2
                  go_wp2_with fail
                  refine (tkept_any _ _ _).mono ?_
                  rintro e w5 ⟨rfl, hc5⟩
                  go_wp2_with fail
                  go_roundw
                  case rel => exact ⟨j + 1, cur.take q, by omega, by go_num, hc.trans hc5, tsub.never hc5, by rw [HL.out]; omega, HT.out⟩
                  case measure => simp [intOf] <;> omega
                · have HR : Hid (trimmedOf f s = cur) := by
                    unfold Hid trimmedOf
                    rw [hE.out, ht.out, show f - j = (f - (j + 1)) + 1 by omega, hsn, trimTail_snoc, if_neg k3]
                  have t1 : (sg == 32) = false := by simp [k3]
                  have HQ := Lib.hid hq
                  rw [hq]
                  clear hsn hx r3 ht k3 hq k2 trun tsub
                  go_wp2_with fail
                  refine (tkept_any _ _ _).mono ?_
                  rintro e w5 ⟨rfl, hc5⟩
                  have hc := hc.trans hc5
                  have hr := hr.never hc5
                  rw [HQ.out] at hr
                  go_wp2_with fail
                  go_ret2
                  exact ⟨_, by rw [hE.out]; rfl, hc, by rw [HR.out]; exact hr⟩
              · have hcn : cur = [] := List.eq_nil_of_length_eq_zero (by omega)
                have HR : Hid (trimmedOf f s = cur) := by
                  unfold Hid trimmedOf
                  rw [hE.out, ht.out, hcn, trimTail_nil]
                have HL : Hid (cur.length = 0) := by rw [hcn]; rfl
                rw [HL.out]
                rw [HL.out] at hr
                clear hcn k2 r3 ht
                go_wp2_with fail
                go_ret2
                exact ⟨_, by rw [hE.out]; rfl, hc, by rw [HR.out]; exact hr⟩
            · have HR : Hid (trimmedOf f s = cur) := by
                unfold Hid trimmedOf
                rw [hE.out, ht.out, show f - j = 0 by omega, trimTail_zero]
              clear r3 ht
              go_wp2_with fail
              go_ret2
              exact ⟨_, by rw [hE.out]; rfl, hc, by rw [HR.out]; exact hr⟩
      · clear hgo h3 h
        go_wp2_with fail
        go_loopw [5, 7] (fun rest nn wr => ∃ (j : Nat) (cur : List Mark), j ≤ f ∧ nn = .int .i64 j ∧ Chg Never w wr ∧ Rdv wr O rest cur ∧ cur.length ≤ 120 ∧ Hid (trimTail f (s.drop k) = trimTail (f - j) cur)) (fun _ nn _ => f - (intOf nn).toNat)
        case atStart => exact ⟨0, s.drop k, Nat.zero_le _, rfl, hc, hsub, by rw [List.length_drop]; omega, rfl⟩
        case round =>
          clear hc hsub hrun hhd
          obtain ⟨j, cur, hj, rfl, hc, hr, hcl, ht⟩ := hrel
          obtain ⟨ra, rcap, rfl, r1, r2, r3⟩ := rdv_slice hr
          unfold maxLen at r2
          by_cases k1 : j < f
          · by_cases k2 : 0 < cur.length
            · obtain ⟨q, hq⟩ : ∃ q, cur.length = q + 1 := ⟨cur.length - 1, by omega⟩
              have hq1 : q ≤ 120 := by omega
              obtain ⟨x, hx⟩ : ∃ x, cur[cur.length - 1]? = some x := ⟨cur[cur.length - 1], by simp [k2]⟩
              have hsn := snoc_of_last hx
              rw [show cur.length - 1 = q by omega] at hx hsn
              obtain ⟨b, off, rfl, _, _, c0, c1, s0, s1, hxs⟩ := elems_mark r3 hx
              obtain ⟨tb, t0, t1', t2, tsub⟩ := slice_gen (P := Tryz.prog) (t := 127) (by kernel_rfl) size_mark hr 0 q (Nat.zero_le _) (by omega)
              have trun : ∀ wx, (Instr.slice 127 (.slice (some ⟨b, off, none⟩) (q + 1) rcap) none (some (.int .i64 (q : Int))) none).run Tryz.prog wx = .ok (.slice tb q rcap) wx := by
                intro wx
                have := t2 (q : Int) wx rfl rfl
                rwa [hq, Nat.sub_zero, Nat.sub_zero] at this
              clear t0 t1' t2
              rw [List.drop_zero, Nat.sub_zero, Nat.sub_zero] at tsub
              obtain ⟨sg, tx⟩ := x
              simp only at c0 c1 s0 s1 hxs
              by_cases k3 : sg = 32
              · have HT : Hid (trimTail f (s.drop k) = trimTail (f - (j + 1)) (cur.take q)) := by
                  unfold Hid
                  rw [ht.out, show f - j = (f - (j + 1)) + 1 by omega, hsn, trimTail_snoc, if_pos k3]
                  rw [← hsn]
                have hl2 : (cur.take q).length = q := by rw [List.length_take]; omega
                have HL := Lib.hid hl2
                subst k3
                rw [hq]
                clear hsn hx r3 hr ht hl2 hq k2
                go_wp2_with fail
                refine (tkept_any _ _ _).mono ?_
                rintro e w5 ⟨rfl, hc5⟩
                go_wp2_with fail
                go_roundw
                case rel => exact ⟨j + 1, cur.take q, by omega, by go_num, hc.trans hc5, tsub.never hc5, by rw [HL.out]; omega, HT.out⟩
                case measure => simp [intOf] <;> omega
              · have HR : Hid (trimmedOf f s = cur) := by
                  unfold Hid trimmedOf
                  rw [hE.out, ht.out, show f - j = (f - (j + 1)) + 1 by omega, hsn, trimTail_snoc, if_neg k3]
                have t1 : (sg == 32) = false := by simp [k3]
                have HQ := Lib.hid hq
                rw [hq]
                clear hsn hx r3 ht k3 hq k2 trun tsub
                go_wp2_with fail
                refine (tkept_any _ _ _).mono ?_
                rintro e w5 ⟨rfl, hc5⟩
                have hc := hc.trans hc5
                have hr := hr.never hc5
                rw [HQ.out] at hr
                go_wp2_with fail
                go_ret2
                exact ⟨_, by rw [hE.out]; rfl, hc, by rw [HR.out]; exact hr⟩
            · have hcn : cur = [] := List.eq_nil_of_length_eq_zero (by omega)
              have HR : Hid (trimmedOf f s = cur) := by
                unfold Hid trimmedOf
                rw [hE.out, ht.out, hcn, trimTail_nil]
              have HL : Hid (cur.length = 0) := by rw [hcn]; rfl
              rw [HL.out]
              rw [HL.out] at hr
              clear hcn k2 r3 ht
              go_wp2_with fail
              go_ret2
              exact ⟨_, by rw [hE.out]; rfl, hc, by rw [HR.out]; exact hr⟩
          · have HR : Hid (trimmedOf f s = cur) := by
              unfold Hid trimmedOf
              rw [hE.out, ht.out, show f - j = 0 by omega, trimTail_zero]
            clear r3 ht
            go_wp2_with fail
            go_ret2
            exact ⟨_, by rw [hE.out]; rfl, hc, by rw [HR.out]; exact hr⟩
end Go.Proofs.YtjiaidchcldocaaGreatDoor
