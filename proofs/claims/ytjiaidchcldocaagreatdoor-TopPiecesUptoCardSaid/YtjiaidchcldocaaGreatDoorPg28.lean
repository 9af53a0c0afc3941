/-
  PARTS: THE WALK of series.Open.
-/
import Derived.Test.YtjiaidchcldocaaGreatDoorPg1
import Derived.Test.YtjiaidchcldocaaGreatDoorPg21
import Derived.Test.YtjiaidchcldocaaGreatDoorPg22
import Derived.Test.YtjiaidchcldocaaGreatDoorPg23
import Derived.Test.YtjiaidchcldocaaGreatDoorPg18
import Derived.Test.YtjiaidchcldocaaGreatDoorPg27
import Derived.Deep.RegionHeld3
import Derived.BigQuiet
import Derived.Deep.QuietTactic
set_option linter.unusedVariables false
set_option linter.unusedSimpArgs false
namespace Go.Proofs.YtjiaidchcldocaaGreatDoor
open Go.RowKit

theorem openMs_bad {l : List Mail} {k : Int} (h : firstOf pieceF l = k) (h0 : k ≠ 0) : openMs l = ([], [], k) := by
  unfold openMs
  rw [h, if_pos h0]
theorem openMs_ok {l : List Mail} (h : firstOf pieceF l = 0) : openMs l = openPs (l.map pieceOf) := by
  unfold openMs
  rw [h, if_neg (by simp)]
theorem opieces_take {l : List Mail} {i : Nat} {x : Mail} (hx : l[i]? = some x) : (l.take (i + 1)).map pieceOf = (l.take i).map pieceOf ++ [pieceOf x] := by
  rw [List.take_add_one, hx, Option.toList_some, List.map_append]; rfl
def SOpenPost (l : List Mail) (w : World) (e : Ending) (w' : World) : Prop := ∃ r, e = .returned (.tuple #[.string (toB (openMs l).1), r, errV (openMs l).2.2]) ∧ Chg Never w w' ∧ Rdv w' Never r (openMs l).2.1
theorem sopen_no {l : List Mail} {w w' : World} {e : Ending} {k : Int} (hk : openMs l = ([], [], k)) (he : e = .returned (.tuple #[.string ⟨#[]⟩, .slice none 0 0, errV k])) (hc : Chg Never w w') : SOpenPost l w e w' :=
  ⟨_, by rw [hk]; exact he, hc, by rw [hk]; exact rdv_nil _ _⟩
set_option maxHeartbeats 4000000 in
set_option maxRecDepth 100000 in
theorem sopen_any (l : List Mail) (v : Value) (w : World) (h : Rdv w Never v l) (hl9 : l.length ≤ 1000000000) (mx : Int) (hg : Globs w mx) :
    Calls Tryz.prog 12 #[v] w (SOpenPost l w) := by
  obtain ⟨a, cap, rfl, h1, h2, h3⟩ := rdv_slice h
  go_enter Tryz.func12, Tryz.ntmps12
  go_wp2_with fail
  go_loopw [3, 5, 20] (fun pv ov iv wr => pv = .slice none 0 0 ∧ ∃ i : Nat, i ≤ l.length ∧ iv = .int .i64 i ∧ OwnN 97 w wr ov ((l.take i).map pieceOf) ∧ Hid (firstOf pieceF (l.drop i) = firstOf pieceF l) ∧ Hid (∀ x ∈ l.take i, pieceF x = 0)) (fun _ _ iv _ => l.length - (intOf iv).toNat)
  case atStart => exact ⟨rfl, 0, Nat.zero_le _, rfl, ownN_nil _ (Chg.refl _ _), rfl, fun x hx => by cases hx⟩
  case round =>
    obtain ⟨rfl, i, hi, rfl, hn, hf, ha⟩ := hrel
    rename World => wr
    obtain ⟨va, vn, vc, rfl⟩ := own_isSlice hn.own
    by_cases hlt : i < l.length
    · obtain ⟨x, hx⟩ : ∃ x, l[i]? = some x := ⟨l[i], by simp [hlt]⟩
      obtain ⟨b, off, bv, rfl, _, _, c0, c1, c2, c3, z0, z1, z2, hv⟩ := elems_mail h3 hx
      have hcb := hn.chg
      have c0 := hcb.cellNever c0
      have c1 := hcb.cellNever c1
      have c2 := hcb.cellNever c2
      have c3 := hcb.cellNever c3
      obtain ⟨ba, bc, rfl, _, _, _⟩ := rdv_slice hv
      have hA : Chg Never wr (wr.alloc (.cells #[.string x.sender, .string x.subject, .string x.ident, .slice ba x.body.length bc] 31)) := (Chg.refl Never wr).alloc _
      obtain ⟨_, g0, g1, g2, g3⟩ := box1_mail wr 31 x.sender x.subject x.ident (.slice ba x.body.length bc) _ rfl
      have hvA := (hv.never hcb).never hA
      have hnA := hn.never hA
      have HX := Lib.hid hx
      obtain ⟨st1, st2⟩ := firstOf_from hf.out hx
      have HTK := Lib.hid (opieces_take hx)
      have hLl : ((l.take i).map pieceOf).length ≤ 1000000000 := by rw [List.length_map, List.length_take]; omega
      obtain ⟨Lp, hLp⟩ : ∃ Lp, (l.take i).map pieceOf = Lp := ⟨_, rfl⟩
      rw [hLp] at hn hnA HTK hLl
      clear hx h3 h hn hLp
      go_wp2_with fail
      clear c0 c1 c2 c3
      generalize wr.alloc (.cells #[.string x.sender, .string x.subject, .string x.ident, .slice ba x.body.length bc] 31) = wA at hA g0 g1 g2 g3 hvA hnA ⊢
      refine (sread_any x _ _ hvA ⟨z0, z1, z2⟩ mx (hg.never hnA.chg)).mono ?_
      rintro e w5 ⟨t, p, q, pv, L, rfl, hc5, hpv, hok⟩
      have hn5 := hnA.never hc5
      clear g0 g1 g2 g3 hA
      by_cases hz : pieceF x = 0
      · obtain ⟨rfl, rfl, rfl, rfl⟩ := hok hz
        have HS := Lib.hid (st1 hz)
        have HA2 : Hid (∀ y ∈ l.take (i + 1), pieceF y = 0) := fun y hy => by
          rw [List.take_add_one, HX.out, Option.toList_some] at hy
          rcases List.mem_append.1 hy with q | q
          · exact ha.out y q
          · rw [List.mem_singleton.1 q]; exact hz
        have HPO := Lib.hid (pieceOk_of hz)
        generalize pieceOf x = P at hpv HTK HPO ⊢
        rw [hz, errV_zero]
        clear hz st1 st2 hok hf ha
        have hpy := hnA.fresh hpv
        obtain ⟨pa, pc, rfl, _, _, _⟩ := rdv_slice hpv
        obtain ⟨hcB, d0, d1, d2, d3⟩ := box1_part w5 97 (toB P.title) P.at' P.many (.slice pa P.patch.length pc) _ rfl
        have hn6 := hn5.never hcB
        have hy : Dat.rd _ (fun k => Never k ∨ (Value.slice va vn vc).ownBlock = some k) [.string (toB P.title), .int .i64 P.at', .int .i64 P.many, .slice pa P.patch.length pc] P := ⟨_, rfl, HPO.out, hpy.never hcB⟩
        clear hpv hpy hc5 hn5
        go_wp2_with (at_builtin; go_loud (refine wpList_push (by rfl) _ _ 99 (by rfl) elemOk_part (O := Never) (l := Lp) (y := P) (by rfl) (by rfl) (by simp) hn6.own hy (fun _ h => h.elim) hLl ?_; intro v' w7 hown7 hc7 hk7; have hn7 := hn6.step1 hown7 hc7 hk7; clear hown7 hc7 hk7 hy; obtain ⟨oa, on, oc, rfl⟩ := own_isSlice hn7.own))
        clear hn6 d0 d1 d2 d3 hcB
        go_wp2_with fail
        go_roundw
        case rel => exact ⟨rfl, i + 1, by omega, by go_num, by rw [HTK.out]; exact hn7, HS, HA2⟩
        case measure => simp [intOf] <;> omega
      · have HO := Lib.hid (openMs_bad (st2 hz) hz)
        rw [errV_pos hz]
        have HZ := Lib.hid hz
        obtain ⟨pa, pc, rfl, _, _, _⟩ := rdv_slice hpv
        clear hz st1 st2 hok hf ha hpv
        go_wp2_with fail
        go_ret3
        exact sopen_no HO.out (by rw [errV_pos HZ.out]; rfl) ((hn5.chg).alloc _)
    · have hn0 := hn
      rw [List.take_of_length_le (by omega)] at hn0
      have hf' := hf.out
      rw [List.drop_of_length_le (by omega)] at hf'
      have HO := Lib.hid (openMs_ok (l := l) (by rw [← hf']; rfl))
      have HPO : Hid (∀ y ∈ l.map pieceOf, PieceOk y) := fun y hy => by
        obtain ⟨x, hx, rfl⟩ := List.mem_map.1 hy
        exact pieceOk_of (ha.out x (by rw [List.take_of_length_le (by omega)]; exact hx))
      have hpl : (l.map pieceOf).length ≤ 1000000000 := by rw [List.length_map]; exact hl9
      generalize l.map pieceOf = ps at hn0 HO HPO hpl
      have hwr := hn0.chg
      have hrp : Rdv wr Never (.slice va vn vc) ps := hn0.own.rdv
      obtain ⟨pa, pcap, epp, p1, p2, p3⟩ := rdv_slice hrp
      injection epp with epp1 epp2 epp3
      subst epp1; subst epp2; subst epp3
      clear hn hf hf' ha hn0 h3 h
      go_wp2_with fail
      go_loopw [3, 39] (fun pv iv wz => pv = .slice none 0 0 ∧ ∃ k : Nat, k ≤ ps.length ∧ iv = .int .i64 k ∧ Chg Never wr wz ∧ Hid (SameTo ps k)) (fun _ iv _ => ps.length - (intOf iv).toNat)
      case atStart => exact ⟨rfl, 0, Nat.zero_le _, rfl, Chg.refl _ _, same_zero ps⟩
      case round =>
        obtain ⟨rfl, k, hk, rfl, hc, hsm⟩ := hrel
        rename World => wz
        by_cases hkl : k < ps.length
        · obtain ⟨y, hy⟩ : ∃ y, ps[k]? = some y := ⟨ps[k], by simp [hkl]⟩
          obtain ⟨x, hx⟩ : ∃ x, ps[0]? = some x := ⟨ps[0]'(by omega), List.getElem?_eq_getElem (by omega)⟩
          obtain ⟨b, off, yv, rfl, _, _, c0, c1, c2, c3, _, hyv⟩ := elems_part p3 hy
          obtain ⟨b', off', xv, epp, _, _, e0, e1, e2, e3, _, _⟩ := elems_part p3 hx
          injection epp with epp
          injection epp with epp1 epp2 _
          subst epp1; subst epp2
          simp only [Nat.zero_mul, Nat.add_zero] at e0 e1 e2 e3
          obtain ⟨ya, yc, rfl, _, _, _⟩ := rdv_slice hyv
          have c0 := hc.cellNever c0
          have c1 := hc.cellNever c1
          have c2 := hc.cellNever c2
          have c3 := hc.cellNever c3
          have e0 := hc.cellNever e0
          have e2 := hc.cellNever e2
          obtain ⟨hcB, d0, d1, d2, d3⟩ := box1_part wz 97 (toB y.title) y.at' y.many (.slice ya y.patch.length yc) _ rfl
          have e0 := hcB.cellNever e0
          have e2 := hcB.cellNever e2
          have hcz := hc.trans hcB
          have hpos : (0 : Int) < (ps.length : Int) := by omega
          have hposN : 0 < ps.length := by omega
          have HY := Lib.hid hy
          have HX := Lib.hid hx
          clear e1 e3 hy hx hyv
          obtain ⟨Ty, hTy⟩ : ∃ T, toB y.title = T := ⟨_, rfl⟩
          obtain ⟨Tx, hTx⟩ : ∃ T, toB x.title = T := ⟨_, rfl⟩
          have htt : Ty.toList = Tx.toList ↔ y.title = x.title := by rw [← hTy, ← hTx, Lib.toList_data, Lib.toList_data, toB_data, toB_data]
          rw [hTy] at c0 d0 hcB d1 d2 d3 e0 e2 hcz
          rw [hTx] at e0
          by_cases q1 : y.title = x.title
          · have u1 : (Ty.toList == Tx.toList) = true := by rw [htt.2 q1]; simp
            have u2 : (Ty.toList != Tx.toList) = false := by rw [bne, u1]; rfl
            by_cases q2 : y.many = x.many
            · have s1 : (((y.many : Nat) : Int) == ((x.many : Nat) : Int)) = true := by rw [q2]; simp
              have s2 : (((y.many : Nat) : Int) != ((x.many : Nat) : Int)) = false := by rw [bne, s1]; rfl
              have HS2 : Hid (SameTo ps (k + 1)) := same_step hsm.out HY.out (fun z hz => by
                have := HX.out
                rw [hz] at this
                injection this with this
                subst this
                exact ⟨q1, q2⟩)
              clear q1 q2 htt hTy hTx hsm
              go_wp2_with fail
              go_quiet (fail)
              go_wp2_with fail
              go_roundw
              case rel => exact ⟨rfl, k + 1, by omega, by go_num, hcz.drewN _, HS2⟩
              case measure => simp [intOf] <;> omega
            · have HO2 : Hid (openMs l = ([], [], 2)) := by rw [Hid, HO.out]; exact open_shape HX.out HY.out (fun q => q2 q.2)
              have s1 : (((y.many : Nat) : Int) == ((x.many : Nat) : Int)) = false := by rw [beq_eq_false_iff_ne]; omega
              have s2 : (((y.many : Nat) : Int) != ((x.many : Nat) : Int)) = true := by rw [bne, s1]; rfl
              clear q1 q2 htt hTy hTx hsm
              go_wp2_with fail
              go_quiet (fail)
              go_wp2_with fail
              go_ret3
              exact sopen_no HO2.out rfl (hwr.trans (hcz.drewN _))
          · have HO2 : Hid (openMs l = ([], [], 2)) := by rw [Hid, HO.out]; exact open_shape HX.out HY.out (fun q => q1 q.1)
            have u1 : (Ty.toList == Tx.toList) = false := by rw [beq_eq_false_iff_ne]; exact fun q => q1 (htt.1 q)
            have u2 : (Ty.toList != Tx.toList) = true := by rw [bne, u1]; rfl
            clear q1 htt hTy hTx hsm
            go_wp2_with fail
            go_quiet (fail)
            go_wp2_with fail
            go_ret3
            exact sopen_no HO2.out rfl (hwr.trans (hcz.drewN _))
        · obtain rfl : k = ps.length := by omega
          rename World => wz
          have hmm := @run_makeMap Tryz.prog
          have hA6 : Chg Never wz (wz.alloc (.map #[] 0)) := (Chg.refl Never wz).alloc _
          have hm0 := partMap_made wz
          go_wp2_with fail
          clear hmm
          obtain ⟨MB, hMB⟩ : ∃ MB, wz.heap.size = MB := ⟨_, rfl⟩
          have hMBw : wz.heap.size ≤ MB := Nat.le_of_eq hMB
          rw [hMB] at hm0 ⊢
          clear hMB
          go_loopw [3, 64] (fun pv iv wy => pv = .slice none 0 0 ∧ ∃ (k : Nat) (F : Int → Option Value), k ≤ ps.length ∧ iv = .int .i64 k ∧ Chg Never wz wy ∧ PartMap wy MB k F ∧ Hid (Holds wz (ps.take k) F) ∧ Hid (((ps.take k).map (·.at')).Nodup)) (fun _ iv _ => ps.length - (intOf iv).toNat)
          case atStart => exact ⟨rfl, 0, _, Nat.zero_le _, rfl, hA6, hm0, holds_nil _, List.nodup_nil⟩
          case round =>
            clear hm0 hA6
            obtain ⟨rfl, k, F, hk, rfl, hc2, hmap, hH, hnd⟩ := hrel
            rename World => wy
            by_cases hkl : k < ps.length
            · obtain ⟨y, hy⟩ : ∃ y, ps[k]? = some y := ⟨ps[k], by simp [hkl]⟩
              obtain ⟨b, off, yv, rfl, _, _, c0, c1, c2, c3, hyo, hyv⟩ := elems_part p3 hy
              obtain ⟨ya, yc, rfl, _, _, _⟩ := rdv_slice hyv
              have c0 := hc2.cellNever (hc.cellNever c0)
              have c1 := hc2.cellNever (hc.cellNever c1)
              have c2 := hc2.cellNever (hc.cellNever c2)
              have c3 := hc2.cellNever (hc.cellNever c3)
              obtain ⟨hcB, d0, d1, d2, d3⟩ := box1_part wy 97 (toB y.title) y.at' y.many (.slice ya y.patch.length yc) _ rfl
              have hmap1 := hmap.keep hcB (fun h => h)
              have hyI : I64 ((y.at' : Nat) : Int) := by have := hyo.2; unfold I64; omega
              have hlook := hmap1.lookOk hyI
              by_cases hin : y.at' ∈ (ps.take k).map (·.at')
              · have HO3 : Hid (openMs l = ([], [], 6)) := by rw [Hid, HO.out]; exact open_clash hsm.out hy hin
                obtain ⟨z, zv, _, _, hz3, hz4⟩ := hH.out.here hin
                obtain ⟨za, zc, rfl, _, _, _⟩ := rdv_slice hz4
                rw [hz3] at hlook
                replace hlook : (Instr.lookup 102 (.map (some MB)) (.int .i64 y.at') true).run Tryz.prog _ = .ok (.tuple #[.agg #[.string (toB z.title), .int .i64 z.at', .int .i64 z.many, .slice za z.patch.length zc], .bool true]) _ := hlook
                have hcf := (hwr.trans hc).trans (hc2.trans hcB)
                clear hz3 hz4 hin hH hnd hsm hmap hmap1 hyv hy p3 hrp
                go_wp2_with fail
                go_ret3
                exact sopen_no HO3.out rfl (hcf.alloc _)
              · have hFn := hH.out.gone hin
                rw [hFn] at hlook
                replace hlook : (Instr.lookup 102 (.map (some MB)) (.int .i64 y.at') true).run Tryz.prog _ = .ok (.tuple #[.agg #[.string ⟨#[]⟩, .int .i64 0, .int .i64 0, .slice none 0 0], .bool false]) _ := hlook
                obtain ⟨hcB2, _⟩ := box1_part (wy.alloc (.cells #[.string (toB y.title), .int .i64 y.at', .int .i64 y.many, .slice ya y.patch.length yc] 97)) 97 ⟨#[]⟩ 0 0 (.slice none 0 0) _ rfl
                obtain ⟨w7, hrun, hmap7, hc7⟩ := (hmap1.keep hcB2 (fun h => h)).put (by unfold maxLen; omega) hyI (.agg #[.string (toB y.title), .int .i64 y.at', .int .i64 y.many, .slice ya y.patch.length yc]) hFn
                have hcz := (hc2.trans (hcB.trans hcB2)).trans' hc7 (fun x hx hh => by have h : x = MB := hh; omega)
                have HH2 := Lib.hid (hH.out.step hy hin (hyv.never hc))
                have HN2 := Lib.hid (nodup_step hnd.out hy hin)
                have d0 := hcB2.cellNever d0
                have d1 := hcB2.cellNever d1
                have d2 := hcB2.cellNever d2
                have d3 := hcB2.cellNever d3
                clear hFn hin hH hnd hmap hmap1 hyv hy hc7 hcB hcB2
                go_wp2_with fail
                go_roundw
                case rel => exact ⟨rfl, k + 1, _, by omega, by go_num, hcz, hmap7, HH2, HN2⟩
                case measure => simp [intOf] <;> omega
            · obtain rfl : k = ps.length := by omega
              rename World => wy
              have hH1 := hH.out
              have hnd1 := hnd.out
              rw [List.take_length] at hH1 hnd1
              have hH := Lib.hid hH1
              have hnd := Lib.hid hnd1
              clear hH1 hnd1
              have hcf := (hwr.trans hc).trans hc2
              by_cases h0 : ps.length = 0
              · have HO4 : Hid (openMs l = ([], [], 4)) := by
                  rw [Hid, HO.out, List.eq_nil_of_length_eq_zero h0]
                  exact openp_none
                have t0 : ((ps.length : Int) == 0) = true := by rw [h0]; rfl
                have t1 : ((ps.length : Int) != 0) = false := by rw [h0]; rfl
                clear h0 hmap hH hnd p3 hrp
                go_wp2_with fail
                go_quiet (fail)
                go_wp2_with fail
                go_ret3
                exact sopen_no HO4.out rfl (hcf.drewN _)
              · have t0 : ((ps.length : Int) == 0) = false := by rw [beq_eq_false_iff_ne]; omega
                have t1 : ((ps.length : Int) != 0) = true := by rw [bne, t0]; rfl
                have hpos : (0 : Int) < (ps.length : Int) := by omega
                have hposN : 0 < ps.length := by omega
                obtain ⟨x, hx⟩ : ∃ x, ps[0]? = some x := ⟨ps[0]'(by omega), List.getElem?_eq_getElem (by omega)⟩
                obtain ⟨b', off', xv, rfl, _, _, e0, _, e2, _, hxo, _⟩ := elems_part p3 hx
                simp only [Nat.zero_mul, Nat.add_zero] at e0 e2
                have e0 := hc2.cellNever (hc.cellNever e0)
                have e2 := hc2.cellNever (hc.cellNever e2)
                have hx8 : x.many ≤ 8 := hxo.2.2
                have hlen := fun (w' : World) (ty : TypeId) (q : PartMap w' MB ps.length F) => q.len ty
                have hmd := hmap.keep (Chg.refl Never wy).drew (fun h => h)
                have HX := Lib.hid hx
                clear hx h0
                by_cases hlm : ps.length ≤ x.many
                · have HO5 : Hid (openMs l = ([], [], 4)) := by rw [Hid, HO.out]; exact open_few hsm.out hnd.out HX.out hlm
                  have t2 : decide ((ps.length : Int) ≤ ((x.many : Nat) : Int)) = true := decide_eq_true (by omega)
                  go_wp2_with fail
                  refine wp_region_held_drew (S := fun w' => Chg Never wy w' ∧ w'.cell? ⟨b', off' + 2, none⟩ = some (.int .i64 x.many) ∧ w'.cell? ⟨b', off', none⟩ = some (.string (toB x.title)) ∧ (∀ ty, (Builtin.len_ #[102] ty #[.map (some MB)]).run Tryz.prog w' = .ok (.int .i64 ps.length) w')) (by kernel_rfl) ⟨(Chg.refl Never wy).drew, e2, e0, fun ty => hlen _ ty hmd⟩ (fun hH => ?_)
                  refine' tk 0 ?_
                  refine' tk 1 ?_
                  refine' tk 2 ?_
                  refine' tk 3 ?_
                  refine' tk 4 ?_
                  refine' tk 5 ?_
                  refine' tk 6 ?_
                  refine' tk 7 ?_
                  refine' tk 8 ?_
                  refine' tk 9 ?_
                  refine' tk 10 ?_
                  refine' tk 11 ?_
                  refine wpAnyH_done (by kernel_rfl) ?_ _
                  rename (Chg Never wy _ ∧ _) => hF
                  clear hmd hlen
                  generalize wy.drew = wq at hF ⊢
                  go_wp2_with fail
                  go_ret3
                  exact sopen_no HO5.out rfl (hcf.trans hF.1)
                · have HO6 := Lib.hid (HO.out.trans (open_good hsm.out hnd.out HX.out (by omega)))
                  have t2 : decide ((ps.length : Int) ≤ ((x.many : Nat) : Int)) = false := decide_eq_false (by omega)
                  go_wp2_with fail
                  refine wp_region_held_drew (S := fun w' => Chg Never wy w' ∧ w'.cell? ⟨b', off' + 2, none⟩ = some (.int .i64 x.many) ∧ w'.cell? ⟨b', off', none⟩ = some (.string (toB x.title)) ∧ (∀ ty, (Builtin.len_ #[102] ty #[.map (some MB)]).run Tryz.prog w' = .ok (.int .i64 ps.length) w')) (by kernel_rfl) ⟨(Chg.refl Never wy).drew, e2, e0, fun ty => hlen _ ty hmd⟩ (fun hH => ?_)
                  refine' tk 0 ?_
                  refine' tk 1 ?_
                  refine' tk 2 ?_
                  refine' tk 3 ?_
                  refine' tk 4 ?_
                  refine' tk 5 ?_
                  refine' tk 6 ?_
                  refine' tk 7 ?_
                  refine' tk 8 ?_
                  refine' tk 9 ?_
                  refine' tk 10 ?_
                  refine' tk 11 ?_
                  refine wpAnyH_done (by kernel_rfl) ?_ _
                  rename (Chg Never wy _ ∧ _) => hF
                  clear hmd hlen
                  generalize wy.drew = wq at hF ⊢
                  obtain ⟨hcq, e2, e0, -⟩ := hF
                  have hmapq := hmap.keep hcq (fun h => h)
                  have hHq := Lib.hid ((hH.out.never hc2).never hcq)
                  have hcf := hcf.trans hcq
                  clear hmap hH hnd hsm hlm
                  go_wp2_with fail
                  go_loopw [3, 99] (fun ov iv w4 => ∃ i : Nat, i ≤ x.many ∧ iv = .int .i64 i ∧ OwnN 51 wq w4 ov ((List.range i).map fun j => getP ps (j + 1))) (fun _ iv _ => x.many - (intOf iv).toNat)
                  case atStart => exact ⟨0, Nat.zero_le _, rfl, ownN_nil _ (Chg.refl _ _)⟩
                  case round =>
                    obtain ⟨i, hi, rfl, hn⟩ := hrel
                    rename World => w4
                    obtain ⟨va, vn, vc, rfl⟩ := own_isSlice hn.own
                    by_cases hil : i < x.many
                    · obtain ⟨t', a', b'', pv, hpe, hpv⟩ := hHq.out.patch (i + 1)
                      obtain ⟨qa, qc, rfl, _, _, _⟩ := rdv_slice hpv
                      have eI : ((i + 1 : Nat) : Int) = (i : Int) + 1 := by omega
                      have hlook := (hmapq.keep hn.chg (fun h => h)).look (j := (i : Int) + 1) (by unfold I64; omega)
                      rw [← eI, hpe, eI] at hlook
                      replace hlook : (Instr.lookup 102 (.map (some MB)) (.int .i64 ((i : Int) + 1)) false).run Tryz.prog w4 = .ok (.agg #[.string t', .int .i64 a', .int .i64 b'', .slice qa (getP ps (i + 1)).length qc]) w4 := hlook
                      have hfd : ∀ wx, (Instr.field 97 (.agg #[.string t', .int .i64 a', .int .i64 b'', .slice qa (getP ps (i + 1)).length qc]) 3).run Tryz.prog wx = .ok (.slice qa (getP ps (i + 1)).length qc) wx := fun _ => by kernel_rfl
                      have sN : IntKind.i64.wrap ((i : Int) + 1) = (i : Int) + 1 := IntWalk.i64_in _ (by omega)
                      have hy : Dat.rd w4 (fun k => Never k ∨ (Value.slice va vn vc).ownBlock = some k) [.slice qa (getP ps (i + 1)).length qc] (getP ps (i + 1)) := hn.away hpv
                      have HTR : Hid ((List.range (i + 1)).map (fun j => getP ps (j + 1)) = (List.range i).map (fun j => getP ps (j + 1)) ++ [getP ps (i + 1)]) := by rw [Hid, List.range_succ, List.map_append]; rfl
                      have hLl : ((List.range i).map fun j => getP ps (j + 1)).length ≤ 1000000000 := by rw [List.length_map, List.length_range]; omega
                      generalize (List.range i).map (fun j => getP ps (j + 1)) = Lq at hn HTR hLl
                      clear hpe eI hpv
                      go_wp2_with (at_builtin; refine wpList_push (by rfl) _ _ 22 (by rfl) elemOk_changes (O := Never) (l := Lq) (y := getP ps (i + 1)) (by rfl) (by rfl) (by rfl) hn.own hy (fun _ h => h.elim) hLl ?_; intro v' w7 hown7 hc7 hk7; have hn7 := hn.step1 hown7 hc7 hk7; clear hown7 hc7 hk7 hy; obtain ⟨oa, on, oc, rfl⟩ := own_isSlice hn7.own)
                      clear hn hlook sN
                      go_wp2_with fail
                      go_roundw
                      case rel => exact ⟨i + 1, by omega, by go_num, by rw [HTR.out]; exact hn7⟩
                      case measure => simp [intOf] <;> omega
                    · obtain rfl : i = x.many := by omega
                      have e0 := hn.chg.cellNever e0
                      have hcg := hcf.trans hn.chg
                      have hr := hn.own.rdv
                      clear hn hHq hmapq
                      go_wp2_with fail
                      go_ret3
                      exact ⟨_, by rw [HO6.out]; rfl, hcg, by rw [HO6.out]; exact hr⟩
end Go.Proofs.YtjiaidchcldocaaGreatDoor
