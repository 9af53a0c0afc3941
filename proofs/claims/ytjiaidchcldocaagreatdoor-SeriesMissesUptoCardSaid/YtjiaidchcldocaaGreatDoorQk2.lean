/-
  PARTS: THE LAW SeriesMisses, walked.
-/
import Derived.Test.YtjiaidchcldocaaGreatDoorPg1
import Derived.Test.YtjiaidchcldocaaGreatDoorPg2
import Derived.Test.YtjiaidchcldocaaGreatDoorPg3
import Derived.Test.YtjiaidchcldocaaGreatDoorPg4
import Derived.Test.YtjiaidchcldocaaGreatDoorPg5
import Derived.Test.YtjiaidchcldocaaGreatDoorPg6
import Derived.Test.YtjiaidchcldocaaGreatDoorPg7
import Derived.Test.YtjiaidchcldocaaGreatDoorPg8
import Derived.Test.YtjiaidchcldocaaGreatDoorPg9
import Derived.Test.YtjiaidchcldocaaGreatDoorPg10
import Derived.Test.YtjiaidchcldocaaGreatDoorPg11
import Derived.Test.YtjiaidchcldocaaGreatDoorPg12
import Derived.Test.YtjiaidchcldocaaGreatDoorPg13
import Derived.Test.YtjiaidchcldocaaGreatDoorPg14
import Derived.Test.YtjiaidchcldocaaGreatDoorPg15
import Derived.Test.YtjiaidchcldocaaGreatDoorPg16
import Derived.Test.YtjiaidchcldocaaGreatDoorPg17
import Derived.Test.YtjiaidchcldocaaGreatDoorPg18
import Derived.Test.YtjiaidchcldocaaGreatDoorPg19
import Derived.Test.YtjiaidchcldocaaGreatDoorPg20
import Derived.Test.YtjiaidchcldocaaGreatDoorPg21
import Derived.Test.YtjiaidchcldocaaGreatDoorPg22
import Derived.Test.YtjiaidchcldocaaGreatDoorPg23
import Derived.Test.YtjiaidchcldocaaGreatDoorPg24
import Derived.Test.YtjiaidchcldocaaGreatDoorPg25
import Derived.Test.YtjiaidchcldocaaGreatDoorPg26
import Derived.Test.YtjiaidchcldocaaGreatDoorPg27
import Derived.Test.YtjiaidchcldocaaGreatDoorPg28
import Derived.Test.YtjiaidchcldocaaGreatDoorPg29
import Derived.Test.YtjiaidchcldocaaGreatDoorPg30
import Derived.Test.YtjiaidchcldocaaGreatDoorPg31
import Derived.Test.YtjiaidchcldocaaGreatDoorPg32
import Derived.Test.YtjiaidchcldocaaGreatDoorPg33
import Derived.Test.YtjiaidchcldocaaGreatDoorPg34
import Derived.Test.YtjiaidchcldocaaGreatDoorPg35
import Derived.Test.YtjiaidchcldocaaGreatDoorPg36
import Derived.Test.YtjiaidchcldocaaGreatDoorPg37
import Derived.Test.YtjiaidchcldocaaGreatDoorPg38
import Derived.Test.YtjiaidchcldocaaGreatDoorQk1
set_option linter.unusedVariables false
set_option linter.unusedSimpArgs false
namespace Go.Proofs.YtjiaidchcldocaaGreatDoor
open Go.RowKit

theorem openMs_nil : openMs [] = ([], [], 4) := rfl
theorem perm_size {L l : List Mail} (h : List.Perm L l) (n : Nat) (hn : l.length ≤ n) : L.length ≤ n := by rw [h.length_eq]; exact hn
set_option maxHeartbeats 1000000 in
set_option maxRecDepth 100000 in
theorem law_seriesMisses (t : ByteArray) (p : List (List Change)) (k : Int) (ord : List Int) (o : ByteArray) (vp vo : Value) (w : World) (ht : t.size ≤ 1048576) (hp : Rdv w Never vp p) (hk : I64 k) (ho : Rdv w Never vo ord) (ho2 : o.size ≤ 1048576) (m : Int) (_hm : w.cell? ⟨1, 0, none⟩ = some (.int .i64 m)) (hg : Globs w m) (he : w.cell? ⟨0, 0, none⟩ = some errT) :
    Calls Tryz.prog 4 #[.string t, vp, .int .i64 k, vo, .string o] w fun e w' => e = .returned (.bool true) ∧ Chg Never w w' := by
  have HX := Lib.hid x_pack
  obtain ⟨pa, pc, rfl, p1, p2, _⟩ := rdv_slice hp
  obtain ⟨oa, oc, rfl, _, _, _⟩ := rdv_slice ho
  unfold maxLen at p2
  go_enter Tryz.func4, Tryz.ntmps4
  go_wp2_with fail
  refine (pack_any xW [] _ _ (rdv_nil _ _) (by decide) m hg.ml).mono ?_
  rintro e w1 ⟨r1, rfl, hw, hr1⟩
  rw [HX.out.1, errV_zero]
  rw [HX.out.2] at hr1
  obtain ⟨ra, rc, rfl, _, _, _⟩ := rdv_slice hr1
  clear hr1
  go_wp2_with fail
  refine (sopen_any [] _ _ (rdv_nil _ _) (by decide) m (hg.never hw)).mono ?_
  rintro e w2 ⟨r2, rfl, hc2, hr2⟩
  have hw := hw.trans hc2
  rw [openMs_nil]
  rw [openMs_nil] at hr2
  obtain ⟨ra2, rc2, rfl, _, _, _⟩ := rdv_slice hr2
  clear hc2 hr2
  go_wp2_with fail
  refine (error_any 4 4 _ (hw.cellNever he)).mono ?_
  rintro e w3 ⟨rfl, hc3⟩
  have hw := hw.trans hc3
  rw [beq_self_eq_true]
  clear hc3
  go_wp2_with fail
  refine (pack_any t p _ _ (hp.never hw) (by omega) m (hg.never hw).ml).mono ?_
  rintro e w4 ⟨r4, rfl, hc4, hr4⟩
  have hw := hw.trans hc4
  clear hc4
  by_cases hz : packF t.data.toList p = 0
  · have h8 := (packF_ok hz).1
    have hll := packL_len t.data.toList p
    have HZ := Lib.hid hz
    have HM1 := Lib.hid (fun (i : Nat) (hi : i < (packL t.data.toList p).length) (L : List Mail) => @miss_less t.data.toList p hz i hi L)
    have HM2 := Lib.hid (fun (x : Mail) (hx : x ∈ packL t.data.toList p) (L : List Mail) => @miss_twice t.data.toList p hz x hx L)
    have HM3 := Lib.hid (fun (g : packF o.data.toList p = 0) (hne : o.data.toList ≠ t.data.toList) (h0 : 0 < p.length) (i : Nat) (hi : i < (packL t.data.toList p).length) (y : Mail) (hy : y ∈ packL o.data.toList p) (L : List Mail) => @miss_wrong t.data.toList o.data.toList p hz g hne h0 i hi y hy L)
    rw [show packR t.data.toList p = packL t.data.toList p from if_pos hz] at hr4
    rw [hz, errV_zero]
    generalize packL t.data.toList p = l at hr4 HM1 HM2 HM3 hll
    obtain ⟨la, lc, rfl, l1, l2, l3⟩ := rdv_slice hr4
    unfold maxLen at l2
    have hl9 : l.length ≤ 9 := by omega
    have hl0 : 0 < l.length := by omega
    clear hz
    have HLL := Lib.hid hll
    clear hll
    go_wp2_with fail
    refine (pick_any k l.length _ hk hl0 (by omega)).mono ?_
    rintro e w5 ⟨i, hi, rfl, rfl⟩
    rename World => wr
    obtain ⟨x, hx⟩ : ∃ x, l[i]? = some x := ⟨l[i]'hi, List.getElem?_eq_getElem hi⟩
    have HXM := Lib.hid (HM2.out x (List.mem_of_getElem? hx))
    have HLM := Lib.hid (HM1.out i hi)
    have HOM := Lib.hid (fun g hne h0 y hy L => HM3.out g hne h0 i hi y hy L)
    obtain ⟨b, off, bv, rfl, _, _, c0, c1, c2, c3, z0, z1, z2, hv⟩ := elems_mail l3 hx
    obtain ⟨ba, bc, rfl, _, _, _⟩ := rdv_slice hv
    have jlt : (i : Int) < (l.length : Int) := by omega
    have sN : IntKind.i64.wrap ((i : Int) + 1) = (i : Int) + 1 := IntWalk.i64_in _ (by omega)
    obtain ⟨sb1, u0, u1, hrunH, hsub1⟩ := slice_gen (P := Tryz.prog) (t := 24) (by kernel_rfl) size_mail hr4 0 i (Nat.zero_le _) (by omega)
    have hrunH := fun (wx : World) => hrunH i wx rfl rfl
    clear u0 u1
    rw [Nat.sub_zero, Nat.sub_zero] at hrunH hsub1
    rw [List.drop_zero] at hsub1
    obtain ⟨sb2, u0, hrunL, u1, hsub2⟩ := slice_gen (P := Tryz.prog) (t := 24) (by kernel_rfl) size_mail hr4 (i + 1) l.length (by omega) (Nat.le_refl _)
    have hrunL := fun (wx : World) => hrunL ((i : Int) + 1) wx (by push_cast; rfl) rfl
    clear u0 u1
    rw [List.take_of_length_le (by rw [List.length_drop]; omega)] at hsub2
    have hn0 := ownN_nil (α := Mail) 31 (Chg.refl Never wr)
    have hle1 : ([] : List Mail).length + (l.take i).length ≤ 1000000000 := by simp; omega
    have hle2 : (l.take i).length + (l.drop (i + 1)).length ≤ 1000000000 := by simp; omega
    have hle3 : ([] : List Mail).length + l.length ≤ 1000000000 := by simp; omega
    have hle4 : l.length ≤ 1000000000 := by omega
    have hlen : (l.take i ++ l.drop (i + 1)).length ≤ 9 := by simp; omega
    have hsub1 := hn0.away hsub1
    obtain ⟨T, hT⟩ : ∃ T, l.take i = T := ⟨_, rfl⟩
    obtain ⟨D, hD⟩ : ∃ D, l.drop (i + 1) = D := ⟨_, rfl⟩
    rw [hT] at hsub1 hle1 hle2 hlen HLM HOM
    rw [hD] at hsub2 hle2 hlen HLM HOM
    have C0 := Lib.hid c0
    have C1 := Lib.hid c1
    have C2 := Lib.hid c2
    have C3 := Lib.hid c3
    have hi9 : i < l.length := hi
    clear l3 hx hT hD HM1 HM2 HM3 c0 c1 c2 c3
    go_wp2_with (first
      | (at_builtin; refine wpList_many2 (by rfl) _ _ 24 (by rfl) elemOk_mail (O := Never) (l := []) (m := T) (by rfl) (by rfl) hn0.own hsub1 (fun _ h => h.elim) hle1 ?_; intro v1 w1 hw1 hd1 hk1; have hn1 := hn0.step hw1 hd1 hk1; rw [List.nil_append] at hn1; have hs2 := hn1.away hsub2; clear hw1 hd1 hk1 hn0 hsub1 hsub2; obtain ⟨s1, n1, e1, rfl⟩ := own_isSlice hn1.own)
      | (at_builtin; refine wpList_many2 (by rfl) _ _ 24 (by rfl) elemOk_mail (O := Never) (l := T) (m := D) (by rfl) (by rfl) hn1.own hs2 (fun _ h => h.elim) hle2 ?_; intro v2 w2 hw2 hd2 hk2; have hn2 := hn1.step hw2 hd2 hk2; clear hw2 hd2 hk2 hn1 hs2; obtain ⟨s2, n2, e2, rfl⟩ := own_isSlice hn2.own; have hm0 := ownN_nil (α := Mail) 31 (Chg.refl Never w2); have hs3 := hm0.away (hr4.never hn2.chg))
      | (at_builtin; refine wpList_many2 (by rfl) _ _ 24 (by rfl) elemOk_mail (O := Never) (l := []) (m := l) (by rfl) (by rfl) hm0.own hs3 (fun _ h => h.elim) hle3 ?_; intro v3 w3 hw3 hd3 hk3; have hm1 := hm0.step hw3 hd3 hk3; rw [List.nil_append] at hm1; clear hw3 hd3 hk3 hm0 hs3; obtain ⟨s3, n3, e3, rfl⟩ := own_isSlice hm1.own; have hcw3 := hn2.chg.trans hm1.chg; have c0 := hcw3.cellNever C0.out; have c1 := hcw3.cellNever C1.out; have c2 := hcw3.cellNever C2.out; have c3 := hcw3.cellNever C3.out; have hy : Dat.rd w3 (fun k => Never k ∨ (Value.slice s3 n3 e3).ownBlock = some k) [.string x.sender, .string x.subject, .string x.ident, .slice ba x.body.length bc] x := ⟨_, rfl, z0, z1, z2, hm1.away (hv.never hn2.chg)⟩)
      | (at_builtin; refine wpList_push (by rfl) _ _ 24 (by rfl) elemOk_mail (O := Never) (l := l) (y := x) (by rfl) (by rfl) (by rfl) hm1.own hy (fun _ h => h.elim) hle4 ?_; intro v4 w4 hown4 hc4 hk4; have hm2 := hm1.step1 hown4 hc4 hk4; clear hown4 hc4 hk4 hy hm1 c0 c1 c2 c3 hcw3; obtain ⟨s4, n4, e4, rfl⟩ := own_isSlice hm2.own))
    have hless := hn2.own.rdv.never hm2.chg
    have hmore := hm2.own.rdv
    have hcw4 := hn2.chg.trans hm2.chg
    have hw := hw.trans hcw4
    clear hn2 hm2 hr4 hv hcw4 C0 C1 C2 C3 hle1 hle2 hle3 hle4 z0 z1 z2 hrunH hrunL sN
    have hT6 : (T ++ D).length ≤ 1000000 := by omega
    have hM6 : (l ++ [x]).length ≤ 1000000 := by rw [List.length_append, List.length_singleton]; omega
    refine (lturned_any (T ++ D) ord _ _ _ hless (ho.never hw) hT6).mono ?_
    rintro e wt1 ⟨rt1, LT1, rfl, hct, hrt, hperm⟩
    have hw := hw.trans hct
    have HK1 := Lib.hid hct
    have h9 := perm_size hperm 1000000000 (by have := hT6; omega)
    have HO1 := Lib.hid (HLM.out LT1 hperm)
    clear hperm hct
    go_wp2_with fail
    refine (sopen_any LT1 _ _ hrt h9 m (hg.never hw)).mono ?_
    rintro e wu1 ⟨ru1, rfl, hcu, hru⟩
    have hw := hw.trans hcu
    have HK21 := Lib.hid hcu
    rw [HO1.out]
    rw [HO1.out] at hru
    obtain ⟨ua1, uc1, rfl, _, _, _⟩ := rdv_slice hru
    clear hrt hru hcu h9
    have hmore := (hmore.never HK1.out).never HK21.out
    have hless := (hless.never HK1.out).never HK21.out
    go_wp2_with fail
    refine (lturned_any (l ++ [x]) ord _ _ _ hmore (ho.never hw) hM6).mono ?_
    rintro e wt2 ⟨rt2, LT2, rfl, hct, hrt, hperm⟩
    have hw := hw.trans hct
    have HK2 := Lib.hid hct
    have h9 := perm_size hperm 1000000000 (by have := hM6; omega)
    have HO2 := Lib.hid (HXM.out LT2 hperm)
    clear hperm hct
    go_wp2_with fail
    refine (sopen_any LT2 _ _ hrt h9 m (hg.never hw)).mono ?_
    rintro e wu2 ⟨ru2, rfl, hcu, hru⟩
    have hw := hw.trans hcu
    have HK22 := Lib.hid hcu
    rw [HO2.out]
    rw [HO2.out] at hru
    obtain ⟨ua2, uc2, rfl, _, _, _⟩ := rdv_slice hru
    clear hrt hru hcu h9
    have hless := (hless.never HK2.out).never HK22.out
    clear hmore
    go_wp2_with fail
    refine (error_any 4 4 _ (hw.cellNever he)).mono ?_
    rintro e w6 ⟨rfl, hc6⟩
    have hw := hw.trans hc6
    have hless := hless.never hc6
    rw [beq_self_eq_true]
    clear hc6
    go_wp2_with fail
    refine (error_any 6 6 _ (hw.cellNever he)).mono ?_
    rintro e w7 ⟨rfl, hc7⟩
    have hw := hw.trans hc7
    have hless := hless.never hc7
    rw [beq_self_eq_true]
    clear hc7
    go_wp2_with fail
    refine (pack_any o p _ _ (hp.never hw) (by omega) m (hg.never hw).ml).mono ?_
    rintro e w8 ⟨r8, rfl, hc8, hr8⟩
    have hw := hw.trans hc8
    have hless := hless.never hc8
    clear hc8
    by_cases gz : packF o.data.toList p = 0
    · rw [gz, errV_zero]
      rw [show packR o.data.toList p = packL o.data.toList p from if_pos gz] at hr8
      have hol := packL_len o.data.toList p
      by_cases hne : o.data.toList = t.data.toList
      · have q1 : (o.toList == t.toList) = true := by rw [Lib.toList_data, Lib.toList_data, hne]; simp
        obtain ⟨qa, qc, rfl, _, _, _⟩ := rdv_slice hr8
        generalize packL o.data.toList p = lo at *
        clear hr8 hless gz hne hol
        go_wp2_with fail
        go_ret
        exact ⟨rfl, hw⟩
      · have q1 : (o.toList == t.toList) = false := by rw [Lib.toList_data, Lib.toList_data, beq_eq_false_iff_ne]; exact hne
        by_cases h0 : p.length = 0
        · have q2 : ((p.length : Int) == 0) = true := by rw [h0]; rfl
          obtain ⟨qa, qc, rfl, _, _, _⟩ := rdv_slice hr8
          generalize packL o.data.toList p = lo at *
          clear hr8 hless gz hne hol h0
          go_wp2_with fail
          go_ret
          exact ⟨rfl, hw⟩
        · have q2 : ((p.length : Int) == 0) = false := by rw [beq_eq_false_iff_ne]; omega
          have HOM2 := Lib.hid (fun y hy L => HOM.out gz hne (by omega) y hy L)
          clear HOM
          generalize packL o.data.toList p = lo at hr8 HOM2 hol
          obtain ⟨qa, qc, rfl, _, _, q3⟩ := rdv_slice hr8
          have hil : i < lo.length := by have := HLL.out; omega
          obtain ⟨y, hy⟩ : ∃ y, lo[i]? = some y := ⟨lo[i]'hil, List.getElem?_eq_getElem hil⟩
          have HYM := Lib.hid (HOM2.out y (List.mem_of_getElem? hy))
          obtain ⟨b', off', yv, rfl, _, _, c0, c1, c2, c3, z0, z1, z2, hv⟩ := elems_mail q3 hy
          obtain ⟨ya, yc, rfl, _, _, _⟩ := rdv_slice hv
          have klt : (i : Int) < (lo.length : Int) := by omega
          have C0 := Lib.hid c0
          have C1 := Lib.hid c1
          have C2 := Lib.hid c2
          have C3 := Lib.hid c3
          have hn0 := ownN_nil (α := Mail) 31 (Chg.refl Never w8)
          have hs1 := hn0.away hless
          have hle1 : ([] : List Mail).length + (T ++ D).length ≤ 1000000000 := by rw [List.length_nil]; omega
          have hle2 : (T ++ D).length ≤ 1000000000 := by omega
          obtain ⟨ea, ec, eeq, _, _, _⟩ := rdv_slice hless
          injection eeq with eeq1 eeq2 eeq3
          subst eeq1; subst eeq2; subst eeq3
          have hW6 : (T ++ D ++ [y]).length ≤ 1000000 := by rw [List.length_append, List.length_singleton]; omega
          generalize T ++ D = TD at hs1 hle1 hle2 hW6 HYM
          have HOL := Lib.hid hol
          clear q3 hy hr8 hless gz hne h0 HOM2 c0 c1 c2 c3 hol HLM
          go_wp2_with (first
            | (at_builtin; refine wpList_many2 (by rfl) _ _ 24 (by rfl) elemOk_mail (O := Never) (l := []) (m := TD) (by rfl) (by rfl) hn0.own hs1 (fun _ h => h.elim) hle1 ?_; intro v1 wa hw1 hd1 hk1; have hn1 := hn0.step hw1 hd1 hk1; rw [List.nil_append] at hn1; clear hw1 hd1 hk1 hn0 hs1; obtain ⟨s5, n5, e5, rfl⟩ := own_isSlice hn1.own; have c0 := hn1.chg.cellNever C0.out; have c1 := hn1.chg.cellNever C1.out; have c2 := hn1.chg.cellNever C2.out; have c3 := hn1.chg.cellNever C3.out; have hyy : Dat.rd wa (fun k => Never k ∨ (Value.slice s5 n5 e5).ownBlock = some k) [.string y.sender, .string y.subject, .string y.ident, .slice ya y.body.length yc] y := ⟨_, rfl, z0, z1, z2, hn1.away hv⟩)
            | (at_builtin; refine wpList_push (by rfl) _ _ 24 (by rfl) elemOk_mail (O := Never) (l := TD) (y := y) (by rfl) (by rfl) (by rfl) hn1.own hyy (fun _ h => h.elim) hle2 ?_; intro v6 wb hown6 hc6 hk6; have hn2 := hn1.step1 hown6 hc6 hk6; clear hown6 hc6 hk6 hyy hn1 c0 c1 c2 c3; obtain ⟨s6, n6, e6, rfl⟩ := own_isSlice hn2.own))
          have hwrong := hn2.own.rdv
          have hw := hw.trans hn2.chg
          clear hn2 C0 C1 C2 C3 hv
          refine (lturned_any (TD ++ [y]) ord _ _ _ hwrong (ho.never hw) hW6).mono ?_
          rintro e wt3 ⟨rt3, LT3, rfl, hct, hrt, hperm⟩
          have hw := hw.trans hct
          have HK3 := Lib.hid hct
          have h9 := perm_size hperm 1000000000 (by have := hW6; omega)
          have HO3 := Lib.hid (HYM.out LT3 hperm)
          clear hperm hct
          go_wp2_with fail
          refine (sopen_any LT3 _ _ hrt h9 m (hg.never hw)).mono ?_
          rintro e wu3 ⟨ru3, rfl, hcu, hru⟩
          have hw := hw.trans hcu
          have HK23 := Lib.hid hcu
          rw [HO3.out]
          rw [HO3.out] at hru
          obtain ⟨ua3, uc3, rfl, _, _, _⟩ := rdv_slice hru
          clear hrt hru hcu h9
          clear hwrong
          go_wp2_with fail
          refine (error_any 2 2 _ (hw.cellNever he)).mono ?_
          rintro e w9 ⟨rfl, hc9⟩
          have hw := hw.trans hc9
          rw [beq_self_eq_true]
          go_wp2_with fail
          go_ret
          exact ⟨rfl, hw⟩
    · rw [errV_pos gz]
      obtain ⟨qa, qc, rfl, _, _, _⟩ := rdv_slice hr8
      generalize (packR o.data.toList p).length = nn
      clear gz hr8 hless
      go_wp2_with fail
      go_ret
      exact ⟨rfl, hw⟩
  · rw [errV_pos hz]
    obtain ⟨qa, qc, rfl, _, _, _⟩ := rdv_slice hr4
    generalize (packR t.data.toList p).length = nn
    clear hz hr4
    go_wp2_with fail
    go_ret
    exact ⟨rfl, hw⟩
end Go.Proofs.YtjiaidchcldocaaGreatDoor
