/-
  THE WALK of the document's LooseOf: the loops.
-/
import Derived.Test.YtlflhehlbnbhgaaDoorRefL
import Derived.Deep.CutRange
import Derived.Deep.CutBlock
namespace Go.Proofs.YtlflhehlbnbhgaaDoor
open Go.RowKit

theorem ownB_nil (k : Nat) (h : OwnB (.slice none 0 0) k) : False := by
  unfold OwnB at h
  simp [Value.ownBlock] at h
theorem rst_start {w : World} {v : Value} {a : List ByteArray} (ha : Rdv w Never v a) : RSt w w (.slice none 0 0) (.slice none 0 0) v ⟨a, 0, 0⟩ [] [] :=
  ⟨Chg.refl _ _, ha.sub (fun k _ hk => (hk.elim (ownB_nil k) (ownB_nil k)).elim), own_nil _ _ _, own_nil _ _ _, fun k hk => (ownB_nil k hk).elim, fun k hk => (ownB_nil k hk).elim⟩
theorem results_tmp3 {fn : Func} {t u v : Tmp} (h : fn.results = #[.tmp t, .tmp u, .tmp v]) (tmps : Array Value) (P : Program) (w : World) :
    (results fn tmps).run P w = .ok (.tuple #[tmps.getD t undef, tmps.getD u undef, tmps.getD v undef]) w := by
  simp [results, h]
set_option maxHeartbeats 4000000 in
set_option maxRecDepth 100000 in
theorem looseOf_any (a : List ByteArray) (l : List Hunk) (fuzz far : Nat) (va vl : Value) (w : World) (ha : Rdv w Never va a) (hl : Rdv w Never vl l) (h1 : linesFault a = 0) (h2 : hunksFault l = (0, 0)) (hfz : fuzz ≤ 3) (hfr : far ≤ 60) :
    Calls Tryd.prog 31 #[va, vl, .int .i64 fuzz, .int .i64 far] w fun e w' => ∃ r1 r2 r3, e = .returned (.tuple #[r1, r2, r3]) ∧ Chg Never w w' ∧
      Rdv w' Never r1 (looseOf a l fuzz far).1 ∧ Rdv w' Never r2 (looseOf a l fuzz far).2.1 ∧ Rdv w' Never r3 (looseOf a l fuzz far).2.2 := by
  have hla := linesFault_len h1
  obtain ⟨hl60, hok⟩ := hunksFault_zero (l := l) (by rw [h2])
  have hmem := hOk_mem _ _ _ hok
  have ho60 := hOk_old _ _ _ hok
  obtain ⟨aa, acap, rfl, a1, a2, _⟩ := rdv_slice ha
  obtain ⟨ll, lcap, rfl, l1, l2, l3⟩ := rdv_slice hl
  unfold maxLen at a2 l2
  clear h1 h2 hok
  go_enter Tryd.func31, Tryd.ntmps31
  go_wp2_with fail
  go_loopw [0, 11, 12, 13, 14, 15] (fun lv le wh en by_ i wr => ∃ (k : Nat) (st : Loose) (L : List Hunk) (P : List Int) (la : Option Addr) (lc : Nat), k ≤ l.length ∧ i = .int .i64 k ∧ lv = .slice la st.lines.length lc ∧ RSt w wr le wh lv st L P ∧
      en = .int .i64 st.fin ∧ by_ = .int .i64 st.more ∧ StB st k ∧ L.length ≤ k ∧ Hid (P.length = k) ∧ Hid (LRest fuzz far st L P (l.drop k) = looseGo fuzz far ⟨a, 0, 0⟩ l)) (fun _ _ _ _ _ i _ => l.length - (intOf i).toNat)
  case atStart => exact ⟨0, ⟨a, 0, 0⟩, [], [], _, _, Nat.zero_le _, rfl, rfl, rst_start ha, rfl, rfl,
    ⟨hla, by show (0 : Int) ≤ 0; omega, by show (0 : Int) ≤ 60; omega, by show -(120 * ((0 : Nat) : Int)) ≤ 0; omega, by show (0 : Int) ≤ 120 * ((0 : Nat) : Int); omega⟩, Nat.zero_le _, rfl, rfl⟩
  case round =>
    obtain ⟨k, st, L, P, la, lc, hk, rfl, rfl, hst, rfl, rfl, hb, hL, hP, hR⟩ := hrel
    by_cases hlt : k < l.length
    · obtain ⟨x, hx⟩ : ∃ x, l[k]? = some x := ⟨l[k], by simp [hlt]⟩
      obtain ⟨b, off, mv, rfl, _, _, c0, c1, c2, hmv⟩ := elems_hunk l3 hx
      have hsf := hmem x (List.mem_of_getElem? hx)
      obtain ⟨o0, o1⟩ := ho60 x (List.mem_of_getElem? hx)
      have hd := drop_eq hx
      have hR1 := hR.out
      rw [hd] at hR1
      have HR1 := Lib.hid hR1
      have d2 := hst.hc.cellNever c2
      obtain ⟨ma, mcap, rfl, m1, m2, m3⟩ := rdv_slice hmv
      unfold maxLen at m2
      have HSF := Lib.hid hsf
      have hml := scriptFault_len hsf
      clear hd hR1 hR hsf
      go_wp2_with fail
      clear d2
      go_loopw [0, 13, 14, 17, 18] (fun lv en by_ dn f wr' => ∃ (q : Nat) (d? : Option Int) (st' : Loose) (la' : Option Addr) (lc' : Nat), q ≤ fuzz + 1 ∧ f = .int .i64 q ∧ lv = .slice la' st'.lines.length lc' ∧ RSt w wr' u11 u12 lv st' L P ∧
          en = .int .i64 st'.fin ∧ by_ = .int .i64 st'.more ∧ dn = .int .i64 (d?.getD (-1000)) ∧ Hid (FSt st x fuzz far q d? st') ∧ (∀ o, d? = some o → -(far : Int) ≤ o ∧ o ≤ far)) (fun _ _ _ _ f _ => fuzz + 1 - (intOf f).toNat)
      case atStart => exact ⟨0, none, st, _, _, Nat.zero_le _, rfl, rfl, hst, rfl, rfl, rfl, fst_start _ _ _ _, fun o h => by cases h⟩
      case round =>
        clear hst
        obtain ⟨q, d, st', la', lc', hq, rfl, rfl, hst, rfl, rfl, rfl, hF, hdb⟩ := hrel
        by_cases hqf : q ≤ fuzz
        · cases d with
          | some o =>
            obtain ⟨ob0, ob1⟩ := hdb o rfl
            have t1 : (o == -1000) = false := by simp; omega
            simp only [Option.getD_some]
            have HTO : Hid (tryOf st x fuzz far = (st', some o)) := hF.out
            have hPl : P.length ≤ 1000000000 := by rw [hP.out]; omega
            clear hF
            go_wp2_with (at_builtin; refine wpList_push (by rfl) _ _ 60 (by rfl) elemOk_int (l := P) (y := o) (by rfl) (by rfl) (by rfl) hst.plc ⟨rfl, by unfold I64; omega⟩ hst.le_lt hPl ?_; intro v' w5 hown5 hc5 hk5)
            have hst5 := hst.pushP hown5 hc5 hk5
            clear hown5 hc5 hk5 hst
            go_roundw
            case rel => exact ⟨k + 1, st', L, P ++ [o], la', lc', by omega, by go_num, rfl, hst5, rfl, rfl, by have e := tryOf_bounds (h := x) (fuzz := fuzz) (far := far) hb HSF.out; rw [HTO.out] at e; exact e, by omega, by rw [Hid, List.length_append, hP.out]; rfl,
              by have e := LRest_some (fuzz := fuzz) (far := far) (r := l.drop (k + 1)) (L := L) (P := P) (show (tryOf st x fuzz far).2 = some o by rw [HTO.out]); rw [HTO.out] at e; rw [Hid, ← e]; exact HR1.out⟩
            case measure => simp [intOf] <;> omega
          | none =>
            obtain ⟨rfl, hQ⟩ := hF.out
            have HQ := Lib.hid hQ
            have hqi : (q : Int) ≤ fuzz := by omega
            simp only [Option.getD_none]
            clear hQ hF
            go_upto_block 4 with fail
            go_cut [19] from 38 to 165 (fun hd wx => hd = .int .i64 (headN q x.marks) ∧ wx = wr)
            case first =>
              go_wp2_with fail
              go_loop [19] (fun hd => ∃ j : Nat, j ≤ q ∧ j ≤ x.marks.length ∧ hd = .int .i64 j ∧ Hid (headN q x.marks = j + headN (q - j) (x.marks.drop j))) (fun hd => q - (intOf hd).toNat)
              case atStart => exact ⟨0, Nat.zero_le _, Nat.zero_le _, rfl, by simp [Hid]⟩
              case round =>
                obtain ⟨j, hj, hjl, rfl, HJ⟩ := hrel
                by_cases h1 : j < q
                · by_cases h2 : j < x.marks.length
                  · obtain ⟨y, hy⟩ : ∃ y, x.marks[j]? = some y := ⟨x.marks[j], by simp [h2]⟩
                    obtain ⟨b', off', rfl, _, _, g0, g1, s0, s1, hxs⟩ := elems_mark m3 hy
                    have g0 := hst.hc.cellNever g0
                    have HY := Lib.hid hy
                    clear hy g1
                    by_cases h32 : y.sign = 32
                    · have t1 : (y.sign == 32) = true := by simp [h32]
                      go_wp2_with fail
                      go_round
                      case rel => exact ⟨j + 1, by omega, by omega, by go_num, headN_step h1 HY.out h32 HJ.out⟩
                      case measure => simp [intOf] <;> omega
                    · have t1 : (y.sign == 32) = false := by simp [h32]
                      have HE := Lib.hid (headN_stop HY.out h32 HJ.out)
                      go_wp2_with fail
                      go_meet
                      case rel => exact ⟨by rw [HE.out], rfl⟩
                  · have HE : Hid (headN q x.marks = j) := by rw [Hid, HJ.out, List.drop_eq_nil_of_le (by omega)]; cases q - j <;> simp [headN]
                    go_wp2_with fail
                    go_meet
                    case rel => exact ⟨by rw [HE.out], rfl⟩
                · have HE : Hid (headN q x.marks = j) := by rw [Hid, HJ.out, show q - j = 0 by omega, headN_zero, Nat.add_zero]
                  go_wp2_with fail
                  go_meet
                  case rel => exact ⟨by rw [HE.out], rfl⟩
            case rest =>
              obtain ⟨rfl, rfl⟩ := hcut
              have hhd := headN_le q x.marks
              have HTR : Hid (trimmedOf q x.marks = trimTail q (x.marks.drop (headN q x.marks))) := rfl
              have HWA : Hid (wantedAt st' x q = x.old + st'.more + (headN q x.marks : Nat)) := rfl
              generalize headN q x.marks = hd at hhd HTR HWA ⊢
              go_upto_block 6 with fail
              go_cut [20] from 38 to 165 (fun tl wx => (∃ t : Nat, tl = .int .i64 t ∧ hd ≤ t ∧ t ≤ x.marks.length ∧ Hid (trimmedOf q x.marks = (x.marks.drop hd).take (t - hd))) ∧ wx = wc)
              case first =>
                go_wp2_with fail
                go_loop [20] (fun tl => ∃ t : Nat, tl = .int .i64 t ∧ hd ≤ t ∧ t ≤ x.marks.length ∧ Hid (TailInv q x.marks hd t)) (fun tl => (intOf tl).toNat)
                case atStart => exact ⟨x.marks.length, rfl, hhd.1, Nat.le_refl _, tail_start hhd.1⟩
                case round =>
                  obtain ⟨t, rfl, ht0, ht1, HT⟩ := hrel
                  by_cases g1 : hd < t
                  · obtain ⟨t', rfl⟩ : ∃ t', t = t' + 1 := ⟨t - 1, by omega⟩
                    by_cases g2 : x.marks.length - (t' + 1) < q
                    · obtain ⟨y, hy⟩ : ∃ y, x.marks[t']? = some y := ⟨x.marks[t']'(by omega), by simp [show t' < x.marks.length by omega]⟩
                      obtain ⟨b', off', rfl, _, _, g0, g1', s0, s1, hxs⟩ := elems_mark m3 hy
                      have g0 := hst.hc.cellNever g0
                      have HY := Lib.hid hy
                      have z1 : (t' : Int) + 1 - 1 = t' := by omega
                      clear hy g1'
                      by_cases h32 : y.sign = 32
                      · have t1 : (y.sign == 32) = true := by simp [h32]
                        go_wp2_with fail
                        go_round
                        case rel => exact ⟨t', by go_num, by omega, by omega, HT.out.step g1 g2 HY.out h32⟩
                        case measure => simp [intOf] <;> omega
                      · have t1 : (y.sign == 32) = false := by simp [h32]
                        have HE : Hid (trimmedOf q x.marks = (x.marks.drop hd).take (t' + 1 - hd)) := by rw [Hid, HTR.out]; exact HT.out.sign g1 g2 HY.out h32
                        go_wp2_with fail
                        go_meet
                        case rel => exact ⟨⟨t' + 1, rfl, ht0, ht1, HE⟩, rfl⟩
                    · have HE : Hid (trimmedOf q x.marks = (x.marks.drop hd).take (t' + 1 - hd)) := by rw [Hid, HTR.out]; exact HT.out.many g2
                      have g3 : ¬ ((x.marks.length : Int) - ((t' : Int) + 1) < q) := by omega
                      go_wp2_with fail
                      go_meet
                      case rel => exact ⟨⟨t' + 1, rfl, ht0, ht1, HE⟩, rfl⟩
                  · have HE : Hid (trimmedOf q x.marks = (x.marks.drop hd).take (t - hd)) := by rw [Hid, HTR.out]; exact HT.out.none g1
                    go_wp2_with fail
                    go_meet
                    case rel => exact ⟨⟨t, rfl, ht0, ht1, HE⟩, rfl⟩
              case rest =>
                obtain ⟨⟨t, rfl, ht0, ht1, HE⟩, rfl⟩ := hcut
                have hmv' := hmv.never hst.hc
                obtain ⟨sb, hrunS, z0, z1, hsub⟩ := slice_gen (P := Tryd.prog) (t := 22) (by kernel_rfl) size_mark hmv' hd t ht0 ht1
                have hrunS := fun (wx : World) => hrunS hd t wx rfl rfl
                clear z0 z1 hmv'
                have hTL : (trimmedOf q x.marks).length = t - hd := by rw [HE.out, List.length_take, List.length_drop]; omega
                rw [← HE.out] at hsub
                have HTF := Lib.hid (trimmed_fault HSF.out q)
                have HRM : Hid (roomB st' (trimmedOf q x.marks) = decide ((st'.lines.length : Int) - (oldOf (trimmedOf q x.marks)).length + (newOf (trimmedOf q x.marks)).length ≤ 60)) := rfl
                have hol : (those (trimmedOf q x.marks) 43).length ≤ 120 := Nat.le_trans (those_le _ _) (by rw [hTL]; omega)
                have hnl : (those (trimmedOf q x.marks) 45).length ≤ 120 := Nat.le_trans (those_le _ _) (by rw [hTL]; omega)
                have HTL := Lib.hid hTL
                obtain ⟨bb1, bb2, bb3, bb4, bb5⟩ := id hb
                clear hTL
                go_wp2_with fail
                refine (refOld_any (trimmedOf q x.marks) _ _ hsub HTF.out).mono ?_
                rintro e w5 ⟨r5, rfl, hc5, hr5⟩
                have hro := hr5.sub (O' := Never) (fun _ _ h => h.elim)
                obtain ⟨oa, ocap, rfl, _, _, _⟩ := rdv_slice hro
                have hsub5 := hsub.never hc5
                have hst5 := hst.never hc5
                clear hr5 hsub hst hc5
                go_wp2_with fail
                refine (refNew_any (trimmedOf q x.marks) _ _ hsub5 HTF.out).mono ?_
                rintro e w6 ⟨r6, rfl, hc6, hr6⟩
                have hrn := hr6.sub (O' := Never) (fun _ _ h => h.elim)
                obtain ⟨na, ncap, rfl, _, _, _⟩ := rdv_slice hrn
                have hro := hro.never hc6
                have hst6 := hst5.never hc6
                clear hr6 hsub5 hst5 hc6 hrunS
                by_cases hroom : (60 : Int) < (st'.lines.length : Int) + (those (trimmedOf q x.marks) 45).length - (those (trimmedOf q x.marks) 43).length
                · have t1 := decide_eq_true hroom
                  have HF2 : Hid (FSt st' x fuzz far (q + 1) none st') := FSt.full HQ.out (by rw [HRM.out]; exact decide_eq_false (by unfold oldOf newOf; omega))
                  clear hroom
                  go_wp2_with fail
                  go_roundw
                  case rel => exact ⟨q + 1, none, st', la', lc', by omega, by go_num, rfl, hst6, rfl, rfl, rfl, HF2, fun o h => by cases h⟩
                  case measure => simp [intOf] <;> omega
                · have t1 := decide_eq_false hroom
                  have HRB : Hid (roomB st' (trimmedOf q x.marks) = true) := by rw [Hid, HRM.out]; exact decide_eq_true (by unfold oldOf newOf; omega)
                  clear hroom
                  go_wp2_with fail
                  clear t1
                  go_loopw [0, 13, 14, 17, 23] (fun lv en by_ dn dd wx => ∃ (d : Nat) (o? : Option Int) (st2 : Loose) (la2 : Option Addr) (lc2 : Nat), d ≤ 2 * far + 1 ∧ dd = .int .i64 d ∧ lv = .slice la2 st2.lines.length lc2 ∧ RSt w wx u11 u12 lv st2 L P ∧ Chg Never w6 wx ∧
                    en = .int .i64 st2.fin ∧ by_ = .int .i64 st2.more ∧ dn = .int .i64 (o?.getD (-1000)) ∧ Hid (DSt st' x far q d o? st2) ∧ (∀ o, o? = some o → -(far : Int) ≤ o ∧ o ≤ far)) (fun _ _ _ _ dd _ => 2 * far + 1 - (intOf dd).toNat)
                  case atStart => exact ⟨0, none, st', _, _, Nat.zero_le _, rfl, rfl, hst6, Chg.refl _ _, rfl, rfl, rfl, dst_start _ _ _ _, fun o h => by cases h⟩
                  case round =>
                    clear hst6
                    obtain ⟨d, o?, st2, la2, lc2, hdl, rfl, rfl, hst2, hcx, rfl, rfl, rfl, hD, hdb2⟩ := hrel
                    cases o? with
                    | some o =>
                      obtain ⟨ob0, ob1⟩ := hdb2 o rfl
                      have t1 : (o == -1000) = false := by simp; omega
                      have HF2 : Hid (FSt st' x fuzz far (q + 1) (some o) st2) := by
                        obtain ⟨e1, rfl⟩ := hD.out
                        exact FSt.hit hqf HQ.out HRB.out e1
                      simp only [Option.getD_some]
                      clear hD
                      by_cases hdf : d ≤ 2 * far
                      · go_wp2_with fail
                        go_roundw
                        case rel => exact ⟨q + 1, some o, st2, la2, lc2, by omega, by go_num, rfl, hst2, rfl, rfl, rfl, HF2, hdb2⟩
                        case measure => simp [intOf] <;> omega
                      · go_wp2_with fail
                        go_roundw
                        case rel => exact ⟨q + 1, some o, st2, la2, lc2, by omega, by go_num, rfl, hst2, rfl, rfl, rfl, HF2, hdb2⟩
                        case measure => simp [intOf] <;> omega
                    | none =>
                      simp only [Option.getD_none]
                      by_cases hdf : d ≤ 2 * far
                      · obtain ⟨rfl, hD2⟩ := id hD.out
                        have HDD := Lib.hid (show DSt st2 x far q d none st2 from ⟨rfl, hD2⟩)
                        clear hD hD2
                        have hob := offOf_bound d far hdf
                        have HOB := Lib.hid hob
                        have c0w := hst2.hc.cellNever c0
                        have hlv := hst2.lines.sub (O' := Never) (fun _ _ h => h.elim)
                        have hrox := hro.never hcx
                        have hrnx := hrn.never hcx
                        clear hro hrn
                        obtain ⟨m, hm⟩ : ∃ m : Nat, (d + 1) / 2 = m := ⟨_, rfl⟩
                        have z1 : ((d : Int) + 1) / 2 = m := by omega
                        by_cases hpar : d % 2 = 1
                        · have hoe : offOf d = -(m : Int) := by unfold offOf; rw [if_pos hpar, hm]
                          have t2 : ((d : Int) % 2 == 1) = true := by simp; omega
                          have HW : Hid (wantedAt st2 x q + offOf d = x.old + st2.more + hd + (-(m : Int))) := by rw [Hid, HWA.out, hoe]
                          have HOE := Lib.hid hoe
                          rw [hoe] at hob
                          clear hpar hm hoe
                          by_cases hfin : st2.fin ≤ x.old + st2.more + hd + (-(m : Int))
                          · have t3 := decide_eq_true hfin
                            cases hs : standsB st2.lines (x.old + st2.more + hd + (-(m : Int))) (those (trimmedOf q x.marks) 43) with
                            | false =>
                              have HS := Lib.hid hs
                              have HDN : Hid (DSt st2 x far q (d + 1) none st2) := HDD.out.miss hdf (by unfold okAt; rw [HW.out]; unfold oldOf; rw [hs]; simp)
                              clear hs
                              go_wp2_with fail
                              refine (refStands_any st2.lines (those (trimmedOf q x.marks) 43) (x.old + st2.more + hd + (-(m : Int))) _ _ _ hlv hrox (by omega) (by omega) (by omega) (by omega)).mono ?_
                              rintro e w7 ⟨rfl, hc7⟩
                              rw [HS.out]
                              go_wp2_with fail
                              go_roundw
                              case rel => exact ⟨d + 1, none, st2, la2, lc2, by omega, by go_num, rfl, hst2.never hc7, hcx.trans hc7, rfl, rfl, rfl, HDN, hdb2⟩
                              case measure => simp [intOf] <;> omega
                            | true =>
                              have HS := Lib.hid hs
                              have HDN : Hid (DSt st2 x far q (d + 1) (some (offOf d)) (doneAt st2 x q (offOf d))) := HDD.out.hit hdf (by unfold okAt; rw [HW.out]; unfold oldOf; rw [hs, t3]; rfl)
                              obtain ⟨nn, hnn⟩ := Int.eq_ofNat_of_zero_le (stands_split hs).1
                              have hle := (stands_split hs).2.1
                              rw [hnn, Int.toNat_natCast] at hle
                              have HNN := Lib.hid hnn
                              have eN : (wantedAt st2 x q + offOf d).toNat = nn := by rw [HW.out, hnn, Int.toNat_natCast]
                              have HFL : Hid (repl st2.lines nn (those (trimmedOf q x.marks) 43).length (those (trimmedOf q x.marks) 45) = (doneAt st2 x q (offOf d)).lines) := by
                                unfold Hid doneAt repl
                                simp only [eN]
                                rfl
                              have HFI : Hid ((doneAt st2 x q (offOf d)).fin = nn + (those (trimmedOf q x.marks) 45).length) := by
                                unfold Hid doneAt
                                simp only [eN]
                                rfl
                              have HMO : Hid ((doneAt st2 x q (offOf d)).more = st2.more + (those (trimmedOf q x.marks) 45).length - (those (trimmedOf q x.marks) 43).length) := rfl
                              clear hs hnn eN
                              go_wp2_with fail
                              refine (refStands_any st2.lines (those (trimmedOf q x.marks) 43) (x.old + st2.more + hd + (-(m : Int))) _ _ _ hlv hrox (by omega) (by omega) (by omega) (by omega)).mono ?_
                              rintro e w7 ⟨rfl, hc7⟩
                              rw [HS.out]
                              have hst7 := hst2.never hc7
                              have hlv7 := hlv.never hc7
                              have hrn7 := hrnx.never hc7
                              have hcx7 := hcx.trans hc7
                              clear hlv hrnx hrox hst2 hcx hc7 c0w
                              go_wp2_with fail
                              rw [HNN.out]
                              refine (replaced_any st2.lines (those (trimmedOf q x.marks) 45) nn (those (trimmedOf q x.marks) 43).length _ _ _ hlv7 hrn7 hle (by omega) (by omega)).mono ?_
                              rintro e w8 ⟨r8, rfl, hc8, hr8⟩
                              rw [HFL.out] at hr8
                              have hst8 := hst7.lines' (st' := doneAt st2 x q (offOf d)) hc8 hr8
                              obtain ⟨ra, rc, rfl, _, _, _⟩ := rdv_slice hr8
                              have hcx8 := hcx7.trans hc8
                              clear hr8 hc8 hst7 hlv7 hrn7 hcx7
                              go_wp2_with fail
                              go_roundw
                              case rel => exact ⟨d + 1, some (offOf d), doneAt st2 x q (offOf d), ra, rc, by omega, by go_num, rfl, hst8, hcx8, by rw [HFI.out], by rw [HMO.out], by rw [HOE.out]; rfl, HDN, fun o h => by injection h with h; rw [← h]; exact HOB.out⟩
                              case measure => simp [intOf] <;> omega
                          · have t3 := decide_eq_false hfin
                            have HDN : Hid (DSt st2 x far q (d + 1) none st2) := HDD.out.miss hdf (by unfold okAt; rw [HW.out, t3]; rfl)
                            clear hfin
                            go_wp2_with fail
                            go_roundw
                            case rel => exact ⟨d + 1, none, st2, la2, lc2, by omega, by go_num, rfl, hst2, hcx, rfl, rfl, rfl, HDN, hdb2⟩
                            case measure => simp [intOf] <;> omega
                        · have hoe : offOf d = (m : Int) := by unfold offOf; rw [if_neg hpar, hm]
                          have t2 : ((d : Int) % 2 == 1) = false := by simp; omega
                          have HW : Hid (wantedAt st2 x q + offOf d = x.old + st2.more + hd + (m : Int)) := by rw [Hid, HWA.out, hoe]
                          have HOE := Lib.hid hoe
                          rw [hoe] at hob
                          clear hpar hm hoe
                          by_cases hfin : st2.fin ≤ x.old + st2.more + hd + (m : Int)
                          · have t3 := decide_eq_true hfin
                            cases hs : standsB st2.lines (x.old + st2.more + hd + (m : Int)) (those (trimmedOf q x.marks) 43) with
                            | false =>
                              have HS := Lib.hid hs
                              have HDN : Hid (DSt st2 x far q (d + 1) none st2) := HDD.out.miss hdf (by unfold okAt; rw [HW.out]; unfold oldOf; rw [hs]; simp)
                              clear hs
                              go_wp2_with fail
                              refine (refStands_any st2.lines (those (trimmedOf q x.marks) 43) (x.old + st2.more + hd + (m : Int)) _ _ _ hlv hrox (by omega) (by omega) (by omega) (by omega)).mono ?_
                              rintro e w7 ⟨rfl, hc7⟩
                              rw [HS.out]
                              go_wp2_with fail
                              go_roundw
                              case rel => exact ⟨d + 1, none, st2, la2, lc2, by omega, by go_num, rfl, hst2.never hc7, hcx.trans hc7, rfl, rfl, rfl, HDN, hdb2⟩
                              case measure => simp [intOf] <;> omega
                            | true =>
                              have HS := Lib.hid hs
                              have HDN : Hid (DSt st2 x far q (d + 1) (some (offOf d)) (doneAt st2 x q (offOf d))) := HDD.out.hit hdf (by unfold okAt; rw [HW.out]; unfold oldOf; rw [hs, t3]; rfl)
                              obtain ⟨nn, hnn⟩ := Int.eq_ofNat_of_zero_le (stands_split hs).1
                              have hle := (stands_split hs).2.1
                              rw [hnn, Int.toNat_natCast] at hle
                              have HNN := Lib.hid hnn
                              have eN : (wantedAt st2 x q + offOf d).toNat = nn := by rw [HW.out, hnn, Int.toNat_natCast]
                              have HFL : Hid (repl st2.lines nn (those (trimmedOf q x.marks) 43).length (those (trimmedOf q x.marks) 45) = (doneAt st2 x q (offOf d)).lines) := by
                                unfold Hid doneAt repl
                                simp only [eN]
                                rfl
                              have HFI : Hid ((doneAt st2 x q (offOf d)).fin = nn + (those (trimmedOf q x.marks) 45).length) := by
                                unfold Hid doneAt
                                simp only [eN]
                                rfl
                              have HMO : Hid ((doneAt st2 x q (offOf d)).more = st2.more + (those (trimmedOf q x.marks) 45).length - (those (trimmedOf q x.marks) 43).length) := rfl
                              clear hs hnn eN
                              go_wp2_with fail
                              refine (refStands_any st2.lines (those (trimmedOf q x.marks) 43) (x.old + st2.more + hd + (m : Int)) _ _ _ hlv hrox (by omega) (by omega) (by omega) (by omega)).mono ?_
                              rintro e w7 ⟨rfl, hc7⟩
                              rw [HS.out]
                              have hst7 := hst2.never hc7
                              have hlv7 := hlv.never hc7
                              have hrn7 := hrnx.never hc7
                              have hcx7 := hcx.trans hc7
                              clear hlv hrnx hrox hst2 hcx hc7 c0w
                              go_wp2_with fail
                              rw [HNN.out]
                              refine (replaced_any st2.lines (those (trimmedOf q x.marks) 45) nn (those (trimmedOf q x.marks) 43).length _ _ _ hlv7 hrn7 hle (by omega) (by omega)).mono ?_
                              rintro e w8 ⟨r8, rfl, hc8, hr8⟩
                              rw [HFL.out] at hr8
                              have hst8 := hst7.lines' (st' := doneAt st2 x q (offOf d)) hc8 hr8
                              obtain ⟨ra, rc, rfl, _, _, _⟩ := rdv_slice hr8
                              have hcx8 := hcx7.trans hc8
                              clear hr8 hc8 hst7 hlv7 hrn7 hcx7
                              go_wp2_with fail
                              go_roundw
                              case rel => exact ⟨d + 1, some (offOf d), doneAt st2 x q (offOf d), ra, rc, by omega, by go_num, rfl, hst8, hcx8, by rw [HFI.out], by rw [HMO.out], by rw [HOE.out]; rfl, HDN, fun o h => by injection h with h; rw [← h]; exact HOB.out⟩
                              case measure => simp [intOf] <;> omega
                          · have t3 := decide_eq_false hfin
                            have HDN : Hid (DSt st2 x far q (d + 1) none st2) := HDD.out.miss hdf (by unfold okAt; rw [HW.out, t3]; rfl)
                            clear hfin
                            go_wp2_with fail
                            go_roundw
                            case rel => exact ⟨d + 1, none, st2, la2, lc2, by omega, by go_num, rfl, hst2, hcx, rfl, rfl, rfl, HDN, hdb2⟩
                            case measure => simp [intOf] <;> omega
                      · obtain rfl : d = 2 * far + 1 := by omega
                        have HF2 : Hid (FSt st' x fuzz far (q + 1) none st2) := by
                          have e := hD.out.none_end
                          obtain ⟨rfl, _⟩ := hD.out
                          exact FSt.miss hqf HQ.out HRB.out e
                        clear hD
                        go_wp2_with fail
                        go_roundw
                        case rel => exact ⟨q + 1, none, st2, la2, lc2, by omega, by go_num, rfl, hst2, rfl, rfl, rfl, HF2, hdb2⟩
                        case measure => simp [intOf] <;> omega
        · cases d with
          | some o =>
            obtain ⟨ob0, ob1⟩ := hdb o rfl
            have t1 : (o == -1000) = false := by simp; omega
            simp only [Option.getD_some]
            have HTO : Hid (tryOf st x fuzz far = (st', some o)) := hF.out
            have hPl : P.length ≤ 1000000000 := by rw [hP.out]; omega
            clear hF
            go_wp2_with (at_builtin; refine wpList_push (by rfl) _ _ 60 (by rfl) elemOk_int (l := P) (y := o) (by rfl) (by rfl) (by rfl) hst.plc ⟨rfl, by unfold I64; omega⟩ hst.le_lt hPl ?_; intro v' w5 hown5 hc5 hk5)
            have hst5 := hst.pushP hown5 hc5 hk5
            clear hown5 hc5 hk5 hst
            go_roundw
            case rel => exact ⟨k + 1, st', L, P ++ [o], la', lc', by omega, by go_num, rfl, hst5, rfl, rfl, by have e := tryOf_bounds (h := x) (fuzz := fuzz) (far := far) hb HSF.out; rw [HTO.out] at e; exact e, by omega, by rw [Hid, List.length_append, hP.out]; rfl,
              by have e := LRest_some (fuzz := fuzz) (far := far) (r := l.drop (k + 1)) (L := L) (P := P) (show (tryOf st x fuzz far).2 = some o by rw [HTO.out]); rw [HTO.out] at e; rw [Hid, ← e]; exact HR1.out⟩
            case measure => simp [intOf] <;> omega
          | none =>
            simp only [Option.getD_none]
            have hqe : q = fuzz + 1 := by omega
            have HTO : Hid (tryOf st x fuzz far = (st', none)) := by
              have e := hF.out
              rw [hqe] at e
              exact e.out
            have hPl : P.length ≤ 1000000000 := by rw [hP.out]; omega
            have hLl : L.length ≤ 1000000000 := by omega
            have hmvO := ((hmv.sub (O' := From w.heap.size) (fun j hj h => absurd h (by unfold From; omega))).never hst.hc).sub (O' := fun j => OwnB u12 j ∨ OwnB u11 j) (fun j _ hj => hj.elim (hst.gw j) (hst.gl j))
            have c0w := hst.hc.cellNever c0
            have c1w := hst.hc.cellNever c1
            have c2w := hst.hc.cellNever c2
            have hy : Dat.rd wr (fun j => OwnB u12 j ∨ u11.ownBlock = some j) [.int .i64 x.old, .int .i64 x.new, .slice ma x.marks.length mcap] x := ⟨_, rfl, hmvO⟩
            clear hF hqe hmvO
            go_wp2_with (first | (at_builtin; refine wpList_push (by rfl) _ _ 43 (by rfl) elemOk_hunk (l := L) (y := x) (by rfl) (by rfl) (by rfl) hst.left hy hst.wh_lt hLl ?_; intro v' w7 hown7 hc7 hk7; have hst7 := hst.pushL hown7 hc7 hk7; clear hown7 hc7 hk7 hst hy c0w c1w c2w) | (at_builtin; refine wpList_push (by rfl) _ _ 60 (by rfl) elemOk_int (l := P) (y := (-1000 : Int)) (by rfl) (by rfl) (by rfl) hst7.plc ⟨rfl, by unfold I64; omega⟩ hst7.le_lt hPl ?_; intro v'' w5 hown5 hc5 hk5; have hst5 := hst7.pushP hown5 hc5 hk5; clear hown5 hc5 hk5 hst7))
            go_roundw
            case rel => exact ⟨k + 1, st', L ++ [x], P ++ [-1000], la', lc', by omega, by go_num, rfl, hst5, rfl, rfl, by have e := tryOf_bounds (h := x) (fuzz := fuzz) (far := far) hb HSF.out; rw [HTO.out] at e; exact e, by simp; omega, by rw [Hid, List.length_append, hP.out]; rfl,
              by have e := LRest_none (fuzz := fuzz) (far := far) (r := l.drop (k + 1)) (L := L) (P := P) (show (tryOf st x fuzz far).2 = none by rw [HTO.out]); rw [HTO.out] at e; rw [Hid, ← e]; exact HR1.out⟩
            case measure => simp [intOf] <;> omega
    · have hk' : k = l.length := by omega
      subst hk'
      have hR1 := hR.out
      rw [List.drop_length] at hR1
      unfold LRest at hR1
      rw [looseGo_nil] at hR1
      simp only [List.append_nil] at hR1
      have HZ := Lib.hid hR1
      have hcF := hst.hc
      have r1 := hst.lines.sub (O' := Never) (fun _ _ h => h.elim)
      have r2 := hst.left.rdv.sub (O' := Never) (fun _ _ h => h.elim)
      have r3 := hst.plc.rdv.sub (O' := Never) (fun _ _ h => h.elim)
      clear hR hR1 hst
      go_wp2_with fail
      have eX : st.lines = (looseOf a l fuzz far).1 := by unfold looseOf; rw [Int.toNat_natCast, Int.toNat_natCast, ← HZ.out]
      have eL : L = (looseOf a l fuzz far).2.1 := by unfold looseOf; rw [Int.toNat_natCast, Int.toNat_natCast, ← HZ.out]
      have eP : P = (looseOf a l fuzz far).2.2 := by unfold looseOf; rw [Int.toNat_natCast, Int.toNat_natCast, ← HZ.out]
      refine bodyPost_ret (v := .tuple #[_, _, _]) (by rw [results_tmp3 Tryd.results31]) rfl ?_
      exact ⟨_, _, _, rfl, hcF, by rw [← eX]; exact r1, by rw [← eL]; exact r2, by rw [← eP]; exact r3⟩
end Go.Proofs.YtlflhehlbnbhgaaDoor
