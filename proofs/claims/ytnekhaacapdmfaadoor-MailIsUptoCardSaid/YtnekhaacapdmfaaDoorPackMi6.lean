/-
  PARTS: THE WALK of the document's MailOf.; A BUILDER OF ONE'S OWN STAYS while only new blocks come.; BOXES, in plain Lean: the document's reading of a box (a mail at a time) is the program's (by its pieces).; THE WALKS of mail.Box and of the document's BoxText.; TEXTS IN PARTS: small laws on rows of strings (light: no function of layers 1 to 9).; THE WALK of mail.Open.
-/
import Derived.Test.YtnekhaacapdmfaaDoorPackMi5
import Derived.Test.YtnekhaacapdmfaaDoorPackMi3
import Derived.Test.YtnekhaacapdmfaaDoorPackMi1
import Derived.Test.YtnekhaacapdmfaaDoorPackMi4
import Derived.Test.YtnekhaacapdmfaaDoorPackMi2
namespace Go.Proofs.YtnekhaacapdmfaaDoor
open Go.RowKit

theorem parseR_none {s : ByteArray} (h : refM s.data.toList = none) : parseR s = noMail ∧ parseF s = 5 := by
  rw [ref_mail] at h
  unfold parseR parseF
  rw [h]
  exact ⟨rfl, rfl⟩
theorem part_len {d : UInt8} : ∀ (s : List UInt8), ∀ x ∈ parts d s, x.length ≤ s.length
  | [] => by simp [parts]
  | c :: r => by
    have ih := part_len (d := d) r
    obtain ⟨h', t, e⟩ := List.exists_cons_of_ne_nil (parts_ne d r)
    intro x hx
    by_cases hc : c = d
    · rw [hc, parts_sep] at hx
      rcases List.mem_cons.1 hx with rfl | hx
      · simp
      · have := ih x hx; simp; omega
    · rw [parts_other hc e] at hx
      rcases List.mem_cons.1 hx with rfl | hx
      · have := ih h' (by rw [e]; simp)
        simp; omega
      · have := ih x (by rw [e]; exact List.mem_cons_of_mem _ hx)
        simp; omega
theorem parseR_bad {s : ByteArray} {a b c d e z : List UInt8} (h : splitN 5 s.data.toList = [a, b, c, d, e, z]) (hc : mailCond a b c d e = false) : parseR s = noMail ∧ parseF s = 5 := by
  apply parseR_none
  unfold refM
  rw [h]
  simp only
  rw [if_neg (by rw [hc]; simp)]
set_option maxHeartbeats 1000000 in
set_option maxRecDepth 100000 in
theorem refMailOf_any (s : ByteArray) (w : World) (hs : s.size ≤ 10000000) :
    Calls Tryd.prog 17 #[.string s] w fun e w' => ∃ v, e = .returned (.tuple #[mailV (parseR s) v, .int .i64 (parseF s)]) ∧ Chg Never w w' ∧ Rdv w' (Old w.heap.size) v (parseR s).body := by
  go_enter Tryd.func17, Tryd.ntmps17
  go_wp2_with fail
  obtain ⟨hA, b0, b1, b2, b3⟩ := box1_mail w 24 ⟨#[]⟩ ⟨#[]⟩ ⟨#[]⟩ (.slice none 0 0) _ rfl
  have hfz : ∀ k, (w.alloc (.cells #[.string ⟨#[]⟩, .string ⟨#[]⟩, .string ⟨#[]⟩, .slice none 0 0] 24)).frozen? ⟨w.heap.size, k, none⟩ = false := fun k => by
    simp only [World.frozen?]
    rw [heap_alloc_new]
    simp
  have hB0 : w.heap.size < (w.alloc (.cells #[.string ⟨#[]⟩, .string ⟨#[]⟩, .string ⟨#[]⟩, .slice none 0 0] 24)).heap.size := by simp
  generalize w.alloc (.cells #[.string ⟨#[]⟩, .string ⟨#[]⟩, .string ⟨#[]⟩, .slice none 0 0] 24) = wA at hA b0 b1 b2 b3 hfz hB0 ⊢
  refine (refParts_any s _ (by omega)).mono ?_
  rintro e w1 ⟨r1, rfl, hc1, hr1⟩
  have hw1 := hA.trans hc1
  have b0 := hc1.cellNever b0
  have b1 := hc1.cellNever b1
  have b2 := hc1.cellNever b2
  have b3 := hc1.cellNever b3
  have hfz : ∀ k, w1.frozen? ⟨w.heap.size, k, none⟩ = false := fun k => by rw [hc1.frozen hB0 (fun x => x)]; exact hfz k
  have hB0 : w.heap.size < w1.heap.size := Nat.lt_of_lt_of_le hB0 hc1.size
  have hpz : ∀ x ∈ parts 10 s.data.toList, x.length ≤ 10000000 := fun x hx => by
    have := part_len _ x hx
    rw [← Lib.size_eq] at this
    omega
  obtain ⟨P, hP⟩ : ∃ P, parts 10 s.data.toList = P := ⟨_, rfl⟩
  have HP := Lib.hid hP
  rw [hP] at hr1 hpz
  clear hP hA hc1
  obtain ⟨a1, cap1, rfl, hcap1, hcap2, hel⟩ := rdv_slice hr1
  rw [List.length_map] at hcap1 ⊢
  have f0 := hfz 0
  have f1 := hfz 1
  have f2 := hfz 2
  have f3 := hfz 3
  by_cases h6 : P.length < 6
  · have t6 : decide ((P.length : Int) < 6) = true := decide_eq_true (by omega)
    obtain ⟨HR, HF⟩ := parseR_none (ref_short (by rw [HP.out]; exact h6))
    have HR := Lib.hid HR
    have HF := Lib.hid HF
    have S0 := cell_put_eq b0
    have S1 := cell_put_eq b1
    have S2 := cell_put_eq b2
    have S3 := cell_put_eq b3
    clear h6
    go_wp2_with fail
    refine bodyPost_ret (v := .tuple #[.agg #[.string ⟨#[]⟩, .string ⟨#[]⟩, .string ⟨#[]⟩, .slice none 0 0], .int .i64 5]) (by simp [results, Tryd.results17, go_sem, b0, b1, b2, b3]) rfl ?_
    exact ⟨_, by rw [HR.out, HF.out]; rfl, hw1, by rw [HR.out]; exact rdv_nil _ _⟩
  · have t6 : decide ((P.length : Int) < 6) = false := decide_eq_false (by omega)
    obtain ⟨a, b, c, d, e, f, l, rfl⟩ : ∃ a b c d e f l, P = a :: b :: c :: d :: e :: f :: l := by
      match P, h6 with
      | a :: b :: c :: d :: e :: f :: l, _ => exact ⟨a, b, c, d, e, f, l, rfl⟩
      | [], h => simp at h
      | [_], h => simp at h
      | [_, _], h => simp at h
      | [_, _, _], h => simp at h
      | [_, _, _, _], h => simp at h
      | [_, _, _, _, _], h => simp at h
    have HL := Lib.hid (ref_long HP.out)
    have za := hpz a (by simp)
    have zb := hpz b (by simp)
    have zc := hpz c (by simp)
    have zd := hpz d (by simp)
    have ze := hpz e (by simp)
    clear h6
    obtain ⟨PB, PO, hq, _, _, c0, _⟩ := elems_str hel (i := 0) (x := toB a) rfl
    subst hq
    obtain ⟨q1, q2, hq, _, _, c1, _⟩ := elems_str hel (i := 1) (x := toB b) rfl
    simp only [Option.some.injEq, Addr.mk.injEq, and_true] at hq
    obtain ⟨rfl, rfl⟩ := hq
    obtain ⟨q1, q2, hq, _, _, c2, _⟩ := elems_str hel (i := 2) (x := toB c) rfl
    simp only [Option.some.injEq, Addr.mk.injEq, and_true] at hq
    obtain ⟨rfl, rfl⟩ := hq
    obtain ⟨q1, q2, hq, _, _, c3, _⟩ := elems_str hel (i := 3) (x := toB d) rfl
    simp only [Option.some.injEq, Addr.mk.injEq, and_true] at hq
    obtain ⟨rfl, rfl⟩ := hq
    obtain ⟨q1, q2, hq, _, _, c4, _⟩ := elems_str hel (i := 4) (x := toB e) rfl
    simp only [Option.some.injEq, Addr.mk.injEq, and_true] at hq
    obtain ⟨rfl, rfl⟩ := hq
    simp only [Nat.add_zero] at c0 c1 c2 c3 c4
    clear hel hr1 hcap2
    have F1 : ∀ wx, Calls Tryd.prog 40 #[.string (toB a), .string ⟨#[70, 114, 111, 109, 58, 32]⟩] wx fun e w' => e = .returned (.bool (fromW.isPrefixOf a)) ∧ w' = wx := fun wx => by
      have := starts_any (toB a) (toB fromW) wx (by rw [toB_size]; omega) (by decide)
      rw [toB_data, toB_data] at this
      exact this
    have F2 : ∀ wx, Calls Tryd.prog 40 #[.string (toB b), .string ⟨#[83, 117, 98, 106, 101, 99, 116, 58, 32]⟩] wx fun e w' => e = .returned (.bool (subjW.isPrefixOf b)) ∧ w' = wx := fun wx => by
      have := starts_any (toB b) (toB subjW) wx (by rw [toB_size]; omega) (by decide)
      rw [toB_data, toB_data] at this
      exact this
    have F3 : ∀ wx, Calls Tryd.prog 40 #[.string (toB c), .string ⟨#[77, 101, 115, 115, 97, 103, 101, 45, 73, 68, 58, 32, 60]⟩] wx fun e w' => e = .returned (.bool (idW.isPrefixOf c)) ∧ w' = wx := fun wx => by
      have := starts_any (toB c) (toB idW) wx (by rw [toB_size]; omega) (by decide)
      rw [toB_data, toB_data] at this
      exact this
    have F4 : ∀ wx, Calls Tryd.prog 41 #[.string (toB c), .string ⟨#[62]⟩] wx fun e w' => e = .returned (.bool ([62].isSuffixOf c)) ∧ w' = wx := fun wx => by
      have := ends_any (toB c) (toB [62]) wx (by rw [toB_size]; omega) (by decide)
      rw [toB_data, toB_data] at this
      exact this
    cases hA1 : fromW.isPrefixOf a with
    | false =>
      rw [hA1] at F1
      obtain ⟨HR, HF⟩ := parseR_bad HL.out.1 (by simp [mailCond, hA1])
      have HR := Lib.hid HR
      have HF := Lib.hid HF
      have S0 := cell_put_eq b0
      have S1 := cell_put_eq b1
      have S2 := cell_put_eq b2
      have S3 := cell_put_eq b3
      go_wp2_with (first | (go_at_call_of 40 (Value.string (toB a)); refine (F1 _).mono ?_; rintro e w3 ⟨rfl, rfl⟩) | (go_at_call_of 40 (Value.string (toB b)); refine (F2 _).mono ?_; rintro e w3 ⟨rfl, rfl⟩) | (go_at_call_of 40 (Value.string (toB c)); refine (F3 _).mono ?_; rintro e w3 ⟨rfl, rfl⟩) | (go_at_call 41; refine (F4 _).mono ?_; rintro e w3 ⟨rfl, rfl⟩))
      refine bodyPost_ret (v := .tuple #[.agg #[.string ⟨#[]⟩, .string ⟨#[]⟩, .string ⟨#[]⟩, .slice none 0 0], .int .i64 5]) (by simp [results, Tryd.results17, go_sem, b0, b1, b2, b3]) rfl ?_
      exact ⟨_, by rw [HR.out, HF.out]; rfl, hw1, by rw [HR.out]; exact rdv_nil _ _⟩
    | true =>
      rw [hA1] at F1
      cases hA2 : subjW.isPrefixOf b with
      | false =>
        rw [hA2] at F2
        obtain ⟨HR, HF⟩ := parseR_bad HL.out.1 (by simp [mailCond, hA2])
        have HR := Lib.hid HR
        have HF := Lib.hid HF
        have S0 := cell_put_eq b0
        have S1 := cell_put_eq b1
        have S2 := cell_put_eq b2
        have S3 := cell_put_eq b3
        go_wp2_with (first | (go_at_call_of 40 (Value.string (toB a)); refine (F1 _).mono ?_; rintro e w3 ⟨rfl, rfl⟩) | (go_at_call_of 40 (Value.string (toB b)); refine (F2 _).mono ?_; rintro e w3 ⟨rfl, rfl⟩) | (go_at_call_of 40 (Value.string (toB c)); refine (F3 _).mono ?_; rintro e w3 ⟨rfl, rfl⟩) | (go_at_call 41; refine (F4 _).mono ?_; rintro e w3 ⟨rfl, rfl⟩))
        refine bodyPost_ret (v := .tuple #[.agg #[.string ⟨#[]⟩, .string ⟨#[]⟩, .string ⟨#[]⟩, .slice none 0 0], .int .i64 5]) (by simp [results, Tryd.results17, go_sem, b0, b1, b2, b3]) rfl ?_
        exact ⟨_, by rw [HR.out, HF.out]; rfl, hw1, by rw [HR.out]; exact rdv_nil _ _⟩
      | true =>
        rw [hA2] at F2
        cases hA3 : idW.isPrefixOf c with
        | false =>
          rw [hA3] at F3
          obtain ⟨HR, HF⟩ := parseR_bad HL.out.1 (by simp [mailCond, hA3])
          have HR := Lib.hid HR
          have HF := Lib.hid HF
          have S0 := cell_put_eq b0
          have S1 := cell_put_eq b1
          have S2 := cell_put_eq b2
          have S3 := cell_put_eq b3
          go_wp2_with (first | (go_at_call_of 40 (Value.string (toB a)); refine (F1 _).mono ?_; rintro e w3 ⟨rfl, rfl⟩) | (go_at_call_of 40 (Value.string (toB b)); refine (F2 _).mono ?_; rintro e w3 ⟨rfl, rfl⟩) | (go_at_call_of 40 (Value.string (toB c)); refine (F3 _).mono ?_; rintro e w3 ⟨rfl, rfl⟩) | (go_at_call 41; refine (F4 _).mono ?_; rintro e w3 ⟨rfl, rfl⟩))
          refine bodyPost_ret (v := .tuple #[.agg #[.string ⟨#[]⟩, .string ⟨#[]⟩, .string ⟨#[]⟩, .slice none 0 0], .int .i64 5]) (by simp [results, Tryd.results17, go_sem, b0, b1, b2, b3]) rfl ?_
          exact ⟨_, by rw [HR.out, HF.out]; rfl, hw1, by rw [HR.out]; exact rdv_nil _ _⟩
        | true =>
          rw [hA3] at F3
          cases hA4 : [62].isSuffixOf c with
          | false =>
            rw [hA4] at F4
            obtain ⟨HR, HF⟩ := parseR_bad HL.out.1 (by simp [mailCond, hA4])
            have HR := Lib.hid HR
            have HF := Lib.hid HF
            have S0 := cell_put_eq b0
            have S1 := cell_put_eq b1
            have S2 := cell_put_eq b2
            have S3 := cell_put_eq b3
            go_wp2_with (first | (go_at_call_of 40 (Value.string (toB a)); refine (F1 _).mono ?_; rintro e w3 ⟨rfl, rfl⟩) | (go_at_call_of 40 (Value.string (toB b)); refine (F2 _).mono ?_; rintro e w3 ⟨rfl, rfl⟩) | (go_at_call_of 40 (Value.string (toB c)); refine (F3 _).mono ?_; rintro e w3 ⟨rfl, rfl⟩) | (go_at_call 41; refine (F4 _).mono ?_; rintro e w3 ⟨rfl, rfl⟩))
            refine bodyPost_ret (v := .tuple #[.agg #[.string ⟨#[]⟩, .string ⟨#[]⟩, .string ⟨#[]⟩, .slice none 0 0], .int .i64 5]) (by simp [results, Tryd.results17, go_sem, b0, b1, b2, b3]) rfl ?_
            exact ⟨_, by rw [HR.out, HF.out]; rfl, hw1, by rw [HR.out]; exact rdv_nil _ _⟩
          | true =>
            rw [hA4] at F4
            by_cases h14 : 14 ≤ c.length
            · have t14 : decide (((toB c).size : Int) < 14) = false := decide_eq_false (by rw [toB_size]; omega)
              by_cases hd : d = codW
              · have td : ((toB d).toList == [67, 111, 110, 116, 101, 110, 116, 45, 84, 114, 97, 110, 115, 102, 101, 114, 45, 69, 110, 99, 111, 100, 105, 110, 103, 58, 32, 98, 97, 115, 101, 54, 52]) = true := by rw [Lib.toList_data, toB_data, hd]; rfl
                have tdn : ((toB d).toList != [67, 111, 110, 116, 101, 110, 116, 45, 84, 114, 97, 110, 115, 102, 101, 114, 45, 69, 110, 99, 111, 100, 105, 110, 103, 58, 32, 98, 97, 115, 101, 54, 52]) = false := by unfold bne; rw [td]; rfl
                have HD := Lib.hid hd
                clear hd
                by_cases he : e = []
                · have te0 : (toB e).size = 0 := by rw [toB_size, he]; rfl
                  have te : decide ((0 : Int) < ((toB e).size : Int)) = false := decide_eq_false (by omega)
                  have te2 : decide (0 < (toB e).size) = false := decide_eq_false (by omega)
                  have hcond : Hid (mailCond a b c d e = true) := by unfold Hid mailCond; rw [hA1, hA2, hA3, hA4, decide_eq_true h14, HD.out, he]; rfl
                  have HE0 := Lib.hid he
                  have HP1 := Lib.hid hA1
                  have HP2 := Lib.hid hA2
                  have hzA : (toB a).size ≤ 10000000 := by rw [toB_size]; exact za
                  have hzB : (toB b).size ≤ 10000000 := by rw [toB_size]; exact zb
                  have hzC : (toB c).size ≤ 10000000 := by rw [toB_size]; exact zc
                  clear hA1 hA2 hA3 hA4 he
                  go_wp2_with (first | (go_at_call_of 40 (Value.string (toB a)); refine (F1 _).mono ?_; rintro e w3 ⟨rfl, rfl⟩) | (go_at_call_of 40 (Value.string (toB b)); refine (F2 _).mono ?_; rintro e w3 ⟨rfl, rfl⟩) | (go_at_call_of 40 (Value.string (toB c)); refine (F3 _).mono ?_; rintro e w3 ⟨rfl, rfl⟩) | (go_at_call 41; refine (F4 _).mono ?_; rintro e w3 ⟨rfl, rfl⟩))
                  rename World => w1
                  obtain ⟨na, hna⟩ : ∃ n, (toB a).size = n := ⟨_, rfl⟩
                  obtain ⟨nb, hnb⟩ : ∃ n, (toB b).size = n := ⟨_, rfl⟩
                  obtain ⟨nc, hnc⟩ : ∃ n, (toB c).size = n := ⟨_, rfl⟩
                  obtain ⟨nd, hnd⟩ : ∃ n, (toB d).size = n := ⟨_, rfl⟩
                  have za' : na ≤ 10000000 := by rw [← hna, toB_size]; exact za
                  have zb' : nb ≤ 10000000 := by rw [← hnb, toB_size]; exact zb
                  have zc' : nc ≤ 10000000 := by rw [← hnc, toB_size]; exact zc
                  have zd' : nd ≤ 10000000 := by rw [← hnd, toB_size]; exact zd
                  have s1 : IntKind.i64.wrap ((na : Int) + nb) = na + nb := IntWalk.i64_in _ (by omega)
                  have s2 : IntKind.i64.wrap ((na : Int) + nb + nc) = na + nb + nc := IntWalk.i64_in _ (by omega)
                  have s3 : IntKind.i64.wrap ((na : Int) + nb + nc + nd) = na + nb + nc + nd := IntWalk.i64_in _ (by omega)
                  have s4 : IntKind.i64.wrap ((na : Int) + nb + nc + nd + 5) = na + nb + nc + nd + 5 := IntWalk.i64_in _ (by omega)
                  go_quiet (fail)
                  clear s1 s2 s3 s4 te te2 td tdn t14 t6 te0
                  have hdq : Chg Never w1 (w1.drewN nq) := (Chg.refl Never w1).drewN nq
                  have hw2 := hw1.trans hdq
                  have b0 := hdq.cellNever b0
                  have b1 := hdq.cellNever b1
                  have b2 := hdq.cellNever b2
                  have b3 := hdq.cellNever b3
                  have c0 := hdq.cellNever c0
                  have c1 := hdq.cellNever c1
                  have c2 := hdq.cellNever c2
                  have hfz : ∀ k, (w1.drewN nq).frozen? ⟨w.heap.size, k, none⟩ = false := fun k => by rw [hdq.frozen hB0 (fun x => x)]; exact hfz k
                  have hBo := hB0
                  have hB0 : w.heap.size < (w1.drewN nq).heap.size := Nat.lt_of_lt_of_le hB0 hdq.size
                  generalize w1.drewN nq = w2 at hw2 b0 b1 b2 b3 c0 c1 c2 hfz hB0 ⊢
                  clear hdq f0 f1 f2 f3 c3 c4
                  have hle5 : na + nb + nc + nd + 5 ≤ s.size := by
                    have h5 := HL.out.2
                    rw [← Lib.size_eq, HE0.out] at h5
                    rw [← hna, ← hnb, ← hnc, ← hnd, toB_size, toB_size, toB_size, toB_size]
                    simp only [List.length_nil] at h5
                    omega
                  obtain ⟨z, hz⟩ : ∃ z, s.data.toList.drop (a.length + b.length + c.length + d.length + e.length + 5) = z := ⟨_, rfl⟩
                  have hZd : (s.extract (na + nb + nc + nd + 5) s.size).data.toList = z := by
                    rw [Lib.extract_data, ← hz, ← hna, ← hnb, ← hnc, ← hnd, toB_size, toB_size, toB_size, toB_size, HE0.out, List.take_of_length_le (by rw [List.length_drop, ← Lib.size_eq]; omega)]
                    rfl
                  have hZs : (s.extract (na + nb + nc + nd + 5) s.size).size ≤ 10000000 := by rw [ByteArray.size_extract]; omega
                  have HSN : Hid (splitN 5 s.data.toList = [a, b, c, d, e, z]) := by rw [Hid, ← hz]; exact HL.out.1
                  obtain ⟨NN, hNN⟩ : ∃ NN, na + nb + nc + nd + 5 = NN := ⟨_, rfl⟩
                  have hNI : ((na : Int) + nb + nc + nd + 5) = (NN : Int) := by omega
                  rw [hNN] at hZd hZs hle5
                  rw [hNI]
                  have HZd := Lib.hid hZd
                  clear hz hNI hNN hZd za' zb' zc' zd'
                  go_wp2_with fail
                  refine (refBytes_any (s.extract NN s.size) _ hZs).mono ?_
                  rintro e9 w3 ⟨r3, rfl, hc3, hr3⟩
                  have hw3 := hw2.trans hc3
                  have b0 := hc3.cellNever b0
                  have b1 := hc3.cellNever b1
                  have b2 := hc3.cellNever b2
                  have b3 := hc3.cellNever b3
                  have c0 := hc3.cellNever c0
                  have c1 := hc3.cellNever c1
                  have c2 := hc3.cellNever c2
                  have hfz : ∀ k, w3.frozen? ⟨w.heap.size, k, none⟩ = false := fun k => by rw [hc3.frozen hB0 (fun x => x)]; exact hfz k
                  have hB3 : w.heap.size < w3.heap.size := Nat.lt_of_lt_of_le hB0 hc3.size
                  have hr3 : Rdv w3 (Old (w.heap.size + 1)) r3 _ := hr3.sub (fun k _ hk => by unfold Old at *; omega)
                  obtain ⟨Z, hZ⟩ : ∃ Z, s.extract NN s.size = Z := ⟨_, rfl⟩
                  rw [hZ] at HZd hr3 ⊢
                  clear hZ hZs hc3 hw2 hB0 hle5
                  obtain ⟨A, hAe⟩ : ∃ A, toB a = A := ⟨_, rfl⟩
                  obtain ⟨B, hBe⟩ : ∃ B, toB b = B := ⟨_, rfl⟩
                  obtain ⟨C, hCe⟩ : ∃ C, toB c = C := ⟨_, rfl⟩
                  have hla : 6 ≤ A.size := by rw [← hAe, toB_size]; exact (List.isPrefixOf_iff_prefix.1 (HP1.out)).length_le
                  have hlb : 9 ≤ B.size := by rw [← hBe, toB_size]; exact (List.isPrefixOf_iff_prefix.1 (HP2.out)).length_le
                  obtain ⟨NC, hNC⟩ : ∃ NC, C.size = NC + 1 := ⟨C.size - 1, by rw [← hCe, toB_size]; omega⟩
                  have hlc : 13 ≤ NC := by have : C.size = c.length := by rw [← hCe, toB_size]
                                           omega
                  have hNC0 : C.size = NC + 1 := hNC
                  have hX : toB (a.drop 6) = A.extract 6 A.size := by
                    apply ByteArray.ext
                    apply Array.toList_inj.1
                    rw [toB_data, Lib.extract_data, ← hAe, toB_data, toB_size, List.take_of_length_le (by rw [List.length_drop]; omega)]
                  have hY : toB (b.drop 9) = B.extract 9 B.size := by
                    apply ByteArray.ext
                    apply Array.toList_inj.1
                    rw [toB_data, Lib.extract_data, ← hBe, toB_data, toB_size, List.take_of_length_le (by rw [List.length_drop]; omega)]
                  have hZZ : toB ((c.drop 13).take (c.length - 14)) = C.extract 13 NC := by
                    apply ByteArray.ext
                    apply Array.toList_inj.1
                    have e1 : c.length = NC + 1 := by rw [← toB_size, hCe, hNC]
                    rw [toB_data, Lib.extract_data, ← hCe, toB_data, show c.length - 14 = NC - 13 by omega]
                  have hXs : (A.extract 6 A.size).size ≤ maxLen := by rw [ByteArray.size_extract, ← hAe, toB_size]; unfold maxLen; omega
                  have hYs : (B.extract 9 B.size).size ≤ maxLen := by rw [ByteArray.size_extract, ← hBe, toB_size]; unfold maxLen; omega
                  have hWs : (C.extract 13 NC).size ≤ 1000000000 := by rw [ByteArray.size_extract, ← hCe, toB_size]; omega
                  obtain ⟨X, hX1⟩ : ∃ X, A.extract 6 A.size = X := ⟨_, rfl⟩
                  obtain ⟨Y, hY1⟩ : ∃ Y, B.extract 9 B.size = Y := ⟨_, rfl⟩
                  obtain ⟨W, hW1⟩ : ∃ W, C.extract 13 NC = W := ⟨_, rfl⟩
                  rw [hX1] at hX hXs
                  rw [hY1] at hY hYs
                  rw [hW1] at hZZ hWs
                  have HX := Lib.hid hX
                  have HY := Lib.hid hY
                  have HW := Lib.hid hZZ
                  rw [hAe] at c0 hzA
                  rw [hBe] at c1 hzB
                  rw [hCe] at c2 hzC
                  obtain ⟨r3a, r3c, rfl, q1, q2, _⟩ := rdv_slice hr3
                  obtain ⟨L3, hL3⟩ : ∃ L3, (decodeR Z).length = L3 := ⟨_, rfl⟩
                  rw [hL3] at hr3 q1 ⊢
                  unfold maxLen at q2
                  clear hAe hBe hCe hX hY hZZ F1 F2 F3 F4 hL3 za zb zc zd ze hna hnb hnc hnd
                  have i0 : (0 : Int) < (l.length : Int) + 1 + 1 + 1 + 1 + 1 + 1 := by omega
                  have i1 : (1 : Int) < (l.length : Int) + 1 + 1 + 1 + 1 + 1 + 1 := by omega
                  have i2 : (2 : Int) < (l.length : Int) + 1 + 1 + 1 + 1 + 1 + 1 := by omega
                  have ja : (6 : Int) ≤ (A.size : Int) := by omega
                  have jb : (9 : Int) ≤ (B.size : Int) := by omega
                  have jc : (13 : Int) ≤ (NC : Int) := by omega
                  have jd : (NC : Int) ≤ (NC : Int) + 1 := by omega
                  have sw : IntKind.i64.wrap (NC : Int) = NC := IntWalk.i64_in _ (by omega)
                  have sw1 : IntKind.i64.wrap ((NC : Int) + 1 - 1) = NC := by rw [show (NC : Int) + 1 - 1 = NC by omega]; exact sw
                  go_upto_region 12 with fail
                  go_cut [12] from 97 to 115 (fun p wx => ∃ k, p = .pointer (some ⟨k, 0, none⟩) ∧ w3.heap.size ≤ k ∧ Hid (Chg Never w3 wx) ∧ wx.cell? ⟨k, 0, none⟩ = some (.string X) ∧ wx.cell? ⟨k, 1, none⟩ = some (.string Y) ∧ wx.cell? ⟨k, 2, none⟩ = some (.string W) ∧ wx.cell? ⟨k, 3, none⟩ = some (.slice r3a L3 r3c))
                  case first =>
                    refine wp_region_held_drew (S := fun w' => Chg Never w3 w' ∧ w'.cell? ⟨PB, PO, none⟩ = some (.string A) ∧ w'.cell? ⟨PB, PO + 1, none⟩ = some (.string B) ∧ w'.cell? ⟨PB, PO + 2, none⟩ = some (.string C)) (by kernel_rfl) ⟨(Chg.refl Never w3).drew, c0, c1, c2⟩ (fun hH => ?_)
                    refine' wpAnyH_take (i := 0) ?hi0 (by kernel_rfl) (by kernel_rfl) (by kernel_rfl) ?hQ0 (Or.inl ⟨?hw0, ?hy0⟩) (by assumption) ?_
                    case hi0 => (simp only [List.getElem?_toArray, List.getElem?_cons_succ, List.getElem?_cons_zero]; rfl)
                    case hQ0 => exact fun _ _ _ h => h
                    case hw0 => rfl
                    case hy0 => (intro w' hSw; (try dsimp only at hSw); go_simp; all_goals with_reducible rfl)
                    try simp only [Act.put, List.setIfInBounds_toArray, List.set_cons_zero, List.set_cons_succ]
                    refine' wpAnyH_take (i := 1) ?hi1 (by kernel_rfl) (by kernel_rfl) (by kernel_rfl) ?hQ1 (Or.inl ⟨?hw1, ?hy1⟩) (by assumption) ?_
                    case hi1 => (simp only [List.getElem?_toArray, List.getElem?_cons_succ, List.getElem?_cons_zero]; rfl)
                    case hQ1 => exact fun _ _ _ h => h
                    case hw1 => rfl
                    case hy1 => (intro w' hSw; (try dsimp only at hSw); go_simp; all_goals with_reducible rfl)
                    try simp only [Act.put, List.setIfInBounds_toArray, List.set_cons_zero, List.set_cons_succ]
                    refine' wpAnyH_take (i := 2) ?hi2 (by kernel_rfl) (by kernel_rfl) (by kernel_rfl) ?hQ2 (Or.inl ⟨?hw2, ?hy2⟩) (by assumption) ?_
                    case hi2 => (simp only [List.getElem?_toArray, List.getElem?_cons_succ, List.getElem?_cons_zero]; rfl)
                    case hQ2 => exact fun _ _ _ h => h
                    case hw2 => rfl
                    case hy2 => (intro w' hSw; (try dsimp only at hSw); go_simp; all_goals with_reducible rfl)
                    try simp only [Act.put, List.setIfInBounds_toArray, List.set_cons_zero, List.set_cons_succ]
                    refine' wpAnyH_take (i := 3) ?hi3 (by kernel_rfl) (by kernel_rfl) (by kernel_rfl) ?hQ3 (Or.inl ⟨?hw3, ?hy3⟩) (by assumption) ?_
                    case hi3 => (simp only [List.getElem?_toArray, List.getElem?_cons_succ, List.getElem?_cons_zero]; rfl)
                    case hQ3 => exact fun _ _ _ h => h
                    case hw3 => rfl
                    case hy3 => (intro w' hSw; (try dsimp only at hSw); go_simp; all_goals with_reducible rfl)
                    try simp only [Act.put, List.setIfInBounds_toArray, List.set_cons_zero, List.set_cons_succ]
                    refine' wpAnyH_take (i := 4) ?hi4 (by kernel_rfl) (by kernel_rfl) (by kernel_rfl) ?hQ4 (Or.inl ⟨?hw4, ?hy4⟩) (by assumption) ?_
                    case hi4 => (simp only [List.getElem?_toArray, List.getElem?_cons_succ, List.getElem?_cons_zero]; rfl)
                    case hQ4 => exact fun _ _ _ h => h
                    case hw4 => rfl
                    case hy4 => (intro w' hSw; (try dsimp only at hSw); go_simp; all_goals with_reducible rfl)
                    try simp only [Act.put, List.setIfInBounds_toArray, List.set_cons_zero, List.set_cons_succ]
                    refine' wpAnyH_take (i := 5) ?hi5 (by kernel_rfl) (by kernel_rfl) (by kernel_rfl) ?hQ5 (Or.inl ⟨?hw5, ?hy5⟩) (by assumption) ?_
                    case hi5 => (simp only [List.getElem?_toArray, List.getElem?_cons_succ, List.getElem?_cons_zero]; rfl)
                    case hQ5 => exact fun _ _ _ h => h
                    case hw5 => rfl
                    case hy5 => (intro w' hSw; (try dsimp only at hSw); go_simp; all_goals with_reducible rfl)
                    try simp only [Act.put, List.setIfInBounds_toArray, List.set_cons_zero, List.set_cons_succ]
                    refine' wpAnyH_take (i := 6) ?hi6 (by kernel_rfl) (by kernel_rfl) (by kernel_rfl) ?hQ6 (Or.inl ⟨?hw6, ?hy6⟩) (by assumption) ?_
                    case hi6 => (simp only [List.getElem?_toArray, List.getElem?_cons_succ, List.getElem?_cons_zero]; rfl)
                    case hQ6 => exact fun _ _ _ h => h
                    case hw6 => rfl
                    case hy6 => (intro w' hSw; (try dsimp only at hSw); go_simp; all_goals with_reducible rfl)
                    try simp only [Act.put, List.setIfInBounds_toArray, List.set_cons_zero, List.set_cons_succ]
                    refine' wpAnyH_take (i := 7) ?hi7 (by kernel_rfl) (by kernel_rfl) (by kernel_rfl) ?hQ7 (Or.inl ⟨?hw7, ?hy7⟩) (by assumption) ?_
                    case hi7 => (simp only [List.getElem?_toArray, List.getElem?_cons_succ, List.getElem?_cons_zero]; rfl)
                    case hQ7 => exact fun _ _ _ h => h
                    case hw7 => rfl
                    case hy7 => (intro w' hSw; (try dsimp only at hSw); go_simp; all_goals with_reducible rfl)
                    try simp only [Act.put, List.setIfInBounds_toArray, List.set_cons_zero, List.set_cons_succ]
                    refine' wpAnyH_take (i := 8) ?hi8 (by kernel_rfl) (by kernel_rfl) (by kernel_rfl) ?hQ8 (Or.inl ⟨?hw8, ?hy8⟩) (by assumption) ?_
                    case hi8 => (simp only [List.getElem?_toArray, List.getElem?_cons_succ, List.getElem?_cons_zero]; rfl)
                    case hQ8 => exact fun _ _ _ h => h
                    case hw8 => rfl
                    case hy8 => (intro w' hSw; (try dsimp only at hSw); go_simp; all_goals with_reducible rfl)
                    try simp only [Act.put, List.setIfInBounds_toArray, List.set_cons_zero, List.set_cons_succ]
                    refine' wpAnyH_take (i := 9) ?hi9 (by kernel_rfl) (by kernel_rfl) (by kernel_rfl) ?hQ9 (Or.inl ⟨?hw9, ?hy9⟩) (by assumption) ?_
                    case hi9 => (simp only [List.getElem?_toArray, List.getElem?_cons_succ, List.getElem?_cons_zero]; rfl)
                    case hQ9 => exact fun _ _ _ h => h
                    case hw9 => rfl
                    case hy9 => (intro w' hSw; (try dsimp only at hSw); go_simp; all_goals with_reducible rfl)
                    try simp only [Act.put, List.setIfInBounds_toArray, List.set_cons_zero, List.set_cons_succ]
                    refine' wpAnyH_take (i := 10) ?hi10 (by kernel_rfl) (by kernel_rfl) (by kernel_rfl) ?hQ10 (Or.inl ⟨?hw10, ?hy10⟩) (by assumption) ?_
                    case hi10 => (simp only [List.getElem?_toArray, List.getElem?_cons_succ, List.getElem?_cons_zero]; rfl)
                    case hQ10 => exact fun _ _ _ h => h
                    case hw10 => rfl
                    case hy10 => (intro w' hSw; (try dsimp only at hSw); go_simp; all_goals with_reducible rfl)
                    try simp only [Act.put, List.setIfInBounds_toArray, List.set_cons_zero, List.set_cons_succ]
                    refine' wpAnyH_take (i := 11) ?hi11 (by kernel_rfl) (by kernel_rfl) (by kernel_rfl) ?hQ11 (Or.inl ⟨?hw11, ?hy11⟩) (by assumption) ?_
                    case hi11 => (simp only [List.getElem?_toArray, List.getElem?_cons_succ, List.getElem?_cons_zero]; rfl)
                    case hQ11 => exact fun _ _ _ h => h
                    case hw11 => rfl
                    case hy11 => (intro w' hSw; (try dsimp only at hSw); go_simp; all_goals with_reducible rfl)
                    try simp only [Act.put, List.setIfInBounds_toArray, List.set_cons_zero, List.set_cons_succ]
                    refine' wpAnyH_take (i := 12) ?hi12 (by kernel_rfl) (by kernel_rfl) (by kernel_rfl) ?hQ12 (Or.inl ⟨?hw12, ?hy12⟩) (by assumption) ?_
                    case hi12 => (simp only [List.getElem?_toArray, List.getElem?_cons_succ, List.getElem?_cons_zero]; rfl)
                    case hQ12 => exact fun _ _ _ h => h
                    case hw12 => rfl
                    case hy12 => (intro w' hSw; (try dsimp only at hSw); go_simp; all_goals with_reducible rfl)
                    try simp only [Act.put, List.setIfInBounds_toArray, List.set_cons_zero, List.set_cons_succ]
                    refine' wpAnyH_take (i := 13) ?hi13 (by kernel_rfl) (by kernel_rfl) (by kernel_rfl) ?hQ13 (Or.inl ⟨?hw13, ?hy13⟩) (by assumption) ?_
                    case hi13 => (simp only [List.getElem?_toArray, List.getElem?_cons_succ, List.getElem?_cons_zero]; rfl)
                    case hQ13 => exact fun _ _ _ h => h
                    case hw13 => rfl
                    case hy13 => (intro w' hSw; (try dsimp only at hSw); go_simp; all_goals with_reducible rfl)
                    try simp only [Act.put, List.setIfInBounds_toArray, List.set_cons_zero, List.set_cons_succ]
                    refine' wpAnyH_take (i := 14) ?hi14 (by kernel_rfl) (by kernel_rfl) (by kernel_rfl) ?hQ14 (Or.inl ⟨?hw14, ?hy14⟩) (by assumption) ?_
                    case hi14 => (simp only [List.getElem?_toArray, List.getElem?_cons_succ, List.getElem?_cons_zero]; rfl)
                    case hQ14 => exact fun _ _ _ h => h
                    case hw14 => rfl
                    case hy14 => (intro w' hSw; (try dsimp only at hSw); go_simp; all_goals with_reducible rfl)
                    try simp only [Act.put, List.setIfInBounds_toArray, List.set_cons_zero, List.set_cons_succ]
                    refine' wpAnyH_take (i := 15) ?hi15 (by kernel_rfl) (by kernel_rfl) (by kernel_rfl) ?hQ15 (Or.inl ⟨?hw15, ?hy15⟩) (by assumption) ?_
                    case hi15 => (simp only [List.getElem?_toArray, List.getElem?_cons_succ, List.getElem?_cons_zero]; rfl)
                    case hQ15 => exact fun _ _ _ h => h
                    case hw15 => rfl
                    case hy15 => (intro w' hSw; (try dsimp only at hSw); go_simp; all_goals with_reducible rfl)
                    try simp only [Act.put, List.setIfInBounds_toArray, List.set_cons_zero, List.set_cons_succ]
                    refine' wpAnyH_take (i := 16) ?hi16 (by kernel_rfl) (by kernel_rfl) (by kernel_rfl) ?hQ16 (Or.inl ⟨?hw16, ?hy16⟩) (by assumption) ?_
                    case hi16 => (simp only [List.getElem?_toArray, List.getElem?_cons_succ, List.getElem?_cons_zero]; rfl)
                    case hQ16 => exact fun _ _ _ h => h
                    case hw16 => rfl
                    case hy16 => (intro w' hSw; (try dsimp only at hSw); go_simp; all_goals with_reducible rfl)
                    try simp only [Act.put, List.setIfInBounds_toArray, List.set_cons_zero, List.set_cons_succ]
                    refine' wpAnyH_take (i := 17) ?hi17 (by kernel_rfl) (by kernel_rfl) (by kernel_rfl) ?hQ17 (Or.inl ⟨?hw17, ?hy17⟩) (by assumption) ?_
                    case hi17 => (simp only [List.getElem?_toArray, List.getElem?_cons_succ, List.getElem?_cons_zero]; rfl)
                    case hQ17 => exact fun _ _ _ h => h
                    case hw17 => rfl
                    case hy17 => (intro w' hSw; (try dsimp only at hSw); go_simp; all_goals with_reducible rfl)
                    try simp only [Act.put, List.setIfInBounds_toArray, List.set_cons_zero, List.set_cons_succ]
                    refine' wpAnyH_take (i := 18) ?hi18 (by kernel_rfl) (by kernel_rfl) (by kernel_rfl) ?hQ18 (Or.inl ⟨?hw18, ?hy18⟩) (by assumption) ?_
                    case hi18 => (simp only [List.getElem?_toArray, List.getElem?_cons_succ, List.getElem?_cons_zero]; rfl)
                    case hQ18 => exact fun _ _ _ h => h
                    case hw18 => rfl
                    case hy18 => (intro w' hSw; (try dsimp only at hSw); go_simp; all_goals with_reducible rfl)
                    try simp only [Act.put, List.setIfInBounds_toArray, List.set_cons_zero, List.set_cons_succ]
                    refine wpAnyH_ready (rs := [19]) (by kernel_rfl) (by simp) ?_
                    refine AllReadyH.cons rfl (fun K hK => ?_) AllReadyH.nil
                    go_simp
                    refine hK.out _ _ ?_ (fun hH => ?_)
                    · exact mkeep (by assumption)
                    clear hK K
                    try simp only [Act.put, List.setIfInBounds_toArray, List.set_cons_zero, List.set_cons_succ]
                    refine wpAnyH_ready (rs := [20]) (by kernel_rfl) (by simp) ?_
                    refine AllReadyH.cons rfl (fun K hK => ?_) AllReadyH.nil
                    go_simp
                    refine hK.out _ _ ?_ (fun hH => ?_)
                    · exact mfin c0 c1 c2
                    clear hK K
                    try simp only [Act.put, List.setIfInBounds_toArray, List.set_cons_zero, List.set_cons_succ]
                    refine wpAnyH_done (by kernel_rfl) ?_ _
                    obtain ⟨gA, g0, g1, g2, g3⟩ := box1_mail w3 24 X Y W (.slice r3a L3 r3c) _ rfl
                    go_wp2_with fail
                    go_meet
                    exact ⟨_, rfl, Nat.le_refl _, gA.drew, g0, g1, g2, g3⟩
                  case rest =>
                    obtain ⟨k, rfl, hk, hcc, k0, k1, k2, k3⟩ := hcut
                    have hw4 := hw3.trans hcc.out
                    have hrd : Rdv wc Never (.slice r3a L3 r3c) (decodeR Z) := (hr3.never hcc.out).sub (fun _ _ h => h.elim)
                    have hr4 := hr3.never hcc.out
                    have b0 := hcc.out.cellNever b0
                    have b1 := hcc.out.cellNever b1
                    have b2 := hcc.out.cellNever b2
                    have b3 := hcc.out.cellNever b3
                    have hfz4 : ∀ {w5 : World}, Chg Never wc w5 → ∀ k, w5.frozen? ⟨w.heap.size, k, none⟩ = false := fun hc5 k => by rw [(hcc.out.trans hc5).frozen hB3 (fun x => x)]; exact hfz k
                    have hrefM : Hid (refM s.data.toList = if mailCond a b c d e = true ∧ (encL (decL z) = z ∧ (decL z).length ≤ 40000) ∧ mailFault ⟨X, Y, W, decL z⟩ = 0 then some ⟨X, Y, W, decL z⟩ else none) := by
                      unfold Hid refM
                      rw [HSN.out]
                      simp only
                      unfold mailOfLines
                      rw [HX.out, HY.out, HW.out]
                    clear c0 c1 c2 i0 i1 i2 ja jb jc jd sw sw1 hlc hla hlb
                    by_cases hf : decFault Z = 0
                    · obtain ⟨hk1, hk2⟩ := dec_fine hf
                      have hdR : decodeR Z = decL z := by unfold decodeR; rw [if_pos hf, HZd.out]
                      rw [hdR, HZd.out] at hk2
                      rw [hdR] at hk1 hrd hr4
                      have hcz : Hid (encL (decL z) = z ∧ (decL z).length ≤ 40000) := ⟨hk2, hk1⟩
                      rw [hf]
                      clear hf hdR hk1 hk2
                      go_wp2_with fail
                      refine (refMailFault_any ⟨X, Y, W, decL z⟩ (.slice r3a L3 r3c) _ hrd ⟨hXs, hYs, by unfold maxLen; show W.size ≤ _; omega⟩ hWs).mono ?_
                      rintro e' w5 ⟨rfl, hc5⟩
                      have b0 := hc5.cellNever b0
                      have b1 := hc5.cellNever b1
                      have b2 := hc5.cellNever b2
                      have b3 := hc5.cellNever b3
                      have k0 := hc5.cellNever k0
                      have k1 := hc5.cellNever k1
                      have k2 := hc5.cellNever k2
                      have k3 := hc5.cellNever k3
                      have f0 := hfz4 hc5 0
                      have f1 := hfz4 hc5 1
                      have f2 := hfz4 hc5 2
                      have f3 := hfz4 hc5 3
                      by_cases hz : mailFault ⟨X, Y, W, decL z⟩ = 0
                      · have hps : parseM s.data.toList = some ⟨X, Y, W, decL z⟩ := by rw [← ref_mail, hrefM.out, if_pos ⟨hcond.out, hcz.out, hz⟩]
                        have HR : Hid (parseR s = ⟨X, Y, W, decL z⟩) := by unfold Hid parseR; rw [hps]; rfl
                        have HF : Hid (parseF s = 0) := by unfold Hid parseF; rw [hps]; rfl
                        rw [hz]
                        clear hz hps
                        go_wp2_with fail
                        have P4 := put4 (a := .string X) (b := .string Y) (c := .string W) (d := .slice r3a L3 r3c) b0 b1 b2 b3
                        have P5 : Chg (fun k => k = w.heap.size) wc ((((w5.setCell ⟨w.heap.size, 0, none⟩ (.string X)).setCell ⟨w.heap.size, 1, none⟩ (.string Y)).setCell ⟨w.heap.size, 2, none⟩ (.string W)).setCell ⟨w.heap.size, 3, none⟩ (.slice r3a L3 r3c)) := ((((hc5.mono (O' := fun k => k = w.heap.size) (fun _ _ h => h.elim)).setCell (.inr rfl) _).setCell (.inr rfl) _).setCell (.inr rfl) _).setCell (.inr rfl) _
                        have P6 : Chg Never w ((((w5.setCell ⟨w.heap.size, 0, none⟩ (.string X)).setCell ⟨w.heap.size, 1, none⟩ (.string Y)).setCell ⟨w.heap.size, 2, none⟩ (.string W)).setCell ⟨w.heap.size, 3, none⟩ (.slice r3a L3 r3c)) := ((((hw4.trans hc5).setCell (.inl (Nat.le_refl _)) _).setCell (.inl (Nat.le_refl _)) _).setCell (.inl (Nat.le_refl _)) _).setCell (.inl (Nat.le_refl _)) _
                        have P7 := hr4.keep (O'' := Old w.heap.size) P5 (fun k _ e => by subst e; exact Nat.lt_succ_self _) (fun k _ hk => Nat.lt_succ_of_lt hk)
                        generalize (((w5.setCell ⟨w.heap.size, 0, none⟩ (.string X)).setCell ⟨w.heap.size, 1, none⟩ (.string Y)).setCell ⟨w.heap.size, 2, none⟩ (.string W)).setCell ⟨w.heap.size, 3, none⟩ (.slice r3a L3 r3c) = wZ at P4 P5 P6 P7 ⊢
                        obtain ⟨d0, d1, d2, d3⟩ := P4
                        refine bodyPost_ret (v := .tuple #[.agg #[.string X, .string Y, .string W, .slice r3a L3 r3c], .int .i64 0]) (by simp [results, Tryd.results17, go_sem, d0, d1, d2, d3]) rfl ?_
                        exact ⟨_, by rw [HR.out, HF.out], P6, by rw [HR.out]; exact P7⟩
                      · obtain ⟨HR, HF⟩ := parseR_none (s := s) (by rw [hrefM.out, if_neg (fun q => hz q.2.2)])
                        have HR := Lib.hid HR
                        have HF := Lib.hid HF
                        have tz : (mailFault ⟨X, Y, W, decL z⟩ != 0) = true := by simpa using hz
                        have S0 := cell_put_eq b0
                        have S1 := cell_put_eq b1
                        have S2 := cell_put_eq b2
                        have S3 := cell_put_eq b3
                        clear hz
                        go_wp2_with fail
                        refine bodyPost_ret (v := .tuple #[.agg #[.string ⟨#[]⟩, .string ⟨#[]⟩, .string ⟨#[]⟩, .slice none 0 0], .int .i64 5]) (by simp [results, Tryd.results17, go_sem, b0, b1, b2, b3]) rfl ?_
                        exact ⟨_, by rw [HR.out, HF.out]; rfl, hw4.trans hc5, by rw [HR.out]; exact rdv_nil _ _⟩
                    · have hf5 : decFault Z = 5 := by
                        unfold decFault at hf ⊢
                        split at hf
                        · exact absurd rfl hf
                        · rename_i q; rw [if_neg q]
                      obtain ⟨HR, HF⟩ := parseR_none (s := s) (by
                        rw [hrefM.out, if_neg]
                        rintro ⟨_, ⟨g1, g2⟩, _⟩
                        apply hf
                        unfold decFault
                        rw [HZd.out, if_pos ⟨g2, g1⟩])
                      have HR := Lib.hid HR
                      have HF := Lib.hid HF
                      have f0 := hfz4 (Chg.refl _ _) 0
                      have f1 := hfz4 (Chg.refl _ _) 1
                      have f2 := hfz4 (Chg.refl _ _) 2
                      have f3 := hfz4 (Chg.refl _ _) 3
                      have S0 := cell_put_eq b0
                      have S1 := cell_put_eq b1
                      have S2 := cell_put_eq b2
                      have S3 := cell_put_eq b3
                      rw [hf5]
                      clear hf hf5
                      go_wp2_with fail
                      refine bodyPost_ret (v := .tuple #[.agg #[.string ⟨#[]⟩, .string ⟨#[]⟩, .string ⟨#[]⟩, .slice none 0 0], .int .i64 5]) (by simp [results, Tryd.results17, go_sem, b0, b1, b2, b3]) rfl ?_
                      exact ⟨_, by rw [HR.out, HF.out]; rfl, hw4, by rw [HR.out]; exact rdv_nil _ _⟩
                · have te0 : 0 < (toB e).size := by rw [toB_size]; exact List.length_pos_iff.2 he
                  obtain ⟨n, hn⟩ : ∃ n, (toB e).size = n + 1 := ⟨(toB e).size - 1, by omega⟩
                  have te : decide ((0 : Int) < ((n : Int) + 1)) = true := decide_eq_true (by omega)
                  clear te0
                  obtain ⟨HR, HF⟩ := parseR_bad HL.out.1 (by simp [mailCond, he])
                  have HR := Lib.hid HR
                  have HF := Lib.hid HF
                  have S0 := cell_put_eq b0
                  have S1 := cell_put_eq b1
                  have S2 := cell_put_eq b2
                  have S3 := cell_put_eq b3
                  go_wp2_with (first | (go_at_call_of 40 (Value.string (toB a)); refine (F1 _).mono ?_; rintro e w3 ⟨rfl, rfl⟩) | (go_at_call_of 40 (Value.string (toB b)); refine (F2 _).mono ?_; rintro e w3 ⟨rfl, rfl⟩) | (go_at_call_of 40 (Value.string (toB c)); refine (F3 _).mono ?_; rintro e w3 ⟨rfl, rfl⟩) | (go_at_call 41; refine (F4 _).mono ?_; rintro e w3 ⟨rfl, rfl⟩))
                  refine bodyPost_ret (v := .tuple #[.agg #[.string ⟨#[]⟩, .string ⟨#[]⟩, .string ⟨#[]⟩, .slice none 0 0], .int .i64 5]) (by simp [results, Tryd.results17, go_sem, b0, b1, b2, b3]) rfl ?_
                  exact ⟨_, by rw [HR.out, HF.out]; rfl, hw1, by rw [HR.out]; exact rdv_nil _ _⟩
              · have td : ((toB d).toList == [67, 111, 110, 116, 101, 110, 116, 45, 84, 114, 97, 110, 115, 102, 101, 114, 45, 69, 110, 99, 111, 100, 105, 110, 103, 58, 32, 98, 97, 115, 101, 54, 52]) = false := by
                  rw [Lib.toList_data, toB_data]
                  exact beq_eq_false_iff_ne.2 hd
                have tdn : ((toB d).toList != [67, 111, 110, 116, 101, 110, 116, 45, 84, 114, 97, 110, 115, 102, 101, 114, 45, 69, 110, 99, 111, 100, 105, 110, 103, 58, 32, 98, 97, 115, 101, 54, 52]) = true := by unfold bne; rw [td]; rfl
                obtain ⟨HR, HF⟩ := parseR_bad HL.out.1 (by simp [mailCond, hd])
                have HR := Lib.hid HR
                have HF := Lib.hid HF
                have S0 := cell_put_eq b0
                have S1 := cell_put_eq b1
                have S2 := cell_put_eq b2
                have S3 := cell_put_eq b3
                go_wp2_with (first | (go_at_call_of 40 (Value.string (toB a)); refine (F1 _).mono ?_; rintro e w3 ⟨rfl, rfl⟩) | (go_at_call_of 40 (Value.string (toB b)); refine (F2 _).mono ?_; rintro e w3 ⟨rfl, rfl⟩) | (go_at_call_of 40 (Value.string (toB c)); refine (F3 _).mono ?_; rintro e w3 ⟨rfl, rfl⟩) | (go_at_call 41; refine (F4 _).mono ?_; rintro e w3 ⟨rfl, rfl⟩))
                refine bodyPost_ret (v := .tuple #[.agg #[.string ⟨#[]⟩, .string ⟨#[]⟩, .string ⟨#[]⟩, .slice none 0 0], .int .i64 5]) (by simp [results, Tryd.results17, go_sem, b0, b1, b2, b3]) rfl ?_
                exact ⟨_, by rw [HR.out, HF.out]; rfl, hw1, by rw [HR.out]; exact rdv_nil _ _⟩
            · have t14 : decide (((toB c).size : Int) < 14) = true := decide_eq_true (by rw [toB_size]; omega)
              obtain ⟨HR, HF⟩ := parseR_bad HL.out.1 (by simp [mailCond, h14])
              have HR := Lib.hid HR
              have HF := Lib.hid HF
              have S0 := cell_put_eq b0
              have S1 := cell_put_eq b1
              have S2 := cell_put_eq b2
              have S3 := cell_put_eq b3
              go_wp2_with (first | (go_at_call_of 40 (Value.string (toB a)); refine (F1 _).mono ?_; rintro e w3 ⟨rfl, rfl⟩) | (go_at_call_of 40 (Value.string (toB b)); refine (F2 _).mono ?_; rintro e w3 ⟨rfl, rfl⟩) | (go_at_call_of 40 (Value.string (toB c)); refine (F3 _).mono ?_; rintro e w3 ⟨rfl, rfl⟩) | (go_at_call 41; refine (F4 _).mono ?_; rintro e w3 ⟨rfl, rfl⟩))
              refine bodyPost_ret (v := .tuple #[.agg #[.string ⟨#[]⟩, .string ⟨#[]⟩, .string ⟨#[]⟩, .slice none 0 0], .int .i64 5]) (by simp [results, Tryd.results17, go_sem, b0, b1, b2, b3]) rfl ?_
              exact ⟨_, by rw [HR.out, HF.out]; rfl, hw1, by rw [HR.out]; exact rdv_nil _ _⟩
end Go.Proofs.YtnekhaacapdmfaaDoor
namespace Go.Proofs.YtnekhaacapdmfaaDoor
open Go.RowKit

theorem bat_keep {B b : Nat} {bs : List Value} {w w' : World} {p : Value} (h : Lib.BuilderAtF 71 5 B b p bs w) (hc : Chg Never w w') : Lib.BuilderAtF 71 5 B b p bs w' := by
  have hlt := h.lt
  obtain ⟨hB, v, hv, hown, hne⟩ := h
  refine ⟨hB, v, (hc.block b hlt (fun x => x)).trans hv, hown.kept (row := none) ⟨hc.os, hc.tape, hc.output, hc.size, fun k hk _ => hc.block k hk (fun x => x)⟩ (Classical.em _), hne⟩
theorem bld_keep {B b : Nat} {bs : List Value} {w w' : World} (h : IsB B b bs w) (hc : Chg Never w w') : IsB B b bs w' :=
  h.elim (fun x => .inl (bat_keep x hc)) (fun x => .inr (bat_keep x hc))
end Go.Proofs.YtnekhaacapdmfaaDoor
namespace Go.Proofs.YtnekhaacapdmfaaDoor

/-- a box, read a mail at a time -/
def boxGo : Nat → List UInt8 → List Mail → Option (List Mail)
  | _, [], acc => some acc
  | 0, _ :: _, _ => none
  | k + 1, c :: s, acc => match dropPre markW (c :: s) with
    | none => none
    | some r => if 16 ≤ acc.length then none else match cutSub sepW r with
      | some p => match parseM p.1 with
        | none => none
        | some m => boxGo k (markW ++ p.2) (acc ++ [m])
      | none => match dropSuf [10] r with
        | none => none
        | some y => match parseM y with
          | none => none
          | some m => some (acc ++ [m])
def boxRest (l : List (List UInt8)) (acc : List Mail) : Option (List Mail) :=
  if 16 < acc.length + l.length then none else match dropSuf [10] (l.getLastD []) with
  | none => none
  | some y => (allM (l.dropLast ++ [y])).map fun q => acc ++ q
theorem boxGo_step (k : Nat) (r : List UInt8) (acc : List Mail) : boxGo (k + 1) (markW ++ r) acc = if 16 ≤ acc.length then none else match cutSub sepW r with
      | some p => match parseM p.1 with
        | none => none
        | some m => boxGo k (markW ++ p.2) (acc ++ [m])
      | none => match dropSuf [10] r with
        | none => none
        | some y => match parseM y with
          | none => none
          | some m => some (acc ++ [m]) := by
  have e : markW ++ r = 70 :: ([114, 111, 109, 32, 45, 32, 10] ++ r) := rfl
  have h := pre_app markW r
  rw [e] at h ⊢
  rw [boxGo, h]
theorem cutsK_pos (t : List UInt8) : ∀ (k : Nat) (s : List UInt8), cutsK t k s ≠ []
  | 0, s => by rw [cutsK]; simp
  | k + 1, s => by
    rw [cutsK]
    cases cutSub t s with
    | none => simp
    | some p => simp
theorem split_enough {k : Nat} {s : List UInt8} (h : s.length ≤ k) : splitAll k s = splitAll s.length s := by
  rw [splitAll_cuts, splitAll_cuts]
  have := count_len (t := sepW) (by unfold sepW; simp) s.length s (Nat.le_refl _)
  exact cuts_enough (by unfold sepW; simp) s.length _ _ s (Nat.le_refl _) (by omega) this
theorem split_pos (s : List UInt8) : splitAll s.length s ≠ [] := by rw [splitAll_cuts]; exact cutsK_pos _ _ _
theorem split_one {s : List UInt8} (h : cutSub sepW s = none) : splitAll s.length s = [s] := by
  cases s with
  | nil => rfl
  | cons c s => rw [List.length_cons, splitAll, h]
theorem split_more {s : List UInt8} {p : List UInt8 × List UInt8} (h : cutSub sepW s = some p) : splitAll s.length s = p.1 :: splitAll p.2.length p.2 := by
  have hs := cut_shorter (by unfold sepW; simp) h
  obtain ⟨n, hn⟩ : ∃ n, s.length = n + 1 := ⟨s.length - 1, by omega⟩
  rw [hn, splitAll, h]
  simp only
  rw [split_enough (by omega)]
theorem boxGo_rest : ∀ (k : Nat) (r : List UInt8) (acc : List Mail), r.length + 8 ≤ k → acc.length ≤ 16 → boxGo k (markW ++ r) acc = boxRest (splitAll r.length r) acc
  | 0, _, _, h, _ => by omega
  | k + 1, r, acc, h, ha => by
    have hp := List.length_pos_iff.2 (split_pos r)
    rw [boxGo_step]
    by_cases h16 : 16 ≤ acc.length
    · rw [if_pos h16]
      unfold boxRest
      rw [if_pos (by omega)]
    · rw [if_neg h16]
      cases hc : cutSub sepW r with
      | none =>
        simp only
        unfold boxRest
        rw [split_one hc, if_neg (by simp; omega)]
        show _ = match dropSuf [10] r with
          | none => none
          | some y => (allM ([] ++ [y])).map fun q => acc ++ q
        cases hd : dropSuf [10] r with
        | none => rfl
        | some y =>
          simp only
          rw [List.nil_append, allM]
          cases parseM y with
          | none => rfl
          | some m => rfl
      | some p =>
        simp only
        have hs := cut_shorter (by unfold sepW; simp) hc
        have hc2 := cut_some (a := p.1) (b := p.2) hc
        have hl := congrArg List.length hc2
        simp only [List.length_append, show sepW.length = 9 from rfl] at hl
        rw [split_more hc]
        have hq := split_pos p.2
        generalize hL : splitAll p.2.length p.2 = L at hq ⊢
        have e1 : (p.1 :: L).getLastD [] = L.getLastD [] := by
          obtain ⟨x, y, rfl⟩ := List.exists_cons_of_ne_nil hq
          simp [List.getLastD]
        have e2 : (p.1 :: L).dropLast = p.1 :: L.dropLast := by
          obtain ⟨x, y, rfl⟩ := List.exists_cons_of_ne_nil hq
          rfl
        cases hm : parseM p.1 with
        | none =>
          unfold boxRest
          rw [e1, e2]
          show none = _
          by_cases hb : 16 < acc.length + (p.1 :: L).length
          · rw [if_pos hb]
          · rw [if_neg hb]
            cases dropSuf [10] (L.getLastD []) with
            | none => rfl
            | some y =>
              simp only
              rw [List.cons_append, allM, hm]
              rfl
        | some m =>
          simp only
          rw [boxGo_rest k p.2 (acc ++ [m]) (by omega) (by simp; omega), hL]
          unfold boxRest
          rw [e1, e2]
          simp only [List.length_append, List.length_cons, List.length_nil]
          by_cases hb : 16 < acc.length + (0 + 1) + L.length
          · rw [if_pos hb, if_pos (by omega)]
          · rw [if_neg hb, if_neg (by omega)]
            cases dropSuf [10] (L.getLastD []) with
            | none => rfl
            | some y =>
              simp only
              rw [List.cons_append, allM, hm]
              simp only
              cases allM (L.dropLast ++ [y]) with
              | none => rfl
              | some q => simp
theorem box_same (s : List UInt8) : boxGo (s.length + 8) s [] = parseBox s := by
  cases s with
  | nil => rfl
  | cons c s =>
    unfold parseBox
    rw [if_neg (by simp)]
    cases hd : dropPre markW (c :: s) with
    | none =>
      rw [List.length_cons, show s.length + 1 + 8 = s.length + 8 + 1 by omega, boxGo, hd]
    | some r =>
      have e := pre_some hd
      rw [e, boxGo_rest _ r [] (by rw [List.length_append]; show _ ≤ 8 + r.length + 8; omega) (by simp)]
      unfold boxRest
      simp only [List.length_nil, Nat.zero_add, List.nil_append]
      split
      · rfl
      · cases dropSuf [10] ((splitAll r.length r).getLastD []) with
        | none => rfl
        | some y => simp
end Go.Proofs.YtnekhaacapdmfaaDoor
namespace Go.Proofs.YtnekhaacapdmfaaDoor
open Go.RowKit

def boxFault (l : List Mail) : Int := if 16 < l.length then 3 else firstOf mailFault l
def boxR (l : List Mail) : ByteArray := if boxFault l = 0 then toB (boxText l) else ByteArray.empty
theorem mailText_len {m : Mail} (h : mailFault m = 0) : (mailText m).length ≤ 60999 := by
  obtain ⟨w1, w2, w3, w4⟩ := mail_ok h
  have s1 := word_size w1
  have s2 := word_size w2
  have s3 := word_size w3
  have s4 := enc_short_len w4
  rw [Lib.size_eq] at s1 s2 s3
  unfold mailText fromW subjW idW codW
  simp only [List.length_append, List.length_cons, List.length_nil]
  omega
theorem boxText_one (x : Mail) : boxText [x] = markW ++ (mailText x ++ [10]) := by simp [boxText]
theorem boxText_take {l : List Mail} {k : Nat} {x : Mail} (hx : l[k]? = some x) : boxText (l.take (k + 1)) = boxText (l.take k) ++ (markW ++ (mailText x ++ [10])) := by
  rw [List.take_add_one, hx, Option.toList_some, box_app, boxText_one]
theorem boxText_len : ∀ {l : List Mail}, (∀ x ∈ l, mailFault x = 0) → (boxText l).length ≤ 61010 * l.length
  | [], _ => by simp [boxText]
  | m :: l, h => by
    have h1 := boxText_len (l := l) fun x hx => h x (List.mem_cons_of_mem _ hx)
    have h2 := mailText_len (h m (List.mem_cons_self ..))
    rw [box_cons]
    unfold tailB markW
    simp only [List.length_append, List.length_cons, List.length_nil]
    omega
theorem firstOf_drop {α : Type} {f : α → Int} {l : List α} {k : Nat} {x : α} (h : firstOf f (l.drop k) = firstOf f l) (hx : l[k]? = some x) : (f x = 0 → firstOf f (l.drop (k + 1)) = firstOf f l) ∧ (f x ≠ 0 → firstOf f l = f x) := by
  rw [drop_eq hx, firstOf] at h
  constructor
  · intro e; rw [if_pos e] at h; exact h
  · intro e; rw [if_neg e] at h; exact h.symm

set_option maxHeartbeats 1000000 in
set_option maxRecDepth 100000 in
theorem box_any (l : List Mail) (v : Value) (w : World) (h : Rdv w Never v l) :
    Calls Tryd.prog 11 #[v] w fun e w' => e = .returned (.tuple #[.string (boxR l), errV (boxFault l)]) ∧ Chg Never w w' := by
  obtain ⟨a, cap, rfl, h1, h2, h3⟩ := rdv_slice h
  unfold maxLen at h2
  by_cases h16 : 16 < l.length
  · have HF : Hid (boxFault l = 3) := if_pos h16
    have HR : Hid (boxR l = ByteArray.empty) := by unfold Hid boxR; rw [HF.out]; rfl
    have t16 : decide ((16 : Int) < (l.length : Int)) = true := decide_eq_true (by omega)
    go_enter Tryd.func11, Tryd.ntmps11
    go_wp2_with fail
    go_ret2
    exact ⟨by rw [HR.out, HF.out, errV_pos (by decide)]; rfl, Chg.refl _ _⟩
  · have HF : Hid (boxFault l = firstOf mailFault l) := if_neg h16
    have t16 : decide ((16 : Int) < (l.length : Int)) = false := decide_eq_false (by omega)
    go_enter Tryd.func11, Tryd.ntmps11
    go_wp2_with fail
    go_loopw [15] (fun i wr => ∃ k : Nat, k ≤ l.length ∧ i = .int .i64 k ∧ IsB w.heap.size w.heap.size (Lib.byteCells (boxText (l.take k))) wr ∧ Below w.heap.size w wr ∧ Hid (firstOf mailFault (l.drop k) = firstOf mailFault l) ∧ Hid (∀ x ∈ l.take k, mailFault x = 0)) (fun i _ => l.length - (intOf i).toNat)
    case atStart => exact ⟨0, Nat.zero_le _, rfl, Lib.IsBuilderF.of (Lib.fresh_isBuilder _ _ w), (Below.refl _ w).alloc (Nat.le_refl _) _, rfl, fun x hx => by simp at hx⟩
    case round =>
      obtain ⟨k, hk, rfl, hI, hb, hf, ha⟩ := hrel
      rename World => wr
      have hbs := hb.size
      by_cases hlt : k < l.length
      · obtain ⟨x, hx⟩ : ∃ x, l[k]? = some x := ⟨l[k], by simp [hlt]⟩
        obtain ⟨b, off, v, rfl, _, _, c0, c1, c2, c3, z0, z1, z2, hv⟩ := elems_mail h3 hx
        have hcb := Chg.of_below hb
        have c0 := hcb.cellNever c0
        have c1 := hcb.cellNever c1
        have c2 := hcb.cellNever c2
        have c3 := hcb.cellNever c3
        obtain ⟨va, vc, rfl, _, _, _⟩ := rdv_slice hv
        have hA : Chg Never wr (wr.alloc (.cells #[.string x.sender, .string x.subject, .string x.ident, .slice va x.body.length vc] 24)) := (Chg.refl Never wr).alloc _
        obtain ⟨_, g0, g1, g2, g3⟩ := box1_mail wr 24 x.sender x.subject x.ident (.slice va x.body.length vc) _ rfl
        have hvA := (hv.never hcb).never hA
        have HX := Lib.hid hx
        obtain ⟨st1, st2⟩ := firstOf_drop hf.out hx
        clear hx h3 h
        go_wp2_with fail
        clear c0 c1 c2 c3
        have hI := bld_keep hI hA
        generalize wr.alloc (.cells #[.string x.sender, .string x.subject, .string x.ident, .slice va x.body.length vc] 24) = wA at hA g0 g1 g2 g3 hvA hI ⊢
        refine (mail_print_any x _ _ hvA ⟨z0, z1, z2⟩).mono ?_
        rintro e w5 ⟨rfl, hc5⟩
        have hI := bld_keep hI hc5
        have hw5 := (hcb.trans hA).trans hc5
        clear g0 g1 g2 g3 hvA hA hc5
        by_cases hz : mailFault x = 0
        · have HZ := Lib.hid hz
          have HS := Lib.hid (st1 hz)
          have HP : Hid (printR x = toB (mailText x)) := by unfold Hid printR; rw [if_pos hz]
          have hml := mailText_len hz
          have HA2 : Hid (∀ y ∈ l.take (k + 1), mailFault y = 0) := fun y hy => by
            rw [List.take_add_one, HX.out, Option.toList_some] at hy
            rcases List.mem_append.1 hy with q | q
            · exact ha.out y q
            · rw [List.mem_singleton.1 q]; exact HZ.out
          have hbl := boxText_len ha.out
          rw [List.length_take] at hbl
          obtain ⟨y, hy⟩ : ∃ y, printR x = y := ⟨_, rfl⟩
          have HJ : Hid (Lib.byteCells (boxText (l.take k)) ++ Lib.strCells (toB markW ++ y ++ toB [10]) = Lib.byteCells (boxText (l.take (k + 1)))) := by
            rw [Hid, boxText_take HX.out, Lib.byteCells_append, Lib.strCells_eq, bytes_append, bytes_append, toB_data, toB_data, ← hy, HP.out, toB_data]
            simp
          have hyz : y.size ≤ 60999 := by rw [← hy, HP.out, Lib.size_eq, toB_data]; exact hml
          have hl1 : (Lib.byteCells (boxText (l.take k))).length ≤ 1000000 := by rw [Lib.byteCells_length]; omega
          rw [hz, errV_zero, hy]
          generalize Lib.byteCells (boxText (l.take k)) = bs at hI HJ hl1
          clear hz st1 st2 hy hml hbl ha hf HX
          have hsz5 := hw5.size
          go_wp2_with fail
          refine (bld_string w.heap.size w.heap.size bs (toB markW ++ y ++ toB [10]) _ hI (by rw [ByteArray.size_append, ByteArray.size_append, toB_size, toB_size]; show _ + (8 + y.size + 1) ≤ _; omega) hsz5).mono ?_
          rintro e w6 ⟨rfl, hI6, b6⟩
          go_wp2_with fail
          go_roundw
          case rel => exact ⟨k + 1, by omega, by go_num, .inr (by rw [← HJ.out]; exact hI6), hw5.never.trans b6, HS, HA2⟩
          case measure => simp [intOf]; omega
        · have HF2 : Hid (boxFault l = mailFault x) := by rw [Hid, HF.out, st2 hz]
          have HR : Hid (boxR l = ByteArray.empty) := by unfold Hid boxR; rw [HF2.out, if_neg hz]
          rw [errV_pos hz]
          have HZ := Lib.hid hz
          clear hz st1 st2 hf ha HX
          go_wp2_with fail
          go_ret2
          exact ⟨by rw [HR.out, HF2.out, errV_pos HZ.out]; rfl, hw5⟩
      · rw [List.take_of_length_le (by omega)] at hI
        have hf' := hf.out
        rw [List.drop_of_length_le (by omega)] at hf'
        have HF2 : Hid (boxFault l = 0) := by rw [Hid, HF.out, ← hf']; rfl
        have HR : Hid (boxR l = ⟨(boxText l).toArray⟩) := by unfold Hid boxR; rw [if_pos HF2.out]; rfl
        clear hf hf' ha
        go_wp2_with fail
        refine (Tryd.Builder_String_any_k w.heap.size w.heap.size (boxText l) _ hI hbs).mono ?_
        rintro e w4 ⟨rfl, _, b4, _⟩
        go_wp2_with fail
        go_ret2
        exact ⟨by rw [HR.out, HF2.out]; rfl, Chg.of_below (hb.trans b4)⟩

set_option maxHeartbeats 1000000 in
set_option maxRecDepth 100000 in
theorem refBoxText_any (l : List Mail) (v : Value) (w : World) (h : Rdv w Never v l) (hz : boxFault l = 0) :
    Calls Tryd.prog 18 #[v] w fun e w' => e = .returned (.string (toB (boxText l))) ∧ Chg Never w w' := by
  obtain ⟨a, cap, rfl, h1, h2, h3⟩ := rdv_slice h
  unfold maxLen at h2
  have h16 : l.length ≤ 16 := by
    unfold boxFault at hz
    by_cases q : 16 < l.length
    · rw [if_pos q] at hz; cases hz
    · omega
  have hall : Hid (∀ x ∈ l, mailFault x = 0) := by
    unfold boxFault at hz
    rw [if_neg (by omega), firstOf_zero] at hz
    exact hz
  clear hz
  go_enter Tryd.func18, Tryd.ntmps18
  go_wp2_with fail
  go_loopw [3, 4] (fun st i wr => ∃ (k : Nat) (acc : ByteArray), k ≤ l.length ∧ i = .int .i64 k ∧ st = .string acc ∧ Chg Never w wr ∧ acc.size ≤ 61010 * k ∧ Hid (acc = toB (boxText (l.take k)))) (fun _ i _ => l.length - (intOf i).toNat)
  case atStart => exact ⟨0, _, Nat.zero_le _, rfl, rfl, Chg.refl _ _, Nat.zero_le _, rfl⟩
  case round =>
    obtain ⟨k, acc, hk, rfl, rfl, hc, hsa, hJ⟩ := hrel
    rename World => wr
    by_cases hlt : k < l.length
    · obtain ⟨x, hx⟩ : ∃ x, l[k]? = some x := ⟨l[k], by simp [hlt]⟩
      obtain ⟨b, off, v, rfl, _, _, c0, c1, c2, c3, z0, z1, z2, hv⟩ := elems_mail h3 hx
      have c0 := hc.cellNever c0
      have c1 := hc.cellNever c1
      have c2 := hc.cellNever c2
      have c3 := hc.cellNever c3
      obtain ⟨va, vc, rfl, _, _, _⟩ := rdv_slice hv
      have hz := hall.out x (List.mem_of_getElem? hx)
      have hml := mailText_len hz
      have HZ := Lib.hid hz
      have HJ2 : Hid (acc ++ toB markW ++ toB (mailText x) ++ toB [10] = toB (boxText (l.take (k + 1)))) := by
        rw [Hid, hJ.out, boxText_take hx]
        apply ByteArray.ext
        apply Array.toList_inj.1
        simp only [bytes_append, toB_data]
        simp
      obtain ⟨y, hy⟩ : ∃ y, toB (mailText x) = y := ⟨_, rfl⟩
      have hyz : y.size ≤ 60999 := by rw [← hy, toB_size]; exact hml
      have hsz2 : (acc ++ toB markW ++ y ++ toB [10] : ByteArray).size ≤ 61010 * (k + 1) := by rw [ByteArray.size_append, ByteArray.size_append, ByteArray.size_append, toB_size, toB_size]; show acc.size + 8 + y.size + 1 ≤ _; omega
      rw [hy] at HJ2
      have HY := Lib.hid hy
      clear hx h3 h hz hy hml
      go_wp2_with fail
      refine (mailText_any x _ _ (hv.never hc) HZ.out).mono ?_
      rintro e w5 ⟨rfl, hc5⟩
      rw [HY.out]
      clear c0 c1 c2 c3
      go_wp2_with fail
      go_roundw
      case rel => exact ⟨k + 1, _, by omega, by go_num, rfl, hc.trans hc5, hsz2, HJ2.out⟩
      case measure => simp [intOf]; omega
    · go_wp2_with fail
      go_ret
      have e := hJ.out
      rw [List.take_of_length_le (by omega)] at e
      exact ⟨by rw [e]; rfl, hc⟩
end Go.Proofs.YtnekhaacapdmfaaDoor
namespace Go.Proofs.YtnekhaacapdmfaaDoor
open Go.RowKit
theorem last_of {l : List (List UInt8)} (h : l ≠ []) : ∃ i z, l = i ++ [z] := ⟨l.dropLast, l.getLast h, (List.dropLast_concat_getLast h).symm⟩
theorem rdv_strs {w : World} {O : Nat → Prop} {g : Nat} {e : TypeId} {l : List ByteArray} {n : Nat} (h : w.heap[g]? = some (.cells (l.map Value.string).toArray e (0, 0))) (hO : ¬ O g) (hn : n = l.length) (hl : l.length ≤ maxLen) (hs : ∀ x ∈ l, x.size ≤ maxLen) : Rdv w O (.slice (some ⟨g, 0, none⟩) n n) l := by
  subst hn
  refine ⟨some ⟨g, 0, none⟩, l.length, rfl, Nat.le_refl _, hl, ?_⟩
  intro i x hx
  refine ⟨g, 0, [.string x], rfl, hO, ?_, rfl, hs x (List.mem_of_getElem? hx)⟩
  intro j u hj
  match j, hj with
  | 0, hj =>
    simp only [List.getElem?_cons_zero, Option.some.injEq] at hj
    subst hj
    simp only [World.cell?, h]
    simp [Dat.n, hx]
theorem suffix_snoc (b : List UInt8) : Lib.hasSuffix (b ++ [10]) [10] = true ∧ Lib.trimSuffix (b ++ [10]) [10] = b := by
  have e : Lib.hasSuffix (b ++ [10]) [10] = true := by
    unfold Lib.hasSuffix
    rw [List.isSuffixOf_iff_suffix]
    exact List.suffix_append b [10]
  refine ⟨e, ?_⟩
  unfold Lib.trimSuffix
  rw [if_pos e]
  simp
theorem suffix_not {b : List UInt8} {c : UInt8} (h : c ≠ 10) : Lib.hasSuffix (b ++ [c]) [10] = false := by
  unfold Lib.hasSuffix
  rw [Bool.eq_false_iff]
  intro e
  rw [List.isSuffixOf_iff_suffix] at e
  obtain ⟨t, ht⟩ := e
  have := (List.append_inj' ht rfl).2
  simp at this
  exact h this.symm
theorem str_ne_empty {s : ByteArray} (h : s ≠ ByteArray.empty) : ∃ b c, s.data.toList = b ++ [c] := by
  have hne : s.data.toList ≠ [] := by
    intro e
    apply h
    apply ByteArray.ext
    apply Array.toList_inj.1
    rw [e]; rfl
  exact ⟨s.data.toList.dropLast, s.data.toList.getLast hne, (List.dropLast_concat_getLast hne).symm⟩
end Go.Proofs.YtnekhaacapdmfaaDoor
namespace Go.Proofs.YtnekhaacapdmfaaDoor
open Go.RowKit

theorem elemOk_mail : ElemOk Tryd.prog 25 24 4 := elemOk_of Tryd.underlying25 (z := .agg #[.string ⟨#[]⟩, .string ⟨#[]⟩, .string ⟨#[]⟩, .slice none 0 0]) (b := 72) (by kernel_rfl) rfl (by decide)
def openR (s : ByteArray) : List Mail := (parseBox s.data.toList).getD []
def openF (s : ByteArray) : Int := if (parseBox s.data.toList).isSome = true then 0 else 5
theorem open_none {s : ByteArray} (h : parseBox s.data.toList = none) : openR s = [] ∧ openF s = 5 := by
  unfold openR openF; rw [h]; exact ⟨rfl, rfl⟩
theorem open_some {s : ByteArray} {l : List Mail} (h : parseBox s.data.toList = some l) : openR s = l ∧ openF s = 0 := by
  unfold openR openF; rw [h]; exact ⟨rfl, rfl⟩
theorem parse_some {s : ByteArray} {m : Mail} (h : parseM s.data.toList = some m) : parseR s = m ∧ parseF s = 0 := by
  unfold parseR parseF; rw [h]; exact ⟨rfl, rfl⟩
theorem parse_none {s : ByteArray} (h : parseM s.data.toList = none) : parseF s = 5 := by
  unfold parseF; rw [h]; rfl
theorem mail_sizes {s : List UInt8} {m : Mail} (h : parseM s = some m) : MailSz m := by
  obtain ⟨w1, w2, w3, _⟩ := mail_ok (mail_some h).2
  have s1 := word_size w1
  have s2 := word_size w2
  have s3 := word_size w3
  unfold MailSz maxLen; omega
/-- strings.Split(rest, "\nFrom - \n") -/
theorem boxes_eq (s : ByteArray) : Lib.splitB (toB sepW) 0 (Lib.countB s (toB sepW)) s = (splitAll s.size s.data.toList).map toB := by
  have h := Lib.splitB_data (toB sepW) 0 (Lib.countB s (toB sepW)) s
  have h2 := split_sep s.data.toList
  have h3 : Lib.countB s (toB sepW) = Lib.count s.data.toList sepW := by unfold Lib.countB; rw [toB_data]
  rw [h3] at h ⊢
  rw [toB_data, h2, ← Lib.size_eq] at h
  rw [← h, List.map_map, map_toB]
theorem cutsK_small {t : List UInt8} : ∀ (k : Nat) (s x : List UInt8), x ∈ cutsK t k s → x.length ≤ s.length
  | 0, s, x, h => by rw [cutsK] at h; rw [List.mem_singleton.1 h]; exact Nat.le_refl _
  | k + 1, s, x, h => by
    rw [cutsK] at h
    cases hc : cutSub t s with
    | none => rw [hc] at h; rw [List.mem_singleton.1 h]; exact Nat.le_refl _
    | some p =>
      rw [hc] at h
      have e := congrArg List.length (cut_some (a := p.1) (b := p.2) hc)
      simp only [List.length_append] at e
      rcases List.mem_cons.1 h with rfl | h
      · omega
      · have := cutsK_small k p.2 x h; omega
theorem split_small {s x : List UInt8} (h : x ∈ splitAll s.length s) : x.length ≤ s.length := by rw [splitAll_cuts] at h; exact cutsK_small _ _ _ h
theorem split_nonempty (s : List UInt8) : ∃ i z, splitAll s.length s = i ++ [z] := last_of (split_pos s)
theorem cutsK_len' (t : List UInt8) : ∀ (k : Nat) (s : List UInt8), (cutsK t k s).length ≤ k + 1
  | 0, s => by rw [cutsK]; simp
  | k + 1, s => by
    rw [cutsK]
    cases cutSub t s with
    | none => simp
    | some p => have := cutsK_len' t k p.2; simp; omega
theorem cutsK_len (s : List UInt8) : (splitAll s.length s).length ≤ s.length + 1 := by rw [splitAll_cuts]; exact cutsK_len' _ _ _
/-- a row of strings of which the last one is written -/
theorem rdv_last {w : World} {g : Nat} {e : TypeId} {i : List ByteArray} {z y : ByteArray} (h : w.heap[g]? = some (.cells ((i ++ [z]).map Value.string).toArray e (0, 0))) (hl : i.length < maxLen) (hs : ∀ x ∈ i ++ [y], x.size ≤ maxLen) {O : Nat → Prop} (hO : ¬ O g) :
    w.cell? ⟨g, i.length, none⟩ = some (.string z) ∧ w.frozen? ⟨g, i.length, none⟩ = false ∧ Rdv (w.setCell ⟨g, i.length, none⟩ (.string y)) O (.slice (some ⟨g, 0, none⟩) (i.length + 1) (i.length + 1)) (i ++ [y]) := by
  refine ⟨by simp [World.cell?, h], by simp [World.frozen?, h], ?_⟩
  refine rdv_strs (e := e) (g := g) ?_ hO (by simp) (by simp; omega) hs
  simp [World.setCell, Array.getElem?_modify, h]
/-- the parts that are still to be read -/
def AllInv (ps : List (List UInt8)) (k : Nat) (L : List Mail) : Prop := (allM (ps.drop k)).map (L ++ ·) = allM ps
theorem ainv_start (ps : List (List UInt8)) : AllInv ps 0 [] := by simp [AllInv]
theorem ainv_end {ps : List (List UInt8)} {k : Nat} {L : List Mail} (h : AllInv ps k L) (hk : ps.length ≤ k) : allM ps = some L := by
  rw [← h, List.drop_of_length_le hk]; simp [allM]
theorem ainv_bad {ps : List (List UInt8)} {k : Nat} {L : List Mail} {x : List UInt8} (h : AllInv ps k L) (hx : ps[k]? = some x) (hm : parseM x = none) : allM ps = none := by
  rw [← h, drop_eq hx, allM, hm]; rfl
theorem ainv_step {ps : List (List UInt8)} {k : Nat} {L : List Mail} {x : List UInt8} {m : Mail} (h : AllInv ps k L) (hx : ps[k]? = some x) (hm : parseM x = some m) : AllInv ps (k + 1) (L ++ [m]) := by
  unfold AllInv at *
  rw [← h, drop_eq hx, allM, hm]
  cases allM (ps.drop (k + 1)) with
  | none => rfl
  | some q => simp

set_option maxHeartbeats 1000000 in
set_option maxRecDepth 100000 in
theorem open_any (s : ByteArray) (w : World) (hs : s.size ≤ 10000000) (m : Int) (hm : w.cell? ⟨1, 0, none⟩ = some (.int .i64 m)) :
    Calls Tryd.prog 12 #[.string s] w fun e w' => ∃ r, e = .returned (.tuple #[r, errV (openF s)]) ∧ Chg Never w w' ∧ Rdv w' (Old w.heap.size) r (openR s) := by
  by_cases h0 : s = ByteArray.empty
  · subst h0
    have hp : parseBox ByteArray.empty.data.toList = some [] := rfl
    obtain ⟨HR, HF⟩ := open_some hp
    have HR := Lib.hid HR
    have HF := Lib.hid HF
    have t1 : (ByteArray.empty.toList == []) = true := by rw [Lib.toList_data]; rfl
    have t2 : ByteArray.empty.toList.isEmpty = true := by rw [Lib.toList_data]; rfl
    go_enter Tryd.func12, Tryd.ntmps12
    go_wp2_with fail
    go_ret2
    exact ⟨_, by rw [HF.out]; rfl, Chg.refl _ _, by rw [HR.out]; exact rdv_nil _ _⟩
  · obtain ⟨b0, c0, hbc⟩ := str_ne_empty h0
    have t2 : s.toList.isEmpty = false := by rw [Lib.toList_data, hbc]; simp
    have t1 : (s.toList == []) = false := by rw [Lib.toList_data, hbc]; simp
    have hne : s.data.toList ≠ [] := by rw [hbc]; simp
    clear hbc h0
    have hw := Chg.refl Never w
    cases hd : dropPre markW s.data.toList with
    | none =>
      have hp : parseBox s.data.toList = none := by unfold parseBox; rw [if_neg hne, hd]
      obtain ⟨HR, HF⟩ := open_none hp
      have HR := Lib.hid HR
      have HF := Lib.hid HF
      have hpre : Hid (Lib.hasPrefix s.data.toList (toB markW).data.toList = false) := by
        unfold Hid Lib.hasPrefix
        rw [toB_data]
        unfold dropPre at hd
        by_cases q : markW.isPrefixOf s.data.toList = true
        · rw [if_pos q] at hd; cases hd
        · exact Bool.eq_false_iff.2 q
      clear hd hp hne
      go_enter Tryd.func12, Tryd.ntmps12
      go_wp2_with fail
      refine (Tryd.strings_CutPrefix s (toB markW) _).mono ?_
      rintro e w1 ⟨rfl, rfl⟩
      rw [hpre.out]
      go_wp2_with fail
      go_ret2
      exact ⟨_, by rw [HF.out, errV_pos (by decide)]; rfl, hw, by rw [HR.out]; exact rdv_nil _ _⟩
    | some r =>
      have hpre : Hid (Lib.hasPrefix s.data.toList (toB markW).data.toList = true) := by
        unfold Hid Lib.hasPrefix
        rw [toB_data, pre_some hd]
        exact List.isPrefixOf_iff_prefix.2 ⟨r, rfl⟩
      have htr : Hid (Lib.trimPrefix s.data.toList (toB markW).data.toList = r) := by
        rw [Hid, trim_pre, toB_data, hd]; rfl
      have hrs : r.length ≤ 10000000 := by
        have := congrArg List.length (pre_some hd)
        rw [List.length_append, ← Lib.size_eq] at this
        omega
      have hpb : Hid (parseBox s.data.toList = if 16 < (splitAll r.length r).length then none else match dropSuf [10] ((splitAll r.length r).getLastD []) with
          | none => none
          | some y => allM ((splitAll r.length r).dropLast ++ [y])) := by
        unfold Hid parseBox; rw [if_neg hne, hd]; rfl
      obtain ⟨i, z, hiz⟩ := split_nonempty r
      have hsp := boxes_eq (toB r)
      rw [toB_data, toB_size, hiz] at hsp
      have hcount : Lib.countB (toB r) (toB sepW) + 1 = i.length + 1 := by
        have := Lib.splitB_all (toB sepW) (by decide) 0 _ (toB r) rfl
        rw [← this, hsp]; simp
      have hsm : ∀ x ∈ i ++ [z], x.length ≤ 10000000 := fun x hx => by
        have := split_small (s := r) (x := x) (by rw [hiz]; exact hx)
        omega
      have HIZ := Lib.hid hiz
      rw [hiz] at hpb
      rw [List.getLastD_concat, List.dropLast_concat] at hpb
      have HSP := Lib.hid hsp
      have HC := Lib.hid hcount
      clear hiz hsp hcount hd hne
      go_enter Tryd.func12, Tryd.ntmps12
      go_wp2_with fail
      refine (Tryd.strings_CutPrefix s (toB markW) _).mono ?_
      rintro e w1 ⟨rfl, rfl⟩
      rename World => w
      rw [hpre.out, htr.out]
      clear hpre htr
      go_wp2_with fail
      refine (Tryd.strings_Split (toB r) (toB sepW) m _ (by rw [toB_size]; omega) hm (by decide)).mono ?_
      rintro e w2 ⟨rfl, rfl⟩
      rename World => w
      rw [HSP.out, HC.out, List.map_append, List.map_cons, List.map_nil]
      have hA : Chg Never w (w.alloc (.cells (List.map Value.string (List.map toB i ++ [toB z])).toArray 9)) := (Chg.refl Never w).alloc _
      have hblk := heap_alloc_new w (.cells (List.map Value.string (List.map toB i ++ [toB z])).toArray 9)
      generalize w.alloc (.cells (List.map Value.string (List.map toB i ++ [toB z])).toArray 9) = w2 at hA hblk ⊢
      have hB0 : w.heap.size < w2.heap.size := (Array.getElem?_eq_some_iff.1 hblk).1
      have hil : (i.map toB).length = i.length := List.length_map ..
      have hpl : (splitAll r.length r).length ≤ r.length + 1 := cutsK_len r
      have hil2 : i.length ≤ 10000000 := by rw [HIZ.out] at hpl; simp at hpl; omega
      by_cases h16 : 16 < i.length + 1
      · have hp : parseBox s.data.toList = none := by rw [hpb.out, if_pos (by simpa using h16)]
        obtain ⟨HR, HF⟩ := open_none hp
        have HR := Lib.hid HR
        have HF := Lib.hid HF
        have hw := hA
        have t16 : decide ((16 : Int) < (i.length : Int) + 1) = true := decide_eq_true (by omega)
        have t16n : decide (16 < i.length + 1) = true := decide_eq_true h16
        clear hp h16 hpb hblk
        go_wp2_with fail
        go_ret2
        exact ⟨_, by rw [HF.out, errV_pos (by decide)]; rfl, hw, by rw [HR.out]; exact rdv_nil _ _⟩
      · have t16 : decide ((16 : Int) < (i.length : Int) + 1) = false := decide_eq_false (by omega)
        have t16n : decide (16 < i.length + 1) = false := decide_eq_false h16
        have hpb2 : Hid (parseBox s.data.toList = match dropSuf [10] z with
          | none => none
          | some y => allM (i ++ [y])) := by rw [Hid, hpb.out, if_neg (by simpa using h16)]
        have hzs := hsm z (by simp)
        obtain ⟨cL, fL, -⟩ := rdv_last (y := toB z) hblk (by rw [hil]; unfold maxLen; omega) (fun x hx => by
          rcases List.mem_append.1 hx with hx | hx
          · obtain ⟨q, hq, rfl⟩ := List.mem_map.1 hx
            have := hsm q (List.mem_append_left _ hq)
            rw [toB_size]; unfold maxLen; omega
          · rw [List.mem_singleton.1 hx, toB_size]; unfold maxLen; omega) (O := Never) (fun h => h)
        rw [hil] at cL fL
        clear hpb HSP HC
        go_wp2_with fail
        refine (Tryd.strings_CutSuffix (toB z) ⟨#[10]⟩ _ (by rw [toB_size]; omega)).mono ?_
        rintro e w3 ⟨rfl, rfl⟩
        rename World => w2
        rw [toB_data]
        cases hds : dropSuf [10] z with
        | none =>
          have hp : parseBox s.data.toList = none := by rw [hpb2.out, hds]
          obtain ⟨HR, HF⟩ := open_none hp
          have HR := Lib.hid HR
          have HF := Lib.hid HF
          have hsf : Lib.hasSuffix z (⟨#[10]⟩ : ByteArray).data.toList = false := by
            unfold dropSuf at hds
            by_cases q : [10].isSuffixOf z = true
            · rw [if_pos q] at hds; cases hds
            · exact Bool.eq_false_iff.2 q
          rw [hsf]
          have hw := hA
          clear hp hds hpb2 hblk hsf
          go_wp2_with fail
          go_ret2
          exact ⟨_, by rw [HF.out, errV_pos (by decide)]; rfl, hw, by rw [HR.out]; exact rdv_nil _ _⟩
        | some y =>
          have hsf : Lib.hasSuffix z (⟨#[10]⟩ : ByteArray).data.toList = true := by
            rw [suf_some hds]
            exact List.isSuffixOf_iff_suffix.2 ⟨y, rfl⟩
          have htr : Lib.trimSuffix z (⟨#[10]⟩ : ByteArray).data.toList = y := by
            rw [trim_suf]
            show (dropSuf [10] z).getD z = y
            rw [hds]; rfl
          have hpa : Hid (parseBox s.data.toList = allM (i ++ [y])) := by rw [Hid, hpb2.out, hds]
          have hys : y.length ≤ 10000000 := by
            have := congrArg List.length (suf_some hds)
            rw [List.length_append] at this
            omega
          have hsm2 : ∀ x ∈ i ++ [y], x.length ≤ 10000000 := fun x hx => by
            rcases List.mem_append.1 hx with hx | hx
            · exact hsm x (List.mem_append_left _ hx)
            · rw [List.mem_singleton.1 hx]; exact hys
          obtain ⟨-, -, hrd⟩ := rdv_last (y := toB y) hblk (by rw [hil]; unfold maxLen; omega) (fun x hx => by
            rcases List.mem_append.1 hx with hx | hx
            · obtain ⟨q, hq, rfl⟩ := List.mem_map.1 hx
              have := hsm q (List.mem_append_left _ hq)
              rw [toB_size]; unfold maxLen; omega
            · rw [List.mem_singleton.1 hx, toB_size]; unfold maxLen; omega) (O := Old w.heap.size) (Nat.lt_irrefl _)
          rw [hil] at hrd
          rw [hsf, htr]
          clear hsf htr hds hpb2 hsm
          rw [show (⟨y.toArray⟩ : ByteArray) = toB y from rfl]
          have hwS : Chg Never w (w2.setCell ⟨w.heap.size, i.length, none⟩ (.string (toB y))) := hA.setCell (.inl (Nat.le_refl _)) _
          clear hblk
          go_wp2_with fail
          generalize w2.setCell ⟨w.heap.size, i.length, none⟩ (.string (toB y)) = w4 at hrd hwS ⊢
          have hal := hrd
          obtain ⟨n, hn⟩ : ∃ n, i.length + 1 = n := ⟨_, rfl⟩
          have hps : (i ++ [y]).length = n := by simp [hn]
          obtain ⟨ps, hpse⟩ : ∃ ps, i ++ [y] = ps := ⟨_, rfl⟩
          have hmap : i.map toB ++ [toB y] = ps.map toB := by rw [← hpse]; simp
          rw [hpse] at hps hpa hsm2
          rw [hn, hmap] at hrd
          have hpn : n ≤ 16 := by omega
          have hni : ((i.length : Int) + 1) = (n : Int) := by omega
          rw [hn, hni]
          clear hni
          obtain ⟨aP, capP, hsl, -, -, hel⟩ := rdv_slice hrd
          simp only [Value.slice.injEq] at hsl
          obtain ⟨rfl, -, rfl⟩ := hsl
          have hmw := hwS.cellNever hm
          clear hn hmap hpse hal cL fL hys hzs t16 t16n h16 hil hil2 hpl HIZ hB0 hA
          go_loopw [8, 50] (fun o iv wr => ∃ (k : Nat) (L : List Mail), k ≤ n ∧ iv = .int .i64 k ∧ L.length = k ∧ Chg Never w4 wr ∧ Own 24 wr (Old w4.heap.size) o L ∧ Hid (AllInv ps k L)) (fun _ iv _ => n - (intOf iv).toNat)
          case atStart => exact ⟨0, [], Nat.zero_le _, rfl, rfl, Chg.refl _ _, own_nil _ _ _, ainv_start ps⟩
          case round =>
            obtain ⟨k, L, hk, rfl, hLk, hc, hown, hI⟩ := hrel
            rename World => wr
            have hwr := hwS.trans hc
            have hbl := own_block_lt hown
            by_cases hlt : k < n
            · obtain ⟨x, hx⟩ : ∃ x, ps[k]? = some x := ⟨ps[k]'(by omega), by simp [hps, hlt]⟩
              have hxm : (ps.map toB)[k]? = some (toB x) := by rw [List.getElem?_map, hx]; rfl
              obtain ⟨b, off, hq, _, _, c0, _⟩ := elems_str hel hxm
              simp only [Option.some.injEq, Addr.mk.injEq, and_true] at hq
              obtain ⟨rfl, rfl⟩ := hq
              have c0 := hc.cellNever c0
              rw [Nat.zero_add] at c0
              have hxs := hsm2 x (List.mem_of_getElem? hx)
              have b1 : (k : Int) < (n : Int) := by omega
              have t51 : decide ((k : Int) < (n : Int)) = true := decide_eq_true b1
              have t52 : decide (k < n) = true := decide_eq_true hlt
              have HX := Lib.hid hx
              clear hx hxm hel hsm2 hrd hrs hps
              go_wp2_with fail
              refine (Parse_any (toB x) _ (by rw [toB_size]; exact hxs) m (hc.cellNever hmw)).mono ?_
              rintro e w5 ⟨v, rfl, hc5, hr5⟩
              clear c0
              cases hpm : parseM x with
              | none =>
                have hp : parseBox s.data.toList = none := by rw [hpa.out]; exact ainv_bad hI.out HX.out hpm
                obtain ⟨HR, HF⟩ := open_none hp
                have HR := Lib.hid HR
                have HF := Lib.hid HF
                have HPF := parse_none (s := toB x) (by rw [toB_data]; exact hpm)
                rw [HPF, errV_pos (by decide)]
                obtain ⟨va, vc, rfl, -, -, -⟩ := rdv_slice hr5
                have hw := hwr.trans hc5
                clear hp hpm HPF hI hown
                go_wp2_with fail
                go_ret2
                exact ⟨_, by rw [HF.out, errV_pos (by decide)]; rfl, hw.alloc _, by rw [HR.out]; exact rdv_nil _ _⟩
              | some mm =>
                obtain ⟨HPR, HPF⟩ := parse_some (s := toB x) (m := mm) (by rw [toB_data]; exact hpm)
                have HI2 := Lib.hid (ainv_step hI.out HX.out hpm)
                have hmz := mail_sizes hpm
                rw [HPR] at hr5
                rw [HPF, HPR, errV_zero]
                obtain ⟨va, vc, rfl, _, _, _⟩ := rdv_slice hr5
                have hown5 := hown.never hc5
                have hwr5 := hwr.trans hc5
                have hc45 := hc.trans hc5
                clear HPF HPR hpm hI hown
                obtain ⟨gA, g0, g1, g2, g3⟩ := box1_mail w5 24 mm.sender mm.subject mm.ident (.slice va mm.body.length vc) _ rfl
                have hwA := hwr5.trans gA
                have hownA := hown5.never gA
                have hrA := hr5.never gA
                have hcA := hc45.trans gA
                have hlt5 := own_block_lt hown5
                have hsub : ∀ (q : World), ∀ j, j < q.heap.size → (Old w4.heap.size j ∨ u8.ownBlock = some j) → Old wr.heap.size j := fun q j _ hj => by
                  rcases hj with hj | hj
                  · exact Nat.lt_of_lt_of_le hj hc.size
                  · exact hbl j hj
                have hyr : Dat.rd (w5.alloc (.cells #[.string mm.sender, .string mm.subject, .string mm.ident, .slice va mm.body.length vc] 24)) (fun j => Old w4.heap.size j ∨ u8.ownBlock = some j) [.string mm.sender, .string mm.subject, .string mm.ident, .slice va mm.body.length vc] mm :=
                  ⟨_, rfl, hmz.1, hmz.2.1, hmz.2.2, hrA.sub (hsub _)⟩
                have holt : ∀ j, Old w4.heap.size j → j < (w5.alloc (.cells #[.string mm.sender, .string mm.subject, .string mm.ident, .slice va mm.body.length vc] 24)).heap.size := old_lt hcA
                clear hown5 hr5 hwr5 hc45 hlt5 hsub
                have hLl : L.length ≤ 1000000000 := by omega
                have HLK := Lib.hid hLk
                clear hLk
                go_wp2_with (at_builtin; refine wpList_push (by rfl) _ _ 25 (by rfl) elemOk_mail (O := Old w4.heap.size) (l := L) (y := mm) (by rfl) (by rfl) (by simp) hownA hyr holt hLl ?_; intro v' w7 hown7 hc7 _)
                have hc8 := own_step hcA hownA hc7
                clear hc7 hownA hyr holt hwA g0 g1 g2 g3 gA hrA
                go_wp2_with fail
                go_roundw
                case rel => exact ⟨k + 1, L ++ [mm], by omega, by go_num, by rw [List.length_append, HLK.out]; rfl, hc8, hown7, HI2⟩
                case measure => simp [intOf]; omega
            · have hp : parseBox s.data.toList = some L := by rw [hpa.out]; exact ainv_end hI.out (by omega)
              obtain ⟨HR, HF⟩ := open_some hp
              have HR := Lib.hid HR
              have HF := Lib.hid HF
              have hO := hown.rdv
              have t51 : decide ((k : Int) < (n : Int)) = false := decide_eq_false (by omega)
              have t52 : decide (k < n) = false := decide_eq_false hlt
              clear hp hI hLk hel hsm2 hrd hrs hps
              go_wp2_with fail
              go_ret2
              exact ⟨_, by rw [HF.out]; rfl, hwr, by rw [HR.out]; exact hO.sub (fun j _ hj => Nat.lt_of_lt_of_le hj hwS.size)⟩
end Go.Proofs.YtnekhaacapdmfaaDoor
