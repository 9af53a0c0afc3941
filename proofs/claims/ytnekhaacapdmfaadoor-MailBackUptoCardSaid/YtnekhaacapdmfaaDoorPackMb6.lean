/-
  MailBack holds, tied to the program's text: for all arguments of bulk at most 1048576 the law answers true, and its arguments read as before.
-/
import Derived.Test.YtnekhaacapdmfaaDoorPackMb5
import Derived.Deep.Cut
import Derived.Deep.CutRange
import Derived.Test.YtnekhaacapdmfaaDoorPackMb1
import Derived.Test.YtnekhaacapdmfaaDoorPackMb4
namespace Go.Proofs.YtnekhaacapdmfaaDoor
open Go.RowKit
theorem parse_mail_sizes (s : ByteArray) : MailSz (parseR s) := by
  unfold parseR
  cases h : parseM s.data.toList with
  | none => exact ⟨Nat.zero_le _, Nat.zero_le _, Nat.zero_le _⟩
  | some m => exact mail_sizes h
theorem rdv_one_mail {w : World} {g : Nat} {e : TypeId} {m : Mail} {v : Value} (h : w.heap[g]? = some (.cells #[.string m.sender, .string m.subject, .string m.ident, v] e (0, 0))) (hz : MailSz m) (hv : Rdv w Never v m.body) : Rdv w Never (.slice (some ⟨g, 0, none⟩) 1 1) [m] :=
  rdv_lit (cs := [.string m.sender, .string m.subject, .string m.ident, v]) h rfl (by decide) ⟨⟨v, rfl, hz.1, hz.2.1, hz.2.2, hv⟩, trivial⟩
end Go.Proofs.YtnekhaacapdmfaaDoor
namespace Go.Proofs.YtnekhaacapdmfaaDoor
open Go.RowKit

def abcM : Mail := ⟨toB [97], toB [98], toB [99], []⟩
def abcT : List UInt8 := [70, 114, 111, 109, 58, 32, 97, 10, 83, 117, 98, 106, 101, 99, 116, 58, 32, 98, 10, 77, 101, 115, 115, 97, 103, 101, 45, 73, 68, 58, 32, 60, 99, 62, 10, 67, 111, 110, 116, 101, 110, 116, 45, 84, 114, 97, 110, 115, 102, 101, 114, 45, 69, 110, 99, 111, 100, 105, 110, 103, 58, 32, 98, 97, 115, 101, 54, 52, 10, 10]
theorem abc_fault : mailFault abcM = 0 := by decide +kernel
theorem abc_text : mailText abcM = abcT := by decide +kernel
theorem boxF_le {l : List Mail} (h : boxFault l = 0) : l.length ≤ 16 ∧ ∀ x ∈ l, mailFault x = 0 := by
  unfold boxFault at h
  by_cases q : 16 < l.length
  · rw [if_pos q] at h; cases h
  · rw [if_neg q, firstOf_zero] at h
    exact ⟨by omega, h⟩
theorem open_box {l : List Mail} (h : boxFault l = 0) : openR (boxR l) = l ∧ openF (boxR l) = 0 := by
  obtain ⟨h1, h2⟩ := boxF_le h
  have e : boxR l = toB (boxText l) := by unfold boxR; rw [if_pos h]
  exact open_some (by rw [e, toB_data]; exact box_back h1 h2)
theorem box_two {l k : List Mail} (hl : boxFault l = 0) (hk : boxFault k = 0) (h : l.length + k.length ≤ 16) : openR (boxR l ++ boxR k) = l ++ k ∧ openF (boxR l ++ boxR k) = 0 := by
  have e : boxR l ++ boxR k = toB (boxText (l ++ k)) := by
    have e1 : boxR l = toB (boxText l) := by unfold boxR; rw [if_pos hl]
    have e2 : boxR k = toB (boxText k) := by unfold boxR; rw [if_pos hk]
    rw [e1, e2, box_app]
    apply ByteArray.ext
    apply Array.toList_inj.1
    rw [bytes_append, toB_data, toB_data, toB_data]
  rw [e]
  refine open_some (by
    rw [toB_data]
    refine box_back (by rw [List.length_append]; exact h) fun x hx => ?_
    rcases List.mem_append.1 hx with q | q
    · exact (boxF_le hl).2 x q
    · exact (boxF_le hk).2 x q)
theorem boxR_size {l : List Mail} (h : boxFault l = 0) : (boxR l).size ≤ 976160 := by
  obtain ⟨h1, h2⟩ := boxF_le h
  have e : boxR l = toB (boxText l) := by unfold boxR; rw [if_pos h]
  have := boxText_len h2
  rw [e, toB_size]; omega
theorem parse_print_mail {m : Mail} (h : mailFault m = 0) : parseR (printR m) = m ∧ parseF (printR m) = 0 := by
  have e : printR m = toB (mailText m) := by unfold printR; rw [if_pos h]
  exact parse_some (by rw [e, toB_data]; exact mail_back h)
theorem printR_size {m : Mail} (h : mailFault m = 0) : (printR m).size ≤ 60999 := by
  have e : printR m = toB (mailText m) := by unfold printR; rw [if_pos h]
  rw [e, toB_size]; exact mailText_len h
theorem print_parse_mail {s : ByteArray} (h : parseF s = 0) : printR (parseR s) = s ∧ mailFault (parseR s) = 0 := by
  unfold parseF at h
  cases hp : parseM s.data.toList with
  | none => rw [hp] at h; cases h
  | some m =>
    obtain ⟨q1, q2⟩ := mail_some hp
    have e : parseR s = m := by unfold parseR; rw [hp]; rfl
    rw [e]
    refine ⟨?_, q2⟩
    unfold printR
    rw [if_pos q2, q1, toB_of]

def ZB (B : Bool) (s : ByteArray) : Prop := B = true → parseF s = 0
set_option maxHeartbeats 4000000 in
set_option maxRecDepth 100000 in
theorem law_mailBack (m : Mail) (s : ByteArray) (l k : List Mail) (mv vl vk : Value) (w : World) (hm : Rdv w Never mv m.body) (hsz : MailSz m) (hid : m.ident.size ≤ 1000000000) (hs : s.size ≤ 1048576) (hl : Rdv w Never vl l) (_ : ∀ x ∈ l, x.ident.size ≤ 1000000000) (hk : Rdv w Never vk k) (_ : ∀ x ∈ k, x.ident.size ≤ 1000000000)
    (mx : Int) (hmx : w.cell? ⟨1, 0, none⟩ = some (.int .i64 mx)) :
    Calls Tryd.prog 3 #[mailV m mv, .string s, vl, vk] w fun e w' => e = .returned (.bool true) ∧ Chg Never w w' := by
  obtain ⟨va, vc, rfl, v1, v2, -⟩ := rdv_slice hm
  obtain ⟨a, cap, rfl, h1, h2, -⟩ := rdv_slice hl
  obtain ⟨a', cap', rfl, g1, g2, -⟩ := rdv_slice hk
  unfold maxLen at h2 v2 g2
  obtain ⟨hA, b0, b1, b2, b3⟩ := box1_mail w 24 m.sender m.subject m.ident (.slice va m.body.length vc) _ rfl
  go_enter Tryd.func3, Tryd.ntmps3
  go_wp2_with fail
  generalize w.alloc (.cells #[.string m.sender, .string m.subject, .string m.ident, .slice va m.body.length vc] 24) = wA at hA b0 b1 b2 b3 ⊢
  have hc := hA
  have PF : ∀ wx, Calls Tryd.prog 7 #[.agg #[.string ⟨#[97]⟩, .string ⟨#[98]⟩, .string ⟨#[99]⟩, .slice none 0 0]] wx fun e w' => e = .returned (.tuple #[.string (toB abcT), .nilIface]) ∧ Chg Never wx w' := fun wx => by
    have := mail_print_any abcM (.slice none 0 0) wx (rdv_nil _ _) ⟨by decide, by decide, by decide⟩
    have e : printR abcM = toB abcT := by unfold printR; rw [if_pos abc_fault, abc_text]
    rw [abc_fault, errV_zero, e] at this
    exact this
  refine (PF _).mono ?_
  rintro e wq ⟨rfl, hcq⟩
  have hc := hc.trans hcq
  have b0 := hcq.cellNever b0
  have b1 := hcq.cellNever b1
  have b2 := hcq.cellNever b2
  have b3 := hcq.cellNever b3
  have tf : ((toB abcT).toList == [70, 114, 111, 109, 58, 32, 97, 10, 83, 117, 98, 106, 101, 99, 116, 58, 32, 98, 10, 77, 101, 115, 115, 97, 103, 101, 45, 73, 68, 58, 32, 60, 99, 62, 10, 67, 111, 110, 116, 101, 110, 116, 45, 84, 114, 97, 110, 115, 102, 101, 114, 45, 69, 110, 99, 111, 100, 105, 110, 103, 58, 32, 98, 97, 115, 101, 54, 52, 10, 10]) = true := by rw [Lib.toList_data, toB_data]; rfl
  clear hcq hA PF
  go_wp2_with fail
  refine (Parse_any s _ (by omega) mx (hc.cellNever hmx)).mono ?_
  rintro e w4 ⟨r2, rfl, hcq, hr2⟩
  have hc := hc.trans hcq
  have b0 := hcq.cellNever b0
  have b1 := hcq.cellNever b1
  have b2 := hcq.cellNever b2
  have b3 := hcq.cellNever b3
  obtain ⟨x2, y2, rfl, -, -, -⟩ := rdv_slice hr2
  have hRz := parse_mail_sizes s
  obtain ⟨R, hR⟩ : ∃ R, parseR s = R := ⟨_, rfl⟩
  have hpp : Hid (parseF s = 0 → printR R = s ∧ mailFault R = 0) := by rw [← hR]; exact print_parse_mail
  rw [hR] at hr2 hRz ⊢
  clear hR tf hcq
  obtain ⟨gA, k0, k1, k2, k3⟩ := box1_mail w4 24 R.sender R.subject R.ident (.slice x2 R.body.length y2) _ rfl
  have hc := hc.trans gA
  have hr2 := hr2.never gA
  have b0 := gA.cellNever b0
  have b1 := gA.cellNever b1
  have b2 := gA.cellNever b2
  have b3 := gA.cellNever b3
  go_upto_region 5 with fail
  generalize w4.alloc (.cells #[.string R.sender, .string R.subject, .string R.ident, .slice x2 R.body.length y2] 24) = w5 at gA k0 k1 k2 k3 hc hr2 b0 b1 b2 b3 ⊢
  go_cut [12, 35, 37, 39, 40, 41] from 40 to 41 (fun _ _ _ _ _ tb wx => (∃ B : Bool, tb = .bool B ∧ Hid (ZB B s)) ∧ wx = w5)
  case first =>
    by_cases z : parseF s = 0
    · have hz : Hid (ZB true s) := fun _ => z
      rw [z, errV_zero]
      clear z
      go_wp2_with fail
      go_meet
      exact ⟨⟨true, rfl, hz⟩, rfl⟩
    · have hz : Hid (ZB false s) := fun q => by cases q
      rw [errV_pos z]
      clear z
      go_wp2_with fail
      go_meet
      exact ⟨⟨false, rfl, hz⟩, rfl⟩
  case rest =>
  obtain ⟨⟨Bz, rfl, hz⟩, rfl⟩ := hcut
  rename World => w5
  go_upto_if 41 with fail
  go_cut [12] from 41 (fun _ wx => Hid (Chg Never w5 wx))
  case first =>
    cases Bz with
    | true =>
      obtain ⟨hp1, hp2⟩ := hpp.out (hz.out rfl)
      have HP1 := Lib.hid hp1
      have HP2 := Lib.hid hp2
      clear hz hp1 hp2 b0 b1 b2 b3
      go_wp2_with fail
      refine (mail_print_any R _ _ (hr2.sub (fun _ _ h => h.elim)) hRz).mono ?_
      rintro e wz ⟨rfl, hcq⟩
      rw [HP1.out, HP2.out, errV_zero]
      have tss : (s.toList != s.toList) = false := by simp
      have hcw := Lib.hid hcq
      clear hcq
      go_wp2_with fail
      go_meet
      exact hcw
    | false =>
      clear hz b0 b1 b2 b3
      have hcw := Lib.hid (Chg.refl Never w5)
      go_wp2_with fail
      go_meet
      exact hcw
  case rest =>
    have b0 := hcut.out.cellNever b0
    have b1 := hcut.out.cellNever b1
    have b2 := hcut.out.cellNever b2
    have b3 := hcut.out.cellNever b3
    have hc := hc.trans hcut.out
    clear hcut gA k0 k1 k2 k3 hr2 hRz hpp
    go_wp2_with fail
    refine (mail_print_any m _ _ (hm.never hc) hsz).mono ?_
    rintro e wq ⟨rfl, hcq⟩
    have hc := hc.trans hcq
    have b0 := hcq.cellNever b0
    have b1 := hcq.cellNever b1
    have b2 := hcq.cellNever b2
    have b3 := hcq.cellNever b3
    clear hcq
    by_cases z : mailFault m = 0
    · have hps := printR_size z
      obtain ⟨hp1, hp2⟩ := parse_print_mail z
      have HP1 := Lib.hid hp1
      have HP2 := Lib.hid hp2
      rw [z, errV_zero]
      clear z hp1 hp2
      go_wp2_with fail
      refine (Parse_any (printR m) _ (by omega) mx (hc.cellNever hmx)).mono ?_
      rintro e w4 ⟨r2, rfl, hcq, hr2⟩
      rw [HP1.out] at hr2
      rw [HP1.out, HP2.out, errV_zero]
      have hc := hc.trans hcq
      have b0 := hcq.cellNever b0
      have b1 := hcq.cellNever b1
      have b2 := hcq.cellNever b2
      have b3 := hcq.cellNever b3
      obtain ⟨x2, y2, rfl, -, -, -⟩ := rdv_slice hr2
      obtain ⟨gA, k0, k1, k2, k3⟩ := box1_mail w4 24 m.sender m.subject m.ident (.slice x2 m.body.length y2) _ rfl
      have hc := hc.trans gA
      have hr2 := hr2.never gA
      have b0 := gA.cellNever b0
      have b1 := gA.cellNever b1
      have b2 := gA.cellNever b2
      have b3 := gA.cellNever b3
      clear hcq HP1 HP2 hps
      have n1 := heap_alloc_new (w4.alloc (.cells #[.string m.sender, .string m.subject, .string m.ident, .slice x2 m.body.length y2] 24)) (.cells #[.string m.sender, .string m.subject, .string m.ident, .slice x2 m.body.length y2] 24)
      go_upto_region 14 with fail
      generalize w4.alloc (.cells #[.string m.sender, .string m.subject, .string m.ident, .slice x2 m.body.length y2] 24) = w6 at gA k0 k1 k2 k3 hc hr2 b0 b1 b2 b3 n1 ⊢
      have q1 : Chg Never w6 (w6.alloc (.cells #[.string m.sender, .string m.subject, .string m.ident, .slice x2 m.body.length y2] 24)) := (Chg.refl Never w6).alloc _
      have n2 := heap_alloc_new (w6.alloc (.cells #[.string m.sender, .string m.subject, .string m.ident, .slice x2 m.body.length y2] 24)) (.cells #[.string m.sender, .string m.subject, .string m.ident, .slice va m.body.length vc] 24)
      have q2 := (Chg.refl Never (w6.alloc (.cells #[.string m.sender, .string m.subject, .string m.ident, .slice x2 m.body.length y2] 24))).alloc (.cells #[.string m.sender, .string m.subject, .string m.ident, .slice va m.body.length vc] 24)
      rw [World.size_alloc] at n2
      have l1 := (rdv_one_mail n1 hsz ((hr2.never q1).sub (fun _ _ h => h.elim))).never q2
      have l2 := rdv_one_mail n2 hsz (((hm.never hc).never q1).never q2)
      have hc7 := (hc.trans q1).trans q2
      have b0 := q1.cellNever b0
      have b1 := q1.cellNever b1
      have b2 := q1.cellNever b2
      have b3 := q1.cellNever b3
      clear n1 n2 q1 q2
      go_wp2_with fail
      (with_reducible refine (mails_same [m] _ _ _ l1 l2).mono ?_)
      rintro e' w8 ⟨rfl, hcq⟩
      have hc := hc7.trans hcq
      clear hcq hc7 k0 k1 k2 k3 l1 l2 hr2 gA b0 b1 b2 b3 hm
      go_wp2_with fail
      refine (box_any l _ _ (hl.never hc)).mono ?_
      rintro e' w9 ⟨rfl, hcq⟩
      have hc := hc.trans hcq
      clear hcq
      by_cases zl : boxFault l = 0
      · have hbs := boxR_size zl
        obtain ⟨o1, o2⟩ := open_box zl
        have O1 := Lib.hid o1
        have O2 := Lib.hid o2
        have ZL := Lib.hid zl
        rw [zl, errV_zero]
        clear zl o1 o2
        go_wp2_with fail
        refine (open_any (boxR l) _ (by omega) mx (hc.cellNever hmx)).mono ?_
        rintro e' w10 ⟨r5, rfl, hcq, hr5⟩
        rw [O1.out] at hr5
        rw [O2.out, errV_zero]
        have hc := hc.trans hcq
        clear hcq O1 O2
        go_wp2_with fail
        refine (mails_same l _ _ _ (hr5.sub (fun _ _ h => h.elim)) (hl.never hc)).mono ?_
        rintro e' w11 ⟨rfl, hcq⟩
        have hc := hc.trans hcq
        clear hcq hr5
        go_wp2_with fail
        refine (box_any k _ _ (hk.never hc)).mono ?_
        rintro e' w12 ⟨rfl, hcq⟩
        have hc := hc.trans hcq
        clear hcq
        by_cases zk : boxFault k = 0
        · have hbk := boxR_size zk
          have ZK := Lib.hid zk
          rw [zk, errV_zero]
          clear zk
          have hl16 := (boxF_le ZL.out).1
          have hk16 := (boxF_le ZK.out).1
          by_cases h16 : 16 < l.length + k.length
          · have t16 : decide ((16 : Int) < (l.length : Int) + (k.length : Int)) = true := decide_eq_true (by omega)
            have t16n : decide (16 < l.length + k.length) = true := decide_eq_true h16
            go_wp2_with fail
            go_ret
            exact ⟨rfl, hc⟩
          · have t16n : decide (16 < l.length + k.length) = false := decide_eq_false h16
            have t16i : (l.length : Int) + (k.length : Int) ≤ 16 := by omega
            have t16 : decide ((16 : Int) < (l.length : Int) + (k.length : Int)) = false := decide_eq_false (by omega)
            obtain ⟨o1, o2⟩ := box_two ZL.out ZK.out (by omega)
            have O1 := Lib.hid o1
            have O2 := Lib.hid o2
            clear o1 o2
            go_wp2_with fail
            refine (open_any (boxR l ++ boxR k) _ (by rw [ByteArray.size_append]; omega) mx (hc.cellNever hmx)).mono ?_
            rintro e' w13 ⟨r6, rfl, hcq, hr6⟩
            rw [O1.out] at hr6
            rw [O2.out, errV_zero]
            have hc := hc.trans hcq
            clear hcq O1 O2
            have hlB := hl.never hc
            have hkB := hk.never hc
            have hd0 : OwnN 24 w13 w13 (.slice none 0 0) ([] : List Mail) := ownN_nil _ (Chg.refl _ _)
            have hl1 : ([] : List Mail).length + l.length ≤ 1000000000 := by show 0 + _ ≤ _; omega
            have hl2 : ([] ++ l : List Mail).length + k.length ≤ 1000000000 := by rw [List.length_append]; show 0 + _ + _ ≤ _; omega
            go_wp2_with (at_builtin; first | (refine wpList_many2 (by rfl) _ _ 25 (by rfl) elemOk_mail (O := Never) (l := []) (m := l) (by rfl) (by rfl) hd0.own (hd0.away hlB) (fun _ h => h.elim) hl1 ?_; intro v1 wC hown1 hcC hkC; have hd1 := hd0.step hown1 hcC hkC; clear hown1 hcC hkC hd0) | (refine wpList_many2 (by rfl) _ _ 25 (by rfl) elemOk_mail (O := Never) (l := [] ++ l) (m := k) (by rfl) (by rfl) hd1.own (hd1.away hkB) (fun _ h => h.elim) hl2 ?_; intro v2 wD hown2 hcD hkD; have hd2 := hd1.step hown2 hcD hkD; clear hown2 hcD hkD hd1))
            have hrd : Rdv wD Never v2 (l ++ k) := hd2.own.rdv
            have hcD := hc.trans hd2.chg
            have hr6 := hr6.never hd2.chg
            clear hd2 hlB hkB
            try go_wp2_with fail
            refine (mails_same (l ++ k) _ _ _ (hr6.sub (fun _ _ h => h.elim)) hrd).mono ?_
            rintro e' w14 ⟨rfl, hcq⟩
            have hc := hcD.trans hcq
            clear hcq hrd hr6 hcD
            go_wp2_with fail
            go_ret
            exact ⟨rfl, hc⟩
        · rw [errV_pos zk]
          clear zk
          go_wp2_with fail
          go_ret
          exact ⟨rfl, hc⟩
      · rw [errV_pos zl]
        clear zl
        go_wp2_with fail
        go_ret
        exact ⟨rfl, hc⟩
    · have HZ := Lib.hid z
      rw [errV_pos z]
      have tz : (mailFault m == 0) = false := by simpa using z
      clear z
      go_wp2_with fail
      refine (refMailFault_any m _ _ (hm.never hc) hsz hid).mono ?_
      rintro e w8 ⟨rfl, hcq⟩
      have hc := hc.trans hcq
      clear hcq b0 b1 b2 b3 hm
      go_wp2_with fail
      refine (box_any l _ _ (hl.never hc)).mono ?_
      rintro e' w9 ⟨rfl, hcq⟩
      have hc := hc.trans hcq
      clear hcq
      by_cases zl : boxFault l = 0
      · have hbs := boxR_size zl
        obtain ⟨o1, o2⟩ := open_box zl
        have O1 := Lib.hid o1
        have O2 := Lib.hid o2
        have ZL := Lib.hid zl
        rw [zl, errV_zero]
        clear zl o1 o2
        go_wp2_with fail
        refine (open_any (boxR l) _ (by omega) mx (hc.cellNever hmx)).mono ?_
        rintro e' w10 ⟨r5, rfl, hcq, hr5⟩
        rw [O1.out] at hr5
        rw [O2.out, errV_zero]
        have hc := hc.trans hcq
        clear hcq O1 O2
        go_wp2_with fail
        refine (mails_same l _ _ _ (hr5.sub (fun _ _ h => h.elim)) (hl.never hc)).mono ?_
        rintro e' w11 ⟨rfl, hcq⟩
        have hc := hc.trans hcq
        clear hcq hr5
        go_wp2_with fail
        refine (box_any k _ _ (hk.never hc)).mono ?_
        rintro e' w12 ⟨rfl, hcq⟩
        have hc := hc.trans hcq
        clear hcq
        by_cases zk : boxFault k = 0
        · have hbk := boxR_size zk
          have ZK := Lib.hid zk
          rw [zk, errV_zero]
          clear zk
          have hl16 := (boxF_le ZL.out).1
          have hk16 := (boxF_le ZK.out).1
          by_cases h16 : 16 < l.length + k.length
          · have t16 : decide ((16 : Int) < (l.length : Int) + (k.length : Int)) = true := decide_eq_true (by omega)
            have t16n : decide (16 < l.length + k.length) = true := decide_eq_true h16
            go_wp2_with fail
            go_ret
            exact ⟨rfl, hc⟩
          · have t16n : decide (16 < l.length + k.length) = false := decide_eq_false h16
            have t16i : (l.length : Int) + (k.length : Int) ≤ 16 := by omega
            have t16 : decide ((16 : Int) < (l.length : Int) + (k.length : Int)) = false := decide_eq_false (by omega)
            obtain ⟨o1, o2⟩ := box_two ZL.out ZK.out (by omega)
            have O1 := Lib.hid o1
            have O2 := Lib.hid o2
            clear o1 o2
            go_wp2_with fail
            refine (open_any (boxR l ++ boxR k) _ (by rw [ByteArray.size_append]; omega) mx (hc.cellNever hmx)).mono ?_
            rintro e' w13 ⟨r6, rfl, hcq, hr6⟩
            rw [O1.out] at hr6
            rw [O2.out, errV_zero]
            have hc := hc.trans hcq
            clear hcq O1 O2
            have hlB := hl.never hc
            have hkB := hk.never hc
            have hd0 : OwnN 24 w13 w13 (.slice none 0 0) ([] : List Mail) := ownN_nil _ (Chg.refl _ _)
            have hl1 : ([] : List Mail).length + l.length ≤ 1000000000 := by show 0 + _ ≤ _; omega
            have hl2 : ([] ++ l : List Mail).length + k.length ≤ 1000000000 := by rw [List.length_append]; show 0 + _ + _ ≤ _; omega
            go_wp2_with (at_builtin; first | (refine wpList_many2 (by rfl) _ _ 25 (by rfl) elemOk_mail (O := Never) (l := []) (m := l) (by rfl) (by rfl) hd0.own (hd0.away hlB) (fun _ h => h.elim) hl1 ?_; intro v1 wC hown1 hcC hkC; have hd1 := hd0.step hown1 hcC hkC; clear hown1 hcC hkC hd0) | (refine wpList_many2 (by rfl) _ _ 25 (by rfl) elemOk_mail (O := Never) (l := [] ++ l) (m := k) (by rfl) (by rfl) hd1.own (hd1.away hkB) (fun _ h => h.elim) hl2 ?_; intro v2 wD hown2 hcD hkD; have hd2 := hd1.step hown2 hcD hkD; clear hown2 hcD hkD hd1))
            have hrd : Rdv wD Never v2 (l ++ k) := hd2.own.rdv
            have hcD := hc.trans hd2.chg
            have hr6 := hr6.never hd2.chg
            clear hd2 hlB hkB
            try go_wp2_with fail
            refine (mails_same (l ++ k) _ _ _ (hr6.sub (fun _ _ h => h.elim)) hrd).mono ?_
            rintro e' w14 ⟨rfl, hcq⟩
            have hc := hcD.trans hcq
            clear hcq hrd hr6 hcD
            go_wp2_with fail
            go_ret
            exact ⟨rfl, hc⟩
        · rw [errV_pos zk]
          clear zk
          go_wp2_with fail
          go_ret
          exact ⟨rfl, hc⟩
      · rw [errV_pos zl]
        clear zl
        go_wp2_with fail
        go_ret
        exact ⟨rfl, hc⟩
end Go.Proofs.YtnekhaacapdmfaaDoor
namespace Go.Proofs.YtnekhaacapdmfaaDoor.lawMailBack
open Go.ChangeShapes Go.WideShapes Go.ChangeAt Go.RowKit

set_option maxRecDepth 100000 in
theorem contract (H : Type) (enc : TypeId × Value → H) (W : World) (base : Nat) (args : Array Value) (ds gs : List (DataW H)) (before : List MemPlace)
    (hval : ∀ (j : Nat) t v, Tryd.f3.params[j]? = some t → args[j]? = some v → Value.okWide Tryd.prog W .any base t v)
    (hW : DataW.Whole enc Tryd.prog Tryd.f3.params.toList Rows.mailBackSpec.vars false W args.toList ds gs before) (hk : Rows.uptoSmall H (ds ++ gs) = true) (hL : laidMetH Tryd.prog Rows.mailBackUptoRow.laid W) (hS : W.ShapedOpen Tryd.prog) :
    Calls Tryd.prog 3 args W fun e W' => ∃ v, e = .returned v ∧ Rows.mailBackSpec.post enc Tryd.prog Tryd.f3 false true false false W args v W' := by
  skip
  obtain ⟨m, hm⟩ := maxlen_of hS
  have hW' := hW
  obtain ⟨p, q, hA0, hV, rfl, hfz, hnd⟩ := hW
  have hA : DataW.TrodAll enc Tryd.prog W 0 (fun _ => true) true Tryd.f3.params.toList args.toList ds p := hA0
  rw [Tryd.params3] at hA hval
  obtain ⟨v0, vs0, d0, ds0, p0, q0, hargs, rfl, rfl, h0, r0⟩ := trodAll_cons hA
  obtain ⟨v1, vs1, d1, ds1, p1, q1, rfl, rfl, rfl, h1, r1⟩ := trodAll_cons r0
  obtain ⟨v2, vs2, d2, ds2, p2, q2, rfl, rfl, rfl, h2, r2⟩ := trodAll_cons r1
  obtain ⟨v3, vs3, d3, ds3, p3, q3, rfl, rfl, rfl, h3, r3⟩ := trodAll_cons r2
  obtain ⟨rfl, rfl, rfl⟩ := trodAll_nil r3
  obtain rfl : args = #[v0, v1, v2, v3] := by cases args; simp_all
  obtain ⟨a2, len2, cap2, rfl⟩ := okWide_slice Tryd.underlying25 (hval 2 25 v2 rfl rfl)
  obtain ⟨a3, len3, cap3, rfl⟩ := okWide_slice Tryd.underlying25 (hval 3 25 v3 rfl rfl)
  obtain ⟨x0, cs0, rfl, hx0, hb0⟩ := open_agg Tryd.underlying24 opens_amail (hval 0 24 v0 rfl rfl) h0
  obtain ⟨fv0, rfl, ha0, hc0, hd0, hv0⟩ := hx0
  have hz0 : MailSz x0 := ⟨ha0, hc0, hd0⟩
  obtain ⟨x1, rfl, rfl, rfl, wx1⟩ := Go.ChangeMaps.open_string Tryd.underlying9 (hval 1 9 v1 rfl rfl) h1
  obtain ⟨u2, k2⟩ := h2
  obtain ⟨x2, hx2, hb2⟩ := opens_mails _ _ _ _ _ _ _ _ _ _ k2
  obtain ⟨u3, k3⟩ := h3
  obtain ⟨x3, hx3, hb3⟩ := opens_mails _ _ _ _ _ _ _ _ _ _ k3
  have hbk := small_of hk
  simp only [List.cons_append, List.nil_append, Rows.uptoBulkAll, Rows.uptoBulk, Array.length_toList] at hbk
  have hi0 : x0.ident.size ≤ 1000000000 := by have := mail_bulk x0; omega
  have hx1 : x1.size ≤ 1048576 := by show x1.data.size ≤ _; omega
  have hi2 : ∀ y ∈ x2, y.ident.size ≤ 1000000000 := fun y hy => by have := mails_bulk x2 y hy; omega
  have hi3 : ∀ y ∈ x3, y.ident.size ≤ 1000000000 := fun y hy => by have := mails_bulk x3 y hy; omega
  refine (law_mailBack x0 x1 x2 x3 _ _ _ W hv0 hz0 hi0 hx1 hx2 hi2 hx3 hi3 m hm).mono fun e W' he => ?_
  obtain ⟨he, hc⟩ := he
  subst he
  exact ⟨_, rfl, post_law hW' rfl rfl Tryd.underlying4 rfl laidOut (by decide +kernel) hc⟩

theorem reads (os : Os) {H : Type} (enc : TypeId × Value → H) : ∃ places, DataW.whole enc Tryd.prog ((laidWorldT os).forCall (fun _ _ => 0) ⟨#[], #[.agg #[.string ⟨#[]⟩, .string ⟨#[]⟩, .string ⟨#[]⟩, .slice none 0 0], .string ⟨#[]⟩, .slice none 0 0, .slice none 0 0], []⟩).memory Tryd.f3.params.toList Rows.mailBackSpec.vars false (#[.agg #[.string ⟨#[]⟩, .string ⟨#[]⟩, .string ⟨#[]⟩, .slice none 0 0], .string ⟨#[]⟩, .slice none 0 0, .slice none 0 0] : Array Value).toList 8 = some ([.agg [.lit (.string []), .lit (.string []), .lit (.string []), .nil], .lit (.string []), .nil, .nil], [], places) :=
  ⟨[], by kernel_rfl⟩
set_option maxRecDepth 100000 in
theorem liftedUpto (os : Os) (started : os.Started) (H : Type) (enc : TypeId × Value → H) (F : Stop.Interp) :
    ReturnsInHanded {} Tryd.checked os 3 .any ((Rows.OpenSpec.upto Rows.mailBackSpec).preRow enc Tryd.prog Tryd.f3 Rows.mailBackUptoRow.domain false Rows.mailBackUptoRow.laid) (((Rows.OpenSpec.upto Rows.mailBackSpec).at F).post enc Tryd.prog Tryd.f3 false true false false) := by
  obtain ⟨places, hx⟩ := reads os enc
  refine returnsInHanded_of_row (C := Tryd.checked) (s := Rows.OpenSpec.upto Rows.mailBackSpec) own started (by kernel_rfl) Tryd.func3
    (witness_row_at (enc := enc) (C := Tryd.checked) false (laidWorldT os) #[.agg #[.string ⟨#[]⟩, .string ⟨#[]⟩, .string ⟨#[]⟩, .slice none 0 0], .string ⟨#[]⟩, .slice none 0 0, .slice none 0 0] rfl (by kernel_rfl) (by kernel_rfl) (by kernel_rfl)
      (OpenSpec.preRow_of_cond 8 hx (by kernel_rfl) (fun k hk => by cases hk; kernel_rfl) (by kernel_rfl) (laidWorldT_met os _))) ?_
  intro W base args ds gs before hval hW _ hcond _ hL hS _
  exact contract H enc W base args ds gs before hval hW (hcond _ rfl) hL hS

theorem saidUpto : Rows.MailBackUptoSaid :=
  OpenClaim.holds_of_cond 3 Tryd.f3 rfl rfl rfl rfl rfl rfl rfl ⟨rfl, rfl, rfl, rfl, rfl⟩ rfl rfl rfl rfl rfl (by kernel_rfl) Tryd.func3 (by kernel_rfl)
    (of_decide_eq_true (by kernel_rfl)) (by unfold Func.isWrapper; first | (rw [if_pos (by decide +kernel)]; kernel_rfl) | (rw [if_neg (by decide +kernel)]; exact ⟨rfl, rfl⟩))
    (fun os started H enc _ F => by rw [OpenClaim.pre_eq_preRow]; exact liftedUpto os started H enc F)

theorem plain (f : FuncId) (fn : Func) (hf : Tryd.pinned.checked.prog.funcNamed "handstitch/handstitchlaw3.MailBack" = some f) (hfn : Tryd.pinned.checked.prog.funcs[f]? = some fn) :
    true = Tryd.pinned.checked.prog.looks [] ∧ ∀ (j : Nat) t, fn.params[j]? = some t → Tryd.pinned.checked.prog.wantsStandIn t = false := by
  obtain rfl : f = 3 := Option.some.inj ((show Tryd.prog.funcNamed "handstitch/handstitchlaw3.MailBack" = some 3 by kernel_rfl).symm.trans hf) |>.symm
  obtain rfl : fn = Tryd.f3 := (Option.some.inj (Tryd.func3.symm.trans hfn)).symm
  refine ⟨by kernel_rfl, fun j t ht => ?_⟩
  rw [Tryd.params3] at ht
  have hm := Array.mem_of_getElem? ht
  simp only [List.mem_toArray, List.mem_cons, List.not_mem_nil, or_false] at hm
  clear ht
  repeat' (first | (rcases hm with rfl | hm) | subst hm)
  all_goals exact (show Tryd.prog.wantsStandIn _ = false by kernel_rfl)

theorem cardUpto : Rows.MailBackUptoCardSaid :=
  Claim7.holds_tied_plain_at .later [] _ _ _ _ saidUpto (fun _ h => by cases h) (by kernel_rfl) (fun _ h => by cases h) mailBackUpto_row_tie rfl ⟨rfl, rfl⟩ (by kernel_rfl) rfl plain (by kernel_rfl)
end Go.Proofs.YtnekhaacapdmfaaDoor.lawMailBack
