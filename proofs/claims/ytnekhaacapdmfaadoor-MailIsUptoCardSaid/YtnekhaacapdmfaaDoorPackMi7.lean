/-
  MailIs holds, tied to the program's text: for all arguments of bulk at most 1048576 the law answers true, and its arguments read as before.
-/
import Derived.Test.YtnekhaacapdmfaaDoorPackMi6
import Derived.Test.YtnekhaacapdmfaaDoorPackMi2
import Derived.Deep.QuietTactic
import Derived.BigQuiet
import Derived.Test.YtnekhaacapdmfaaDoorPackMi1
import Derived.Deep.Cut
import Derived.Deep.CutRange
import Derived.Test.YtnekhaacapdmfaaDoorPackMi4
namespace Go.Proofs.YtnekhaacapdmfaaDoor
open Go.RowKit

theorem pos_of_index {t s : List UInt8} (ht : t ≠ []) : (cutSub t s = none ∧ Lib.index s t = -1) ∨ ∃ a b, cutSub t s = some (a, b) ∧ Lib.index s t = (a.length : Int) ∧ s = a ++ t ++ b := by
  have h := cut_index ht s
  cases hc : cutSub t s with
  | none => rw [hc] at h; exact .inl ⟨rfl, h⟩
  | some p =>
    rw [hc] at h
    exact .inr ⟨p.1, p.2, rfl, h.1, cut_some hc⟩
/-- the box that is still to be read -/
def BoxInv (s0 : ByteArray) (s : List UInt8) (L : List Mail) : Prop := ∃ k, s.length ≤ k ∧ boxGo k s L = parseBox s0.data.toList
theorem binv_start (s : ByteArray) : BoxInv s s.data.toList [] := ⟨_, by omega, box_same _⟩
theorem binv_end {s0 : ByteArray} {L : List Mail} (h : BoxInv s0 [] L) : parseBox s0.data.toList = some L := by
  obtain ⟨k, _, h⟩ := h
  rw [← h]
  cases k <;> rfl
theorem binv_done {s0 : ByteArray} {L : List Mail} {X : ByteArray} (h : parseBox s0.data.toList = some L) (hX : X.size = 0) : BoxInv s0 X.data.toList L := by
  have e : X.data.toList = [] := List.eq_nil_of_length_eq_zero (by rw [← Lib.size_eq]; exact hX)
  rw [e]
  exact ⟨0, Nat.le_refl _, by rw [h]; rfl⟩
theorem binv_next {s0 : ByteArray} {L : List Mail} {X : ByteArray} {x : List UInt8} {k : Nat} (h : parseBox s0.data.toList = boxGo k x L) (hX : X.data.toList = x) (hk : x.length ≤ k) : BoxInv s0 X.data.toList L := by
  rw [hX]
  exact ⟨k, hk, h.symm⟩
theorem binv_mark {s0 : ByteArray} {s : List UInt8} {L : List Mail} (h : BoxInv s0 s L) (hs : s ≠ []) (hd : dropPre markW s = none) : parseBox s0.data.toList = none := by
  obtain ⟨k, hk, h⟩ := h
  obtain ⟨c, t, rfl⟩ := List.exists_cons_of_ne_nil hs
  obtain ⟨k, rfl⟩ : ∃ j, k = j + 1 := ⟨k - 1, by simp at hk; omega⟩
  rw [← h, boxGo, hd]
theorem binv_rest {s0 : ByteArray} {s r : List UInt8} {L : List Mail} (h : BoxInv s0 s L) (hd : dropPre markW s = some r) : ∃ k, r.length + 7 ≤ k ∧ parseBox s0.data.toList = if 16 ≤ L.length then none else match cutSub sepW r with
      | some p => match parseM p.1 with
        | none => none
        | some m => boxGo k (markW ++ p.2) (L ++ [m])
      | none => match dropSuf [10] r with
        | none => none
        | some y => match parseM y with
          | none => none
          | some m => some (L ++ [m]) := by
  obtain ⟨k, hk, h⟩ := h
  have e := pre_some hd
  subst e
  rw [List.length_append, show markW.length = 8 from rfl] at hk
  obtain ⟨k, rfl⟩ : ∃ j, k = j + 1 := ⟨k - 1, by omega⟩
  exact ⟨k, by omega, by rw [← h, boxGo_step]; rfl⟩

theorem suffix_not' {b : List UInt8} {c : UInt8} (h : c ≠ 10) : [10].isSuffixOf (b ++ [c]) = false := suffix_not h
theorem last_byte {R : ByteArray} {q : Nat} (h : q < R.size) (hq : R.size = q + 1) : R.data.toList = R.data.toList.take q ++ [R[q]'h] := by
  have h1 : R.data.toList.length = q + 1 := by rw [← Lib.size_eq]; exact hq
  have h2 := byte_at h
  conv => lhs; rw [← List.take_append_drop q R.data.toList, drop_eq h2, List.drop_of_length_le (by omega)]
theorem sep_byte {R : ByteArray} {a b : List UInt8} (e : R.data.toList = a ++ sepW ++ b) (h : a.length < R.size) : (((R[a.length]'h).toNat : Int) != 10) = false := by
  have h2 := byte_at h
  rw [e, List.append_assoc, List.getElem?_append_right (Nat.le_refl _), Nat.sub_self] at h2
  have : R[a.length]'h = 10 := by
    injection h2 with h2
    exact h2.symm
  rw [this]; rfl
set_option maxHeartbeats 1000000 in
set_option maxRecDepth 100000 in
theorem refBoxOf_any (s : ByteArray) (w : World) (hs : s.size ≤ 10000000) :
    Calls Tryd.prog 19 #[.string s] w fun e w' => ∃ r, e = .returned (.tuple #[r, .int .i64 (openF s)]) ∧ Chg Never w w' ∧ Rdv w' (Old w.heap.size) r (openR s) := by
  go_enter Tryd.func19, Tryd.ntmps19
  go_wp2_with fail
  go_loopw [0, 4] (fun sv o wr => ∃ (S : ByteArray) (L : List Mail), sv = .string S ∧ S.size ≤ 10000000 ∧ L.length ≤ 16 ∧ Chg Never w wr ∧ Own 24 wr (Old w.heap.size) o L ∧ Hid (BoxInv s S.data.toList L)) (fun sv _ _ => strLen sv)
  case atStart => exact ⟨s, [], rfl, hs, by simp, Chg.refl _ _, own_nil _ _ _, binv_start s⟩
  case round =>
    obtain ⟨S, L, rfl, hS, hL, hc, hown, hI⟩ := hrel
    rename World => wr
    have hbl := own_block_lt hown
    by_cases h0 : S.size = 0
    · have hnil : S.data.toList = [] := List.eq_nil_of_length_eq_zero (by rw [← Lib.size_eq]; exact h0)
      have hp : parseBox s.data.toList = some L := binv_end (by rw [← hnil]; exact hI.out)
      obtain ⟨HR, HF⟩ := open_some hp
      have HR := Lib.hid HR
      have HF := Lib.hid HF
      have hO := hown.rdv
      clear hnil hp hI hbl
      go_wp2_with fail
      go_ret2
      exact ⟨_, by rw [HF.out]; rfl, hc, by rw [HR.out]; exact hO⟩
    · have hne : S.data.toList ≠ [] := fun e => h0 (by rw [Lib.size_eq, e]; rfl)
      have t0 : decide ((0 : Int) < (S.size : Int)) = true := decide_eq_true (by omega)
      have t0n : decide (0 < S.size) = true := decide_eq_true (by omega)
      cases hd : dropPre markW S.data.toList with
      | none =>
        have hp := binv_mark hI.out hne hd
        obtain ⟨HR, HF⟩ := open_none hp
        have FS : ∀ wx, Calls Tryd.prog 40 #[.string S, .string ⟨#[70, 114, 111, 109, 32, 45, 32, 10]⟩] wx fun e w' => e = .returned (.bool false) ∧ w' = wx := fun wx => by
          have := starts_any S (toB markW) wx (by omega) (by decide)
          rw [toB_data] at this
          unfold dropPre at hd
          by_cases q : markW.isPrefixOf S.data.toList = true
          · rw [if_pos q] at hd; cases hd
          · rw [Bool.eq_false_iff.2 q] at this; exact this
        have HR := Lib.hid HR
        have HF := Lib.hid HF
        clear hp hI hown hbl hd hne h0
        go_wp2_with fail
        refine (FS _).mono ?_
        rintro e w2 ⟨rfl, rfl⟩
        clear FS
        go_wp2_with fail
        go_ret2
        exact ⟨_, by rw [HF.out]; rfl, hc, by rw [HR.out]; exact rdv_nil _ _⟩
      | some r =>
        obtain ⟨F, hF1, hF2⟩ := binv_rest hI.out hd
        have hSr := pre_some hd
        have hSl : Hid (S.size = 8 + r.length) := by rw [Hid]; rw [Lib.size_eq, hSr, List.length_append]; rfl
        have FS : ∀ wx, Calls Tryd.prog 40 #[.string S, .string ⟨#[70, 114, 111, 109, 32, 45, 32, 10]⟩] wx fun e w' => e = .returned (.bool true) ∧ w' = wx := fun wx => by
          have := starts_any S (toB markW) wx (by omega) (by decide)
          rw [toB_data, hSr, List.isPrefixOf_iff_prefix.2 ⟨r, rfl⟩] at this
          exact this
        by_cases h16 : 16 ≤ L.length
        · have hp : parseBox s.data.toList = none := by rw [hF2, if_pos h16]
          obtain ⟨HR, HF⟩ := open_none hp
          have HR := Lib.hid HR
          have HF := Lib.hid HF
          have hv := hown.rdv
          obtain ⟨oa, oc, rfl, -, -, -⟩ := rdv_slice hv
          have t16 : decide ((16 : Int) ≤ (L.length : Int)) = true := decide_eq_true (by omega)
          have t16n : decide (16 ≤ L.length) = true := decide_eq_true h16
          clear hp hI hown hbl hd hne h0 hF2 hSr hSl hv
          go_wp2_with fail
          refine (FS _).mono ?_
          rintro e w2 ⟨rfl, rfl⟩
          clear FS
          go_wp2_with fail
          go_ret2
          exact ⟨_, by rw [HF.out]; rfl, hc, by rw [HR.out]; exact rdv_nil _ _⟩
        · rw [if_neg h16] at hF2
          have hv := hown.rdv
          obtain ⟨oa, oc, rfl, -, -, -⟩ := rdv_slice hv
          have t16 : decide ((16 : Int) ≤ (L.length : Int)) = false := decide_eq_false (by omega)
          have t16n : decide (16 ≤ L.length) = false := decide_eq_false h16
          have h1 : S.size = 8 + r.length := hSl.out
          have j8 : (8 : Int) ≤ (S.size : Int) := by omega
          have hRd : (S.extract 8 S.size).data.toList = r := by
            rw [Lib.extract_data, hSr, List.take_of_length_le (by rw [List.length_drop, List.length_append]; show 8 + r.length - 8 ≤ _; omega)]
            rfl
          clear hv hI hd hne h0 hSr h1
          go_wp2_with fail
          refine (FS _).mono ?_
          rintro e w2 ⟨rfl, rfl⟩
          rename World => wr
          clear FS
          go_wp2_with fail
          generalize S.extract 8 S.size = R at hRd ⊢
          have hRs : R.size ≤ 10000000 := by
            have h1 : S.size = 8 + r.length := hSl.out
            have h2 : R.size = r.length := by rw [Lib.size_eq, hRd]
            omega
          have FF : ∀ wx, Calls Tryd.prog 27 #[.string R, .string ⟨#[10, 70, 114, 111, 109, 32, 45, 32, 10]⟩] wx fun e w' => e = .returned (.int .i64 (Lib.index R.data.toList sepW)) ∧ w' = wx := fun wx => by
            have := find_any R (toB sepW) wx (by omega) (by decide) (by decide)
            rw [toB_data] at this
            exact this
          have HRd := Lib.hid hRd
          rw [hRd] at FF
          clear hRd
          rcases pos_of_index (t := sepW) (s := r) (by unfold sepW; simp) with ⟨hcut, hidx⟩ | ⟨a, b, hcut, hidx, hab⟩
          · rw [hcut] at hF2
            rw [hidx] at FF
            have HF2 := Lib.hid hF2
            clear hF2 hcut hidx
            cases hz : R.size with
            | zero =>
              have hr0 : r = [] := by rw [← HRd.out]; exact List.eq_nil_of_length_eq_zero (by rw [← Lib.size_eq]; exact hz)
              have hp : parseBox s.data.toList = none := by rw [HF2.out, hr0]; rfl
              obtain ⟨HR, HF⟩ := open_none hp
              have HR := Lib.hid HR
              have HF := Lib.hid HF
              clear hp hown hbl hr0
              refine (FF _).mono ?_
              rintro e w2 ⟨rfl, rfl⟩
              clear FF
              go_wp2_with fail
              go_ret2
              exact ⟨_, by rw [HF.out]; rfl, hc, by rw [HR.out]; exact rdv_nil _ _⟩
            | succ q =>
              have hlt : q < R.size := by omega
              have hlast := last_byte hlt hz
              cases hb : (((R[q]'hlt).toNat : Int) != 10) with
              | true =>
                have hc10 : R[q]'hlt ≠ 10 := fun e => by rw [e] at hb; cases hb
                have hds : dropSuf [10] r = none := by
                  rw [← HRd.out, hlast]
                  exact if_neg (by rw [suffix_not' hc10]; simp)
                have hp : parseBox s.data.toList = none := by rw [HF2.out, hds]
                obtain ⟨HR, HF⟩ := open_none hp
                have HR := Lib.hid HR
                have HF := Lib.hid HF
                clear hp hown hbl hds hc10 hlast
                refine (FF _).mono ?_
                rintro e w2 ⟨rfl, rfl⟩
                clear FF
                go_wp2_with fail
                go_ret2
                exact ⟨_, by rw [HF.out]; rfl, hc, by rw [HR.out]; exact rdv_nil _ _⟩
              | false =>
                have hc10 : R[q]'hlt = 10 := byte_eq (n := 10) (by simpa using hb) rfl
                have hds : dropSuf [10] r = some (r.take q) := by
                  rw [← HRd.out]
                  conv => lhs; rw [hlast, hc10, suf_app]
                have HDS : Hid (parseBox s.data.toList = match parseM (r.take q) with
                    | none => none
                    | some m => some (L ++ [m])) := by rw [Hid, HF2.out, hds]
                clear hds hc10 hlast HF2 hF1
                refine (FF _).mono ?_
                rintro e w2 ⟨rfl, rfl⟩
                rename World => wr
                clear FF
                have hXs : (R.extract 0 q).size ≤ 10000000 := by rw [ByteArray.size_extract]; omega
                have hXd := (show (R.extract 0 q).data.toList = r.take q by rw [Lib.extract_data, HRd.out]; rfl)
                have hPB := HDS.out
                obtain ⟨X, hX⟩ : ∃ X, R.extract 0 q = X := ⟨_, rfl⟩
                rw [hX] at hXs hXd
                go_wp2_with fail
                try rw [hX]
                clear hX
                refine (refMailOf_any X _ hXs).mono ?_
                rintro e w5 ⟨v, rfl, hc5, hr5⟩
                have hc5' := hc.trans hc5
                obtain ⟨va, vc, rfl, -, -, -⟩ := rdv_slice hr5
                cases hpm : parseM X.data.toList with
                | none =>
                  have HPF := parse_none hpm
                  rw [hXd] at hpm
                  rw [hpm] at hPB
                  obtain ⟨HR, HF⟩ := open_none hPB
                  have HR := Lib.hid HR
                  have HF := Lib.hid HF
                  rw [HPF]
                  clear HPF hpm hPB hXd hown hbl
                  go_wp2_with fail
                  go_ret2
                  exact ⟨_, by rw [HF.out]; rfl, hc5'.alloc _, by rw [HR.out]; exact rdv_nil _ _⟩
                | some mm =>
                  obtain ⟨HPR, HPF⟩ := parse_some hpm
                  have hmz := mail_sizes hpm
                  rw [hXd] at hpm
                  rw [hpm] at hPB
                  have HPB := Lib.hid hPB
                  rw [HPR] at hr5
                  rw [HPF, HPR]
                  obtain ⟨gA, g0, g1, g2, g3⟩ := box1_mail w5 24 mm.sender mm.subject mm.ident (.slice va mm.body.length vc) _ rfl
                  have hownA := (hown.never hc5).never gA
                  have hrA := hr5.never gA
                  have hcA := hc5'.trans gA
                  have hsub : ∀ (q : World), ∀ j, j < q.heap.size → (Old w.heap.size j ∨ (Value.slice oa L.length oc).ownBlock = some j) → Old wr.heap.size j := fun q j _ hj => by
                    rcases hj with hj | hj
                    · exact Nat.lt_of_lt_of_le hj hc.size
                    · exact hbl j hj
                  have hyr : Dat.rd (w5.alloc (.cells #[.string mm.sender, .string mm.subject, .string mm.ident, .slice va mm.body.length vc] 24)) (fun j => Old w.heap.size j ∨ (Value.slice oa L.length oc).ownBlock = some j) [.string mm.sender, .string mm.subject, .string mm.ident, .slice va mm.body.length vc] mm :=
                    ⟨_, rfl, hmz.1, hmz.2.1, hmz.2.2, hrA.sub (hsub _)⟩
                  have holt : ∀ j, Old w.heap.size j → j < (w5.alloc (.cells #[.string mm.sender, .string mm.subject, .string mm.ident, .slice va mm.body.length vc] 24)).heap.size := old_lt hcA
                  have hLl : L.length ≤ 1000000000 := by omega
                  clear hown hr5 hc5 hc5' hsub hpm hPB hXd HPF HPR hbl
                  go_wp2_with (at_builtin; refine wpList_push (by rfl) _ _ 25 (by rfl) elemOk_mail (O := Old w.heap.size) (l := L) (y := mm) (by rfl) (by rfl) (by simp) hownA hyr holt hLl ?_; intro v' w7 hown7 hc7 _)
                  have hc8 := own_step hcA hownA hc7
                  clear hc7 hownA hyr holt g0 g1 g2 g3 gA hrA
                  go_wp2_with fail
                  go_roundw
                  case rel => exact ⟨_, L ++ [mm], rfl, Nat.zero_le _, by simp; omega, hc8, hown7, binv_done HPB.out rfl⟩
                  case measure => simp only [strLen]; have h1 : S.size = 8 + r.length := hSl.out; show 0 < S.size; omega
          · rw [hcut] at hF2
            obtain ⟨ka, hka⟩ : ∃ ka, ka = a.length := ⟨_, rfl⟩
            rw [hidx, ← hka] at FF
            have hlt : ka < R.size := by rw [hka, Lib.size_eq, HRd.out, hab]; simp [sepW]
            have hb : (((R[ka]'hlt).toNat : Int) != 10) = false := by subst hka; exact sep_byte (by rw [HRd.out]; exact hab) hlt
            have h9 : r.length = a.length + 9 + b.length := by rw [hab, List.length_append, List.length_append]; rfl
            have hRl : R.size = r.length := by rw [Lib.size_eq, HRd.out]
            have HF2 : Hid (parseBox s.data.toList = match parseM a with
                    | none => none
                    | some m => boxGo F (markW ++ b) (L ++ [m])) := hF2
            have hX0 : (R.extract 0 ka).data.toList = a := by rw [Lib.extract_data, HRd.out, hab, hka]; simp
            have hY0 : Hid ((R.extract (ka + 1) R.size).data.toList = markW ++ b) := by
              rw [Hid, Lib.extract_data, hRl, HRd.out, List.take_of_length_le (by rw [List.length_drop]; omega), hab, hka, List.append_assoc, ← List.drop_drop, List.drop_left]
              rfl
            have hY1 : (R.extract (ka + 1) R.size).size ≤ 10000000 ∧ (R.extract (ka + 1) R.size).size < 8 + r.length := by rw [ByteArray.size_extract]; omega
            have hFl : b.length + 8 ≤ F := by omega
            clear hF2 hcut hidx hab h9 hRl hka
            refine (FF _).mono ?_
            rintro e w2 ⟨rfl, rfl⟩
            rename World => wr
            clear FF
            have hXs : (R.extract 0 ka).size ≤ 10000000 := by rw [ByteArray.size_extract]; omega
            have hXd := hX0
            have hPB := HF2.out
            obtain ⟨X, hX⟩ : ∃ X, R.extract 0 ka = X := ⟨_, rfl⟩
            rw [hX] at hXs hXd
            go_wp2_with fail
            try rw [hX]
            clear hX
            refine (refMailOf_any X _ hXs).mono ?_
            rintro e w5 ⟨v, rfl, hc5, hr5⟩
            have hc5' := hc.trans hc5
            obtain ⟨va, vc, rfl, -, -, -⟩ := rdv_slice hr5
            cases hpm : parseM X.data.toList with
            | none =>
              have HPF := parse_none hpm
              rw [hXd] at hpm
              rw [hpm] at hPB
              obtain ⟨HR, HF⟩ := open_none hPB
              have HR := Lib.hid HR
              have HF := Lib.hid HF
              rw [HPF]
              clear HPF hpm hPB hXd hown hbl
              go_wp2_with fail
              go_ret2
              exact ⟨_, by rw [HF.out]; rfl, hc5'.alloc _, by rw [HR.out]; exact rdv_nil _ _⟩
            | some mm =>
              obtain ⟨HPR, HPF⟩ := parse_some hpm
              have hmz := mail_sizes hpm
              rw [hXd] at hpm
              rw [hpm] at hPB
              have HPB := Lib.hid hPB
              rw [HPR] at hr5
              rw [HPF, HPR]
              obtain ⟨gA, g0, g1, g2, g3⟩ := box1_mail w5 24 mm.sender mm.subject mm.ident (.slice va mm.body.length vc) _ rfl
              have hownA := (hown.never hc5).never gA
              have hrA := hr5.never gA
              have hcA := hc5'.trans gA
              have hsub : ∀ (q : World), ∀ j, j < q.heap.size → (Old w.heap.size j ∨ (Value.slice oa L.length oc).ownBlock = some j) → Old wr.heap.size j := fun q j _ hj => by
                rcases hj with hj | hj
                · exact Nat.lt_of_lt_of_le hj hc.size
                · exact hbl j hj
              have hyr : Dat.rd (w5.alloc (.cells #[.string mm.sender, .string mm.subject, .string mm.ident, .slice va mm.body.length vc] 24)) (fun j => Old w.heap.size j ∨ (Value.slice oa L.length oc).ownBlock = some j) [.string mm.sender, .string mm.subject, .string mm.ident, .slice va mm.body.length vc] mm :=
                ⟨_, rfl, hmz.1, hmz.2.1, hmz.2.2, hrA.sub (hsub _)⟩
              have holt : ∀ j, Old w.heap.size j → j < (w5.alloc (.cells #[.string mm.sender, .string mm.subject, .string mm.ident, .slice va mm.body.length vc] 24)).heap.size := old_lt hcA
              have hLl : L.length ≤ 1000000000 := by omega
              clear hown hr5 hc5 hc5' hsub hpm hPB hXd HPF HPR hbl
              go_wp2_with (at_builtin; refine wpList_push (by rfl) _ _ 25 (by rfl) elemOk_mail (O := Old w.heap.size) (l := L) (y := mm) (by rfl) (by rfl) (by simp) hownA hyr holt hLl ?_; intro v' w7 hown7 hc7 _)
              have hc8 := own_step hcA hownA hc7
              clear hc7 hownA hyr holt g0 g1 g2 g3 gA hrA
              go_wp2_with fail
              go_roundw
              case rel => exact ⟨_, L ++ [mm], rfl, hY1.1, by simp; omega, hc8, hown7, binv_next HPB.out hY0.out (by rw [List.length_append]; show 8 + b.length ≤ _; omega)⟩
              case measure => simp only [strLen]; have := hSl.out; omega
end Go.Proofs.YtnekhaacapdmfaaDoor
namespace Go.Proofs.YtnekhaacapdmfaaDoor
open Go.RowKit

set_option maxHeartbeats 1000000 in
set_option maxRecDepth 100000 in
theorem mails_same (l : List Mail) (v u : Value) (w : World) (h : Rdv w Never v l) (g : Rdv w Never u l) :
    Calls Tryd.prog 10 #[v, u] w fun e w' => e = .returned (.bool true) ∧ Chg Never w w' := by
  obtain ⟨a, cap, rfl, h1, h2, h3⟩ := rdv_slice h
  obtain ⟨c, cap', rfl, g1, g2, g3⟩ := rdv_slice g
  unfold maxLen at h2 g2
  go_enter Tryd.func10, Tryd.ntmps10
  go_wp2_with fail
  go_loopw [5] (fun i wr => ∃ k : Nat, k ≤ l.length ∧ i = .int .i64 k ∧ Chg Never w wr) (fun i _ => l.length - (intOf i).toNat)
  case atStart => exact ⟨0, Nat.zero_le _, rfl, Chg.refl _ _⟩
  case round =>
    obtain ⟨k, hk, rfl, hc⟩ := hrel
    rename World => wr
    by_cases hlt : k < l.length
    · obtain ⟨x, hx⟩ : ∃ x, l[k]? = some x := ⟨l[k], by simp [hlt]⟩
      obtain ⟨b, off, v1, rfl, _, _, c0, c1, c2, c3, _, _, _, hv1⟩ := elems_mail h3 hx
      obtain ⟨b', off', v2, rfl, _, _, d0, d1, d2, d3, _, _, _, hv2⟩ := elems_mail g3 hx
      have c0 := hc.cellNever c0
      have c1 := hc.cellNever c1
      have c2 := hc.cellNever c2
      have c3 := hc.cellNever c3
      have d0 := hc.cellNever d0
      have d1 := hc.cellNever d1
      have d2 := hc.cellNever d2
      have d3 := hc.cellNever d3
      have hr1 : ∀ n, (convert 22 9 v1).run Tryd.prog (wr.drewN n) = .ok (.string (toB x.body)) (wr.drewN n) := fun n => conv_str ((hv1.never hc).never ((Chg.refl Never wr).drewN n))
      have hr2 : ∀ n, (convert 22 9 v2).run Tryd.prog (wr.drewN n) = .ok (.string (toB x.body)) (wr.drewN n) := fun n => conv_str ((hv2.never hc).never ((Chg.refl Never wr).drewN n))
      have b1 : (k : Int) < l.length := by omega
      obtain ⟨xs, hxs⟩ : ∃ y, x.sender = y := ⟨_, rfl⟩
      obtain ⟨xu, hxu⟩ : ∃ y, x.subject = y := ⟨_, rfl⟩
      obtain ⟨xi, hxi⟩ : ∃ y, x.ident = y := ⟨_, rfl⟩
      obtain ⟨xb, hxb⟩ : ∃ y, toB x.body = y := ⟨_, rfl⟩
      rw [hxs] at c0 d0
      rw [hxu] at c1 d1
      rw [hxi] at c2 d2
      simp only [hxb] at hr1 hr2
      have q1 : (xs.toList != xs.toList) = false := by simp
      have q2 : (xu.toList != xu.toList) = false := by simp
      have q3 : (xi.toList != xi.toList) = false := by simp
      have q4 : (xb.toList != xb.toList) = false := by simp
      clear hx h3 g3 h g hv1 hv2 hxs hxu hxi hxb
      go_wp2_with fail
      go_quiet (fail)
      go_wp2_with fail
      go_roundw
      case rel => exact ⟨k + 1, by omega, by go_num, hc.drewN _⟩
      case measure => simp [intOf]; omega
    · go_wp2_with fail
      go_ret
      exact ⟨rfl, hc⟩
end Go.Proofs.YtnekhaacapdmfaaDoor
namespace Go.Proofs.YtnekhaacapdmfaaDoor
open Go.RowKit

theorem beq_self_int (k : Int) : (k == k) = true := by simp
theorem mailText_printR {m : Mail} (h : mailFault m = 0) : toB (mailText m) = printR m := by unfold printR; rw [if_pos h]
theorem boxText_boxR {l : List Mail} (h : boxFault l = 0) : toB (boxText l) = boxR l := by unfold boxR; rw [if_pos h]
theorem boxR_bad {l : List Mail} (h : boxFault l ≠ 0) : boxR l = ByteArray.empty := by unfold boxR; rw [if_neg h]
theorem printR_bad {m : Mail} (h : mailFault m ≠ 0) : printR m = ByteArray.empty := by unfold printR; rw [if_neg h]
theorem parse_mail_sizes (s : ByteArray) : MailSz (parseR s) := by
  unfold parseR
  cases h : parseM s.data.toList with
  | none => exact ⟨Nat.zero_le _, Nat.zero_le _, Nat.zero_le _⟩
  | some m => exact mail_sizes h
theorem rdv_one_mail {w : World} {g : Nat} {e : TypeId} {m : Mail} {v : Value} (h : w.heap[g]? = some (.cells #[.string m.sender, .string m.subject, .string m.ident, v] e (0, 0))) (hz : MailSz m) (hv : Rdv w Never v m.body) : Rdv w Never (.slice (some ⟨g, 0, none⟩) 1 1) [m] :=
  rdv_lit (cs := [.string m.sender, .string m.subject, .string m.ident, v]) h rfl (by decide) ⟨⟨v, rfl, hz.1, hz.2.1, hz.2.2, hv⟩, trivial⟩
/-- how far the box's mails have been looked at -/
def BFInv (l : List Mail) (k : Nat) (E : Int) : Prop := boxFault l = if E = 0 then firstOf mailFault (l.drop k) else E
theorem bfinv_start {l : List Mail} : BFInv l 0 (if 16 < l.length then 3 else 0) := by
  unfold BFInv boxFault
  by_cases h : 16 < l.length
  · rw [if_pos h, if_pos h]; rfl
  · rw [if_neg h, if_neg h]; simp
theorem bfinv_step {l : List Mail} {k : Nat} {x : Mail} (h : BFInv l k 0) (hx : l[k]? = some x) : BFInv l (k + 1) (mailFault x) := by
  unfold BFInv at *
  rw [if_pos rfl, drop_eq hx, firstOf] at h
  exact h
theorem bfinv_end {l : List Mail} {k : Nat} {E : Int} (h : BFInv l k E) (hk : l.length ≤ k ∨ E ≠ 0) : boxFault l = E := by
  unfold BFInv at h
  by_cases e : E = 0
  · rw [if_pos e] at h
    rcases hk with hk | hk
    · rw [List.drop_of_length_le hk] at h; rw [h, e]; rfl
    · exact absurd e hk
  · rw [if_neg e] at h; exact h

set_option maxHeartbeats 4000000 in
set_option maxRecDepth 100000 in
theorem law_mailIs (m : Mail) (s : ByteArray) (l : List Mail) (t : ByteArray) (mv vl : Value) (w : World) (hm : Rdv w Never mv m.body) (hsz : MailSz m) (hid : m.ident.size ≤ 1000000000) (hs : s.size ≤ 1048576) (hl : Rdv w Never vl l) (hli : ∀ x ∈ l, x.ident.size ≤ 1000000000) (ht : t.size ≤ 1048576)
    (mx : Int) (hmx : w.cell? ⟨1, 0, none⟩ = some (.int .i64 mx)) (hg : w.cell? ⟨0, 0, none⟩ = some errT) :
    Calls Tryd.prog 5 #[mailV m mv, .string s, vl, .string t] w fun e w' => e = .returned (.bool true) ∧ Chg Never w w' := by
  obtain ⟨va, vc, rfl, v1, v2, -⟩ := rdv_slice hm
  obtain ⟨a, cap, rfl, h1, h2, h3⟩ := rdv_slice hl
  unfold maxLen at h2 v2
  have hm0 := hm
  obtain ⟨hA, b0, b1, b2, b3⟩ := box1_mail w 24 m.sender m.subject m.ident (.slice va m.body.length vc) _ rfl
  obtain ⟨M0, hM0⟩ : ∃ z, m.sender = z := ⟨_, rfl⟩
  go_enter Tryd.func5, Tryd.ntmps5
  clear hM0 M0
  go_wp2_with fail
  generalize w.alloc (.cells #[.string m.sender, .string m.subject, .string m.ident, .slice va m.body.length vc] 24) = wA at hA b0 b1 b2 b3 ⊢
  have hc := hA
  refine (refMailFault_any m _ _ (hm0.never hc) hsz hid).mono ?_
  rintro e wq ⟨rfl, hcq⟩
  have hc := hc.trans hcq
  have b0 := hcq.cellNever b0
  have b1 := hcq.cellNever b1
  have b2 := hcq.cellNever b2
  have b3 := hcq.cellNever b3
  clear hcq hA
  go_wp2_with fail
  refine (mail_check_any m _ _ (hm0.never hc) hsz).mono ?_
  rintro e wq ⟨rfl, hcq⟩
  have hc := hc.trans hcq
  have b0 := hcq.cellNever b0
  have b1 := hcq.cellNever b1
  have b2 := hcq.cellNever b2
  have b3 := hcq.cellNever b3
  clear hcq
  go_wp2_with fail
  refine (error_any _ _ _ (hc.cellNever hg)).mono ?_
  rintro e wq ⟨rfl, hcq⟩
  have hc := hc.trans hcq
  have b0 := hcq.cellNever b0
  have b1 := hcq.cellNever b1
  have b2 := hcq.cellNever b2
  have b3 := hcq.cellNever b3
  rw [beq_self_int]
  clear hcq
  by_cases hb : (1000 < m.body.length ∧ m.body.length ≤ 40000) ∨ 4000 < s.size ∨ 6000 < t.size
  · rcases Classical.em (1000 < m.body.length) with q1 | q1
    · rcases Classical.em (m.body.length ≤ 40000) with q2 | q2
      · clear hb
        go_wp2_with fail
        go_ret
        exact ⟨rfl, hc⟩
      · rcases Classical.em (4000 < s.size) with q3 | q3
        · clear hb
          go_wp2_with fail
          go_ret
          exact ⟨rfl, hc⟩
        · have q4 : 6000 < t.size := by omega
          clear hb
          go_wp2_with fail
          go_ret
          exact ⟨rfl, hc⟩
    · rcases Classical.em (4000 < s.size) with q3 | q3
      · clear hb
        go_wp2_with fail
        go_ret
        exact ⟨rfl, hc⟩
      · have q4 : 6000 < t.size := by omega
        clear hb
        go_wp2_with fail
        go_ret
        exact ⟨rfl, hc⟩
  · have q0 : 40000 < m.body.length ∨ m.body.length ≤ 1000 := by omega
    have q3 : s.size ≤ 4000 := by omega
    have q4 : t.size ≤ 6000 := by omega
    clear hb
    go_upto_region 4 with fail
    go_cut [46] from 27 to 46 (fun tb wx => tb = .bool false ∧ wx = wq)
    case first =>
      have t3 : decide ((4000 : Int) < (s.size : Int)) = false := decide_eq_false (by omega)
      have t4 : decide ((6000 : Int) < (t.size : Int)) = false := decide_eq_false (by omega)
      rcases q0 with q | q
      · have t5 : decide ((m.body.length : Int) ≤ 40000) = false := decide_eq_false (by omega)
        go_wp2_with fail
        go_meet
        exact ⟨rfl, rfl⟩
      · go_wp2_with fail
        go_meet
        exact ⟨rfl, rfl⟩
    case rest =>
      obtain ⟨rfl, rfl⟩ := hcut
      rename World => wq
      clear q0
      -- the mail's text
      go_upto_if 49 with fail
      go_cut [11] from 49 (fun u wx => u = .string (printR m) ∧ Hid (Chg Never wq wx))
      case first =>
        by_cases z : mailFault m = 0
        · have HB := Lib.hid (mailText_printR z)
          have HZ := Lib.hid z
          have tz : (mailFault m == 0) = true := by simpa using z
          clear z
          go_wp2_with fail
          refine (mailText_any m _ _ (hm0.never hc) HZ.out).mono ?_
          rintro e' wz ⟨rfl, hcq⟩
          rw [HB.out]
          have hcw := Lib.hid hcq
          clear hcq
          go_wp2_with fail
          go_meet
          exact ⟨rfl, hcw⟩
        · have HB := Lib.hid (printR_bad z)
          have tz : (mailFault m == 0) = false := by simpa using z
          clear z
          go_wp2_with fail
          go_meet
          exact ⟨by rw [HB.out]; rfl, Chg.refl _ _⟩
      case rest =>
        obtain ⟨rfl, hcc⟩ := hcut
        have b0 := hcc.out.cellNever b0
        have b1 := hcc.out.cellNever b1
        have b2 := hcc.out.cellNever b2
        have b3 := hcc.out.cellNever b3
        have hc := hc.trans hcc.out
        clear hcc
        go_wp2_with fail
        refine (mail_print_any m _ _ (hm0.never hc) hsz).mono ?_
        rintro e' wq ⟨rfl, hcq⟩
        have hc := hc.trans hcq
        clear hcq b0 b1 b2 b3
        obtain ⟨PR, hPR⟩ : ∃ PR, printR m = PR := ⟨_, rfl⟩
        rw [hPR]
        have tB : (PR.toList != PR.toList) = false := by simp
        clear hPR
        go_wp2_with fail
        refine (error_any _ _ _ (hc.cellNever hg)).mono ?_
        rintro e' wq ⟨rfl, hcq⟩
        have hc := hc.trans hcq
        rw [beq_self_int]
        clear hcq
        go_wp2_with fail
        refine (refMailOf_any s _ (by omega)).mono ?_
        rintro e' wq ⟨r1, rfl, hcq, hr1⟩
        have hc := hc.trans hcq
        obtain ⟨x1, y1, rfl, -, -, -⟩ := rdv_slice hr1
        clear hcq
        obtain ⟨R, hR⟩ : ∃ R, parseR s = R := ⟨_, rfl⟩
        have hRz : MailSz R := by rw [← hR]; exact parse_mail_sizes s
        rw [hR] at hr1 ⊢
        have HR := Lib.hid hR
        clear hR
        obtain ⟨gA, g0, g1, g2, g3⟩ := box1_mail wq 24 R.sender R.subject R.ident (.slice x1 R.body.length y1) _ rfl
        have hc1 := hc.trans gA
        have hr1 := hr1.never gA
        go_wp2_with fail
        generalize wq.alloc (.cells #[.string R.sender, .string R.subject, .string R.ident, .slice x1 R.body.length y1] 24) = w3 at gA g0 g1 g2 g3 hc1 hr1 ⊢
        refine (Parse_any s _ (by omega) mx (hc1.cellNever hmx)).mono ?_
        rintro e' w4 ⟨r2, rfl, hcq, hr2⟩
        have hc := hc1.trans hcq
        have hr1 := hr1.never hcq
        have g0 := hcq.cellNever g0
        have g1 := hcq.cellNever g1
        have g2 := hcq.cellNever g2
        have g3 := hcq.cellNever g3
        obtain ⟨x2, y2, rfl, -, -, -⟩ := rdv_slice hr2
        rw [HR.out] at hr2 ⊢
        clear hcq hc1 gA
        obtain ⟨gA, k0, k1, k2, k3⟩ := box1_mail w4 24 R.sender R.subject R.ident (.slice x2 R.body.length y2) _ rfl
        have hc := hc.trans gA
        have hr1 := hr1.never gA
        have hr2 := hr2.never gA
        have g0 := gA.cellNever g0
        have g1 := gA.cellNever g1
        have g2 := gA.cellNever g2
        have g3 := gA.cellNever g3
        go_wp2_with fail
        generalize w4.alloc (.cells #[.string R.sender, .string R.subject, .string R.ident, .slice x2 R.body.length y2] 24) = w5 at gA g0 g1 g2 g3 k0 k1 k2 k3 hc hr1 hr2 ⊢
        refine (error_any _ _ _ (hc.cellNever hg)).mono ?_
        rintro e' w6 ⟨rfl, hcq⟩
        have hc := hc.trans hcq
        have hr1 := hr1.never hcq
        have hr2 := hr2.never hcq
        have g0 := hcq.cellNever g0
        have g1 := hcq.cellNever g1
        have g2 := hcq.cellNever g2
        have g3 := hcq.cellNever g3
        have k0 := hcq.cellNever k0
        have k1 := hcq.cellNever k1
        have k2 := hcq.cellNever k2
        have k3 := hcq.cellNever k3
        rw [beq_self_int]
        clear hcq gA
        have n1 := heap_alloc_new w6 (.cells #[.string R.sender, .string R.subject, .string R.ident, .slice x2 R.body.length y2] 24)
        have q1 : Chg Never w6 (w6.alloc (.cells #[.string R.sender, .string R.subject, .string R.ident, .slice x2 R.body.length y2] 24)) := (Chg.refl Never w6).alloc _
        have n2 := heap_alloc_new (w6.alloc (.cells #[.string R.sender, .string R.subject, .string R.ident, .slice x2 R.body.length y2] 24)) (.cells #[.string R.sender, .string R.subject, .string R.ident, .slice x1 R.body.length y1] 24)
        have q2 := (Chg.refl Never (w6.alloc (.cells #[.string R.sender, .string R.subject, .string R.ident, .slice x2 R.body.length y2] 24))).alloc (.cells #[.string R.sender, .string R.subject, .string R.ident, .slice x1 R.body.length y1] 24)
        rw [World.size_alloc] at n2
        have l1 := (rdv_one_mail n1 hRz ((hr2.never q1).sub (fun _ _ h => h.elim))).never q2
        have l2 := rdv_one_mail n2 hRz (((hr1.never q1).never q2).sub (fun _ _ h => h.elim))
        have hc7 := (hc.trans q1).trans q2
        have g0 := q1.cellNever g0
        have g1 := q1.cellNever g1
        have g2 := q1.cellNever g2
        have g3 := q1.cellNever g3
        clear n1 n2 q1 q2
        go_wp2_with fail
        (with_reducible refine (mails_same [R] _ _ _ l1 l2).mono ?_)
        rintro e' w8 ⟨rfl, hcq⟩
        have hc := hc7.trans hcq
        clear hcq hc7 g0 g1 g2 g3 k0 k1 k2 k3 l1 l2 hr1 hr2
        by_cases h16 : 16 < l.length
        · have t16 : decide ((16 : Int) < (l.length : Int)) = true := decide_eq_true (by omega)
          have HI0 : Hid (BFInv l 0 3) := by have := bfinv_start (l := l); rw [if_pos h16] at this; exact this
          clear h16
          go_wp2_with fail
          clear t16
          go_loopw [9, 18] (fun ev iv wr => ∃ (k : Nat) (E : Int), k ≤ l.length ∧ iv = .int .i64 k ∧ ev = .int .i64 E ∧ Chg Never w wr ∧ Hid (BFInv l k E)) (fun _ iv _ => l.length - (intOf iv).toNat)
          case atStart => exact ⟨0, 3, Nat.zero_le _, rfl, rfl, hc, HI0.out⟩
          case round =>
            clear hc
            obtain ⟨k, E, hk, rfl, rfl, hc, hI⟩ := hrel
            rename World => wr
            by_cases hlt : k < l.length
            · by_cases z : E = 0
              · subst z
                obtain ⟨x, hx⟩ : ∃ x, l[k]? = some x := ⟨l[k], by simp [hlt]⟩
                obtain ⟨b, off, xv, rfl, -, -, c0, c1, c2, c3, z0, z1, z2, hv⟩ := elems_mail h3 hx
                have hxz : MailSz x := ⟨z0, z1, z2⟩
                have hxi := hli x (List.mem_of_getElem? hx)
                have c0 := hc.cellNever c0
                have c1 := hc.cellNever c1
                have c2 := hc.cellNever c2
                have c3 := hc.cellNever c3
                have hvr := hv.never hc
                obtain ⟨xa, xc, rfl, -, -, -⟩ := rdv_slice hv
                have HI2 := Lib.hid (bfinv_step hI.out hx)
                clear hx h3 hl hI hm hv hm0
                by_cases h300 : 300 < x.body.length
                · have t3 : decide ((300 : Int) < (x.body.length : Int)) = true := decide_eq_true (by omega)
                  go_wp2_with fail
                  go_ret
                  exact ⟨rfl, hc⟩
                · have t3 : decide ((300 : Int) < (x.body.length : Int)) = false := decide_eq_false (by omega)
                  go_wp2_with fail
                  (with_reducible refine (refMailFault_any x _ _ hvr hxz hxi).mono ?_)
                  rintro e' wq ⟨rfl, hcq⟩
                  have hc := hc.trans hcq
                  clear hcq hvr c0 c1 c2 c3
                  go_wp2_with fail
                  go_roundw
                  case rel => exact ⟨k + 1, mailFault x, by omega, by go_num, rfl, hc, HI2.out⟩
                  case measure => simp [intOf]; omega
              · have hE : boxFault l = E := bfinv_end hI.out (.inr z)
                have tz : (E == 0) = false := by simpa using z
                have hE0 : E ≠ 0 := z
                clear hI h3 hm hm0 z
                -- behind the loop: the box's fault is E
                have HE := Lib.hid hE
                clear hE
                go_upto_if 121 with fail
                go_cut [11] from 121 (fun u wx => u = .string (boxR l) ∧ Hid (Chg Never w wx))
                case first =>
                  by_cases z : E = 0
                  · first
                      | exact absurd z hE0
                      | (subst z
                         have HB := Lib.hid (boxText_boxR HE.out)
                         go_wp2_with fail
                         refine (refBoxText_any l _ _ (hl.never hc) HE.out).mono ?_
                         rintro e' wq ⟨rfl, hcq⟩
                         rw [HB.out]
                         have hcw := Lib.hid (hc.trans hcq)
                         go_wp2_with fail
                         go_meet
                         exact ⟨rfl, hcw⟩)
                  · have HB := Lib.hid (boxR_bad (l := l) (by rw [HE.out]; exact z))
                    have tz : (E == 0) = false := by simpa using z
                    have hcw := Lib.hid hc
                    clear z
                    go_wp2_with fail
                    go_meet
                    exact ⟨by rw [HB.out]; rfl, hcw⟩
                case rest =>
                  obtain ⟨rfl, hcc⟩ := hcut
                  have hc := hcc.out
                  clear hcc
                  go_wp2_with fail
                  refine (box_any l _ _ (hl.never hc)).mono ?_
                  rintro e' wq ⟨rfl, hcq⟩
                  have hc := hc.trans hcq
                  clear hcq
                  rw [HE.out]
                  go_wp2_with fail
                  refine (error_any _ _ _ (hc.cellNever hg)).mono ?_
                  rintro e' wq ⟨rfl, hcq⟩
                  have hc := hc.trans hcq
                  rw [beq_self_int]
                  clear hcq
                  obtain ⟨BR, hBR⟩ : ∃ BR, boxR l = BR := ⟨_, rfl⟩
                  rw [hBR]
                  have tB : (BR.toList != BR.toList) = false := by simp
                  clear hBR
                  go_wp2_with fail
                  refine (refBoxOf_any t _ (by omega)).mono ?_
                  rintro e' wq ⟨r1, rfl, hcq, hr1⟩
                  have hc := hc.trans hcq
                  clear hcq
                  go_wp2_with fail
                  refine (open_any t _ (by omega) mx (hc.cellNever hmx)).mono ?_
                  rintro e' wq ⟨r2, rfl, hcq, hr2⟩
                  have hc := hc.trans hcq
                  have hr1 := hr1.never hcq
                  clear hcq
                  go_wp2_with fail
                  refine (error_any _ _ _ (hc.cellNever hg)).mono ?_
                  rintro e' wq ⟨rfl, hcq⟩
                  have hc := hc.trans hcq
                  have hr1 := hr1.never hcq
                  have hr2 := hr2.never hcq
                  rw [beq_self_int]
                  clear hcq
                  go_wp2_with fail
                  refine (mails_same (openR t) r2 r1 _ (hr2.sub (fun _ _ h => h.elim)) (hr1.sub (fun _ _ h => h.elim))).mono ?_
                  rintro e' wq ⟨rfl, hcq⟩
                  have hc := hc.trans hcq
                  clear hcq hr1 hr2
                  go_wp2_with fail
                  go_ret
                  exact ⟨rfl, hc⟩
            · have hE : boxFault l = E := bfinv_end hI.out (.inl (by omega))
              clear hI h3 hm hm0
              -- behind the loop: the box's fault is E
              have HE := Lib.hid hE
              clear hE
              go_upto_if 121 with fail
              go_cut [11] from 121 (fun u wx => u = .string (boxR l) ∧ Hid (Chg Never w wx))
              case first =>
                by_cases z : E = 0
                · first
                    | exact absurd z hE0
                    | (subst z
                       have HB := Lib.hid (boxText_boxR HE.out)
                       go_wp2_with fail
                       refine (refBoxText_any l _ _ (hl.never hc) HE.out).mono ?_
                       rintro e' wq ⟨rfl, hcq⟩
                       rw [HB.out]
                       have hcw := Lib.hid (hc.trans hcq)
                       go_wp2_with fail
                       go_meet
                       exact ⟨rfl, hcw⟩)
                · have HB := Lib.hid (boxR_bad (l := l) (by rw [HE.out]; exact z))
                  have tz : (E == 0) = false := by simpa using z
                  have hcw := Lib.hid hc
                  clear z
                  go_wp2_with fail
                  go_meet
                  exact ⟨by rw [HB.out]; rfl, hcw⟩
              case rest =>
                obtain ⟨rfl, hcc⟩ := hcut
                have hc := hcc.out
                clear hcc
                go_wp2_with fail
                refine (box_any l _ _ (hl.never hc)).mono ?_
                rintro e' wq ⟨rfl, hcq⟩
                have hc := hc.trans hcq
                clear hcq
                rw [HE.out]
                go_wp2_with fail
                refine (error_any _ _ _ (hc.cellNever hg)).mono ?_
                rintro e' wq ⟨rfl, hcq⟩
                have hc := hc.trans hcq
                rw [beq_self_int]
                clear hcq
                obtain ⟨BR, hBR⟩ : ∃ BR, boxR l = BR := ⟨_, rfl⟩
                rw [hBR]
                have tB : (BR.toList != BR.toList) = false := by simp
                clear hBR
                go_wp2_with fail
                refine (refBoxOf_any t _ (by omega)).mono ?_
                rintro e' wq ⟨r1, rfl, hcq, hr1⟩
                have hc := hc.trans hcq
                clear hcq
                go_wp2_with fail
                refine (open_any t _ (by omega) mx (hc.cellNever hmx)).mono ?_
                rintro e' wq ⟨r2, rfl, hcq, hr2⟩
                have hc := hc.trans hcq
                have hr1 := hr1.never hcq
                clear hcq
                go_wp2_with fail
                refine (error_any _ _ _ (hc.cellNever hg)).mono ?_
                rintro e' wq ⟨rfl, hcq⟩
                have hc := hc.trans hcq
                have hr1 := hr1.never hcq
                have hr2 := hr2.never hcq
                rw [beq_self_int]
                clear hcq
                go_wp2_with fail
                refine (mails_same (openR t) r2 r1 _ (hr2.sub (fun _ _ h => h.elim)) (hr1.sub (fun _ _ h => h.elim))).mono ?_
                rintro e' wq ⟨rfl, hcq⟩
                have hc := hc.trans hcq
                clear hcq hr1 hr2
                go_wp2_with fail
                go_ret
                exact ⟨rfl, hc⟩
        · have t16 : decide ((16 : Int) < (l.length : Int)) = false := decide_eq_false (by omega)
          have HI0 : Hid (BFInv l 0 0) := by have := bfinv_start (l := l); rw [if_neg h16] at this; exact this
          clear h16
          go_wp2_with fail
          clear t16
          go_loopw [9, 18] (fun ev iv wr => ∃ (k : Nat) (E : Int), k ≤ l.length ∧ iv = .int .i64 k ∧ ev = .int .i64 E ∧ Chg Never w wr ∧ Hid (BFInv l k E)) (fun _ iv _ => l.length - (intOf iv).toNat)
          case atStart => exact ⟨0, 0, Nat.zero_le _, rfl, rfl, hc, HI0.out⟩
          case round =>
            clear hc
            obtain ⟨k, E, hk, rfl, rfl, hc, hI⟩ := hrel
            rename World => wr
            by_cases hlt : k < l.length
            · by_cases z : E = 0
              · subst z
                obtain ⟨x, hx⟩ : ∃ x, l[k]? = some x := ⟨l[k], by simp [hlt]⟩
                obtain ⟨b, off, xv, rfl, -, -, c0, c1, c2, c3, z0, z1, z2, hv⟩ := elems_mail h3 hx
                have hxz : MailSz x := ⟨z0, z1, z2⟩
                have hxi := hli x (List.mem_of_getElem? hx)
                have c0 := hc.cellNever c0
                have c1 := hc.cellNever c1
                have c2 := hc.cellNever c2
                have c3 := hc.cellNever c3
                have hvr := hv.never hc
                obtain ⟨xa, xc, rfl, -, -, -⟩ := rdv_slice hv
                have HI2 := Lib.hid (bfinv_step hI.out hx)
                clear hx h3 hl hI hm hv hm0
                by_cases h300 : 300 < x.body.length
                · have t3 : decide ((300 : Int) < (x.body.length : Int)) = true := decide_eq_true (by omega)
                  go_wp2_with fail
                  go_ret
                  exact ⟨rfl, hc⟩
                · have t3 : decide ((300 : Int) < (x.body.length : Int)) = false := decide_eq_false (by omega)
                  go_wp2_with fail
                  (with_reducible refine (refMailFault_any x _ _ hvr hxz hxi).mono ?_)
                  rintro e' wq ⟨rfl, hcq⟩
                  have hc := hc.trans hcq
                  clear hcq hvr c0 c1 c2 c3
                  go_wp2_with fail
                  go_roundw
                  case rel => exact ⟨k + 1, mailFault x, by omega, by go_num, rfl, hc, HI2.out⟩
                  case measure => simp [intOf]; omega
              · have hE : boxFault l = E := bfinv_end hI.out (.inr z)
                have tz : (E == 0) = false := by simpa using z
                have hE0 : E ≠ 0 := z
                clear hI h3 hm hm0 z
                -- behind the loop: the box's fault is E
                have HE := Lib.hid hE
                clear hE
                go_upto_if 121 with fail
                go_cut [11] from 121 (fun u wx => u = .string (boxR l) ∧ Hid (Chg Never w wx))
                case first =>
                  by_cases z : E = 0
                  · first
                      | exact absurd z hE0
                      | (subst z
                         have HB := Lib.hid (boxText_boxR HE.out)
                         go_wp2_with fail
                         refine (refBoxText_any l _ _ (hl.never hc) HE.out).mono ?_
                         rintro e' wq ⟨rfl, hcq⟩
                         rw [HB.out]
                         have hcw := Lib.hid (hc.trans hcq)
                         go_wp2_with fail
                         go_meet
                         exact ⟨rfl, hcw⟩)
                  · have HB := Lib.hid (boxR_bad (l := l) (by rw [HE.out]; exact z))
                    have tz : (E == 0) = false := by simpa using z
                    have hcw := Lib.hid hc
                    clear z
                    go_wp2_with fail
                    go_meet
                    exact ⟨by rw [HB.out]; rfl, hcw⟩
                case rest =>
                  obtain ⟨rfl, hcc⟩ := hcut
                  have hc := hcc.out
                  clear hcc
                  go_wp2_with fail
                  refine (box_any l _ _ (hl.never hc)).mono ?_
                  rintro e' wq ⟨rfl, hcq⟩
                  have hc := hc.trans hcq
                  clear hcq
                  rw [HE.out]
                  go_wp2_with fail
                  refine (error_any _ _ _ (hc.cellNever hg)).mono ?_
                  rintro e' wq ⟨rfl, hcq⟩
                  have hc := hc.trans hcq
                  rw [beq_self_int]
                  clear hcq
                  obtain ⟨BR, hBR⟩ : ∃ BR, boxR l = BR := ⟨_, rfl⟩
                  rw [hBR]
                  have tB : (BR.toList != BR.toList) = false := by simp
                  clear hBR
                  go_wp2_with fail
                  refine (refBoxOf_any t _ (by omega)).mono ?_
                  rintro e' wq ⟨r1, rfl, hcq, hr1⟩
                  have hc := hc.trans hcq
                  clear hcq
                  go_wp2_with fail
                  refine (open_any t _ (by omega) mx (hc.cellNever hmx)).mono ?_
                  rintro e' wq ⟨r2, rfl, hcq, hr2⟩
                  have hc := hc.trans hcq
                  have hr1 := hr1.never hcq
                  clear hcq
                  go_wp2_with fail
                  refine (error_any _ _ _ (hc.cellNever hg)).mono ?_
                  rintro e' wq ⟨rfl, hcq⟩
                  have hc := hc.trans hcq
                  have hr1 := hr1.never hcq
                  have hr2 := hr2.never hcq
                  rw [beq_self_int]
                  clear hcq
                  go_wp2_with fail
                  refine (mails_same (openR t) r2 r1 _ (hr2.sub (fun _ _ h => h.elim)) (hr1.sub (fun _ _ h => h.elim))).mono ?_
                  rintro e' wq ⟨rfl, hcq⟩
                  have hc := hc.trans hcq
                  clear hcq hr1 hr2
                  go_wp2_with fail
                  go_ret
                  exact ⟨rfl, hc⟩
            · have hE : boxFault l = E := bfinv_end hI.out (.inl (by omega))
              clear hI h3 hm hm0
              -- behind the loop: the box's fault is E
              have HE := Lib.hid hE
              clear hE
              go_upto_if 121 with fail
              go_cut [11] from 121 (fun u wx => u = .string (boxR l) ∧ Hid (Chg Never w wx))
              case first =>
                by_cases z : E = 0
                · first
                    | exact absurd z hE0
                    | (subst z
                       have HB := Lib.hid (boxText_boxR HE.out)
                       go_wp2_with fail
                       refine (refBoxText_any l _ _ (hl.never hc) HE.out).mono ?_
                       rintro e' wq ⟨rfl, hcq⟩
                       rw [HB.out]
                       have hcw := Lib.hid (hc.trans hcq)
                       go_wp2_with fail
                       go_meet
                       exact ⟨rfl, hcw⟩)
                · have HB := Lib.hid (boxR_bad (l := l) (by rw [HE.out]; exact z))
                  have tz : (E == 0) = false := by simpa using z
                  have hcw := Lib.hid hc
                  clear z
                  go_wp2_with fail
                  go_meet
                  exact ⟨by rw [HB.out]; rfl, hcw⟩
              case rest =>
                obtain ⟨rfl, hcc⟩ := hcut
                have hc := hcc.out
                clear hcc
                go_wp2_with fail
                refine (box_any l _ _ (hl.never hc)).mono ?_
                rintro e' wq ⟨rfl, hcq⟩
                have hc := hc.trans hcq
                clear hcq
                rw [HE.out]
                go_wp2_with fail
                refine (error_any _ _ _ (hc.cellNever hg)).mono ?_
                rintro e' wq ⟨rfl, hcq⟩
                have hc := hc.trans hcq
                rw [beq_self_int]
                clear hcq
                obtain ⟨BR, hBR⟩ : ∃ BR, boxR l = BR := ⟨_, rfl⟩
                rw [hBR]
                have tB : (BR.toList != BR.toList) = false := by simp
                clear hBR
                go_wp2_with fail
                refine (refBoxOf_any t _ (by omega)).mono ?_
                rintro e' wq ⟨r1, rfl, hcq, hr1⟩
                have hc := hc.trans hcq
                clear hcq
                go_wp2_with fail
                refine (open_any t _ (by omega) mx (hc.cellNever hmx)).mono ?_
                rintro e' wq ⟨r2, rfl, hcq, hr2⟩
                have hc := hc.trans hcq
                have hr1 := hr1.never hcq
                clear hcq
                go_wp2_with fail
                refine (error_any _ _ _ (hc.cellNever hg)).mono ?_
                rintro e' wq ⟨rfl, hcq⟩
                have hc := hc.trans hcq
                have hr1 := hr1.never hcq
                have hr2 := hr2.never hcq
                rw [beq_self_int]
                clear hcq
                go_wp2_with fail
                refine (mails_same (openR t) r2 r1 _ (hr2.sub (fun _ _ h => h.elim)) (hr1.sub (fun _ _ h => h.elim))).mono ?_
                rintro e' wq ⟨rfl, hcq⟩
                have hc := hc.trans hcq
                clear hcq hr1 hr2
                go_wp2_with fail
                go_ret
                exact ⟨rfl, hc⟩
end Go.Proofs.YtnekhaacapdmfaaDoor
namespace Go.Proofs.YtnekhaacapdmfaaDoor.lawMailIs
open Go.ChangeShapes Go.WideShapes Go.ChangeAt Go.RowKit

set_option maxRecDepth 100000 in
theorem contract (H : Type) (enc : TypeId × Value → H) (W : World) (base : Nat) (args : Array Value) (ds gs : List (DataW H)) (before : List MemPlace)
    (hval : ∀ (j : Nat) t v, Tryd.f5.params[j]? = some t → args[j]? = some v → Value.okWide Tryd.prog W .any base t v)
    (hW : DataW.Whole enc Tryd.prog Tryd.f5.params.toList Rows.mailIsSpec.vars false W args.toList ds gs before) (hk : Rows.uptoSmall H (ds ++ gs) = true) (hL : laidMetH Tryd.prog Rows.mailIsUptoRow.laid W) (hS : W.ShapedOpen Tryd.prog) :
    Calls Tryd.prog 5 args W fun e W' => ∃ v, e = .returned v ∧ Rows.mailIsSpec.post enc Tryd.prog Tryd.f5 false true false false W args v W' := by
  have hg := handle_of_laidTE hL
  obtain ⟨m, hm⟩ := maxlen_of hS
  have hW' := hW
  obtain ⟨p, q, hA0, hV, rfl, hfz, hnd⟩ := hW
  have hA : DataW.TrodAll enc Tryd.prog W 0 (fun _ => true) true Tryd.f5.params.toList args.toList ds p := hA0
  rw [Tryd.params5] at hA hval
  obtain ⟨v0, vs0, d0, ds0, p0, q0, hargs, rfl, rfl, h0, r0⟩ := trodAll_cons hA
  obtain ⟨v1, vs1, d1, ds1, p1, q1, rfl, rfl, rfl, h1, r1⟩ := trodAll_cons r0
  obtain ⟨v2, vs2, d2, ds2, p2, q2, rfl, rfl, rfl, h2, r2⟩ := trodAll_cons r1
  obtain ⟨v3, vs3, d3, ds3, p3, q3, rfl, rfl, rfl, h3, r3⟩ := trodAll_cons r2
  obtain ⟨rfl, rfl, rfl⟩ := trodAll_nil r3
  obtain rfl : args = #[v0, v1, v2, v3] := by cases args; simp_all
  obtain ⟨a2, len2, cap2, rfl⟩ := okWide_slice Tryd.underlying25 (hval 2 25 v2 rfl rfl)
  obtain ⟨x0, cs0, rfl, hx0, hb0⟩ := open_agg Tryd.underlying24 opens_amail (hval 0 24 v0 rfl rfl) h0
  obtain ⟨fv0, rfl, ha0, hc0, hd0, hv0⟩ := hx0
  have hz0 : MailSz x0 := ⟨ha0, hc0, hd0⟩
  obtain ⟨x1, rfl, rfl, rfl, wx1⟩ := Go.ChangeMaps.open_string Tryd.underlying9 (hval 1 9 v1 rfl rfl) h1
  obtain ⟨u2, k2⟩ := h2
  obtain ⟨x2, hx2, hb2⟩ := opens_mails _ _ _ _ _ _ _ _ _ _ k2
  obtain ⟨x3, rfl, rfl, rfl, wx3⟩ := Go.ChangeMaps.open_string Tryd.underlying9 (hval 3 9 v3 rfl rfl) h3
  have hbk := small_of hk
  simp only [List.cons_append, List.nil_append, Rows.uptoBulkAll, Rows.uptoBulk, Array.length_toList] at hbk
  have hi0 : x0.ident.size ≤ 1000000000 := by have := mail_bulk x0; omega
  have hx1 : x1.size ≤ 1048576 := by show x1.data.size ≤ _; omega
  have hi2 : ∀ y ∈ x2, y.ident.size ≤ 1000000000 := fun y hy => by have := mails_bulk x2 y hy; omega
  have hx3 : x3.size ≤ 1048576 := by show x3.data.size ≤ _; omega
  refine (law_mailIs x0 x1 x2 x3 _ _ W hv0 hz0 hi0 hx1 hx2 hi2 hx3 m hm hg).mono fun e W' he => ?_
  obtain ⟨he, hc⟩ := he
  subst he
  exact ⟨_, rfl, post_law hW' rfl rfl Tryd.underlying4 rfl laidOut (by decide +kernel) hc⟩

theorem reads (os : Os) {H : Type} (enc : TypeId × Value → H) : ∃ places, DataW.whole enc Tryd.prog ((laidWorldT os).forCall (fun _ _ => 0) ⟨#[], #[.agg #[.string ⟨#[]⟩, .string ⟨#[]⟩, .string ⟨#[]⟩, .slice none 0 0], .string ⟨#[]⟩, .slice none 0 0, .string ⟨#[]⟩], []⟩).memory Tryd.f5.params.toList Rows.mailIsSpec.vars false (#[.agg #[.string ⟨#[]⟩, .string ⟨#[]⟩, .string ⟨#[]⟩, .slice none 0 0], .string ⟨#[]⟩, .slice none 0 0, .string ⟨#[]⟩] : Array Value).toList 8 = some ([.agg [.lit (.string []), .lit (.string []), .lit (.string []), .nil], .lit (.string []), .nil, .lit (.string [])], [], places) :=
  ⟨[], by kernel_rfl⟩
set_option maxRecDepth 100000 in
theorem liftedUpto (os : Os) (started : os.Started) (H : Type) (enc : TypeId × Value → H) (F : Stop.Interp) :
    ReturnsInHanded {} Tryd.checked os 5 .any ((Rows.OpenSpec.upto Rows.mailIsSpec).preRow enc Tryd.prog Tryd.f5 Rows.mailIsUptoRow.domain false Rows.mailIsUptoRow.laid) (((Rows.OpenSpec.upto Rows.mailIsSpec).at F).post enc Tryd.prog Tryd.f5 false true false false) := by
  obtain ⟨places, hx⟩ := reads os enc
  refine returnsInHanded_of_row (C := Tryd.checked) (s := Rows.OpenSpec.upto Rows.mailIsSpec) own started (by kernel_rfl) Tryd.func5
    (witness_row_at (enc := enc) (C := Tryd.checked) false (laidWorldT os) #[.agg #[.string ⟨#[]⟩, .string ⟨#[]⟩, .string ⟨#[]⟩, .slice none 0 0], .string ⟨#[]⟩, .slice none 0 0, .string ⟨#[]⟩] rfl (by kernel_rfl) (by kernel_rfl) (by kernel_rfl)
      (OpenSpec.preRow_of_cond 8 hx (by kernel_rfl) (fun k hk => by cases hk; kernel_rfl) (by kernel_rfl) (laidWorldTE_met os _))) ?_
  intro W base args ds gs before hval hW _ hcond _ hL hS _
  exact contract H enc W base args ds gs before hval hW (hcond _ rfl) hL hS

theorem saidUpto : Rows.MailIsUptoSaid :=
  OpenClaim.holds_of_cond 5 Tryd.f5 rfl rfl rfl rfl rfl rfl rfl ⟨rfl, rfl, rfl, rfl, rfl⟩ rfl rfl rfl rfl rfl (by kernel_rfl) Tryd.func5 (by kernel_rfl)
    (of_decide_eq_true (by kernel_rfl)) (by unfold Func.isWrapper; first | (rw [if_pos (by decide +kernel)]; kernel_rfl) | (rw [if_neg (by decide +kernel)]; exact ⟨rfl, rfl⟩))
    (fun os started H enc _ F => by rw [OpenClaim.pre_eq_preRow]; exact liftedUpto os started H enc F)

theorem plain (f : FuncId) (fn : Func) (hf : Tryd.pinned.checked.prog.funcNamed "handstitch/handstitchlaw3.MailIs" = some f) (hfn : Tryd.pinned.checked.prog.funcs[f]? = some fn) :
    true = Tryd.pinned.checked.prog.looks [] ∧ ∀ (j : Nat) t, fn.params[j]? = some t → Tryd.pinned.checked.prog.wantsStandIn t = false := by
  obtain rfl : f = 5 := Option.some.inj ((show Tryd.prog.funcNamed "handstitch/handstitchlaw3.MailIs" = some 5 by kernel_rfl).symm.trans hf) |>.symm
  obtain rfl : fn = Tryd.f5 := (Option.some.inj (Tryd.func5.symm.trans hfn)).symm
  refine ⟨by kernel_rfl, fun j t ht => ?_⟩
  rw [Tryd.params5] at ht
  have hm := Array.mem_of_getElem? ht
  simp only [List.mem_toArray, List.mem_cons, List.not_mem_nil, or_false] at hm
  clear ht
  repeat' (first | (rcases hm with rfl | hm) | subst hm)
  all_goals exact (show Tryd.prog.wantsStandIn _ = false by kernel_rfl)

theorem cardUpto : Rows.MailIsUptoCardSaid :=
  Claim7.holds_tied_plain_at .later [] _ _ _ _ saidUpto (fun _ h => by cases h) (by kernel_rfl) (fun _ h => by cases h) mailIsUpto_row_tie rfl ⟨rfl, rfl⟩ (by kernel_rfl) rfl plain (by kernel_rfl)
end Go.Proofs.YtnekhaacapdmfaaDoor.lawMailIs
