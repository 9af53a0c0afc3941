/-
  THE LAW LettersBack, walked.
-/
import Derived.Test.YtcgjegjnodopoaaDoorBytesOf
import Derived.Test.YtcgjegjnodopoaaDoorMany2
import Derived.Test.YtcgjegjnodopoaaDoorAs
import Derived.Deep.Cut
import Derived.Lib.SlBytesConst
namespace Go.Proofs.YtcgjegjnodopoaaDoor
open Go.RowKit

theorem enc_hi : encL [104, 105] = [97, 71, 107, 61, 10] := by decide +kernel
theorem dec_fault_enc {l : List UInt8} (h : l.length ≤ 40000) : decFault (toB (encL l)) = 0 ∧ decodeR (toB (encL l)) = l := by
  have h1 : decFault (toB (encL l)) = 0 := by
    unfold decFault
    rw [toB_data, dec_encL, if_pos ⟨h, rfl⟩]
  exact ⟨h1, by unfold decodeR; rw [if_pos h1, toB_data, dec_encL]⟩
theorem dec_ok {s : ByteArray} (h : decFault s = 0) : (decodeR s).length ≤ 40000 ∧ encL (decodeR s) = s.data.toList := by
  have h' := h
  unfold decFault at h
  split at h
  · rename_i q
    unfold decodeR
    rw [if_pos h']
    exact q
  · cases h
/-- '[]byte(s)', its cells -/
theorem conv_row {w : World} {s : ByteArray} (hs : s.size ≤ maxLen) : ∃ (c : Nat) (w' : World),
    (convert 9 22 (.string s)).run Tryd.prog w = .ok (.slice (some ⟨w.heap.size, 0, none⟩) s.size c) w' ∧ Chg Never w w' ∧ s.size ≤ c ∧ c ≤ maxLen ∧ w.heap.size < w'.heap.size ∧
      (∀ (i : Nat) (x : UInt8), s.data.toList[i]? = some x → w'.cell? ⟨w.heap.size, i, none⟩ = some (.int .u8 x.toNat) ∧ w'.frozen? ⟨w.heap.size, i, none⟩ = false) := by
  refine ⟨_, _, run_bytes_of_string w _ _ 5 s Tryd.underlying9 Tryd.underlying22 Tryd.underlying5, (Chg.refl Never w).drew.alloc _, grownCap_ge w s.size 0 5, grownCap_le_maxLen w s.size 0 5 hs, by simp, ?_⟩
  intro i x hx
  have hge := grownCap_ge w s.size 0 5
  have hi := (List.getElem?_eq_some_iff.1 hx).1
  rw [← Lib.size_eq] at hi
  have hb := heap_alloc_new w.drew (.cells (bytesRow s (grownCap w s.size 0 5)) 5 ((bytesRow s (grownCap w s.size 0 5)).size, (bytesRow s (grownCap w s.size 0 5)).size + 1))
  have hb' : (w.drew.alloc (.cells (bytesRow s (grownCap w s.size 0 5)) 5 ((bytesRow s (grownCap w s.size 0 5)).size, (bytesRow s (grownCap w s.size 0 5)).size + 1))).heap[w.heap.size]? = _ := hb
  constructor
  · simp only [World.cell?, hb']
    rw [bytesRow, Array.getElem?_append_left (by simpa using hi), Array.getElem?_map]
    rw [Array.getElem?_toList] at hx
    rw [hx]; rfl
  · simp only [World.frozen?, hb']
    have : i < (bytesRow s (grownCap w s.size 0 5)).size := by
      unfold bytesRow
      rw [Array.size_append, Array.size_map]
      have : s.data.size = s.size := rfl
      omega
    simp
    omega
/-- a byte of it changed -/
theorem rdv_changed {w' : World} {B c n : Nat} {l : List UInt8} {i : Nat} {t : UInt8} (hn : n = l.length) (hc : l.length ≤ c) (hm : c ≤ maxLen) (hi : i < l.length)
    (h : ∀ (j : Nat) (x : UInt8), l[j]? = some x → w'.cell? ⟨B, j, none⟩ = some (.int .u8 x.toNat) ∧ w'.frozen? ⟨B, j, none⟩ = false) :
    Rdv (w'.setCell ⟨B, i, none⟩ (.int .u8 t.toNat)) Never (.slice (some ⟨B, 0, none⟩) n c) (l.set i t) := by
  subst hn
  refine ⟨some ⟨B, 0, none⟩, c, by rw [List.length_set], by rw [List.length_set]; exact hc, hm, ?_⟩
  intro j x hx
  have hj := (List.getElem?_eq_some_iff.1 hx).1
  rw [List.length_set] at hj
  refine ⟨B, 0, [.int .u8 x.toNat], rfl, fun h => h, ?_, rfl⟩
  intro q u hq
  match q, hq with
  | 0, hq =>
    simp only [List.getElem?_cons_zero, Option.some.injEq] at hq
    subst hq
    rw [show 0 + j * Dat.n UInt8 + 0 = j by show 0 + j * 1 + 0 = j; omega]
    by_cases e : j = i
    · subst e
      rw [List.getElem?_set_self hi] at hx
      injection hx with hx
      subst hx
      exact World.cell?_setCell_same _ _ _ (h j l[j] (by simp [hi])).1
    · rw [List.getElem?_set_ne (fun q => e q.symm)] at hx
      rw [World.cell?_setCell_other _ _ _ _ (by simp [e])]
      exact (h j x hx).1
theorem encR_ok {l : List UInt8} (h : l.length ≤ 40000) : encodeR l = toB (encL l) ∧ encFault l = 0 := ⟨if_neg (by omega), if_neg (by omega)⟩
theorem back_same {s : ByteArray} (h : decFault s = 0) : encodeR (decodeR s) = s ∧ encFault (decodeR s) = 0 := by
  obtain ⟨h1, h2⟩ := dec_ok h
  obtain ⟨h3, h4⟩ := encR_ok h1
  exact ⟨by rw [h3, h2, toB_of], h4⟩
theorem rdv_hi {w : World} {g : Nat} {e : TypeId} {fr : Nat × Nat} (h : w.heap[g]? = some (.cells #[.int .u8 104, .int .u8 105] e fr)) : Rdv w Never (.slice (some ⟨g, 0, none⟩) 2 2) ([104, 105] : List UInt8) := by
  refine ⟨some ⟨g, 0, none⟩, 2, rfl, Nat.le_refl _, by unfold maxLen; omega, ?_⟩
  intro i x hx
  match i, hx with
  | 0, hx =>
    simp only [List.getElem?_cons_zero, Option.some.injEq] at hx
    subst hx
    refine ⟨g, 0, _, rfl, fun h => h, ?_, rfl⟩
    intro j u hj
    match j, hj with
    | 0, hj => simp only [List.getElem?_cons_zero, Option.some.injEq] at hj; subst hj; simp [World.cell?, h]
  | 1, hx =>
    simp only [List.getElem?_cons_succ, List.getElem?_cons_zero, Option.some.injEq] at hx
    subst hx
    refine ⟨g, 0, _, rfl, fun h => h, ?_, rfl⟩
    intro j u hj
    match j, hj with
    | 0, hj => simp only [List.getElem?_cons_zero, Option.some.injEq] at hj; subst hj; simp [World.cell?, h, Dat.n]
theorem str_same (x : ByteArray) : (x.toList == x.toList) = true := by simp

set_option maxHeartbeats 4000000 in
set_option maxRecDepth 100000 in
theorem law_lettersBack (l : List UInt8) (at_ : Int) (to : UInt8) (s : ByteArray) (more : List UInt8) (vl vm : Value) (w : World) (hl : Rdv w Never vl l) (hat : I64 at_) (hs : s.size ≤ 1048576) (hmo : Rdv w Never vm more) (m : Int) (hm : w.cell? ⟨1, 0, none⟩ = some (.int .i64 m)) :
    Calls Tryd.prog 4 #[vl, .int .i64 at_, .int .u8 to.toNat, .string s, vm] w fun e w' => e = .returned (.bool true) ∧ Chg Never w w' := by
  obtain ⟨a, cap, rfl, h1, h2, _⟩ := rdv_slice hl
  obtain ⟨a', cap', rfl, g1, g2, _⟩ := rdv_slice hmo
  unfold maxLen at h2 g2
  have hEh := encR_ok (l := [104, 105]) (by decide)
  rw [enc_hi] at hEh
  have HE1 := Lib.hid hEh.1
  have HE2 := Lib.hid hEh.2
  clear hEh
  have hcv := Lib.run_convert_bytes_const (P := Tryd.prog) w 22 5 #[.int .u8 104, .int .u8 105] 2 2 Tryd.underlying22 Tryd.underlying5
  go_enter Tryd.func4, Tryd.ntmps4
  go_wp2_with fail
  refine (Encode_any [104, 105] _ _ (rdv_hi (heap_alloc_new _ _))).mono ?_
  rintro e w1 ⟨rfl, hw⟩
  have hw : Chg Never w w1 := ((Chg.refl Never w).alloc _).trans hw
  rw [HE1.out, HE2.out, errV_zero]
  have tfact : ((toB [97, 71, 107, 61, 10]).toList == [97, 71, 107, 61, 10]) = true := by rw [Lib.toList_data, toB_data]; rfl
  go_wp2_with fail
  refine (Decode_any s _ (by omega) m (hw.cellNever hm)).mono ?_
  rintro e w2 ⟨r2, rfl, hc2, hr2⟩
  have hw := hw.trans hc2
  have hr2 := hr2.sub (O' := Never) (fun _ _ h => h.elim)
  clear hc2 tfact
  go_upto_region 5 with fail
  go_cut [14, 45] from 39 (fun _ tb wx => tb = .bool (decFault s == 0) ∧ wx = w2)
  case first =>
    by_cases hf : decFault s = 0
    · rw [hf, errV_zero]
      go_wp2_with fail
      go_meet
      case rel => exact ⟨by rw [hf]; rfl, rfl⟩
    · have hf2 : (decFault s == 0) = false := by simp [hf]
      rw [errV_pos hf]
      go_wp2_with fail
      go_meet
      case rel => exact ⟨by rw [hf2], rfl⟩
  case rest =>
    obtain ⟨rfl, rfl⟩ := hcut
    rename World => w2
    obtain ⟨B, hB⟩ : ∃ B, (decFault s == 0) = B := ⟨_, rfl⟩
    have HB := Lib.hid hB
    rw [hB]
    clear hB
    go_upto_if 45 with fail
    go_cut [15, 16] from 45 (fun _ _ wx => Hid (Chg Never w wx))
    case first =>
      cases B with
      | false =>
        go_wp2_with fail
        go_meet
        case rel => exact hw
      | true =>
        have hf : decFault s = 0 := by have := HB.out; simpa using this
        obtain ⟨hk1, hk2⟩ := back_same hf
        have HK1 := Lib.hid hk1
        have HK2 := Lib.hid hk2
        clear hf hk1 hk2
        have hss := str_same s
        go_wp2_with fail
        refine (Encode_any (decodeR s) _ _ hr2).mono ?_
        rintro e w3 ⟨rfl, hc3⟩
        have hw := hw.trans hc3
        rw [HK1.out, HK2.out, errV_zero]
        go_wp2_with fail
        go_meet
        case rel => exact hw
    case rest =>
      clear hw hr2 HB
      have hw := hcut.out
      clear hcut
      by_cases hlong : 40000 < l.length
      · have HR : Hid (encFault l = 3) := if_pos hlong
        have t4 : decide ((40000 : Int) < (l.length : Int)) = true := decide_eq_true (by omega)
        go_wp2_with fail
        refine (Encode_any l _ _ (hl.never hw)).mono ?_
        rintro e w4 ⟨rfl, hc4⟩
        have hw := hw.trans hc4
        rw [HR.out, errV_pos (by decide)]
        go_wp2_with fail
        go_ret
        exact ⟨rfl, hw⟩
      · obtain ⟨he1, he2⟩ := encR_ok (l := l) (by omega)
        obtain ⟨hd1, hd2⟩ := dec_fault_enc (l := l) (by omega)
        have hts := enc_short_len (l := l) (by omega)
        have HE1 := Lib.hid he1
        have HE2 := Lib.hid he2
        have HD1 := Lib.hid hd1
        have HD2 := Lib.hid hd2
        clear he1 he2 hd1 hd2
        go_wp2_with fail
        refine (Encode_any l _ _ (hl.never hw)).mono ?_
        rintro e w4 ⟨rfl, hc4⟩
        have hw := hw.trans hc4
        rw [HE1.out, HE2.out, errV_zero]
        obtain ⟨t, ht⟩ : ∃ t, toB (encL l) = t := ⟨_, rfl⟩
        have HT : Hid (t.data.toList = encL l) := by unfold Hid; rw [← ht, toB_data]
        have htz : t.size ≤ 60000 := by rw [Lib.size_eq, HT.out]; exact hts
        rw [ht] at HD1 HD2 ⊢
        clear hts hc4
        go_wp2_with fail
        refine (Decode_any t _ (by omega) m (hw.cellNever hm)).mono ?_
        rintro e w5 ⟨r5, rfl, hc5, hr5⟩
        have hw := hw.trans hc5
        have hr5 := hr5.sub (O' := Never) (fun _ _ h => h.elim)
        rw [HD2.out] at hr5
        rw [HD1.out, errV_zero]
        have hv5 := conv_str hr5
        have hvl := conv_str (hl.never hw)
        have hss := str_same (toB l)
        clear hc5 hr5
        go_upto_region 15 with fail
        clear hv5 hvl hss
        go_cut [96] from 82 (fun tb wx => (∃ B : Bool, tb = .bool B ∧ Hid (B = true → ∃ (i : Nat) (x : UInt8), at_ = i ∧ (encL l)[i]? = some x ∧ x ≠ to)) ∧ wx = w5)
        case first =>
          by_cases q0 : at_ < 0
          · have q0' : ¬ 0 ≤ at_ := by omega
            go_wp2_with fail
            go_meet
            case rel => exact ⟨⟨_, rfl, fun h => by cases h⟩, rfl⟩
          · obtain ⟨i, rfl⟩ : ∃ i : Nat, at_ = i := ⟨at_.toNat, by omega⟩
            by_cases q1 : i < t.size
            · have hxi : Hid ((encL l)[i]? = some t[i]) := by rw [Hid, ← HT.out, Array.getElem?_toList, Array.getElem?_eq_getElem q1]; rfl
              obtain ⟨x, hx⟩ : ∃ x, t[i] = x := ⟨_, rfl⟩
              rw [hx] at hxi
              by_cases q2 : x = to
              · have tne : ((x.toNat : Int) != (to.toNat : Int)) = false := by rw [q2]; simp
                clear q2
                go_wp2_with fail
                go_meet
                case rel => exact ⟨⟨_, rfl, fun h => by cases h⟩, rfl⟩
              · have tne : ((x.toNat : Int) != (to.toNat : Int)) = true := by
                  simp only [bne_iff_ne, ne_eq]
                  intro e
                  exact q2 (UInt8.toNat_inj.1 (by omega))
                have q3 := Lib.hid q2
                clear q2
                go_wp2_with fail
                go_meet
                case rel => exact ⟨⟨_, rfl, fun _ => ⟨i, x, rfl, hxi.out, q3.out⟩⟩, rfl⟩
            · have q1' : ¬ (i : Int) < (t.size : Int) := by omega
              go_wp2_with fail
              go_meet
              case rel => exact ⟨⟨_, rfl, fun h => by cases h⟩, rfl⟩
        case rest =>
          obtain ⟨⟨B, rfl, HB⟩, rfl⟩ := hcut
          rename World => w5
          have hts : Hid (encL l = t.data.toList) := HT.out.symm
          go_upto_if 96 with fail
          go_cut [19, 20, 21] from 96 (fun _ _ _ wx => Hid (Chg Never w wx))
          case first =>
            cases B with
            | false =>
              go_wp2_with fail
              go_meet
              case rel => exact hw
            | true =>
              obtain ⟨i, x, rfl, hix, hne⟩ := HB.out rfl
              clear HB
              rw [hts.out] at hix
              have hil := (List.getElem?_eq_some_iff.1 hix).1
              have hi0 : i < t.size := by rw [Lib.size_eq]; exact hil
              obtain ⟨c6, w6, hrun6, hc6, hz1, hz2, hz3, hcell⟩ := conv_row (w := w5) (s := t) (by unfold maxLen; omega)
              obtain ⟨d0, d1⟩ := hcell i x hix
              have hr6 := rdv_changed (t := to) (Lib.size_eq t) (by rw [← Lib.size_eq]; exact hz1) hz2 hil hcell
              have hw7 : Chg Never w (w6.setCell ⟨w5.heap.size, i, none⟩ (.int .u8 to.toNat)) := (hw.trans hc6).setCell (.inl hw.size) _
              have hcv6 := conv_str hr6
              have hcs : Hid ((toB (t.data.toList.set i to)).size ≤ 60000) := by
                rw [Hid, Lib.size_eq, toB_data, List.length_set, ← Lib.size_eq]; exact htz
              have hdiff : Hid (decFault (toB (t.data.toList.set i to)) = 0 → decodeR (toB (t.data.toList.set i to)) ≠ l) := fun h0 e => by
                obtain ⟨_, h2⟩ := dec_ok h0
                rw [e, toB_data, hts.out] at h2
                have := congrArg (fun q : List UInt8 => q[i]?) h2
                simp only [List.getElem?_set_self hil, hix, Option.some.injEq] at this
                exact hne this
              clear hne hix hcell hr6 hc6
              obtain ⟨u, hu⟩ : ∃ u, toB (t.data.toList.set i to) = u := ⟨_, rfl⟩
              rw [hu] at hcv6 hcs hdiff
              clear hu
              go_wp2_with fail
              refine (Decode_any u _ (by have := hcs.out; omega) m (hw7.cellNever hm)).mono ?_
              rintro e w8 ⟨r8, rfl, hc8, hr8⟩
              have hw8 := hw7.trans hc8
              have hr8 := hr8.sub (O' := Never) (fun _ _ h => h.elim)
              clear hc8 hw7 hcv6 d0 d1 hrun6 hw
              by_cases hf : decFault u = 0
              · have hnl := hdiff.out hf
                have hv8 := conv_str hr8
                have hvl := conv_str (hl.never hw8)
                have tne : ((toB (decodeR u)).toList == (toB l).toList) = false := str_beq_false (fun e => hnl (toB_inj e))
                rw [hf, errV_zero]
                clear hf hnl hr8
                go_wp2_with fail
                go_meet
                case rel => exact hw8
              · rw [errV_pos hf]
                clear hr8
                go_wp2_with fail
                go_meet
                case rel => exact hw8
          case rest =>
            clear hw HB
            have hw := hcut.out
            clear hcut
            by_cases h57 : more.length = 57
            · have t57 : ((more.length : Int) != 57) = false := by simp [h57]
              have H57 := Lib.hid h57
              have hm57 : more.length ≤ 57 := by omega
              clear h57
              by_cases h1000 : 1000 < l.length
              · go_wp2_with fail
                go_ret
                exact ⟨rfl, hw⟩
              · rename World => wB
                have hd0 : OwnN 5 wB wB (.slice none 0 0) ([] : List UInt8) := ownN_nil _ (Chg.refl _ _)
                have hmB := hmo.never hw
                have hlB := hl.never hw
                have hen : Hid (toB (encL (more ++ l)) = toB (encL more) ++ t) := by
                  rw [Hid, enc_line _ _ H57.out, toB_append, hts.out, toB_of]
                obtain ⟨ha1, ha2⟩ := encR_ok (l := more ++ l) (by rw [List.length_append]; omega)
                obtain ⟨hb1, hb2⟩ := encR_ok (l := more) (by omega)
                have HA1 := Lib.hid ha1
                have HA2 := Lib.hid ha2
                have HM1 := Lib.hid hb1
                have HM2 := Lib.hid hb2
                have hmz : Hid ((toB (encL more)).size ≤ 60000) := by rw [Hid, Lib.size_eq, toB_data]; exact enc_short_len (by omega)
                clear ha1 ha2 hb1 hb2
                have hl1 : ([] : List UInt8).length + more.length ≤ 1000000000 := by show 0 + _ ≤ _; omega
                have hl2 : ([] ++ more : List UInt8).length + l.length ≤ 1000000000 := by rw [List.length_append]; show 0 + _ + _ ≤ _; omega
                go_wp2_with (at_builtin; first | (refine wpList_many2 (by rfl) _ _ 22 (by rfl) elemOk_byte (O := Never) (l := []) (m := more) (by rfl) (by rfl) hd0.own (hd0.away hmB) (fun _ h => h.elim) hl1 ?_; intro v1 wC hown1 hcC hkC; have hd1 := hd0.step hown1 hcC hkC; clear hown1 hcC hkC hd0) | (refine wpList_many2 (by rfl) _ _ 22 (by rfl) elemOk_byte (O := Never) (l := [] ++ more) (m := l) (by rfl) (by rfl) hd1.own (hd1.away hlB) (fun _ h => h.elim) hl2 ?_; intro v2 wD hown2 hcD hkD; have hd2 := hd1.step hown2 hcD hkD; clear hown2 hcD hkD hd1))
                have hrd : Rdv wD Never v2 (more ++ l) := hd2.own.rdv
                have hwD := hw.trans hd2.chg
                have hmD : Rdv wD Never _ more := (hd2.away hmB).sub (fun _ _ h => h.elim)
                clear hd2 hmB hlB
                try go_wp2_with fail
                refine (Encode_any (more ++ l) _ _ hrd).mono ?_
                rintro e wE ⟨rfl, hcE⟩
                have hwE := hwD.trans hcE
                have hmE := hmD.never hcE
                rw [HA1.out, HA2.out, errV_zero]
                clear hcE hwD hmD hrd
                go_wp2_with fail
                refine (Encode_any more _ _ hmE).mono ?_
                rintro e wF ⟨rfl, hcF⟩
                have hwF := hwE.trans hcF
                rw [HM1.out, HM2.out, errV_zero, hen.out]
                clear hcF hwE hmE
                obtain ⟨y, hy⟩ : ∃ y, toB (encL more) = y := ⟨_, rfl⟩
                rw [hy] at hmz ⊢
                have hyz := hmz.out
                have hss := str_same (y ++ t)
                clear hmz hy
                go_wp2_with fail
                go_ret
                exact ⟨rfl, hwF⟩
            · have t57 : ((more.length : Int) != 57) = true := by simp; omega
              clear h57
              go_wp2_with fail
              go_ret
              exact ⟨rfl, hw⟩
end Go.Proofs.YtcgjegjnodopoaaDoor
