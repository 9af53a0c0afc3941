/-
  PARTS: THE WALKS of the document's Dec and span (handstitchref2).; THE WALK of the document's OpenOf.; A ROW OF MAILS: its element type.
-/
import Derived.Test.YtjiaidchcldocaaGreatDoorPf7
import Derived.Test.YtjiaidchcldocaaGreatDoorPf2
import Derived.Test.YtjiaidchcldocaaGreatDoorPf6
import Derived.Test.YtjiaidchcldocaaGreatDoorPf10
import Derived.Test.YtjiaidchcldocaaGreatDoorPf12
import Derived.Test.YtjiaidchcldocaaGreatDoorPf1
import Derived.Deep.RegionHeld3
import Derived.BigQuiet
import Derived.Deep.QuietTactic
set_option linter.unusedVariables false
set_option linter.unusedSimpArgs false
namespace Go.Proofs.YtjiaidchcldocaaGreatDoor
open Go.RowKit

def digitsB : ByteArray := ⟨#[48, 49, 50, 51, 52, 53, 54, 55, 56, 57]⟩
theorem digits_size : digitsB.size = 10 := rfl
theorem digit_fin : ∀ k : Fin 10, digitsB.extract k.1 (k.1 + 1) = toB [UInt8.ofNat (48 + k.1)] := by decide +kernel
theorem digit_slice {N : Nat} (hN : N < 10) (w : World) : (Instr.slice 9 (.string digitsB) (some (.int .i64 (N : Int))) (some (.int .i64 ((N : Int) + 1))) none).run Tryz.prog w = .ok (.string (toB [UInt8.ofNat (48 + N)])) w := by
  rw [run_slice_string_if (h := Tryz.underlying9), if_pos ⟨by omega, by rw [digits_size]; omega⟩, if_pos ⟨by omega, by omega⟩, ← digit_fin ⟨N, hN⟩]
  rfl
theorem dec_small {k : Nat} (h : k < 10) : Lib.decDigits k = [UInt8.ofNat (48 + k)] := by rw [Lib.decDigits, dif_pos h]
theorem dec_big {k : Nat} (h : ¬ k < 10) : Lib.decDigits k = Lib.decDigits (k / 10) ++ [UInt8.ofNat (48 + k % 10)] := by conv => lhs; rw [Lib.decDigits, dif_neg h]
theorem toB_cat (a b : List UInt8) : toB a ++ toB b = toB (a ++ b) := by
  apply ByteArray.ext
  apply Array.toList_inj.1
  rw [bytes_append, toB_data, toB_data, toB_data]

set_option maxHeartbeats 1000000 in
set_option maxRecDepth 100000 in
theorem dec_any (n : Nat) (hn : n < 1000000) (w : World) :
    Calls Tryz.prog 49 #[.int .i64 n] w fun e w' => e = .returned (.string (toB (Lib.decDigits n))) ∧ w = w' := by
  go_enter Tryz.func49, Tryz.ntmps49
  go_wp2_with fail
  go_loop [0, 3] (fun nv sv => ∃ (k : Nat) (acc : List UInt8), nv = .int .i64 k ∧ sv = .string (toB acc) ∧ acc.length + k ≤ n ∧ Hid (Lib.decDigits k ++ acc = Lib.decDigits n)) (fun nv _ => (intOf nv).toNat)
  case atStart => exact ⟨n, [], rfl, rfl, by simp, by rw [Hid, List.append_nil]⟩
  case round =>
    obtain ⟨k, acc, rfl, rfl, hk, hI⟩ := hrel
    by_cases hb : k < 10
    · have hrun := digit_slice (N := k) hb
      have HR : Hid (toB [UInt8.ofNat (48 + k)] ++ toB acc = toB (Lib.decDigits n)) := by rw [Hid, toB_cat, ← dec_small hb, hI.out]
      have s1 : IntKind.i64.wrap ((k : Int) + 1) = (k : Int) + 1 := IntWalk.i64_in _ (by omega)
      have z1 : ¬ (9223372036854775807 < (toB [UInt8.ofNat (48 + k)]).size + (toB acc).size) := by rw [toB_size', toB_size']; simp; omega
      unfold digitsB at hrun
      generalize toB [UInt8.ofNat (48 + k)] = D at hrun HR z1
      clear hI
      go_wp2_with fail
      go_ret
      exact ⟨by rw [← HR.out]; rfl, rfl⟩
    · have hrun := digit_slice (N := k % 10) (by omega)
      have HR : Hid (toB [UInt8.ofNat (48 + k % 10)] ++ toB acc = toB (UInt8.ofNat (48 + k % 10) :: acc)) := by rw [Hid, toB_cat]; rfl
      have hI2 : Hid (Lib.decDigits (k / 10) ++ (UInt8.ofNat (48 + k % 10) :: acc) = Lib.decDigits n) := by
        have := hI.out
        rw [dec_big hb, List.append_assoc] at this
        exact this
      have z1 : ¬ (9223372036854775807 < (toB [UInt8.ofNat (48 + k % 10)]).size + (toB acc).size) := by rw [toB_size', toB_size']; simp; omega
      have hlen : (UInt8.ofNat (48 + k % 10) :: acc).length + k / 10 ≤ n := by rw [List.length_cons]; omega
      unfold digitsB at hrun
      rw [show (((k % 10 : Nat)) : Int) = (k : Int) % 10 by omega] at hrun
      generalize toB [UInt8.ofNat (48 + k % 10)] = D at hrun HR z1
      have s1 : IntKind.i64.wrap ((k : Int) % 10 + 1) = (k : Int) % 10 + 1 := IntWalk.i64_in _ (by omega)
      clear hI
      go_wp2_with fail
      go_round
      case rel => exact ⟨k / 10, _, by go_num, by rw [HR.out], hlen, hI2⟩
      case measure => simp [intOf]; omega
set_option maxHeartbeats 1000000 in
set_option maxRecDepth 100000 in
theorem refSpan_any (a : Int) (m : Nat) (h0 : 0 ≤ a) (h1 : a < 999) (hm : m < 1000) (w : World) :
    Calls Tryz.prog 159 #[.int .i64 a, .int .i64 m] w fun e w' => e = .returned (.string (toB (spanL a m))) ∧ w = w' := by
  obtain ⟨x, rfl⟩ : ∃ x : Nat, a = x := ⟨a.toNat, by omega⟩
  have hD2 := Lib.hid (dec_any m (by omega) w)
  have hz : ∀ n, n < 1001 → (toB (Lib.decDigits n)).size ≤ 1000 := fun n hn => by
    rw [toB_size', Lib.decDigits_length]
    have : ∀ k, k < 1001 → Lib.nDigits k ≤ 1000 := by
      intro k hk
      rw [Lib.nDigits]
      split
      · omega
      · rw [Lib.nDigits]
        split
        · omega
        · rw [Lib.nDigits]
          split
          · omega
          · rw [Lib.nDigits]
            split
            · omega
            · omega
    exact this n hn
  have z2 := hz m (by omega)
  have q1 : (⟨#[44]⟩ : ByteArray).size = 1 := rfl
  by_cases hp : 0 < m
  · have hD : Calls Tryz.prog 49 #[.int .i64 ((x : Int) + 1)] w fun e w' => e = .returned (.string (toB (Lib.decDigits (x + 1)))) ∧ w = w' := by
      have := dec_any (x + 1) (by omega) w
      rw [show ((x + 1 : Nat) : Int) = (x : Int) + 1 by omega] at this
      exact this
    have hD := Lib.hid hD
    have z1 := hz (x + 1) (by omega)
    have HS : Hid (toB (Lib.decDigits (x + 1)) ++ (⟨#[44]⟩ : ByteArray) ++ toB (Lib.decDigits m) = toB (spanL (x : Int) m)) := by
      rw [Hid, show (⟨#[44]⟩ : ByteArray) = toB [44] from rfl, toB_cat, toB_cat]
      unfold spanL
      rw [if_pos hp, show (x : Int) + 1 = ((x + 1 : Nat) : Int) by omega, itoa_nat, itoa_nat]
    have s1 : IntKind.i64.wrap ((x : Int) + 1) = (x : Int) + 1 := IntWalk.i64_in _ (by omega)
    have tp : decide ((0 : Int) < (m : Int)) = true := decide_eq_true (by omega)
    generalize toB (Lib.decDigits (x + 1)) = X at hD z1 HS
    generalize toB (Lib.decDigits m) = Y at hD2 z2 HS
    have n1 : ¬ (9223372036854775807 < X.size + (⟨#[44]⟩ : ByteArray).size) := by rw [q1]; omega
    have n2 : ¬ (9223372036854775807 < (X ++ (⟨#[44]⟩ : ByteArray)).size + Y.size) := by rw [ByteArray.size_append, q1]; omega
    clear hz
    go_enter Tryz.func159, Tryz.ntmps159
    go_wp2_with fail
    refine hD.out.mono ?_
    rintro e w1 ⟨rfl, rfl⟩
    go_wp2_with fail
    refine hD2.out.mono ?_
    rintro e w1 ⟨rfl, rfl⟩
    go_wp2_with fail
    go_ret
    exact ⟨by rw [← HS.out]; rfl, rfl⟩
  · have hD := Lib.hid (dec_any x (by omega) w)
    have z1 := hz x (by omega)
    have HS : Hid (toB (Lib.decDigits x) ++ (⟨#[44]⟩ : ByteArray) ++ toB (Lib.decDigits m) = toB (spanL (x : Int) m)) := by
      rw [Hid, show (⟨#[44]⟩ : ByteArray) = toB [44] from rfl, toB_cat, toB_cat]
      unfold spanL
      rw [if_neg hp, itoa_nat, itoa_nat]
    have tp : decide ((0 : Int) < (m : Int)) = false := decide_eq_false (by omega)
    generalize toB (Lib.decDigits x) = X at hD z1 HS
    generalize toB (Lib.decDigits m) = Y at hD2 z2 HS
    have n1 : ¬ (9223372036854775807 < X.size + (⟨#[44]⟩ : ByteArray).size) := by rw [q1]; omega
    have n2 : ¬ (9223372036854775807 < (X ++ (⟨#[44]⟩ : ByteArray)).size + Y.size) := by rw [ByteArray.size_append, q1]; omega
    clear hz
    go_enter Tryz.func159, Tryz.ntmps159
    go_wp2_with fail
    refine hD.out.mono ?_
    rintro e w1 ⟨rfl, rfl⟩
    go_wp2_with fail
    refine hD2.out.mono ?_
    rintro e w1 ⟨rfl, rfl⟩
    go_wp2_with fail
    go_ret
    exact ⟨by rw [← HS.out]; rfl, rfl⟩
end Go.Proofs.YtjiaidchcldocaaGreatDoor
namespace Go.Proofs.YtjiaidchcldocaaGreatDoor
open Go.RowKit

def OpenOfPost (l : List Mail) (w : World) (e : Ending) (w' : World) : Prop := ∃ r, e = .returned (.tuple #[.string (toB (openMs l).1), r, .int .i64 (openMs l).2.2]) ∧ Chg Never w w' ∧ Rdv w' Never r (openMs l).2.1
theorem openOf_no {l : List Mail} {w w' : World} {e : Ending} {k : Int} (hk : openMs l = ([], [], k)) (he : e = .returned (.tuple #[.string ⟨#[]⟩, .slice none 0 0, .int .i64 k])) (hc : Chg Never w w') : OpenOfPost l w e w' :=
  ⟨_, by rw [hk]; exact he, hc, by rw [hk]; exact rdv_nil _ _⟩
def tL (ps : List Piece) : List ByteArray := ps.map fun x => toB x.title
def aL (ps : List Piece) : List Int := ps.map fun x => (x.at' : Int)
def mL (ps : List Piece) : List Int := ps.map fun x => (x.many : Int)
def pL (ps : List Piece) : List (List Change) := ps.map fun x => x.patch
theorem part_from {m : Mail} {u v p t : List UInt8} (h : patW.isPrefixOf m.subject.data.toList = true) (hc : cutSub [47] m.subject.data.toList = some (u, v)) (hp : cutSub [93, 32] m.subject.data.toList = some (p, t)) (hlt : u.length < p.length) :
    mpartOf m = match numM 1 ((m.subject.data.toList.drop 7).take (u.length - 7)), numM 1 ((m.subject.data.toList.drop (u.length + 1)).take (p.length - (u.length + 1))) with
        | some x, some y => if PartOk m t x y then some (t, x, y) else none
        | _, _ => none := by
  obtain ⟨_, q⟩ := ref_slash h hc
  rcases q with ⟨q, _⟩ | ⟨p', t', q1, q⟩
  · rw [hp] at q; cases q
  · rw [hp] at q1
    injection q1 with q1
    injection q1 with q1 q2
    subst q1; subst q2
    rcases q with ⟨q, _⟩ | ⟨_, q⟩
    · omega
    · exact q
theorem part_early {m : Mail} {u v p t : List UInt8} (h : patW.isPrefixOf m.subject.data.toList = true) (hc : cutSub [47] m.subject.data.toList = some (u, v)) (hp : cutSub [93, 32] m.subject.data.toList = some (p, t)) (hlt : p.length < u.length) : mpartOf m = none := by
  obtain ⟨_, q⟩ := ref_slash h hc
  rcases q with ⟨q, _⟩ | ⟨p', t', q1, q⟩
  · rw [hp] at q; cases q
  · rw [hp] at q1
    injection q1 with q1
    injection q1 with q1 q2
    subst q1; subst q2
    rcases q with ⟨_, q⟩ | ⟨q, _⟩
    · exact q
    · omega
theorem part_nobr {m : Mail} {u v : List UInt8} (h : patW.isPrefixOf m.subject.data.toList = true) (hc : cutSub [47] m.subject.data.toList = some (u, v)) (hp : cutSub [93, 32] m.subject.data.toList = none) : mpartOf m = none := by
  obtain ⟨_, q⟩ := ref_slash h hc
  rcases q with ⟨_, q⟩ | ⟨p', t', q1, _⟩
  · exact q
  · rw [hp] at q1; cases q1
theorem part_ne {m : Mail} {u v p t : List UInt8} (h : patW.isPrefixOf m.subject.data.toList = true) (hc : cutSub [47] m.subject.data.toList = some (u, v)) (hp : cutSub [93, 32] m.subject.data.toList = some (p, t)) : u.length ≠ p.length := by
  obtain ⟨_, q⟩ := ref_slash h hc
  rcases q with ⟨q, _⟩ | ⟨p', t', q1, q⟩
  · rw [hp] at q; cases q
  · rw [hp] at q1
    injection q1 with q1
    injection q1 with q1 q2
    subst q1; subst q2
    rcases q with ⟨q, _⟩ | ⟨q, _⟩ <;> omega
theorem part_seven {m : Mail} {u v : List UInt8} (h : patW.isPrefixOf m.subject.data.toList = true) (hc : cutSub [47] m.subject.data.toList = some (u, v)) : 7 ≤ u.length := (ref_slash h hc).1
theorem idS (a b : Nat) : toB (Lib.decDigits a) ++ ⟨#[46]⟩ ++ toB (Lib.decDigits b) = toB (idL a b) := id_str a b
theorem refGo_len (ps : List Piece) (n k : Nat) : (refGo ps n k).length ≤ ps.length := by
  unfold refGo
  rw [List.length_map]
  exact Nat.le_trans (List.length_filter_le _ _) (by rw [List.length_take]; omega)
theorem refAll_len (ps : List Piece) : ∀ n, (refAll ps n).length ≤ n * ps.length
  | 0 => by simp [refAll]
  | n + 1 => by
    have := refAll_len ps n
    have := refGo_len ps (n + 1) ps.length
    rw [refAll, List.length_append, Nat.succ_mul]
    omega
set_option maxHeartbeats 1200000 in
set_option maxRecDepth 100000 in
theorem refOpenOf_any (l : List Mail) (v : Value) (w : World) (h : Rdv w Never v l) (hl9 : l.length ≤ 1000000000) (hid : ∀ y ∈ l, y.ident.size ≤ 1000000000) :
    Calls Tryz.prog 19 #[v] w (OpenOfPost l w) := by
  obtain ⟨a, cap, rfl, h1, h2, h3⟩ := rdv_slice h
  have hr0 := rows4_nil w
  go_enter Tryz.func19, Tryz.ntmps19
  go_wp2_with fail
  go_loopw [2, 3, 5, 6, 7, 8, 9] (fun sv pv tv av mv qv iv wr => sv = .string ⟨#[]⟩ ∧ pv = .slice none 0 0 ∧ ∃ i : Nat, i ≤ l.length ∧ iv = .int .i64 i ∧ Rows4 w wr tv av mv qv (tL ((l.take i).map pieceOf)) (aL ((l.take i).map pieceOf)) (mL ((l.take i).map pieceOf)) (pL ((l.take i).map pieceOf)) ∧ Hid (firstOf pieceF (l.drop i) = firstOf pieceF l) ∧ Hid (∀ x ∈ l.take i, pieceF x = 0)) (fun _ _ _ _ _ _ iv _ => l.length - (intOf iv).toNat)
  case atStart => exact ⟨rfl, rfl, 0, Nat.zero_le _, rfl, hr0, rfl, fun x hx => by cases hx⟩
  case round =>
    clear hr0
    obtain ⟨rfl, rfl, i, hi, rfl, h4, hf, ha⟩ := hrel
    rename World => wr
    obtain ⟨ta, tn, tc, rfl⟩ := own_isSlice h4.t
    obtain ⟨aa, an, ac, rfl⟩ := own_isSlice h4.a
    obtain ⟨ma, mn, mc, rfl⟩ := own_isSlice h4.m
    obtain ⟨qa, qn, qc, rfl⟩ := own_isSlice h4.p
    by_cases hlt : i < l.length
    · obtain ⟨x, hx⟩ : ∃ x, l[i]? = some x := ⟨l[i]'hlt, List.getElem?_eq_getElem hlt⟩
      obtain ⟨b, off, bv, rfl, _, _, c0, c1, c2, c3, z0, z1, z2, hv⟩ := elems_mail h3 hx
      have hcb := h4.chg
      have c0 := hcb.cellNever c0
      have c1 := hcb.cellNever c1
      have c2 := hcb.cellNever c2
      have c3 := hcb.cellNever c3
      obtain ⟨ba, bc, rfl, _, _, _⟩ := rdv_slice hv
      have hA : Chg Never wr (wr.alloc (.cells #[.string x.sender, .string x.subject, .string x.ident, .slice ba x.body.length bc] 31)) := (Chg.refl Never wr).alloc _
      obtain ⟨_, g0, g1, g2, g3⟩ := box1_mail wr 31 x.sender x.subject x.ident (.slice ba x.body.length bc) _ rfl
      have hvA := (hv.never hcb).never hA
      have h4 := h4.never hA
      have HX := Lib.hid hx
      obtain ⟨st1, st2⟩ := firstOf_from hf.out hx
      have HTK := Lib.hid (opieces_take hx)
      have hLl : ((l.take i).map pieceOf).length ≤ 1000000000 := by rw [List.length_map, List.length_take]; omega
      obtain ⟨Lp, hLp⟩ : ∃ Lp, (l.take i).map pieceOf = Lp := ⟨_, rfl⟩
      rw [hLp] at h4 HTK hLl
      have hxi := hid x (List.mem_of_getElem? hx)
      have ilt : (i : Int) < (l.length : Int) := by omega
      clear hx h3 h hLp
      go_wp2_with fail
      clear c0 c1 c2 c3
      generalize wr.alloc (.cells #[.string x.sender, .string x.subject, .string x.ident, .slice ba x.body.length bc] 31) = wA at hA g0 g1 g2 g3 hvA h4 ⊢
      generalize wr.heap.size = A at g0 g1 g2 g3 ⊢
      refine (refMailFault_any x _ _ hvA ⟨z0, z1, z2⟩ hxi).mono ?_
      rintro e w5 ⟨rfl, hc5⟩
      have h4 := h4.never hc5
      have hvA := hvA.never hc5
      have g0 := hc5.cellNever g0
      have g1 := hc5.cellNever g1
      have g2 := hc5.cellNever g2
      have g3 := hc5.cellNever g3
      clear hA hc5 hv
      by_cases hmf : mailFault x = 0
      · have HMF := Lib.hid hmf
        obtain ⟨y1, y2, y3, y4⟩ := mail_small hmf
        rw [hmf]
        clear hmf
        go_wp2_with fail
        refine (starts_any x.subject ⟨#[91, 80, 65, 84, 67, 72, 32]⟩ _ (by omega) (by decide)).mono ?_
        rintro e w6 ⟨rfl, rfl⟩
        rename World => w5
        rw [show (⟨#[91, 80, 65, 84, 67, 72, 32]⟩ : ByteArray).data.toList = patW from rfl]
        have HF1 := find_any x.subject ⟨#[47]⟩ w5 (by omega) (by decide) (by decide)
        have HF2 := find_any x.subject ⟨#[93, 32]⟩ w5 (by omega) (by decide) (by decide)
        rw [show (⟨#[47]⟩ : ByteArray).data.toList = [47] from rfl] at HF1
        rw [show (⟨#[93, 32]⟩ : ByteArray).data.toList = [93, 32] from rfl] at HF2
        have hsl := Lib.size_eq x.subject
        cases hpw : patW.isPrefixOf x.subject.data.toList with
        | false =>
          have HNP := Lib.hid (ref_no_pat (m := x) hpw)
          clear hpw hsl
          go_wp2_with fail
          refine HF1.mono ?_
          rintro e w7 ⟨rfl, rfl⟩
          rename World => w5
          generalize Lib.index x.subject.data.toList [47] = kk
          go_wp2_with fail
          refine HF2.mono ?_
          rintro e w7 ⟨rfl, rfl⟩
          rename World => w5
          generalize Lib.index x.subject.data.toList [93, 32] = jj
          clear HF1 HF2
          go_wp2_with fail
          clear g0 g1 g2 g3
          have HO2 := Lib.hid (openMs_bad (st2 (by rw [pieceF_none HMF.out HNP.out]; decide)) (by rw [pieceF_none HMF.out HNP.out]; decide))
          rw [pieceF_none HMF.out HNP.out] at HO2
          clear st1 st2
          go_wp2_with fail
          go_ret3
          exact openOf_no HO2.out rfl (h4.chg)
        | true =>
          have HPW := Lib.hid hpw
          clear hpw
          rcases pos_of_index (t := [47]) (s := x.subject.data.toList) (by simp) with ⟨hcut, hidx⟩ | ⟨u, vv, hcut, hidx, hab⟩
          · rw [hidx] at HF1
            have HNP := Lib.hid (ref_no_slash (m := x) HPW.out hcut)
            clear hcut hidx hsl
            go_wp2_with fail
            refine HF1.mono ?_
            rintro e w7 ⟨rfl, rfl⟩
            rename World => w5
            go_wp2_with fail
            refine HF2.mono ?_
            rintro e w7 ⟨rfl, rfl⟩
            rename World => w5
            generalize Lib.index x.subject.data.toList [93, 32] = jj
            clear HF1 HF2
            go_wp2_with fail
            clear g0 g1 g2 g3
            have HO2 := Lib.hid (openMs_bad (st2 (by rw [pieceF_none HMF.out HNP.out]; decide)) (by rw [pieceF_none HMF.out HNP.out]; decide))
            rw [pieceF_none HMF.out HNP.out] at HO2
            clear st1 st2
            go_wp2_with fail
            go_ret3
            exact openOf_no HO2.out rfl (h4.chg)
          · rw [hidx] at HF1
            have hu7 := part_seven HPW.out hcut
            have hul : u.length < x.subject.size := by rw [hsl, hab]; simp
            have HCUT := Lib.hid hcut
            have w7a : decide (((u.length : Nat) : Int) < 7) = false := decide_eq_false (by omega)
            have w7b : decide (u.length < 7) = false := decide_eq_false (by omega)
            clear hcut hidx hab
            rcases pos_of_index (t := [93, 32]) (s := x.subject.data.toList) (by simp) with ⟨hcut2, hidx2⟩ | ⟨p, t, hcut2, hidx2, hab2⟩
            · rw [hidx2] at HF2
              have HNP := Lib.hid (part_nobr (m := x) HPW.out HCUT.out hcut2)
              have w8a : decide ((-1 : Int) < (u.length : Int)) = true := decide_eq_true (by omega)
              clear hcut2 hidx2 hsl
              go_wp2_with fail
              refine HF1.mono ?_
              rintro e w7 ⟨rfl, rfl⟩
              rename World => w5
              go_wp2_with fail
              refine HF2.mono ?_
              rintro e w7 ⟨rfl, rfl⟩
              rename World => w5
              clear HF1 HF2
              go_wp2_with fail
              clear g0 g1 g2 g3
              have HO2 := Lib.hid (openMs_bad (st2 (by rw [pieceF_none HMF.out HNP.out]; decide)) (by rw [pieceF_none HMF.out HNP.out]; decide))
              rw [pieceF_none HMF.out HNP.out] at HO2
              clear st1 st2
              go_wp2_with fail
              go_ret3
              exact openOf_no HO2.out rfl (h4.chg)
            · rw [hidx2] at HF2
              have hpl : p.length + 2 ≤ x.subject.size := by rw [hsl, hab2]; simp
              by_cases hpu : p.length < u.length
              · have HNP := Lib.hid (part_early (m := x) HPW.out HCUT.out hcut2 hpu)
                have w8a : decide (((p.length : Nat) : Int) < (u.length : Int)) = true := decide_eq_true (by omega)
                have w8b : decide (p.length < u.length) = true := decide_eq_true hpu
                clear hcut2 hidx2 hsl hab2 hpu
                go_wp2_with fail
                refine HF1.mono ?_
                rintro e w7 ⟨rfl, rfl⟩
                rename World => w5
                go_wp2_with fail
                refine HF2.mono ?_
                rintro e w7 ⟨rfl, rfl⟩
                rename World => w5
                clear HF1 HF2
                go_wp2_with fail
                clear g0 g1 g2 g3
                have HO2 := Lib.hid (openMs_bad (st2 (by rw [pieceF_none HMF.out HNP.out]; decide)) (by rw [pieceF_none HMF.out HNP.out]; decide))
                rw [pieceF_none HMF.out HNP.out] at HO2
                clear st1 st2
                go_wp2_with fail
                go_ret3
                exact openOf_no HO2.out rfl (h4.chg)
              · have hne := part_ne HPW.out HCUT.out hcut2
                have hup : u.length < p.length := by omega
                have HMP := Lib.hid (part_from (m := x) HPW.out HCUT.out hcut2 hup)
                have w8a : decide (((p.length : Nat) : Int) < (u.length : Int)) = false := decide_eq_false (by omega)
                have w8b : decide (p.length < u.length) = false := decide_eq_false (by omega)
                have hE1 : (x.subject.extract 7 u.length).data.toList = (x.subject.data.toList.drop 7).take (u.length - 7) := Lib.extract_data ..
                have hE2 : (x.subject.extract (u.length + 1) p.length).data.toList = (x.subject.data.toList.drop (u.length + 1)).take (p.length - (u.length + 1)) := Lib.extract_data ..
                have hE3 : (x.subject.extract (p.length + 2) x.subject.size).data.toList = t := by
                  rw [Lib.extract_data, hsl, List.take_of_length_le (by rw [List.length_drop]; omega), hab2, show p.length + 2 = (p ++ [93, 32]).length by simp, List.drop_left]
                have s1 : IntKind.i64.wrap ((u.length : Int) + 1) = ((u.length + 1 : Nat) : Int) := by rw [show (u.length : Int) + 1 = ((u.length + 1 : Nat) : Int) by omega]; exact IntWalk.i64_in _ (by omega)
                have s2 : IntKind.i64.wrap ((p.length : Int) + 2) = ((p.length + 2 : Nat) : Int) := by rw [show (p.length : Int) + 2 = ((p.length + 2 : Nat) : Int) by omega]; exact IntWalk.i64_in _ (by omega)
                have q1 : (7 : Int) ≤ (u.length : Int) := by omega
                have q2 : (u.length : Int) ≤ (x.subject.size : Int) := by omega
                have q3 : ((u.length + 1 : Nat) : Int) ≤ (p.length : Int) := by omega
                have q4 : (p.length : Int) ≤ (x.subject.size : Int) := by omega
                have q5 : ((p.length + 2 : Nat) : Int) ≤ (x.subject.size : Int) := by omega
                clear hcut2 hidx2 hsl hab2 hpu hne
                go_wp2_with fail
                refine HF1.mono ?_
                rintro e w7 ⟨rfl, rfl⟩
                rename World => w5
                go_wp2_with fail
                refine HF2.mono ?_
                rintro e w7 ⟨rfl, rfl⟩
                rename World => w5
                clear HF1 HF2
                obtain ⟨S1, hS1⟩ : ∃ S, x.subject.extract 7 u.length = S := ⟨_, rfl⟩
                obtain ⟨S2, hS2⟩ : ∃ S, x.subject.extract (u.length + 1) p.length = S := ⟨_, rfl⟩
                obtain ⟨S3, hS3⟩ : ∃ S, x.subject.extract (p.length + 2) x.subject.size = S := ⟨_, rfl⟩
                rw [hS1] at hE1
                rw [hS2] at hE2
                rw [hS3] at hE3
                rw [← hE1, ← hE2] at HMP
                have HE3 := Lib.hid hE3
                clear hE1 hE2 hE3
                have zS1 : S1.size ≤ 1000000000 := by rw [← hS1, ByteArray.size_extract]; omega
                have zS2 : S2.size ≤ 1000000000 := by rw [← hS2, ByteArray.size_extract]; omega
                have zS3 : S3.size ≤ maxLen := by rw [← hS3, ByteArray.size_extract]; unfold maxLen; omega
                go_wp2_with fail
                refine (refNumber_any S1 1 (by decide) zS1 _).mono ?_
                rintro e w7 ⟨rfl, rfl⟩
                rename World => w5
                go_wp2_with fail
                refine (refNumber_any S2 1 (by decide) zS2 _).mono ?_
                rintro e w7 ⟨rfl, rfl⟩
                rename World => w5
                go_wp2_with fail
                refine (ref_title_any S3 _ zS3).mono ?_
                rintro e w7 ⟨rfl, rfl⟩
                rename World => w5
                rw [HE3.out]
                have HX3 := Lib.hid hS3
                clear hS1 hS2 hS3 s1 s2 q1 q2 q3 q4 q5 w7a w7b w8a w8b zS1 zS2
                obtain ⟨N1, hN1⟩ : ∃ N, numM 1 S1.data.toList = N := ⟨_, rfl⟩
                obtain ⟨N2, hN2⟩ : ∃ N, numM 1 S2.data.toList = N := ⟨_, rfl⟩
                rw [hN1, hN2] at HMP
                rw [hN1, hN2]
                clear hN1 hN2
                cases N1 with
                | none =>
                  have HNP : Hid (mpartOf x = none) := HMP.out
                  rw [show numV none = -1 from rfl]
                  generalize numV N2 = b2
                  generalize titledB t = tb
                  go_wp2_with fail
                  go_quiet (fail)
                  have h4 := h4.never ((Chg.refl Never w5).drewN nq)
                  generalize w5.drewN nq = w6 at h4 ⊢
                  clear g0 g1 g2 g3
                  have HO2 := Lib.hid (openMs_bad (st2 (by rw [pieceF_none HMF.out HNP.out]; decide)) (by rw [pieceF_none HMF.out HNP.out]; decide))
                  rw [pieceF_none HMF.out HNP.out] at HO2
                  clear st1 st2
                  go_wp2_with fail
                  go_ret3
                  exact openOf_no HO2.out rfl (h4.chg)
                | some na =>
                  rw [show numV (some na) = (na : Int) from rfl]
                  have v1 : decide ((na : Int) < 0) = false := decide_eq_false (by omega)
                  cases N2 with
                  | none =>
                    have HNP : Hid (mpartOf x = none) := HMP.out
                    rw [show numV none = -1 from rfl]
                    generalize titledB t = tb
                    go_wp2_with fail
                    go_quiet (fail)
                    have h4 := h4.never ((Chg.refl Never w5).drewN nq)
                    generalize w5.drewN nq = w6 at h4 ⊢
                    clear g0 g1 g2 g3
                    have HO2 := Lib.hid (openMs_bad (st2 (by rw [pieceF_none HMF.out HNP.out]; decide)) (by rw [pieceF_none HMF.out HNP.out]; decide))
                    rw [pieceF_none HMF.out HNP.out] at HO2
                    clear st1 st2
                    go_wp2_with fail
                    go_ret3
                    exact openOf_no HO2.out rfl (h4.chg)
                  | some nb =>
                    rw [show numV (some nb) = (nb : Int) from rfl]
                    have v2 : decide ((nb : Int) < 0) = false := decide_eq_false (by omega)
                    have HMP2 : Hid (mpartOf x = if PartOk x t na nb then some (t, na, nb) else none) := HMP.out
                    clear HMP
                    by_cases hab : nb < na
                    · have v3 : decide ((nb : Int) < (na : Int)) = true := decide_eq_true (by omega)
                      have v3n : decide (nb < na) = true := decide_eq_true hab
                      have HNP : Hid (mpartOf x = none) := by rw [Hid, HMP2.out, if_neg (fun q => by have := q.1; omega)]
                      generalize titledB t = tb
                      clear hab
                      go_wp2_with fail
                      go_quiet (fail)
                      have h4 := h4.never ((Chg.refl Never w5).drewN nq)
                      generalize w5.drewN nq = w6 at h4 ⊢
                      clear g0 g1 g2 g3
                      have HO2 := Lib.hid (openMs_bad (st2 (by rw [pieceF_none HMF.out HNP.out]; decide)) (by rw [pieceF_none HMF.out HNP.out]; decide))
                      rw [pieceF_none HMF.out HNP.out] at HO2
                      clear st1 st2
                      go_wp2_with fail
                      go_ret3
                      exact openOf_no HO2.out rfl (h4.chg)
                    · have v3 : decide ((nb : Int) < (na : Int)) = false := decide_eq_false (by omega)
                      have v3n : decide (nb < na) = false := decide_eq_false hab
                      by_cases hb8 : 8 < nb
                      · have v4 : decide ((8 : Int) < (nb : Int)) = true := decide_eq_true (by omega)
                        have v4n : decide (8 < nb) = true := decide_eq_true hb8
                        have HNP : Hid (mpartOf x = none) := by rw [Hid, HMP2.out, if_neg (fun q => by have := q.2.1; omega)]
                        generalize titledB t = tb
                        clear hb8
                        go_wp2_with fail
                        go_quiet (fail)
                        have h4 := h4.never ((Chg.refl Never w5).drewN nq)
                        generalize w5.drewN nq = w6 at h4 ⊢
                        clear g0 g1 g2 g3
                        have HO2 := Lib.hid (openMs_bad (st2 (by rw [pieceF_none HMF.out HNP.out]; decide)) (by rw [pieceF_none HMF.out HNP.out]; decide))
                        rw [pieceF_none HMF.out HNP.out] at HO2
                        clear st1 st2
                        go_wp2_with fail
                        go_ret3
                        exact openOf_no HO2.out rfl (h4.chg)
                      · have v4 : decide ((8 : Int) < (nb : Int)) = false := decide_eq_false (by omega)
                        have v4n : decide (8 < nb) = false := decide_eq_false hb8
                        cases htb : titledB t with
                        | false =>
                          have HNP : Hid (mpartOf x = none) := by rw [Hid, HMP2.out, if_neg (fun q => by have := q.2.2.1; rw [htb] at this; cases this)]
                          clear htb
                          go_wp2_with fail
                          go_quiet (fail)
                          have h4 := h4.never ((Chg.refl Never w5).drewN nq)
                          generalize w5.drewN nq = w6 at h4 ⊢
                          clear g0 g1 g2 g3
                          have HO2 := Lib.hid (openMs_bad (st2 (by rw [pieceF_none HMF.out HNP.out]; decide)) (by rw [pieceF_none HMF.out HNP.out]; decide))
                          rw [pieceF_none HMF.out HNP.out] at HO2
                          clear st1 st2
                          go_wp2_with fail
                          go_ret3
                          exact openOf_no HO2.out rfl (h4.chg)
                        | true =>
                          by_cases hfr : x.sender.data.toList = handW
                          · have u4 : (x.sender.toList == [104, 97, 110, 100, 115, 116, 105, 116, 99, 104]) = true := by rw [Lib.toList_data, hfr]; rfl
                            have u5 : (x.sender.toList != [104, 97, 110, 100, 115, 116, 105, 116, 99, 104]) = false := by rw [bne, u4]; rfl
                            by_cases hz0 : na = 0
                            · subst hz0
                              clear v1 v3 v3n
                              rw [show (((0 : Nat) : Nat) : Int) = 0 from rfl]
                              have FDa : Hid (∀ wx, Calls Tryz.prog 49 #[.int .i64 ((0 : Int))] wx fun e w' => e = .returned (.string (toB (Lib.decDigits 0))) ∧ w' = wx) := fun wx => (dec_any 0 (by omega) wx).mono fun e w' hh => ⟨hh.1, hh.2.symm⟩
                              have FDb : Hid (∀ wx, Calls Tryz.prog 49 #[.int .i64 nb] wx fun e w' => e = .returned (.string (toB (Lib.decDigits nb))) ∧ w' = wx) := fun wx => (dec_any nb (by omega) wx).mono fun e w' hh => ⟨hh.1, hh.2.symm⟩
                              have zA : (toB (Lib.decDigits 0)).size = 1 := by rw [toB_size', dig_small 0 (by omega)]
                              have zB : (toB (Lib.decDigits nb)).size = 1 := by rw [toB_size', dig_small nb (by omega)]
                              have hids := idS 0 nb
                              obtain ⟨DA, hDA⟩ : ∃ D, toB (Lib.decDigits 0) = D := ⟨_, rfl⟩
                              obtain ⟨DB, hDB⟩ : ∃ D, toB (Lib.decDigits nb) = D := ⟨_, rfl⟩
                              rw [hDA] at FDa zA hids
                              rw [hDB] at FDb zB hids
                              have HIDS : Hid ((DA ++ ⟨#[46]⟩ ++ DB).toList = idL 0 nb) := by rw [Hid, hids, Lib.toList_data, toB_data]
                              have e1 : ¬ (9223372036854775807 < DA.size + 1) := by omega
                              have e2 : ¬ (9223372036854775807 < DA.size + 1 + DB.size) := by omega
                              clear hDA hDB hids
                              by_cases hidq : x.ident.data.toList = idL 0 nb
                              · have u6 : (x.ident.toList == (DA ++ ⟨#[46]⟩ ++ DB).toList) = true := by rw [Lib.toList_data x.ident, hidq, HIDS.out]; simp
                                have u7 : (x.ident.toList != (DA ++ ⟨#[46]⟩ ++ DB).toList) = false := by rw [bne, u6]; rfl
                                by_cases hbody : x.body = []
                                · have HPT : Hid (mpartOf x = some (t, 0, nb)) := by rw [Hid, HMP2.out, if_pos ⟨by omega, by omega, htb, hfr, hidq, fun q => q.2 hbody⟩]
                                  have hts : (toB t).size ≤ maxLen := by have := (titled_ok htb).2.1; rw [toB_size']; unfold maxLen; omega
                                  have hS3e : x.subject.extract (p.length + 2) x.subject.size = toB t := by rw [HX3.out, ← HE3.out, toB_of]
                                  have x3 : decide ((0 : Int) < (x.body.length : Int)) = false := decide_eq_false (by rw [hbody]; simp)
                                  have x4 : decide (0 < x.body.length) = false := decide_eq_false (by rw [hbody]; simp)
                                  have hS3H := Lib.hid hS3e
                                  clear htb hfr hidq hbody hS3e
                                  go_wp2_with fail
                                  go_quiet (first | (go_at_call 49; with_reducible refine Calls.quiet_of_same (FDa.out _)) | (go_at_call 49; with_reducible refine Calls.quiet_of_same (FDb.out _)))
                                  have hd5 := (Chg.refl Never w5).drewN nq
                                  have h4 := h4.never hd5
                                  have hvA := hvA.never hd5
                                  have g3 := hd5.cellNever g3
                                  clear g0 g1 g2
                                  generalize w5.drewN nq = w6 at h4 hvA g3 ⊢
                                  clear hd5 u4 u5 u6 u7 v2 v4 v4n e1 e2
                                  clear x3 x4
                                  have hcv := conv_str hvA
                                  have HPS := Lib.hid (pieceF_some HMF.out HPT.out)
                                  go_wp2_with fail
                                  refine (refPatchOf_old (toB x.body) _ (by rw [toB_size']; omega)).mono ?_
                                  rintro e w8 ⟨r8, rfl, hc8, hr8⟩
                                  rw [toB_data] at hr8 ⊢
                                  obtain ⟨hl1, hl2, hl3, hl4⟩ := h4.lts
                                  have h4 := h4.never hc8
                                  clear hcv g3 hvA
                                  generalize hB0 : w6.heap.size = B0 at hr8 hl1 hl2 hl3 hl4
                                  obtain ⟨ra, rc, rfl, _, _, _⟩ := rdv_slice hr8
                                  by_cases hpf : (parseG x.body).2 = 0
                                  · have HS := Lib.hid (st1 (by rw [HPS.out.1, hpf]))
                                    have HA2 : Hid (∀ y ∈ l.take (i + 1), pieceF y = 0) := fun y hy => by
                                      rw [List.take_add_one, HX.out, Option.toList_some] at hy
                                      rcases List.mem_append.1 hy with q | q
                                      · exact ha.out y q
                                      · rw [List.mem_singleton.1 q, HPS.out.1, hpf]
                                    have HPO := Lib.hid HPS.out.2
                                    rw [hpf]
                                    clear hpf st1 st2 hf ha HPS
                                    generalize (parseG x.body).1 = LL at hr8 HPO ⊢
                                    have hP : Rdv w8 (Odd B0 w8.heap.size) (.slice ra LL.length rc) LL := hr8.sub (fun k hk q => q.elim (fun q => q) (fun q => by omega))
                                    have hoT : ∀ k, OwnB (.slice ta tn tc) k → Odd B0 w8.heap.size k := fun k q => .inl (hl1 k q)
                                    have hoA : ∀ k, OwnB (.slice aa an ac) k → Odd B0 w8.heap.size k := fun k q => .inl (hl2 k q)
                                    have hoM : ∀ k, OwnB (.slice ma mn mc) k → Odd B0 w8.heap.size k := fun k q => .inl (hl3 k q)
                                    have hoP : ∀ k, OwnB (.slice qa qn qc) k → Odd B0 w8.heap.size k := fun k q => .inl (hl4 k q)
                                    have hLT : (tL Lp).length ≤ 1000000000 := by unfold tL; rw [List.length_map]; exact hLl
                                    have hLA : (aL Lp).length ≤ 1000000000 := by unfold aL; rw [List.length_map]; exact hLl
                                    have hLM : (mL Lp).length ≤ 1000000000 := by unfold mL; rw [List.length_map]; exact hLl
                                    have hLP : (pL Lp).length ≤ 1000000000 := by unfold pL; rw [List.length_map]; exact hLl
                                    have hia : I64 ((0 : Int)) := by unfold I64; omega
                                    have hib : I64 ((nb : Nat) : Int) := by unfold I64; omega
                                    have hrow : ∀ (T : List ByteArray) (A M : List Int) (Q : List (List Change)), T = tL Lp ++ [toB t] → A = aL Lp ++ [(0 : Int)] → M = mL Lp ++ [(nb : Int)] → Q = pL Lp ++ [LL] → T = tL ((l.take (i + 1)).map pieceOf) ∧ A = aL ((l.take (i + 1)).map pieceOf) ∧ M = mL ((l.take (i + 1)).map pieceOf) ∧ Q = pL ((l.take (i + 1)).map pieceOf) := fun T A M Q e1 e2 e3 e4 => by
                                      rw [HTK.out, HPO.out]
                                      unfold tL aL mL pL
                                      rw [List.map_append, List.map_append, List.map_append, List.map_append]
                                      exact ⟨e1, e2, e3, e4⟩
                                    have hrow := Lib.hid hrow
                                    obtain ⟨B1, hB1⟩ : ∃ B, w8.heap.size = B := ⟨_, rfl⟩
                                    have hsz8 : B1 ≤ w8.heap.size := Nat.le_of_eq hB1.symm
                                    rw [hB1] at hP hoT hoA hoM hoP
                                    clear hB1
                                    clear hr8 hB0 hl1 hl2 hl3 hl4 hc8
                                    rw [hS3H.out]
                                    go_wp2_with (first
                                      | (at_builtin; refine wpList_push (by rfl) _ _ 86 (by rfl) elemOk_str (O := fun k => OwnB (.slice aa an ac) k ∨ OwnB (.slice ma mn mc) k ∨ OwnB (.slice qa qn qc) k) (l := tL Lp) (y := toB t) (by rfl) (by rfl) (by rfl) h4.t ⟨rfl, hts⟩ h4.oT hLT ?_; intro v6 wx ho6 hc6 hg6; have hP := hP.keep (O'' := Odd B0 B1) hc6 (fun k _ q => hoT k q) (fun _ _ q => q); have hoT := Grew.odd hg6 hoT hsz8; have hsz9 := Nat.le_trans hsz8 hc6.size; have h4 := h4.pushT ho6 hc6 hg6; clear ho6 hc6 hg6 hsz8 hLT; obtain ⟨tb1, tb2, tb3, rfl⟩ := own_isSlice h4.t)
                                      | (at_builtin; refine wpList_push (by rfl) _ _ 23 (by rfl) elemOk_ints (O := fun k => OwnB (.slice tb1 tb2 tb3) k ∨ OwnB (.slice ma mn mc) k ∨ OwnB (.slice qa qn qc) k) (l := aL Lp) (y := (0 : Int)) (by rfl) (by rfl) (by rfl) h4.a ⟨rfl, hia⟩ h4.oA hLA ?_; intro v6 wx ho6 hc6 hg6; have hP := hP.keep (O'' := Odd B0 B1) hc6 (fun k _ q => hoA k q) (fun _ _ q => q); have hoA := Grew.odd hg6 hoA hsz9; have hsz10 := Nat.le_trans hsz9 hc6.size; have h4 := h4.pushA ho6 hc6 hg6; clear ho6 hc6 hg6 hsz9 hLA; obtain ⟨ab1, ab2, ab3, rfl⟩ := own_isSlice h4.a)
                                      | (at_builtin; refine wpList_push (by rfl) _ _ 23 (by rfl) elemOk_ints (O := fun k => OwnB (.slice tb1 tb2 tb3) k ∨ OwnB (.slice ab1 ab2 ab3) k ∨ OwnB (.slice qa qn qc) k) (l := mL Lp) (y := (nb : Int)) (by rfl) (by rfl) (by rfl) h4.m ⟨rfl, hib⟩ h4.oM hLM ?_; intro v6 wx ho6 hc6 hg6; have hP := hP.keep (O'' := Odd B0 B1) hc6 (fun k _ q => hoM k q) (fun _ _ q => q); have hoM := Grew.odd hg6 hoM hsz10; have hsz11 := Nat.le_trans hsz10 hc6.size; have h4 := h4.pushM ho6 hc6 hg6; clear ho6 hc6 hg6 hsz10 hLM; obtain ⟨mb1, mb2, mb3, rfl⟩ := own_isSlice h4.m)
                                      | (at_builtin; refine wpList_push (by rfl) _ _ 22 (by rfl) elemOk_changes (O := fun k => OwnB (.slice tb1 tb2 tb3) k ∨ OwnB (.slice ab1 ab2 ab3) k ∨ OwnB (.slice mb1 mb2 mb3) k) (l := pL Lp) (y := LL) (by rfl) (by rfl) (by rfl) h4.p (hP.sub (fun k _ q => q.elim (fun q => q.elim (hoT k) (fun q => q.elim (hoA k) (hoM k))) (hoP k))) h4.oP hLP ?_; intro v6 wx ho6 hc6 hg6; have h4 := h4.pushP ho6 hc6 hg6; clear ho6 hc6 hg6 hP hoT hoA hoM hoP hsz11 hLP; obtain ⟨qb1, qb2, qb3, rfl⟩ := own_isSlice h4.p))
                                    obtain ⟨r1, r2, r3, r4⟩ := hrow.out _ _ _ _ rfl rfl rfl rfl
                                    rw [r1, r2, r3, r4] at h4
                                    clear r1 r2 r3 r4 hrow
                                    go_wp2_with fail
                                    go_roundw
                                    case rel => exact ⟨rfl, rfl, i + 1, by omega, by go_num, h4, HS, HA2⟩
                                    case measure => simp [intOf] <;> omega
                                  · have HO := Lib.hid (openMs_bad (st2 (by rw [HPS.out.1]; exact hpf)) (by rw [HPS.out.1]; exact hpf))
                                    rw [HPS.out.1] at HO
                                    have v1 : ((parseG x.body).2 == 0) = false := beq_eq_false_iff_ne.2 hpf
                                    have v2 : ((parseG x.body).2 != 0) = true := by rw [bne, v1]; rfl
                                    generalize (parseG x.body).2 = fz at HO v1 v2 ⊢
                                    generalize (parseG x.body).1.length = nr
                                    clear hpf st1 st2 hr8
                                    go_wp2_with fail
                                    go_ret3
                                    exact openOf_no HO.out rfl h4.chg
                                · have HNP : Hid (mpartOf x = none) := by rw [Hid, HMP2.out, if_neg (fun q => q.2.2.2.2.2 ⟨rfl, hbody⟩)]
                                  have hbl : 0 < x.body.length := List.length_pos_iff.2 hbody
                                  have x3 : decide ((0 : Int) < (x.body.length : Int)) = true := decide_eq_true (by omega)
                                  have x4 : decide (0 < x.body.length) = true := decide_eq_true hbl
                                  clear htb hfr hidq hbody hbl
                                  go_wp2_with fail
                                  go_quiet (first | (go_at_call 49; with_reducible refine Calls.quiet_of_same (FDa.out _)) | (go_at_call 49; with_reducible refine Calls.quiet_of_same (FDb.out _)))
                                  have h4 := h4.never ((Chg.refl Never w5).drewN nq)
                                  generalize w5.drewN nq = w6 at h4 ⊢
                                  clear g0 g1 g2 g3
                                  have HO2 := Lib.hid (openMs_bad (st2 (by rw [pieceF_none HMF.out HNP.out]; decide)) (by rw [pieceF_none HMF.out HNP.out]; decide))
                                  rw [pieceF_none HMF.out HNP.out] at HO2
                                  clear st1 st2
                                  go_wp2_with fail
                                  go_ret3
                                  exact openOf_no HO2.out rfl (h4.chg)
                              · have u6 : (x.ident.toList == (DA ++ ⟨#[46]⟩ ++ DB).toList) = false := by rw [Lib.toList_data x.ident, HIDS.out, beq_eq_false_iff_ne]; exact hidq
                                have u7 : (x.ident.toList != (DA ++ ⟨#[46]⟩ ++ DB).toList) = true := by rw [bne, u6]; rfl
                                have HNP : Hid (mpartOf x = none) := by rw [Hid, HMP2.out, if_neg (fun q => hidq q.2.2.2.2.1)]
                                clear htb hfr hidq
                                go_wp2_with fail
                                go_quiet (first | (go_at_call 49; with_reducible refine Calls.quiet_of_same (FDa.out _)) | (go_at_call 49; with_reducible refine Calls.quiet_of_same (FDb.out _)))
                                have h4 := h4.never ((Chg.refl Never w5).drewN nq)
                                generalize w5.drewN nq = w6 at h4 ⊢
                                clear g0 g1 g2 g3
                                have HO2 := Lib.hid (openMs_bad (st2 (by rw [pieceF_none HMF.out HNP.out]; decide)) (by rw [pieceF_none HMF.out HNP.out]; decide))
                                rw [pieceF_none HMF.out HNP.out] at HO2
                                clear st1 st2
                                go_wp2_with fail
                                go_ret3
                                exact openOf_no HO2.out rfl (h4.chg)
                            · have FDa : Hid (∀ wx, Calls Tryz.prog 49 #[.int .i64 ((na : Int))] wx fun e w' => e = .returned (.string (toB (Lib.decDigits na))) ∧ w' = wx) := fun wx => (dec_any na (by omega) wx).mono fun e w' hh => ⟨hh.1, hh.2.symm⟩
                              have FDb : Hid (∀ wx, Calls Tryz.prog 49 #[.int .i64 nb] wx fun e w' => e = .returned (.string (toB (Lib.decDigits nb))) ∧ w' = wx) := fun wx => (dec_any nb (by omega) wx).mono fun e w' hh => ⟨hh.1, hh.2.symm⟩
                              have zA : (toB (Lib.decDigits na)).size = 1 := by rw [toB_size', dig_small na (by omega)]
                              have zB : (toB (Lib.decDigits nb)).size = 1 := by rw [toB_size', dig_small nb (by omega)]
                              have hids := idS na nb
                              obtain ⟨DA, hDA⟩ : ∃ D, toB (Lib.decDigits na) = D := ⟨_, rfl⟩
                              obtain ⟨DB, hDB⟩ : ∃ D, toB (Lib.decDigits nb) = D := ⟨_, rfl⟩
                              rw [hDA] at FDa zA hids
                              rw [hDB] at FDb zB hids
                              have HIDS : Hid ((DA ++ ⟨#[46]⟩ ++ DB).toList = idL na nb) := by rw [Hid, hids, Lib.toList_data, toB_data]
                              have e1 : ¬ (9223372036854775807 < DA.size + 1) := by omega
                              have e2 : ¬ (9223372036854775807 < DA.size + 1 + DB.size) := by omega
                              clear hDA hDB hids
                              have x1 : ((na : Int) == 0) = false := beq_eq_false_iff_ne.2 (by omega)
                              have x2 : ((na : Int) != 0) = true := by rw [bne, x1]; rfl
                              by_cases hidq : x.ident.data.toList = idL na nb
                              · have u6 : (x.ident.toList == (DA ++ ⟨#[46]⟩ ++ DB).toList) = true := by rw [Lib.toList_data x.ident, hidq, HIDS.out]; simp
                                have u7 : (x.ident.toList != (DA ++ ⟨#[46]⟩ ++ DB).toList) = false := by rw [bne, u6]; rfl
                                have HPT : Hid (mpartOf x = some (t, na, nb)) := by rw [Hid, HMP2.out, if_pos ⟨by omega, by omega, htb, hfr, hidq, fun q => hz0 q.1⟩]
                                have hts : (toB t).size ≤ maxLen := by have := (titled_ok htb).2.1; rw [toB_size']; unfold maxLen; omega
                                have hS3e : x.subject.extract (p.length + 2) x.subject.size = toB t := by rw [HX3.out, ← HE3.out, toB_of]
                                have hS3H := Lib.hid hS3e
                                clear htb hfr hidq hz0 hS3e
                                go_wp2_with fail
                                go_quiet (first | (go_at_call 49; with_reducible refine Calls.quiet_of_same (FDa.out _)) | (go_at_call 49; with_reducible refine Calls.quiet_of_same (FDb.out _)))
                                have hd5 := (Chg.refl Never w5).drewN nq
                                have h4 := h4.never hd5
                                have hvA := hvA.never hd5
                                have g3 := hd5.cellNever g3
                                clear g0 g1 g2
                                generalize w5.drewN nq = w6 at h4 hvA g3 ⊢
                                clear hd5 u4 u5 u6 u7 v2 v4 v4n e1 e2
                                clear x1 x2
                                try clear v1 v3 v3n
                                have hcv := conv_str hvA
                                have HPS := Lib.hid (pieceF_some HMF.out HPT.out)
                                go_wp2_with fail
                                refine (refPatchOf_old (toB x.body) _ (by rw [toB_size']; omega)).mono ?_
                                rintro e w8 ⟨r8, rfl, hc8, hr8⟩
                                rw [toB_data] at hr8 ⊢
                                obtain ⟨hl1, hl2, hl3, hl4⟩ := h4.lts
                                have h4 := h4.never hc8
                                clear hcv g3 hvA
                                generalize hB0 : w6.heap.size = B0 at hr8 hl1 hl2 hl3 hl4
                                obtain ⟨ra, rc, rfl, _, _, _⟩ := rdv_slice hr8
                                by_cases hpf : (parseG x.body).2 = 0
                                · have HS := Lib.hid (st1 (by rw [HPS.out.1, hpf]))
                                  have HA2 : Hid (∀ y ∈ l.take (i + 1), pieceF y = 0) := fun y hy => by
                                    rw [List.take_add_one, HX.out, Option.toList_some] at hy
                                    rcases List.mem_append.1 hy with q | q
                                    · exact ha.out y q
                                    · rw [List.mem_singleton.1 q, HPS.out.1, hpf]
                                  have HPO := Lib.hid HPS.out.2
                                  rw [hpf]
                                  clear hpf st1 st2 hf ha HPS
                                  generalize (parseG x.body).1 = LL at hr8 HPO ⊢
                                  have hP : Rdv w8 (Odd B0 w8.heap.size) (.slice ra LL.length rc) LL := hr8.sub (fun k hk q => q.elim (fun q => q) (fun q => by omega))
                                  have hoT : ∀ k, OwnB (.slice ta tn tc) k → Odd B0 w8.heap.size k := fun k q => .inl (hl1 k q)
                                  have hoA : ∀ k, OwnB (.slice aa an ac) k → Odd B0 w8.heap.size k := fun k q => .inl (hl2 k q)
                                  have hoM : ∀ k, OwnB (.slice ma mn mc) k → Odd B0 w8.heap.size k := fun k q => .inl (hl3 k q)
                                  have hoP : ∀ k, OwnB (.slice qa qn qc) k → Odd B0 w8.heap.size k := fun k q => .inl (hl4 k q)
                                  have hLT : (tL Lp).length ≤ 1000000000 := by unfold tL; rw [List.length_map]; exact hLl
                                  have hLA : (aL Lp).length ≤ 1000000000 := by unfold aL; rw [List.length_map]; exact hLl
                                  have hLM : (mL Lp).length ≤ 1000000000 := by unfold mL; rw [List.length_map]; exact hLl
                                  have hLP : (pL Lp).length ≤ 1000000000 := by unfold pL; rw [List.length_map]; exact hLl
                                  have hia : I64 ((na : Int)) := by unfold I64; omega
                                  have hib : I64 ((nb : Nat) : Int) := by unfold I64; omega
                                  have hrow : ∀ (T : List ByteArray) (A M : List Int) (Q : List (List Change)), T = tL Lp ++ [toB t] → A = aL Lp ++ [(na : Int)] → M = mL Lp ++ [(nb : Int)] → Q = pL Lp ++ [LL] → T = tL ((l.take (i + 1)).map pieceOf) ∧ A = aL ((l.take (i + 1)).map pieceOf) ∧ M = mL ((l.take (i + 1)).map pieceOf) ∧ Q = pL ((l.take (i + 1)).map pieceOf) := fun T A M Q e1 e2 e3 e4 => by
                                    rw [HTK.out, HPO.out]
                                    unfold tL aL mL pL
                                    rw [List.map_append, List.map_append, List.map_append, List.map_append]
                                    exact ⟨e1, e2, e3, e4⟩
                                  have hrow := Lib.hid hrow
                                  obtain ⟨B1, hB1⟩ : ∃ B, w8.heap.size = B := ⟨_, rfl⟩
                                  have hsz8 : B1 ≤ w8.heap.size := Nat.le_of_eq hB1.symm
                                  rw [hB1] at hP hoT hoA hoM hoP
                                  clear hB1
                                  clear hr8 hB0 hl1 hl2 hl3 hl4 hc8
                                  rw [hS3H.out]
                                  go_wp2_with (first
                                    | (at_builtin; refine wpList_push (by rfl) _ _ 86 (by rfl) elemOk_str (O := fun k => OwnB (.slice aa an ac) k ∨ OwnB (.slice ma mn mc) k ∨ OwnB (.slice qa qn qc) k) (l := tL Lp) (y := toB t) (by rfl) (by rfl) (by rfl) h4.t ⟨rfl, hts⟩ h4.oT hLT ?_; intro v6 wx ho6 hc6 hg6; have hP := hP.keep (O'' := Odd B0 B1) hc6 (fun k _ q => hoT k q) (fun _ _ q => q); have hoT := Grew.odd hg6 hoT hsz8; have hsz9 := Nat.le_trans hsz8 hc6.size; have h4 := h4.pushT ho6 hc6 hg6; clear ho6 hc6 hg6 hsz8 hLT; obtain ⟨tb1, tb2, tb3, rfl⟩ := own_isSlice h4.t)
                                    | (at_builtin; refine wpList_push (by rfl) _ _ 23 (by rfl) elemOk_ints (O := fun k => OwnB (.slice tb1 tb2 tb3) k ∨ OwnB (.slice ma mn mc) k ∨ OwnB (.slice qa qn qc) k) (l := aL Lp) (y := (na : Int)) (by rfl) (by rfl) (by rfl) h4.a ⟨rfl, hia⟩ h4.oA hLA ?_; intro v6 wx ho6 hc6 hg6; have hP := hP.keep (O'' := Odd B0 B1) hc6 (fun k _ q => hoA k q) (fun _ _ q => q); have hoA := Grew.odd hg6 hoA hsz9; have hsz10 := Nat.le_trans hsz9 hc6.size; have h4 := h4.pushA ho6 hc6 hg6; clear ho6 hc6 hg6 hsz9 hLA; obtain ⟨ab1, ab2, ab3, rfl⟩ := own_isSlice h4.a)
                                    | (at_builtin; refine wpList_push (by rfl) _ _ 23 (by rfl) elemOk_ints (O := fun k => OwnB (.slice tb1 tb2 tb3) k ∨ OwnB (.slice ab1 ab2 ab3) k ∨ OwnB (.slice qa qn qc) k) (l := mL Lp) (y := (nb : Int)) (by rfl) (by rfl) (by rfl) h4.m ⟨rfl, hib⟩ h4.oM hLM ?_; intro v6 wx ho6 hc6 hg6; have hP := hP.keep (O'' := Odd B0 B1) hc6 (fun k _ q => hoM k q) (fun _ _ q => q); have hoM := Grew.odd hg6 hoM hsz10; have hsz11 := Nat.le_trans hsz10 hc6.size; have h4 := h4.pushM ho6 hc6 hg6; clear ho6 hc6 hg6 hsz10 hLM; obtain ⟨mb1, mb2, mb3, rfl⟩ := own_isSlice h4.m)
                                    | (at_builtin; refine wpList_push (by rfl) _ _ 22 (by rfl) elemOk_changes (O := fun k => OwnB (.slice tb1 tb2 tb3) k ∨ OwnB (.slice ab1 ab2 ab3) k ∨ OwnB (.slice mb1 mb2 mb3) k) (l := pL Lp) (y := LL) (by rfl) (by rfl) (by rfl) h4.p (hP.sub (fun k _ q => q.elim (fun q => q.elim (hoT k) (fun q => q.elim (hoA k) (hoM k))) (hoP k))) h4.oP hLP ?_; intro v6 wx ho6 hc6 hg6; have h4 := h4.pushP ho6 hc6 hg6; clear ho6 hc6 hg6 hP hoT hoA hoM hoP hsz11 hLP; obtain ⟨qb1, qb2, qb3, rfl⟩ := own_isSlice h4.p))
                                  obtain ⟨r1, r2, r3, r4⟩ := hrow.out _ _ _ _ rfl rfl rfl rfl
                                  rw [r1, r2, r3, r4] at h4
                                  clear r1 r2 r3 r4 hrow
                                  go_wp2_with fail
                                  go_roundw
                                  case rel => exact ⟨rfl, rfl, i + 1, by omega, by go_num, h4, HS, HA2⟩
                                  case measure => simp [intOf] <;> omega
                                · have HO := Lib.hid (openMs_bad (st2 (by rw [HPS.out.1]; exact hpf)) (by rw [HPS.out.1]; exact hpf))
                                  rw [HPS.out.1] at HO
                                  have v1 : ((parseG x.body).2 == 0) = false := beq_eq_false_iff_ne.2 hpf
                                  have v2 : ((parseG x.body).2 != 0) = true := by rw [bne, v1]; rfl
                                  generalize (parseG x.body).2 = fz at HO v1 v2 ⊢
                                  generalize (parseG x.body).1.length = nr
                                  clear hpf st1 st2 hr8
                                  go_wp2_with fail
                                  go_ret3
                                  exact openOf_no HO.out rfl h4.chg
                              · clear hz0
                                have u6 : (x.ident.toList == (DA ++ ⟨#[46]⟩ ++ DB).toList) = false := by rw [Lib.toList_data x.ident, HIDS.out, beq_eq_false_iff_ne]; exact hidq
                                have u7 : (x.ident.toList != (DA ++ ⟨#[46]⟩ ++ DB).toList) = true := by rw [bne, u6]; rfl
                                have HNP : Hid (mpartOf x = none) := by rw [Hid, HMP2.out, if_neg (fun q => hidq q.2.2.2.2.1)]
                                clear htb hfr hidq
                                go_wp2_with fail
                                go_quiet (first | (go_at_call 49; with_reducible refine Calls.quiet_of_same (FDa.out _)) | (go_at_call 49; with_reducible refine Calls.quiet_of_same (FDb.out _)))
                                have h4 := h4.never ((Chg.refl Never w5).drewN nq)
                                generalize w5.drewN nq = w6 at h4 ⊢
                                clear g0 g1 g2 g3
                                have HO2 := Lib.hid (openMs_bad (st2 (by rw [pieceF_none HMF.out HNP.out]; decide)) (by rw [pieceF_none HMF.out HNP.out]; decide))
                                rw [pieceF_none HMF.out HNP.out] at HO2
                                clear st1 st2
                                go_wp2_with fail
                                go_ret3
                                exact openOf_no HO2.out rfl (h4.chg)
                          · have u4 : (x.sender.toList == [104, 97, 110, 100, 115, 116, 105, 116, 99, 104]) = false := by rw [Lib.toList_data, beq_eq_false_iff_ne]; exact hfr
                            have u5 : (x.sender.toList != [104, 97, 110, 100, 115, 116, 105, 116, 99, 104]) = true := by rw [bne, u4]; rfl
                            have HNP : Hid (mpartOf x = none) := by rw [Hid, HMP2.out, if_neg (fun q => hfr q.2.2.2.1)]
                            clear htb hfr
                            go_wp2_with fail
                            go_quiet (fail)
                            have h4 := h4.never ((Chg.refl Never w5).drewN nq)
                            generalize w5.drewN nq = w6 at h4 ⊢
                            clear g0 g1 g2 g3
                            have HO2 := Lib.hid (openMs_bad (st2 (by rw [pieceF_none HMF.out HNP.out]; decide)) (by rw [pieceF_none HMF.out HNP.out]; decide))
                            rw [pieceF_none HMF.out HNP.out] at HO2
                            clear st1 st2
                            go_wp2_with fail
                            go_ret3
                            exact openOf_no HO2.out rfl (h4.chg)
      · have HO := Lib.hid (openMs_bad (st2 (by rw [pieceF_chk hmf]; exact hmf)) (by rw [pieceF_chk hmf]; exact hmf))
        rw [pieceF_chk hmf] at HO
        have v1 : (mailFault x == 0) = false := beq_eq_false_iff_ne.2 hmf
        have v2 : (mailFault x != 0) = true := by rw [bne, v1]; rfl
        generalize mailFault x = fz at HO v1 v2 ⊢
        clear hmf st1 st2 g0 g1 g2 g3
        go_wp2_with fail
        go_ret3
        exact openOf_no HO.out rfl h4.chg
    · obtain rfl : i = l.length := by omega
      have h4 := h4
      rw [List.take_length] at h4
      have hf' := hf.out
      rw [List.drop_of_length_le (Nat.le_refl _)] at hf'
      have HO := Lib.hid (openMs_ok (l := l) (by rw [← hf']; rfl))
      have HPO : Hid (∀ y ∈ l.map pieceOf, PieceOk y) := fun y hy => by
        obtain ⟨x, hx, rfl⟩ := List.mem_map.1 hy
        exact pieceOk_of (ha.out x (by rw [List.take_length]; exact hx))
      have hln : (l.map pieceOf).length = l.length := List.length_map ..
      generalize l.map pieceOf = ps at h4 HO HPO hln
      have hwr := h4.chg
      have rT : Rdv wr Never (.slice ta tn tc) (tL ps) := h4.t.rdv.sub (fun _ _ q => q.elim)
      have rA : Rdv wr Never (.slice aa an ac) (aL ps) := h4.a.rdv.sub (fun _ _ q => q.elim)
      have rM : Rdv wr Never (.slice ma mn mc) (mL ps) := h4.m.rdv.sub (fun _ _ q => q.elim)
      have rP : Rdv wr Never (.slice qa qn qc) (pL ps) := h4.p.rdv.sub (fun _ _ q => q.elim)
      obtain ⟨_, _, ee, _, _, eT⟩ := rdv_slice rT
      injection ee with ee1 ee2 ee3
      subst ee1; subst ee2; subst ee3
      obtain ⟨_, _, ee, _, _, eA⟩ := rdv_slice rA
      injection ee with ee1 ee2 ee3
      subst ee1; subst ee2; subst ee3
      obtain ⟨_, _, ee, _, _, eM⟩ := rdv_slice rM
      injection ee with ee1 ee2 ee3
      subst ee1; subst ee2; subst ee3
      obtain ⟨_, _, ee, _, _, eP⟩ := rdv_slice rP
      injection ee with ee1 ee2 ee3
      subst ee1; subst ee2; subst ee3
      have lT : (tL ps).length = l.length := by unfold tL; rw [List.length_map, hln]
      have lA : (aL ps).length = l.length := by unfold aL; rw [List.length_map, hln]
      have lM : (mL ps).length = l.length := by unfold mL; rw [List.length_map, hln]
      have lP : (pL ps).length = l.length := by unfold pL; rw [List.length_map, hln]
      have gT : ∀ {k : Nat} {y : Piece}, ps[k]? = some y → (tL ps)[k]? = some (toB y.title) := fun h => by unfold tL; rw [List.getElem?_map, h]; rfl
      have gA : ∀ {k : Nat} {y : Piece}, ps[k]? = some y → (aL ps)[k]? = some (y.at' : Int) := fun h => by unfold aL; rw [List.getElem?_map, h]; rfl
      have gM : ∀ {k : Nat} {y : Piece}, ps[k]? = some y → (mL ps)[k]? = some (y.many : Int) := fun h => by unfold mL; rw [List.getElem?_map, h]; rfl
      have gP : ∀ {k : Nat} {y : Piece}, ps[k]? = some y → (pL ps)[k]? = some y.patch := fun h => by unfold pL; rw [List.getElem?_map, h]; rfl
      rw [lT, lA, lM, lP]
      have LN := Lib.hid hln
      clear hf hf' ha h4 h3 h rT rA rM rP lT lA lM lP hln
      have hc0 := Chg.refl Never wr
      go_wp2_with fail
      go_loopw [20] (fun iv wz => ∃ k : Nat, k ≤ l.length ∧ iv = .int .i64 k ∧ Chg Never wr wz ∧ Hid (SameTo ps k)) (fun iv _ => l.length - (intOf iv).toNat)
      case atStart => exact ⟨0, Nat.zero_le _, rfl, hc0, same_zero ps⟩
      case round =>
        clear hc0
        obtain ⟨k, hk, rfl, hc, hsm⟩ := hrel
        rename World => wz
        by_cases hkl : k < l.length
        · have hpl : k < ps.length := by have := LN.out; omega
          have hp0 : 0 < ps.length := by omega
          obtain ⟨y, hy⟩ : ∃ y, ps[k]? = some y := ⟨ps[k]'hpl, List.getElem?_eq_getElem hpl⟩
          obtain ⟨x, hx⟩ : ∃ x, ps[0]? = some x := ⟨ps[0]'hp0, List.getElem?_eq_getElem hp0⟩
          obtain ⟨b1, f1, rfl, _, _, c1, _⟩ := elems_str eT (gT hy)
          obtain ⟨_, _, ee, _, _, d1, _⟩ := elems_str eT (gT hx)
          injection ee with ee
          injection ee with ee1 ee2 _
          subst ee1; subst ee2
          obtain ⟨b2, f2, rfl, _, c2, _⟩ := elems_ints eM (gM hy)
          obtain ⟨_, _, ee, _, d2, _⟩ := elems_ints eM (gM hx)
          injection ee with ee
          injection ee with ee1 ee2 _
          subst ee1; subst ee2
          simp only [Nat.add_zero] at d1 d2
          have c1 := hc.cellNever c1
          have c2 := hc.cellNever c2
          have d1 := hc.cellNever d1
          have d2 := hc.cellNever d2
          have klt : (k : Int) < (l.length : Int) := by omega
          have zlt : (0 : Int) < (l.length : Int) := by omega
          have zltn : 0 < l.length := by omega
          have HY := Lib.hid hy
          have HX := Lib.hid hx
          obtain ⟨Ty, hTy⟩ : ∃ T, toB y.title = T := ⟨_, rfl⟩
          obtain ⟨Tx, hTx⟩ : ∃ T, toB x.title = T := ⟨_, rfl⟩
          have htt : Ty.toList = Tx.toList ↔ y.title = x.title := by rw [← hTy, ← hTx, Lib.toList_data, Lib.toList_data, toB_data, toB_data]
          rw [hTy] at c1
          rw [hTx] at d1
          clear hy hx eT eM eA eP hpl hp0
          by_cases q1 : y.title = x.title
          · have u1 : (Ty.toList == Tx.toList) = true := by rw [htt.2 q1]; simp
            have u2 : (Ty.toList != Tx.toList) = false := by rw [bne, u1]; rfl
            by_cases q2 : y.many = x.many
            · have s1 : (((y.many : Nat) : Int) == ((x.many : Nat) : Int)) = true := by rw [q2]; simp
              have s2 : (((y.many : Nat) : Int) != ((x.many : Nat) : Int)) = false := by rw [bne, s1]; rfl
              have HS2 : Hid (SameTo ps (k + 1)) := same_step hsm.out HY.out (fun z hz => by
                have := HX.out
                rw [hz] at this
                injection this with this
                subst this
                exact ⟨q1, q2⟩)
              clear q1 q2 htt hTy hTx hsm
              go_wp2_with fail
              go_quiet (fail)
              go_wp2_with fail
              go_roundw
              case rel => exact ⟨k + 1, by omega, by go_num, hc.drewN _, HS2⟩
              case measure => simp [intOf] <;> omega
            · have HO2 : Hid (openMs l = ([], [], 2)) := by rw [Hid, HO.out]; exact open_shape HX.out HY.out (fun q => q2 q.2)
              have s1 : (((y.many : Nat) : Int) == ((x.many : Nat) : Int)) = false := by rw [beq_eq_false_iff_ne]; omega
              have s2 : (((y.many : Nat) : Int) != ((x.many : Nat) : Int)) = true := by rw [bne, s1]; rfl
              clear q1 q2 htt hTy hTx hsm
              go_wp2_with fail
              go_quiet (fail)
              go_wp2_with fail
              go_ret3
              exact openOf_no HO2.out rfl (hwr.trans (hc.drewN _))
          · have HO2 : Hid (openMs l = ([], [], 2)) := by rw [Hid, HO.out]; exact open_shape HX.out HY.out (fun q => q1 q.1)
            have u1 : (Ty.toList == Tx.toList) = false := by rw [beq_eq_false_iff_ne]; exact fun q => q1 (htt.1 q)
            have u2 : (Ty.toList != Tx.toList) = true := by rw [bne, u1]; rfl
            clear q1 htt hTy hTx hsm
            go_wp2_with fail
            go_quiet (fail)
            go_wp2_with fail
            go_ret3
            exact openOf_no HO2.out rfl (hwr.trans (hc.drewN _))
        · obtain rfl : k = l.length := by omega
          rename World => wz
          have hsa : Hid (SameTo ps ps.length) := by rw [Hid, LN.out]; exact hsm.out
          have hwz := hwr.trans hc
          have hc0 := Chg.refl Never wz
          clear hsm
          go_wp2_with fail
          go_loopw [21] (fun iv wy => ∃ i : Nat, i ≤ l.length ∧ iv = .int .i64 i ∧ Chg Never wz wy ∧ Hid (((ps.take i).map (·.at')).Nodup)) (fun iv _ => l.length - (intOf iv).toNat)
          case atStart => exact ⟨0, Nat.zero_le _, rfl, hc0, List.nodup_nil⟩
          case round =>
            clear hc0
            obtain ⟨i, hi, rfl, hcy, hnd⟩ := hrel
            rename World => wy
            by_cases hil : i < l.length
            · have hpl : i < ps.length := by have := LN.out; omega
              obtain ⟨y, hy⟩ : ∃ y, ps[i]? = some y := ⟨ps[i]'hpl, List.getElem?_eq_getElem hpl⟩
              have hcx0 := Chg.refl Never wy
              go_wp2_with fail
              go_loopw [22] (fun kv wx => ∃ k : Nat, k ≤ i ∧ kv = .int .i64 k ∧ Chg Never wy wx ∧ Hid (∀ (j : Nat) (z : Piece), j < k → ps[j]? = some z → z.at' ≠ y.at')) (fun kv _ => i - (intOf kv).toNat)
              case atStart => exact ⟨0, Nat.zero_le _, rfl, hcx0, fun j z q => absurd q (Nat.not_lt_zero j)⟩
              case round =>
                clear hcx0
                obtain ⟨k, hk, rfl, hcx, hne⟩ := hrel
                rename World => wx
                by_cases hki : k < i
                · have hpk : k < ps.length := by omega
                  obtain ⟨z, hz⟩ : ∃ z, ps[k]? = some z := ⟨ps[k]'hpk, List.getElem?_eq_getElem hpk⟩
                  obtain ⟨b1, f1, rfl, _, c1, _⟩ := elems_ints eA (gA hy)
                  obtain ⟨_, _, ee, _, d1, _⟩ := elems_ints eA (gA hz)
                  injection ee with ee
                  injection ee with ee1 ee2 _
                  subst ee1; subst ee2
                  have hcc := (hc.trans hcy).trans hcx
                  have c1 := hcc.cellNever c1
                  have d1 := hcc.cellNever d1
                  have ilt : (i : Int) < (l.length : Int) := by omega
                  have klt : (k : Int) < (l.length : Int) := by omega
                  have t1 : decide ((k : Int) < (i : Int)) = true := decide_eq_true (by omega)
                  have t1n : decide (k < i) = true := decide_eq_true hki
                  have hkl2 : k < l.length := by omega
                  have HY := Lib.hid hy
                  have HZ := Lib.hid hz
                  clear hy hz eT eM eA eP hpl hpk
                  by_cases q1 : z.at' = y.at'
                  · have HO2 : Hid (openMs l = ([], [], 6)) := by
                      rw [Hid, HO.out]
                      refine open_clash hsa.out HY.out (List.mem_map.2 ⟨z, List.mem_of_getElem? (i := k) ?_, q1⟩)
                      rw [List.getElem?_take, if_pos hki]
                      exact HZ.out
                    have s1 : (((z.at' : Nat) : Int) == ((y.at' : Nat) : Int)) = true := by rw [q1]; simp
                    have s2 : (((z.at' : Nat) : Int) != ((y.at' : Nat) : Int)) = false := by rw [bne, s1]; rfl
                    clear q1 hne hnd
                    go_wp2_with fail
                    go_quiet (fail)
                    go_wp2_with fail
                    go_ret3
                    exact openOf_no HO2.out rfl (((hwz.trans hcy).trans hcx).drewN _)
                  · have s1 : (((z.at' : Nat) : Int) == ((y.at' : Nat) : Int)) = false := by rw [beq_eq_false_iff_ne]; omega
                    have s2 : (((z.at' : Nat) : Int) != ((y.at' : Nat) : Int)) = true := by rw [bne, s1]; rfl
                    have HN2 : Hid (∀ (j : Nat) (u : Piece), j < k + 1 → ps[j]? = some u → u.at' ≠ y.at') := fun j u hj hu => by
                      by_cases e : j = k
                      · subst e
                        have := HZ.out
                        rw [hu] at this
                        injection this with this
                        subst this
                        exact q1
                      · exact hne.out j u (by omega) hu
                    clear q1 hne
                    go_wp2_with fail
                    go_quiet (fail)
                    go_wp2_with fail
                    go_roundw
                    case rel => exact ⟨k + 1, by omega, by go_num, hcx.drewN _, HN2⟩
                    case measure => simp [intOf] <;> omega
                · obtain rfl : k = i := by omega
                  have t1 : decide ((k : Int) < (k : Int)) = false := decide_eq_false (by omega)
                  have HD : Hid (((ps.take (k + 1)).map (·.at')).Nodup) := nodup_step hnd.out hy (fun q => by
                    obtain ⟨z, hz, e⟩ := List.mem_map.1 q
                    obtain ⟨j, hj⟩ := List.mem_iff_getElem?.1 hz
                    rw [List.getElem?_take] at hj
                    by_cases hjk : j < k
                    · rw [if_pos hjk] at hj
                      exact hne.out j z hjk hj e
                    · rw [if_neg hjk] at hj; cases hj)
                  have hcz := hcy.trans hcx
                  clear hnd hne hy eT eM eA eP
                  go_wp2_with fail
                  go_roundw
                  case rel => exact ⟨k + 1, by omega, by go_num, hcz, HD⟩
                  case measure => simp [intOf] <;> omega
            · obtain rfl : i = l.length := by omega
              rename World => wy
              have hnd' := hnd.out
              rw [List.take_of_length_le (by have := LN.out; omega)] at hnd'
              have hND := Lib.hid hnd'
              have hwy := hwz.trans hcy
              have hcc := hc.trans hcy
              clear hnd hnd'
              by_cases h0 : l.length = 0
              · have HO4 : Hid (openMs l = ([], [], 4)) := by
                  rw [Hid, HO.out, List.eq_nil_of_length_eq_zero (by have := LN.out; omega : ps.length = 0)]
                  exact openp_none
                have t0 : ((l.length : Int) == 0) = true := by rw [h0]; rfl
                have t1 : ((l.length : Int) != 0) = false := by rw [h0]; rfl
                clear h0 eT eM eA eP
                go_wp2_with fail
                go_ret3
                exact openOf_no HO4.out rfl hwy
              · have t0 : ((l.length : Int) == 0) = false := by rw [beq_eq_false_iff_ne]; omega
                have t1 : ((l.length : Int) != 0) = true := by rw [bne, t0]; rfl
                have hp0 : 0 < ps.length := by have := LN.out; omega
                obtain ⟨x, hx⟩ : ∃ x, ps[0]? = some x := ⟨ps[0]'hp0, List.getElem?_eq_getElem hp0⟩
                have hxo := HPO.out x (List.mem_of_getElem? hx)
                have hx8 : x.many ≤ 8 := hxo.2.2
                have hle : Hid (∀ y ∈ ps, y.at' ≤ x.many) := fun y hy => by
                  have := (hsa.out y (by rw [List.take_length]; exact hy) x hx).2
                  have := (HPO.out y hy).2.1
                  omega
                have hpig : ps.length ≤ x.many + 1 := by
                  have := nodup_le (ps.map (·.at')) (List.range (x.many + 1)) hND.out (fun k hk => by
                    obtain ⟨y, hy, rfl⟩ := List.mem_map.1 hk
                    have := hle.out y hy
                    exact List.mem_range.2 (by omega))
                  rwa [List.length_map, List.length_range] at this
                obtain ⟨b2, f2, rfl, _, d2, _⟩ := elems_ints eM (gM hx)
                obtain ⟨b3, f3, rfl, _, _, d3, _⟩ := elems_str eT (gT hx)
                simp only [Nat.add_zero] at d2 d3
                have D2 := Lib.hid d2
                have D3 := Lib.hid d3
                have d2 := hcc.cellNever D2.out
                have zlt : (0 : Int) < (l.length : Int) := by omega
                have zltn : 0 < l.length := by omega
                have sN : IntKind.i64.wrap ((x.many : Int) + 1) = (x.many : Int) + 1 := IntWalk.i64_in _ (by omega)
                have HX := Lib.hid hx
                clear h0 hx d3
                by_cases hlm : l.length = x.many + 1
                · have s1 : ((l.length : Int) == (x.many : Int) + 1) = true := beq_iff_eq.2 (by omega)
                  have s2 : ((l.length : Int) != (x.many : Int) + 1) = false := by rw [bne, s1]; rfl
                  have HO6 := Lib.hid (HO.out.trans (open_good hsa.out hND.out HX.out (by have := LN.out; omega)))
                  have HRA := Lib.hid (ref_all hND.out hle.out (show ps.length = x.many + 1 by have := LN.out; omega))
                  have HLM := Lib.hid hlm
                  have hl9' : l.length ≤ 9 := by omega
                  have hn0 := ownN_nil (α := List Change) 51 (Chg.refl Never wy)
                  clear hlm eT eM hpig hxo
                  go_wp2_with fail
                  clear d2 s1 s2 sN t0 t1
                  go_loopw [23, 24] (fun ov nv w5 => ∃ n j : Nat, Hid (n = j + 1) ∧ j ≤ x.many ∧ nv = .int .i64 n ∧ OwnN 51 wy w5 ov (refAll ps j)) (fun _ nv _ => x.many + 1 - (intOf nv).toNat)
                  case atStart => exact ⟨1, 0, rfl, Nat.zero_le _, rfl, hn0⟩
                  case round =>
                    clear hn0
                    obtain ⟨n, j, hnj, hj, rfl, hn⟩ := hrel
                    rename World => w5
                    obtain ⟨va, vn, vc, rfl⟩ := own_isSlice hn.own
                    have d2 := hn.chg.cellNever (hcc.cellNever D2.out)
                    by_cases hnm : n ≤ x.many
                    · have t2 : decide ((n : Int) ≤ (x.many : Int)) = true := decide_eq_true (by omega)
                      have t2n : decide (n ≤ x.many) = true := decide_eq_true hnm
                      have hn1 : OwnN 51 wy w5 (.slice va vn vc) (refAll ps j ++ refGo ps n 0) := by
                        rw [show refGo ps n 0 = [] from rfl, List.append_nil]; exact hn
                      clear hn
                      go_wp2_with fail
                      clear d2
                      go_loopw [23, 25] (fun ov kv w6 => ∃ k : Nat, k ≤ l.length ∧ kv = .int .i64 k ∧ OwnN 51 wy w6 ov (refAll ps j ++ refGo ps n k)) (fun _ kv _ => l.length - (intOf kv).toNat)
                      case atStart => exact ⟨0, Nat.zero_le _, rfl, hn1⟩
                      case round =>
                        clear hn1
                        obtain ⟨k, hk, rfl, hn⟩ := hrel
                        rename World => w6
                        obtain ⟨ua, un, uc, rfl⟩ := own_isSlice hn.own
                        by_cases hkl : k < l.length
                        · have hpk : k < ps.length := by have := LN.out; omega
                          obtain ⟨y, hy⟩ : ∃ y, ps[k]? = some y := ⟨ps[k]'hpk, List.getElem?_eq_getElem hpk⟩
                          obtain ⟨b4, f4, rfl, _, c4, _⟩ := elems_ints eA (gA hy)
                          obtain ⟨b5, f5, yv, rfl, _, _, c5, hyv⟩ := elems_row eP (gP hy)
                          obtain ⟨ya, yc, rfl, _, _, _⟩ := rdv_slice hyv
                          have c4 := hn.chg.cellNever (hcc.cellNever c4)
                          have c5 := hn.chg.cellNever (hcc.cellNever c5)
                          have klt : (k : Int) < (l.length : Int) := by omega
                          have hLl : (refAll ps j ++ refGo ps n k).length ≤ 1000000000 := by
                            have h1 := refAll_len ps j
                            have h2 := refGo_len ps n k
                            have h3 : j * ps.length ≤ 8 * 9 := Nat.mul_le_mul (by omega) (by have := LN.out; omega)
                            have h4 := LN.out
                            rw [List.length_append]
                            omega
                          by_cases q1 : y.at' = n
                          · have s1 : (((y.at' : Nat) : Int) == (n : Int)) = true := by rw [q1]; simp
                            have s2 : (((y.at' : Nat) : Int) != (n : Int)) = false := by rw [bne, s1]; rfl
                            have HG : Hid (refAll ps j ++ refGo ps n (k + 1) = (refAll ps j ++ refGo ps n k) ++ [y.patch]) := by rw [Hid, refGo_yes hy q1, List.append_assoc]
                            have hyr : Dat.rd w6 (fun k => Never k ∨ (Value.slice ua un uc).ownBlock = some k) [.slice ya y.patch.length yc] y.patch := hn.away (hyv.never hcc)
                            generalize refAll ps j ++ refGo ps n k = Lq at hn HG hLl
                            clear q1 hy hyv eA eP hpk
                            go_wp2_with (at_builtin; refine wpList_push (by rfl) _ _ 22 (by rfl) elemOk_changes (O := Never) (l := Lq) (y := y.patch) (by rfl) (by rfl) (by rfl) hn.own hyr (fun _ h => h.elim) hLl ?_; intro v' w7 hown7 hc7 hk7; have hn7 := hn.step1 hown7 hc7 hk7; clear hown7 hc7 hk7 hyr; obtain ⟨oa, on, oc, rfl⟩ := own_isSlice hn7.own)
                            clear hn c4 c5
                            go_wp2_with fail
                            go_roundw
                            case rel => exact ⟨k + 1, by omega, by go_num, by rw [HG.out]; exact hn7⟩
                            case measure => simp [intOf] <;> omega
                          · have s1 : (((y.at' : Nat) : Int) == (n : Int)) = false := by rw [beq_eq_false_iff_ne]; omega
                            have s2 : (((y.at' : Nat) : Int) != (n : Int)) = true := by rw [bne, s1]; rfl
                            have HG : Hid (refGo ps n (k + 1) = refGo ps n k) := refGo_no hy q1
                            clear q1 hy hyv eA eP hpk hLl
                            go_wp2_with fail
                            go_roundw
                            case rel => exact ⟨k + 1, by omega, by go_num, by rw [HG.out]; exact hn⟩
                            case measure => simp [intOf] <;> omega
                        · obtain rfl : k = l.length := by omega
                          have HG : Hid (refAll ps j ++ refGo ps n l.length = refAll ps (j + 1)) := by rw [Hid, refAll, hnj.out, LN.out]
                          rw [HG.out] at hn
                          have hnj2 : Hid (n + 1 = j + 1 + 1) := by rw [Hid, hnj.out]
                          have hj2 : j + 1 ≤ x.many := by have := hnj.out; omega
                          clear eA eP
                          go_wp2_with fail
                          go_roundw
                          case rel => exact ⟨n + 1, j + 1, hnj2, hj2, by go_num, hn⟩
                          case measure => simp [intOf] <;> omega
                    · have t2 : decide ((n : Int) ≤ (x.many : Int)) = false := decide_eq_false (by omega)
                      have t2n : decide (n ≤ x.many) = false := decide_eq_false hnm
                      obtain rfl : j = x.many := by have := hnj.out; omega
                      have hr := hn.own.rdv
                      rw [HRA.out x.many (Nat.le_refl _)] at hr
                      have d3 := hn.chg.cellNever (hcc.cellNever D3.out)
                      have hcg := hwy.trans hn.chg
                      clear hn eA eP
                      go_wp2_with fail
                      go_ret3
                      exact ⟨_, by rw [HO6.out]; rfl, hcg, by rw [HO6.out]; exact hr⟩
                · have s1 : ((l.length : Int) == (x.many : Int) + 1) = false := by rw [beq_eq_false_iff_ne]; omega
                  have s2 : ((l.length : Int) != (x.many : Int) + 1) = true := by rw [bne, s1]; rfl
                  have HO5 : Hid (openMs l = ([], [], 4)) := by rw [Hid, HO.out]; exact open_few hsa.out hND.out HX.out (by have := LN.out; omega)
                  clear hlm eT eM eA eP hpig hxo
                  go_wp2_with fail
                  go_ret3
                  exact openOf_no HO5.out rfl hwy
end Go.Proofs.YtjiaidchcldocaaGreatDoor
namespace Go.Proofs.YtjiaidchcldocaaGreatDoor
open Go.RowKit

theorem elemOk_mail : ElemOk Tryz.prog 24 31 4 := elemOk_of Tryz.underlying24 (z := .agg #[.string ⟨#[]⟩, .string ⟨#[]⟩, .string ⟨#[]⟩, .slice none 0 0]) (b := 72) (by kernel_rfl) rfl (by decide)
end Go.Proofs.YtjiaidchcldocaaGreatDoor
