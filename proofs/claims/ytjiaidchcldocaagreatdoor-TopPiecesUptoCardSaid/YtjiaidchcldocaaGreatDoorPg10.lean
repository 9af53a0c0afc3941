/-
  PARTS: THE WALK of unified.Reader's Line.; THE WALK of the document's Parts (a text of its own: no function of layers 1 to 9 in it).; THE WALKS of hunk.Cut, Turned, Turn.
-/
import Derived.Test.YtjiaidchcldocaaGreatDoorPg9
import Derived.Test.YtjiaidchcldocaaGreatDoorPg1
import Derived.Test.YtjiaidchcldocaaGreatDoorPg3
import Derived.Test.YtjiaidchcldocaaGreatDoorPg5
import Derived.Test.YtjiaidchcldocaaGreatDoorPg6
set_option linter.unusedVariables false
set_option linter.unusedSimpArgs false
namespace Go.Proofs.YtjiaidchcldocaaGreatDoor
open Go.RowKit

theorem lib_pre (s p : List UInt8) : (dropPre p s = none ∧ Lib.hasPrefix s p = false ∧ Lib.trimPrefix s p = s) ∨ ∃ r, dropPre p s = some r ∧ Lib.hasPrefix s p = true ∧ Lib.trimPrefix s p = r := by
  unfold dropPre Lib.trimPrefix Lib.hasPrefix
  by_cases h : p.isPrefixOf s = true
  · exact .inr ⟨_, by rw [if_pos h], h, by rw [if_pos h]⟩
  · exact .inl ⟨by rw [if_neg h], Bool.eq_false_iff.2 h, by rw [if_neg h]⟩
theorem lib_suf (s p : List UInt8) : (dropSuf p s = none ∧ Lib.hasSuffix s p = false ∧ Lib.trimSuffix s p = s) ∨ ∃ r, dropSuf p s = some r ∧ Lib.hasSuffix s p = true ∧ Lib.trimSuffix s p = r := by
  unfold dropSuf Lib.trimSuffix Lib.hasSuffix
  by_cases h : p.isSuffixOf s = true
  · exact .inr ⟨_, by rw [if_pos h], h, by rw [if_pos h]⟩
  · exact .inl ⟨by rw [if_neg h], Bool.eq_false_iff.2 h, by rw [if_neg h]⟩
/-- a head, as the program reads it: five tests -/
theorem head_tests (s : List UInt8) : ∃ (p1 p2 p3 : Bool) (s1 s2 ca cb : List UInt8), Lib.hasPrefix s atAt = p1 ∧ Lib.trimPrefix s atAt = s1 ∧ Lib.hasSuffix s1 endAt = p2 ∧ Lib.trimSuffix s1 endAt = s2 ∧ Lib.cut s2 [32, 43] = (ca, cb, p3) ∧
    s1.length ≤ s.length ∧ s2.length ≤ s.length ∧ ca.length ≤ s.length ∧ cb.length ≤ s.length ∧
    headOf s = if p1 = true ∧ p2 = true ∧ p3 = true then (match spanOf ca with
          | none => none
          | some (a, x) => match spanOf cb with
            | none => none
            | some (b, y) => some (a, x, b, y)) else none := by
  have hc := lib_cut (t := [32, 43]) (s := Lib.trimSuffix (Lib.trimPrefix s atAt) endAt) (by simp)
  have l1 : (Lib.trimPrefix s atAt).length ≤ s.length := by
    unfold Lib.trimPrefix; split
    · rw [List.length_drop]; omega
    · exact Nat.le_refl _
  have l2 : (Lib.trimSuffix (Lib.trimPrefix s atAt) endAt).length ≤ s.length := by
    unfold Lib.trimSuffix; split
    · rw [List.length_take]; omega
    · exact l1
  have l3 := cutA_len [32, 43] (Lib.trimSuffix (Lib.trimPrefix s atAt) endAt)
  have l4 := cutB_len [32, 43] (Lib.trimSuffix (Lib.trimPrefix s atAt) endAt)
  refine ⟨_, _, _, _, _, _, _, rfl, rfl, rfl, rfl, hc, l1, l2, by omega, by omega, ?_⟩
  unfold headOf
  rcases lib_pre s atAt with ⟨h1, h2, h3⟩ | ⟨r, h1, h2, h3⟩
  · rw [h1, h2, if_neg (by simp)]
  · rw [h1, h2, h3]
    simp only
    rcases lib_suf r endAt with ⟨g1, g2, g3⟩ | ⟨q, g1, g2, g3⟩
    · rw [g1, g2, if_neg (by simp)]
    · rw [g1, g2, g3]
      simp only
      unfold cutA cutB
      cases hcu : cutSub [32, 43] q with
      | none => rw [if_neg (by simp)]
      | some p =>
        simp
        rfl
theorem rl_head {hs : List Hunk} {o n : Nat} (h : ¬ (0 < o ∨ 0 < n)) (s : List UInt8) : readLine hs o n s = match headOf s with
    | none => none
    | some (a, x, b, y) => some (hs ++ [⟨a, b, []⟩], x, y) := by unfold readLine; rw [if_neg h]; rfl

set_option maxHeartbeats 2000000 in
set_option maxRecDepth 100000 in
theorem reader_line (W0 B : Nat) (v : Value) (hs : List Hunk) (o n : Nat) (s : ByteArray) (w : World) (h : RdrAt w W0 B v hs o n) (hk : RdOk hs o n) (hs1 : s.size ≤ 1000000000) (hon : o ≤ 1000000 ∧ n ≤ 1000000)
    (hb : hs.length ≤ 1000000) (hml : ∀ h ∈ hs, h.marks.length ≤ 1000000) (m : Int) (hg : Globs w m) :
    Calls Tryz.prog 122 #[.pointer (some ⟨B, 0, none⟩), .string s] w (LinePost W0 B hs o n s.data.toList w) := by
  by_cases hop : 0 < o ∨ 0 < n
  · have HO := Lib.hid (opn_true hop)
    have HC := Lib.hid (reader_mark W0 B v hs o n s w h hop (hk hop) hs1 hon hb hml)
    have hbox := h.box
    clear hml hk hop
    go_enter Tryz.func122, Tryz.ntmps122
    go_wp2_with fail
    refine (rd_open B v o n _ hbox).mono ?_
    rintro e w1 ⟨rfl, rfl⟩
    rw [HO.out]
    go_wp2_with fail
    refine HC.out.mono ?_
    rintro e w2 ⟨hc, hp⟩
    cases hr : readLine hs o n s.data.toList with
    | none =>
      rw [hr] at hp
      subst hp
      have HR := Lib.hid hr
      clear hr HC
      go_wp2_with fail
      go_ret
      exact linePost_no HR.out rfl hc
    | some p =>
      obtain ⟨hs', o', n'⟩ := p
      rw [hr] at hp
      obtain ⟨rfl, hp⟩ := hp
      have HR := Lib.hid hr
      have HP := Lib.hid hp
      clear hr hp HC
      go_wp2_with fail
      go_ret
      exact linePost_yes HR.out rfl hc HP.out
  · have HO := Lib.hid (opn_false hop)
    have HR := Lib.hid (rl_head (hs := hs) hop s.data.toList)
    have hbox := h.box
    have hbase := h.base
    have hown := h.own
    obtain ⟨p1, p2, p3, s1, s2, ca, cb, e1, e2, e3, e4, e5, l1, l2, l3, l4, hh⟩ := head_tests s.data.toList
    have HH := Lib.hid hh
    have E1 := Lib.hid e1
    have E2 := Lib.hid e2
    have E3 := Lib.hid e3
    have E4 := Lib.hid e4
    have E5 := Lib.hid e5
    rw [← Lib.size_eq] at l1 l2 l3 l4
    clear e1 e2 e3 e4 e5 hh hml hk hop h
    go_enter Tryz.func122, Tryz.ntmps122
    go_wp2_with fail
    refine (rd_open B v o n _ hbox).mono ?_
    rintro e w1 ⟨rfl, rfl⟩
    rename World => w
    rw [HO.out]
    go_wp2_with fail
    refine (Tryz.strings_CutPrefix s (toB atAt) _).mono ?_
    rintro e w1 ⟨rfl, rfl⟩
    rename World => w
    rw [toB_data, E1.out, E2.out]
    rw [show (⟨s1.toArray⟩ : ByteArray) = toB s1 from rfl]
    go_wp2_with fail
    refine (Tryz.strings_CutSuffix (toB s1) (toB endAt) _ (by rw [toB_size']; omega)).mono ?_
    rintro e w1 ⟨rfl, rfl⟩
    rename World => w
    rw [toB_data, toB_data, E3.out, E4.out]
    rw [show (⟨s2.toArray⟩ : ByteArray) = toB s2 from rfl]
    go_wp2_with fail
    refine (Tryz.strings_Cut (toB s2) (toB [32, 43]) m _ (by rw [toB_size']; omega) hg.ml).mono ?_
    rintro e w2 ⟨rfl, nd, rfl⟩
    have hc : Chg Never w (w.drewN nd) := (Chg.refl Never w).drewN nd
    rw [toB_data, toB_data, E5.out]
    rw [show (⟨ca.toArray⟩ : ByteArray) = toB ca from rfl, show (⟨cb.toArray⟩ : ByteArray) = toB cb from rfl]
    generalize w.drewN nd = w2 at hc ⊢
    go_wp2_with fail
    refine (read_any (toB ca) (by rw [toB_size']; omega) _ m (hg.never hc)).mono ?_
    rintro e w3 ⟨x, y, rfl, hxy, hc3⟩
    have hc := hc.trans hc3
    rw [toB_data] at hxy ⊢
    go_wp2_with fail
    refine (read_any (toB cb) (by rw [toB_size']; omega) _ m (hg.never hc)).mono ?_
    rintro e w4 ⟨x', y', rfl, hxy', hc4⟩
    have hc := hc.trans hc4
    rw [toB_data] at hxy' ⊢
    clear hc3 hc4 E1 E2 E3 E4 E5
    cases p1 with
    | false =>
      have hr : Hid (readLine hs o n s.data.toList = none) := by
        rw [Hid, HR.out, HH.out]
        simp
      have hcN : Chg (RdC W0 B) w _ := hc.mono (O' := RdC W0 B) (fun _ _ h => h.elim)
      clear HR HH
      go_wp2_with fail
      go_ret
      exact linePost_no hr.out rfl hcN
    | true =>
      cases p2 with
      | false =>
        have hr : Hid (readLine hs o n s.data.toList = none) := by
          rw [Hid, HR.out, HH.out]
          simp
        have hcN : Chg (RdC W0 B) w _ := hc.mono (O' := RdC W0 B) (fun _ _ h => h.elim)
        clear HR HH
        go_wp2_with fail
        go_ret
        exact linePost_no hr.out rfl hcN
      | true =>
        cases p3 with
        | false =>
          have hr : Hid (readLine hs o n s.data.toList = none) := by
            rw [Hid, HR.out, HH.out]
            simp
          have hcN : Chg (RdC W0 B) w _ := hc.mono (O' := RdC W0 B) (fun _ _ h => h.elim)
          clear HR HH
          go_wp2_with fail
          go_ret
          exact linePost_no hr.out rfl hcN
        | true =>
          cases ha : spanOf ca with
          | none =>
            rw [ha] at HH
            rw [Option.isSome_none]
            clear ha hxy hxy'
            generalize (spanOf cb).isSome = f5
            have hr : Hid (readLine hs o n s.data.toList = none) := by
              rw [Hid, HR.out, HH.out]
              simp
            have hcN : Chg (RdC W0 B) w _ := hc.mono (O' := RdC W0 B) (fun _ _ h => h.elim)
            clear HR HH
            go_wp2_with fail
            go_ret
            exact linePost_no hr.out rfl hcN
          | some p =>
            obtain ⟨a, xa⟩ := p
            obtain ⟨rfl, rfl⟩ := hxy a xa ha
            rw [ha] at HH
            rw [Option.isSome_some]
            cases hb2 : spanOf cb with
            | none =>
              rw [hb2] at HH
              rw [Option.isSome_none]
              clear ha hxy hxy' hb2
              have hr : Hid (readLine hs o n s.data.toList = none) := by
                rw [Hid, HR.out, HH.out]
                simp
              have hcN : Chg (RdC W0 B) w _ := hc.mono (O' := RdC W0 B) (fun _ _ h => h.elim)
              clear HR HH
              go_wp2_with fail
              go_ret
              exact linePost_no hr.out rfl hcN
            | some p =>
              obtain ⟨b, xb⟩ := p
              obtain ⟨rfl, rfl⟩ := hxy' b xb hb2
              rw [hb2] at HH
              rw [Option.isSome_some]
              have hr : Hid (readLine hs o n s.data.toList = some (hs ++ [⟨x, x', []⟩], xa, xb)) := by
                rw [Hid, HR.out, HH.out]
                simp
              have hbox4 := hbox.keep hc (fun h => h)
              have hown4 := hown.never hc
              have hBl := hbox4.lt
              obtain ⟨c0, c1, c2⟩ := hbox4.cell
              have hfr := hbox4.free
              have hO : ∀ k, RdO W0 B k → k < w4.heap.size := by
                rintro k (hk | rfl)
                · have := hc.size; omega
                · exact hBl
              obtain ⟨va, vn, vc, rfl⟩ := own_isSlice hown4
              have hBv : ¬ OwnB (.slice va vn vc) B := by
                obtain ⟨_, _, qq, _⟩ := hown4
                exact fun hh => qq B hh (.inr rfl)
              have hvW : ∀ k, OwnB (.slice va vn vc) k → W0 ≤ k := fun k hk => by
                obtain ⟨_, _, qq, _⟩ := hown4
                rcases Nat.lt_or_ge k W0 with h | h
                · exact absurd (.inl h) (qq k hk)
                · exact h
              have hlen : hs.length ≤ 1000000000 := by omega
              clear HR HH ha hb2 hxy hxy' hbox hown
              go_wp2_with (at_builtin; refine wpList_push_last (by rfl) _ _ 83 (by rfl) 126 elemOk_hunk (O := RdO W0 B) (by rfl) (by rfl) (by simp) hown4 hO hlen ?_; intro v' w5 xs hlast hc5; obtain ⟨g', gc', rfl, -, -, -, -, -, -, -, -⟩ := hlast.shape; have hbox5 := hbox4.keep hc5 hBv; have hfr5 := hbox5.free 0; have hfr51 := hbox5.free 1; have hfr52 := hbox5.free 2; obtain ⟨d0, d1, d2⟩ := hbox5.cell)
              have hcF : Chg (RdC W0 B) w ((((w5.setCell ⟨B, 0, none⟩ (.slice (some ⟨g', 0, none⟩) (hs.length + 1) gc')).setCell ⟨B, 1, none⟩ (.int .i64 (xa : Nat))).setCell ⟨B, 2, none⟩ (.int .i64 (xb : Nat)))) :=
                ((((hc.mono (O' := RdC W0 B) (fun _ _ h => h.elim)).trans (hc5.mono (O' := RdC W0 B) (fun k _ hk => .inr (hvW k hk)))).setCell (.inr (show RdC W0 B B from .inl rfl)) _).setCell (.inr (show RdC W0 B B from .inl rfl)) _).setCell (.inr (show RdC W0 B B from .inl rfl)) _
              have hSB : Chg (fun k => k = B) w5 ((((w5.setCell ⟨B, 0, none⟩ (.slice (some ⟨g', 0, none⟩) (hs.length + 1) gc')).setCell ⟨B, 1, none⟩ (.int .i64 (xa : Nat))).setCell ⟨B, 2, none⟩ (.int .i64 (xb : Nat)))) :=
                (((Chg.refl (fun k => k = B) w5).setCell (p := ⟨B, 0, none⟩) (.inr rfl) _).setCell (p := ⟨B, 1, none⟩) (.inr rfl) _).setCell (p := ⟨B, 2, none⟩) (.inr rfl) _
              have hRF : ∃ v', RdrAt ((((w5.setCell ⟨B, 0, none⟩ (.slice (some ⟨g', 0, none⟩) (hs.length + 1) gc')).setCell ⟨B, 1, none⟩ (.int .i64 (xa : Nat))).setCell ⟨B, 2, none⟩ (.int .i64 (xb : Nat)))) W0 B v' (hs ++ [⟨x, x', []⟩]) xa xb :=
                ⟨_, Nat.le_trans hbase hcF.size, ((hbox5.set0 _).set1 _).set2 _, .inr ⟨hs, _, _, _, rfl, hlast.keepO hSB (fun _ _ hk => .inr hk) (fun _ _ hk => hk)⟩⟩
              have HRF := Lib.hid hRF
              have HCF := Lib.hid hcF
              clear hRF hcF hSB hlast hc5 hbox4 hbox5 hown4 c0 c1 c2 hfr hc
              go_wp2_with fail
              go_ret
              exact linePost_yes hr.out rfl HCF.out HRF.out
end Go.Proofs.YtjiaidchcldocaaGreatDoor
namespace Go.Proofs.YtjiaidchcldocaaGreatDoor
open Go.RowKit

theorem byte_at {s : ByteArray} {k : Nat} (h : k < s.size) : s.data.toList[k]? = some (s[k]'h) := by
  rw [Array.getElem?_toList, Array.getElem?_eq_getElem h]; rfl
/-- how far a text has been parted -/
def PartsInv (d : UInt8) (s : ByteArray) (q k : Nat) (L : List ByteArray) : Prop :=
  parts d s.data.toList = L.map (·.data.toList) ++ parts d (s.data.toList.drop q) ∧ ∀ j, q ≤ j → j < k → s.data.toList[j]? ≠ some d
theorem PartsInv.step {d : UInt8} {s : ByteArray} {q k : Nat} {L : List ByteArray} {c : UInt8} (h : PartsInv d s q k L) (hk : s.data.toList[k]? = some c) (hc : c ≠ d) : PartsInv d s q (k + 1) L :=
  ⟨h.1, fun j h1 h2 e => by
    by_cases hj : j = k
    · subst hj; rw [hk] at e; injection e with e; exact hc e
    · exact h.2 j h1 (by omega) e⟩
theorem no_sep {d : UInt8} {s : List UInt8} {q k : Nat} (h : ∀ j, q ≤ j → j < k → s[j]? ≠ some d) : ∀ x ∈ (s.drop q).take (k - q), x ≠ d := by
  rintro x hx rfl
  obtain ⟨i, hi⟩ := List.getElem?_of_mem hx
  rw [List.getElem?_take] at hi
  split at hi
  · rw [List.getElem?_drop] at hi
    exact h (q + i) (by omega) (by omega) hi
  · cases hi
theorem PartsInv.cut {d : UInt8} {s : ByteArray} {q k : Nat} {L : List ByteArray} (h : PartsInv d s q k L) (hq : q ≤ k) (hk : s.data.toList[k]? = some d) : PartsInv d s (k + 1) (k + 1) (L ++ [s.extract q k]) := by
  refine ⟨?_, fun j h1 h2 => by omega⟩
  have e : s.data.toList.drop q = (s.data.toList.drop q).take (k - q) ++ d :: s.data.toList.drop (k + 1) := by
    conv => lhs; rw [← List.take_append_drop (k - q) (s.data.toList.drop q), List.drop_drop, show q + (k - q) = k by omega, drop_eq hk]
  rw [h.1, e, parts_cut _ (no_sep h.2), List.map_append, List.append_assoc]
  simp only [List.map_cons, List.map_nil, List.singleton_append]
  rw [Lib.extract_data]
theorem PartsInv.fin {d : UInt8} {s : ByteArray} {q : Nat} {L : List ByteArray} (h : PartsInv d s q s.size L) : (parts d s.data.toList).map toB = L ++ [s.extract q s.size] := by
  have hl : s.data.toList.length = s.size := (Lib.size_eq s).symm
  have e : (s.data.toList.drop q).take (s.size - q) = s.data.toList.drop q := List.take_of_length_le (by rw [List.length_drop, hl]; exact Nat.le_refl _)
  have hn := no_sep h.2
  rw [e] at hn
  have e2 : toB (s.data.toList.drop q) = s.extract q s.size := by rw [← e, ← Lib.extract_data, toB_of]
  rw [h.1, parts_none hn, List.map_append, List.map_map, map_toB, List.map_cons, List.map_nil, e2]

end Go.Proofs.YtjiaidchcldocaaGreatDoor
namespace Go.Proofs.YtjiaidchcldocaaGreatDoor
open Go.RowKit

def cutR (s : List Mark) (n : Int) : List Hunk := if cutFault s n = 0 then cutOf s n else []

set_option maxHeartbeats 800000 in
theorem Cut_any (s : List Mark) (n : Int) (v : Value) (w : World) (hs : Rdv w Never v s) (hn : I64 n) :
    Calls Tryz.prog 111 #[v, .int .i64 n] w fun e w' => ∃ r, e = .returned (.tuple #[r, errV (cutFault s n)]) ∧ Chg Never w w' ∧ Rdv w' (Old w.heap.size) r (cutR s n) := by
  obtain ⟨sa, scap, rfl, _, _, _⟩ := rdv_slice hs
  by_cases h1 : scriptFault s = 0
  · have hlen := scriptFault_len h1
    have H1 := Lib.hid h1
    have l1 := oldN_le s
    have l2 := newN_le s
    by_cases h2 : n < 0
    · have E : Hid (cutFault s n = 1) := by unfold cutFault Hid; rw [if_neg (by simp [h1]), if_pos (.inl h2)]
      clear h1
      go_enter Tryz.func111, Tryz.ntmps111
      go_wp2_with fail
      refine (edit_check_any s _ _ hs).mono ?_
      rintro e w1 ⟨rfl, hc1⟩
      rw [H1.out, errV_zero]
      go_wp2_with fail
      go_ret2
      exact ⟨.slice none 0 0, by rw [E.out]; rfl, hc1, by unfold cutR; rw [if_neg (by rw [E.out]; decide)]; exact rdv_nil _ _⟩
    · by_cases h3 : 1000 < n
      · have E : Hid (cutFault s n = 1) := by unfold cutFault Hid; rw [if_neg (by simp [h1]), if_pos (.inr h3)]
        clear h1
        go_enter Tryz.func111, Tryz.ntmps111
        go_wp2_with fail
        refine (edit_check_any s _ _ hs).mono ?_
        rintro e w1 ⟨rfl, hc1⟩
        rw [H1.out, errV_zero]
        go_wp2_with fail
        go_ret2
        exact ⟨.slice none 0 0, by rw [E.out]; rfl, hc1, by unfold cutR; rw [if_neg (by rw [E.out]; decide)]; exact rdv_nil _ _⟩
      · by_cases h4 : 60 < oldN s ∨ 60 < newN s
        · have E : Hid (cutFault s n = 3) := by unfold cutFault Hid; rw [if_neg (by simp [h1]), if_neg (by omega), if_pos h4]
          clear h1
          rcases (show 60 < oldN s ∨ oldN s ≤ 60 ∧ 60 < newN s by omega) with h5 | ⟨h5, h6⟩
          all_goals
            clear h4
            have t1 : decide (n < 0) = false := by simp; omega
            have t2 : decide (1000 < n) = false := by simp; omega
            go_enter Tryz.func111, Tryz.ntmps111
            go_wp2_with fail
            refine (edit_check_any s _ _ hs).mono ?_
            rintro e w1 ⟨rfl, hc1⟩
            rw [H1.out, errV_zero]
            go_wp2_with fail
            refine (size_any ⟨0, 0, s⟩ _ _ (hs.never hc1)).mono ?_
            rintro e w2 ⟨rfl, hc2⟩
            go_wp2_with fail
            go_ret2
            exact ⟨.slice none 0 0, by rw [E.out]; rfl, hc1.trans hc2, by unfold cutR; rw [if_neg (by rw [E.out]; decide)]; exact rdv_nil _ _⟩
        · have E : Hid (cutFault s n = 0) := by unfold cutFault Hid; rw [if_neg (by simp [h1]), if_neg (by omega), if_neg h4]
          clear h1
          have t1 : decide (n < 0) = false := by simp; omega
          have t2 : decide (1000 < n) = false := by simp; omega
          have h5 : oldN s ≤ 60 := by omega
          have h6 : newN s ≤ 60 := by omega
          clear h4
          go_enter Tryz.func111, Tryz.ntmps111
          go_wp2_with fail
          refine (edit_check_any s _ _ hs).mono ?_
          rintro e w1 ⟨rfl, hc1⟩
          rw [H1.out, errV_zero]
          go_wp2_with fail
          refine (size_any ⟨0, 0, s⟩ _ _ (hs.never hc1)).mono ?_
          rintro e w2 ⟨rfl, hc2⟩
          have hw := hc1.trans hc2
          go_wp2_with fail
          refine (cut_any s n _ _ (hs.never hw) hlen (by omega) (by omega)).mono ?_
          rintro e w3 ⟨r, rfl, hc3, hr⟩
          go_wp2_with fail
          go_ret2
          exact ⟨r, by rw [E.out]; rfl, hw.trans hc3, by unfold cutR; rw [if_pos E.out]; exact hr.sub (fun k hk h => Nat.lt_of_lt_of_le h hw.size)⟩
  · have E : Hid (cutFault s n = scriptFault s) := by unfold cutFault Hid; rw [if_pos h1]
    go_enter Tryz.func111, Tryz.ntmps111
    go_wp2_with fail
    refine (edit_check_any s _ _ hs).mono ?_
    rintro e w1 ⟨rfl, hc1⟩
    rw [errV_pos h1]
    go_wp2_with fail
    go_ret2
    exact ⟨.slice none 0 0, by rw [E.out, errV_pos h1]; rfl, hc1, by unfold cutR; rw [if_neg (by rw [E.out]; exact h1)]; exact rdv_nil _ _⟩

/-! ### turned -/

end Go.Proofs.YtjiaidchcldocaaGreatDoor
