/-
  THE WALK of apply.Strict.
-/
import Derived.Test.YtpoammapjmddfaaDoorApplyB
namespace Go.Proofs.YtpoammapjmddfaaDoor
open Go.RowKit

theorem own_shape {α : Type} [Dat α] {e : TypeId} {w : World} {O : Nat → Prop} {v : Value} {l : List α} (h : Own e w O v l) : ∃ a c, v = .slice a l.length c ∧ c ≤ maxLen := by
  obtain ⟨xs, hx, _⟩ := h
  rcases hx.2 with ⟨h, h0⟩ | ⟨g, cap, cur, h, _, _, _, hm, _⟩
  · exact ⟨none, 0, by rw [h, h0], Nat.zero_le _⟩
  · exact ⟨_, _, h, hm⟩

set_option maxHeartbeats 1600000 in
set_option maxRecDepth 100000 in
theorem strict_ok (a : List ByteArray) (l : List Hunk) (va vl : Value) (w : World) (ha : Rdv w Never va a) (hl : Rdv w Never vl l) (h1 : linesFault a = 0) (h2 : hunksFault l = (0, 0)) :
    Calls Tryd.prog 98 #[va, vl] w fun e w' => ∃ r, e = .returned (.tuple #[r, .int .i64 (strict a l).2.1, errV (strict a l).2.2]) ∧ Chg Never w w' ∧ Rdv w' (Old w.heap.size) r (strict a l).1 := by
  have HS : Hid (strict a l = strictGo a 0 0 [] l) := by unfold Hid strict; rw [if_neg (by simp [h1]), if_neg (by simp [h2])]
  have hla := linesFault_len h1
  obtain ⟨hl60, hok⟩ := hunksFault_zero (l := l) (by rw [h2])
  have H1 := Lib.hid h1
  have H2 := Lib.hid h2
  have HK := Lib.hid hok
  obtain ⟨aa, acap, rfl, a1, a2, _⟩ := rdv_slice ha
  obtain ⟨ll, lcap, rfl, l1, l2, l3⟩ := rdv_slice hl
  unfold maxLen at a2 l2
  clear h1 h2 hok
  go_enter Tryd.func98, Tryd.ntmps98
  go_wp2_with fail
  refine (check_any a _ _ ha).mono ?_
  rintro e w1 ⟨rfl, rfl⟩
  rw [H1.out, errV_zero]
  go_wp2_with fail
  refine (hunk_check_any l _ _ hl).mono ?_
  rintro e w1 ⟨rfl, hc1⟩
  rw [H2.out, errV_zero]
  go_wp2_with fail
  go_loopw [10, 11, 33] (fun o fr i wr => ∃ (k frn : Nat) (outl : List ByteArray) (more : Int), k ≤ l.length ∧ i = .int .i64 k ∧ fr = .int .i64 frn ∧ Chg Never w wr ∧ Own 9 wr (Old w.heap.size) o outl ∧ frn ≤ a.length ∧ outl.length ≤ 200 * k ∧
      Hid (hOk frn more (l.drop k)) ∧ Hid (strictGo a k frn outl (l.drop k) = strict a l)) (fun _ _ i _ => l.length - (intOf i).toNat)
  case atStart => exact ⟨0, 0, [], 0, Nat.zero_le _, rfl, rfl, hc1, own_nil _ _ _, Nat.zero_le _, Nat.zero_le _, HK.out, HS.out.symm⟩
  case round =>
    clear hc1 HK HS
    obtain ⟨k, frn, outl, more, hk, rfl, rfl, hc, hown, hfr, hol, hok, hst⟩ := hrel
    by_cases hlt : k < l.length
    · obtain ⟨x, hx⟩ : ∃ x, l[k]? = some x := ⟨l[k], by simp [hlt]⟩
      obtain ⟨b, off, mv, rfl, _, _, c0, c1, c2, hmv⟩ := elems_hunk l3 hx
      have hd := drop_eq hx
      have HK1 := hok.out
      have HS1 := hst.out
      rw [hd] at HK1 HS1
      obtain ⟨z1, z2, z3, z4, z5, z6, z7, z8⟩ := oneFault_zero HK1.1
      have HK2 := Lib.hid HK1.2
      obtain ⟨xo, xn, xm⟩ := x
      simp only at c0 c1 c2 hmv z1 z3 z5 z7
      obtain ⟨o, rfl⟩ := Int.eq_ofNat_of_zero_le z3
      rw [strictGo] at HS1
      have HS2 := Lib.hid HS1
      have hmv := hmv.never hc
      have c0 := hc.cellNever c0
      have c1 := hc.cellNever c1
      have c2 := hc.cellNever c2
      obtain ⟨ma, mcap, rfl, _, _, _⟩ := rdv_slice hmv
      have HZ1 := Lib.hid z1
      have ln : (oldOf xm).length ≤ 120 := Nat.le_trans (those_le _ _) (scriptFault_len z1)
      have lm : (newOf xm).length ≤ 120 := Nat.le_trans (those_le _ _) (scriptFault_len z1)
      have E1 : Hid (oldN xm = (oldOf xm).length) := rfl
      clear hd HK1 HS1 z1 z2 z4 z6 z8 hx l3 hl hok hst
      have hA : Chg Never wr (wr.alloc (.cells #[.int .i64 o, .int .i64 xn, .slice ma xm.length mcap] 42)) := (Chg.refl Never wr).alloc _
      go_wp2_with fail
      refine (sides_any xm _ _ (hmv.never hA) HZ1.out).mono ?_
      rintro e w2 ⟨r, s, rfl, hc2, hr, hs⟩
      have hA2 := hA.trans hc2
      obtain ⟨x0, x1, x2⟩ := box3 hc2
      have ha2 := ha.never (hc.trans hA2)
      have hr2 := hr.sub (O' := Never) (fun _ _ h => h.elim)
      have hs2 := hs.sub (O' := Never) (fun _ _ h => h.elim)
      obtain ⟨ra, rcap, rfl, _, _, _⟩ := rdv_slice hr2
      obtain ⟨sa, scap, rfl, _, _, _⟩ := rdv_slice hs2
      clear hc2 hr hs hA
      go_wp2_with fail
      refine (stands_any a (oldOf xm) (o : Int) _ _ _ ha2 hr2 (by omega) (by omega) (by omega) (by omega)).mono ?_
      rintro e w3 ⟨rfl, hc3⟩
      have hA3 := hA2.trans hc3
      have x0 := hc3.cellNever x0
      have hs3 := hs2.never hc3
      have ha3 := ha2.never hc3
      clear hc3 hA2 hs2 ha2 hr2 x1 x2
      cases hsd : standsB a (o : Int) (oldOf xm) with
      | false =>
        have E := HS2.out
        rw [hsd] at E
        rw [if_neg (by decide)] at E
        have HE := Lib.hid E
        clear E hsd
        go_wp2_with fail
        go_ret3
        exact ⟨.slice none 0 0, by rw [← HE.out]; rfl, hc.trans hA3, by rw [← HE.out]; exact rdv_nil _ _⟩
      | true =>
        have s2 := (stands_split hsd).2.1
        simp only [Int.toNat_natCast] at s2
        have E := HS2.out
        rw [hsd, if_pos rfl] at E
        simp only [Int.toNat_natCast] at E
        have HE := Lib.hid E
        have hfo : frn ≤ o := by omega
        obtain ⟨sb, hrun0, hrun1, hsub⟩ := slice_str ha3 frn o hfo (by omega)
        have hrun := fun (wx : World) => hrun0 (frn : Int) (o : Int) wx rfl rfl
        clear hrun0 hrun1
        have lsub : ((a.drop frn).take (o - frn)).length = o - frn := by rw [List.length_take, List.length_drop]; omega
        have hsub' : Rdv w3 Never (.slice sb (o - frn) (acap - frn)) ((a.drop frn).take (o - frn)) := hsub
        have hown3 := hown.never hA3
        have hown3r := (hown3.rdv).sub (O' := Never) (fun _ _ h => h.elim)
        have hfl : ([outl, (a.drop frn).take (o - frn), newOf xm] : List (List ByteArray)).flatten = outl ++ (a.drop frn).take (o - frn) ++ newOf xm := by simp
        have HFL := Lib.hid hfl
        have LS := Lib.hid lsub
        have hb : ([outl, (a.drop frn).take (o - frn), newOf xm] : List (List ByteArray)).flatten.length ≤ 1000000 := by
          rw [hfl, List.length_append, List.length_append, lsub]; omega
        have HB2 : Hid ((outl ++ (a.drop frn).take (o - frn) ++ newOf xm).length ≤ 200 * (k + 1)) := by
          rw [Hid, List.length_append, List.length_append, lsub]; omega
        obtain ⟨oa, ocap, rfl, _⟩ := own_shape hown3
        have HB := Lib.hid hb
        clear E hsd hsub lsub hfl hown hb
        go_wp2_with fail
        refine (concat_any [outl, (a.drop frn).take (o - frn), newOf xm] _ _ (rdv_lit (e := 22) (cs := [_, _, _]) (heap_alloc_new _ _) rfl (by simp) ⟨hown3r.never ((Chg.refl Never _).alloc _), hsub'.never ((Chg.refl Never _).alloc _), hs3.never ((Chg.refl Never _).alloc _), trivial⟩) HB.out).mono ?_
        rintro e w4 ⟨r4, rfl, hc4, hown4⟩
        have hA4 := ((hc.trans hA3).alloc _).trans hc4
        have x0 := (((Chg.refl Never w3).alloc _).trans hc4).cellNever x0
        have hown5 := hown4.keep (O'' := Old w.heap.size) (Chg.refl Never _) (fun _ _ h => h.elim) (fun j _ hj => by
          have := (hc.trans hA3).size
          unfold Old at *
          simp only [World.size_alloc]
          omega)
        clear hown4 hc4 hown3 hown3r hsub'
        go_wp2_with fail
        go_roundw
        case rel => exact ⟨k + 1, o + oldN xm, _, _, by omega, by go_num, by rw [E1.out]; go_num, hA4, hown5, by rw [E1.out]; exact s2, by rw [HFL.out]; exact HB2.out, by
          have := HK2.out
          rw [Hid]
          push_cast
          exact this, by rw [Hid, HFL.out]; exact HE.out⟩
        case measure => simp [intOf] <;> omega
    · obtain rfl : k = l.length := by omega
      obtain ⟨sb, hrun0, hrun1, hsub⟩ := slice_str (ha.never hc) frn a.length hfr (Nat.le_refl _)
      have hrun := fun (wx : World) => hrun1 (frn : Int) wx rfl rfl
      clear hrun0 hrun1
      rw [List.take_of_length_le (by rw [List.length_drop]; omega)] at hsub
      have ht := hst.out
      rw [List.drop_length, strictGo] at ht
      have HT := Lib.hid ht
      have hle : outl.length + (a.drop frn).length ≤ 1000000000 := by rw [List.length_drop]; omega
      clear ht hst hok hl l3
      by_cases h60 : 60 < (outl ++ a.drop frn).length
      · have E := HT.out
        rw [if_pos h60] at E
        have HE := Lib.hid E
        clear E HT
        go_wp2_with (at_builtin; refine wpList_many (by rfl) _ _ 22 (by rfl) elemOk_str (O := Old w.heap.size) (by rfl) (by rfl) hown hsub (rd_str_any _ _ _) (old_lt hc) hle ?_; intro v' w5 hown2 hc2; have hc3 := own_step hc hown hc2; generalize outl ++ a.drop frn = RL at hown2 HE h60; obtain ⟨va', vc', rfl, _⟩ := own_shape hown2)
        go_ret3
        exact ⟨.slice none 0 0, by rw [← HE.out]; rfl, hc3, by rw [← HE.out]; exact rdv_nil _ _⟩
      · have E := HT.out
        rw [if_neg h60] at E
        have HE := Lib.hid E
        clear E HT
        go_wp2_with (at_builtin; refine wpList_many (by rfl) _ _ 22 (by rfl) elemOk_str (O := Old w.heap.size) (by rfl) (by rfl) hown hsub (rd_str_any _ _ _) (old_lt hc) hle ?_; intro v' w5 hown2 hc2; have hc3 := own_step hc hown hc2; generalize outl ++ a.drop frn = RL at hown2 HE h60; obtain ⟨va', vc', rfl, _⟩ := own_shape hown2)
        go_ret3
        exact ⟨_, by rw [← HE.out]; rfl, hc3, by rw [← HE.out]; exact hown2.rdv⟩

theorem strict_any (a : List ByteArray) (l : List Hunk) (va vl : Value) (w : World) (ha : Rdv w Never va a) (hl : Rdv w Never vl l) :
    Calls Tryd.prog 98 #[va, vl] w fun e w' => ∃ r, e = .returned (.tuple #[r, .int .i64 (strict a l).2.1, errV (strict a l).2.2]) ∧ Chg Never w w' ∧ Rdv w' (Old w.heap.size) r (strict a l).1 := by
  by_cases h1 : linesFault a = 0
  · by_cases h2 : (hunksFault l).2 = 0
    · exact strict_ok a l va vl w ha hl h1 (hunksFault_first h2)
    · have HS : Hid (strict a l = ([], (hunksFault l).1, (hunksFault l).2)) := by unfold Hid strict; rw [if_neg (by simp [h1]), if_pos h2]
      have H1 := Lib.hid h1
      have H2 := Lib.hid h2
      clear h1 h2
      go_enter Tryd.func98, Tryd.ntmps98
      go_wp2_with fail
      refine (check_any a _ _ ha).mono ?_
      rintro e w1 ⟨rfl, rfl⟩
      rw [H1.out, errV_zero]
      go_wp2_with fail
      refine (hunk_check_any l _ _ hl).mono ?_
      rintro e w1 ⟨rfl, hc1⟩
      rw [errV_pos H2.out]
      go_wp2_with fail
      go_ret3
      exact ⟨.slice none 0 0, by rw [HS.out, errV_pos H2.out]; rfl, hc1, by rw [HS.out]; exact rdv_nil _ _⟩
  · have HS : Hid (strict a l = ([], 0, linesFault a)) := if_pos h1
    have H1 := Lib.hid h1
    clear h1
    go_enter Tryd.func98, Tryd.ntmps98
    go_wp2_with fail
    refine (check_any a _ _ ha).mono ?_
    rintro e w1 ⟨rfl, rfl⟩
    rw [errV_pos H1.out]
    go_wp2_with fail
    go_ret3
    exact ⟨.slice none 0 0, by rw [HS.out, errV_pos H1.out]; rfl, Chg.refl _ _, by rw [HS.out]; exact rdv_nil _ _⟩
end Go.Proofs.YtpoammapjmddfaaDoor
