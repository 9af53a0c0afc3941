/-
  PARTS: THE WALKS OF LAYER 4: slices.Grow of nil, slices.Concat.; THE WALK of apply.Strict.; THE WALKS of the document's NewOf, OldOf.; THE WALKS of the document's LineFault, LinesFault, ScriptFault.; A SLICE OF A SLICE, as a run, at whatever element type.
-/
import Derived.Test.YtjiaidchcldocaaGreatDoorPg11
import Derived.Lib.Walk
import Derived.Lib.SliceRun
import Derived.Lib.AppendZerosOnto
set_option linter.unusedVariables false
set_option linter.unusedSimpArgs false
namespace Go.Proofs.YtjiaidchcldocaaGreatDoor
open Go.RowKit

set_option maxRecDepth 100000 in
theorem grow_nil (n : Nat) (w : World) (hn : n ≤ 1000000) :
    Calls Tryz.prog 187 #[.slice none 0 0, .int .i64 n] w fun e w' => ∃ r, e = .returned r ∧ Chg Never w w' ∧ Own 9 w' (Old w.heap.size) r ([] : List ByteArray) := by
  rcases Nat.eq_zero_or_pos n with h0 | hpos
  · subst h0
    go_enter Tryz.func187, Tryz.ntmps187
    go_wp2_with fail
    go_ret
    exact ⟨_, rfl, Chg.refl _ _, own_nil _ _ _⟩
  · obtain ⟨i0, hi0, hz0, hs0, hb0⟩ := info_parts (show (Tryz.prog.info? 9).map (fun i => (i.zero, i.size, i.bytes)) = some (some (.string ⟨#[]⟩), 1, 16) by kernel_rfl)
    have hold : (Builtin.firstCells i0.size 0 (.slice none 0 0)).run Tryz.prog w.drew = .ok ([] : List Value).toArray w.drew := run_firstCells_none w.drew i0.size 0 0 0
    have hrz : ∀ ty, (Builtin.append_ #[86, 3] ty #[.slice none 0 0, .int .i64 (n : Int)]).run Tryz.prog w = .ok (.slice (some ⟨w.heap.size, 0, none⟩) n (grownCap w n 0 9))
        (w.drew.alloc (.cells (([] : List Value).toArray ++ Builtin.zeroCells (Value.string ⟨#[]⟩).cells n ++ Builtin.zeroCells (Value.string ⟨#[]⟩).cells (grownCap w n 0 9 - n)) 9)) := fun ty => by
      have h := Lib.run_append_grow_zeros w 86 3 ty 9 i0 (.string ⟨#[]⟩) .i64 .i64 Tryz.underlying86 Tryz.underlying3 hi0 hz0 none 0 0 [] hold n hpos (by omega) (by omega) (by omega) (by rw [hb0]; omega)
        (growslice_fits (by omega) (by rw [hb0]; omega))
      rw [Nat.zero_add] at h
      exact h
    have hGn : n ≤ grownCap w n 0 9 := grownCap_ge w _ _ _
    have hGm : grownCap w n 0 9 ≤ maxLen := grownCap_le_maxLen w n 0 9 (by unfold maxLen; omega)
    generalize grownCap w n 0 9 = G at hrz hGn hGm
    have hG63 : G ≤ 9223372036854775807 := by unfold maxLen at hGm; omega
    obtain ⟨cur, hcur⟩ : ∃ cur, cur = ([] : List Value).toArray ++ Builtin.zeroCells (Value.string ⟨#[]⟩).cells n ++ Builtin.zeroCells (Value.string ⟨#[]⟩).cells (G - n) := ⟨_, rfl⟩
    rw [← hcur] at hrz
    have hcs : cur.size = G * 1 := by rw [hcur]; simp [Builtin.zeroCells, Value.cells]; omega
    clear hcur
    have hmade : (w.drew.alloc (.cells cur 9)).ownsRow 0 9 1 (.slice (some ⟨w.heap.size, 0, none⟩) 0 G) 0 [] :=
      World.ownsRow_made w.drew _ G (Nat.zero_le _) hGm hcs
    have hcw : Chg Never w (w.drew.alloc (.cells cur 9)) := (Chg.refl Never w).drew.alloc _
    clear hcs
    have HM := Lib.hid hmade
    have HC := Lib.hid hcw
    clear hmade hcw hold hi0 hz0 hs0 hb0 hGm
    go_enter Tryz.func187, Tryz.ntmps187
    go_wp2_with (at_builtin; refine Lib.wpList_append_run _ rfl _ _ _ _ rfl _ _ rfl rfl _ _ (hrz _) ?_)
    all_goals
      go_ret
      have HO : ∀ k, (Value.slice (some ⟨w.heap.size, 0, none⟩) 0 G).ownBlock = some k → ¬ Old w.heap.size k := by
        intro k hk ho
        simp only [Value.ownBlock, Option.some.injEq] at hk
        subst hk
        unfold Old at ho
        omega
      exact ⟨.slice (some ⟨w.heap.size, 0, none⟩) 0 G, rfl, HC.out, [], HM.out, HO, fun i x hi => by simp at hi⟩

theorem elems_list {α : Type} [Dat α] {w : World} {O : Nat → Prop} {a : Option Addr} {l : List (List α)} (h : Elems w O a l) {i : Nat} {x : List α} (hx : l[i]? = some x) :
    ∃ b off v, a = some ⟨b, off, none⟩ ∧ ¬ O b ∧ b < w.heap.size ∧ w.cell? ⟨b, off + i, none⟩ = some v ∧ Rdv w O v x := by
  obtain ⟨b, off, es, ha, hb, hcs, hr⟩ := h i x hx
  obtain ⟨v, rfl⟩ : ∃ v, es = [v] := by
    have hl : es.length = 1 := Dat.len hr
    match es, hl with
    | [v], _ => exact ⟨v, rfl⟩
  refine ⟨b, off, v, ha, hb, hcs.lt (by simp), ?_, hr⟩
  have := hcs 0 v rfl
  simpa [Dat.n] using this
theorem flatten_take {l : List (List ByteArray)} {k : Nat} {x : List ByteArray} (hx : l[k]? = some x) : (l.take (k + 1)).flatten = (l.take k).flatten ++ x := by
  rw [List.take_add_one, hx]; simp
def totalOf (l : List (List ByteArray)) (k : Nat) : Nat := (l.take k).flatten.length
theorem flatten_take_le (l : List (List ByteArray)) (k : Nat) : (l.take k).flatten.length ≤ l.flatten.length := by
  have h : ((l.take k) ++ (l.drop k)).flatten.length = l.flatten.length := by rw [List.take_append_drop]
  rw [List.flatten_append, List.length_append] at h
  omega
theorem rd_str_any (w : World) (O O' : Nat → Prop) : ∀ cs (y : ByteArray), Dat.rd w O cs y → Dat.rd w O' cs y := fun _ _ h => h

set_option maxHeartbeats 800000 in
set_option maxRecDepth 100000 in
theorem concat_any (ls : List (List ByteArray)) (v : Value) (w : World) (h : Rdv w Never v ls) (hb : ls.flatten.length ≤ 1000000) :
    Calls Tryz.prog 145 #[v] w fun e w' => ∃ r, e = .returned r ∧ Chg Never w w' ∧ Own 9 w' (Old w.heap.size) r ls.flatten := by
  obtain ⟨a, cap, rfl, h1, h2, h3⟩ := rdv_slice h
  unfold maxLen at h2
  go_enter Tryz.func145, Tryz.ntmps145
  go_wp2_with fail
  go_loop [3, 5, 11] (fun sz _ i => ∃ k : Nat, k ≤ ls.length ∧ i = .int .i64 k ∧ sz = .int .i64 (totalOf ls k)) (fun _ _ i => ls.length - (intOf i).toNat)
  case atStart => exact ⟨0, Nat.zero_le _, rfl, rfl⟩
  case round =>
    obtain ⟨k, hk, rfl, rfl⟩ := hrel
    by_cases hlt : k < ls.length
    · obtain ⟨x, hx⟩ : ∃ x, ls[k]? = some x := ⟨ls[k], by simp [hlt]⟩
      obtain ⟨b, off, sv, rfl, _, _, c0, hsv⟩ := elems_list h3 hx
      obtain ⟨xa, xcap, rfl, _, _, _⟩ := rdv_slice hsv
      have HT : Hid (totalOf ls (k + 1) = totalOf ls k + x.length) := by rw [Hid, totalOf, flatten_take hx, List.length_append]; rfl
      have hle : totalOf ls k + x.length ≤ 1000000 := by
        have h1 : totalOf ls (k + 1) ≤ ls.flatten.length := flatten_take_le ls (k + 1)
        rw [HT.out] at h1
        omega
      clear hx h3 h hsv
      go_wp2_with fail
      go_round
      case rel => exact ⟨k + 1, by omega, by go_num, by rw [HT.out]; go_num⟩
      case measure => simp [intOf] <;> omega
    · obtain rfl : k = ls.length := by omega
      have hb' : totalOf ls ls.length ≤ 1000000 := Nat.le_trans (flatten_take_le ls _) hb
      go_wp2_with fail
      refine (grow_nil (totalOf ls ls.length) _ hb').mono ?_
      rintro e w1 ⟨r1, rfl, hc1, hown1⟩
      go_wp2_with fail
      go_loopw [6, 8, 27] (fun o _ i wr => ∃ k : Nat, k ≤ ls.length ∧ i = .int .i64 k ∧ Chg Never w wr ∧ Own 9 wr (Old w.heap.size) o (ls.take k).flatten) (fun _ _ i _ => ls.length - (intOf i).toNat)
      case atStart => exact ⟨0, Nat.zero_le _, rfl, hc1, hown1⟩
      case round =>
        clear hc1 hown1
        obtain ⟨k, hk, rfl, hc, hown⟩ := hrel
        by_cases hlt : k < ls.length
        · obtain ⟨x, hx⟩ : ∃ x, ls[k]? = some x := ⟨ls[k], by simp [hlt]⟩
          obtain ⟨b, off, sv, rfl, _, _, c0, hsv⟩ := elems_list h3 hx
          obtain ⟨xa, xcap, rfl, _, _, _⟩ := rdv_slice hsv
          have c0 := hc.cellNever c0
          have hsv := hsv.never hc
          have HF := Lib.hid (flatten_take hx)
          have hle : (ls.take k).flatten.length + x.length ≤ 1000000000 := by
            have := flatten_take_le ls (k + 1)
            rw [HF.out, List.length_append] at this
            omega
          clear hx h3 h
          go_wp2_with (at_builtin; refine wpList_many (by rfl) _ _ 86 (by rfl) elemOk_str (O := Old w.heap.size) (by rfl) (by rfl) hown hsv (rd_str_any _ _ _) (old_lt hc) hle ?_; intro v' w5 hown2 hc2)
          have hc3 := own_step hc hown hc2
          clear hc2 hown
          go_wp2_with fail
          go_roundw
          case rel => exact ⟨k + 1, by omega, by go_num, hc3, by rw [HF.out]; exact hown2⟩
          case measure => simp [intOf] <;> omega
        · obtain rfl : k = ls.length := by omega
          rw [List.take_length] at hown
          go_wp2_with fail
          go_ret
          exact ⟨_, rfl, hc, hown⟩
end Go.Proofs.YtjiaidchcldocaaGreatDoor
namespace Go.Proofs.YtjiaidchcldocaaGreatDoor
open Go.RowKit

theorem own_shape {α : Type} [Dat α] {e : TypeId} {w : World} {O : Nat → Prop} {v : Value} {l : List α} (h : Own e w O v l) : ∃ a c, v = .slice a l.length c ∧ c ≤ maxLen := by
  obtain ⟨xs, hx, _⟩ := h
  rcases hx.2 with ⟨h, h0⟩ | ⟨g, cap, cur, h, _, _, _, hm, _⟩
  · exact ⟨none, 0, by rw [h, h0], Nat.zero_le _⟩
  · exact ⟨_, _, h, hm⟩

set_option maxHeartbeats 1600000 in
set_option maxRecDepth 100000 in
theorem strict_ok (a : List ByteArray) (l : List Hunk) (va vl : Value) (w : World) (ha : Rdv w Never va a) (hl : Rdv w Never vl l) (h1 : linesFault a = 0) (h2 : hunksFault l = (0, 0)) :
    Calls Tryz.prog 126 #[va, vl] w fun e w' => ∃ r, e = .returned (.tuple #[r, .int .i64 (strict a l).2.1, errV (strict a l).2.2]) ∧ Chg Never w w' ∧ Rdv w' (Old w.heap.size) r (strict a l).1 := by
  have HS : Hid (strict a l = strictGo a 0 0 [] l) := by unfold Hid strict; rw [if_neg (by simp [h1]), if_neg (by simp [h2])]
  have hla := linesFault_len h1
  obtain ⟨hl60, hok⟩ := hunksFault_zero (l := l) (by rw [h2])
  have H1 := Lib.hid h1
  have H2 := Lib.hid h2
  have HK := Lib.hid hok
  obtain ⟨aa, acap, rfl, a1, a2, _⟩ := rdv_slice ha
  obtain ⟨ll, lcap, rfl, l1, l2, l3⟩ := rdv_slice hl
  unfold maxLen at a2 l2
  clear h1 h2 hok
  go_enter Tryz.func126, Tryz.ntmps126
  go_wp2_with fail
  refine (check_any a _ _ ha).mono ?_
  rintro e w1 ⟨rfl, rfl⟩
  rw [H1.out, errV_zero]
  go_wp2_with fail
  refine (hunk_check_any l _ _ hl).mono ?_
  rintro e w1 ⟨rfl, hc1⟩
  rw [H2.out, errV_zero]
  go_wp2_with fail
  go_loopw [10, 11, 33] (fun o fr i wr => ∃ (k frn : Nat) (outl : List ByteArray) (more : Int), k ≤ l.length ∧ i = .int .i64 k ∧ fr = .int .i64 frn ∧ Chg Never w wr ∧ Own 9 wr (Old w.heap.size) o outl ∧ frn ≤ a.length ∧ outl.length ≤ 200 * k ∧
      Hid (hOk frn more (l.drop k)) ∧ Hid (strictGo a k frn outl (l.drop k) = strict a l)) (fun _ _ i _ => l.length - (intOf i).toNat)
  case atStart => exact ⟨0, 0, [], 0, Nat.zero_le _, rfl, rfl, hc1, own_nil _ _ _, Nat.zero_le _, Nat.zero_le _, HK.out, HS.out.symm⟩
  case round =>
    clear hc1 HK HS
    obtain ⟨k, frn, outl, more, hk, rfl, rfl, hc, hown, hfr, hol, hok, hst⟩ := hrel
    by_cases hlt : k < l.length
    · obtain ⟨x, hx⟩ : ∃ x, l[k]? = some x := ⟨l[k], by simp [hlt]⟩
      obtain ⟨b, off, mv, rfl, _, _, c0, c1, c2, hmv⟩ := elems_hunk l3 hx
      have hd := drop_eq hx
      have HK1 := hok.out
      have HS1 := hst.out
      rw [hd] at HK1 HS1
      obtain ⟨z1, z2, z3, z4, z5, z6, z7, z8⟩ := oneFault_zero HK1.1
      have HK2 := Lib.hid HK1.2
      obtain ⟨xo, xn, xm⟩ := x
      simp only at c0 c1 c2 hmv z1 z3 z5 z7
      obtain ⟨o, rfl⟩ := Int.eq_ofNat_of_zero_le z3
      rw [strictGo] at HS1
      have HS2 := Lib.hid HS1
      have hmv := hmv.never hc
      have c0 := hc.cellNever c0
      have c1 := hc.cellNever c1
      have c2 := hc.cellNever c2
      obtain ⟨ma, mcap, rfl, _, _, _⟩ := rdv_slice hmv
      have HZ1 := Lib.hid z1
      have ln : (oldOf xm).length ≤ 120 := Nat.le_trans (those_le _ _) (scriptFault_len z1)
      have lm : (newOf xm).length ≤ 120 := Nat.le_trans (those_le _ _) (scriptFault_len z1)
      have E1 : Hid (oldN xm = (oldOf xm).length) := rfl
      clear hd HK1 HS1 z1 z2 z4 z6 z8 hx l3 hl hok hst
      have hA : Chg Never wr (wr.alloc (.cells #[.int .i64 o, .int .i64 xn, .slice ma xm.length mcap] 129)) := (Chg.refl Never wr).alloc _
      go_wp2_with fail
      refine (sides_any xm _ _ (hmv.never hA) HZ1.out).mono ?_
      rintro e w2 ⟨r, s, rfl, hc2, hr, hs⟩
      have hA2 := hA.trans hc2
      obtain ⟨x0, x1, x2⟩ := box3 hc2
      have ha2 := ha.never (hc.trans hA2)
      have hr2 := hr.sub (O' := Never) (fun _ _ h => h.elim)
      have hs2 := hs.sub (O' := Never) (fun _ _ h => h.elim)
      obtain ⟨ra, rcap, rfl, _, _, _⟩ := rdv_slice hr2
      obtain ⟨sa, scap, rfl, _, _, _⟩ := rdv_slice hs2
      clear hc2 hr hs hA
      go_wp2_with fail
      refine (stands_any a (oldOf xm) (o : Int) _ _ _ ha2 hr2 (by omega) (by omega) (by omega) (by omega)).mono ?_
      rintro e w3 ⟨rfl, hc3⟩
      have hA3 := hA2.trans hc3
      have x0 := hc3.cellNever x0
      have hs3 := hs2.never hc3
      have ha3 := ha2.never hc3
      clear hc3 hA2 hs2 ha2 hr2 x1 x2
      cases hsd : standsB a (o : Int) (oldOf xm) with
      | false =>
        have E := HS2.out
        rw [hsd] at E
        rw [if_neg (by decide)] at E
        have HE := Lib.hid E
        clear E hsd
        go_wp2_with fail
        go_ret3
        exact ⟨.slice none 0 0, by rw [← HE.out]; rfl, hc.trans hA3, by rw [← HE.out]; exact rdv_nil _ _⟩
      | true =>
        have s2 := (stands_split hsd).2.1
        simp only [Int.toNat_natCast] at s2
        have E := HS2.out
        rw [hsd, if_pos rfl] at E
        simp only [Int.toNat_natCast] at E
        have HE := Lib.hid E
        have hfo : frn ≤ o := by omega
        obtain ⟨sb, hrun0, hrun1, hsub⟩ := slice_str ha3 frn o hfo (by omega)
        have hrun := fun (wx : World) => hrun0 (frn : Int) (o : Int) wx rfl rfl
        clear hrun0 hrun1
        have lsub : ((a.drop frn).take (o - frn)).length = o - frn := by rw [List.length_take, List.length_drop]; omega
        have hsub' : Rdv w3 Never (.slice sb (o - frn) (acap - frn)) ((a.drop frn).take (o - frn)) := hsub
        have hown3 := hown.never hA3
        have hown3r := (hown3.rdv).sub (O' := Never) (fun _ _ h => h.elim)
        have hfl : ([outl, (a.drop frn).take (o - frn), newOf xm] : List (List ByteArray)).flatten = outl ++ (a.drop frn).take (o - frn) ++ newOf xm := by simp
        have HFL := Lib.hid hfl
        have LS := Lib.hid lsub
        have hb : ([outl, (a.drop frn).take (o - frn), newOf xm] : List (List ByteArray)).flatten.length ≤ 1000000 := by
          rw [hfl, List.length_append, List.length_append, lsub]; omega
        have HB2 : Hid ((outl ++ (a.drop frn).take (o - frn) ++ newOf xm).length ≤ 200 * (k + 1)) := by
          rw [Hid, List.length_append, List.length_append, lsub]; omega
        obtain ⟨oa, ocap, rfl, _⟩ := own_shape hown3
        have HB := Lib.hid hb
        clear E hsd hsub lsub hfl hown hb
        go_wp2_with fail
        refine (concat_any [outl, (a.drop frn).take (o - frn), newOf xm] _ _ (rdv_lit (e := 86) (cs := [_, _, _]) (heap_alloc_new _ _) rfl (by simp) ⟨hown3r.never ((Chg.refl Never _).alloc _), hsub'.never ((Chg.refl Never _).alloc _), hs3.never ((Chg.refl Never _).alloc _), trivial⟩) HB.out).mono ?_
        rintro e w4 ⟨r4, rfl, hc4, hown4⟩
        have hA4 := ((hc.trans hA3).alloc _).trans hc4
        have x0 := (((Chg.refl Never w3).alloc _).trans hc4).cellNever x0
        have hown5 := hown4.keep (O'' := Old w.heap.size) (Chg.refl Never _) (fun _ _ h => h.elim) (fun j _ hj => by
          have := (hc.trans hA3).size
          unfold Old at *
          simp only [World.size_alloc]
          omega)
        clear hown4 hc4 hown3 hown3r hsub'
        go_wp2_with fail
        go_roundw
        case rel => exact ⟨k + 1, o + oldN xm, _, _, by omega, by go_num, by rw [E1.out]; go_num, hA4, hown5, by rw [E1.out]; exact s2, by rw [HFL.out]; exact HB2.out, by
          have := HK2.out
          rw [Hid]
          push_cast
          exact this, by rw [Hid, HFL.out]; exact HE.out⟩
        case measure => simp [intOf] <;> omega
    · obtain rfl : k = l.length := by omega
      obtain ⟨sb, hrun0, hrun1, hsub⟩ := slice_str (ha.never hc) frn a.length hfr (Nat.le_refl _)
      have hrun := fun (wx : World) => hrun1 (frn : Int) wx rfl rfl
      clear hrun0 hrun1
      rw [List.take_of_length_le (by rw [List.length_drop]; omega)] at hsub
      have ht := hst.out
      rw [List.drop_length, strictGo] at ht
      have HT := Lib.hid ht
      have hle : outl.length + (a.drop frn).length ≤ 1000000000 := by rw [List.length_drop]; omega
      clear ht hst hok hl l3
      by_cases h60 : 60 < (outl ++ a.drop frn).length
      · have E := HT.out
        rw [if_pos h60] at E
        have HE := Lib.hid E
        clear E HT
        go_wp2_with (at_builtin; refine wpList_many (by rfl) _ _ 86 (by rfl) elemOk_str (O := Old w.heap.size) (by rfl) (by rfl) hown hsub (rd_str_any _ _ _) (old_lt hc) hle ?_; intro v' w5 hown2 hc2; have hc3 := own_step hc hown hc2; generalize outl ++ a.drop frn = RL at hown2 HE h60; obtain ⟨va', vc', rfl, _⟩ := own_shape hown2)
        go_ret3
        exact ⟨.slice none 0 0, by rw [← HE.out]; rfl, hc3, by rw [← HE.out]; exact rdv_nil _ _⟩
      · have E := HT.out
        rw [if_neg h60] at E
        have HE := Lib.hid E
        clear E HT
        go_wp2_with (at_builtin; refine wpList_many (by rfl) _ _ 86 (by rfl) elemOk_str (O := Old w.heap.size) (by rfl) (by rfl) hown hsub (rd_str_any _ _ _) (old_lt hc) hle ?_; intro v' w5 hown2 hc2; have hc3 := own_step hc hown hc2; generalize outl ++ a.drop frn = RL at hown2 HE h60; obtain ⟨va', vc', rfl, _⟩ := own_shape hown2)
        go_ret3
        exact ⟨_, by rw [← HE.out]; rfl, hc3, by rw [← HE.out]; exact hown2.rdv⟩

theorem strict_any (a : List ByteArray) (l : List Hunk) (va vl : Value) (w : World) (ha : Rdv w Never va a) (hl : Rdv w Never vl l) :
    Calls Tryz.prog 126 #[va, vl] w fun e w' => ∃ r, e = .returned (.tuple #[r, .int .i64 (strict a l).2.1, errV (strict a l).2.2]) ∧ Chg Never w w' ∧ Rdv w' (Old w.heap.size) r (strict a l).1 := by
  by_cases h1 : linesFault a = 0
  · by_cases h2 : (hunksFault l).2 = 0
    · exact strict_ok a l va vl w ha hl h1 (hunksFault_first h2)
    · have HS : Hid (strict a l = ([], (hunksFault l).1, (hunksFault l).2)) := by unfold Hid strict; rw [if_neg (by simp [h1]), if_pos h2]
      have H1 := Lib.hid h1
      have H2 := Lib.hid h2
      clear h1 h2
      go_enter Tryz.func126, Tryz.ntmps126
      go_wp2_with fail
      refine (check_any a _ _ ha).mono ?_
      rintro e w1 ⟨rfl, rfl⟩
      rw [H1.out, errV_zero]
      go_wp2_with fail
      refine (hunk_check_any l _ _ hl).mono ?_
      rintro e w1 ⟨rfl, hc1⟩
      rw [errV_pos H2.out]
      go_wp2_with fail
      go_ret3
      exact ⟨.slice none 0 0, by rw [HS.out, errV_pos H2.out]; rfl, hc1, by rw [HS.out]; exact rdv_nil _ _⟩
  · have HS : Hid (strict a l = ([], 0, linesFault a)) := if_pos h1
    have H1 := Lib.hid h1
    clear h1
    go_enter Tryz.func126, Tryz.ntmps126
    go_wp2_with fail
    refine (check_any a _ _ ha).mono ?_
    rintro e w1 ⟨rfl, rfl⟩
    rw [errV_pos H1.out]
    go_wp2_with fail
    go_ret3
    exact ⟨.slice none 0 0, by rw [HS.out, errV_pos H1.out]; rfl, Chg.refl _ _, by rw [HS.out]; exact rdv_nil _ _⟩
end Go.Proofs.YtjiaidchcldocaaGreatDoor
namespace Go.Proofs.YtjiaidchcldocaaGreatDoor
open Go.RowKit

end Go.Proofs.YtjiaidchcldocaaGreatDoor
namespace Go.Proofs.YtjiaidchcldocaaGreatDoor
open Go.RowKit

theorem take_all_succ {α : Type} {p : α → Prop} {l : List α} {k : Nat} {x : α} (h : ∀ y ∈ l.take k, p y) (hx : l[k]? = some x) (hp : p x) : ∀ y ∈ l.take (k + 1), p y := by
  intro y hy
  rw [List.take_add_one, hx] at hy
  rcases List.mem_append.1 hy with h' | h'
  · exact h y h'
  · simp at h'; rw [h']; exact hp

end Go.Proofs.YtjiaidchcldocaaGreatDoor
namespace Go.Proofs.YtjiaidchcldocaaGreatDoor
open Go.RowKit

/-- 's[i:j]' as a run, at whatever element type -/
theorem slice_gen {P : Program} {t : TypeId} (ht : P.underlying t = some (.slice (P.elem t))) {α : Type} [Dat α] (hsz : ∀ w, (sizeOf (P.elem t)).run P w = .ok (Dat.n α) w) {w0 : World} {O : Nat → Prop} {a : Option Addr} {cap : Nat} {l : List α} (h : Rdv w0 O (.slice a l.length cap) l) (i j : Nat) (hij : i ≤ j) (hj : j ≤ l.length) :
    ∃ b, (∀ (x y : Int) (w : World), x = i → y = j → (Instr.slice t (.slice a l.length cap) (some (.int .i64 x)) (some (.int .i64 y)) none).run P w = .ok (.slice b (j - i) (cap - i)) w) ∧
      (∀ (x : Int) (w : World), x = i → j = l.length → (Instr.slice t (.slice a l.length cap) (some (.int .i64 x)) none none).run P w = .ok (.slice b (j - i) (cap - i)) w) ∧
      (∀ (y : Int) (w : World), i = 0 → y = j → (Instr.slice t (.slice a l.length cap) none (some (.int .i64 y)) none).run P w = .ok (.slice b (j - i) (cap - i)) w) ∧
      Rdv w0 O (.slice b (j - i) (cap - i)) ((l.drop i).take (j - i)) := by
  have hr := rdv_sliced h i j hij hj
  obtain ⟨b, hb⟩ := sliced_isSlice a i j cap (Dat.n α)
  obtain ⟨a', cap', e, h1, h2, h3⟩ := rdv_slice h
  simp only [Value.slice.injEq, true_and] at e
  obtain ⟨rfl, rfl⟩ := e
  refine ⟨b, ?_, ?_, ?_, hb ▸ hr⟩
  · rintro x y w rfl rfl
    rw [run_slice_lh w t a l.length cap ht .i64 .i64 _ _ (by omega) (by omega) (by omega), hsz]
    simp only [Result.andThen_ok, Int.toNat_natCast]
    rw [hb]
  · rintro x w rfl rfl
    rw [run_slice_l w t a l.length cap ht .i64 _ (by omega) (by omega), hsz]
    simp only [Result.andThen_ok, Int.toNat_natCast]
    rw [hb]
  · rintro y w rfl rfl
    rw [run_slice_h w t a l.length cap ht .i64 _ (by omega) (by omega), hsz]
    simp only [Result.andThen_ok, Int.toNat_natCast]
    rw [hb]
end Go.Proofs.YtjiaidchcldocaaGreatDoor
