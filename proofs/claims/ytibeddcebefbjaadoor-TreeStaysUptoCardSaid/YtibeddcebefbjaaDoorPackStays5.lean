/-
  PARTS: THE WALKS OF LAYER 4: slices.Grow of nil, slices.Concat.; THE WALK of apply.Strict.; THE WALKS of the document's NewOf, OldOf.; THE WALKS of the document's LineFault, LinesFault, ScriptFault.; A SLICE OF A SLICE, as a run, at whatever element type.; THE WALKS of the document's Parts, SplitOf, JoinOf, and of line.Split, line.Join.; THE WALKS of line.letter, line.Path, and of the document's PathFault.
-/
import Derived.Test.YtibeddcebefbjaaDoorPackStays4
import Derived.Lib.Walk
import Derived.Lib.SliceRun
import Derived.Lib.AppendZerosOnto
import Derived.Test.YtibeddcebefbjaaDoorPackStays2
import Derived.Test.YtibeddcebefbjaaDoorPackStays1
import Derived.Lib.SplitLaws
namespace Go.Proofs.YtibeddcebefbjaaDoor
open Go.RowKit

set_option maxRecDepth 100000 in
theorem grow_nil (n : Nat) (w : World) (hn : n ≤ 1000000) :
    Calls Tryd.prog 117 #[.slice none 0 0, .int .i64 n] w fun e w' => ∃ r, e = .returned r ∧ Chg Never w w' ∧ Own 9 w' (Old w.heap.size) r ([] : List ByteArray) := by
  rcases Nat.eq_zero_or_pos n with h0 | hpos
  · subst h0
    go_enter Tryd.func117, Tryd.ntmps117
    go_wp2_with fail
    go_ret
    exact ⟨_, rfl, Chg.refl _ _, own_nil _ _ _⟩
  · obtain ⟨i0, hi0, hz0, hs0, hb0⟩ := info_parts (show (Tryd.prog.info? 9).map (fun i => (i.zero, i.size, i.bytes)) = some (some (.string ⟨#[]⟩), 1, 16) by kernel_rfl)
    have hold : (Builtin.firstCells i0.size 0 (.slice none 0 0)).run Tryd.prog w.drew = .ok ([] : List Value).toArray w.drew := run_firstCells_none w.drew i0.size 0 0 0
    have hrz : ∀ ty, (Builtin.append_ #[35, 3] ty #[.slice none 0 0, .int .i64 (n : Int)]).run Tryd.prog w = .ok (.slice (some ⟨w.heap.size, 0, none⟩) n (grownCap w n 0 9))
        (w.drew.alloc (.cells (([] : List Value).toArray ++ Builtin.zeroCells (Value.string ⟨#[]⟩).cells n ++ Builtin.zeroCells (Value.string ⟨#[]⟩).cells (grownCap w n 0 9 - n)) 9)) := fun ty => by
      have h := Lib.run_append_grow_zeros w 35 3 ty 9 i0 (.string ⟨#[]⟩) .i64 .i64 Tryd.underlying35 Tryd.underlying3 hi0 hz0 none 0 0 [] hold n hpos (by omega) (by omega) (by omega) (by rw [hb0]; omega)
        (growslice_fits (by omega) (by rw [hb0]; omega))
      rw [Nat.zero_add] at h
      exact h
    have hGn : n ≤ grownCap w n 0 9 := grownCap_ge w _ _ _
    have hGm : grownCap w n 0 9 ≤ maxLen := grownCap_le_maxLen w n 0 9 (by unfold maxLen; omega)
    generalize grownCap w n 0 9 = G at hrz hGn hGm
    have hG63 : G ≤ 9223372036854775807 := by unfold maxLen at hGm; omega
    obtain ⟨cur, hcur⟩ : ∃ cur, cur = ([] : List Value).toArray ++ Builtin.zeroCells (Value.string ⟨#[]⟩).cells n ++ Builtin.zeroCells (Value.string ⟨#[]⟩).cells (G - n) := ⟨_, rfl⟩
    rw [← hcur] at hrz
    have hcs : cur.size = G * 1 := by rw [hcur]; simp [Builtin.zeroCells, Value.cells]; omega
    clear hcur
    have hmade : (w.drew.alloc (.cells cur 9)).ownsRow 0 9 1 (.slice (some ⟨w.heap.size, 0, none⟩) 0 G) 0 [] :=
      World.ownsRow_made w.drew _ G (Nat.zero_le _) hGm hcs
    have hcw : Chg Never w (w.drew.alloc (.cells cur 9)) := (Chg.refl Never w).drew.alloc _
    clear hcs
    have HM := Lib.hid hmade
    have HC := Lib.hid hcw
    clear hmade hcw hold hi0 hz0 hs0 hb0 hGm
    go_enter Tryd.func117, Tryd.ntmps117
    go_wp2_with (at_builtin; refine Lib.wpList_append_run _ rfl _ _ _ _ rfl _ _ rfl rfl _ _ (hrz _) ?_)
    all_goals
      go_ret
      have HO : ∀ k, (Value.slice (some ⟨w.heap.size, 0, none⟩) 0 G).ownBlock = some k → ¬ Old w.heap.size k := by
        intro k hk ho
        simp only [Value.ownBlock, Option.some.injEq] at hk
        subst hk
        unfold Old at ho
        omega
      exact ⟨.slice (some ⟨w.heap.size, 0, none⟩) 0 G, rfl, HC.out, [], HM.out, HO, fun i x hi => by simp at hi⟩

theorem elems_list {α : Type} [Dat α] {w : World} {O : Nat → Prop} {a : Option Addr} {l : List (List α)} (h : Elems w O a l) {i : Nat} {x : List α} (hx : l[i]? = some x) :
    ∃ b off v, a = some ⟨b, off, none⟩ ∧ ¬ O b ∧ b < w.heap.size ∧ w.cell? ⟨b, off + i, none⟩ = some v ∧ Rdv w O v x := by
  obtain ⟨b, off, es, ha, hb, hcs, hr⟩ := h i x hx
  obtain ⟨v, rfl⟩ : ∃ v, es = [v] := by
    have hl : es.length = 1 := Dat.len hr
    match es, hl with
    | [v], _ => exact ⟨v, rfl⟩
  refine ⟨b, off, v, ha, hb, hcs.lt (by simp), ?_, hr⟩
  have := hcs 0 v rfl
  simpa [Dat.n] using this
theorem flatten_take {l : List (List ByteArray)} {k : Nat} {x : List ByteArray} (hx : l[k]? = some x) : (l.take (k + 1)).flatten = (l.take k).flatten ++ x := by
  rw [List.take_add_one, hx]; simp
def totalOf (l : List (List ByteArray)) (k : Nat) : Nat := (l.take k).flatten.length
theorem flatten_take_le (l : List (List ByteArray)) (k : Nat) : (l.take k).flatten.length ≤ l.flatten.length := by
  have h : ((l.take k) ++ (l.drop k)).flatten.length = l.flatten.length := by rw [List.take_append_drop]
  rw [List.flatten_append, List.length_append] at h
  omega
theorem rd_str_any (w : World) (O O' : Nat → Prop) : ∀ cs (y : ByteArray), Dat.rd w O cs y → Dat.rd w O' cs y := fun _ _ h => h

set_option maxHeartbeats 800000 in
set_option maxRecDepth 100000 in
theorem concat_any (ls : List (List ByteArray)) (v : Value) (w : World) (h : Rdv w Never v ls) (hb : ls.flatten.length ≤ 1000000) :
    Calls Tryd.prog 101 #[v] w fun e w' => ∃ r, e = .returned r ∧ Chg Never w w' ∧ Own 9 w' (Old w.heap.size) r ls.flatten := by
  obtain ⟨a, cap, rfl, h1, h2, h3⟩ := rdv_slice h
  unfold maxLen at h2
  go_enter Tryd.func101, Tryd.ntmps101
  go_wp2_with fail
  go_loop [3, 5, 11] (fun sz _ i => ∃ k : Nat, k ≤ ls.length ∧ i = .int .i64 k ∧ sz = .int .i64 (totalOf ls k)) (fun _ _ i => ls.length - (intOf i).toNat)
  case atStart => exact ⟨0, Nat.zero_le _, rfl, rfl⟩
  case round =>
    obtain ⟨k, hk, rfl, rfl⟩ := hrel
    by_cases hlt : k < ls.length
    · obtain ⟨x, hx⟩ : ∃ x, ls[k]? = some x := ⟨ls[k], by simp [hlt]⟩
      obtain ⟨b, off, sv, rfl, _, _, c0, hsv⟩ := elems_list h3 hx
      obtain ⟨xa, xcap, rfl, _, _, _⟩ := rdv_slice hsv
      have HT : Hid (totalOf ls (k + 1) = totalOf ls k + x.length) := by rw [Hid, totalOf, flatten_take hx, List.length_append]; rfl
      have hle : totalOf ls k + x.length ≤ 1000000 := by
        have h1 : totalOf ls (k + 1) ≤ ls.flatten.length := flatten_take_le ls (k + 1)
        rw [HT.out] at h1
        omega
      clear hx h3 h hsv
      go_wp2_with fail
      go_round
      case rel => exact ⟨k + 1, by omega, by go_num, by rw [HT.out]; go_num⟩
      case measure => simp [intOf] <;> omega
    · obtain rfl : k = ls.length := by omega
      have hb' : totalOf ls ls.length ≤ 1000000 := Nat.le_trans (flatten_take_le ls _) hb
      go_wp2_with fail
      refine (grow_nil (totalOf ls ls.length) _ hb').mono ?_
      rintro e w1 ⟨r1, rfl, hc1, hown1⟩
      go_wp2_with fail
      go_loopw [6, 8, 27] (fun o _ i wr => ∃ k : Nat, k ≤ ls.length ∧ i = .int .i64 k ∧ Chg Never w wr ∧ Own 9 wr (Old w.heap.size) o (ls.take k).flatten) (fun _ _ i _ => ls.length - (intOf i).toNat)
      case atStart => exact ⟨0, Nat.zero_le _, rfl, hc1, hown1⟩
      case round =>
        clear hc1 hown1
        obtain ⟨k, hk, rfl, hc, hown⟩ := hrel
        by_cases hlt : k < ls.length
        · obtain ⟨x, hx⟩ : ∃ x, ls[k]? = some x := ⟨ls[k], by simp [hlt]⟩
          obtain ⟨b, off, sv, rfl, _, _, c0, hsv⟩ := elems_list h3 hx
          obtain ⟨xa, xcap, rfl, _, _, _⟩ := rdv_slice hsv
          have c0 := hc.cellNever c0
          have hsv := hsv.never hc
          have HF := Lib.hid (flatten_take hx)
          have hle : (ls.take k).flatten.length + x.length ≤ 1000000000 := by
            have := flatten_take_le ls (k + 1)
            rw [HF.out, List.length_append] at this
            omega
          clear hx h3 h
          go_wp2_with (at_builtin; refine wpList_many (by rfl) _ _ 35 (by rfl) elemOk_str (O := Old w.heap.size) (by rfl) (by rfl) hown hsv (rd_str_any _ _ _) (old_lt hc) hle ?_; intro v' w5 hown2 hc2)
          have hc3 := own_step hc hown hc2
          clear hc2 hown
          go_wp2_with fail
          go_roundw
          case rel => exact ⟨k + 1, by omega, by go_num, hc3, by rw [HF.out]; exact hown2⟩
          case measure => simp [intOf] <;> omega
        · obtain rfl : k = ls.length := by omega
          rw [List.take_length] at hown
          go_wp2_with fail
          go_ret
          exact ⟨_, rfl, hc, hown⟩
end Go.Proofs.YtibeddcebefbjaaDoor
namespace Go.Proofs.YtibeddcebefbjaaDoor
open Go.RowKit

theorem own_shape {α : Type} [Dat α] {e : TypeId} {w : World} {O : Nat → Prop} {v : Value} {l : List α} (h : Own e w O v l) : ∃ a c, v = .slice a l.length c ∧ c ≤ maxLen := by
  obtain ⟨xs, hx, _⟩ := h
  rcases hx.2 with ⟨h, h0⟩ | ⟨g, cap, cur, h, _, _, _, hm, _⟩
  · exact ⟨none, 0, by rw [h, h0], Nat.zero_le _⟩
  · exact ⟨_, _, h, hm⟩

set_option maxHeartbeats 1600000 in
set_option maxRecDepth 100000 in
theorem strict_ok (a : List ByteArray) (l : List Hunk) (va vl : Value) (w : World) (ha : Rdv w Never va a) (hl : Rdv w Never vl l) (h1 : linesFault a = 0) (h2 : hunksFault l = (0, 0)) :
    Calls Tryd.prog 81 #[va, vl] w fun e w' => ∃ r, e = .returned (.tuple #[r, .int .i64 (strict a l).2.1, errV (strict a l).2.2]) ∧ Chg Never w w' ∧ Rdv w' (Old w.heap.size) r (strict a l).1 := by
  have HS : Hid (strict a l = strictGo a 0 0 [] l) := by unfold Hid strict; rw [if_neg (by simp [h1]), if_neg (by simp [h2])]
  have hla := linesFault_len h1
  obtain ⟨hl60, hok⟩ := hunksFault_zero (l := l) (by rw [h2])
  have H1 := Lib.hid h1
  have H2 := Lib.hid h2
  have HK := Lib.hid hok
  obtain ⟨aa, acap, rfl, a1, a2, _⟩ := rdv_slice ha
  obtain ⟨ll, lcap, rfl, l1, l2, l3⟩ := rdv_slice hl
  unfold maxLen at a2 l2
  clear h1 h2 hok
  go_enter Tryd.func81, Tryd.ntmps81
  go_wp2_with fail
  refine (check_any a _ _ ha).mono ?_
  rintro e w1 ⟨rfl, rfl⟩
  rw [H1.out, errV_zero]
  go_wp2_with fail
  refine (hunk_check_any l _ _ hl).mono ?_
  rintro e w1 ⟨rfl, hc1⟩
  rw [H2.out, errV_zero]
  go_wp2_with fail
  go_loopw [10, 11, 33] (fun o fr i wr => ∃ (k frn : Nat) (outl : List ByteArray) (more : Int), k ≤ l.length ∧ i = .int .i64 k ∧ fr = .int .i64 frn ∧ Chg Never w wr ∧ Own 9 wr (Old w.heap.size) o outl ∧ frn ≤ a.length ∧ outl.length ≤ 200 * k ∧
      Hid (hOk frn more (l.drop k)) ∧ Hid (strictGo a k frn outl (l.drop k) = strict a l)) (fun _ _ i _ => l.length - (intOf i).toNat)
  case atStart => exact ⟨0, 0, [], 0, Nat.zero_le _, rfl, rfl, hc1, own_nil _ _ _, Nat.zero_le _, Nat.zero_le _, HK.out, HS.out.symm⟩
  case round =>
    clear hc1 HK HS
    obtain ⟨k, frn, outl, more, hk, rfl, rfl, hc, hown, hfr, hol, hok, hst⟩ := hrel
    by_cases hlt : k < l.length
    · obtain ⟨x, hx⟩ : ∃ x, l[k]? = some x := ⟨l[k], by simp [hlt]⟩
      obtain ⟨b, off, mv, rfl, _, _, c0, c1, c2, hmv⟩ := elems_hunk l3 hx
      have hd := drop_eq hx
      have HK1 := hok.out
      have HS1 := hst.out
      rw [hd] at HK1 HS1
      obtain ⟨z1, z2, z3, z4, z5, z6, z7, z8⟩ := oneFault_zero HK1.1
      have HK2 := Lib.hid HK1.2
      obtain ⟨xo, xn, xm⟩ := x
      simp only at c0 c1 c2 hmv z1 z3 z5 z7
      obtain ⟨o, rfl⟩ := Int.eq_ofNat_of_zero_le z3
      rw [strictGo] at HS1
      have HS2 := Lib.hid HS1
      have hmv := hmv.never hc
      have c0 := hc.cellNever c0
      have c1 := hc.cellNever c1
      have c2 := hc.cellNever c2
      obtain ⟨ma, mcap, rfl, _, _, _⟩ := rdv_slice hmv
      have HZ1 := Lib.hid z1
      have ln : (oldOf xm).length ≤ 120 := Nat.le_trans (those_le _ _) (scriptFault_len z1)
      have lm : (newOf xm).length ≤ 120 := Nat.le_trans (those_le _ _) (scriptFault_len z1)
      have E1 : Hid (oldN xm = (oldOf xm).length) := rfl
      clear hd HK1 HS1 z1 z2 z4 z6 z8 hx l3 hl hok hst
      have hA : Chg Never wr (wr.alloc (.cells #[.int .i64 o, .int .i64 xn, .slice ma xm.length mcap] 24)) := (Chg.refl Never wr).alloc _
      go_wp2_with fail
      refine (sides_any xm _ _ (hmv.never hA) HZ1.out).mono ?_
      rintro e w2 ⟨r, s, rfl, hc2, hr, hs⟩
      have hA2 := hA.trans hc2
      obtain ⟨x0, x1, x2⟩ := box3 hc2
      have ha2 := ha.never (hc.trans hA2)
      have hr2 := hr.sub (O' := Never) (fun _ _ h => h.elim)
      have hs2 := hs.sub (O' := Never) (fun _ _ h => h.elim)
      obtain ⟨ra, rcap, rfl, _, _, _⟩ := rdv_slice hr2
      obtain ⟨sa, scap, rfl, _, _, _⟩ := rdv_slice hs2
      clear hc2 hr hs hA
      go_wp2_with fail
      refine (stands_any a (oldOf xm) (o : Int) _ _ _ ha2 hr2 (by omega) (by omega) (by omega) (by omega)).mono ?_
      rintro e w3 ⟨rfl, hc3⟩
      have hA3 := hA2.trans hc3
      have x0 := hc3.cellNever x0
      have hs3 := hs2.never hc3
      have ha3 := ha2.never hc3
      clear hc3 hA2 hs2 ha2 hr2 x1 x2
      cases hsd : standsB a (o : Int) (oldOf xm) with
      | false =>
        have E := HS2.out
        rw [hsd] at E
        rw [if_neg (by decide)] at E
        have HE := Lib.hid E
        clear E hsd
        go_wp2_with fail
        go_ret3
        exact ⟨.slice none 0 0, by rw [← HE.out]; rfl, hc.trans hA3, by rw [← HE.out]; exact rdv_nil _ _⟩
      | true =>
        have s2 := (stands_split hsd).2.1
        simp only [Int.toNat_natCast] at s2
        have E := HS2.out
        rw [hsd, if_pos rfl] at E
        simp only [Int.toNat_natCast] at E
        have HE := Lib.hid E
        have hfo : frn ≤ o := by omega
        obtain ⟨sb, hrun0, hrun1, hsub⟩ := slice_str ha3 frn o hfo (by omega)
        have hrun := fun (wx : World) => hrun0 (frn : Int) (o : Int) wx rfl rfl
        clear hrun0 hrun1
        have lsub : ((a.drop frn).take (o - frn)).length = o - frn := by rw [List.length_take, List.length_drop]; omega
        have hsub' : Rdv w3 Never (.slice sb (o - frn) (acap - frn)) ((a.drop frn).take (o - frn)) := hsub
        have hown3 := hown.never hA3
        have hown3r := (hown3.rdv).sub (O' := Never) (fun _ _ h => h.elim)
        have hfl : ([outl, (a.drop frn).take (o - frn), newOf xm] : List (List ByteArray)).flatten = outl ++ (a.drop frn).take (o - frn) ++ newOf xm := by simp
        have HFL := Lib.hid hfl
        have LS := Lib.hid lsub
        have hb : ([outl, (a.drop frn).take (o - frn), newOf xm] : List (List ByteArray)).flatten.length ≤ 1000000 := by
          rw [hfl, List.length_append, List.length_append, lsub]; omega
        have HB2 : Hid ((outl ++ (a.drop frn).take (o - frn) ++ newOf xm).length ≤ 200 * (k + 1)) := by
          rw [Hid, List.length_append, List.length_append, lsub]; omega
        obtain ⟨oa, ocap, rfl, _⟩ := own_shape hown3
        have HB := Lib.hid hb
        clear E hsd hsub lsub hfl hown hb
        go_wp2_with fail
        refine (concat_any [outl, (a.drop frn).take (o - frn), newOf xm] _ _ (rdv_lit (e := 35) (cs := [_, _, _]) (heap_alloc_new _ _) rfl (by simp) ⟨hown3r.never ((Chg.refl Never _).alloc _), hsub'.never ((Chg.refl Never _).alloc _), hs3.never ((Chg.refl Never _).alloc _), trivial⟩) HB.out).mono ?_
        rintro e w4 ⟨r4, rfl, hc4, hown4⟩
        have hA4 := ((hc.trans hA3).alloc _).trans hc4
        have x0 := (((Chg.refl Never w3).alloc _).trans hc4).cellNever x0
        have hown5 := hown4.keep (O'' := Old w.heap.size) (Chg.refl Never _) (fun _ _ h => h.elim) (fun j _ hj => by
          have := (hc.trans hA3).size
          unfold Old at *
          simp only [World.size_alloc]
          omega)
        clear hown4 hc4 hown3 hown3r hsub'
        go_wp2_with fail
        go_roundw
        case rel => exact ⟨k + 1, o + oldN xm, _, _, by omega, by go_num, by rw [E1.out]; go_num, hA4, hown5, by rw [E1.out]; exact s2, by rw [HFL.out]; exact HB2.out, by
          have := HK2.out
          rw [Hid]
          push_cast
          exact this, by rw [Hid, HFL.out]; exact HE.out⟩
        case measure => simp [intOf] <;> omega
    · obtain rfl : k = l.length := by omega
      obtain ⟨sb, hrun0, hrun1, hsub⟩ := slice_str (ha.never hc) frn a.length hfr (Nat.le_refl _)
      have hrun := fun (wx : World) => hrun1 (frn : Int) wx rfl rfl
      clear hrun0 hrun1
      rw [List.take_of_length_le (by rw [List.length_drop]; omega)] at hsub
      have ht := hst.out
      rw [List.drop_length, strictGo] at ht
      have HT := Lib.hid ht
      have hle : outl.length + (a.drop frn).length ≤ 1000000000 := by rw [List.length_drop]; omega
      clear ht hst hok hl l3
      by_cases h60 : 60 < (outl ++ a.drop frn).length
      · have E := HT.out
        rw [if_pos h60] at E
        have HE := Lib.hid E
        clear E HT
        go_wp2_with (at_builtin; refine wpList_many (by rfl) _ _ 35 (by rfl) elemOk_str (O := Old w.heap.size) (by rfl) (by rfl) hown hsub (rd_str_any _ _ _) (old_lt hc) hle ?_; intro v' w5 hown2 hc2; have hc3 := own_step hc hown hc2; generalize outl ++ a.drop frn = RL at hown2 HE h60; obtain ⟨va', vc', rfl, _⟩ := own_shape hown2)
        go_ret3
        exact ⟨.slice none 0 0, by rw [← HE.out]; rfl, hc3, by rw [← HE.out]; exact rdv_nil _ _⟩
      · have E := HT.out
        rw [if_neg h60] at E
        have HE := Lib.hid E
        clear E HT
        go_wp2_with (at_builtin; refine wpList_many (by rfl) _ _ 35 (by rfl) elemOk_str (O := Old w.heap.size) (by rfl) (by rfl) hown hsub (rd_str_any _ _ _) (old_lt hc) hle ?_; intro v' w5 hown2 hc2; have hc3 := own_step hc hown hc2; generalize outl ++ a.drop frn = RL at hown2 HE h60; obtain ⟨va', vc', rfl, _⟩ := own_shape hown2)
        go_ret3
        exact ⟨_, by rw [← HE.out]; rfl, hc3, by rw [← HE.out]; exact hown2.rdv⟩

theorem strict_any (a : List ByteArray) (l : List Hunk) (va vl : Value) (w : World) (ha : Rdv w Never va a) (hl : Rdv w Never vl l) :
    Calls Tryd.prog 81 #[va, vl] w fun e w' => ∃ r, e = .returned (.tuple #[r, .int .i64 (strict a l).2.1, errV (strict a l).2.2]) ∧ Chg Never w w' ∧ Rdv w' (Old w.heap.size) r (strict a l).1 := by
  by_cases h1 : linesFault a = 0
  · by_cases h2 : (hunksFault l).2 = 0
    · exact strict_ok a l va vl w ha hl h1 (hunksFault_first h2)
    · have HS : Hid (strict a l = ([], (hunksFault l).1, (hunksFault l).2)) := by unfold Hid strict; rw [if_neg (by simp [h1]), if_pos h2]
      have H1 := Lib.hid h1
      have H2 := Lib.hid h2
      clear h1 h2
      go_enter Tryd.func81, Tryd.ntmps81
      go_wp2_with fail
      refine (check_any a _ _ ha).mono ?_
      rintro e w1 ⟨rfl, rfl⟩
      rw [H1.out, errV_zero]
      go_wp2_with fail
      refine (hunk_check_any l _ _ hl).mono ?_
      rintro e w1 ⟨rfl, hc1⟩
      rw [errV_pos H2.out]
      go_wp2_with fail
      go_ret3
      exact ⟨.slice none 0 0, by rw [HS.out, errV_pos H2.out]; rfl, hc1, by rw [HS.out]; exact rdv_nil _ _⟩
  · have HS : Hid (strict a l = ([], 0, linesFault a)) := if_pos h1
    have H1 := Lib.hid h1
    clear h1
    go_enter Tryd.func81, Tryd.ntmps81
    go_wp2_with fail
    refine (check_any a _ _ ha).mono ?_
    rintro e w1 ⟨rfl, rfl⟩
    rw [errV_pos H1.out]
    go_wp2_with fail
    go_ret3
    exact ⟨.slice none 0 0, by rw [HS.out, errV_pos H1.out]; rfl, Chg.refl _ _, by rw [HS.out]; exact rdv_nil _ _⟩
end Go.Proofs.YtibeddcebefbjaaDoor
namespace Go.Proofs.YtibeddcebefbjaaDoor
open Go.RowKit

theorem those_signs {l : List Mark} (h : scriptFault l = 0) {k : Nat} {x : Mark} (hx : l[k]? = some x) : x.sign = 32 ∨ x.sign = 45 ∨ x.sign = 43 := by
  have := (scriptFault_zero.1 h).2 x (List.mem_of_getElem? hx)
  unfold markFault at this
  by_cases h1 : x.sign ≠ 32 ∧ x.sign ≠ 45 ∧ x.sign ≠ 43
  · rw [if_pos h1] at this; simp at this
  · omega

set_option maxHeartbeats 1000000 in
set_option maxRecDepth 100000 in
theorem refNew_any (l : List Mark) (v : Value) (w : World) (h : Rdv w Never v l) (hz : scriptFault l = 0) :
    Calls Tryd.prog 33 #[v] w fun e w' => ∃ r, e = .returned r ∧ Chg Never w w' ∧ Rdv w' (Old w.heap.size) r (those l 45) := by
  have hlen := scriptFault_len hz
  have HZ := Lib.hid hz
  clear hz
  obtain ⟨a, cap, rfl, h1, h2, h3⟩ := rdv_slice h
  unfold maxLen at h2
  go_enter Tryd.func33, Tryd.ntmps33
  go_wp2_with fail
  go_loopw [3, 4] (fun o i wr => ∃ k : Nat, k ≤ l.length ∧ i = .int .i64 k ∧ Chg Never w wr ∧ Own 9 wr (Old w.heap.size) o (those (l.take k) 45)) (fun _ i _ => l.length - (intOf i).toNat)
  case atStart => exact ⟨0, Nat.zero_le _, rfl, Chg.refl _ _, own_nil _ _ _⟩
  case round =>
    obtain ⟨k, hk, rfl, hc, hown⟩ := hrel
    by_cases hlt : k < l.length
    · obtain ⟨x, hx⟩ : ∃ x, l[k]? = some x := ⟨l[k], by simp [hlt]⟩
      obtain ⟨b, off, rfl, _, _, c0, c1, s0, s1, hxs⟩ := elems_mark h3 hx
      have c0 := hc.cellNever c0
      have c1 := hc.cellNever c1
      have ht := Lib.hid (those_take (no := 45) hx)
      have hle := those_le (l.take k) 45
      have hle2 : (l.take k).length ≤ 120 := by simp; omega
      have hsg := those_signs HZ.out hx
      clear hx h3 h
      obtain ⟨sg, tx⟩ := x
      simp only at c0 c1 s0 s1 hxs hsg
      rcases hsg with rfl | rfl | rfl
      all_goals
        first
          | (have hno : Hid ((32 : Int) ≠ 45 ∧ True) := ⟨by decide, trivial⟩
             go_wp2_with (at_builtin; refine wpList_push (by rfl) _ _ 35 (by rfl) elemOk_str (O := Old w.heap.size) (l := those (l.take k) 45) (y := tx) (by rfl) (by rfl) (by simp) hown ⟨rfl, hxs⟩ (old_lt hc) (by omega) ?_; intro v' w2 hown2 hc2 _)
             have hc3 := own_step hc hown hc2
             clear hc2 hle hle2
             go_wp2_with fail
             go_roundw
             case rel => exact ⟨k + 1, by omega, by go_num, hc3, by rw [ht.out, if_neg (by simp)]; exact hown2⟩
             case measure => simp [intOf] <;> omega)
          | (clear hle hle2
             go_wp2_with fail
             go_roundw
             case rel => exact ⟨k + 1, by omega, by go_num, hc, by rw [ht.out, if_pos (by simp)]; exact hown⟩
             case measure => simp [intOf] <;> omega)
    · go_wp2_with fail
      go_ret
      rw [List.take_of_length_le (by omega)] at hown
      exact ⟨_, rfl, hc, hown.rdv⟩
set_option maxHeartbeats 1000000 in
set_option maxRecDepth 100000 in
theorem refOld_any (l : List Mark) (v : Value) (w : World) (h : Rdv w Never v l) (hz : scriptFault l = 0) :
    Calls Tryd.prog 32 #[v] w fun e w' => ∃ r, e = .returned r ∧ Chg Never w w' ∧ Rdv w' (Old w.heap.size) r (those l 43) := by
  have hlen := scriptFault_len hz
  have HZ := Lib.hid hz
  clear hz
  obtain ⟨a, cap, rfl, h1, h2, h3⟩ := rdv_slice h
  unfold maxLen at h2
  go_enter Tryd.func32, Tryd.ntmps32
  go_wp2_with fail
  go_loopw [3, 4] (fun o i wr => ∃ k : Nat, k ≤ l.length ∧ i = .int .i64 k ∧ Chg Never w wr ∧ Own 9 wr (Old w.heap.size) o (those (l.take k) 43)) (fun _ i _ => l.length - (intOf i).toNat)
  case atStart => exact ⟨0, Nat.zero_le _, rfl, Chg.refl _ _, own_nil _ _ _⟩
  case round =>
    obtain ⟨k, hk, rfl, hc, hown⟩ := hrel
    by_cases hlt : k < l.length
    · obtain ⟨x, hx⟩ : ∃ x, l[k]? = some x := ⟨l[k], by simp [hlt]⟩
      obtain ⟨b, off, rfl, _, _, c0, c1, s0, s1, hxs⟩ := elems_mark h3 hx
      have c0 := hc.cellNever c0
      have c1 := hc.cellNever c1
      have ht := Lib.hid (those_take (no := 43) hx)
      have hle := those_le (l.take k) 43
      have hle2 : (l.take k).length ≤ 120 := by simp; omega
      have hsg := those_signs HZ.out hx
      clear hx h3 h
      obtain ⟨sg, tx⟩ := x
      simp only at c0 c1 s0 s1 hxs hsg
      rcases hsg with rfl | rfl | rfl
      all_goals
        first
          | (have hno : Hid ((32 : Int) ≠ 43 ∧ True) := ⟨by decide, trivial⟩
             go_wp2_with (at_builtin; refine wpList_push (by rfl) _ _ 35 (by rfl) elemOk_str (O := Old w.heap.size) (l := those (l.take k) 43) (y := tx) (by rfl) (by rfl) (by simp) hown ⟨rfl, hxs⟩ (old_lt hc) (by omega) ?_; intro v' w2 hown2 hc2 _)
             have hc3 := own_step hc hown hc2
             clear hc2 hle hle2
             go_wp2_with fail
             go_roundw
             case rel => exact ⟨k + 1, by omega, by go_num, hc3, by rw [ht.out, if_neg (by simp)]; exact hown2⟩
             case measure => simp [intOf] <;> omega)
          | (clear hle hle2
             go_wp2_with fail
             go_roundw
             case rel => exact ⟨k + 1, by omega, by go_num, hc, by rw [ht.out, if_pos (by simp)]; exact hown⟩
             case measure => simp [intOf] <;> omega)
    · go_wp2_with fail
      go_ret
      rw [List.take_of_length_le (by omega)] at hown
      exact ⟨_, rfl, hc, hown.rdv⟩
end Go.Proofs.YtibeddcebefbjaaDoor
namespace Go.Proofs.YtibeddcebefbjaaDoor
open Go.RowKit

theorem nl_mem {s : ByteArray} {k : Nat} (hlt : k < s.size) (h : (((s[k]'hlt).toNat : Int) == 10) = true) : hasNl s = true := by
  unfold hasNl
  have h1 : (s[k]'hlt).toNat = 10 := by have := eq_of_beq h; omega
  have h2 : s[k]'hlt = (10 : UInt8) := UInt8.toNat_inj.1 h1
  have h3 : s.data[k]'hlt = (10 : UInt8) := h2
  rw [List.contains_iff_mem, Array.mem_toList_iff]
  rw [← h3]
  exact Array.getElem_mem _
theorem nl_none {s : ByteArray} (h : ∀ (j : Nat) (hj : j < s.size), (((s[j]'hj).toNat : Int) == 10) = false) : hasNl s = false := by
  unfold hasNl
  rw [Bool.eq_false_iff]
  intro e
  rw [List.contains_iff_mem, Array.mem_toList_iff] at e
  obtain ⟨j, hj, e⟩ := Array.mem_iff_getElem.1 e
  have := h j hj
  have h2 : s[j]'hj = (10 : UInt8) := e
  rw [h2] at this
  exact absurd this (by decide)

set_option maxHeartbeats 1000000 in
set_option maxRecDepth 100000 in
theorem refLine_any (s : ByteArray) (w : World) (hs : s.size ≤ maxLen) :
    Calls Tryd.prog 73 #[.string s] w fun e w' => e = .returned (.int .i64 (lineFault s)) ∧ Chg Never w w' := by
  unfold maxLen at hs
  go_enter Tryd.func73, Tryd.ntmps73
  go_wp2_with fail
  go_loopw [3] (fun i wr => ∃ k : Nat, k ≤ s.size ∧ i = .int .i64 k ∧ Chg Never w wr ∧ Hid (∀ (j : Nat), j < k → ∀ (hj : j < s.size), (((s[j]'hj).toNat : Int) == 10) = false)) (fun i _ => s.size - (intOf i).toNat)
  case atStart => exact ⟨0, Nat.zero_le _, rfl, Chg.refl _ _, fun j h => absurd h (Nat.not_lt_zero j)⟩
  case round =>
    obtain ⟨k, hk, rfl, hc, hf⟩ := hrel
    by_cases hlt : k < s.size
    · cases hq : (((s[k]'hlt).toNat : Int) == 10) with
      | true =>
        have HN := Lib.hid (nl_mem hlt hq)
        go_wp2_with fail
        go_ret
        exact ⟨by rw [lineFault, if_pos HN.out]; rfl, hc⟩
      | false =>
        have HQ : Hid ((((s[k]'hlt).toNat : Int) == 10) = false) := hq
        go_wp2_with fail
        go_roundw
        case rel => exact ⟨k + 1, by omega, by go_num, hc, fun j hj hj' => by
          by_cases e : j = k
          · subst e; exact HQ.out
          · exact hf.out j (by omega) hj'⟩
        case measure => simp [intOf] <;> omega
    · have HN := Lib.hid (nl_none (fun j hj => hf.out j (by omega) hj))
      clear hf
      by_cases h80 : 80 < s.size
      · go_wp2_with fail
        go_ret
        exact ⟨by rw [lineFault, if_neg (by rw [HN.out]; decide), if_pos h80]; rfl, hc⟩
      · go_wp2_with fail
        go_ret
        exact ⟨by rw [lineFault, if_neg (by rw [HN.out]; decide), if_neg h80]; rfl, hc⟩

theorem firstOf_bad {α : Type} (f : α → Int) : ∀ (l : List α) (k : Nat) (x : α), (∀ y ∈ l.take k, f y = 0) → l[k]? = some x → f x ≠ 0 → firstOf f l = f x
  | [], _, _, _, h, _ => by simp at h
  | y :: r, 0, x, _, h, hx => by
    simp only [List.getElem?_cons_zero, Option.some.injEq] at h
    subst h
    rw [firstOf, if_neg hx]
  | y :: r, k + 1, x, ha, h, hx => by
    rw [firstOf, if_pos (ha y (by simp))]
    exact firstOf_bad f r k x (fun z hz => ha z (by simp [hz])) (by simpa using h) hx
theorem take_all_succ {α : Type} {p : α → Prop} {l : List α} {k : Nat} {x : α} (h : ∀ y ∈ l.take k, p y) (hx : l[k]? = some x) (hp : p x) : ∀ y ∈ l.take (k + 1), p y := by
  intro y hy
  rw [List.take_add_one, hx] at hy
  rcases List.mem_append.1 hy with h' | h'
  · exact h y h'
  · simp at h'; rw [h']; exact hp

set_option maxHeartbeats 1000000 in
set_option maxRecDepth 100000 in
theorem refLines_any (l : List ByteArray) (v : Value) (w : World) (h : Rdv w Never v l) :
    Calls Tryd.prog 46 #[v] w fun e w' => e = .returned (.int .i64 (linesFault l)) ∧ Chg Never w w' := by
  obtain ⟨a, cap, rfl, h1, h2, h3⟩ := rdv_slice h
  unfold maxLen at h2
  by_cases h60 : 60 < l.length
  · have HF : Hid (linesFault l = 3) := if_pos h60
    go_enter Tryd.func46, Tryd.ntmps46
    go_wp2_with fail
    go_ret
    exact ⟨by rw [HF.out]; rfl, Chg.refl _ _⟩
  · have HF : Hid (linesFault l = firstOf lineFault l) := if_neg h60
    go_enter Tryd.func46, Tryd.ntmps46
    go_wp2_with fail
    go_loopw [3] (fun i wr => ∃ k : Nat, k ≤ l.length ∧ i = .int .i64 k ∧ Chg Never w wr ∧ Hid (∀ y ∈ l.take k, lineFault y = 0)) (fun i _ => l.length - (intOf i).toNat)
    case atStart => exact ⟨0, Nat.zero_le _, rfl, Chg.refl _ _, fun y hy => by simp at hy⟩
    case round =>
      obtain ⟨k, hk, rfl, hc, hf⟩ := hrel
      by_cases hlt : k < l.length
      · obtain ⟨x, hx⟩ : ∃ x, l[k]? = some x := ⟨l[k], by simp [hlt]⟩
        obtain ⟨b, off, rfl, _, _, hcx, hxs⟩ := elems_str h3 hx
        have hcx := hc.cellNever hcx
        have HX := Lib.hid hx
        clear hx h3 h
        by_cases hz : lineFault x = 0
        · have HZ := Lib.hid hz
          clear hz
          go_wp2_with fail
          refine (refLine_any x _ hxs).mono ?_
          rintro e w2 ⟨rfl, hc2⟩
          rw [HZ.out]
          have hc := hc.trans hc2
          go_wp2_with fail
          go_roundw
          case rel => exact ⟨k + 1, by omega, by go_num, hc, take_all_succ hf.out HX.out HZ.out⟩
          case measure => simp [intOf] <;> omega
        · have HB := Lib.hid (firstOf_bad lineFault l k x hf.out HX.out hz)
          have t1 : (lineFault x == 0) = false := by simp [hz]
          have t2 : (lineFault x != 0) = true := by simp [hz]
          clear hz
          go_wp2_with fail
          refine (refLine_any x _ hxs).mono ?_
          rintro e w2 ⟨rfl, hc2⟩
          have hc := hc.trans hc2
          go_wp2_with fail
          go_ret
          exact ⟨by rw [HF.out, HB.out]; rfl, hc⟩
      · have HZ := Lib.hid ((firstOf_zero lineFault l).2 (fun y hy => hf.out y (by rw [List.take_of_length_le (by omega)]; exact hy)))
        go_wp2_with fail
        go_ret
        exact ⟨by rw [HF.out, HZ.out]; rfl, hc⟩

theorem markFault_line' {sg : Int} (h : sg = 32 ∨ sg = 45 ∨ sg = 43) (tx : ByteArray) : markFault ⟨sg, tx⟩ = lineFault tx := by
  unfold markFault
  rw [if_neg (by simp only []; omega)]
set_option maxHeartbeats 2000000 in
set_option maxRecDepth 100000 in
theorem refScript_any (l : List Mark) (v : Value) (w : World) (h : Rdv w Never v l) :
    Calls Tryd.prog 65 #[v] w fun e w' => e = .returned (.int .i64 (scriptFault l)) ∧ Chg Never w w' := by
  obtain ⟨a, cap, rfl, h1, h2, h3⟩ := rdv_slice h
  unfold maxLen at h2
  by_cases h60 : 120 < l.length
  · have HF : Hid (scriptFault l = 3) := if_pos h60
    go_enter Tryd.func65, Tryd.ntmps65
    go_wp2_with fail
    go_ret
    exact ⟨by rw [HF.out]; rfl, Chg.refl _ _⟩
  · have HF : Hid (scriptFault l = firstOf markFault l) := if_neg h60
    go_enter Tryd.func65, Tryd.ntmps65
    go_wp2_with fail
    go_loopw [3] (fun i wr => ∃ k : Nat, k ≤ l.length ∧ i = .int .i64 k ∧ Chg Never w wr ∧ Hid (∀ y ∈ l.take k, markFault y = 0)) (fun i _ => l.length - (intOf i).toNat)
    case atStart => exact ⟨0, Nat.zero_le _, rfl, Chg.refl _ _, fun y hy => by simp at hy⟩
    case round =>
      obtain ⟨k, hk, rfl, hc, hf⟩ := hrel
      by_cases hlt : k < l.length
      · obtain ⟨x, hx⟩ : ∃ x, l[k]? = some x := ⟨l[k], by simp [hlt]⟩
        obtain ⟨b, off, rfl, _, _, c0, c1, s0, s1, hxs⟩ := elems_mark h3 hx
        have c0 := hc.cellNever c0
        have c1 := hc.cellNever c1
        obtain ⟨sg, tx⟩ := x
        simp only at c0 c1 s0 s1 hxs
        have HX := Lib.hid hx
        clear hx h3 h
        by_cases hs : sg = 32 ∨ sg = 45 ∨ sg = 43
        · have HM := Lib.hid (markFault_line' hs tx)
          by_cases hz : lineFault tx = 0
          · have HZ : Hid (markFault ⟨sg, tx⟩ = 0) := by rw [Hid, HM.out, hz]
            have HL := Lib.hid hz
            clear hz
            rcases hs with rfl | rfl | rfl
            all_goals
              go_wp2_with fail
              refine (refLine_any tx _ hxs).mono ?_
              rintro e w2 ⟨rfl, hc2⟩
              rw [HL.out]
              have hc := hc.trans hc2
              go_wp2_with fail
              go_roundw
              case rel => exact ⟨k + 1, by omega, by go_num, hc, take_all_succ hf.out HX.out HZ.out⟩
              case measure => simp [intOf] <;> omega
          · have HB := Lib.hid (firstOf_bad markFault l k _ hf.out HX.out (by rw [HM.out]; exact hz))
            have t1 : (lineFault tx == 0) = false := by simp [hz]
            have t2 : (lineFault tx != 0) = true := by simp [hz]
            clear hz
            rcases hs with rfl | rfl | rfl
            all_goals
              go_wp2_with fail
              refine (refLine_any tx _ hxs).mono ?_
              rintro e w2 ⟨rfl, hc2⟩
              have hc := hc.trans hc2
              go_wp2_with fail
              go_ret
              exact ⟨by rw [HF.out, HB.out, HM.out]; rfl, hc⟩
        · have HZ : Hid (markFault ⟨sg, tx⟩ = 1) := by unfold Hid markFault; rw [if_pos (by simp only []; omega)]
          have HB := Lib.hid (firstOf_bad markFault l k _ hf.out HX.out (by rw [HZ.out]; decide))
          have t1 : (sg != 32) = true := by simp; omega
          have t2 : (sg != 45) = true := by simp; omega
          have t3 : (sg != 43) = true := by simp; omega
          clear hs
          go_wp2_with fail
          go_ret
          exact ⟨by rw [HF.out, HB.out, HZ.out]; rfl, hc⟩
      · have HZ := Lib.hid ((firstOf_zero markFault l).2 (fun y hy => hf.out y (by rw [List.take_of_length_le (by omega)]; exact hy)))
        go_wp2_with fail
        go_ret
        exact ⟨by rw [HF.out, HZ.out]; rfl, hc⟩
end Go.Proofs.YtibeddcebefbjaaDoor
namespace Go.Proofs.YtibeddcebefbjaaDoor
open Go.RowKit

theorem size_mark (w : World) : (sizeOf (Tryd.prog.elem 22)).run Tryd.prog w = .ok 2 w := by kernel_rfl
/-- 's[i:j]' as a run, at whatever element type -/
theorem slice_gen {P : Program} {t : TypeId} (ht : P.underlying t = some (.slice (P.elem t))) {α : Type} [Dat α] (hsz : ∀ w, (sizeOf (P.elem t)).run P w = .ok (Dat.n α) w) {w0 : World} {O : Nat → Prop} {a : Option Addr} {cap : Nat} {l : List α} (h : Rdv w0 O (.slice a l.length cap) l) (i j : Nat) (hij : i ≤ j) (hj : j ≤ l.length) :
    ∃ b, (∀ (x y : Int) (w : World), x = i → y = j → (Instr.slice t (.slice a l.length cap) (some (.int .i64 x)) (some (.int .i64 y)) none).run P w = .ok (.slice b (j - i) (cap - i)) w) ∧
      (∀ (x : Int) (w : World), x = i → j = l.length → (Instr.slice t (.slice a l.length cap) (some (.int .i64 x)) none none).run P w = .ok (.slice b (j - i) (cap - i)) w) ∧
      (∀ (y : Int) (w : World), i = 0 → y = j → (Instr.slice t (.slice a l.length cap) none (some (.int .i64 y)) none).run P w = .ok (.slice b (j - i) (cap - i)) w) ∧
      Rdv w0 O (.slice b (j - i) (cap - i)) ((l.drop i).take (j - i)) := by
  have hr := rdv_sliced h i j hij hj
  obtain ⟨b, hb⟩ := sliced_isSlice a i j cap (Dat.n α)
  obtain ⟨a', cap', e, h1, h2, h3⟩ := rdv_slice h
  simp only [Value.slice.injEq, true_and] at e
  obtain ⟨rfl, rfl⟩ := e
  refine ⟨b, ?_, ?_, ?_, hb ▸ hr⟩
  · rintro x y w rfl rfl
    rw [run_slice_lh w t a l.length cap ht .i64 .i64 _ _ (by omega) (by omega) (by omega), hsz]
    simp only [Result.andThen_ok, Int.toNat_natCast]
    rw [hb]
  · rintro x w rfl rfl
    rw [run_slice_l w t a l.length cap ht .i64 _ (by omega) (by omega), hsz]
    simp only [Result.andThen_ok, Int.toNat_natCast]
    rw [hb]
  · rintro y w rfl rfl
    rw [run_slice_h w t a l.length cap ht .i64 _ (by omega) (by omega), hsz]
    simp only [Result.andThen_ok, Int.toNat_natCast]
    rw [hb]
end Go.Proofs.YtibeddcebefbjaaDoor
namespace Go.Proofs.YtibeddcebefbjaaDoor
open Go.RowKit

theorem byte_at {s : ByteArray} {k : Nat} (h : k < s.size) : s.data.toList[k]? = some (s[k]'h) := by
  rw [Array.getElem?_toList, Array.getElem?_eq_getElem h]; rfl
theorem byte_eq {c d : UInt8} {n : Int} (h : ((c.toNat : Int) == n) = true) (hd : (d.toNat : Int) = n) : c = d := by
  have := eq_of_beq h
  exact UInt8.toNat_inj.1 (by omega)
theorem byte_ne {c d : UInt8} {n : Int} (h : ((c.toNat : Int) == n) = false) (hd : (d.toNat : Int) = n) : c ≠ d := by
  rintro rfl
  rw [hd] at h
  simp at h
/-- how far a text has been parted -/
def PartsInv (d : UInt8) (s : ByteArray) (q k : Nat) (L : List ByteArray) : Prop :=
  parts d s.data.toList = L.map (·.data.toList) ++ parts d (s.data.toList.drop q) ∧ ∀ j, q ≤ j → j < k → s.data.toList[j]? ≠ some d
theorem pinv_start (d : UInt8) (s : ByteArray) : PartsInv d s 0 0 [] := ⟨by simp, fun j _ h => absurd h (Nat.not_lt_zero j)⟩
theorem PartsInv.step {d : UInt8} {s : ByteArray} {q k : Nat} {L : List ByteArray} {c : UInt8} (h : PartsInv d s q k L) (hk : s.data.toList[k]? = some c) (hc : c ≠ d) : PartsInv d s q (k + 1) L :=
  ⟨h.1, fun j h1 h2 e => by
    by_cases hj : j = k
    · subst hj; rw [hk] at e; injection e with e; exact hc e
    · exact h.2 j h1 (by omega) e⟩
theorem no_sep {d : UInt8} {s : List UInt8} {q k : Nat} (h : ∀ j, q ≤ j → j < k → s[j]? ≠ some d) : ∀ x ∈ (s.drop q).take (k - q), x ≠ d := by
  rintro x hx rfl
  obtain ⟨i, hi⟩ := List.getElem?_of_mem hx
  rw [List.getElem?_take] at hi
  split at hi
  · rw [List.getElem?_drop] at hi
    exact h (q + i) (by omega) (by omega) hi
  · cases hi
theorem PartsInv.cut {d : UInt8} {s : ByteArray} {q k : Nat} {L : List ByteArray} (h : PartsInv d s q k L) (hq : q ≤ k) (hk : s.data.toList[k]? = some d) : PartsInv d s (k + 1) (k + 1) (L ++ [s.extract q k]) := by
  refine ⟨?_, fun j h1 h2 => by omega⟩
  have e : s.data.toList.drop q = (s.data.toList.drop q).take (k - q) ++ d :: s.data.toList.drop (k + 1) := by
    conv => lhs; rw [← List.take_append_drop (k - q) (s.data.toList.drop q), List.drop_drop, show q + (k - q) = k by omega, drop_eq hk]
  rw [h.1, e, parts_cut _ (no_sep h.2), List.map_append, List.append_assoc]
  simp only [List.map_cons, List.map_nil, List.singleton_append]
  rw [Lib.extract_data]
theorem PartsInv.fin {d : UInt8} {s : ByteArray} {q : Nat} {L : List ByteArray} (h : PartsInv d s q s.size L) : (parts d s.data.toList).map toB = L ++ [s.extract q s.size] := by
  have hl : s.data.toList.length = s.size := (Lib.size_eq s).symm
  have e : (s.data.toList.drop q).take (s.size - q) = s.data.toList.drop q := List.take_of_length_le (by rw [List.length_drop, hl]; exact Nat.le_refl _)
  have hn := no_sep h.2
  rw [e] at hn
  have e2 : toB (s.data.toList.drop q) = s.extract q s.size := by rw [← e, ← Lib.extract_data, toB_of]
  rw [h.1, parts_none hn, List.map_append, List.map_map, map_toB, List.map_cons, List.map_nil, e2]

theorem last_of {l : List (List UInt8)} (h : l ≠ []) : ∃ i z, l = i ++ [z] := ⟨l.dropLast, l.getLast h, (List.dropLast_concat_getLast h).symm⟩
theorem parts_count (d : UInt8) : ∀ s, (parts d s).length ≤ s.length + 1
  | [] => by simp [parts]
  | c :: r => by
    have := parts_count d r
    by_cases h : c = d
    · subst h; rw [parts_sep]; simp; omega
    · obtain ⟨h', t, e⟩ := List.exists_cons_of_ne_nil (parts_ne d r)
      rw [parts_other h e]
      rw [e] at this
      simp at this ⊢
      omega

theorem rdv_strs {w : World} {O : Nat → Prop} {g : Nat} {e : TypeId} {l : List ByteArray} {n : Nat} (h : w.heap[g]? = some (.cells (l.map Value.string).toArray e (0, 0))) (hO : ¬ O g) (hn : n = l.length) (hl : l.length ≤ maxLen) (hs : ∀ x ∈ l, x.size ≤ maxLen) : Rdv w O (.slice (some ⟨g, 0, none⟩) n n) l := by
  subst hn
  refine ⟨some ⟨g, 0, none⟩, l.length, rfl, Nat.le_refl _, hl, ?_⟩
  intro i x hx
  refine ⟨g, 0, [.string x], rfl, hO, ?_, rfl, hs x (List.mem_of_getElem? hx)⟩
  intro j u hj
  match j, hj with
  | 0, hj =>
    simp only [List.getElem?_cons_zero, Option.some.injEq] at hj
    subst hj
    simp only [World.cell?, h]
    simp [Dat.n, hx]

theorem joinL_size {l : List ByteArray} (h : ∀ x ∈ l, x.size ≤ 80) : (joinL l).length ≤ 81 * l.length := by
  induction l with
  | nil => simp [joinL]
  | cons x l ih =>
    have h1 := ih (fun y hy => h y (List.mem_cons_of_mem _ hy))
    have h2 := h x (List.mem_cons_self ..)
    rw [Lib.size_eq] at h2
    rw [joinL_cons]
    simp only [List.length_append, List.length_cons]
    omega
theorem linesFault_size {l : List ByteArray} (h : linesFault l = 0) : ∀ x ∈ l, x.size ≤ 80 := by
  unfold linesFault at h
  by_cases e : 60 < l.length
  · rw [if_pos e] at h; cases h
  · rw [if_neg e, firstOf_zero] at h
    intro x hx
    have := h x hx
    unfold lineFault at this
    by_cases e1 : hasNl x = true
    · rw [if_pos e1] at this; cases this
    · rw [if_neg e1] at this
      by_cases e2 : 80 < x.size
      · rw [if_pos e2] at this; cases this
      · omega
theorem joinOf_step {l : List ByteArray} {k : Nat} {x : ByteArray} (hx : l[k]? = some x) : joinOf (l.take k) ++ x ++ ⟨#[10]⟩ = joinOf (l.take (k + 1)) := by
  unfold joinOf
  rw [List.take_add_one, hx, joinL_append]
  apply ByteArray.ext
  apply Array.toList_inj.1
  rw [bytes_append, bytes_append, toB_data, toB_data]
  simp [joinL]
theorem joinL_step {l : List ByteArray} {k : Nat} {x : ByteArray} (hx : l[k]? = some x) : Lib.byteCells (joinL (l.take k)) ++ Lib.strCells x ++ [.int .u8 10] = Lib.byteCells (joinL (l.take (k + 1))) := by
  rw [List.take_add_one, hx, joinL_append, Lib.byteCells_append, Lib.strCells_eq, List.append_assoc]
  congr 1
  simp [joinL, Lib.byteCells_append]
  rfl

theorem suffix_snoc (b : List UInt8) : Lib.hasSuffix (b ++ [10]) [10] = true ∧ Lib.trimSuffix (b ++ [10]) [10] = b := by
  have e : Lib.hasSuffix (b ++ [10]) [10] = true := by
    unfold Lib.hasSuffix
    rw [List.isSuffixOf_iff_suffix]
    exact List.suffix_append b [10]
  refine ⟨e, ?_⟩
  unfold Lib.trimSuffix
  rw [if_pos e]
  simp
theorem suffix_not {b : List UInt8} {c : UInt8} (h : c ≠ 10) : Lib.hasSuffix (b ++ [c]) [10] = false := by
  unfold Lib.hasSuffix
  rw [Bool.eq_false_iff]
  intro e
  rw [List.isSuffixOf_iff_suffix] at e
  obtain ⟨t, ht⟩ := e
  have := (List.append_inj' ht rfl).2
  simp at this
  exact h this.symm
theorem str_ne_empty {s : ByteArray} (h : s ≠ ByteArray.empty) : ∃ b c, s.data.toList = b ++ [c] := by
  have hne : s.data.toList ≠ [] := by
    intro e
    apply h
    apply ByteArray.ext
    apply Array.toList_inj.1
    rw [e]; rfl
  exact ⟨s.data.toList.dropLast, s.data.toList.getLast hne, (List.dropLast_concat_getLast hne).symm⟩
theorem parts_mem (d : UInt8) : ∀ (s : List UInt8) (x : List UInt8), x ∈ parts d s → x.length ≤ s.length
  | [], x, h => by simp [parts] at h; subst h; simp
  | c :: r, x, h => by
    have ih := parts_mem d r
    by_cases hc : c = d
    · subst hc
      rw [parts_sep] at h
      rcases List.mem_cons.1 h with rfl | h
      · simp
      · have := ih x h; simp; omega
    · obtain ⟨h', t, e⟩ := List.exists_cons_of_ne_nil (parts_ne d r)
      rw [parts_other hc e] at h
      rw [e] at ih
      rcases List.mem_cons.1 h with rfl | h
      · have := ih h' (List.mem_cons_self ..); simp; omega
      · have := ih x (List.mem_cons_of_mem _ h); simp; omega
end Go.Proofs.YtibeddcebefbjaaDoor
namespace Go.Proofs.YtibeddcebefbjaaDoor
open Go.RowKit

def letterI (c : Int) : Bool := decide (97 ≤ c) && decide (c ≤ 122) || decide (48 ≤ c) && decide (c ≤ 57) || (c == 46) || (c == 45)
theorem letterI_byte (c : UInt8) : letterI c.toNat = letterB c := by
  unfold letterI letterB
  have e1 : decide ((97 : Int) ≤ (c.toNat : Int)) = decide (97 ≤ c.toNat) := by congr 1; apply propext; omega
  have e2 : decide ((c.toNat : Int) ≤ 122) = decide (c.toNat ≤ 122) := by congr 1; apply propext; omega
  have e3 : decide ((48 : Int) ≤ (c.toNat : Int)) = decide (48 ≤ c.toNat) := by congr 1; apply propext; omega
  have e4 : decide ((c.toNat : Int) ≤ 57) = decide (c.toNat ≤ 57) := by congr 1; apply propext; omega
  have e5 : ((c.toNat : Int) == 46) = decide (c.toNat = 46) := by rw [Bool.eq_iff_iff, beq_iff_eq, decide_eq_true_eq]; omega
  have e6 : ((c.toNat : Int) == 45) = decide (c.toNat = 45) := by rw [Bool.eq_iff_iff, beq_iff_eq, decide_eq_true_eq]; omega
  rw [e1, e2, e3, e4, e5, e6]

set_option maxHeartbeats 1000000 in
theorem letter_any (c : Int) (w : World) (h0 : 0 ≤ c) (h1 : c < 256) :
    Calls Tryd.prog 72 #[.int .u8 c] w fun e w' => e = .returned (.bool (letterI c)) ∧ w' = w := by
  by_cases b1 : 97 ≤ c
  · by_cases b2 : c ≤ 122
    · have a1 : decide ((97 : Int) ≤ c) = true := by simp; omega
      have a2 : decide (c ≤ (122 : Int)) = true := by simp; omega
      have a3 : decide ((48 : Int) ≤ c) = true := by simp; omega
      have a4 : decide (c ≤ (57 : Int)) = false := by simp; omega
      have a5 : (c == 46) = false := by simp; omega
      have a6 : (c == 45) = false := by simp; omega
      have HL : Hid (letterI c = (true && true || true && false || false || false)) := by unfold Hid letterI; rw [a1, a2, a3, a4, a5, a6]
      try clear b5
      try clear b6
      go_enter Tryd.func72, Tryd.ntmps72
      go_wp2_with fail
      go_ret
      exact ⟨by rw [HL.out]; rfl, rfl⟩
    · have a1 : decide ((97 : Int) ≤ c) = true := by simp; omega
      have a2 : decide (c ≤ (122 : Int)) = false := by simp; omega
      have a3 : decide ((48 : Int) ≤ c) = true := by simp; omega
      have a4 : decide (c ≤ (57 : Int)) = false := by simp; omega
      have a5 : (c == 46) = false := by simp; omega
      have a6 : (c == 45) = false := by simp; omega
      have HL : Hid (letterI c = (true && false || true && false || false || false)) := by unfold Hid letterI; rw [a1, a2, a3, a4, a5, a6]
      try clear b5
      try clear b6
      go_enter Tryd.func72, Tryd.ntmps72
      go_wp2_with fail
      go_ret
      exact ⟨by rw [HL.out]; rfl, rfl⟩
  · by_cases b3 : 48 ≤ c
    · by_cases b4 : c ≤ 57
      · have a1 : decide ((97 : Int) ≤ c) = false := by simp; omega
        have a2 : decide (c ≤ (122 : Int)) = true := by simp; omega
        have a3 : decide ((48 : Int) ≤ c) = true := by simp; omega
        have a4 : decide (c ≤ (57 : Int)) = true := by simp; omega
        have a5 : (c == 46) = false := by simp; omega
        have a6 : (c == 45) = false := by simp; omega
        have HL : Hid (letterI c = (false && true || true && true || false || false)) := by unfold Hid letterI; rw [a1, a2, a3, a4, a5, a6]
        try clear b5
        try clear b6
        go_enter Tryd.func72, Tryd.ntmps72
        go_wp2_with fail
        go_ret
        exact ⟨by rw [HL.out]; rfl, rfl⟩
      · have a1 : decide ((97 : Int) ≤ c) = false := by simp; omega
        have a2 : decide (c ≤ (122 : Int)) = true := by simp; omega
        have a3 : decide ((48 : Int) ≤ c) = true := by simp; omega
        have a4 : decide (c ≤ (57 : Int)) = false := by simp; omega
        have a5 : (c == 46) = false := by simp; omega
        have a6 : (c == 45) = false := by simp; omega
        have HL : Hid (letterI c = (false && true || true && false || false || false)) := by unfold Hid letterI; rw [a1, a2, a3, a4, a5, a6]
        try clear b5
        try clear b6
        go_enter Tryd.func72, Tryd.ntmps72
        go_wp2_with fail
        go_ret
        exact ⟨by rw [HL.out]; rfl, rfl⟩
    · by_cases b5 : c = 46
      · have a1 : decide ((97 : Int) ≤ c) = false := by simp; omega
        have a2 : decide (c ≤ (122 : Int)) = true := by simp; omega
        have a3 : decide ((48 : Int) ≤ c) = false := by simp; omega
        have a4 : decide (c ≤ (57 : Int)) = true := by simp; omega
        have a5 : (c == 46) = true := by simp; omega
        have a6 : (c == 45) = false := by simp; omega
        have HL : Hid (letterI c = (false && true || false && true || true || false)) := by unfold Hid letterI; rw [a1, a2, a3, a4, a5, a6]
        try clear b5
        try clear b6
        go_enter Tryd.func72, Tryd.ntmps72
        go_wp2_with fail
        go_ret
        exact ⟨by rw [HL.out]; rfl, rfl⟩
      · by_cases b6 : c = 45
        · have a1 : decide ((97 : Int) ≤ c) = false := by simp; omega
          have a2 : decide (c ≤ (122 : Int)) = true := by simp; omega
          have a3 : decide ((48 : Int) ≤ c) = false := by simp; omega
          have a4 : decide (c ≤ (57 : Int)) = true := by simp; omega
          have a5 : (c == 46) = false := by simp; omega
          have a6 : (c == 45) = true := by simp; omega
          have HL : Hid (letterI c = (false && true || false && true || false || true)) := by unfold Hid letterI; rw [a1, a2, a3, a4, a5, a6]
          try clear b5
          try clear b6
          go_enter Tryd.func72, Tryd.ntmps72
          go_wp2_with fail
          go_ret
          exact ⟨by rw [HL.out]; rfl, rfl⟩
        · have a1 : decide ((97 : Int) ≤ c) = false := by simp; omega
          have a2 : decide (c ≤ (122 : Int)) = true := by simp; omega
          have a3 : decide ((48 : Int) ≤ c) = false := by simp; omega
          have a4 : decide (c ≤ (57 : Int)) = true := by simp; omega
          have a5 : (c == 46) = false := by simp; omega
          have a6 : (c == 45) = false := by simp; omega
          have HL : Hid (letterI c = (false && true || false && true || false || false)) := by unfold Hid letterI; rw [a1, a2, a3, a4, a5, a6]
          try clear b5
          try clear b6
          go_enter Tryd.func72, Tryd.ntmps72
          go_wp2_with fail
          go_ret
          exact ⟨by rw [HL.out]; rfl, rfl⟩

theorem emp_false {x : ByteArray} (h : x.data.toList ≠ []) : x.toList.isEmpty = false := by rw [Lib.toList_data]; simpa using h
theorem str_false {x : ByteArray} {l : List UInt8} (h : x.data.toList ≠ l) : (x.toList == l) = false := by rw [Lib.toList_data]; simpa using h
/-! ### names -/
theorem nameOk_iff {x : List UInt8} : nameOk x = true ↔ x ≠ [] ∧ x ≠ [46] ∧ x ≠ [46, 46] ∧ ∀ c ∈ x, letterB c = true := by
  unfold nameOk
  simp only [Bool.and_eq_true, Bool.not_eq_true', beq_eq_false_iff_ne, List.all_eq_true, ne_eq]
  constructor
  · rintro ⟨⟨⟨a, b⟩, c⟩, d⟩; exact ⟨a, b, c, d⟩
  · rintro ⟨a, b, c, d⟩; exact ⟨⟨⟨a, b⟩, c⟩, d⟩
theorem pathFault_long {s : ByteArray} (h : 20 < s.size) : pathFault s = 3 := if_pos h
theorem pathFault_bad {s : ByteArray} (h : ¬ 20 < s.size) {x : List UInt8} (hx : x ∈ parts 47 s.data.toList) (hb : nameOk x = false) : pathFault s = 5 := by
  unfold pathFault
  rw [if_neg h, if_neg]
  intro e
  rw [List.all_eq_true] at e
  rw [e x hx] at hb
  cases hb
theorem pathFault_ok {s : ByteArray} (h : ¬ 20 < s.size) (ha : ∀ x ∈ parts 47 s.data.toList, nameOk x = true) : pathFault s = 0 := by
  unfold pathFault
  rw [if_neg h, if_pos]
  rw [List.all_eq_true]; exact ha

set_option maxHeartbeats 1000000 in
set_option maxRecDepth 100000 in
theorem line_path_any (s : ByteArray) (w : World) (m : Int) (hm : w.cell? ⟨1, 0, none⟩ = some (.int .i64 m)) :
    Calls Tryd.prog 44 #[.string s] w fun e w' => e = .returned (errV (pathFault s)) ∧ Chg Never w w' := by
  by_cases h20 : 20 < s.size
  · have HF := Lib.hid (pathFault_long h20)
    go_enter Tryd.func44, Tryd.ntmps44
    go_wp2_with fail
    go_ret
    exact ⟨by rw [HF.out]; rfl, Chg.refl _ _⟩
  · have HB := fun x hx hb => pathFault_bad (x := x) h20 hx hb
    have HO := pathFault_ok h20
    have hcnt : (parts 47 s.data.toList).length ≤ s.size + 1 := by rw [Lib.size_eq]; exact parts_count 47 _
    have HSP : Hid (Lib.splitB ⟨#[47]⟩ 0 (Lib.countB s ⟨#[47]⟩) s = (parts 47 s.data.toList).map toB) := splitB_parts 47 s
    have HLEN : Hid (Lib.countB s ⟨#[47]⟩ + 1 = ((parts 47 s.data.toList).map toB).length) := by
      have := Lib.splitB_all ⟨#[47]⟩ (by decide) 0 _ s rfl
      rw [Hid, ← this, HSP.out]
    have hmem : ∀ x ∈ parts 47 s.data.toList, x.length ≤ s.size := fun x hx => by rw [Lib.size_eq]; exact parts_mem 47 _ x hx
    have HMEM := Lib.hid hmem
    have HCNT := Lib.hid hcnt
    clear hmem hcnt
    have HH := Lib.hid (And.intro HB HO)
    clear HB HO
    go_enter Tryd.func44, Tryd.ntmps44
    go_wp2_with fail
    refine (Tryd.strings_Split s ⟨#[47]⟩ m _ (by omega) hm (by decide)).mono ?_
    rintro e w2 ⟨rfl, rfl⟩
    rw [HSP.out, HLEN.out]
    have hmem := HMEM.out
    have hcnt := HCNT.out
    have hA : Chg Never w (w.alloc (.cells (((parts 47 s.data.toList).map toB).map Value.string).toArray 9)) := (Chg.refl Never w).alloc _
    have hR0 : Rdv (w.alloc (.cells (((parts 47 s.data.toList).map toB).map Value.string).toArray 9)) Never (.slice (some ⟨w.heap.size, 0, none⟩) ((parts 47 s.data.toList).map toB).length ((parts 47 s.data.toList).map toB).length) ((parts 47 s.data.toList).map toB) :=
      rdv_strs (heap_alloc_new _ _) (fun h => h) rfl (by rw [List.length_map]; unfold maxLen; omega) (fun x hx => by
        obtain ⟨y, hy, rfl⟩ := List.mem_map.1 hx
        rw [Lib.size_eq, toB_data]
        have := hmem y hy
        unfold maxLen; omega)
    have hLL : ((parts 47 s.data.toList).map toB).length ≤ 21 := by rw [List.length_map]; omega
    have HM : Hid (∀ x ∈ (parts 47 s.data.toList).map toB, x.data.toList ∈ parts 47 s.data.toList ∧ x.size ≤ 20) := by
      intro x hx
      obtain ⟨y, hy, rfl⟩ := List.mem_map.1 hx
      have := hmem y hy
      exact ⟨by rw [toB_data]; exact hy, by rw [Lib.size_eq, toB_data]; omega⟩
    have HM2 : Hid (∀ y ∈ parts 47 s.data.toList, toB y ∈ (parts 47 s.data.toList).map toB) := fun y hy => List.mem_map.2 ⟨y, hy, rfl⟩
    clear hmem hcnt HSP HLEN
    generalize (parts 47 s.data.toList).map toB = L at hR0 hA hLL HM HM2 ⊢
    generalize w.alloc (.cells (L.map Value.string).toArray 9) = w3 at hR0 hA ⊢
    obtain ⟨la, lc, hlv, h1, h2, h3⟩ := rdv_slice hR0
    simp only [Value.slice.injEq, true_and] at hlv
    obtain ⟨rfl, rfl⟩ := hlv
    go_wp2_with fail
    go_loop [13] (fun i => ∃ k : Nat, k ≤ L.length ∧ i = .int .i64 k ∧ Hid (∀ x ∈ L.take k, nameOk x.data.toList = true)) (fun i => L.length - (intOf i).toNat)
    case atStart => exact ⟨0, Nat.zero_le _, rfl, fun x hx => by simp at hx⟩
    case round =>
      obtain ⟨k, hk, rfl, hf⟩ := hrel
      by_cases hlt : k < L.length
      · obtain ⟨x, hx⟩ : ∃ x, L[k]? = some x := ⟨L[k], by simp [hlt]⟩
        obtain ⟨b, off, hbo, _, _, c0, hxs⟩ := elems_str h3 hx
        simp only [Option.some.injEq, Addr.mk.injEq, and_true] at hbo
        obtain ⟨rfl, rfl⟩ := hbo
        rw [Nat.zero_add] at c0
        obtain ⟨hxm, hx20⟩ := HM.out x (List.mem_of_getElem? hx)
        have HX := Lib.hid hx
        have HXM := Lib.hid hxm
        clear hx hxm
        by_cases b1 : x.data.toList = []
        · have HN := Lib.hid (HH.out.1 _ HXM.out (by rw [b1]; rfl))
          have t1 : x.toList.isEmpty = true := by rw [Lib.toList_data, b1]; rfl
          clear b1
          go_wp2_with fail
          go_ret
          exact ⟨by rw [HN.out]; rfl, hA⟩
        · have t1 := emp_false b1
          by_cases b2 : x.data.toList = [46]
          · have HN := Lib.hid (HH.out.1 _ HXM.out (by rw [b2]; rfl))
            have t2 : (x.toList == [46]) = true := by rw [Lib.toList_data, b2]; rfl
            clear b1 b2
            go_wp2_with fail
            go_ret
            exact ⟨by rw [HN.out]; rfl, hA⟩
          · have t2 := str_false b2
            by_cases b3 : x.data.toList = [46, 46]
            · have HN := Lib.hid (HH.out.1 _ HXM.out (by rw [b3]; rfl))
              have t3 : (x.toList == [46, 46]) = true := by rw [Lib.toList_data, b3]; rfl
              clear b1 b2 b3
              go_wp2_with fail
              go_ret
              exact ⟨by rw [HN.out]; rfl, hA⟩
            · have t3 := str_false b3
              have HBB := Lib.hid (And.intro b1 (And.intro b2 b3))
              clear b1 b2 b3
              go_wp2_with fail
              go_loop [30] (fun i => ∃ j : Nat, j ≤ x.size ∧ i = .int .i64 j ∧ Hid (∀ q, q < j → ∀ c, x.data.toList[q]? = some c → letterB c = true)) (fun i => x.size - (intOf i).toNat)
              case atStart => exact ⟨0, Nat.zero_le _, rfl, fun q h => absurd h (Nat.not_lt_zero q)⟩
              case round =>
                obtain ⟨j, hj, rfl, hl⟩ := hrel
                by_cases hjl : j < x.size
                · have HAT := Lib.hid (byte_at hjl)
                  have hlt256 := (x[j]'hjl).toNat_lt
                  cases hlb : letterI ((x[j]'hjl).toNat : Int) with
                  | true =>
                    have HLB : Hid (letterB (x[j]'hjl) = true) := by rw [Hid, ← letterI_byte]; exact hlb
                    go_wp2_with fail
                    refine (letter_any _ _ (by omega) (by omega)).mono ?_
                    rintro e w5 ⟨rfl, hw5⟩
                    rw [hw5, hlb]
                    clear hlb hw5
                    go_wp2_with fail
                    go_round
                    case rel => exact ⟨j + 1, by omega, by go_num, fun q hq c hc => by
                      by_cases e : q = j
                      · subst e
                        rw [HAT.out] at hc
                        injection hc with hc
                        rw [← hc]; exact HLB.out
                      · exact hl.out q (by omega) c hc⟩
                    case measure => simp [intOf] <;> omega
                  | false =>
                    have HN := Lib.hid (HH.out.1 _ HXM.out (by
                      rw [Bool.eq_false_iff]
                      intro e
                      have := (nameOk_iff.1 e).2.2.2 _ (List.mem_of_getElem? HAT.out)
                      rw [← letterI_byte, hlb] at this
                      cases this))
                    go_wp2_with fail
                    refine (letter_any _ _ (by omega) (by omega)).mono ?_
                    rintro e w5 ⟨rfl, hw5⟩
                    rw [hw5, hlb]
                    clear hlb hw5
                    go_wp2_with fail
                    go_ret
                    exact ⟨by rw [HN.out]; rfl, hA⟩
                · have HOK : Hid (nameOk x.data.toList = true) := nameOk_iff.2 ⟨HBB.out.1, HBB.out.2.1, HBB.out.2.2, fun c hc => by
                    obtain ⟨q, hq⟩ := List.getElem?_of_mem hc
                    have hql := (List.getElem?_eq_some_iff.1 hq).1
                    rw [← Lib.size_eq] at hql
                    exact hl.out q (by omega) c hq⟩
                  clear hl
                  go_wp2_with fail
                  go_round
                  case rel => exact ⟨k + 1, by omega, by go_num, take_all_succ hf.out HX.out HOK.out⟩
                  case measure => simp [intOf] <;> omega
      · go_wp2_with fail
        go_ret
        have e := hf.out
        rw [List.take_of_length_le (by omega)] at e
        have e2 : pathFault s = 0 := HH.out.2 (fun y hy => by have := e _ (HM2.out y hy); rw [toB_data] at this; exact this)
        exact ⟨by rw [e2]; rfl, hA⟩

/-! ### the document's way -/
theorem parts_head {d : UInt8} : ∀ {a : List UInt8} (r : List UInt8), (∀ x ∈ a, x ≠ d) → ∃ t u, parts d (a ++ r) = (a ++ t) :: u ∧ parts d r = t :: u
  | [], r, _ => by
    obtain ⟨h', t, e⟩ := List.exists_cons_of_ne_nil (parts_ne d r)
    exact ⟨h', t, e, e⟩
  | c :: a, r, h => by
    obtain ⟨t, u, e1, e2⟩ := parts_head (a := a) r (fun x hx => h x (List.mem_cons_of_mem _ hx))
    exact ⟨t, u, parts_other (h c (List.mem_cons_self ..)) e1, e2⟩
structure NameInv (s : ByteArray) (q k : Nat) (L : List ByteArray) : Prop where
  p : PartsInv 47 s q k L
  ok : ∀ x ∈ L, nameOk x.data.toList = true
  let_ : ∀ j, q ≤ j → j < k → ∀ c, s.data.toList[j]? = some c → letterB c = true
theorem ninv_start (s : ByteArray) : NameInv s 0 0 [] := ⟨pinv_start _ _, fun x h => by simp at h, fun j _ h => absurd h (Nat.not_lt_zero j)⟩
theorem NameInv.step {s : ByteArray} {q k : Nat} {L : List ByteArray} {c : UInt8} (h : NameInv s q k L) (hk : s.data.toList[k]? = some c) (hc : c ≠ 47) (hl : letterB c = true) : NameInv s q (k + 1) L :=
  ⟨h.p.step hk hc, h.ok, fun j h1 h2 d hd => by
    by_cases e : j = k
    · subst e
      rw [hk] at hd
      injection hd with hd
      rw [← hd]; exact hl
    · exact h.let_ j h1 (by omega) d hd⟩
theorem NameInv.bad {s : ByteArray} {q k : Nat} {L : List ByteArray} {c : UInt8} (h : NameInv s q k L) (hq : q ≤ k) (hk : s.data.toList[k]? = some c) (hc : c ≠ 47) (hl : letterB c = false) : ∃ x ∈ parts 47 s.data.toList, nameOk x = false := by
  have e : s.data.toList.drop q = (s.data.toList.drop q).take (k - q) ++ c :: s.data.toList.drop (k + 1) := by
    conv => lhs; rw [← List.take_append_drop (k - q) (s.data.toList.drop q), List.drop_drop, show q + (k - q) = k by omega, drop_eq hk]
  obtain ⟨h', t', e3⟩ := List.exists_cons_of_ne_nil (parts_ne 47 (s.data.toList.drop (k + 1)))
  have hns := no_sep h.p.2
  generalize (s.data.toList.drop q).take (k - q) = A at e hns
  obtain ⟨t, u, e1, e2⟩ := parts_head (c :: s.data.toList.drop (k + 1)) hns
  rw [parts_other hc e3] at e2
  injection e2 with e2 e2'
  refine ⟨A ++ t, ?_, ?_⟩
  · rw [h.p.1, e, e1]
    exact List.mem_append_right _ (List.mem_cons_self ..)
  · rw [Bool.eq_false_iff]
    intro hn
    have hct : c ∈ t := by rw [← e2]; exact List.mem_cons_self ..
    have := (nameOk_iff.1 hn).2.2.2 c (List.mem_append_right _ hct)
    rw [hl] at this
    cases this
theorem NameInv.name {s : ByteArray} {q k : Nat} {L : List ByteArray} (h : NameInv s q k L) : ∀ c ∈ (s.extract q k).data.toList, letterB c = true := by
  intro c hc
  rw [Lib.extract_data] at hc
  obtain ⟨i, hi⟩ := List.getElem?_of_mem hc
  rw [List.getElem?_take] at hi
  split at hi
  · rw [List.getElem?_drop] at hi
    exact h.let_ (q + i) (by omega) (by omega) c hi
  · cases hi
theorem NameInv.nameMem {s : ByteArray} {q k : Nat} {L : List ByteArray} (h : NameInv s q k L) (hq : q ≤ k) (hk : s.data.toList[k]? = some 47 ∨ k = s.size) : (s.extract q k).data.toList ∈ parts 47 s.data.toList := by
  rcases hk with hk | rfl
  · have e := (h.p.cut hq hk).1
    rw [e]
    exact List.mem_append_left _ (List.mem_map.2 ⟨_, List.mem_append_right _ (List.mem_cons_self ..), rfl⟩)
  · have e := h.p.fin
    have hm : s.extract q s.size ∈ (parts 47 s.data.toList).map toB := by rw [e]; exact List.mem_append_right _ (List.mem_cons_self ..)
    obtain ⟨y, hy, e2⟩ := List.mem_map.1 hm
    rw [← e2, toB_data]; exact hy
theorem NameInv.cut {s : ByteArray} {q k : Nat} {L : List ByteArray} (h : NameInv s q k L) (hq : q ≤ k) (hk : s.data.toList[k]? = some 47) (hn : nameOk (s.extract q k).data.toList = true) : NameInv s (k + 1) (k + 1) (L ++ [s.extract q k]) :=
  ⟨h.p.cut hq hk, fun x hx => by
    rcases List.mem_append.1 hx with hx | hx
    · exact h.ok x hx
    · rw [List.mem_singleton] at hx
      rw [hx]; exact hn, fun j h1 h2 => by omega⟩
theorem NameInv.all {s : ByteArray} {q : Nat} {L : List ByteArray} (h : NameInv s q s.size L) (hn : nameOk (s.extract q s.size).data.toList = true) : ∀ x ∈ parts 47 s.data.toList, nameOk x = true := by
  intro x hx
  have hm : toB x ∈ (parts 47 s.data.toList).map toB := List.mem_map.2 ⟨x, hx, rfl⟩
  rw [h.p.fin] at hm
  have : nameOk (toB x).data.toList = true := by
    rcases List.mem_append.1 hm with hm | hm
    · exact h.ok _ hm
    · rw [List.mem_singleton] at hm
      rw [hm]; exact hn
  rwa [toB_data] at this
/-- where the loop over the letters stands: at a letter, or behind the end -/
def PathSt (s : ByteArray) (q k : Nat) : Prop := (k ≤ s.size → ∃ L, NameInv s q k L) ∧ (k = s.size + 1 → ∀ x ∈ parts 47 s.data.toList, nameOk x = true)

set_option maxHeartbeats 2000000 in
set_option maxRecDepth 100000 in
theorem refPath_any (s : ByteArray) (w : World) :
    Calls Tryd.prog 45 #[.string s] w fun e w' => e = .returned (.int .i64 (pathFault s)) ∧ Chg Never w w' := by
  by_cases h20 : 20 < s.size
  · have HF := Lib.hid (pathFault_long h20)
    go_enter Tryd.func45, Tryd.ntmps45
    go_wp2_with fail
    go_ret
    exact ⟨by rw [HF.out]; rfl, Chg.refl _ _⟩
  · have h20' : s.size ≤ 20 := by omega
    go_enter Tryd.func45, Tryd.ntmps45
    go_wp2_with fail
    go_loopw [3, 4] (fun fr i wr => ∃ (q k : Nat), fr = .int .i64 q ∧ i = .int .i64 k ∧ q ≤ k ∧ k ≤ s.size + 1 ∧ Chg Never w wr ∧ Hid (PathSt s q k)) (fun _ i _ => s.size + 1 - (intOf i).toNat)
    case atStart => exact ⟨0, 0, rfl, rfl, Nat.le_refl _, Nat.zero_le _, Chg.refl _ _, ⟨fun _ => ⟨[], ninv_start s⟩, fun e => by omega⟩⟩
    case round =>
      obtain ⟨q, k, rfl, rfl, hqk, hk, hc, hS⟩ := hrel
      by_cases hle : k ≤ s.size
      · obtain ⟨L, hNI⟩ := hS.out.1 hle
        have HNI := Lib.hid hNI
        clear hNI hS
        by_cases hlt : k < s.size
        · have HB := Lib.hid (byte_at hlt)
          have h256 := (s[k]'hlt).toNat_lt
          cases hq : (((s[k]'hlt).toNat : Int) == 47) with
          | false =>
            have t0 : (((s[k]'hlt).toNat : Int) != 47) = true := by simpa using hq
            have HC := Lib.hid (byte_ne (d := 47) hq rfl)
            clear hq
            by_cases c1 : 97 ≤ (s[k]'hlt).toNat
            · by_cases c2 : (s[k]'hlt).toNat ≤ 122
              · have a1 : decide (((s[k]'hlt).toNat : Int) < 97) = false := by simp; omega
                have a2 : decide ((122 : Int) < ((s[k]'hlt).toNat : Int)) = false := by simp; omega
                have a3 : decide (((s[k]'hlt).toNat : Int) < 48) = false := by simp; omega
                have a4 : decide ((57 : Int) < ((s[k]'hlt).toNat : Int)) = true := by simp; omega
                have a5 : (((s[k]'hlt).toNat : Int) != 46) = true := by simp; omega
                have a6 : (((s[k]'hlt).toNat : Int) != 45) = true := by simp; omega
                have HLB : Hid (letterB (s[k]'hlt) = true) := by
                  unfold Hid letterB
                  simp only [Bool.or_eq_true, Bool.and_eq_true, decide_eq_true_eq]
                  omega
                have HST : Hid (PathSt s q (k + 1)) := ⟨fun _ => ⟨L, HNI.out.step HB.out HC.out HLB.out⟩, fun e => by omega⟩
                go_wp2_with fail
                go_roundw
                case rel => exact ⟨q, k + 1, rfl, by go_num, by omega, by omega, hc, HST⟩
                case measure => simp [intOf] <;> omega
              · have a1 : decide (((s[k]'hlt).toNat : Int) < 97) = false := by simp; omega
                have a2 : decide ((122 : Int) < ((s[k]'hlt).toNat : Int)) = true := by simp; omega
                have a3 : decide (((s[k]'hlt).toNat : Int) < 48) = false := by simp; omega
                have a4 : decide ((57 : Int) < ((s[k]'hlt).toNat : Int)) = true := by simp; omega
                have a5 : (((s[k]'hlt).toNat : Int) != 46) = true := by simp; omega
                have a6 : (((s[k]'hlt).toNat : Int) != 45) = true := by simp; omega
                have HLB : Hid (letterB (s[k]'hlt) = false) := by
                  rw [Hid, Bool.eq_false_iff]
                  unfold letterB
                  simp only [ne_eq, Bool.or_eq_true, Bool.and_eq_true, decide_eq_true_eq]
                  omega
                have HF : Hid (pathFault s = 5) := by
                  obtain ⟨x, hx, hb⟩ := HNI.out.bad hqk HB.out HC.out HLB.out
                  exact pathFault_bad h20 hx hb
                go_wp2_with fail
                go_ret
                exact ⟨by rw [HF.out]; rfl, hc⟩
            · by_cases c3 : 48 ≤ (s[k]'hlt).toNat
              · by_cases c4 : (s[k]'hlt).toNat ≤ 57
                · have a1 : decide (((s[k]'hlt).toNat : Int) < 97) = true := by simp; omega
                  have a2 : decide ((122 : Int) < ((s[k]'hlt).toNat : Int)) = false := by simp; omega
                  have a3 : decide (((s[k]'hlt).toNat : Int) < 48) = false := by simp; omega
                  have a4 : decide ((57 : Int) < ((s[k]'hlt).toNat : Int)) = false := by simp; omega
                  have a5 : (((s[k]'hlt).toNat : Int) != 46) = true := by simp; omega
                  have a6 : (((s[k]'hlt).toNat : Int) != 45) = true := by simp; omega
                  have HLB : Hid (letterB (s[k]'hlt) = true) := by
                    unfold Hid letterB
                    simp only [Bool.or_eq_true, Bool.and_eq_true, decide_eq_true_eq]
                    omega
                  have HST : Hid (PathSt s q (k + 1)) := ⟨fun _ => ⟨L, HNI.out.step HB.out HC.out HLB.out⟩, fun e => by omega⟩
                  go_wp2_with fail
                  go_roundw
                  case rel => exact ⟨q, k + 1, rfl, by go_num, by omega, by omega, hc, HST⟩
                  case measure => simp [intOf] <;> omega
                · have a1 : decide (((s[k]'hlt).toNat : Int) < 97) = true := by simp; omega
                  have a2 : decide ((122 : Int) < ((s[k]'hlt).toNat : Int)) = false := by simp; omega
                  have a3 : decide (((s[k]'hlt).toNat : Int) < 48) = false := by simp; omega
                  have a4 : decide ((57 : Int) < ((s[k]'hlt).toNat : Int)) = true := by simp; omega
                  have a5 : (((s[k]'hlt).toNat : Int) != 46) = true := by simp; omega
                  have a6 : (((s[k]'hlt).toNat : Int) != 45) = true := by simp; omega
                  have HLB : Hid (letterB (s[k]'hlt) = false) := by
                    rw [Hid, Bool.eq_false_iff]
                    unfold letterB
                    simp only [ne_eq, Bool.or_eq_true, Bool.and_eq_true, decide_eq_true_eq]
                    omega
                  have HF : Hid (pathFault s = 5) := by
                    obtain ⟨x, hx, hb⟩ := HNI.out.bad hqk HB.out HC.out HLB.out
                    exact pathFault_bad h20 hx hb
                  go_wp2_with fail
                  go_ret
                  exact ⟨by rw [HF.out]; rfl, hc⟩
              · by_cases c5 : (s[k]'hlt).toNat = 46
                · have a1 : decide (((s[k]'hlt).toNat : Int) < 97) = true := by simp; omega
                  have a2 : decide ((122 : Int) < ((s[k]'hlt).toNat : Int)) = false := by simp; omega
                  have a3 : decide (((s[k]'hlt).toNat : Int) < 48) = true := by simp; omega
                  have a4 : decide ((57 : Int) < ((s[k]'hlt).toNat : Int)) = false := by simp; omega
                  have a5 : (((s[k]'hlt).toNat : Int) != 46) = false := by simp; omega
                  have a6 : (((s[k]'hlt).toNat : Int) != 45) = true := by simp; omega
                  have HLB : Hid (letterB (s[k]'hlt) = true) := by
                    unfold Hid letterB
                    simp only [Bool.or_eq_true, Bool.and_eq_true, decide_eq_true_eq]
                    omega
                  have HST : Hid (PathSt s q (k + 1)) := ⟨fun _ => ⟨L, HNI.out.step HB.out HC.out HLB.out⟩, fun e => by omega⟩
                  go_wp2_with fail
                  go_roundw
                  case rel => exact ⟨q, k + 1, rfl, by go_num, by omega, by omega, hc, HST⟩
                  case measure => simp [intOf] <;> omega
                · by_cases c6 : (s[k]'hlt).toNat = 45
                  · have a1 : decide (((s[k]'hlt).toNat : Int) < 97) = true := by simp; omega
                    have a2 : decide ((122 : Int) < ((s[k]'hlt).toNat : Int)) = false := by simp; omega
                    have a3 : decide (((s[k]'hlt).toNat : Int) < 48) = true := by simp; omega
                    have a4 : decide ((57 : Int) < ((s[k]'hlt).toNat : Int)) = false := by simp; omega
                    have a5 : (((s[k]'hlt).toNat : Int) != 46) = true := by simp; omega
                    have a6 : (((s[k]'hlt).toNat : Int) != 45) = false := by simp; omega
                    have HLB : Hid (letterB (s[k]'hlt) = true) := by
                      unfold Hid letterB
                      simp only [Bool.or_eq_true, Bool.and_eq_true, decide_eq_true_eq]
                      omega
                    have HST : Hid (PathSt s q (k + 1)) := ⟨fun _ => ⟨L, HNI.out.step HB.out HC.out HLB.out⟩, fun e => by omega⟩
                    go_wp2_with fail
                    go_roundw
                    case rel => exact ⟨q, k + 1, rfl, by go_num, by omega, by omega, hc, HST⟩
                    case measure => simp [intOf] <;> omega
                  · have a1 : decide (((s[k]'hlt).toNat : Int) < 97) = true := by simp; omega
                    have a2 : decide ((122 : Int) < ((s[k]'hlt).toNat : Int)) = false := by simp; omega
                    have a3 : decide (((s[k]'hlt).toNat : Int) < 48) = true := by simp; omega
                    have a4 : decide ((57 : Int) < ((s[k]'hlt).toNat : Int)) = false := by simp; omega
                    have a5 : (((s[k]'hlt).toNat : Int) != 46) = true := by simp; omega
                    have a6 : (((s[k]'hlt).toNat : Int) != 45) = true := by simp; omega
                    have HLB : Hid (letterB (s[k]'hlt) = false) := by
                      rw [Hid, Bool.eq_false_iff]
                      unfold letterB
                      simp only [ne_eq, Bool.or_eq_true, Bool.and_eq_true, decide_eq_true_eq]
                      omega
                    have HF : Hid (pathFault s = 5) := by
                      obtain ⟨x, hx, hb⟩ := HNI.out.bad hqk HB.out HC.out HLB.out
                      exact pathFault_bad h20 hx hb
                    go_wp2_with fail
                    go_ret
                    exact ⟨by rw [HF.out]; rfl, hc⟩
          | true =>
            have t0 : (((s[k]'hlt).toNat : Int) != 47) = false := by simpa using hq
            have HC : Hid (s.data.toList[k]? = some 47) := by rw [Hid, HB.out, byte_eq (d := 47) hq rfl]
            have HMEM := Lib.hid (HNI.out.nameMem hqk (.inl HC.out))
            clear hq
            by_cases b1 : (s.extract q k).data.toList = []
            · have HN := Lib.hid (pathFault_bad h20 HMEM.out (by rw [b1]; rfl))
              have t1 : (s.extract q k).toList.isEmpty = true := by rw [Lib.toList_data, b1]; rfl
              clear b1
              go_wp2_with fail
              go_ret
              exact ⟨by rw [HN.out]; rfl, hc⟩
            · have t1 := emp_false b1
              by_cases b2 : (s.extract q k).data.toList = [46]
              · have HN := Lib.hid (pathFault_bad h20 HMEM.out (by rw [b2]; rfl))
                have t2 : ((s.extract q k).toList == [46]) = true := by rw [Lib.toList_data, b2]; rfl
                clear b1 b2
                go_wp2_with fail
                go_ret
                exact ⟨by rw [HN.out]; rfl, hc⟩
              · have t2 := str_false b2
                by_cases b3 : (s.extract q k).data.toList = [46, 46]
                · have HN := Lib.hid (pathFault_bad h20 HMEM.out (by rw [b3]; rfl))
                  have t3 : ((s.extract q k).toList == [46, 46]) = true := by rw [Lib.toList_data, b3]; rfl
                  clear b1 b2 b3
                  go_wp2_with fail
                  go_ret
                  exact ⟨by rw [HN.out]; rfl, hc⟩
                · have t3 := str_false b3
                  have HOK : Hid (nameOk (s.extract q k).data.toList = true) := nameOk_iff.2 ⟨b1, b2, b3, HNI.out.name⟩
                  clear b1 b2 b3
                  have HST : Hid (PathSt s (k + 1) (k + 1)) := ⟨fun _ => ⟨_, HNI.out.cut hqk HC.out HOK.out⟩, fun e => by omega⟩
                  go_wp2_with fail
                  go_roundw
                  case rel => exact ⟨k + 1, k + 1, by go_num, by go_num, Nat.le_refl _, by omega, hc, HST⟩
                  case measure => simp [intOf] <;> omega
        · have hks : k = s.size := by omega
          have HMEM := Lib.hid (HNI.out.nameMem hqk (.inr hks))
          have HKS := Lib.hid hks
          clear hks
          by_cases b1 : (s.extract q k).data.toList = []
          · have HN := Lib.hid (pathFault_bad h20 HMEM.out (by rw [b1]; rfl))
            have t1 : (s.extract q k).toList.isEmpty = true := by rw [Lib.toList_data, b1]; rfl
            clear b1
            go_wp2_with fail
            go_ret
            exact ⟨by rw [HN.out]; rfl, hc⟩
          · have t1 := emp_false b1
            by_cases b2 : (s.extract q k).data.toList = [46]
            · have HN := Lib.hid (pathFault_bad h20 HMEM.out (by rw [b2]; rfl))
              have t2 : ((s.extract q k).toList == [46]) = true := by rw [Lib.toList_data, b2]; rfl
              clear b1 b2
              go_wp2_with fail
              go_ret
              exact ⟨by rw [HN.out]; rfl, hc⟩
            · have t2 := str_false b2
              by_cases b3 : (s.extract q k).data.toList = [46, 46]
              · have HN := Lib.hid (pathFault_bad h20 HMEM.out (by rw [b3]; rfl))
                have t3 : ((s.extract q k).toList == [46, 46]) = true := by rw [Lib.toList_data, b3]; rfl
                clear b1 b2 b3
                go_wp2_with fail
                go_ret
                exact ⟨by rw [HN.out]; rfl, hc⟩
              · have t3 := str_false b3
                have HOK : Hid (nameOk (s.extract q k).data.toList = true) := nameOk_iff.2 ⟨b1, b2, b3, HNI.out.name⟩
                clear b1 b2 b3
                have HST : Hid (PathSt s (k + 1) (k + 1)) := ⟨fun e => by have := HKS.out; omega, fun _ => by have a := HNI.out; have b := HOK.out; rw [HKS.out] at a b; exact a.all b⟩
                go_wp2_with fail
                go_roundw
                case rel => exact ⟨k + 1, k + 1, by go_num, by go_num, Nat.le_refl _, by omega, hc, HST⟩
                case measure => simp [intOf] <;> omega
      · have HF : Hid (pathFault s = 0) := pathFault_ok h20 (hS.out.2 (by omega))
        clear hS
        go_wp2_with fail
        go_ret
        exact ⟨by rw [HF.out]; rfl, hc⟩
end Go.Proofs.YtibeddcebefbjaaDoor
