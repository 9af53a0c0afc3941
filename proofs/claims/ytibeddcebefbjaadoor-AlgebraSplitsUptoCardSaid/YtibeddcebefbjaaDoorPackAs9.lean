/-
  AlgebraSplits holds, tied to the program's text: for all arguments of bulk at most 1048576 the law answers true, and its arguments read as before.
-/
import Derived.Test.YtibeddcebefbjaaDoorPackAs5
import Derived.StillTailTactics
import Derived.Test.YtibeddcebefbjaaDoorPackAs8
import Derived.Test.YtibeddcebefbjaaDoorPackAs1
namespace Go.Proofs.YtibeddcebefbjaaDoor
open Go.RowKit

set_option maxHeartbeats 1000000 in
set_option maxRecDepth 100000 in
theorem trees_any (l m : List File) (v u : Value) (w : World) (h : Rdv w Never v l) (g : Rdv w Never u m) :
    Calls Tryd.prog 20 #[v, u] w fun e w' => e = .returned (.bool (decide (l = m))) ∧ Chg Never w w' := by
  obtain ⟨a, cap, rfl, h1, h2, h3⟩ := rdv_slice h
  obtain ⟨c, cap', rfl, g1, g2, g3⟩ := rdv_slice g
  unfold maxLen at h2 g2
  by_cases h4 : l.length = m.length
  · have h4' : ((l.length : Int) != m.length) = false := by simp [h4]
    have H4 := Lib.hid h4
    clear h4
    go_enter Tryd.func20, Tryd.ntmps20
    go_wp2_with fail
    go_loopw [5] (fun i wr => ∃ k : Nat, k ≤ l.length ∧ i = .int .i64 k ∧ Hid (l.take k = m.take k) ∧ Chg Never w wr) (fun i _ => l.length - (intOf i).toNat)
    case atStart => exact ⟨0, Nat.zero_le _, rfl, by simp [Hid], Chg.refl _ _⟩
    case round =>
      obtain ⟨k, hk, rfl, hf, hc⟩ := hrel
      by_cases hlt : k < l.length
      · obtain ⟨x, hx⟩ : ∃ x, l[k]? = some x := ⟨l[k], by simp [hlt]⟩
        obtain ⟨y, hy⟩ : ∃ y, m[k]? = some y := ⟨m[k]'(by rw [← H4.out]; exact hlt), by simp [H4.out ▸ hlt]⟩
        obtain ⟨b, off, mv, rfl, _, _, c0, c1, _, hmv⟩ := elems_file h3 hx
        obtain ⟨b', off', mv', rfl, _, _, d0, d1, _, hmv'⟩ := elems_file g3 hy
        have C0 := Lib.hid c0
        have D0 := Lib.hid d0
        have c1 := hc.cellNever c1
        have d1 := hc.cellNever d1
        have hmv := hmv.never hc
        have hmv' := hmv'.never hc
        clear h3 g3 h g c0 d0
        have hlm : k < m.length := by rw [← H4.out]; exact hlt
        have HX := Lib.hid hx
        have HY := Lib.hid hy
        clear hx hy
        have b1 : (k : Int) < l.length := by omega
        have b2 : (k : Int) < m.length := by omega
        go_wp2_with fail
        refine wp_region_still_tail 10 (by kernel_rfl) (by kernel_rfl) ?_
        simp only [List.take_succ_cons, List.take_zero, List.drop_succ_cons, List.drop_zero]
        change wpStill _ _ wr.drew _ _ _
        repeat still_step
        refine wpStill_nil ?_
        change wpList _ _ _ _ _ wr.drew
        have hcd : Chg Never w wr.drew := hc.drew
        have hmd := hmv.never ((Chg.refl Never wr).drew)
        have hmd' := hmv'.never ((Chg.refl Never wr).drew)
        generalize wr.drew = w3 at hcd hmd hmd'
        clear hmv hmv' c1 d1 hc
        go_wp2_with fail
        refine (texts_any x.lines y.lines _ _ _ hmd hmd').mono ?_
        rintro e w4 ⟨rfl, hc4⟩
        have hc5 := hcd.trans hc4
        have c0 := hc5.cellNever C0.out
        have d0 := hc5.cellNever D0.out
        clear hmd hmd' hcd hc4
        by_cases hls : x.lines = y.lines
        · rw [decide_eq_true hls]
          by_cases hpp : x.path = y.path
          · have hxy : x = y := by
              cases x; cases y
              simp only at hls hpp
              rw [hls, hpp]
            subst hxy
            go_wp2_with fail
            go_quiet (fail)
            go_wp2_with fail
            go_roundw
            case rel => exact ⟨k + 1, by omega, by go_num, take_same hf HX.out HY.out, hc5.drewN _⟩
            case measure => simp [intOf] <;> omega
          · have hxy : x ≠ y := fun e => hpp (by rw [e])
            have t1 := str_beq_false hpp
            have HN := Lib.hid (decide_eq_false (ne_of_get HX.out HY.out hxy))
            clear hls hpp hxy
            go_wp2_with fail
            go_quiet (fail)
            go_wp2_with fail
            go_ret
            exact ⟨by rw [HN.out]; rfl, hc5.drewN _⟩
        · have hxy : x ≠ y := fun e => hls (by rw [e])
          have HN := Lib.hid (decide_eq_false (ne_of_get HX.out HY.out hxy))
          rw [decide_eq_false hls]
          clear hls hxy
          go_wp2_with fail
          go_quiet (fail)
          go_wp2_with fail
          go_ret
          exact ⟨by rw [HN.out]; rfl, hc5.drewN _⟩
      · go_wp2_with fail
        go_ret
        have E : l = m := by
          have := hf.out
          rw [List.take_of_length_le (by omega), List.take_of_length_le (by rw [← H4.out]; omega)] at this
          exact this
        exact ⟨by rw [decide_eq_true E]; rfl, hc⟩
  · have h4' : ((l.length : Int) != m.length) = true := by simp; omega
    go_enter Tryd.func20, Tryd.ntmps20
    go_wp2_with fail
    go_ret
    exact ⟨by rw [decide_eq_false (fun e => h4 (by rw [e]))]; rfl, Chg.refl _ _⟩
end Go.Proofs.YtibeddcebefbjaaDoor
namespace Go.Proofs.YtibeddcebefbjaaDoor
open Go.RowKit

def factP : List Change := [⟨1, ⟨#[97]⟩, [⟨0, 0, [⟨43, ⟨#[120]⟩⟩]⟩, ⟨1, 2, [⟨45, ⟨#[121]⟩⟩]⟩]⟩]
theorem fact_split : splitPF factP = 0 ∧ splitPR factP = [[⟨1, ⟨#[97]⟩, [⟨0, 0, [⟨43, ⟨#[120]⟩⟩]⟩]⟩], [⟨1, ⟨#[97]⟩, [⟨2, 2, [⟨45, ⟨#[121]⟩⟩]⟩]⟩]] := by
  have h : splitPF factP = 0 := by decide +kernel
  exact ⟨h, (if_pos h : splitPR factP = pieces factP)⟩
theorem splitPR_ok {p : List Change} (h : splitPF p = 0) : splitPR p = pieces p := if_pos h
theorem elems_lists {w : World} {O : Nat → Prop} {a : Option Addr} {l : List (List Change)} (h : Elems w O a l) {i : Nat} {x : List Change} (hx : l[i]? = some x) :
    ∃ b off v, a = some ⟨b, off, none⟩ ∧ ¬ O b ∧ b < w.heap.size ∧ w.cell? ⟨b, off + i, none⟩ = some v ∧ Rdv w O v x := by
  obtain ⟨b, off, es, ha, hb, hcs, a', cap', rfl, h1, h2, h3⟩ := h i x hx
  refine ⟨b, off, _, ha, hb, hcs.lt (by simp), ?_, a', cap', rfl, h1, h2, h3⟩
  have := hcs 0 _ rfl
  simpa [Dat.n] using this
theorem next_alloc {w W : World} {s : Nat} (o : Obj) (h : W = w.alloc o) (hs : w.heap.size = s) : Chg Never w W ∧ W.heap[s]? = some o ∧ W.heap.size = s + 1 := by
  subst h
  subst hs
  exact ⟨(Chg.refl Never w).alloc o, heap_alloc_new w o, World.size_alloc _ _⟩
theorem fact_rdv {w W : World} (hW : W = ((((((w.alloc (.cells #[.int .u8 43, .string ⟨#[120]⟩] 66)).alloc (.cells #[.int .i64 0, .int .i64 0, .slice (some ⟨w.heap.size, 0, none⟩) 1 1] 24)).alloc (.cells #[.int .u8 45, .string ⟨#[121]⟩] 66)).alloc (.cells #[.int .i64 1, .int .i64 2, .slice (some ⟨w.heap.size + 1 + 1, 0, none⟩) 1 1] 24)).alloc
      (.cells #[.int .i64 0, .int .i64 0, .slice (some ⟨w.heap.size, 0, none⟩) 1 1, .int .i64 1, .int .i64 2, .slice (some ⟨w.heap.size + 1 + 1, 0, none⟩) 1 1] 24)).alloc (.cells #[.int .i64 1, .string ⟨#[97]⟩, .slice (some ⟨w.heap.size + 1 + 1 + 1 + 1, 0, none⟩) 2 2] 60))) :
    Chg Never w W ∧ Rdv W Never (.slice (some ⟨w.heap.size + 1 + 1 + 1 + 1 + 1, 0, none⟩) 1 1) factP := by
  generalize hs : w.heap.size = s at hW ⊢
  obtain ⟨W1, h1⟩ : ∃ W1, W1 = w.alloc (.cells #[.int .u8 43, .string ⟨#[120]⟩] 66) := ⟨_, rfl⟩
  obtain ⟨c1, n1, s1⟩ := next_alloc _ h1 hs
  rw [← h1] at hW
  obtain ⟨W2, h2⟩ : ∃ W2, W2 = W1.alloc (.cells #[.int .i64 0, .int .i64 0, .slice (some ⟨s, 0, none⟩) 1 1] 24) := ⟨_, rfl⟩
  obtain ⟨c2, n2, s2⟩ := next_alloc _ h2 s1
  rw [← h2] at hW
  obtain ⟨W3, h3⟩ : ∃ W3, W3 = W2.alloc (.cells #[.int .u8 45, .string ⟨#[121]⟩] 66) := ⟨_, rfl⟩
  obtain ⟨c3, n3, s3⟩ := next_alloc _ h3 s2
  rw [← h3] at hW
  obtain ⟨W4, h4⟩ : ∃ W4, W4 = W3.alloc (.cells #[.int .i64 1, .int .i64 2, .slice (some ⟨s + 1 + 1, 0, none⟩) 1 1] 24) := ⟨_, rfl⟩
  obtain ⟨c4, n4, s4⟩ := next_alloc _ h4 s3
  rw [← h4] at hW
  obtain ⟨W5, h5⟩ : ∃ W5, W5 = W4.alloc (.cells #[.int .i64 0, .int .i64 0, .slice (some ⟨s, 0, none⟩) 1 1, .int .i64 1, .int .i64 2, .slice (some ⟨s + 1 + 1, 0, none⟩) 1 1] 24) := ⟨_, rfl⟩
  obtain ⟨c5, n5, s5⟩ := next_alloc _ h5 s4
  rw [← h5] at hW
  obtain ⟨c6, n6, s6⟩ := next_alloc _ hW s5
  have m1 : Rdv W1 Never (.slice (some ⟨s, 0, none⟩) 1 1) [(⟨43, ⟨#[120]⟩⟩ : Mark)] := rdv_at (cs := [.int .u8 43, .string ⟨#[120]⟩]) n1 (fun h => h) (rd_mark _ _ _ _ (by decide) (by decide) (by decide))
  have m3 : Rdv W3 Never (.slice (some ⟨s + 1 + 1, 0, none⟩) 1 1) [(⟨45, ⟨#[121]⟩⟩ : Mark)] := rdv_at (cs := [.int .u8 45, .string ⟨#[121]⟩]) n3 (fun h => h) (rd_mark _ _ _ _ (by decide) (by decide) (by decide))
  have m1' := m1.never ((((c2.trans c3).trans c4)).trans c5)
  have m3' := m3.never (c4.trans c5)
  have hh : Rdv W5 Never (.slice (some ⟨s + 1 + 1 + 1 + 1, 0, none⟩) 2 2) [(⟨0, 0, [⟨43, ⟨#[120]⟩⟩]⟩ : Hunk), ⟨1, 2, [⟨45, ⟨#[121]⟩⟩]⟩] :=
    rdv_lit (e := 24) (cs := [.int .i64 0, .int .i64 0, .slice (some ⟨s, 0, none⟩) 1 1, .int .i64 1, .int .i64 2, .slice (some ⟨s + 1 + 1, 0, none⟩) 1 1]) n5 rfl (by decide) ⟨⟨_, rfl, m1'⟩, ⟨_, rfl, m3'⟩, trivial⟩
  exact ⟨((((c1.trans c2).trans c3).trans c4).trans c5).trans c6, rdv_at (cs := [.int .i64 1, .string ⟨#[97]⟩, .slice (some ⟨s + 1 + 1 + 1 + 1, 0, none⟩) 2 2]) n6 (fun h => h) ⟨_, rfl, by decide, hh.never c6⟩⟩
theorem good_drop {x b : List File} {L : List (List Change)} {i : Nat} {e : List Change} (hd : L.drop i = e :: L.drop (i + 1)) (h : Good x (L.drop i) b) : (applyR x e).2.2 = 3 ∨ ((applyR x e).2.2 = 0 ∧ Good (applyR x e).1 (L.drop (i + 1)) b) := by
  rw [hd] at h; exact h
set_option maxHeartbeats 4000000 in
set_option maxRecDepth 100000 in
theorem law_algebraSplits (t : List File) (p : List Change) (vt vp : Value) (w : World) (ht : Rdv w Never vt t) (hp : Rdv w Never vp p) (m : Int) (hm : w.cell? ⟨1, 0, none⟩ = some (.int .i64 m)) (hg : w.cell? ⟨0, 0, none⟩ = some errT) :
    Calls Tryd.prog 8 #[vt, vp] w fun e w' => e = .returned (.bool true) ∧ Chg Never w w' := by
  obtain ⟨ta, tcap, rfl, _, _, _⟩ := rdv_slice ht
  go_enter Tryd.func8, Tryd.ntmps8
  go_wp2_with fail
  obtain ⟨W, hW⟩ : ∃ W, W = ((((((w.alloc (.cells #[.int .u8 43, .string ⟨#[120]⟩] 66)).alloc (.cells #[.int .i64 0, .int .i64 0, .slice (some ⟨w.heap.size, 0, none⟩) 1 1] 24)).alloc (.cells #[.int .u8 45, .string ⟨#[121]⟩] 66)).alloc (.cells #[.int .i64 1, .int .i64 2, .slice (some ⟨w.heap.size + 1 + 1, 0, none⟩) 1 1] 24)).alloc
      (.cells #[.int .i64 0, .int .i64 0, .slice (some ⟨w.heap.size, 0, none⟩) 1 1, .int .i64 1, .int .i64 2, .slice (some ⟨w.heap.size + 1 + 1, 0, none⟩) 1 1] 24)).alloc (.cells #[.int .i64 1, .string ⟨#[97]⟩, .slice (some ⟨w.heap.size + 1 + 1 + 1 + 1, 0, none⟩) 2 2] 60)) := ⟨_, rfl⟩
  obtain ⟨hAf, hLf⟩ := fact_rdv hW
  rw [← hW]
  clear hW
  refine (split_any factP _ _ hLf m (hAf.cellNever hm)).mono ?_
  rintro e w1 ⟨r0, rfl, hc1, hr0⟩
  have hw := hAf.trans hc1
  rw [fact_split.1, errV_zero]
  rw [fact_split.2] at hr0
  obtain ⟨fa, fc, rfl, _, _, hel⟩ := rdv_slice hr0
  obtain ⟨fb, fo, fv, rfl, _, _, f1, hfv⟩ := elems_lists hel (i := 1) rfl
  obtain ⟨ga, gc, rfl, _, _, hel2⟩ := rdv_slice hfv
  obtain ⟨gb, go', gv, rfl, _, _, _, _, f2, _, hgv⟩ := elems_change hel2 (i := 0) rfl
  obtain ⟨ka, kc, rfl, _, _, hel3⟩ := rdv_slice hgv
  obtain ⟨kb, ko, kv, rfl, _, _, f3, _, _, _⟩ := elems_hunk hel3 (i := 0) rfl
  simp only [Nat.zero_mul, Nat.add_zero] at f2 f3
  clear hr0 hel hel2 hel3 hfv hgv hLf hAf hc1
  go_wp2_with fail
  clear f1 f2 f3
  refine (split_any p _ _ (hp.never hw) m (hw.cellNever hm)).mono ?_
  rintro e w2 ⟨rl, rfl, hc2, hrl⟩
  have hw := hw.trans hc2
  clear hc2
  go_wp2_with fail
  refine (apply_any t p _ _ _ (ht.never hw) (hp.never hw) m (hw.cellNever hm)).mono ?_
  rintro e w3 ⟨rb, rfl, hc3, hrb⟩
  have hw := hw.trans hc3
  have hrl := hrl.never hc3
  clear hc3
  by_cases z : splitPF p = 0
  · by_cases y : (applyR t p).2.2 = 0
    · have HG : Hid (Good t (pieces p) (applyR t p).1) := split_good z (k := (applyR t p).2.1) (Prod.ext rfl (Prod.ext rfl y))
      rw [splitPR_ok z] at hrl
      rw [z, y, errV_zero]
      have HSH : Hid (∀ e ∈ pieces p, ∃ c, e = [c] ∧ c.hunks.length ≤ 1) := fun e he => pieces_shape he
      clear z y
      generalize (applyR t p).1 = b at hrb HG
      generalize (applyR t p).2.1 = bk
      generalize pieces p = L at hrl HG HSH
      obtain ⟨la, lcap, rfl, l1, l2, l3⟩ := rdv_slice hrl
      unfold maxLen at l2
      obtain ⟨ba, bcap, rfl, _, _, _⟩ := rdv_slice hrb
      go_wp2_with fail
      have hc0 := Chg.refl Never w3
      have ht3 := ht.never hw
      go_loopw [14, 15] (fun v i wr => ∃ (k : Nat) (x : List File), k ≤ L.length ∧ i = .int .i64 k ∧ Chg Never w3 wr ∧ Rdv wr Never v x ∧ Hid (Good x (L.drop k) b)) (fun _ i _ => L.length - (intOf i).toNat)
      case atStart => exact ⟨0, t, Nat.zero_le _, rfl, hc0, ht3, HG.out⟩
      case round =>
        clear hc0 ht3
        rename World => wr
        obtain ⟨k, x, hk, rfl, hc, hx, hgd⟩ := hrel
        obtain ⟨xa, xc, rfl, _, _, _⟩ := rdv_slice hx
        by_cases hlt : k < L.length
        · obtain ⟨e, he⟩ : ∃ e, L[k]? = some e := ⟨L[k], by simp [hlt]⟩
          obtain ⟨c, hec, hch⟩ := HSH.out e (List.mem_of_getElem? he)
          subst hec
          obtain ⟨lb, lo, ev, hla, _, _, g0, hev⟩ := elems_lists l3 he
          subst hla
          obtain ⟨ea, ec, rfl, _, _, hel⟩ := rdv_slice hev
          obtain ⟨eb, eo, hv, rfl, _, _, _, _, g2, _, hhv⟩ := elems_change hel (i := 0) rfl
          obtain ⟨ha, hcap, rfl, _, _, _⟩ := rdv_slice hhv
          simp only [Nat.zero_mul, Nat.add_zero] at g2
          have g0 := hc.cellNever g0
          have g2 := hc.cellNever g2
          have HD := Lib.hid (drop_eq he)
          have h1 : ¬ (1 : Int) < c.hunks.length := by omega
          have hgo := good_drop HD.out hgd.out
          clear he hel hhv l3
          go_wp2_with fail
          refine (apply_any x [c] _ _ _ hx (hev.never hc) m ((hw.trans hc).cellNever hm)).mono ?_
          rintro e5 w5 ⟨r5, rfl, hc5, hr5⟩
          have hc5' := hc.trans hc5
          clear g0 g2 hc5
          rcases hgo with h3 | ⟨h3, h4⟩
          · rw [h3]
            go_wp2_with fail
            refine (error_any 3 3 _ ((hw.trans hc5').cellNever hg)).mono ?_
            rintro e6 w6 ⟨rfl, hc6⟩
            rw [beq_self_eq_true]
            go_wp2_with fail
            go_ret
            exact ⟨rfl, (hw.trans hc5').trans hc6⟩
          · have H4 := Lib.hid h4
            rw [h3]
            clear h3 h4
            go_wp2_with fail
            refine (error_any 0 3 _ ((hw.trans hc5').cellNever hg)).mono ?_
            rintro e6 w6 ⟨rfl, hc6⟩
            have e03 : ((0 : Int) == 3) = false := rfl
            rw [e03, errV_zero]
            have hc6' := hc5'.trans hc6
            have hr5 := hr5.never hc6
            clear hc6 e03 h1
            go_wp2_with fail
            go_roundw
            case rel => exact ⟨k + 1, _, by omega, by go_num, hc6', hr5, H4.out⟩
            case measure => simp [intOf] <;> omega
        · obtain rfl : k = L.length := by omega
          have hgx := hgd.out
          rw [List.drop_length] at hgx
          have HX : Hid (x = b) := hgx
          clear hgx hgd l3
          go_wp2_with fail
          refine (trees_any x b _ _ _ hx (hrb.never hc)).mono ?_
          rintro e7 w7 ⟨rfl, hc7⟩
          rw [decide_eq_true HX.out]
          go_wp2_with fail
          go_ret
          exact ⟨rfl, (hw.trans hc).trans hc7⟩
    · rw [z, errV_zero, errV_pos y]
      clear z y hrl hrb
      go_wp2_with fail
      go_ret
      exact ⟨rfl, hw⟩
  · rw [errV_pos z]
    clear z hrl hrb
    go_wp2_with fail
    go_ret
    exact ⟨rfl, hw⟩
end Go.Proofs.YtibeddcebefbjaaDoor
namespace Go.Proofs.YtibeddcebefbjaaDoor.lawAlgebraSplits
open Go.ChangeShapes Go.WideShapes Go.ChangeAt Go.RowKit

set_option maxRecDepth 100000 in
theorem contract (H : Type) (enc : TypeId × Value → H) (W : World) (base : Nat) (args : Array Value) (ds gs : List (DataW H)) (before : List MemPlace)
    (hval : ∀ (j : Nat) t v, Tryd.f8.params[j]? = some t → args[j]? = some v → Value.okWide Tryd.prog W .any base t v)
    (hW : DataW.Whole enc Tryd.prog Tryd.f8.params.toList Rows.algebraSplitsSpec.vars false W args.toList ds gs before) (hk : Rows.uptoSmall H (ds ++ gs) = true) (hL : laidMetH Tryd.prog Rows.algebraSplitsUptoRow.laid W) (hS : W.ShapedOpen Tryd.prog) :
    Calls Tryd.prog 8 args W fun e W' => ∃ v, e = .returned v ∧ Rows.algebraSplitsSpec.post enc Tryd.prog Tryd.f8 false true false false W args v W' := by
  have hg := handle_of_laidTE hL
  obtain ⟨m, hm⟩ := maxlen_of hS
  have hW' := hW
  obtain ⟨p, q, hA0, hV, rfl, hfz, hnd⟩ := hW
  have hA : DataW.TrodAll enc Tryd.prog W 0 (fun _ => true) true Tryd.f8.params.toList args.toList ds p := hA0
  rw [Tryd.params8] at hA hval
  obtain ⟨v0, vs0, d0, ds0, p0, q0, hargs, rfl, rfl, h0, r0⟩ := trodAll_cons hA
  obtain ⟨v1, vs1, d1, ds1, p1, q1, rfl, rfl, rfl, h1, r1⟩ := trodAll_cons r0
  obtain ⟨rfl, rfl, rfl⟩ := trodAll_nil r1
  obtain rfl : args = #[v0, v1] := by cases args; simp_all
  obtain ⟨a0, len0, cap0, rfl⟩ := okWide_slice Tryd.underlying34 (hval 0 34 v0 rfl rfl)
  obtain ⟨a1, len1, cap1, rfl⟩ := okWide_slice Tryd.underlying51 (hval 1 51 v1 rfl rfl)
  obtain ⟨u0, k0⟩ := h0
  obtain ⟨x0, hx0, hb0⟩ := opens_files _ _ _ _ _ _ _ _ _ _ k0
  obtain ⟨u1, k1⟩ := h1
  obtain ⟨x1, hx1, hb1⟩ := opens_changes _ _ _ _ _ _ _ _ _ _ k1
  refine (law_algebraSplits x0 x1 _ _ W hx0 hx1 m hm hg).mono fun e W' he => ?_
  obtain ⟨he, hc⟩ := he
  subst he
  exact ⟨_, rfl, post_law hW' rfl rfl Tryd.underlying4 rfl laidOut (by decide +kernel) hc⟩

theorem reads (os : Os) {H : Type} (enc : TypeId × Value → H) : ∃ places, DataW.whole enc Tryd.prog ((laidWorldT os).forCall (fun _ _ => 0) ⟨#[], #[.slice none 0 0, .slice none 0 0], []⟩).memory Tryd.f8.params.toList Rows.algebraSplitsSpec.vars false (#[.slice none 0 0, .slice none 0 0] : Array Value).toList 8 = some ([.nil, .nil], [], places) :=
  ⟨[], by kernel_rfl⟩
set_option maxRecDepth 100000 in
theorem liftedUpto (os : Os) (started : os.Started) (H : Type) (enc : TypeId × Value → H) (F : Stop.Interp) :
    ReturnsInHanded {} Tryd.checked os 8 .any ((Rows.OpenSpec.upto Rows.algebraSplitsSpec).preRow enc Tryd.prog Tryd.f8 Rows.algebraSplitsUptoRow.domain false Rows.algebraSplitsUptoRow.laid) (((Rows.OpenSpec.upto Rows.algebraSplitsSpec).at F).post enc Tryd.prog Tryd.f8 false true false false) := by
  obtain ⟨places, hx⟩ := reads os enc
  refine returnsInHanded_of_row (C := Tryd.checked) (s := Rows.OpenSpec.upto Rows.algebraSplitsSpec) own started (by kernel_rfl) Tryd.func8
    (witness_row_at (enc := enc) (C := Tryd.checked) false (laidWorldT os) #[.slice none 0 0, .slice none 0 0] rfl (by kernel_rfl) (by kernel_rfl) (by kernel_rfl)
      (OpenSpec.preRow_of_cond 8 hx (by kernel_rfl) (fun k hk => by cases hk; kernel_rfl) (by kernel_rfl) (laidWorldTE_met os _))) ?_
  intro W base args ds gs before hval hW _ hcond _ hL hS _
  exact contract H enc W base args ds gs before hval hW (hcond _ rfl) hL hS

theorem saidUpto : Rows.AlgebraSplitsUptoSaid :=
  OpenClaim.holds_of_cond 8 Tryd.f8 rfl rfl rfl rfl rfl rfl rfl ⟨rfl, rfl, rfl, rfl, rfl⟩ rfl rfl rfl rfl rfl (by kernel_rfl) Tryd.func8 (by kernel_rfl)
    (of_decide_eq_true (by kernel_rfl)) (by unfold Func.isWrapper; first | (rw [if_pos (by decide +kernel)]; kernel_rfl) | (rw [if_neg (by decide +kernel)]; exact ⟨rfl, rfl⟩))
    (fun os started H enc _ F => by rw [OpenClaim.pre_eq_preRow]; exact liftedUpto os started H enc F)

theorem plain (f : FuncId) (fn : Func) (hf : Tryd.pinned.checked.prog.funcNamed "handstitch/handstitchlaw2.AlgebraSplits" = some f) (hfn : Tryd.pinned.checked.prog.funcs[f]? = some fn) :
    true = Tryd.pinned.checked.prog.looks [] ∧ ∀ (j : Nat) t, fn.params[j]? = some t → Tryd.pinned.checked.prog.wantsStandIn t = false := by
  obtain rfl : f = 8 := Option.some.inj ((show Tryd.prog.funcNamed "handstitch/handstitchlaw2.AlgebraSplits" = some 8 by kernel_rfl).symm.trans hf) |>.symm
  obtain rfl : fn = Tryd.f8 := (Option.some.inj (Tryd.func8.symm.trans hfn)).symm
  refine ⟨by kernel_rfl, fun j t ht => ?_⟩
  rw [Tryd.params8] at ht
  have hm := Array.mem_of_getElem? ht
  simp only [List.mem_toArray, List.mem_cons, List.not_mem_nil, or_false] at hm
  clear ht
  repeat' (first | (rcases hm with rfl | hm) | subst hm)
  all_goals exact (show Tryd.prog.wantsStandIn _ = false by kernel_rfl)

theorem cardUpto : Rows.AlgebraSplitsUptoCardSaid :=
  Claim7.holds_tied_plain_at .later [] _ _ _ _ saidUpto (fun _ h => by cases h) (by kernel_rfl) (fun _ h => by cases h) algebraSplitsUpto_row_tie rfl ⟨rfl, rfl⟩ (by kernel_rfl) rfl plain (by kernel_rfl)
end Go.Proofs.YtibeddcebefbjaaDoor.lawAlgebraSplits
