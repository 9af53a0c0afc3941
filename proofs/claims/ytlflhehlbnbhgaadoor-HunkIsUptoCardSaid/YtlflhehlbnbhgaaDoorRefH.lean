/-
  THE WALK of the document's CutOf.
-/
import Derived.Test.YtlflhehlbnbhgaaDoorCut
import Derived.Test.YtlflhehlbnbhgaaDoorNewOf
import Derived.Test.YtlflhehlbnbhgaaDoorLooseA
import Derived.Test.YtlflhehlbnbhgaaDoorSpecCutRef
import Derived.Deep.RegionHeld3
namespace Go.Proofs.YtlflhehlbnbhgaaDoor
open Go.RowKit

/-- 'append(v, h)' of a hunk without marks, at a step of a region that draws -/
theorem step_push_last {P : Program} {ops : Array Oper} {o : Oper} {a : Act} {K : Act → World → Prop} {Q : Exit → Act → World → Prop} {E : Prop} (hgd : o.guard = none) (s x : Operand) (t : TypeId)
    (ho : o.op = .call { callee := .builtin .append, args := #[s, x], argTypes := #[t, t] }) {e : TypeId} (em : TypeId) (hP : ElemOk P t e 3) {w0 : World} {O : Nat → Prop} {v : Value} {l : List Hunk} {old new : Int} {E' : TypeId} {B : Nat}
    (hs : a.eval s = v) (hx : a.eval x = .slice (some ⟨B, 0, none⟩) 1 1) (hB : B = w0.heap.size)
    (hown : Own e w0 O v l) (hO : ∀ k, O k → k < w0.heap.size) (hlen : l.length ≤ 1000000000)
    (h : ∀ v' w' xs, OwnLast e em w' O v' l ⟨old, new, []⟩ (.slice none 0 0) xs → Chg (OwnB v) w0 w' → K (a.put o.dst v') w') :
    if Region.wanted o (yielded ops a.tmps) = true then Oper.wp P o a (w0.alloc (.cells #[.int .i64 old, .int .i64 new, .slice none 0 0] E')) K Q else E := by
  have hw : Region.wanted o (yielded ops a.tmps) = true := by simp [Region.wanted, hgd]
  rw [if_pos hw]
  subst hB
  obtain ⟨v', w', hrun, ⟨xs, h1⟩, h2⟩ := run_push_last (ty := o.type) (em := em) (o := old) (n := new) hP E' hown hO hlen
  unfold Oper.wp execOp
  simp only [ho, resolve, invoke, builtin, Sem.run_bind, Sem.run_pure, Result.andThen_ok, List.map_toArray, List.map_cons, List.map_nil, hs, hx, hrun]
  exact h v' w' xs h1 h2
theorem setCell_same {w : World} {p : Addr} {v : Value} (h : w.cell? p = some v) : w.setCell p v = w := by
  have e : (w.setCell p v).heap = w.heap := by
    unfold World.setCell World.cell? at *
    apply Array.ext_getElem?
    intro i
    simp only [Array.getElem?_modify]
    by_cases hi : p.block = i
    · subst hi
      rw [if_pos rfl]
      cases hb : w.heap[p.block]? with
      | none => rfl
      | some ob =>
        rw [hb] at h
        cases ob with
        | cells c e f =>
          simp only at h
          by_cases hs : p.spot.isSome = true
          · rw [if_pos hs] at h; cases h
          · rw [if_neg hs] at h
            simp only [Option.map_some, hs]
            congr 2
            apply Array.ext_getElem?
            intro j
            simp only [Bool.false_eq_true, if_false]
            rw [Array.getElem?_setIfInBounds]
            by_cases hj : p.off = j
            · subst hj
              rw [if_pos rfl]
              split
              · exact h.symm
              · rw [Array.getElem?_eq_none (by omega)]
            · rw [if_neg hj]
        | _ => rfl
    · rw [if_neg hi]
  have : w.setCell p v = { w with heap := (w.setCell p v).heap } := rfl
  rw [this, e]
set_option maxHeartbeats 4000000 in
set_option maxRecDepth 100000 in
theorem refCut_any (s : List Mark) (n : Int) (v : Value) (w : World) (h : Rdv w Never v s) (hz : scriptFault s = 0) (hn : 0 ≤ n) (hn' : n ≤ 1000) :
    Calls Tryd.prog 26 #[v, .int .i64 n] w fun e w' => ∃ r, e = .returned r ∧ Chg Never w w' ∧ Rdv w' (Old w.heap.size) r (cutOf s n) := by
  have hl := scriptFault_len hz
  have HZ := Lib.hid hz
  clear hz
  obtain ⟨a, cap, rfl, h1, h2, h3⟩ := rdv_slice h
  unfold maxLen at h2
  go_enter Tryd.func26, Tryd.ntmps26
  go_wp2_with fail
  go_loopw [5, 6, 7] (fun o wa i wr => ∃ k : Nat, k ≤ s.length ∧ i = .int .i64 k ∧ wa = .bool (wasIn s n k) ∧ Chg Never w wr ∧ CutOwn wr (Old w.heap.size) o (cutTo s n k) (wasIn s n k)) (fun _ _ i _ => s.length - (intOf i).toNat)
  case atStart => exact ⟨0, Nat.zero_le _, rfl, rfl, Chg.refl _ _, own_nil _ _ _⟩
  case round =>
    obtain ⟨k, hk, rfl, rfl, hc, hown⟩ := hrel
    by_cases hlt : k < s.length
    · obtain ⟨x, hx⟩ : ∃ x, s[k]? = some x := ⟨s[k], by simp [hlt]⟩
      obtain ⟨b, off, rfl, _, _, c0, c1, s0, s1, hxs⟩ := elems_mark h3 hx
      have C0 := Lib.hid c0
      have C1 := Lib.hid c1
      have c0 := hc.cellNever c0
      have c1 := hc.cellNever c1
      have hlen := cutTo_len (s := s) hn k hk
      have HX := Lib.hid hx
      have h0 := inTo_zero (n := n) hx
      obtain ⟨sg, tx⟩ := x
      simp only at C0 C1 c0 c1 s0 s1 hxs
      have H0 := Lib.hid h0
      clear hx h0
      go_wp2_with fail
      go_loop [8, 9] (fun inn kk => ∃ j : Nat, j ≤ s.length ∧ kk = .int .i64 j ∧ inn = .bool (inTo s n k j)) (fun _ kk => s.length - (intOf kk).toNat)
      case atStart => exact ⟨0, Nat.zero_le _, rfl, by rw [H0.out]; rfl⟩
      case round =>
        obtain ⟨j, hj, rfl, rfl⟩ := hrel
        by_cases hjl : j < s.length
        · obtain ⟨y, hy⟩ : ∃ y, s[j]? = some y := ⟨s[j], by simp [hjl]⟩
          obtain ⟨b', off', hbo, _, _, g0, g1, _, _, _⟩ := elems_mark h3 hy
          simp only [Option.some.injEq, Addr.mk.injEq, and_true] at hbo
          obtain ⟨rfl, rfl⟩ := hbo
          have g0 := hc.cellNever g0
          have HY := Lib.hid hy
          clear hy g1
          by_cases p1 : y.sign = 32
          · have t1 : (y.sign != 32) = false := by simp [p1]
            have HE := Lib.hid (inTo_out (n := n) (k := k) HY.out (.inl p1))
            go_wp2_with fail
            go_round
            case rel => exact ⟨j + 1, by omega, by go_num, by rw [HE.out]⟩
            case measure => simp [intOf] <;> omega
          · have t1 : (y.sign != 32) = true := by simp [p1]
            by_cases p2 : (j : Int) - k ≤ n
            · by_cases p3 : (k : Int) - j ≤ n
              · have HE := Lib.hid (inTo_in (n := n) (k := k) HY.out p1 p2 p3)
                go_wp2_with fail
                go_round
                case rel => exact ⟨j + 1, by omega, by go_num, by rw [HE.out]⟩
                case measure => simp [intOf] <;> omega
              · have HE := Lib.hid (inTo_out (n := n) (k := k) HY.out (.inr (.inr p3)))
                go_wp2_with fail
                go_round
                case rel => exact ⟨j + 1, by omega, by go_num, by rw [HE.out]⟩
                case measure => simp [intOf] <;> omega
            · have HE := Lib.hid (inTo_out (n := n) (k := k) HY.out (.inr (.inl p2)))
              go_wp2_with fail
              go_round
              case rel => exact ⟨j + 1, by omega, by go_num, by rw [HE.out]⟩
              case measure => simp [intOf] <;> omega
        · obtain rfl : j = s.length := by omega
          rw [inTo_end hn hlt]
          cases hin : inAt s n k with
          | false =>
            have HF := Lib.hid (cutTo_out HX.out hin)
            have HIN := Lib.hid hin
            have hown := hown.own
            clear hin
            go_wp2_with fail
            go_roundw
            case rel => exact ⟨k + 1, by omega, by go_num, by rw [wasIn_succ, HIN.out], hc, by rw [wasIn_succ, HIN.out, CutOwn, if_neg (by decide), HF.out]; exact hown⟩
            case measure => simp [intOf] <;> omega
          | true =>
            have HIN := Lib.hid hin
            cases hwas : wasIn s n k with
            | true =>
              have hown' := hown
              unfold CutOwn at hown'
              rw [if_pos hwas] at hown'
              obtain ⟨init, q, mv, xs, HE, hlast⟩ := hown'
              have HEE := Lib.hid HE
              obtain ⟨g, gcap, rfl, hg1, hg2, hg3, hg4, m2, m0, m1, hfr⟩ := hlast.shape
              have hil : init.length ≤ 120 := by
                rw [HE, List.length_append] at hlen
                simp at hlen
                omega
              have hlm : q.marks.length ≤ 1000000000 := by
                have := cut_marks hn hk hwas HE
                omega
              have HF := Lib.hid (cutTo_more HX.out hin hwas HE)
              have z1 : (init.length : Int) + 1 - 1 = init.length := by omega
              have HW := Lib.hid hwas
              clear HE hin hwas hown hlen
              obtain ⟨ma, mn, mc, rfl⟩ := own_isSlice hlast.marks
              have hBX := Blk3.new wr 80 (.int .i64 q.old) (.int .i64 q.new) (.slice ma mn mc)
              have hAX : Chg Never wr (wr.alloc (.cells #[.int .i64 q.old, .int .i64 q.new, .slice ma mn mc] 80)) := (Chg.refl Never wr).alloc _
              have hgge : w.heap.size ≤ g := by unfold Old at hg2; omega
              have hBw : w.heap.size ≤ wr.heap.size := hc.size
              have hgl : g < wr.heap.size := (hlast.row.lt g rfl).2
              have hown4 := hlast.marks.keep (O'' := fun j => (Old w.heap.size j ∨ (Value.slice (some ⟨g, 0, none⟩) (init.length + 1) gcap).ownBlock = some j) ∨ j = wr.heap.size) hAX.drew (fun _ _ hh => hh.elim) (by rintro j hj (hh | rfl); exact hh; exact absurd hj (Nat.lt_irrefl _))
              have hgM : ¬ OwnB (.slice ma mn mc) g := by
                obtain ⟨_, _, qq, _⟩ := hown4
                exact fun hh => qq g hh (.inl (.inr rfl))
              have hBM : ¬ OwnB (.slice ma mn mc) wr.heap.size := by
                obtain ⟨_, _, qq, _⟩ := hown4
                exact fun hh => qq _ hh (.inr rfl)
              have hBX := hBX.keep (O := Never) (Chg.refl Never _).drew (fun h => h)
              have hAX := hAX.drew
              have c0 := (hc.trans hAX).cellNever C0.out
              have c1 := (hc.trans hAX).cellNever C1.out
              have hO : ∀ j, ((Old w.heap.size j ∨ (Value.slice (some ⟨g, 0, none⟩) (init.length + 1) gcap).ownBlock = some j) ∨ j = wr.heap.size) → j < (wr.alloc (.cells #[.int .i64 q.old, .int .i64 q.new, .slice ma mn mc] 80)).drew.heap.size := by
                have e : (wr.alloc (.cells #[.int .i64 q.old, .int .i64 q.new, .slice ma mn mc] 80)).drew.heap.size = wr.heap.size + 1 := World.size_alloc _ _
                rw [e]
                rintro j ((hh | hh) | rfl)
                · unfold Old at hh; omega
                · have : g = j := by injection hh
                  omega
                · omega
              obtain ⟨b0, b1, b2⟩ := hBX.cell
              have b3 := hBX.free
              have hBlt := hBX.lt
              have hglt : g < _ := Nat.lt_of_lt_of_le hgl hAX.size
              have m0' := hAX.cellNever m0
              have m1' := hAX.cellNever m1
              have m2' := hAX.cellNever m2
              have hfr' : ∀ j, _ = false := fun j => (hAX.frozen (p := ⟨g, j, none⟩) hgl (fun x => x)).trans (hfr j)
              have hgBn : g ≠ wr.heap.size := by omega
              go_wp2_with fail
              clear m0 m1 m2 hfr
              generalize wr.alloc (.cells #[.int .i64 q.old, .int .i64 q.new, .slice ma mn mc] 80) = w4 at hBX hAX c0 c1 hO hBlt hglt b0 b1 b2 b3 m0' m1' m2' hfr' hown4 ⊢
              generalize hBe : wr.heap.size = B at hBX hAX hO hBlt b0 b1 b2 b3 hgBn hBM hown4 hgl hBw ⊢
              have HBE := Lib.hid hBe
              clear hBe
              have hBlt2 : B < w4.heap.size := hBlt
              have b2w : w4.cell? ⟨B, 2, none⟩ = some (.slice ma mn mc) := b2
              go_region_law ((refine step_push (by rfl) _ _ 22 (by rfl) elemOk_mark (l := (q).marks) (y := ⟨sg, tx⟩) (by rfl) (by rfl) (by simp) hown4 (rd_mark _ _ sg tx s0 s1 hxs) hO hlm ?_; intro v' w5 hown2 hc2 hk2; obtain ⟨ad, nn, cc, rfl⟩ := own_slice hk2; have hB5 := hBX.keep hc2 hBM; obtain ⟨b0', b1', b2'⟩ := hB5.cell; have b3' := hB5.free))
              all_goals
                have hB6 := hB5.set2 (.slice (some ad) nn cc)
                obtain ⟨k0, k1, k2⟩ := hB6.cell
                have hCB : Chg (fun k => k = B) w5 (w5.setCell ⟨B, 2, none⟩ (.slice (some ad) nn cc)) := (Chg.refl (fun k => k = B) w5).setCell (p := ⟨B, 2, none⟩) (.inr rfl) _
                have n0 := hCB.cell (p := ⟨g, init.length * 3, none⟩) (hc2.cell (p := ⟨g, init.length * 3, none⟩) m0' hgM) hgBn
                have n1 := hCB.cell (p := ⟨g, init.length * 3 + 1, none⟩) (hc2.cell (p := ⟨g, init.length * 3 + 1, none⟩) m1' hgM) hgBn
                have n2 := hCB.cell (p := ⟨g, init.length * 3 + 2, none⟩) (hc2.cell (p := ⟨g, init.length * 3 + 2, none⟩) m2' hgM) hgBn
                have hgl5 : g < w5.heap.size := Nat.lt_of_lt_of_le hglt hc2.size
                have nf := fun j => (hCB.frozen (p := ⟨g, j, none⟩) hgl5 hgBn).trans ((hc2.frozen (p := ⟨g, j, none⟩) hglt hgM).trans (hfr' j))
                have S0 := setCell_same n0
                have S1 := setCell_same n1
                have hown6 := hown2.keep (O'' := fun j => Old w.heap.size j ∨ (Value.slice (some ⟨g, 0, none⟩) (init.length + 1) gcap).ownBlock = some j) hCB (fun _ _ h => .inr h) (fun _ _ h => .inl h)
                have hc6 : Chg (OwnB (.slice ma mn mc)) wr (w5.setCell ⟨B, 2, none⟩ (.slice (some ad) nn cc)) := (((hAX.mono (fun _ _ h => h.elim)).trans hc2).setCell (p := ⟨B, 2, none⟩) (.inl (Nat.le_of_eq HBE.out)) _)
                have hst := OwnLast.stored hlast hown6 hc6 (by
                  obtain ⟨kb, q1, q2⟩ := hk2
                  exact ⟨kb, q1, q2.imp_right (Nat.le_trans hAX.size)⟩)
                have hcW : Chg Never w (w5.setCell ⟨B, 2, none⟩ (.slice (some ad) nn cc)) := hc.trans' hc6 (fun i hi hh => by
                  obtain ⟨_, _, qq, _⟩ := hown4
                  exact qq i hh (.inl (.inl hi)))
                clear hB5 hB6 hCB hown2 hown4 hown6 hc6 hc2 hk2 hlast hBX hAX hO b0 b1 b2 b3 b2w m0' m1' m2' hfr' b0' b1' b2' b3' hc
                go_wp2_with fail
                go_roundw
                case rel => exact ⟨k + 1, by omega, by go_num, by rw [wasIn_succ, HIN.out], hcW.setCell (.inl hgge) _, by rw [wasIn_succ, HIN.out, CutOwn, if_pos rfl]; exact ⟨_, _, _, _, HF.out, hst⟩⟩
                case measure => simp [intOf] <;> omega
            | false =>
              have HW := Lib.hid hwas
              have hown' := hown
              unfold CutOwn at hown'
              rw [if_neg (by rw [hwas]; decide)] at hown'
              have HF := Lib.hid (cutTo_new HX.out hin hwas)
              have HLK : (cutTo s n k).length ≤ 120 := by omega
              generalize cutTo s n k = init at HF hown' HLK
              obtain ⟨sb, z0, z1, hrunS, hsub⟩ := slice_gen (P := Tryd.prog) (t := 22) (by kernel_rfl) size_mark h 0 k (Nat.zero_le _) (by omega)
              have hrunS := fun (wx : World) => hrunS k wx rfl rfl
              clear z0 z1 hwas hin hown hlen
              rw [Nat.sub_zero, Nat.sub_zero] at hrunS hsub
              rw [List.drop_zero] at hsub
              have HTF := Lib.hid (scriptFault_sub (m := s.take k) HZ.out (fun x hx => List.mem_of_mem_take hx) (by rw [List.length_take]; omega))
              have hTL : (s.take k).length = k := by rw [List.length_take]; omega
              have ho1 : oldN (s.take k) ≤ k := Nat.le_trans (oldN_le _) (by omega)
              have hn1 : newN (s.take k) ≤ k := Nat.le_trans (newN_le _) (by omega)
              go_wp2_with fail
              refine wp_region_held_drew (S := fun w' => Chg Never w w') (by kernel_rfl) hc.drew (fun hH => ?_)
              refine' wpAnyH_take (i := 0) ?hi0 (by kernel_rfl) (by kernel_rfl) (by kernel_rfl) ?hQ0 (Or.inl ⟨?hw0, ?hy0⟩) (by assumption) ?_
              case hi0 => (simp only [List.getElem?_toArray, List.getElem?_cons_succ, List.getElem?_cons_zero]; rfl)
              case hQ0 => exact fun _ _ _ h => h
              case hw0 => rfl
              case hy0 => (intro w' hSw; (try dsimp only at hSw); go_simp; all_goals with_reducible rfl)
              try simp only [Act.put, List.setIfInBounds_toArray, List.set_cons_zero, List.set_cons_succ]
              refine' wpAnyH_take (i := 1) ?hi1 (by kernel_rfl) (by kernel_rfl) (by kernel_rfl) ?hQ1 (Or.inl ⟨?hw1, ?hy1⟩) (by assumption) ?_
              case hi1 => (simp only [List.getElem?_toArray, List.getElem?_cons_succ, List.getElem?_cons_zero]; rfl)
              case hQ1 => exact fun _ _ _ h => h
              case hw1 => rfl
              case hy1 => (intro w' hSw; (try dsimp only at hSw); go_simp; all_goals with_reducible rfl)
              try simp only [Act.put, List.setIfInBounds_toArray, List.set_cons_zero, List.set_cons_succ]
              refine' wpAnyH_take (i := 2) ?hi2 (by kernel_rfl) (by kernel_rfl) (by kernel_rfl) ?hQ2 (Or.inl ⟨?hw2, ?hy2⟩) (by assumption) ?_
              case hi2 => (simp only [List.getElem?_toArray, List.getElem?_cons_succ, List.getElem?_cons_zero]; rfl)
              case hQ2 => exact fun _ _ _ h => h
              case hw2 => rfl
              case hy2 => (intro w' hSw; (try dsimp only at hSw); go_simp; all_goals with_reducible rfl)
              try simp only [Act.put, List.setIfInBounds_toArray, List.set_cons_zero, List.set_cons_succ]
              refine' wpAnyH_take (i := 3) ?hi3 (by kernel_rfl) (by kernel_rfl) (by kernel_rfl) ?hQ3 (Or.inl ⟨?hw3, ?hy3⟩) (by assumption) ?_
              case hi3 => (simp only [List.getElem?_toArray, List.getElem?_cons_succ, List.getElem?_cons_zero]; rfl)
              case hQ3 => exact fun _ _ _ h => h
              case hw3 => rfl
              case hy3 => (intro w' hSw; (try dsimp only at hSw); go_simp; all_goals with_reducible rfl)
              try simp only [Act.put, List.setIfInBounds_toArray, List.set_cons_zero, List.set_cons_succ]
              refine' wpAnyH_take (i := 6) ?hi6 (by kernel_rfl) (by kernel_rfl) (by kernel_rfl) ?hQ6 (Or.inl ⟨?hw6, ?hy6⟩) (by assumption) ?_
              case hi6 => (simp only [List.getElem?_toArray, List.getElem?_cons_succ, List.getElem?_cons_zero]; rfl)
              case hQ6 => exact fun _ _ _ h => h
              case hw6 => rfl
              case hy6 => (intro w' hSw; (try dsimp only at hSw); go_simp; all_goals with_reducible rfl)
              try simp only [Act.put, List.setIfInBounds_toArray, List.set_cons_zero, List.set_cons_succ]
              refine' wpAnyH_take (i := 7) ?hi7 (by kernel_rfl) (by kernel_rfl) (by kernel_rfl) ?hQ7 (Or.inl ⟨?hw7, ?hy7⟩) (by assumption) ?_
              case hi7 => (simp only [List.getElem?_toArray, List.getElem?_cons_succ, List.getElem?_cons_zero]; rfl)
              case hQ7 => exact fun _ _ _ h => h
              case hw7 => rfl
              case hy7 => (intro w' hSw; (try dsimp only at hSw); go_simp; all_goals with_reducible rfl)
              try simp only [Act.put, List.setIfInBounds_toArray, List.set_cons_zero, List.set_cons_succ]
              refine' wpAnyH_take (i := 8) ?hi8 (by kernel_rfl) (by kernel_rfl) (by kernel_rfl) ?hQ8 (Or.inl ⟨?hw8, ?hy8⟩) (by assumption) ?_
              case hi8 => (simp only [List.getElem?_toArray, List.getElem?_cons_succ, List.getElem?_cons_zero]; rfl)
              case hQ8 => exact fun _ _ _ h => h
              case hw8 => rfl
              case hy8 => (intro w' hSw; (try dsimp only at hSw); go_simp; all_goals with_reducible rfl)
              try simp only [Act.put, List.setIfInBounds_toArray, List.set_cons_zero, List.set_cons_succ]
              refine wpAnyH_ready (rs := [4]) (by kernel_rfl) (by simp) ?_
              refine AllReadyH.cons rfl (fun K hK => ?_) AllReadyH.nil
              go_simp
              (go_at_call 10; refine (refOld_any (s.take k) _ _ (hsub.never hH) HTF.out).mono ?_; rintro e wq ⟨rq, rfl, hcq, hrq⟩; have hrO := hrq.sub (O' := Never) (fun _ _ h => h.elim); clear hrq; obtain ⟨oa, oc, rfl, _, _, _⟩ := rdv_slice hrO; have hS2 := hH.trans hcq; clear hH)
              try go_wp2_with fail
              refine hK.out _ _ ?_ (fun hH => ?_)
              · assumption
              clear hK K
              try simp only [Act.put, List.setIfInBounds_toArray, List.set_cons_zero, List.set_cons_succ]
              refine' wpAnyH_take (i := 5) ?hi5 (by kernel_rfl) (by kernel_rfl) (by kernel_rfl) ?hQ5 (Or.inl ⟨?hw5, ?hy5⟩) (by assumption) ?_
              case hi5 => (simp only [List.getElem?_toArray, List.getElem?_cons_succ, List.getElem?_cons_zero]; rfl)
              case hQ5 => exact fun _ _ _ h => h
              case hw5 => rfl
              case hy5 => (intro w' hSw; (try dsimp only at hSw); go_simp; all_goals with_reducible rfl)
              try simp only [Act.put, List.setIfInBounds_toArray, List.set_cons_zero, List.set_cons_succ]
              refine wpAnyH_ready (rs := [9]) (by kernel_rfl) (by simp) ?_
              refine AllReadyH.cons rfl (fun K hK => ?_) AllReadyH.nil
              go_simp
              (go_at_call 11; refine (refNew_any (s.take k) _ _ (hsub.never hH) HTF.out).mono ?_; rintro e wq2 ⟨rq2, rfl, hcq2, hrq2⟩; have hrN := hrq2.sub (O' := Never) (fun _ _ h => h.elim); clear hrq2; obtain ⟨na, nc, rfl, _, _, _⟩ := rdv_slice hrN; have hS3 := hH.trans hcq2; clear hH)
              try go_wp2_with fail
              refine hK.out _ _ ?_ (fun hH => ?_)
              · assumption
              clear hK K
              try simp only [Act.put, List.setIfInBounds_toArray, List.set_cons_zero, List.set_cons_succ]
              refine' wpAnyH_take (i := 10) ?hi10 (by kernel_rfl) (by kernel_rfl) (by kernel_rfl) ?hQ10 (Or.inl ⟨?hw10, ?hy10⟩) (by assumption) ?_
              case hi10 => (simp only [List.getElem?_toArray, List.getElem?_cons_succ, List.getElem?_cons_zero]; rfl)
              case hQ10 => exact fun _ _ _ h => h
              case hw10 => rfl
              case hy10 => (intro w' hSw; (try dsimp only at hSw); go_simp; all_goals with_reducible rfl)
              try simp only [Act.put, List.setIfInBounds_toArray, List.set_cons_zero, List.set_cons_succ]
              refine' wpAnyH_take (i := 11) ?hi11 (by kernel_rfl) (by kernel_rfl) (by kernel_rfl) ?hQ11 (Or.inl ⟨?hw11, ?hy11⟩) (by assumption) ?_
              case hi11 => (simp only [List.getElem?_toArray, List.getElem?_cons_succ, List.getElem?_cons_zero]; rfl)
              case hQ11 => exact fun _ _ _ h => h
              case hw11 => rfl
              case hy11 => (intro w' hSw; (try dsimp only at hSw); go_simp; all_goals with_reducible rfl)
              try simp only [Act.put, List.setIfInBounds_toArray, List.set_cons_zero, List.set_cons_succ]
              refine wpAnyH_ready (rs := [12]) (by kernel_rfl) (by simp) ?_
              refine AllReadyH.cons rfl (fun K hK => ?_) AllReadyH.nil
              go_simp
              refine hK.out _ _ (hH.alloc _) (fun hH2 => ?_)
              clear hK K
              try simp only [Act.put, List.setIfInBounds_toArray, List.set_cons_zero, List.set_cons_succ]
              have hq := ((Chg.refl Never wr).drew.trans hcq).trans hcq2
              have hownq := hown'.never hq
              refine wpAnyH_ready (rs := [13]) (by kernel_rfl) (by simp) ?_
              refine AllReadyH.cons rfl (fun K hK => ?_) AllReadyH.nil
              refine step_push_last (by rfl) _ _ 43 (by rfl) 68 elemOk_hunk (by rfl) (by rfl) (by simp) hownq (old_lt hH) (by omega) ?_
              intro v' wp xs hlast hc4
              obtain ⟨g, gcap, rfl, hg1, hg2, hg3, hg4, m2, m0, m1, hfr⟩ := hlast.shape
              have hcn : Chg Never w wp := own_step hH hownq hc4
              refine hK.out _ _ hcn (fun _ => ?_)
              clear hK K hq hownq hown' hH hH2 hcq hcq2 hc4
              try simp only [Act.put, List.setIfInBounds_toArray, List.set_cons_zero, List.set_cons_succ]
              refine' wpAnyH_take (i := 14) ?hi14 (by kernel_rfl) (by kernel_rfl) (by kernel_rfl) ?hQ14 (Or.inl ⟨?hw14, ?hy14⟩) (by assumption) ?_
              case hi14 => (simp only [List.getElem?_toArray, List.getElem?_cons_succ, List.getElem?_cons_zero]; rfl)
              case hQ14 => exact fun _ _ _ h => h
              case hw14 => rfl
              case hy14 => (intro w' hSw; (try dsimp only at hSw); go_simp; all_goals with_reducible rfl)
              try simp only [Act.put, List.setIfInBounds_toArray, List.set_cons_zero, List.set_cons_succ]
              refine wpAnyH_done (by kernel_rfl) ?_ _
              clear hc
              have hc := hcn
              clear hcn
              have hil := HLK
              have hlm : ([] : List Mark).length ≤ 1000000000 := by simp
              have z1 : (init.length : Int) + 1 - 1 = init.length := by omega
              have hBX := Blk3.new wp 80 (.int .i64 ((those (s.take k) 43).length : Int)) (.int .i64 ((those (s.take k) 45).length : Int)) (.slice none 0 0)
              have hAX : Chg Never wp (wp.alloc (.cells #[.int .i64 ((those (s.take k) 43).length : Int), .int .i64 ((those (s.take k) 45).length : Int), .slice none 0 0] 80)) := (Chg.refl Never wp).alloc _
              have hgge : w.heap.size ≤ g := by unfold Old at hg2; omega
              have hBw : w.heap.size ≤ wp.heap.size := hc.size
              have hgl : g < wp.heap.size := (hlast.row.lt g rfl).2
              have hown4 := hlast.marks.keep (O'' := fun j => (Old w.heap.size j ∨ (Value.slice (some ⟨g, 0, none⟩) (init.length + 1) gcap).ownBlock = some j) ∨ j = wp.heap.size) hAX.drew (fun _ _ hh => hh.elim) (by rintro j hj (hh | rfl); exact hh; exact absurd hj (Nat.lt_irrefl _))
              have hgM : ¬ OwnB (.slice none 0 0) g := by
                obtain ⟨_, _, qq, _⟩ := hown4
                exact fun hh => qq g hh (.inl (.inr rfl))
              have hBM : ¬ OwnB (.slice none 0 0) wp.heap.size := by
                obtain ⟨_, _, qq, _⟩ := hown4
                exact fun hh => qq _ hh (.inr rfl)
              have hBX := hBX.keep (O := Never) (Chg.refl Never _).drew (fun h => h)
              have hAX := hAX.drew
              have c0 := (hc.trans hAX).cellNever C0.out
              have c1 := (hc.trans hAX).cellNever C1.out
              have hO : ∀ j, ((Old w.heap.size j ∨ (Value.slice (some ⟨g, 0, none⟩) (init.length + 1) gcap).ownBlock = some j) ∨ j = wp.heap.size) → j < (wp.alloc (.cells #[.int .i64 ((those (s.take k) 43).length : Int), .int .i64 ((those (s.take k) 45).length : Int), .slice none 0 0] 80)).drew.heap.size := by
                have e : (wp.alloc (.cells #[.int .i64 ((those (s.take k) 43).length : Int), .int .i64 ((those (s.take k) 45).length : Int), .slice none 0 0] 80)).drew.heap.size = wp.heap.size + 1 := World.size_alloc _ _
                rw [e]
                rintro j ((hh | hh) | rfl)
                · unfold Old at hh; omega
                · have : g = j := by injection hh
                  omega
                · omega
              obtain ⟨b0, b1, b2⟩ := hBX.cell
              have b3 := hBX.free
              have hBlt := hBX.lt
              have hglt : g < _ := Nat.lt_of_lt_of_le hgl hAX.size
              have m0' := hAX.cellNever m0
              have m1' := hAX.cellNever m1
              have m2' := hAX.cellNever m2
              have hfr' : ∀ j, _ = false := fun j => (hAX.frozen (p := ⟨g, j, none⟩) hgl (fun x => x)).trans (hfr j)
              have hgBn : g ≠ wp.heap.size := by omega
              go_wp2_with fail
              clear m0 m1 m2 hfr
              generalize wp.alloc (.cells #[.int .i64 ((those (s.take k) 43).length : Int), .int .i64 ((those (s.take k) 45).length : Int), .slice none 0 0] 80) = w4 at hBX hAX c0 c1 hO hBlt hglt b0 b1 b2 b3 m0' m1' m2' hfr' hown4 ⊢
              generalize hBe : wp.heap.size = B at hBX hAX hO hBlt b0 b1 b2 b3 hgBn hBM hown4 hgl hBw ⊢
              have HBE := Lib.hid hBe
              clear hBe
              have hBlt2 : B < w4.heap.size := hBlt
              have b2w : w4.cell? ⟨B, 2, none⟩ = some (.slice none 0 0) := b2
              go_region_law ((refine step_push (by rfl) _ _ 22 (by rfl) elemOk_mark (l := ((⟨((those (s.take k) 43).length : Int), ((those (s.take k) 45).length : Int), []⟩ : Hunk)).marks) (y := ⟨sg, tx⟩) (by rfl) (by rfl) (by simp) hown4 (rd_mark _ _ sg tx s0 s1 hxs) hO hlm ?_; intro v' w5 hown2 hc2 hk2; obtain ⟨ad, nn, cc, rfl⟩ := own_slice hk2; have hB5 := hBX.keep hc2 hBM; obtain ⟨b0', b1', b2'⟩ := hB5.cell; have b3' := hB5.free))
              all_goals
                have hB6 := hB5.set2 (.slice (some ad) nn cc)
                obtain ⟨k0, k1, k2⟩ := hB6.cell
                have hCB : Chg (fun k => k = B) w5 (w5.setCell ⟨B, 2, none⟩ (.slice (some ad) nn cc)) := (Chg.refl (fun k => k = B) w5).setCell (p := ⟨B, 2, none⟩) (.inr rfl) _
                have n0 := hCB.cell (p := ⟨g, init.length * 3, none⟩) (hc2.cell (p := ⟨g, init.length * 3, none⟩) m0' hgM) hgBn
                have n1 := hCB.cell (p := ⟨g, init.length * 3 + 1, none⟩) (hc2.cell (p := ⟨g, init.length * 3 + 1, none⟩) m1' hgM) hgBn
                have n2 := hCB.cell (p := ⟨g, init.length * 3 + 2, none⟩) (hc2.cell (p := ⟨g, init.length * 3 + 2, none⟩) m2' hgM) hgBn
                have hgl5 : g < w5.heap.size := Nat.lt_of_lt_of_le hglt hc2.size
                have nf := fun j => (hCB.frozen (p := ⟨g, j, none⟩) hgl5 hgBn).trans ((hc2.frozen (p := ⟨g, j, none⟩) hglt hgM).trans (hfr' j))
                have S0 := setCell_same n0
                have S1 := setCell_same n1
                have hown6 := hown2.keep (O'' := fun j => Old w.heap.size j ∨ (Value.slice (some ⟨g, 0, none⟩) (init.length + 1) gcap).ownBlock = some j) hCB (fun _ _ h => .inr h) (fun _ _ h => .inl h)
                have hc6 : Chg (OwnB (.slice none 0 0)) wp (w5.setCell ⟨B, 2, none⟩ (.slice (some ad) nn cc)) := (((hAX.mono (fun _ _ h => h.elim)).trans hc2).setCell (p := ⟨B, 2, none⟩) (.inl (Nat.le_of_eq HBE.out)) _)
                have hst := OwnLast.stored hlast hown6 hc6 (by
                  obtain ⟨kb, q1, q2⟩ := hk2
                  exact ⟨kb, q1, q2.imp_right (Nat.le_trans hAX.size)⟩)
                have hcW : Chg Never w (w5.setCell ⟨B, 2, none⟩ (.slice (some ad) nn cc)) := hc.trans' hc6 (fun i hi hh => by
                  obtain ⟨_, _, qq, _⟩ := hown4
                  exact qq i hh (.inl (.inl hi)))
                clear hB5 hB6 hCB hown2 hown4 hown6 hc6 hc2 hk2 hlast hBX hAX hO b0 b1 b2 b3 b2w m0' m1' m2' hfr' b0' b1' b2' b3' hc
                go_wp2_with fail
                go_roundw
                case rel => exact ⟨k + 1, by omega, by go_num, by rw [wasIn_succ, HIN.out], hcW.setCell (.inl hgge) _, by rw [wasIn_succ, HIN.out, CutOwn, if_pos rfl]; exact ⟨_, _, _, _, HF.out, hst⟩⟩
                case measure => simp [intOf] <;> omega
    · go_wp2_with fail
      go_ret
      obtain rfl : k = s.length := by omega
      exact ⟨_, rfl, hc, hown.own.rdv⟩
end Go.Proofs.YtlflhehlbnbhgaaDoor
