/-
  AlgebraIs holds, tied to the program's text: for all arguments of bulk at most 1048576 the law answers true, and its arguments read as before.
-/
import Derived.Test.YteocmmejfnmjcaaGreatDoorPackAi3
import Derived.Test.YteocmmejfnmjcaaGreatDoorPackAi4
import Derived.Test.YteocmmejfnmjcaaGreatDoorPackAi5
import Derived.Test.YteocmmejfnmjcaaGreatDoorPackAi14
import Derived.Deep.RegionHeld3
import Derived.Test.YteocmmejfnmjcaaGreatDoorPackAi9
import Derived.Test.YteocmmejfnmjcaaGreatDoorPackAi11
import Derived.Test.YteocmmejfnmjcaaGreatDoorPackAi6
import Derived.Test.YteocmmejfnmjcaaGreatDoorPackAi8
import Derived.Test.YteocmmejfnmjcaaGreatDoorPackAi13
import Derived.Test.YteocmmejfnmjcaaGreatDoorPackAi1
import Derived.Deep.Cut
namespace Go.Proofs.YteocmmejfnmjcaaGreatDoor
open Go.RowKit

/-- 'append(v, h)' of a hunk without marks, at a step of a region that draws -/
theorem step_push_last {P : Program} {ops : Array Oper} {o : Oper} {a : Act} {K : Act → World → Prop} {Q : Exit → Act → World → Prop} {E : Prop} (hgd : o.guard = none) (s x : Operand) (t : TypeId)
    (ho : o.op = .call { callee := .builtin .append, args := #[s, x], argTypes := #[t, t] }) {e : TypeId} (em : TypeId) (hP : ElemOk P t e 3) {w0 : World} {O : Nat → Prop} {v : Value} {l : List Hunk} {old new : Int} {E' : TypeId} {B : Nat}
    (hs : a.eval s = v) (hx : a.eval x = .slice (some ⟨B, 0, none⟩) 1 1) (hB : B = w0.heap.size)
    (hown : Own e w0 O v l) (hO : ∀ k, O k → k < w0.heap.size) (hlen : l.length ≤ 1000000000)
    (h : ∀ v' w' xs, OwnLast e em w' O v' l ⟨old, new, []⟩ (.slice none 0 0) xs → Chg (OwnB v) w0 w' → K (a.put o.dst v') w') :
    if Region.wanted o (yielded ops a.tmps) = true then Oper.wp P o a (w0.alloc (.cells #[.int .i64 old, .int .i64 new, .slice none 0 0] E')) K Q else E := by
  have hw : Region.wanted o (yielded ops a.tmps) = true := by simp [Region.wanted, hgd]
  rw [if_pos hw]
  subst hB
  obtain ⟨v', w', hrun, ⟨xs, h1⟩, h2⟩ := run_push_last (ty := o.type) (em := em) (o := old) (n := new) hP E' hown hO hlen
  unfold Oper.wp execOp
  simp only [ho, resolve, invoke, builtin, Sem.run_bind, Sem.run_pure, Result.andThen_ok, List.map_toArray, List.map_cons, List.map_nil, hs, hx, hrun]
  exact h v' w' xs h1 h2
theorem setCell_same {w : World} {p : Addr} {v : Value} (h : w.cell? p = some v) : w.setCell p v = w := by
  have e : (w.setCell p v).heap = w.heap := by
    unfold World.setCell World.cell? at *
    apply Array.ext_getElem?
    intro i
    simp only [Array.getElem?_modify]
    by_cases hi : p.block = i
    · subst hi
      rw [if_pos rfl]
      cases hb : w.heap[p.block]? with
      | none => rfl
      | some ob =>
        rw [hb] at h
        cases ob with
        | cells c e f =>
          simp only at h
          by_cases hs : p.spot.isSome = true
          · rw [if_pos hs] at h; cases h
          · rw [if_neg hs] at h
            simp only [Option.map_some, hs]
            congr 2
            apply Array.ext_getElem?
            intro j
            simp only [Bool.false_eq_true, if_false]
            rw [Array.getElem?_setIfInBounds]
            by_cases hj : p.off = j
            · subst hj
              rw [if_pos rfl]
              split
              · exact h.symm
              · rw [Array.getElem?_eq_none (by omega)]
            · rw [if_neg hj]
        | _ => rfl
    · rw [if_neg hi]
  have : w.setCell p v = { w with heap := (w.setCell p v).heap } := rfl
  rw [this, e]
set_option maxHeartbeats 4000000 in
set_option maxRecDepth 100000 in
theorem refCut_any (s : List Mark) (n : Int) (v : Value) (w : World) (h : Rdv w Never v s) (hz : scriptFault s = 0) (hn : 0 ≤ n) (hn' : n ≤ 1000) :
    Calls Tryz.prog 44 #[v, .int .i64 n] w fun e w' => ∃ r, e = .returned r ∧ Chg Never w w' ∧ Rdv w' (Old w.heap.size) r (cutOf s n) := by
  have hl := scriptFault_len hz
  have HZ := Lib.hid hz
  clear hz
  obtain ⟨a, cap, rfl, h1, h2, h3⟩ := rdv_slice h
  unfold maxLen at h2
  go_enter Tryz.func44, Tryz.ntmps44
  go_wp2_with fail
  go_loopw [5, 6, 7] (fun o wa i wr => ∃ k : Nat, k ≤ s.length ∧ i = .int .i64 k ∧ wa = .bool (wasIn s n k) ∧ Chg Never w wr ∧ CutOwn wr (Old w.heap.size) o (cutTo s n k) (wasIn s n k)) (fun _ _ i _ => s.length - (intOf i).toNat)
  case atStart => exact ⟨0, Nat.zero_le _, rfl, rfl, Chg.refl _ _, own_nil _ _ _⟩
  case round =>
    obtain ⟨k, hk, rfl, rfl, hc, hown⟩ := hrel
    by_cases hlt : k < s.length
    · obtain ⟨x, hx⟩ : ∃ x, s[k]? = some x := ⟨s[k], by simp [hlt]⟩
      obtain ⟨b, off, rfl, _, _, c0, c1, s0, s1, hxs⟩ := elems_mark h3 hx
      have C0 := Lib.hid c0
      have C1 := Lib.hid c1
      have c0 := hc.cellNever c0
      have c1 := hc.cellNever c1
      have hlen := cutTo_len (s := s) hn k hk
      have HX := Lib.hid hx
      have h0 := inTo_zero (n := n) hx
      obtain ⟨sg, tx⟩ := x
      simp only at C0 C1 c0 c1 s0 s1 hxs
      have H0 := Lib.hid h0
      clear hx h0
      go_wp2_with fail
      go_loop [8, 9] (fun inn kk => ∃ j : Nat, j ≤ s.length ∧ kk = .int .i64 j ∧ inn = .bool (inTo s n k j)) (fun _ kk => s.length - (intOf kk).toNat)
      case atStart => exact ⟨0, Nat.zero_le _, rfl, by rw [H0.out]; rfl⟩
      case round =>
        obtain ⟨j, hj, rfl, rfl⟩ := hrel
        by_cases hjl : j < s.length
        · obtain ⟨y, hy⟩ : ∃ y, s[j]? = some y := ⟨s[j], by simp [hjl]⟩
          obtain ⟨b', off', hbo, _, _, g0, g1, _, _, _⟩ := elems_mark h3 hy
          simp only [Option.some.injEq, Addr.mk.injEq, and_true] at hbo
          obtain ⟨rfl, rfl⟩ := hbo
          have g0 := hc.cellNever g0
          have HY := Lib.hid hy
          clear hy g1
          by_cases p1 : y.sign = 32
          · have t1 : (y.sign != 32) = false := by simp [p1]
            have HE := Lib.hid (inTo_out (n := n) (k := k) HY.out (.inl p1))
            go_wp2_with fail
            go_round
            case rel => exact ⟨j + 1, by omega, by go_num, by rw [HE.out]⟩
            case measure => simp [intOf] <;> omega
          · have t1 : (y.sign != 32) = true := by simp [p1]
            by_cases p2 : (j : Int) - k ≤ n
            · by_cases p3 : (k : Int) - j ≤ n
              · have HE := Lib.hid (inTo_in (n := n) (k := k) HY.out p1 p2 p3)
                go_wp2_with fail
                go_round
                case rel => exact ⟨j + 1, by omega, by go_num, by rw [HE.out]⟩
                case measure => simp [intOf] <;> omega
              · have HE := Lib.hid (inTo_out (n := n) (k := k) HY.out (.inr (.inr p3)))
                go_wp2_with fail
                go_round
                case rel => exact ⟨j + 1, by omega, by go_num, by rw [HE.out]⟩
                case measure => simp [intOf] <;> omega
            · have HE := Lib.hid (inTo_out (n := n) (k := k) HY.out (.inr (.inl p2)))
              go_wp2_with fail
              go_round
              case rel => exact ⟨j + 1, by omega, by go_num, by rw [HE.out]⟩
              case measure => simp [intOf] <;> omega
        · obtain rfl : j = s.length := by omega
          rw [inTo_end hn hlt]
          cases hin : inAt s n k with
          | false =>
            have HF := Lib.hid (cutTo_out HX.out hin)
            have HIN := Lib.hid hin
            have hown := hown.own
            clear hin
            go_wp2_with fail
            go_roundw
            case rel => exact ⟨k + 1, by omega, by go_num, by rw [wasIn_succ, HIN.out], hc, by rw [wasIn_succ, HIN.out, CutOwn, if_neg (by decide), HF.out]; exact hown⟩
            case measure => simp [intOf] <;> omega
          | true =>
            have HIN := Lib.hid hin
            cases hwas : wasIn s n k with
            | true =>
              have hown' := hown
              unfold CutOwn at hown'
              rw [if_pos hwas] at hown'
              obtain ⟨init, q, mv, xs, HE, hlast⟩ := hown'
              have HEE := Lib.hid HE
              obtain ⟨g, gcap, rfl, hg1, hg2, hg3, hg4, m2, m0, m1, hfr⟩ := hlast.shape
              have hil : init.length ≤ 120 := by
                rw [HE, List.length_append] at hlen
                simp at hlen
                omega
              have hlm : q.marks.length ≤ 1000000000 := by
                have := cut_marks hn hk hwas HE
                omega
              have HF := Lib.hid (cutTo_more HX.out hin hwas HE)
              have z1 : (init.length : Int) + 1 - 1 = init.length := by omega
              have HW := Lib.hid hwas
              clear HE hin hwas hown hlen
              obtain ⟨ma, mn, mc, rfl⟩ := own_isSlice hlast.marks
              have hBX := Blk3.new wr 61 (.int .i64 q.old) (.int .i64 q.new) (.slice ma mn mc)
              have hAX : Chg Never wr (wr.alloc (.cells #[.int .i64 q.old, .int .i64 q.new, .slice ma mn mc] 61)) := (Chg.refl Never wr).alloc _
              have hgge : w.heap.size ≤ g := by unfold Old at hg2; omega
              have hBw : w.heap.size ≤ wr.heap.size := hc.size
              have hgl : g < wr.heap.size := (hlast.row.lt g rfl).2
              have hown4 := hlast.marks.keep (O'' := fun j => (Old w.heap.size j ∨ (Value.slice (some ⟨g, 0, none⟩) (init.length + 1) gcap).ownBlock = some j) ∨ j = wr.heap.size) hAX.drew (fun _ _ hh => hh.elim) (by rintro j hj (hh | rfl); exact hh; exact absurd hj (Nat.lt_irrefl _))
              have hgM : ¬ OwnB (.slice ma mn mc) g := by
                obtain ⟨_, _, qq, _⟩ := hown4
                exact fun hh => qq g hh (.inl (.inr rfl))
              have hBM : ¬ OwnB (.slice ma mn mc) wr.heap.size := by
                obtain ⟨_, _, qq, _⟩ := hown4
                exact fun hh => qq _ hh (.inr rfl)
              have hBX := hBX.keep (O := Never) (Chg.refl Never _).drew (fun h => h)
              have hAX := hAX.drew
              have c0 := (hc.trans hAX).cellNever C0.out
              have c1 := (hc.trans hAX).cellNever C1.out
              have hO : ∀ j, ((Old w.heap.size j ∨ (Value.slice (some ⟨g, 0, none⟩) (init.length + 1) gcap).ownBlock = some j) ∨ j = wr.heap.size) → j < (wr.alloc (.cells #[.int .i64 q.old, .int .i64 q.new, .slice ma mn mc] 61)).drew.heap.size := by
                have e : (wr.alloc (.cells #[.int .i64 q.old, .int .i64 q.new, .slice ma mn mc] 61)).drew.heap.size = wr.heap.size + 1 := World.size_alloc _ _
                rw [e]
                rintro j ((hh | hh) | rfl)
                · unfold Old at hh; omega
                · have : g = j := by injection hh
                  omega
                · omega
              obtain ⟨b0, b1, b2⟩ := hBX.cell
              have b3 := hBX.free
              have hBlt := hBX.lt
              have hglt : g < _ := Nat.lt_of_lt_of_le hgl hAX.size
              have m0' := hAX.cellNever m0
              have m1' := hAX.cellNever m1
              have m2' := hAX.cellNever m2
              have hfr' : ∀ j, _ = false := fun j => (hAX.frozen (p := ⟨g, j, none⟩) hgl (fun x => x)).trans (hfr j)
              have hgBn : g ≠ wr.heap.size := by omega
              go_wp2_with fail
              clear m0 m1 m2 hfr
              generalize wr.alloc (.cells #[.int .i64 q.old, .int .i64 q.new, .slice ma mn mc] 61) = w4 at hBX hAX c0 c1 hO hBlt hglt b0 b1 b2 b3 m0' m1' m2' hfr' hown4 ⊢
              generalize hBe : wr.heap.size = B at hBX hAX hO hBlt b0 b1 b2 b3 hgBn hBM hown4 hgl hBw ⊢
              have HBE := Lib.hid hBe
              clear hBe
              have hBlt2 : B < w4.heap.size := hBlt
              have b2w : w4.cell? ⟨B, 2, none⟩ = some (.slice ma mn mc) := b2
              go_region_law ((refine step_push (by rfl) _ _ 59 (by rfl) elemOk_mark (l := (q).marks) (y := ⟨sg, tx⟩) (by rfl) (by rfl) (by simp) hown4 (rd_mark _ _ sg tx s0 s1 hxs) hO hlm ?_; intro v' w5 hown2 hc2 hk2; obtain ⟨ad, nn, cc, rfl⟩ := own_slice hk2; have hB5 := hBX.keep hc2 hBM; obtain ⟨b0', b1', b2'⟩ := hB5.cell; have b3' := hB5.free))
              all_goals
                have hB6 := hB5.set2 (.slice (some ad) nn cc)
                obtain ⟨k0, k1, k2⟩ := hB6.cell
                have hCB : Chg (fun k => k = B) w5 (w5.setCell ⟨B, 2, none⟩ (.slice (some ad) nn cc)) := (Chg.refl (fun k => k = B) w5).setCell (p := ⟨B, 2, none⟩) (.inr rfl) _
                have n0 := hCB.cell (p := ⟨g, init.length * 3, none⟩) (hc2.cell (p := ⟨g, init.length * 3, none⟩) m0' hgM) hgBn
                have n1 := hCB.cell (p := ⟨g, init.length * 3 + 1, none⟩) (hc2.cell (p := ⟨g, init.length * 3 + 1, none⟩) m1' hgM) hgBn
                have n2 := hCB.cell (p := ⟨g, init.length * 3 + 2, none⟩) (hc2.cell (p := ⟨g, init.length * 3 + 2, none⟩) m2' hgM) hgBn
                have hgl5 : g < w5.heap.size := Nat.lt_of_lt_of_le hglt hc2.size
                have nf := fun j => (hCB.frozen (p := ⟨g, j, none⟩) hgl5 hgBn).trans ((hc2.frozen (p := ⟨g, j, none⟩) hglt hgM).trans (hfr' j))
                have S0 := setCell_same n0
                have S1 := setCell_same n1
                have hown6 := hown2.keep (O'' := fun j => Old w.heap.size j ∨ (Value.slice (some ⟨g, 0, none⟩) (init.length + 1) gcap).ownBlock = some j) hCB (fun _ _ h => .inr h) (fun _ _ h => .inl h)
                have hc6 : Chg (OwnB (.slice ma mn mc)) wr (w5.setCell ⟨B, 2, none⟩ (.slice (some ad) nn cc)) := (((hAX.mono (fun _ _ h => h.elim)).trans hc2).setCell (p := ⟨B, 2, none⟩) (.inl (Nat.le_of_eq HBE.out)) _)
                have hst := OwnLast.stored hlast hown6 hc6 (by
                  obtain ⟨kb, q1, q2⟩ := hk2
                  exact ⟨kb, q1, q2.imp_right (Nat.le_trans hAX.size)⟩)
                have hcW : Chg Never w (w5.setCell ⟨B, 2, none⟩ (.slice (some ad) nn cc)) := hc.trans' hc6 (fun i hi hh => by
                  obtain ⟨_, _, qq, _⟩ := hown4
                  exact qq i hh (.inl (.inl hi)))
                clear hB5 hB6 hCB hown2 hown4 hown6 hc6 hc2 hk2 hlast hBX hAX hO b0 b1 b2 b3 b2w m0' m1' m2' hfr' b0' b1' b2' b3' hc
                go_wp2_with fail
                go_roundw
                case rel => exact ⟨k + 1, by omega, by go_num, by rw [wasIn_succ, HIN.out], hcW.setCell (.inl hgge) _, by rw [wasIn_succ, HIN.out, CutOwn, if_pos rfl]; exact ⟨_, _, _, _, HF.out, hst⟩⟩
                case measure => simp [intOf] <;> omega
            | false =>
              have HW := Lib.hid hwas
              have hown' := hown
              unfold CutOwn at hown'
              rw [if_neg (by rw [hwas]; decide)] at hown'
              have HF := Lib.hid (cutTo_new HX.out hin hwas)
              have HLK : (cutTo s n k).length ≤ 120 := by omega
              generalize cutTo s n k = init at HF hown' HLK
              obtain ⟨sb, z0, z1, hrunS, hsub⟩ := slice_gen (P := Tryz.prog) (t := 59) (by kernel_rfl) size_mark h 0 k (Nat.zero_le _) (by omega)
              have hrunS := fun (wx : World) => hrunS k wx rfl rfl
              clear z0 z1 hwas hin hown hlen
              rw [Nat.sub_zero, Nat.sub_zero] at hrunS hsub
              rw [List.drop_zero] at hsub
              have HTF := Lib.hid (scriptFault_sub (m := s.take k) HZ.out (fun x hx => List.mem_of_mem_take hx) (by rw [List.length_take]; omega))
              have hTL : (s.take k).length = k := by rw [List.length_take]; omega
              have ho1 : oldN (s.take k) ≤ k := Nat.le_trans (oldN_le _) (by omega)
              have hn1 : newN (s.take k) ≤ k := Nat.le_trans (newN_le _) (by omega)
              go_wp2_with fail
              refine wp_region_held_drew (S := fun w' => Chg Never w w') (by kernel_rfl) hc.drew (fun hH => ?_)
              refine' wpAnyH_take (i := 0) ?hi0 (by kernel_rfl) (by kernel_rfl) (by kernel_rfl) ?hQ0 (Or.inl ⟨?hw0, ?hy0⟩) (by assumption) ?_
              case hi0 => (simp only [List.getElem?_toArray, List.getElem?_cons_succ, List.getElem?_cons_zero]; rfl)
              case hQ0 => exact fun _ _ _ h => h
              case hw0 => rfl
              case hy0 => (intro w' hSw; (try dsimp only at hSw); go_simp; all_goals with_reducible rfl)
              try simp only [Act.put, List.setIfInBounds_toArray, List.set_cons_zero, List.set_cons_succ]
              refine' wpAnyH_take (i := 1) ?hi1 (by kernel_rfl) (by kernel_rfl) (by kernel_rfl) ?hQ1 (Or.inl ⟨?hw1, ?hy1⟩) (by assumption) ?_
              case hi1 => (simp only [List.getElem?_toArray, List.getElem?_cons_succ, List.getElem?_cons_zero]; rfl)
              case hQ1 => exact fun _ _ _ h => h
              case hw1 => rfl
              case hy1 => (intro w' hSw; (try dsimp only at hSw); go_simp; all_goals with_reducible rfl)
              try simp only [Act.put, List.setIfInBounds_toArray, List.set_cons_zero, List.set_cons_succ]
              refine' wpAnyH_take (i := 2) ?hi2 (by kernel_rfl) (by kernel_rfl) (by kernel_rfl) ?hQ2 (Or.inl ⟨?hw2, ?hy2⟩) (by assumption) ?_
              case hi2 => (simp only [List.getElem?_toArray, List.getElem?_cons_succ, List.getElem?_cons_zero]; rfl)
              case hQ2 => exact fun _ _ _ h => h
              case hw2 => rfl
              case hy2 => (intro w' hSw; (try dsimp only at hSw); go_simp; all_goals with_reducible rfl)
              try simp only [Act.put, List.setIfInBounds_toArray, List.set_cons_zero, List.set_cons_succ]
              refine' wpAnyH_take (i := 3) ?hi3 (by kernel_rfl) (by kernel_rfl) (by kernel_rfl) ?hQ3 (Or.inl ⟨?hw3, ?hy3⟩) (by assumption) ?_
              case hi3 => (simp only [List.getElem?_toArray, List.getElem?_cons_succ, List.getElem?_cons_zero]; rfl)
              case hQ3 => exact fun _ _ _ h => h
              case hw3 => rfl
              case hy3 => (intro w' hSw; (try dsimp only at hSw); go_simp; all_goals with_reducible rfl)
              try simp only [Act.put, List.setIfInBounds_toArray, List.set_cons_zero, List.set_cons_succ]
              refine' wpAnyH_take (i := 6) ?hi6 (by kernel_rfl) (by kernel_rfl) (by kernel_rfl) ?hQ6 (Or.inl ⟨?hw6, ?hy6⟩) (by assumption) ?_
              case hi6 => (simp only [List.getElem?_toArray, List.getElem?_cons_succ, List.getElem?_cons_zero]; rfl)
              case hQ6 => exact fun _ _ _ h => h
              case hw6 => rfl
              case hy6 => (intro w' hSw; (try dsimp only at hSw); go_simp; all_goals with_reducible rfl)
              try simp only [Act.put, List.setIfInBounds_toArray, List.set_cons_zero, List.set_cons_succ]
              refine' wpAnyH_take (i := 7) ?hi7 (by kernel_rfl) (by kernel_rfl) (by kernel_rfl) ?hQ7 (Or.inl ⟨?hw7, ?hy7⟩) (by assumption) ?_
              case hi7 => (simp only [List.getElem?_toArray, List.getElem?_cons_succ, List.getElem?_cons_zero]; rfl)
              case hQ7 => exact fun _ _ _ h => h
              case hw7 => rfl
              case hy7 => (intro w' hSw; (try dsimp only at hSw); go_simp; all_goals with_reducible rfl)
              try simp only [Act.put, List.setIfInBounds_toArray, List.set_cons_zero, List.set_cons_succ]
              refine' wpAnyH_take (i := 8) ?hi8 (by kernel_rfl) (by kernel_rfl) (by kernel_rfl) ?hQ8 (Or.inl ⟨?hw8, ?hy8⟩) (by assumption) ?_
              case hi8 => (simp only [List.getElem?_toArray, List.getElem?_cons_succ, List.getElem?_cons_zero]; rfl)
              case hQ8 => exact fun _ _ _ h => h
              case hw8 => rfl
              case hy8 => (intro w' hSw; (try dsimp only at hSw); go_simp; all_goals with_reducible rfl)
              try simp only [Act.put, List.setIfInBounds_toArray, List.set_cons_zero, List.set_cons_succ]
              refine wpAnyH_ready (rs := [4]) (by kernel_rfl) (by simp) ?_
              refine AllReadyH.cons rfl (fun K hK => ?_) AllReadyH.nil
              go_simp
              (go_at_call 24; refine (refOld_any (s.take k) _ _ (hsub.never hH) HTF.out).mono ?_; rintro e wq ⟨rq, rfl, hcq, hrq⟩; have hrO := hrq.sub (O' := Never) (fun _ _ h => h.elim); clear hrq; obtain ⟨oa, oc, rfl, _, _, _⟩ := rdv_slice hrO; have hS2 := hH.trans hcq; clear hH)
              try go_wp2_with fail
              refine hK.out _ _ ?_ (fun hH => ?_)
              · assumption
              clear hK K
              try simp only [Act.put, List.setIfInBounds_toArray, List.set_cons_zero, List.set_cons_succ]
              refine' wpAnyH_take (i := 5) ?hi5 (by kernel_rfl) (by kernel_rfl) (by kernel_rfl) ?hQ5 (Or.inl ⟨?hw5, ?hy5⟩) (by assumption) ?_
              case hi5 => (simp only [List.getElem?_toArray, List.getElem?_cons_succ, List.getElem?_cons_zero]; rfl)
              case hQ5 => exact fun _ _ _ h => h
              case hw5 => rfl
              case hy5 => (intro w' hSw; (try dsimp only at hSw); go_simp; all_goals with_reducible rfl)
              try simp only [Act.put, List.setIfInBounds_toArray, List.set_cons_zero, List.set_cons_succ]
              refine wpAnyH_ready (rs := [9]) (by kernel_rfl) (by simp) ?_
              refine AllReadyH.cons rfl (fun K hK => ?_) AllReadyH.nil
              go_simp
              (go_at_call 25; refine (refNew_any (s.take k) _ _ (hsub.never hH) HTF.out).mono ?_; rintro e wq2 ⟨rq2, rfl, hcq2, hrq2⟩; have hrN := hrq2.sub (O' := Never) (fun _ _ h => h.elim); clear hrq2; obtain ⟨na, nc, rfl, _, _, _⟩ := rdv_slice hrN; have hS3 := hH.trans hcq2; clear hH)
              try go_wp2_with fail
              refine hK.out _ _ ?_ (fun hH => ?_)
              · assumption
              clear hK K
              try simp only [Act.put, List.setIfInBounds_toArray, List.set_cons_zero, List.set_cons_succ]
              refine' wpAnyH_take (i := 10) ?hi10 (by kernel_rfl) (by kernel_rfl) (by kernel_rfl) ?hQ10 (Or.inl ⟨?hw10, ?hy10⟩) (by assumption) ?_
              case hi10 => (simp only [List.getElem?_toArray, List.getElem?_cons_succ, List.getElem?_cons_zero]; rfl)
              case hQ10 => exact fun _ _ _ h => h
              case hw10 => rfl
              case hy10 => (intro w' hSw; (try dsimp only at hSw); go_simp; all_goals with_reducible rfl)
              try simp only [Act.put, List.setIfInBounds_toArray, List.set_cons_zero, List.set_cons_succ]
              refine' wpAnyH_take (i := 11) ?hi11 (by kernel_rfl) (by kernel_rfl) (by kernel_rfl) ?hQ11 (Or.inl ⟨?hw11, ?hy11⟩) (by assumption) ?_
              case hi11 => (simp only [List.getElem?_toArray, List.getElem?_cons_succ, List.getElem?_cons_zero]; rfl)
              case hQ11 => exact fun _ _ _ h => h
              case hw11 => rfl
              case hy11 => (intro w' hSw; (try dsimp only at hSw); go_simp; all_goals with_reducible rfl)
              try simp only [Act.put, List.setIfInBounds_toArray, List.set_cons_zero, List.set_cons_succ]
              refine wpAnyH_ready (rs := [12]) (by kernel_rfl) (by simp) ?_
              refine AllReadyH.cons rfl (fun K hK => ?_) AllReadyH.nil
              go_simp
              refine hK.out _ _ (hH.alloc _) (fun hH2 => ?_)
              clear hK K
              try simp only [Act.put, List.setIfInBounds_toArray, List.set_cons_zero, List.set_cons_succ]
              have hq := ((Chg.refl Never wr).drew.trans hcq).trans hcq2
              have hownq := hown'.never hq
              refine wpAnyH_ready (rs := [13]) (by kernel_rfl) (by simp) ?_
              refine AllReadyH.cons rfl (fun K hK => ?_) AllReadyH.nil
              refine step_push_last (by rfl) _ _ 34 (by rfl) 72 elemOk_hunk (by rfl) (by rfl) (by simp) hownq (old_lt hH) (by omega) ?_
              intro v' wp xs hlast hc4
              obtain ⟨g, gcap, rfl, hg1, hg2, hg3, hg4, m2, m0, m1, hfr⟩ := hlast.shape
              have hcn : Chg Never w wp := own_step hH hownq hc4
              refine hK.out _ _ hcn (fun _ => ?_)
              clear hK K hq hownq hown' hH hH2 hcq hcq2 hc4
              try simp only [Act.put, List.setIfInBounds_toArray, List.set_cons_zero, List.set_cons_succ]
              refine' wpAnyH_take (i := 14) ?hi14 (by kernel_rfl) (by kernel_rfl) (by kernel_rfl) ?hQ14 (Or.inl ⟨?hw14, ?hy14⟩) (by assumption) ?_
              case hi14 => (simp only [List.getElem?_toArray, List.getElem?_cons_succ, List.getElem?_cons_zero]; rfl)
              case hQ14 => exact fun _ _ _ h => h
              case hw14 => rfl
              case hy14 => (intro w' hSw; (try dsimp only at hSw); go_simp; all_goals with_reducible rfl)
              try simp only [Act.put, List.setIfInBounds_toArray, List.set_cons_zero, List.set_cons_succ]
              refine wpAnyH_done (by kernel_rfl) ?_ _
              clear hc
              have hc := hcn
              clear hcn
              have hil := HLK
              have hlm : ([] : List Mark).length ≤ 1000000000 := by simp
              have z1 : (init.length : Int) + 1 - 1 = init.length := by omega
              have hBX := Blk3.new wp 61 (.int .i64 ((those (s.take k) 43).length : Int)) (.int .i64 ((those (s.take k) 45).length : Int)) (.slice none 0 0)
              have hAX : Chg Never wp (wp.alloc (.cells #[.int .i64 ((those (s.take k) 43).length : Int), .int .i64 ((those (s.take k) 45).length : Int), .slice none 0 0] 61)) := (Chg.refl Never wp).alloc _
              have hgge : w.heap.size ≤ g := by unfold Old at hg2; omega
              have hBw : w.heap.size ≤ wp.heap.size := hc.size
              have hgl : g < wp.heap.size := (hlast.row.lt g rfl).2
              have hown4 := hlast.marks.keep (O'' := fun j => (Old w.heap.size j ∨ (Value.slice (some ⟨g, 0, none⟩) (init.length + 1) gcap).ownBlock = some j) ∨ j = wp.heap.size) hAX.drew (fun _ _ hh => hh.elim) (by rintro j hj (hh | rfl); exact hh; exact absurd hj (Nat.lt_irrefl _))
              have hgM : ¬ OwnB (.slice none 0 0) g := by
                obtain ⟨_, _, qq, _⟩ := hown4
                exact fun hh => qq g hh (.inl (.inr rfl))
              have hBM : ¬ OwnB (.slice none 0 0) wp.heap.size := by
                obtain ⟨_, _, qq, _⟩ := hown4
                exact fun hh => qq _ hh (.inr rfl)
              have hBX := hBX.keep (O := Never) (Chg.refl Never _).drew (fun h => h)
              have hAX := hAX.drew
              have c0 := (hc.trans hAX).cellNever C0.out
              have c1 := (hc.trans hAX).cellNever C1.out
              have hO : ∀ j, ((Old w.heap.size j ∨ (Value.slice (some ⟨g, 0, none⟩) (init.length + 1) gcap).ownBlock = some j) ∨ j = wp.heap.size) → j < (wp.alloc (.cells #[.int .i64 ((those (s.take k) 43).length : Int), .int .i64 ((those (s.take k) 45).length : Int), .slice none 0 0] 61)).drew.heap.size := by
                have e : (wp.alloc (.cells #[.int .i64 ((those (s.take k) 43).length : Int), .int .i64 ((those (s.take k) 45).length : Int), .slice none 0 0] 61)).drew.heap.size = wp.heap.size + 1 := World.size_alloc _ _
                rw [e]
                rintro j ((hh | hh) | rfl)
                · unfold Old at hh; omega
                · have : g = j := by injection hh
                  omega
                · omega
              obtain ⟨b0, b1, b2⟩ := hBX.cell
              have b3 := hBX.free
              have hBlt := hBX.lt
              have hglt : g < _ := Nat.lt_of_lt_of_le hgl hAX.size
              have m0' := hAX.cellNever m0
              have m1' := hAX.cellNever m1
              have m2' := hAX.cellNever m2
              have hfr' : ∀ j, _ = false := fun j => (hAX.frozen (p := ⟨g, j, none⟩) hgl (fun x => x)).trans (hfr j)
              have hgBn : g ≠ wp.heap.size := by omega
              go_wp2_with fail
              clear m0 m1 m2 hfr
              generalize wp.alloc (.cells #[.int .i64 ((those (s.take k) 43).length : Int), .int .i64 ((those (s.take k) 45).length : Int), .slice none 0 0] 61) = w4 at hBX hAX c0 c1 hO hBlt hglt b0 b1 b2 b3 m0' m1' m2' hfr' hown4 ⊢
              generalize hBe : wp.heap.size = B at hBX hAX hO hBlt b0 b1 b2 b3 hgBn hBM hown4 hgl hBw ⊢
              have HBE := Lib.hid hBe
              clear hBe
              have hBlt2 : B < w4.heap.size := hBlt
              have b2w : w4.cell? ⟨B, 2, none⟩ = some (.slice none 0 0) := b2
              go_region_law ((refine step_push (by rfl) _ _ 59 (by rfl) elemOk_mark (l := ((⟨((those (s.take k) 43).length : Int), ((those (s.take k) 45).length : Int), []⟩ : Hunk)).marks) (y := ⟨sg, tx⟩) (by rfl) (by rfl) (by simp) hown4 (rd_mark _ _ sg tx s0 s1 hxs) hO hlm ?_; intro v' w5 hown2 hc2 hk2; obtain ⟨ad, nn, cc, rfl⟩ := own_slice hk2; have hB5 := hBX.keep hc2 hBM; obtain ⟨b0', b1', b2'⟩ := hB5.cell; have b3' := hB5.free))
              all_goals
                have hB6 := hB5.set2 (.slice (some ad) nn cc)
                obtain ⟨k0, k1, k2⟩ := hB6.cell
                have hCB : Chg (fun k => k = B) w5 (w5.setCell ⟨B, 2, none⟩ (.slice (some ad) nn cc)) := (Chg.refl (fun k => k = B) w5).setCell (p := ⟨B, 2, none⟩) (.inr rfl) _
                have n0 := hCB.cell (p := ⟨g, init.length * 3, none⟩) (hc2.cell (p := ⟨g, init.length * 3, none⟩) m0' hgM) hgBn
                have n1 := hCB.cell (p := ⟨g, init.length * 3 + 1, none⟩) (hc2.cell (p := ⟨g, init.length * 3 + 1, none⟩) m1' hgM) hgBn
                have n2 := hCB.cell (p := ⟨g, init.length * 3 + 2, none⟩) (hc2.cell (p := ⟨g, init.length * 3 + 2, none⟩) m2' hgM) hgBn
                have hgl5 : g < w5.heap.size := Nat.lt_of_lt_of_le hglt hc2.size
                have nf := fun j => (hCB.frozen (p := ⟨g, j, none⟩) hgl5 hgBn).trans ((hc2.frozen (p := ⟨g, j, none⟩) hglt hgM).trans (hfr' j))
                have S0 := setCell_same n0
                have S1 := setCell_same n1
                have hown6 := hown2.keep (O'' := fun j => Old w.heap.size j ∨ (Value.slice (some ⟨g, 0, none⟩) (init.length + 1) gcap).ownBlock = some j) hCB (fun _ _ h => .inr h) (fun _ _ h => .inl h)
                have hc6 : Chg (OwnB (.slice none 0 0)) wp (w5.setCell ⟨B, 2, none⟩ (.slice (some ad) nn cc)) := (((hAX.mono (fun _ _ h => h.elim)).trans hc2).setCell (p := ⟨B, 2, none⟩) (.inl (Nat.le_of_eq HBE.out)) _)
                have hst := OwnLast.stored hlast hown6 hc6 (by
                  obtain ⟨kb, q1, q2⟩ := hk2
                  exact ⟨kb, q1, q2.imp_right (Nat.le_trans hAX.size)⟩)
                have hcW : Chg Never w (w5.setCell ⟨B, 2, none⟩ (.slice (some ad) nn cc)) := hc.trans' hc6 (fun i hi hh => by
                  obtain ⟨_, _, qq, _⟩ := hown4
                  exact qq i hh (.inl (.inl hi)))
                clear hB5 hB6 hCB hown2 hown4 hown6 hc6 hc2 hk2 hlast hBX hAX hO b0 b1 b2 b3 b2w m0' m1' m2' hfr' b0' b1' b2' b3' hc
                go_wp2_with fail
                go_roundw
                case rel => exact ⟨k + 1, by omega, by go_num, by rw [wasIn_succ, HIN.out], hcW.setCell (.inl hgge) _, by rw [wasIn_succ, HIN.out, CutOwn, if_pos rfl]; exact ⟨_, _, _, _, HF.out, hst⟩⟩
                case measure => simp [intOf] <;> omega
    · go_wp2_with fail
      go_ret
      obtain rfl : k = s.length := by omega
      exact ⟨_, rfl, hc, hown.own.rdv⟩
end Go.Proofs.YteocmmejfnmjcaaGreatDoor
namespace Go.Proofs.YteocmmejfnmjcaaGreatDoor
open Go.RowKit

theorem putLoop_all {a b : List File} {k : Nat} {x : File} (h : Sorted a) (hx : b[k]? = some x) : putLoop x false (allOf a (b.take k)) = allOf a (b.take (k + 1)) := by
  rw [all_step a b hx, putLoop_sorted x _ (all_sorted _ _ h)]
/-- what the loop's round has at a path -/
theorem lt_of_get {α : Type} {l : List α} {i : Nat} {x : α} (h : l[i]? = some x) : i < l.length := (List.getElem?_eq_some_iff.1 h).1
set_option maxHeartbeats 4000000 in
set_option maxRecDepth 100000 in
theorem refDiff_any (a b : List File) (n : Int) (va vb : Value) (w : World) (ha : Rdv w Never va a) (hb : Rdv w Never vb b) (ta : (treeFault a).2 = 0) (tb : (treeFault b).2 = 0) (n0 : 0 ≤ n) (n1 : n ≤ 1000) :
    Calls Tryz.prog 15 #[va, vb, .int .i64 n] w fun e w' => ∃ r, e = .returned r ∧ Chg Never w w' ∧ Rdv w' Never r (refDiff a b n) := by
  obtain ⟨al, af, asr, _⟩ := treeFault_zero ta
  obtain ⟨bl, bf, bs, _⟩ := treeFault_zero tb
  obtain ⟨aa, acap, rfl, a1, a2, a3⟩ := rdv_slice ha
  obtain ⟨ba, bcap, rfl, b1, b2, b3⟩ := rdv_slice hb
  unfold maxLen at a2 b2
  have AF := Lib.hid af
  have BF := Lib.hid bf
  have AS := Lib.hid asr
  have BS := Lib.hid bs
  have HA := Lib.hid ha
  have HB := Lib.hid hb
  clear af bf asr bs ta tb ha hb
  go_enter Tryz.func15, Tryz.ntmps15
  go_wp2_with fail
  go_loopw [7, 8] (fun v i wr => ∃ k : Nat, k ≤ b.length ∧ i = .int .i64 k ∧ Chg Never w wr ∧ Rdv wr Never v (allOf a (b.take k))) (fun _ i _ => b.length - (intOf i).toNat)
  case atStart => exact ⟨0, Nat.zero_le _, rfl, Chg.refl _ _, HA.out⟩
  case round =>
    obtain ⟨k, hk, rfl, hc, hall⟩ := hrel
    have hal := allOf_len (b.take k) a AS.out
    rw [List.length_take] at hal
    by_cases hlt : k < b.length
    · obtain ⟨x, hx⟩ : ∃ x, b[k]? = some x := ⟨b[k], by simp [hlt]⟩
      obtain ⟨o, off, lv, rfl, _, _, c0, c1, hps, hlv⟩ := elems_file b3 hx
      have c0 := hc.cellNever c0
      have c1 := hc.cellNever c1
      have hlv := hlv.never hc
      have HP := Lib.hid (putLoop_all AS.out hx)
      clear hx
      go_wp2_with fail
      refine (refPut_any (allOf a (b.take k)) x _ _ _ hall hlv hps (by omega)).mono ?_
      rintro e w2 ⟨r, rfl, hc2, hr⟩
      rw [HP.out] at hr
      have hc3 := hc.trans hc2
      clear c0 c1 hc2 hall
      go_wp2_with fail
      go_roundw
      case rel => exact ⟨k + 1, by omega, by go_num, hc3, hr⟩
      case measure => simp [intOf] <;> omega
    · obtain rfl : k = b.length := by omega
      rw [List.take_length] at hall hal
      have HS : Hid (Sorted (allOf a b)) := all_sorted b a AS.out
      have HK : ∀ f, f ∈ allOf a b → Hid (¬ (look a f.path = none ∧ look b f.path = none)) := fun f hf => all_known AS.out BS.out hf
      generalize hM : allOf a b = M at hall hal HS HK
      have HM := Lib.hid hM
      clear hM
      have hml : M.length ≤ 16 := by omega
      obtain ⟨ma, mcap, rfl, m1, m2, m3⟩ := rdv_slice hall
      unfold maxLen at m2
      have hn0 := ownN_nil (α := Change) 36 (Chg.refl Never wr)
      clear hal
      go_wp2_with fail
      go_loopw [9, 10] (fun v i wz => ∃ (k : Nat) (L : List Change), k ≤ M.length ∧ i = .int .i64 k ∧ OwnN 36 wr wz v L ∧ L.length ≤ k ∧ Hid (L = (M.take k).flatMap fun f => chg n f.path (look a f.path) (look b f.path))) (fun _ i _ => M.length - (intOf i).toNat)
      case atStart => exact ⟨0, [], Nat.zero_le _, rfl, hn0, Nat.le_refl _, rfl⟩
      case round =>
        clear hn0
        rename_i vO iO wz
        obtain ⟨k, L, hk, rfl, hn, hLk, HL⟩ := hrel
        obtain ⟨oa, on, oc, rfl⟩ := own_isSlice hn.own
        have hw := hc.trans hn.chg
        have hLl : L.length ≤ 1000000000 := by omega
        by_cases hlt : k < M.length
        · obtain ⟨x, hx⟩ : ∃ x, M[k]? = some x := ⟨M[k], by simp [hlt]⟩
          obtain ⟨o, off, lv, rfl, _, _, c0, _, hpp, _⟩ := elems_file m3 hx
          have c0 := hn.chg.cellNever c0
          have HX := Lib.hid hx
          have HKX := HK x (List.mem_of_getElem? hx)
          clear hx
          go_wp2_with fail
          refine (refPlace_any a x.path _ _ (HA.out.never hw)).mono ?_
          rintro e w2 ⟨rfl, hd2⟩
          have hn := hn.never hd2
          have hw := hw.trans hd2
          clear hd2 c0
          go_wp2_with fail
          refine (refPlace_any b x.path _ _ (HB.out.never hw)).mono ?_
          rintro e w3 ⟨rfl, hd3⟩
          have hn := hn.never hd3
          have hw := hw.trans hd3
          clear hd3
          rcases placeI_look a x.path with ⟨pa, la⟩ | ⟨i, f, pa, fi, la⟩
          · rcases placeI_look b x.path with ⟨pb, lb⟩ | ⟨j, g, pb, gj, lb⟩
            · exact absurd ⟨la, lb⟩ HKX.out
            · have HCH : Hid (chg n x.path (look a x.path) (look b x.path) = [⟨2, x.path, wholeR g.lines 43⟩]) := by rw [la, lb]; rfl
              obtain ⟨o', off', lv', hbo, _, _, _, d1, _, hlv⟩ := elems_file b3 gj
              have d1 := hw.cellNever d1
              have hlv := hlv.never hw
              have hjl := lt_of_get gj
              have hgl := linesFault_len (fileFault_lines (BF.out g (List.mem_of_getElem? gj)))
              subst hbo
              rw [pa, pb]
              clear la lb pa pb gj
              go_wp2_with fail
              refine (refWhole_any g.lines 43 _ _ hlv (by decide) (by decide) (by omega)).mono ?_
              rintro e w4 ⟨r, rfl, hd4, hrr⟩
              have hrr := hn.fresh hrr
              have hn := hn.never hd4
              clear hd4 d1
              obtain ⟨ra, rc, rfl, _, _, _⟩ := rdv_slice hrr
              have hy1 : Dat.rd _ (fun k => Never k ∨ _ = some k) _ (⟨2, x.path, wholeR g.lines 43⟩ : Change) := ⟨_, rfl, hpp, hrr⟩
              go_wp2_with (at_builtin; refine wpList_push (by rfl) _ _ 23 (by rfl) elemOk_change (O := Never) (l := L) (y := (⟨2, x.path, wholeR g.lines 43⟩ : Change)) (by rfl) (by rfl) (by rfl) hn.own hy1 (fun _ h => h.elim) hLl ?_; intro v' w9 hown2 hc2 hk2; have hn2 := hn.step1 hown2 hc2 hk2; clear hown2 hc2 hk2 hn hy1)
              go_roundw
              case rel => exact ⟨k + 1, L ++ [(⟨2, x.path, wholeR g.lines 43⟩ : Change)], by omega, by go_num, hn2, by rw [List.length_append]; simp; omega, by rw [flat_take HX.out, ← HL.out, HCH.out]; exact rfl⟩
              case measure => simp [intOf] <;> omega
          · have hil := lt_of_get fi
            obtain ⟨o', off', lv', hao, _, _, _, e1, _, hlf⟩ := elems_file a3 fi
            have e1 := hw.cellNever e1
            have hlf := hlf.never hw
            have hff := fileFault_lines (AF.out f (List.mem_of_getElem? fi))
            have hfl := linesFault_len hff
            subst hao
            have x0 : ((i : Int) < 0) = False := by simp
            rcases placeI_look b x.path with ⟨pb, lb⟩ | ⟨j, g, pb, gj, lb⟩
            · have HCH : Hid (chg n x.path (look a x.path) (look b x.path) = [⟨3, x.path, wholeR f.lines 45⟩]) := by rw [la, lb]; rfl
              rw [pa, pb]
              clear la lb pa pb fi hff
              go_wp2_with fail
              refine (refWhole_any f.lines 45 _ _ hlf (by decide) (by decide) (by omega)).mono ?_
              rintro e w4 ⟨r, rfl, hd4, hrr⟩
              have hrr := hn.fresh hrr
              have hn := hn.never hd4
              clear hd4 e1
              obtain ⟨ra, rc, rfl, _, _, _⟩ := rdv_slice hrr
              have hy1 : Dat.rd _ (fun k => Never k ∨ _ = some k) _ (⟨3, x.path, wholeR f.lines 45⟩ : Change) := ⟨_, rfl, hpp, hrr⟩
              go_wp2_with (at_builtin; refine wpList_push (by rfl) _ _ 23 (by rfl) elemOk_change (O := Never) (l := L) (y := (⟨3, x.path, wholeR f.lines 45⟩ : Change)) (by rfl) (by rfl) (by rfl) hn.own hy1 (fun _ h => h.elim) hLl ?_; intro v' w9 hown2 hc2 hk2; have hn2 := hn.step1 hown2 hc2 hk2; clear hown2 hc2 hk2 hn hy1)
              go_roundw
              case rel => exact ⟨k + 1, L ++ [(⟨3, x.path, wholeR f.lines 45⟩ : Change)], by omega, by go_num, hn2, by rw [List.length_append]; simp; omega, by rw [flat_take HX.out, ← HL.out, HCH.out]; exact rfl⟩
              case measure => simp [intOf] <;> omega
            · obtain ⟨o'', off'', lv'', hbo, _, _, _, d1, _, hlg⟩ := elems_file b3 gj
              have d1 := hw.cellNever d1
              have hlg := hlg.never hw
              have hjl := lt_of_get gj
              have hgg := fileFault_lines (BF.out g (List.mem_of_getElem? gj))
              have hgl := linesFault_len hgg
              subst hbo
              have SV := Lib.hid (script_valid (checked_zero hff hgg))
              rw [pa, pb]
              clear pa pb fi gj hff hgg
              go_wp2_with fail
              refine wp_region_held_drew (S := fun w' => Chg Never w3 w' ∧ w'.cell? ⟨o', off' + i * 2 + 1, none⟩ = some lv' ∧ w'.cell? ⟨o'', off'' + j * 2 + 1, none⟩ = some lv'') (by kernel_rfl) ⟨(Chg.refl Never w3).drew, e1, d1⟩ (fun hH => ?_)
              refine' wpAnyH_take (i := 0) ?hi0 (by kernel_rfl) (by kernel_rfl) (by kernel_rfl) ?hQ0 (Or.inl ⟨?hw0, ?hy0⟩) (by assumption) ?_
              case hi0 => (simp only [List.getElem?_toArray, List.getElem?_cons_succ, List.getElem?_cons_zero]; rfl)
              case hQ0 => exact fun _ _ _ h => h
              case hw0 => rfl
              case hy0 => (intro w' hSw; (try dsimp only at hSw); go_simp; all_goals with_reducible rfl)
              try simp only [Act.put, List.setIfInBounds_toArray, List.set_cons_zero, List.set_cons_succ]
              refine' wpAnyH_take (i := 1) ?hi1 (by kernel_rfl) (by kernel_rfl) (by kernel_rfl) ?hQ1 (Or.inl ⟨?hw1, ?hy1⟩) (by assumption) ?_
              case hi1 => (simp only [List.getElem?_toArray, List.getElem?_cons_succ, List.getElem?_cons_zero]; rfl)
              case hQ1 => exact fun _ _ _ h => h
              case hw1 => rfl
              case hy1 => (intro w' hSw; (try dsimp only at hSw); go_simp; all_goals with_reducible rfl)
              try simp only [Act.put, List.setIfInBounds_toArray, List.set_cons_zero, List.set_cons_succ]
              refine' wpAnyH_take (i := 2) ?hi2 (by kernel_rfl) (by kernel_rfl) (by kernel_rfl) ?hQ2 (Or.inl ⟨?hw2, ?hy2⟩) (by assumption) ?_
              case hi2 => (simp only [List.getElem?_toArray, List.getElem?_cons_succ, List.getElem?_cons_zero]; rfl)
              case hQ2 => exact fun _ _ _ h => h
              case hw2 => rfl
              case hy2 => (intro w' hSw; (try dsimp only at hSw); go_simp; all_goals with_reducible rfl)
              try simp only [Act.put, List.setIfInBounds_toArray, List.set_cons_zero, List.set_cons_succ]
              refine' wpAnyH_take (i := 3) ?hi3 (by kernel_rfl) (by kernel_rfl) (by kernel_rfl) ?hQ3 (Or.inl ⟨?hw3, ?hy3⟩) (by assumption) ?_
              case hi3 => (simp only [List.getElem?_toArray, List.getElem?_cons_succ, List.getElem?_cons_zero]; rfl)
              case hQ3 => exact fun _ _ _ h => h
              case hw3 => rfl
              case hy3 => (intro w' hSw; (try dsimp only at hSw); go_simp; all_goals with_reducible rfl)
              try simp only [Act.put, List.setIfInBounds_toArray, List.set_cons_zero, List.set_cons_succ]
              refine' wpAnyH_take (i := 4) ?hi4 (by kernel_rfl) (by kernel_rfl) (by kernel_rfl) ?hQ4 (Or.inl ⟨?hw4, ?hy4⟩) (by assumption) ?_
              case hi4 => (simp only [List.getElem?_toArray, List.getElem?_cons_succ, List.getElem?_cons_zero]; rfl)
              case hQ4 => exact fun _ _ _ h => h
              case hw4 => rfl
              case hy4 => (intro w' hSw; (try dsimp only at hSw); go_simp; all_goals with_reducible rfl)
              try simp only [Act.put, List.setIfInBounds_toArray, List.set_cons_zero, List.set_cons_succ]
              refine' wpAnyH_take (i := 5) ?hi5 (by kernel_rfl) (by kernel_rfl) (by kernel_rfl) ?hQ5 (Or.inl ⟨?hw5, ?hy5⟩) (by assumption) ?_
              case hi5 => (simp only [List.getElem?_toArray, List.getElem?_cons_succ, List.getElem?_cons_zero]; rfl)
              case hQ5 => exact fun _ _ _ h => h
              case hw5 => rfl
              case hy5 => (intro w' hSw; (try dsimp only at hSw); go_simp; all_goals with_reducible rfl)
              try simp only [Act.put, List.setIfInBounds_toArray, List.set_cons_zero, List.set_cons_succ]
              refine' wpAnyH_take (i := 6) ?hi6 (by kernel_rfl) (by kernel_rfl) (by kernel_rfl) ?hQ6 (Or.inl ⟨?hw6, ?hy6⟩) (by assumption) ?_
              case hi6 => (simp only [List.getElem?_toArray, List.getElem?_cons_succ, List.getElem?_cons_zero]; rfl)
              case hQ6 => exact fun _ _ _ h => h
              case hw6 => rfl
              case hy6 => (intro w' hSw; (try dsimp only at hSw); go_simp; all_goals with_reducible rfl)
              try simp only [Act.put, List.setIfInBounds_toArray, List.set_cons_zero, List.set_cons_succ]
              refine' wpAnyH_take (i := 7) ?hi7 (by kernel_rfl) (by kernel_rfl) (by kernel_rfl) ?hQ7 (Or.inl ⟨?hw7, ?hy7⟩) (by assumption) ?_
              case hi7 => (simp only [List.getElem?_toArray, List.getElem?_cons_succ, List.getElem?_cons_zero]; rfl)
              case hQ7 => exact fun _ _ _ h => h
              case hw7 => rfl
              case hy7 => (intro w' hSw; (try dsimp only at hSw); go_simp; all_goals with_reducible rfl)
              try simp only [Act.put, List.setIfInBounds_toArray, List.set_cons_zero, List.set_cons_succ]
              refine' wpAnyH_take (i := 8) ?hi8 (by kernel_rfl) (by kernel_rfl) (by kernel_rfl) ?hQ8 (Or.inl ⟨?hw8, ?hy8⟩) (by assumption) ?_
              case hi8 => (simp only [List.getElem?_toArray, List.getElem?_cons_succ, List.getElem?_cons_zero]; rfl)
              case hQ8 => exact fun _ _ _ h => h
              case hw8 => rfl
              case hy8 => (intro w' hSw; (try dsimp only at hSw); go_simp; all_goals with_reducible rfl)
              try simp only [Act.put, List.setIfInBounds_toArray, List.set_cons_zero, List.set_cons_succ]
              refine' wpAnyH_take (i := 9) ?hi9 (by kernel_rfl) (by kernel_rfl) (by kernel_rfl) ?hQ9 (Or.inl ⟨?hw9, ?hy9⟩) (by assumption) ?_
              case hi9 => (simp only [List.getElem?_toArray, List.getElem?_cons_succ, List.getElem?_cons_zero]; rfl)
              case hQ9 => exact fun _ _ _ h => h
              case hw9 => rfl
              case hy9 => (intro w' hSw; (try dsimp only at hSw); go_simp; all_goals with_reducible rfl)
              try simp only [Act.put, List.setIfInBounds_toArray, List.set_cons_zero, List.set_cons_succ]
              refine' wpAnyH_take (i := 11) ?hi11 (by kernel_rfl) (by kernel_rfl) (by kernel_rfl) ?hQ11 (Or.inl ⟨?hw11, ?hy11⟩) (by assumption) ?_
              case hi11 => (simp only [List.getElem?_toArray, List.getElem?_cons_succ, List.getElem?_cons_zero]; rfl)
              case hQ11 => exact fun _ _ _ h => h
              case hw11 => rfl
              case hy11 => (intro w' hSw; (try dsimp only at hSw); go_simp; all_goals with_reducible rfl)
              try simp only [Act.put, List.setIfInBounds_toArray, List.set_cons_zero, List.set_cons_succ]
              refine wpAnyH_ready (rs := [10]) (by kernel_rfl) (by simp) ?_
              refine AllReadyH.cons rfl (fun K hK => ?_) AllReadyH.nil
              go_simp
              (go_at_call 45; refine (scriptOf_any f.lines g.lines _ _ _ (hlf.never (And.left (by assumption))) (hlg.never (And.left (by assumption))) hfl hgl).mono ?_; rintro e wq ⟨rq, rfl, hcq, hrq⟩; obtain ⟨qa, qc, rfl, _, _, _⟩ := rdv_slice hrq; have hS2 := two_keep (by assumption) hcq)
              try go_wp2_with fail
              refine hK.out _ _ ?_ (fun hH => ?_)
              · assumption
              clear hK K
              try simp only [Act.put, List.setIfInBounds_toArray, List.set_cons_zero, List.set_cons_succ]
              refine wpAnyH_ready (rs := [12]) (by kernel_rfl) (by simp) ?_
              refine AllReadyH.cons rfl (fun K hK => ?_) AllReadyH.nil
              go_simp
              (go_at_call 44; refine (refCut_any (script f.lines g.lines) n _ _ (hrq.sub (fun _ _ h => h.elim)) SV.out n0 n1).mono ?_; rintro e wp ⟨rp, rfl, hcp, hrp⟩; obtain ⟨pa, pc, rfl, _, _, _⟩ := rdv_slice hrp; have hS3 := two_keep (by assumption) hcp)
              try go_wp2_with fail
              refine hK.out _ _ ?_ (fun hH => ?_)
              · assumption
              clear hK K
              try simp only [Act.put, List.setIfInBounds_toArray, List.set_cons_zero, List.set_cons_succ]
              refine' wpAnyH_take (i := 13) ?hi13 (by kernel_rfl) (by kernel_rfl) (by kernel_rfl) ?hQ13 (Or.inl ⟨?hw13, ?hy13⟩) (by assumption) ?_
              case hi13 => (simp only [List.getElem?_toArray, List.getElem?_cons_succ, List.getElem?_cons_zero]; rfl)
              case hQ13 => exact fun _ _ _ h => h
              case hw13 => rfl
              case hy13 => (intro w' hSw; (try dsimp only at hSw); go_simp; all_goals with_reducible rfl)
              try simp only [Act.put, List.setIfInBounds_toArray, List.set_cons_zero, List.set_cons_succ]
              refine wpAnyH_done (by kernel_rfl) ?_ _
              have hrr := hn.fresh (hrp.sub (O' := Old w3.heap.size) (fun k _ h => Nat.lt_of_lt_of_le h hcq.size))
              have hn := hn.never hH.1
              clear hrp hrq hlf hlg e1 d1 hH
              by_cases hcut : cutOf (script f.lines g.lines) n = []
              · have HCH : Hid (chg n x.path (look a x.path) (look b x.path) = []) := by rw [la, lb]; exact chg_none hcut
                rw [hcut] at hrr ⊢
                clear hcut la lb
                go_wp2_with fail
                go_roundw
                case rel => exact ⟨k + 1, L, by omega, by go_num, hn, by omega, by rw [flat_take HX.out, ← HL.out, HCH.out, List.append_nil]; exact rfl⟩
                case measure => simp [intOf] <;> omega
              · have HCH : Hid (chg n x.path (look a x.path) (look b x.path) = [⟨1, x.path, cutOf (script f.lines g.lines) n⟩]) := by rw [la, lb]; exact chg_some hcut
                have hpos : 0 < (cutOf (script f.lines g.lines) n).length := List.length_pos_iff.2 hcut
                clear hcut la lb
                have hy1 : Dat.rd _ (fun k => Never k ∨ _ = some k) _ (⟨1, x.path, cutOf (script f.lines g.lines) n⟩ : Change) := ⟨_, rfl, hpp, hrr⟩
                go_wp2_with (at_builtin; refine wpList_push (by rfl) _ _ 23 (by rfl) elemOk_change (O := Never) (l := L) (y := (⟨1, x.path, cutOf (script f.lines g.lines) n⟩ : Change)) (by rfl) (by rfl) (by rfl) hn.own hy1 (fun _ h => h.elim) hLl ?_; intro v' w9 hown2 hc2 hk2; have hn2 := hn.step1 hown2 hc2 hk2; clear hown2 hc2 hk2 hn hy1)
                go_roundw
                case rel => exact ⟨k + 1, L ++ [(⟨1, x.path, cutOf (script f.lines g.lines) n⟩ : Change)], by omega, by go_num, hn2, by rw [List.length_append]; simp; omega, by rw [flat_take HX.out, ← HL.out, HCH.out]; exact rfl⟩
                case measure => simp [intOf] <;> omega
        · obtain rfl : k = M.length := by omega
          go_wp2_with fail
          go_ret
          rw [List.take_length, ← HM.out] at HL
          exact ⟨_, rfl, hw, by rw [show refDiff a b n = L from HL.out.symm]; exact hn.own.rdv.sub (fun _ _ h => h.elim)⟩
end Go.Proofs.YteocmmejfnmjcaaGreatDoor
namespace Go.Proofs.YteocmmejfnmjcaaGreatDoor
open Go.RowKit

theorem algF_eq {t X D : List File} {p q : List Change} {n : Int} (hX : (applyR t p).2.2 = 0 → (applyR D q).2.2 = 0 → Tree X) : (if twoF t p q D = 0 then diffFault X (twoC t p q D) n else twoF t p q D) = behF t p q D n := by
  by_cases z : (applyR t p).2.2 = 0
  · have e1 : twoF t p q D = (applyR D q).2.2 := if_pos z
    have e2 : twoC t p q D = (applyR D q).1 := if_pos z
    by_cases y : (applyR D q).2.2 = 0
    · rw [e1, if_pos y, e2, behF_n z y]
      unfold rngF
      by_cases hr : n < 0 ∨ 1000 < n
      · rw [if_pos hr, diffFault_n (tree_iff.1 (hX z y)) (tree_iff.1 (apply_tree y).2) hr]
      · rw [if_neg hr, diffFault_0 (tree_iff.1 (hX z y)) (tree_iff.1 (apply_tree y).2) (by omega) (by omega)]
    · rw [e1, if_neg y, behF_q z y]
  · have e1 : twoF t p q D = (applyR t p).2.2 := if_neg z
    rw [e1, if_neg z, behF_p z]
theorem beh_zero {t D : List File} {p q : List Change} {n : Int} (h : behF t p q D n = 0) : (applyR t p).2.2 = 0 ∧ (applyR D q).2.2 = 0 ∧ 0 ≤ n ∧ n ≤ 1000 := by
  by_cases z : (applyR t p).2.2 = 0
  · by_cases y : (applyR D q).2.2 = 0
    · rw [behF_n z y] at h
      unfold rngF at h
      by_cases hr : n < 0 ∨ 1000 < n
      · rw [if_pos hr] at h; cases h
      · exact ⟨z, y, by omega, by omega⟩
    · rw [behF_q z y] at h; exact absurd h y
  · rw [behF_p z] at h; exact absurd h z
theorem algR_ok {t X D : List File} {p q : List Change} {n : Int} (h : behF t p q D n = 0) (hX : Tree X) : (if twoF t p q D = 0 then diffR X (twoC t p q D) n else []) = refDiff X (applyR D q).1 n := by
  obtain ⟨z, y, n0, n1⟩ := beh_zero h
  have e1 : twoF t p q D = 0 := by unfold twoF; rw [if_pos z, y]
  have e2 : twoC t p q D = (applyR D q).1 := if_pos z
  have hC := (apply_tree y).2
  rw [if_pos e1, e2, diffR_ok (diffFault_0 (tree_iff.1 hX) (tree_iff.1 hC) n0 n1), diff_same n hX.2.2 hC.2.2]
theorem algR_bad {t X D : List File} {p q : List Change} {n : Int} (h : behF t p q D n ≠ 0) (hX : (applyR t p).2.2 = 0 → (applyR D q).2.2 = 0 → Tree X) : (if twoF t p q D = 0 then diffR X (twoC t p q D) n else []) = [] := by
  by_cases e : twoF t p q D = 0
  · rw [if_pos e]
    have hf := algF_eq (n := n) hX
    rw [if_pos e] at hf
    exact diffR_bad (by rw [hf]; exact h)
  · rw [if_neg e]
set_option maxHeartbeats 8000000 in
set_option maxRecDepth 100000 in
theorem law_algebraIs (t : List File) (p q : List Change) (n : Int) (vt vp vq : Value) (w : World) (ht : Rdv w Never vt t) (hp : Rdv w Never vp p) (hq : Rdv w Never vq q) (hn : I64 n) (m : Int) (hm : w.cell? ⟨1, 0, none⟩ = some (.int .i64 m)) (hg : w.cell? ⟨0, 0, none⟩ = some errT) :
    Calls Tryz.prog 4 #[vt, vp, vq, .int .i64 n] w fun e w' => e = .returned (.bool true) ∧ Chg Never w w' := by
  go_enter Tryz.func4, Tryz.ntmps4
  go_wp2_with fail
  refine (behind_join t p q n _ _ _ _ ht hp hq hn).mono ?_
  rintro e w1 ⟨rb, rc, rfl, hw, hrb, hrc⟩
  go_upto_if 30 with fail
  go_cut [12] from 30 (fun u wx => Rdv wx Never u (joinRt t p q n) ∧ Hid (Chg Never w wx))
  case first =>
    by_cases z : behF t p q (applyR t p).1 n = 0
    · obtain ⟨z1, z2, n0, n1⟩ := beh_zero z
      have hX : Tree t := by first | exact (apply_tree z1).1 | exact (apply_tree z1).2
      have HC := Lib.hid (apply_tree z2).2
      have HX := Lib.hid hX
      have HR : Hid (joinRt t p q n = refDiff t (applyR (applyR t p).1 q).1 n) := algR_ok z hX
      have e1 : behB t p q (applyR t p).1 n = (applyR t p).1 := if_pos z
      have e2 : behC t p q (applyR t p).1 n = (applyR (applyR t p).1 q).1 := if_pos z
      rw [e1] at hrb
      rw [e2] at hrc
      have t0 : (behF t p q (applyR t p).1 n == 0) = true := by simp [z]
      clear z z1 z2 hX e1 e2
      go_wp2_with fail
      refine (refDiff_any t (applyR (applyR t p).1 q).1 n _ _ _ (ht.never hw) hrc (tree_iff.1 HX.out) (tree_iff.1 HC.out) n0 n1).mono ?_
      rintro e wd ⟨rd, rfl, hcd, hrd⟩
      rw [← HR.out] at hrd
      go_wp2_with fail
      go_meet
      case rel => exact ⟨hrd, hw.trans hcd⟩
    · have t0 : (behF t p q (applyR t p).1 n == 0) = false := by simp [z]
      have HR : Hid (joinRt t p q n = []) := algR_bad z (fun h1 h2 => by first | exact (apply_tree h1).1 | exact (apply_tree h1).2)
      clear z
      go_wp2_with fail
      go_meet
      case rel => exact ⟨by rw [HR.out]; exact rdv_nil _ _, hw⟩
  case rest =>
    clear hrb hrc hw
    obtain ⟨hwant, hw⟩ := hcut
    have hw := hw.out
    have HF : Hid (joinFt t p q n = behF t p q (applyR t p).1 n) := algF_eq (fun h1 h2 => by first | exact (apply_tree h1).1 | exact (apply_tree h1).2)
    go_wp2_with fail
    refine (alg_join_any t p q n _ _ _ _ (ht.never hw) (hp.never hw) (hq.never hw) hn m (hw.cellNever hm)).mono ?_
    rintro e wj ⟨rj, rfl, hcj, hrj⟩
    have hw := hw.trans hcj
    have hwant := hwant.never hcj
    rw [HF.out]
    clear hcj
    go_wp2_with fail
    refine (error_any _ _ _ (hw.cellNever hg)).mono ?_
    rintro e we ⟨rfl, hce⟩
    have hw := hw.trans hce
    have hwant := hwant.never hce
    have hrj := hrj.never hce
    rw [beq_self_eq_true]
    clear hce
    go_wp2_with fail
    refine (patches_any _ _ _ _ _ hrj hwant).mono ?_
    rintro e wp ⟨rfl, hcp⟩
    have hw := hw.trans hcp
    rw [decide_eq_true rfl]
    clear hcp hrj hwant
    go_wp2_with fail
    refine (behind_inter t p q n _ _ _ _ (ht.never hw) (hp.never hw) (hq.never hw) hn).mono ?_
    rintro e w5 ⟨rb2, rc2, rfl, hc5, hrb, hrc⟩
    have hw := hw.trans hc5
    clear hc5
    go_upto_if 65 with fail
    go_cut [12] from 65 (fun u wx => Rdv wx Never u (interR t p q n) ∧ Hid (Chg Never w wx))
    case first =>
      by_cases z : behF t p q t n = 0
      · obtain ⟨z1, z2, n0, n1⟩ := beh_zero z
        have hX : Tree (applyR t p).1 := by first | exact (apply_tree z1).1 | exact (apply_tree z1).2
        have HC := Lib.hid (apply_tree z2).2
        have HX := Lib.hid hX
        have HR : Hid (interR t p q n = refDiff (applyR t p).1 (applyR t q).1 n) := algR_ok z hX
        have e1 : behB t p q t n = (applyR t p).1 := if_pos z
        have e2 : behC t p q t n = (applyR t q).1 := if_pos z
        rw [e1] at hrb
        rw [e2] at hrc
        have t0 : (behF t p q t n == 0) = true := by simp [z]
        clear z z1 z2 hX e1 e2
        go_wp2_with fail
        refine (refDiff_any (applyR t p).1 (applyR t q).1 n _ _ _ (hrb) hrc (tree_iff.1 HX.out) (tree_iff.1 HC.out) n0 n1).mono ?_
        rintro e wd ⟨rd, rfl, hcd, hrd⟩
        rw [← HR.out] at hrd
        go_wp2_with fail
        go_meet
        case rel => exact ⟨hrd, hw.trans hcd⟩
      · have t0 : (behF t p q t n == 0) = false := by simp [z]
        have HR : Hid (interR t p q n = []) := algR_bad z (fun h1 h2 => by first | exact (apply_tree h1).1 | exact (apply_tree h1).2)
        clear z
        go_wp2_with fail
        go_meet
        case rel => exact ⟨by rw [HR.out]; exact rdv_nil _ _, hw⟩
    case rest =>
      clear hrb hrc hw
      obtain ⟨hwant, hw⟩ := hcut
      have hw := hw.out
      have HF : Hid (interF t p q n = behF t p q t n) := algF_eq (fun h1 h2 => by first | exact (apply_tree h1).1 | exact (apply_tree h1).2)
      go_wp2_with fail
      refine (alg_inter_any t p q n _ _ _ _ (ht.never hw) (hp.never hw) (hq.never hw) hn m (hw.cellNever hm)).mono ?_
      rintro e wj ⟨rj, rfl, hcj, hrj⟩
      have hw := hw.trans hcj
      have hwant := hwant.never hcj
      rw [HF.out]
      clear hcj
      go_wp2_with fail
      refine (error_any _ _ _ (hw.cellNever hg)).mono ?_
      rintro e we ⟨rfl, hce⟩
      have hw := hw.trans hce
      have hwant := hwant.never hce
      have hrj := hrj.never hce
      rw [beq_self_eq_true]
      clear hce
      go_wp2_with fail
      refine (patches_any _ _ _ _ _ hrj hwant).mono ?_
      rintro e wp ⟨rfl, hcp⟩
      have hw := hw.trans hcp
      rw [decide_eq_true rfl]
      clear hcp hrj hwant
      go_wp2_with fail
      refine (refSplitP_any p _ _ (hp.never hw)).mono ?_
      rintro e w6 ⟨r6, rfl, hc6, hr6⟩
      have hw := hw.trans hc6
      clear hc6
      go_wp2_with fail
      refine (split_any p _ _ (hp.never hw) m (hw.cellNever hm)).mono ?_
      rintro e w7 ⟨r7, rfl, hc7, hr7⟩
      have hw := hw.trans hc7
      have hr6 := hr6.never hc7
      clear hc7
      go_wp2_with fail
      refine (error_any _ _ _ (hw.cellNever hg)).mono ?_
      rintro e w8 ⟨rfl, hc8⟩
      have hw := hw.trans hc8
      have hr6 := hr6.never hc8
      have hr7 := hr7.never hc8
      rw [beq_self_eq_true]
      clear hc8
      go_wp2_with fail
      refine (series_any _ _ _ _ _ hr7 hr6).mono ?_
      rintro e w9 ⟨rfl, hc9⟩
      rw [decide_eq_true rfl]
      go_wp2_with fail
      go_ret
      exact ⟨rfl, hw.trans hc9⟩
end Go.Proofs.YteocmmejfnmjcaaGreatDoor
namespace Go.Proofs.YteocmmejfnmjcaaGreatDoor.lawAlgebraIs
open Go.ChangeShapes Go.WideShapes Go.ChangeAt Go.RowKit

set_option maxRecDepth 100000 in
theorem contract (H : Type) (enc : TypeId × Value → H) (W : World) (base : Nat) (args : Array Value) (ds gs : List (DataW H)) (before : List MemPlace)
    (hval : ∀ (j : Nat) t v, Tryz.f4.params[j]? = some t → args[j]? = some v → Value.okWide Tryz.prog W .any base t v)
    (hW : DataW.Whole enc Tryz.prog Tryz.f4.params.toList Rows.algebraIsSpec.vars false W args.toList ds gs before) (hk : Rows.uptoSmall H (ds ++ gs) = true) (hL : laidMetH Tryz.prog Rows.algebraIsUptoRow.laid W) (hS : W.ShapedOpen Tryz.prog) :
    Calls Tryz.prog 4 args W fun e W' => ∃ v, e = .returned v ∧ Rows.algebraIsSpec.post enc Tryz.prog Tryz.f4 false true false false W args v W' := by
  have hg := handle_of_laidTE hL
  obtain ⟨m, hm⟩ := maxlen_of hS
  have hW' := hW
  obtain ⟨p, q, hA0, hV, rfl, hfz, hnd⟩ := hW
  have hA : DataW.TrodAll enc Tryz.prog W 0 (fun _ => true) true Tryz.f4.params.toList args.toList ds p := hA0
  rw [Tryz.params4] at hA hval
  obtain ⟨v0, vs0, d0, ds0, p0, q0, hargs, rfl, rfl, h0, r0⟩ := trodAll_cons hA
  obtain ⟨v1, vs1, d1, ds1, p1, q1, rfl, rfl, rfl, h1, r1⟩ := trodAll_cons r0
  obtain ⟨v2, vs2, d2, ds2, p2, q2, rfl, rfl, rfl, h2, r2⟩ := trodAll_cons r1
  obtain ⟨v3, vs3, d3, ds3, p3, q3, rfl, rfl, rfl, h3, r3⟩ := trodAll_cons r2
  obtain ⟨rfl, rfl, rfl⟩ := trodAll_nil r3
  obtain rfl : args = #[v0, v1, v2, v3] := by cases args; simp_all
  obtain ⟨a0, len0, cap0, rfl⟩ := okWide_slice Tryz.underlying22 (hval 0 22 v0 rfl rfl)
  obtain ⟨a1, len1, cap1, rfl⟩ := okWide_slice Tryz.underlying23 (hval 1 23 v1 rfl rfl)
  obtain ⟨a2, len2, cap2, rfl⟩ := okWide_slice Tryz.underlying23 (hval 2 23 v2 rfl rfl)
  obtain ⟨u0, k0⟩ := h0
  obtain ⟨x0, hx0, hb0⟩ := opens_files _ _ _ _ _ _ _ _ _ _ k0
  obtain ⟨u1, k1⟩ := h1
  obtain ⟨x1, hx1, hb1⟩ := opens_changes _ _ _ _ _ _ _ _ _ _ k1
  obtain ⟨u2, k2⟩ := h2
  obtain ⟨x2, hx2, hb2⟩ := opens_changes _ _ _ _ _ _ _ _ _ _ k2
  obtain ⟨x3, rfl, rfl, rfl, wx3⟩ := open_int Tryz.underlying3 (hval 3 3 v3 rfl rfl) h3
  have hx3 := i64_of_wf wx3
  refine (law_algebraIs x0 x1 x2 x3 _ _ _ W hx0 hx1 hx2 hx3 m hm hg).mono fun e W' he => ?_
  obtain ⟨he, hc⟩ := he
  subst he
  exact ⟨_, rfl, post_law hW' rfl rfl Tryz.underlying4 rfl laidOut (by decide +kernel) hc⟩

theorem reads (os : Os) {H : Type} (enc : TypeId × Value → H) : ∃ places, DataW.whole enc Tryz.prog ((laidWorldT os).forCall (fun _ _ => 0) ⟨#[], #[.slice none 0 0, .slice none 0 0, .slice none 0 0, .int .i64 0], []⟩).memory Tryz.f4.params.toList Rows.algebraIsSpec.vars false (#[.slice none 0 0, .slice none 0 0, .slice none 0 0, .int .i64 0] : Array Value).toList 8 = some ([.nil, .nil, .nil, .lit (.int .i64 0)], [], places) :=
  ⟨[], by kernel_rfl⟩
set_option maxRecDepth 100000 in
theorem liftedUpto (os : Os) (started : os.Started) (H : Type) (enc : TypeId × Value → H) (F : Stop.Interp) :
    ReturnsInHanded {} Tryz.checked os 4 .any ((Rows.OpenSpec.upto Rows.algebraIsSpec).preRow enc Tryz.prog Tryz.f4 Rows.algebraIsUptoRow.domain false Rows.algebraIsUptoRow.laid) (((Rows.OpenSpec.upto Rows.algebraIsSpec).at F).post enc Tryz.prog Tryz.f4 false true false false) := by
  obtain ⟨places, hx⟩ := reads os enc
  refine returnsInHanded_of_row (C := Tryz.checked) (s := Rows.OpenSpec.upto Rows.algebraIsSpec) own started (by kernel_rfl) Tryz.func4
    (witness_row_at (enc := enc) (C := Tryz.checked) false (laidWorldT os) #[.slice none 0 0, .slice none 0 0, .slice none 0 0, .int .i64 0] rfl (by kernel_rfl) (by kernel_rfl) (by kernel_rfl)
      (OpenSpec.preRow_of_cond 8 hx (by kernel_rfl) (fun k hk => by cases hk; kernel_rfl) (by kernel_rfl) (laidWorldTE_met os _))) ?_
  intro W base args ds gs before hval hW _ hcond _ hL hS _
  exact contract H enc W base args ds gs before hval hW (hcond _ rfl) hL hS

theorem saidUpto : Rows.AlgebraIsUptoSaid :=
  OpenClaim.holds_of_cond 4 Tryz.f4 rfl rfl rfl rfl rfl rfl rfl ⟨rfl, rfl, rfl, rfl, rfl⟩ rfl rfl rfl rfl rfl (by kernel_rfl) Tryz.func4 (by kernel_rfl)
    (of_decide_eq_true (by kernel_rfl)) (by unfold Func.isWrapper; first | (rw [if_pos (by decide +kernel)]; kernel_rfl) | (rw [if_neg (by decide +kernel)]; exact ⟨rfl, rfl⟩))
    (fun os started H enc _ F => by rw [OpenClaim.pre_eq_preRow]; exact liftedUpto os started H enc F)

theorem plain (f : FuncId) (fn : Func) (hf : Tryz.pinned.checked.prog.funcNamed "handstitch/handstitchlaw2.AlgebraIs" = some f) (hfn : Tryz.pinned.checked.prog.funcs[f]? = some fn) :
    true = Tryz.pinned.checked.prog.looks [] ∧ ∀ (j : Nat) t, fn.params[j]? = some t → Tryz.pinned.checked.prog.wantsStandIn t = false := by
  obtain rfl : f = 4 := Option.some.inj ((show Tryz.prog.funcNamed "handstitch/handstitchlaw2.AlgebraIs" = some 4 by kernel_rfl).symm.trans hf) |>.symm
  obtain rfl : fn = Tryz.f4 := (Option.some.inj (Tryz.func4.symm.trans hfn)).symm
  refine ⟨by kernel_rfl, fun j t ht => ?_⟩
  rw [Tryz.params4] at ht
  have hm := Array.mem_of_getElem? ht
  simp only [List.mem_toArray, List.mem_cons, List.not_mem_nil, or_false] at hm
  clear ht
  repeat' (first | (rcases hm with rfl | hm) | subst hm)
  all_goals exact (show Tryz.prog.wantsStandIn _ = false by kernel_rfl)

theorem cardUpto : Rows.AlgebraIsUptoCardSaid :=
  Claim7.holds_tied_plain_at .later [] _ _ _ _ saidUpto (fun _ h => by cases h) (by kernel_rfl) (fun _ h => by cases h) algebraIsUpto_row_tie rfl ⟨rfl, rfl⟩ (by kernel_rfl) rfl plain (by kernel_rfl)
end Go.Proofs.YteocmmejfnmjcaaGreatDoor.lawAlgebraIs
