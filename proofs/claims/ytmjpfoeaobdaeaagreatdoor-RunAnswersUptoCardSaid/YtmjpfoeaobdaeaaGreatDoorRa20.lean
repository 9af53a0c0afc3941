/-
  PARTS: THE WALK of the document's CutOf.; THE WALK of the document's DiffOf.; THE WALK of the document's Line: same.; ROWS OF BYTES: an element's cell; as a string, and a string as bytes.; THE WALK of the document's HunksText (handstitchref2).
-/
import Derived.Test.YtmjpfoeaobdaeaaGreatDoorRa2
import Derived.Test.YtmjpfoeaobdaeaaGreatDoorRa5
import Derived.Test.YtmjpfoeaobdaeaaGreatDoorRa7
import Derived.Test.YtmjpfoeaobdaeaaGreatDoorRa19
import Derived.Deep.RegionHeld3
import Derived.Test.YtmjpfoeaobdaeaaGreatDoorRa11
import Derived.Test.YtmjpfoeaobdaeaaGreatDoorRa9
import Derived.Test.YtmjpfoeaobdaeaaGreatDoorRa16
import Derived.Test.YtmjpfoeaobdaeaaGreatDoorRa14
import Derived.Test.YtmjpfoeaobdaeaaGreatDoorRa1
import Derived.Laws.IdiomStrings
import Derived.Laws.BytesArg
set_option linter.unusedVariables false
set_option linter.unusedSimpArgs false
namespace Go.Proofs.YtmjpfoeaobdaeaaGreatDoor
open Go.RowKit

theorem step_push_last {P : Program} {ops : Array Oper} {o : Oper} {a : Act} {K : Act → World → Prop} {Q : Exit → Act → World → Prop} {E : Prop} (hgd : o.guard = none) (s x : Operand) (t : TypeId)
    (ho : o.op = .call { callee := .builtin .append, args := #[s, x], argTypes := #[t, t] }) {e : TypeId} (em : TypeId) (hP : ElemOk P t e 3) {w0 : World} {O : Nat → Prop} {v : Value} {l : List Hunk} {old new : Int} {E' : TypeId} {B : Nat}
    (hs : a.eval s = v) (hx : a.eval x = .slice (some ⟨B, 0, none⟩) 1 1) (hB : B = w0.heap.size)
    (hown : Own e w0 O v l) (hO : ∀ k, O k → k < w0.heap.size) (hlen : l.length ≤ 1000000000)
    (h : ∀ v' w' xs, OwnLast e em w' O v' l ⟨old, new, []⟩ (.slice none 0 0) xs → Chg (OwnB v) w0 w' → K (a.put o.dst v') w') :
    if Region.wanted o (yielded ops a.tmps) = true then Oper.wp P o a (w0.alloc (.cells #[.int .i64 old, .int .i64 new, .slice none 0 0] E')) K Q else E := by
  have hw : Region.wanted o (yielded ops a.tmps) = true := by simp [Region.wanted, hgd]
  rw [if_pos hw]
  subst hB
  obtain ⟨v', w', hrun, ⟨xs, h1⟩, h2⟩ := run_push_last (ty := o.type) (em := em) (o := old) (n := new) hP E' hown hO hlen
  unfold Oper.wp execOp
  simp only [ho, resolve, invoke, builtin, Sem.run_bind, Sem.run_pure, Result.andThen_ok, List.map_toArray, List.map_cons, List.map_nil, hs, hx, hrun]
  exact h v' w' xs h1 h2
theorem setCell_same {w : World} {p : Addr} {v : Value} (h : w.cell? p = some v) : w.setCell p v = w := by
  have e : (w.setCell p v).heap = w.heap := by
    unfold World.setCell World.cell? at *
    apply Array.ext_getElem?
    intro i
    simp only [Array.getElem?_modify]
    by_cases hi : p.block = i
    · subst hi
      rw [if_pos rfl]
      cases hb : w.heap[p.block]? with
      | none => rfl
      | some ob =>
        rw [hb] at h
        cases ob with
        | cells c e f =>
          simp only at h
          by_cases hs : p.spot.isSome = true
          · rw [if_pos hs] at h; cases h
          · rw [if_neg hs] at h
            simp only [Option.map_some, hs]
            congr 2
            apply Array.ext_getElem?
            intro j
            simp only [Bool.false_eq_true, if_false]
            rw [Array.getElem?_setIfInBounds]
            by_cases hj : p.off = j
            · subst hj
              rw [if_pos rfl]
              split
              · exact h.symm
              · rw [Array.getElem?_eq_none (by omega)]
            · rw [if_neg hj]
        | _ => rfl
    · rw [if_neg hi]
  have : w.setCell p v = { w with heap := (w.setCell p v).heap } := rfl
  rw [this, e]
set_option maxHeartbeats 4000000 in
set_option maxRecDepth 100000 in
theorem refCut_any (s : List Mark) (n : Int) (v : Value) (w : World) (h : Rdv w Never v s) (hz : scriptFault s = 0) (hn : 0 ≤ n) (hn' : n ≤ 1000) :
    Calls Tryz.prog 53 #[v, .int .i64 n] w fun e w' => ∃ r, e = .returned r ∧ Chg Never w w' ∧ Rdv w' (Old w.heap.size) r (cutOf s n) := by
  have hl := scriptFault_len hz
  have HZ := Lib.hid hz
  clear hz
  obtain ⟨a, cap, rfl, h1, h2, h3⟩ := rdv_slice h
  unfold maxLen at h2
  go_enter Tryz.func53, Tryz.ntmps53
  go_wp2_with fail
  go_loopw [5, 6, 7] (fun o wa i wr => ∃ k : Nat, k ≤ s.length ∧ i = .int .i64 k ∧ wa = .bool (wasIn s n k) ∧ Chg Never w wr ∧ CutOwn wr (Old w.heap.size) o (cutTo s n k) (wasIn s n k)) (fun _ _ i _ => s.length - (intOf i).toNat)
  case atStart => exact ⟨0, Nat.zero_le _, rfl, rfl, Chg.refl _ _, own_nil _ _ _⟩
  case round =>
    obtain ⟨k, hk, rfl, rfl, hc, hown⟩ := hrel
    by_cases hlt : k < s.length
    · obtain ⟨x, hx⟩ : ∃ x, s[k]? = some x := ⟨s[k], by simp [hlt]⟩
      obtain ⟨b, off, rfl, _, _, c0, c1, s0, s1, hxs⟩ := elems_mark h3 hx
      have C0 := Lib.hid c0
      have C1 := Lib.hid c1
      have c0 := hc.cellNever c0
      have c1 := hc.cellNever c1
      have hlen := cutTo_len (s := s) hn k hk
      have HX := Lib.hid hx
      have h0 := inTo_zero (n := n) hx
      obtain ⟨sg, tx⟩ := x
      simp only at C0 C1 c0 c1 s0 s1 hxs
      have H0 := Lib.hid h0
      clear hx h0
      go_wp2_with fail
      go_loop [8, 9] (fun inn kk => ∃ j : Nat, j ≤ s.length ∧ kk = .int .i64 j ∧ inn = .bool (inTo s n k j)) (fun _ kk => s.length - (intOf kk).toNat)
      case atStart => exact ⟨0, Nat.zero_le _, rfl, by rw [H0.out]; rfl⟩
      case round =>
        obtain ⟨j, hj, rfl, rfl⟩ := hrel
        by_cases hjl : j < s.length
        · obtain ⟨y, hy⟩ : ∃ y, s[j]? = some y := ⟨s[j], by simp [hjl]⟩
          obtain ⟨b', off', hbo, _, _, g0, g1, _, _, _⟩ := elems_mark h3 hy
          simp only [Option.some.injEq, Addr.mk.injEq, and_true] at hbo
          obtain ⟨rfl, rfl⟩ := hbo
          have g0 := hc.cellNever g0
          have HY := Lib.hid hy
          clear hy g1
          by_cases p1 : y.sign = 32
          · have t1 : (y.sign != 32) = false := by simp [p1]
            have HE := Lib.hid (inTo_out (n := n) (k := k) HY.out (.inl p1))
            go_wp2_with fail
            go_round
            case rel => exact ⟨j + 1, by omega, by go_num, by rw [HE.out]⟩
            case measure => simp [intOf] <;> omega
          · have t1 : (y.sign != 32) = true := by simp [p1]
            by_cases p2 : (j : Int) - k ≤ n
            · by_cases p3 : (k : Int) - j ≤ n
              · have HE := Lib.hid (inTo_in (n := n) (k := k) HY.out p1 p2 p3)
                go_wp2_with fail
                go_round
                case rel => exact ⟨j + 1, by omega, by go_num, by rw [HE.out]⟩
                case measure => simp [intOf] <;> omega
              · have HE := Lib.hid (inTo_out (n := n) (k := k) HY.out (.inr (.inr p3)))
                go_wp2_with fail
                go_round
                case rel => exact ⟨j + 1, by omega, by go_num, by rw [HE.out]⟩
                case measure => simp [intOf] <;> omega
            · have HE := Lib.hid (inTo_out (n := n) (k := k) HY.out (.inr (.inl p2)))
              go_wp2_with fail
              go_round
              case rel => exact ⟨j + 1, by omega, by go_num, by rw [HE.out]⟩
              case measure => simp [intOf] <;> omega
        · obtain rfl : j = s.length := by omega
          rw [inTo_end hn hlt]
          cases hin : inAt s n k with
          | false =>
            have HF := Lib.hid (cutTo_out HX.out hin)
            have HIN := Lib.hid hin
            have hown := hown.own
            clear hin
            go_wp2_with fail
            go_roundw
            case rel => exact ⟨k + 1, by omega, by go_num, by rw [wasIn_succ, HIN.out], hc, by rw [wasIn_succ, HIN.out, CutOwn, if_neg (by decide), HF.out]; exact hown⟩
            case measure => simp [intOf] <;> omega
          | true =>
            have HIN := Lib.hid hin
            cases hwas : wasIn s n k with
            | true =>
              have hown' := hown
              unfold CutOwn at hown'
              rw [if_pos hwas] at hown'
              obtain ⟨init, q, mv, xs, HE, hlast⟩ := hown'
              have HEE := Lib.hid HE
              obtain ⟨g, gcap, rfl, hg1, hg2, hg3, hg4, m2, m0, m1, hfr⟩ := hlast.shape
              have hil : init.length ≤ 120 := by
                rw [HE, List.length_append] at hlen
                simp at hlen
                omega
              have hlm : q.marks.length ≤ 1000000000 := by
                have := cut_marks hn hk hwas HE
                omega
              have HF := Lib.hid (cutTo_more HX.out hin hwas HE)
              have z1 : (init.length : Int) + 1 - 1 = init.length := by omega
              have HW := Lib.hid hwas
              clear HE hin hwas hown hlen
              obtain ⟨ma, mn, mc, rfl⟩ := own_isSlice hlast.marks
              have hBX := Blk3.new wr 146 (.int .i64 q.old) (.int .i64 q.new) (.slice ma mn mc)
              have hAX : Chg Never wr (wr.alloc (.cells #[.int .i64 q.old, .int .i64 q.new, .slice ma mn mc] 146)) := (Chg.refl Never wr).alloc _
              have hgge : w.heap.size ≤ g := by unfold Old at hg2; omega
              have hBw : w.heap.size ≤ wr.heap.size := hc.size
              have hgl : g < wr.heap.size := (hlast.row.lt g rfl).2
              have hown4 := hlast.marks.keep (O'' := fun j => (Old w.heap.size j ∨ (Value.slice (some ⟨g, 0, none⟩) (init.length + 1) gcap).ownBlock = some j) ∨ j = wr.heap.size) hAX.drew (fun _ _ hh => hh.elim) (by rintro j hj (hh | rfl); exact hh; exact absurd hj (Nat.lt_irrefl _))
              have hgM : ¬ OwnB (.slice ma mn mc) g := by
                obtain ⟨_, _, qq, _⟩ := hown4
                exact fun hh => qq g hh (.inl (.inr rfl))
              have hBM : ¬ OwnB (.slice ma mn mc) wr.heap.size := by
                obtain ⟨_, _, qq, _⟩ := hown4
                exact fun hh => qq _ hh (.inr rfl)
              have hBX := hBX.keep (O := Never) (Chg.refl Never _).drew (fun h => h)
              have hAX := hAX.drew
              have c0 := (hc.trans hAX).cellNever C0.out
              have c1 := (hc.trans hAX).cellNever C1.out
              have hO : ∀ j, ((Old w.heap.size j ∨ (Value.slice (some ⟨g, 0, none⟩) (init.length + 1) gcap).ownBlock = some j) ∨ j = wr.heap.size) → j < (wr.alloc (.cells #[.int .i64 q.old, .int .i64 q.new, .slice ma mn mc] 146)).drew.heap.size := by
                have e : (wr.alloc (.cells #[.int .i64 q.old, .int .i64 q.new, .slice ma mn mc] 146)).drew.heap.size = wr.heap.size + 1 := World.size_alloc _ _
                rw [e]
                rintro j ((hh | hh) | rfl)
                · unfold Old at hh; omega
                · have : g = j := by injection hh
                  omega
                · omega
              obtain ⟨b0, b1, b2⟩ := hBX.cell
              have b3 := hBX.free
              have hBlt := hBX.lt
              have hglt : g < _ := Nat.lt_of_lt_of_le hgl hAX.size
              have m0' := hAX.cellNever m0
              have m1' := hAX.cellNever m1
              have m2' := hAX.cellNever m2
              have hfr' : ∀ j, _ = false := fun j => (hAX.frozen (p := ⟨g, j, none⟩) hgl (fun x => x)).trans (hfr j)
              have hgBn : g ≠ wr.heap.size := by omega
              go_wp2_with fail
              clear m0 m1 m2 hfr
              generalize wr.alloc (.cells #[.int .i64 q.old, .int .i64 q.new, .slice ma mn mc] 146) = w4 at hBX hAX c0 c1 hO hBlt hglt b0 b1 b2 b3 m0' m1' m2' hfr' hown4 ⊢
              generalize hBe : wr.heap.size = B at hBX hAX hO hBlt b0 b1 b2 b3 hgBn hBM hown4 hgl hBw ⊢
              have HBE := Lib.hid hBe
              clear hBe
              have hBlt2 : B < w4.heap.size := hBlt
              have b2w : w4.cell? ⟨B, 2, none⟩ = some (.slice ma mn mc) := b2
              go_region_law ((refine step_push (by rfl) _ _ 102 (by rfl) elemOk_mark (l := (q).marks) (y := ⟨sg, tx⟩) (by rfl) (by rfl) (by simp) hown4 (rd_mark _ _ sg tx s0 s1 hxs) hO hlm ?_; intro v' w5 hown2 hc2 hk2; obtain ⟨ad, nn, cc, rfl⟩ := own_slice hk2; have hB5 := hBX.keep hc2 hBM; obtain ⟨b0', b1', b2'⟩ := hB5.cell; have b3' := hB5.free))
              all_goals
                have hB6 := hB5.set2 (.slice (some ad) nn cc)
                obtain ⟨k0, k1, k2⟩ := hB6.cell
                have hCB : Chg (fun k => k = B) w5 (w5.setCell ⟨B, 2, none⟩ (.slice (some ad) nn cc)) := (Chg.refl (fun k => k = B) w5).setCell (p := ⟨B, 2, none⟩) (.inr rfl) _
                have n0 := hCB.cell (p := ⟨g, init.length * 3, none⟩) (hc2.cell (p := ⟨g, init.length * 3, none⟩) m0' hgM) hgBn
                have n1 := hCB.cell (p := ⟨g, init.length * 3 + 1, none⟩) (hc2.cell (p := ⟨g, init.length * 3 + 1, none⟩) m1' hgM) hgBn
                have n2 := hCB.cell (p := ⟨g, init.length * 3 + 2, none⟩) (hc2.cell (p := ⟨g, init.length * 3 + 2, none⟩) m2' hgM) hgBn
                have hgl5 : g < w5.heap.size := Nat.lt_of_lt_of_le hglt hc2.size
                have nf := fun j => (hCB.frozen (p := ⟨g, j, none⟩) hgl5 hgBn).trans ((hc2.frozen (p := ⟨g, j, none⟩) hglt hgM).trans (hfr' j))
                have S0 := setCell_same n0
                have S1 := setCell_same n1
                have hown6 := hown2.keep (O'' := fun j => Old w.heap.size j ∨ (Value.slice (some ⟨g, 0, none⟩) (init.length + 1) gcap).ownBlock = some j) hCB (fun _ _ h => .inr h) (fun _ _ h => .inl h)
                have hc6 : Chg (OwnB (.slice ma mn mc)) wr (w5.setCell ⟨B, 2, none⟩ (.slice (some ad) nn cc)) := (((hAX.mono (fun _ _ h => h.elim)).trans hc2).setCell (p := ⟨B, 2, none⟩) (.inl (Nat.le_of_eq HBE.out)) _)
                have hst := OwnLast.stored hlast hown6 hc6 (by
                  obtain ⟨kb, q1, q2⟩ := hk2
                  exact ⟨kb, q1, q2.imp_right (Nat.le_trans hAX.size)⟩)
                have hcW : Chg Never w (w5.setCell ⟨B, 2, none⟩ (.slice (some ad) nn cc)) := hc.trans' hc6 (fun i hi hh => by
                  obtain ⟨_, _, qq, _⟩ := hown4
                  exact qq i hh (.inl (.inl hi)))
                clear hB5 hB6 hCB hown2 hown4 hown6 hc6 hc2 hk2 hlast hBX hAX hO b0 b1 b2 b3 b2w m0' m1' m2' hfr' b0' b1' b2' b3' hc
                go_wp2_with fail
                go_roundw
                case rel => exact ⟨k + 1, by omega, by go_num, by rw [wasIn_succ, HIN.out], hcW.setCell (.inl hgge) _, by rw [wasIn_succ, HIN.out, CutOwn, if_pos rfl]; exact ⟨_, _, _, _, HF.out, hst⟩⟩
                case measure => simp [intOf] <;> omega
            | false =>
              have HW := Lib.hid hwas
              have hown' := hown
              unfold CutOwn at hown'
              rw [if_neg (by rw [hwas]; decide)] at hown'
              have HF := Lib.hid (cutTo_new HX.out hin hwas)
              have HLK : (cutTo s n k).length ≤ 120 := by omega
              generalize cutTo s n k = init at HF hown' HLK
              obtain ⟨sb, z0, z1, hrunS, hsub⟩ := slice_gen (P := Tryz.prog) (t := 102) (by kernel_rfl) size_mark h 0 k (Nat.zero_le _) (by omega)
              have hrunS := fun (wx : World) => hrunS k wx rfl rfl
              clear z0 z1 hwas hin hown hlen
              rw [Nat.sub_zero, Nat.sub_zero] at hrunS hsub
              rw [List.drop_zero] at hsub
              have HTF := Lib.hid (scriptFault_sub (m := s.take k) HZ.out (fun x hx => List.mem_of_mem_take hx) (by rw [List.length_take]; omega))
              have hTL : (s.take k).length = k := by rw [List.length_take]; omega
              have ho1 : oldN (s.take k) ≤ k := Nat.le_trans (oldN_le _) (by omega)
              have hn1 : newN (s.take k) ≤ k := Nat.le_trans (newN_le _) (by omega)
              go_wp2_with fail
              refine wp_region_held_drew (S := fun w' => Chg Never w w') (by kernel_rfl) hc.drew (fun hH => ?_)
              refine' tk 0 ?_
              refine' tk 1 ?_
              refine' tk 2 ?_
              refine' tk 3 ?_
              refine' tk 6 ?_
              refine' tk 7 ?_
              refine' tk 8 ?_
              refine wpAnyH_ready (rs := [4]) (by kernel_rfl) (by simp) ?_
              refine AllReadyH.cons rfl (fun K hK => ?_) AllReadyH.nil
              go_simp
              (go_at_call 90; refine (refOld_any (s.take k) _ _ (hsub.never hH) HTF.out).mono ?_; rintro e wq ⟨rq, rfl, hcq, hrq⟩; have hrO := hrq.sub (O' := Never) (fun _ _ h => h.elim); clear hrq; obtain ⟨oa, oc, rfl, _, _, _⟩ := rdv_slice hrO; have hS2 := hH.trans hcq; clear hH)
              try go_wp2_with fail
              refine hK.out _ _ ?_ (fun hH => ?_)
              · assumption
              clear hK K
              try simp only [Act.put, List.setIfInBounds_toArray, List.set_cons_zero, List.set_cons_succ]
              refine' tk 5 ?_
              refine wpAnyH_ready (rs := [9]) (by kernel_rfl) (by simp) ?_
              refine AllReadyH.cons rfl (fun K hK => ?_) AllReadyH.nil
              go_simp
              (go_at_call 91; refine (refNew_any (s.take k) _ _ (hsub.never hH) HTF.out).mono ?_; rintro e wq2 ⟨rq2, rfl, hcq2, hrq2⟩; have hrN := hrq2.sub (O' := Never) (fun _ _ h => h.elim); clear hrq2; obtain ⟨na, nc, rfl, _, _, _⟩ := rdv_slice hrN; have hS3 := hH.trans hcq2; clear hH)
              try go_wp2_with fail
              refine hK.out _ _ ?_ (fun hH => ?_)
              · assumption
              clear hK K
              try simp only [Act.put, List.setIfInBounds_toArray, List.set_cons_zero, List.set_cons_succ]
              refine' tk 10 ?_
              refine' tk 11 ?_
              refine wpAnyH_ready (rs := [12]) (by kernel_rfl) (by simp) ?_
              refine AllReadyH.cons rfl (fun K hK => ?_) AllReadyH.nil
              go_simp
              refine hK.out _ _ (hH.alloc _) (fun hH2 => ?_)
              clear hK K
              try simp only [Act.put, List.setIfInBounds_toArray, List.set_cons_zero, List.set_cons_succ]
              have hq := ((Chg.refl Never wr).drew.trans hcq).trans hcq2
              have hownq := hown'.never hq
              refine wpAnyH_ready (rs := [13]) (by kernel_rfl) (by simp) ?_
              refine AllReadyH.cons rfl (fun K hK => ?_) AllReadyH.nil
              refine step_push_last (by rfl) _ _ 97 (by rfl) 148 elemOk_hunk (by rfl) (by rfl) (by simp) hownq (old_lt hH) (by omega) ?_
              intro v' wp xs hlast hc4
              obtain ⟨g, gcap, rfl, hg1, hg2, hg3, hg4, m2, m0, m1, hfr⟩ := hlast.shape
              have hcn : Chg Never w wp := own_step hH hownq hc4
              refine hK.out _ _ hcn (fun _ => ?_)
              clear hK K hq hownq hown' hH hH2 hcq hcq2 hc4
              try simp only [Act.put, List.setIfInBounds_toArray, List.set_cons_zero, List.set_cons_succ]
              refine' tk 14 ?_
              refine wpAnyH_done (by kernel_rfl) ?_ _
              clear hc
              have hc := hcn
              clear hcn
              have hil := HLK
              have hlm : ([] : List Mark).length ≤ 1000000000 := by simp
              have z1 : (init.length : Int) + 1 - 1 = init.length := by omega
              have hBX := Blk3.new wp 146 (.int .i64 ((those (s.take k) 43).length : Int)) (.int .i64 ((those (s.take k) 45).length : Int)) (.slice none 0 0)
              have hAX : Chg Never wp (wp.alloc (.cells #[.int .i64 ((those (s.take k) 43).length : Int), .int .i64 ((those (s.take k) 45).length : Int), .slice none 0 0] 146)) := (Chg.refl Never wp).alloc _
              have hgge : w.heap.size ≤ g := by unfold Old at hg2; omega
              have hBw : w.heap.size ≤ wp.heap.size := hc.size
              have hgl : g < wp.heap.size := (hlast.row.lt g rfl).2
              have hown4 := hlast.marks.keep (O'' := fun j => (Old w.heap.size j ∨ (Value.slice (some ⟨g, 0, none⟩) (init.length + 1) gcap).ownBlock = some j) ∨ j = wp.heap.size) hAX.drew (fun _ _ hh => hh.elim) (by rintro j hj (hh | rfl); exact hh; exact absurd hj (Nat.lt_irrefl _))
              have hgM : ¬ OwnB (.slice none 0 0) g := by
                obtain ⟨_, _, qq, _⟩ := hown4
                exact fun hh => qq g hh (.inl (.inr rfl))
              have hBM : ¬ OwnB (.slice none 0 0) wp.heap.size := by
                obtain ⟨_, _, qq, _⟩ := hown4
                exact fun hh => qq _ hh (.inr rfl)
              have hBX := hBX.keep (O := Never) (Chg.refl Never _).drew (fun h => h)
              have hAX := hAX.drew
              have c0 := (hc.trans hAX).cellNever C0.out
              have c1 := (hc.trans hAX).cellNever C1.out
              have hO : ∀ j, ((Old w.heap.size j ∨ (Value.slice (some ⟨g, 0, none⟩) (init.length + 1) gcap).ownBlock = some j) ∨ j = wp.heap.size) → j < (wp.alloc (.cells #[.int .i64 ((those (s.take k) 43).length : Int), .int .i64 ((those (s.take k) 45).length : Int), .slice none 0 0] 146)).drew.heap.size := by
                have e : (wp.alloc (.cells #[.int .i64 ((those (s.take k) 43).length : Int), .int .i64 ((those (s.take k) 45).length : Int), .slice none 0 0] 146)).drew.heap.size = wp.heap.size + 1 := World.size_alloc _ _
                rw [e]
                rintro j ((hh | hh) | rfl)
                · unfold Old at hh; omega
                · have : g = j := by injection hh
                  omega
                · omega
              obtain ⟨b0, b1, b2⟩ := hBX.cell
              have b3 := hBX.free
              have hBlt := hBX.lt
              have hglt : g < _ := Nat.lt_of_lt_of_le hgl hAX.size
              have m0' := hAX.cellNever m0
              have m1' := hAX.cellNever m1
              have m2' := hAX.cellNever m2
              have hfr' : ∀ j, _ = false := fun j => (hAX.frozen (p := ⟨g, j, none⟩) hgl (fun x => x)).trans (hfr j)
              have hgBn : g ≠ wp.heap.size := by omega
              go_wp2_with fail
              clear m0 m1 m2 hfr
              generalize wp.alloc (.cells #[.int .i64 ((those (s.take k) 43).length : Int), .int .i64 ((those (s.take k) 45).length : Int), .slice none 0 0] 146) = w4 at hBX hAX c0 c1 hO hBlt hglt b0 b1 b2 b3 m0' m1' m2' hfr' hown4 ⊢
              generalize hBe : wp.heap.size = B at hBX hAX hO hBlt b0 b1 b2 b3 hgBn hBM hown4 hgl hBw ⊢
              have HBE := Lib.hid hBe
              clear hBe
              have hBlt2 : B < w4.heap.size := hBlt
              have b2w : w4.cell? ⟨B, 2, none⟩ = some (.slice none 0 0) := b2
              go_region_law ((refine step_push (by rfl) _ _ 102 (by rfl) elemOk_mark (l := ((⟨((those (s.take k) 43).length : Int), ((those (s.take k) 45).length : Int), []⟩ : Hunk)).marks) (y := ⟨sg, tx⟩) (by rfl) (by rfl) (by simp) hown4 (rd_mark _ _ sg tx s0 s1 hxs) hO hlm ?_; intro v' w5 hown2 hc2 hk2; obtain ⟨ad, nn, cc, rfl⟩ := own_slice hk2; have hB5 := hBX.keep hc2 hBM; obtain ⟨b0', b1', b2'⟩ := hB5.cell; have b3' := hB5.free))
              all_goals
                have hB6 := hB5.set2 (.slice (some ad) nn cc)
                obtain ⟨k0, k1, k2⟩ := hB6.cell
                have hCB : Chg (fun k => k = B) w5 (w5.setCell ⟨B, 2, none⟩ (.slice (some ad) nn cc)) := (Chg.refl (fun k => k = B) w5).setCell (p := ⟨B, 2, none⟩) (.inr rfl) _
                have n0 := hCB.cell (p := ⟨g, init.length * 3, none⟩) (hc2.cell (p := ⟨g, init.length * 3, none⟩) m0' hgM) hgBn
                have n1 := hCB.cell (p := ⟨g, init.length * 3 + 1, none⟩) (hc2.cell (p := ⟨g, init.length * 3 + 1, none⟩) m1' hgM) hgBn
                have n2 := hCB.cell (p := ⟨g, init.length * 3 + 2, none⟩) (hc2.cell (p := ⟨g, init.length * 3 + 2, none⟩) m2' hgM) hgBn
                have hgl5 : g < w5.heap.size := Nat.lt_of_lt_of_le hglt hc2.size
                have nf := fun j => (hCB.frozen (p := ⟨g, j, none⟩) hgl5 hgBn).trans ((hc2.frozen (p := ⟨g, j, none⟩) hglt hgM).trans (hfr' j))
                have S0 := setCell_same n0
                have S1 := setCell_same n1
                have hown6 := hown2.keep (O'' := fun j => Old w.heap.size j ∨ (Value.slice (some ⟨g, 0, none⟩) (init.length + 1) gcap).ownBlock = some j) hCB (fun _ _ h => .inr h) (fun _ _ h => .inl h)
                have hc6 : Chg (OwnB (.slice none 0 0)) wp (w5.setCell ⟨B, 2, none⟩ (.slice (some ad) nn cc)) := (((hAX.mono (fun _ _ h => h.elim)).trans hc2).setCell (p := ⟨B, 2, none⟩) (.inl (Nat.le_of_eq HBE.out)) _)
                have hst := OwnLast.stored hlast hown6 hc6 (by
                  obtain ⟨kb, q1, q2⟩ := hk2
                  exact ⟨kb, q1, q2.imp_right (Nat.le_trans hAX.size)⟩)
                have hcW : Chg Never w (w5.setCell ⟨B, 2, none⟩ (.slice (some ad) nn cc)) := hc.trans' hc6 (fun i hi hh => by
                  obtain ⟨_, _, qq, _⟩ := hown4
                  exact qq i hh (.inl (.inl hi)))
                clear hB5 hB6 hCB hown2 hown4 hown6 hc6 hc2 hk2 hlast hBX hAX hO b0 b1 b2 b3 b2w m0' m1' m2' hfr' b0' b1' b2' b3' hc
                go_wp2_with fail
                go_roundw
                case rel => exact ⟨k + 1, by omega, by go_num, by rw [wasIn_succ, HIN.out], hcW.setCell (.inl hgge) _, by rw [wasIn_succ, HIN.out, CutOwn, if_pos rfl]; exact ⟨_, _, _, _, HF.out, hst⟩⟩
                case measure => simp [intOf] <;> omega
    · go_wp2_with fail
      go_ret
      obtain rfl : k = s.length := by omega
      exact ⟨_, rfl, hc, hown.own.rdv⟩
end Go.Proofs.YtmjpfoeaobdaeaaGreatDoor
namespace Go.Proofs.YtmjpfoeaobdaeaaGreatDoor
open Go.RowKit

theorem putLoop_all {a b : List File} {k : Nat} {x : File} (h : Sorted a) (hx : b[k]? = some x) : putLoop x false (allOf a (b.take k)) = allOf a (b.take (k + 1)) := by
  rw [all_step a b hx, putLoop_sorted x _ (all_sorted _ _ h)]
theorem lt_of_get {α : Type} {l : List α} {i : Nat} {x : α} (h : l[i]? = some x) : i < l.length := (List.getElem?_eq_some_iff.1 h).1
set_option maxHeartbeats 4000000 in
set_option maxRecDepth 100000 in
theorem refDiff_any (a b : List File) (n : Int) (va vb : Value) (w : World) (ha : Rdv w Never va a) (hb : Rdv w Never vb b) (ta : (treeFault a).2 = 0) (tb : (treeFault b).2 = 0) (n0 : 0 ≤ n) (n1 : n ≤ 1000) :
    Calls Tryz.prog 25 #[va, vb, .int .i64 n] w fun e w' => ∃ r, e = .returned r ∧ Chg Never w w' ∧ Rdv w' Never r (refDiff a b n) := by
  obtain ⟨al, af, asr, _⟩ := treeFault_zero ta
  obtain ⟨bl, bf, bs, _⟩ := treeFault_zero tb
  obtain ⟨aa, acap, rfl, a1, a2, a3⟩ := rdv_slice ha
  obtain ⟨ba, bcap, rfl, b1, b2, b3⟩ := rdv_slice hb
  unfold maxLen at a2 b2
  have AF := Lib.hid af
  have BF := Lib.hid bf
  have AS := Lib.hid asr
  have BS := Lib.hid bs
  have HA := Lib.hid ha
  have HB := Lib.hid hb
  clear af bf asr bs ta tb ha hb
  go_enter Tryz.func25, Tryz.ntmps25
  go_wp2_with fail
  go_loopw [7, 8] (fun v i wr => ∃ k : Nat, k ≤ b.length ∧ i = .int .i64 k ∧ Chg Never w wr ∧ Rdv wr Never v (allOf a (b.take k))) (fun _ i _ => b.length - (intOf i).toNat)
  case atStart => exact ⟨0, Nat.zero_le _, rfl, Chg.refl _ _, HA.out⟩
  case round =>
    obtain ⟨k, hk, rfl, hc, hall⟩ := hrel
    have hal := allOf_len (b.take k) a AS.out
    rw [List.length_take] at hal
    by_cases hlt : k < b.length
    · obtain ⟨x, hx⟩ : ∃ x, b[k]? = some x := ⟨b[k], by simp [hlt]⟩
      obtain ⟨o, off, lv, rfl, _, _, c0, c1, hps, hlv⟩ := elems_file b3 hx
      have c0 := hc.cellNever c0
      have c1 := hc.cellNever c1
      have hlv := hlv.never hc
      have HP := Lib.hid (putLoop_all AS.out hx)
      clear hx
      go_wp2_with fail
      refine (refPut_any (allOf a (b.take k)) x _ _ _ hall hlv hps (by omega)).mono ?_
      rintro e w2 ⟨r, rfl, hc2, hr⟩
      rw [HP.out] at hr
      have hc3 := hc.trans hc2
      clear c0 c1 hc2 hall
      go_wp2_with fail
      go_roundw
      case rel => exact ⟨k + 1, by omega, by go_num, hc3, hr⟩
      case measure => simp [intOf] <;> omega
    · obtain rfl : k = b.length := by omega
      rw [List.take_length] at hall hal
      have HS : Hid (Sorted (allOf a b)) := all_sorted b a AS.out
      have HK : ∀ f, f ∈ allOf a b → Hid (¬ (look a f.path = none ∧ look b f.path = none)) := fun f hf => all_known AS.out BS.out hf
      generalize hM : allOf a b = M at hall hal HS HK
      have HM := Lib.hid hM
      clear hM
      have hml : M.length ≤ 16 := by omega
      obtain ⟨ma, mcap, rfl, m1, m2, m3⟩ := rdv_slice hall
      unfold maxLen at m2
      have hn0 := ownN_nil (α := Change) 100 (Chg.refl Never wr)
      clear hal
      go_wp2_with fail
      go_loopw [9, 10] (fun v i wz => ∃ (k : Nat) (L : List Change), k ≤ M.length ∧ i = .int .i64 k ∧ OwnN 100 wr wz v L ∧ L.length ≤ k ∧ Hid (L = (M.take k).flatMap fun f => chg n f.path (look a f.path) (look b f.path))) (fun _ i _ => M.length - (intOf i).toNat)
      case atStart => exact ⟨0, [], Nat.zero_le _, rfl, hn0, Nat.le_refl _, rfl⟩
      case round =>
        clear hn0
        rename_i vO iO wz
        obtain ⟨k, L, hk, rfl, hn, hLk, HL⟩ := hrel
        obtain ⟨oa, on, oc, rfl⟩ := own_isSlice hn.own
        have hw := hc.trans hn.chg
        have hLl : L.length ≤ 1000000000 := by omega
        by_cases hlt : k < M.length
        · obtain ⟨x, hx⟩ : ∃ x, M[k]? = some x := ⟨M[k], by simp [hlt]⟩
          obtain ⟨o, off, lv, rfl, _, _, c0, _, hpp, _⟩ := elems_file m3 hx
          have c0 := hn.chg.cellNever c0
          have HX := Lib.hid hx
          have HKX := HK x (List.mem_of_getElem? hx)
          clear hx
          go_wp2_with fail
          refine (refPlace_any a x.path _ _ (HA.out.never hw)).mono ?_
          rintro e w2 ⟨rfl, hd2⟩
          have hn := hn.never hd2
          have hw := hw.trans hd2
          clear hd2 c0
          go_wp2_with fail
          refine (refPlace_any b x.path _ _ (HB.out.never hw)).mono ?_
          rintro e w3 ⟨rfl, hd3⟩
          have hn := hn.never hd3
          have hw := hw.trans hd3
          clear hd3
          rcases placeI_look a x.path with ⟨pa, la⟩ | ⟨i, f, pa, fi, la⟩
          · rcases placeI_look b x.path with ⟨pb, lb⟩ | ⟨j, g, pb, gj, lb⟩
            · exact absurd ⟨la, lb⟩ HKX.out
            · have HCH : Hid (chg n x.path (look a x.path) (look b x.path) = [⟨2, x.path, wholeR g.lines 43⟩]) := by rw [la, lb]; rfl
              obtain ⟨o', off', lv', hbo, _, _, _, d1, _, hlv⟩ := elems_file b3 gj
              have d1 := hw.cellNever d1
              have hlv := hlv.never hw
              have hjl := lt_of_get gj
              have hgl := linesFault_len (fileFault_lines (BF.out g (List.mem_of_getElem? gj)))
              subst hbo
              rw [pa, pb]
              clear la lb pa pb gj
              go_wp2_with fail
              refine (refWhole_any g.lines 43 _ _ hlv (by decide) (by decide) (by omega)).mono ?_
              rintro e w4 ⟨r, rfl, hd4, hrr⟩
              have hrr := hn.fresh hrr
              have hn := hn.never hd4
              clear hd4 d1
              obtain ⟨ra, rc, rfl, _, _, _⟩ := rdv_slice hrr
              have hy1 : Dat.rd _ (fun k => Never k ∨ _ = some k) _ (⟨2, x.path, wholeR g.lines 43⟩ : Change) := ⟨_, rfl, hpp, hrr⟩
              go_wp2_with (at_builtin; refine wpList_push (by rfl) _ _ 62 (by rfl) elemOk_change (O := Never) (l := L) (y := (⟨2, x.path, wholeR g.lines 43⟩ : Change)) (by rfl) (by rfl) (by rfl) hn.own hy1 (fun _ h => h.elim) hLl ?_; intro v' w9 hown2 hc2 hk2; have hn2 := hn.step1 hown2 hc2 hk2; clear hown2 hc2 hk2 hn hy1)
              go_roundw
              case rel => exact ⟨k + 1, L ++ [(⟨2, x.path, wholeR g.lines 43⟩ : Change)], by omega, by go_num, hn2, by rw [List.length_append]; simp; omega, by rw [flat_take HX.out, ← HL.out, HCH.out]; exact rfl⟩
              case measure => simp [intOf] <;> omega
          · have hil := lt_of_get fi
            obtain ⟨o', off', lv', hao, _, _, _, e1, _, hlf⟩ := elems_file a3 fi
            have e1 := hw.cellNever e1
            have hlf := hlf.never hw
            have hff := fileFault_lines (AF.out f (List.mem_of_getElem? fi))
            have hfl := linesFault_len hff
            subst hao
            have x0 : ((i : Int) < 0) = False := by simp
            rcases placeI_look b x.path with ⟨pb, lb⟩ | ⟨j, g, pb, gj, lb⟩
            · have HCH : Hid (chg n x.path (look a x.path) (look b x.path) = [⟨3, x.path, wholeR f.lines 45⟩]) := by rw [la, lb]; rfl
              rw [pa, pb]
              clear la lb pa pb fi hff
              go_wp2_with fail
              refine (refWhole_any f.lines 45 _ _ hlf (by decide) (by decide) (by omega)).mono ?_
              rintro e w4 ⟨r, rfl, hd4, hrr⟩
              have hrr := hn.fresh hrr
              have hn := hn.never hd4
              clear hd4 e1
              obtain ⟨ra, rc, rfl, _, _, _⟩ := rdv_slice hrr
              have hy1 : Dat.rd _ (fun k => Never k ∨ _ = some k) _ (⟨3, x.path, wholeR f.lines 45⟩ : Change) := ⟨_, rfl, hpp, hrr⟩
              go_wp2_with (at_builtin; refine wpList_push (by rfl) _ _ 62 (by rfl) elemOk_change (O := Never) (l := L) (y := (⟨3, x.path, wholeR f.lines 45⟩ : Change)) (by rfl) (by rfl) (by rfl) hn.own hy1 (fun _ h => h.elim) hLl ?_; intro v' w9 hown2 hc2 hk2; have hn2 := hn.step1 hown2 hc2 hk2; clear hown2 hc2 hk2 hn hy1)
              go_roundw
              case rel => exact ⟨k + 1, L ++ [(⟨3, x.path, wholeR f.lines 45⟩ : Change)], by omega, by go_num, hn2, by rw [List.length_append]; simp; omega, by rw [flat_take HX.out, ← HL.out, HCH.out]; exact rfl⟩
              case measure => simp [intOf] <;> omega
            · obtain ⟨o'', off'', lv'', hbo, _, _, _, d1, _, hlg⟩ := elems_file b3 gj
              have d1 := hw.cellNever d1
              have hlg := hlg.never hw
              have hjl := lt_of_get gj
              have hgg := fileFault_lines (BF.out g (List.mem_of_getElem? gj))
              have hgl := linesFault_len hgg
              subst hbo
              have SV := Lib.hid (script_valid (checked_zero hff hgg))
              rw [pa, pb]
              clear pa pb fi gj hff hgg
              go_wp2_with fail
              refine wp_region_held_drew (S := fun w' => Chg Never w3 w' ∧ w'.cell? ⟨o', off' + i * 2 + 1, none⟩ = some lv' ∧ w'.cell? ⟨o'', off'' + j * 2 + 1, none⟩ = some lv'') (by kernel_rfl) ⟨(Chg.refl Never w3).drew, e1, d1⟩ (fun hH => ?_)
              refine' tk 0 ?_
              refine' tk 1 ?_
              refine' tk 2 ?_
              refine' tk 3 ?_
              refine' tk 4 ?_
              refine' tk 5 ?_
              refine' tk 6 ?_
              refine' tk 7 ?_
              refine' tk 8 ?_
              refine' tk 9 ?_
              refine' tk 11 ?_
              refine wpAnyH_ready (rs := [10]) (by kernel_rfl) (by simp) ?_
              refine AllReadyH.cons rfl (fun K hK => ?_) AllReadyH.nil
              go_simp
              (go_at_call 54; refine (scriptOf_any f.lines g.lines _ _ _ (hlf.never (And.left (by assumption))) (hlg.never (And.left (by assumption))) hfl hgl).mono ?_; rintro e wq ⟨rq, rfl, hcq, hrq⟩; obtain ⟨qa, qc, rfl, _, _, _⟩ := rdv_slice hrq; have hS2 := two_keep (by assumption) hcq)
              try go_wp2_with fail
              refine hK.out _ _ ?_ (fun hH => ?_)
              · assumption
              clear hK K
              try simp only [Act.put, List.setIfInBounds_toArray, List.set_cons_zero, List.set_cons_succ]
              refine wpAnyH_ready (rs := [12]) (by kernel_rfl) (by simp) ?_
              refine AllReadyH.cons rfl (fun K hK => ?_) AllReadyH.nil
              go_simp
              (go_at_call 53; refine (refCut_any (script f.lines g.lines) n _ _ (hrq.sub (fun _ _ h => h.elim)) SV.out n0 n1).mono ?_; rintro e wp ⟨rp, rfl, hcp, hrp⟩; obtain ⟨pa, pc, rfl, _, _, _⟩ := rdv_slice hrp; have hS3 := two_keep (by assumption) hcp)
              try go_wp2_with fail
              refine hK.out _ _ ?_ (fun hH => ?_)
              · assumption
              clear hK K
              try simp only [Act.put, List.setIfInBounds_toArray, List.set_cons_zero, List.set_cons_succ]
              refine' tk 13 ?_
              refine wpAnyH_done (by kernel_rfl) ?_ _
              have hrr := hn.fresh (hrp.sub (O' := Old w3.heap.size) (fun k _ h => Nat.lt_of_lt_of_le h hcq.size))
              have hn := hn.never hH.1
              clear hrp hrq hlf hlg e1 d1 hH
              by_cases hcut : cutOf (script f.lines g.lines) n = []
              · have HCH : Hid (chg n x.path (look a x.path) (look b x.path) = []) := by rw [la, lb]; exact chg_none hcut
                rw [hcut] at hrr ⊢
                clear hcut la lb
                go_wp2_with fail
                go_roundw
                case rel => exact ⟨k + 1, L, by omega, by go_num, hn, by omega, by rw [flat_take HX.out, ← HL.out, HCH.out, List.append_nil]; exact rfl⟩
                case measure => simp [intOf] <;> omega
              · have HCH : Hid (chg n x.path (look a x.path) (look b x.path) = [⟨1, x.path, cutOf (script f.lines g.lines) n⟩]) := by rw [la, lb]; exact chg_some hcut
                have hpos : 0 < (cutOf (script f.lines g.lines) n).length := List.length_pos_iff.2 hcut
                clear hcut la lb
                have hy1 : Dat.rd _ (fun k => Never k ∨ _ = some k) _ (⟨1, x.path, cutOf (script f.lines g.lines) n⟩ : Change) := ⟨_, rfl, hpp, hrr⟩
                go_wp2_with (at_builtin; refine wpList_push (by rfl) _ _ 62 (by rfl) elemOk_change (O := Never) (l := L) (y := (⟨1, x.path, cutOf (script f.lines g.lines) n⟩ : Change)) (by rfl) (by rfl) (by rfl) hn.own hy1 (fun _ h => h.elim) hLl ?_; intro v' w9 hown2 hc2 hk2; have hn2 := hn.step1 hown2 hc2 hk2; clear hown2 hc2 hk2 hn hy1)
                go_roundw
                case rel => exact ⟨k + 1, L ++ [(⟨1, x.path, cutOf (script f.lines g.lines) n⟩ : Change)], by omega, by go_num, hn2, by rw [List.length_append]; simp; omega, by rw [flat_take HX.out, ← HL.out, HCH.out]; exact rfl⟩
                case measure => simp [intOf] <;> omega
        · obtain rfl : k = M.length := by omega
          go_wp2_with fail
          go_ret
          rw [List.take_length, ← HM.out] at HL
          exact ⟨_, rfl, hw, by rw [show refDiff a b n = L from HL.out.symm]; exact hn.own.rdv.sub (fun _ _ h => h.elim)⟩
end Go.Proofs.YtmjpfoeaobdaeaaGreatDoor
namespace Go.Proofs.YtmjpfoeaobdaeaaGreatDoor
open Go.RowKit

theorem refdiff_tree {a b : List File} (ha : Tree a) (hb : Tree b) (n : Int) : refDiff a b n = diffL n a b := diff_same n ha.2.2 hb.2.2
set_option maxHeartbeats 4000000 in
set_option maxRecDepth 100000 in
theorem doc_same (b : Nat) (m : Ses) (s : List UInt8) (w : World) (hd : DocAt w b m) (hok : SesOk m) (hs : s.length ≤ 100000) (hW : parts 32 s = [sameW]) :
    Calls Tryz.prog 15 #[.pointer (some ⟨b, 0, none⟩), .string (toB s)] w (DocPost b (m, sameS m) w) := by
  have hns := hd.nostr
  obtain ⟨vo, vn, hb, ho, hn⟩ := hd
  obtain ⟨oa, oc, rfl, _, _, _⟩ := rdv_slice ho
  obtain ⟨na, nc, rfl, _, _, _⟩ := rdv_slice hn
  have HW := Lib.hid hW
  have hss := (word_one (show ∀ x ∈ sameW, x ≠ 32 by decide)).1 hW
  have s1 : ((toB s).toList == [98, 97, 99, 107]) = false := wfalse (by rw [hss]; decide)
  have s2 : ((toB s).toList == [115, 97, 109, 101]) = true := by rw [hss]; exact wtrue
  clear hW hss
  go_enter Tryz.func15, Tryz.ntmps15
  go_wp2_with fail
  refine (words_any (toB s) w (by rw [toB_sz]; omega)).mono ?_
  rintro e w1 ⟨ws, rfl, hc1, hws⟩
  rw [toB_data, HW.out] at hws
  have hb1 := hb.keep hc1 (fun x => x)
  have ho1 := ho.never hc1
  have hn1 := hn.never hc1
  obtain ⟨c0, c1⟩ := hb1.cell
  clear hb ho hn
  obtain ⟨wa, wc, rfl, _, _, _⟩ := rdv_slice hws
  clear hws
  simp only [List.map_cons, List.map_nil, List.length_cons, List.length_nil, Nat.add_zero, Nat.zero_add, Nat.reduceAdd]
  have hod := ho1.never ((Chg.refl Never w1).drew)
  have hnd := hn1.never ((Chg.refl Never w1).drew)
  have HDD := Lib.hid (refdiff_tree hok.1 hok.2 0)
  have HNB := Lib.hid (none_between hok.1 hok.2 (n := 0) (by decide) (by decide))
  have hfo := tree_iff.1 hok.1
  have hfn := tree_iff.1 hok.2
  go_wp2_with fail
  refine wp_region_held_drew (S := fun w' => Chg Never w1 w' ∧ w'.cell? ⟨b, 0, none⟩ = some (.slice oa m.old.length oc) ∧ w'.cell? ⟨b, 1, none⟩ = some (.slice na m.new.length nc)) (by kernel_rfl) ⟨(Chg.refl Never w1).drew, c0, c1⟩ (fun hH => ?_)
  refine' tk 0 ?_
  refine' tk 1 ?_
  refine' tk 2 ?_
  refine' tk 3 ?_
  refine' tk 4 ?_
  refine' tk 5 ?_
  refine' tk 6 ?_
  refine' tk 7 ?_
  refine wpAnyH_ready (rs := [8]) (by kernel_rfl) (by simp) ?_
  refine AllReadyH.cons rfl (fun K hK => ?_) AllReadyH.nil
  go_simp
  (go_at_call 25; refine (refDiff_any m.old m.new 0 _ _ _ hod hnd hfo hfn (by decide) (by decide)).mono ?_; rintro e w2 ⟨r2, rfl, hc2, hr2⟩; have hw2 := ((Chg.refl Never w1).drew).trans hc2; have hS2 : Chg Never w1 w2 ∧ w2.cell? ⟨b, 0, none⟩ = some (.slice oa m.old.length oc) ∧ w2.cell? ⟨b, 1, none⟩ = some (.slice na m.new.length nc) := ⟨hw2, hw2.cellNever c0, hw2.cellNever c1⟩; obtain ⟨ra, rc, rfl, _, _, _⟩ := rdv_slice hr2; clear hH hc2 hr2)
  try go_wp2_with fail
  refine hK.out _ _ ?_ (fun hH => ?_)
  · assumption
  clear hK K
  try simp only [Act.put, List.setIfInBounds_toArray, List.set_cons_zero, List.set_cons_succ]
  refine' tk 9 ?_
  refine' tk 10 ?_
  refine wpAnyH_done (by kernel_rfl) ?_ _
  have hd2 : DocAt w2 b m := DocAt.never ⟨_, _, hb1, ho1, hn1⟩ hw2
  have hw := hc1.trans hw2
  rw [HDD.out]
  clear hS2 hod hnd hb1 ho1 hn1 c0 c1 hw2
  by_cases z : m.old = m.new
  · have HR : Hid (sameS m = yesL) := if_pos z
    have HZ : Hid ((diffL 0 m.old m.new).length = 0) := by rw [Hid, HNB.out.2 z]; rfl
    rw [HZ.out]
    clear z
    go_wp2_with fail
    go_ret
    exact ⟨never_b hw, hd2, by rw [HR.out]; rfl⟩
  · have HR : Hid (sameS m = noL) := if_neg z
    have hne : diffL 0 m.old m.new ≠ [] := fun e => z (HNB.out.1 e)
    have hl := List.length_pos_iff.2 hne
    have tz : (((diffL 0 m.old m.new).length : Int) == 0) = false := beq_eq_false_iff_ne.2 (by omega)
    generalize (diffL 0 m.old m.new).length = n at tz ⊢
    clear z hne hl
    go_wp2_with fail
    go_ret
    exact ⟨never_b hw, hd2, by rw [HR.out]; rfl⟩
end Go.Proofs.YtmjpfoeaobdaeaaGreatDoor
namespace Go.Proofs.YtmjpfoeaobdaeaaGreatDoor
open Go.RowKit

theorem elems_byte {w : World} {O : Nat → Prop} {a : Option Addr} {l : List UInt8} (h : Elems w O a l) {i : Nat} {x : UInt8} (hx : l[i]? = some x) :
    ∃ b off, a = some ⟨b, off, none⟩ ∧ ¬ O b ∧ b < w.heap.size ∧ w.cell? ⟨b, off + i, none⟩ = some (.int .u8 x.toNat) := by
  obtain ⟨b, off, es, ha, hb, hc, rfl⟩ := h i x hx
  refine ⟨b, off, ha, hb, hc.lt (by simp), ?_⟩
  have := hc 0 _ rfl
  rw [show off + i * Dat.n UInt8 + 0 = off + i by show off + i * 1 + 0 = _; omega] at this
  exact this
theorem conv_str {w : World} {O : Nat → Prop} {v : Value} {l : List UInt8} (h : Rdv w O v l) : (convert 35 9 v).run Tryz.prog w = .ok (.string (toB l)) w := by
  obtain ⟨a, cap, rfl, h1, h2, h3⟩ := rdv_slice h
  by_cases h0 : l = []
  · subst h0
    cases a with
    | none => exact run_convert_bytes_nil w _ 5 Tryz.underlying35 Tryz.underlying5 _ cap _ Tryz.underlying9
    | some a => exact run_convert_bytes_back w _ _ 5 a cap [] Tryz.underlying35 Tryz.underlying5 Tryz.underlying9 (fun j hj => absurd hj (Nat.not_lt_zero j))
  · have hp : 0 < l.length := List.length_pos_iff.2 h0
    obtain ⟨b, off, rfl, _⟩ := elems_byte h3 (i := 0) (x := l[0]) (by simp [hp])
    refine run_convert_bytes_back w _ _ 5 ⟨b, off, none⟩ cap l Tryz.underlying35 Tryz.underlying5 Tryz.underlying9 (fun j hj => ?_)
    obtain ⟨b', off', e, _, _, hc⟩ := elems_byte h3 (i := j) (x := l[j]) (by simp [hj])
    simp only [Option.some.injEq, Addr.mk.injEq, and_true] at e
    obtain ⟨rfl, rfl⟩ := e
    rw [show (⟨b, off, none⟩ : Addr).add j = ⟨b, off + j, none⟩ by unfold Addr.add; split <;> simp_all]
    exact hc
end Go.Proofs.YtmjpfoeaobdaeaaGreatDoor
namespace Go.Proofs.YtmjpfoeaobdaeaaGreatDoor
open Go.RowKit

theorem tkeep {w2 wr wq : World} {p q r : Addr} {a b c : Value} (h : Chg Never w2 wr ∧ wr.cell? p = some a ∧ wr.cell? q = some b ∧ wr.cell? r = some c) (k : Chg Never wr wq) : Chg Never w2 wq ∧ wq.cell? p = some a ∧ wq.cell? q = some b ∧ wq.cell? r = some c :=
  ⟨h.1.trans k, k.cellNever h.2.1, k.cellNever h.2.2.1, k.cellNever h.2.2.2⟩
set_option maxHeartbeats 2000000 in
set_option maxRecDepth 100000 in
theorem refHunksText_any (l : List Hunk) (v : Value) (w : World) (h : Rdv w Never v l) (hz : (hunksFault l).2 = 0) :
    Calls Tryz.prog 60 #[v] w fun e w' => e = .returned (.string (toB (textU l))) ∧ Chg Never w w' := by
  obtain ⟨a, cap, rfl, h1, h2, h3⟩ := rdv_slice h
  unfold maxLen at h2
  have hTL := Lib.hid (hunks_ok hz).2.2
  have hH := Lib.hid (hunks_each hz)
  clear hz
  go_enter Tryz.func60, Tryz.ntmps60
  go_wp2_with fail
  go_loopw [3, 4] (fun sv i wr => ∃ k : Nat, k ≤ l.length ∧ i = .int .i64 k ∧ sv = .string (toB (textU (l.take k))) ∧ Chg Never w wr) (fun _ i _ => l.length - (intOf i).toNat)
  case atStart => exact ⟨0, Nat.zero_le _, rfl, rfl, Chg.refl _ _⟩
  case round =>
    obtain ⟨k, hk, rfl, rfl, hc⟩ := hrel
    rename World => wr
    by_cases hlt : k < l.length
    · obtain ⟨x, hx⟩ : ∃ x, l[k]? = some x := ⟨l[k], by simp [hlt]⟩
      obtain ⟨b', off, mv, rfl, hnb, -, c0, c1, c2, hmv⟩ := elems_hunk h3 hx
      obtain ⟨e1, e2, e3, e4, e5, e6, e7⟩ := hH.out x (List.mem_of_getElem? hx)
      have E1 := Lib.hid e1
      have HT := Lib.hid (textU_take hx)
      have hTk := @textU_mono l k
      have hTLo := hTL.out
      obtain ⟨ma, mc, rfl, -, -, hme⟩ := rdv_slice hmv
      have c0 := hc.cellNever c0
      have c1 := hc.cellNever c1
      have c2 := hc.cellNever c2
      have hmr : Rdv wr Never (.slice ma x.marks.length mc) x.marks := hmv.never hc
      have hA : Chg Never wr (wr.alloc (.cells #[.int .i64 x.old, .int .i64 x.new, .slice ma x.marks.length mc] 146)) := (Chg.refl Never wr).alloc _
      have hbox := Blk3.new wr 146 (.int .i64 x.old) (.int .i64 x.new) (.slice ma x.marks.length mc)
      have hmA := hmr.never hA
      have hzk : (toB (textU (l.take k))).size ≤ 400000 := by rw [toB_size']; omega
      clear hx h3 h hmr hmv e1
      go_wp2_with fail
      clear c0 c1 c2
      generalize wr.alloc (.cells #[.int .i64 x.old, .int .i64 x.new, .slice ma x.marks.length mc] 146) = w2 at hA hbox hmA ⊢
      obtain ⟨g0, g1, g2⟩ := hbox.cell
      obtain ⟨S, hS⟩ : ∃ S, toB (textU (l.take k)) = S := ⟨_, rfl⟩
      rw [hS] at hzk ⊢
      have HK := Lib.hid hS
      clear hS
      have hl1 : (spanL x.old (oldN x.marks)).length ≤ 7 := span_len e2 (by omega) (by omega)
      have hl2 : (spanL x.new (newN x.marks)).length ≤ 7 := span_len e4 (by omega) (by omega)
      have FS1 : ∀ wx, Calls Tryz.prog 95 #[.int .i64 x.old, .int .i64 ((those x.marks 43).length : Nat)] wx fun e w' => e = .returned (.string (toB (spanL x.old (oldN x.marks)))) ∧ wx = w' := fun wx => refSpan_any _ _ e2 (by omega) (by show oldN x.marks < 1000; omega) wx
      have FS2 : ∀ wx, Calls Tryz.prog 95 #[.int .i64 x.new, .int .i64 ((those x.marks 45).length : Nat)] wx fun e w' => e = .returned (.string (toB (spanL x.new (newN x.marks)))) ∧ wx = w' := fun wx => refSpan_any _ _ e4 (by omega) (by show newN x.marks < 1000; omega) wx
      obtain ⟨S1, hS1⟩ : ∃ S1, toB (spanL x.old (oldN x.marks)) = S1 := ⟨_, rfl⟩
      obtain ⟨S2, hS2⟩ : ∃ S2, toB (spanL x.new (newN x.marks)) = S2 := ⟨_, rfl⟩
      have hz1 : S1.size ≤ 7 := by rw [← hS1, toB_size']; exact hl1
      have hz2 : S2.size ≤ 7 := by rw [← hS2, toB_size']; exact hl2
      rw [hS1] at FS1
      rw [hS2] at FS2
      have HS1 := Lib.hid hS1
      have HS2 := Lib.hid hS2
      clear hS1 hS2
      have n1 : ¬ (9223372036854775807 < S.size + 4) := by omega
      have n2 : ¬ (9223372036854775807 < S.size + 4 + S1.size) := by omega
      have n3 : ¬ (9223372036854775807 < S.size + 4 + S1.size + 2) := by omega
      have n4 : ¬ (9223372036854775807 < S.size + 4 + S1.size + 2 + S2.size) := by omega
      have n5 : ¬ (9223372036854775807 < S.size + 4 + S1.size + 2 + S2.size + 4) := by omega
      refine wp_region_held_drew (S := fun w' => Chg Never w2 w' ∧ w'.cell? ⟨wr.heap.size, 0, none⟩ = some (.int .i64 x.old) ∧ w'.cell? ⟨wr.heap.size, 1, none⟩ = some (.int .i64 x.new) ∧ w'.cell? ⟨wr.heap.size, 2, none⟩ = some (.slice ma x.marks.length mc)) (by kernel_rfl) ⟨(Chg.refl Never w2).drew, g0, g1, g2⟩ (fun hH => ?_)
      refine' tk 0 ?_
      refine' tk 1 ?_
      refine' tk 2 ?_
      refine' tk 3 ?_
      refine' tk 4 ?_
      refine' tk 5 ?_
      refine' tk 11 ?_
      refine' tk 12 ?_
      refine' tk 13 ?_
      refine' tk 14 ?_
      refine wpAnyH_ready (rs := [6]) (by kernel_rfl) (by simp) ?_
      refine AllReadyH.cons rfl (fun K hK => ?_) AllReadyH.nil
      go_simp
      (go_at_call 90; refine (refOld_any x.marks _ _ (hmA.never (And.left (by assumption))) E1.out).mono ?_; rintro e wq ⟨rq, rfl, hcq, hrq⟩; obtain ⟨qa, qc, rfl, _, _, _⟩ := rdv_slice hrq; have hS2 := tkeep (by assumption) hcq)
      try go_wp2_with fail
      refine hK.out _ _ ?_ (fun hH => ?_)
      · assumption
      clear hK K
      try simp only [Act.put, List.setIfInBounds_toArray, List.set_cons_zero, List.set_cons_succ]
      refine' tk 7 ?_
      refine wpAnyH_ready (rs := [8]) (by kernel_rfl) (by simp) ?_
      refine AllReadyH.cons rfl (fun K hK => ?_) AllReadyH.nil
      go_simp
      (go_at_call 95; refine (FS1 _).mono ?_; rintro e wq ⟨rfl, rfl⟩)
      try go_wp2_with fail
      refine hK.out _ _ ?_ (fun hH => ?_)
      · assumption
      clear hK K
      try simp only [Act.put, List.setIfInBounds_toArray, List.set_cons_zero, List.set_cons_succ]
      refine' tk 9 ?_
      refine' tk 10 ?_
      refine wpAnyH_ready (rs := [15]) (by kernel_rfl) (by simp) ?_
      refine AllReadyH.cons rfl (fun K hK => ?_) AllReadyH.nil
      go_simp
      (go_at_call 91; refine (refNew_any x.marks _ _ (hmA.never (And.left (by assumption))) E1.out).mono ?_; rintro e wq ⟨rq, rfl, hcq, hrq⟩; obtain ⟨qa, qc, rfl, _, _, _⟩ := rdv_slice hrq; have hS2 := tkeep (by assumption) hcq)
      try go_wp2_with fail
      refine hK.out _ _ ?_ (fun hH => ?_)
      · assumption
      clear hK K
      try simp only [Act.put, List.setIfInBounds_toArray, List.set_cons_zero, List.set_cons_succ]
      refine' tk 16 ?_
      refine wpAnyH_ready (rs := [17]) (by kernel_rfl) (by simp) ?_
      refine AllReadyH.cons rfl (fun K hK => ?_) AllReadyH.nil
      go_simp
      (go_at_call 95; refine (FS2 _).mono ?_; rintro e wq ⟨rfl, rfl⟩)
      try go_wp2_with fail
      refine hK.out _ _ ?_ (fun hH => ?_)
      · assumption
      clear hK K
      try simp only [Act.put, List.setIfInBounds_toArray, List.set_cons_zero, List.set_cons_succ]
      refine' tk 18 ?_
      refine' tk 19 ?_
      refine' tk 20 ?_
      refine wpAnyH_done (by kernel_rfl) ?_ _
      rename (Chg Never w2 _ ∧ _) => hF
      obtain ⟨hw3, k0, k1, k2⟩ := hF
      clear g0 g1 g2 n1 n2 n3 n4 n5
      rename World => w3
      go_wp2_with fail
      obtain ⟨T, hT⟩ : ∃ T, S ++ (⟨#[64, 64, 32, 45]⟩ : ByteArray) ++ S1 ++ ⟨#[32, 43]⟩ ++ S2 ++ ⟨#[32, 64, 64, 10]⟩ = T := ⟨_, rfl⟩
      have hTz : T.size ≤ 400100 := by rw [← hT, ByteArray.size_append, ByteArray.size_append, ByteArray.size_append, ByteArray.size_append, ByteArray.size_append]; show S.size + 4 + S1.size + 2 + S2.size + 4 ≤ _; omega
      have HT2 : Hid (T = toB (textU (l.take k) ++ (headL x.old (oldN x.marks) x.new (newN x.marks) ++ [10]))) := by
        rw [Hid, ← hT, toB_append, ← head_row, HS1.out, HS2.out, HK.out]
        simp only [ByteArray.append_assoc]; rfl
      rw [hT]
      have hmw := hmA.never hw3
      have HMK := Lib.hid (marks_ok E1.out)
      have hml := scriptFault_len E1.out
      obtain ⟨_, _, hq, -, -, hme3⟩ := rdv_slice hmw
      injection hq with hq1 _ hq2
      subst hq1 hq2
      have HUL := Lib.hid (hunkR_head x)
      have hcw3 := (hc.trans hA).trans hw3
      clear hT hmw hmA hw3 k0 k1 hA hbox hme hc FS1 FS2 hrq hcq hS2
      go_loopw [3, 6] (fun sv i wi => ∃ (q : Nat) (U : ByteArray), q ≤ x.marks.length ∧ i = .int .i64 q ∧ sv = .string U ∧ U.size ≤ 420000 ∧ Hid (U = T ++ toB (textL ((x.marks.take q).map markL))) ∧ Chg Never w3 wi) (fun _ i _ => x.marks.length - (intOf i).toNat)
      case atStart => exact ⟨0, T, Nat.zero_le _, rfl, rfl, by omega, by rw [Hid]; show T = T ++ ByteArray.empty; exact ByteArray.append_empty.symm, Chg.refl _ _⟩
      case round =>
        obtain ⟨q, U, hq, rfl, rfl, hUz, hU, hci⟩ := hrel
        rename World => wi
        have k2 := hci.cellNever k2
        by_cases hql : q < x.marks.length
        · obtain ⟨y, hy⟩ : ∃ y, x.marks[q]? = some y := ⟨x.marks[q], by simp [hql]⟩
          obtain ⟨yb, yoff, rfl, -, -, d0, d1, -, -, hys⟩ := elems_mark hme3 hy
          obtain ⟨m1, m2, m3⟩ := mark_ok (HMK.out y (List.mem_of_getElem? hy))
          have HMT := Lib.hid (textM_take hy)
          have hsg : y.sign = ((signOf y).toNat : Int) := by unfold signOf; rcases m1 with e | e | e <;> rw [e] <;> rfl
          have d0 := hci.cellNever d0
          have d1 := hci.cellNever d1
          rw [hsg] at d0
          obtain ⟨c, hce⟩ : ∃ c, signOf y = c := ⟨_, rfl⟩
          rw [hce] at d0 HMT
          have hmt := marks_take_len (q := q + 1) HMK.out hml
          have hU2 : Hid (U ++ toB [c] ++ y.text ++ ⟨#[10]⟩ = T ++ toB (textL ((x.marks.take (q + 1)).map markL))) := by
            rw [Hid, hU.out, HMT.out]
            apply ByteArray.ext
            apply Array.toList_inj.1
            simp only [bytes_append, toB_data]
            simp
          have hzU : (T ++ toB (textL ((x.marks.take (q + 1)).map markL))).size ≤ 420000 := by rw [ByteArray.size_append, toB_size']; omega
          have hyz : y.text.size ≤ 100 := by omega
          have hcc : (toB [c]).size = 1 := rfl
          have n1 : ¬ (9223372036854775807 < U.size + 1) := by omega
          have n2 : ¬ (9223372036854775807 < U.size + 1 + y.text.size) := by omega
          have n3 : ¬ (9223372036854775807 < U.size + 1 + y.text.size + 1) := by omega
          have n0 := heap_alloc_new wi (.cells #[.int .u8 c.toNat] 5)
          have hcv : (convert 35 9 (.slice (some ⟨wi.heap.size, 0, none⟩) 1 1)).run Tryz.prog (wi.alloc (.cells #[.int .u8 c.toNat] 5)).drew = .ok (.string (toB [c])) (wi.alloc (.cells #[.int .u8 c.toNat] 5)).drew := by
            have hrl : Rdv (wi.alloc (.cells #[.int .u8 c.toNat] 5)) Never (.slice (some ⟨wi.heap.size, 0, none⟩) 1 1) [c] := rdv_lit (cs := [.int .u8 c.toNat]) n0 rfl (by decide) ⟨rfl, trivial⟩
            exact conv_str (hrl.never (Chg.refl Never _).drew)
          clear n0
          clear hy hce hsg hme3 HMT hmt
          go_wp2_with fail
          refine wp_region_held_drew (S := fun w' => Chg Never wi w' ∧ w'.cell? ⟨wr.heap.size, 2, none⟩ = some (.slice (some ⟨yb, yoff, none⟩) x.marks.length mc) ∧ w'.cell? ⟨yb, yoff + q * 2, none⟩ = some (.int .u8 c.toNat) ∧ w'.cell? ⟨yb, yoff + q * 2 + 1, none⟩ = some (.string y.text)) (by kernel_rfl) ⟨(Chg.refl Never wi).drew, k2, d0, d1⟩ (fun hH => ?_)
          refine' tk 0 ?_
          refine' tk 1 ?_
          refine' tk 2 ?_
          refine' tk 3 ?_
          refine' tk 4 ?_
          refine' tk 5 ?_
          refine' tk 6 ?_
          refine' tk 10 ?_
          refine' tk 11 ?_
          refine' tk 12 ?_
          refine' tk 13 ?_
          refine' tk 14 ?_
          refine' tk 15 ?_
          refine wpAnyH_ready (rs := [7]) (by kernel_rfl) (by simp) ?_
          refine AllReadyH.cons rfl (fun K hK => ?_) AllReadyH.nil
          go_simp
          refine hK.out _ _ ?_ (fun hH => ?_)
          · exact tkeep (by assumption) ((Chg.refl Never _).alloc _)
          clear hK K
          try simp only [Act.put, List.setIfInBounds_toArray, List.set_cons_zero, List.set_cons_succ]
          refine wpAnyH_ready (rs := [8]) (by kernel_rfl) (by simp) ?_
          refine AllReadyH.cons rfl (fun K hK => ?_) AllReadyH.nil
          go_simp
          refine hK.out _ _ ?_ (fun hH => ?_)
          · assumption
          clear hK K
          try simp only [Act.put, List.setIfInBounds_toArray, List.set_cons_zero, List.set_cons_succ]
          refine' tk 9 ?_
          refine' tk 16 ?_
          refine' tk 17 ?_
          refine' tk 18 ?_
          refine wpAnyH_done (by kernel_rfl) ?_ _
          rename (Chg Never wi _ ∧ _) => hF
          have hcF := hF.1
          clear hF d0 d1 k2
          go_wp2_with fail
          go_roundw
          case rel => exact ⟨q + 1, _, by omega, by go_num, rfl, by rw [hU2.out]; exact hzU, hU2.out, hci.trans hcF⟩
          case measure => simp [intOf]; omega
        · rw [List.take_of_length_le (by omega)] at hU
          have hfin : Hid (U = toB (textU (l.take (k + 1)))) := by
            rw [Hid, hU.out, HT2.out, HT.out, HUL.out, ← toB_append]
            simp
          have hcf := hcw3.trans hci
          clear hU
          go_wp2_with fail
          go_roundw
          case rel => exact ⟨k + 1, by omega, by go_num, by rw [hfin.out], hcf⟩
          case measure => simp [intOf]; omega
    · rw [List.take_of_length_le (by omega)]
      go_wp2_with fail
      go_ret
      exact ⟨rfl, hc⟩
end Go.Proofs.YtmjpfoeaobdaeaaGreatDoor
