/-
  THE WALK of hunk.cut.
-/
import Derived.Test.YtpoammapjmddfaaDoorNear
import Derived.Test.YtpoammapjmddfaaDoorLast
import Derived.Test.YtpoammapjmddfaaDoorPieces
import Derived.Deep.RegionLaw
import Derived.Deep.DrawnRows
namespace Go.Proofs.YtpoammapjmddfaaDoor
open Go.RowKit

theorem elemOk_hunk : ElemOk Tryd.prog 72 42 3 := elemOk_of Tryd.underlying72 (z := .agg #[.int .i64 0, .int .i64 0, .slice none 0 0]) (b := 40) (by kernel_rfl) rfl (by decide)

/-- 'append(v, y)' at a step of a region that draws: y's cells have just been laid in a block of their own -/
theorem step_push {P : Program} {ops : Array Oper} {o : Oper} {a : Act} {K : Act → World → Prop} {Q : Exit → Act → World → Prop} {E : Prop} (hgd : o.guard = none) (s x : Operand) (t : TypeId)
    (ho : o.op = .call { callee := .builtin .append, args := #[s, x], argTypes := #[t, t] }) {α : Type} [Dat α] {e : TypeId} (hP : ElemOk P t e (Dat.n α)) {w0 : World} {O : Nat → Prop} {v : Value} {l : List α} {y : α} {es : List Value} {E' : TypeId} {B : Nat}
    (hs : a.eval s = v) (hx : a.eval x = .slice (some ⟨B, 0, none⟩) 1 1) (hB : B = w0.heap.size)
    (hown : Own e w0 O v l) (hy : Dat.rd w0 (fun k => O k ∨ v.ownBlock = some k) es y) (hO : ∀ k, O k → k < w0.heap.size) (hlen : l.length ≤ 1000000000)
    (h : ∀ v' w', Own e w' O v' (l ++ [y]) → Chg (OwnB v) w0 w' → (∃ k, v'.ownBlock = some k ∧ (v.ownBlock = some k ∨ w0.heap.size ≤ k)) → K (a.put o.dst v') w') :
    if Region.wanted o (yielded ops a.tmps) = true then Oper.wp P o a (w0.alloc (.cells es.toArray E')) K Q else E := by
  have hw : Region.wanted o (yielded ops a.tmps) = true := by simp [Region.wanted, hgd]
  rw [if_pos hw]
  subst hB
  obtain ⟨v', w', hrun, h1, h2, h3⟩ := run_push (ty := o.type) hP E' hown hy hO hlen
  unfold Oper.wp execOp
  simp only [ho, resolve, invoke, builtin, Sem.run_bind, Sem.run_pure, Result.andThen_ok, List.map_toArray, List.map_cons, List.map_nil, hs, hx, hrun]
  exact h v' w' h1 h2 h3

theorem cutTo_len {s : List Mark} {n : Int} (hn : 0 ≤ n) : ∀ k, k ≤ s.length → (cutTo s n k).length ≤ k := by
  intro k
  induction k with
  | zero => intro _; exact Nat.le_refl _
  | succ k ih =>
    intro hk
    have := ih (by omega)
    by_cases h1 : inAt s n k = true
    · by_cases h2 : wasIn s n k = true
      · rw [cutLen_more hn (by omega) h1 h2]; omega
      · rw [cutLen_new (by omega) h1 (by simpa using h2)]; omega
    · rw [cutLen_out (by omega) (by simpa using h1)]; omega

theorem own_slice {v : Value} {p : Nat → Prop} (h : ∃ k, v.ownBlock = some k ∧ p k) : ∃ a n c, v = .slice (some a) n c := by
  obtain ⟨k, hk, _⟩ := h
  unfold Value.ownBlock at hk
  split at hk
  · exact ⟨_, _, _, rfl⟩
  · cases hk

theorem ifn_true {a k : Int} (h : (a != k) = true) : (if a = k then (0 : Nat) else 1) = 1 := if_neg (by simpa using h)
theorem ifn_false {a k : Int} (h : (a != k) = false) : (if a = k then (0 : Nat) else 1) = 0 := if_pos (by simpa using h)

/-- the hunks so far -/
def CutOwn (w : World) (O : Nat → Prop) (v : Value) (l : List Hunk) (was : Bool) : Prop :=
  if was = true then ∃ init h mv xs, l = init ++ [h] ∧ OwnLast 42 80 w O v init h mv xs else Own 42 w O v l
theorem CutOwn.own {w : World} {O : Nat → Prop} {v : Value} {l : List Hunk} {was : Bool} (h : CutOwn w O v l was) : Own 42 w O v l := by
  unfold CutOwn at h
  split at h
  · obtain ⟨init, q, mv, xs, rfl, hl⟩ := h
    exact hl.own
  · exact h


theorem cut_marks {s : List Mark} {n : Int} (hn : 0 ≤ n) {k : Nat} (hk : k ≤ s.length) (hw : wasIn s n k = true) {init : List Hunk} {q : Hunk} (e : cutTo s n k = init ++ [q]) : q.marks.length ≤ k := by
  obtain ⟨p, m, l, ho⟩ := (cut_inv hn k hk).2 hw
  have h1 := ho.eq
  have h2 := ho.cut
  rw [e] at h2
  have h3 := (List.append_inj' h2 rfl).2
  simp only [List.cons.injEq, and_true] at h3
  subst h3
  have : (s.take k).length = (p ++ m).length := by rw [h1]
  rw [List.length_take, List.length_append] at this
  simp only
  omega

set_option maxHeartbeats 2000000 in
set_option maxRecDepth 100000 in
theorem cut_any (s : List Mark) (n : Int) (v : Value) (w : World) (h : Rdv w Never v s) (hl : s.length ≤ 120) (hn : 0 ≤ n) (hn' : n ≤ 1000) :
    Calls Tryd.prog 117 #[v, .int .i64 n] w fun e w' => ∃ r, e = .returned r ∧ Chg Never w w' ∧ Rdv w' (Old w.heap.size) r (cutOf s n) := by
  obtain ⟨a, cap, rfl, h1, h2, h3⟩ := rdv_slice h
  unfold maxLen at h2
  go_enter Tryd.func117, Tryd.ntmps117
  go_wp2_with fail
  refine (near_any s n _ _ h hl hn hn').mono ?_
  rintro e w1 ⟨rfl, hc1, hB1⟩
  go_wp2_with fail
  go_loopw [6, 7, 8, 17] (fun o s7 s8 i wr => ∃ k : Nat, k ≤ s.length ∧ i = .int .i64 k ∧ s7 = .int .i64 (oldN (s.take k)) ∧ s8 = .int .i64 (newN (s.take k)) ∧ Chg Never w wr ∧ BoolRow w.heap.size wr s.length (inAt s n) ∧
      CutOwn wr (Old (w.heap.size + 1)) o (cutTo s n k) (wasIn s n k)) (fun _ _ _ i _ => s.length - (intOf i).toNat)
  case atStart => exact ⟨0, Nat.zero_le _, rfl, rfl, rfl, hc1, hB1, own_nil _ _ _⟩
  case round =>
    clear hc1 hB1
    obtain ⟨k, hk, rfl, rfl, rfl, hc, hB, hown⟩ := hrel
    by_cases hlt : k < s.length
    · obtain ⟨x, hx⟩ : ∃ x, s[k]? = some x := ⟨s[k], by simp [hlt]⟩
      obtain ⟨b, off, rfl, _, _, c0, c1, s0, s1, hxs⟩ := elems_mark h3 hx
      have c0 := hc.cellNever c0
      have c1 := hc.cellNever c1
      have HO := Lib.hid (oldN_take hx)
      have HN := Lib.hid (newN_take hx)
      have l1 : oldN (s.take k) ≤ k := Nat.le_trans (oldN_le _) (List.length_take_le _ _)
      have l2 : newN (s.take k) ≤ k := Nat.le_trans (newN_le _) (List.length_take_le _ _)
      have hlen := cutTo_len (s := s) hn k hk
      clear h3 h
      have dk := hB.cell hlt
      obtain ⟨sg, tx⟩ := x
      simp only at c0 c1 s0 s1 hxs
      have hA : Chg Never wr (wr.alloc (.cells #[.int .u8 sg, .string tx] 80)) := (Chg.refl Never wr).alloc _
      have hx0 : (wr.alloc (.cells #[.int .u8 sg, .string tx] 80)).cell? ⟨wr.heap.size, 0, none⟩ = some (.int .u8 sg) := by simp only [World.cell?]; rw [heap_alloc_new]; rfl
      have hx1 : (wr.alloc (.cells #[.int .u8 sg, .string tx] 80)).cell? ⟨wr.heap.size, 1, none⟩ = some (.string tx) := by simp only [World.cell?]; rw [heap_alloc_new]; rfl
      have dk := hA.cellNever dk
      have HX := Lib.hid hx
      cases hin : inAt s n k with
      | false =>
        rw [hin] at dk
        have HF := Lib.hid (cutTo_out hx hin)
        have HIN := Lib.hid hin
        have hown := hown.own.never hA
        have hc := hc.trans hA
        have hB := hB.keep hA (fun x => x)
        clear hin hx hA hx0 hx1
        go_wp2_with fail
        all_goals
          go_roundw
          case rel => exact ⟨k + 1, by omega, by go_num, by rw [HO.out]; first | (rw [ifn_true ‹(sg != 43) = true›]; go_num) | (rw [ifn_false ‹(sg != 43) = false›]; rfl), by rw [HN.out]; first | (rw [ifn_true ‹(sg != 45) = true›]; go_num) | (rw [ifn_false ‹(sg != 45) = false›]; rfl), hc, hB, by rw [wasIn_succ, HIN.out, CutOwn, if_neg (by decide), HF.out]; exact hown⟩
          case measure => simp [intOf] <;> omega
      | true =>
        rw [hin] at dk
        have HIN := Lib.hid hin
        cases hwas : wasIn s n k with
        | true =>
          obtain ⟨k', rfl⟩ : ∃ k', k = k' + 1 := by
            unfold wasIn at hwas
            by_cases h0 : 0 < k
            · exact ⟨k - 1, by omega⟩
            · simp [h0] at hwas
          have hown' := hown
          unfold CutOwn at hown'
          rw [if_pos hwas] at hown'
          obtain ⟨init, q, mv, xs, HE, hlast⟩ := hown'
          obtain ⟨g, gcap, rfl, hg1, hg2, hg3, hg4, m2, m0, m1, hfr⟩ := hlast.shape
          have hil : init.length ≤ 120 := by
            rw [HE, List.length_append] at hlen
            simp at hlen
            omega
          have hlm : q.marks.length ≤ 1000000000 := by
            have := cut_marks hn hk hwas HE
            omega
          have HF := Lib.hid (cutTo_more hx hin hwas HE)
          have hin' : inAt s n k' = true := by rw [wasIn_succ] at hwas; exact hwas
          have dk' := hB.cell (k := k') (by omega)
          rw [hin'] at dk'
          have dk' := hA.cellNever dk'
          have hxM : ¬ OwnB mv wr.heap.size := fun hh => absurd (own_block_lt hlast.marks _ hh) (by omega)
          have hlast := hlast.keep hA
          have hc := hc.trans hA
          have hB := hB.keep hA (fun x => x)
          have m2 := hA.cellNever m2
          have hfr := fun j => (hA.frozen (p := ⟨g, j, none⟩) hg1 (fun x => x)).trans (hfr j)
          have hg1 : g < (wr.alloc (.cells #[.int .u8 sg, .string tx] 80)).heap.size := Nat.lt_of_lt_of_le hg1 hA.size
          clear HE hin hin' hwas hown hx hA hlen
          have z1 : (k' : Int) + 1 - 1 = k' := by omega
          have z2 : ((k' : Int) + 1 == 0) = false := by simp; omega
          go_wp2_with fail
          generalize wr.alloc (.cells #[.int .u8 sg, .string tx] 80) = w4 at hlast m2 hx0 hx1 hc hB hfr hg1 ⊢
          have hmL : OwnLast 42 80 w4.drew (Old (w.heap.size + 1)) (.slice (some ⟨g, 0, none⟩) (init.length + 1) gcap) init q mv xs := hlast.keep (Chg.drew (Chg.refl Never _))
          have hgge : w.heap.size ≤ g := by unfold Old at hg2; omega
          have hgM : ¬ OwnB mv g := by
            obtain ⟨_, _, qq, _⟩ := hlast.marks
            exact fun hh => qq g hh (.inr rfl)
          have hO : ∀ k, (Old (w.heap.size + 1) k ∨ (Value.slice (some ⟨g, 0, none⟩) (init.length + 1) gcap).ownBlock = some k) → k < w4.drew.heap.size := by
            rintro k (h | h)
            · obtain ⟨_, hb1, _⟩ := id hB
              have := (Array.getElem?_eq_some_iff.1 hb1).1
              unfold Old at h
              show k < w4.heap.size
              omega
            · cases h
              exact hg1
          clear hlast
          have m2 : w4.drew.cell? ⟨g, init.length * 3 + 2, none⟩ = some mv := m2
          have hx0 : w4.drew.cell? ⟨wr.heap.size, 0, none⟩ = some (.int .u8 sg) := hx0
          have hx1 : w4.drew.cell? ⟨wr.heap.size, 1, none⟩ = some (.string tx) := hx1
          have hc : Chg Never w w4.drew := hc.drew
          have hB : BoolRow w.heap.size w4.drew s.length (inAt s n) := hB
          have hfr : ∀ j, w4.drew.frozen? ⟨g, j, none⟩ = false := hfr
          have hg1 : g < w4.drew.heap.size := hg1
          go_region_law ((refine step_push (by rfl) _ _ 40 (by rfl) elemOk_mark (O := fun k => Old (w.heap.size + 1) k ∨ (Value.slice (some ⟨g, 0, none⟩) (init.length + 1) gcap).ownBlock = some k) (l := q.marks) (y := ⟨sg, tx⟩) (by rfl) (by rfl) (by simp) hmL.marks (rd_mark _ _ sg tx s0 s1 hxs) hO hlm ?_; intro v' w5 hown2 hc2 hk2; obtain ⟨ad, nn, cc, rfl⟩ := own_slice hk2; have hfr5 : w5.frozen? ⟨g, init.length * 3 + 2, none⟩ = false := (hc2.frozen (p := ⟨g, init.length * 3 + 2, none⟩) hg1 hgM).trans (hfr _); have hcl5 : w5.cell? ⟨g, init.length * 3 + 2, none⟩ = some mv := hc2.cell (p := ⟨g, init.length * 3 + 2, none⟩) m2 hgM; have hb0 : w5.cell? ⟨wr.heap.size, 0, none⟩ = some (.int .u8 sg) := hc2.cell (p := ⟨wr.heap.size, 0, none⟩) hx0 hxM; have hb1 : w5.cell? ⟨wr.heap.size, 1, none⟩ = some (.string tx) := hc2.cell (p := ⟨wr.heap.size, 1, none⟩) hx1 hxM))
          all_goals go_wp2_with fail
          all_goals
            have hBne : ¬ OwnB mv w.heap.size := by
              obtain ⟨_, _, qq, _⟩ := hmL.marks
              exact fun hh => qq _ hh (.inl (Nat.lt_succ_self _))
            have hown3 : Own 80 w4.drew (Old (w.heap.size + 1)) mv q.marks := hmL.marks.keep (Chg.refl Never _) (fun _ _ h => h.elim) (fun _ _ h => .inl h)
            have hc5 := own_step' hc (Nat.le_succ _) hown3 hc2
            have hst := OwnLast.stored hmL hown2 hc2 hk2
            have hB5 := hB.keep hc2 hBne
            have hB6 := hB5.keep ((Chg.refl (fun k => k = g) w5).setCell (p := ⟨g, init.length * 3 + 2, none⟩) (.inr rfl) (.slice (some ad) nn cc)) (fun h => by unfold Old at hg2; omega)
            clear hmL hB hB5 hown2 hown3
            go_roundw
            case rel => exact ⟨(k' + 1) + 1, by omega, by go_num, by rw [HO.out]; first | (rw [ifn_true ‹(sg != 43) = true›]; go_num) | (rw [ifn_false ‹(sg != 43) = false›]; rfl), by rw [HN.out]; first | (rw [ifn_true ‹(sg != 45) = true›]; go_num) | (rw [ifn_false ‹(sg != 45) = false›]; rfl), hc5.setCell (.inl hgge) _, hB6, by rw [wasIn_succ, HIN.out, CutOwn, if_pos rfl]; exact ⟨_, _, _, _, HF.out, hst⟩⟩
            case measure => simp [intOf] <;> omega
        | false =>
          rcases Nat.eq_zero_or_pos k with h0 | h0
          · subst h0
            have hown' := hown
            unfold CutOwn at hown'
            rw [if_neg (by rw [hwas]; decide)] at hown'
            have HF := Lib.hid (cutTo_new hx hin hwas)
            generalize cutTo s n 0 = init at HF hown' hlen
            have hxM0 := own_block_lt hown'
            clear hown
            have hown := hown'.never hA
            have hc := hc.trans hA
            have hO0 : ∀ k, Old (w.heap.size + 1) k → k < (wr.alloc (.cells #[.int .u8 sg, .string tx] 80)).heap.size := by
              intro k h
              obtain ⟨_, hb1, _⟩ := id hB
              have := (Array.getElem?_eq_some_iff.1 hb1).1
              unfold Old at h
              simp
              omega
            have hxM := fun hh => (Nat.lt_irrefl _ (hxM0 wr.heap.size hh) : False)
            clear hxM0
            have hB := hB.keep hA (fun x => x)
            clear hin hwas hx hA hown'
            simp only [Nat.zero_mul, Nat.add_zero, Nat.zero_add, List.take_zero] at c0 c1 dk HO HN l1 l2
            go_wp2_with (at_builtin; refine wpList_push_last (by rfl) _ _ 72 (by rfl) 80 elemOk_hunk (O := Old (w.heap.size + 1)) (by rfl) (by rfl) (by simp) hown hO0 (by omega) ?_; intro v' w4 xs hlast hc4; obtain ⟨g, gcap, rfl, hg1, hg2, hg3, hg4, m2, m0, m1, hfr⟩ := hlast.shape)
            have hx0 := hc4.cell (p := ⟨wr.heap.size, 0, none⟩) hx0 hxM
            have hx1 := hc4.cell (p := ⟨wr.heap.size, 1, none⟩) hx1 hxM
            have hB := hB.keep hc4 (own_not hown (Nat.lt_succ_self _))
            have hc := own_step' hc (Nat.le_succ _) hown hc4
            have hxM : ¬ OwnB (Value.slice none 0 0) wr.heap.size := by simp [OwnB, Value.ownBlock]
            have hlm : ([] : List Mark).length ≤ 1000000000 := by simp
            have hmL : OwnLast 42 80 w4.drew (Old (w.heap.size + 1)) (.slice (some ⟨g, 0, none⟩) (init.length + 1) gcap) init (⟨(oldN ([] : List Mark) : Int), (newN ([] : List Mark) : Int), []⟩ : Hunk) (Value.slice none 0 0) xs := hlast.keep (Chg.drew (Chg.refl Never _))
            have hgge : w.heap.size ≤ g := by unfold Old at hg2; omega
            have hgM : ¬ OwnB (Value.slice none 0 0) g := by
              obtain ⟨_, _, qq, _⟩ := hlast.marks
              exact fun hh => qq g hh (.inr rfl)
            have hO : ∀ k, (Old (w.heap.size + 1) k ∨ (Value.slice (some ⟨g, 0, none⟩) (init.length + 1) gcap).ownBlock = some k) → k < w4.drew.heap.size := by
              rintro k (h | h)
              · obtain ⟨_, hb1, _⟩ := id hB
                have := (Array.getElem?_eq_some_iff.1 hb1).1
                unfold Old at h
                show k < w4.heap.size
                omega
              · cases h
                exact hg1
            clear hlast
            have m2 : w4.drew.cell? ⟨g, init.length * 3 + 2, none⟩ = some (Value.slice none 0 0) := m2
            have hx0 : w4.drew.cell? ⟨wr.heap.size, 0, none⟩ = some (.int .u8 sg) := hx0
            have hx1 : w4.drew.cell? ⟨wr.heap.size, 1, none⟩ = some (.string tx) := hx1
            have hc : Chg Never w w4.drew := hc.drew
            have hB : BoolRow w.heap.size w4.drew s.length (inAt s n) := hB
            have hfr : ∀ j, w4.drew.frozen? ⟨g, j, none⟩ = false := hfr
            have hg1 : g < w4.drew.heap.size := hg1
            go_region_law ((refine step_push (by rfl) _ _ 40 (by rfl) elemOk_mark (O := fun k => Old (w.heap.size + 1) k ∨ (Value.slice (some ⟨g, 0, none⟩) (init.length + 1) gcap).ownBlock = some k) (l := (⟨(oldN ([] : List Mark) : Int), (newN ([] : List Mark) : Int), []⟩ : Hunk).marks) (y := ⟨sg, tx⟩) (by rfl) (by rfl) (by simp) hmL.marks (rd_mark _ _ sg tx s0 s1 hxs) hO hlm ?_; intro v' w5 hown2 hc2 hk2; obtain ⟨ad, nn, cc, rfl⟩ := own_slice hk2; have hfr5 : w5.frozen? ⟨g, init.length * 3 + 2, none⟩ = false := (hc2.frozen (p := ⟨g, init.length * 3 + 2, none⟩) hg1 hgM).trans (hfr _); have hcl5 : w5.cell? ⟨g, init.length * 3 + 2, none⟩ = some (Value.slice none 0 0) := hc2.cell (p := ⟨g, init.length * 3 + 2, none⟩) m2 hgM; have hb0 : w5.cell? ⟨wr.heap.size, 0, none⟩ = some (.int .u8 sg) := hc2.cell (p := ⟨wr.heap.size, 0, none⟩) hx0 hxM; have hb1 : w5.cell? ⟨wr.heap.size, 1, none⟩ = some (.string tx) := hc2.cell (p := ⟨wr.heap.size, 1, none⟩) hx1 hxM))
            all_goals go_wp2_with fail
            all_goals
              have hBne : ¬ OwnB (Value.slice none 0 0) w.heap.size := by
                obtain ⟨_, _, qq, _⟩ := hmL.marks
                exact fun hh => qq _ hh (.inl (Nat.lt_succ_self _))
              have hown3 : Own 80 w4.drew (Old (w.heap.size + 1)) (Value.slice none 0 0) (⟨(oldN ([] : List Mark) : Int), (newN ([] : List Mark) : Int), []⟩ : Hunk).marks := hmL.marks.keep (Chg.refl Never _) (fun _ _ h => h.elim) (fun _ _ h => .inl h)
              have hc5 := own_step' hc (Nat.le_succ _) hown3 hc2
              have hst := OwnLast.stored hmL hown2 hc2 hk2
              have hB5 := hB.keep hc2 hBne
              have hB6 := hB5.keep ((Chg.refl (fun k => k = g) w5).setCell (p := ⟨g, init.length * 3 + 2, none⟩) (.inr rfl) (.slice (some ad) nn cc)) (fun h => by unfold Old at hg2; omega)
              clear hmL hB hB5 hown2 hown3
              go_roundw
              case rel => exact ⟨0 + 1, by omega, by go_num, by rw [HO.out]; first | (rw [ifn_true ‹(sg != 43) = true›]; go_num) | (rw [ifn_false ‹(sg != 43) = false›]; rfl), by rw [HN.out]; first | (rw [ifn_true ‹(sg != 45) = true›]; go_num) | (rw [ifn_false ‹(sg != 45) = false›]; rfl), hc5.setCell (.inl hgge) _, hB6, by rw [wasIn_succ, HIN.out, CutOwn, if_pos rfl]; exact ⟨_, _, _, _, HF.out, hst⟩⟩
              case measure => simp [intOf] <;> omega
          · obtain ⟨k', rfl⟩ : ∃ k', k = k' + 1 := ⟨k - 1, by omega⟩
            have hin' : inAt s n k' = false := by rw [wasIn_succ] at hwas; exact hwas
            have dk' := hB.cell (k := k') (by omega)
            rw [hin'] at dk'
            have dk' := hA.cellNever dk'
            have hown' := hown
            unfold CutOwn at hown'
            rw [if_neg (by rw [hwas]; decide)] at hown'
            have HF := Lib.hid (cutTo_new hx hin hwas)
            generalize cutTo s n (k' + 1) = init at HF hown' hlen
            have hxM0 := own_block_lt hown'
            clear hown
            have hown := hown'.never hA
            have hc := hc.trans hA
            have hO0 : ∀ k, Old (w.heap.size + 1) k → k < (wr.alloc (.cells #[.int .u8 sg, .string tx] 80)).heap.size := by
              intro k h
              obtain ⟨_, hb1, _⟩ := id hB
              have := (Array.getElem?_eq_some_iff.1 hb1).1
              unfold Old at h
              simp
              omega
            have hxM := fun hh => (Nat.lt_irrefl _ (hxM0 wr.heap.size hh) : False)
            clear hxM0
            have hB := hB.keep hA (fun x => x)
            clear hin hin' hwas hx hA hown'
            have z1 : (k' : Int) + 1 - 1 = k' := by omega
            have z2 : ((k' : Int) + 1 == 0) = false := by simp; omega
            go_wp2_with (at_builtin; refine wpList_push_last (by rfl) _ _ 72 (by rfl) 80 elemOk_hunk (O := Old (w.heap.size + 1)) (by rfl) (by rfl) (by simp) hown hO0 (by omega) ?_; intro v' w4 xs hlast hc4; obtain ⟨g, gcap, rfl, hg1, hg2, hg3, hg4, m2, m0, m1, hfr⟩ := hlast.shape)
            have hx0 := hc4.cell (p := ⟨wr.heap.size, 0, none⟩) hx0 hxM
            have hx1 := hc4.cell (p := ⟨wr.heap.size, 1, none⟩) hx1 hxM
            have hB := hB.keep hc4 (own_not hown (Nat.lt_succ_self _))
            have hc := own_step' hc (Nat.le_succ _) hown hc4
            have hxM : ¬ OwnB (Value.slice none 0 0) wr.heap.size := by simp [OwnB, Value.ownBlock]
            have hlm : ([] : List Mark).length ≤ 1000000000 := by simp
            have hmL : OwnLast 42 80 w4.drew (Old (w.heap.size + 1)) (.slice (some ⟨g, 0, none⟩) (init.length + 1) gcap) init (⟨(oldN (s.take (k' + 1)) : Int), (newN (s.take (k' + 1)) : Int), []⟩ : Hunk) (Value.slice none 0 0) xs := hlast.keep (Chg.drew (Chg.refl Never _))
            have hgge : w.heap.size ≤ g := by unfold Old at hg2; omega
            have hgM : ¬ OwnB (Value.slice none 0 0) g := by
              obtain ⟨_, _, qq, _⟩ := hlast.marks
              exact fun hh => qq g hh (.inr rfl)
            have hO : ∀ k, (Old (w.heap.size + 1) k ∨ (Value.slice (some ⟨g, 0, none⟩) (init.length + 1) gcap).ownBlock = some k) → k < w4.drew.heap.size := by
              rintro k (h | h)
              · obtain ⟨_, hb1, _⟩ := id hB
                have := (Array.getElem?_eq_some_iff.1 hb1).1
                unfold Old at h
                show k < w4.heap.size
                omega
              · cases h
                exact hg1
            clear hlast
            have m2 : w4.drew.cell? ⟨g, init.length * 3 + 2, none⟩ = some (Value.slice none 0 0) := m2
            have hx0 : w4.drew.cell? ⟨wr.heap.size, 0, none⟩ = some (.int .u8 sg) := hx0
            have hx1 : w4.drew.cell? ⟨wr.heap.size, 1, none⟩ = some (.string tx) := hx1
            have hc : Chg Never w w4.drew := hc.drew
            have hB : BoolRow w.heap.size w4.drew s.length (inAt s n) := hB
            have hfr : ∀ j, w4.drew.frozen? ⟨g, j, none⟩ = false := hfr
            have hg1 : g < w4.drew.heap.size := hg1
            go_region_law ((refine step_push (by rfl) _ _ 40 (by rfl) elemOk_mark (O := fun k => Old (w.heap.size + 1) k ∨ (Value.slice (some ⟨g, 0, none⟩) (init.length + 1) gcap).ownBlock = some k) (l := (⟨(oldN (s.take (k' + 1)) : Int), (newN (s.take (k' + 1)) : Int), []⟩ : Hunk).marks) (y := ⟨sg, tx⟩) (by rfl) (by rfl) (by simp) hmL.marks (rd_mark _ _ sg tx s0 s1 hxs) hO hlm ?_; intro v' w5 hown2 hc2 hk2; obtain ⟨ad, nn, cc, rfl⟩ := own_slice hk2; have hfr5 : w5.frozen? ⟨g, init.length * 3 + 2, none⟩ = false := (hc2.frozen (p := ⟨g, init.length * 3 + 2, none⟩) hg1 hgM).trans (hfr _); have hcl5 : w5.cell? ⟨g, init.length * 3 + 2, none⟩ = some (Value.slice none 0 0) := hc2.cell (p := ⟨g, init.length * 3 + 2, none⟩) m2 hgM; have hb0 : w5.cell? ⟨wr.heap.size, 0, none⟩ = some (.int .u8 sg) := hc2.cell (p := ⟨wr.heap.size, 0, none⟩) hx0 hxM; have hb1 : w5.cell? ⟨wr.heap.size, 1, none⟩ = some (.string tx) := hc2.cell (p := ⟨wr.heap.size, 1, none⟩) hx1 hxM))
            all_goals go_wp2_with fail
            all_goals
              have hBne : ¬ OwnB (Value.slice none 0 0) w.heap.size := by
                obtain ⟨_, _, qq, _⟩ := hmL.marks
                exact fun hh => qq _ hh (.inl (Nat.lt_succ_self _))
              have hown3 : Own 80 w4.drew (Old (w.heap.size + 1)) (Value.slice none 0 0) (⟨(oldN (s.take (k' + 1)) : Int), (newN (s.take (k' + 1)) : Int), []⟩ : Hunk).marks := hmL.marks.keep (Chg.refl Never _) (fun _ _ h => h.elim) (fun _ _ h => .inl h)
              have hc5 := own_step' hc (Nat.le_succ _) hown3 hc2
              have hst := OwnLast.stored hmL hown2 hc2 hk2
              have hB5 := hB.keep hc2 hBne
              have hB6 := hB5.keep ((Chg.refl (fun k => k = g) w5).setCell (p := ⟨g, init.length * 3 + 2, none⟩) (.inr rfl) (.slice (some ad) nn cc)) (fun h => by unfold Old at hg2; omega)
              clear hmL hB hB5 hown2 hown3
              go_roundw
              case rel => exact ⟨(k' + 1) + 1, by omega, by go_num, by rw [HO.out]; first | (rw [ifn_true ‹(sg != 43) = true›]; go_num) | (rw [ifn_false ‹(sg != 43) = false›]; rfl), by rw [HN.out]; first | (rw [ifn_true ‹(sg != 45) = true›]; go_num) | (rw [ifn_false ‹(sg != 45) = false›]; rfl), hc5.setCell (.inl hgge) _, hB6, by rw [wasIn_succ, HIN.out, CutOwn, if_pos rfl]; exact ⟨_, _, _, _, HF.out, hst⟩⟩
              case measure => simp [intOf] <;> omega
    · go_wp2_with fail
      go_ret
      obtain rfl : k = s.length := by omega
      exact ⟨_, rfl, hc, hown.own.rdv.sub (fun k _ hk => by unfold Old at *; omega)⟩
end Go.Proofs.YtpoammapjmddfaaDoor
