/-
  PARTS: THE WALK of hunk.cut.; THE WALKS of unified.Reader's Open and mark.
-/
import Derived.Test.YtjiaidchcldocaaGreatDoorPg8
import Derived.Test.YtjiaidchcldocaaGreatDoorPg5
import Derived.Deep.RegionLaw
import Derived.Deep.DrawnRows
import Derived.Test.YtjiaidchcldocaaGreatDoorPg1
import Derived.Test.YtjiaidchcldocaaGreatDoorPg7
import Derived.Deep.RegionHeld3
import Derived.Deep.Cut
set_option linter.unusedVariables false
set_option linter.unusedSimpArgs false
namespace Go.Proofs.YtjiaidchcldocaaGreatDoor
open Go.RowKit

theorem elemOk_hunk : ElemOk Tryz.prog 83 129 3 := elemOk_of Tryz.underlying83 (z := .agg #[.int .i64 0, .int .i64 0, .slice none 0 0]) (b := 40) (by kernel_rfl) rfl (by decide)

/-- 'append(v, y)' at a step of a region that draws: y's cells have just been laid in a block of their own -/
theorem step_push {P : Program} {ops : Array Oper} {o : Oper} {a : Act} {K : Act → World → Prop} {Q : Exit → Act → World → Prop} {E : Prop} (hgd : o.guard = none) (s x : Operand) (t : TypeId)
    (ho : o.op = .call { callee := .builtin .append, args := #[s, x], argTypes := #[t, t] }) {α : Type} [Dat α] {e : TypeId} (hP : ElemOk P t e (Dat.n α)) {w0 : World} {O : Nat → Prop} {v : Value} {l : List α} {y : α} {es : List Value} {E' : TypeId} {B : Nat}
    (hs : a.eval s = v) (hx : a.eval x = .slice (some ⟨B, 0, none⟩) 1 1) (hB : B = w0.heap.size)
    (hown : Own e w0 O v l) (hy : Dat.rd w0 (fun k => O k ∨ v.ownBlock = some k) es y) (hO : ∀ k, O k → k < w0.heap.size) (hlen : l.length ≤ 1000000000)
    (h : ∀ v' w', Own e w' O v' (l ++ [y]) → Chg (OwnB v) w0 w' → (∃ k, v'.ownBlock = some k ∧ (v.ownBlock = some k ∨ w0.heap.size ≤ k)) → K (a.put o.dst v') w') :
    if Region.wanted o (yielded ops a.tmps) = true then Oper.wp P o a (w0.alloc (.cells es.toArray E')) K Q else E := by
  have hw : Region.wanted o (yielded ops a.tmps) = true := by simp [Region.wanted, hgd]
  rw [if_pos hw]
  subst hB
  obtain ⟨v', w', hrun, h1, h2, h3⟩ := run_push (ty := o.type) hP E' hown hy hO hlen
  unfold Oper.wp execOp
  simp only [ho, resolve, invoke, builtin, Sem.run_bind, Sem.run_pure, Result.andThen_ok, List.map_toArray, List.map_cons, List.map_nil, hs, hx, hrun]
  exact h v' w' h1 h2 h3

theorem cutTo_len {s : List Mark} {n : Int} (hn : 0 ≤ n) : ∀ k, k ≤ s.length → (cutTo s n k).length ≤ k := by
  intro k
  induction k with
  | zero => intro _; exact Nat.le_refl _
  | succ k ih =>
    intro hk
    have := ih (by omega)
    by_cases h1 : inAt s n k = true
    · by_cases h2 : wasIn s n k = true
      · rw [cutLen_more hn (by omega) h1 h2]; omega
      · rw [cutLen_new (by omega) h1 (by simpa using h2)]; omega
    · rw [cutLen_out (by omega) (by simpa using h1)]; omega

theorem own_slice {v : Value} {p : Nat → Prop} (h : ∃ k, v.ownBlock = some k ∧ p k) : ∃ a n c, v = .slice (some a) n c := by
  obtain ⟨k, hk, _⟩ := h
  unfold Value.ownBlock at hk
  split at hk
  · exact ⟨_, _, _, rfl⟩
  · cases hk

theorem ifn_true {a k : Int} (h : (a != k) = true) : (if a = k then (0 : Nat) else 1) = 1 := if_neg (by simpa using h)
theorem ifn_false {a k : Int} (h : (a != k) = false) : (if a = k then (0 : Nat) else 1) = 0 := if_pos (by simpa using h)

/-- the hunks so far -/
def CutOwn (w : World) (O : Nat → Prop) (v : Value) (l : List Hunk) (was : Bool) : Prop :=
  if was = true then ∃ init h mv xs, l = init ++ [h] ∧ OwnLast 129 126 w O v init h mv xs else Own 129 w O v l
theorem CutOwn.own {w : World} {O : Nat → Prop} {v : Value} {l : List Hunk} {was : Bool} (h : CutOwn w O v l was) : Own 129 w O v l := by
  unfold CutOwn at h
  split at h
  · obtain ⟨init, q, mv, xs, rfl, hl⟩ := h
    exact hl.own
  · exact h


theorem cut_marks {s : List Mark} {n : Int} (hn : 0 ≤ n) {k : Nat} (hk : k ≤ s.length) (hw : wasIn s n k = true) {init : List Hunk} {q : Hunk} (e : cutTo s n k = init ++ [q]) : q.marks.length ≤ k := by
  obtain ⟨p, m, l, ho⟩ := (cut_inv hn k hk).2 hw
  have h1 := ho.eq
  have h2 := ho.cut
  rw [e] at h2
  have h3 := (List.append_inj' h2 rfl).2
  simp only [List.cons.injEq, and_true] at h3
  subst h3
  have : (s.take k).length = (p ++ m).length := by rw [h1]
  rw [List.length_take, List.length_append] at this
  simp only
  omega

set_option maxHeartbeats 2000000 in
set_option maxRecDepth 100000 in
theorem cut_any (s : List Mark) (n : Int) (v : Value) (w : World) (h : Rdv w Never v s) (hl : s.length ≤ 120) (hn : 0 ≤ n) (hn' : n ≤ 1000) :
    Calls Tryz.prog 164 #[v, .int .i64 n] w fun e w' => ∃ r, e = .returned r ∧ Chg Never w w' ∧ Rdv w' (Old w.heap.size) r (cutOf s n) := by
  obtain ⟨a, cap, rfl, h1, h2, h3⟩ := rdv_slice h
  unfold maxLen at h2
  go_enter Tryz.func164, Tryz.ntmps164
  go_wp2_with fail
  refine (near_any s n _ _ h hl hn hn').mono ?_
  rintro e w1 ⟨rfl, hc1, hB1⟩
  go_wp2_with fail
  go_loopw [6, 7, 8, 17] (fun o s7 s8 i wr => ∃ k : Nat, k ≤ s.length ∧ i = .int .i64 k ∧ s7 = .int .i64 (oldN (s.take k)) ∧ s8 = .int .i64 (newN (s.take k)) ∧ Chg Never w wr ∧ BoolRow w.heap.size wr s.length (inAt s n) ∧
      CutOwn wr (Old (w.heap.size + 1)) o (cutTo s n k) (wasIn s n k)) (fun _ _ _ i _ => s.length - (intOf i).toNat)
  case atStart => exact ⟨0, Nat.zero_le _, rfl, rfl, rfl, hc1, hB1, own_nil _ _ _⟩
  case round =>
    clear hc1 hB1
    obtain ⟨k, hk, rfl, rfl, rfl, hc, hB, hown⟩ := hrel
    by_cases hlt : k < s.length
    · obtain ⟨x, hx⟩ : ∃ x, s[k]? = some x := ⟨s[k], by simp [hlt]⟩
      obtain ⟨b, off, rfl, _, _, c0, c1, s0, s1, hxs⟩ := elems_mark h3 hx
      have c0 := hc.cellNever c0
      have c1 := hc.cellNever c1
      have HO := Lib.hid (oldN_take hx)
      have HN := Lib.hid (newN_take hx)
      have l1 : oldN (s.take k) ≤ k := Nat.le_trans (oldN_le _) (List.length_take_le _ _)
      have l2 : newN (s.take k) ≤ k := Nat.le_trans (newN_le _) (List.length_take_le _ _)
      have hlen := cutTo_len (s := s) hn k hk
      clear h3 h
      have dk := hB.cell hlt
      obtain ⟨sg, tx⟩ := x
      simp only at c0 c1 s0 s1 hxs
      have hA : Chg Never wr (wr.alloc (.cells #[.int .u8 sg, .string tx] 126)) := (Chg.refl Never wr).alloc _
      have hx0 : (wr.alloc (.cells #[.int .u8 sg, .string tx] 126)).cell? ⟨wr.heap.size, 0, none⟩ = some (.int .u8 sg) := by simp only [World.cell?]; rw [heap_alloc_new]; rfl
      have hx1 : (wr.alloc (.cells #[.int .u8 sg, .string tx] 126)).cell? ⟨wr.heap.size, 1, none⟩ = some (.string tx) := by simp only [World.cell?]; rw [heap_alloc_new]; rfl
      have dk := hA.cellNever dk
      have HX := Lib.hid hx
      cases hin : inAt s n k with
      | false =>
        rw [hin] at dk
        have HF := Lib.hid (cutTo_out hx hin)
        have HIN := Lib.hid hin
        have hown := hown.own.never hA
        have hc := hc.trans hA
        have hB := hB.keep hA (fun x => x)
        clear hin hx hA hx0 hx1
        go_wp2_with fail
        all_goals
          go_roundw
          case rel => exact ⟨k + 1, by omega, by go_num, by rw [HO.out]; first | (rw [ifn_true ‹(sg != 43) = true›]; go_num) | (rw [ifn_false ‹(sg != 43) = false›]; rfl), by rw [HN.out]; first | (rw [ifn_true ‹(sg != 45) = true›]; go_num) | (rw [ifn_false ‹(sg != 45) = false›]; rfl), hc, hB, by rw [wasIn_succ, HIN.out, CutOwn, if_neg (by decide), HF.out]; exact hown⟩
          case measure => simp [intOf] <;> omega
      | true =>
        rw [hin] at dk
        have HIN := Lib.hid hin
        cases hwas : wasIn s n k with
        | true =>
          obtain ⟨k', rfl⟩ : ∃ k', k = k' + 1 := by
            unfold wasIn at hwas
            by_cases h0 : 0 < k
            · exact ⟨k - 1, by omega⟩
            · simp [h0] at hwas
          have hown' := hown
          unfold CutOwn at hown'
          rw [if_pos hwas] at hown'
          obtain ⟨init, q, mv, xs, HE, hlast⟩ := hown'
          obtain ⟨g, gcap, rfl, hg1, hg2, hg3, hg4, m2, m0, m1, hfr⟩ := hlast.shape
          have hil : init.length ≤ 120 := by
            rw [HE, List.length_append] at hlen
            simp at hlen
            omega
          have hlm : q.marks.length ≤ 1000000000 := by
            have := cut_marks hn hk hwas HE
            omega
          have HF := Lib.hid (cutTo_more hx hin hwas HE)
          have hin' : inAt s n k' = true := by rw [wasIn_succ] at hwas; exact hwas
          have dk' := hB.cell (k := k') (by omega)
          rw [hin'] at dk'
          have dk' := hA.cellNever dk'
          have hxM : ¬ OwnB mv wr.heap.size := fun hh => absurd (own_block_lt hlast.marks _ hh) (by omega)
          have hlast := hlast.keep hA
          have hc := hc.trans hA
          have hB := hB.keep hA (fun x => x)
          have m2 := hA.cellNever m2
          have hfr := fun j => (hA.frozen (p := ⟨g, j, none⟩) hg1 (fun x => x)).trans (hfr j)
          have hg1 : g < (wr.alloc (.cells #[.int .u8 sg, .string tx] 126)).heap.size := Nat.lt_of_lt_of_le hg1 hA.size
          clear HE hin hin' hwas hown hx hA hlen
          have z1 : (k' : Int) + 1 - 1 = k' := by omega
          have z2 : ((k' : Int) + 1 == 0) = false := by simp; omega
          go_wp2_with fail
          generalize wr.alloc (.cells #[.int .u8 sg, .string tx] 126) = w4 at hlast m2 hx0 hx1 hc hB hfr hg1 ⊢
          have hmL : OwnLast 129 126 w4.drew (Old (w.heap.size + 1)) (.slice (some ⟨g, 0, none⟩) (init.length + 1) gcap) init q mv xs := hlast.keep (Chg.drew (Chg.refl Never _))
          have hgge : w.heap.size ≤ g := by unfold Old at hg2; omega
          have hgM : ¬ OwnB mv g := by
            obtain ⟨_, _, qq, _⟩ := hlast.marks
            exact fun hh => qq g hh (.inr rfl)
          have hO : ∀ k, (Old (w.heap.size + 1) k ∨ (Value.slice (some ⟨g, 0, none⟩) (init.length + 1) gcap).ownBlock = some k) → k < w4.drew.heap.size := by
            rintro k (h | h)
            · obtain ⟨_, hb1, _⟩ := id hB
              have := (Array.getElem?_eq_some_iff.1 hb1).1
              unfold Old at h
              show k < w4.heap.size
              omega
            · cases h
              exact hg1
          clear hlast
          have m2 : w4.drew.cell? ⟨g, init.length * 3 + 2, none⟩ = some mv := m2
          have hx0 : w4.drew.cell? ⟨wr.heap.size, 0, none⟩ = some (.int .u8 sg) := hx0
          have hx1 : w4.drew.cell? ⟨wr.heap.size, 1, none⟩ = some (.string tx) := hx1
          have hc : Chg Never w w4.drew := hc.drew
          have hB : BoolRow w.heap.size w4.drew s.length (inAt s n) := hB
          have hfr : ∀ j, w4.drew.frozen? ⟨g, j, none⟩ = false := hfr
          have hg1 : g < w4.drew.heap.size := hg1
          go_region_law ((refine step_push (by rfl) _ _ 127 (by rfl) elemOk_mark (O := fun k => Old (w.heap.size + 1) k ∨ (Value.slice (some ⟨g, 0, none⟩) (init.length + 1) gcap).ownBlock = some k) (l := q.marks) (y := ⟨sg, tx⟩) (by rfl) (by rfl) (by simp) hmL.marks (rd_mark _ _ sg tx s0 s1 hxs) hO hlm ?_; intro v' w5 hown2 hc2 hk2; obtain ⟨ad, nn, cc, rfl⟩ := own_slice hk2; have hfr5 : w5.frozen? ⟨g, init.length * 3 + 2, none⟩ = false := (hc2.frozen (p := ⟨g, init.length * 3 + 2, none⟩) hg1 hgM).trans (hfr _); have hcl5 : w5.cell? ⟨g, init.length * 3 + 2, none⟩ = some mv := hc2.cell (p := ⟨g, init.length * 3 + 2, none⟩) m2 hgM; have hb0 : w5.cell? ⟨wr.heap.size, 0, none⟩ = some (.int .u8 sg) := hc2.cell (p := ⟨wr.heap.size, 0, none⟩) hx0 hxM; have hb1 : w5.cell? ⟨wr.heap.size, 1, none⟩ = some (.string tx) := hc2.cell (p := ⟨wr.heap.size, 1, none⟩) hx1 hxM))
          all_goals go_wp2_with fail
          all_goals
            have hBne : ¬ OwnB mv w.heap.size := by
              obtain ⟨_, _, qq, _⟩ := hmL.marks
              exact fun hh => qq _ hh (.inl (Nat.lt_succ_self _))
            have hown3 : Own 126 w4.drew (Old (w.heap.size + 1)) mv q.marks := hmL.marks.keep (Chg.refl Never _) (fun _ _ h => h.elim) (fun _ _ h => .inl h)
            have hc5 := own_step' hc (Nat.le_succ _) hown3 hc2
            have hst := OwnLast.stored hmL hown2 hc2 hk2
            have hB5 := hB.keep hc2 hBne
            have hB6 := hB5.keep ((Chg.refl (fun k => k = g) w5).setCell (p := ⟨g, init.length * 3 + 2, none⟩) (.inr rfl) (.slice (some ad) nn cc)) (fun h => by unfold Old at hg2; omega)
            clear hmL hB hB5 hown2 hown3
            go_roundw
            case rel => exact ⟨(k' + 1) + 1, by omega, by go_num, by rw [HO.out]; first | (rw [ifn_true ‹(sg != 43) = true›]; go_num) | (rw [ifn_false ‹(sg != 43) = false›]; rfl), by rw [HN.out]; first | (rw [ifn_true ‹(sg != 45) = true›]; go_num) | (rw [ifn_false ‹(sg != 45) = false›]; rfl), hc5.setCell (.inl hgge) _, hB6, by rw [wasIn_succ, HIN.out, CutOwn, if_pos rfl]; exact ⟨_, _, _, _, HF.out, hst⟩⟩
            case measure => simp [intOf] <;> omega
        | false =>
          rcases Nat.eq_zero_or_pos k with h0 | h0
          · subst h0
            have hown' := hown
            unfold CutOwn at hown'
            rw [if_neg (by rw [hwas]; decide)] at hown'
            have HF := Lib.hid (cutTo_new hx hin hwas)
            generalize cutTo s n 0 = init at HF hown' hlen
            have hxM0 := own_block_lt hown'
            clear hown
            have hown := hown'.never hA
            have hc := hc.trans hA
            have hO0 : ∀ k, Old (w.heap.size + 1) k → k < (wr.alloc (.cells #[.int .u8 sg, .string tx] 126)).heap.size := by
              intro k h
              obtain ⟨_, hb1, _⟩ := id hB
              have := (Array.getElem?_eq_some_iff.1 hb1).1
              unfold Old at h
              simp
              omega
            have hxM := fun hh => (Nat.lt_irrefl _ (hxM0 wr.heap.size hh) : False)
            clear hxM0
            have hB := hB.keep hA (fun x => x)
            clear hin hwas hx hA hown'
            simp only [Nat.zero_mul, Nat.add_zero, Nat.zero_add, List.take_zero] at c0 c1 dk HO HN l1 l2
            go_wp2_with (at_builtin; refine wpList_push_last (by rfl) _ _ 83 (by rfl) 126 elemOk_hunk (O := Old (w.heap.size + 1)) (by rfl) (by rfl) (by simp) hown hO0 (by omega) ?_; intro v' w4 xs hlast hc4; obtain ⟨g, gcap, rfl, hg1, hg2, hg3, hg4, m2, m0, m1, hfr⟩ := hlast.shape)
            have hx0 := hc4.cell (p := ⟨wr.heap.size, 0, none⟩) hx0 hxM
            have hx1 := hc4.cell (p := ⟨wr.heap.size, 1, none⟩) hx1 hxM
            have hB := hB.keep hc4 (own_not hown (Nat.lt_succ_self _))
            have hc := own_step' hc (Nat.le_succ _) hown hc4
            have hxM : ¬ OwnB (Value.slice none 0 0) wr.heap.size := by simp [OwnB, Value.ownBlock]
            have hlm : ([] : List Mark).length ≤ 1000000000 := by simp
            have hmL : OwnLast 129 126 w4.drew (Old (w.heap.size + 1)) (.slice (some ⟨g, 0, none⟩) (init.length + 1) gcap) init (⟨(oldN ([] : List Mark) : Int), (newN ([] : List Mark) : Int), []⟩ : Hunk) (Value.slice none 0 0) xs := hlast.keep (Chg.drew (Chg.refl Never _))
            have hgge : w.heap.size ≤ g := by unfold Old at hg2; omega
            have hgM : ¬ OwnB (Value.slice none 0 0) g := by
              obtain ⟨_, _, qq, _⟩ := hlast.marks
              exact fun hh => qq g hh (.inr rfl)
            have hO : ∀ k, (Old (w.heap.size + 1) k ∨ (Value.slice (some ⟨g, 0, none⟩) (init.length + 1) gcap).ownBlock = some k) → k < w4.drew.heap.size := by
              rintro k (h | h)
              · obtain ⟨_, hb1, _⟩ := id hB
                have := (Array.getElem?_eq_some_iff.1 hb1).1
                unfold Old at h
                show k < w4.heap.size
                omega
              · cases h
                exact hg1
            clear hlast
            have m2 : w4.drew.cell? ⟨g, init.length * 3 + 2, none⟩ = some (Value.slice none 0 0) := m2
            have hx0 : w4.drew.cell? ⟨wr.heap.size, 0, none⟩ = some (.int .u8 sg) := hx0
            have hx1 : w4.drew.cell? ⟨wr.heap.size, 1, none⟩ = some (.string tx) := hx1
            have hc : Chg Never w w4.drew := hc.drew
            have hB : BoolRow w.heap.size w4.drew s.length (inAt s n) := hB
            have hfr : ∀ j, w4.drew.frozen? ⟨g, j, none⟩ = false := hfr
            have hg1 : g < w4.drew.heap.size := hg1
            go_region_law ((refine step_push (by rfl) _ _ 127 (by rfl) elemOk_mark (O := fun k => Old (w.heap.size + 1) k ∨ (Value.slice (some ⟨g, 0, none⟩) (init.length + 1) gcap).ownBlock = some k) (l := (⟨(oldN ([] : List Mark) : Int), (newN ([] : List Mark) : Int), []⟩ : Hunk).marks) (y := ⟨sg, tx⟩) (by rfl) (by rfl) (by simp) hmL.marks (rd_mark _ _ sg tx s0 s1 hxs) hO hlm ?_; intro v' w5 hown2 hc2 hk2; obtain ⟨ad, nn, cc, rfl⟩ := own_slice hk2; have hfr5 : w5.frozen? ⟨g, init.length * 3 + 2, none⟩ = false := (hc2.frozen (p := ⟨g, init.length * 3 + 2, none⟩) hg1 hgM).trans (hfr _); have hcl5 : w5.cell? ⟨g, init.length * 3 + 2, none⟩ = some (Value.slice none 0 0) := hc2.cell (p := ⟨g, init.length * 3 + 2, none⟩) m2 hgM; have hb0 : w5.cell? ⟨wr.heap.size, 0, none⟩ = some (.int .u8 sg) := hc2.cell (p := ⟨wr.heap.size, 0, none⟩) hx0 hxM; have hb1 : w5.cell? ⟨wr.heap.size, 1, none⟩ = some (.string tx) := hc2.cell (p := ⟨wr.heap.size, 1, none⟩) hx1 hxM))
            all_goals go_wp2_with fail
            all_goals
              have hBne : ¬ OwnB (Value.slice none 0 0) w.heap.size := by
                obtain ⟨_, _, qq, _⟩ := hmL.marks
                exact fun hh => qq _ hh (.inl (Nat.lt_succ_self _))
              have hown3 : Own 126 w4.drew (Old (w.heap.size + 1)) (Value.slice none 0 0) (⟨(oldN ([] : List Mark) : Int), (newN ([] : List Mark) : Int), []⟩ : Hunk).marks := hmL.marks.keep (Chg.refl Never _) (fun _ _ h => h.elim) (fun _ _ h => .inl h)
              have hc5 := own_step' hc (Nat.le_succ _) hown3 hc2
              have hst := OwnLast.stored hmL hown2 hc2 hk2
              have hB5 := hB.keep hc2 hBne
              have hB6 := hB5.keep ((Chg.refl (fun k => k = g) w5).setCell (p := ⟨g, init.length * 3 + 2, none⟩) (.inr rfl) (.slice (some ad) nn cc)) (fun h => by unfold Old at hg2; omega)
              clear hmL hB hB5 hown2 hown3
              go_roundw
              case rel => exact ⟨0 + 1, by omega, by go_num, by rw [HO.out]; first | (rw [ifn_true ‹(sg != 43) = true›]; go_num) | (rw [ifn_false ‹(sg != 43) = false›]; rfl), by rw [HN.out]; first | (rw [ifn_true ‹(sg != 45) = true›]; go_num) | (rw [ifn_false ‹(sg != 45) = false›]; rfl), hc5.setCell (.inl hgge) _, hB6, by rw [wasIn_succ, HIN.out, CutOwn, if_pos rfl]; exact ⟨_, _, _, _, HF.out, hst⟩⟩
              case measure => simp [intOf] <;> omega
          · obtain ⟨k', rfl⟩ : ∃ k', k = k' + 1 := ⟨k - 1, by omega⟩
            have hin' : inAt s n k' = false := by rw [wasIn_succ] at hwas; exact hwas
            have dk' := hB.cell (k := k') (by omega)
            rw [hin'] at dk'
            have dk' := hA.cellNever dk'
            have hown' := hown
            unfold CutOwn at hown'
            rw [if_neg (by rw [hwas]; decide)] at hown'
            have HF := Lib.hid (cutTo_new hx hin hwas)
            generalize cutTo s n (k' + 1) = init at HF hown' hlen
            have hxM0 := own_block_lt hown'
            clear hown
            have hown := hown'.never hA
            have hc := hc.trans hA
            have hO0 : ∀ k, Old (w.heap.size + 1) k → k < (wr.alloc (.cells #[.int .u8 sg, .string tx] 126)).heap.size := by
              intro k h
              obtain ⟨_, hb1, _⟩ := id hB
              have := (Array.getElem?_eq_some_iff.1 hb1).1
              unfold Old at h
              simp
              omega
            have hxM := fun hh => (Nat.lt_irrefl _ (hxM0 wr.heap.size hh) : False)
            clear hxM0
            have hB := hB.keep hA (fun x => x)
            clear hin hin' hwas hx hA hown'
            have z1 : (k' : Int) + 1 - 1 = k' := by omega
            have z2 : ((k' : Int) + 1 == 0) = false := by simp; omega
            go_wp2_with (at_builtin; refine wpList_push_last (by rfl) _ _ 83 (by rfl) 126 elemOk_hunk (O := Old (w.heap.size + 1)) (by rfl) (by rfl) (by simp) hown hO0 (by omega) ?_; intro v' w4 xs hlast hc4; obtain ⟨g, gcap, rfl, hg1, hg2, hg3, hg4, m2, m0, m1, hfr⟩ := hlast.shape)
            have hx0 := hc4.cell (p := ⟨wr.heap.size, 0, none⟩) hx0 hxM
            have hx1 := hc4.cell (p := ⟨wr.heap.size, 1, none⟩) hx1 hxM
            have hB := hB.keep hc4 (own_not hown (Nat.lt_succ_self _))
            have hc := own_step' hc (Nat.le_succ _) hown hc4
            have hxM : ¬ OwnB (Value.slice none 0 0) wr.heap.size := by simp [OwnB, Value.ownBlock]
            have hlm : ([] : List Mark).length ≤ 1000000000 := by simp
            have hmL : OwnLast 129 126 w4.drew (Old (w.heap.size + 1)) (.slice (some ⟨g, 0, none⟩) (init.length + 1) gcap) init (⟨(oldN (s.take (k' + 1)) : Int), (newN (s.take (k' + 1)) : Int), []⟩ : Hunk) (Value.slice none 0 0) xs := hlast.keep (Chg.drew (Chg.refl Never _))
            have hgge : w.heap.size ≤ g := by unfold Old at hg2; omega
            have hgM : ¬ OwnB (Value.slice none 0 0) g := by
              obtain ⟨_, _, qq, _⟩ := hlast.marks
              exact fun hh => qq g hh (.inr rfl)
            have hO : ∀ k, (Old (w.heap.size + 1) k ∨ (Value.slice (some ⟨g, 0, none⟩) (init.length + 1) gcap).ownBlock = some k) → k < w4.drew.heap.size := by
              rintro k (h | h)
              · obtain ⟨_, hb1, _⟩ := id hB
                have := (Array.getElem?_eq_some_iff.1 hb1).1
                unfold Old at h
                show k < w4.heap.size
                omega
              · cases h
                exact hg1
            clear hlast
            have m2 : w4.drew.cell? ⟨g, init.length * 3 + 2, none⟩ = some (Value.slice none 0 0) := m2
            have hx0 : w4.drew.cell? ⟨wr.heap.size, 0, none⟩ = some (.int .u8 sg) := hx0
            have hx1 : w4.drew.cell? ⟨wr.heap.size, 1, none⟩ = some (.string tx) := hx1
            have hc : Chg Never w w4.drew := hc.drew
            have hB : BoolRow w.heap.size w4.drew s.length (inAt s n) := hB
            have hfr : ∀ j, w4.drew.frozen? ⟨g, j, none⟩ = false := hfr
            have hg1 : g < w4.drew.heap.size := hg1
            go_region_law ((refine step_push (by rfl) _ _ 127 (by rfl) elemOk_mark (O := fun k => Old (w.heap.size + 1) k ∨ (Value.slice (some ⟨g, 0, none⟩) (init.length + 1) gcap).ownBlock = some k) (l := (⟨(oldN (s.take (k' + 1)) : Int), (newN (s.take (k' + 1)) : Int), []⟩ : Hunk).marks) (y := ⟨sg, tx⟩) (by rfl) (by rfl) (by simp) hmL.marks (rd_mark _ _ sg tx s0 s1 hxs) hO hlm ?_; intro v' w5 hown2 hc2 hk2; obtain ⟨ad, nn, cc, rfl⟩ := own_slice hk2; have hfr5 : w5.frozen? ⟨g, init.length * 3 + 2, none⟩ = false := (hc2.frozen (p := ⟨g, init.length * 3 + 2, none⟩) hg1 hgM).trans (hfr _); have hcl5 : w5.cell? ⟨g, init.length * 3 + 2, none⟩ = some (Value.slice none 0 0) := hc2.cell (p := ⟨g, init.length * 3 + 2, none⟩) m2 hgM; have hb0 : w5.cell? ⟨wr.heap.size, 0, none⟩ = some (.int .u8 sg) := hc2.cell (p := ⟨wr.heap.size, 0, none⟩) hx0 hxM; have hb1 : w5.cell? ⟨wr.heap.size, 1, none⟩ = some (.string tx) := hc2.cell (p := ⟨wr.heap.size, 1, none⟩) hx1 hxM))
            all_goals go_wp2_with fail
            all_goals
              have hBne : ¬ OwnB (Value.slice none 0 0) w.heap.size := by
                obtain ⟨_, _, qq, _⟩ := hmL.marks
                exact fun hh => qq _ hh (.inl (Nat.lt_succ_self _))
              have hown3 : Own 126 w4.drew (Old (w.heap.size + 1)) (Value.slice none 0 0) (⟨(oldN (s.take (k' + 1)) : Int), (newN (s.take (k' + 1)) : Int), []⟩ : Hunk).marks := hmL.marks.keep (Chg.refl Never _) (fun _ _ h => h.elim) (fun _ _ h => .inl h)
              have hc5 := own_step' hc (Nat.le_succ _) hown3 hc2
              have hst := OwnLast.stored hmL hown2 hc2 hk2
              have hB5 := hB.keep hc2 hBne
              have hB6 := hB5.keep ((Chg.refl (fun k => k = g) w5).setCell (p := ⟨g, init.length * 3 + 2, none⟩) (.inr rfl) (.slice (some ad) nn cc)) (fun h => by unfold Old at hg2; omega)
              clear hmL hB hB5 hown2 hown3
              go_roundw
              case rel => exact ⟨(k' + 1) + 1, by omega, by go_num, by rw [HO.out]; first | (rw [ifn_true ‹(sg != 43) = true›]; go_num) | (rw [ifn_false ‹(sg != 43) = false›]; rfl), by rw [HN.out]; first | (rw [ifn_true ‹(sg != 45) = true›]; go_num) | (rw [ifn_false ‹(sg != 45) = false›]; rfl), hc5.setCell (.inl hgge) _, hB6, by rw [wasIn_succ, HIN.out, CutOwn, if_pos rfl]; exact ⟨_, _, _, _, HF.out, hst⟩⟩
              case measure => simp [intOf] <;> omega
    · go_wp2_with fail
      go_ret
      obtain rfl : k = s.length := by omega
      exact ⟨_, rfl, hc, hown.own.rdv.sub (fun k _ hk => by unfold Old at *; omega)⟩
end Go.Proofs.YtjiaidchcldocaaGreatDoor
namespace Go.Proofs.YtjiaidchcldocaaGreatDoor
open Go.RowKit

def opnB (o n : Nat) : Bool := decide (0 < o) || decide (0 < n)
theorem opn_true {o n : Nat} (h : 0 < o ∨ 0 < n) : opnB o n = true := by unfold opnB; simpa using h
theorem opn_false {o n : Nat} (h : ¬ (0 < o ∨ 0 < n)) : opnB o n = false := by
  unfold opnB
  rw [decide_eq_false (by omega), decide_eq_false (by omega)]; rfl
set_option maxHeartbeats 1000000 in
theorem rd_open (B : Nat) (v : Value) (o n : Nat) (w : World) (h : Blk3 w B 205 v (.int .i64 o) (.int .i64 n)) :
    Calls Tryz.prog 120 #[.pointer (some ⟨B, 0, none⟩)] w fun e w' => e = .returned (.bool (opnB o n)) ∧ w' = w := by
  obtain ⟨c0, c1, c2⟩ := h.cell
  by_cases ho : 0 < o
  · have HB := Lib.hid (opn_true (o := o) (n := n) (.inl ho))
    have t1 : decide ((0 : Int) < (o : Int)) = true := decide_eq_true (by omega)
    have t1n : decide (0 < o) = true := decide_eq_true ho
    go_enter Tryz.func120, Tryz.ntmps120
    go_wp2_with fail
    go_ret
    exact ⟨by rw [HB.out]; rfl, rfl⟩
  · have t1 : decide ((0 : Int) < (o : Int)) = false := decide_eq_false (by omega)
    have t1n : decide (0 < o) = false := decide_eq_false ho
    by_cases hn : 0 < n
    · have HB := Lib.hid (opn_true (o := o) (n := n) (.inr hn))
      have t2 : decide ((0 : Int) < (n : Int)) = true := decide_eq_true (by omega)
      have t2n : decide (0 < n) = true := decide_eq_true hn
      go_enter Tryz.func120, Tryz.ntmps120
      go_wp2_with fail
      go_ret
      exact ⟨by rw [HB.out]; rfl, rfl⟩
    · have HB := Lib.hid (opn_false (o := o) (n := n) (by omega))
      have t2 : decide ((0 : Int) < (n : Int)) = false := decide_eq_false (by omega)
      have t2n : decide (0 < n) = false := decide_eq_false hn
      go_enter Tryz.func120, Tryz.ntmps120
      go_wp2_with fail
      go_ret
      exact ⟨by rw [HB.out]; rfl, rfl⟩
/-- what a line's reading leaves -/
def LinePost (W0 B : Nat) (hs : List Hunk) (o n : Nat) (s : List UInt8) (w : World) (e : Ending) (w' : World) : Prop :=
  Chg (RdC W0 B) w w' ∧ match readLine hs o n s with
  | none => e = .returned (.bool false)
  | some (hs', o', n') => e = .returned (.bool true) ∧ ∃ v', RdrAt w' W0 B v' hs' o' n'
theorem linePost_no {W0 B o n : Nat} {hs : List Hunk} {s : List UInt8} {w w' : World} {e : Ending} (hr : readLine hs o n s = none) (he : e = .returned (.bool false)) (hc : Chg (RdC W0 B) w w') : LinePost W0 B hs o n s w e w' :=
  ⟨hc, by rw [hr]; exact he⟩
theorem linePost_yes {W0 B o n o' n' : Nat} {hs hs' : List Hunk} {s : List UInt8} {w w' : World} {e : Ending} (hr : readLine hs o n s = some (hs', o', n')) (he : e = .returned (.bool true)) (hc : Chg (RdC W0 B) w w') (hR : ∃ v', RdrAt w' W0 B v' hs' o' n') : LinePost W0 B hs o n s w e w' :=
  ⟨hc, by rw [hr]; exact ⟨he, hR⟩⟩
theorem rl_nil {hs : List Hunk} {o n : Nat} (h : 0 < o ∨ 0 < n) : readLine hs o n [] = none := by unfold readLine; rw [if_pos h]
theorem rl_cons {hs : List Hunk} {o n : Nat} (h : 0 < o ∨ 0 < n) (c : UInt8) (r : List UInt8) : readLine hs o n (c :: r) = if c = 32 ∧ 0 < o ∧ 0 < n then some (addMark hs ⟨32, toB r⟩, o - 1, n - 1)
      else if c = 45 ∧ 0 < o then some (addMark hs ⟨45, toB r⟩, o - 1, n)
      else if c = 43 ∧ 0 < n then some (addMark hs ⟨43, toB r⟩, o, n - 1) else none := by unfold readLine; rw [if_pos h]
theorem byte_ne_int {c d : UInt8} {k : Int} (h : c ≠ d) (hd : (d.toNat : Int) = k) : ((c.toNat : Int) == k) = false := by
  simp only [beq_eq_false_iff_ne, ne_eq]
  intro e
  exact h (UInt8.toNat_inj.1 (by omega))

set_option maxHeartbeats 2000000 in
set_option maxRecDepth 100000 in
theorem reader_mark (W0 B : Nat) (v : Value) (hs : List Hunk) (o n : Nat) (s : ByteArray) (w : World) (h : RdrAt w W0 B v hs o n) (hopen : 0 < o ∨ 0 < n) (hne : hs ≠ []) (hs1 : s.size ≤ 1000000000) (hon : o ≤ 1000000 ∧ n ≤ 1000000)
    (hb : hs.length ≤ 1000000) (hml : ∀ h ∈ hs, h.marks.length ≤ 1000000) :
    Calls Tryz.prog 172 #[.pointer (some ⟨B, 0, none⟩), .string s] w (LinePost W0 B hs o n s.data.toList w) := by
  cases hsl : s.data.toList with
  | nil =>
    have HR := Lib.hid (rl_nil (hs := hs) hopen)
    have t1 : (s.toList == []) = true := by rw [Lib.toList_data, hsl]; rfl
    have t2 : s.toList.isEmpty = true := by rw [Lib.toList_data, hsl]; rfl
    have hsz : s.size = 0 := by rw [Lib.size_eq, hsl]; rfl
    clear hsl hopen hne hml
    go_enter Tryz.func172, Tryz.ntmps172
    go_wp2_with fail
    go_ret
    exact linePost_no HR.out rfl (Chg.refl _ _)
  | cons c r =>
    obtain ⟨init, q, mv, xs, rfl, hlast⟩ : ∃ init q mv xs, hs = init ++ [q] ∧ OwnLast 129 126 w (RdO W0 B) v init q mv xs := by
      rcases h.rows with ⟨q, _⟩ | q
      · exact absurd q hne
      · exact q
    have hbox := h.box
    have hbase := h.base
    have hqm := hml q (by simp)
    have hil : init.length ≤ 1000000 := by rw [List.length_append] at hb; omega
    obtain ⟨g, gcap, rfl, hg1, hg2, hg3, hg4, m2, m0, m1, hfr⟩ := hlast.shape
    have HR := Lib.hid (rl_cons (hs := init ++ [q]) hopen c r)
    have t1 : (s.toList == []) = false := by rw [Lib.toList_data, hsl]; rfl
    have t2 : s.toList.isEmpty = false := by rw [Lib.toList_data, hsl]; rfl
    have hpos : 0 < s.size := by rw [Lib.size_eq, hsl]; simp
    have hc0 : s[0]'hpos = c := by
      have : s.data.toList[0]? = some (s[0]'hpos) := by rw [Array.getElem?_toList, Array.getElem?_eq_getElem hpos]; rfl
      rw [hsl] at this
      injection this with this
      exact this.symm
    have hsx : ∀ wx, (Instr.index 9 (.string s) (.int .i64 0)).run Tryz.prog wx = .ok (.int .u8 c.toNat) wx := fun wx => by
      rw [run_index_string _ _ _ _ _ Tryz.underlying9, dif_pos ⟨by omega, by omega⟩]
      simp only [Int.toNat_zero, hc0]
    have htx : (s.extract 1 s.size) = toB r := by
      apply ByteArray.ext
      apply Array.toList_inj.1
      rw [Lib.extract_data, hsl, toB_data, List.take_of_length_le (by rw [List.length_drop, Lib.size_eq, hsl]; simp)]
      rfl
    have h1s : (1 : Int) ≤ (s.size : Int) := by omega
    have htz : (toB r).size ≤ maxLen := by rw [toB_size', ]; have := Lib.size_eq s; rw [hsl] at this; simp at this; unfold maxLen; omega
    obtain ⟨tx, htxe⟩ : ∃ tx, toB r = tx := ⟨_, rfl⟩
    rw [htxe] at htx htz HR
    clear hsl hne hml hb hc0 htxe h
    go_enter Tryz.func172, Tryz.ntmps172
    go_wp2_with fail
    refine wp_region_held_drew (S := fun w' => Chg Never w w') (by kernel_rfl) (Chg.refl Never w).drew (fun hH => ?_)
    refine' tk 0 ?_
    refine' tk 1 ?_
    refine' tk 2 ?_
    refine' tk 3 ?_
    refine' tk 4 ?_
    refine wpAnyH_ready (rs := [5]) (by kernel_rfl) (by simp) ?_
    refine AllReadyH.cons rfl (fun K hK => ?_) AllReadyH.nil
    go_simp
    refine hK.out _ _ ?_ (fun hH => ?_)
    · exact Chg.alloc (by assumption) _
    clear hK K
    try simp only [Act.put, List.setIfInBounds_toArray, List.set_cons_zero, List.set_cons_succ]
    refine wpAnyH_ready (rs := [6]) (by kernel_rfl) (by simp) ?_
    refine AllReadyH.cons rfl (fun K hK => ?_) AllReadyH.nil
    go_simp
    refine hK.out _ _ ?_ (fun hH => ?_)
    · exact ((Chg.refl Never w).alloc _).drew
    clear hK K
    try simp only [Act.put, List.setIfInBounds_toArray, List.set_cons_zero, List.set_cons_succ]
    refine wpAnyH_done (by kernel_rfl) ?_ _
    have hA : Chg Never w (w.alloc (.cells #[.int .u8 c.toNat, .string tx] 126)).drew := ((Chg.refl Never w).alloc _).drew
    have hxb := Blk2.new w 126 (.int .u8 c.toNat) (.string tx)
    have hxb : Blk2 (w.alloc (.cells #[.int .u8 c.toNat, .string tx] 126)).drew w.heap.size 126 (.int .u8 c.toNat) (.string tx) := hxb
    have hmlt := own_block_lt hlast.marks
    have hMne : w.heap.size ≠ B := by have := hbox.lt; omega
    have hMg : w.heap.size ≠ g := by omega
    have hbox := hbox.keep hA (fun h => h)
    have hlast := hlast.keep hA
    have hM1 : w.heap.size < (w.alloc (.cells #[.int .u8 c.toNat, .string tx] 126)).drew.heap.size := hxb.lt
    have hA2 := hA
    obtain ⟨M, hM⟩ : ∃ M, w.heap.size = M := ⟨_, rfl⟩
    generalize (w.alloc (.cells #[.int .u8 c.toNat, .string tx] 126)).drew = w1 at hA hA2 hxb hbox hlast hM1 ⊢
    have hmM : ∀ k, mv.ownBlock = some k → k < M := fun k hk => by rw [← hM]; exact hmlt k hk
    rw [hM] at hxb hMne hMg hM1 ⊢
    have HM := Lib.hid hM
    clear hM hmlt hA m2 m0 m1 hfr hg1 hsx
    obtain ⟨x0, x1⟩ := hxb.cell
    obtain ⟨c0, c1, c2⟩ := hbox.cell
    have hf1 := hbox.free 1
    have hf2 := hbox.free 2
    by_cases h32 : c = 32
    · have q32 : ((c.toNat : Int) == 32) = true := by rw [h32]; rfl
      have q45 : ((c.toNat : Int) == 45) = false := by rw [h32]; rfl
      have q43 : ((c.toNat : Int) == 43) = false := by rw [h32]; rfl
      by_cases ho : 0 < o
      · have tO : decide ((0 : Int) < (o : Int)) = true := decide_eq_true (by omega)
        have ton : decide (0 < o) = true := decide_eq_true ho
        by_cases hn : 0 < n
        · have hr : Hid (readLine (init ++ [q]) o n (c :: r) = some (init ++ [⟨q.old, q.new, q.marks ++ [⟨(c.toNat : Int), tx⟩]⟩], o - 1, n - 1)) := by
            rw [Hid, HR.out, if_pos ⟨h32, ho, hn⟩, add_mark, h32]; rfl
          obtain ⟨o1, rfl⟩ : ∃ o1, o = o1 + 1 := ⟨o - 1, by omega⟩
          obtain ⟨n1, rfl⟩ : ∃ n1, n = n1 + 1 := ⟨n - 1, by omega⟩
          clear h32 ho hn tO ton HR hopen
          have eo : (((o1 + 1 : Nat) : Int) - 1) = (o1 : Int) := by omega
          go_upto_region 12 with fail
          clear eo
          have hboxS : Blk3 ((w1.setCell ⟨B, 1, none⟩ (.int .i64 (o1 : Nat))).setCell ⟨B, 2, none⟩ (.int .i64 (n1 : Nat))) B 205 (.slice (some ⟨g, 0, none⟩) (init.length + 1) gcap) (.int .i64 (o1 : Nat)) (.int .i64 (n1 : Nat)) := (hbox.set1 _).set2 _
          have hS : Chg (fun k => k = B) w1 ((w1.setCell ⟨B, 1, none⟩ (.int .i64 (o1 : Nat))).setCell ⟨B, 2, none⟩ (.int .i64 (n1 : Nat))) := ((Chg.refl (fun k => k = B) w1).setCell (p := ⟨B, 1, none⟩) (.inr rfl) _).setCell (p := ⟨B, 2, none⟩) (.inr rfl) _
          have hlastS := hlast.keepO (O'' := RdO W0 B) hS (fun _ _ hk => .inr hk) (fun _ _ hk => hk)
          have x0 := hS.cell x0 hMne
          have x1 := hS.cell x1 hMne
          have hMS := Nat.lt_of_lt_of_le hM1 hS.size
          have hcS : Chg (RdC W0 B) w ((w1.setCell ⟨B, 1, none⟩ (.int .i64 (o1 : Nat))).setCell ⟨B, 2, none⟩ (.int .i64 (n1 : Nat))) := (hA2.mono (fun _ _ h => h.elim)).trans (hS.mono (fun k _ hk => .inl hk))
          clear hbox hlast hA2 hM1 hxb c0 c1 c2 hf1 hf2
          generalize (w1.setCell ⟨B, 1, none⟩ (.int .i64 (o1 : Nat))).setCell ⟨B, 2, none⟩ (.int .i64 (n1 : Nat)) = w2 at hboxS hS hlastS x0 x1 hMS hcS ⊢
          clear hS
          obtain ⟨g', gcap', hq, hg1, -, -, -, m2, m0, m1, hfr⟩ := hlastS.shape
          simp only [Value.slice.injEq, Option.some.injEq, Addr.mk.injEq, and_true, true_and] at hq
          obtain ⟨rfl, rfl⟩ := hq
          obtain ⟨c0, -, -⟩ := hboxS.cell
          have sw : IntKind.i64.wrap ((init.length : Int) + 1 - 1) = init.length := by rw [show (init.length : Int) + 1 - 1 = (init.length : Int) by omega]; exact IntWalk.i64_in _ (by omega)
          have sw2 : IntKind.i64.wrap (init.length : Int) = init.length := IntWalk.i64_in _ (by omega)
          have si : (init.length : Int) < (init.length : Int) + 1 := by omega
          go_quiet (fail)
          clear sw sw2 si c0
          have hq3 : Chg Never w2 (w2.drewN nq) := (Chg.refl Never w2).drewN nq
          have hlast3 := hlastS.keep hq3
          have hbox3 := hboxS.keep hq3 (fun h => h)
          have x0 : (w2.drewN nq).cell? ⟨M, 0, none⟩ = some (.int .u8 c.toNat) := x0
          have x1 : (w2.drewN nq).cell? ⟨M, 1, none⟩ = some (.string tx) := x1
          have m2 : (w2.drewN nq).cell? ⟨g, init.length * 3 + 2, none⟩ = some mv := m2
          have hfr : ∀ j, (w2.drewN nq).frozen? ⟨g, j, none⟩ = false := hfr
          have hg1 : g < (w2.drewN nq).heap.size := hg1
          have hc3 : Chg (RdC W0 B) w (w2.drewN nq) := hcS.trans (hq3.mono (fun _ _ h => h.elim))
          clear hlastS hboxS hq3 m0 m1 hcS
          generalize w2.drewN nq = w3 at hlast3 hbox3 x0 x1 m2 hfr hg1 hc3 ⊢
          go_wp2_with fail
          have hcd : Chg Never w3 w3.drew := (Chg.refl Never w3).drew
          have hmL := hlast3.keep hcd
          have hboxD := hbox3.keep hcd (fun h => h)
          have x0 : w3.drew.cell? ⟨M, 0, none⟩ = some (.int .u8 c.toNat) := x0
          have x1 : w3.drew.cell? ⟨M, 1, none⟩ = some (.string tx) := x1
          have m2 : w3.drew.cell? ⟨g, init.length * 3 + 2, none⟩ = some mv := m2
          have hfr : ∀ j, w3.drew.frozen? ⟨g, j, none⟩ = false := hfr
          have hg1 : g < w3.drew.heap.size := hg1
          have hcD : Chg (RdC W0 B) w w3.drew := hc3.trans (hcd.mono (fun _ _ h => h.elim))
          have hgM : ¬ OwnB mv g := by
            obtain ⟨_, _, qq, _⟩ := hmL.marks
            exact fun hh => qq g hh (.inr rfl)
          have hBM : ¬ OwnB mv B := by
            obtain ⟨_, _, qq, _⟩ := hmL.marks
            exact fun hh => qq B hh (.inl (.inr rfl))
          have hxM : ¬ OwnB mv M := fun hh => Nat.lt_irrefl _ (hmM M hh)
          have hgB : g ≠ B := fun e => hg2 (.inr e)
          have hgW : W0 ≤ g := by
            rcases Nat.lt_or_ge g W0 with h | h
            · exact absurd (.inl h) hg2
            · exact h
          have hmW : ∀ k, OwnB mv k → W0 ≤ k := fun k hk => by
            obtain ⟨_, _, qq, _⟩ := hmL.marks
            rcases Nat.lt_or_ge k W0 with h | h
            · exact absurd (.inl (.inl h)) (qq k hk)
            · exact h
          have hO : ∀ k, (RdO W0 B k ∨ (Value.slice (some ⟨g, 0, none⟩) (init.length + 1) gcap).ownBlock = some k) → k < w3.drew.heap.size := by
            have hBl := hboxD.lt
            rintro k ((h | rfl) | h)
            · have := hcD.size; omega
            · exact hBl
            · cases h; exact hg1
          have s0 : (0 : Int) ≤ (c.toNat : Int) := by omega
          have s1 : (c.toNat : Int) < 256 := by have := c.toNat_lt; omega
          have hlm : q.marks.length ≤ 1000000000 := by omega
          clear hlast3 hbox3 hcd hc3
          go_region_law ((refine step_push (by rfl) _ _ 127 (by rfl) elemOk_mark (O := fun k => RdO W0 B k ∨ (Value.slice (some ⟨g, 0, none⟩) (init.length + 1) gcap).ownBlock = some k) (l := q.marks) (y := ⟨(c.toNat : Int), tx⟩) (by rfl) (by rfl) (by simp) hmL.marks (rd_mark _ _ _ tx s0 s1 htz) hO hlm ?_; intro v' w5 hown2 hc2 hk2; obtain ⟨ad, nn, cc, rfl⟩ := own_slice hk2; have hfr5 : w5.frozen? ⟨g, init.length * 3 + 2, none⟩ = false := (hc2.frozen (p := ⟨g, init.length * 3 + 2, none⟩) hg1 hgM).trans (hfr _); have hcl5 : w5.cell? ⟨g, init.length * 3 + 2, none⟩ = some mv := hc2.cell (p := ⟨g, init.length * 3 + 2, none⟩) m2 hgM; have hb0 : w5.cell? ⟨M, 0, none⟩ = some (.int .u8 c.toNat) := hc2.cell (p := ⟨M, 0, none⟩) x0 hxM; have hb1 : w5.cell? ⟨M, 1, none⟩ = some (.string tx) := hc2.cell (p := ⟨M, 1, none⟩) x1 hxM))
          all_goals go_wp2_with fail
          all_goals
            have hst := OwnLast.stored hmL hown2 hc2 hk2
            have hbF := (hboxD.keep hc2 hBM).keep ((Chg.refl (fun k => k = g) w5).setCell (p := ⟨g, init.length * 3 + 2, none⟩) (.inr rfl) (.slice (some ad) nn cc)) (fun h => hgB h.symm)
            have hcF : Chg (RdC W0 B) w (w5.setCell ⟨g, init.length * 3 + 2, none⟩ (.slice (some ad) nn cc)) := (hcD.trans (hc2.mono (O' := RdC W0 B) (fun k _ hk => .inr (hmW k hk)))).setCell (.inr (show RdC W0 B g from .inr hgW)) _
            go_ret
            exact linePost_yes hr.out rfl hcF ⟨_, ⟨Nat.le_trans hbase hcF.size, hbF, .inr ⟨init, _, _, _, rfl, hst⟩⟩⟩
        · have tn : decide ((0 : Int) < (n : Int)) = false := decide_eq_false (by omega)
          have tnn : decide (0 < n) = false := decide_eq_false hn
          have hr : Hid (readLine (init ++ [q]) o n (c :: r) = none) := by
            rw [Hid, HR.out]
            rw [if_neg (fun q => hn q.2.2), if_neg (fun q => by rw [h32] at q; exact absurd q.1 (by decide)), if_neg (fun q => by rw [h32] at q; exact absurd q.1 (by decide))]
          have hcN : Chg (RdC W0 B) w w1 := hA2.mono (fun _ _ h => h.elim)
          clear HR hopen hlast hbox hA2
          go_wp2_with fail
          go_ret
          exact linePost_no hr.out rfl hcN
      · have tO : decide ((0 : Int) < (o : Int)) = false := decide_eq_false (by omega)
        have ton : decide (0 < o) = false := decide_eq_false ho
        have hr : Hid (readLine (init ++ [q]) o n (c :: r) = none) := by
          rw [Hid, HR.out]
          rw [if_neg (fun q => ho q.2.1), if_neg (fun q => ho q.2), if_neg (fun q => by rw [h32] at q; exact absurd q.1 (by decide))]
        have hcN : Chg (RdC W0 B) w w1 := hA2.mono (fun _ _ h => h.elim)
        clear HR hopen hlast hbox hA2
        go_wp2_with fail
        go_ret
        exact linePost_no hr.out rfl hcN
    · have q32 : ((c.toNat : Int) == 32) = false := byte_ne_int h32 rfl
      by_cases h45 : c = 45
      · have q45 : ((c.toNat : Int) == 45) = true := by rw [h45]; rfl
        have q43 : ((c.toNat : Int) == 43) = false := by rw [h45]; rfl
        by_cases ho : 0 < o
        · have tO : decide ((0 : Int) < (o : Int)) = true := decide_eq_true (by omega)
          have hr : Hid (readLine (init ++ [q]) o n (c :: r) = some (init ++ [⟨q.old, q.new, q.marks ++ [⟨(c.toNat : Int), tx⟩]⟩], o - 1, n)) := by
            rw [Hid, HR.out, if_neg (fun q => h32 q.1), if_pos ⟨h45, ho⟩, add_mark, h45]; rfl
          obtain ⟨o1, rfl⟩ : ∃ o1, o = o1 + 1 := ⟨o - 1, by omega⟩
          clear h32 h45 ho tO HR hopen
          go_upto_region 12 with fail
          have hboxS : Blk3 (w1.setCell ⟨B, 1, none⟩ (.int .i64 (o1 : Nat))) B 205 (.slice (some ⟨g, 0, none⟩) (init.length + 1) gcap) (.int .i64 (o1 : Nat)) (.int .i64 (n : Nat)) := hbox.set1 _
          have hS : Chg (fun k => k = B) w1 (w1.setCell ⟨B, 1, none⟩ (.int .i64 (o1 : Nat))) := (Chg.refl (fun k => k = B) w1).setCell (p := ⟨B, 1, none⟩) (.inr rfl) _
          have hlastS := hlast.keepO (O'' := RdO W0 B) hS (fun _ _ hk => .inr hk) (fun _ _ hk => hk)
          have x0 := hS.cell x0 hMne
          have x1 := hS.cell x1 hMne
          have hMS := Nat.lt_of_lt_of_le hM1 hS.size
          have hcS : Chg (RdC W0 B) w (w1.setCell ⟨B, 1, none⟩ (.int .i64 (o1 : Nat))) := (hA2.mono (fun _ _ h => h.elim)).trans (hS.mono (fun k _ hk => .inl hk))
          clear hbox hlast hA2 hM1 hxb c0 c1 c2 hf1 hf2
          generalize w1.setCell ⟨B, 1, none⟩ (.int .i64 (o1 : Nat)) = w2 at hboxS hS hlastS x0 x1 hMS hcS ⊢
          clear hS
          obtain ⟨g', gcap', hq, hg1, -, -, -, m2, m0, m1, hfr⟩ := hlastS.shape
          simp only [Value.slice.injEq, Option.some.injEq, Addr.mk.injEq, and_true, true_and] at hq
          obtain ⟨rfl, rfl⟩ := hq
          obtain ⟨c0, -, -⟩ := hboxS.cell
          have sw : IntKind.i64.wrap ((init.length : Int) + 1 - 1) = init.length := by rw [show (init.length : Int) + 1 - 1 = (init.length : Int) by omega]; exact IntWalk.i64_in _ (by omega)
          have sw2 : IntKind.i64.wrap (init.length : Int) = init.length := IntWalk.i64_in _ (by omega)
          have si : (init.length : Int) < (init.length : Int) + 1 := by omega
          go_quiet (fail)
          clear sw sw2 si c0
          have hq3 : Chg Never w2 (w2.drewN nq) := (Chg.refl Never w2).drewN nq
          have hlast3 := hlastS.keep hq3
          have hbox3 := hboxS.keep hq3 (fun h => h)
          have x0 : (w2.drewN nq).cell? ⟨M, 0, none⟩ = some (.int .u8 c.toNat) := x0
          have x1 : (w2.drewN nq).cell? ⟨M, 1, none⟩ = some (.string tx) := x1
          have m2 : (w2.drewN nq).cell? ⟨g, init.length * 3 + 2, none⟩ = some mv := m2
          have hfr : ∀ j, (w2.drewN nq).frozen? ⟨g, j, none⟩ = false := hfr
          have hg1 : g < (w2.drewN nq).heap.size := hg1
          have hc3 : Chg (RdC W0 B) w (w2.drewN nq) := hcS.trans (hq3.mono (fun _ _ h => h.elim))
          clear hlastS hboxS hq3 m0 m1 hcS
          generalize w2.drewN nq = w3 at hlast3 hbox3 x0 x1 m2 hfr hg1 hc3 ⊢
          go_wp2_with fail
          have hcd : Chg Never w3 w3.drew := (Chg.refl Never w3).drew
          have hmL := hlast3.keep hcd
          have hboxD := hbox3.keep hcd (fun h => h)
          have x0 : w3.drew.cell? ⟨M, 0, none⟩ = some (.int .u8 c.toNat) := x0
          have x1 : w3.drew.cell? ⟨M, 1, none⟩ = some (.string tx) := x1
          have m2 : w3.drew.cell? ⟨g, init.length * 3 + 2, none⟩ = some mv := m2
          have hfr : ∀ j, w3.drew.frozen? ⟨g, j, none⟩ = false := hfr
          have hg1 : g < w3.drew.heap.size := hg1
          have hcD : Chg (RdC W0 B) w w3.drew := hc3.trans (hcd.mono (fun _ _ h => h.elim))
          have hgM : ¬ OwnB mv g := by
            obtain ⟨_, _, qq, _⟩ := hmL.marks
            exact fun hh => qq g hh (.inr rfl)
          have hBM : ¬ OwnB mv B := by
            obtain ⟨_, _, qq, _⟩ := hmL.marks
            exact fun hh => qq B hh (.inl (.inr rfl))
          have hxM : ¬ OwnB mv M := fun hh => Nat.lt_irrefl _ (hmM M hh)
          have hgB : g ≠ B := fun e => hg2 (.inr e)
          have hgW : W0 ≤ g := by
            rcases Nat.lt_or_ge g W0 with h | h
            · exact absurd (.inl h) hg2
            · exact h
          have hmW : ∀ k, OwnB mv k → W0 ≤ k := fun k hk => by
            obtain ⟨_, _, qq, _⟩ := hmL.marks
            rcases Nat.lt_or_ge k W0 with h | h
            · exact absurd (.inl (.inl h)) (qq k hk)
            · exact h
          have hO : ∀ k, (RdO W0 B k ∨ (Value.slice (some ⟨g, 0, none⟩) (init.length + 1) gcap).ownBlock = some k) → k < w3.drew.heap.size := by
            have hBl := hboxD.lt
            rintro k ((h | rfl) | h)
            · have := hcD.size; omega
            · exact hBl
            · cases h; exact hg1
          have s0 : (0 : Int) ≤ (c.toNat : Int) := by omega
          have s1 : (c.toNat : Int) < 256 := by have := c.toNat_lt; omega
          have hlm : q.marks.length ≤ 1000000000 := by omega
          clear hlast3 hbox3 hcd hc3
          go_region_law ((refine step_push (by rfl) _ _ 127 (by rfl) elemOk_mark (O := fun k => RdO W0 B k ∨ (Value.slice (some ⟨g, 0, none⟩) (init.length + 1) gcap).ownBlock = some k) (l := q.marks) (y := ⟨(c.toNat : Int), tx⟩) (by rfl) (by rfl) (by simp) hmL.marks (rd_mark _ _ _ tx s0 s1 htz) hO hlm ?_; intro v' w5 hown2 hc2 hk2; obtain ⟨ad, nn, cc, rfl⟩ := own_slice hk2; have hfr5 : w5.frozen? ⟨g, init.length * 3 + 2, none⟩ = false := (hc2.frozen (p := ⟨g, init.length * 3 + 2, none⟩) hg1 hgM).trans (hfr _); have hcl5 : w5.cell? ⟨g, init.length * 3 + 2, none⟩ = some mv := hc2.cell (p := ⟨g, init.length * 3 + 2, none⟩) m2 hgM; have hb0 : w5.cell? ⟨M, 0, none⟩ = some (.int .u8 c.toNat) := hc2.cell (p := ⟨M, 0, none⟩) x0 hxM; have hb1 : w5.cell? ⟨M, 1, none⟩ = some (.string tx) := hc2.cell (p := ⟨M, 1, none⟩) x1 hxM))
          all_goals go_wp2_with fail
          all_goals
            have hst := OwnLast.stored hmL hown2 hc2 hk2
            have hbF := (hboxD.keep hc2 hBM).keep ((Chg.refl (fun k => k = g) w5).setCell (p := ⟨g, init.length * 3 + 2, none⟩) (.inr rfl) (.slice (some ad) nn cc)) (fun h => hgB h.symm)
            have hcF : Chg (RdC W0 B) w (w5.setCell ⟨g, init.length * 3 + 2, none⟩ (.slice (some ad) nn cc)) := (hcD.trans (hc2.mono (O' := RdC W0 B) (fun k _ hk => .inr (hmW k hk)))).setCell (.inr (show RdC W0 B g from .inr hgW)) _
            go_ret
            exact linePost_yes hr.out rfl hcF ⟨_, ⟨Nat.le_trans hbase hcF.size, hbF, .inr ⟨init, _, _, _, rfl, hst⟩⟩⟩
        · have tO : decide ((0 : Int) < (o : Int)) = false := decide_eq_false (by omega)
          have ton : decide (0 < o) = false := decide_eq_false ho
          have hr : Hid (readLine (init ++ [q]) o n (c :: r) = none) := by
            rw [Hid, HR.out]
            rw [if_neg (fun q => ho q.2.1), if_neg (fun q => ho q.2), if_neg (fun q => by rw [h45] at q; exact absurd q.1 (by decide))]
          have hcN : Chg (RdC W0 B) w w1 := hA2.mono (fun _ _ h => h.elim)
          clear HR hopen hlast hbox hA2
          go_wp2_with fail
          go_ret
          exact linePost_no hr.out rfl hcN
      · have q45 : ((c.toNat : Int) == 45) = false := byte_ne_int h45 rfl
        by_cases h43 : c = 43
        · have q43 : ((c.toNat : Int) == 43) = true := by rw [h43]; rfl
          by_cases hn : 0 < n
          · have tn : decide ((0 : Int) < (n : Int)) = true := decide_eq_true (by omega)
            have hr : Hid (readLine (init ++ [q]) o n (c :: r) = some (init ++ [⟨q.old, q.new, q.marks ++ [⟨(c.toNat : Int), tx⟩]⟩], o, n - 1)) := by
              rw [Hid, HR.out, if_neg (fun q => h32 q.1), if_neg (fun q => h45 q.1), if_pos ⟨h43, hn⟩, add_mark, h43]; rfl
            obtain ⟨n1, rfl⟩ : ∃ n1, n = n1 + 1 := ⟨n - 1, by omega⟩
            clear h32 h45 h43 hn tn HR hopen
            go_upto_region 12 with fail
            have hboxS : Blk3 (w1.setCell ⟨B, 2, none⟩ (.int .i64 (n1 : Nat))) B 205 (.slice (some ⟨g, 0, none⟩) (init.length + 1) gcap) (.int .i64 (o : Nat)) (.int .i64 (n1 : Nat)) := hbox.set2 _
            have hS : Chg (fun k => k = B) w1 (w1.setCell ⟨B, 2, none⟩ (.int .i64 (n1 : Nat))) := (Chg.refl (fun k => k = B) w1).setCell (p := ⟨B, 2, none⟩) (.inr rfl) _
            have hlastS := hlast.keepO (O'' := RdO W0 B) hS (fun _ _ hk => .inr hk) (fun _ _ hk => hk)
            have x0 := hS.cell x0 hMne
            have x1 := hS.cell x1 hMne
            have hMS := Nat.lt_of_lt_of_le hM1 hS.size
            have hcS : Chg (RdC W0 B) w (w1.setCell ⟨B, 2, none⟩ (.int .i64 (n1 : Nat))) := (hA2.mono (fun _ _ h => h.elim)).trans (hS.mono (fun k _ hk => .inl hk))
            clear hbox hlast hA2 hM1 hxb c0 c1 c2 hf1 hf2
            generalize w1.setCell ⟨B, 2, none⟩ (.int .i64 (n1 : Nat)) = w2 at hboxS hS hlastS x0 x1 hMS hcS ⊢
            clear hS
            obtain ⟨g', gcap', hq, hg1, -, -, -, m2, m0, m1, hfr⟩ := hlastS.shape
            simp only [Value.slice.injEq, Option.some.injEq, Addr.mk.injEq, and_true, true_and] at hq
            obtain ⟨rfl, rfl⟩ := hq
            obtain ⟨c0, -, -⟩ := hboxS.cell
            have sw : IntKind.i64.wrap ((init.length : Int) + 1 - 1) = init.length := by rw [show (init.length : Int) + 1 - 1 = (init.length : Int) by omega]; exact IntWalk.i64_in _ (by omega)
            have sw2 : IntKind.i64.wrap (init.length : Int) = init.length := IntWalk.i64_in _ (by omega)
            have si : (init.length : Int) < (init.length : Int) + 1 := by omega
            go_quiet (fail)
            clear sw sw2 si c0
            have hq3 : Chg Never w2 (w2.drewN nq) := (Chg.refl Never w2).drewN nq
            have hlast3 := hlastS.keep hq3
            have hbox3 := hboxS.keep hq3 (fun h => h)
            have x0 : (w2.drewN nq).cell? ⟨M, 0, none⟩ = some (.int .u8 c.toNat) := x0
            have x1 : (w2.drewN nq).cell? ⟨M, 1, none⟩ = some (.string tx) := x1
            have m2 : (w2.drewN nq).cell? ⟨g, init.length * 3 + 2, none⟩ = some mv := m2
            have hfr : ∀ j, (w2.drewN nq).frozen? ⟨g, j, none⟩ = false := hfr
            have hg1 : g < (w2.drewN nq).heap.size := hg1
            have hc3 : Chg (RdC W0 B) w (w2.drewN nq) := hcS.trans (hq3.mono (fun _ _ h => h.elim))
            clear hlastS hboxS hq3 m0 m1 hcS
            generalize w2.drewN nq = w3 at hlast3 hbox3 x0 x1 m2 hfr hg1 hc3 ⊢
            go_wp2_with fail
            have hcd : Chg Never w3 w3.drew := (Chg.refl Never w3).drew
            have hmL := hlast3.keep hcd
            have hboxD := hbox3.keep hcd (fun h => h)
            have x0 : w3.drew.cell? ⟨M, 0, none⟩ = some (.int .u8 c.toNat) := x0
            have x1 : w3.drew.cell? ⟨M, 1, none⟩ = some (.string tx) := x1
            have m2 : w3.drew.cell? ⟨g, init.length * 3 + 2, none⟩ = some mv := m2
            have hfr : ∀ j, w3.drew.frozen? ⟨g, j, none⟩ = false := hfr
            have hg1 : g < w3.drew.heap.size := hg1
            have hcD : Chg (RdC W0 B) w w3.drew := hc3.trans (hcd.mono (fun _ _ h => h.elim))
            have hgM : ¬ OwnB mv g := by
              obtain ⟨_, _, qq, _⟩ := hmL.marks
              exact fun hh => qq g hh (.inr rfl)
            have hBM : ¬ OwnB mv B := by
              obtain ⟨_, _, qq, _⟩ := hmL.marks
              exact fun hh => qq B hh (.inl (.inr rfl))
            have hxM : ¬ OwnB mv M := fun hh => Nat.lt_irrefl _ (hmM M hh)
            have hgB : g ≠ B := fun e => hg2 (.inr e)
            have hgW : W0 ≤ g := by
              rcases Nat.lt_or_ge g W0 with h | h
              · exact absurd (.inl h) hg2
              · exact h
            have hmW : ∀ k, OwnB mv k → W0 ≤ k := fun k hk => by
              obtain ⟨_, _, qq, _⟩ := hmL.marks
              rcases Nat.lt_or_ge k W0 with h | h
              · exact absurd (.inl (.inl h)) (qq k hk)
              · exact h
            have hO : ∀ k, (RdO W0 B k ∨ (Value.slice (some ⟨g, 0, none⟩) (init.length + 1) gcap).ownBlock = some k) → k < w3.drew.heap.size := by
              have hBl := hboxD.lt
              rintro k ((h | rfl) | h)
              · have := hcD.size; omega
              · exact hBl
              · cases h; exact hg1
            have s0 : (0 : Int) ≤ (c.toNat : Int) := by omega
            have s1 : (c.toNat : Int) < 256 := by have := c.toNat_lt; omega
            have hlm : q.marks.length ≤ 1000000000 := by omega
            clear hlast3 hbox3 hcd hc3
            go_region_law ((refine step_push (by rfl) _ _ 127 (by rfl) elemOk_mark (O := fun k => RdO W0 B k ∨ (Value.slice (some ⟨g, 0, none⟩) (init.length + 1) gcap).ownBlock = some k) (l := q.marks) (y := ⟨(c.toNat : Int), tx⟩) (by rfl) (by rfl) (by simp) hmL.marks (rd_mark _ _ _ tx s0 s1 htz) hO hlm ?_; intro v' w5 hown2 hc2 hk2; obtain ⟨ad, nn, cc, rfl⟩ := own_slice hk2; have hfr5 : w5.frozen? ⟨g, init.length * 3 + 2, none⟩ = false := (hc2.frozen (p := ⟨g, init.length * 3 + 2, none⟩) hg1 hgM).trans (hfr _); have hcl5 : w5.cell? ⟨g, init.length * 3 + 2, none⟩ = some mv := hc2.cell (p := ⟨g, init.length * 3 + 2, none⟩) m2 hgM; have hb0 : w5.cell? ⟨M, 0, none⟩ = some (.int .u8 c.toNat) := hc2.cell (p := ⟨M, 0, none⟩) x0 hxM; have hb1 : w5.cell? ⟨M, 1, none⟩ = some (.string tx) := hc2.cell (p := ⟨M, 1, none⟩) x1 hxM))
            all_goals go_wp2_with fail
            all_goals
              have hst := OwnLast.stored hmL hown2 hc2 hk2
              have hbF := (hboxD.keep hc2 hBM).keep ((Chg.refl (fun k => k = g) w5).setCell (p := ⟨g, init.length * 3 + 2, none⟩) (.inr rfl) (.slice (some ad) nn cc)) (fun h => hgB h.symm)
              have hcF : Chg (RdC W0 B) w (w5.setCell ⟨g, init.length * 3 + 2, none⟩ (.slice (some ad) nn cc)) := (hcD.trans (hc2.mono (O' := RdC W0 B) (fun k _ hk => .inr (hmW k hk)))).setCell (.inr (show RdC W0 B g from .inr hgW)) _
              go_ret
              exact linePost_yes hr.out rfl hcF ⟨_, ⟨Nat.le_trans hbase hcF.size, hbF, .inr ⟨init, _, _, _, rfl, hst⟩⟩⟩
          · have tn : decide ((0 : Int) < (n : Int)) = false := decide_eq_false (by omega)
            have tnn : decide (0 < n) = false := decide_eq_false hn
            have hr : Hid (readLine (init ++ [q]) o n (c :: r) = none) := by
              rw [Hid, HR.out]
              rw [if_neg (fun q => h32 q.1), if_neg (fun q => h45 q.1), if_neg (fun q => hn q.2)]
            have hcN : Chg (RdC W0 B) w w1 := hA2.mono (fun _ _ h => h.elim)
            clear HR hopen hlast hbox hA2
            go_wp2_with fail
            go_ret
            exact linePost_no hr.out rfl hcN
        · have q43 : ((c.toNat : Int) == 43) = false := byte_ne_int h43 rfl
          have hr : Hid (readLine (init ++ [q]) o n (c :: r) = none) := by
            rw [Hid, HR.out]
            rw [if_neg (fun q => h32 q.1), if_neg (fun q => h45 q.1), if_neg (fun q => h43 q.1)]
          have hcN : Chg (RdC W0 B) w w1 := hA2.mono (fun _ _ h => h.elim)
          clear HR hopen hlast hbox hA2
          go_wp2_with fail
          go_ret
          exact linePost_no hr.out rfl hcN
end Go.Proofs.YtjiaidchcldocaaGreatDoor
