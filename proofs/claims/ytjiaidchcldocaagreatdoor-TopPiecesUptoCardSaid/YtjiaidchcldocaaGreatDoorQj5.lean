/-
  PARTS: THE WALK of apply.Loose.; THE LAW TopPieces, walked.
-/
import Derived.Test.YtjiaidchcldocaaGreatDoorPg1
import Derived.Test.YtjiaidchcldocaaGreatDoorPg2
import Derived.Test.YtjiaidchcldocaaGreatDoorPg3
import Derived.Test.YtjiaidchcldocaaGreatDoorPg4
import Derived.Test.YtjiaidchcldocaaGreatDoorPg5
import Derived.Test.YtjiaidchcldocaaGreatDoorPg6
import Derived.Test.YtjiaidchcldocaaGreatDoorPg7
import Derived.Test.YtjiaidchcldocaaGreatDoorPg8
import Derived.Test.YtjiaidchcldocaaGreatDoorPg9
import Derived.Test.YtjiaidchcldocaaGreatDoorPg10
import Derived.Test.YtjiaidchcldocaaGreatDoorPg11
import Derived.Test.YtjiaidchcldocaaGreatDoorPg12
import Derived.Test.YtjiaidchcldocaaGreatDoorPg13
import Derived.Test.YtjiaidchcldocaaGreatDoorPg14
import Derived.Test.YtjiaidchcldocaaGreatDoorPg15
import Derived.Test.YtjiaidchcldocaaGreatDoorPg16
import Derived.Test.YtjiaidchcldocaaGreatDoorPg17
import Derived.Test.YtjiaidchcldocaaGreatDoorPg18
import Derived.Test.YtjiaidchcldocaaGreatDoorPg19
import Derived.Test.YtjiaidchcldocaaGreatDoorPg20
import Derived.Test.YtjiaidchcldocaaGreatDoorPg21
import Derived.Test.YtjiaidchcldocaaGreatDoorPg22
import Derived.Test.YtjiaidchcldocaaGreatDoorPg23
import Derived.Test.YtjiaidchcldocaaGreatDoorPg24
import Derived.Test.YtjiaidchcldocaaGreatDoorPg25
import Derived.Test.YtjiaidchcldocaaGreatDoorPg26
import Derived.Test.YtjiaidchcldocaaGreatDoorPg27
import Derived.Test.YtjiaidchcldocaaGreatDoorPg28
import Derived.Test.YtjiaidchcldocaaGreatDoorPg29
import Derived.Test.YtjiaidchcldocaaGreatDoorPg30
import Derived.Test.YtjiaidchcldocaaGreatDoorPg31
import Derived.Test.YtjiaidchcldocaaGreatDoorPg32
import Derived.Test.YtjiaidchcldocaaGreatDoorPg33
import Derived.Test.YtjiaidchcldocaaGreatDoorPg34
import Derived.Test.YtjiaidchcldocaaGreatDoorPg35
import Derived.Test.YtjiaidchcldocaaGreatDoorPg36
import Derived.Test.YtjiaidchcldocaaGreatDoorPg37
import Derived.Test.YtjiaidchcldocaaGreatDoorPg38
import Derived.Test.YtjiaidchcldocaaGreatDoorQj4
set_option linter.unusedVariables false
set_option linter.unusedSimpArgs false
namespace Go.Proofs.YtjiaidchcldocaaGreatDoor
open Go.RowKit

def LO (le wh : Value) (w0 : World) : Nat → Prop := fun j => le.ownBlock = some j ∨ wh.ownBlock = some j ∨ j < w0.heap.size
def OL (W : Nat) (w0 : World) (v : Value) : Nat → Prop := fun j => j < w0.heap.size ∨ j = W ∨ v.ownBlock = some j
structure LSt (w0 : World) (W : Nat) (wr : World) (le wh lv : Value) (st : Loose) (L : List Hunk) (P : List Int) : Prop where
  hc : Chg Never w0 wr
  hW : w0.heap.size ≤ W
  blk : Blk3 wr W tLoose lv (.int .i64 st.fin) (.int .i64 st.more)
  lines : Rdv wr (fun j => j = W ∨ LO le wh w0 j) lv st.lines
  left : Own 129 wr (OL W w0 wh) le L
  plc : Own 3 wr (OL W w0 le) wh P

theorem LSt.lo_lt {w0 wr : World} {W : Nat} {le wh lv : Value} {st : Loose} {L : List Hunk} {P : List Int} (h : LSt w0 W wr le wh lv st L P) : ∀ j, LO le wh w0 j → j < wr.heap.size := by
  rintro j (hj | hj | hj)
  · exact own_block_lt h.left j hj
  · exact own_block_lt h.plc j hj
  · exact Nat.lt_of_lt_of_le hj h.hc.size
theorem LSt.never {w0 wr w' : World} {W : Nat} {le wh lv : Value} {st : Loose} {L : List Hunk} {P : List Int} (h : LSt w0 W wr le wh lv st L P) (hc : Chg Never wr w') : LSt w0 W w' le wh lv st L P :=
  ⟨h.hc.trans hc, h.hW, h.blk.keep hc (fun x => x), h.lines.never hc, h.left.never hc, h.plc.never hc⟩
theorem LSt.tried {w0 wr w' : World} {W : Nat} {le wh lv lv' : Value} {st st' : Loose} {L : List Hunk} {P : List Int} (h : LSt w0 W wr le wh lv st L P) (hc : Chg (fun k => k = W) wr w')
    (hB : Blk3 w' W tLoose lv' (.int .i64 st'.fin) (.int .i64 st'.more)) (hl : Rdv w' (fun j => j = W ∨ LO le wh w0 j) lv' st'.lines) : LSt w0 W w' le wh lv' st' L P := by
  refine ⟨h.hc.trans' hc ?_, h.hW, hB, hl, h.left.keep hc (fun k _ hk => .inr (.inl hk)) (fun _ _ h => h), h.plc.keep hc (fun k _ hk => .inr (.inl hk)) (fun _ _ h => h)⟩
  intro i hi hk
  have := h.hW
  omega
theorem LSt.pushL {w0 wr w' : World} {W : Nat} {le wh lv le' : Value} {st : Loose} {L L' : List Hunk} {P : List Int} (h : LSt w0 W wr le wh lv st L P) (hown : Own 129 w' (OL W w0 wh) le' L') (hc : Chg (OwnB le) wr w')
    (hk : ∃ k, le'.ownBlock = some k ∧ (le.ownBlock = some k ∨ wr.heap.size ≤ k)) : LSt w0 W w' le' wh lv st L' P := by
  obtain ⟨kb, hkb, hkb2⟩ := hk
  have hsub : ∀ k, k < wr.heap.size → le'.ownBlock = some k → le.ownBlock = some k := by
    intro k hlt hk
    rw [hkb] at hk
    injection hk with hk
    subst hk
    rcases hkb2 with h | h
    · exact h
    · omega
  have ho := own_out h.left
  refine ⟨h.hc.trans' hc ?_, h.hW, h.blk.keep hc ?_, h.lines.keep hc ?_ ?_, hown, h.plc.keep hc ?_ ?_⟩
  · intro i hi hk
    exact absurd (.inl hi) (ho i hk)
  · intro hk
    exact absurd (.inr (.inl rfl)) (ho W hk)
  · intro k _ hk
    exact .inr (.inl hk)
  · rintro k hlt (hk | hk | hk | hk)
    · exact .inl hk
    · exact .inr (.inl (hsub k hlt hk))
    · exact .inr (.inr (.inl hk))
    · exact .inr (.inr (.inr hk))
  · intro k _ hk
    exact .inr (.inr hk)
  · rintro k hlt (hk | hk | hk)
    · exact .inl hk
    · exact .inr (.inl hk)
    · exact .inr (.inr (hsub k hlt hk))
theorem LSt.pushP {w0 wr w' : World} {W : Nat} {le wh lv wh' : Value} {st : Loose} {L : List Hunk} {P P' : List Int} (h : LSt w0 W wr le wh lv st L P) (hown : Own 3 w' (OL W w0 le) wh' P') (hc : Chg (OwnB wh) wr w')
    (hk : ∃ k, wh'.ownBlock = some k ∧ (wh.ownBlock = some k ∨ wr.heap.size ≤ k)) : LSt w0 W w' le wh' lv st L P' := by
  obtain ⟨kb, hkb, hkb2⟩ := hk
  have hsub : ∀ k, k < wr.heap.size → wh'.ownBlock = some k → wh.ownBlock = some k := by
    intro k hlt hk
    rw [hkb] at hk
    injection hk with hk
    subst hk
    rcases hkb2 with h | h
    · exact h
    · omega
  have ho := own_out h.plc
  refine ⟨h.hc.trans' hc ?_, h.hW, h.blk.keep hc ?_, h.lines.keep hc ?_ ?_, h.left.keep hc ?_ ?_, hown⟩
  · intro i hi hk
    exact absurd (.inl hi) (ho i hk)
  · intro hk
    exact absurd (.inr (.inl rfl)) (ho W hk)
  · intro k _ hk
    exact .inr (.inr (.inl hk))
  · rintro k hlt (hk | hk | hk | hk)
    · exact .inl hk
    · exact .inr (.inl hk)
    · exact .inr (.inr (.inl (hsub k hlt hk)))
    · exact .inr (.inr (.inr hk))
  · intro k _ hk
    exact .inr (.inr hk)
  · rintro k hlt (hk | hk | hk)
    · exact .inl hk
    · exact .inr (.inl hk)
    · exact .inr (.inr (hsub k hlt hk))

theorem elemOk_int : ElemOk Tryz.prog 23 3 1 := elemOk_of Tryz.underlying23 (z := .int .i64 0) (b := 8) (by kernel_rfl) rfl (by decide)

/-- bounds of a state -/
def StB (st : Loose) (k : Nat) : Prop := st.lines.length ≤ 60 ∧ 0 ≤ st.fin ∧ st.fin ≤ 60 ∧ -(120 * (k : Int)) ≤ st.more ∧ st.more ≤ 120 * (k : Int)
theorem tryOf_bounds {st : Loose} {h : Hunk} {fuzz far k : Nat} (hb : StB st k) (hs : scriptFault h.marks = 0) : StB (tryOf st h fuzz far).1 (k + 1) := by
  obtain ⟨b1, b2, b3, b4, b5⟩ := hb
  unfold tryOf
  split
  · rename_i f o hf
    obtain ⟨_, _, hr, hfo⟩ := tryFrom_some _ _ hf
    obtain ⟨_, _, hok⟩ := findOff_le hfo
    unfold okAt at hok
    rw [Bool.and_eq_true, decide_eq_true_eq] at hok
    obtain ⟨s1, s2, _⟩ := stands_split hok.2
    unfold roomB at hr
    rw [decide_eq_true_eq] at hr
    have e2 : oldN (trimmedOf f h.marks) = (oldOf (trimmedOf f h.marks)).length := rfl
    have e3 : newN (trimmedOf f h.marks) = (newOf (trimmedOf f h.marks)).length := rfl
    have l1 : oldN (trimmedOf f h.marks) ≤ 120 := Nat.le_trans (oldN_le _) (scriptFault_len (trimmed_fault hs f))
    have l2 : newN (trimmedOf f h.marks) ≤ 120 := Nat.le_trans (newN_le _) (scriptFault_len (trimmed_fault hs f))
    unfold StB doneAt
    simp only [List.length_append, List.length_take, List.length_drop]
    refine ⟨?_, ?_, ?_, ?_, ?_⟩ <;> omega
  · exact ⟨b1, b2, b3, by push_cast; omega, by push_cast; omega⟩
theorem looseGo_nil (fuzz far : Nat) (st : Loose) : looseGo fuzz far st [] = (st, [], []) := rfl
theorem looseGo_step (fuzz far : Nat) (st : Loose) (h : Hunk) (r : List Hunk) : looseGo fuzz far st (h :: r) =
    ((looseGo fuzz far (tryOf st h fuzz far).1 r).1, (if (tryOf st h fuzz far).2 = none then h :: (looseGo fuzz far (tryOf st h fuzz far).1 r).2.1 else (looseGo fuzz far (tryOf st h fuzz far).1 r).2.1), (tryOf st h fuzz far).2.getD (-1000) :: (looseGo fuzz far (tryOf st h fuzz far).1 r).2.2) := rfl
/-- what has come so far, and what is to come -/
def LRest (fuzz far : Nat) (st : Loose) (L : List Hunk) (P : List Int) (r : List Hunk) : Loose × List Hunk × List Int :=
  ((looseGo fuzz far st r).1, L ++ (looseGo fuzz far st r).2.1, P ++ (looseGo fuzz far st r).2.2)
theorem LRest_none {fuzz far : Nat} {st : Loose} {h : Hunk} {L : List Hunk} {P : List Int} {r : List Hunk} (e : (tryOf st h fuzz far).2 = none) :
    LRest fuzz far st L P (h :: r) = LRest fuzz far (tryOf st h fuzz far).1 (L ++ [h]) (P ++ [-1000]) r := by
  unfold LRest
  rw [looseGo_step, e]
  simp
theorem LRest_some {fuzz far : Nat} {st : Loose} {h : Hunk} {L : List Hunk} {P : List Int} {r : List Hunk} {o : Int} (e : (tryOf st h fuzz far).2 = some o) :
    LRest fuzz far st L P (h :: r) = LRest fuzz far (tryOf st h fuzz far).1 L (P ++ [o]) r := by
  unfold LRest
  rw [looseGo_step, e]
  simp

theorem looseFault_range {a : List ByteArray} {l : List Hunk} {fuzz far : Int} (h1 : linesFault a = 0) (h2 : (hunksFault l).2 = 0) : looseFault a l fuzz far = if fuzz < 0 ∨ 3 < fuzz ∨ far < 0 ∨ 60 < far then 1 else 0 := by
  unfold looseFault
  rw [if_neg (by simp [h1]), if_neg (by simp [h2])]
theorem results_tmp4 {fn : Func} {t u v x : Tmp} (h : fn.results = #[.tmp t, .tmp u, .tmp v, .tmp x]) (tmps : Array Value) (P : Program) (w : World) :
    (results fn tmps).run P w = .ok (.tuple #[tmps.getD t undef, tmps.getD u undef, tmps.getD v undef, tmps.getD x undef]) w := by
  simp [results, h]
theorem LSt.olP_lt {w0 wr : World} {W : Nat} {le wh lv : Value} {st : Loose} {L : List Hunk} {P : List Int} (h : LSt w0 W wr le wh lv st L P) : ∀ j, OL W w0 le j → j < wr.heap.size := by
  rintro j (hj | hj | hj)
  · exact Nat.lt_of_lt_of_le hj h.hc.size
  · subst hj; exact h.blk.lt
  · exact own_block_lt h.left j hj
theorem LSt.olL_lt {w0 wr : World} {W : Nat} {le wh lv : Value} {st : Loose} {L : List Hunk} {P : List Int} (h : LSt w0 W wr le wh lv st L P) : ∀ j, OL W w0 wh j → j < wr.heap.size := by
  rintro j (hj | hj | hj)
  · exact Nat.lt_of_lt_of_le hj h.hc.size
  · subst hj; exact h.blk.lt
  · exact own_block_lt h.plc j hj

set_option maxHeartbeats 2000000 in
set_option maxRecDepth 100000 in
theorem loose_ok (a : List ByteArray) (l : List Hunk) (fuzz far : Int) (va vl : Value) (w : World) (ha : Rdv w Never va a) (hl : Rdv w Never vl l) (h1 : linesFault a = 0) (h2 : hunksFault l = (0, 0)) (z0 : 0 ≤ fuzz) (z1 : fuzz ≤ 3) (z2 : 0 ≤ far) (z3 : far ≤ 60) :
    Calls Tryz.prog 40 #[va, vl, .int .i64 fuzz, .int .i64 far] w
      fun e w' => ∃ r1 r2 r3, e = .returned (.tuple #[r1, r2, r3, errV (looseFault a l fuzz far)]) ∧ Chg Never w w' ∧ Rdv w' (Old w.heap.size) r1 (looseR a l fuzz far).1 ∧ Rdv w' (Old w.heap.size) r2 (looseR a l fuzz far).2.1 ∧ Rdv w' (Old w.heap.size) r3 (looseR a l fuzz far).2.2 := by
  obtain ⟨fz, rfl⟩ := Int.eq_ofNat_of_zero_le z0
  obtain ⟨fr, rfl⟩ := Int.eq_ofNat_of_zero_le z2
  have hf0 : looseFault a l fz fr = 0 := by rw [looseFault_range h1 (by rw [h2]), if_neg (by omega)]
  have HE := Lib.hid hf0
  have HR : Hid (looseR a l fz fr = looseOf a l fz fr) := if_pos hf0
  have hla := linesFault_len h1
  obtain ⟨hl60, hok⟩ := hunksFault_zero (l := l) (by rw [h2])
  have hmem := hOk_mem _ _ _ hok
  have HOK := Lib.hid hok
  have H1 := Lib.hid h1
  have H2 := Lib.hid h2
  obtain ⟨ll, lcap, rfl, l1, l2, l3⟩ := rdv_slice hl
  unfold maxLen at l2
  clear h1 h2 hok hf0
  go_enter Tryz.func40, Tryz.ntmps40
  go_wp2_with fail
  refine (check_any a _ _ ha).mono ?_
  rintro e w1 ⟨rfl, rfl⟩
  rw [H1.out, errV_zero]
  go_wp2_with fail
  refine (hunk_check_any l _ _ hl).mono ?_
  rintro e w1 ⟨rfl, hc1⟩
  rw [H2.out, errV_zero]
  go_wp2_with fail
  refine (clone_str Never a _ _ (ha.never hc1) (by omega)).mono ?_
  rintro e w2 ⟨r2, rfl, hc2, hown2⟩
  obtain ⟨ra, rn, rc, rfl⟩ := own_isSlice hown2
  have hc := hc1.trans hc2
  have hA : Chg Never w2 (w2.alloc (.cells #[.slice ra rn rc, .int .i64 0, .int .i64 0] tLoose)) := (Chg.refl Never w2).alloc _
  have hst0 : LSt w w2.heap.size (w2.alloc (.cells #[.slice ra rn rc, .int .i64 0, .int .i64 0] tLoose)) (.slice none 0 0) (.slice none 0 0) (.slice ra rn rc) ⟨a, 0, 0⟩ [] [] := by
    refine ⟨hc.trans hA, hc.size, Blk3.new w2 tLoose _ _ _, ?_, own_nil _ _ _, own_nil _ _ _⟩
    refine (hown2.rdv.sub (O' := fun j => j = w2.heap.size ∨ LO (.slice none 0 0) (.slice none 0 0) w j) ?_).never hA
    rintro k hlt (hk | hk | hk | hk)
    · omega
    · cases hk
    · cases hk
    · have := hc1.size
      unfold Old
      omega
  have hW2 : w2.heap.size ≤ w2.heap.size := Nat.le_refl _
  clear hown2 hc hc1 hc2 hA
  go_wp2_with fail
  generalize w2.alloc (.cells #[.slice ra rn rc, .int .i64 0, .int .i64 0] 175) = w3 at hst0 ⊢
  go_loopw [9, 10, 54] (fun le wh i wr => ∃ (k : Nat) (st : Loose) (lv : Value) (L : List Hunk) (P : List Int), k ≤ l.length ∧ i = .int .i64 k ∧ LSt w w2.heap.size wr le wh lv st L P ∧ StB st k ∧ L.length ≤ k ∧ Hid (P.length = k) ∧
      Hid (LRest fz fr st L P (l.drop k) = looseGo fz fr ⟨a, 0, 0⟩ l)) (fun _ _ i _ => l.length - (intOf i).toNat)
  case atStart => exact ⟨0, ⟨a, 0, 0⟩, _, [], [], Nat.zero_le _, rfl, hst0, ⟨hla, Int.le_refl _, by show (0 : Int) ≤ 60; omega, by show -(120 * ((0 : Nat) : Int)) ≤ 0; omega, by show (0 : Int) ≤ 120 * ((0 : Nat) : Int); omega⟩, Nat.zero_le _, rfl, rfl⟩
  case round =>
    clear hst0 hW2
    obtain ⟨k, st, lv, L, P, hk, rfl, hst, hb, hL, hP, hR⟩ := hrel
    by_cases hlt : k < l.length
    · obtain ⟨x, hx⟩ : ∃ x, l[k]? = some x := ⟨l[k], by simp [hlt]⟩
      obtain ⟨b, off, mv, rfl, _, _, c0, c1, c2, hmv⟩ := elems_hunk l3 hx
      have hsf := hmem x (List.mem_of_getElem? hx)
      obtain ⟨o0, o1⟩ := hOk_old _ _ _ HOK.out x (List.mem_of_getElem? hx)
      have hd := drop_eq hx
      have hR1 := hR.out
      rw [hd] at hR1
      have HR1 := Lib.hid hR1
      have c0 := hst.hc.cellNever c0
      have c1 := hst.hc.cellNever c1
      have c2 := hst.hc.cellNever c2
      have hmvO := (hmv.sub (O' := From w.heap.size) (fun j hj h => absurd h (by unfold From; omega))).never hst.hc
      have hWge := hst.hW
      have hmv := hmv.never hst.hc
      obtain ⟨ma, mcap, rfl, _, _, _⟩ := rdv_slice hmv
      have hA : Chg Never wr (wr.alloc (.cells #[.int .i64 x.old, .int .i64 x.new, .slice ma x.marks.length mcap] 129)) := (Chg.refl Never wr).alloc _
      have hstA := hst.never hA
      have hWlt := hst.blk.lt
      have HSF := Lib.hid hsf
      obtain ⟨s1, s2, s3, s4, s5⟩ := id hb
      have hml := scriptFault_len hsf
      have hbox := Blk3.new wr 129 (.int .i64 x.old) (.int .i64 x.new) (.slice ma x.marks.length mcap)
      have hmvA := hmv.never hA
      clear hx hd hR1 hR l3 hl hsf hst
      go_wp2_with fail
      refine (try_any (fun j => LO _ _ w j) st x fz fr w2.heap.size lv _ _ hstA.blk hstA.lines hstA.lo_lt hmvA (by omega) (by omega) s1 s2 s3 (by omega) (by omega) o0 o1 HSF.out).mono ?_
      rintro e w4 ⟨lv', rfl, hc4, hB4, hl4⟩
      have hst4 := hstA.tried hc4 hB4 hl4
      obtain ⟨x0, x1, x2⟩ := (hbox.keep hc4 (by omega)).cell
      have hmv4 := hmvA
      have hmvK := (hmvO.never hA).keep (O'' := Never) hc4 (fun j _ hj => by subst hj; exact hWge) (fun _ _ h => h.elim)
      clear hmvO hA
      clear hB4 hl4 hbox
      cases hq : (tryOf st x fz fr).2 with
      | some o =>
        have ho := tryOf_off hq
        simp only [Option.getD_some, Option.isSome_some]
        have HQ := Lib.hid hq
        have hPl : P.length ≤ 1000000000 := by rw [hP.out]; omega
        clear hq hc4 hmv4 hmvA hstA x0 x1 x2
        go_wp2_with (at_builtin; refine wpList_push (by rfl) _ _ 23 (by rfl) elemOk_int (l := P) (y := o) (by rfl) (by rfl) (by rfl) hst4.plc ⟨rfl, by unfold I64; omega⟩ hst4.olP_lt hPl ?_; intro v' w5 hown5 hc5 hk5)
        have hst5 := hst4.pushP hown5 hc5 hk5
        clear hown5 hc5 hk5 hst4
        go_roundw
        case rel => exact ⟨k + 1, _, lv', L, P ++ [o], by omega, by go_num, hst5, tryOf_bounds hb HSF.out, by omega, by rw [Hid, List.length_append, hP.out]; rfl, by rw [Hid, ← LRest_some HQ.out]; exact HR1.out⟩
        case measure => simp [intOf] <;> omega
      | none =>
        simp only [Option.getD_none, Option.isSome_none]
        have HQ := Lib.hid hq
        have hPl : P.length ≤ 1000000000 := by rw [hP.out]; omega
        have hLl : L.length ≤ 1000000000 := by omega
        clear hq hmv4 hmvA hstA
        go_wp2_with fail
        refine (copy_any x _ _ hmvK (by omega)).mono ?_
        rintro e w6 ⟨r6, rfl, hc6, hr6⟩
        obtain ⟨ca, ccap, rfl, _, _, _⟩ := rdv_slice hr6
        have hst6 := hst4.never hc6
        have hy : Dat.rd w6 (fun j => OL w2.heap.size w _ j ∨ (Value.ownBlock _) = some j) [.int .i64 x.old, .int .i64 x.new, .slice ca x.marks.length ccap] x := ⟨_, rfl, hr6.sub (fun j _ hj => by
          rcases hj with hj | hj
          · exact hst4.olL_lt j hj
          · exact own_block_lt hst4.left j hj)⟩
        clear hr6 hc6 hmvK hst4 hc4 x0 x1 x2
        go_wp2_with (first | (at_builtin; refine wpList_push (by rfl) _ _ 83 (by rfl) elemOk_hunk (l := L) (y := x) (by rfl) (by rfl) (by rfl) hst6.left hy hst6.olL_lt hLl ?_; intro v' w7 hown7 hc7 hk7; have hst7 := hst6.pushL hown7 hc7 hk7; clear hown7 hc7 hk7 hst6 hy) | (at_builtin; refine wpList_push (by rfl) _ _ 23 (by rfl) elemOk_int (l := P) (y := (-1000 : Int)) (by rfl) (by rfl) (by rfl) hst7.plc ⟨rfl, by unfold I64; omega⟩ hst7.olP_lt hPl ?_; intro v'' w5 hown5 hc5 hk5; have hst5 := hst7.pushP hown5 hc5 hk5; clear hown5 hc5 hk5 hst7))
        go_roundw
        case rel => exact ⟨k + 1, _, lv', L ++ [x], P ++ [-1000], by omega, by go_num, hst5, tryOf_bounds hb HSF.out, by simp; omega, by rw [Hid, List.length_append, hP.out]; rfl, by rw [Hid, ← LRest_none HQ.out]; exact HR1.out⟩
        case measure => simp [intOf] <;> omega
    · have hk' : k = l.length := by omega
      subst hk'
      have hR1 := hR.out
      rw [List.drop_length] at hR1
      unfold LRest at hR1
      rw [looseGo_nil] at hR1
      simp only [List.append_nil] at hR1
      obtain ⟨g0, g1, g2⟩ := hst.blk.cell
      have g3 := hst.blk.free
      have HZ := Lib.hid hR1
      have hcF := hst.hc
      have r1 := hst.lines.sub (O' := Old w.heap.size) (fun j _ hj => .inr (.inr (.inr hj)))
      have r2 := hst.left.rdv.sub (O' := Old w.heap.size) (fun j _ hj => .inl hj)
      have r3 := hst.plc.rdv.sub (O' := Old w.heap.size) (fun j _ hj => .inl hj)
      clear hR hR1 hst
      go_wp2_with fail
      have eX : st.lines = (looseR a l fz fr).1 := by rw [HR.out]; unfold looseOf; rw [Int.toNat_natCast, Int.toNat_natCast, ← HZ.out]
      have eL : L = (looseR a l fz fr).2.1 := by rw [HR.out]; unfold looseOf; rw [Int.toNat_natCast, Int.toNat_natCast, ← HZ.out]
      have eP : P = (looseR a l fz fr).2.2 := by rw [HR.out]; unfold looseOf; rw [Int.toNat_natCast, Int.toNat_natCast, ← HZ.out]
      rw [eX] at r1
      rw [eL] at r2
      rw [eP] at r3
      refine bodyPost_ret (v := .tuple #[lv, _, _, .nilIface]) (by rw [results_tmp4 Tryz.results40]; rfl) rfl ?_
      exact ⟨_, _, _, by rw [HE.out]; rfl, hcF, r1, r2, r3⟩

set_option maxHeartbeats 1600000 in
set_option maxRecDepth 100000 in
theorem loose_any (a : List ByteArray) (l : List Hunk) (fuzz far : Int) (va vl : Value) (w : World) (ha : Rdv w Never va a) (hl : Rdv w Never vl l) :
    Calls Tryz.prog 40 #[va, vl, .int .i64 fuzz, .int .i64 far] w
      fun e w' => ∃ r1 r2 r3, e = .returned (.tuple #[r1, r2, r3, errV (looseFault a l fuzz far)]) ∧ Chg Never w w' ∧ Rdv w' (Old w.heap.size) r1 (looseR a l fuzz far).1 ∧ Rdv w' (Old w.heap.size) r2 (looseR a l fuzz far).2.1 ∧ Rdv w' (Old w.heap.size) r3 (looseR a l fuzz far).2.2 := by
  by_cases h1 : linesFault a = 0
  · by_cases h2 : (hunksFault l).2 = 0
    · have h2' := hunksFault_first h2
      by_cases q : 0 ≤ fuzz ∧ fuzz ≤ 3 ∧ 0 ≤ far ∧ far ≤ 60
      · exact loose_ok a l fuzz far va vl w ha hl h1 h2' q.1 q.2.1 q.2.2.1 q.2.2.2
      · have hf : looseFault a l fuzz far = 1 := by rw [looseFault_range h1 h2, if_pos (by omega)]
        have HE := Lib.hid hf
        have HR : Hid (looseR a l fuzz far = ([], [], [])) := if_neg (by rw [hf]; decide)
        have H1 := Lib.hid h1
        have H2 := Lib.hid h2'
        have HQ := Lib.hid q
        clear hf h1 h2 h2' q
        by_cases q1 : fuzz < 0
        · go_enter Tryz.func40, Tryz.ntmps40
          go_wp2_with fail
          refine (check_any a _ _ ha).mono ?_
          rintro e w1 ⟨rfl, rfl⟩
          rw [H1.out, errV_zero]
          go_wp2_with fail
          refine (hunk_check_any l _ _ hl).mono ?_
          rintro e w1 ⟨rfl, hc1⟩
          rw [H2.out, errV_zero]
          go_wp2_with fail
          exact bodyPost_ret (v := .tuple #[.slice none 0 0, .slice none 0 0, .slice none 0 0, .iface 38 (.int .i64 1)]) (by simp [results, Tryz.results40, go_sem]) rfl ⟨_, _, _, by rw [HE.out]; rfl, hc1, by rw [HR.out]; exact rdv_nil _ _, by rw [HR.out]; exact rdv_nil _ _, by rw [HR.out]; exact rdv_nil _ _⟩
        · by_cases q2 : 3 < fuzz
          · go_enter Tryz.func40, Tryz.ntmps40
            go_wp2_with fail
            refine (check_any a _ _ ha).mono ?_
            rintro e w1 ⟨rfl, rfl⟩
            rw [H1.out, errV_zero]
            go_wp2_with fail
            refine (hunk_check_any l _ _ hl).mono ?_
            rintro e w1 ⟨rfl, hc1⟩
            rw [H2.out, errV_zero]
            go_wp2_with fail
            exact bodyPost_ret (v := .tuple #[.slice none 0 0, .slice none 0 0, .slice none 0 0, .iface 38 (.int .i64 1)]) (by simp [results, Tryz.results40, go_sem]) rfl ⟨_, _, _, by rw [HE.out]; rfl, hc1, by rw [HR.out]; exact rdv_nil _ _, by rw [HR.out]; exact rdv_nil _ _, by rw [HR.out]; exact rdv_nil _ _⟩
          · by_cases q3 : far < 0
            · go_enter Tryz.func40, Tryz.ntmps40
              go_wp2_with fail
              refine (check_any a _ _ ha).mono ?_
              rintro e w1 ⟨rfl, rfl⟩
              rw [H1.out, errV_zero]
              go_wp2_with fail
              refine (hunk_check_any l _ _ hl).mono ?_
              rintro e w1 ⟨rfl, hc1⟩
              rw [H2.out, errV_zero]
              go_wp2_with fail
              exact bodyPost_ret (v := .tuple #[.slice none 0 0, .slice none 0 0, .slice none 0 0, .iface 38 (.int .i64 1)]) (by simp [results, Tryz.results40, go_sem]) rfl ⟨_, _, _, by rw [HE.out]; rfl, hc1, by rw [HR.out]; exact rdv_nil _ _, by rw [HR.out]; exact rdv_nil _ _, by rw [HR.out]; exact rdv_nil _ _⟩
            · have q4 : 60 < far := by have := HQ.out; omega
              go_enter Tryz.func40, Tryz.ntmps40
              go_wp2_with fail
              refine (check_any a _ _ ha).mono ?_
              rintro e w1 ⟨rfl, rfl⟩
              rw [H1.out, errV_zero]
              go_wp2_with fail
              refine (hunk_check_any l _ _ hl).mono ?_
              rintro e w1 ⟨rfl, hc1⟩
              rw [H2.out, errV_zero]
              go_wp2_with fail
              exact bodyPost_ret (v := .tuple #[.slice none 0 0, .slice none 0 0, .slice none 0 0, .iface 38 (.int .i64 1)]) (by simp [results, Tryz.results40, go_sem]) rfl ⟨_, _, _, by rw [HE.out]; rfl, hc1, by rw [HR.out]; exact rdv_nil _ _, by rw [HR.out]; exact rdv_nil _ _, by rw [HR.out]; exact rdv_nil _ _⟩
    · have HE : Hid (looseFault a l fuzz far = (hunksFault l).2) := by unfold Hid looseFault; rw [if_neg (by simp [h1]), if_pos h2]
      have HR : Hid (looseR a l fuzz far = ([], [], [])) := if_neg (by rw [HE.out]; exact h2)
      have H1 := Lib.hid h1
      have H2 := Lib.hid h2
      clear h1 h2
      go_enter Tryz.func40, Tryz.ntmps40
      go_wp2_with fail
      refine (check_any a _ _ ha).mono ?_
      rintro e w1 ⟨rfl, rfl⟩
      rw [H1.out, errV_zero]
      go_wp2_with fail
      refine (hunk_check_any l _ _ hl).mono ?_
      rintro e w1 ⟨rfl, hc1⟩
      rw [errV_pos H2.out]
      go_wp2_with fail
      exact bodyPost_ret (v := .tuple #[.slice none 0 0, .slice none 0 0, .slice none 0 0, .iface 38 (.int .i64 (hunksFault l).2)]) (by simp [results, Tryz.results40, go_sem]) rfl ⟨_, _, _, by rw [HE.out, errV_pos H2.out], hc1, by rw [HR.out]; exact rdv_nil _ _, by rw [HR.out]; exact rdv_nil _ _, by rw [HR.out]; exact rdv_nil _ _⟩
  · have HE : Hid (looseFault a l fuzz far = linesFault a) := if_pos h1
    have HR : Hid (looseR a l fuzz far = ([], [], [])) := if_neg (by rw [HE.out]; exact h1)
    have H1 := Lib.hid h1
    clear h1
    go_enter Tryz.func40, Tryz.ntmps40
    go_wp2_with fail
    refine (check_any a _ _ ha).mono ?_
    rintro e w1 ⟨rfl, rfl⟩
    rw [errV_pos H1.out]
    go_wp2_with fail
    exact bodyPost_ret (v := .tuple #[.slice none 0 0, .slice none 0 0, .slice none 0 0, .iface 38 (.int .i64 (linesFault a))]) (by simp [results, Tryz.results40, go_sem]) rfl ⟨_, _, _, by rw [HE.out, errV_pos H1.out], Chg.refl _ _, by rw [HR.out]; exact rdv_nil _ _, by rw [HR.out]; exact rdv_nil _ _, by rw [HR.out]; exact rdv_nil _ _⟩
end Go.Proofs.YtjiaidchcldocaaGreatDoor
namespace Go.Proofs.YtjiaidchcldocaaGreatDoor
open Go.RowKit

theorem size_achange (w : World) : (sizeOf (Tryz.prog.elem 51)).run Tryz.prog w = .ok 3 w := by kernel_rfl
theorem one_part {p : List Change} {k : Nat} {c : Change} (h : p[k]? = some c) : (p.drop k).take (k + 1 - k) = [c] := by
  rw [show k + 1 - k = 1 by omega, drop_eq h]; rfl
set_option maxHeartbeats 1000000 in
set_option maxRecDepth 100000 in
theorem law_topPieces (a b : List File) (n fuzz far : Int) (va vb : Value) (w : World) (ha : Rdv w Never va a) (hb : Rdv w Never vb b) (hn : I64 n) (_hf : I64 fuzz) (_hf2 : I64 far) (m : Int) (hm : w.cell? ⟨1, 0, none⟩ = some (.int .i64 m)) (hg : Globs w m) (he : w.cell? ⟨0, 0, none⟩ = some errT) :
    Calls Tryz.prog 10 #[va, vb, .int .i64 n, .int .i64 fuzz, .int .i64 far] w fun e w' => e = .returned (.bool true) ∧ Chg Never w w' := by
  go_enter Tryz.func10, Tryz.ntmps10
  go_wp2_with fail
  refine (top_one _ m hg).mono ?_
  rintro e w1 ⟨rfl, hw⟩
  go_wp2_with fail
  refine (diff_any a b n _ _ _ (ha.never hw) (hb.never hw) hn m (hw.cellNever hm)).mono ?_
  rintro e w2 ⟨rp, rfl, hc2, hrp⟩
  have hw := hw.trans hc2
  clear hc2
  by_cases z1 : diffFault a b n = 0
  · obtain ⟨q1, q2, q3, q4⟩ := diffFault_zero z1
    have TA := tree_iff.2 q1
    have TB := tree_iff.2 q2
    have M1 := (diff_makes TA TB q3 q4).1
    have HG1 : Hid (Good a (onesOf (diffL n a b)) b) := ones_good M1
    have HG2 : Hid (splitPF (diffL n a b) = 0 → Good a (pieces (diffL n a b)) b) := fun h => split_good h M1
    have HED := Lib.hid (fun (c : Change) (hc : c ∈ diffL n a b) (h1 : c.what = 1) => edit_done TA TB q3 q4 hc h1)
    have HSH : Hid (∀ e ∈ pieces (diffL n a b), ∃ c, e = [c] ∧ c.hunks.length ≤ 1) := fun e he => pieces_shape he
    rw [diffR_ok z1] at hrp
    rw [z1, errV_zero]
    clear z1 q1 q2 q3 q4 TA TB M1
    generalize diffL n a b = p at hrp HG1 HG2 HED HSH
    obtain ⟨pa, pc, rfl, p1, p2, p3⟩ := rdv_slice hrp
    unfold maxLen at p2
    have ha2 := ha.never hw
    have hb2 := hb.never hw
    have hc0 := Chg.refl Never w2
    go_wp2_with fail
    go_loopw [14, 15] (fun v i wr => ∃ (k : Nat) (x : List File), k ≤ p.length ∧ i = .int .i64 k ∧ Chg Never w2 wr ∧ Rdv wr Never v x ∧ Hid (Good x ((onesOf p).drop k) b)) (fun _ i _ => p.length - (intOf i).toNat)
    case atStart => exact ⟨0, a, Nat.zero_le _, rfl, hc0, ha2, HG1.out⟩
    case round =>
      clear hc0 ha2 HG1
      rename World => wr
      obtain ⟨k, x, hk, rfl, hc, hx, hgd⟩ := hrel
      obtain ⟨xa, xc, rfl, _, _, _⟩ := rdv_slice hx
      by_cases hlt : k < p.length
      · obtain ⟨c, hcx⟩ : ∃ c, p[k]? = some c := ⟨p[k]'hlt, List.getElem?_eq_getElem hlt⟩
        obtain ⟨cb, co, hv, rfl, _, _, g0, g1, g2, _, hhv⟩ := elems_change p3 hcx
        obtain ⟨sb, hrunS, u0, u1, hsub⟩ := slice_gen (P := Tryz.prog) (t := 51) (by kernel_rfl) size_achange hrp k (k + 1) (by omega) (by omega)
        rw [one_part hcx] at hsub
        rw [show k + 1 - k = 1 by omega] at hrunS hsub
        have hrunS := fun (wx : World) => hrunS k ((k : Int) + 1) wx rfl (by push_cast; rfl)
        clear u0 u1
        have sN : IntKind.i64.wrap ((k : Int) + 1) = (k : Int) + 1 := IntWalk.i64_in _ (by omega)
        have klt : (k : Int) < (p.length : Int) := by omega
        obtain ⟨hva, hvc, rfl, _, _, _⟩ := rdv_slice hhv
        have C0 := Lib.hid g0
        have C1 := Lib.hid g1
        have C2 := Lib.hid g2
        have HHV := Lib.hid hhv
        have hgo := ones_drop hcx hgd.out
        have HCX := Lib.hid hcx
        clear hcx p3 hgd g0 g1 g2 hhv
        go_wp2_with fail
        refine (apply_any x [c] _ _ _ hx (hsub.never hc) m ((hw.trans hc).cellNever hm)).mono ?_
        rintro e5 w5 ⟨r5, rfl, hc5, hr5⟩
        have hc5' := hc.trans hc5
        clear hc5 hsub hrunS sN
        rcases hgo with h3 | ⟨h3, h4⟩
        · rw [h3]
          obtain ⟨ra5, rc5, rfl, _, _, _⟩ := rdv_slice hr5
          generalize (applyR x [c]).1.length = n5
          generalize (applyR x [c]).2.1 = j5
          go_wp2_with fail
          refine (error_any 3 3 _ ((hw.trans hc5').cellNever he)).mono ?_
          rintro e6 w6 ⟨rfl, hc6⟩
          rw [beq_self_eq_true]
          go_wp2_with fail
          go_ret
          exact ⟨rfl, (hw.trans hc5').trans hc6⟩
        · have H4 := Lib.hid h4
          rw [h3]
          obtain ⟨ra5, rc5, rfl, _, _, _⟩ := rdv_slice hr5
          generalize (applyR x [c]).2.1 = j5
          generalize (applyR x [c]).1 = x5 at hr5 H4
          clear h3 h4
          go_wp2_with fail
          refine (error_any 0 3 _ ((hw.trans hc5').cellNever he)).mono ?_
          rintro e6 w6 ⟨rfl, hc6⟩
          have e03 : ((0 : Int) == 3) = false := rfl
          rw [e03, errV_zero]
          have hc5' := hc5'.trans hc6
          have hr5 := hr5.never hc6
          clear hc6 e03
          have q0 := hc5'.cellNever C0.out
          have q1 := hc5'.cellNever C1.out
          have q2 := hc5'.cellNever C2.out
          by_cases hw1 : c.what = 1
          · obtain ⟨xo, xn, HE1, HE2, HE3, HE4, ho60, hn60, HE5⟩ := HED.out c (List.mem_of_getElem? HCX.out) hw1
            have HE1 := Lib.hid HE1
            have HE2 := Lib.hid HE2
            have HE3 := Lib.hid HE3
            have HE4 := Lib.hid HE4
            have HE5 := Lib.hid HE5
            have v1 : (c.what == 1) = true := beq_iff_eq.2 hw1
            have v2 : (c.what != 1) = false := by rw [bne, v1]; rfl
            clear hw1 HED
            go_wp2_with fail
            clear v1 v2
            have hcx := hw.trans hc5'
            refine (tree_get_any a c.path _ _ (ha.never hcx) m (hcx.cellNever hm)).mono ?_
            rintro e7 w7 ⟨r7, rfl, hc7, hr7⟩
            have hc7' := hc5'.trans hc7
            have hcx := hw.trans hc7'
            rw [HE1.out, errV_zero]
            rw [HE2.out] at hr7
            obtain ⟨xa7, xc7, rfl, _, _, _⟩ := rdv_slice hr7
            have hr5 := hr5.never hc7
            clear hc5' hc7 q0 q1 q2
            have q0 := hc7'.cellNever C0.out
            have q1 := hc7'.cellNever C1.out
            have q2 := hc7'.cellNever C2.out
            go_wp2_with fail
            refine (tree_get_any b c.path _ _ (hb.never hcx) m (hcx.cellNever hm)).mono ?_
            rintro e8 w8 ⟨r8, rfl, hc8, hr8⟩
            have hc8' := hc7'.trans hc8
            have hcx := hw.trans hc8'
            rw [HE3.out, errV_zero]
            rw [HE4.out] at hr8
            obtain ⟨xa8, xc8, rfl, _, _, _⟩ := rdv_slice hr8
            have hr5 := hr5.never hc8
            have hr7 := (hr7.sub (O' := Never) (fun _ _ q => q.elim)).never hc8
            clear hc7' hc8 q0 q1 q2
            have q0 := hc8'.cellNever C0.out
            have q1 := hc8'.cellNever C1.out
            have q2 := hc8'.cellNever C2.out
            go_wp2_with fail
            refine (loose_any xo c.hunks fuzz far _ _ _ hr7 (HHV.out.never hc8')).mono ?_
            rintro e9 w9 ⟨s1, s2, s3, rfl, hc9, hs1, hs2, hs3⟩
            have hc9' := hc8'.trans hc9
            have hr5 := hr5.never hc9
            have hr8 := (hr8.sub (O' := Never) (fun _ _ q => q.elim)).never hc9
            obtain ⟨s3a, s3c, rfl, _, _, _⟩ := rdv_slice hs3
            generalize (looseR xo c.hunks fuzz far).2.2.length = n3
            clear hs3 hr7 hc8' hc9 q0 q1 q2
            by_cases hlf : looseFault xo c.hunks fuzz far = 0
            · rw [hlf, errV_zero]
              have sN : IntKind.i64.wrap ((xo.length : Int) + (xn.length : Int)) = (xo.length : Int) + (xn.length : Int) := IntWalk.i64_in _ (by omega)
              by_cases hroom : 60 < xo.length + xn.length
              · have v1 : decide ((60 : Int) < (xo.length : Int) + (xn.length : Int)) = true := decide_eq_true (by omega)
                obtain ⟨s1a, s1c, rfl, _, _, _⟩ := rdv_slice hs1
                obtain ⟨s2a, s2c, rfl, _, _, _⟩ := rdv_slice hs2
                generalize (looseR xo c.hunks fuzz far).1.length = n1
                generalize (looseR xo c.hunks fuzz far).2.1.length = n2
                clear hs1 hs2 hlf hroom hr8
                go_wp2_with fail
                go_roundw
                case rel => exact ⟨k + 1, _, by omega, by go_num, hc9', hr5, H4.out⟩
                case measure => simp [intOf] <;> omega
              · have v1 : decide ((60 : Int) < (xo.length : Int) + (xn.length : Int)) = false := decide_eq_false (by omega)
                obtain ⟨g1, g2⟩ := HE5.out fuzz far hlf (by omega)
                rw [g1] at hs1
                rw [g2] at hs2
                obtain ⟨s1a, s1c, rfl, _, _, _⟩ := rdv_slice hs1
                obtain ⟨s2a, s2c, rfl, _, _, _⟩ := rdv_slice hs2
                have hs1 := hs1.sub (O' := Never) (fun _ _ q => q.elim)
                clear hs2 hlf hroom g1 g2
                go_wp2_with fail
                refine (texts_any xn xn _ _ _ hs1 hr8).mono ?_
                rintro eT wT ⟨rfl, hcT⟩
                have hcT' := hc9'.trans hcT
                have hr5 := hr5.never hcT
                rw [decide_eq_true rfl]
                clear hs1 hr8 hc9' hcT sN v1
                go_wp2_with fail
                go_roundw
                case rel => exact ⟨k + 1, _, by omega, by go_num, hcT', hr5, H4.out⟩
                case measure => simp [intOf] <;> omega
            · rw [errV_pos hlf]
              obtain ⟨s1a, s1c, rfl, _, _, _⟩ := rdv_slice hs1
              obtain ⟨s2a, s2c, rfl, _, _, _⟩ := rdv_slice hs2
              generalize (looseR xo c.hunks fuzz far).1.length = n1
              generalize (looseR xo c.hunks fuzz far).2.1.length = n2
              clear hs1 hs2 hlf hr8
              go_wp2_with fail
              go_roundw
              case rel => exact ⟨k + 1, _, by omega, by go_num, hc9', hr5, H4.out⟩
              case measure => simp [intOf] <;> omega
          · have v1 : (c.what == 1) = false := beq_eq_false_iff_ne.2 hw1
            have v2 : (c.what != 1) = true := by rw [bne, v1]; rfl
            clear hw1 HED q1 q2
            go_wp2_with fail
            go_roundw
            case rel => exact ⟨k + 1, _, by omega, by go_num, hc5', hr5, H4.out⟩
            case measure => simp [intOf] <;> omega
      · obtain rfl : k = p.length := by omega
        have hgx := hgd.out
        rw [List.drop_of_length_le (by unfold onesOf; rw [List.length_map]; exact Nat.le_refl _)] at hgx
        have HX : Hid (x = b) := hgx
        have hb3 := hb2.never hc
        have hrp3 := hrp.never hc
        clear hgx hgd p3 HED
        go_wp2_with fail
        refine (trees_any x b _ _ _ hx hb3).mono ?_
        rintro e7 w7 ⟨rfl, hc7⟩
        rw [decide_eq_true HX.out]
        have hw7 := (hw.trans hc).trans hc7
        have hrp7 := hrp3.never hc7
        clear hc7 hx hb3 hrp3 HX
        go_wp2_with fail
        refine (split_any p _ _ hrp7 m (hw7.cellNever hm)).mono ?_
        rintro e8 w8 ⟨rl, rfl, hc8, hrl⟩
        have hw8 := hw7.trans hc8
        clear hc8 hrp7
        by_cases zs : splitPF p = 0
        · have HG := Lib.hid (HG2.out zs)
          rw [splitPR_ok zs] at hrl
          rw [zs, errV_zero]
          clear zs HG2
          generalize pieces p = L at hrl HG HSH
          obtain ⟨la, lcap, rfl, l1, l2, l3⟩ := rdv_slice hrl
          unfold maxLen at l2
          have ha8 := ha.never hw8
          have hb8 := hb.never hw8
          have hc0 := Chg.refl Never w8
          go_wp2_with fail
          go_loopw [14, 31] (fun v i wr => ∃ (k : Nat) (x : List File), k ≤ L.length ∧ i = .int .i64 k ∧ Chg Never w8 wr ∧ Rdv wr Never v x ∧ Hid (Good x (L.drop k) b)) (fun _ i _ => L.length - (intOf i).toNat)
          case atStart => exact ⟨0, a, Nat.zero_le _, rfl, hc0, ha8, HG.out⟩
          case round =>
            clear hc0 ha8 HG
            rename World => wr
            obtain ⟨k, x, hk, rfl, hc, hx, hgd⟩ := hrel
            obtain ⟨xa, xc, rfl, _, _, _⟩ := rdv_slice hx
            by_cases hlt : k < L.length
            · obtain ⟨e, he'⟩ : ∃ e, L[k]? = some e := ⟨L[k]'hlt, List.getElem?_eq_getElem hlt⟩
              obtain ⟨lb, lo, ev, hla, _, _, g0, hev⟩ := elems_lists l3 he'
              subst hla
              obtain ⟨ea, ec, rfl, _, _, _⟩ := rdv_slice hev
              have g0 := hc.cellNever g0
              have HD := Lib.hid (drop_eq he')
              have hgo := good_drop HD.out hgd.out
              clear he' l3 hgd
              go_wp2_with fail
              refine (apply_any x e _ _ _ hx (hev.never hc) m ((hw8.trans hc).cellNever hm)).mono ?_
              rintro e5 w5 ⟨r5, rfl, hc5, hr5⟩
              have hc5' := hc.trans hc5
              clear g0 hc5 hev
              obtain ⟨ra5, rc5, rfl, _, _, _⟩ := rdv_slice hr5
              generalize (applyR x e).2.1 = j5
              rcases hgo with h3 | ⟨h3, h4⟩
              · rw [h3]
                generalize (applyR x e).1.length = n5
                go_wp2_with fail
                refine (error_any 3 3 _ ((hw8.trans hc5').cellNever he)).mono ?_
                rintro e6 w6 ⟨rfl, hc6⟩
                rw [beq_self_eq_true]
                go_wp2_with fail
                go_ret
                exact ⟨rfl, (hw8.trans hc5').trans hc6⟩
              · have H4 := Lib.hid h4
                rw [h3]
                generalize (applyR x e).1 = x5 at hr5 H4
                clear h3 h4
                go_wp2_with fail
                refine (error_any 0 3 _ ((hw8.trans hc5').cellNever he)).mono ?_
                rintro e6 w6 ⟨rfl, hc6⟩
                have e03 : ((0 : Int) == 3) = false := rfl
                rw [e03, errV_zero]
                have hc6' := hc5'.trans hc6
                have hr5 := hr5.never hc6
                clear hc6 e03
                go_wp2_with fail
                go_roundw
                case rel => exact ⟨k + 1, _, by omega, by go_num, hc6', hr5, H4.out⟩
                case measure => simp [intOf] <;> omega
            · obtain rfl : k = L.length := by omega
              have hgx := hgd.out
              rw [List.drop_length] at hgx
              have HX : Hid (x = b) := hgx
              have hb9 := hb8.never hc
              clear hgx hgd l3
              go_wp2_with fail
              refine (trees_any x b _ _ _ hx hb9).mono ?_
              rintro e7 w7 ⟨rfl, hc7⟩
              rw [decide_eq_true HX.out]
              go_wp2_with fail
              go_ret
              exact ⟨rfl, (hw8.trans hc).trans hc7⟩
        · rw [errV_pos zs]
          obtain ⟨la, lcap, rfl, _, _, _⟩ := rdv_slice hrl
          generalize (splitPR p).length = nl
          clear zs hrl
          go_wp2_with fail
          go_ret
          exact ⟨rfl, hw8⟩
  · rw [errV_pos z1]
    obtain ⟨pa, pc, rfl, _, _, _⟩ := rdv_slice hrp
    generalize (diffR a b n).length = np
    clear z1 hrp
    go_wp2_with fail
    go_ret
    exact ⟨rfl, hw⟩
end Go.Proofs.YtjiaidchcldocaaGreatDoor
