/-
  THE WALK of apply.Loose.
-/
import Derived.Test.YtlflhehlbnbhgaaDoorTry
import Derived.Test.YtlflhehlbnbhgaaDoorOwn2
import Derived.Test.YtlflhehlbnbhgaaDoorSpecBack
namespace Go.Proofs.YtlflhehlbnbhgaaDoor
open Go.RowKit

def LO (le wh : Value) (w0 : World) : Nat → Prop := fun j => le.ownBlock = some j ∨ wh.ownBlock = some j ∨ j < w0.heap.size
def OL (W : Nat) (w0 : World) (v : Value) : Nat → Prop := fun j => j < w0.heap.size ∨ j = W ∨ v.ownBlock = some j
structure LSt (w0 : World) (W : Nat) (wr : World) (le wh lv : Value) (st : Loose) (L : List Hunk) (P : List Int) : Prop where
  hc : Chg Never w0 wr
  hW : w0.heap.size ≤ W
  blk : Blk3 wr W tLoose lv (.int .i64 st.fin) (.int .i64 st.more)
  lines : Rdv wr (fun j => j = W ∨ LO le wh w0 j) lv st.lines
  left : Own 80 wr (OL W w0 wh) le L
  plc : Own 3 wr (OL W w0 le) wh P

theorem LSt.lo_lt {w0 wr : World} {W : Nat} {le wh lv : Value} {st : Loose} {L : List Hunk} {P : List Int} (h : LSt w0 W wr le wh lv st L P) : ∀ j, LO le wh w0 j → j < wr.heap.size := by
  rintro j (hj | hj | hj)
  · exact own_block_lt h.left j hj
  · exact own_block_lt h.plc j hj
  · exact Nat.lt_of_lt_of_le hj h.hc.size
theorem LSt.never {w0 wr w' : World} {W : Nat} {le wh lv : Value} {st : Loose} {L : List Hunk} {P : List Int} (h : LSt w0 W wr le wh lv st L P) (hc : Chg Never wr w') : LSt w0 W w' le wh lv st L P :=
  ⟨h.hc.trans hc, h.hW, h.blk.keep hc (fun x => x), h.lines.never hc, h.left.never hc, h.plc.never hc⟩
theorem LSt.tried {w0 wr w' : World} {W : Nat} {le wh lv lv' : Value} {st st' : Loose} {L : List Hunk} {P : List Int} (h : LSt w0 W wr le wh lv st L P) (hc : Chg (fun k => k = W) wr w')
    (hB : Blk3 w' W tLoose lv' (.int .i64 st'.fin) (.int .i64 st'.more)) (hl : Rdv w' (fun j => j = W ∨ LO le wh w0 j) lv' st'.lines) : LSt w0 W w' le wh lv' st' L P := by
  refine ⟨h.hc.trans' hc ?_, h.hW, hB, hl, h.left.keep hc (fun k _ hk => .inr (.inl hk)) (fun _ _ h => h), h.plc.keep hc (fun k _ hk => .inr (.inl hk)) (fun _ _ h => h)⟩
  intro i hi hk
  have := h.hW
  omega
theorem LSt.pushL {w0 wr w' : World} {W : Nat} {le wh lv le' : Value} {st : Loose} {L L' : List Hunk} {P : List Int} (h : LSt w0 W wr le wh lv st L P) (hown : Own 80 w' (OL W w0 wh) le' L') (hc : Chg (OwnB le) wr w')
    (hk : ∃ k, le'.ownBlock = some k ∧ (le.ownBlock = some k ∨ wr.heap.size ≤ k)) : LSt w0 W w' le' wh lv st L' P := by
  obtain ⟨kb, hkb, hkb2⟩ := hk
  have hsub : ∀ k, k < wr.heap.size → le'.ownBlock = some k → le.ownBlock = some k := by
    intro k hlt hk
    rw [hkb] at hk
    injection hk with hk
    subst hk
    rcases hkb2 with h | h
    · exact h
    · omega
  have ho := own_out h.left
  refine ⟨h.hc.trans' hc ?_, h.hW, h.blk.keep hc ?_, h.lines.keep hc ?_ ?_, hown, h.plc.keep hc ?_ ?_⟩
  · intro i hi hk
    exact absurd (.inl hi) (ho i hk)
  · intro hk
    exact absurd (.inr (.inl rfl)) (ho W hk)
  · intro k _ hk
    exact .inr (.inl hk)
  · rintro k hlt (hk | hk | hk | hk)
    · exact .inl hk
    · exact .inr (.inl (hsub k hlt hk))
    · exact .inr (.inr (.inl hk))
    · exact .inr (.inr (.inr hk))
  · intro k _ hk
    exact .inr (.inr hk)
  · rintro k hlt (hk | hk | hk)
    · exact .inl hk
    · exact .inr (.inl hk)
    · exact .inr (.inr (hsub k hlt hk))
theorem LSt.pushP {w0 wr w' : World} {W : Nat} {le wh lv wh' : Value} {st : Loose} {L : List Hunk} {P P' : List Int} (h : LSt w0 W wr le wh lv st L P) (hown : Own 3 w' (OL W w0 le) wh' P') (hc : Chg (OwnB wh) wr w')
    (hk : ∃ k, wh'.ownBlock = some k ∧ (wh.ownBlock = some k ∨ wr.heap.size ≤ k)) : LSt w0 W w' le wh' lv st L P' := by
  obtain ⟨kb, hkb, hkb2⟩ := hk
  have hsub : ∀ k, k < wr.heap.size → wh'.ownBlock = some k → wh.ownBlock = some k := by
    intro k hlt hk
    rw [hkb] at hk
    injection hk with hk
    subst hk
    rcases hkb2 with h | h
    · exact h
    · omega
  have ho := own_out h.plc
  refine ⟨h.hc.trans' hc ?_, h.hW, h.blk.keep hc ?_, h.lines.keep hc ?_ ?_, h.left.keep hc ?_ ?_, hown⟩
  · intro i hi hk
    exact absurd (.inl hi) (ho i hk)
  · intro hk
    exact absurd (.inr (.inl rfl)) (ho W hk)
  · intro k _ hk
    exact .inr (.inr (.inl hk))
  · rintro k hlt (hk | hk | hk | hk)
    · exact .inl hk
    · exact .inr (.inl hk)
    · exact .inr (.inr (.inl (hsub k hlt hk)))
    · exact .inr (.inr (.inr hk))
  · intro k _ hk
    exact .inr (.inr hk)
  · rintro k hlt (hk | hk | hk)
    · exact .inl hk
    · exact .inr (.inl hk)
    · exact .inr (.inr (hsub k hlt hk))

theorem elemOk_int : ElemOk Tryd.prog 60 3 1 := elemOk_of Tryd.underlying60 (z := .int .i64 0) (b := 8) (by kernel_rfl) rfl (by decide)

/-- bounds of a state -/
def StB (st : Loose) (k : Nat) : Prop := st.lines.length ≤ 60 ∧ 0 ≤ st.fin ∧ st.fin ≤ 60 ∧ -(120 * (k : Int)) ≤ st.more ∧ st.more ≤ 120 * (k : Int)
theorem tryOf_bounds {st : Loose} {h : Hunk} {fuzz far k : Nat} (hb : StB st k) (hs : scriptFault h.marks = 0) : StB (tryOf st h fuzz far).1 (k + 1) := by
  obtain ⟨b1, b2, b3, b4, b5⟩ := hb
  unfold tryOf
  split
  · rename_i f o hf
    obtain ⟨_, _, hr, hfo⟩ := tryFrom_some _ _ hf
    obtain ⟨_, _, hok⟩ := findOff_le hfo
    unfold okAt at hok
    rw [Bool.and_eq_true, decide_eq_true_eq] at hok
    obtain ⟨s1, s2, _⟩ := stands_split hok.2
    unfold roomB at hr
    rw [decide_eq_true_eq] at hr
    have e2 : oldN (trimmedOf f h.marks) = (oldOf (trimmedOf f h.marks)).length := rfl
    have e3 : newN (trimmedOf f h.marks) = (newOf (trimmedOf f h.marks)).length := rfl
    have l1 : oldN (trimmedOf f h.marks) ≤ 120 := Nat.le_trans (oldN_le _) (scriptFault_len (trimmed_fault hs f))
    have l2 : newN (trimmedOf f h.marks) ≤ 120 := Nat.le_trans (newN_le _) (scriptFault_len (trimmed_fault hs f))
    unfold StB doneAt
    simp only [List.length_append, List.length_take, List.length_drop]
    refine ⟨?_, ?_, ?_, ?_, ?_⟩ <;> omega
  · exact ⟨b1, b2, b3, by push_cast; omega, by push_cast; omega⟩
theorem looseGo_nil (fuzz far : Nat) (st : Loose) : looseGo fuzz far st [] = (st, [], []) := rfl
theorem looseGo_step (fuzz far : Nat) (st : Loose) (h : Hunk) (r : List Hunk) : looseGo fuzz far st (h :: r) =
    ((looseGo fuzz far (tryOf st h fuzz far).1 r).1, (if (tryOf st h fuzz far).2 = none then h :: (looseGo fuzz far (tryOf st h fuzz far).1 r).2.1 else (looseGo fuzz far (tryOf st h fuzz far).1 r).2.1), (tryOf st h fuzz far).2.getD (-1000) :: (looseGo fuzz far (tryOf st h fuzz far).1 r).2.2) := rfl
/-- what has come so far, and what is to come -/
def LRest (fuzz far : Nat) (st : Loose) (L : List Hunk) (P : List Int) (r : List Hunk) : Loose × List Hunk × List Int :=
  ((looseGo fuzz far st r).1, L ++ (looseGo fuzz far st r).2.1, P ++ (looseGo fuzz far st r).2.2)
theorem LRest_none {fuzz far : Nat} {st : Loose} {h : Hunk} {L : List Hunk} {P : List Int} {r : List Hunk} (e : (tryOf st h fuzz far).2 = none) :
    LRest fuzz far st L P (h :: r) = LRest fuzz far (tryOf st h fuzz far).1 (L ++ [h]) (P ++ [-1000]) r := by
  unfold LRest
  rw [looseGo_step, e]
  simp
theorem LRest_some {fuzz far : Nat} {st : Loose} {h : Hunk} {L : List Hunk} {P : List Int} {r : List Hunk} {o : Int} (e : (tryOf st h fuzz far).2 = some o) :
    LRest fuzz far st L P (h :: r) = LRest fuzz far (tryOf st h fuzz far).1 L (P ++ [o]) r := by
  unfold LRest
  rw [looseGo_step, e]
  simp

theorem looseFault_range {a : List ByteArray} {l : List Hunk} {fuzz far : Int} (h1 : linesFault a = 0) (h2 : (hunksFault l).2 = 0) : looseFault a l fuzz far = if fuzz < 0 ∨ 3 < fuzz ∨ far < 0 ∨ 60 < far then 1 else 0 := by
  unfold looseFault
  rw [if_neg (by simp [h1]), if_neg (by simp [h2])]
theorem results_tmp4 {fn : Func} {t u v x : Tmp} (h : fn.results = #[.tmp t, .tmp u, .tmp v, .tmp x]) (tmps : Array Value) (P : Program) (w : World) :
    (results fn tmps).run P w = .ok (.tuple #[tmps.getD t undef, tmps.getD u undef, tmps.getD v undef, tmps.getD x undef]) w := by
  simp [results, h]
theorem LSt.olP_lt {w0 wr : World} {W : Nat} {le wh lv : Value} {st : Loose} {L : List Hunk} {P : List Int} (h : LSt w0 W wr le wh lv st L P) : ∀ j, OL W w0 le j → j < wr.heap.size := by
  rintro j (hj | hj | hj)
  · exact Nat.lt_of_lt_of_le hj h.hc.size
  · subst hj; exact h.blk.lt
  · exact own_block_lt h.left j hj
theorem LSt.olL_lt {w0 wr : World} {W : Nat} {le wh lv : Value} {st : Loose} {L : List Hunk} {P : List Int} (h : LSt w0 W wr le wh lv st L P) : ∀ j, OL W w0 wh j → j < wr.heap.size := by
  rintro j (hj | hj | hj)
  · exact Nat.lt_of_lt_of_le hj h.hc.size
  · subst hj; exact h.blk.lt
  · exact own_block_lt h.plc j hj

set_option maxHeartbeats 2000000 in
set_option maxRecDepth 100000 in
theorem loose_ok (a : List ByteArray) (l : List Hunk) (fuzz far : Int) (va vl : Value) (w : World) (ha : Rdv w Never va a) (hl : Rdv w Never vl l) (h1 : linesFault a = 0) (h2 : hunksFault l = (0, 0)) (z0 : 0 ≤ fuzz) (z1 : fuzz ≤ 3) (z2 : 0 ≤ far) (z3 : far ≤ 60) :
    Calls Tryd.prog 32 #[va, vl, .int .i64 fuzz, .int .i64 far] w
      fun e w' => ∃ r1 r2 r3, e = .returned (.tuple #[r1, r2, r3, errV (looseFault a l fuzz far)]) ∧ Chg Never w w' ∧ Rdv w' (Old w.heap.size) r1 (looseR a l fuzz far).1 ∧ Rdv w' (Old w.heap.size) r2 (looseR a l fuzz far).2.1 ∧ Rdv w' (Old w.heap.size) r3 (looseR a l fuzz far).2.2 := by
  obtain ⟨fz, rfl⟩ := Int.eq_ofNat_of_zero_le z0
  obtain ⟨fr, rfl⟩ := Int.eq_ofNat_of_zero_le z2
  have hf0 : looseFault a l fz fr = 0 := by rw [looseFault_range h1 (by rw [h2]), if_neg (by omega)]
  have HE := Lib.hid hf0
  have HR : Hid (looseR a l fz fr = looseOf a l fz fr) := if_pos hf0
  have hla := linesFault_len h1
  obtain ⟨hl60, hok⟩ := hunksFault_zero (l := l) (by rw [h2])
  have hmem := hOk_mem _ _ _ hok
  have HOK := Lib.hid hok
  have H1 := Lib.hid h1
  have H2 := Lib.hid h2
  obtain ⟨ll, lcap, rfl, l1, l2, l3⟩ := rdv_slice hl
  unfold maxLen at l2
  clear h1 h2 hok hf0
  go_enter Tryd.func32, Tryd.ntmps32
  go_wp2_with fail
  refine (check_any a _ _ ha).mono ?_
  rintro e w1 ⟨rfl, rfl⟩
  rw [H1.out, errV_zero]
  go_wp2_with fail
  refine (hunk_check_any l _ _ hl).mono ?_
  rintro e w1 ⟨rfl, hc1⟩
  rw [H2.out, errV_zero]
  go_wp2_with fail
  refine (clone_str Never a _ _ (ha.never hc1) (by omega)).mono ?_
  rintro e w2 ⟨r2, rfl, hc2, hown2⟩
  obtain ⟨ra, rn, rc, rfl⟩ := own_isSlice hown2
  have hc := hc1.trans hc2
  have hA : Chg Never w2 (w2.alloc (.cells #[.slice ra rn rc, .int .i64 0, .int .i64 0] tLoose)) := (Chg.refl Never w2).alloc _
  have hst0 : LSt w w2.heap.size (w2.alloc (.cells #[.slice ra rn rc, .int .i64 0, .int .i64 0] tLoose)) (.slice none 0 0) (.slice none 0 0) (.slice ra rn rc) ⟨a, 0, 0⟩ [] [] := by
    refine ⟨hc.trans hA, hc.size, Blk3.new w2 tLoose _ _ _, ?_, own_nil _ _ _, own_nil _ _ _⟩
    refine (hown2.rdv.sub (O' := fun j => j = w2.heap.size ∨ LO (.slice none 0 0) (.slice none 0 0) w j) ?_).never hA
    rintro k hlt (hk | hk | hk | hk)
    · omega
    · cases hk
    · cases hk
    · have := hc1.size
      unfold Old
      omega
  have hW2 : w2.heap.size ≤ w2.heap.size := Nat.le_refl _
  clear hown2 hc hc1 hc2 hA
  go_wp2_with fail
  generalize w2.alloc (.cells #[.slice ra rn rc, .int .i64 0, .int .i64 0] 96) = w3 at hst0 ⊢
  go_loopw [9, 10, 54] (fun le wh i wr => ∃ (k : Nat) (st : Loose) (lv : Value) (L : List Hunk) (P : List Int), k ≤ l.length ∧ i = .int .i64 k ∧ LSt w w2.heap.size wr le wh lv st L P ∧ StB st k ∧ L.length ≤ k ∧ Hid (P.length = k) ∧
      Hid (LRest fz fr st L P (l.drop k) = looseGo fz fr ⟨a, 0, 0⟩ l)) (fun _ _ i _ => l.length - (intOf i).toNat)
  case atStart => exact ⟨0, ⟨a, 0, 0⟩, _, [], [], Nat.zero_le _, rfl, hst0, ⟨hla, Int.le_refl _, by show (0 : Int) ≤ 60; omega, by show -(120 * ((0 : Nat) : Int)) ≤ 0; omega, by show (0 : Int) ≤ 120 * ((0 : Nat) : Int); omega⟩, Nat.zero_le _, rfl, rfl⟩
  case round =>
    clear hst0 hW2
    obtain ⟨k, st, lv, L, P, hk, rfl, hst, hb, hL, hP, hR⟩ := hrel
    by_cases hlt : k < l.length
    · obtain ⟨x, hx⟩ : ∃ x, l[k]? = some x := ⟨l[k], by simp [hlt]⟩
      obtain ⟨b, off, mv, rfl, _, _, c0, c1, c2, hmv⟩ := elems_hunk l3 hx
      have hsf := hmem x (List.mem_of_getElem? hx)
      obtain ⟨o0, o1⟩ := hOk_old _ _ _ HOK.out x (List.mem_of_getElem? hx)
      have hd := drop_eq hx
      have hR1 := hR.out
      rw [hd] at hR1
      have HR1 := Lib.hid hR1
      have c0 := hst.hc.cellNever c0
      have c1 := hst.hc.cellNever c1
      have c2 := hst.hc.cellNever c2
      have hmvO := (hmv.sub (O' := From w.heap.size) (fun j hj h => absurd h (by unfold From; omega))).never hst.hc
      have hWge := hst.hW
      have hmv := hmv.never hst.hc
      obtain ⟨ma, mcap, rfl, _, _, _⟩ := rdv_slice hmv
      have hA : Chg Never wr (wr.alloc (.cells #[.int .i64 x.old, .int .i64 x.new, .slice ma x.marks.length mcap] 80)) := (Chg.refl Never wr).alloc _
      have hstA := hst.never hA
      have hWlt := hst.blk.lt
      have HSF := Lib.hid hsf
      obtain ⟨s1, s2, s3, s4, s5⟩ := id hb
      have hml := scriptFault_len hsf
      have hbox := Blk3.new wr 80 (.int .i64 x.old) (.int .i64 x.new) (.slice ma x.marks.length mcap)
      have hmvA := hmv.never hA
      clear hx hd hR1 hR l3 hl hsf hst
      go_wp2_with fail
      refine (try_any (fun j => LO _ _ w j) st x fz fr w2.heap.size lv _ _ hstA.blk hstA.lines hstA.lo_lt hmvA (by omega) (by omega) s1 s2 s3 (by omega) (by omega) o0 o1 HSF.out).mono ?_
      rintro e w4 ⟨lv', rfl, hc4, hB4, hl4⟩
      have hst4 := hstA.tried hc4 hB4 hl4
      obtain ⟨x0, x1, x2⟩ := (hbox.keep hc4 (by omega)).cell
      have hmv4 := hmvA
      have hmvK := (hmvO.never hA).keep (O'' := Never) hc4 (fun j _ hj => by subst hj; exact hWge) (fun _ _ h => h.elim)
      clear hmvO hA
      clear hB4 hl4 hbox
      cases hq : (tryOf st x fz fr).2 with
      | some o =>
        have ho := tryOf_off hq
        simp only [Option.getD_some, Option.isSome_some]
        have HQ := Lib.hid hq
        have hPl : P.length ≤ 1000000000 := by rw [hP.out]; omega
        clear hq hc4 hmv4 hmvA hstA x0 x1 x2
        go_wp2_with (at_builtin; refine wpList_push (by rfl) _ _ 60 (by rfl) elemOk_int (l := P) (y := o) (by rfl) (by rfl) (by rfl) hst4.plc ⟨rfl, by unfold I64; omega⟩ hst4.olP_lt hPl ?_; intro v' w5 hown5 hc5 hk5)
        have hst5 := hst4.pushP hown5 hc5 hk5
        clear hown5 hc5 hk5 hst4
        go_roundw
        case rel => exact ⟨k + 1, _, lv', L, P ++ [o], by omega, by go_num, hst5, tryOf_bounds hb HSF.out, by omega, by rw [Hid, List.length_append, hP.out]; rfl, by rw [Hid, ← LRest_some HQ.out]; exact HR1.out⟩
        case measure => simp [intOf] <;> omega
      | none =>
        simp only [Option.getD_none, Option.isSome_none]
        have HQ := Lib.hid hq
        have hPl : P.length ≤ 1000000000 := by rw [hP.out]; omega
        have hLl : L.length ≤ 1000000000 := by omega
        clear hq hmv4 hmvA hstA
        go_wp2_with fail
        refine (copy_any x _ _ hmvK (by omega)).mono ?_
        rintro e w6 ⟨r6, rfl, hc6, hr6⟩
        obtain ⟨ca, ccap, rfl, _, _, _⟩ := rdv_slice hr6
        have hst6 := hst4.never hc6
        have hy : Dat.rd w6 (fun j => OL w2.heap.size w _ j ∨ (Value.ownBlock _) = some j) [.int .i64 x.old, .int .i64 x.new, .slice ca x.marks.length ccap] x := ⟨_, rfl, hr6.sub (fun j _ hj => by
          rcases hj with hj | hj
          · exact hst4.olL_lt j hj
          · exact own_block_lt hst4.left j hj)⟩
        clear hr6 hc6 hmvK hst4 hc4 x0 x1 x2
        go_wp2_with (first | (at_builtin; refine wpList_push (by rfl) _ _ 43 (by rfl) elemOk_hunk (l := L) (y := x) (by rfl) (by rfl) (by rfl) hst6.left hy hst6.olL_lt hLl ?_; intro v' w7 hown7 hc7 hk7; have hst7 := hst6.pushL hown7 hc7 hk7; clear hown7 hc7 hk7 hst6 hy) | (at_builtin; refine wpList_push (by rfl) _ _ 60 (by rfl) elemOk_int (l := P) (y := (-1000 : Int)) (by rfl) (by rfl) (by rfl) hst7.plc ⟨rfl, by unfold I64; omega⟩ hst7.olP_lt hPl ?_; intro v'' w5 hown5 hc5 hk5; have hst5 := hst7.pushP hown5 hc5 hk5; clear hown5 hc5 hk5 hst7))
        go_roundw
        case rel => exact ⟨k + 1, _, lv', L ++ [x], P ++ [-1000], by omega, by go_num, hst5, tryOf_bounds hb HSF.out, by simp; omega, by rw [Hid, List.length_append, hP.out]; rfl, by rw [Hid, ← LRest_none HQ.out]; exact HR1.out⟩
        case measure => simp [intOf] <;> omega
    · have hk' : k = l.length := by omega
      subst hk'
      have hR1 := hR.out
      rw [List.drop_length] at hR1
      unfold LRest at hR1
      rw [looseGo_nil] at hR1
      simp only [List.append_nil] at hR1
      obtain ⟨g0, g1, g2⟩ := hst.blk.cell
      have g3 := hst.blk.free
      have HZ := Lib.hid hR1
      have hcF := hst.hc
      have r1 := hst.lines.sub (O' := Old w.heap.size) (fun j _ hj => .inr (.inr (.inr hj)))
      have r2 := hst.left.rdv.sub (O' := Old w.heap.size) (fun j _ hj => .inl hj)
      have r3 := hst.plc.rdv.sub (O' := Old w.heap.size) (fun j _ hj => .inl hj)
      clear hR hR1 hst
      go_wp2_with fail
      have eX : st.lines = (looseR a l fz fr).1 := by rw [HR.out]; unfold looseOf; rw [Int.toNat_natCast, Int.toNat_natCast, ← HZ.out]
      have eL : L = (looseR a l fz fr).2.1 := by rw [HR.out]; unfold looseOf; rw [Int.toNat_natCast, Int.toNat_natCast, ← HZ.out]
      have eP : P = (looseR a l fz fr).2.2 := by rw [HR.out]; unfold looseOf; rw [Int.toNat_natCast, Int.toNat_natCast, ← HZ.out]
      rw [eX] at r1
      rw [eL] at r2
      rw [eP] at r3
      refine bodyPost_ret (v := .tuple #[lv, _, _, .nilIface]) (by rw [results_tmp4 Tryd.results32]; rfl) rfl ?_
      exact ⟨_, _, _, by rw [HE.out]; rfl, hcF, r1, r2, r3⟩

set_option maxHeartbeats 1600000 in
set_option maxRecDepth 100000 in
theorem loose_any (a : List ByteArray) (l : List Hunk) (fuzz far : Int) (va vl : Value) (w : World) (ha : Rdv w Never va a) (hl : Rdv w Never vl l) :
    Calls Tryd.prog 32 #[va, vl, .int .i64 fuzz, .int .i64 far] w
      fun e w' => ∃ r1 r2 r3, e = .returned (.tuple #[r1, r2, r3, errV (looseFault a l fuzz far)]) ∧ Chg Never w w' ∧ Rdv w' (Old w.heap.size) r1 (looseR a l fuzz far).1 ∧ Rdv w' (Old w.heap.size) r2 (looseR a l fuzz far).2.1 ∧ Rdv w' (Old w.heap.size) r3 (looseR a l fuzz far).2.2 := by
  by_cases h1 : linesFault a = 0
  · by_cases h2 : (hunksFault l).2 = 0
    · have h2' := hunksFault_first h2
      by_cases q : 0 ≤ fuzz ∧ fuzz ≤ 3 ∧ 0 ≤ far ∧ far ≤ 60
      · exact loose_ok a l fuzz far va vl w ha hl h1 h2' q.1 q.2.1 q.2.2.1 q.2.2.2
      · have hf : looseFault a l fuzz far = 1 := by rw [looseFault_range h1 h2, if_pos (by omega)]
        have HE := Lib.hid hf
        have HR : Hid (looseR a l fuzz far = ([], [], [])) := if_neg (by rw [hf]; decide)
        have H1 := Lib.hid h1
        have H2 := Lib.hid h2'
        have HQ := Lib.hid q
        clear hf h1 h2 h2' q
        by_cases q1 : fuzz < 0
        · go_enter Tryd.func32, Tryd.ntmps32
          go_wp2_with fail
          refine (check_any a _ _ ha).mono ?_
          rintro e w1 ⟨rfl, rfl⟩
          rw [H1.out, errV_zero]
          go_wp2_with fail
          refine (hunk_check_any l _ _ hl).mono ?_
          rintro e w1 ⟨rfl, hc1⟩
          rw [H2.out, errV_zero]
          go_wp2_with fail
          exact bodyPost_ret (v := .tuple #[.slice none 0 0, .slice none 0 0, .slice none 0 0, .iface 24 (.int .i64 1)]) (by simp [results, Tryd.results32, go_sem]) rfl ⟨_, _, _, by rw [HE.out]; rfl, hc1, by rw [HR.out]; exact rdv_nil _ _, by rw [HR.out]; exact rdv_nil _ _, by rw [HR.out]; exact rdv_nil _ _⟩
        · by_cases q2 : 3 < fuzz
          · go_enter Tryd.func32, Tryd.ntmps32
            go_wp2_with fail
            refine (check_any a _ _ ha).mono ?_
            rintro e w1 ⟨rfl, rfl⟩
            rw [H1.out, errV_zero]
            go_wp2_with fail
            refine (hunk_check_any l _ _ hl).mono ?_
            rintro e w1 ⟨rfl, hc1⟩
            rw [H2.out, errV_zero]
            go_wp2_with fail
            exact bodyPost_ret (v := .tuple #[.slice none 0 0, .slice none 0 0, .slice none 0 0, .iface 24 (.int .i64 1)]) (by simp [results, Tryd.results32, go_sem]) rfl ⟨_, _, _, by rw [HE.out]; rfl, hc1, by rw [HR.out]; exact rdv_nil _ _, by rw [HR.out]; exact rdv_nil _ _, by rw [HR.out]; exact rdv_nil _ _⟩
          · by_cases q3 : far < 0
            · go_enter Tryd.func32, Tryd.ntmps32
              go_wp2_with fail
              refine (check_any a _ _ ha).mono ?_
              rintro e w1 ⟨rfl, rfl⟩
              rw [H1.out, errV_zero]
              go_wp2_with fail
              refine (hunk_check_any l _ _ hl).mono ?_
              rintro e w1 ⟨rfl, hc1⟩
              rw [H2.out, errV_zero]
              go_wp2_with fail
              exact bodyPost_ret (v := .tuple #[.slice none 0 0, .slice none 0 0, .slice none 0 0, .iface 24 (.int .i64 1)]) (by simp [results, Tryd.results32, go_sem]) rfl ⟨_, _, _, by rw [HE.out]; rfl, hc1, by rw [HR.out]; exact rdv_nil _ _, by rw [HR.out]; exact rdv_nil _ _, by rw [HR.out]; exact rdv_nil _ _⟩
            · have q4 : 60 < far := by have := HQ.out; omega
              go_enter Tryd.func32, Tryd.ntmps32
              go_wp2_with fail
              refine (check_any a _ _ ha).mono ?_
              rintro e w1 ⟨rfl, rfl⟩
              rw [H1.out, errV_zero]
              go_wp2_with fail
              refine (hunk_check_any l _ _ hl).mono ?_
              rintro e w1 ⟨rfl, hc1⟩
              rw [H2.out, errV_zero]
              go_wp2_with fail
              exact bodyPost_ret (v := .tuple #[.slice none 0 0, .slice none 0 0, .slice none 0 0, .iface 24 (.int .i64 1)]) (by simp [results, Tryd.results32, go_sem]) rfl ⟨_, _, _, by rw [HE.out]; rfl, hc1, by rw [HR.out]; exact rdv_nil _ _, by rw [HR.out]; exact rdv_nil _ _, by rw [HR.out]; exact rdv_nil _ _⟩
    · have HE : Hid (looseFault a l fuzz far = (hunksFault l).2) := by unfold Hid looseFault; rw [if_neg (by simp [h1]), if_pos h2]
      have HR : Hid (looseR a l fuzz far = ([], [], [])) := if_neg (by rw [HE.out]; exact h2)
      have H1 := Lib.hid h1
      have H2 := Lib.hid h2
      clear h1 h2
      go_enter Tryd.func32, Tryd.ntmps32
      go_wp2_with fail
      refine (check_any a _ _ ha).mono ?_
      rintro e w1 ⟨rfl, rfl⟩
      rw [H1.out, errV_zero]
      go_wp2_with fail
      refine (hunk_check_any l _ _ hl).mono ?_
      rintro e w1 ⟨rfl, hc1⟩
      rw [errV_pos H2.out]
      go_wp2_with fail
      exact bodyPost_ret (v := .tuple #[.slice none 0 0, .slice none 0 0, .slice none 0 0, .iface 24 (.int .i64 (hunksFault l).2)]) (by simp [results, Tryd.results32, go_sem]) rfl ⟨_, _, _, by rw [HE.out, errV_pos H2.out], hc1, by rw [HR.out]; exact rdv_nil _ _, by rw [HR.out]; exact rdv_nil _ _, by rw [HR.out]; exact rdv_nil _ _⟩
  · have HE : Hid (looseFault a l fuzz far = linesFault a) := if_pos h1
    have HR : Hid (looseR a l fuzz far = ([], [], [])) := if_neg (by rw [HE.out]; exact h1)
    have H1 := Lib.hid h1
    clear h1
    go_enter Tryd.func32, Tryd.ntmps32
    go_wp2_with fail
    refine (check_any a _ _ ha).mono ?_
    rintro e w1 ⟨rfl, rfl⟩
    rw [errV_pos H1.out]
    go_wp2_with fail
    exact bodyPost_ret (v := .tuple #[.slice none 0 0, .slice none 0 0, .slice none 0 0, .iface 24 (.int .i64 (linesFault a))]) (by simp [results, Tryd.results32, go_sem]) rfl ⟨_, _, _, by rw [HE.out, errV_pos H1.out], Chg.refl _ _, by rw [HR.out]; exact rdv_nil _ _, by rw [HR.out]; exact rdv_nil _ _, by rw [HR.out]; exact rdv_nil _ _⟩
end Go.Proofs.YtlflhehlbnbhgaaDoor
