/-
  PARTS: PATCHES AS TEXTS, in plain Lean (chapter 8): whole texts. What is printed is read; what is read is printed so.; PATCHES AS TEXTS, in plain Lean: the document's reading of a change's two lines is the program's; the loop's steps.; THE WALKS of git.headed and Print.; THE WALK of git.Print.; A SESSION BY TEXT, in plain Lean: what a line does and answers; the answers of the first lines are a beginning of all; behind 'go' both trees are one.; THE LAWS RunBegins AND RunGoes, in plain Lean.; WHAT THE DOCUMENT's SESSION ASKS, in plain Lean: nothing lies between two trees iff they are one; a line is one word iff it has no blank.; WORDS OF A LINE, in plain Lean: the library's splits; which line does what; how long an answer may be.; THE WALK of strings.Lines' iterator: a text's lines, each with its end, one behind the other.
-/
import Derived.Test.YtmjpfoeaobdaeaaGreatDoorRa12
import Derived.Test.YtmjpfoeaobdaeaaGreatDoorRa10
import Derived.Test.YtmjpfoeaobdaeaaGreatDoorRa13
import Derived.Deep.QuietTactic
import Derived.BigQuiet
import Derived.Test.YtmjpfoeaobdaeaaGreatDoorRa11
import Derived.Test.YtmjpfoeaobdaeaaGreatDoorRa7
import Derived.Test.YtmjpfoeaobdaeaaGreatDoorRa2
import Derived.Shelf.Abstract
import Derived.Shelf.RegionOpen
import Derived.OwnWalkIn
import Derived.TacticsInMore
import Derived.LoopNIn
import Derived.LoopIn
set_option linter.unusedVariables false
set_option linter.unusedSimpArgs false
namespace Go.Proofs.YtmjpfoeaobdaeaaGreatDoor

def textG (p : List Change) : List UInt8 := textL (linesG p)
theorem parts_has {d c : UInt8} : ∀ {s : List UInt8}, c ∈ s → c = d ∨ ∃ x ∈ parts d s, c ∈ x
  | [], h => by cases h
  | e :: r, h => by
    obtain ⟨h', t, er⟩ := List.exists_cons_of_ne_nil (parts_ne d r)
    by_cases he : e = d
    · subst he
      rw [parts_sep]
      rcases List.mem_cons.1 h with rfl | h
      · exact .inl rfl
      · rcases parts_has (d := e) h with q | ⟨x, hx, q⟩
        · exact .inl q
        · exact .inr ⟨x, List.mem_cons_of_mem _ hx, q⟩
    · rw [parts_other he er]
      rcases List.mem_cons.1 h with rfl | h
      · exact .inr ⟨c :: h', List.mem_cons_self .., List.mem_cons_self ..⟩
      · rcases parts_has (d := d) h with q | ⟨x, hx, q⟩
        · exact .inl q
        · rw [er] at hx
          rcases List.mem_cons.1 hx with rfl | hx
          · exact .inr ⟨e :: x, List.mem_cons_self .., List.mem_cons_of_mem _ q⟩
          · exact .inr ⟨x, List.mem_cons_of_mem _ hx, q⟩
theorem path_fine {s : ByteArray} (h : pathFault s = 0) : s.data.toList.length ≤ 20 ∧ ∀ c ∈ s.data.toList, c ≠ 10 := by
  unfold pathFault at h
  by_cases hl : 20 < s.size
  · rw [if_pos hl] at h; cases h
  · rw [if_neg hl] at h
    refine ⟨by simpa using Nat.le_of_not_lt hl, fun c hc e => ?_⟩
    by_cases ha : (parts 47 s.data.toList).all nameOk = true
    · subst e
      rcases parts_has (d := 47) hc with q | ⟨x, hx, q⟩
      · exact absurd q (by decide)
      · have := List.all_eq_true.1 ha x hx
        unfold nameOk at this
        rw [Bool.and_eq_true] at this
        exact absurd (List.all_eq_true.1 this.2 10 q) (by decide)
    · rw [if_neg ha] at h; cases h
theorem change_ok {c : Change} (h : changeFault c = 0) : (c.what = 1 ∨ c.what = 2 ∨ c.what = 3) ∧ pathFault c.path = 0 ∧ (hunksFault c.hunks).2 = 0 := by
  unfold changeFault at h
  by_cases h1 : c.what < 1 ∨ 3 < c.what
  · rw [if_pos h1] at h; cases h
  · rw [if_neg h1] at h
    by_cases h2 : pathFault c.path ≠ 0
    · rw [if_pos h2] at h; exact absurd h h2
    · rw [if_neg h2] at h
      by_cases h3 : (hunksFault c.hunks).2 ≠ 0
      · rw [if_pos h3] at h; exact absurd h h3
      · exact ⟨by omega, by simpa using h2, by simpa using h3⟩
theorem hunks_short {l : List Hunk} (e : (hunksFault l).2 = 0) : (textL (linesU l)).length ≤ 11280 := by
  unfold hunksFault at e
  by_cases hl : 60 < l.length
  · rw [if_pos hl] at e; cases e
  · rw [if_neg hl] at e
    obtain ⟨_, _, h3⟩ := go_ok l 0 0 0 (by decide) (by decide) e
    omega
theorem noneL_10 : ∀ c ∈ noneL, c ≠ 10 := by decide
theorem from_fine (w : Int) {p : List UInt8} (h : p.length ≤ 20 ∧ ∀ c ∈ p, c ≠ 10) : (mmL ++ fromL w p).length ≤ 26 ∧ (∀ c ∈ mmL ++ fromL w p, c ≠ 10) ∧ (ppL ++ toL w p).length ≤ 26 ∧ (∀ c ∈ ppL ++ toL w p, c ≠ 10) := by
  have ha : ∀ c ∈ mmL, c ≠ 10 := by decide
  have hb : ∀ c ∈ ppL, c ≠ 10 := by decide
  have h1 : (fromL w p).length ≤ 22 ∧ ∀ c ∈ fromL w p, c ≠ 10 := by
    unfold fromL
    by_cases e : w = 2
    · rw [if_pos e]; exact ⟨by decide, noneL_10⟩
    · rw [if_neg e]
      refine ⟨by simp; omega, fun c hc => ?_⟩
      rcases List.mem_append.1 hc with q | q
      · exact (by decide : ∀ c ∈ ([97, 47] : List UInt8), c ≠ 10) c q
      · exact h.2 c q
  have h2 : (toL w p).length ≤ 22 ∧ ∀ c ∈ toL w p, c ≠ 10 := by
    unfold toL
    by_cases e : w = 3
    · rw [if_pos e]; exact ⟨by decide, noneL_10⟩
    · rw [if_neg e]
      refine ⟨by simp; omega, fun c hc => ?_⟩
      rcases List.mem_append.1 hc with q | q
      · exact (by decide : ∀ c ∈ ([98, 47] : List UInt8), c ≠ 10) c q
      · exact h.2 c q
  refine ⟨?_, fun c hc => ?_, ?_, fun c hc => ?_⟩
  · rw [List.length_append, show mmL.length = 4 from rfl]; omega
  · rcases List.mem_append.1 hc with q | q
    · exact ha c q
    · exact h1.2 c q
  · rw [List.length_append, show ppL.length = 4 from rfl]; omega
  · rcases List.mem_append.1 hc with q | q
    · exact hb c q
    · exact h2.2 c q
theorem changes_ok : ∀ (p : List Change), (∀ c ∈ p, changeFault c = 0) → (∀ x ∈ linesG p, ∀ c ∈ x, c ≠ 10) ∧ (textG p).length ≤ 11340 * p.length
  | [], _ => ⟨fun _ h => (by cases h), by show (0 : Nat) ≤ 0; omega⟩
  | c :: p, h => by
    obtain ⟨i1, i2⟩ := changes_ok p fun d hd => h d (List.mem_cons_of_mem _ hd)
    obtain ⟨_, q2, q3⟩ := change_ok (h c (List.mem_cons_self ..))
    obtain ⟨f1, f2, f3, f4⟩ := from_fine c.what (path_fine q2)
    have hs := hunks_short q3
    have hn := (hunks_ok q3).2.1
    have e : linesG (c :: p) = (mmL ++ fromL c.what c.path.data.toList) :: (ppL ++ toL c.what c.path.data.toList) :: (linesU c.hunks ++ linesG p) := rfl
    have et : (textG (c :: p)).length = (mmL ++ fromL c.what c.path.data.toList).length + 1 + ((ppL ++ toL c.what c.path.data.toList).length + 1 + ((textL (linesU c.hunks)).length + (textG p).length)) := by
      unfold textG
      rw [e]
      show ((mmL ++ fromL c.what c.path.data.toList) ++ [10] ++ ((ppL ++ toL c.what c.path.data.toList) ++ [10] ++ textL (linesU c.hunks ++ linesG p))).length = _
      rw [textL_app]
      simp only [List.length_append, List.length_singleton]
    refine ⟨fun x hx => ?_, by rw [et, List.length_cons]; omega⟩
    rw [e] at hx
    rcases List.mem_cons.1 hx with rfl | hx
    · exact f2
    · rcases List.mem_cons.1 hx with rfl | hx
      · exact f4
      · rcases List.mem_append.1 hx with hx | hx
        · exact hn x hx
        · exact i1 x hx
end Go.Proofs.YtmjpfoeaobdaeaaGreatDoor
namespace Go.Proofs.YtmjpfoeaobdaeaaGreatDoor

end Go.Proofs.YtmjpfoeaobdaeaaGreatDoor
namespace Go.Proofs.YtmjpfoeaobdaeaaGreatDoor
open Go.RowKit

end Go.Proofs.YtmjpfoeaobdaeaaGreatDoor
namespace Go.Proofs.YtmjpfoeaobdaeaaGreatDoor
open Go.RowKit

def gitR (p : List Change) : ByteArray := if (patchFault p).2 = 0 then toB (textG p) else ByteArray.empty
theorem textG_take {p : List Change} {k : Nat} {x : Change} (hx : p[k]? = some x) : textG (p.take (k + 1)) = textG (p.take k) ++ (mmL ++ fromL x.what x.path.data.toList ++ [10] ++ (ppL ++ toL x.what x.path.data.toList ++ [10]) ++ textU x.hunks) := by
  unfold textG linesG textU
  rw [List.take_add_one, hx, Option.toList_some, List.flatMap_append, textL_app]
  congr 1
  simp only [List.flatMap_cons, List.flatMap_nil, List.append_nil]
  show textL ((mmL ++ fromL x.what x.path.data.toList) :: (ppL ++ toL x.what x.path.data.toList) :: linesU x.hunks) = _
  simp [textL]
theorem textG_mono {p : List Change} {k : Nat} : (textG (p.take k)).length ≤ (textG p).length := by
  conv => rhs; rw [← List.take_append_drop k p]
  unfold textG linesG
  rw [List.flatMap_append, textL_app, List.length_append]
  omega
theorem two_lines (f t : List UInt8) : toB mmL ++ toB f ++ toB [10, 43, 43, 43, 32] ++ toB t ++ toB [10] = toB (mmL ++ f ++ [10] ++ (ppL ++ t ++ [10])) := by
  apply ByteArray.ext
  apply Array.toList_inj.1
  simp only [bytes_append, toB_data]
  unfold ppL
  simp
theorem patch_each {p : List Change} (e : (patchFault p).2 = 0) : p.length ≤ 16 ∧ ∀ c ∈ p, changeFault c = 0 := by
  unfold patchFault at e
  by_cases h : 16 < p.length
  · rw [if_pos h] at e; cases e
  · rw [if_neg h] at e
    exact ⟨by omega, (patchGo_zero p 0 none e).1⟩

theorem gp_str (w : Int) (path F T : ByteArray) (hF : F = toB (fromL w path.data.toList)) (hT : T = toB (toL w path.data.toList)) :
    (⟨#[45, 45, 45, 32]⟩ : ByteArray) ++ F ++ ⟨#[10, 43, 43, 43, 32]⟩ ++ T ++ ⟨#[10]⟩ = toB (mmL ++ fromL w path.data.toList ++ [10] ++ (ppL ++ toL w path.data.toList ++ [10])) := by
  subst hF hT
  exact two_lines _ _
theorem gp_pre (a b : UInt8) (path : ByteArray) : (⟨#[a, b]⟩ : ByteArray) ++ path = toB ([a, b] ++ path.data.toList) := by
  apply ByteArray.ext
  apply Array.toList_inj.1
  rw [bytes_append, toB_data]
set_option maxHeartbeats 2000000 in
set_option maxRecDepth 100000 in
theorem gitprint_any (p : List Change) (v : Value) (w : World) (h : Rdv w Never v p) (m : Int) (hm : w.cell? ⟨0, 0, none⟩ = some (.int .i64 m)) :
    Calls Tryz.prog 75 #[v] w fun e w' => e = .returned (.tuple #[.string (gitR p), errV (patchFault p).2]) ∧ Chg Never w w' := by
  by_cases hz : (patchFault p).2 = 0
  · obtain ⟨p16, pall⟩ := patch_each hz
    have hTL := (changes_ok p pall).2
    have HALL := Lib.hid pall
    have HZ := Lib.hid hz
    have HR : Hid (gitR p = ⟨(textG p).toArray⟩) := by unfold Hid gitR; rw [if_pos hz]; rfl
    have hv := h
    obtain ⟨a, cap, rfl, h1, h2, -⟩ := rdv_slice h
    unfold maxLen at h2
    clear hz pall h
    go_enter Tryz.func75, Tryz.ntmps75
    go_wp2_with fail
    refine (patch_check_any p _ _ hv m hm).mono ?_
    rintro e w1 ⟨rfl, hc1⟩
    rw [HZ.out, errV_zero]
    generalize (patchFault p).1 = at0
    go_wp2_with fail
    have hv1 : Rdv w1 (From w1.heap.size) (.slice a p.length cap) p := hv.keep hc1 (fun _ _ h => h.elim) (fun k hk h => by unfold From at h; have := hc1.size; omega)
    obtain ⟨a', cap', hq, -, -, h3⟩ := rdv_slice hv1
    injection hq with hq1 _ hq2
    subst hq1 hq2
    go_loopw [21] (fun i wr => ∃ k : Nat, k ≤ p.length ∧ i = .int .i64 k ∧ IsB w1.heap.size w1.heap.size (Lib.byteCells (textG (p.take k))) wr ∧ Below w1.heap.size w1 wr) (fun i _ => p.length - (intOf i).toNat)
    case atStart => exact ⟨0, Nat.zero_le _, rfl, Lib.IsBuilderF.of (Lib.fresh_isBuilder _ _ w1), (Below.refl _ w1).alloc (Nat.le_refl _) _⟩
    case round =>
      obtain ⟨k, hk, rfl, hI, hb⟩ := hrel
      rename World => wr
      have hbs := hb.size
      by_cases hlt : k < p.length
      · obtain ⟨x, hx⟩ : ∃ x, p[k]? = some x := ⟨p[k], by simp [hlt]⟩
        obtain ⟨b', off, mv, rfl, hnb, -, c0, c1, c2, hxp, hmv⟩ := elems_change h3 hx
        have hcb := chg_below hb
        have c0 := hcb.cell c0 hnb
        have c1 := hcb.cell c1 hnb
        have c2 := hcb.cell c2 hnb
        have hmr : Rdv wr (From w1.heap.size) mv x.hunks := hmv.keep hcb (fun _ _ h => h) (fun _ _ h => h)
        obtain ⟨ma, mc, rfl, -, -, -⟩ := rdv_slice hmv
        obtain ⟨x1, x2, x3⟩ := change_ok (HALL.out x (List.mem_of_getElem? hx))
        obtain ⟨xl, -⟩ := path_fine x2
        have X3 := Lib.hid x3
        obtain ⟨ff1, -, ff2, -⟩ := from_fine x.what (path_fine x2)
        have HT := Lib.hid (textG_take hx)
        have hTk := @textG_mono p k
        have hTk1 := @textG_mono p (k + 1)
        have hA : Chg Never wr (wr.alloc (.cells #[.int .i64 x.what, .string x.path, .slice ma x.hunks.length mc] 100)) := (Chg.refl Never wr).alloc _
        have hbox := Blk3.new wr 100 (.int .i64 x.what) (.string x.path) (.slice ma x.hunks.length mc)
        have hbne : wr.heap.size ≠ w1.heap.size := by
          have : w1.heap.size < wr.heap.size := hI.elim (fun q => q.lt) (fun q => q.lt)
          omega
        obtain ⟨g0, g1, g2⟩ := hbox.cell
        have hIA := bld_keep hI hA
        have hmA := hmr.never hA
        have hbA := hb.trans (hA.never.mono hbs)
        have hpz : x.path.size ≤ 20 := by rw [Lib.size_eq]; exact xl
        have n1 : ¬ (9223372036854775807 < 2 + x.path.size) := by omega
        clear hx h3 hI hmr hmv x2 x3 xl
        go_wp2_with fail
        clear c0 c1 c2
        generalize wr.alloc (.cells #[.int .i64 x.what, .string x.path, .slice ma x.hunks.length mc] 100) = wA at hA hbox g0 g1 g2 hIA hmA hbA ⊢
        go_quiet (fail)
        have hcd : Chg Never wA (wA.drewN nq) := (Chg.refl Never wA).drewN nq
        have hbox2 := hbox.keep hcd (fun h => h)
        have hI2 := bld_keep hIA hcd
        have hm2 := hmA.never hcd
        have hb2 := hbA.trans (hcd.never.mono (Nat.le_trans hbs hA.size))
        generalize wA.drewN nq = w2 at hbox2 hI2 hm2 hb2 ⊢
        obtain ⟨g0, g1, g2⟩ := hbox2.cell
        clear hcd hbox hIA hmA hbA hA
        have hbs' : w1.heap.size ≤ w1.heap.size := Nat.le_refl _
        rcases x1 with x1 | x1 | x1
        · have q2 : (x.what == 2) = false := by rw [x1]; rfl
          have q3 : (x.what == 3) = false := by rw [x1]; rfl
          have XW := Lib.hid x1
          have HS : Hid ((⟨#[45, 45, 45, 32]⟩ : ByteArray) ++ ((⟨#[97, 47]⟩ : ByteArray) ++ x.path) ++ ⟨#[10, 43, 43, 43, 32]⟩ ++ ((⟨#[98, 47]⟩ : ByteArray) ++ x.path) ++ ⟨#[10]⟩ = toB (mmL ++ fromL x.what x.path.data.toList ++ [10] ++ (ppL ++ toL x.what x.path.data.toList ++ [10]))) := gp_str _ _ _ _ (by (rw [XW.out]; exact gp_pre 97 47 x.path)) (by (rw [XW.out]; exact gp_pre 98 47 x.path))
          have hLl : (mmL ++ fromL x.what x.path.data.toList ++ [10] ++ (ppL ++ toL x.what x.path.data.toList ++ [10])).length ≤ 60 := by
            simp only [List.length_append, List.length_cons, List.length_nil] at ff1 ff2 ⊢
            omega
          have hFz : ((⟨#[97, 47]⟩ : ByteArray) ++ x.path : ByteArray).size ≤ 22 := by (rw [ByteArray.size_append]; show 2 + x.path.size ≤ 22; omega)
          have hTz : ((⟨#[98, 47]⟩ : ByteArray) ++ x.path : ByteArray).size ≤ 22 := by (rw [ByteArray.size_append]; show 2 + x.path.size ≤ 22; omega)
          clear x1
          go_wp2_with fail
          clear g0 g1 g2
          have hbl : (Lib.byteCells (textG (p.take k))).length ≤ 181440 := by rw [Lib.byteCells_length]; omega
          refine (bldk_string w1.heap.size w1.heap.size _ _ _ hI2 (by rw [HS.out, toB_size']; omega) (Nat.le_trans hbs' hb2.size)).mono ?_
          rintro e w4 ⟨rfl, hI4, b4, k4⟩
          rw [HS.out, cells_toB, ← Lib.byteCells_append] at hI4
          have hc4 := chg_below b4
          have hm4 : Rdv w4 (From w1.heap.size) (.slice ma x.hunks.length mc) x.hunks := hm2.keep hc4 (fun _ _ h => h) (fun _ _ h => h)
          obtain ⟨-, -, g2⟩ := (k4.blk3 hbox2 hbne (by decide)).cell
          have hb4 := hb2.trans b4
          clear hm2 hI2 k4 hbox2 HS hc4
          go_wp2_with fail
          clear g2
          refine (write_any w1.heap.size w1.heap.size _ x.hunks _ _ hm4 (.inr hI4) X3.out (by rw [Lib.byteCells_length, List.length_append]; rw [Lib.byteCells_length] at hbl; omega) (Nat.le_trans hbs' hb4.size)).mono ?_
          rintro e w5 ⟨rfl, hI5, b5⟩
          rw [← Lib.byteCells_append, List.append_assoc, ← HT.out] at hI5
          go_wp2_with fail
          go_roundw
          case rel => exact ⟨k + 1, by omega, by go_num, hI5, hb4.trans b5⟩
          case measure => simp [intOf]; omega
        · have q2 : (x.what == 2) = true := by rw [x1]; rfl
          have q3 : (x.what == 3) = false := by rw [x1]; rfl
          have XW := Lib.hid x1
          have HS : Hid ((⟨#[45, 45, 45, 32]⟩ : ByteArray) ++ ((⟨#[47, 100, 101, 118, 47, 110, 117, 108, 108]⟩ : ByteArray)) ++ ⟨#[10, 43, 43, 43, 32]⟩ ++ ((⟨#[98, 47]⟩ : ByteArray) ++ x.path) ++ ⟨#[10]⟩ = toB (mmL ++ fromL x.what x.path.data.toList ++ [10] ++ (ppL ++ toL x.what x.path.data.toList ++ [10]))) := gp_str _ _ _ _ (by (rw [XW.out]; rfl)) (by (rw [XW.out]; exact gp_pre 98 47 x.path))
          have hLl : (mmL ++ fromL x.what x.path.data.toList ++ [10] ++ (ppL ++ toL x.what x.path.data.toList ++ [10])).length ≤ 60 := by
            simp only [List.length_append, List.length_cons, List.length_nil] at ff1 ff2 ⊢
            omega
          have hFz : ((⟨#[47, 100, 101, 118, 47, 110, 117, 108, 108]⟩ : ByteArray) : ByteArray).size ≤ 22 := by decide
          have hTz : ((⟨#[98, 47]⟩ : ByteArray) ++ x.path : ByteArray).size ≤ 22 := by (rw [ByteArray.size_append]; show 2 + x.path.size ≤ 22; omega)
          clear x1
          go_wp2_with fail
          clear g0 g1 g2
          have hbl : (Lib.byteCells (textG (p.take k))).length ≤ 181440 := by rw [Lib.byteCells_length]; omega
          refine (bldk_string w1.heap.size w1.heap.size _ _ _ hI2 (by rw [HS.out, toB_size']; omega) (Nat.le_trans hbs' hb2.size)).mono ?_
          rintro e w4 ⟨rfl, hI4, b4, k4⟩
          rw [HS.out, cells_toB, ← Lib.byteCells_append] at hI4
          have hc4 := chg_below b4
          have hm4 : Rdv w4 (From w1.heap.size) (.slice ma x.hunks.length mc) x.hunks := hm2.keep hc4 (fun _ _ h => h) (fun _ _ h => h)
          obtain ⟨-, -, g2⟩ := (k4.blk3 hbox2 hbne (by decide)).cell
          have hb4 := hb2.trans b4
          clear hm2 hI2 k4 hbox2 HS hc4
          go_wp2_with fail
          clear g2
          refine (write_any w1.heap.size w1.heap.size _ x.hunks _ _ hm4 (.inr hI4) X3.out (by rw [Lib.byteCells_length, List.length_append]; rw [Lib.byteCells_length] at hbl; omega) (Nat.le_trans hbs' hb4.size)).mono ?_
          rintro e w5 ⟨rfl, hI5, b5⟩
          rw [← Lib.byteCells_append, List.append_assoc, ← HT.out] at hI5
          go_wp2_with fail
          go_roundw
          case rel => exact ⟨k + 1, by omega, by go_num, hI5, hb4.trans b5⟩
          case measure => simp [intOf]; omega
        · have q2 : (x.what == 2) = false := by rw [x1]; rfl
          have q3 : (x.what == 3) = true := by rw [x1]; rfl
          have XW := Lib.hid x1
          have HS : Hid ((⟨#[45, 45, 45, 32]⟩ : ByteArray) ++ ((⟨#[97, 47]⟩ : ByteArray) ++ x.path) ++ ⟨#[10, 43, 43, 43, 32]⟩ ++ ((⟨#[47, 100, 101, 118, 47, 110, 117, 108, 108]⟩ : ByteArray)) ++ ⟨#[10]⟩ = toB (mmL ++ fromL x.what x.path.data.toList ++ [10] ++ (ppL ++ toL x.what x.path.data.toList ++ [10]))) := gp_str _ _ _ _ (by (rw [XW.out]; exact gp_pre 97 47 x.path)) (by (rw [XW.out]; rfl))
          have hLl : (mmL ++ fromL x.what x.path.data.toList ++ [10] ++ (ppL ++ toL x.what x.path.data.toList ++ [10])).length ≤ 60 := by
            simp only [List.length_append, List.length_cons, List.length_nil] at ff1 ff2 ⊢
            omega
          have hFz : ((⟨#[97, 47]⟩ : ByteArray) ++ x.path : ByteArray).size ≤ 22 := by (rw [ByteArray.size_append]; show 2 + x.path.size ≤ 22; omega)
          have hTz : ((⟨#[47, 100, 101, 118, 47, 110, 117, 108, 108]⟩ : ByteArray) : ByteArray).size ≤ 22 := by decide
          clear x1
          go_wp2_with fail
          clear g0 g1 g2
          have hbl : (Lib.byteCells (textG (p.take k))).length ≤ 181440 := by rw [Lib.byteCells_length]; omega
          refine (bldk_string w1.heap.size w1.heap.size _ _ _ hI2 (by rw [HS.out, toB_size']; omega) (Nat.le_trans hbs' hb2.size)).mono ?_
          rintro e w4 ⟨rfl, hI4, b4, k4⟩
          rw [HS.out, cells_toB, ← Lib.byteCells_append] at hI4
          have hc4 := chg_below b4
          have hm4 : Rdv w4 (From w1.heap.size) (.slice ma x.hunks.length mc) x.hunks := hm2.keep hc4 (fun _ _ h => h) (fun _ _ h => h)
          obtain ⟨-, -, g2⟩ := (k4.blk3 hbox2 hbne (by decide)).cell
          have hb4 := hb2.trans b4
          clear hm2 hI2 k4 hbox2 HS hc4
          go_wp2_with fail
          clear g2
          refine (write_any w1.heap.size w1.heap.size _ x.hunks _ _ hm4 (.inr hI4) X3.out (by rw [Lib.byteCells_length, List.length_append]; rw [Lib.byteCells_length] at hbl; omega) (Nat.le_trans hbs' hb4.size)).mono ?_
          rintro e w5 ⟨rfl, hI5, b5⟩
          rw [← Lib.byteCells_append, List.append_assoc, ← HT.out] at hI5
          go_wp2_with fail
          go_roundw
          case rel => exact ⟨k + 1, by omega, by go_num, hI5, hb4.trans b5⟩
          case measure => simp [intOf]; omega
      · rw [List.take_of_length_le (by omega)] at hI
        go_wp2_with fail
        refine (Tryz.Builder_String_any_k w1.heap.size w1.heap.size (textG p) _ hI hbs).mono ?_
        rintro e w4 ⟨rfl, _, b4, _⟩
        go_wp2_with fail
        go_ret2
        exact ⟨by rw [HR.out, HZ.out]; rfl, hc1.trans (Chg.of_below (hb.trans b4))⟩
  · have HR : Hid (gitR p = ByteArray.empty) := if_neg hz
    have HZ := Lib.hid hz
    obtain ⟨a, cap, rfl, -, -, -⟩ := rdv_slice h
    go_enter Tryz.func75, Tryz.ntmps75
    go_wp2_with fail
    refine (patch_check_any p _ _ h m hm).mono ?_
    rintro e w1 ⟨rfl, hc1⟩
    rw [errV_pos hz]
    generalize (patchFault p).1 = at0
    clear hz
    go_wp2_with fail
    go_ret2
    exact ⟨by rw [HR.out, errV_pos HZ.out]; rfl, hc1⟩
end Go.Proofs.YtmjpfoeaobdaeaaGreatDoor
namespace Go.Proofs.YtmjpfoeaobdaeaaGreatDoor
open Go.RowKit

structure Ses where
  old : List File
  new : List File
def errText (k : Int) : List UInt8 :=
  if k = 0 then [79, 75] else if k = 1 then [69, 114, 114, 82, 97, 110, 103, 101] else if k = 2 then [69, 114, 114, 83, 104, 97, 112, 101] else if k = 3 then [69, 114, 114, 70, 117, 108, 108]
  else if k = 4 then [69, 114, 114, 78, 111, 110, 101] else if k = 5 then [69, 114, 114, 83, 121, 110, 116, 97, 120] else if k = 6 then [69, 114, 114, 67, 108, 97, 115, 104] else [69, 114, 114, 110, 111]
def okW : List UInt8 := [111, 107]
def okL : List UInt8 := [111, 107, 10]
def badL : List UInt8 := [98, 97, 100, 10]
def yesL : List UInt8 := [121, 101, 115, 10]
def noL : List UInt8 := [110, 111, 10]
def oldW : List UInt8 := [111, 108, 100]
def newW : List UInt8 := [110, 101, 119]
def backW : List UInt8 := [98, 97, 99, 107]
def sameW : List UInt8 := [115, 97, 109, 101]
def dropW : List UInt8 := [100, 114, 111, 112]
def diffW : List UInt8 := [100, 105, 102, 102]
def farW : List UInt8 := [102, 97, 114]
def goW : List UInt8 := [103, 111]
def toldS (s : List UInt8) (k : Int) : List UInt8 := (if k = 0 then s else errText k) ++ [10]
def linesIn (t : List File) (p : ByteArray) : List ByteArray := (look t p).getD []
def moreFile (t : List File) (p x : ByteArray) : File := ⟨p, linesIn t p ++ [x]⟩
def moreFault (t : List File) (p x : ByteArray) : Int := putFault t (moreFile t p x)
def moreT (t : List File) (p x : ByteArray) : List File := if moreFault t p x = 0 then putAt t (moreFile t p x) else t
def dropT (t : List File) (p : ByteArray) : List File := if getFault t p = 0 then dropAt t (posOf t p) else t
def blankL (s : List UInt8) : List UInt8 := ((parts 10 s).dropLast.map fun x => 32 :: (x ++ [10])).flatten
def diffS (m : Ses) (n : Nat) : List UInt8 := if n ≤ 1000 then blankL (textG (diffL n m.old m.new)) ++ okL else toldS [] 1
def goS (m : Ses) (n : Nat) : Ses × List UInt8 := if n ≤ 1000 then (if (applyR m.old (diffL n m.old m.new)).2.2 = 0 then ⟨(applyR m.old (diffL n m.old m.new)).1, m.new⟩ else m, toldS okW (applyR m.old (diffL n m.old m.new)).2.2) else (m, toldS [] 1)
def arg1 (w : List (List UInt8)) : List UInt8 := w.getD 1 []
def lineW (m : Ses) (s : List UInt8) (w : List (List UInt8)) : Ses × List UInt8 :=
  if 3 ≤ w.length ∧ w.headD [] = oldW then (⟨moreT m.old (toB (arg1 w)) (toB (s.drop (4 + (arg1 w).length + 1))), m.new⟩, toldS okW (moreFault m.old (toB (arg1 w)) (toB (s.drop (4 + (arg1 w).length + 1)))))
  else if 3 ≤ w.length ∧ w.headD [] = newW then (⟨m.old, moreT m.new (toB (arg1 w)) (toB (s.drop (4 + (arg1 w).length + 1)))⟩, toldS okW (moreFault m.new (toB (arg1 w)) (toB (s.drop (4 + (arg1 w).length + 1)))))
  else if w = [backW] then (⟨m.new, m.old⟩, okL)
  else if w = [sameW] then (m, if m.old = m.new then yesL else noL)
  else if w.length = 2 ∧ w.headD [] = dropW then (⟨m.old, dropT m.new (toB (arg1 w))⟩, toldS okW (getFault m.new (toB (arg1 w))))
  else if w.length = 2 ∧ w.headD [] = farW then (m, if pathFault (toB (arg1 w)) = 0 then Lib.itoa (far (linesIn m.old (toB (arg1 w))) (linesIn m.new (toB (arg1 w)))) ++ [10] else toldS [] (pathFault (toB (arg1 w))))
  else if w.length = 2 ∧ w.headD [] = diffW then (m, match numM 4 (arg1 w) with | some n => diffS m n | none => badL)
  else if w.length = 2 ∧ w.headD [] = goW then (match numM 4 (arg1 w) with | some n => goS m n | none => (m, badL))
  else (m, badL)
def lineS (m : Ses) (s : List UInt8) : Ses × List UInt8 := lineW m s (parts 32 s)
def runL : Ses → List (List UInt8) → Ses × List UInt8
  | m, [] => (m, [])
  | m, s :: l => ((runL (lineS m s).1 l).1, (lineS m s).2 ++ (runL (lineS m s).1 l).2)
def linesR (s : List UInt8) : List (List UInt8) := if (parts 10 s).getLast? = some [] then (parts 10 s).dropLast else parts 10 s
def runOut (s : List UInt8) : List UInt8 := (runL ⟨[], []⟩ (linesR s)).2

def SesOk (m : Ses) : Prop := Tree m.old ∧ Tree m.new
theorem more_tree {t : List File} (h : Tree t) (p x : ByteArray) : Tree (moreT t p x) := by
  unfold moreT
  split
  · rename_i e
    have e' : putFault t (moreFile t p x) = 0 := e
    have := putR_tree e'
    rwa [putR, if_pos e'] at this
  · exact h
theorem drop_tree {t : List File} (h : Tree t) (p : ByteArray) : Tree (dropT t p) := by
  unfold dropT
  split
  · refine ⟨?_, fun f hf => h.2.1 f ?_, ?_⟩
    · have : (dropAt t (posOf t p)).length ≤ t.length := by unfold dropAt; simp; omega
      exact Nat.le_trans this h.1
    · unfold dropAt at hf
      rcases List.mem_append.1 hf with g | g
      · exact List.mem_of_mem_take g
      · exact List.mem_of_mem_drop g
    · refine List.Pairwise.sublist ?_ h.2.2
      unfold dropAt
      have : t = t.take (posOf t p) ++ t.drop (posOf t p) := (List.take_append_drop _ _).symm
      conv => rhs; rw [this]
      exact List.Sublist.append (List.Sublist.refl _) (by rw [← List.drop_drop]; exact List.drop_sublist _ _)
  · exact h
theorem goS_ok {m : Ses} (h : SesOk m) (n : Nat) (hn : n ≤ 1000) : goS m n = (⟨m.new, m.new⟩, okL) := by
  have := (diff_makes h.1 h.2 (n := n) (by omega) (by omega)).1
  rw [goS, if_pos hn, this]
  rfl
theorem line_ok {m : Ses} (h : SesOk m) (s : List UInt8) : SesOk (lineS m s).1 := by
  unfold lineS
  generalize parts 32 s = w
  unfold lineW
  split
  · exact ⟨more_tree h.1 _ _, h.2⟩
  split
  · exact ⟨h.1, more_tree h.2 _ _⟩
  split
  · exact ⟨h.2, h.1⟩
  split
  · exact h
  split
  · exact ⟨h.1, drop_tree h.2 _⟩
  split
  · exact h
  split
  · exact h
  split
  · split
    · rename_i n e
      by_cases hn : n ≤ 1000
      · rw [goS_ok h n hn]; exact ⟨h.2, h.2⟩
      · rw [goS, if_neg hn]; exact h
    · exact h
  · exact h
theorem empty_ok : SesOk ⟨[], []⟩ := ⟨⟨Nat.zero_le _, fun _ hf => (nomatch hf), List.Pairwise.nil⟩, ⟨Nat.zero_le _, fun _ hf => (nomatch hf), List.Pairwise.nil⟩⟩
end Go.Proofs.YtmjpfoeaobdaeaaGreatDoor
namespace Go.Proofs.YtmjpfoeaobdaeaaGreatDoor
open Go.RowKit

theorem linesR_nil : linesR [] = [] := rfl
theorem linesR_cut {a : List UInt8} (r : List UInt8) (h : ∀ x ∈ a, x ≠ 10) : linesR (a ++ 10 :: r) = a :: linesR r := by
  unfold linesR
  rw [parts_cut r h]
  obtain ⟨y, t, e⟩ := List.exists_cons_of_ne_nil (parts_ne 10 r)
  rw [e, List.getLast?_cons_cons]
  by_cases g : (y :: t).getLast? = some []
  · rw [if_pos g, if_pos g]; rfl
  · rw [if_neg g, if_neg g]
theorem linesR_one {a : List UInt8} (h : ∀ x ∈ a, x ≠ 10) (g : a ≠ []) : linesR a = [a] := by
  unfold linesR
  rw [parts_none h, if_neg]
  intro e
  injection e with e
  exact g e
def Whole (a : List UInt8) : Prop := a = [] ∨ a.getLast? = some 10
theorem cut10 (s : List UInt8) : (∀ x ∈ s, x ≠ 10) ∨ ∃ a r, s = a ++ 10 :: r ∧ ∀ x ∈ a, x ≠ 10 := by
  induction s with
  | nil => exact Or.inl (fun x hx => by cases hx)
  | cons c s ih =>
    by_cases hc : c = 10
    · subst hc; exact Or.inr ⟨[], s, rfl, fun x hx => by cases hx⟩
    · rcases ih with g | ⟨a, r, rfl, g⟩
      · refine Or.inl (fun x hx => ?_)
        rcases List.mem_cons.1 hx with rfl | hx
        · exact hc
        · exact g x hx
      · refine Or.inr ⟨c :: a, r, rfl, fun x hx => ?_⟩
        rcases List.mem_cons.1 hx with rfl | hx
        · exact hc
        · exact g x hx
theorem decFrom_app : ∀ (a b : List UInt8) (k : Nat), Lib.decFrom k (a ++ b) = (Lib.decFrom k a).bind fun m => Lib.decFrom m b
  | [], b, k => rfl
  | c :: a, b, k => by
    rw [List.cons_append, Lib.decFrom, Lib.decFrom]
    cases Lib.digitVal c with
    | none => rfl
    | some d => exact decFrom_app a b _
theorem digit_of {k : Nat} (h : k < 10) : Lib.digitVal (UInt8.ofNat (48 + k)) = some k := by
  have : ∀ k, k < 10 → Lib.digitVal (UInt8.ofNat (48 + k)) = some k := by decide +kernel
  exact this k h
theorem digits_small {k : Nat} (h : k < 10) : Lib.decDigits k = [UInt8.ofNat (48 + k)] := by rw [Lib.decDigits, dif_pos h]
theorem digits_big {k : Nat} (h : ¬ k < 10) : Lib.decDigits k = Lib.decDigits (k / 10) ++ [UInt8.ofNat (48 + k % 10)] := by conv => lhs; rw [Lib.decDigits, dif_neg h]
theorem decFrom_digits (n : Nat) : Lib.decFrom 0 (Lib.decDigits n) = some n := by
  induction n using Nat.strongRecOn with
  | ind n ih =>
    by_cases h : n < 10
    · rw [digits_small h, Lib.decFrom, digit_of h]
      show Lib.decFrom (0 * 10 + n) [] = some n
      rw [Lib.decFrom]; simp
    · rw [digits_big h, decFrom_app, ih (n / 10) (by omega)]
      show Lib.decFrom (n / 10) [UInt8.ofNat (48 + n % 10)] = some n
      rw [Lib.decFrom, digit_of (by omega)]
      show Lib.decFrom (n / 10 * 10 + n % 10) [] = some n
      rw [Lib.decFrom]; simp; omega
theorem digits_len (n : Nat) : ∀ k, n < 10 ^ (k + 1) → (Lib.decDigits n).length ≤ k + 1 ∧ Lib.decDigits n ≠ [] := by
  intro k
  induction k generalizing n with
  | zero => intro h; rw [digits_small (by simpa using h)]; simp
  | succ k ih =>
    intro h
    by_cases g : n < 10
    · rw [digits_small g]; simp
    · rw [digits_big g]
      have : n / 10 < 10 ^ (k + 1) := by rw [Nat.pow_succ] at h; omega
      have := (ih (n / 10) this).1
      simp; omega
end Go.Proofs.YtmjpfoeaobdaeaaGreatDoor
namespace Go.Proofs.YtmjpfoeaobdaeaaGreatDoor
open Go.RowKit

theorem none_between {a b : List File} (ha : Tree a) (hb : Tree b) {n : Int} (h0 : 0 ≤ n) (h1 : n ≤ 1000) : diffL n a b = [] ↔ a = b := by
  constructor
  · intro h
    have h2 := (diff_makes ha hb h0 h1).1
    have h3 := (diff_makes ha ha h0 h1).1
    rw [h] at h2
    rw [diff_self ha.2.2] at h3
    rw [h2] at h3
    injection h3 with h3
    exact h3.symm
  · rintro rfl
    exact diff_self ha.2.2 n
def joinW (d : UInt8) : List (List UInt8) → List UInt8
  | [] => []
  | [a] => a
  | a :: b :: r => a ++ d :: joinW d (b :: r)
theorem join_words (d : UInt8) : ∀ s, joinW d (parts d s) = s
  | [] => rfl
  | c :: s => by
    obtain ⟨y, t, e⟩ := List.exists_cons_of_ne_nil (parts_ne d s)
    have ih := join_words d s
    by_cases h : c = d
    · subst h
      rw [parts_sep, e, joinW, ← e, ih]; rfl
    · rw [parts_other h e]
      rw [e] at ih
      cases t with
      | nil => rw [joinW] at ih ⊢; rw [ih]
      | cons z t => rw [joinW] at ih ⊢; rw [List.cons_append, ih]
theorem word_one {d : UInt8} {s a : List UInt8} (ha : ∀ x ∈ a, x ≠ d) : parts d s = [a] ↔ s = a := by
  constructor
  · intro h
    have := join_words d s
    rw [h] at this
    exact this.symm
  · rintro rfl
    exact parts_none ha
theorem words_rest {d : UInt8} {s a b : List UInt8} {r : List (List UInt8)} (h : parts d s = a :: b :: r) (hr : r ≠ []) : s = a ++ d :: (b ++ d :: s.drop (a.length + b.length + 2)) := by
  have := join_words d s
  rw [h, joinW] at this
  obtain ⟨c, t, rfl⟩ := List.exists_cons_of_ne_nil hr
  rw [joinW] at this
  generalize joinW d (c :: t) = q at this
  subst this
  have e : List.drop (a.length + b.length + 2) (a ++ d :: (b ++ d :: q)) = q := by
    have e2 : a ++ d :: (b ++ d :: q) = (a ++ [d] ++ b ++ [d]) ++ q := by simp
    rw [e2]
    exact List.drop_left' (by simp; omega)
  rw [e]
end Go.Proofs.YtmjpfoeaobdaeaaGreatDoor
namespace Go.Proofs.YtmjpfoeaobdaeaaGreatDoor
open Go.RowKit

theorem cutD (d : UInt8) (s : List UInt8) : (∀ x ∈ s, x ≠ d) ∨ ∃ a r, s = a ++ d :: r ∧ ∀ x ∈ a, x ≠ d := by
  induction s with
  | nil => exact Or.inl (fun x hx => by cases hx)
  | cons c s ih =>
    by_cases hc : c = d
    · subst hc; exact Or.inr ⟨[], s, rfl, fun x hx => by cases hx⟩
    · rcases ih with g | ⟨a, r, rfl, g⟩
      · refine Or.inl (fun x hx => ?_)
        rcases List.mem_cons.1 hx with rfl | hx
        · exact hc
        · exact g x hx
      · refine Or.inr ⟨c :: a, r, rfl, fun x hx => ?_⟩
        rcases List.mem_cons.1 hx with rfl | hx
        · exact hc
        · exact g x hx
theorem csub_none {d : UInt8} {s : List UInt8} (h : ∀ x ∈ s, x ≠ d) : cutSub [d] s = none := by
  cases hc : cutSub [d] s with
  | none => rfl
  | some p =>
    have e := cut_some (a := p.1) (b := p.2) hc
    exact absurd rfl (h d (by rw [e]; simp))
theorem csub_at {d : UInt8} {a : List UInt8} (r : List UInt8) (h : ∀ x ∈ a, x ≠ d) : cutSub [d] (a ++ d :: r) = some (a, r) := by
  have := cut_at (x := d) (t := []) r h
  rwa [List.append_assoc, List.singleton_append] at this
def split3 (s : List UInt8) : List (List UInt8) := cutsK [32] 2 s
theorem split3_eq (s : List UInt8) : Lib.splitK [32] 0 (min 3 (s.length + 1) - 1) s = split3 s := by
  rw [splitK_cuts (by simp), split3]
  by_cases h : 2 ≤ s.length
  · rw [show min 3 (s.length + 1) - 1 = 2 by omega]
  · have hc := count_len (t := [32]) (by simp) s.length s (Nat.le_refl _)
    exact cuts_enough (by simp) s.length _ _ s (Nat.le_refl _) (by omega) (by omega)
theorem pieces3_eq (s : ByteArray) : Lib.splitB ⟨#[32]⟩ 0 (min 3 (s.size + 1) - 1) s = (split3 s.data.toList).map toB := by
  have h := Lib.splitB_data ⟨#[32]⟩ 0 (min 3 (s.size + 1) - 1) s
  have h2 := split3_eq s.data.toList
  rw [← Lib.size_eq] at h2
  rw [show (⟨#[32]⟩ : ByteArray).data.toList = [32] from rfl, h2] at h
  rw [← h, List.map_map, map_toB]
theorem split3_cases (s : List UInt8) : (split3 s = parts 32 s ∧ (parts 32 s).length < 3) ∨
    ∃ a b q, (∀ x ∈ a, x ≠ 32) ∧ (∀ x ∈ b, x ≠ 32) ∧ split3 s = [a, b, q] ∧ s = a ++ 32 :: (b ++ 32 :: q) ∧ parts 32 s = a :: b :: parts 32 q ∧ s.drop (a.length + b.length + 2) = q := by
  rcases cutD 32 s with h | ⟨a, r, rfl, ha⟩
  · left
    unfold split3
    rw [cutsK, csub_none h, parts_none h]
    exact ⟨rfl, by simp⟩
  · rcases cutD 32 r with h | ⟨b, q, rfl, hb⟩
    · left
      unfold split3
      rw [cutsK, csub_at _ ha, parts_cut _ ha, parts_none h]
      simp only
      rw [cutsK, csub_none h]
      exact ⟨rfl, by simp⟩
    · right
      refine ⟨a, b, q, ha, hb, ?_, rfl, ?_, ?_⟩
      · unfold split3
        rw [cutsK, csub_at _ ha]
        simp only
        rw [cutsK, csub_at _ hb]
        rfl
      · rw [parts_cut _ ha, parts_cut _ hb]
      · have e2 : a ++ 32 :: (b ++ 32 :: q) = (a ++ [32] ++ b ++ [32]) ++ q := by simp
        rw [e2]
        exact List.drop_left' (by simp; omega)

def manyW (a : List UInt8) : Nat := if a = dropW ∨ a = diffW ∨ a = farW ∨ a = goW then 2 else if a = sameW ∨ a = backW then 1 else 0
theorem lineW_old {m : Ses} {s b : List UInt8} {q : List (List UInt8)} (hq : q ≠ []) : lineW m s (oldW :: b :: q) = (⟨moreT m.old (toB b) (toB (s.drop (3 + b.length + 2))), m.new⟩, toldS okW (moreFault m.old (toB b) (toB (s.drop (3 + b.length + 2))))) := by
  obtain ⟨c, t, rfl⟩ := List.exists_cons_of_ne_nil hq
  unfold lineW
  rw [if_pos ⟨by simp, rfl⟩, show 4 + (arg1 (oldW :: b :: c :: t)).length + 1 = 3 + b.length + 2 by show 4 + b.length + 1 = _; omega]
  rfl
theorem lineW_new {m : Ses} {s b : List UInt8} {q : List (List UInt8)} (hq : q ≠ []) : lineW m s (newW :: b :: q) = (⟨m.old, moreT m.new (toB b) (toB (s.drop (3 + b.length + 2)))⟩, toldS okW (moreFault m.new (toB b) (toB (s.drop (3 + b.length + 2))))) := by
  obtain ⟨c, t, rfl⟩ := List.exists_cons_of_ne_nil hq
  unfold lineW
  rw [if_neg (fun h => absurd h.2 (show ¬ newW = oldW by decide)), if_pos ⟨by simp, rfl⟩, show 4 + (arg1 (newW :: b :: c :: t)).length + 1 = 3 + b.length + 2 by show 4 + b.length + 1 = _; omega]
  rfl
theorem lineW_bad {m : Ses} {s a : List UInt8} {q : List (List UInt8)} (h1 : ¬ (3 ≤ (a :: q).length ∧ (a = oldW ∨ a = newW))) (h2 : manyW a ≠ (a :: q).length) : lineW m s (a :: q) = (m, badL) := by
  have k1 : ¬ (3 ≤ (a :: q).length ∧ (a :: q).headD [] = oldW) := fun h => h1 ⟨h.1, .inl h.2⟩
  have k2 : ¬ (3 ≤ (a :: q).length ∧ (a :: q).headD [] = newW) := fun h => h1 ⟨h.1, .inr h.2⟩
  have k3 : ¬ (a :: q = [backW]) := fun h => h2 (by injection h with x y; subst x y; decide)
  have k4 : ¬ (a :: q = [sameW]) := fun h => h2 (by injection h with x y; subst x y; decide)
  have k : ∀ W, (W = dropW ∨ W = diffW ∨ W = farW ∨ W = goW) → ¬ ((a :: q).length = 2 ∧ (a :: q).headD [] = W) := fun W hW h => h2 (by
    have e : a = W := h.2
    subst e
    rw [h.1]; unfold manyW; rw [if_pos hW])
  unfold lineW
  rw [if_neg k1, if_neg k2, if_neg k3, if_neg k4, if_neg (k _ (.inl rfl)), if_neg (k _ (.inr (.inr (.inl rfl)))), if_neg (k _ (.inr (.inl rfl))), if_neg (k _ (.inr (.inr (.inr rfl))))]
theorem lineW_back {m : Ses} {s : List UInt8} : lineW m s [backW] = (⟨m.new, m.old⟩, okL) := by
  unfold lineW
  rw [if_neg (by simp), if_neg (by simp), if_pos rfl]
theorem lineW_same {m : Ses} {s : List UInt8} : lineW m s [sameW] = (m, if m.old = m.new then yesL else noL) := by
  unfold lineW
  rw [if_neg (by simp), if_neg (by simp), if_neg (by decide), if_pos rfl]
theorem two_words {a b W : List UInt8} (h : a ≠ W) : ¬ ([a, b].length = 2 ∧ [a, b].headD [] = W) := fun g => h g.2
theorem lineW_drop {m : Ses} {s p : List UInt8} : lineW m s [dropW, p] = (⟨m.old, dropT m.new (toB p)⟩, toldS okW (getFault m.new (toB p))) := by
  unfold lineW
  rw [if_neg (by simp), if_neg (by simp), if_neg (by simp), if_neg (by simp), if_pos ⟨rfl, rfl⟩]
  rfl
theorem lineW_far {m : Ses} {s p : List UInt8} : lineW m s [farW, p] = (m, if pathFault (toB p) = 0 then Lib.itoa (far (linesIn m.old (toB p)) (linesIn m.new (toB p))) ++ [10] else toldS [] (pathFault (toB p))) := by
  unfold lineW
  rw [if_neg (by simp), if_neg (by simp), if_neg (by simp), if_neg (by simp), if_neg (two_words (by decide)), if_pos ⟨rfl, rfl⟩]
  rfl
theorem lineW_diff {m : Ses} {s p : List UInt8} : lineW m s [diffW, p] = (m, match numM 4 p with | some n => diffS m n | none => badL) := by
  unfold lineW
  rw [if_neg (by simp), if_neg (by simp), if_neg (by simp), if_neg (by simp), if_neg (two_words (by decide)), if_neg (two_words (by decide)), if_pos ⟨rfl, rfl⟩]
  rfl
theorem lineW_go {m : Ses} {s p : List UInt8} : lineW m s [goW, p] = (match numM 4 p with | some n => goS m n | none => (m, badL)) := by
  unfold lineW
  rw [if_neg (by simp), if_neg (by simp), if_neg (by simp), if_neg (by simp), if_neg (two_words (by decide)), if_neg (two_words (by decide)), if_neg (two_words (by decide)), if_pos ⟨rfl, rfl⟩]
  rfl
theorem many_cases {a : List UInt8} {q : List (List UInt8)} (h : manyW a = (a :: q).length) :
    (a = backW ∧ q = []) ∨ (a = sameW ∧ q = []) ∨ ∃ p, q = [p] ∧ (a = dropW ∨ a = diffW ∨ a = farW ∨ a = goW) := by
  unfold manyW at h
  split at h
  · rename_i g
    match q, h with
    | [p], _ => exact .inr (.inr ⟨p, rfl, g⟩)
  · split at h
    · rename_i g
      match q, h with
      | [], _ => exact g.elim (fun x => .inr (.inl ⟨x, rfl⟩)) (fun x => .inl ⟨x, rfl⟩)
    · simp at h

theorem errText_len (k : Int) : (errText k).length ≤ 10 := by
  unfold errText
  repeat' split
  all_goals decide
theorem toldS_len {s : List UInt8} (h : s.length ≤ 1000) (k : Int) : (toldS s k).length ≤ 1011 := by
  unfold toldS
  have := errText_len k
  split <;> simp <;> omega
theorem blank_len (s : List UInt8) : (blankL s).length ≤ 2 * s.length := by
  have h1 := congrArg List.length (parts_flat 10 s)
  rw [List.length_append] at h1
  have h2 : ∀ l : List (List UInt8), ((l.map fun x => 32 :: (x ++ [10])).flatten).length ≤ 2 * ((l.map fun x => x ++ [10]).flatten).length := by
    intro l
    induction l with
    | nil => simp
    | cons x l ih =>
      simp only [List.map_cons, List.flatten_cons, List.length_append, List.length_cons, List.length_nil]
      omega
  have := h2 (parts 10 s).dropLast
  unfold blankL
  omega
theorem diff_text_len {m : Ses} (h : SesOk m) {n : Nat} (hn : n ≤ 1000) : (textG (diffL n m.old m.new)).length ≤ 181440 := by
  have hp := (diff_leads h.1 h.2 (n := (n : Int)) (by omega) (by omega)).1
  have := (changes_ok _ hp.2.1).2
  have := hp.1
  omega
theorem diffS_len {m : Ses} (h : SesOk m) (n : Nat) : (diffS m n).length ≤ 362900 := by
  unfold diffS
  split
  · rename_i hn
    have h1 := diff_text_len h hn
    have h2 := blank_len (textG (diffL n m.old m.new))
    rw [List.length_append]
    have : okL.length = 3 := rfl
    omega
  · have := toldS_len (s := []) (by simp) 1
    omega
theorem linesIn_fine {t : List File} (h : Tree t) (p : ByteArray) : linesFault (linesIn t p) = 0 := by
  unfold linesIn
  cases e : look t p with
  | none => rfl
  | some l => exact (tree_linesAt h p l e).1
theorem linesIn_len {t : List File} (h : Tree t) (p : ByteArray) : (linesIn t p).length ≤ 60 := (linesFault_zero.1 (linesIn_fine h p)).1
theorem farIn_le {m : Ses} (h : SesOk m) (p : ByteArray) : far (linesIn m.old p) (linesIn m.new p) ≤ 120 := by
  have h1 := linesIn_len h.1 p
  have h2 := linesIn_len h.2 p
  have := far_le (linesIn m.old p) (linesIn m.new p)
  omega
theorem lineS_len {m : Ses} (h : SesOk m) (s : List UInt8) : (lineS m s).2.length ≤ 362900 := by
  unfold lineS
  generalize parts 32 s = w
  have hok : okW.length ≤ 1000 := by decide
  have hb : badL.length ≤ 362900 := by decide
  unfold lineW
  split
  · exact Nat.le_trans (toldS_len hok _) (by decide)
  split
  · exact Nat.le_trans (toldS_len hok _) (by decide)
  split
  · show okL.length ≤ 362900; decide
  split
  · show (if m.old = m.new then yesL else noL).length ≤ 362900
    split <;> decide
  split
  · exact Nat.le_trans (toldS_len hok _) (by decide)
  split
  · show (if pathFault _ = 0 then _ else _ : List UInt8).length ≤ 362900
    split
    · have h1 := farIn_le h (toB (arg1 w))
      have h2 := (digits_len (far (linesIn m.old (toB (arg1 w))) (linesIn m.new (toB (arg1 w)))) 2 (by omega)).1
      rw [itoa_nat]
      simp only [List.length_append, List.length_cons, List.length_nil]
      omega
    · exact Nat.le_trans (toldS_len (s := []) (by simp) _) (by decide)
  split
  · split
    · exact diffS_len h _
    · exact hb
  split
  · split
    · rename_i n _
      unfold goS
      split
      · exact Nat.le_trans (toldS_len hok _) (by decide)
      · exact Nat.le_trans (toldS_len (s := []) (by simp) _) (by decide)
    · exact hb
  · exact hb
end Go.Proofs.YtmjpfoeaobdaeaaGreatDoor
namespace Go.Proofs.YtmjpfoeaobdaeaaGreatDoor
open Go.RowKit Go.Shelf
attribute [local go_sem] Oper.semAt_some

def chunksL (s : List UInt8) : List ByteArray := (parts 10 s).dropLast.map fun x => toB (x ++ [10])
theorem chunks_nil : chunksL [] = [] := rfl
theorem chunks_cut {a : List UInt8} (r : List UInt8) (h : ∀ x ∈ a, x ≠ 10) : chunksL (a ++ 10 :: r) = toB (a ++ [10]) :: chunksL r := by
  unfold chunksL
  rw [parts_cut r h]
  obtain ⟨y, t, e⟩ := List.exists_cons_of_ne_nil (parts_ne 10 r)
  rw [e, List.dropLast_cons_of_ne_nil (by simp), ← e]
  try rfl
theorem chunks_blank (s : List UInt8) : ((chunksL s).map fun x => 32 :: x.data.toList).flatten = blankL s := by
  unfold chunksL blankL
  rw [List.map_map]
  exact congrArg List.flatten (List.map_congr_left fun x _ => by
    show 32 :: (toB (x ++ [10])).data.toList = _
    rw [toB_data])
theorem whole_cut {a r : List UInt8} (h : Whole (a ++ 10 :: r)) : Whole r := by
  rcases h with h | h
  · exact absurd h (by simp)
  · cases r with
    | nil => exact Or.inl rfl
    | cons y r =>
      right
      rw [List.getLast?_append, List.getLast?_cons_cons] at h
      cases e : (y :: r).getLast? with
      | none => simp at e
      | some z => rw [e] at h; exact h
theorem whole_step {s : List UInt8} (h : Whole s) (hne : s ≠ []) : ∃ a r, s = a ++ 10 :: r ∧ (∀ x ∈ a, x ≠ 10) ∧ Whole r := by
  rcases cut10 s with g | ⟨a, r, rfl, g⟩
  · rcases h with h | h
    · exact absurd h hne
    · exact absurd rfl (g 10 (List.mem_of_getLast? h))
  · exact ⟨a, r, rfl, g, whole_cut h⟩
theorem index_line {a : List UInt8} (r : List UInt8) (h : ∀ x ∈ a, x ≠ 10) : Lib.indexByte (a ++ 10 :: r) 10 = (a.length : Int) := by
  rw [← Lib.index_one]
  have := cut_index (t := [10]) (by simp) (a ++ 10 :: r)
  rw [csub_at r h] at this
  exact this.1
def leftAt (B : Nat) (w : World) : Nat := match w.cell? ⟨B, 0, none⟩ with
  | some (.string s) => s.size
  | _ => 0
theorem leftAt_eq {B : Nat} {w : World} {s : ByteArray} (h : w.cell? ⟨B, 0, none⟩ = some (.string s)) : leftAt B w = s.size := by unfold leftAt; rw [h]
set_option maxHeartbeats 2000000 in
set_option maxRecDepth 100000 in
theorem lines_gives (n : Nat) (hn : 1 ≤ n) (s : List UInt8) (hs : Whole s) (hsz : s.length ≤ 1000000000) (B : Nat) (w : World) (hB : w.cell? ⟨B, 0, none⟩ = some (.string (toB s))) (hf : w.frozen? ⟨B, 0, none⟩ = false) :
    Gives n Tryz.prog 112 #[.pointer (some ⟨B, 0, none⟩)] (fun x : ByteArray => Value.string x) B (chunksL s) w := by
  intro l J W hW hJs hJd hY h0
  have hBW := hW.cellNever hB
  have hfW := (hW.frozen (World.block_lt_of_cell? w ⟨B, 0, none⟩ hB) (fun x => x)).trans hf
  refine callsIn_of_wp Tryz.func112 rfl trivial ?_ rfl
  simp only [Tryz.ntmps112, List.size_toArray, List.length_cons, List.length_nil, Nat.reduceAdd, Nat.reduceSub, Array.replicate_succ, Array.replicate_zero, List.push_toArray, List.append_toArray, List.nil_append, List.cons_append]
  gi_wp2
  gi_loopw [3] (fun _ wr => ∃ (pre : List ByteArray) (r : List UInt8), chunksL s = pre ++ chunksL r ∧ Whole r ∧ r.length ≤ s.length ∧ J pre wr ∧ wr.cell? ⟨B, 0, none⟩ = some (.string (toB r)) ∧ wr.frozen? ⟨B, 0, none⟩ = false)
    (fun _ wr => leftAt B wr)
  case atStart =>
    exact ⟨[], s, rfl, hs, Nat.le_refl _, h0, hBW, hfW⟩
  case round =>
    obtain ⟨pre, r, hch, hwr, hrl, hJ, hcr, hfr⟩ := hrel
    rename World => wr
    by_cases hne : r = []
    · subst hne
      have t0 : decide ((0 : Int) < ((toB []).size : Int)) = false := by decide
      gi_wp2
      go_end0
      rw [chunks_nil, List.append_nil] at hch
      exact ⟨⟨_, rfl⟩, by rw [hch]; exact hJ⟩
    · obtain ⟨a, q, rfl, ha, hwq⟩ := whole_step hwr hne
      have hix := index_line q ha
      have hlen : (a ++ 10 :: q).length = a.length + 1 + q.length := by simp; omega
      have hsz2 : (toB (a ++ 10 :: q)).size = a.length + 1 + q.length := by rw [Lib.size_eq, toB_data, hlen]
      have t0 : decide ((0 : Int) < ((toB (a ++ 10 :: q)).size : Int)) = true := by rw [hsz2]; exact decide_eq_true (by omega)
      have hIX : ∀ wx, Calls Tryz.prog 113 #[.string (toB (a ++ 10 :: q)), .int .u8 10] wx fun e w' => e = .returned (.int .i64 (a.length : Int)) ∧ w' = wx := fun wx => by
        refine (Tryz.strings_IndexByte (toB (a ++ 10 :: q)) 10 wx).mono ?_
        rintro e w' ⟨rfl, rfl⟩
        refine ⟨?_, rfl⟩
        rw [toB_data]
        exact congrArg (fun k => Ending.returned (.int .i64 k)) hix
      have hx1 : (toB (a ++ 10 :: q)).extract 0 (a.length + 1) = toB (a ++ [10]) := by
        apply ByteArray.ext
        apply Array.toList_inj.1
        rw [Lib.extract_from_zero, toB_data, toB_data]
        have e : a ++ 10 :: q = (a ++ [10]) ++ q := by simp
        rw [e]
        exact List.take_left' (by simp)
      have hx2 : (toB (a ++ 10 :: q)).extract (a.length + 1) (toB (a ++ 10 :: q)).size = toB q := by
        apply ByteArray.ext
        apply Array.toList_inj.1
        rw [Lib.extract_to_end, toB_data, toB_data]
        have e : a ++ 10 :: q = (a ++ [10]) ++ q := by simp
        rw [e]
        exact List.drop_left' (by simp)
      have s1 : IntKind.i64.wrap ((a.length : Int) + 1) = (a.length : Int) + 1 := IntWalk.i64_in _ (by omega)
      have HCH := Lib.hid (chunks_cut q ha)
      generalize hR : toB (a ++ 10 :: q) = R at hsz2 t0 hIX hx1 hx2 hcr
      rw [hsz2] at hx2
      have hRs : a.length + 1 ≤ R.size := by omega
      have HL1 := Lib.hid hrl
      have HL2 := Lib.hid hlen
      have HSZ := Lib.hid hsz2
      have HX1 := Lib.hid hx1
      have HX2 := Lib.hid hx2
      have HCC := Lib.hid hch
      clear hix hne hwr ha hR hlen hrl hch hx1 hx2
      have hmx : Tryz.prog.follows .mixedOrders = true := by kernel_rfl
      gi_wp2_with (refine ⟨trivial, ?_⟩; gi_at_call 113; refine (callsIn_wide.2 (hIX _)).mono ?_; rintro e w' ⟨rfl, rfl⟩)
      have hb1 : (0 : Int) ≤ (a.length : Int) + 1 := by omega
      have hb2 : (a.length : Int) + 1 ≤ (a.length : Int) + 1 + (q.length : Int) := by omega
      have hJ2 : J pre (w'.setCell ⟨B, 0, none⟩ (.string (toB q))).drew := hJd _ _ (hJs _ _ _ hJ)
      have hc2 : (w'.setCell ⟨B, 0, none⟩ (.string (toB q))).drew.cell? ⟨B, 0, none⟩ = some (.string (toB q)) := World.cell?_setCell_same' _ _ _ (by rw [hcr]; rfl)
      have hf2 : (w'.setCell ⟨B, 0, none⟩ (.string (toB q))).drew.frozen? ⟨B, 0, none⟩ = false := (World.frozen?_setCell _ _ _ _).trans hfr
      have hms : Hid (leftAt B w' = R.size) := leftAt_eq hcr
      obtain ⟨fn, tmps, assign, body, hy, hR⟩ := hY pre (toB (a ++ [10])) (w'.setCell ⟨B, 0, none⟩ (.string (toB q))).drew hJ2 ⟨chunksL q, by rw [HCC.out, HCH.out]⟩
      gi_region_with_o (fail)
      all_goals rw [HX1.out, HX2.out]
      all_goals gi_wp2
      all_goals refine hR.mono ?_
      all_goals rintro e W3 ⟨rfl, hJ3, hk3⟩
      all_goals gi_wp2
      all_goals go_roundw
      all_goals first
        | exact ⟨pre ++ [toB (a ++ [10])], q, by rw [HCC.out, HCH.out, List.append_assoc]; rfl, hwq, by have := HL1.out; have := HL2.out; omega, hJ3, hk3.1.trans hc2, hk3.2.trans hf2⟩
        | (rw [hms.out, leftAt_eq (hk3.1.trans hc2), Lib.size_eq, toB_data, HSZ.out]; omega)
end Go.Proofs.YtmjpfoeaobdaeaaGreatDoor
