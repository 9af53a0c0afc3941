/-
  PARTS: A ROW OF PARTS OF A SERIES: what its cells read as.; THE WALKS of match.apart, alone, and of the document's differ.; THE WALK of git.Print.; THE WALKS of match.cost and texts.; THE WALK of series.Open.; SERIES, in plain Lean (chapter 13): a mail's part as the document reads it, and as the program does.; THE WALK of the document's Find (light: no function of layers 1 to 9).; THE WALK of the document's Number (handstitchref2).; THE WALK of the document's spanOf (handstitchref2).; THE WALKS of the document's Starts, Ends (light: no function of layers 1 to 9).; THE WALK of the document's headOf (handstitchref2).
-/
import Derived.Test.YtjiaidchcldocaaGreatDoorPf9
import Derived.Test.YtjiaidchcldocaaGreatDoorPf2
import Derived.Test.YtjiaidchcldocaaGreatDoorPf7
import Derived.Test.YtjiaidchcldocaaGreatDoorPf1
import Derived.Deep.QuietTactic
import Derived.BigQuiet
import Derived.Test.YtjiaidchcldocaaGreatDoorPf8
import Derived.Test.YtjiaidchcldocaaGreatDoorPf5
import Derived.Test.YtjiaidchcldocaaGreatDoorPf6
import Derived.Test.YtjiaidchcldocaaGreatDoorPf4
import Derived.Deep.RegionHeld3
import Derived.Test.YtjiaidchcldocaaGreatDoorPf3
set_option linter.unusedVariables false
set_option linter.unusedSimpArgs false
namespace Go.Proofs.YtjiaidchcldocaaGreatDoor
open Go.RowKit

instance : Dat Piece where
  n := 4
  rd w O cs x := ∃ v, cs = [.string (toB x.title), .int .i64 x.at', .int .i64 x.many, v] ∧ PieceOk x ∧ Dat.rd w O [v] x.patch
  bulk x := Dat.bulk x.patch + 30
  pos := by decide
  len := by rintro _ _ _ _ ⟨v, rfl, _⟩; rfl
  one := by
    rintro _ _ _ _ ⟨v, rfl, _, hv⟩ u hu
    simp only [List.mem_cons, List.not_mem_nil, or_false] at hu
    rcases hu with rfl | rfl | rfl | rfl
    · rfl
    · rfl
    · rfl
    · exact Dat.one hv _ (by simp)
  keep := by
    rintro w w' O O' O'' cs l ⟨v, rfl, hp, h⟩ hc k1 k2
    exact ⟨v, rfl, hp, Dat.keep h hc k1 k2⟩
theorem elems_part {w : World} {O : Nat → Prop} {a : Option Addr} {l : List Piece} (h : Elems w O a l) {i : Nat} {x : Piece} (hx : l[i]? = some x) :
    ∃ b off v, a = some ⟨b, off, none⟩ ∧ ¬ O b ∧ b < w.heap.size ∧ w.cell? ⟨b, off + i * 4, none⟩ = some (.string (toB x.title)) ∧ w.cell? ⟨b, off + i * 4 + 1, none⟩ = some (.int .i64 x.at') ∧ w.cell? ⟨b, off + i * 4 + 2, none⟩ = some (.int .i64 x.many) ∧ w.cell? ⟨b, off + i * 4 + 3, none⟩ = some v ∧ PieceOk x ∧ Rdv w O v x.patch := by
  obtain ⟨b, off, es, ha, hb, hcs, v, rfl, hp, hv⟩ := h i x hx
  refine ⟨b, off, v, ha, hb, hcs.lt (by simp), ?_, ?_, ?_, ?_, hp, hv⟩
  · simpa [Dat.n] using hcs 0 _ rfl
  · simpa [Dat.n] using hcs 1 _ rfl
  · simpa [Dat.n] using hcs 2 _ rfl
  · simpa [Dat.n] using hcs 3 _ rfl
theorem elemOk_part : ElemOk Tryz.prog 99 97 4 := elemOk_of Tryz.underlying99 (z := .agg #[.string ⟨#[]⟩, .int .i64 0, .int .i64 0, .slice none 0 0]) (b := 56) (by kernel_rfl) rfl (by decide)
def Holds (w : World) (ps : List Piece) (F : Int → Option Value) : Prop := ∀ j : Nat, match foundAt ps j with
  | none => F j = none
  | some x => ∃ v, F j = some (partV (toB x.title) x.at' x.many v) ∧ Rdv w Never v x.patch
theorem holds_nil (w : World) : Holds w [] (fun _ => none) := fun _ => rfl
theorem Holds.never {w w' : World} {ps : List Piece} {F : Int → Option Value} (h : Holds w ps F) (hc : Chg Never w w') : Holds w' ps F := fun j => by
  have := h j
  cases e : foundAt ps j with
  | none => rw [e] at this; exact this
  | some x =>
    rw [e] at this
    obtain ⟨v, h1, h2⟩ := this
    exact ⟨v, h1, h2.never hc⟩
theorem Holds.gone {w : World} {ps : List Piece} {F : Int → Option Value} (h : Holds w ps F) {j : Nat} (hn : j ∉ ps.map (·.at')) : F j = none := by
  have := h j
  rw [found_none hn] at this
  exact this
theorem Holds.here {w : World} {ps : List Piece} {F : Int → Option Value} (h : Holds w ps F) {j : Nat} (hn : j ∈ ps.map (·.at')) : ∃ x v, foundAt ps j = some x ∧ x.at' = j ∧ F j = some (partV (toB x.title) x.at' x.many v) ∧ Rdv w Never v x.patch := by
  obtain ⟨x, e, hx⟩ := found_mem hn
  have := h j
  rw [e] at this
  obtain ⟨v, h1, h2⟩ := this
  exact ⟨x, v, e, hx, h1, h2⟩
theorem Holds.patch {w : World} {ps : List Piece} {F : Int → Option Value} (h : Holds w ps F) (j : Nat) : ∃ (t : ByteArray) (a b : Int) (v : Value), (F j).getD zeroPart = partV t a b v ∧ Rdv w Never v (getP ps j) := by
  have := h j
  rw [get_found]
  cases e : foundAt ps j with
  | none =>
    rw [e] at this
    exact ⟨_, _, _, _, by rw [this]; rfl, rdv_nil _ _⟩
  | some x =>
    rw [e] at this
    obtain ⟨v, h1, h2⟩ := this
    exact ⟨_, _, _, _, by rw [h1]; rfl, h2⟩
theorem Holds.step {w : World} {ps : List Piece} {k : Nat} {y : Piece} {F : Int → Option Value} {v : Value} (h : Holds w (ps.take k) F) (hy : ps[k]? = some y) (hn : y.at' ∉ (ps.take k).map (·.at')) (hv : Rdv w Never v y.patch) :
    Holds w (ps.take (k + 1)) (fun i => if i = (y.at' : Int) then some (partV (toB y.title) y.at' y.many v) else F i) := fun j => by
  rw [found_step hy hn]
  by_cases e : j = y.at'
  · subst e
    rw [if_pos rfl]
    exact ⟨v, if_pos rfl, hv⟩
  · rw [if_neg e]
    have := h j
    cases q : foundAt (ps.take k) j with
    | none =>
      rw [q] at this
      show (if (j : Int) = (y.at' : Int) then _ else F j) = _
      rw [if_neg (by omega)]
      exact this
    | some x =>
      rw [q] at this
      obtain ⟨u, h1, h2⟩ := this
      exact ⟨u, by show (if (j : Int) = (y.at' : Int) then _ else F j) = _; rw [if_neg (by omega)]; exact h1, h2⟩
end Go.Proofs.YtjiaidchcldocaaGreatDoor
namespace Go.Proofs.YtjiaidchcldocaaGreatDoor
open Go.RowKit

end Go.Proofs.YtjiaidchcldocaaGreatDoor
namespace Go.Proofs.YtjiaidchcldocaaGreatDoor
open Go.RowKit

def gitR (p : List Change) : ByteArray := if (patchFault p).2 = 0 then toB (textG p) else ByteArray.empty
theorem textG_take {p : List Change} {k : Nat} {x : Change} (hx : p[k]? = some x) : textG (p.take (k + 1)) = textG (p.take k) ++ (mmL ++ fromL x.what x.path.data.toList ++ [10] ++ (ppL ++ toL x.what x.path.data.toList ++ [10]) ++ textU x.hunks) := by
  unfold textG linesG textU
  rw [List.take_add_one, hx, Option.toList_some, List.flatMap_append, textL_app]
  congr 1
  simp only [List.flatMap_cons, List.flatMap_nil, List.append_nil]
  show textL ((mmL ++ fromL x.what x.path.data.toList) :: (ppL ++ toL x.what x.path.data.toList) :: linesU x.hunks) = _
  simp [textL]
theorem textG_mono {p : List Change} {k : Nat} : (textG (p.take k)).length ≤ (textG p).length := by
  conv => rhs; rw [← List.take_append_drop k p]
  unfold textG linesG
  rw [List.flatMap_append, textL_app, List.length_append]
  omega
theorem two_lines (f t : List UInt8) : toB mmL ++ toB f ++ toB [10, 43, 43, 43, 32] ++ toB t ++ toB [10] = toB (mmL ++ f ++ [10] ++ (ppL ++ t ++ [10])) := by
  apply ByteArray.ext
  apply Array.toList_inj.1
  simp only [bytes_append, toB_data]
  unfold ppL
  simp
theorem patch_each {p : List Change} (e : (patchFault p).2 = 0) : p.length ≤ 16 ∧ ∀ c ∈ p, changeFault c = 0 := by
  unfold patchFault at e
  by_cases h : 16 < p.length
  · rw [if_pos h] at e; cases e
  · rw [if_neg h] at e
    exact ⟨by omega, (patchGo_zero p 0 none e).1⟩

theorem gp_str (w : Int) (path F T : ByteArray) (hF : F = toB (fromL w path.data.toList)) (hT : T = toB (toL w path.data.toList)) :
    (⟨#[45, 45, 45, 32]⟩ : ByteArray) ++ F ++ ⟨#[10, 43, 43, 43, 32]⟩ ++ T ++ ⟨#[10]⟩ = toB (mmL ++ fromL w path.data.toList ++ [10] ++ (ppL ++ toL w path.data.toList ++ [10])) := by
  subst hF hT
  exact two_lines _ _
theorem gp_pre (a b : UInt8) (path : ByteArray) : (⟨#[a, b]⟩ : ByteArray) ++ path = toB ([a, b] ++ path.data.toList) := by
  apply ByteArray.ext
  apply Array.toList_inj.1
  rw [bytes_append, toB_data]
set_option maxHeartbeats 2000000 in
set_option maxRecDepth 100000 in
theorem gitprint_any (p : List Change) (v : Value) (w : World) (h : Rdv w Never v p) (m : Int) (hm : w.cell? ⟨1, 0, none⟩ = some (.int .i64 m)) :
    Calls Tryz.prog 29 #[v] w fun e w' => e = .returned (.tuple #[.string (gitR p), errV (patchFault p).2]) ∧ Chg Never w w' := by
  by_cases hz : (patchFault p).2 = 0
  · obtain ⟨p16, pall⟩ := patch_each hz
    have hTL := (changes_ok p pall).2
    have HALL := Lib.hid pall
    have HZ := Lib.hid hz
    have HR : Hid (gitR p = ⟨(textG p).toArray⟩) := by unfold Hid gitR; rw [if_pos hz]; rfl
    have hv := h
    obtain ⟨a, cap, rfl, h1, h2, -⟩ := rdv_slice h
    unfold maxLen at h2
    clear hz pall h
    go_enter Tryz.func29, Tryz.ntmps29
    go_wp2_with fail
    refine (patch_check_any p _ _ hv m hm).mono ?_
    rintro e w1 ⟨rfl, hc1⟩
    rw [HZ.out, errV_zero]
    generalize (patchFault p).1 = at0
    go_wp2_with fail
    have hv1 : Rdv w1 (From w1.heap.size) (.slice a p.length cap) p := hv.keep hc1 (fun _ _ h => h.elim) (fun k hk h => by unfold From at h; have := hc1.size; omega)
    obtain ⟨a', cap', hq, -, -, h3⟩ := rdv_slice hv1
    injection hq with hq1 _ hq2
    subst hq1 hq2
    go_loopw [21] (fun i wr => ∃ k : Nat, k ≤ p.length ∧ i = .int .i64 k ∧ IsB w1.heap.size w1.heap.size (Lib.byteCells (textG (p.take k))) wr ∧ Below w1.heap.size w1 wr) (fun i _ => p.length - (intOf i).toNat)
    case atStart => exact ⟨0, Nat.zero_le _, rfl, Lib.IsBuilderF.of (Lib.fresh_isBuilder _ _ w1), (Below.refl _ w1).alloc (Nat.le_refl _) _⟩
    case round =>
      obtain ⟨k, hk, rfl, hI, hb⟩ := hrel
      rename World => wr
      have hbs := hb.size
      by_cases hlt : k < p.length
      · obtain ⟨x, hx⟩ : ∃ x, p[k]? = some x := ⟨p[k], by simp [hlt]⟩
        obtain ⟨b', off, mv, rfl, hnb, -, c0, c1, c2, hxp, hmv⟩ := elems_change h3 hx
        have hcb := chg_below hb
        have c0 := hcb.cell c0 hnb
        have c1 := hcb.cell c1 hnb
        have c2 := hcb.cell c2 hnb
        have hmr : Rdv wr (From w1.heap.size) mv x.hunks := hmv.keep hcb (fun _ _ h => h) (fun _ _ h => h)
        obtain ⟨ma, mc, rfl, -, -, -⟩ := rdv_slice hmv
        obtain ⟨x1, x2, x3⟩ := change_ok (HALL.out x (List.mem_of_getElem? hx))
        obtain ⟨xl, -⟩ := path_fine x2
        have X3 := Lib.hid x3
        obtain ⟨ff1, -, ff2, -⟩ := from_fine x.what (path_fine x2)
        have HT := Lib.hid (textG_take hx)
        have hTk := @textG_mono p k
        have hTk1 := @textG_mono p (k + 1)
        have hA : Chg Never wr (wr.alloc (.cells #[.int .i64 x.what, .string x.path, .slice ma x.hunks.length mc] 85)) := (Chg.refl Never wr).alloc _
        have hbox := Blk3.new wr 85 (.int .i64 x.what) (.string x.path) (.slice ma x.hunks.length mc)
        have hbne : wr.heap.size ≠ w1.heap.size := by
          have : w1.heap.size < wr.heap.size := hI.elim (fun q => q.lt) (fun q => q.lt)
          omega
        obtain ⟨g0, g1, g2⟩ := hbox.cell
        have hIA := bld_keep hI hA
        have hmA := hmr.never hA
        have hbA := hb.trans (hA.never.mono hbs)
        have hpz : x.path.size ≤ 20 := by rw [Lib.size_eq]; exact xl
        have n1 : ¬ (9223372036854775807 < 2 + x.path.size) := by omega
        clear hx h3 hI hmr hmv x2 x3 xl
        go_wp2_with fail
        clear c0 c1 c2
        generalize wr.alloc (.cells #[.int .i64 x.what, .string x.path, .slice ma x.hunks.length mc] 85) = wA at hA hbox g0 g1 g2 hIA hmA hbA ⊢
        go_quiet (fail)
        have hcd : Chg Never wA (wA.drewN nq) := (Chg.refl Never wA).drewN nq
        have hbox2 := hbox.keep hcd (fun h => h)
        have hI2 := bld_keep hIA hcd
        have hm2 := hmA.never hcd
        have hb2 := hbA.trans (hcd.never.mono (Nat.le_trans hbs hA.size))
        generalize wA.drewN nq = w2 at hbox2 hI2 hm2 hb2 ⊢
        obtain ⟨g0, g1, g2⟩ := hbox2.cell
        clear hcd hbox hIA hmA hbA hA
        have hbs' : w1.heap.size ≤ w1.heap.size := Nat.le_refl _
        rcases x1 with x1 | x1 | x1
        · have q2 : (x.what == 2) = false := by rw [x1]; rfl
          have q3 : (x.what == 3) = false := by rw [x1]; rfl
          have XW := Lib.hid x1
          have HS : Hid ((⟨#[45, 45, 45, 32]⟩ : ByteArray) ++ ((⟨#[97, 47]⟩ : ByteArray) ++ x.path) ++ ⟨#[10, 43, 43, 43, 32]⟩ ++ ((⟨#[98, 47]⟩ : ByteArray) ++ x.path) ++ ⟨#[10]⟩ = toB (mmL ++ fromL x.what x.path.data.toList ++ [10] ++ (ppL ++ toL x.what x.path.data.toList ++ [10]))) := gp_str _ _ _ _ (by (rw [XW.out]; exact gp_pre 97 47 x.path)) (by (rw [XW.out]; exact gp_pre 98 47 x.path))
          have hLl : (mmL ++ fromL x.what x.path.data.toList ++ [10] ++ (ppL ++ toL x.what x.path.data.toList ++ [10])).length ≤ 60 := by
            simp only [List.length_append, List.length_cons, List.length_nil] at ff1 ff2 ⊢
            omega
          have hFz : ((⟨#[97, 47]⟩ : ByteArray) ++ x.path : ByteArray).size ≤ 22 := by (rw [ByteArray.size_append]; show 2 + x.path.size ≤ 22; omega)
          have hTz : ((⟨#[98, 47]⟩ : ByteArray) ++ x.path : ByteArray).size ≤ 22 := by (rw [ByteArray.size_append]; show 2 + x.path.size ≤ 22; omega)
          clear x1
          go_wp2_with fail
          clear g0 g1 g2
          have hbl : (Lib.byteCells (textG (p.take k))).length ≤ 181440 := by rw [Lib.byteCells_length]; omega
          refine (bldk_string w1.heap.size w1.heap.size _ _ _ hI2 (by rw [HS.out, toB_size']; omega) (Nat.le_trans hbs' hb2.size)).mono ?_
          rintro e w4 ⟨rfl, hI4, b4, k4⟩
          rw [HS.out, cells_toB, ← Lib.byteCells_append] at hI4
          have hc4 := chg_below b4
          have hm4 : Rdv w4 (From w1.heap.size) (.slice ma x.hunks.length mc) x.hunks := hm2.keep hc4 (fun _ _ h => h) (fun _ _ h => h)
          obtain ⟨-, -, g2⟩ := (k4.blk3 hbox2 hbne (by decide)).cell
          have hb4 := hb2.trans b4
          clear hm2 hI2 k4 hbox2 HS hc4
          go_wp2_with fail
          clear g2
          refine (write_any w1.heap.size w1.heap.size _ x.hunks _ _ hm4 (.inr hI4) X3.out (by rw [Lib.byteCells_length, List.length_append]; rw [Lib.byteCells_length] at hbl; omega) (Nat.le_trans hbs' hb4.size)).mono ?_
          rintro e w5 ⟨rfl, hI5, b5⟩
          rw [← Lib.byteCells_append, List.append_assoc, ← HT.out] at hI5
          go_wp2_with fail
          go_roundw
          case rel => exact ⟨k + 1, by omega, by go_num, hI5, hb4.trans b5⟩
          case measure => simp [intOf]; omega
        · have q2 : (x.what == 2) = true := by rw [x1]; rfl
          have q3 : (x.what == 3) = false := by rw [x1]; rfl
          have XW := Lib.hid x1
          have HS : Hid ((⟨#[45, 45, 45, 32]⟩ : ByteArray) ++ ((⟨#[47, 100, 101, 118, 47, 110, 117, 108, 108]⟩ : ByteArray)) ++ ⟨#[10, 43, 43, 43, 32]⟩ ++ ((⟨#[98, 47]⟩ : ByteArray) ++ x.path) ++ ⟨#[10]⟩ = toB (mmL ++ fromL x.what x.path.data.toList ++ [10] ++ (ppL ++ toL x.what x.path.data.toList ++ [10]))) := gp_str _ _ _ _ (by (rw [XW.out]; rfl)) (by (rw [XW.out]; exact gp_pre 98 47 x.path))
          have hLl : (mmL ++ fromL x.what x.path.data.toList ++ [10] ++ (ppL ++ toL x.what x.path.data.toList ++ [10])).length ≤ 60 := by
            simp only [List.length_append, List.length_cons, List.length_nil] at ff1 ff2 ⊢
            omega
          have hFz : ((⟨#[47, 100, 101, 118, 47, 110, 117, 108, 108]⟩ : ByteArray) : ByteArray).size ≤ 22 := by decide
          have hTz : ((⟨#[98, 47]⟩ : ByteArray) ++ x.path : ByteArray).size ≤ 22 := by (rw [ByteArray.size_append]; show 2 + x.path.size ≤ 22; omega)
          clear x1
          go_wp2_with fail
          clear g0 g1 g2
          have hbl : (Lib.byteCells (textG (p.take k))).length ≤ 181440 := by rw [Lib.byteCells_length]; omega
          refine (bldk_string w1.heap.size w1.heap.size _ _ _ hI2 (by rw [HS.out, toB_size']; omega) (Nat.le_trans hbs' hb2.size)).mono ?_
          rintro e w4 ⟨rfl, hI4, b4, k4⟩
          rw [HS.out, cells_toB, ← Lib.byteCells_append] at hI4
          have hc4 := chg_below b4
          have hm4 : Rdv w4 (From w1.heap.size) (.slice ma x.hunks.length mc) x.hunks := hm2.keep hc4 (fun _ _ h => h) (fun _ _ h => h)
          obtain ⟨-, -, g2⟩ := (k4.blk3 hbox2 hbne (by decide)).cell
          have hb4 := hb2.trans b4
          clear hm2 hI2 k4 hbox2 HS hc4
          go_wp2_with fail
          clear g2
          refine (write_any w1.heap.size w1.heap.size _ x.hunks _ _ hm4 (.inr hI4) X3.out (by rw [Lib.byteCells_length, List.length_append]; rw [Lib.byteCells_length] at hbl; omega) (Nat.le_trans hbs' hb4.size)).mono ?_
          rintro e w5 ⟨rfl, hI5, b5⟩
          rw [← Lib.byteCells_append, List.append_assoc, ← HT.out] at hI5
          go_wp2_with fail
          go_roundw
          case rel => exact ⟨k + 1, by omega, by go_num, hI5, hb4.trans b5⟩
          case measure => simp [intOf]; omega
        · have q2 : (x.what == 2) = false := by rw [x1]; rfl
          have q3 : (x.what == 3) = true := by rw [x1]; rfl
          have XW := Lib.hid x1
          have HS : Hid ((⟨#[45, 45, 45, 32]⟩ : ByteArray) ++ ((⟨#[97, 47]⟩ : ByteArray) ++ x.path) ++ ⟨#[10, 43, 43, 43, 32]⟩ ++ ((⟨#[47, 100, 101, 118, 47, 110, 117, 108, 108]⟩ : ByteArray)) ++ ⟨#[10]⟩ = toB (mmL ++ fromL x.what x.path.data.toList ++ [10] ++ (ppL ++ toL x.what x.path.data.toList ++ [10]))) := gp_str _ _ _ _ (by (rw [XW.out]; exact gp_pre 97 47 x.path)) (by (rw [XW.out]; rfl))
          have hLl : (mmL ++ fromL x.what x.path.data.toList ++ [10] ++ (ppL ++ toL x.what x.path.data.toList ++ [10])).length ≤ 60 := by
            simp only [List.length_append, List.length_cons, List.length_nil] at ff1 ff2 ⊢
            omega
          have hFz : ((⟨#[97, 47]⟩ : ByteArray) ++ x.path : ByteArray).size ≤ 22 := by (rw [ByteArray.size_append]; show 2 + x.path.size ≤ 22; omega)
          have hTz : ((⟨#[47, 100, 101, 118, 47, 110, 117, 108, 108]⟩ : ByteArray) : ByteArray).size ≤ 22 := by decide
          clear x1
          go_wp2_with fail
          clear g0 g1 g2
          have hbl : (Lib.byteCells (textG (p.take k))).length ≤ 181440 := by rw [Lib.byteCells_length]; omega
          refine (bldk_string w1.heap.size w1.heap.size _ _ _ hI2 (by rw [HS.out, toB_size']; omega) (Nat.le_trans hbs' hb2.size)).mono ?_
          rintro e w4 ⟨rfl, hI4, b4, k4⟩
          rw [HS.out, cells_toB, ← Lib.byteCells_append] at hI4
          have hc4 := chg_below b4
          have hm4 : Rdv w4 (From w1.heap.size) (.slice ma x.hunks.length mc) x.hunks := hm2.keep hc4 (fun _ _ h => h) (fun _ _ h => h)
          obtain ⟨-, -, g2⟩ := (k4.blk3 hbox2 hbne (by decide)).cell
          have hb4 := hb2.trans b4
          clear hm2 hI2 k4 hbox2 HS hc4
          go_wp2_with fail
          clear g2
          refine (write_any w1.heap.size w1.heap.size _ x.hunks _ _ hm4 (.inr hI4) X3.out (by rw [Lib.byteCells_length, List.length_append]; rw [Lib.byteCells_length] at hbl; omega) (Nat.le_trans hbs' hb4.size)).mono ?_
          rintro e w5 ⟨rfl, hI5, b5⟩
          rw [← Lib.byteCells_append, List.append_assoc, ← HT.out] at hI5
          go_wp2_with fail
          go_roundw
          case rel => exact ⟨k + 1, by omega, by go_num, hI5, hb4.trans b5⟩
          case measure => simp [intOf]; omega
      · rw [List.take_of_length_le (by omega)] at hI
        go_wp2_with fail
        refine (Tryz.Builder_String_any_k w1.heap.size w1.heap.size (textG p) _ hI hbs).mono ?_
        rintro e w4 ⟨rfl, _, b4, _⟩
        go_wp2_with fail
        go_ret2
        exact ⟨by rw [HR.out, HZ.out]; rfl, hc1.trans (Chg.of_below (hb.trans b4))⟩
  · have HR : Hid (gitR p = ByteArray.empty) := if_neg hz
    have HZ := Lib.hid hz
    obtain ⟨a, cap, rfl, -, -, -⟩ := rdv_slice h
    go_enter Tryz.func29, Tryz.ntmps29
    go_wp2_with fail
    refine (patch_check_any p _ _ h m hm).mono ?_
    rintro e w1 ⟨rfl, hc1⟩
    rw [errV_pos hz]
    generalize (patchFault p).1 = at0
    clear hz
    go_wp2_with fail
    go_ret2
    exact ⟨by rw [HR.out, errV_pos HZ.out]; rfl, hc1⟩
end Go.Proofs.YtjiaidchcldocaaGreatDoor
namespace Go.Proofs.YtjiaidchcldocaaGreatDoor
open Go.RowKit

theorem firstOf_from {α : Type} {f : α → Int} {l : List α} {k : Nat} {x : α} (h : firstOf f (l.drop k) = firstOf f l) (hx : l[k]? = some x) : (f x = 0 → firstOf f (l.drop (k + 1)) = firstOf f l) ∧ (f x ≠ 0 → firstOf f l = f x) := by
  rw [drop_eq hx, firstOf] at h
  constructor
  · intro e; rw [if_pos e] at h; exact h
  · intro e; rw [if_neg e] at h; exact h.symm
end Go.Proofs.YtjiaidchcldocaaGreatDoor
namespace Go.Proofs.YtjiaidchcldocaaGreatDoor
open Go.RowKit

theorem openMs_bad {l : List Mail} {k : Int} (h : firstOf pieceF l = k) (h0 : k ≠ 0) : openMs l = ([], [], k) := by
  unfold openMs
  rw [h, if_pos h0]
theorem openMs_ok {l : List Mail} (h : firstOf pieceF l = 0) : openMs l = openPs (l.map pieceOf) := by
  unfold openMs
  rw [h, if_neg (by simp)]
theorem opieces_take {l : List Mail} {i : Nat} {x : Mail} (hx : l[i]? = some x) : (l.take (i + 1)).map pieceOf = (l.take i).map pieceOf ++ [pieceOf x] := by
  rw [List.take_add_one, hx, Option.toList_some, List.map_append]; rfl
def SOpenPost (l : List Mail) (w : World) (e : Ending) (w' : World) : Prop := ∃ r, e = .returned (.tuple #[.string (toB (openMs l).1), r, errV (openMs l).2.2]) ∧ Chg Never w w' ∧ Rdv w' Never r (openMs l).2.1
theorem sopen_no {l : List Mail} {w w' : World} {e : Ending} {k : Int} (hk : openMs l = ([], [], k)) (he : e = .returned (.tuple #[.string ⟨#[]⟩, .slice none 0 0, errV k])) (hc : Chg Never w w') : SOpenPost l w e w' :=
  ⟨_, by rw [hk]; exact he, hc, by rw [hk]; exact rdv_nil _ _⟩
set_option maxHeartbeats 4000000 in
set_option maxRecDepth 100000 in
theorem sopen_any (l : List Mail) (v : Value) (w : World) (h : Rdv w Never v l) (hl9 : l.length ≤ 1000000000) (mx : Int) (hg : Globs w mx) :
    Calls Tryz.prog 12 #[v] w (SOpenPost l w) := by
  obtain ⟨a, cap, rfl, h1, h2, h3⟩ := rdv_slice h
  go_enter Tryz.func12, Tryz.ntmps12
  go_wp2_with fail
  go_loopw [3, 5, 20] (fun pv ov iv wr => pv = .slice none 0 0 ∧ ∃ i : Nat, i ≤ l.length ∧ iv = .int .i64 i ∧ OwnN 97 w wr ov ((l.take i).map pieceOf) ∧ Hid (firstOf pieceF (l.drop i) = firstOf pieceF l) ∧ Hid (∀ x ∈ l.take i, pieceF x = 0)) (fun _ _ iv _ => l.length - (intOf iv).toNat)
  case atStart => exact ⟨rfl, 0, Nat.zero_le _, rfl, ownN_nil _ (Chg.refl _ _), rfl, fun x hx => by cases hx⟩
  case round =>
    obtain ⟨rfl, i, hi, rfl, hn, hf, ha⟩ := hrel
    rename World => wr
    obtain ⟨va, vn, vc, rfl⟩ := own_isSlice hn.own
    by_cases hlt : i < l.length
    · obtain ⟨x, hx⟩ : ∃ x, l[i]? = some x := ⟨l[i], by simp [hlt]⟩
      obtain ⟨b, off, bv, rfl, _, _, c0, c1, c2, c3, z0, z1, z2, hv⟩ := elems_mail h3 hx
      have hcb := hn.chg
      have c0 := hcb.cellNever c0
      have c1 := hcb.cellNever c1
      have c2 := hcb.cellNever c2
      have c3 := hcb.cellNever c3
      obtain ⟨ba, bc, rfl, _, _, _⟩ := rdv_slice hv
      have hA : Chg Never wr (wr.alloc (.cells #[.string x.sender, .string x.subject, .string x.ident, .slice ba x.body.length bc] 31)) := (Chg.refl Never wr).alloc _
      obtain ⟨_, g0, g1, g2, g3⟩ := box1_mail wr 31 x.sender x.subject x.ident (.slice ba x.body.length bc) _ rfl
      have hvA := (hv.never hcb).never hA
      have hnA := hn.never hA
      have HX := Lib.hid hx
      obtain ⟨st1, st2⟩ := firstOf_from hf.out hx
      have HTK := Lib.hid (opieces_take hx)
      have hLl : ((l.take i).map pieceOf).length ≤ 1000000000 := by rw [List.length_map, List.length_take]; omega
      obtain ⟨Lp, hLp⟩ : ∃ Lp, (l.take i).map pieceOf = Lp := ⟨_, rfl⟩
      rw [hLp] at hn hnA HTK hLl
      clear hx h3 h hn hLp
      go_wp2_with fail
      clear c0 c1 c2 c3
      generalize wr.alloc (.cells #[.string x.sender, .string x.subject, .string x.ident, .slice ba x.body.length bc] 31) = wA at hA g0 g1 g2 g3 hvA hnA ⊢
      refine (sread_any x _ _ hvA ⟨z0, z1, z2⟩ mx (hg.never hnA.chg)).mono ?_
      rintro e w5 ⟨t, p, q, pv, L, rfl, hc5, hpv, hok⟩
      have hn5 := hnA.never hc5
      clear g0 g1 g2 g3 hA
      by_cases hz : pieceF x = 0
      · obtain ⟨rfl, rfl, rfl, rfl⟩ := hok hz
        have HS := Lib.hid (st1 hz)
        have HA2 : Hid (∀ y ∈ l.take (i + 1), pieceF y = 0) := fun y hy => by
          rw [List.take_add_one, HX.out, Option.toList_some] at hy
          rcases List.mem_append.1 hy with q | q
          · exact ha.out y q
          · rw [List.mem_singleton.1 q]; exact hz
        have HPO := Lib.hid (pieceOk_of hz)
        generalize pieceOf x = P at hpv HTK HPO ⊢
        rw [hz, errV_zero]
        clear hz st1 st2 hok hf ha
        have hpy := hnA.fresh hpv
        obtain ⟨pa, pc, rfl, _, _, _⟩ := rdv_slice hpv
        obtain ⟨hcB, d0, d1, d2, d3⟩ := box1_part w5 97 (toB P.title) P.at' P.many (.slice pa P.patch.length pc) _ rfl
        have hn6 := hn5.never hcB
        have hy : Dat.rd _ (fun k => Never k ∨ (Value.slice va vn vc).ownBlock = some k) [.string (toB P.title), .int .i64 P.at', .int .i64 P.many, .slice pa P.patch.length pc] P := ⟨_, rfl, HPO.out, hpy.never hcB⟩
        clear hpv hpy hc5 hn5
        go_wp2_with (at_builtin; go_loud (refine wpList_push (by rfl) _ _ 99 (by rfl) elemOk_part (O := Never) (l := Lp) (y := P) (by rfl) (by rfl) (by simp) hn6.own hy (fun _ h => h.elim) hLl ?_; intro v' w7 hown7 hc7 hk7; have hn7 := hn6.step1 hown7 hc7 hk7; clear hown7 hc7 hk7 hy; obtain ⟨oa, on, oc, rfl⟩ := own_isSlice hn7.own))
        clear hn6 d0 d1 d2 d3 hcB
        go_wp2_with fail
        go_roundw
        case rel => exact ⟨rfl, i + 1, by omega, by go_num, by rw [HTK.out]; exact hn7, HS, HA2⟩
        case measure => simp [intOf] <;> omega
      · have HO := Lib.hid (openMs_bad (st2 hz) hz)
        rw [errV_pos hz]
        have HZ := Lib.hid hz
        obtain ⟨pa, pc, rfl, _, _, _⟩ := rdv_slice hpv
        clear hz st1 st2 hok hf ha hpv
        go_wp2_with fail
        go_ret3
        exact sopen_no HO.out (by rw [errV_pos HZ.out]; rfl) ((hn5.chg).alloc _)
    · have hn0 := hn
      rw [List.take_of_length_le (by omega)] at hn0
      have hf' := hf.out
      rw [List.drop_of_length_le (by omega)] at hf'
      have HO := Lib.hid (openMs_ok (l := l) (by rw [← hf']; rfl))
      have HPO : Hid (∀ y ∈ l.map pieceOf, PieceOk y) := fun y hy => by
        obtain ⟨x, hx, rfl⟩ := List.mem_map.1 hy
        exact pieceOk_of (ha.out x (by rw [List.take_of_length_le (by omega)]; exact hx))
      have hpl : (l.map pieceOf).length ≤ 1000000000 := by rw [List.length_map]; exact hl9
      generalize l.map pieceOf = ps at hn0 HO HPO hpl
      have hwr := hn0.chg
      have hrp : Rdv wr Never (.slice va vn vc) ps := hn0.own.rdv
      obtain ⟨pa, pcap, epp, p1, p2, p3⟩ := rdv_slice hrp
      injection epp with epp1 epp2 epp3
      subst epp1; subst epp2; subst epp3
      clear hn hf hf' ha hn0 h3 h
      go_wp2_with fail
      go_loopw [3, 39] (fun pv iv wz => pv = .slice none 0 0 ∧ ∃ k : Nat, k ≤ ps.length ∧ iv = .int .i64 k ∧ Chg Never wr wz ∧ Hid (SameTo ps k)) (fun _ iv _ => ps.length - (intOf iv).toNat)
      case atStart => exact ⟨rfl, 0, Nat.zero_le _, rfl, Chg.refl _ _, same_zero ps⟩
      case round =>
        obtain ⟨rfl, k, hk, rfl, hc, hsm⟩ := hrel
        rename World => wz
        by_cases hkl : k < ps.length
        · obtain ⟨y, hy⟩ : ∃ y, ps[k]? = some y := ⟨ps[k], by simp [hkl]⟩
          obtain ⟨x, hx⟩ : ∃ x, ps[0]? = some x := ⟨ps[0]'(by omega), List.getElem?_eq_getElem (by omega)⟩
          obtain ⟨b, off, yv, rfl, _, _, c0, c1, c2, c3, _, hyv⟩ := elems_part p3 hy
          obtain ⟨b', off', xv, epp, _, _, e0, e1, e2, e3, _, _⟩ := elems_part p3 hx
          injection epp with epp
          injection epp with epp1 epp2 _
          subst epp1; subst epp2
          simp only [Nat.zero_mul, Nat.add_zero] at e0 e1 e2 e3
          obtain ⟨ya, yc, rfl, _, _, _⟩ := rdv_slice hyv
          have c0 := hc.cellNever c0
          have c1 := hc.cellNever c1
          have c2 := hc.cellNever c2
          have c3 := hc.cellNever c3
          have e0 := hc.cellNever e0
          have e2 := hc.cellNever e2
          obtain ⟨hcB, d0, d1, d2, d3⟩ := box1_part wz 97 (toB y.title) y.at' y.many (.slice ya y.patch.length yc) _ rfl
          have e0 := hcB.cellNever e0
          have e2 := hcB.cellNever e2
          have hcz := hc.trans hcB
          have hpos : (0 : Int) < (ps.length : Int) := by omega
          have hposN : 0 < ps.length := by omega
          have HY := Lib.hid hy
          have HX := Lib.hid hx
          clear e1 e3 hy hx hyv
          obtain ⟨Ty, hTy⟩ : ∃ T, toB y.title = T := ⟨_, rfl⟩
          obtain ⟨Tx, hTx⟩ : ∃ T, toB x.title = T := ⟨_, rfl⟩
          have htt : Ty.toList = Tx.toList ↔ y.title = x.title := by rw [← hTy, ← hTx, Lib.toList_data, Lib.toList_data, toB_data, toB_data]
          rw [hTy] at c0 d0 hcB d1 d2 d3 e0 e2 hcz
          rw [hTx] at e0
          by_cases q1 : y.title = x.title
          · have u1 : (Ty.toList == Tx.toList) = true := by rw [htt.2 q1]; simp
            have u2 : (Ty.toList != Tx.toList) = false := by rw [bne, u1]; rfl
            by_cases q2 : y.many = x.many
            · have s1 : (((y.many : Nat) : Int) == ((x.many : Nat) : Int)) = true := by rw [q2]; simp
              have s2 : (((y.many : Nat) : Int) != ((x.many : Nat) : Int)) = false := by rw [bne, s1]; rfl
              have HS2 : Hid (SameTo ps (k + 1)) := same_step hsm.out HY.out (fun z hz => by
                have := HX.out
                rw [hz] at this
                injection this with this
                subst this
                exact ⟨q1, q2⟩)
              clear q1 q2 htt hTy hTx hsm
              go_wp2_with fail
              go_quiet (fail)
              go_wp2_with fail
              go_roundw
              case rel => exact ⟨rfl, k + 1, by omega, by go_num, hcz.drewN _, HS2⟩
              case measure => simp [intOf] <;> omega
            · have HO2 : Hid (openMs l = ([], [], 2)) := by rw [Hid, HO.out]; exact open_shape HX.out HY.out (fun q => q2 q.2)
              have s1 : (((y.many : Nat) : Int) == ((x.many : Nat) : Int)) = false := by rw [beq_eq_false_iff_ne]; omega
              have s2 : (((y.many : Nat) : Int) != ((x.many : Nat) : Int)) = true := by rw [bne, s1]; rfl
              clear q1 q2 htt hTy hTx hsm
              go_wp2_with fail
              go_quiet (fail)
              go_wp2_with fail
              go_ret3
              exact sopen_no HO2.out rfl (hwr.trans (hcz.drewN _))
          · have HO2 : Hid (openMs l = ([], [], 2)) := by rw [Hid, HO.out]; exact open_shape HX.out HY.out (fun q => q1 q.1)
            have u1 : (Ty.toList == Tx.toList) = false := by rw [beq_eq_false_iff_ne]; exact fun q => q1 (htt.1 q)
            have u2 : (Ty.toList != Tx.toList) = true := by rw [bne, u1]; rfl
            clear q1 htt hTy hTx hsm
            go_wp2_with fail
            go_quiet (fail)
            go_wp2_with fail
            go_ret3
            exact sopen_no HO2.out rfl (hwr.trans (hcz.drewN _))
        · obtain rfl : k = ps.length := by omega
          rename World => wz
          have hmm := @run_makeMap Tryz.prog
          have hA6 : Chg Never wz (wz.alloc (.map #[] 0)) := (Chg.refl Never wz).alloc _
          have hm0 := partMap_made wz
          go_wp2_with fail
          clear hmm
          obtain ⟨MB, hMB⟩ : ∃ MB, wz.heap.size = MB := ⟨_, rfl⟩
          have hMBw : wz.heap.size ≤ MB := Nat.le_of_eq hMB
          rw [hMB] at hm0 ⊢
          clear hMB
          go_loopw [3, 64] (fun pv iv wy => pv = .slice none 0 0 ∧ ∃ (k : Nat) (F : Int → Option Value), k ≤ ps.length ∧ iv = .int .i64 k ∧ Chg Never wz wy ∧ PartMap wy MB k F ∧ Hid (Holds wz (ps.take k) F) ∧ Hid (((ps.take k).map (·.at')).Nodup)) (fun _ iv _ => ps.length - (intOf iv).toNat)
          case atStart => exact ⟨rfl, 0, _, Nat.zero_le _, rfl, hA6, hm0, holds_nil _, List.nodup_nil⟩
          case round =>
            clear hm0 hA6
            obtain ⟨rfl, k, F, hk, rfl, hc2, hmap, hH, hnd⟩ := hrel
            rename World => wy
            by_cases hkl : k < ps.length
            · obtain ⟨y, hy⟩ : ∃ y, ps[k]? = some y := ⟨ps[k], by simp [hkl]⟩
              obtain ⟨b, off, yv, rfl, _, _, c0, c1, c2, c3, hyo, hyv⟩ := elems_part p3 hy
              obtain ⟨ya, yc, rfl, _, _, _⟩ := rdv_slice hyv
              have c0 := hc2.cellNever (hc.cellNever c0)
              have c1 := hc2.cellNever (hc.cellNever c1)
              have c2 := hc2.cellNever (hc.cellNever c2)
              have c3 := hc2.cellNever (hc.cellNever c3)
              obtain ⟨hcB, d0, d1, d2, d3⟩ := box1_part wy 97 (toB y.title) y.at' y.many (.slice ya y.patch.length yc) _ rfl
              have hmap1 := hmap.keep hcB (fun h => h)
              have hyI : I64 ((y.at' : Nat) : Int) := by have := hyo.2; unfold I64; omega
              have hlook := hmap1.lookOk hyI
              by_cases hin : y.at' ∈ (ps.take k).map (·.at')
              · have HO3 : Hid (openMs l = ([], [], 6)) := by rw [Hid, HO.out]; exact open_clash hsm.out hy hin
                obtain ⟨z, zv, _, _, hz3, hz4⟩ := hH.out.here hin
                obtain ⟨za, zc, rfl, _, _, _⟩ := rdv_slice hz4
                rw [hz3] at hlook
                replace hlook : (Instr.lookup 102 (.map (some MB)) (.int .i64 y.at') true).run Tryz.prog _ = .ok (.tuple #[.agg #[.string (toB z.title), .int .i64 z.at', .int .i64 z.many, .slice za z.patch.length zc], .bool true]) _ := hlook
                have hcf := (hwr.trans hc).trans (hc2.trans hcB)
                clear hz3 hz4 hin hH hnd hsm hmap hmap1 hyv hy p3 hrp
                go_wp2_with fail
                go_ret3
                exact sopen_no HO3.out rfl (hcf.alloc _)
              · have hFn := hH.out.gone hin
                rw [hFn] at hlook
                replace hlook : (Instr.lookup 102 (.map (some MB)) (.int .i64 y.at') true).run Tryz.prog _ = .ok (.tuple #[.agg #[.string ⟨#[]⟩, .int .i64 0, .int .i64 0, .slice none 0 0], .bool false]) _ := hlook
                obtain ⟨hcB2, _⟩ := box1_part (wy.alloc (.cells #[.string (toB y.title), .int .i64 y.at', .int .i64 y.many, .slice ya y.patch.length yc] 97)) 97 ⟨#[]⟩ 0 0 (.slice none 0 0) _ rfl
                obtain ⟨w7, hrun, hmap7, hc7⟩ := (hmap1.keep hcB2 (fun h => h)).put (by unfold maxLen; omega) hyI (.agg #[.string (toB y.title), .int .i64 y.at', .int .i64 y.many, .slice ya y.patch.length yc]) hFn
                have hcz := (hc2.trans (hcB.trans hcB2)).trans' hc7 (fun x hx hh => by have h : x = MB := hh; omega)
                have HH2 := Lib.hid (hH.out.step hy hin (hyv.never hc))
                have HN2 := Lib.hid (nodup_step hnd.out hy hin)
                have d0 := hcB2.cellNever d0
                have d1 := hcB2.cellNever d1
                have d2 := hcB2.cellNever d2
                have d3 := hcB2.cellNever d3
                clear hFn hin hH hnd hmap hmap1 hyv hy hc7 hcB hcB2
                go_wp2_with fail
                go_roundw
                case rel => exact ⟨rfl, k + 1, _, by omega, by go_num, hcz, hmap7, HH2, HN2⟩
                case measure => simp [intOf] <;> omega
            · obtain rfl : k = ps.length := by omega
              rename World => wy
              have hH1 := hH.out
              have hnd1 := hnd.out
              rw [List.take_length] at hH1 hnd1
              have hH := Lib.hid hH1
              have hnd := Lib.hid hnd1
              clear hH1 hnd1
              have hcf := (hwr.trans hc).trans hc2
              by_cases h0 : ps.length = 0
              · have HO4 : Hid (openMs l = ([], [], 4)) := by
                  rw [Hid, HO.out, List.eq_nil_of_length_eq_zero h0]
                  exact openp_none
                have t0 : ((ps.length : Int) == 0) = true := by rw [h0]; rfl
                have t1 : ((ps.length : Int) != 0) = false := by rw [h0]; rfl
                clear h0 hmap hH hnd p3 hrp
                go_wp2_with fail
                go_quiet (fail)
                go_wp2_with fail
                go_ret3
                exact sopen_no HO4.out rfl (hcf.drewN _)
              · have t0 : ((ps.length : Int) == 0) = false := by rw [beq_eq_false_iff_ne]; omega
                have t1 : ((ps.length : Int) != 0) = true := by rw [bne, t0]; rfl
                have hpos : (0 : Int) < (ps.length : Int) := by omega
                have hposN : 0 < ps.length := by omega
                obtain ⟨x, hx⟩ : ∃ x, ps[0]? = some x := ⟨ps[0]'(by omega), List.getElem?_eq_getElem (by omega)⟩
                obtain ⟨b', off', xv, rfl, _, _, e0, _, e2, _, hxo, _⟩ := elems_part p3 hx
                simp only [Nat.zero_mul, Nat.add_zero] at e0 e2
                have e0 := hc2.cellNever (hc.cellNever e0)
                have e2 := hc2.cellNever (hc.cellNever e2)
                have hx8 : x.many ≤ 8 := hxo.2.2
                have hlen := fun (w' : World) (ty : TypeId) (q : PartMap w' MB ps.length F) => q.len ty
                have hmd := hmap.keep (Chg.refl Never wy).drew (fun h => h)
                have HX := Lib.hid hx
                clear hx h0
                by_cases hlm : ps.length ≤ x.many
                · have HO5 : Hid (openMs l = ([], [], 4)) := by rw [Hid, HO.out]; exact open_few hsm.out hnd.out HX.out hlm
                  have t2 : decide ((ps.length : Int) ≤ ((x.many : Nat) : Int)) = true := decide_eq_true (by omega)
                  go_wp2_with fail
                  refine wp_region_held_drew (S := fun w' => Chg Never wy w' ∧ w'.cell? ⟨b', off' + 2, none⟩ = some (.int .i64 x.many) ∧ w'.cell? ⟨b', off', none⟩ = some (.string (toB x.title)) ∧ (∀ ty, (Builtin.len_ #[102] ty #[.map (some MB)]).run Tryz.prog w' = .ok (.int .i64 ps.length) w')) (by kernel_rfl) ⟨(Chg.refl Never wy).drew, e2, e0, fun ty => hlen _ ty hmd⟩ (fun hH => ?_)
                  refine' tk 0 ?_
                  refine' tk 1 ?_
                  refine' tk 2 ?_
                  refine' tk 3 ?_
                  refine' tk 4 ?_
                  refine' tk 5 ?_
                  refine' tk 6 ?_
                  refine' tk 7 ?_
                  refine' tk 8 ?_
                  refine' tk 9 ?_
                  refine' tk 10 ?_
                  refine' tk 11 ?_
                  refine wpAnyH_done (by kernel_rfl) ?_ _
                  rename (Chg Never wy _ ∧ _) => hF
                  clear hmd hlen
                  generalize wy.drew = wq at hF ⊢
                  go_wp2_with fail
                  go_ret3
                  exact sopen_no HO5.out rfl (hcf.trans hF.1)
                · have HO6 := Lib.hid (HO.out.trans (open_good hsm.out hnd.out HX.out (by omega)))
                  have t2 : decide ((ps.length : Int) ≤ ((x.many : Nat) : Int)) = false := decide_eq_false (by omega)
                  go_wp2_with fail
                  refine wp_region_held_drew (S := fun w' => Chg Never wy w' ∧ w'.cell? ⟨b', off' + 2, none⟩ = some (.int .i64 x.many) ∧ w'.cell? ⟨b', off', none⟩ = some (.string (toB x.title)) ∧ (∀ ty, (Builtin.len_ #[102] ty #[.map (some MB)]).run Tryz.prog w' = .ok (.int .i64 ps.length) w')) (by kernel_rfl) ⟨(Chg.refl Never wy).drew, e2, e0, fun ty => hlen _ ty hmd⟩ (fun hH => ?_)
                  refine' tk 0 ?_
                  refine' tk 1 ?_
                  refine' tk 2 ?_
                  refine' tk 3 ?_
                  refine' tk 4 ?_
                  refine' tk 5 ?_
                  refine' tk 6 ?_
                  refine' tk 7 ?_
                  refine' tk 8 ?_
                  refine' tk 9 ?_
                  refine' tk 10 ?_
                  refine' tk 11 ?_
                  refine wpAnyH_done (by kernel_rfl) ?_ _
                  rename (Chg Never wy _ ∧ _) => hF
                  clear hmd hlen
                  generalize wy.drew = wq at hF ⊢
                  obtain ⟨hcq, e2, e0, -⟩ := hF
                  have hmapq := hmap.keep hcq (fun h => h)
                  have hHq := Lib.hid ((hH.out.never hc2).never hcq)
                  have hcf := hcf.trans hcq
                  clear hmap hH hnd hsm hlm
                  go_wp2_with fail
                  go_loopw [3, 99] (fun ov iv w4 => ∃ i : Nat, i ≤ x.many ∧ iv = .int .i64 i ∧ OwnN 51 wq w4 ov ((List.range i).map fun j => getP ps (j + 1))) (fun _ iv _ => x.many - (intOf iv).toNat)
                  case atStart => exact ⟨0, Nat.zero_le _, rfl, ownN_nil _ (Chg.refl _ _)⟩
                  case round =>
                    obtain ⟨i, hi, rfl, hn⟩ := hrel
                    rename World => w4
                    obtain ⟨va, vn, vc, rfl⟩ := own_isSlice hn.own
                    by_cases hil : i < x.many
                    · obtain ⟨t', a', b'', pv, hpe, hpv⟩ := hHq.out.patch (i + 1)
                      obtain ⟨qa, qc, rfl, _, _, _⟩ := rdv_slice hpv
                      have eI : ((i + 1 : Nat) : Int) = (i : Int) + 1 := by omega
                      have hlook := (hmapq.keep hn.chg (fun h => h)).look (j := (i : Int) + 1) (by unfold I64; omega)
                      rw [← eI, hpe, eI] at hlook
                      replace hlook : (Instr.lookup 102 (.map (some MB)) (.int .i64 ((i : Int) + 1)) false).run Tryz.prog w4 = .ok (.agg #[.string t', .int .i64 a', .int .i64 b'', .slice qa (getP ps (i + 1)).length qc]) w4 := hlook
                      have hfd : ∀ wx, (Instr.field 97 (.agg #[.string t', .int .i64 a', .int .i64 b'', .slice qa (getP ps (i + 1)).length qc]) 3).run Tryz.prog wx = .ok (.slice qa (getP ps (i + 1)).length qc) wx := fun _ => by kernel_rfl
                      have sN : IntKind.i64.wrap ((i : Int) + 1) = (i : Int) + 1 := IntWalk.i64_in _ (by omega)
                      have hy : Dat.rd w4 (fun k => Never k ∨ (Value.slice va vn vc).ownBlock = some k) [.slice qa (getP ps (i + 1)).length qc] (getP ps (i + 1)) := hn.away hpv
                      have HTR : Hid ((List.range (i + 1)).map (fun j => getP ps (j + 1)) = (List.range i).map (fun j => getP ps (j + 1)) ++ [getP ps (i + 1)]) := by rw [Hid, List.range_succ, List.map_append]; rfl
                      have hLl : ((List.range i).map fun j => getP ps (j + 1)).length ≤ 1000000000 := by rw [List.length_map, List.length_range]; omega
                      generalize (List.range i).map (fun j => getP ps (j + 1)) = Lq at hn HTR hLl
                      clear hpe eI hpv
                      go_wp2_with (at_builtin; refine wpList_push (by rfl) _ _ 22 (by rfl) elemOk_changes (O := Never) (l := Lq) (y := getP ps (i + 1)) (by rfl) (by rfl) (by rfl) hn.own hy (fun _ h => h.elim) hLl ?_; intro v' w7 hown7 hc7 hk7; have hn7 := hn.step1 hown7 hc7 hk7; clear hown7 hc7 hk7 hy; obtain ⟨oa, on, oc, rfl⟩ := own_isSlice hn7.own)
                      clear hn hlook sN
                      go_wp2_with fail
                      go_roundw
                      case rel => exact ⟨i + 1, by omega, by go_num, by rw [HTR.out]; exact hn7⟩
                      case measure => simp [intOf] <;> omega
                    · obtain rfl : i = x.many := by omega
                      have e0 := hn.chg.cellNever e0
                      have hcg := hcf.trans hn.chg
                      have hr := hn.own.rdv
                      clear hn hHq hmapq
                      go_wp2_with fail
                      go_ret3
                      exact ⟨_, by rw [HO6.out]; rfl, hcg, by rw [HO6.out]; exact hr⟩
end Go.Proofs.YtjiaidchcldocaaGreatDoor
namespace Go.Proofs.YtjiaidchcldocaaGreatDoor

theorem cut_over {x y c : UInt8} (h1 : c ≠ x) (h2 : c ≠ y) (v : List UInt8) : ∀ (u : List UInt8), cutSub [x, y] (u ++ c :: v) = match cutSub [x, y] u with
    | some (p, q) => some (p, q ++ c :: v)
    | none => (cutSub [x, y] v).map fun b => (u ++ c :: b.1, b.2)
  | [] => by
    have e : cutSub [x, y] [] = none := by rw [cutSub, if_neg (by simp)]
    rw [e, List.nil_append, cutSub, if_neg (by simp [List.isPrefixOf, Ne.symm h1])]
    rfl
  | d :: u => by
    have ih := cut_over h1 h2 v u
    rw [List.cons_append, cutSub, cutSub]
    by_cases hp : [x, y].isPrefixOf (d :: u) = true
    · have hp2 : [x, y].isPrefixOf (d :: (u ++ c :: v)) = true := by
        rw [List.isPrefixOf_iff_prefix] at *
        obtain ⟨t, ht⟩ := hp
        exact ⟨t ++ c :: v, by rw [← List.cons_append, ← ht]; simp⟩
      rw [if_pos hp, if_pos hp2]
      simp only
      cases u with
      | nil => simp [List.isPrefixOf] at hp
      | cons a u => rfl
    · have hp2 : ¬ [x, y].isPrefixOf (d :: (u ++ c :: v)) = true := by
        intro q
        apply hp
        cases u with
        | nil => simp [List.isPrefixOf, Ne.symm h2] at q
        | cons a u => simpa [List.isPrefixOf] using q
      rw [if_neg hp, if_neg hp2, ih]
      cases cutSub [x, y] u with
      | some p => rfl
      | none =>
        cases cutSub [x, y] v with
        | none => rfl
        | some p => rfl
theorem cut_pat1 (s : List UInt8) : cutSub [47] (patW ++ s) = (cutSub [47] s).map fun p => (patW ++ p.1, p.2) := by
  unfold patW
  simp only [List.cons_append, List.nil_append, cutSub, List.isPrefixOf]
  cases cutSub [47] s <;> simp
theorem cut_pat2 (s : List UInt8) : cutSub [93, 32] (patW ++ s) = (cutSub [93, 32] s).map fun p => (patW ++ p.1, p.2) := by
  unfold patW
  simp only [List.cons_append, List.nil_append, cutSub, List.isPrefixOf]
  cases cutSub [93, 32] s <;> simp
theorem numM_up {k j n : Nat} {s : List UInt8} (h : numM k s = some n) (hk : k ≤ j) : numM j s = some n := by
  unfold numM at *
  by_cases hl : s.length ≤ k
  · rw [if_pos hl] at h
    rw [if_pos (by omega)]
    exact h
  · rw [if_neg hl] at h; cases h
theorem numOf_small {n : Nat} {s : List UInt8} (h : numOf s = some n) (hn : n ≤ 9) : numM 1 s = some n := by
  have h2 := (num_some h).2
  have hl : s.length ≤ 1 := by
    have hd : ∀ k, k < 10 → (Lib.decDigits k).length ≤ 1 := by decide +kernel
    rw [← h2]
    exact hd n (by omega)
  unfold numOf at h
  unfold numM
  rw [if_pos hl]
  rw [if_pos (by omega)] at h
  exact h
theorem num_no {s : List UInt8} {c : UInt8} (hc : c ∈ s) (hn : c.toNat < 48 ∨ 57 < c.toNat) : numOf s = none := by
  cases h : numOf s with
  | none => rfl
  | some n =>
    obtain ⟨h1, h2⟩ := num_some h
    rw [← h2] at hc
    have := dec_digit h1 hc
    omega
def PartOk (m : Mail) (t : List UInt8) (x y : Nat) : Prop := x ≤ y ∧ y ≤ 8 ∧ titledB t = true ∧ m.sender.data.toList = handW ∧ m.ident.data.toList = idL x y ∧ ¬ (x = 0 ∧ m.body ≠ [])
instance (m : Mail) (t : List UInt8) (x y : Nat) : Decidable (PartOk m t x y) := by unfold PartOk; infer_instance
theorem ref_no_pat {m : Mail} (h : patW.isPrefixOf m.subject.data.toList = false) : mpartOf m = none := by
  unfold mpartOf dropPre
  rw [if_neg (by rw [h]; simp)]
theorem pat_split {s : List UInt8} (h : patW.isPrefixOf s = true) : ∃ r, s = patW ++ r := by
  obtain ⟨r, hr⟩ := List.isPrefixOf_iff_prefix.1 h
  exact ⟨r, hr.symm⟩
theorem ref_no_slash {m : Mail} (h : patW.isPrefixOf m.subject.data.toList = true) (hc : cutSub [47] m.subject.data.toList = none) : mpartOf m = none := by
  obtain ⟨r, hr⟩ := pat_split h
  unfold mpartOf
  rw [hr] at hc ⊢
  rw [pre_app]
  simp only
  rw [cut_pat1] at hc
  cases hs : cutSub [47] r with
  | none => rfl
  | some p => rw [hs] at hc; cases hc
theorem ref_slash {m : Mail} (h : patW.isPrefixOf m.subject.data.toList = true) {u v : List UInt8} (hc : cutSub [47] m.subject.data.toList = some (u, v)) :
    7 ≤ u.length ∧ ((cutSub [93, 32] m.subject.data.toList = none ∧ mpartOf m = none) ∨ ∃ p t, cutSub [93, 32] m.subject.data.toList = some (p, t) ∧ ((p.length < u.length ∧ mpartOf m = none) ∨
      (u.length < p.length ∧ mpartOf m = match numM 1 ((m.subject.data.toList.drop 7).take (u.length - 7)), numM 1 ((m.subject.data.toList.drop (u.length + 1)).take (p.length - (u.length + 1))) with
        | some x, some y => if PartOk m t x y then some (t, x, y) else none
        | _, _ => none))) := by
  obtain ⟨r, hr⟩ := pat_split h
  rw [hr, cut_pat1] at hc
  cases hs : cutSub [47] r with
  | none => rw [hs] at hc; cases hc
  | some q =>
    obtain ⟨u1, v1⟩ := q
    rw [hs] at hc
    simp only [Option.map_some, Option.some.injEq, Prod.mk.injEq] at hc
    obtain ⟨rfl, rfl⟩ := hc
    have er := cut_some hs
    rw [List.append_assoc] at er
    have hP : mpartOf m = match cutSub [93, 32] v1 with
        | none => none
        | some (b, t) => match numOf u1 with
          | none => none
          | some x => match numOf b with
            | none => none
            | some y => if PartOk m t x y then some (t, x, y) else none := by
      unfold mpartOf
      rw [hr, pre_app]
      simp only
      rw [hs]
      rfl
    refine ⟨by rw [List.length_append]; show 7 ≤ 7 + _; omega, ?_⟩
    have ec : cutSub [93, 32] m.subject.data.toList = (match cutSub [93, 32] u1 with
        | some (p, q) => some (p, q ++ 47 :: v1)
        | none => (cutSub [93, 32] v1).map fun (b : List UInt8 × List UInt8) => (u1 ++ 47 :: b.1, b.2)).map fun (p : List UInt8 × List UInt8) => (patW ++ p.1, p.2) := by
      rw [hr, cut_pat2, er]
      show Option.map _ (cutSub [93, 32] (u1 ++ 47 :: v1)) = _
      rw [cut_over (by decide) (by decide)]
    cases h1 : cutSub [93, 32] u1 with
    | some pq =>
      obtain ⟨p, q⟩ := pq
      rw [h1] at ec
      right
      refine ⟨_, _, ec, .inl ⟨?_, ?_⟩⟩
      · have := congrArg List.length (cut_some h1)
        simp only [List.length_append, List.length_cons, List.length_nil] at this ⊢
        omega
      · have hn : numOf u1 = none := num_no (c := 93) (by rw [cut_some h1]; simp) (by decide)
        rw [hP, hn]
        cases cutSub [93, 32] v1 with
        | none => rfl
        | some z => rfl
    | none =>
      rw [h1] at ec
      cases h2 : cutSub [93, 32] v1 with
      | none =>
        rw [h2] at ec hP
        exact .inl ⟨ec, hP⟩
      | some bt =>
        obtain ⟨b, t⟩ := bt
        rw [h2] at ec hP
        right
        refine ⟨_, _, ec, .inr ⟨by simp only [List.length_append, List.length_cons]; omega, ?_⟩⟩
        have hv := cut_some h2
        have ea : (m.subject.data.toList.drop 7).take ((patW ++ u1).length - 7) = u1 := by
          rw [hr, er, show (7 : Nat) = patW.length from rfl, List.drop_left, List.length_append, Nat.add_sub_cancel_left, List.take_left]
        have eb : (m.subject.data.toList.drop ((patW ++ u1).length + 1)).take ((patW ++ (u1 ++ 47 :: b)).length - ((patW ++ u1).length + 1)) = b := by
          have e1 : m.subject.data.toList = (patW ++ u1 ++ [47]) ++ v1 := by rw [hr, er]; simp
          rw [e1, show (patW ++ u1).length + 1 = (patW ++ u1 ++ [47]).length by simp only [List.length_append, List.length_cons, List.length_nil], List.drop_left, hv]
          have e2 : (patW ++ (u1 ++ 47 :: b)).length - (patW ++ u1 ++ [47]).length = b.length := by simp only [List.length_append, List.length_cons, List.length_nil]; omega
          rw [e2, List.append_assoc, List.take_left]
        rw [ea, eb, hP]
        simp only
        cases ha : numOf u1 with
        | none =>
          have : numM 1 u1 = none := by
            cases h3 : numM 1 u1 with
            | none => rfl
            | some x => rw [← numM_3, numM_up h3 (by decide)] at ha; cases ha
          rw [this]
        | some x =>
          cases hb : numOf b with
          | none =>
            have : numM 1 b = none := by
              cases h3 : numM 1 b with
              | none => rfl
              | some x => rw [← numM_3, numM_up h3 (by decide)] at hb; cases hb
            rw [this]
            cases numM 1 u1 <;> rfl
          | some y =>
            simp only
            by_cases hok : PartOk m t x y
            · rw [if_pos hok, numOf_small ha (by have := hok.1; have := hok.2.1; omega), numOf_small hb (by have := hok.2.1; omega)]
              simp only
              rw [if_pos hok]
            · rw [if_neg hok]
              cases h3 : numM 1 u1 with
              | none => rfl
              | some x' =>
                have e3 := numM_up h3 (show 1 ≤ 3 by decide)
                rw [numM_3, ha] at e3
                injection e3 with e3
                subst e3
                cases h4 : numM 1 b with
                | none => rfl
                | some y' =>
                  have e4 := numM_up h4 (show 1 ≤ 3 by decide)
                  rw [numM_3, hb] at e4
                  injection e4 with e4
                  subst e4
                  simp only
                  rw [if_neg hok]
end Go.Proofs.YtjiaidchcldocaaGreatDoor
namespace Go.Proofs.YtjiaidchcldocaaGreatDoor
open Go.RowKit

theorem occ_extract (s t : ByteArray) (k : Nat) : ((s.extract k (k + t.size)).toList == t.toList) = Lib.occAt s.data.toList t.data.toList k := by
  rw [Lib.toList_data, Lib.toList_data, Lib.extract_data, Nat.add_sub_cancel_left, Lib.size_eq]
  unfold Lib.occAt
  rw [Bool.eq_iff_iff, beq_iff_eq, List.isPrefixOf_iff_prefix]
  constructor
  · intro e
    refine ⟨(s.data.toList.drop k).drop t.data.toList.length, ?_⟩
    conv => lhs; lhs; rw [← e]
    exact List.take_append_drop _ _
  · rintro ⟨u, e⟩
    rw [← e, List.take_left]
theorem occ_beyond {s t : List UInt8} {j : Nat} (h : s.length < j + t.length) : j ≤ s.length → Lib.occAt s t j = false := fun _ => by
  unfold Lib.occAt
  rw [Bool.eq_false_iff, ne_eq, List.isPrefixOf_iff_prefix]
  intro e
  have := e.length_le
  rw [List.length_drop] at this
  omega

set_option maxHeartbeats 1000000 in
set_option maxRecDepth 100000 in
theorem find_any (s t : ByteArray) (w : World) (hs : s.size ≤ 1000000000) (ht : t.size ≤ 1000000000) (ht0 : 0 < t.size) :
    Calls Tryz.prog 54 #[.string s, .string t] w fun e w' => e = .returned (.int .i64 (Lib.index s.data.toList t.data.toList)) ∧ w' = w := by
  go_enter Tryz.func54, Tryz.ntmps54
  go_wp2_with fail
  go_loop [5] (fun i => ∃ k : Nat, k ≤ s.size + 1 ∧ i = .int .i64 k ∧ Hid (∀ j, j < k → Lib.occAt s.data.toList t.data.toList j = false)) (fun i => s.size + 1 - (intOf i).toNat)
  case atStart => exact ⟨0, by omega, rfl, fun j hj => absurd hj (Nat.not_lt_zero j)⟩
  case round =>
    obtain ⟨k, hk, rfl, hno⟩ := hrel
    by_cases hlt : k + t.size ≤ s.size
    · have hb := occ_extract s t k
      cases ho : Lib.occAt s.data.toList t.data.toList k with
      | true =>
        have HF : Hid (Lib.index s.data.toList t.data.toList = k) := Lib.index_first (by rw [← Lib.size_eq]; omega) ho hno.out
        rw [ho] at hb
        clear ho hno
        go_wp2_with fail
        go_ret
        exact ⟨by rw [HF.out]; rfl, rfl⟩
      | false =>
        have hno2 : Hid (∀ j, j < k + 1 → Lib.occAt s.data.toList t.data.toList j = false) := fun j hj => by
          by_cases e : j = k
          · subst e; exact ho
          · exact hno.out j (by omega)
        rw [ho] at hb
        clear ho hno
        go_wp2_with fail
        go_round
        case rel => exact ⟨k + 1, by omega, by go_num, hno2⟩
        case measure => simp [intOf]; omega
    · have HF : Hid (Lib.index s.data.toList t.data.toList = -1) := Lib.index_none fun j hj => by
        by_cases e : j < k
        · exact hno.out j e
        · exact occ_beyond (by rw [← Lib.size_eq, ← Lib.size_eq]; omega) hj
      clear hno
      go_wp2_with fail
      go_ret
      exact ⟨by rw [HF.out]; rfl, rfl⟩
theorem find_one (s : ByteArray) (c : UInt8) (w : World) (hs : s.size ≤ 1000000000) :
    Calls Tryz.prog 54 #[.string s, .string ⟨#[c]⟩] w fun e w' => e = .returned (.int .i64 (Lib.indexByte s.data.toList c)) ∧ w' = w := by
  rw [← Lib.index_one]
  exact find_any s ⟨#[c]⟩ w hs (by show 1 ≤ _; omega) (by show 0 < 1; omega)
end Go.Proofs.YtjiaidchcldocaaGreatDoor
namespace Go.Proofs.YtjiaidchcldocaaGreatDoor
open Go.RowKit

def numV : Option Nat → Int
  | none => -1
  | some n => n
theorem byte_of {s : ByteArray} {k : Nat} (h : k < s.size) : s.data.toList[k]? = some (s[k]'h) := by rw [Array.getElem?_toList, Array.getElem?_eq_getElem h]; rfl
theorem df_bad {q : Nat} {c : UInt8} {r : List UInt8} (h : c.toNat < 48 ∨ 57 < c.toNat) : Lib.decFrom q (c :: r) = none := by
  rw [Lib.decFrom]
  have : Lib.digitVal c = none := by unfold Lib.digitVal; rw [if_neg (by omega)]
  rw [this]
theorem df_ok {q : Nat} {c : UInt8} {r : List UInt8} (h1 : 48 ≤ c.toNat) (h2 : c.toNat ≤ 57) : Lib.decFrom q (c :: r) = Lib.decFrom (q * 10 + (c.toNat - 48)) r := by
  rw [Lib.decFrom]
  have : Lib.digitVal c = some (c.toNat - 48) := by unfold Lib.digitVal; rw [if_pos ⟨h1, h2⟩]
  rw [this]
set_option maxHeartbeats 1000000 in
set_option maxRecDepth 100000 in
theorem refNumber_any (s : ByteArray) (k : Nat) (hk : k ≤ 9) (hs : s.size ≤ 1000000000) (w : World) :
    Calls Tryz.prog 55 #[.string s, .int .i64 k] w fun e w' => e = .returned (.int .i64 (numV (numM k s.data.toList))) ∧ w = w' := by
  have hsz := Lib.size_eq s
  by_cases h1 : s.size < 1
  · have t1 : decide ((s.size : Int) < 1) = true := decide_eq_true (by omega)
    have p1 : s.data.toList.length < 1 := by omega
    have HP := Lib.hid p1
    clear hsz p1
    go_enter Tryz.func55, Tryz.ntmps55
    have HR : Hid (numM k s.data.toList = none) := by rw [Hid, num_ref]; exact if_pos (.inl HP.out)
    go_wp2_with fail
    go_ret
    exact ⟨by rw [HR.out]; rfl, rfl⟩
  · have t1 : decide ((s.size : Int) < 1) = false := decide_eq_false (by omega)
    by_cases h2 : k < s.size
    · have t2 : decide ((k : Int) < (s.size : Int)) = true := decide_eq_true (by omega)
      have p1 : k < s.data.toList.length := by omega
      have HP := Lib.hid p1
      clear hsz p1
      go_enter Tryz.func55, Tryz.ntmps55
      have HR : Hid (numM k s.data.toList = none) := by rw [Hid, num_ref]; exact if_pos (.inr (.inl HP.out))
      go_wp2_with fail
      go_ret
      exact ⟨by rw [HR.out]; rfl, rfl⟩
    · have t2 : decide ((k : Int) < (s.size : Int)) = false := decide_eq_false (by omega)
      have h0 : 0 < s.size := by omega
      have hh : s.data.toList.head? = some (s[0]'h0) := by rw [List.head?_eq_getElem?, byte_of h0]
      by_cases h3 : 1 < s.size
      · have t3 : decide ((1 : Int) < (s.size : Int)) = true := decide_eq_true (by omega)
        by_cases h4 : s[0]'h0 = 48
        · have t4 : (((s[0]'h0).toNat : Int) == 48) = true := by rw [h4]; rfl
          have p1 : 1 < s.data.toList.length ∧ s.data.toList.head? = some 48 := ⟨by omega, by rw [hh, h4]⟩
          have HP := Lib.hid p1
          clear hsz p1 hh h4
          go_enter Tryz.func55, Tryz.ntmps55
          have HR : Hid (numM k s.data.toList = none) := by rw [Hid, num_ref]; exact if_pos (.inr (.inr HP.out))
          go_wp2_with fail
          go_ret
          exact ⟨by rw [HR.out]; rfl, rfl⟩
        · have t4 : (((s[0]'h0).toNat : Int) == 48) = false := by
            simp only [beq_eq_false_iff_ne, ne_eq]
            intro e
            exact h4 (UInt8.toNat_inj.1 (by have : (48 : UInt8).toNat = 48 := rfl; omega))
          have HN : Hid (Lib.decFrom 0 (s.data.toList.drop 0) = numM k s.data.toList) := by
            rw [Hid, List.drop_zero, num_ref, if_neg]
            rintro (q | q | q)
            · omega
            · omega
            · rw [hh] at q
              exact h4 (by have := q.2; injection this)
          clear hsz hh h4
          go_enter Tryz.func55, Tryz.ntmps55
          go_wp2_with fail
          go_loop [5, 6] (fun nv iv => ∃ (j q : Nat), iv = .int .i64 j ∧ nv = .int .i64 q ∧ j ≤ s.size ∧ q + 1 ≤ 10 ^ j ∧ Hid (Lib.decFrom q (s.data.toList.drop j) = numM k s.data.toList)) (fun _ iv => s.size - (intOf iv).toNat)
          case atStart => exact ⟨0, 0, rfl, rfl, Nat.zero_le _, Nat.le_refl _, HN⟩
          case round =>
            obtain ⟨j, q, rfl, rfl, hj, hq, hI⟩ := hrel
            have hq9 : (10 : Nat) ^ j ≤ 10 ^ 9 := Nat.pow_le_pow_right (by decide) (by omega)
            have hq9 : q < 1000000000 := by omega
            by_cases hlt : j < s.size
            · have hd : s.data.toList.drop j = (s[j]'hlt) :: s.data.toList.drop (j + 1) := by
                obtain ⟨hk2, he⟩ := List.getElem?_eq_some_iff.1 (byte_of hlt)
                rw [List.drop_eq_getElem_cons hk2, he]
              have hc1 := (s[j]'hlt).toNat_lt
              have hD : Hid (Lib.decFrom q ((s[j]'hlt) :: s.data.toList.drop (j + 1)) = numM k s.data.toList) := by rw [Hid, ← hd]; exact hI
              clear hd hI
              by_cases g1 : (s[j]'hlt).toNat < 48
              · have HR : Hid (numM k s.data.toList = none) := by rw [Hid, ← hD.out, df_bad (.inl g1)]
                have b1 : decide (((s[j]'hlt).toNat : Int) < 48) = true := decide_eq_true (by omega)
                clear hD
                go_wp2_with fail
                go_ret
                exact ⟨by rw [HR.out]; rfl, rfl⟩
              · have b1 : decide (((s[j]'hlt).toNat : Int) < 48) = false := decide_eq_false (by omega)
                by_cases g2 : 57 < (s[j]'hlt).toNat
                · have HR : Hid (numM k s.data.toList = none) := by rw [Hid, ← hD.out, df_bad (.inr g2)]
                  have b2 : decide ((57 : Int) < ((s[j]'hlt).toNat : Int)) = true := decide_eq_true (by omega)
                  clear hD
                  go_wp2_with fail
                  go_ret
                  exact ⟨by rw [HR.out]; rfl, rfl⟩
                · have b2 : decide ((57 : Int) < ((s[j]'hlt).toNat : Int)) = false := decide_eq_false (by omega)
                  have HS : Hid (Lib.decFrom (q * 10 + ((s[j]'hlt).toNat - 48)) (s.data.toList.drop (j + 1)) = numM k s.data.toList) := by rw [Hid, ← df_ok (by omega) (by omega)]; exact hD
                  have hp : (10 : Nat) ^ (j + 1) = 10 ^ j * 10 := Nat.pow_succ ..
                  have hq2 : q * 10 + ((s[j]'hlt).toNat - 48) + 1 ≤ 10 ^ (j + 1) := by omega
                  clear hp hD
                  have s1 : IntKind.i64.wrap ((q : Int) * 10) = (q : Int) * 10 := IntWalk.i64_in _ (by omega)
                  have s2 : IntKind.i64.wrap ((q : Int) * 10 + ((s[j]'hlt).toNat : Int)) = (q : Int) * 10 + ((s[j]'hlt).toNat : Int) := IntWalk.i64_in _ (by omega)
                  have s3 : IntKind.i64.wrap ((q : Int) * 10 + ((s[j]'hlt).toNat : Int) - 48) = (q : Int) * 10 + ((s[j]'hlt).toNat : Int) - 48 := IntWalk.i64_in _ (by omega)
                  go_wp2_with fail
                  go_round
                  case rel => exact ⟨j + 1, q * 10 + ((s[j]'hlt).toNat - 48), by go_num, by congr 1; omega, by omega, hq2, HS⟩
                  case measure => simp [intOf]; omega
            · have HR : Hid (numM k s.data.toList = some q) := by
                rw [Hid, ← hI.out, List.drop_of_length_le (by rw [← Lib.size_eq]; omega)]; rfl
              clear hI
              go_wp2_with fail
              go_ret
              exact ⟨by rw [HR.out]; rfl, rfl⟩
      · have t3 : decide ((1 : Int) < (s.size : Int)) = false := decide_eq_false (by omega)
        have HN : Hid (Lib.decFrom 0 (s.data.toList.drop 0) = numM k s.data.toList) := by
          rw [Hid, List.drop_zero, num_ref, if_neg]
          rintro (q | q | q) <;> omega
        clear hsz hh
        go_enter Tryz.func55, Tryz.ntmps55
        go_wp2_with fail
        go_loop [5, 6] (fun nv iv => ∃ (j q : Nat), iv = .int .i64 j ∧ nv = .int .i64 q ∧ j ≤ s.size ∧ q + 1 ≤ 10 ^ j ∧ Hid (Lib.decFrom q (s.data.toList.drop j) = numM k s.data.toList)) (fun _ iv => s.size - (intOf iv).toNat)
        case atStart => exact ⟨0, 0, rfl, rfl, Nat.zero_le _, Nat.le_refl _, HN⟩
        case round =>
          obtain ⟨j, q, rfl, rfl, hj, hq, hI⟩ := hrel
          have hq9 : (10 : Nat) ^ j ≤ 10 ^ 9 := Nat.pow_le_pow_right (by decide) (by omega)
          have hq9 : q < 1000000000 := by omega
          by_cases hlt : j < s.size
          · have hd : s.data.toList.drop j = (s[j]'hlt) :: s.data.toList.drop (j + 1) := by
              obtain ⟨hk2, he⟩ := List.getElem?_eq_some_iff.1 (byte_of hlt)
              rw [List.drop_eq_getElem_cons hk2, he]
            have hc1 := (s[j]'hlt).toNat_lt
            have hD : Hid (Lib.decFrom q ((s[j]'hlt) :: s.data.toList.drop (j + 1)) = numM k s.data.toList) := by rw [Hid, ← hd]; exact hI
            clear hd hI
            by_cases g1 : (s[j]'hlt).toNat < 48
            · have HR : Hid (numM k s.data.toList = none) := by rw [Hid, ← hD.out, df_bad (.inl g1)]
              have b1 : decide (((s[j]'hlt).toNat : Int) < 48) = true := decide_eq_true (by omega)
              clear hD
              go_wp2_with fail
              go_ret
              exact ⟨by rw [HR.out]; rfl, rfl⟩
            · have b1 : decide (((s[j]'hlt).toNat : Int) < 48) = false := decide_eq_false (by omega)
              by_cases g2 : 57 < (s[j]'hlt).toNat
              · have HR : Hid (numM k s.data.toList = none) := by rw [Hid, ← hD.out, df_bad (.inr g2)]
                have b2 : decide ((57 : Int) < ((s[j]'hlt).toNat : Int)) = true := decide_eq_true (by omega)
                clear hD
                go_wp2_with fail
                go_ret
                exact ⟨by rw [HR.out]; rfl, rfl⟩
              · have b2 : decide ((57 : Int) < ((s[j]'hlt).toNat : Int)) = false := decide_eq_false (by omega)
                have HS : Hid (Lib.decFrom (q * 10 + ((s[j]'hlt).toNat - 48)) (s.data.toList.drop (j + 1)) = numM k s.data.toList) := by rw [Hid, ← df_ok (by omega) (by omega)]; exact hD
                have hp : (10 : Nat) ^ (j + 1) = 10 ^ j * 10 := Nat.pow_succ ..
                have hq2 : q * 10 + ((s[j]'hlt).toNat - 48) + 1 ≤ 10 ^ (j + 1) := by omega
                clear hp hD
                have s1 : IntKind.i64.wrap ((q : Int) * 10) = (q : Int) * 10 := IntWalk.i64_in _ (by omega)
                have s2 : IntKind.i64.wrap ((q : Int) * 10 + ((s[j]'hlt).toNat : Int)) = (q : Int) * 10 + ((s[j]'hlt).toNat : Int) := IntWalk.i64_in _ (by omega)
                have s3 : IntKind.i64.wrap ((q : Int) * 10 + ((s[j]'hlt).toNat : Int) - 48) = (q : Int) * 10 + ((s[j]'hlt).toNat : Int) - 48 := IntWalk.i64_in _ (by omega)
                go_wp2_with fail
                go_round
                case rel => exact ⟨j + 1, q * 10 + ((s[j]'hlt).toNat - 48), by go_num, by congr 1; omega, by omega, hq2, HS⟩
                case measure => simp [intOf]; omega
          · have HR : Hid (numM k s.data.toList = some q) := by
              rw [Hid, ← hI.out, List.drop_of_length_le (by rw [← Lib.size_eq]; omega)]; rfl
            clear hI
            go_wp2_with fail
            go_ret
            exact ⟨by rw [HR.out]; rfl, rfl⟩
end Go.Proofs.YtjiaidchcldocaaGreatDoor
namespace Go.Proofs.YtjiaidchcldocaaGreatDoor
open Go.RowKit

def spanR (o : Option (Int × Nat)) : Value := match o with
  | none => .tuple #[.int .i64 0, .int .i64 0, .bool false]
  | some (a, x) => .tuple #[.int .i64 a, .int .i64 x, .bool true]
set_option maxHeartbeats 1000000 in
set_option maxRecDepth 100000 in
theorem refSpanOf_any (s : ByteArray) (hs : s.size ≤ 1000000000) (w : World) :
    Calls Tryz.prog 199 #[.string s] w fun e w' => e = .returned (spanR (spanOf s.data.toList)) ∧ w = w' := by
  have hsz := Lib.size_eq s
  rcases pos_of_index (t := [44]) (s := s.data.toList) (by simp) with ⟨hc, hix⟩ | ⟨a, b, hc, hix, hab⟩
  · have HR : Hid (spanOf s.data.toList = none) := by unfold Hid spanOf; rw [hc]
    have HF := find_any s ⟨#[44]⟩ w hs (by decide) (by decide)
    rw [show (⟨#[44]⟩ : ByteArray).data.toList = [44] from rfl, hix] at HF
    have HF := Lib.hid HF
    clear hc hix hsz
    go_enter Tryz.func199, Tryz.ntmps199
    go_wp2_with fail
    refine HF.out.mono ?_
    rintro e w1 ⟨rfl, rfl⟩
    rename World => w
    go_wp2_with fail
    go_ret3
    exact ⟨by rw [HR.out]; rfl, rfl⟩
  · have hl := congrArg List.length hab
    rw [List.length_append, List.length_append, ← hsz] at hl
    simp only [List.length_cons, List.length_nil] at hl
    have HF := find_any s ⟨#[44]⟩ w hs (by decide) (by decide)
    rw [show (⟨#[44]⟩ : ByteArray).data.toList = [44] from rfl, hix] at HF
    have HF := Lib.hid HF
    have HA : (s.extract 0 a.length).data.toList = a := by
      rw [Lib.extract_data, hab, List.drop_zero, Nat.sub_zero, List.append_assoc, List.take_left]
    have HB : (s.extract (a.length + 1) s.size).data.toList = b := by
      rw [Lib.extract_data, hsz, hab, show a.length + 1 = (a ++ [44]).length by simp, List.drop_left, List.take_of_length_le (by simp; omega)]
    have N1 := refNumber_any (s.extract 0 a.length) 3 (by decide) (by rw [Lib.size_eq, HA]; omega) w
    have N2 := refNumber_any (s.extract (a.length + 1) s.size) 3 (by decide) (by rw [Lib.size_eq, HB]; omega) w
    rw [HA, numM_3] at N1
    rw [HB, numM_3] at N2
    have HSP : Hid (spanOf s.data.toList = match numOf a with
        | none => none
        | some x => match numOf b with
          | none => none
          | some y => if 0 < y then (if x = 0 then none else some ((x : Int) - 1, y)) else some ((x : Int), y)) := by unfold Hid spanOf; rw [hc]; rfl
    rw [show ((3 : Nat) : Int) = 3 from rfl] at N1 N2
    have N1 := Lib.hid N1
    have N2 := Lib.hid N2
    obtain ⟨k, hk⟩ : ∃ k, a.length = k := ⟨_, rfl⟩
    have s1 : IntKind.i64.wrap ((k : Int) + 1) = (k : Int) + 1 := IntWalk.i64_in _ (by omega)
    rw [hk] at HF N1 N2 hl
    have hl2 : k + 1 ≤ s.size := by omega
    clear hc hix hsz HA HB hab hk hl
    go_enter Tryz.func199, Tryz.ntmps199
    go_wp2_with fail
    refine HF.out.mono ?_
    rintro e w1 ⟨rfl, rfl⟩
    rename World => w
    go_wp2_with fail
    refine N1.out.mono ?_
    rintro e w1 ⟨rfl, rfl⟩
    go_wp2_with fail
    refine N2.out.mono ?_
    rintro e w1 ⟨rfl, rfl⟩
    clear N1 N2 HF s1
    cases h1 : numOf a with
    | none =>
      rw [h1] at HSP
      rw [show numV none = -1 from rfl]
      generalize numV (numOf b) = nb
      clear h1
      have HR : Hid (spanOf s.data.toList = none) := by
        rw [Hid, HSP.out]
        try (rfl)
      go_wp2_with fail
      go_ret3
      exact ⟨by rw [HR.out]; rfl, rfl⟩
    | some n1 =>
      rw [h1] at HSP
      rw [show numV (some n1) = (n1 : Int) from rfl]
      cases h2 : numOf b with
      | none =>
        rw [h2] at HSP
        rw [show numV none = -1 from rfl]
        clear h1 h2
        have HR : Hid (spanOf s.data.toList = none) := by
          rw [Hid, HSP.out]
          try (rfl)
        go_wp2_with fail
        go_ret3
        exact ⟨by rw [HR.out]; rfl, rfl⟩
      | some n2 =>
        rw [h2] at HSP
        rw [show numV (some n2) = (n2 : Int) from rfl]
        have hn1 := numOf_lt h1
        have hn2 := numOf_lt h2
        clear h1 h2
        by_cases hp : 0 < n2
        · have tp : decide ((0 : Int) < (n2 : Int)) = true := decide_eq_true (by omega)
          by_cases hz : n1 = 0
          · subst hz
            have HR : Hid (spanOf s.data.toList = none) := by
              rw [Hid, HSP.out]
              try (simp [hp])
            go_wp2_with fail
            go_ret3
            exact ⟨by rw [HR.out]; rfl, rfl⟩
          · have tz : ((n1 : Int) == 0) = false := by simp; omega
            have s2 : IntKind.i64.wrap ((n1 : Int) - 1) = (n1 : Int) - 1 := IntWalk.i64_in _ (by omega)
            have HR : Hid (spanOf s.data.toList = some ((n1 : Int) - 1, n2)) := by
              rw [Hid, HSP.out]
              simp only []; rw [if_pos hp, if_neg hz]
            go_wp2_with fail
            go_ret3
            exact ⟨by rw [HR.out]; rfl, rfl⟩
        · have tp : decide ((0 : Int) < (n2 : Int)) = false := decide_eq_false (by omega)
          have HR : Hid (spanOf s.data.toList = some ((n1 : Int), n2)) := by
            rw [Hid, HSP.out]
            simp only []; rw [if_neg hp]
          go_wp2_with fail
          go_ret3
          exact ⟨by rw [HR.out]; rfl, rfl⟩
end Go.Proofs.YtjiaidchcldocaaGreatDoor
namespace Go.Proofs.YtjiaidchcldocaaGreatDoor
open Go.RowKit

set_option maxHeartbeats 1000000 in
set_option maxRecDepth 100000 in
theorem starts_any (s p : ByteArray) (w : World) (_hs : s.size ≤ 1000000000) (_hp : p.size ≤ 1000000000) :
    Calls Tryz.prog 53 #[.string s, .string p] w fun e w' => e = .returned (.bool (p.data.toList.isPrefixOf s.data.toList)) ∧ w' = w := by
  by_cases h : p.size ≤ s.size
  · have t1 : decide ((p.size : Int) ≤ (s.size : Int)) = true := decide_eq_true (by omega)
    have hb : ((s.extract 0 p.size).toList == p.toList) = p.data.toList.isPrefixOf s.data.toList := by
      rw [Lib.toList_data, Lib.toList_data, Lib.extract_data, List.drop_zero, Nat.sub_zero, Lib.size_eq]
      rw [Bool.eq_iff_iff, beq_iff_eq, List.isPrefixOf_iff_prefix]
      constructor
      · intro e
        refine ⟨s.data.toList.drop p.data.toList.length, ?_⟩
        conv => lhs; lhs; rw [← e]
        exact List.take_append_drop _ _
      · rintro ⟨t, e⟩
        rw [← e, List.take_left]
    cases hx : p.data.toList.isPrefixOf s.data.toList with
    | true =>
      rw [hx] at hb
      go_enter Tryz.func53, Tryz.ntmps53
      go_wp2_with fail
      go_ret
      exact ⟨rfl, rfl⟩
    | false =>
      rw [hx] at hb
      go_enter Tryz.func53, Tryz.ntmps53
      go_wp2_with fail
      go_ret
      exact ⟨rfl, rfl⟩
  · have t1 : decide ((p.size : Int) ≤ (s.size : Int)) = false := decide_eq_false (by omega)
    have hx : Hid (p.data.toList.isPrefixOf s.data.toList = false) := by
      rw [Hid, Bool.eq_false_iff, ne_eq, List.isPrefixOf_iff_prefix]
      intro e
      have := e.length_le
      rw [← Lib.size_eq, ← Lib.size_eq] at this
      omega
    go_enter Tryz.func53, Tryz.ntmps53
    go_wp2_with fail
    go_ret
    exact ⟨by rw [hx.out]; rfl, rfl⟩

set_option maxHeartbeats 1000000 in
set_option maxRecDepth 100000 in
theorem ends_any (s p : ByteArray) (w : World) (hs : s.size ≤ 1000000000) (hp : p.size ≤ 1000000000) :
    Calls Tryz.prog 198 #[.string s, .string p] w fun e w' => e = .returned (.bool (p.data.toList.isSuffixOf s.data.toList)) ∧ w' = w := by
  by_cases h : p.size ≤ s.size
  · have t1 : decide ((p.size : Int) ≤ (s.size : Int)) = true := decide_eq_true (by omega)
    have hb : ((s.extract (s.size - p.size) s.size).toList == p.toList) = p.data.toList.isSuffixOf s.data.toList := by
      rw [Lib.toList_data, Lib.toList_data, Lib.extract_data, Lib.size_eq s, Lib.size_eq p]
      rw [List.take_of_length_le (by rw [List.length_drop]; omega)]
      rw [Bool.eq_iff_iff, beq_iff_eq, List.isSuffixOf_iff_suffix]
      constructor
      · intro e
        refine ⟨s.data.toList.take (s.data.toList.length - p.data.toList.length), ?_⟩
        conv => lhs; rhs; rw [← e]
        exact List.take_append_drop _ _
      · rintro ⟨t, e⟩
        rw [← e, List.length_append, Nat.add_sub_cancel, List.drop_left]
    have hsub : ((s.size : Int) - (p.size : Int)) = ((s.size - p.size : Nat) : Int) := by omega
    have HS := Lib.hid hsub
    clear hsub
    cases hx : p.data.toList.isSuffixOf s.data.toList with
    | true =>
      rw [hx] at hb
      go_enter Tryz.func198, Tryz.ntmps198
      go_wp2_with fail
      go_ret
      exact ⟨rfl, rfl⟩
    | false =>
      rw [hx] at hb
      go_enter Tryz.func198, Tryz.ntmps198
      go_wp2_with fail
      go_ret
      exact ⟨rfl, rfl⟩
  · have t1 : decide ((p.size : Int) ≤ (s.size : Int)) = false := decide_eq_false (by omega)
    have hx : Hid (p.data.toList.isSuffixOf s.data.toList = false) := by
      rw [Hid, Bool.eq_false_iff, ne_eq, List.isSuffixOf_iff_suffix]
      intro e
      have := e.length_le
      rw [← Lib.size_eq, ← Lib.size_eq] at this
      omega
    go_enter Tryz.func198, Tryz.ntmps198
    go_wp2_with fail
    go_ret
    exact ⟨by rw [hx.out]; rfl, rfl⟩
end Go.Proofs.YtjiaidchcldocaaGreatDoor
namespace Go.Proofs.YtjiaidchcldocaaGreatDoor
open Go.RowKit

def HeadSays (o : Option (Int × Nat × Int × Nat)) (a b : Int) (x y : Nat) (B : Bool) : Prop := (B = false ∧ o = none) ∨ (B = true ∧ o = some (a, x, b, y))
def headV (a b : Int) (x y : Nat) (B : Bool) : Value := .tuple #[.agg #[.int .i64 a, .int .i64 b, .slice none 0 0], .int .i64 x, .int .i64 y, .bool B]
set_option maxHeartbeats 2000000 in
set_option maxRecDepth 100000 in
theorem refHeadOf_any (s : ByteArray) (hs : s.size ≤ 1000000000) (w : World) :
    Calls Tryz.prog 160 #[.string s] w fun e w' => ∃ (a b : Int) (x y : Nat) (B : Bool), e = .returned (headV a b x y B) ∧ Chg Never w w' ∧ HeadSays (headOf s.data.toList) a b x y B := by
  have hsz := Lib.size_eq s
  have hA0 : Chg Never w (w.alloc (.cells #[.int .i64 0, .int .i64 0, .slice none 0 0] 129)) := (Chg.refl Never w).alloc _
  have hB0 := Blk3.new w 129 (.int .i64 0) (.int .i64 0) (.slice none 0 0)
  have HS1 := fun wx => Lib.hid (starts_any s (toB atAt) wx hs (by decide))
  have HS2 := fun wx => Lib.hid (ends_any s (toB endAt) wx hs (by decide))
  obtain ⟨p1, e1⟩ : ∃ p1, atAt.isPrefixOf s.data.toList = p1 := ⟨_, rfl⟩
  obtain ⟨p2, e2⟩ : ∃ p2, endAt.isSuffixOf s.data.toList = p2 := ⟨_, rfl⟩
  rw [toB_data, e1] at HS1
  rw [toB_data, e2] at HS2
  have E1 := Lib.hid e1
  have E2 := Lib.hid e2
  have HSZ := Lib.hid hsz
  clear e1 e2 hsz
  go_enter Tryz.func160, Tryz.ntmps160
  go_wp2_with fail
  obtain ⟨w0, hw0⟩ : ∃ w0, w.alloc (.cells #[.int .i64 0, .int .i64 0, .slice none 0 0] 129) = w0 := ⟨_, rfl⟩
  obtain ⟨wb, hwbe⟩ : ∃ wb, w.heap.size = wb := ⟨_, rfl⟩
  have hwb : w.heap.size ≤ wb := Nat.le_of_eq hwbe
  rw [hw0] at hA0 hB0 ⊢
  rw [hwbe] at hB0 ⊢
  clear hw0 hwbe
  refine (HS1 _).out.mono ?_
  rintro e w1 ⟨rfl, rfl⟩
  rename World => w0
  go_wp2_with fail
  refine (HS2 _).out.mono ?_
  rintro e w1 ⟨rfl, rfl⟩
  rename World => w0
  have hA := hA0
  have hB := hB0
  obtain ⟨b0, b1, b2⟩ := hB.cell
  have f0 := hB.free 0
  have f1 := hB.free 1
  have f2 := hB.free 2
  have S0 := cell_put_eq b0
  have S1 := cell_put_eq b1
  have S2 := cell_put_eq b2
  clear hA0 hB0 HS1 HS2
  cases p1 with
  | false =>
    have hr : Hid (headOf s.data.toList = none) := by
      rw [Hid, head_ref]
      exact if_neg (fun q => by rw [E1.out] at q; exact absurd q.1 (by decide))
    go_wp2_with fail
    refine bodyPost_ret (v := headV 0 0 0 0 false) (by simp [headV, results, Tryz.results160, go_sem, b0, b1, b2]) rfl ?_
    exact ⟨0, 0, 0, 0, false, rfl, hA, .inl ⟨rfl, hr.out⟩⟩
  | true =>
    cases p2 with
    | false =>
      have hr : Hid (headOf s.data.toList = none) := by
        rw [Hid, head_ref]
        exact if_neg (fun q => by rw [E2.out] at q; exact absurd q.2.1 (by decide))
      go_wp2_with fail
      refine bodyPost_ret (v := headV 0 0 0 0 false) (by simp [headV, results, Tryz.results160, go_sem, b0, b1, b2]) rfl ?_
      exact ⟨0, 0, 0, 0, false, rfl, hA, .inl ⟨rfl, hr.out⟩⟩
    | true =>
      by_cases h7 : s.size < 7
      · have t7 : decide ((s.size : Int) < 7) = true := decide_eq_true (by omega)
        have hr : Hid (headOf s.data.toList = none) := by
          rw [Hid, head_ref]
          exact if_neg (fun q => by have := q.2.2; rw [← HSZ.out] at this; omega)
        go_wp2_with fail
        refine bodyPost_ret (v := headV 0 0 0 0 false) (by simp [headV, results, Tryz.results160, go_sem, b0, b1, b2]) rfl ?_
        exact ⟨0, 0, 0, 0, false, rfl, hA, .inl ⟨rfl, hr.out⟩⟩
      · have t7 : decide ((s.size : Int) < 7) = false := decide_eq_false (by omega)
        have HD : Hid ((s.extract 4 (s.size - 3)).data.toList = (s.data.toList.drop 4).take (s.data.toList.length - 7)) := by
          rw [Hid, Lib.extract_data, ← HSZ.out, show s.size - 3 - 4 = s.size - 7 by omega]
        have HT : Hid (headOf s.data.toList = match cutSub [32, 43] (s.extract 4 (s.size - 3)).data.toList with
            | none => none
            | some (u, v) => match spanOf u with
              | none => none
              | some (a, x) => match spanOf v with
                | none => none
                | some (b, y) => some (a, x, b, y)) := by
          rw [Hid, head_ref, if_pos ⟨E1.out, E2.out, by rw [← HSZ.out]; omega⟩, HD.out]; rfl
        have hTz : (s.extract 4 (s.size - 3)).size ≤ 1000000000 := by
          rw [Lib.size_eq, HD.out, List.length_take]
          have := HSZ.out
          omega
        have s3 : IntKind.i64.wrap ((s.size : Int) - 3) = ((s.size - 3 : Nat) : Int) := by rw [show (s.size : Int) - 3 = ((s.size - 3 : Nat) : Int) by omega]; exact IntWalk.i64_in _ (by omega)
        go_wp2_with fail
        clear s3 HD E1 E2 HSZ t7 h7
        generalize s.extract 4 (s.size - 3) = T at HT hTz ⊢
        have HF := find_any T ⟨#[32, 43]⟩ w0 hTz (by decide) (by decide)
        rw [show (⟨#[32, 43]⟩ : ByteArray).data.toList = [32, 43] from rfl] at HF
        rcases pos_of_index (t := [32, 43]) (s := T.data.toList) (by simp) with ⟨hc, hix⟩ | ⟨u, v, hc, hix, huv⟩
        · rw [hix] at HF
          rw [hc] at HT
          have HT : Hid (headOf s.data.toList = none) := HT
          clear hc hix
          refine HF.mono ?_
          rintro e w1 ⟨rfl, rfl⟩
          rename World => w0
          clear HF
          go_wp2_with fail
          refine bodyPost_ret (v := headV 0 0 0 0 false) (by simp [headV, results, Tryz.results160, go_sem, b0, b1, b2]) rfl ?_
          exact ⟨0, 0, 0, 0, false, rfl, hA, .inl ⟨rfl, HT.out⟩⟩
        · rw [hix] at HF
          rw [hc] at HT
          simp only at HT
          have hl := congrArg List.length huv
          rw [List.length_append, List.length_append, ← Lib.size_eq] at hl
          simp only [List.length_cons, List.length_nil] at hl
          have HX : (T.extract 0 u.length).data.toList = u := by
            rw [Lib.extract_data, huv, List.drop_zero, Nat.sub_zero, List.append_assoc, List.take_left]
          have HY : (T.extract (u.length + 2) T.size).data.toList = v := by
            rw [Lib.extract_data, Lib.size_eq, huv, show u.length + 2 = (u ++ [32, 43]).length by simp, List.drop_left, List.take_of_length_le (by simp; omega)]
          have N1 := fun wx => refSpanOf_any (T.extract 0 u.length) (by rw [Lib.size_eq, HX]; omega) wx
          have N2 := fun wx => refSpanOf_any (T.extract (u.length + 2) T.size) (by rw [Lib.size_eq, HY]; omega) wx
          rw [HX] at N1
          rw [HY] at N2
          obtain ⟨k, hk⟩ : ∃ k, u.length = k := ⟨_, rfl⟩
          have s1 : IntKind.i64.wrap ((k : Int) + 2) = (k : Int) + 2 := IntWalk.i64_in _ (by omega)
          rw [hk] at HF N1 N2 hl
          have hl2 : k + 2 ≤ T.size := by omega
          clear hc hix HX HY huv hk hl
          refine HF.mono ?_
          rintro e w1 ⟨rfl, rfl⟩
          rename World => w0
          clear HF
          cases h1 : spanOf u with
          | none =>
            rw [h1] at HT N1
            have HT : Hid (headOf s.data.toList = none) := HT
            cases h2 : spanOf v with
            | none =>
              rw [h2] at N2
              unfold spanR at N1 N2
              have N1 := fun wx => Lib.hid (N1 wx)
              have N2 := fun wx => Lib.hid (N2 wx)
              clear h1 h2
              go_wp2_with fail
              refine (N1 _).out.mono ?_
              rintro e w1 ⟨rfl, rfl⟩
              go_wp2_with fail
              refine (N2 _).out.mono ?_
              rintro e w1 ⟨rfl, rfl⟩
              clear N1 N2 s1
              have hBF := ((hB.set0 (.int .i64 0)).set1 (.int .i64 0)).set2 (.slice none 0 0)
              have hCF := ((hA.setCell (p := ⟨wb, 0, none⟩) (.inl hwb) (.int .i64 0)).setCell (p := ⟨wb, 1, none⟩) (.inl hwb) (.int .i64 0)).setCell (p := ⟨wb, 2, none⟩) (.inl hwb) (.slice none 0 0)
              clear S0 S1 S2
              go_wp2_with fail
              obtain ⟨d0, d1, d2⟩ := hBF.cell
              refine bodyPost_ret (v := headV 0 0 0 0 false) (by simp [headV, results, Tryz.results160, go_sem, d0, d1, d2]) rfl ?_
              exact ⟨0, 0, 0, 0, false, rfl, hCF, .inl ⟨rfl, HT.out⟩⟩
            | some q =>
              obtain ⟨b, y⟩ := q
              rw [h2] at N2
              unfold spanR at N1 N2
              have N1 := fun wx => Lib.hid (N1 wx)
              have N2 := fun wx => Lib.hid (N2 wx)
              clear h1 h2
              go_wp2_with fail
              refine (N1 _).out.mono ?_
              rintro e w1 ⟨rfl, rfl⟩
              go_wp2_with fail
              refine (N2 _).out.mono ?_
              rintro e w1 ⟨rfl, rfl⟩
              clear N1 N2 s1
              have hBF := ((hB.set0 (.int .i64 0)).set1 (.int .i64 b)).set2 (.slice none 0 0)
              have hCF := ((hA.setCell (p := ⟨wb, 0, none⟩) (.inl hwb) (.int .i64 0)).setCell (p := ⟨wb, 1, none⟩) (.inl hwb) (.int .i64 b)).setCell (p := ⟨wb, 2, none⟩) (.inl hwb) (.slice none 0 0)
              clear S0 S1 S2
              go_wp2_with fail
              obtain ⟨d0, d1, d2⟩ := hBF.cell
              refine bodyPost_ret (v := headV 0 b 0 y false) (by simp [headV, results, Tryz.results160, go_sem, d0, d1, d2]) rfl ?_
              exact ⟨0, b, 0, y, false, rfl, hCF, .inl ⟨rfl, HT.out⟩⟩
          | some q =>
            obtain ⟨a, x⟩ := q
            rw [h1] at HT N1
            simp only at HT
            cases h2 : spanOf v with
            | none =>
              rw [h2] at N2 HT
              have HT : Hid (headOf s.data.toList = none) := HT
              unfold spanR at N1 N2
              have N1 := fun wx => Lib.hid (N1 wx)
              have N2 := fun wx => Lib.hid (N2 wx)
              clear h1 h2
              go_wp2_with fail
              refine (N1 _).out.mono ?_
              rintro e w1 ⟨rfl, rfl⟩
              go_wp2_with fail
              refine (N2 _).out.mono ?_
              rintro e w1 ⟨rfl, rfl⟩
              clear N1 N2 s1
              have hBF := ((hB.set0 (.int .i64 a)).set1 (.int .i64 0)).set2 (.slice none 0 0)
              have hCF := ((hA.setCell (p := ⟨wb, 0, none⟩) (.inl hwb) (.int .i64 a)).setCell (p := ⟨wb, 1, none⟩) (.inl hwb) (.int .i64 0)).setCell (p := ⟨wb, 2, none⟩) (.inl hwb) (.slice none 0 0)
              clear S0 S1 S2
              go_wp2_with fail
              obtain ⟨d0, d1, d2⟩ := hBF.cell
              refine bodyPost_ret (v := headV a 0 x 0 false) (by simp [headV, results, Tryz.results160, go_sem, d0, d1, d2]) rfl ?_
              exact ⟨a, 0, x, 0, false, rfl, hCF, .inl ⟨rfl, HT.out⟩⟩
            | some q =>
              obtain ⟨b, y⟩ := q
              rw [h2] at N2 HT
              have HT : Hid (headOf s.data.toList = some (a, x, b, y)) := HT
              unfold spanR at N1 N2
              have N1 := fun wx => Lib.hid (N1 wx)
              have N2 := fun wx => Lib.hid (N2 wx)
              clear h1 h2
              go_wp2_with fail
              refine (N1 _).out.mono ?_
              rintro e w1 ⟨rfl, rfl⟩
              go_wp2_with fail
              refine (N2 _).out.mono ?_
              rintro e w1 ⟨rfl, rfl⟩
              clear N1 N2 s1
              have hBF := ((hB.set0 (.int .i64 a)).set1 (.int .i64 b)).set2 (.slice none 0 0)
              have hCF := ((hA.setCell (p := ⟨wb, 0, none⟩) (.inl hwb) (.int .i64 a)).setCell (p := ⟨wb, 1, none⟩) (.inl hwb) (.int .i64 b)).setCell (p := ⟨wb, 2, none⟩) (.inl hwb) (.slice none 0 0)
              clear S0 S1 S2
              go_wp2_with fail
              obtain ⟨d0, d1, d2⟩ := hBF.cell
              refine bodyPost_ret (v := headV a b x y true) (by simp [headV, results, Tryz.results160, go_sem, d0, d1, d2]) rfl ?_
              exact ⟨a, b, x, y, true, rfl, hCF, .inr ⟨rfl, HT.out⟩⟩
end Go.Proofs.YtjiaidchcldocaaGreatDoor
