/-
  THE WALKS of tree.Check and of the document's TreeFault, Place.
-/
import Derived.Test.YtpoammapjmddfaaDoorTextB
import Derived.Test.YtpoammapjmddfaaDoorSpecTree
namespace Go.Proofs.YtpoammapjmddfaaDoor
open Go.RowKit

theorem elems_file {w : World} {O : Nat → Prop} {a : Option Addr} {l : List File} (h : Elems w O a l) {i : Nat} {x : File} (hx : l[i]? = some x) :
    ∃ b off v, a = some ⟨b, off, none⟩ ∧ ¬ O b ∧ b < w.heap.size ∧ w.cell? ⟨b, off + i * 2, none⟩ = some (.string x.path) ∧ w.cell? ⟨b, off + i * 2 + 1, none⟩ = some v ∧ x.path.size ≤ maxLen ∧ Rdv w O v x.lines := by
  obtain ⟨b, off, es, ha, hb, hcs, v, rfl, hp, hv⟩ := h i x hx
  refine ⟨b, off, v, ha, hb, hcs.lt (by simp), ?_, ?_, hp, hv⟩
  · simpa [Dat.n] using hcs 0 _ rfl
  · simpa [Dat.n] using hcs 1 _ rfl
def prevOf (t : List File) (k : Nat) : Option ByteArray := if k = 0 then none else (t[k - 1]?).map (·.path)
theorem prevOf_succ {t : List File} {k : Nat} {f : File} (h : t[k]? = some f) : prevOf t (k + 1) = some f.path := by unfold prevOf; simp [h]
theorem treeGo_next {t : List File} {k : Nat} {f : File} {prev : Option ByteArray} (hd : t.drop k = f :: t.drop (k + 1)) (h1 : fileFault f = 0) (h2 : prev.any (fun p => leqB f.path p) = false) : treeGo k prev (t.drop k) = treeGo (k + 1) (some f.path) (t.drop (k + 1)) := by
  rw [hd, treeGo, if_neg (by simp [h1]), if_neg (by rw [h2]; decide)]
theorem treeGo_bad {t : List File} {k : Nat} {f : File} {prev : Option ByteArray} (hd : t.drop k = f :: t.drop (k + 1)) (h1 : fileFault f ≠ 0) : treeGo k prev (t.drop k) = (k, fileFault f) := by
  rw [hd, treeGo, if_pos h1]
theorem treeGo_order {t : List File} {k : Nat} {f : File} {p : ByteArray} (hd : t.drop k = f :: t.drop (k + 1)) (h1 : fileFault f = 0) (h2 : leqB f.path p = true) : treeGo k (some p) (t.drop k) = (k, 2) := by
  rw [hd, treeGo, if_neg (by simp [h1]), if_pos (by simpa using h2)]
theorem treeGo_end {t : List File} {prev : Option ByteArray} : treeGo t.length prev (t.drop t.length) = (0, 0) := by rw [List.drop_length]; rfl

set_option maxHeartbeats 2000000 in
set_option maxRecDepth 100000 in
theorem tree_check_any (t : List File) (v : Value) (w : World) (h : Rdv w Never v t) (m : Int) (hm : w.cell? ⟨1, 0, none⟩ = some (.int .i64 m)) :
    Calls Tryd.prog 27 #[v] w fun e w' => e = .returned (.tuple #[.int .i64 (treeFault t).1, errV (treeFault t).2]) ∧ Chg Never w w' := by
  obtain ⟨a, cap, rfl, h1, h2, h3⟩ := rdv_slice h
  unfold maxLen at h2
  by_cases h8 : 8 < t.length
  · have HF : Hid (treeFault t = (0, 3)) := if_pos h8
    go_enter Tryd.func27, Tryd.ntmps27
    go_wp2_with fail
    go_ret2
    exact ⟨by rw [HF.out]; rfl, Chg.refl _ _⟩
  · have HF : Hid (treeFault t = treeGo 0 (prevOf t 0) (t.drop 0)) := if_neg h8
    go_enter Tryd.func27, Tryd.ntmps27
    go_wp2_with fail
    go_loopw [14] (fun i wr => ∃ k : Nat, k ≤ t.length ∧ i = .int .i64 k ∧ Chg Never w wr ∧ Hid (treeFault t = treeGo k (prevOf t k) (t.drop k))) (fun i _ => t.length - (intOf i).toNat)
    case atStart => exact ⟨0, Nat.zero_le _, rfl, Chg.refl _ _, HF.out⟩
    case round =>
      clear HF
      obtain ⟨k, hk, rfl, hc, hG⟩ := hrel
      by_cases hlt : k < t.length
      · obtain ⟨x, hx⟩ : ∃ x, t[k]? = some x := ⟨t[k], by simp [hlt]⟩
        obtain ⟨b, off, lv, rfl, _, _, c0, c1, hps, hlv⟩ := elems_file h3 hx
        obtain ⟨la, lcap, rfl, _, _, _⟩ := rdv_slice hlv
        have c0 := hc.cellNever c0
        have c1 := hc.cellNever c1
        have HD := Lib.hid (drop_eq hx)
        have HPV := Lib.hid (prevOf_succ hx)
        have HX := Lib.hid hx
        have hA : Chg Never wr (wr.alloc (.cells #[.string x.path, .slice la x.lines.length lcap] 50)) := (Chg.refl Never wr).alloc _
        have b0 : (wr.alloc (.cells #[.string x.path, .slice la x.lines.length lcap] 50)).cell? ⟨wr.heap.size, 0, none⟩ = some (.string x.path) := by simp only [World.cell?]; rw [heap_alloc_new]; rfl
        have b1 : (wr.alloc (.cells #[.string x.path, .slice la x.lines.length lcap] 50)).cell? ⟨wr.heap.size, 1, none⟩ = some (.slice la x.lines.length lcap) := by simp only [World.cell?]; rw [heap_alloc_new]; rfl
        clear hx
        by_cases p0 : pathFault x.path = 0
        · have P0 := Lib.hid p0
          by_cases l0 : linesFault x.lines = 0
          · have HFF : Hid (fileFault x = 0) := by unfold Hid fileFault; rw [if_pos p0, l0]
            have L0 := Lib.hid l0
            clear p0 l0
            go_wp2_with fail
            generalize wr.alloc (.cells #[.string x.path, .slice la x.lines.length lcap] 50) = w3 at hA b0 b1 ⊢
            have hc3 := hc.trans hA
            refine (line_path_any x.path _ m (hc3.cellNever hm)).mono ?_
            rintro e w4 ⟨rfl, hc4⟩
            have b0 := hc4.cellNever b0
            have b1 := hc4.cellNever b1
            have hcD := hc3.trans hc4
            clear hc4 hc3 hA c0 c1
            rw [P0.out, errV_zero]
            go_wp2_with fail
            refine (check_any x.lines _ _ (hlv.never hcD)).mono ?_
            rintro e w5 ⟨rfl, rfl⟩
            rw [L0.out, errV_zero]
            clear b1
            rcases Nat.eq_zero_or_pos k with h0 | h0
            · subst h0
              have HNX : Hid (treeFault t = treeGo (0 + 1) (prevOf t (0 + 1)) (t.drop (0 + 1))) := by rw [Hid, HPV.out, hG.out]; exact treeGo_next HD.out HFF.out rfl
              clear hG
              go_wp2_with fail
              go_quiet (fail)
              go_wp2_with fail
              go_roundw
              case rel => exact ⟨0 + 1, by omega, by go_num, hcD.drewN _, HNX⟩
              case measure => simp [intOf] <;> omega
            · obtain ⟨k', rfl⟩ : ∃ k', k = k' + 1 := ⟨k - 1, by omega⟩
              obtain ⟨y, hy⟩ : ∃ y, t[k']? = some y := ⟨t[k']'(by omega), by simp [show k' < t.length by omega]⟩
              obtain ⟨b', off', lv', hbo, _, _, y0, _, _, _⟩ := elems_file h3 hy
              simp only [Option.some.injEq, Addr.mk.injEq, and_true] at hbo
              obtain ⟨rfl, rfl⟩ := hbo
              have y0 := hcD.cellNever y0
              have HPY : Hid (prevOf t (k' + 1) = some y.path) := prevOf_succ hy
              have z1 : (k' : Int) + 1 - 1 = k' := by omega
              have z2 : decide ((0 : Int) < (k' : Int) + 1) = true := decide_eq_true (by omega)
              clear hy
              rcases less_tri x.path y.path with g | g | g
              · have HE : Hid (treeFault t = (k' + 1, 2)) := by rw [Hid, hG.out, HPY.out]; exact treeGo_order HD.out HFF.out (leqB_true.2 (less_asymm g))
                have a1 : Op.bytesLess x.path.toList y.path.toList = true := g
                clear g hG
                go_wp2_with fail
                go_quiet (fail)
                go_wp2_with fail; go_ret2; exact ⟨by rw [HE.out]; rfl, hcD.drewN _⟩
              · have HE : Hid (treeFault t = (k' + 1, 2)) := by rw [Hid, hG.out, HPY.out]; exact treeGo_order HD.out HFF.out (leqB_true.2 (by rw [g]; exact less_irrefl _))
                have a1 : Op.bytesLess x.path.toList y.path.toList = false := by rw [g]; exact bl_irrefl _
                have a2 : (x.path.toList == y.path.toList) = true := by rw [g]; exact beq_self_eq_true _
                clear g hG
                go_wp2_with fail
                go_quiet (fail)
                go_wp2_with fail; go_ret2; exact ⟨by rw [HE.out]; rfl, hcD.drewN _⟩
              · have HNX : Hid (treeFault t = treeGo (k' + 1 + 1) (prevOf t (k' + 1 + 1)) (t.drop (k' + 1 + 1))) := by
                  rw [Hid, HPV.out, hG.out]
                  refine treeGo_next HD.out HFF.out ?_
                  rw [HPY.out, Option.any_some, Bool.eq_false_iff]
                  intro e
                  rw [leqB_true.1 e] at g; cases g
                have a1 : Op.bytesLess x.path.toList y.path.toList = false := less_asymm g
                have a2 := str_beq_false (less_ne g).symm
                clear g hG
                go_wp2_with fail
                go_quiet (fail)
                go_wp2_with fail
                go_roundw
                case rel => exact ⟨k' + 1 + 1, by omega, by go_num, hcD.drewN _, HNX⟩
                case measure => simp [intOf] <;> omega
          · have HE : Hid (treeFault t = (k, linesFault x.lines)) := by
              have e : fileFault x = linesFault x.lines := by unfold fileFault; rw [if_pos p0]
              rw [Hid, hG.out, treeGo_bad HD.out (by rw [e]; exact l0), e]
            have L0 := Lib.hid l0
            clear p0 hG l0
            go_wp2_with fail
            generalize wr.alloc (.cells #[.string x.path, .slice la x.lines.length lcap] 50) = w3 at hA b0 b1 ⊢
            have hc3 := hc.trans hA
            refine (line_path_any x.path _ m (hc3.cellNever hm)).mono ?_
            rintro e w4 ⟨rfl, hc4⟩
            have b0 := hc4.cellNever b0
            have b1 := hc4.cellNever b1
            have hcD := hc3.trans hc4
            clear hc4 hc3 hA c0 c1
            rw [P0.out, errV_zero]
            go_wp2_with fail
            refine (check_any x.lines _ _ (hlv.never hcD)).mono ?_
            rintro e w5 ⟨rfl, rfl⟩
            rw [errV_pos L0.out]
            go_wp2_with fail
            go_ret2
            exact ⟨by rw [HE.out, errV_pos L0.out]; rfl, hcD⟩
        · have HE : Hid (treeFault t = (k, pathFault x.path)) := by
            have e : fileFault x = pathFault x.path := by unfold fileFault; rw [if_neg p0]
            rw [Hid, hG.out, treeGo_bad HD.out (by rw [e]; exact p0), e]
          have P0 := Lib.hid p0
          clear p0 hG
          go_wp2_with fail
          generalize wr.alloc (.cells #[.string x.path, .slice la x.lines.length lcap] 50) = w3 at hA b0 b1 ⊢
          have hc3 := hc.trans hA
          refine (line_path_any x.path _ m (hc3.cellNever hm)).mono ?_
          rintro e w4 ⟨rfl, hc4⟩
          have b0 := hc4.cellNever b0
          have b1 := hc4.cellNever b1
          have hcD := hc3.trans hc4
          clear hc4 hc3 hA c0 c1
          rw [errV_pos P0.out]
          go_wp2_with fail
          go_ret2
          exact ⟨by rw [HE.out, errV_pos P0.out]; rfl, hcD⟩
      · obtain rfl : k = t.length := by omega
        have e := hG.out
        rw [treeGo_end] at e
        have HE := Lib.hid e
        clear hG e
        go_wp2_with fail
        go_ret2
        exact ⟨by rw [HE.out]; rfl, hc⟩

set_option maxHeartbeats 2000000 in
set_option maxRecDepth 100000 in
theorem refTree_any (t : List File) (v : Value) (w : World) (h : Rdv w Never v t) :
    Calls Tryd.prog 26 #[v] w fun e w' => e = .returned (.tuple #[.int .i64 (treeFault t).1, .int .i64 (treeFault t).2]) ∧ Chg Never w w' := by
  obtain ⟨a, cap, rfl, h1, h2, h3⟩ := rdv_slice h
  unfold maxLen at h2
  by_cases h8 : 8 < t.length
  · have HF : Hid (treeFault t = (0, 3)) := if_pos h8
    go_enter Tryd.func26, Tryd.ntmps26
    go_wp2_with fail
    go_ret2
    exact ⟨by rw [HF.out]; rfl, Chg.refl _ _⟩
  · have HF : Hid (treeFault t = treeGo 0 (prevOf t 0) (t.drop 0)) := if_neg h8
    go_enter Tryd.func26, Tryd.ntmps26
    go_wp2_with fail
    go_loopw [4] (fun i wr => ∃ k : Nat, k ≤ t.length ∧ i = .int .i64 k ∧ Chg Never w wr ∧ Hid (treeFault t = treeGo k (prevOf t k) (t.drop k))) (fun i _ => t.length - (intOf i).toNat)
    case atStart => exact ⟨0, Nat.zero_le _, rfl, Chg.refl _ _, HF.out⟩
    case round =>
      clear HF
      obtain ⟨k, hk, rfl, hc, hG⟩ := hrel
      by_cases hlt : k < t.length
      · obtain ⟨x, hx⟩ : ∃ x, t[k]? = some x := ⟨t[k], by simp [hlt]⟩
        obtain ⟨b, off, lv, rfl, _, _, d0, d1, hps, hlv⟩ := elems_file h3 hx
        have c0 := hc.cellNever d0
        have HD := Lib.hid (drop_eq hx)
        have HPV := Lib.hid (prevOf_succ hx)
        have HX := Lib.hid hx
        have D0 := Lib.hid d0
        have D1 := Lib.hid d1
        clear hx d0 d1
        by_cases p0 : pathFault x.path = 0
        · have P0 := Lib.hid p0
          by_cases l0 : linesFault x.lines = 0
          · have HFF : Hid (fileFault x = 0) := by unfold Hid fileFault; rw [if_pos p0, l0]
            have L0 := Lib.hid l0
            clear p0 l0
            go_wp2_with fail
            refine (refPath_any x.path _).mono ?_
            rintro e w4 ⟨rfl, hc4⟩
            have hc4 := hc.trans hc4
            have c1 := hc4.cellNever D1.out
            clear c0
            rw [P0.out]
            go_wp2_with fail
            refine (refLines_any x.lines _ _ (hlv.never hc4)).mono ?_
            rintro e w5 ⟨rfl, hc5⟩
            have hc5 := hc4.trans hc5
            have c0 := hc5.cellNever D0.out
            rw [L0.out]
            clear c1 hc4
            have hcD := hc5
            clear hc5
            rcases Nat.eq_zero_or_pos k with h0 | h0
            · subst h0
              have HNX : Hid (treeFault t = treeGo (0 + 1) (prevOf t (0 + 1)) (t.drop (0 + 1))) := by rw [Hid, HPV.out, hG.out]; exact treeGo_next HD.out HFF.out rfl
              clear hG
              go_wp2_with fail
              go_quiet (fail)
              go_wp2_with fail
              go_roundw
              case rel => exact ⟨0 + 1, by omega, by go_num, hcD.drewN _, HNX⟩
              case measure => simp [intOf] <;> omega
            · obtain ⟨k', rfl⟩ : ∃ k', k = k' + 1 := ⟨k - 1, by omega⟩
              obtain ⟨y, hy⟩ : ∃ y, t[k']? = some y := ⟨t[k']'(by omega), by simp [show k' < t.length by omega]⟩
              obtain ⟨b', off', lv', hbo, _, _, y0, _, _, _⟩ := elems_file h3 hy
              simp only [Option.some.injEq, Addr.mk.injEq, and_true] at hbo
              obtain ⟨rfl, rfl⟩ := hbo
              have y0 := hcD.cellNever y0
              have HPY : Hid (prevOf t (k' + 1) = some y.path) := prevOf_succ hy
              have z1 : (k' : Int) + 1 - 1 = k' := by omega
              have z2 : decide ((0 : Int) < (k' : Int) + 1) = true := decide_eq_true (by omega)
              clear hy
              rcases less_tri x.path y.path with g | g | g
              · have HE : Hid (treeFault t = (k' + 1, 2)) := by rw [Hid, hG.out, HPY.out]; exact treeGo_order HD.out HFF.out (leqB_true.2 (less_asymm g))
                have a1 : Op.bytesLess x.path.toList y.path.toList = true := g
                clear g hG
                go_wp2_with fail
                go_quiet (fail)
                go_wp2_with fail; go_ret2; exact ⟨by rw [HE.out]; rfl, hcD.drewN _⟩
              · have HE : Hid (treeFault t = (k' + 1, 2)) := by rw [Hid, hG.out, HPY.out]; exact treeGo_order HD.out HFF.out (leqB_true.2 (by rw [g]; exact less_irrefl _))
                have a1 : Op.bytesLess x.path.toList y.path.toList = false := by rw [g]; exact bl_irrefl _
                have a2 : (x.path.toList == y.path.toList) = true := by rw [g]; exact beq_self_eq_true _
                clear g hG
                go_wp2_with fail
                go_quiet (fail)
                go_wp2_with fail; go_ret2; exact ⟨by rw [HE.out]; rfl, hcD.drewN _⟩
              · have HNX : Hid (treeFault t = treeGo (k' + 1 + 1) (prevOf t (k' + 1 + 1)) (t.drop (k' + 1 + 1))) := by
                  rw [Hid, HPV.out, hG.out]
                  refine treeGo_next HD.out HFF.out ?_
                  rw [HPY.out, Option.any_some, Bool.eq_false_iff]
                  intro e
                  rw [leqB_true.1 e] at g; cases g
                have a1 : Op.bytesLess x.path.toList y.path.toList = false := less_asymm g
                have a2 := str_beq_false (less_ne g).symm
                clear g hG
                go_wp2_with fail
                go_quiet (fail)
                go_wp2_with fail
                go_roundw
                case rel => exact ⟨k' + 1 + 1, by omega, by go_num, hcD.drewN _, HNX⟩
                case measure => simp [intOf] <;> omega
          · have HE : Hid (treeFault t = (k, linesFault x.lines)) := by
              have e : fileFault x = linesFault x.lines := by unfold fileFault; rw [if_pos p0]
              rw [Hid, hG.out, treeGo_bad HD.out (by rw [e]; exact l0), e]
            have t1 : (linesFault x.lines == 0) = false := by simp [l0]
            have t2 : (linesFault x.lines != 0) = true := by simp [l0]
            clear p0 l0 hG
            go_wp2_with fail
            refine (refPath_any x.path _).mono ?_
            rintro e w4 ⟨rfl, hc4⟩
            have hc4 := hc.trans hc4
            have c1 := hc4.cellNever D1.out
            clear c0
            rw [P0.out]
            go_wp2_with fail
            refine (refLines_any x.lines _ _ (hlv.never hc4)).mono ?_
            rintro e w5 ⟨rfl, hc5⟩
            have hc5 := hc4.trans hc5
            clear c1 hc4
            go_wp2_with fail
            go_quiet (fail)
            go_wp2_with fail
            go_ret2
            exact ⟨by rw [HE.out]; rfl, hc5.drewN _⟩
        · have HE : Hid (treeFault t = (k, pathFault x.path)) := by
            have e : fileFault x = pathFault x.path := by unfold fileFault; rw [if_neg p0]
            rw [Hid, hG.out, treeGo_bad HD.out (by rw [e]; exact p0), e]
          have t1 : (pathFault x.path == 0) = false := by simp [p0]
          have t2 : (pathFault x.path != 0) = true := by simp [p0]
          clear p0 hG
          go_wp2_with fail
          refine (refPath_any x.path _).mono ?_
          rintro e w4 ⟨rfl, hc5⟩
          have hc5 := hc.trans hc5
          clear c0
          go_wp2_with fail
          go_quiet (fail)
          go_wp2_with fail
          go_ret2
          exact ⟨by rw [HE.out]; rfl, hc5.drewN _⟩
      · obtain rfl : k = t.length := by omega
        have e := hG.out
        rw [treeGo_end] at e
        have HE := Lib.hid e
        clear hG e
        go_wp2_with fail
        go_ret2
        exact ⟨by rw [HE.out]; rfl, hc⟩

/-- what Place answers -/
def placeI (t : List File) (p : ByteArray) : Int := match placeOf t p with | some i => i | none => -1
set_option maxHeartbeats 1000000 in
set_option maxRecDepth 100000 in
theorem refPlace_any (t : List File) (p : ByteArray) (v : Value) (w : World) (h : Rdv w Never v t) :
    Calls Tryd.prog 28 #[v, .string p] w fun e w' => e = .returned (.int .i64 (placeI t p)) ∧ Chg Never w w' := by
  obtain ⟨a, cap, rfl, h1, h2, h3⟩ := rdv_slice h
  unfold maxLen at h2
  go_enter Tryd.func28, Tryd.ntmps28
  go_wp2_with fail
  go_loopw [5] (fun i wr => ∃ k : Nat, k ≤ t.length ∧ i = .int .i64 k ∧ Chg Never w wr ∧ Hid (placeOf t p = ((t.drop k).findIdx? fun f => decide (f.path = p)).map (· + k))) (fun i _ => t.length - (intOf i).toNat)
  case atStart => exact ⟨0, Nat.zero_le _, rfl, Chg.refl _ _, by rw [Hid, List.drop_zero]; unfold placeOf; cases t.findIdx? fun f => decide (f.path = p) <;> rfl⟩
  case round =>
    obtain ⟨k, hk, rfl, hc, hP⟩ := hrel
    by_cases hlt : k < t.length
    · obtain ⟨x, hx⟩ : ∃ x, t[k]? = some x := ⟨t[k], by simp [hlt]⟩
      obtain ⟨b, off, lv, rfl, _, _, c0, _, hps, _⟩ := elems_file h3 hx
      have c0 := hc.cellNever c0
      have HD := Lib.hid (drop_eq hx)
      clear hx h3 h
      by_cases e : x.path = p
      · have HE : Hid (placeI t p = k) := by
          unfold Hid placeI
          rw [hP.out, HD.out, List.findIdx?_cons, decide_eq_true e]
          simp
        have t1 : (x.path.toList == p.toList) = true := by rw [e]; exact beq_self_eq_true _
        clear e
        go_wp2_with fail
        go_ret
        exact ⟨by rw [HE.out]; rfl, hc⟩
      · have HN : Hid (placeOf t p = ((t.drop (k + 1)).findIdx? fun f => decide (f.path = p)).map (· + (k + 1))) := by
          rw [Hid, hP.out, HD.out, List.findIdx?_cons, decide_eq_false e]
          cases (t.drop (k + 1)).findIdx? fun f => decide (f.path = p) with
          | none => rfl
          | some i => simp; omega
        have t1 := str_beq_false e
        clear e hP
        go_wp2_with fail
        go_roundw
        case rel => exact ⟨k + 1, by omega, by go_num, hc, HN.out⟩
        case measure => simp [intOf] <;> omega
    · have HE : Hid (placeI t p = -1) := by
        unfold Hid placeI
        rw [hP.out, List.drop_eq_nil_of_le (by omega)]; rfl
      go_wp2_with fail
      go_ret
      exact ⟨by rw [HE.out]; rfl, hc⟩
end Go.Proofs.YtpoammapjmddfaaDoor
