/-
  THE WALKS of tree.at, Get, Drop, Put.
-/
import Derived.Test.YtpoammapjmddfaaDoorTreeB
import Derived.Test.YtpoammapjmddfaaDoorTreeE
import Derived.Deep.RegionHeld3
namespace Go.Proofs.YtpoammapjmddfaaDoor
open Go.RowKit

def atFault (t : List File) (p : ByteArray) : Int := if (treeFault t).2 = 0 then pathFault p else (treeFault t).2
def atPos (t : List File) (p : ByteArray) : Int := if atFault t p = 0 then (posOf t p : Int) else 0
def atIs (t : List File) (p : ByteArray) : Bool := if atFault t p = 0 then isAt t p else false
def getFault (t : List File) (p : ByteArray) : Int := if atFault t p = 0 then (if isAt t p = true then 0 else 4) else atFault t p
def linesAt (t : List File) (p : ByteArray) : List ByteArray := ((t[posOf t p]?).map (·.lines)).getD []
def getR (t : List File) (p : ByteArray) : List ByteArray := if getFault t p = 0 then linesAt t p else []
def dropR (t : List File) (p : ByteArray) : List File := if getFault t p = 0 then dropAt t (posOf t p) else []
def putFault (t : List File) (f : File) : Int :=
  if atFault t f.path = 0 then (if linesFault f.lines = 0 then (if isAt t f.path = false ∧ t.length = 8 then 3 else 0) else linesFault f.lines) else atFault t f.path
def putR (t : List File) (f : File) : List File := if putFault t f = 0 then putAt t f else []
theorem isAt_get {t : List File} {p : ByteArray} (h : isAt t p = true) : ∃ x, t[posOf t p]? = some x ∧ x.path = p := by
  unfold isAt at h
  cases hx : t[posOf t p]? with
  | none => rw [hx] at h; cases h
  | some x =>
    rw [hx] at h
    simp only [Option.any_some, decide_eq_true_eq] at h
    exact ⟨x, rfl, h⟩

set_option maxHeartbeats 1000000 in
set_option maxRecDepth 100000 in
theorem tree_at_any (t : List File) (p : ByteArray) (v : Value) (w : World) (h : Rdv w Never v t) (m : Int) (hm : w.cell? ⟨1, 0, none⟩ = some (.int .i64 m)) :
    Calls Tryd.prog 61 #[v, .string p] w fun e w' => e = .returned (.tuple #[.int .i64 (atPos t p), .bool (atIs t p), errV (atFault t p)]) ∧ Chg Never w w' := by
  by_cases z : (treeFault t).2 = 0
  · have Z := Lib.hid z
    obtain ⟨hl8, _, hs, _⟩ := treeFault_zero z
    have HS := Lib.hid hs
    by_cases zp : pathFault p = 0
    · have HA : Hid (atFault t p = 0) := by unfold Hid atFault; rw [if_pos z, zp]
      have ZP := Lib.hid zp
      clear z zp hs
      go_enter Tryd.func61, Tryd.ntmps61
      go_wp2_with fail
      refine (tree_check_any t _ _ h m hm).mono ?_
      rintro e w1 ⟨rfl, hw⟩
      rw [Z.out, errV_zero]
      go_wp2_with fail
      refine (line_path_any p _ m (hw.cellNever hm)).mono ?_
      rintro e w2 ⟨rfl, hc2⟩
      have hw := hw.trans hc2
      clear hc2
      rw [ZP.out, errV_zero]
      go_wp2_with fail
      refine (find_any t p _ _ (h.never hw) HS.out (by omega)).mono ?_
      rintro e w3 ⟨rfl, hc3⟩
      have hw := hw.trans hc3
      clear hc3
      go_wp2_with fail
      go_ret3
      exact ⟨by rw [show atPos t p = posOf t p from if_pos HA.out, show atIs t p = isAt t p from if_pos HA.out, HA.out]; rfl, hw⟩
    · have HA : Hid (atFault t p = pathFault p) := if_pos z
      have ZP := Lib.hid zp
      clear z hs
      go_enter Tryd.func61, Tryd.ntmps61
      go_wp2_with fail
      refine (tree_check_any t _ _ h m hm).mono ?_
      rintro e w1 ⟨rfl, hw⟩
      rw [Z.out, errV_zero]
      go_wp2_with fail
      refine (line_path_any p _ m (hw.cellNever hm)).mono ?_
      rintro e w2 ⟨rfl, hc2⟩
      have hw := hw.trans hc2
      clear hc2
      rw [errV_pos zp]
      clear zp
      go_wp2_with fail
      go_ret3
      exact ⟨by rw [show atPos t p = 0 from if_neg (by rw [HA.out]; exact ZP.out), show atIs t p = false from if_neg (by rw [HA.out]; exact ZP.out), HA.out, errV_pos ZP.out]; rfl, hw⟩
  · have HA : Hid (atFault t p = (treeFault t).2) := if_neg z
    have Z := Lib.hid z
    go_enter Tryd.func61, Tryd.ntmps61
    go_wp2_with fail
    refine (tree_check_any t _ _ h m hm).mono ?_
    rintro e w1 ⟨rfl, hw⟩
    rw [errV_pos z]
    clear z
    go_wp2_with fail
    go_ret3
    exact ⟨by rw [show atPos t p = 0 from if_neg (by rw [HA.out]; exact Z.out), show atIs t p = false from if_neg (by rw [HA.out]; exact Z.out), HA.out, errV_pos Z.out]; rfl, hw⟩

set_option maxHeartbeats 1000000 in
set_option maxRecDepth 100000 in
theorem tree_get_any (t : List File) (p : ByteArray) (v : Value) (w : World) (h : Rdv w Never v t) (m : Int) (hm : w.cell? ⟨1, 0, none⟩ = some (.int .i64 m)) :
    Calls Tryd.prog 30 #[v, .string p] w fun e w' => ∃ r, e = .returned (.tuple #[r, errV (getFault t p)]) ∧ Chg Never w w' ∧ Rdv w' (Old w.heap.size) r (getR t p) := by
  obtain ⟨a, cap, rfl, h1, h2, _⟩ := rdv_slice h
  unfold maxLen at h2
  by_cases z : atFault t p = 0
  · have Z := Lib.hid z
    by_cases zi : isAt t p = true
    · have ZI := Lib.hid zi
      have HF : Hid (getFault t p = 0) := by unfold Hid getFault; rw [if_pos z, if_pos zi]
      have HR : Hid (getR t p = linesAt t p) := if_pos HF.out
      obtain ⟨x, hx, _⟩ := isAt_get zi
      have HL : Hid (linesAt t p = x.lines) := by unfold Hid linesAt; rw [hx]; rfl
      have hlt := (List.getElem?_eq_some_iff.1 hx).1
      have hz8 : (treeFault t).2 = 0 := by
        unfold atFault at z
        by_cases e : (treeFault t).2 = 0
        · exact e
        · rw [if_neg e] at z; exact absurd z e
      have hxl := linesFault_len (fileFault_zero ((treeFault_zero hz8).2.1 x (List.mem_of_getElem? hx))).2
      have HX := Lib.hid hx
      clear z zi hx hz8
      go_enter Tryd.func30, Tryd.ntmps30
      go_wp2_with fail
      refine (tree_at_any t p _ _ h m hm).mono ?_
      rintro e w1 ⟨rfl, hw⟩
      rw [show atPos t p = posOf t p from if_pos Z.out, show atIs t p = isAt t p from if_pos Z.out, Z.out, ZI.out, errV_zero]
      obtain ⟨_, _, hav, _, _, h3⟩ := rdv_slice (h.never hw)
      simp only [Value.slice.injEq, true_and] at hav
      obtain ⟨rfl, rfl⟩ := hav
      obtain ⟨b, off, lv, rfl, _, _, c0, c1, hps, hlv⟩ := elems_file h3 HX.out
      obtain ⟨la, lcap, rfl, _, _, _⟩ := rdv_slice hlv
      generalize posOf t p = k at hlt c0 c1 ⊢
      clear h3 c0
      go_wp2_with fail
      refine (clone_str Never x.lines _ _ hlv (by omega)).mono ?_
      rintro e w2 ⟨r2, rfl, hc2, hown2⟩
      obtain ⟨ra, rn, rc, rfl⟩ := own_isSlice hown2
      have hsz := hw.size
      have hr := hown2.rdv.sub (O' := Old w.heap.size) (fun j _ hj => Nat.lt_of_lt_of_le hj hsz)
      go_wp2_with fail
      go_ret2
      exact ⟨_, by rw [HF.out]; rfl, hw.trans hc2, by rw [HR.out, HL.out]; exact hr⟩
    · have ZI : Hid (isAt t p = false) := Bool.eq_false_iff.2 zi
      have HF : Hid (getFault t p = 4) := by unfold Hid getFault; rw [if_pos z, if_neg zi]
      have HR : Hid (getR t p = []) := if_neg (by rw [HF.out]; decide)
      clear z zi
      go_enter Tryd.func30, Tryd.ntmps30
      go_wp2_with fail
      refine (tree_at_any t p _ _ h m hm).mono ?_
      rintro e w1 ⟨rfl, hw⟩
      rw [show atPos t p = posOf t p from if_pos Z.out, show atIs t p = isAt t p from if_pos Z.out, Z.out, ZI.out, errV_zero]
      go_wp2_with fail
      go_ret2
      exact ⟨_, by rw [HF.out]; rfl, hw, by rw [HR.out]; exact rdv_nil _ _⟩
  · have Z := Lib.hid z
    have HF : Hid (getFault t p = atFault t p) := if_neg z
    have HR : Hid (getR t p = []) := if_neg (by rw [HF.out]; exact z)
    go_enter Tryd.func30, Tryd.ntmps30
    go_wp2_with fail
    refine (tree_at_any t p _ _ h m hm).mono ?_
    rintro e w1 ⟨rfl, hw⟩
    rw [show atPos t p = 0 from if_neg Z.out, show atIs t p = false from if_neg Z.out, errV_pos Z.out]
    clear z
    go_wp2_with fail
    go_ret2
    exact ⟨_, by rw [HF.out, errV_pos Z.out]; rfl, hw, by rw [HR.out]; exact rdv_nil _ _⟩
end Go.Proofs.YtpoammapjmddfaaDoor
