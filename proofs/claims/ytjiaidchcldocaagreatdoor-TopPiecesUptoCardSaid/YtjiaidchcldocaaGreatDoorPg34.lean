/-
  PARTS: THE WALK of series.Run.; A ROW OF MAILS: its element type.
-/
import Derived.Test.YtjiaidchcldocaaGreatDoorPg28
import Derived.Test.YtjiaidchcldocaaGreatDoorPg31
import Derived.Test.YtjiaidchcldocaaGreatDoorPg33
import Derived.Test.YtjiaidchcldocaaGreatDoorPg2
import Derived.Test.YtjiaidchcldocaaGreatDoorPg3
set_option linter.unusedVariables false
set_option linter.unusedSimpArgs false
namespace Go.Proofs.YtjiaidchcldocaaGreatDoor
open Go.RowKit

def runF (t : List File) (l : List Mail) : Int := if (treeFault t).2 ≠ 0 then (treeFault t).2 else if (openMs l).2.2 ≠ 0 then (openMs l).2.2 else (runGoS t (openMs l).2.1).2
def runR (t : List File) (l : List Mail) : List File := if runF t l = 0 then (runGoS t (openMs l).2.1).1 else []
theorem runGo_step {t x : List File} {p : List (List Change)} {k : Nat} {c : List Change} (h : runGoS x (p.drop k) = runGoS t p) (hx : p[k]? = some c) :
    ((applyR x c).2.2 = 0 → runGoS (applyR x c).1 (p.drop (k + 1)) = runGoS t p) ∧ ((applyR x c).2.2 ≠ 0 → runGoS t p = ([], (applyR x c).2.2)) := by
  rw [drop_eq hx, runGoS] at h
  exact ⟨fun z => by rw [if_pos z] at h; exact h, fun z => by rw [if_neg z] at h; exact h.symm⟩
def SRunPost (t : List File) (l : List Mail) (w : World) (e : Ending) (w' : World) : Prop := ∃ r, e = .returned (.tuple #[r, errV (runF t l)]) ∧ Chg Never w w' ∧ Rdv w' Never r (runR t l)
theorem srun_no {t : List File} {l : List Mail} {w w' : World} {e : Ending} {k : Int} (hk : runF t l = k) (h0 : k ≠ 0) (he : e = .returned (.tuple #[.slice none 0 0, errV k])) (hc : Chg Never w w') : SRunPost t l w e w' :=
  ⟨_, by rw [hk]; exact he, hc, by unfold runR; rw [if_neg (by rw [hk]; exact h0)]; exact rdv_nil _ _⟩
set_option maxHeartbeats 2000000 in
set_option maxRecDepth 100000 in
theorem srun_any (t : List File) (l : List Mail) (vt vl : Value) (w : World) (ht : Rdv w Never vt t) (hl : Rdv w Never vl l) (hl9 : l.length ≤ 1000000000) (mx : Int) (hg : Globs w mx) :
    Calls Tryz.prog 22 #[vt, vl] w (SRunPost t l w) := by
  have hm := hg.ml
  go_enter Tryz.func22, Tryz.ntmps22
  go_wp2_with fail
  refine (tree_check_any t _ _ ht mx hm).mono ?_
  rintro e w1 ⟨rfl, hc1⟩
  by_cases z : (treeFault t).2 = 0
  · have HT := Lib.hid (tree_iff.2 z)
    have HF1 : Hid (runF t l = if (openMs l).2.2 ≠ 0 then (openMs l).2.2 else (runGoS t (openMs l).2.1).2) := if_neg (by rw [z]; simp)
    rw [z, errV_zero]
    clear z
    go_wp2_with fail
    refine (sopen_any l _ _ (hl.never hc1) hl9 mx (hg.never hc1)).mono ?_
    rintro e w2 ⟨r2, rfl, hc2, hr2⟩
    have hw2 := hc1.trans hc2
    by_cases y : (openMs l).2.2 = 0
    · have HF2 : Hid (runF t l = (runGoS t (openMs l).2.1).2) := by rw [Hid, HF1.out, if_neg (by rw [y]; simp)]
      rw [y, errV_zero]
      clear y HF1
      have HRR : Hid (runF t l = 0 → runR t l = (runGoS t (openMs l).2.1).1) := fun q => if_pos q
      generalize (openMs l).1 = title
      generalize (openMs l).2.1 = p at hr2 HF2 HRR
      obtain ⟨pa, pcap, rfl, p1, p2, p3⟩ := rdv_slice hr2
      unfold maxLen at p2
      have ht2 := ht.never hw2
      go_wp2_with fail
      refine (tree_copy_any t _ _ ht2 (by have := HT.out.1; omega) (fun f hf => by have := linesFault_len (fileFault_lines (HT.out.2.1 f hf)); omega)).mono ?_
      rintro e w3 ⟨r3, rfl, hc3, hown3⟩
      have hr3 : Rdv w3 Never r3 t := hown3.rdv.sub (fun k _ hk => hk.elim)
      have hw3 := hw2.trans hc3
      clear hown3 ht2
      go_wp2_with fail
      go_loopw [0, 34] (fun tv iv wr => ∃ (k : Nat) (x : List File), k ≤ p.length ∧ iv = .int .i64 k ∧ Chg Never w3 wr ∧ Rdv wr Never tv x ∧ Hid (runGoS x (p.drop k) = runGoS t p)) (fun _ iv _ => p.length - (intOf iv).toNat)
      case atStart => exact ⟨0, t, Nat.zero_le _, rfl, Chg.refl _ _, hr3, rfl⟩
      case round =>
        clear hr3
        obtain ⟨k, x, hk, rfl, hc, hx, hgo⟩ := hrel
        rename World => wr
        obtain ⟨xa, xc, rfl, _, _, _⟩ := rdv_slice hx
        by_cases hlt : k < p.length
        · obtain ⟨c, hcx⟩ : ∃ c, p[k]? = some c := ⟨p[k], by simp [hlt]⟩
          obtain ⟨b, off, cv, rfl, _, _, d0, hcv⟩ := elems_row p3 hcx
          have d0 := (hc3.trans hc).cellNever d0
          have hcv := (hcv.never hc3).never hc
          obtain ⟨ca, cc, rfl, _, _, _⟩ := rdv_slice hcv
          obtain ⟨st1, st2⟩ := runGo_step hgo.out hcx
          clear hcx p3 hgo
          go_wp2_with fail
          refine (apply_any x c _ _ _ hx hcv mx ((hw3.trans hc).cellNever hm)).mono ?_
          rintro e w4 ⟨r4, rfl, hc4, hr4⟩
          have hc := hc.trans hc4
          generalize (applyR x c).2.1 = an
          by_cases za : (applyR x c).2.2 = 0
          · have HS := Lib.hid (st1 za)
            rw [za, errV_zero]
            clear za st1 st2
            go_wp2_with fail
            go_roundw
            case rel => exact ⟨k + 1, _, by omega, by go_num, hc, hr4, HS⟩
            case measure => simp [intOf] <;> omega
          · have HF3 : Hid (runF t l = (applyR x c).2.2) := by rw [Hid, HF2.out, st2 za]
            have ZA := Lib.hid za
            rw [errV_pos za]
            clear za st1 st2 hr4
            go_wp2_with fail
            go_ret2
            exact srun_no HF3.out ZA.out (by rw [errV_pos ZA.out]; rfl) (hw3.trans hc)
        · have hgo' := hgo.out
          rw [List.drop_of_length_le (by omega), runGoS] at hgo'
          have HF3 : Hid (runF t l = 0) := by rw [Hid, HF2.out, ← hgo']
          have HR3 : Hid (runR t l = x) := by rw [Hid, HRR.out HF3.out, ← hgo']
          clear hgo' hgo p3
          go_wp2_with fail
          go_ret2
          exact ⟨_, by rw [HF3.out]; rfl, hw3.trans hc, by rw [HR3.out]; exact hx⟩
    · have HF2 : Hid (runF t l = (openMs l).2.2) := by rw [Hid, HF1.out, if_pos y]
      have Y := Lib.hid y
      rw [errV_pos y]
      obtain ⟨pa, pcap, rfl, _, _, _⟩ := rdv_slice hr2
      generalize (openMs l).2.1.length = pn
      generalize (openMs l).1 = title
      clear y hr2
      go_wp2_with fail
      go_ret2
      exact srun_no HF2.out Y.out (by rw [errV_pos Y.out]; rfl) hw2
  · have HF1 : Hid (runF t l = (treeFault t).2) := if_pos z
    have Z := Lib.hid z
    rw [errV_pos z]
    clear z
    go_wp2_with fail
    go_ret2
    exact srun_no HF1.out Z.out (by rw [errV_pos Z.out]; rfl) hc1
end Go.Proofs.YtjiaidchcldocaaGreatDoor
namespace Go.Proofs.YtjiaidchcldocaaGreatDoor
open Go.RowKit

theorem elemOk_mail : ElemOk Tryz.prog 24 31 4 := elemOk_of Tryz.underlying24 (z := .agg #[.string ⟨#[]⟩, .string ⟨#[]⟩, .string ⟨#[]⟩, .slice none 0 0]) (b := 72) (by kernel_rfl) rfl (by decide)
end Go.Proofs.YtjiaidchcldocaaGreatDoor
