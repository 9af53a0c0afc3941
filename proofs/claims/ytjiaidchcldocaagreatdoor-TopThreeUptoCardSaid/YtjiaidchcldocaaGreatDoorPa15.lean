/-
  PARTS: THE WALKS of errors.Join of no error, and of patch.Turn.; THE WALK of handstitchsame.Trees.; THE LAW PatchBack, walked.; FROM TREE TO TREE, in plain Lean: what is found between two trees is a patch and leads from the one to the other; between a tree and itself there is nothing.; THE LAW PatchMakes, walked.; THE WALKS of algebra.two, Join, Inter.; THE LAW AlgebraJoins, walked.; THE WALKS of what the statements of the whole share: found, last, one.; THE LAW TopThree, walked.; THE LAW TopUndone, walked.
-/
import Derived.Test.YtjiaidchcldocaaGreatDoorPa8
import Derived.Test.YtjiaidchcldocaaGreatDoorPa7
import Derived.StillTailTactics
import Derived.Test.YtjiaidchcldocaaGreatDoorPa14
import Derived.Test.YtjiaidchcldocaaGreatDoorPa4
import Derived.Test.YtjiaidchcldocaaGreatDoorPa13
import Derived.Deep.RegionHeld3
import Derived.Test.YtjiaidchcldocaaGreatDoorPa9
import Derived.Test.YtjiaidchcldocaaGreatDoorPa11
set_option linter.unusedVariables false
set_option linter.unusedSimpArgs false
namespace Go.Proofs.YtjiaidchcldocaaGreatDoor
open Go.RowKit

/-- an error that is none, as a cell -/
instance : Dat Unit where
  n := 1
  rd _ _ cs _ := cs = [.nilIface]
  bulk _ := 1
  pos := by decide
  len := by rintro _ _ _ _ rfl; rfl
  one := by rintro _ _ _ _ rfl u hu; simp at hu; subst hu; rfl
  keep := by intro _ _ _ _ _ _ _ h _ _ _; exact h
theorem elemOk_err : ElemOk Tryz.prog 154 26 1 := elemOk_of Tryz.underlying154 (z := .nilIface) (b := 16) (by kernel_rfl) rfl (by decide)
theorem elems_none {w : World} {O : Nat → Prop} {a : Option Addr} {l : List Unit} (h : Elems w O a l) {i : Nat} {x : Unit} (hx : l[i]? = some x) : ∃ b off, a = some ⟨b, off, none⟩ ∧ w.cell? ⟨b, off + i, none⟩ = some .nilIface := by
  obtain ⟨b, off, es, ha, hb, hcs, rfl⟩ := h i x hx
  refine ⟨b, off, ha, ?_⟩
  have := hcs 0 .nilIface rfl
  simpa [Dat.n] using this
set_option maxHeartbeats 1000000 in
set_option maxRecDepth 100000 in
theorem join_none (l : List Unit) (v : Value) (w : World) (h : Rdv w Never v l) :
    Calls Tryz.prog 83 #[v] w fun e w' => e = .returned .nilIface ∧ Chg Never w w' := by
  obtain ⟨a, cap, rfl, h1, h2, h3⟩ := rdv_slice h
  unfold maxLen at h2
  go_enter Tryz.func83, Tryz.ntmps83
  go_wp2_with fail
  go_loopw [3, 11] (fun n i wr => ∃ k : Nat, k ≤ l.length ∧ i = .int .i64 k ∧ n = .int .i64 0 ∧ Chg Never w wr) (fun _ i _ => l.length - (intOf i).toNat)
  case atStart => exact ⟨0, Nat.zero_le _, rfl, rfl, Chg.refl _ _⟩
  case round =>
    obtain ⟨k, hk, rfl, rfl, hc⟩ := hrel
    by_cases hlt : k < l.length
    · obtain ⟨x, hx⟩ : ∃ x, l[k]? = some x := ⟨l[k], by simp [hlt]⟩
      obtain ⟨b, off, rfl, c0⟩ := elems_none h3 hx
      have c0 := hc.cellNever c0
      clear hx h3 h
      go_wp2_with fail
      go_roundw
      case rel => exact ⟨k + 1, by omega, by go_num, rfl, hc⟩
      case measure => simp [intOf] <;> omega
    · go_wp2_with fail
      go_ret
      exact ⟨rfl, hc⟩
/-! ### patch.Turn -/
def turnPR (p : List Change) : List Change := if (patchFault p).2 = 0 then turnP p else []
theorem turnP_take {p : List Change} {k : Nat} {c : Change} (h : p[k]? = some c) : turnP (p.take (k + 1)) = turnP (p.take k) ++ [turnC c] := by
  rw [List.take_add_one, h]; simp [turnP]
/-- both rows at the head of a round -/
structure TurnSt (w wr : World) (vO vF : Value) (L : List Change) (n : Nat) : Prop where
  out : Own 85 wr (fun j => vF.ownBlock = some j) vO L
  flt : Own 26 wr (fun j => vO.ownBlock = some j) vF (List.replicate n ())
  newO : ∀ k, vO.ownBlock = some k → w.heap.size ≤ k
  newF : ∀ k, vF.ownBlock = some k → w.heap.size ≤ k
  chg : Chg Never w wr
theorem turn_out {w2 w5 W8 : World} {B : Nat} {vO vF vF5 : Value} {L : List Change} (h : Own 85 w2 (fun j => vF.ownBlock = some j ∨ j = B) vO L) (hc5 : Chg (OwnB vF) w2 w5) (hk5 : ∃ k, vF5.ownBlock = some k ∧ (vF.ownBlock = some k ∨ w2.heap.size ≤ k)) (hcW : Chg (fun j => j = B) w5 W8) :
    Own 85 W8 (fun j => vF5.ownBlock = some j ∨ j = B) vO L := by
  obtain ⟨q, hq, hq2⟩ := hk5
  refine (h.keep (O'' := fun j => vF5.ownBlock = some j ∨ j = B) hc5 (fun _ _ h => .inl h) (fun j hj h => h.imp_left (fun h => ?_))).keep hcW (fun _ _ h => .inr h) (fun _ _ h => h)
  rw [hq] at h
  injection h with h
  subst h
  exact hq2.resolve_right (by omega)
theorem turn_rd {w2 w5 W8 : World} {B sA : Nat} {vO vF vF5 v : Value} {l : List Hunk} (h : Rdv w2 (Old sA) v l) (hs : sA ≤ w2.heap.size) (hO : ∀ k, vO.ownBlock = some k → k < sA) (hF : ∀ k, vF.ownBlock = some k → k < sA) (hB : B < sA) (hc5 : Chg (OwnB vF) w2 w5) (hk5 : ∃ k, vF5.ownBlock = some k ∧ (vF.ownBlock = some k ∨ w2.heap.size ≤ k)) (hcW : Chg (fun j => j = B) w5 W8) :
    Rdv W8 (fun j => (vF5.ownBlock = some j ∨ j = B) ∨ vO.ownBlock = some j) v l := by
  obtain ⟨q, hq, hq2⟩ := hk5
  have h5 := h.keep (O'' := fun j => Old sA j ∨ w2.heap.size ≤ j) hc5 (fun k _ hk => hF k hk) (fun k hk hh => hh.resolve_right (by omega))
  refine h5.keep hcW (fun k _ hk => .inl (by unfold Old; omega)) (fun k _ hk => ?_)
  rcases hk with (hk | rfl) | hk
  · rw [hq] at hk
    injection hk with hk
    subst hk
    exact hq2.imp_left (fun e => hF _ e)
  · exact .inl hB
  · exact .inl (hO k hk)
theorem turn_lt {w2 w5 W8 : World} {B sA : Nat} {vF vF5 : Value} {n : Nat} {O : Nat → Prop} (h : Own 26 w5 O vF5 (List.replicate n ())) (hs : sA ≤ w2.heap.size) (hB : B < sA) (hc5 : Chg (OwnB vF) w2 w5) (hcW : Chg (fun j => j = B) w5 W8) : ∀ j, (vF5.ownBlock = some j ∨ j = B) → j < W8.heap.size := by
  intro j hj
  have h1 := hc5.size
  have h2 := hcW.size
  rcases hj with hj | rfl
  · have := own_block_lt h j hj; omega
  · omega
theorem turn_step {w wr w2 w5 W8 w9 : World} {B k : Nat} {vO vF vF5 vO9 : Value} {L M : List Change} (hst : TurnSt w wr vO vF L k) (hA2 : Chg Never wr w2) (hB : B = wr.heap.size) (HF5 : Own 26 w5 (fun j => vO.ownBlock = some j ∨ j = B) vF5 (List.replicate k () ++ [()])) (hc5 : Chg (OwnB vF) w2 w5) (hk5 : ∃ k, vF5.ownBlock = some k ∧ (vF.ownBlock = some k ∨ w2.heap.size ≤ k))
    (hcW : Chg (fun j => j = B) w5 W8) (HO9 : Own 85 w9 (fun j => vF5.ownBlock = some j ∨ j = B) vO9 M) (hc9 : Chg (OwnB vO) W8 w9) (hk9 : ∃ k, vO9.ownBlock = some k ∧ (vO.ownBlock = some k ∨ W8.heap.size ≤ k)) : TurnSt w w9 vO9 vF5 M (k + 1) := by
  obtain ⟨q, hq, hq2⟩ := hk5
  obtain ⟨o, ho, ho2⟩ := hk9
  have s1 := hst.chg.size
  have s2 := hA2.size
  have s5 := hc5.size
  have s8 := hcW.size
  have hltF := own_block_lt hst.flt
  have hltO := own_block_lt hst.out
  refine ⟨HO9.keep (Chg.refl Never w9) (fun _ _ h => h.elim) (fun _ _ h => .inl h), ?_, ?_, ?_, ?_⟩
  · rw [List.replicate_succ']
    refine (HF5.keep (O'' := fun j => vO.ownBlock = some j ∨ j = B) hcW (fun _ _ h => .inr h) (fun _ _ h => h)).keep hc9 (fun _ _ h => .inl h) (fun j hj h => .inl ?_)
    rw [ho] at h
    injection h with h
    subst h
    exact ho2.resolve_right (by omega)
  · intro j hj
    rw [ho] at hj
    injection hj with hj
    subst hj
    exact ho2.elim (fun h => hst.newO _ h) (fun h => by omega)
  · intro j hj
    rw [hq] at hj
    injection hj with hj
    subst hj
    exact hq2.elim (fun h => hst.newF _ h) (fun h => by omega)
  · exact (((hst.chg.trans hA2).trans' hc5 (fun i hi h => absurd (hst.newF i h) (by omega))).trans' hcW (fun i hi h => by omega)).trans' hc9 (fun i hi h => absurd (hst.newO i h) (by omega))
set_option maxHeartbeats 4000000 in
set_option maxRecDepth 100000 in
theorem patch_turn_any (p : List Change) (vp : Value) (w : World) (hp : Rdv w Never vp p) (m : Int) (hm : w.cell? ⟨1, 0, none⟩ = some (.int .i64 m)) :
    Calls Tryz.prog 35 #[vp] w fun e w' => ∃ r, e = .returned (.tuple #[r, errV (patchFault p).2]) ∧ Chg Never w w' ∧ Rdv w' Never r (turnPR p) := by
  obtain ⟨pa, pcap, rfl, p1, p2, p3⟩ := rdv_slice hp
  unfold maxLen at p2
  by_cases y : (patchFault p).2 = 0
  · have Y := Lib.hid y
    have HE : Hid (turnPR p = turnP p) := if_pos y
    have pl := (patch_of y).1
    have PV : Hid (∀ c ∈ p, (hunksFault c.hunks).2 = 0) := fun c hc => by rw [(changeFault_zero ((patch_of y).2.1 c hc)).2.2.2.1]
    clear y
    go_enter Tryz.func35, Tryz.ntmps35
    go_wp2_with fail
    refine (patch_check_any p _ _ hp m hm).mono ?_
    rintro e w1 ⟨rfl, hw⟩
    rw [Y.out, errV_zero]
    go_wp2_with fail
    go_loopw [6, 7, 22] (fun o f i wr => ∃ k : Nat, k ≤ p.length ∧ i = .int .i64 k ∧ TurnSt w wr o f (turnP (p.take k)) k) (fun _ _ i _ => p.length - (intOf i).toNat)
    case atStart => exact ⟨0, Nat.zero_le _, rfl, own_nil _ _ _, own_nil _ _ _, fun k hk => by simp [Value.ownBlock] at hk, fun k hk => by simp [Value.ownBlock] at hk, hw⟩
    case round =>
      clear hw
      rename World => wr
      rename_i vO vF _ 
      obtain ⟨k, hk, rfl, hst⟩ := hrel
      obtain ⟨oa, on, oc, rfl⟩ := own_isSlice hst.out
      obtain ⟨fa, fn, fc, rfl⟩ := own_isSlice hst.flt
      by_cases hlt : k < p.length
      · obtain ⟨c, hx⟩ : ∃ c, p[k]? = some c := ⟨p[k], by simp [hlt]⟩
        obtain ⟨wh, pt, hs⟩ := c
        obtain ⟨pb, po, hv, rfl, _, _, c0, c1, c2, hpc, hhv⟩ := elems_change p3 hx
        simp only at c0 c1 c2 hpc hhv
        obtain ⟨ha, hcap, rfl, _, _, _⟩ := rdv_slice hhv
        have c0 := hst.chg.cellNever c0
        have c1 := hst.chg.cellNever c1
        have c2 := hst.chg.cellNever c2
        have hhv := hhv.never hst.chg
        have HT := Lib.hid (turnP_take hx)
        have HZ : Hid ((hunksFault hs).2 = 0) := PV.out _ (List.mem_of_getElem? hx)
        have HTR : Hid (turnR hs = turnHunks hs) := if_pos HZ.out
        have hB0 := Blk3.new wr 85 (.int .i64 wh) (.string pt) (.slice ha hs.length hcap)
        have hA : Chg Never wr (wr.alloc (.cells #[.int .i64 wh, .string pt, .slice ha hs.length hcap] 85)) := (Chg.refl Never wr).alloc _
        have hltO := own_block_lt hst.out
        have hltF := own_block_lt hst.flt
        have hLl : (turnP (p.take k)).length ≤ 1000000000 := by unfold turnP; rw [List.length_map, List.length_take]; omega
        have hFl : (List.replicate k ()).length ≤ 1000000000 := by rw [List.length_replicate]; omega
        by_cases k2 : wh = 2
        · subst k2
          clear hx p3 hp
          obtain ⟨d0, d1, d2⟩ := hB0.cell
          go_wp2_with fail
          have hBs : (wr.alloc (.cells #[.int .i64 2, .string pt, .slice ha hs.length hcap] 85)).heap.size = wr.heap.size + 1 := World.size_alloc _ _
          generalize wr.alloc (.cells #[.int .i64 2, .string pt, .slice ha hs.length hcap] 85) = wA at hB0 hA hBs d0 d1 d2 ⊢
          clear c0 c1 c2
          refine (turn_any hs _ _ (hhv.never hA)).mono ?_
          rintro e w2 ⟨r2, rfl, hc2, hr2⟩
          rw [HZ.out, errV_zero]
          rw [HTR.out] at hr2
          obtain ⟨ra, rc, rfl, _, _, _⟩ := rdv_slice hr2
          have hA2 := hA.trans hc2
          have hB2 := hB0.keep hc2 (fun h => h)
          have hs2 := hc2.size
          have HO2 : Own 85 w2 (fun j => (Value.slice fa fn fc).ownBlock = some j ∨ j = wr.heap.size) (.slice oa on oc) (turnP (p.take k)) := hst.out.keep hA2 (fun _ _ h => h.elim) (fun j hj h => h.elim (fun h => h) (fun h => by omega))
          have HF2 : Own 26 w2 (fun j => (Value.slice oa on oc).ownBlock = some j ∨ j = wr.heap.size) (.slice fa fn fc) (List.replicate k ()) := hst.flt.keep hA2 (fun _ _ h => h.elim) (fun j hj h => h.elim (fun h => h) (fun h => by omega))
          have hOF : ∀ j, ((Value.slice oa on oc).ownBlock = some j ∨ j = wr.heap.size) → j < w2.heap.size := fun j h => h.elim (fun h => by have := hltO j h; omega) (fun h => by omega)
          clear d0 d1 d2 hB0
          obtain ⟨d0, d1, d2⟩ := hB2.cell
          have hyf : Dat.rd w2 (fun j => ((Value.slice oa on oc).ownBlock = some j ∨ j = wr.heap.size) ∨ (Value.slice fa fn fc).ownBlock = some j) [Value.nilIface] () := rfl
          have hcw := hst.chg.trans hA2
          have hO8 : ∀ j, (Value.slice oa on oc).ownBlock = some j → j < wA.heap.size := fun j h => by have := hltO j h; omega
          have hF8 : ∀ j, (Value.slice fa fn fc).ownBlock = some j → j < wA.heap.size := fun j h => by have := hltF j h; omega
          have hBA : wr.heap.size < wA.heap.size := by omega
          generalize hBg : wr.heap.size = B at *
          go_wp2_with (first
            | (at_builtin; refine wpList_push (by rfl) _ _ 154 (by rfl) elemOk_err (O := fun j => (Value.slice oa on oc).ownBlock = some j ∨ j = B) (l := List.replicate k ()) (y := ()) (by rfl) (by rfl) (by rfl) HF2 hyf hOF hFl ?_; intro vF5 w5 HF5 hc5 hk5; have hB5 := hB2.keep hc5 (fun h => absurd (hltF _ h) (Nat.lt_irrefl _)); clear d0 d1 d2; obtain ⟨d0, d1, d2⟩ := hB5.cell; have df := hB5.free; have df0 := df 0; have df2 := df 2; obtain ⟨ga, gn, gc, rfl⟩ := own_isSlice HF5; have hcW : Chg (fun j => j = B) w5 ((w5.setCell ⟨B, 0, none⟩ (.int .i64 3)).setCell ⟨B, 2, none⟩ (.slice ra (turnHunks hs).length rc)) := ((Chg.refl (fun j => j = B) w5).setCell (p := ⟨B, 0, none⟩) (.inr rfl) _).setCell (p := ⟨B, 2, none⟩) (.inr rfl) _; have hF5l : List.replicate k () ++ [()] = List.replicate (k + 1) () := List.replicate_succ'.symm; have hO9 := turn_lt (hF5l ▸ HF5) hs2 hBA hc5 hcW; have HO8 := turn_out HO2 hc5 hk5 hcW; have hyc : Dat.rd ((w5.setCell ⟨B, 0, none⟩ (.int .i64 3)).setCell ⟨B, 2, none⟩ (.slice ra (turnHunks hs).length rc)) (fun j => ((Value.slice ga gn gc).ownBlock = some j ∨ j = B) ∨ (Value.slice oa on oc).ownBlock = some j) [.int .i64 3, .string pt, .slice ra (turnHunks hs).length rc] (⟨3, pt, turnHunks hs⟩ : Change) := ⟨_, rfl, hpc, turn_rd hr2 hs2 hO8 hF8 hBA hc5 hk5 hcW⟩; clear HO2 HF2 hyf hOF hF5l)
            | (at_builtin; refine wpList_push (by rfl) _ _ 51 (by rfl) elemOk_change (O := fun j => (Value.slice ga gn gc).ownBlock = some j ∨ j = B) (l := turnP (p.take k)) (y := (⟨3, pt, turnHunks hs⟩ : Change)) (by rfl) (by rfl) (by simp) HO8 hyc hO9 hLl ?_; intro vO9 w9 HO9 hc9 hk9))
          subst hBg
          have hfin := turn_step hst hA2 rfl HF5 hc5 hk5 hcW HO9 hc9 hk9
          obtain ⟨oa9, on9, oc9, rfl⟩ := own_isSlice HO9
          clear hc5 hk5 hcW HO9 hc9 hk9 HF5 HO8 hyc hO9 d0 d1 d2 df df0 df2 hB5 hB2
          go_roundw
          case rel => exact ⟨k + 1, by omega, by go_num, by rw [HT.out]; exact hfin⟩
          case measure => simp [intOf] <;> omega
        · by_cases k3 : wh = 3
          · subst k3
            clear k2
            clear hx p3 hp
            obtain ⟨d0, d1, d2⟩ := hB0.cell
            go_wp2_with fail
            have hBs : (wr.alloc (.cells #[.int .i64 3, .string pt, .slice ha hs.length hcap] 85)).heap.size = wr.heap.size + 1 := World.size_alloc _ _
            generalize wr.alloc (.cells #[.int .i64 3, .string pt, .slice ha hs.length hcap] 85) = wA at hB0 hA hBs d0 d1 d2 ⊢
            clear c0 c1 c2
            refine (turn_any hs _ _ (hhv.never hA)).mono ?_
            rintro e w2 ⟨r2, rfl, hc2, hr2⟩
            rw [HZ.out, errV_zero]
            rw [HTR.out] at hr2
            obtain ⟨ra, rc, rfl, _, _, _⟩ := rdv_slice hr2
            have hA2 := hA.trans hc2
            have hB2 := hB0.keep hc2 (fun h => h)
            have hs2 := hc2.size
            have HO2 : Own 85 w2 (fun j => (Value.slice fa fn fc).ownBlock = some j ∨ j = wr.heap.size) (.slice oa on oc) (turnP (p.take k)) := hst.out.keep hA2 (fun _ _ h => h.elim) (fun j hj h => h.elim (fun h => h) (fun h => by omega))
            have HF2 : Own 26 w2 (fun j => (Value.slice oa on oc).ownBlock = some j ∨ j = wr.heap.size) (.slice fa fn fc) (List.replicate k ()) := hst.flt.keep hA2 (fun _ _ h => h.elim) (fun j hj h => h.elim (fun h => h) (fun h => by omega))
            have hOF : ∀ j, ((Value.slice oa on oc).ownBlock = some j ∨ j = wr.heap.size) → j < w2.heap.size := fun j h => h.elim (fun h => by have := hltO j h; omega) (fun h => by omega)
            clear d0 d1 d2 hB0
            obtain ⟨d0, d1, d2⟩ := hB2.cell
            have hyf : Dat.rd w2 (fun j => ((Value.slice oa on oc).ownBlock = some j ∨ j = wr.heap.size) ∨ (Value.slice fa fn fc).ownBlock = some j) [Value.nilIface] () := rfl
            have hcw := hst.chg.trans hA2
            have hO8 : ∀ j, (Value.slice oa on oc).ownBlock = some j → j < wA.heap.size := fun j h => by have := hltO j h; omega
            have hF8 : ∀ j, (Value.slice fa fn fc).ownBlock = some j → j < wA.heap.size := fun j h => by have := hltF j h; omega
            have hBA : wr.heap.size < wA.heap.size := by omega
            generalize hBg : wr.heap.size = B at *
            go_wp2_with (first
              | (at_builtin; refine wpList_push (by rfl) _ _ 154 (by rfl) elemOk_err (O := fun j => (Value.slice oa on oc).ownBlock = some j ∨ j = B) (l := List.replicate k ()) (y := ()) (by rfl) (by rfl) (by rfl) HF2 hyf hOF hFl ?_; intro vF5 w5 HF5 hc5 hk5; have hB5 := hB2.keep hc5 (fun h => absurd (hltF _ h) (Nat.lt_irrefl _)); clear d0 d1 d2; obtain ⟨d0, d1, d2⟩ := hB5.cell; have df := hB5.free; have df0 := df 0; have df2 := df 2; obtain ⟨ga, gn, gc, rfl⟩ := own_isSlice HF5; have hcW : Chg (fun j => j = B) w5 ((w5.setCell ⟨B, 0, none⟩ (.int .i64 2)).setCell ⟨B, 2, none⟩ (.slice ra (turnHunks hs).length rc)) := ((Chg.refl (fun j => j = B) w5).setCell (p := ⟨B, 0, none⟩) (.inr rfl) _).setCell (p := ⟨B, 2, none⟩) (.inr rfl) _; have hF5l : List.replicate k () ++ [()] = List.replicate (k + 1) () := List.replicate_succ'.symm; have hO9 := turn_lt (hF5l ▸ HF5) hs2 hBA hc5 hcW; have HO8 := turn_out HO2 hc5 hk5 hcW; have hyc : Dat.rd ((w5.setCell ⟨B, 0, none⟩ (.int .i64 2)).setCell ⟨B, 2, none⟩ (.slice ra (turnHunks hs).length rc)) (fun j => ((Value.slice ga gn gc).ownBlock = some j ∨ j = B) ∨ (Value.slice oa on oc).ownBlock = some j) [.int .i64 2, .string pt, .slice ra (turnHunks hs).length rc] (⟨2, pt, turnHunks hs⟩ : Change) := ⟨_, rfl, hpc, turn_rd hr2 hs2 hO8 hF8 hBA hc5 hk5 hcW⟩; clear HO2 HF2 hyf hOF hF5l)
              | (at_builtin; refine wpList_push (by rfl) _ _ 51 (by rfl) elemOk_change (O := fun j => (Value.slice ga gn gc).ownBlock = some j ∨ j = B) (l := turnP (p.take k)) (y := (⟨2, pt, turnHunks hs⟩ : Change)) (by rfl) (by rfl) (by simp) HO8 hyc hO9 hLl ?_; intro vO9 w9 HO9 hc9 hk9))
            subst hBg
            have hfin := turn_step hst hA2 rfl HF5 hc5 hk5 hcW HO9 hc9 hk9
            obtain ⟨oa9, on9, oc9, rfl⟩ := own_isSlice HO9
            clear hc5 hk5 hcW HO9 hc9 hk9 HF5 HO8 hyc hO9 d0 d1 d2 df df0 df2 hB5 hB2
            go_roundw
            case rel => exact ⟨k + 1, by omega, by go_num, by rw [HT.out]; exact hfin⟩
            case measure => simp [intOf] <;> omega
          · have t2 : (wh == 2) = false := by simp [k2]
            have t3 : (wh == 3) = false := by simp [k3]
            have HW : Hid (turnC ⟨wh, pt, hs⟩ = ⟨wh, pt, turnHunks hs⟩) := by unfold Hid turnC turnW; rw [if_neg k2, if_neg k3]
            rw [HW.out] at HT
            clear k2 k3
            clear hx p3 hp
            obtain ⟨d0, d1, d2⟩ := hB0.cell
            go_wp2_with fail
            have hBs : (wr.alloc (.cells #[.int .i64 wh, .string pt, .slice ha hs.length hcap] 85)).heap.size = wr.heap.size + 1 := World.size_alloc _ _
            generalize wr.alloc (.cells #[.int .i64 wh, .string pt, .slice ha hs.length hcap] 85) = wA at hB0 hA hBs d0 d1 d2 ⊢
            clear c0 c1 c2
            refine (turn_any hs _ _ (hhv.never hA)).mono ?_
            rintro e w2 ⟨r2, rfl, hc2, hr2⟩
            rw [HZ.out, errV_zero]
            rw [HTR.out] at hr2
            obtain ⟨ra, rc, rfl, _, _, _⟩ := rdv_slice hr2
            have hA2 := hA.trans hc2
            have hB2 := hB0.keep hc2 (fun h => h)
            have hs2 := hc2.size
            have HO2 : Own 85 w2 (fun j => (Value.slice fa fn fc).ownBlock = some j ∨ j = wr.heap.size) (.slice oa on oc) (turnP (p.take k)) := hst.out.keep hA2 (fun _ _ h => h.elim) (fun j hj h => h.elim (fun h => h) (fun h => by omega))
            have HF2 : Own 26 w2 (fun j => (Value.slice oa on oc).ownBlock = some j ∨ j = wr.heap.size) (.slice fa fn fc) (List.replicate k ()) := hst.flt.keep hA2 (fun _ _ h => h.elim) (fun j hj h => h.elim (fun h => h) (fun h => by omega))
            have hOF : ∀ j, ((Value.slice oa on oc).ownBlock = some j ∨ j = wr.heap.size) → j < w2.heap.size := fun j h => h.elim (fun h => by have := hltO j h; omega) (fun h => by omega)
            clear d0 d1 d2 hB0
            obtain ⟨d0, d1, d2⟩ := hB2.cell
            have hyf : Dat.rd w2 (fun j => ((Value.slice oa on oc).ownBlock = some j ∨ j = wr.heap.size) ∨ (Value.slice fa fn fc).ownBlock = some j) [Value.nilIface] () := rfl
            have hcw := hst.chg.trans hA2
            have hO8 : ∀ j, (Value.slice oa on oc).ownBlock = some j → j < wA.heap.size := fun j h => by have := hltO j h; omega
            have hF8 : ∀ j, (Value.slice fa fn fc).ownBlock = some j → j < wA.heap.size := fun j h => by have := hltF j h; omega
            have hBA : wr.heap.size < wA.heap.size := by omega
            generalize hBg : wr.heap.size = B at *
            go_wp2_with (first
              | (at_builtin; refine wpList_push (by rfl) _ _ 154 (by rfl) elemOk_err (O := fun j => (Value.slice oa on oc).ownBlock = some j ∨ j = B) (l := List.replicate k ()) (y := ()) (by rfl) (by rfl) (by rfl) HF2 hyf hOF hFl ?_; intro vF5 w5 HF5 hc5 hk5; have hB5 := hB2.keep hc5 (fun h => absurd (hltF _ h) (Nat.lt_irrefl _)); clear d0 d1 d2; obtain ⟨d0, d1, d2⟩ := hB5.cell; have df := hB5.free; have df0 := df 0; have df2 := df 2; obtain ⟨ga, gn, gc, rfl⟩ := own_isSlice HF5; have hcW : Chg (fun j => j = B) w5 (w5.setCell ⟨B, 2, none⟩ (.slice ra (turnHunks hs).length rc)) := (Chg.refl (fun j => j = B) w5).setCell (p := ⟨B, 2, none⟩) (.inr rfl) _; have hF5l : List.replicate k () ++ [()] = List.replicate (k + 1) () := List.replicate_succ'.symm; have hO9 := turn_lt (hF5l ▸ HF5) hs2 hBA hc5 hcW; have HO8 := turn_out HO2 hc5 hk5 hcW; have hyc : Dat.rd (w5.setCell ⟨B, 2, none⟩ (.slice ra (turnHunks hs).length rc)) (fun j => ((Value.slice ga gn gc).ownBlock = some j ∨ j = B) ∨ (Value.slice oa on oc).ownBlock = some j) [.int .i64 wh, .string pt, .slice ra (turnHunks hs).length rc] (⟨wh, pt, turnHunks hs⟩ : Change) := ⟨_, rfl, hpc, turn_rd hr2 hs2 hO8 hF8 hBA hc5 hk5 hcW⟩; clear HO2 HF2 hyf hOF hF5l)
              | (at_builtin; refine wpList_push (by rfl) _ _ 51 (by rfl) elemOk_change (O := fun j => (Value.slice ga gn gc).ownBlock = some j ∨ j = B) (l := turnP (p.take k)) (y := (⟨wh, pt, turnHunks hs⟩ : Change)) (by rfl) (by rfl) (by simp) HO8 hyc hO9 hLl ?_; intro vO9 w9 HO9 hc9 hk9))
            subst hBg
            have hfin := turn_step hst hA2 rfl HF5 hc5 hk5 hcW HO9 hc9 hk9
            obtain ⟨oa9, on9, oc9, rfl⟩ := own_isSlice HO9
            clear hc5 hk5 hcW HO9 hc9 hk9 HF5 HO8 hyc hO9 d0 d1 d2 df df0 df2 hB5 hB2
            go_roundw
            case rel => exact ⟨k + 1, by omega, by go_num, by rw [HT.out]; exact hfin⟩
            case measure => simp [intOf] <;> omega
      · obtain rfl : k = p.length := by omega
        have hfr := hst.flt.rdv.sub (O' := Never) (fun _ _ h => h.elim)
        have hor := hst.out.rdv.sub (O' := Never) (fun _ _ h => h.elim)
        rw [List.take_length] at hor
        have hcw := hst.chg
        clear hst p3 hp
        go_wp2_with fail
        refine (join_none _ _ _ hfr).mono ?_
        rintro e w9 ⟨rfl, hc9⟩
        go_wp2_with fail
        go_ret2
        exact ⟨_, by rw [Y.out]; rfl, hcw.trans hc9, by rw [HE.out]; exact hor.never hc9⟩
  · have HE : Hid (turnPR p = []) := if_neg y
    have Y := Lib.hid y
    clear y
    go_enter Tryz.func35, Tryz.ntmps35
    go_wp2_with fail
    refine (patch_check_any p _ _ hp m hm).mono ?_
    rintro e w1 ⟨rfl, hw⟩
    rw [errV_pos Y.out]
    go_wp2_with fail
    go_ret2
    exact ⟨.slice none 0 0, by rw [errV_pos Y.out]; rfl, hw, by rw [HE.out]; exact rdv_nil _ _⟩
end Go.Proofs.YtjiaidchcldocaaGreatDoor
namespace Go.Proofs.YtjiaidchcldocaaGreatDoor
open Go.RowKit

set_option maxHeartbeats 1000000 in
set_option maxRecDepth 100000 in
theorem trees_any (l m : List File) (v u : Value) (w : World) (h : Rdv w Never v l) (g : Rdv w Never u m) :
    Calls Tryz.prog 23 #[v, u] w fun e w' => e = .returned (.bool (decide (l = m))) ∧ Chg Never w w' := by
  obtain ⟨a, cap, rfl, h1, h2, h3⟩ := rdv_slice h
  obtain ⟨c, cap', rfl, g1, g2, g3⟩ := rdv_slice g
  unfold maxLen at h2 g2
  by_cases h4 : l.length = m.length
  · have h4' : ((l.length : Int) != m.length) = false := by simp [h4]
    have H4 := Lib.hid h4
    clear h4
    go_enter Tryz.func23, Tryz.ntmps23
    go_wp2_with fail
    go_loopw [5] (fun i wr => ∃ k : Nat, k ≤ l.length ∧ i = .int .i64 k ∧ Hid (l.take k = m.take k) ∧ Chg Never w wr) (fun i _ => l.length - (intOf i).toNat)
    case atStart => exact ⟨0, Nat.zero_le _, rfl, by simp [Hid], Chg.refl _ _⟩
    case round =>
      obtain ⟨k, hk, rfl, hf, hc⟩ := hrel
      by_cases hlt : k < l.length
      · obtain ⟨x, hx⟩ : ∃ x, l[k]? = some x := ⟨l[k], by simp [hlt]⟩
        obtain ⟨y, hy⟩ : ∃ y, m[k]? = some y := ⟨m[k]'(by rw [← H4.out]; exact hlt), by simp [H4.out ▸ hlt]⟩
        obtain ⟨b, off, mv, rfl, _, _, c0, c1, _, hmv⟩ := elems_file h3 hx
        obtain ⟨b', off', mv', rfl, _, _, d0, d1, _, hmv'⟩ := elems_file g3 hy
        have C0 := Lib.hid c0
        have D0 := Lib.hid d0
        have c1 := hc.cellNever c1
        have d1 := hc.cellNever d1
        have hmv := hmv.never hc
        have hmv' := hmv'.never hc
        clear h3 g3 h g c0 d0
        have hlm : k < m.length := by rw [← H4.out]; exact hlt
        have HX := Lib.hid hx
        have HY := Lib.hid hy
        clear hx hy
        have b1 : (k : Int) < l.length := by omega
        have b2 : (k : Int) < m.length := by omega
        go_wp2_with fail
        refine wp_region_still_tail 10 (by kernel_rfl) (by kernel_rfl) ?_
        simp only [List.take_succ_cons, List.take_zero, List.drop_succ_cons, List.drop_zero]
        change wpStill _ _ wr.drew _ _ _
        repeat still_step
        refine wpStill_nil ?_
        change wpList _ _ _ _ _ wr.drew
        have hcd : Chg Never w wr.drew := hc.drew
        have hmd := hmv.never ((Chg.refl Never wr).drew)
        have hmd' := hmv'.never ((Chg.refl Never wr).drew)
        generalize wr.drew = w3 at hcd hmd hmd'
        clear hmv hmv' c1 d1 hc
        go_wp2_with fail
        refine (texts_any x.lines y.lines _ _ _ hmd hmd').mono ?_
        rintro e w4 ⟨rfl, hc4⟩
        have hc5 := hcd.trans hc4
        have c0 := hc5.cellNever C0.out
        have d0 := hc5.cellNever D0.out
        clear hmd hmd' hcd hc4
        by_cases hls : x.lines = y.lines
        · rw [decide_eq_true hls]
          by_cases hpp : x.path = y.path
          · have hxy : x = y := by
              cases x; cases y
              simp only at hls hpp
              rw [hls, hpp]
            subst hxy
            go_wp2_with fail
            go_quiet (fail)
            go_wp2_with fail
            go_roundw
            case rel => exact ⟨k + 1, by omega, by go_num, take_same hf HX.out HY.out, hc5.drewN _⟩
            case measure => simp [intOf] <;> omega
          · have hxy : x ≠ y := fun e => hpp (by rw [e])
            have t1 := str_beq_false hpp
            have HN := Lib.hid (decide_eq_false (ne_of_get HX.out HY.out hxy))
            clear hls hpp hxy
            go_wp2_with fail
            go_quiet (fail)
            go_wp2_with fail
            go_ret
            exact ⟨by rw [HN.out]; rfl, hc5.drewN _⟩
        · have hxy : x ≠ y := fun e => hls (by rw [e])
          have HN := Lib.hid (decide_eq_false (ne_of_get HX.out HY.out hxy))
          rw [decide_eq_false hls]
          clear hls hxy
          go_wp2_with fail
          go_quiet (fail)
          go_wp2_with fail
          go_ret
          exact ⟨by rw [HN.out]; rfl, hc5.drewN _⟩
      · go_wp2_with fail
        go_ret
        have E : l = m := by
          have := hf.out
          rw [List.take_of_length_le (by omega), List.take_of_length_le (by rw [← H4.out]; omega)] at this
          exact this
        exact ⟨by rw [decide_eq_true E]; rfl, hc⟩
  · have h4' : ((l.length : Int) != m.length) = true := by simp; omega
    go_enter Tryz.func23, Tryz.ntmps23
    go_wp2_with fail
    go_ret
    exact ⟨by rw [decide_eq_false (fun e => h4 (by rw [e]))]; rfl, Chg.refl _ _⟩
end Go.Proofs.YtjiaidchcldocaaGreatDoor
namespace Go.Proofs.YtjiaidchcldocaaGreatDoor
open Go.RowKit

theorem applyGo_nil : ∀ (p : List Change) (i : Nat) (t : List File), (applyGo i t p).2.2 ≠ 0 → (applyGo i t p).1 = []
  | [], _, _, h => absurd rfl h
  | c :: r, i, t, h => by
    rw [applyGo] at h ⊢
    by_cases e : (stepOf (look t c.path) c).2 ≠ 0
    · rw [if_pos e]
    · rw [if_neg e] at h ⊢
      exact applyGo_nil r _ _ h
theorem applyR_nil {t : List File} {p : List Change} (h : (applyR t p).2.2 ≠ 0) : (applyR t p).1 = [] := by
  unfold applyR at h ⊢
  split
  · rfl
  · split
    · rfl
    · split
      · rename_i h1 h2 h3
        exact applyGo_nil _ _ _ h3
      · split
        · rfl
        · rename_i h1 h2 h3 h4
          rw [if_neg h1, if_neg h2, if_neg h3, if_neg h4] at h
          exact absurd rfl h
theorem turnPR_ok {p : List Change} (h : (patchFault p).2 = 0) : turnPR p = turnP p := if_pos h
end Go.Proofs.YtjiaidchcldocaaGreatDoor
namespace Go.Proofs.YtjiaidchcldocaaGreatDoor

theorem script_puts : ∀ y : List ByteArray, script [] y = y.map fun x => ⟨43, x⟩
  | [] => by rw [script]; rfl
  | x :: r => by rw [script, script_puts r]; rfl
theorem script_takes : ∀ y : List ByteArray, script y [] = y.map fun x => ⟨45, x⟩
  | [] => by rw [script]; rfl
  | x :: r => by rw [script, script_takes r]; rfl
theorem changes_map (s : Int) (hs : s ≠ 32) (y : List ByteArray) : changes (y.map fun x => (⟨s, x⟩ : Mark)) = y.length := by
  unfold changes
  rw [List.filter_eq_self.2, List.length_map]
  intro m hm
  obtain ⟨x, _, rfl⟩ := List.mem_map.1 hm
  simpa using hs
theorem wholeR_cut (s : Int) (hs : s ≠ 32) (y : List ByteArray) (h : y.length ≤ 60) : wholeR y s = cutOf (y.map fun x => ⟨s, x⟩) 200 := by
  rw [cut_200 (by rw [List.length_map]; omega), changes_map s hs]
  unfold wholeR
  cases y with
  | nil => rfl
  | cons x r => rw [if_neg (by simp), if_neg (by simp)]
theorem wholeR_shape (y : List ByteArray) (s : Int) : wholeB (wholeR y s) s = true := by
  unfold wholeR
  by_cases h : y = []
  · rw [if_pos h]; rfl
  · rw [if_neg h]
    unfold wholeB
    simp
theorem whole_put {y : List ByteArray} (h : linesFault y = 0) : hunksFault (wholeR y 43) = (0, 0) ∧ strict [] (wholeR y 43) = (y, 0, 0) := by
  have := strict_cut (a := []) (b := y) (n := 200) (checkedFault_zero.2 ⟨rfl, h⟩) (by omega) (by omega)
  rw [script_puts, ← wholeR_cut 43 (by decide) y (linesFault_zero.1 h).1] at this
  exact ⟨this.2.2.1, this.2.1⟩
theorem whole_take {y : List ByteArray} (h : linesFault y = 0) : hunksFault (wholeR y 45) = (0, 0) ∧ strict y (wholeR y 45) = ([], 0, 0) := by
  have := strict_cut (a := y) (b := []) (n := 200) (checkedFault_zero.2 ⟨h, rfl⟩) (by omega) (by omega)
  rw [script_takes, ← wholeR_cut 45 (by decide) y (linesFault_zero.1 h).1] at this
  exact ⟨this.2.2.1, this.2.1⟩
theorem chg_facts {n : Int} (h0 : 0 ≤ n) (h1 : n ≤ 1000) {p : ByteArray} (hp : pathFault p = 0) {x y : Option (List ByteArray)} (hx : ∀ l, x = some l → linesFault l = 0) (hy : ∀ l, y = some l → linesFault l = 0) :
    (∀ c ∈ chg n p x y, c.path = p ∧ changeFault c = 0 ∧ stepOf x c = (y, 0)) ∧ (chg n p x y = [] → x = y) ∧ (chg n p x y).length ≤ 1 := by
  cases x with
  | none =>
    cases y with
    | none => exact ⟨fun c hc => (by cases hc), fun _ => rfl, by simp [chg]⟩
    | some y =>
      obtain ⟨w1, w2⟩ := whole_put (hy y rfl)
      refine ⟨fun c hc => ?_, fun h => (by cases h), by simp [chg]⟩
      rw [show c = ⟨2, p, wholeR y 43⟩ from List.mem_singleton.1 hc]
      refine ⟨rfl, changeFault_of (by simp) (by simp) hp w1 ?_, ?_⟩
      · unfold shapeB
        rw [if_pos rfl]
        exact wholeR_shape y 43
      · unfold stepOf
        simp only [Option.getD_none]
        simp [w2]
  | some x =>
    cases y with
    | none =>
      obtain ⟨w1, w2⟩ := whole_take (hx x rfl)
      refine ⟨fun c hc => ?_, fun h => (by cases h), by simp [chg]⟩
      rw [show c = ⟨3, p, wholeR x 45⟩ from List.mem_singleton.1 hc]
      refine ⟨rfl, changeFault_of (by simp) (by simp) hp w1 ?_, ?_⟩
      · unfold shapeB
        rw [if_neg (by simp), if_pos rfl]
        exact wholeR_shape x 45
      · unfold stepOf
        simp only [Option.getD_some]
        simp [w2]
    | some y =>
      obtain ⟨w0, w1, w2, _⟩ := strict_cut (checkedFault_zero.2 ⟨hx x rfl, hy y rfl⟩) h0 h1
      unfold chg
      simp only
      by_cases e : cutOf (script x y) n = []
      · rw [if_pos e]
        refine ⟨fun c hc => (by cases hc), fun _ => ?_, by simp⟩
        rw [e] at w1
        have q : strict x [] = (x, 0, 0) := by
          unfold strict
          have hl := (linesFault_zero.1 (hx x rfl)).1
          rw [if_neg (by simp [hx x rfl]), if_neg (by decide), strictGo]
          rw [if_neg (by simp; omega)]
          simp
        rw [q] at w1
        exact congrArg some (Prod.mk.inj w1).1
      · rw [if_neg e]
        refine ⟨fun c hc => ?_, fun h => (by cases h), by simp⟩
        rw [show c = ⟨1, p, cutOf (script x y) n⟩ from List.mem_singleton.1 hc]
        refine ⟨rfl, changeFault_of (by simp) (by simp) hp w2 ?_, ?_⟩
        · unfold shapeB
          rw [if_neg (by simp), if_neg (by simp)]
          cases hh : cutOf (script x y) n with
          | nil => exact absurd hh e
          | cons _ _ => rfl
        · unfold stepOf
          simp only [Option.getD_some]
          simp [w1]
theorem all_len : ∀ (b a : List File), Sorted a → (allOf a b).length ≤ a.length + b.length
  | [], a, _ => by unfold allOf; simp
  | x :: r, a, h => by
    have := all_len r (putAt a x) (putAt_sorted h x)
    have e := putAt_len h x
    rw [show allOf a (x :: r) = allOf (putAt a x) r from rfl]
    split at e <;> simp only [List.length_cons] <;> omega
theorem flat_sorted {g : File → List Change} : ∀ {L : List File}, Sorted L → (∀ f ∈ L, (∀ c ∈ g f, c.path = f.path) ∧ (g f).length ≤ 1) → SortedC (L.flatMap g) ∧ (L.flatMap g).length ≤ L.length
  | [], _, _ => ⟨List.Pairwise.nil, Nat.le_refl _⟩
  | f :: r, h, hg => by
    obtain ⟨h1, h2⟩ := List.pairwise_cons.1 h
    obtain ⟨i1, i2⟩ := flat_sorted h2 fun x hx => hg x (List.mem_cons_of_mem _ hx)
    obtain ⟨g1, g2⟩ := hg f (List.mem_cons_self ..)
    rw [List.flatMap_cons]
    refine ⟨List.pairwise_append.2 ⟨?_, i1, fun c hc d hd => ?_⟩, by rw [List.length_append, List.length_cons]; omega⟩
    · match hh : g f with
      | [] => exact List.Pairwise.nil
      | [_] => exact List.pairwise_singleton _ _
      | _ :: _ :: _ => rw [hh] at g2; simp at g2
    · obtain ⟨x, hx, hd⟩ := List.mem_flatMap.1 hd
      rw [g1 c hc, (hg x (List.mem_cons_of_mem _ hx)).1 d hd]
      exact h1 x hx
theorem tree_linesAt {a : List File} (ha : Tree a) (p : ByteArray) : ∀ l, look a p = some l → linesFault l = 0 ∧ pathFault p = 0 := by
  intro l h
  obtain ⟨x, hx, rfl, rfl⟩ := look_some h
  obtain ⟨q1, q2⟩ := fileFault_zero (ha.2.1 x hx)
  exact ⟨q2, q1⟩
theorem ref_facts {a b : List File} (ha : Tree a) (hb : Tree b) {n : Int} (h0 : 0 ≤ n) (h1 : n ≤ 1000) {f : File} (hf : f ∈ allOf a b) :
    (∀ c ∈ chg n f.path (look a f.path) (look b f.path), c.path = f.path ∧ changeFault c = 0 ∧ stepOf (look a f.path) c = (look b f.path, 0)) ∧ (chg n f.path (look a f.path) (look b f.path) = [] → look a f.path = look b f.path) ∧ (chg n f.path (look a f.path) (look b f.path)).length ≤ 1 := by
  have hl := look_mem (all_sorted b a ha.2.2) hf
  rw [all_look f.path b a ha.2.2 hb.2.2] at hl
  have hp : pathFault f.path = 0 := by
    cases hx : look b f.path with
    | some l => exact (tree_linesAt hb _ l hx).2
    | none =>
      rw [hx] at hl
      exact (tree_linesAt ha _ _ hl).2
  exact chg_facts h0 h1 hp (fun l h => (tree_linesAt ha _ l h).1) (fun l h => (tree_linesAt hb _ l h).1)
/-- what is found between two trees is a patch and leads from the one to the other -/
theorem diff_leads {a b : List File} (ha : Tree a) (hb : Tree b) {n : Int} (h0 : 0 ≤ n) (h1 : n ≤ 1000) : Patch (diffL n a b) ∧ Leads a (diffL n a b) b := by
  rw [← diff_same n ha.2.2 hb.2.2]
  unfold refDiff
  have hs := all_sorted b a ha.2.2
  obtain ⟨s1, s2⟩ := flat_sorted (g := fun f => chg n f.path (look a f.path) (look b f.path)) hs fun f hf => ⟨fun c hc => ((ref_facts ha hb h0 h1 hf).1 c hc).1, (ref_facts ha hb h0 h1 hf).2.2⟩
  have hl := all_len b a ha.2.2
  have a8 := ha.1
  have b8 := hb.1
  refine ⟨⟨by omega, fun c hc => ?_, s1⟩, fun c hc => ?_, fun q hq => ?_⟩
  · obtain ⟨f, hf, hc⟩ := List.mem_flatMap.1 hc
    exact ((ref_facts ha hb h0 h1 hf).1 c hc).2.1
  · obtain ⟨f, hf, hc⟩ := List.mem_flatMap.1 hc
    obtain ⟨e1, _, e3⟩ := (ref_facts ha hb h0 h1 hf).1 c hc
    rw [e1]
    exact e3
  · cases hx : look (allOf a b) q with
    | none =>
      rw [all_look q b a ha.2.2 hb.2.2] at hx
      cases hy : look b q with
      | some l => rw [hy] at hx; cases hx
      | none =>
        rw [hy] at hx
        exact hx.symm
    | some l =>
      obtain ⟨f, hf, rfl, _⟩ := look_some hx
      refine ((ref_facts ha hb h0 h1 hf).2.1 ?_).symm
      cases hh : chg n f.path (look a f.path) (look b f.path) with
      | nil => rfl
      | cons c r =>
        have hm : c ∈ chg n f.path (look a f.path) (look b f.path) := by rw [hh]; exact List.mem_cons_self ..
        exact absurd ((ref_facts ha hb h0 h1 hf).1 c hm).1 (hq c (List.mem_flatMap.2 ⟨f, hf, hm⟩))
theorem diff_makes {a b : List File} (ha : Tree a) (hb : Tree b) {n : Int} (h0 : 0 ≤ n) (h1 : n ≤ 1000) : applyR a (diffL n a b) = (b, 0, 0) ∧ applyR b (turnP (diffL n a b)) = (a, 0, 0) := by
  obtain ⟨q1, q2⟩ := diff_leads ha hb h0 h1
  have := applyR_of ha q1 hb.2.2 hb.1 q2
  exact ⟨this, apply_back this⟩
end Go.Proofs.YtjiaidchcldocaaGreatDoor
namespace Go.Proofs.YtjiaidchcldocaaGreatDoor
open Go.RowKit

theorem diffFault_zero {a b : List File} {n : Int} (h : diffFault a b n = 0) : (treeFault a).2 = 0 ∧ (treeFault b).2 = 0 ∧ 0 ≤ n ∧ n ≤ 1000 := by
  unfold diffFault at h
  split at h
  · rename_i h1; exact absurd h h1
  · rename_i h1
    split at h
    · rename_i h2; exact absurd h h2
    · rename_i h2
      split at h
      · cases h
      · rename_i h3
        refine ⟨by simpa using h1, by simpa using h2, by omega, by omega⟩
end Go.Proofs.YtjiaidchcldocaaGreatDoor
namespace Go.Proofs.YtjiaidchcldocaaGreatDoor
open Go.RowKit

def twoF (t : List File) (p q : List Change) (D : List File) : Int := if (applyR t p).2.2 = 0 then (applyR D q).2.2 else (applyR t p).2.2
def twoC (t : List File) (p q : List Change) (D : List File) : List File := if (applyR t p).2.2 = 0 then (applyR D q).1 else []
def TwoPost (t : List File) (p q : List Change) (D : List File) (w : World) (e : Ending) (w' : World) : Prop :=
  ∃ rb rc, e = .returned (.tuple #[rb, rc, errV (twoF t p q D)]) ∧ Chg Never w w' ∧ Rdv w' Never rb (applyR t p).1 ∧ Rdv w' Never rc (twoC t p q D)
theorem joinOf_any (v : Value) (w : World) : Calls Tryz.prog 67 #[v] w fun e w' => e = .returned v ∧ Chg Never w w' := by
  go_enter Tryz.func67, Tryz.ntmps67
  go_wp2_with fail
  go_ret
  exact ⟨rfl, Chg.refl _ _⟩
theorem interOf_any (v u : Value) (a : Addr) (w : World) (h : w.cell? a = some u) : Calls Tryz.prog 68 #[v, .pointer (some a)] w fun e w' => e = .returned u ∧ Chg Never w w' := by
  go_enter Tryz.func68, Tryz.ntmps68
  go_wp2_with fail
  go_ret
  exact ⟨rfl, Chg.refl _ _⟩
set_option maxHeartbeats 2000000 in
set_option maxRecDepth 100000 in
theorem two_join (t : List File) (p q : List Change) (vt vp vq : Value) (w : World) (ht : Rdv w Never vt t) (hp : Rdv w Never vp p) (hq : Rdv w Never vq q) (m : Int) (hm : w.cell? ⟨1, 0, none⟩ = some (.int .i64 m)) :
    Calls Tryz.prog 66 #[vt, vp, vq, .func (.func 67) #[] #[]] w fun e w' => TwoPost t p q (applyR t p).1 w e w' := by
  go_enter Tryz.func66, Tryz.ntmps66
  go_wp2_with fail
  refine (apply_any t p _ _ _ ht hp m hm).mono ?_
  rintro e w1 ⟨r1, rfl, hw, hr1⟩
  by_cases z : (applyR t p).2.2 = 0
  · have HF : Hid (twoF t p q (applyR t p).1 = (applyR (applyR t p).1 q).2.2) := if_pos z
    have HC : Hid (twoC t p q (applyR t p).1 = (applyR (applyR t p).1 q).1) := if_pos z
    rw [z, errV_zero]
    clear z
    obtain ⟨ba, bc, rfl, _, _, _⟩ := rdv_slice hr1
    go_wp2_with (go_at_call 67; refine (joinOf_any _ _).mono ?_; rintro e w2 ⟨rfl, hcO⟩; have hw2 := hw.trans hcO)
    refine (apply_any (applyR t p).1 q _ _ _ (hr1.never hcO) (hq.never hw2) m (hw2.cellNever hm)).mono ?_
    rintro e w3 ⟨r3, rfl, hc3, hr3⟩
    have hr1 := hr1.never (hcO.trans hc3)
    have hwf := hw2.trans hc3
    obtain ⟨ca, cc, rfl, _, _, _⟩ := rdv_slice hr3
    by_cases y : (applyR (applyR t p).1 q).2.2 = 0
    · rw [y, errV_zero]
      have Y := Lib.hid y
      clear y
      go_wp2_with fail
      go_ret3
      exact ⟨_, _, by rw [HF.out, Y.out]; rfl, hwf, hr1, by rw [HC.out]; exact hr3⟩
    · rw [errV_pos y]
      have Y := Lib.hid y
      clear y
      go_wp2_with fail
      go_ret3
      exact ⟨_, _, by rw [HF.out, errV_pos Y.out]; rfl, hwf, hr1, by rw [HC.out]; exact hr3⟩
  · have HF : Hid (twoF t p q (applyR t p).1 = (applyR t p).2.2) := if_neg z
    have HC : Hid (twoC t p q (applyR t p).1 = []) := if_neg z
    have HB := Lib.hid (applyR_nil z)
    have Z := Lib.hid z
    rw [errV_pos z]
    clear z hr1
    go_wp2_with fail
    go_ret3
    exact ⟨_, _, by rw [HF.out, errV_pos Z.out]; rfl, hw, by rw [HB.out]; exact rdv_nil _ _, by rw [HC.out]; exact rdv_nil _ _⟩
set_option maxHeartbeats 2000000 in
set_option maxRecDepth 100000 in
theorem two_inter (t : List File) (p q : List Change) (vt vp vq : Value) (a : Addr) (w : World) (ht : Rdv w Never vt t) (hp : Rdv w Never vp p) (hq : Rdv w Never vq q) (ha : w.cell? a = some vt) (m : Int) (hm : w.cell? ⟨1, 0, none⟩ = some (.int .i64 m)) :
    Calls Tryz.prog 66 #[vt, vp, vq, .func (.func 68) #[] #[.pointer (some a)]] w fun e w' => TwoPost t p q t w e w' := by
  go_enter Tryz.func66, Tryz.ntmps66
  go_wp2_with fail
  refine (apply_any t p _ _ _ ht hp m hm).mono ?_
  rintro e w1 ⟨r1, rfl, hw, hr1⟩
  by_cases z : (applyR t p).2.2 = 0
  · have HF : Hid (twoF t p q t = (applyR t q).2.2) := if_pos z
    have HC : Hid (twoC t p q t = (applyR t q).1) := if_pos z
    rw [z, errV_zero]
    clear z
    obtain ⟨ba, bc, rfl, _, _, _⟩ := rdv_slice hr1
    go_wp2_with (go_at_call 68; refine (interOf_any _ _ _ _ (hw.cellNever ha)).mono ?_; rintro e w2 ⟨rfl, hcO⟩; have hw2 := hw.trans hcO)
    refine (apply_any t q _ _ _ (ht.never hw2) (hq.never hw2) m (hw2.cellNever hm)).mono ?_
    rintro e w3 ⟨r3, rfl, hc3, hr3⟩
    have hr1 := hr1.never (hcO.trans hc3)
    have hwf := hw2.trans hc3
    obtain ⟨ca, cc, rfl, _, _, _⟩ := rdv_slice hr3
    by_cases y : (applyR t q).2.2 = 0
    · rw [y, errV_zero]
      have Y := Lib.hid y
      clear y
      go_wp2_with fail
      go_ret3
      exact ⟨_, _, by rw [HF.out, Y.out]; rfl, hwf, hr1, by rw [HC.out]; exact hr3⟩
    · rw [errV_pos y]
      have Y := Lib.hid y
      clear y
      go_wp2_with fail
      go_ret3
      exact ⟨_, _, by rw [HF.out, errV_pos Y.out]; rfl, hwf, hr1, by rw [HC.out]; exact hr3⟩
  · have HF : Hid (twoF t p q t = (applyR t p).2.2) := if_neg z
    have HC : Hid (twoC t p q t = []) := if_neg z
    have HB := Lib.hid (applyR_nil z)
    have Z := Lib.hid z
    rw [errV_pos z]
    clear z hr1
    go_wp2_with fail
    go_ret3
    exact ⟨_, _, by rw [HF.out, errV_pos Z.out]; rfl, hw, by rw [HB.out]; exact rdv_nil _ _, by rw [HC.out]; exact rdv_nil _ _⟩
def joinFt (t : List File) (p q : List Change) (n : Int) : Int := if twoF t p q (applyR t p).1 = 0 then diffFault t (twoC t p q (applyR t p).1) n else twoF t p q (applyR t p).1
def joinRt (t : List File) (p q : List Change) (n : Int) : List Change := if twoF t p q (applyR t p).1 = 0 then diffR t (twoC t p q (applyR t p).1) n else []
def interF (t : List File) (p q : List Change) (n : Int) : Int := if twoF t p q t = 0 then diffFault (applyR t p).1 (twoC t p q t) n else twoF t p q t
def interR (t : List File) (p q : List Change) (n : Int) : List Change := if twoF t p q t = 0 then diffR (applyR t p).1 (twoC t p q t) n else []
set_option maxHeartbeats 2000000 in
set_option maxRecDepth 100000 in
theorem alg_join_any (t : List File) (p q : List Change) (n : Int) (vt vp vq : Value) (w : World) (ht : Rdv w Never vt t) (hp : Rdv w Never vp p) (hq : Rdv w Never vq q) (hn : I64 n) (m : Int) (hm : w.cell? ⟨1, 0, none⟩ = some (.int .i64 m)) :
    Calls Tryz.prog 26 #[vt, vp, vq, .int .i64 n] w fun e w' => ∃ r, e = .returned (.tuple #[r, errV (joinFt t p q n)]) ∧ Chg Never w w' ∧ Rdv w' Never r (joinRt t p q n) := by
  go_enter Tryz.func26, Tryz.ntmps26
  go_wp2_with fail
  refine (two_join t p q _ _ _ _ ht hp hq m hm).mono ?_
  rintro e w2 ⟨rb, rc, rfl, hw, hrb, hrc⟩
  by_cases z : twoF t p q (applyR t p).1 = 0
  · have HF : Hid (joinFt t p q n = diffFault t (twoC t p q (applyR t p).1) n) := if_pos z
    have HR : Hid (joinRt t p q n = diffR t (twoC t p q (applyR t p).1) n) := if_pos z
    rw [z, errV_zero]
    clear z
    go_wp2_with fail
    refine (diff_any t (twoC t p q (applyR t p).1) n _ _ _ (ht.never hw) hrc hn m (hw.cellNever hm)).mono ?_
    rintro e w3 ⟨r3, rfl, hc3, hr3⟩
    rw [← HF.out]
    rw [← HR.out] at hr3
    go_wp2_with fail
    go_ret2
    exact ⟨r3, rfl, hw.trans hc3, hr3⟩
  · have HF : Hid (joinFt t p q n = twoF t p q (applyR t p).1) := if_neg z
    have HR : Hid (joinRt t p q n = []) := if_neg z
    have Z := Lib.hid z
    rw [errV_pos z]
    clear z
    go_wp2_with fail
    go_ret2
    exact ⟨.slice none 0 0, by rw [HF.out, errV_pos Z.out]; rfl, hw, by rw [HR.out]; exact rdv_nil _ _⟩
set_option maxHeartbeats 2000000 in
set_option maxRecDepth 100000 in
theorem alg_inter_any (t : List File) (p q : List Change) (n : Int) (vt vp vq : Value) (w : World) (ht : Rdv w Never vt t) (hp : Rdv w Never vp p) (hq : Rdv w Never vq q) (hn : I64 n) (m : Int) (hm : w.cell? ⟨1, 0, none⟩ = some (.int .i64 m)) :
    Calls Tryz.prog 27 #[vt, vp, vq, .int .i64 n] w fun e w' => ∃ r, e = .returned (.tuple #[r, errV (interF t p q n)]) ∧ Chg Never w w' ∧ Rdv w' Never r (interR t p q n) := by
  obtain ⟨ta, tc, rfl, _, _, _⟩ := rdv_slice ht
  have hA : Chg Never w (w.alloc (.cells #[.slice ta t.length tc] 41)) := (Chg.refl Never w).alloc _
  have b0 : (w.alloc (.cells #[.slice ta t.length tc] 41)).cell? ⟨w.heap.size, 0, none⟩ = some (.slice ta t.length tc) := by simp only [World.cell?]; rw [heap_alloc_new]; rfl
  go_enter Tryz.func27, Tryz.ntmps27
  go_wp2_with fail
  refine (two_inter t p q _ _ _ _ _ (ht.never hA) (hp.never hA) (hq.never hA) b0 m (hA.cellNever hm)).mono ?_
  rintro e w2 ⟨rb, rc, rfl, hc2, hrb, hrc⟩
  have hw := hA.trans hc2
  clear hc2
  by_cases z : twoF t p q t = 0
  · have HF : Hid (interF t p q n = diffFault (applyR t p).1 (twoC t p q t) n) := if_pos z
    have HR : Hid (interR t p q n = diffR (applyR t p).1 (twoC t p q t) n) := if_pos z
    rw [z, errV_zero]
    clear z
    go_wp2_with fail
    refine (diff_any (applyR t p).1 (twoC t p q t) n _ _ _ hrb hrc hn m (hw.cellNever hm)).mono ?_
    rintro e w3 ⟨r3, rfl, hc3, hr3⟩
    rw [← HF.out]
    rw [← HR.out] at hr3
    go_wp2_with fail
    go_ret2
    exact ⟨r3, rfl, hw.trans hc3, hr3⟩
  · have HF : Hid (interF t p q n = twoF t p q t) := if_neg z
    have HR : Hid (interR t p q n = []) := if_neg z
    have Z := Lib.hid z
    rw [errV_pos z]
    clear z
    go_wp2_with fail
    go_ret2
    exact ⟨.slice none 0 0, by rw [HF.out, errV_pos Z.out]; rfl, hw, by rw [HR.out]; exact rdv_nil _ _⟩
end Go.Proofs.YtjiaidchcldocaaGreatDoor
namespace Go.Proofs.YtjiaidchcldocaaGreatDoor
open Go.RowKit

theorem joinFt_ok {t : List File} {p q : List Change} {n : Int} (h : (applyR t p).2.2 = 0) (g : (applyR (applyR t p).1 q).2.2 = 0) : joinFt t p q n = diffFault t (applyR (applyR t p).1 q).1 n ∧ joinRt t p q n = diffR t (applyR (applyR t p).1 q).1 n := by
  have e1 : twoF t p q (applyR t p).1 = 0 := by unfold twoF; rw [if_pos h, g]
  have e2 : twoC t p q (applyR t p).1 = (applyR (applyR t p).1 q).1 := if_pos h
  unfold joinFt joinRt
  rw [if_pos e1, if_pos e1, e2]
  exact ⟨rfl, rfl⟩
theorem inter_ok {t : List File} {p q : List Change} {n : Int} (h : (applyR t p).2.2 = 0) (g : (applyR t q).2.2 = 0) : interF t p q n = diffFault (applyR t p).1 (applyR t q).1 n ∧ interR t p q n = diffR (applyR t p).1 (applyR t q).1 n := by
  have e1 : twoF t p q t = 0 := by unfold twoF; rw [if_pos h, g]
  have e2 : twoC t p q t = (applyR t q).1 := if_pos h
  unfold interF interR
  rw [if_pos e1, if_pos e1, e2]
  exact ⟨rfl, rfl⟩
end Go.Proofs.YtjiaidchcldocaaGreatDoor
namespace Go.Proofs.YtjiaidchcldocaaGreatDoor
open Go.RowKit

/-! ### one: a closed fact -/
def oneP : List Change := [⟨2, ⟨#[97]⟩, [⟨0, 0, [⟨43, ⟨#[120]⟩⟩]⟩]⟩]
def oneT : ByteArray := ⟨#[116]⟩
theorem one_pack : packF oneT.data.toList [oneP] = 0 := by decide +kernel
theorem one_apply : applyR [] oneP = ([⟨⟨#[97]⟩, [⟨#[120]⟩]⟩], 0, 0) := by decide +kernel
theorem one_run : runF [] (packL oneT.data.toList [oneP]) = 0 ∧ runR [] (packL oneT.data.toList [oneP]) = [⟨⟨#[97]⟩, [⟨#[120]⟩]⟩] := by
  have ho : openMs (packL oneT.data.toList [oneP]) = (oneT.data.toList, [oneP], 0) := openMs_perm one_pack (List.Perm.refl _)
  have hr : runGoS [] [oneP] = ([⟨⟨#[97]⟩, [⟨#[120]⟩]⟩], 0) := by
    rw [runGoS, one_apply]; rfl
  have hf : runF [] (packL oneT.data.toList [oneP]) = 0 := by
    unfold runF
    rw [ho, hr]; rfl
  refine ⟨hf, ?_⟩
  unfold runR
  rw [if_pos hf, ho, hr]
theorem one_lit {w W : World} (hW : W = (((w.alloc (.cells #[.int .u8 43, .string ⟨#[120]⟩] 126)).alloc (.cells #[.int .i64 0, .int .i64 0, .slice (some ⟨w.heap.size, 0, none⟩) 1 1] 129)).alloc (.cells #[.int .i64 2, .string ⟨#[97]⟩, .slice (some ⟨w.heap.size + 1, 0, none⟩) 1 1] 85)).alloc (.cells #[.slice (some ⟨w.heap.size + 1 + 1, 0, none⟩) 1 1] 51)) :
    Chg Never w W ∧ Rdv W Never (.slice (some ⟨w.heap.size + 1 + 1 + 1, 0, none⟩) 1 1) [oneP] := by
  obtain ⟨w1, e1⟩ : ∃ x, x = w.alloc (.cells #[.int .u8 43, .string ⟨#[120]⟩] 126) := ⟨_, rfl⟩
  obtain ⟨w2, e2⟩ : ∃ x, x = w1.alloc (.cells #[.int .i64 0, .int .i64 0, .slice (some ⟨w.heap.size, 0, none⟩) 1 1] 129) := ⟨_, rfl⟩
  obtain ⟨w3, e3⟩ : ∃ x, x = w2.alloc (.cells #[.int .i64 2, .string ⟨#[97]⟩, .slice (some ⟨w.heap.size + 1, 0, none⟩) 1 1] 85) := ⟨_, rfl⟩
  have s1 : w1.heap.size = w.heap.size + 1 := by rw [e1, World.size_alloc]
  have s2 : w2.heap.size = w.heap.size + 1 + 1 := by rw [e2, World.size_alloc, s1]
  have s3 : w3.heap.size = w.heap.size + 1 + 1 + 1 := by rw [e3, World.size_alloc, s2]
  rw [← e1, ← e2, ← e3] at hW
  have c1 : Chg Never w w1 := by rw [e1]; exact (Chg.refl Never w).alloc _
  have c2 : Chg Never w1 w2 := by rw [e2]; exact (Chg.refl Never w1).alloc _
  have c3 : Chg Never w2 w3 := by rw [e3]; exact (Chg.refl Never w2).alloc _
  have c4 : Chg Never w3 W := by rw [hW]; exact (Chg.refl Never w3).alloc _
  have h1 : Rdv w1 Never (.slice (some ⟨w.heap.size, 0, none⟩) 1 1) [(⟨43, ⟨#[120]⟩⟩ : Mark)] := by
    rw [e1]
    exact rdv_lit (e := 126) (cs := [.int .u8 43, .string ⟨#[120]⟩]) (heap_alloc_new _ _) rfl (by decide) ⟨⟨rfl, by decide, by decide, by decide⟩, trivial⟩
  have h2 : Rdv w2 Never (.slice (some ⟨w.heap.size + 1, 0, none⟩) 1 1) [(⟨0, 0, [⟨43, ⟨#[120]⟩⟩]⟩ : Hunk)] := by
    have n := heap_alloc_new w1 (.cells #[.int .i64 0, .int .i64 0, .slice (some ⟨w.heap.size, 0, none⟩) 1 1] 129)
    rw [s1, ← e2] at n
    exact rdv_lit (e := 129) (cs := [.int .i64 0, .int .i64 0, .slice (some ⟨w.heap.size, 0, none⟩) 1 1]) n rfl (by decide) ⟨⟨_, rfl, h1.never c2⟩, trivial⟩
  have h3 : Rdv w3 Never (.slice (some ⟨w.heap.size + 1 + 1, 0, none⟩) 1 1) oneP := by
    have n := heap_alloc_new w2 (.cells #[.int .i64 2, .string ⟨#[97]⟩, .slice (some ⟨w.heap.size + 1, 0, none⟩) 1 1] 85)
    rw [s2, ← e3] at n
    exact rdv_lit (e := 85) (cs := [.int .i64 2, .string ⟨#[97]⟩, .slice (some ⟨w.heap.size + 1, 0, none⟩) 1 1]) n rfl (by decide) ⟨⟨_, rfl, by decide, h2.never c3⟩, trivial⟩
  refine ⟨((c1.trans c2).trans c3).trans c4, ?_⟩
  have n := heap_alloc_new w3 (.cells #[.slice (some ⟨w.heap.size + 1 + 1, 0, none⟩) 1 1] 51)
  rw [s3, ← hW] at n
  exact rdv_lit (e := 51) (cs := [.slice (some ⟨w.heap.size + 1 + 1, 0, none⟩) 1 1]) n rfl (by decide) ⟨h3.never c4, trivial⟩
set_option maxHeartbeats 2000000 in
set_option maxRecDepth 100000 in
theorem top_one (w : World) (mx : Int) (hg : Globs w mx) : Calls Tryz.prog 24 #[] w fun e w' => e = .returned (.bool true) ∧ Chg Never w w' := by
  have HP0 : packF oneT.data.toList [oneP] = 0 := one_pack
  have HPR : packR oneT.data.toList [oneP] = packL oneT.data.toList [oneP] := if_pos one_pack
  have HRF := Lib.hid one_run.1
  have HRR := Lib.hid one_run.2
  obtain ⟨W, hW⟩ : ∃ W, W = (((w.alloc (.cells #[.int .u8 43, .string ⟨#[120]⟩] 126)).alloc (.cells #[.int .i64 0, .int .i64 0, .slice (some ⟨w.heap.size, 0, none⟩) 1 1] 129)).alloc (.cells #[.int .i64 2, .string ⟨#[97]⟩, .slice (some ⟨w.heap.size + 1, 0, none⟩) 1 1] 85)).alloc (.cells #[.slice (some ⟨w.heap.size + 1 + 1, 0, none⟩) 1 1] 51) := ⟨_, rfl⟩
  obtain ⟨hc0, hp⟩ := one_lit hW
  go_enter Tryz.func24, Tryz.ntmps24
  go_wp2_with fail
  rw [← hW]
  clear hW
  refine (pack_any oneT [oneP] _ _ hp (by decide) mx (hg.never hc0).ml).mono ?_
  rintro e w1 ⟨r1, rfl, hc1, hr1⟩
  rw [HP0, errV_zero]
  rw [HPR] at hr1
  clear HP0 HPR
  have hll : (packL oneT.data.toList [oneP]).length = 2 := rfl
  obtain ⟨ra, rc, rfl, _, _, _⟩ := rdv_slice hr1
  have hw := hc0.trans hc1
  generalize packL oneT.data.toList [oneP] = l at hr1 HRF HRR hll ⊢
  have hl2 : ((l.length : Int) != 2) = false := by rw [hll]; rfl
  have hl3 : ((l.length : Int) == 2) = true := by rw [hll]; rfl
  have hl9 : l.length ≤ 1000000000 := by omega
  clear hll hp
  go_wp2_with fail
  refine (srun_any [] l _ _ _ (rdv_nil _ _) hr1 hl9 mx (hg.never hw)).mono ?_
  rintro e w2 ⟨r2, rfl, hc2, hr2⟩
  rw [HRF.out, errV_zero]
  rw [HRR.out] at hr2
  obtain ⟨sa, sc, rfl, _, _, s3⟩ := rdv_slice hr2
  obtain ⟨b, off, lv, rfl, _, _, g0, g1, _, hlv⟩ := elems_file s3 (i := 0) rfl
  obtain ⟨la, lc, rfl, _, _, _⟩ := rdv_slice hlv
  simp only [Nat.zero_mul, Nat.add_zero] at g0 g1
  have hw := hw.trans hc2
  clear hr2 s3 hlv hr1 hc1 hc2 HRF HRR
  go_wp2_with fail
  go_ret
  exact ⟨rfl, hw⟩

/-! ### found, last -/
set_option maxHeartbeats 2000000 in
set_option maxRecDepth 100000 in
theorem top_last (t : List (List File)) (v : Value) (w : World) (h : Rdv w Never v t) (h0 : 0 < t.length) :
    Calls Tryz.prog 33 #[v] w fun e w' => ∃ r, e = .returned r ∧ w' = w ∧ Rdv w Never r (lastOf t) := by
  obtain ⟨a, cap, rfl, h1, h2, h3⟩ := rdv_slice h
  unfold maxLen at h2
  have sN0 : IntKind.i64.wrap ((t.length : Int) - 1) = (t.length : Int) - 1 := IntWalk.i64_in _ (by omega)
  by_cases h5 : 5 < t.length - 1
  · have HL : lastOf t = t.getD 5 [] := by unfold lastOf; rw [if_pos h5]
    have hg : t[5]? = some (t.getD 5 []) := by rw [List.getD_eq_getElem?_getD, List.getElem?_eq_getElem (by omega)]; rfl
    rw [← HL] at hg
    generalize lastOf t = z at hg ⊢
    obtain ⟨b, off, cv, rfl, _, _, d0, hcv⟩ := elems_row h3 hg
    have t5 : decide ((5 : Int) < (t.length : Int) - 1) = true := decide_eq_true (by omega)
    have p5 : (5 : Int) < (t.length : Int) := by omega
    obtain ⟨ca, cc, rfl, _, _, _⟩ := rdv_slice hcv
    clear h3 h HL hg
    go_enter Tryz.func33, Tryz.ntmps33
    go_wp2_with fail
    go_ret
    exact ⟨_, rfl, rfl, hcv⟩
  · obtain ⟨n, hn⟩ : ∃ n, t.length = n + 1 := ⟨t.length - 1, by omega⟩
    have HL : lastOf t = t.getD n [] := by unfold lastOf; rw [if_neg h5, hn]; rfl
    have hg : t[n]? = some (t.getD n []) := by rw [List.getD_eq_getElem?_getD, List.getElem?_eq_getElem (by omega)]; rfl
    rw [← HL] at hg
    generalize lastOf t = z at hg ⊢
    obtain ⟨b, off, cv, rfl, _, _, d0, hcv⟩ := elems_row h3 hg
    have eN : (t.length : Int) - 1 = (n : Int) := by omega
    have sN : IntKind.i64.wrap ((t.length : Int) - 1) = (n : Int) := sN0.trans eN
    clear sN0 eN
    have t5 : decide ((5 : Int) < (n : Int)) = false := decide_eq_false (by omega)
    have t6 : decide (5 < n) = false := decide_eq_false (by omega)
    have p5 : (n : Int) < (t.length : Int) := by omega
    obtain ⟨ca, cc, rfl, _, _, _⟩ := rdv_slice hcv
    clear h3 h HL hn hg
    go_enter Tryz.func33, Tryz.ntmps33
    go_wp2_with fail
    go_ret
    exact ⟨_, rfl, rfl, hcv⟩
theorem foundL_step {n : Int} {t : List (List File)} {k : Nat} {a b : List File} (ha : t[k]? = some a) (hb : t[k + 1]? = some b) (hk : k + 1 < 6) : (foundL n t).take (k + 1) = (foundL n t).take k ++ [diffL n a b] := by
  rw [List.take_add_one, (found_get (n := n) ha hb hk).2]; rfl
theorem found_no {n : Int} {t : List (List File)} {k : Nat} {a b : List File} (ha : t[k]? = some a) (hb : t[k + 1]? = some b) (hk : k + 1 < 6) (hz : diffFault a b n ≠ 0) : foundF n t ≠ 0 := fun q => hz (found_zero q ha hb hk)
theorem found_all {n : Int} {t : List (List File)} {k : Nat} (hz : ∀ i a b, i < k → t[i]? = some a → t[i + 1]? = some b → diffFault a b n = 0) (hk : (nextsOf (t.take 6)).length ≤ k) : foundF n t = 0 := by
  unfold foundF
  rw [firstOf_zero]
  intro x hx
  obtain ⟨i, hi⟩ := List.mem_iff_getElem?.1 hx
  have hil := (List.getElem?_eq_some_iff.1 hi).1
  have hil2 := hil
  rw [nexts_len, List.length_take] at hil2
  obtain ⟨a, ha⟩ : ∃ a, t[i]? = some a := ⟨t[i]'(by omega), List.getElem?_eq_getElem (by omega)⟩
  obtain ⟨b, hb⟩ : ∃ b, t[i + 1]? = some b := ⟨t[i + 1]'(by omega), List.getElem?_eq_getElem (by omega)⟩
  have := (found_get (n := n) ha hb (by omega)).1
  rw [hi] at this
  injection this with this
  subst this
  exact hz i a b (by omega) ha hb
set_option maxHeartbeats 4000000 in
set_option maxRecDepth 100000 in
theorem top_found (t : List (List File)) (n : Int) (v : Value) (w : World) (h : Rdv w Never v t) (hn : I64 n) (mx : Int) (hm : w.cell? ⟨1, 0, none⟩ = some (.int .i64 mx)) :
    Calls Tryz.prog 32 #[v, .int .i64 n] w fun e w' => ∃ r, e = .returned (.tuple #[r, .bool (foundF n t == 0)]) ∧ Chg Never w w' ∧ Rdv w' Never r (foundR n t) := by
  obtain ⟨a, cap, rfl, h1, h2, h3⟩ := rdv_slice h
  unfold maxLen at h2
  go_enter Tryz.func32, Tryz.ntmps32
  go_wp2_with fail
  go_loopw [6, 7] (fun ov iv wr => ∃ j k : Nat, Hid (j = k + 1) ∧ k ≤ 5 ∧ k ≤ t.length ∧ iv = .int .i64 j ∧ OwnN 51 w wr ov ((foundL n t).take k) ∧ Hid (∀ i a b, i < k → t[i]? = some a → t[i + 1]? = some b → diffFault a b n = 0)) (fun _ iv _ => 6 - (intOf iv).toNat)
  case atStart => exact ⟨1, 0, rfl, by decide, Nat.zero_le _, rfl, ownN_nil _ (Chg.refl _ _), fun i a b q => absurd q (Nat.not_lt_zero i)⟩
  case round =>
    obtain ⟨j, k, hjk, hk5, hkt, rfl, hown, hz⟩ := hrel
    rename World => wr
    obtain ⟨va, vn, vc, rfl⟩ := own_isSlice hown.own
    by_cases hlt : j < t.length ∧ j < 6
    · have hj := hjk.out
      obtain ⟨x, hx⟩ : ∃ x, t[k]? = some x := ⟨t[k]'(by omega), List.getElem?_eq_getElem (by omega)⟩
      obtain ⟨y, hy⟩ : ∃ y, t[j]? = some y := ⟨t[j]'(by omega), List.getElem?_eq_getElem (by omega)⟩
      obtain ⟨b, off, xv, rfl, _, _, c0, hxv⟩ := elems_row h3 hx
      obtain ⟨b', off', yv, epp, _, _, d0, hyv⟩ := elems_row h3 hy
      injection epp with epp
      injection epp with epp1 epp2 _
      subst epp1; subst epp2
      have t1 : decide ((j : Int) < (t.length : Int)) = true := decide_eq_true (by omega)
      have t1n : decide (j < t.length) = true := decide_eq_true (by omega)
      have t2 : decide ((j : Int) < 6) = true := decide_eq_true (by omega)
      have t2n : decide (j < 6) = true := decide_eq_true (by omega)
      have p1 : (k : Int) < (t.length : Int) := by omega
      have p2 : (j : Int) < (t.length : Int) := by omega
      have sN : IntKind.i64.wrap ((j : Int) - 1) = (k : Int) := by rw [show (j : Int) - 1 = (k : Int) by omega]; exact IntWalk.i64_in _ (by omega)
      have hcr := hown.chg
      have c0 := hcr.cellNever c0
      have d0 := hcr.cellNever d0
      have HX := Lib.hid hx
      have HY : Hid (t[k + 1]? = some y) := by rw [Hid, ← hj]; exact hy
      have HST := Lib.hid (foundL_step (n := n) HX.out HY.out (by omega))
      have hLl : ((foundL n t).take k).length ≤ 1000000000 := by rw [List.length_take]; omega
      obtain ⟨xa, xc, rfl, _, _, _⟩ := rdv_slice hxv
      obtain ⟨ya, yc, rfl, _, _, _⟩ := rdv_slice hyv
      obtain ⟨L, hL⟩ : ∃ L, (foundL n t).take k = L := ⟨_, rfl⟩
      rw [hL] at hown HST hLl
      have hk6 : k + 1 ≤ 5 ∧ k + 1 ≤ t.length := by omega
      have hmeas : j < 6 := by omega
      clear hx hy h3 h hj hL hlt
      go_wp2_with fail
      refine wp_region_held_drew (S := fun w' => Chg Never w w' ∧ w'.cell? ⟨b, off + k, none⟩ = some (.slice xa x.length xc) ∧ w'.cell? ⟨b, off + j, none⟩ = some (.slice ya y.length yc)) (by kernel_rfl) ⟨hcr.drew, c0, d0⟩ (fun hH => ?_)
      refine' wpAnyH_take (i := 0) ?hi0 (by kernel_rfl) (by kernel_rfl) (by kernel_rfl) ?hQ0 (Or.inl ⟨?hw0, ?hy0⟩) (by assumption) ?_
      case hi0 => (simp only [List.getElem?_toArray, List.getElem?_cons_zero]; rfl)
      case hQ0 => exact fun _ _ _ h => h
      case hw0 => rfl
      case hy0 => (intro w' hSw; (try dsimp only at hSw); go_simp; all_goals with_reducible rfl)
      try simp only [Act.put, List.setIfInBounds_toArray, List.set_cons_zero, List.set_cons_succ]
      refine' wpAnyH_take (i := 1) ?hi1 (by kernel_rfl) (by kernel_rfl) (by kernel_rfl) ?hQ1 (Or.inl ⟨?hw1, ?hy1⟩) (by assumption) ?_
      case hi1 => (simp only [List.getElem?_toArray, List.getElem?_cons_succ, List.getElem?_cons_zero]; rfl)
      case hQ1 => exact fun _ _ _ h => h
      case hw1 => rfl
      case hy1 => (intro w' hSw; (try dsimp only at hSw); go_simp; all_goals with_reducible rfl)
      try simp only [Act.put, List.setIfInBounds_toArray, List.set_cons_zero, List.set_cons_succ]
      refine' wpAnyH_take (i := 2) ?hi2 (by kernel_rfl) (by kernel_rfl) (by kernel_rfl) ?hQ2 (Or.inl ⟨?hw2, ?hy2⟩) (by assumption) ?_
      case hi2 => (simp only [List.getElem?_toArray, List.getElem?_cons_succ, List.getElem?_cons_zero]; rfl)
      case hQ2 => exact fun _ _ _ h => h
      case hw2 => rfl
      case hy2 => (intro w' hSw; (try dsimp only at hSw); go_simp; all_goals with_reducible rfl)
      try simp only [Act.put, List.setIfInBounds_toArray, List.set_cons_zero, List.set_cons_succ]
      refine' wpAnyH_take (i := 3) ?hi3 (by kernel_rfl) (by kernel_rfl) (by kernel_rfl) ?hQ3 (Or.inl ⟨?hw3, ?hy3⟩) (by assumption) ?_
      case hi3 => (simp only [List.getElem?_toArray, List.getElem?_cons_succ, List.getElem?_cons_zero]; rfl)
      case hQ3 => exact fun _ _ _ h => h
      case hw3 => rfl
      case hy3 => (intro w' hSw; (try dsimp only at hSw); go_simp; all_goals with_reducible rfl)
      try simp only [Act.put, List.setIfInBounds_toArray, List.set_cons_zero, List.set_cons_succ]
      refine' wpAnyH_take (i := 4) ?hi4 (by kernel_rfl) (by kernel_rfl) (by kernel_rfl) ?hQ4 (Or.inl ⟨?hw4, ?hy4⟩) (by assumption) ?_
      case hi4 => (simp only [List.getElem?_toArray, List.getElem?_cons_succ, List.getElem?_cons_zero]; rfl)
      case hQ4 => exact fun _ _ _ h => h
      case hw4 => rfl
      case hy4 => (intro w' hSw; (try dsimp only at hSw); go_simp; all_goals with_reducible rfl)
      try simp only [Act.put, List.setIfInBounds_toArray, List.set_cons_zero, List.set_cons_succ]
      refine' wpAnyH_take (i := 5) ?hi5 (by kernel_rfl) (by kernel_rfl) (by kernel_rfl) ?hQ5 (Or.inl ⟨?hw5, ?hy5⟩) (by assumption) ?_
      case hi5 => (simp only [List.getElem?_toArray, List.getElem?_cons_succ, List.getElem?_cons_zero]; rfl)
      case hQ5 => exact fun _ _ _ h => h
      case hw5 => rfl
      case hy5 => (intro w' hSw; (try dsimp only at hSw); go_simp; all_goals with_reducible rfl)
      try simp only [Act.put, List.setIfInBounds_toArray, List.set_cons_zero, List.set_cons_succ]
      refine' wpAnyH_take (i := 6) ?hi6 (by kernel_rfl) (by kernel_rfl) (by kernel_rfl) ?hQ6 (Or.inl ⟨?hw6, ?hy6⟩) (by assumption) ?_
      case hi6 => (simp only [List.getElem?_toArray, List.getElem?_cons_succ, List.getElem?_cons_zero]; rfl)
      case hQ6 => exact fun _ _ _ h => h
      case hw6 => rfl
      case hy6 => (intro w' hSw; (try dsimp only at hSw); go_simp; all_goals with_reducible rfl)
      try simp only [Act.put, List.setIfInBounds_toArray, List.set_cons_zero, List.set_cons_succ]
      refine' wpAnyH_take (i := 7) ?hi7 (by kernel_rfl) (by kernel_rfl) (by kernel_rfl) ?hQ7 (Or.inl ⟨?hw7, ?hy7⟩) (by assumption) ?_
      case hi7 => (simp only [List.getElem?_toArray, List.getElem?_cons_succ, List.getElem?_cons_zero]; rfl)
      case hQ7 => exact fun _ _ _ h => h
      case hw7 => rfl
      case hy7 => (intro w' hSw; (try dsimp only at hSw); go_simp; all_goals with_reducible rfl)
      try simp only [Act.put, List.setIfInBounds_toArray, List.set_cons_zero, List.set_cons_succ]
      refine' wpAnyH_take (i := 8) ?hi8 (by kernel_rfl) (by kernel_rfl) (by kernel_rfl) ?hQ8 (Or.inl ⟨?hw8, ?hy8⟩) (by assumption) ?_
      case hi8 => (simp only [List.getElem?_toArray, List.getElem?_cons_succ, List.getElem?_cons_zero]; rfl)
      case hQ8 => exact fun _ _ _ h => h
      case hw8 => rfl
      case hy8 => (intro w' hSw; (try dsimp only at hSw); go_simp; all_goals with_reducible rfl)
      try simp only [Act.put, List.setIfInBounds_toArray, List.set_cons_zero, List.set_cons_succ]
      refine' wpAnyH_take (i := 9) ?hi9 (by kernel_rfl) (by kernel_rfl) (by kernel_rfl) ?hQ9 (Or.inl ⟨?hw9, ?hy9⟩) (by assumption) ?_
      case hi9 => (simp only [List.getElem?_toArray, List.getElem?_cons_succ, List.getElem?_cons_zero]; rfl)
      case hQ9 => exact fun _ _ _ h => h
      case hw9 => rfl
      case hy9 => (intro w' hSw; (try dsimp only at hSw); go_simp; all_goals with_reducible rfl)
      try simp only [Act.put, List.setIfInBounds_toArray, List.set_cons_zero, List.set_cons_succ]
      refine wpAnyH_ready (rs := [10]) (by kernel_rfl) (by simp) ?_
      refine AllReadyH.cons rfl (fun K hK => ?_) AllReadyH.nil
      go_simp
      (go_at_call 25; refine (diff_old x y n _ _ _ (hxv.never (And.left (by assumption))) (hyv.never (And.left (by assumption))) hn mx (Chg.cellNever (And.left (by assumption)) hm)).mono ?_; rintro e wq ⟨rq, rfl, hcq, hrq⟩; have hS2 := two_keep (by assumption) hcq)
      try go_wp2_with fail
      refine hK.out _ _ ?_ (fun hH => ?_)
      · assumption
      clear hK K
      try simp only [Act.put, List.setIfInBounds_toArray, List.set_cons_zero, List.set_cons_succ]
      by_cases hd : diffFault x y n = 0
      · have hrr := hown.fresh hrq
        rw [diffR_ok hd] at hrq hrr
        have HZ2 : Hid (∀ i a b, i < k + 1 → t[i]? = some a → t[i + 1]? = some b → diffFault a b n = 0) := fun i a b hi ha hb => by
          by_cases e : i = k
          · subst e
            rw [HX.out] at ha
            rw [HY.out] at hb
            injection ha with ha
            injection hb with hb
            subst ha; subst hb
            exact hd
          · exact hz.out i a b (by omega) ha hb
        rw [hd, errV_zero]
        obtain ⟨qa, qc, rfl, _, _, _⟩ := rdv_slice hrq
        refine' wpAnyH_take (i := 11) ?hi11 (by kernel_rfl) (by kernel_rfl) (by kernel_rfl) ?hQ11 (Or.inl ⟨?hw11, ?hy11⟩) (by assumption) ?_
        case hi11 => (simp only [List.getElem?_toArray, List.getElem?_cons_succ, List.getElem?_cons_zero]; rfl)
        case hQ11 => exact fun _ _ _ h => h
        case hw11 => rfl
        case hy11 => (intro w' hSw; (try dsimp only at hSw); go_simp; all_goals with_reducible rfl)
        try simp only [Act.put, List.setIfInBounds_toArray, List.set_cons_zero, List.set_cons_succ]
        refine' wpAnyH_take (i := 12) ?hi12 (by kernel_rfl) (by kernel_rfl) (by kernel_rfl) ?hQ12 (Or.inl ⟨?hw12, ?hy12⟩) (by assumption) ?_
        case hi12 => (simp only [List.getElem?_toArray, List.getElem?_cons_succ, List.getElem?_cons_zero]; rfl)
        case hQ12 => exact fun _ _ _ h => h
        case hw12 => rfl
        case hy12 => (intro w' hSw; (try dsimp only at hSw); go_simp; all_goals with_reducible rfl)
        try simp only [Act.put, List.setIfInBounds_toArray, List.set_cons_zero, List.set_cons_succ]
        refine' wpAnyH_take (i := 13) ?hi13 (by kernel_rfl) (by kernel_rfl) (by kernel_rfl) ?hQ13 (Or.inl ⟨?hw13, ?hy13⟩) (by assumption) ?_
        case hi13 => (simp only [List.getElem?_toArray, List.getElem?_cons_succ, List.getElem?_cons_zero]; rfl)
        case hQ13 => exact fun _ _ _ h => h
        case hw13 => rfl
        case hy13 => (intro w' hSw; (try dsimp only at hSw); go_simp; all_goals with_reducible rfl)
        try simp only [Act.put, List.setIfInBounds_toArray, List.set_cons_zero, List.set_cons_succ]
        refine' wpAnyH_take (i := 14) ?hi14 (by kernel_rfl) (by kernel_rfl) (by kernel_rfl) ?hQ14 (Or.inl ⟨?hw14, ?hy14⟩) (by assumption) ?_
        case hi14 => (simp only [List.getElem?_toArray, List.getElem?_cons_succ, List.getElem?_cons_zero]; rfl)
        case hQ14 => exact fun _ _ _ h => h
        case hw14 => rfl
        case hy14 => (intro w' hSw; (try dsimp only at hSw); go_simp; all_goals with_reducible rfl)
        try simp only [Act.put, List.setIfInBounds_toArray, List.set_cons_zero, List.set_cons_succ]
        refine' wpAnyH_take (i := 15) ?hi15 (by kernel_rfl) (by kernel_rfl) (by kernel_rfl) ?hQ15 (Or.inl ⟨?hw15, ?hy15⟩) (by assumption) ?_
        case hi15 => (simp only [List.getElem?_toArray, List.getElem?_cons_succ, List.getElem?_cons_zero]; rfl)
        case hQ15 => exact fun _ _ _ h => h
        case hw15 => rfl
        case hy15 => (intro w' hSw; (try dsimp only at hSw); go_simp; all_goals with_reducible rfl)
        try simp only [Act.put, List.setIfInBounds_toArray, List.set_cons_zero, List.set_cons_succ]
        refine wpAnyH_done (by kernel_rfl) ?_ _
        have hn5 := (hown.never (Chg.refl Never _).drew).never hcq
        have hy : Dat.rd wq (fun k => Never k ∨ (Value.slice va vn vc).ownBlock = some k) [.slice qa (diffL n x y).length qc] (diffL n x y) := hrr
        clear hrq hrr hcq c0 d0 hH hS2 hown hd hz
        go_wp2_with (at_builtin; refine wpList_push (by rfl) _ _ 22 (by rfl) elemOk_changes (O := Never) (l := L) (y := diffL n x y) (by rfl) (by rfl) (by rfl) hn5.own hy (fun _ h => h.elim) hLl ?_; intro v' w7 hown7 hc7 hk7; have hn7 := hn5.step1 hown7 hc7 hk7; clear hown7 hc7 hk7 hy; obtain ⟨oa, on, oc, rfl⟩ := own_isSlice hn7.own)
        clear hn5
        go_wp2_with fail
        go_roundw
        case rel => exact ⟨j + 1, k + 1, by have := hjk.out; unfold Hid; omega, hk6.1, hk6.2, by go_num, by rw [HST.out]; exact hn7, HZ2⟩
        case measure => simp [intOf] <;> omega
      · have HF : Hid ((foundF n t == 0) = false) := by rw [Hid, beq_eq_false_iff_ne]; exact found_no HX.out HY.out (by omega) hd
        have HR : Hid (foundR n t = []) := if_neg (by have := HF.out; simpa using this)
        rw [errV_pos hd]
        obtain ⟨qa, qc, rfl, _, _, _⟩ := rdv_slice hrq
        refine' wpAnyH_take (i := 11) ?hi11 (by kernel_rfl) (by kernel_rfl) (by kernel_rfl) ?hQ11 (Or.inl ⟨?hw11, ?hy11⟩) (by assumption) ?_
        case hi11 => (simp only [List.getElem?_toArray, List.getElem?_cons_succ, List.getElem?_cons_zero]; rfl)
        case hQ11 => exact fun _ _ _ h => h
        case hw11 => rfl
        case hy11 => (intro w' hSw; (try dsimp only at hSw); go_simp; all_goals with_reducible rfl)
        try simp only [Act.put, List.setIfInBounds_toArray, List.set_cons_zero, List.set_cons_succ]
        refine' wpAnyH_take (i := 12) ?hi12 (by kernel_rfl) (by kernel_rfl) (by kernel_rfl) ?hQ12 (Or.inl ⟨?hw12, ?hy12⟩) (by assumption) ?_
        case hi12 => (simp only [List.getElem?_toArray, List.getElem?_cons_succ, List.getElem?_cons_zero]; rfl)
        case hQ12 => exact fun _ _ _ h => h
        case hw12 => rfl
        case hy12 => (intro w' hSw; (try dsimp only at hSw); go_simp; all_goals with_reducible rfl)
        try simp only [Act.put, List.setIfInBounds_toArray, List.set_cons_zero, List.set_cons_succ]
        refine' wpAnyH_take (i := 13) ?hi13 (by kernel_rfl) (by kernel_rfl) (by kernel_rfl) ?hQ13 (Or.inl ⟨?hw13, ?hy13⟩) (by assumption) ?_
        case hi13 => (simp only [List.getElem?_toArray, List.getElem?_cons_succ, List.getElem?_cons_zero]; rfl)
        case hQ13 => exact fun _ _ _ h => h
        case hw13 => rfl
        case hy13 => (intro w' hSw; (try dsimp only at hSw); go_simp; all_goals with_reducible rfl)
        try simp only [Act.put, List.setIfInBounds_toArray, List.set_cons_zero, List.set_cons_succ]
        refine' wpAnyH_take (i := 14) ?hi14 (by kernel_rfl) (by kernel_rfl) (by kernel_rfl) ?hQ14 (Or.inl ⟨?hw14, ?hy14⟩) (by assumption) ?_
        case hi14 => (simp only [List.getElem?_toArray, List.getElem?_cons_succ, List.getElem?_cons_zero]; rfl)
        case hQ14 => exact fun _ _ _ h => h
        case hw14 => rfl
        case hy14 => (intro w' hSw; (try dsimp only at hSw); go_simp; all_goals with_reducible rfl)
        try simp only [Act.put, List.setIfInBounds_toArray, List.set_cons_zero, List.set_cons_succ]
        refine' wpAnyH_take (i := 15) ?hi15 (by kernel_rfl) (by kernel_rfl) (by kernel_rfl) ?hQ15 (Or.inl ⟨?hw15, ?hy15⟩) (by assumption) ?_
        case hi15 => (simp only [List.getElem?_toArray, List.getElem?_cons_succ, List.getElem?_cons_zero]; rfl)
        case hQ15 => exact fun _ _ _ h => h
        case hw15 => rfl
        case hy15 => (intro w' hSw; (try dsimp only at hSw); go_simp; all_goals with_reducible rfl)
        try simp only [Act.put, List.setIfInBounds_toArray, List.set_cons_zero, List.set_cons_succ]
        refine wpAnyH_done (by kernel_rfl) ?_ _
        have hcf := (hcr.drew).trans hcq
        clear hrq hcq c0 d0 hH hS2 hown hd hz
        go_wp2_with fail
        go_ret2
        exact ⟨_, by rw [HF.out]; rfl, hcf, by rw [HR.out]; exact rdv_nil _ _⟩
    · have hF0 : foundF n t = 0 := found_all hz.out (by have := hjk.out; rw [nexts_len, List.length_take]; omega)
      have HF : Hid ((foundF n t == 0) = true) := by rw [Hid, hF0]; rfl
      have HR : Hid (foundR n t = foundL n t) := if_pos hF0
      have hr : Rdv wr Never (.slice va vn vc) (foundL n t) := by
        have := hown.own.rdv
        rwa [List.take_of_length_le (by have := hjk.out; rw [found_len]; omega)] at this
      have hcf := hown.chg
      clear hown hz hF0 h3 h
      by_cases hl : j < t.length
      · have t1 : decide ((j : Int) < (t.length : Int)) = true := decide_eq_true (by omega)
        have t1n : decide (j < t.length) = true := decide_eq_true (by omega)
        have t2 : decide ((j : Int) < 6) = false := decide_eq_false (by omega)
        have t2n : decide (j < 6) = false := decide_eq_false (by omega)
        go_wp2_with fail
        go_ret2
        exact ⟨_, by rw [HF.out]; rfl, hcf, by rw [HR.out]; exact hr⟩
      · have t1 : decide ((j : Int) < (t.length : Int)) = false := decide_eq_false (by omega)
        have t1n : decide (j < t.length) = false := decide_eq_false (by omega)
        go_wp2_with fail
        go_ret2
        exact ⟨_, by rw [HF.out]; rfl, hcf, by rw [HR.out]; exact hr⟩
end Go.Proofs.YtjiaidchcldocaaGreatDoor
namespace Go.Proofs.YtjiaidchcldocaaGreatDoor
open Go.RowKit

/-- a patch that may be, printed and parsed -/
theorem print_parses {p : List Change} (h : Patch p) : gitR p = toB (textG p) ∧ (textG p).length ≤ 400000 ∧ parseG (toB (textG p)).data.toList = (p, 0) := by
  have hz : (patchFault p).2 = 0 := by rw [patch_ok h]
  refine ⟨if_pos hz, ?_, by rw [toB_data]; exact git_back hz⟩
  have := (changes_ok p h.2.1).2
  have := h.1
  omega
set_option maxHeartbeats 4000000 in
set_option maxRecDepth 100000 in
theorem law_topThree (a b c : List File) (n k : Int) (va vb vc : Value) (w : World) (ha : Rdv w Never va a) (hb : Rdv w Never vb b) (hc : Rdv w Never vc c) (hn : I64 n) (hk : I64 k) (m : Int) (hm : w.cell? ⟨1, 0, none⟩ = some (.int .i64 m)) (hg : Globs w m) :
    Calls Tryz.prog 6 #[va, vb, vc, .int .i64 n, .int .i64 k] w fun e w' => e = .returned (.bool true) ∧ Chg Never w w' := by
  go_enter Tryz.func6, Tryz.ntmps6
  go_wp2_with fail
  refine (top_one _ m hg).mono ?_
  rintro e w1 ⟨rfl, hw⟩
  go_wp2_with fail
  refine (diff_any a b n _ _ _ (ha.never hw) (hb.never hw) hn m (hw.cellNever hm)).mono ?_
  rintro e w2 ⟨rp, rfl, hc2, hrp⟩
  have hw := hw.trans hc2
  clear hc2
  go_wp2_with fail
  refine (diff_any b c n _ _ _ (hb.never hw) (hc.never hw) hn m (hw.cellNever hm)).mono ?_
  rintro e w3 ⟨rq, rfl, hc3, hrq⟩
  have hw := hw.trans hc3
  have hrp := hrp.never hc3
  clear hc3
  go_wp2_with fail
  refine (diff_any a c k _ _ _ (ha.never hw) (hc.never hw) hk m (hw.cellNever hm)).mono ?_
  rintro e w4 ⟨rr, rfl, hc4, hrr⟩
  have hw := hw.trans hc4
  have hrp := hrp.never hc4
  have hrq := hrq.never hc4
  clear hc4
  by_cases z1 : diffFault a b n = 0
  · by_cases z2 : diffFault b c n = 0
    · by_cases z3 : diffFault a c k = 0
      · obtain ⟨q1, q2, q3, q4⟩ := diffFault_zero z1
        obtain ⟨_, q6, _, _⟩ := diffFault_zero z2
        obtain ⟨_, _, q7, q8⟩ := diffFault_zero z3
        have TA := Lib.hid (tree_iff.2 q1)
        have TB := Lib.hid (tree_iff.2 q2)
        have TC := Lib.hid (tree_iff.2 q6)
        have M1 := diff_makes TA.out TB.out q3 q4
        have M2 := diff_makes TB.out TC.out q3 q4
        have M3 := diff_makes TA.out TC.out q7 q8
        have M4 := diff_makes TB.out TC.out q7 q8
        have PY := print_parses (diff_leads TB.out TC.out q7 q8).1
        have PZ : (patchFault (diffL k b c)).2 = 0 := by rw [patch_ok (diff_leads TB.out TC.out q7 q8).1]
        have e1 : (applyR a (diffL n a b)).2.2 = 0 := by rw [M1.1]
        have e2 : (applyR a (diffL n a b)).1 = b := by rw [M1.1]
        have e3 : (applyR (applyR a (diffL n a b)).1 (diffL n b c)).2.2 = 0 := by rw [e2, M2.1]
        have e4 : (applyR (applyR a (diffL n a b)).1 (diffL n b c)).1 = c := by rw [e2, M2.1]
        have e5 : (applyR a (diffL k a c)).2.2 = 0 := by rw [M3.1]
        have e6 : (applyR a (diffL k a c)).1 = c := by rw [M3.1]
        have zbc : diffFault b c k = 0 := diffFault_0 q2 q6 q7 q8
        have HJ : Hid (joinFt a (diffL n a b) (diffL n b c) k = 0 ∧ joinRt a (diffL n a b) (diffL n b c) k = diffL k a c) := by
          obtain ⟨j1, j2⟩ := @joinFt_ok a (diffL n a b) (diffL n b c) k e1 e3
          rw [Hid, j1, j2, e4, z3, diffR_ok z3]
          exact ⟨rfl, rfl⟩
        have HI : Hid (interF a (diffL n a b) (diffL k a c) k = 0 ∧ interR a (diffL n a b) (diffL k a c) k = diffL k b c) := by
          obtain ⟨j1, j2⟩ := @inter_ok a (diffL n a b) (diffL k a c) k e1 e5
          rw [Hid, j1, j2, e2, e6, zbc, diffR_ok zbc]
          exact ⟨rfl, rfl⟩
        have M4 := Lib.hid M4.1
        have PY := Lib.hid PY
        have PZ := Lib.hid PZ
        rw [diffR_ok z1] at hrp
        rw [diffR_ok z2] at hrq
        rw [diffR_ok z3] at hrr
        rw [z1, z2, z3, errV_zero]
        clear z1 z2 z3 q1 q2 q3 q4 q6 q7 q8 M1 M2 M3 e1 e2 e3 e4 e5 e6 zbc
        generalize diffL n a b = p at hrp HJ HI
        generalize diffL n b c = q at hrq HJ
        generalize diffL k a c = r at hrr HJ HI
        generalize diffL k b c = y at HI M4 PY PZ
        obtain ⟨pa, pc, rfl, _, _, _⟩ := rdv_slice hrp
        obtain ⟨qa, qc, rfl, _, _, _⟩ := rdv_slice hrq
        obtain ⟨ra, rc, rfl, _, _, _⟩ := rdv_slice hrr
        go_wp2_with fail
        refine (alg_join_any a p q k _ _ _ _ (ha.never hw) hrp hrq hk m (hw.cellNever hm)).mono ?_
        rintro e w5 ⟨rx, rfl, hc5, hrx⟩
        have hw := hw.trans hc5
        have hrp := hrp.never hc5
        have hrr := hrr.never hc5
        rw [HJ.out.1, errV_zero]
        rw [HJ.out.2] at hrx
        clear hc5 hrq
        obtain ⟨xa, xc, rfl, _, _, _⟩ := rdv_slice hrx
        go_wp2_with fail
        refine (alg_inter_any a p r k _ _ _ _ (ha.never hw) hrp hrr hk m (hw.cellNever hm)).mono ?_
        rintro e w6 ⟨ry, rfl, hc6, hry⟩
        have hw := hw.trans hc6
        have hrr := hrr.never hc6
        have hrx := hrx.never hc6
        rw [HI.out.1, errV_zero]
        rw [HI.out.2] at hry
        clear hc6 hrp
        obtain ⟨ya, yc, rfl, _, _, _⟩ := rdv_slice hry
        go_wp2_with fail
        refine (patches_any r r _ _ _ hrx hrr).mono ?_
        rintro e w7 ⟨rfl, hc7⟩
        have hw := hw.trans hc7
        have hry := hry.never hc7
        rw [decide_eq_true rfl]
        clear hc7 hrx hrr
        go_wp2_with fail
        refine (gitprint_any y _ _ hry m (hw.cellNever hm)).mono ?_
        rintro e w8 ⟨rfl, hc8⟩
        have hw := hw.trans hc8
        rw [PZ.out, errV_zero, PY.out.1]
        clear hc8 hry
        go_wp2_with fail
        refine (gitparse_any (toB (textG y)) _ (by rw [toB_size']; have := PY.out.2.1; omega) m (hg.never hw)).mono ?_
        rintro e w9 ⟨rz, rfl, hc9, hrz⟩
        have hw := hw.trans hc9
        rw [PY.out.2.2, errV_zero]
        rw [PY.out.2.2] at hrz
        clear hc9
        obtain ⟨za, zc, rfl, _, _, _⟩ := rdv_slice hrz
        go_wp2_with fail
        refine (apply_any b y _ _ _ (hb.never hw) hrz m (hw.cellNever hm)).mono ?_
        rintro e wA ⟨rt, rfl, hcA, hrt⟩
        have hw := hw.trans hcA
        rw [M4.out, errV_zero]
        rw [M4.out] at hrt
        clear hcA hrz
        obtain ⟨ta, tc, rfl, _, _, _⟩ := rdv_slice hrt
        go_wp2_with fail
        refine (trees_any c c _ _ _ hrt (hc.never hw)).mono ?_
        rintro e wB ⟨rfl, hcB⟩
        have hw := hw.trans hcB
        rw [decide_eq_true rfl]
        clear hcB hrt
        go_wp2_with fail
        go_ret
        exact ⟨rfl, hw⟩
      · rw [z1, z2, errV_zero, errV_pos z3]
        clear z1 z2 z3 hrp hrq hrr
        go_wp2_with fail
        go_ret
        exact ⟨rfl, hw⟩
    · rw [z1, errV_zero, errV_pos z2]
      clear z1 z2 hrp hrq hrr
      go_wp2_with fail
      go_ret
      exact ⟨rfl, hw⟩
  · rw [errV_pos z1]
    clear z1 hrp hrq hrr
    go_wp2_with fail
    go_ret
    exact ⟨rfl, hw⟩
end Go.Proofs.YtjiaidchcldocaaGreatDoor
namespace Go.Proofs.YtjiaidchcldocaaGreatDoor
open Go.RowKit

theorem last_get {t : List (List File)} (h0 : 0 < t.length) {n : Int} : t[(foundL n t).length]? = some (lastOf t) := by
  unfold lastOf
  rw [found_len]
  by_cases h : 5 < t.length - 1
  · rw [if_pos h, show min t.length 6 - 1 = 5 by omega, List.getD_eq_getElem?_getD, List.getElem?_eq_getElem (by omega)]; rfl
  · rw [if_neg h, show min t.length 6 - 1 = t.length - 1 by omega, List.getD_eq_getElem?_getD, List.getElem?_eq_getElem (by omega)]; rfl
/-- each patch that was found leads from the one tree to the next, and turned back -/
theorem found_leads {n : Int} {t : List (List File)} (h : foundF n t = 0) {k : Nat} {a b : List File} (ha : t[k]? = some a) (hb : t[k + 1]? = some b) (hk : k + 1 < 6) :
    (foundL n t)[k]? = some (diffL n a b) ∧ Tree a ∧ Tree b ∧ 0 ≤ n ∧ n ≤ 1000 ∧ Patch (diffL n a b) ∧ applyR a (diffL n a b) = (b, 0, 0) ∧ applyR b (turnP (diffL n a b)) = (a, 0, 0) := by
  obtain ⟨q1, q2, q3, q4⟩ := diffFault_zero (found_zero h ha hb hk)
  have TA := tree_iff.2 q1
  have TB := tree_iff.2 q2
  have M := diff_makes TA TB q3 q4
  exact ⟨(found_get ha hb hk).2, TA, TB, q3, q4, (diff_leads TA TB q3 q4).1, M.1, M.2⟩
set_option maxHeartbeats 4000000 in
set_option maxRecDepth 100000 in
theorem law_topUndone (t : List (List File)) (n : Int) (vt : Value) (w : World) (ht : Rdv w Never vt t) (hn : I64 n) (m : Int) (hm : w.cell? ⟨1, 0, none⟩ = some (.int .i64 m)) (hg : Globs w m) :
    Calls Tryz.prog 7 #[vt, .int .i64 n] w fun e w' => e = .returned (.bool true) ∧ Chg Never w w' := by
  obtain ⟨a, cap, rfl, h1, h2, h3⟩ := rdv_slice ht
  unfold maxLen at h2
  go_enter Tryz.func7, Tryz.ntmps7
  go_wp2_with fail
  refine (top_one _ m hg).mono ?_
  rintro e w1 ⟨rfl, hw⟩
  go_wp2_with fail
  refine (top_found t n _ _ (ht.never hw) hn m (hw.cellNever hm)).mono ?_
  rintro e w2 ⟨rp, rfl, hc2, hrp⟩
  have hw := hw.trans hc2
  clear hc2
  by_cases hz : foundF n t = 0
  · rw [show (foundF n t == 0) = true by rw [hz]; rfl]
    rw [show foundR n t = foundL n t from if_pos hz] at hrp
    by_cases h0 : t.length = 0
    · have t0 : ((t.length : Int) == 0) = true := by rw [h0]; rfl
      have t1 : ((t.length : Int) != 0) = false := by rw [h0]; rfl
      clear h0 hz h3 ht hrp
      go_wp2_with fail
      go_ret
      exact ⟨rfl, hw⟩
    · have t0 : ((t.length : Int) == 0) = false := by rw [beq_eq_false_iff_ne]; omega
      have t1 : ((t.length : Int) != 0) = true := by rw [bne, t0]; rfl
      have hpos : (0 : Int) < (t.length : Int) := by omega
      have HL := Lib.hid (@last_get t (by omega) n)
      have hpl := found_len n t
      have HLE := Lib.hid (fun (k : Nat) (a b : List File) (ha : t[k]? = some a) (hb : t[k + 1]? = some b) (hk : k + 1 < 6) => found_leads hz ha hb hk)
      have hp5 : (foundL n t).length ≤ 5 ∧ (foundL n t).length + 1 ≤ t.length := by omega
      generalize foundL n t = p at hrp HL hpl HLE hp5
      obtain ⟨pa, pc, rfl, p1, p2, p3⟩ := rdv_slice hrp
      unfold maxLen at p2
      have ht2 := ht.never hw
      clear hz hpl
      go_wp2_with fail
      refine (top_last t _ _ ht2 (by omega)).mono ?_
      rintro e w3 ⟨rx, rfl, rfl, hrx⟩
      rename World => w2
      generalize lastOf t = z at hrx HL
      obtain ⟨za, zc, rfl, _, _, _⟩ := rdv_slice hrx
      go_wp2_with fail
      refine (tree_check_any z _ _ hrx m (hw.cellNever hm)).mono ?_
      rintro e w4 ⟨rfl, hc4⟩
      have hw4 := hw.trans hc4
      have hrx := hrx.never hc4
      generalize (treeFault z).1 = ti
      by_cases y : (treeFault z).2 = 0
      · rw [y, errV_zero]
        have sN : IntKind.i64.wrap ((p.length : Int) - 1) = (p.length : Int) - 1 := IntWalk.i64_in _ (by omega)
        clear y
        go_wp2_with fail
        clear sN
        go_loopw [8, 11] (fun xv iv wr => ∃ (k : Nat) (x : List File), k ≤ p.length ∧ iv = .int .i64 ((k : Int) - 1) ∧ Chg Never w4 wr ∧ Rdv wr Never xv x ∧ Hid (t[k]? = some x)) (fun _ iv _ => (intOf iv + 1).toNat)
        case atStart => exact ⟨p.length, z, Nat.le_refl _, rfl, Chg.refl _ _, hrx, HL.out⟩
        case round =>
          clear hrx HL
          obtain ⟨k, x, hk, rfl, hc, hx, hat⟩ := hrel
          rename World => wr
          obtain ⟨xa, xc, rfl, _, _, _⟩ := rdv_slice hx
          cases k with
          | zero =>
            obtain ⟨b, off, fv, rfl, _, _, d0, hfv⟩ := elems_row h3 hat.out
            have d0 := (hw4.trans hc).cellNever d0
            obtain ⟨fa, fc, rfl, _, _, _⟩ := rdv_slice hfv
            have hfr := hfv.never (hw4.trans hc)
            simp only [Nat.add_zero] at d0
            clear hat h3 p3 hfv
            go_wp2_with fail
            refine (trees_any x x _ _ _ hx hfr).mono ?_
            rintro e w7 ⟨rfl, hc7⟩
            rw [decide_eq_true rfl]
            go_wp2_with fail
            go_ret
            exact ⟨rfl, (hw4.trans hc).trans hc7⟩
          | succ j =>
            have eJ : ((j + 1 : Nat) : Int) - 1 = (j : Int) := by omega
            rw [eJ]
            clear eJ
            obtain ⟨y, hy⟩ : ∃ y, t[j]? = some y := ⟨t[j]'(by omega), List.getElem?_eq_getElem (by omega)⟩
            obtain ⟨f1, _, _, _, _, f2, _, f3⟩ := HLE.out j y x hy hat.out (by omega)
            have HP : Hid ((patchFault (diffL n y x)).2 = 0) := by rw [Hid, patch_ok f2]
            have HT := Lib.hid (turnPR_ok HP.out)
            have HA := Lib.hid f3
            have HY := Lib.hid hy
            obtain ⟨b, off, dv, rfl, _, _, d0, hdv⟩ := elems_row p3 f1
            generalize diffL n y x = d at hdv HP HT HA
            obtain ⟨da, dc, rfl, _, _, _⟩ := rdv_slice hdv
            have d0 := (hc4.trans hc).cellNever d0
            have hdv := (hdv.never hc4).never hc
            have g1 : decide ((0 : Int) ≤ (j : Int)) = true := decide_eq_true (by omega)
            have jlt : (j : Int) < (p.length : Int) := by omega
            have sN : IntKind.i64.wrap ((j : Int) - 1) = (j : Int) - 1 := IntWalk.i64_in _ (by omega)
            clear hat f1 f2 f3 hy h3 p3
            go_wp2_with fail
            refine (patch_turn_any d _ _ hdv m ((hw4.trans hc).cellNever hm)).mono ?_
            rintro e w5 ⟨r5, rfl, hc5, hr5⟩
            have hc := hc.trans hc5
            have hx := hx.never hc5
            rw [HP.out, errV_zero]
            rw [HT.out] at hr5
            clear hc5 hdv d0
            obtain ⟨ra, rc, rfl, _, _, _⟩ := rdv_slice hr5
            go_wp2_with fail
            refine (apply_any x (turnP d) _ _ _ hx hr5 m ((hw4.trans hc).cellNever hm)).mono ?_
            rintro e w6 ⟨r6, rfl, hc6, hr6⟩
            have hc := hc.trans hc6
            rw [HA.out, errV_zero]
            rw [HA.out] at hr6
            clear hc6 hx hr5
            go_wp2_with fail
            go_roundw
            case rel => exact ⟨j, y, by omega, by go_num, hc, hr6, HY.out⟩
            case measure => simp [intOf] <;> omega
      · rw [errV_pos y]
        clear y hrx HL
        go_wp2_with fail
        go_ret
        exact ⟨rfl, hw4⟩
  · rw [show (foundF n t == 0) = false by rw [beq_eq_false_iff_ne]; exact hz]
    obtain ⟨pa, pc, rfl, _, _, _⟩ := rdv_slice hrp
    clear hz hrp
    go_wp2_with fail
    go_ret
    exact ⟨rfl, hw⟩
end Go.Proofs.YtjiaidchcldocaaGreatDoor
