/-
  PARTS: THE WALKS of errors.Join of no error, and of patch.Turn.; THE WALK of handstitchsame.Trees.; THE LAW PatchBack, walked.
-/
import Derived.Test.YteocmmejfnmjcaaGreatDoorPackAi6
import Derived.Test.YteocmmejfnmjcaaGreatDoorPackAi4
import Derived.Test.YteocmmejfnmjcaaGreatDoorPackAi8
import Derived.Test.YteocmmejfnmjcaaGreatDoorPackAi5
import Derived.StillTailTactics
import Derived.Test.YteocmmejfnmjcaaGreatDoorPackAi11
namespace Go.Proofs.YteocmmejfnmjcaaGreatDoor
open Go.RowKit

/-- an error that is none, as a cell -/
instance : Dat Unit where
  n := 1
  rd _ _ cs _ := cs = [.nilIface]
  bulk _ := 1
  pos := by decide
  len := by rintro _ _ _ _ rfl; rfl
  one := by rintro _ _ _ _ rfl u hu; simp at hu; subst hu; rfl
  keep := by intro _ _ _ _ _ _ _ h _ _ _; exact h
theorem elemOk_err : ElemOk Tryz.prog 66 28 1 := elemOk_of Tryz.underlying66 (z := .nilIface) (b := 16) (by kernel_rfl) rfl (by decide)
theorem elems_none {w : World} {O : Nat → Prop} {a : Option Addr} {l : List Unit} (h : Elems w O a l) {i : Nat} {x : Unit} (hx : l[i]? = some x) : ∃ b off, a = some ⟨b, off, none⟩ ∧ w.cell? ⟨b, off + i, none⟩ = some .nilIface := by
  obtain ⟨b, off, es, ha, hb, hcs, rfl⟩ := h i x hx
  refine ⟨b, off, ha, ?_⟩
  have := hcs 0 .nilIface rfl
  simpa [Dat.n] using this
set_option maxHeartbeats 1000000 in
set_option maxRecDepth 100000 in
theorem join_none (l : List Unit) (v : Value) (w : World) (h : Rdv w Never v l) :
    Calls Tryz.prog 29 #[v] w fun e w' => e = .returned .nilIface ∧ Chg Never w w' := by
  obtain ⟨a, cap, rfl, h1, h2, h3⟩ := rdv_slice h
  unfold maxLen at h2
  go_enter Tryz.func29, Tryz.ntmps29
  go_wp2_with fail
  go_loopw [3, 11] (fun n i wr => ∃ k : Nat, k ≤ l.length ∧ i = .int .i64 k ∧ n = .int .i64 0 ∧ Chg Never w wr) (fun _ i _ => l.length - (intOf i).toNat)
  case atStart => exact ⟨0, Nat.zero_le _, rfl, rfl, Chg.refl _ _⟩
  case round =>
    obtain ⟨k, hk, rfl, rfl, hc⟩ := hrel
    by_cases hlt : k < l.length
    · obtain ⟨x, hx⟩ : ∃ x, l[k]? = some x := ⟨l[k], by simp [hlt]⟩
      obtain ⟨b, off, rfl, c0⟩ := elems_none h3 hx
      have c0 := hc.cellNever c0
      clear hx h3 h
      go_wp2_with fail
      go_roundw
      case rel => exact ⟨k + 1, by omega, by go_num, rfl, hc⟩
      case measure => simp [intOf] <;> omega
    · go_wp2_with fail
      go_ret
      exact ⟨rfl, hc⟩
/-! ### patch.Turn -/
def turnPR (p : List Change) : List Change := if (patchFault p).2 = 0 then turnP p else []
theorem turnP_take {p : List Change} {k : Nat} {c : Change} (h : p[k]? = some c) : turnP (p.take (k + 1)) = turnP (p.take k) ++ [turnC c] := by
  rw [List.take_add_one, h]; simp [turnP]
/-- both rows at the head of a round -/
structure TurnSt (w wr : World) (vO vF : Value) (L : List Change) (n : Nat) : Prop where
  out : Own 36 wr (fun j => vF.ownBlock = some j) vO L
  flt : Own 28 wr (fun j => vO.ownBlock = some j) vF (List.replicate n ())
  newO : ∀ k, vO.ownBlock = some k → w.heap.size ≤ k
  newF : ∀ k, vF.ownBlock = some k → w.heap.size ≤ k
  chg : Chg Never w wr
theorem turn_out {w2 w5 W8 : World} {B : Nat} {vO vF vF5 : Value} {L : List Change} (h : Own 36 w2 (fun j => vF.ownBlock = some j ∨ j = B) vO L) (hc5 : Chg (OwnB vF) w2 w5) (hk5 : ∃ k, vF5.ownBlock = some k ∧ (vF.ownBlock = some k ∨ w2.heap.size ≤ k)) (hcW : Chg (fun j => j = B) w5 W8) :
    Own 36 W8 (fun j => vF5.ownBlock = some j ∨ j = B) vO L := by
  obtain ⟨q, hq, hq2⟩ := hk5
  refine (h.keep (O'' := fun j => vF5.ownBlock = some j ∨ j = B) hc5 (fun _ _ h => .inl h) (fun j hj h => h.imp_left (fun h => ?_))).keep hcW (fun _ _ h => .inr h) (fun _ _ h => h)
  rw [hq] at h
  injection h with h
  subst h
  exact hq2.resolve_right (by omega)
theorem turn_rd {w2 w5 W8 : World} {B sA : Nat} {vO vF vF5 v : Value} {l : List Hunk} (h : Rdv w2 (Old sA) v l) (hs : sA ≤ w2.heap.size) (hO : ∀ k, vO.ownBlock = some k → k < sA) (hF : ∀ k, vF.ownBlock = some k → k < sA) (hB : B < sA) (hc5 : Chg (OwnB vF) w2 w5) (hk5 : ∃ k, vF5.ownBlock = some k ∧ (vF.ownBlock = some k ∨ w2.heap.size ≤ k)) (hcW : Chg (fun j => j = B) w5 W8) :
    Rdv W8 (fun j => (vF5.ownBlock = some j ∨ j = B) ∨ vO.ownBlock = some j) v l := by
  obtain ⟨q, hq, hq2⟩ := hk5
  have h5 := h.keep (O'' := fun j => Old sA j ∨ w2.heap.size ≤ j) hc5 (fun k _ hk => hF k hk) (fun k hk hh => hh.resolve_right (by omega))
  refine h5.keep hcW (fun k _ hk => .inl (by unfold Old; omega)) (fun k _ hk => ?_)
  rcases hk with (hk | rfl) | hk
  · rw [hq] at hk
    injection hk with hk
    subst hk
    exact hq2.imp_left (fun e => hF _ e)
  · exact .inl hB
  · exact .inl (hO k hk)
theorem turn_lt {w2 w5 W8 : World} {B sA : Nat} {vF vF5 : Value} {n : Nat} {O : Nat → Prop} (h : Own 28 w5 O vF5 (List.replicate n ())) (hs : sA ≤ w2.heap.size) (hB : B < sA) (hc5 : Chg (OwnB vF) w2 w5) (hcW : Chg (fun j => j = B) w5 W8) : ∀ j, (vF5.ownBlock = some j ∨ j = B) → j < W8.heap.size := by
  intro j hj
  have h1 := hc5.size
  have h2 := hcW.size
  rcases hj with hj | rfl
  · have := own_block_lt h j hj; omega
  · omega
theorem turn_step {w wr w2 w5 W8 w9 : World} {B k : Nat} {vO vF vF5 vO9 : Value} {L M : List Change} (hst : TurnSt w wr vO vF L k) (hA2 : Chg Never wr w2) (hB : B = wr.heap.size) (HF5 : Own 28 w5 (fun j => vO.ownBlock = some j ∨ j = B) vF5 (List.replicate k () ++ [()])) (hc5 : Chg (OwnB vF) w2 w5) (hk5 : ∃ k, vF5.ownBlock = some k ∧ (vF.ownBlock = some k ∨ w2.heap.size ≤ k))
    (hcW : Chg (fun j => j = B) w5 W8) (HO9 : Own 36 w9 (fun j => vF5.ownBlock = some j ∨ j = B) vO9 M) (hc9 : Chg (OwnB vO) W8 w9) (hk9 : ∃ k, vO9.ownBlock = some k ∧ (vO.ownBlock = some k ∨ W8.heap.size ≤ k)) : TurnSt w w9 vO9 vF5 M (k + 1) := by
  obtain ⟨q, hq, hq2⟩ := hk5
  obtain ⟨o, ho, ho2⟩ := hk9
  have s1 := hst.chg.size
  have s2 := hA2.size
  have s5 := hc5.size
  have s8 := hcW.size
  have hltF := own_block_lt hst.flt
  have hltO := own_block_lt hst.out
  refine ⟨HO9.keep (Chg.refl Never w9) (fun _ _ h => h.elim) (fun _ _ h => .inl h), ?_, ?_, ?_, ?_⟩
  · rw [List.replicate_succ']
    refine (HF5.keep (O'' := fun j => vO.ownBlock = some j ∨ j = B) hcW (fun _ _ h => .inr h) (fun _ _ h => h)).keep hc9 (fun _ _ h => .inl h) (fun j hj h => .inl ?_)
    rw [ho] at h
    injection h with h
    subst h
    exact ho2.resolve_right (by omega)
  · intro j hj
    rw [ho] at hj
    injection hj with hj
    subst hj
    exact ho2.elim (fun h => hst.newO _ h) (fun h => by omega)
  · intro j hj
    rw [hq] at hj
    injection hj with hj
    subst hj
    exact hq2.elim (fun h => hst.newF _ h) (fun h => by omega)
  · exact (((hst.chg.trans hA2).trans' hc5 (fun i hi h => absurd (hst.newF i h) (by omega))).trans' hcW (fun i hi h => by omega)).trans' hc9 (fun i hi h => absurd (hst.newO i h) (by omega))
set_option maxHeartbeats 4000000 in
set_option maxRecDepth 100000 in
theorem patch_turn_any (p : List Change) (vp : Value) (w : World) (hp : Rdv w Never vp p) (m : Int) (hm : w.cell? ⟨1, 0, none⟩ = some (.int .i64 m)) :
    Calls Tryz.prog 8 #[vp] w fun e w' => ∃ r, e = .returned (.tuple #[r, errV (patchFault p).2]) ∧ Chg Never w w' ∧ Rdv w' Never r (turnPR p) := by
  obtain ⟨pa, pcap, rfl, p1, p2, p3⟩ := rdv_slice hp
  unfold maxLen at p2
  by_cases y : (patchFault p).2 = 0
  · have Y := Lib.hid y
    have HE : Hid (turnPR p = turnP p) := if_pos y
    have pl := (patch_of y).1
    have PV : Hid (∀ c ∈ p, (hunksFault c.hunks).2 = 0) := fun c hc => by rw [(changeFault_zero ((patch_of y).2.1 c hc)).2.2.2.1]
    clear y
    go_enter Tryz.func8, Tryz.ntmps8
    go_wp2_with fail
    refine (patch_check_any p _ _ hp m hm).mono ?_
    rintro e w1 ⟨rfl, hw⟩
    rw [Y.out, errV_zero]
    go_wp2_with fail
    go_loopw [6, 7, 22] (fun o f i wr => ∃ k : Nat, k ≤ p.length ∧ i = .int .i64 k ∧ TurnSt w wr o f (turnP (p.take k)) k) (fun _ _ i _ => p.length - (intOf i).toNat)
    case atStart => exact ⟨0, Nat.zero_le _, rfl, own_nil _ _ _, own_nil _ _ _, fun k hk => by simp [Value.ownBlock] at hk, fun k hk => by simp [Value.ownBlock] at hk, hw⟩
    case round =>
      clear hw
      rename World => wr
      rename_i vO vF _ 
      obtain ⟨k, hk, rfl, hst⟩ := hrel
      obtain ⟨oa, on, oc, rfl⟩ := own_isSlice hst.out
      obtain ⟨fa, fn, fc, rfl⟩ := own_isSlice hst.flt
      by_cases hlt : k < p.length
      · obtain ⟨c, hx⟩ : ∃ c, p[k]? = some c := ⟨p[k], by simp [hlt]⟩
        obtain ⟨wh, pt, hs⟩ := c
        obtain ⟨pb, po, hv, rfl, _, _, c0, c1, c2, hpc, hhv⟩ := elems_change p3 hx
        simp only at c0 c1 c2 hpc hhv
        obtain ⟨ha, hcap, rfl, _, _, _⟩ := rdv_slice hhv
        have c0 := hst.chg.cellNever c0
        have c1 := hst.chg.cellNever c1
        have c2 := hst.chg.cellNever c2
        have hhv := hhv.never hst.chg
        have HT := Lib.hid (turnP_take hx)
        have HZ : Hid ((hunksFault hs).2 = 0) := PV.out _ (List.mem_of_getElem? hx)
        have HTR : Hid (turnR hs = turnHunks hs) := if_pos HZ.out
        have hB0 := Blk3.new wr 36 (.int .i64 wh) (.string pt) (.slice ha hs.length hcap)
        have hA : Chg Never wr (wr.alloc (.cells #[.int .i64 wh, .string pt, .slice ha hs.length hcap] 36)) := (Chg.refl Never wr).alloc _
        have hltO := own_block_lt hst.out
        have hltF := own_block_lt hst.flt
        have hLl : (turnP (p.take k)).length ≤ 1000000000 := by unfold turnP; rw [List.length_map, List.length_take]; omega
        have hFl : (List.replicate k ()).length ≤ 1000000000 := by rw [List.length_replicate]; omega
        by_cases k2 : wh = 2
        · subst k2
          clear hx p3 hp
          obtain ⟨d0, d1, d2⟩ := hB0.cell
          go_wp2_with fail
          have hBs : (wr.alloc (.cells #[.int .i64 2, .string pt, .slice ha hs.length hcap] 36)).heap.size = wr.heap.size + 1 := World.size_alloc _ _
          generalize wr.alloc (.cells #[.int .i64 2, .string pt, .slice ha hs.length hcap] 36) = wA at hB0 hA hBs d0 d1 d2 ⊢
          clear c0 c1 c2
          refine (turn_any hs _ _ (hhv.never hA)).mono ?_
          rintro e w2 ⟨r2, rfl, hc2, hr2⟩
          rw [HZ.out, errV_zero]
          rw [HTR.out] at hr2
          obtain ⟨ra, rc, rfl, _, _, _⟩ := rdv_slice hr2
          have hA2 := hA.trans hc2
          have hB2 := hB0.keep hc2 (fun h => h)
          have hs2 := hc2.size
          have HO2 : Own 36 w2 (fun j => (Value.slice fa fn fc).ownBlock = some j ∨ j = wr.heap.size) (.slice oa on oc) (turnP (p.take k)) := hst.out.keep hA2 (fun _ _ h => h.elim) (fun j hj h => h.elim (fun h => h) (fun h => by omega))
          have HF2 : Own 28 w2 (fun j => (Value.slice oa on oc).ownBlock = some j ∨ j = wr.heap.size) (.slice fa fn fc) (List.replicate k ()) := hst.flt.keep hA2 (fun _ _ h => h.elim) (fun j hj h => h.elim (fun h => h) (fun h => by omega))
          have hOF : ∀ j, ((Value.slice oa on oc).ownBlock = some j ∨ j = wr.heap.size) → j < w2.heap.size := fun j h => h.elim (fun h => by have := hltO j h; omega) (fun h => by omega)
          clear d0 d1 d2 hB0
          obtain ⟨d0, d1, d2⟩ := hB2.cell
          have hyf : Dat.rd w2 (fun j => ((Value.slice oa on oc).ownBlock = some j ∨ j = wr.heap.size) ∨ (Value.slice fa fn fc).ownBlock = some j) [Value.nilIface] () := rfl
          have hcw := hst.chg.trans hA2
          have hO8 : ∀ j, (Value.slice oa on oc).ownBlock = some j → j < wA.heap.size := fun j h => by have := hltO j h; omega
          have hF8 : ∀ j, (Value.slice fa fn fc).ownBlock = some j → j < wA.heap.size := fun j h => by have := hltF j h; omega
          have hBA : wr.heap.size < wA.heap.size := by omega
          generalize hBg : wr.heap.size = B at *
          go_wp2_with (first
            | (at_builtin; refine wpList_push (by rfl) _ _ 66 (by rfl) elemOk_err (O := fun j => (Value.slice oa on oc).ownBlock = some j ∨ j = B) (l := List.replicate k ()) (y := ()) (by rfl) (by rfl) (by rfl) HF2 hyf hOF hFl ?_; intro vF5 w5 HF5 hc5 hk5; have hB5 := hB2.keep hc5 (fun h => absurd (hltF _ h) (Nat.lt_irrefl _)); clear d0 d1 d2; obtain ⟨d0, d1, d2⟩ := hB5.cell; have df := hB5.free; have df0 := df 0; have df2 := df 2; obtain ⟨ga, gn, gc, rfl⟩ := own_isSlice HF5; have hcW : Chg (fun j => j = B) w5 ((w5.setCell ⟨B, 0, none⟩ (.int .i64 3)).setCell ⟨B, 2, none⟩ (.slice ra (turnHunks hs).length rc)) := ((Chg.refl (fun j => j = B) w5).setCell (p := ⟨B, 0, none⟩) (.inr rfl) _).setCell (p := ⟨B, 2, none⟩) (.inr rfl) _; have hF5l : List.replicate k () ++ [()] = List.replicate (k + 1) () := List.replicate_succ'.symm; have hO9 := turn_lt (hF5l ▸ HF5) hs2 hBA hc5 hcW; have HO8 := turn_out HO2 hc5 hk5 hcW; have hyc : Dat.rd ((w5.setCell ⟨B, 0, none⟩ (.int .i64 3)).setCell ⟨B, 2, none⟩ (.slice ra (turnHunks hs).length rc)) (fun j => ((Value.slice ga gn gc).ownBlock = some j ∨ j = B) ∨ (Value.slice oa on oc).ownBlock = some j) [.int .i64 3, .string pt, .slice ra (turnHunks hs).length rc] (⟨3, pt, turnHunks hs⟩ : Change) := ⟨_, rfl, hpc, turn_rd hr2 hs2 hO8 hF8 hBA hc5 hk5 hcW⟩; clear HO2 HF2 hyf hOF hF5l)
            | (at_builtin; refine wpList_push (by rfl) _ _ 23 (by rfl) elemOk_change (O := fun j => (Value.slice ga gn gc).ownBlock = some j ∨ j = B) (l := turnP (p.take k)) (y := (⟨3, pt, turnHunks hs⟩ : Change)) (by rfl) (by rfl) (by simp) HO8 hyc hO9 hLl ?_; intro vO9 w9 HO9 hc9 hk9))
          subst hBg
          have hfin := turn_step hst hA2 rfl HF5 hc5 hk5 hcW HO9 hc9 hk9
          obtain ⟨oa9, on9, oc9, rfl⟩ := own_isSlice HO9
          clear hc5 hk5 hcW HO9 hc9 hk9 HF5 HO8 hyc hO9 d0 d1 d2 df df0 df2 hB5 hB2
          go_roundw
          case rel => exact ⟨k + 1, by omega, by go_num, by rw [HT.out]; exact hfin⟩
          case measure => simp [intOf] <;> omega
        · by_cases k3 : wh = 3
          · subst k3
            clear k2
            clear hx p3 hp
            obtain ⟨d0, d1, d2⟩ := hB0.cell
            go_wp2_with fail
            have hBs : (wr.alloc (.cells #[.int .i64 3, .string pt, .slice ha hs.length hcap] 36)).heap.size = wr.heap.size + 1 := World.size_alloc _ _
            generalize wr.alloc (.cells #[.int .i64 3, .string pt, .slice ha hs.length hcap] 36) = wA at hB0 hA hBs d0 d1 d2 ⊢
            clear c0 c1 c2
            refine (turn_any hs _ _ (hhv.never hA)).mono ?_
            rintro e w2 ⟨r2, rfl, hc2, hr2⟩
            rw [HZ.out, errV_zero]
            rw [HTR.out] at hr2
            obtain ⟨ra, rc, rfl, _, _, _⟩ := rdv_slice hr2
            have hA2 := hA.trans hc2
            have hB2 := hB0.keep hc2 (fun h => h)
            have hs2 := hc2.size
            have HO2 : Own 36 w2 (fun j => (Value.slice fa fn fc).ownBlock = some j ∨ j = wr.heap.size) (.slice oa on oc) (turnP (p.take k)) := hst.out.keep hA2 (fun _ _ h => h.elim) (fun j hj h => h.elim (fun h => h) (fun h => by omega))
            have HF2 : Own 28 w2 (fun j => (Value.slice oa on oc).ownBlock = some j ∨ j = wr.heap.size) (.slice fa fn fc) (List.replicate k ()) := hst.flt.keep hA2 (fun _ _ h => h.elim) (fun j hj h => h.elim (fun h => h) (fun h => by omega))
            have hOF : ∀ j, ((Value.slice oa on oc).ownBlock = some j ∨ j = wr.heap.size) → j < w2.heap.size := fun j h => h.elim (fun h => by have := hltO j h; omega) (fun h => by omega)
            clear d0 d1 d2 hB0
            obtain ⟨d0, d1, d2⟩ := hB2.cell
            have hyf : Dat.rd w2 (fun j => ((Value.slice oa on oc).ownBlock = some j ∨ j = wr.heap.size) ∨ (Value.slice fa fn fc).ownBlock = some j) [Value.nilIface] () := rfl
            have hcw := hst.chg.trans hA2
            have hO8 : ∀ j, (Value.slice oa on oc).ownBlock = some j → j < wA.heap.size := fun j h => by have := hltO j h; omega
            have hF8 : ∀ j, (Value.slice fa fn fc).ownBlock = some j → j < wA.heap.size := fun j h => by have := hltF j h; omega
            have hBA : wr.heap.size < wA.heap.size := by omega
            generalize hBg : wr.heap.size = B at *
            go_wp2_with (first
              | (at_builtin; refine wpList_push (by rfl) _ _ 66 (by rfl) elemOk_err (O := fun j => (Value.slice oa on oc).ownBlock = some j ∨ j = B) (l := List.replicate k ()) (y := ()) (by rfl) (by rfl) (by rfl) HF2 hyf hOF hFl ?_; intro vF5 w5 HF5 hc5 hk5; have hB5 := hB2.keep hc5 (fun h => absurd (hltF _ h) (Nat.lt_irrefl _)); clear d0 d1 d2; obtain ⟨d0, d1, d2⟩ := hB5.cell; have df := hB5.free; have df0 := df 0; have df2 := df 2; obtain ⟨ga, gn, gc, rfl⟩ := own_isSlice HF5; have hcW : Chg (fun j => j = B) w5 ((w5.setCell ⟨B, 0, none⟩ (.int .i64 2)).setCell ⟨B, 2, none⟩ (.slice ra (turnHunks hs).length rc)) := ((Chg.refl (fun j => j = B) w5).setCell (p := ⟨B, 0, none⟩) (.inr rfl) _).setCell (p := ⟨B, 2, none⟩) (.inr rfl) _; have hF5l : List.replicate k () ++ [()] = List.replicate (k + 1) () := List.replicate_succ'.symm; have hO9 := turn_lt (hF5l ▸ HF5) hs2 hBA hc5 hcW; have HO8 := turn_out HO2 hc5 hk5 hcW; have hyc : Dat.rd ((w5.setCell ⟨B, 0, none⟩ (.int .i64 2)).setCell ⟨B, 2, none⟩ (.slice ra (turnHunks hs).length rc)) (fun j => ((Value.slice ga gn gc).ownBlock = some j ∨ j = B) ∨ (Value.slice oa on oc).ownBlock = some j) [.int .i64 2, .string pt, .slice ra (turnHunks hs).length rc] (⟨2, pt, turnHunks hs⟩ : Change) := ⟨_, rfl, hpc, turn_rd hr2 hs2 hO8 hF8 hBA hc5 hk5 hcW⟩; clear HO2 HF2 hyf hOF hF5l)
              | (at_builtin; refine wpList_push (by rfl) _ _ 23 (by rfl) elemOk_change (O := fun j => (Value.slice ga gn gc).ownBlock = some j ∨ j = B) (l := turnP (p.take k)) (y := (⟨2, pt, turnHunks hs⟩ : Change)) (by rfl) (by rfl) (by simp) HO8 hyc hO9 hLl ?_; intro vO9 w9 HO9 hc9 hk9))
            subst hBg
            have hfin := turn_step hst hA2 rfl HF5 hc5 hk5 hcW HO9 hc9 hk9
            obtain ⟨oa9, on9, oc9, rfl⟩ := own_isSlice HO9
            clear hc5 hk5 hcW HO9 hc9 hk9 HF5 HO8 hyc hO9 d0 d1 d2 df df0 df2 hB5 hB2
            go_roundw
            case rel => exact ⟨k + 1, by omega, by go_num, by rw [HT.out]; exact hfin⟩
            case measure => simp [intOf] <;> omega
          · have t2 : (wh == 2) = false := by simp [k2]
            have t3 : (wh == 3) = false := by simp [k3]
            have HW : Hid (turnC ⟨wh, pt, hs⟩ = ⟨wh, pt, turnHunks hs⟩) := by unfold Hid turnC turnW; rw [if_neg k2, if_neg k3]
            rw [HW.out] at HT
            clear k2 k3
            clear hx p3 hp
            obtain ⟨d0, d1, d2⟩ := hB0.cell
            go_wp2_with fail
            have hBs : (wr.alloc (.cells #[.int .i64 wh, .string pt, .slice ha hs.length hcap] 36)).heap.size = wr.heap.size + 1 := World.size_alloc _ _
            generalize wr.alloc (.cells #[.int .i64 wh, .string pt, .slice ha hs.length hcap] 36) = wA at hB0 hA hBs d0 d1 d2 ⊢
            clear c0 c1 c2
            refine (turn_any hs _ _ (hhv.never hA)).mono ?_
            rintro e w2 ⟨r2, rfl, hc2, hr2⟩
            rw [HZ.out, errV_zero]
            rw [HTR.out] at hr2
            obtain ⟨ra, rc, rfl, _, _, _⟩ := rdv_slice hr2
            have hA2 := hA.trans hc2
            have hB2 := hB0.keep hc2 (fun h => h)
            have hs2 := hc2.size
            have HO2 : Own 36 w2 (fun j => (Value.slice fa fn fc).ownBlock = some j ∨ j = wr.heap.size) (.slice oa on oc) (turnP (p.take k)) := hst.out.keep hA2 (fun _ _ h => h.elim) (fun j hj h => h.elim (fun h => h) (fun h => by omega))
            have HF2 : Own 28 w2 (fun j => (Value.slice oa on oc).ownBlock = some j ∨ j = wr.heap.size) (.slice fa fn fc) (List.replicate k ()) := hst.flt.keep hA2 (fun _ _ h => h.elim) (fun j hj h => h.elim (fun h => h) (fun h => by omega))
            have hOF : ∀ j, ((Value.slice oa on oc).ownBlock = some j ∨ j = wr.heap.size) → j < w2.heap.size := fun j h => h.elim (fun h => by have := hltO j h; omega) (fun h => by omega)
            clear d0 d1 d2 hB0
            obtain ⟨d0, d1, d2⟩ := hB2.cell
            have hyf : Dat.rd w2 (fun j => ((Value.slice oa on oc).ownBlock = some j ∨ j = wr.heap.size) ∨ (Value.slice fa fn fc).ownBlock = some j) [Value.nilIface] () := rfl
            have hcw := hst.chg.trans hA2
            have hO8 : ∀ j, (Value.slice oa on oc).ownBlock = some j → j < wA.heap.size := fun j h => by have := hltO j h; omega
            have hF8 : ∀ j, (Value.slice fa fn fc).ownBlock = some j → j < wA.heap.size := fun j h => by have := hltF j h; omega
            have hBA : wr.heap.size < wA.heap.size := by omega
            generalize hBg : wr.heap.size = B at *
            go_wp2_with (first
              | (at_builtin; refine wpList_push (by rfl) _ _ 66 (by rfl) elemOk_err (O := fun j => (Value.slice oa on oc).ownBlock = some j ∨ j = B) (l := List.replicate k ()) (y := ()) (by rfl) (by rfl) (by rfl) HF2 hyf hOF hFl ?_; intro vF5 w5 HF5 hc5 hk5; have hB5 := hB2.keep hc5 (fun h => absurd (hltF _ h) (Nat.lt_irrefl _)); clear d0 d1 d2; obtain ⟨d0, d1, d2⟩ := hB5.cell; have df := hB5.free; have df0 := df 0; have df2 := df 2; obtain ⟨ga, gn, gc, rfl⟩ := own_isSlice HF5; have hcW : Chg (fun j => j = B) w5 (w5.setCell ⟨B, 2, none⟩ (.slice ra (turnHunks hs).length rc)) := (Chg.refl (fun j => j = B) w5).setCell (p := ⟨B, 2, none⟩) (.inr rfl) _; have hF5l : List.replicate k () ++ [()] = List.replicate (k + 1) () := List.replicate_succ'.symm; have hO9 := turn_lt (hF5l ▸ HF5) hs2 hBA hc5 hcW; have HO8 := turn_out HO2 hc5 hk5 hcW; have hyc : Dat.rd (w5.setCell ⟨B, 2, none⟩ (.slice ra (turnHunks hs).length rc)) (fun j => ((Value.slice ga gn gc).ownBlock = some j ∨ j = B) ∨ (Value.slice oa on oc).ownBlock = some j) [.int .i64 wh, .string pt, .slice ra (turnHunks hs).length rc] (⟨wh, pt, turnHunks hs⟩ : Change) := ⟨_, rfl, hpc, turn_rd hr2 hs2 hO8 hF8 hBA hc5 hk5 hcW⟩; clear HO2 HF2 hyf hOF hF5l)
              | (at_builtin; refine wpList_push (by rfl) _ _ 23 (by rfl) elemOk_change (O := fun j => (Value.slice ga gn gc).ownBlock = some j ∨ j = B) (l := turnP (p.take k)) (y := (⟨wh, pt, turnHunks hs⟩ : Change)) (by rfl) (by rfl) (by simp) HO8 hyc hO9 hLl ?_; intro vO9 w9 HO9 hc9 hk9))
            subst hBg
            have hfin := turn_step hst hA2 rfl HF5 hc5 hk5 hcW HO9 hc9 hk9
            obtain ⟨oa9, on9, oc9, rfl⟩ := own_isSlice HO9
            clear hc5 hk5 hcW HO9 hc9 hk9 HF5 HO8 hyc hO9 d0 d1 d2 df df0 df2 hB5 hB2
            go_roundw
            case rel => exact ⟨k + 1, by omega, by go_num, by rw [HT.out]; exact hfin⟩
            case measure => simp [intOf] <;> omega
      · obtain rfl : k = p.length := by omega
        have hfr := hst.flt.rdv.sub (O' := Never) (fun _ _ h => h.elim)
        have hor := hst.out.rdv.sub (O' := Never) (fun _ _ h => h.elim)
        rw [List.take_length] at hor
        have hcw := hst.chg
        clear hst p3 hp
        go_wp2_with fail
        refine (join_none _ _ _ hfr).mono ?_
        rintro e w9 ⟨rfl, hc9⟩
        go_wp2_with fail
        go_ret2
        exact ⟨_, by rw [Y.out]; rfl, hcw.trans hc9, by rw [HE.out]; exact hor.never hc9⟩
  · have HE : Hid (turnPR p = []) := if_neg y
    have Y := Lib.hid y
    clear y
    go_enter Tryz.func8, Tryz.ntmps8
    go_wp2_with fail
    refine (patch_check_any p _ _ hp m hm).mono ?_
    rintro e w1 ⟨rfl, hw⟩
    rw [errV_pos Y.out]
    go_wp2_with fail
    go_ret2
    exact ⟨.slice none 0 0, by rw [errV_pos Y.out]; rfl, hw, by rw [HE.out]; exact rdv_nil _ _⟩
end Go.Proofs.YteocmmejfnmjcaaGreatDoor
namespace Go.Proofs.YteocmmejfnmjcaaGreatDoor
open Go.RowKit

set_option maxHeartbeats 1000000 in
set_option maxRecDepth 100000 in
theorem trees_any (l m : List File) (v u : Value) (w : World) (h : Rdv w Never v l) (g : Rdv w Never u m) :
    Calls Tryz.prog 13 #[v, u] w fun e w' => e = .returned (.bool (decide (l = m))) ∧ Chg Never w w' := by
  obtain ⟨a, cap, rfl, h1, h2, h3⟩ := rdv_slice h
  obtain ⟨c, cap', rfl, g1, g2, g3⟩ := rdv_slice g
  unfold maxLen at h2 g2
  by_cases h4 : l.length = m.length
  · have h4' : ((l.length : Int) != m.length) = false := by simp [h4]
    have H4 := Lib.hid h4
    clear h4
    go_enter Tryz.func13, Tryz.ntmps13
    go_wp2_with fail
    go_loopw [5] (fun i wr => ∃ k : Nat, k ≤ l.length ∧ i = .int .i64 k ∧ Hid (l.take k = m.take k) ∧ Chg Never w wr) (fun i _ => l.length - (intOf i).toNat)
    case atStart => exact ⟨0, Nat.zero_le _, rfl, by simp [Hid], Chg.refl _ _⟩
    case round =>
      obtain ⟨k, hk, rfl, hf, hc⟩ := hrel
      by_cases hlt : k < l.length
      · obtain ⟨x, hx⟩ : ∃ x, l[k]? = some x := ⟨l[k], by simp [hlt]⟩
        obtain ⟨y, hy⟩ : ∃ y, m[k]? = some y := ⟨m[k]'(by rw [← H4.out]; exact hlt), by simp [H4.out ▸ hlt]⟩
        obtain ⟨b, off, mv, rfl, _, _, c0, c1, _, hmv⟩ := elems_file h3 hx
        obtain ⟨b', off', mv', rfl, _, _, d0, d1, _, hmv'⟩ := elems_file g3 hy
        have C0 := Lib.hid c0
        have D0 := Lib.hid d0
        have c1 := hc.cellNever c1
        have d1 := hc.cellNever d1
        have hmv := hmv.never hc
        have hmv' := hmv'.never hc
        clear h3 g3 h g c0 d0
        have hlm : k < m.length := by rw [← H4.out]; exact hlt
        have HX := Lib.hid hx
        have HY := Lib.hid hy
        clear hx hy
        have b1 : (k : Int) < l.length := by omega
        have b2 : (k : Int) < m.length := by omega
        go_wp2_with fail
        refine wp_region_still_tail 10 (by kernel_rfl) (by kernel_rfl) ?_
        simp only [List.take_succ_cons, List.take_zero, List.drop_succ_cons, List.drop_zero]
        change wpStill _ _ wr.drew _ _ _
        repeat still_step
        refine wpStill_nil ?_
        change wpList _ _ _ _ _ wr.drew
        have hcd : Chg Never w wr.drew := hc.drew
        have hmd := hmv.never ((Chg.refl Never wr).drew)
        have hmd' := hmv'.never ((Chg.refl Never wr).drew)
        generalize wr.drew = w3 at hcd hmd hmd'
        clear hmv hmv' c1 d1 hc
        go_wp2_with fail
        refine (texts_any x.lines y.lines _ _ _ hmd hmd').mono ?_
        rintro e w4 ⟨rfl, hc4⟩
        have hc5 := hcd.trans hc4
        have c0 := hc5.cellNever C0.out
        have d0 := hc5.cellNever D0.out
        clear hmd hmd' hcd hc4
        by_cases hls : x.lines = y.lines
        · rw [decide_eq_true hls]
          by_cases hpp : x.path = y.path
          · have hxy : x = y := by
              cases x; cases y
              simp only at hls hpp
              rw [hls, hpp]
            subst hxy
            go_wp2_with fail
            go_quiet (fail)
            go_wp2_with fail
            go_roundw
            case rel => exact ⟨k + 1, by omega, by go_num, take_same hf HX.out HY.out, hc5.drewN _⟩
            case measure => simp [intOf] <;> omega
          · have hxy : x ≠ y := fun e => hpp (by rw [e])
            have t1 := str_beq_false hpp
            have HN := Lib.hid (decide_eq_false (ne_of_get HX.out HY.out hxy))
            clear hls hpp hxy
            go_wp2_with fail
            go_quiet (fail)
            go_wp2_with fail
            go_ret
            exact ⟨by rw [HN.out]; rfl, hc5.drewN _⟩
        · have hxy : x ≠ y := fun e => hls (by rw [e])
          have HN := Lib.hid (decide_eq_false (ne_of_get HX.out HY.out hxy))
          rw [decide_eq_false hls]
          clear hls hxy
          go_wp2_with fail
          go_quiet (fail)
          go_wp2_with fail
          go_ret
          exact ⟨by rw [HN.out]; rfl, hc5.drewN _⟩
      · go_wp2_with fail
        go_ret
        have E : l = m := by
          have := hf.out
          rw [List.take_of_length_le (by omega), List.take_of_length_le (by rw [← H4.out]; omega)] at this
          exact this
        exact ⟨by rw [decide_eq_true E]; rfl, hc⟩
  · have h4' : ((l.length : Int) != m.length) = true := by simp; omega
    go_enter Tryz.func13, Tryz.ntmps13
    go_wp2_with fail
    go_ret
    exact ⟨by rw [decide_eq_false (fun e => h4 (by rw [e]))]; rfl, Chg.refl _ _⟩
end Go.Proofs.YteocmmejfnmjcaaGreatDoor
namespace Go.Proofs.YteocmmejfnmjcaaGreatDoor
open Go.RowKit

theorem applyGo_nil : ∀ (p : List Change) (i : Nat) (t : List File), (applyGo i t p).2.2 ≠ 0 → (applyGo i t p).1 = []
  | [], _, _, h => absurd rfl h
  | c :: r, i, t, h => by
    rw [applyGo] at h ⊢
    by_cases e : (stepOf (look t c.path) c).2 ≠ 0
    · rw [if_pos e]
    · rw [if_neg e] at h ⊢
      exact applyGo_nil r _ _ h
theorem applyR_nil {t : List File} {p : List Change} (h : (applyR t p).2.2 ≠ 0) : (applyR t p).1 = [] := by
  unfold applyR at h ⊢
  split
  · rfl
  · split
    · rfl
    · split
      · rename_i h1 h2 h3
        exact applyGo_nil _ _ _ h3
      · split
        · rfl
        · rename_i h1 h2 h3 h4
          rw [if_neg h1, if_neg h2, if_neg h3, if_neg h4] at h
          exact absurd rfl h
theorem turn_a : (patchFault [⟨2, ⟨#[97]⟩, []⟩]).2 = 0 ∧ turnPR [⟨2, ⟨#[97]⟩, []⟩] = [⟨3, ⟨#[97]⟩, []⟩] := by decide +kernel
theorem turnPR_ok {p : List Change} (h : (patchFault p).2 = 0) : turnPR p = turnP p := if_pos h
theorem turnPR_bad {p : List Change} (h : (patchFault p).2 ≠ 0) : turnPR p = [] := if_neg h
end Go.Proofs.YteocmmejfnmjcaaGreatDoor
