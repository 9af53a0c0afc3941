/-
  THE WALK of edit.Script.
-/
import Derived.Test.YtpoammapjmddfaaDoorMarksEq
namespace Go.Proofs.YtpoammapjmddfaaDoor
open Go.RowKit

theorem script_keep {l m : List ByteArray} {i k : Nat} {x : ByteArray} (hx : l[i]? = some x) (hy : m[k]? = some x) : script (l.drop i) (m.drop k) = ⟨32, x⟩ :: script (l.drop (i + 1)) (m.drop (k + 1)) := by
  rw [drop_eq hx, drop_eq hy, script, if_pos rfl]
theorem script_take {l m : List ByteArray} {i k : Nat} {x : ByteArray} (hx : l[i]? = some x) (hy : ∀ y, m[k]? = some y → x ≠ y) (h : far (l.drop (i + 1)) (m.drop k) + 1 = far (l.drop i) (m.drop k)) :
    script (l.drop i) (m.drop k) = ⟨45, x⟩ :: script (l.drop (i + 1)) (m.drop k) := by
  rcases Nat.lt_or_ge k m.length with hk | hk
  · have hm : m[k]? = some m[k] := by simp [hk]
    rw [drop_eq hx] at h ⊢
    rw [drop_eq hm] at h ⊢
    rw [script, if_neg (hy _ hm), if_pos h]
  · rw [List.drop_of_length_le hk, drop_eq hx, script]
theorem script_put {l m : List ByteArray} {i k : Nat} {y : ByteArray} (hy : m[k]? = some y) (hx : ∀ x, l[i]? = some x → x ≠ y ∧ far (l.drop (i + 1)) (m.drop k) + 1 ≠ far (l.drop i) (m.drop k)) :
    script (l.drop i) (m.drop k) = ⟨43, y⟩ :: script (l.drop i) (m.drop (k + 1)) := by
  rcases Nat.lt_or_ge i l.length with hi | hi
  · have hl : l[i]? = some l[i] := by simp [hi]
    obtain ⟨h1, h2⟩ := hx _ hl
    rw [drop_eq hl] at h2 ⊢
    rw [drop_eq hy] at h2 ⊢
    rw [script, if_neg h1, if_neg h2]
  · rw [List.drop_of_length_le hi, drop_eq hy, script]

theorem Fil.keep {T : Nat} {wr w' : World} {l m : List ByteArray} {x y : Int} {O : Nat → Prop} (h : Fil T wr l m x y) (hc : Chg O wr w') (hT : ¬ O T) : Fil T w' l m x y := by
  obtain ⟨c, h1, h2⟩ := h
  refine ⟨c, ?_, h2⟩
  rw [hc.block T (Array.getElem?_eq_some_iff.1 h1).1 hT]
  exact h1
theorem own_step' {α : Type} [Dat α] {e : TypeId} {w wr w' : World} {v : Value} {l : List α} {B : Nat} (hc : Chg Never w wr) (hB : w.heap.size ≤ B) (hown : Own e wr (Old B) v l) (hc' : Chg (OwnB v) wr w') : Chg Never w w' := by
  refine hc.trans' hc' ?_
  intro i hi ho
  obtain ⟨xs, _, hb, _⟩ := hown
  exact (hb i ho (Nat.lt_of_lt_of_le hi hB)).elim
theorem own_not {α : Type} [Dat α] {e : TypeId} {wr : World} {v : Value} {l : List α} {B k : Nat} (hown : Own e wr (Old B) v l) (hk : k < B) : ¬ OwnB v k := by
  obtain ⟨xs, _, hb, _⟩ := hown
  exact fun h => hb k h hk

theorem rd_mark (w : World) (O : Nat → Prop) (sg : Int) (tx : ByteArray) (h0 : 0 ≤ sg) (h1 : sg < 256) (h2 : tx.size ≤ maxLen) : Dat.rd w O [.int .u8 sg, .string tx] (⟨sg, tx⟩ : Mark) := ⟨rfl, h0, h1, h2⟩

def scriptR (l m : List ByteArray) : List Mark := if checkedFault l m = 0 then script l m else []


set_option maxHeartbeats 1000000 in
set_option maxRecDepth 100000 in
theorem script_ok (l m : List ByteArray) (v u : Value) (w : World) (h : Rdv w Never v l) (g : Rdv w Never u m) (hz : checkedFault l m = 0) :
    Calls Tryd.prog 92 #[v, u] w fun e w' => ∃ r, e = .returned (.tuple #[r, .nilIface]) ∧ Chg Never w w' ∧ Rdv w' (Old w.heap.size) r (script l m) := by
  have hlm := checkedFault_zero.1 hz
  have hl := linesFault_len hlm.1
  have hm := linesFault_len hlm.2
  obtain ⟨a, cap, rfl, h1, h2, h3⟩ := rdv_slice h
  obtain ⟨c, cap', rfl, g1, g2, g3⟩ := rdv_slice g
  unfold maxLen at h2 g2
  go_enter Tryd.func92, Tryd.ntmps92
  go_wp2_with fail
  refine (checked_any l m _ _ _ h g).mono ?_
  rintro e w' ⟨rfl, rfl⟩
  rw [hz, errV_zero]
  clear hz hlm
  go_wp2_with fail
  refine (measure_any l m _ _ _ h g hl hm).mono ?_
  rintro e w1 ⟨rfl, hc1, hF1⟩
  go_wp2_with fail
  go_loopw [8, 9, 10] (fun o s9 s10 wr => ∃ (i k : Nat) (pre : List Mark), i ≤ l.length ∧ k ≤ m.length ∧ s9 = .int .i64 i ∧ s10 = .int .i64 k ∧ Chg Never w wr ∧ Fil w.heap.size wr l m (-1) m.length ∧
      Own 80 wr (Old (w.heap.size + 1)) o pre ∧ Hid (pre.length ≤ i + k) ∧ Hid (pre ++ script (l.drop i) (m.drop k) = script l m)) (fun _ s9 s10 _ => (l.length - (intOf s9).toNat) + (m.length - (intOf s10).toNat))
  case atStart => exact ⟨0, 0, [], Nat.zero_le _, Nat.zero_le _, rfl, rfl, hc1, hF1, own_nil _ _ _, Nat.zero_le _, by simp [Hid]⟩
  case round =>
    clear hc1 hF1
    obtain ⟨i, k, pre, hi, hk, rfl, rfl, hc, hF, hown, hpl0, hpre⟩ := hrel
    have hpl : pre.length ≤ 120 := by have := hpl0.out; omega
    have hO : ∀ k, Old (w.heap.size + 1) k → k < wr.heap.size := by
      obtain ⟨cc, hcc, _⟩ := hF
      have := (Array.getElem?_eq_some_iff.1 hcc).1
      intro k hk
      unfold Old at hk
      omega
    have f1 := far_lt hl hm (i + 1) k
    have f2 := far_lt hl hm i k
    by_cases hil : i < l.length
    · obtain ⟨s, hs⟩ : ∃ s, l[i]? = some s := ⟨l[i], by simp [hil]⟩
      obtain ⟨b, off, rfl, _, hbl, hcx, hxs⟩ := elems_str h3 hs
      have hcx := hc.cellNever hcx
      have HS := Lib.hid hs
      have b1 : (i : Int) < l.length := by omega
      have d1 := hF.cell (i := i + 1) (k := k) (by omega) (by omega) (by omega)
      have d2 := hF.cell (i := i) (k := k) (by omega) (by omega) (by omega)
      have e1 : IntKind.i64.wrap ((i : Int) + 1) = (i : Int) + 1 := IntWalk.i64_in _ (by omega)
      have e3 : (0 : Int) ≤ (i : Int) + 1 := by omega
      have e5 : (i : Int) + 1 < 61 := by omega
      have e7 : ((i : Int) + 1).toNat = i + 1 := by omega
      have e9 : (i : Int) < 61 := by omega
      have e10 : (k : Int) < 61 := by omega
      have e11 : IntKind.i64.wrap ((far (l.drop (i + 1)) (m.drop k) : Int) + 1) = (far (l.drop (i + 1)) (m.drop k) : Int) + 1 := IntWalk.i64_in _ (by omega)
      by_cases hkm : k < m.length
      · obtain ⟨t, ht⟩ : ∃ t, m[k]? = some t := ⟨m[k], by simp [hkm]⟩
        obtain ⟨b', off', rfl, _, hbl', hcy, hys⟩ := elems_str g3 ht
        have hcy := hc.cellNever hcy
        have HT := Lib.hid ht
        have b2 : (k : Int) < m.length := by omega
        clear h3 g3 h g hs ht
        by_cases hst : s = t
        · subst hst
          clear e1 e3 e5 e7 e9 e10 e11 d1 d2
          go_wp2_with fail
          go_quiet (fail)
          generalize hw2 : World.drewN wr _ = wr2
          have hc : Chg Never w wr2 := hw2 ▸ hc.drewN _
          have hF : Fil w.heap.size wr2 l m (-1) m.length := hw2 ▸ hF.drewN _
          have hown : Own 80 wr2 (Old (w.heap.size + 1)) _ pre := hw2 ▸ hown.never ((Chg.refl _ wr).drewN _)
          have hO : ∀ k, Old (w.heap.size + 1) k → k < (wr2).heap.size := hw2 ▸ hO
          have hcx : wr2.cell? ⟨b, off + i, none⟩ = some (.string s) := hw2 ▸ hcx
          have hcy : wr2.cell? ⟨b', off' + k, none⟩ = some (.string s) := hw2 ▸ hcy
          clear hw2
          go_wp2_with (at_builtin; refine wpList_push rfl _ _ 40 rfl elemOk_mark (O := Old (w.heap.size + 1)) (l := pre) (y := ⟨32, s⟩) rfl rfl rfl hown (rd_mark _ _ 32 s (by decide) (by decide) (by assumption)) hO (by omega) ?_; intro v' w5 hown2 hc2 _)
          have hc3 := own_step' hc (Nat.le_succ _) hown hc2
          have hF3 := hF.keep hc2 (own_not hown (Nat.lt_succ_self _))
          clear hc2 hc hF hown
          go_wp2_with fail
          go_roundw
          case rel => exact ⟨i + 1, k + 1, _, by omega, by omega, by go_num, by go_num, hc3, hF3, hown2, by have := hpl0.out; show (pre ++ [_]).length ≤ _; simp; omega, by have := hpre.out; rw [script_keep HS.out HT.out] at this; rw [Hid, ← this]; simp⟩
          case measure => simp [intOf] <;> omega
        · have hne := str_beq_false hst
          have HST := Lib.hid hst
          clear hst
          by_cases htk : far (l.drop (i + 1)) (m.drop k) + 1 = far (l.drop i) (m.drop k)
          · have t1 : ((far (l.drop (i + 1)) (m.drop k) : Int) + 1 == far (l.drop i) (m.drop k)) = true := by simp; omega
            have HTK := Lib.hid htk
            clear htk
            go_wp2_with fail
            go_quiet (fail)
            generalize hw2 : World.drewN wr _ = wr2
            have hc : Chg Never w wr2 := hw2 ▸ hc.drewN _
            have hF : Fil w.heap.size wr2 l m (-1) m.length := hw2 ▸ hF.drewN _
            have hown : Own 80 wr2 (Old (w.heap.size + 1)) _ pre := hw2 ▸ hown.never ((Chg.refl _ wr).drewN _)
            have hO : ∀ k, Old (w.heap.size + 1) k → k < (wr2).heap.size := hw2 ▸ hO
            have hcx : wr2.cell? ⟨b, off + i, none⟩ = some (.string s) := hw2 ▸ hcx
            have d1 : wr2.cell? ⟨w.heap.size, (i + 1) * 61 + k, none⟩ = some (.int .i64 (far (l.drop (i + 1)) (m.drop k))) := hw2 ▸ d1
            have d2 : wr2.cell? ⟨w.heap.size, i * 61 + k, none⟩ = some (.int .i64 (far (l.drop i) (m.drop k))) := hw2 ▸ d2
            clear hw2
            go_wp2_with fail
            go_quiet (fail)
            clear e1 e3 e5 e7 e9 e10 e11 d1 d2
            generalize hw2 : World.drewN wr2 _ = wr3
            have hc : Chg Never w wr3 := hw2 ▸ hc.drewN _
            have hF : Fil w.heap.size wr3 l m (-1) m.length := hw2 ▸ hF.drewN _
            have hown : Own 80 wr3 (Old (w.heap.size + 1)) _ pre := hw2 ▸ hown.never ((Chg.refl _ wr2).drewN _)
            have hO : ∀ k, Old (w.heap.size + 1) k → k < (wr3).heap.size := hw2 ▸ hO
            have hcx : wr3.cell? ⟨b, off + i, none⟩ = some (.string s) := hw2 ▸ hcx
            clear hw2
            go_wp2_with (at_builtin; refine wpList_push rfl _ _ 40 rfl elemOk_mark (O := Old (w.heap.size + 1)) (l := pre) (y := ⟨45, s⟩) rfl rfl rfl hown (rd_mark _ _ 45 s (by decide) (by decide) (by assumption)) hO (by omega) ?_; intro v' w5 hown2 hc2 _)
            have hc3 := own_step' hc (Nat.le_succ _) hown hc2
            have hF3 := hF.keep hc2 (own_not hown (Nat.lt_succ_self _))
            clear hc2 hc hF hown
            go_wp2_with fail
            go_roundw
            case rel => exact ⟨i + 1, k, _, by omega, by omega, by go_num, by go_num, hc3, hF3, hown2, by have := hpl0.out; show (pre ++ [_]).length ≤ _; simp; omega, by have := hpre.out; rw [script_take HS.out (fun y hy => by rw [HT.out] at hy; injection hy with hy; subst hy; exact HST.out) HTK.out] at this; rw [Hid, ← this]; simp⟩
            case measure => simp [intOf] <;> omega
          · have t1 : ((far (l.drop (i + 1)) (m.drop k) : Int) + 1 == far (l.drop i) (m.drop k)) = false := by simp; omega
            have HTK := Lib.hid htk
            clear htk
            go_wp2_with fail
            go_quiet (fail)
            generalize hw2 : World.drewN wr _ = wr2
            have hc : Chg Never w wr2 := hw2 ▸ hc.drewN _
            have hF : Fil w.heap.size wr2 l m (-1) m.length := hw2 ▸ hF.drewN _
            have hown : Own 80 wr2 (Old (w.heap.size + 1)) _ pre := hw2 ▸ hown.never ((Chg.refl _ wr).drewN _)
            have hO : ∀ k, Old (w.heap.size + 1) k → k < (wr2).heap.size := hw2 ▸ hO
            have hcy : wr2.cell? ⟨b', off' + k, none⟩ = some (.string t) := hw2 ▸ hcy
            have d1 : wr2.cell? ⟨w.heap.size, (i + 1) * 61 + k, none⟩ = some (.int .i64 (far (l.drop (i + 1)) (m.drop k))) := hw2 ▸ d1
            have d2 : wr2.cell? ⟨w.heap.size, i * 61 + k, none⟩ = some (.int .i64 (far (l.drop i) (m.drop k))) := hw2 ▸ d2
            clear hw2
            go_wp2_with fail
            go_quiet (fail)
            clear e1 e3 e5 e7 e9 e10 e11 d1 d2
            generalize hw2 : World.drewN wr2 _ = wr3
            have hc : Chg Never w wr3 := hw2 ▸ hc.drewN _
            have hF : Fil w.heap.size wr3 l m (-1) m.length := hw2 ▸ hF.drewN _
            have hown : Own 80 wr3 (Old (w.heap.size + 1)) _ pre := hw2 ▸ hown.never ((Chg.refl _ wr2).drewN _)
            have hO : ∀ k, Old (w.heap.size + 1) k → k < (wr3).heap.size := hw2 ▸ hO
            have hcy : wr3.cell? ⟨b', off' + k, none⟩ = some (.string t) := hw2 ▸ hcy
            clear hw2
            go_wp2_with (at_builtin; refine wpList_push rfl _ _ 40 rfl elemOk_mark (O := Old (w.heap.size + 1)) (l := pre) (y := ⟨43, t⟩) rfl rfl rfl hown (rd_mark _ _ 43 t (by decide) (by decide) (by assumption)) hO (by omega) ?_; intro v' w5 hown2 hc2 _)
            have hc3 := own_step' hc (Nat.le_succ _) hown hc2
            have hF3 := hF.keep hc2 (own_not hown (Nat.lt_succ_self _))
            clear hc2 hc hF hown
            go_wp2_with fail
            go_roundw
            case rel => exact ⟨i, k + 1, _, by omega, by omega, by go_num, by go_num, hc3, hF3, hown2, by have := hpl0.out; show (pre ++ [_]).length ≤ _; simp; omega, by have := hpre.out; rw [script_put HT.out (fun x hx => by rw [HS.out] at hx; injection hx with hx; subst hx; exact ⟨HST.out, HTK.out⟩)] at this; rw [Hid, ← this]; simp⟩
            case measure => simp [intOf] <;> omega
      · obtain rfl : k = m.length := by omega
        have g2' : decide ((m.length : Int) < m.length) = false := by simp
        rw [List.drop_length] at d1 d2 e11 f1 f2
        have htk : far (l.drop (i + 1)) [] + 1 = far (l.drop i) [] := by
          rw [far_nil', far_nil', List.length_drop, List.length_drop]; omega
        have t1 : ((far (l.drop (i + 1)) [] : Int) + 1 == far (l.drop i) []) = true := by rw [beq_iff_eq]; omega
        have HTK := Lib.hid htk
        clear htk hs h3 g3 h g
        go_wp2_with fail
        go_quiet (fail)
        generalize hw2 : World.drewN wr _ = wr2
        have hc : Chg Never w wr2 := hw2 ▸ hc.drewN _
        have hF : Fil w.heap.size wr2 l m (-1) m.length := hw2 ▸ hF.drewN _
        have hown : Own 80 wr2 (Old (w.heap.size + 1)) _ pre := hw2 ▸ hown.never ((Chg.refl _ wr).drewN _)
        have hO : ∀ k, Old (w.heap.size + 1) k → k < (wr2).heap.size := hw2 ▸ hO
        have hcx : wr2.cell? ⟨b, off + i, none⟩ = some (.string s) := hw2 ▸ hcx
        have d1 : wr2.cell? ⟨w.heap.size, (i + 1) * 61 + m.length, none⟩ = some (.int .i64 (far (l.drop (i + 1)) [])) := hw2 ▸ d1
        have d2 : wr2.cell? ⟨w.heap.size, i * 61 + m.length, none⟩ = some (.int .i64 (far (l.drop i) [])) := hw2 ▸ d2
        clear hw2
        go_wp2_with fail
        go_quiet (fail)
        clear e1 e3 e5 e7 e9 e10 e11 d1 d2
        generalize hw2 : World.drewN wr2 _ = wr3
        have hc : Chg Never w wr3 := hw2 ▸ hc.drewN _
        have hF : Fil w.heap.size wr3 l m (-1) m.length := hw2 ▸ hF.drewN _
        have hown : Own 80 wr3 (Old (w.heap.size + 1)) _ pre := hw2 ▸ hown.never ((Chg.refl _ wr2).drewN _)
        have hO : ∀ k, Old (w.heap.size + 1) k → k < (wr3).heap.size := hw2 ▸ hO
        have hcx : wr3.cell? ⟨b, off + i, none⟩ = some (.string s) := hw2 ▸ hcx
        clear hw2
        go_wp2_with (at_builtin; refine wpList_push rfl _ _ 40 rfl elemOk_mark (O := Old (w.heap.size + 1)) (l := pre) (y := ⟨45, s⟩) rfl rfl rfl hown (rd_mark _ _ 45 s (by decide) (by decide) (by assumption)) hO (by omega) ?_; intro v' w5 hown2 hc2 _)
        have hc3 := own_step' hc (Nat.le_succ _) hown hc2
        have hF3 := hF.keep hc2 (own_not hown (Nat.lt_succ_self _))
        clear hc2 hc hF hown
        go_wp2_with fail
        go_roundw
        case rel => exact ⟨i + 1, m.length, _, by omega, by omega, by go_num, by go_num, hc3, hF3, hown2, by have := hpl0.out; show (pre ++ [_]).length ≤ _; simp; omega, by have := hpre.out; rw [script_take HS.out (fun y hy => by simp at hy) (by rw [List.drop_length]; exact HTK.out)] at this; rw [Hid, ← this]; simp⟩
        case measure => simp [intOf] <;> omega
    · obtain rfl : i = l.length := by omega
      have g1' : decide ((l.length : Int) < l.length) = false := by simp
      by_cases hkm : k < m.length
      · obtain ⟨t, ht⟩ : ∃ t, m[k]? = some t := ⟨m[k], by simp [hkm]⟩
        obtain ⟨b', off', rfl, _, hbl', hcy, hys⟩ := elems_str g3 ht
        have hcy := hc.cellNever hcy
        have HT := Lib.hid ht
        have b2 : (k : Int) < m.length := by omega
        clear h3 g3 h g ht f1 f2
        go_wp2_with fail
        go_quiet (fail)
        generalize hw2 : World.drewN wr _ = wr2
        have hc : Chg Never w wr2 := hw2 ▸ hc.drewN _
        have hF : Fil w.heap.size wr2 l m (-1) m.length := hw2 ▸ hF.drewN _
        have hown : Own 80 wr2 (Old (w.heap.size + 1)) _ pre := hw2 ▸ hown.never ((Chg.refl _ wr).drewN _)
        have hO : ∀ k, Old (w.heap.size + 1) k → k < (wr2).heap.size := hw2 ▸ hO
        have hcy : wr2.cell? ⟨b', off' + k, none⟩ = some (.string t) := hw2 ▸ hcy
        clear hw2
        go_wp2_with fail
        go_quiet (fail)
        generalize hw2 : World.drewN wr2 _ = wr3
        have hc : Chg Never w wr3 := hw2 ▸ hc.drewN _
        have hF : Fil w.heap.size wr3 l m (-1) m.length := hw2 ▸ hF.drewN _
        have hown : Own 80 wr3 (Old (w.heap.size + 1)) _ pre := hw2 ▸ hown.never ((Chg.refl _ wr2).drewN _)
        have hO : ∀ k, Old (w.heap.size + 1) k → k < (wr3).heap.size := hw2 ▸ hO
        have hcy : wr3.cell? ⟨b', off' + k, none⟩ = some (.string t) := hw2 ▸ hcy
        clear hw2
        go_wp2_with (at_builtin; refine wpList_push rfl _ _ 40 rfl elemOk_mark (O := Old (w.heap.size + 1)) (l := pre) (y := ⟨43, t⟩) rfl rfl rfl hown (rd_mark _ _ 43 t (by decide) (by decide) (by assumption)) hO (by omega) ?_; intro v' w5 hown2 hc2 _)
        have hc3 := own_step' hc (Nat.le_succ _) hown hc2
        have hF3 := hF.keep hc2 (own_not hown (Nat.lt_succ_self _))
        clear hc2 hc hF hown
        go_wp2_with fail
        go_roundw
        case rel => exact ⟨l.length, k + 1, _, by omega, by omega, by go_num, by go_num, hc3, hF3, hown2, by have := hpl0.out; show (pre ++ [_]).length ≤ _; simp; omega, by have := hpre.out; rw [script_put HT.out (fun x hx => by simp at hx)] at this; rw [Hid, ← this]; simp⟩
        case measure => simp [intOf] <;> omega
      · obtain rfl : k = m.length := by omega
        go_wp2_with fail
        go_ret2
        have E : pre = script l m := by have := hpre.out; rw [List.drop_length, List.drop_length, script, List.append_nil] at this; exact this
        exact ⟨_, rfl, hc, E ▸ hown.rdv.sub (fun k _ hk => by unfold Old at *; omega)⟩

theorem script_any (l m : List ByteArray) (v u : Value) (w : World) (h : Rdv w Never v l) (g : Rdv w Never u m) :
    Calls Tryd.prog 92 #[v, u] w fun e w' => ∃ r, e = .returned (.tuple #[r, errV (checkedFault l m)]) ∧ Chg Never w w' ∧ Rdv w' (Old w.heap.size) r (scriptR l m) := by
  by_cases hz : checkedFault l m = 0
  · refine (script_ok l m v u w h g hz).mono ?_
    rintro e w' ⟨r, rfl, hc, hr⟩
    exact ⟨r, by rw [hz, errV_zero], hc, by unfold scriptR; rw [if_pos hz]; exact hr⟩
  · go_enter Tryd.func92, Tryd.ntmps92
    go_wp2_with fail
    refine (checked_any l m _ _ _ h g).mono ?_
    rintro e w' ⟨rfl, rfl⟩
    rw [errV_pos hz]
    go_wp2_with fail
    go_ret2
    exact ⟨.slice none 0 0, by rw [errV_pos hz]; rfl, Chg.refl _ _, by unfold scriptR; rw [if_neg hz]; exact rdv_nil _ _⟩

/-! ### a script of lines that may be, may be -/
theorem linesFault_zero {l : List ByteArray} : linesFault l = 0 ↔ l.length ≤ 60 ∧ ∀ x ∈ l, lineFault x = 0 := by
  unfold linesFault
  by_cases h : 60 < l.length
  · simp [h]; omega
  · simp only [if_neg h, firstOf_zero]
    exact ⟨fun h' => ⟨by omega, h'⟩, fun h' => h'.2⟩
theorem scriptFault_zero {l : List Mark} : scriptFault l = 0 ↔ l.length ≤ 120 ∧ ∀ x ∈ l, markFault x = 0 := by
  unfold scriptFault
  by_cases h : 120 < l.length
  · simp [h]; omega
  · simp only [if_neg h, firstOf_zero]
    exact ⟨fun h' => ⟨by omega, h'⟩, fun h' => h'.2⟩
theorem script_mem : ∀ (n : Nat) (a b : List ByteArray), a.length + b.length = n → (script a b).length ≤ n ∧ ∀ x ∈ script a b, x.text ∈ a ∨ x.text ∈ b := by
  intro n
  induction n using Nat.strongRecOn with
  | _ n ih =>
    intro a b hn
    match a, b with
    | [], [] => rw [script]; simp
    | x :: a, [] =>
      obtain ⟨h1, h2⟩ := ih (n - 1) (by simp only [List.length_cons, List.length_nil] at hn ⊢; omega) a [] (by simp only [List.length_cons, List.length_nil] at hn ⊢; omega)
      rw [script]
      simp only [List.length_cons, List.length_nil] at hn ⊢
      refine ⟨by omega, ?_⟩
      intro y hy
      rcases List.mem_cons.1 hy with rfl | hy
      · simp
      · rcases h2 y hy with h | h <;> simp_all
    | [], y :: b =>
      obtain ⟨h1, h2⟩ := ih (n - 1) (by simp only [List.length_cons, List.length_nil] at hn ⊢; omega) [] b (by simp only [List.length_cons, List.length_nil] at hn ⊢; omega)
      rw [script]
      simp only [List.length_cons, List.length_nil] at hn ⊢
      refine ⟨by omega, ?_⟩
      intro z hz
      rcases List.mem_cons.1 hz with rfl | hz
      · simp
      · rcases h2 z hz with h | h <;> simp_all
    | x :: a, y :: b =>
      simp only [List.length_cons] at hn
      obtain ⟨p1, p2⟩ := ih (n - 2) (by omega) a b (by omega)
      obtain ⟨q1, q2⟩ := ih (n - 1) (by omega) a (y :: b) (by simp only [List.length_cons]; omega)
      obtain ⟨r1, r2⟩ := ih (n - 1) (by omega) (x :: a) b (by simp only [List.length_cons]; omega)
      rw [script]
      split
      · refine ⟨by simp only [List.length_cons]; omega, ?_⟩
        intro z hz
        rcases List.mem_cons.1 hz with rfl | hz
        · simp
        · rcases p2 z hz with h | h <;> simp [h]
      · split
        · refine ⟨by simp only [List.length_cons]; omega, ?_⟩
          intro z hz
          rcases List.mem_cons.1 hz with rfl | hz
          · simp
          · rcases q2 z hz with h | h
            · simp [h]
            · exact .inr h
        · refine ⟨by simp only [List.length_cons]; omega, ?_⟩
          intro z hz
          rcases List.mem_cons.1 hz with rfl | hz
          · simp
          · rcases r2 z hz with h | h
            · exact .inl h
            · simp [h]
theorem script_valid {a b : List ByteArray} (h : checkedFault a b = 0) : scriptFault (script a b) = 0 := by
  obtain ⟨h1, h2⟩ := checkedFault_zero.1 h
  rw [linesFault_zero] at h1 h2
  obtain ⟨s1, s2⟩ := script_mem _ a b rfl
  rw [scriptFault_zero]
  refine ⟨by omega, ?_⟩
  intro x hx
  have hs := script_signs a b x hx
  have ht : lineFault x.text = 0 := by
    rcases s2 x hx with h | h
    · exact h1.2 _ h
    · exact h2.2 _ h
  unfold markFault
  rw [if_neg (by omega), ht]
end Go.Proofs.YtpoammapjmddfaaDoor
