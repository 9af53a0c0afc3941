/-
  PARTS: THE WALKS OF LAYER 2 over scripts: Check, those, Old, New; the laws' changes and Marks.; THE WALKS: edit.Old, edit.New; the laws' Marks.; THE WALK of edit.Script.; THE WALKS OF LAYER 3: kept, changed, Size, ContainsFunc, one.; THE WALKS OF LAYER 3: one, Check.
-/
import Derived.Test.YtjiaidchcldocaaGreatDoorPg3
import Derived.Laws.StructEq
set_option linter.unusedVariables false
set_option linter.unusedSimpArgs false
namespace Go.Proofs.YtjiaidchcldocaaGreatDoor
open Go.RowKit

theorem edit_check_any (l : List Mark) (v : Value) (w : World) (h : Rdv w Never v l) :
    Calls Tryz.prog 163 #[v] w fun e w' => e = .returned (errV (scriptFault l)) ∧ Chg Never w w' := by
  obtain ⟨a, cap, rfl, h1, h2, h3⟩ := rdv_slice h
  unfold maxLen at h2
  by_cases h4 : 120 < l.length
  · go_enter Tryz.func163, Tryz.ntmps163
    go_wp2
    go_ret
    exact ⟨by simp [scriptFault, h4, errV], Chg.refl _ _⟩
  · go_enter Tryz.func163, Tryz.ntmps163
    go_wp2
    go_loopw [12] (fun i wr => ∃ k : Nat, k ≤ l.length ∧ i = .int .i64 k ∧ Hid (firstOf markFault (l.drop k) = scriptFault l) ∧ Chg Never w wr) (fun i _ => l.length - (intOf i).toNat)
    case atStart => exact ⟨0, Nat.zero_le _, rfl, by simp [Hid, scriptFault, h4], Chg.refl _ _⟩
    case round =>
      obtain ⟨k, hk, rfl, hf, hc⟩ := hrel
      by_cases hlt : k < l.length
      · obtain ⟨x, hx⟩ : ∃ x, l[k]? = some x := ⟨l[k], by simp [hlt]⟩
        obtain ⟨b, off, rfl, _, _, c0, c1, s0, s1, hxs⟩ := elems_mark h3 hx
        have c0 := hc.cellNever c0
        have c1 := hc.cellNever c1
        have hd := Lib.hid (drop_eq hx)
        clear hx h3 h
        obtain ⟨sg, tx⟩ := x
        simp only at c0 c1 s0 s1 hxs
        by_cases hsg : sg = 32 ∨ sg = 45 ∨ sg = 43
        · have hmf : markFault ⟨sg, tx⟩ = lineFault tx := by rcases hsg with e | e | e <;> subst e <;> rfl
          have HM := Lib.hid hmf
          clear hmf
          by_cases hz : lineFault tx = 0
          · rcases hsg with rfl | rfl | rfl
            all_goals
              go_wp2_with (go_at_call 130; refine (one_any _ _ hxs).mono ?_; rintro e w' ⟨rfl, rfl⟩; rw [hz, errV_zero])
              go_roundw
              case rel => exact ⟨k + 1, by omega, by go_num, by have := hf.out; rw [hd.out, firstOf, HM.out, if_pos hz] at this; exact this, hc.alloc _⟩
              case measure => simp [intOf] <;> omega
          · rcases hsg with rfl | rfl | rfl
            all_goals
              go_wp2_with (go_at_call 130; refine (one_any _ _ hxs).mono ?_; rintro e w' ⟨rfl, rfl⟩; rw [errV_pos hz])
              go_ret
              have E : errV (scriptFault l) = errV (lineFault tx) := by rw [← hf.out, hd.out, firstOf, HM.out, if_neg hz]
              exact ⟨by rw [E, errV_pos hz]; rfl, hc.alloc _⟩
        · have t1 : (sg != 32) = true := by simp; omega
          have t2 : (sg != 45) = true := by simp; omega
          have t3 : (sg != 43) = true := by simp; omega
          have hmf : markFault ⟨sg, tx⟩ = 1 := by unfold markFault; rw [if_pos (by simp; omega)]
          have HM := Lib.hid hmf
          clear hmf hsg
          go_wp2_with fail
          go_ret
          have E : errV (scriptFault l) = errV 1 := by rw [← hf.out, hd.out, firstOf, HM.out, if_neg (by decide)]
          exact ⟨by rw [E]; rfl, hc.alloc _⟩
      · go_wp2
        go_ret
        exact ⟨by have := hf.out; rw [List.drop_of_length_le (by omega), firstOf] at this; rw [← this]; rfl, hc⟩

theorem elemOk_str : ElemOk Tryz.prog 86 9 1 := elemOk_of Tryz.underlying86 (z := .string ⟨#[]⟩) (b := 16) (by kernel_rfl) rfl (by decide)
theorem elemOk_mark : ElemOk Tryz.prog 127 126 2 := elemOk_of Tryz.underlying127 (z := .agg #[.int .u8 0, .string ⟨#[]⟩]) (b := 24) (by kernel_rfl) rfl (by decide)

theorem those_take {l : List Mark} {no : Int} {k : Nat} {x : Mark} (hx : l[k]? = some x) : those (l.take (k + 1)) no = if x.sign = no then those (l.take k) no else those (l.take k) no ++ [x.text] := by
  rw [List.take_add_one, hx]
  unfold those
  by_cases h : x.sign = no <;> simp [List.filter_append, h]
theorem those_le (l : List Mark) (no : Int) : (those l no).length ≤ l.length := by
  unfold those
  rw [List.length_map]
  exact List.length_filter_le _ _
theorem scriptFault_len {l : List Mark} (h : scriptFault l = 0) : l.length ≤ 120 := by
  unfold scriptFault at h
  by_cases h1 : 120 < l.length
  · simp [h1] at h
  · omega

/-- the lines of a script that may be; of another one none -/
def thoseR (l : List Mark) (no : Int) : List ByteArray := if scriptFault l = 0 then those l no else []

theorem those_any (l : List Mark) (no : Int) (v : Value) (w : World) (h : Rdv w Never v l) :
    Calls Tryz.prog 213 #[v, .int .u8 no] w fun e w' => ∃ r, e = .returned (.tuple #[r, errV (scriptFault l)]) ∧ Chg Never w w' ∧ Rdv w' (Old w.heap.size) r (thoseR l no) := by
  by_cases hz : scriptFault l = 0
  · have hlen := scriptFault_len hz
    obtain ⟨a, cap, rfl, h1, h2, h3⟩ := rdv_slice h
    unfold maxLen at h2
    have HT : Hid (thoseR l no = those l no) := if_pos hz
    go_enter Tryz.func213, Tryz.ntmps213
    go_wp2_with fail
    refine (edit_check_any l _ _ h).mono ?_
    rintro e w1 ⟨rfl, hc1⟩
    rw [hz, errV_zero]
    have HZ := Lib.hid hz
    clear hz
    go_wp2_with fail
    go_loopw [7, 17] (fun o i wr => ∃ k : Nat, k ≤ l.length ∧ i = .int .i64 k ∧ Chg Never w wr ∧ Own 9 wr (Old w.heap.size) o (those (l.take k) no)) (fun _ i _ => l.length - (intOf i).toNat)
    case atStart => exact ⟨0, Nat.zero_le _, rfl, hc1, own_nil _ _ _⟩
    case round =>
      obtain ⟨k, hk, rfl, hc, hown⟩ := hrel
      by_cases hlt : k < l.length
      · obtain ⟨x, hx⟩ : ∃ x, l[k]? = some x := ⟨l[k], by simp [hlt]⟩
        obtain ⟨b, off, rfl, _, _, c0, c1, s0, s1, hxs⟩ := elems_mark h3 hx
        have c0 := hc.cellNever c0
        have c1 := hc.cellNever c1
        have ht := Lib.hid (those_take (no := no) hx)
        have hle := those_le (l.take k) no
        have hle2 : (l.take k).length ≤ 120 := by simp; omega
        clear hx h3 h
        obtain ⟨sg, tx⟩ := x
        simp only at c0 c1 s0 s1 hxs
        by_cases hs : sg = no
        · have t1 : (sg != no) = false := by simp [hs]
          have HS := Lib.hid hs
          clear hs hle hle2
          go_wp2_with fail
          go_roundw
          case rel => exact ⟨k + 1, by omega, by go_num, hc.alloc _, by rw [ht.out, if_pos HS.out]; exact hown.never ((Chg.refl _ _).alloc _)⟩
          case measure => simp [intOf] <;> omega
        · have t1 : (sg != no) = true := by simp [hs]
          have HS := Lib.hid hs
          clear hs
          go_wp2_with (at_builtin; refine wpList_push rfl _ _ 86 rfl elemOk_str (O := Old w.heap.size) (l := those (l.take k) no) (y := tx) rfl rfl (by simp) (hown.never ((Chg.refl _ _).alloc _)) ⟨rfl, hxs⟩ (old_lt (hc.alloc _)) (by omega) ?_; intro v' w2 hown2 hc2 _)
          have hc3 := own_step (hc.alloc _) (hown.never ((Chg.refl _ _).alloc _)) hc2
          clear hc2 hle hle2
          go_wp2_with fail
          go_roundw
          case rel => exact ⟨k + 1, by omega, by go_num, hc3, by rw [ht.out, if_neg HS.out]; exact hown2⟩
          case measure => simp [intOf] <;> omega
      · go_wp2_with fail
        go_ret2
        refine ⟨_, by rw [HZ.out]; rfl, hc, ?_⟩
        rw [HT.out]
        rw [List.take_of_length_le (by omega)] at hown
        exact hown.rdv
  · go_enter Tryz.func213, Tryz.ntmps213
    go_wp2_with fail
    refine (edit_check_any l _ _ h).mono ?_
    rintro e w1 ⟨rfl, hc1⟩
    rw [errV_pos hz]
    go_wp2_with fail
    go_ret2
    exact ⟨.slice none 0 0, by rw [errV_pos hz]; rfl, hc1, by unfold thoseR; rw [if_neg hz]; exact rdv_nil _ _⟩
end Go.Proofs.YtjiaidchcldocaaGreatDoor
namespace Go.Proofs.YtjiaidchcldocaaGreatDoor
open Go.RowKit

theorem old_any (l : List Mark) (v : Value) (w : World) (h : Rdv w Never v l) :
    Calls Tryz.prog 184 #[v] w fun e w' => ∃ r, e = .returned (.tuple #[r, errV (scriptFault l)]) ∧ Chg Never w w' ∧ Rdv w' (Old w.heap.size) r (thoseR l 43) := by
  go_enter Tryz.func184, Tryz.ntmps184
  go_wp2_with fail
  refine (those_any l 43 _ _ h).mono ?_
  rintro e w1 ⟨r, rfl, hc, hr⟩
  go_wp2_with fail
  go_ret2
  exact ⟨r, rfl, hc, hr⟩
theorem new_any (l : List Mark) (v : Value) (w : World) (h : Rdv w Never v l) :
    Calls Tryz.prog 185 #[v] w fun e w' => ∃ r, e = .returned (.tuple #[r, errV (scriptFault l)]) ∧ Chg Never w w' ∧ Rdv w' (Old w.heap.size) r (thoseR l 45) := by
  go_enter Tryz.func185, Tryz.ntmps185
  go_wp2_with fail
  refine (those_any l 45 _ _ h).mono ?_
  rintro e w1 ⟨r, rfl, hc, hr⟩
  go_wp2_with fail
  go_ret2
  exact ⟨r, rfl, hc, hr⟩

theorem mark_stood : Tryz.prog.stoodInHeld 126 = false := by kernel_rfl
theorem mark_guard : Tryz.prog.eqGuardType Tryz.prog.depth 126 = false := by kernel_rfl
theorem mark_fields : Tryz.prog.underlying 126 = some (.struct (Tryz.prog.fieldsOf 126)) := by kernel_rfl
theorem mark_eq (w : World) (sx sy : Int) (tx ty : ByteArray) :
    (Op.equalIn 10000 126 (.agg #[.int .u8 sx, .string tx]) (.agg #[.int .u8 sy, .string ty])).run Tryz.prog w = .ok (sx == sy && tx.toList == ty.toList) w := by
  rw [run_equalIn_struct w 9999 _ _ _ mark_fields mark_stood]
  have hu := Tryz.underlying126
  simp [Program.fieldsOf, hu, Op.eqFields, part, go_sem]
  by_cases h1 : sx = sy <;> by_cases h2 : tx.toList = ty.toList <;> simp [h1, h2]
theorem mark_ne {x y : Mark} (h : x ≠ y) : (x.sign == y.sign && x.text.toList == y.text.toList) = false := by
  obtain ⟨sx, tx⟩ := x
  obtain ⟨sy, ty⟩ := y
  by_cases h1 : sx = sy
  · have h2 : tx ≠ ty := fun e => h (by rw [h1, e])
    simp [str_beq_false h2]
  · simp [h1]

theorem marks_any (l m : List Mark) (v u : Value) (w : World) (h : Rdv w Never v l) (g : Rdv w Never u m) :
    Calls Tryz.prog 165 #[v, u] w fun e w' => e = .returned (.bool (decide (l = m))) ∧ Chg Never w w' := by
  obtain ⟨a, cap, rfl, h1, h2, h3⟩ := rdv_slice h
  obtain ⟨c, cap', rfl, g1, g2, g3⟩ := rdv_slice g
  unfold maxLen at h2 g2
  by_cases h4 : l.length = m.length
  · have h4' : ((l.length : Int) != m.length) = false := by simp [h4]
    have H4 := Lib.hid h4
    clear h4
    go_enter Tryz.func165, Tryz.ntmps165
    go_wp2
    go_loopw [5] (fun i wr => ∃ k : Nat, k ≤ l.length ∧ i = .int .i64 k ∧ Hid (l.take k = m.take k) ∧ Chg Never w wr) (fun i _ => l.length - (intOf i).toNat)
    case atStart => exact ⟨0, Nat.zero_le _, rfl, by simp [Hid], Chg.refl _ _⟩
    case round =>
      obtain ⟨k, hk, rfl, hf, hc⟩ := hrel
      by_cases hlt : k < l.length
      · obtain ⟨x, hx⟩ : ∃ x, l[k]? = some x := ⟨l[k], by simp [hlt]⟩
        obtain ⟨y, hy⟩ : ∃ y, m[k]? = some y := ⟨m[k]'(by rw [← H4.out]; exact hlt), by simp [H4.out ▸ hlt]⟩
        obtain ⟨b, off, rfl, _, _, c0, c1, s0, s1, hxs⟩ := elems_mark h3 hx
        obtain ⟨b', off', rfl, _, _, d0, d1, r0, r1, hys⟩ := elems_mark g3 hy
        have c0 := hc.cellNever c0
        have c1 := hc.cellNever c1
        have d0 := hc.cellNever d0
        have d1 := hc.cellNever d1
        clear h3 g3 h g
        have hlm : k < m.length := by rw [← H4.out]; exact hlt
        have HX := Lib.hid hx
        have HY := Lib.hid hy
        clear hx hy
        have b1 : (k : Int) < l.length := by omega
        have b2 : (k : Int) < m.length := by omega
        have heq := mark_eq
        have hgd := mark_guard
        by_cases hxy : x = y
        · have HXY := Lib.hid hxy
          subst hxy
          obtain ⟨sx, tx⟩ := x
          simp only at c0 c1 d0 d1 s0 s1 r0 r1 hxs hys
          go_wp2
          go_quiet (fail)
          go_wp2
          go_roundw
          case rel => exact ⟨k + 1, by omega, by go_num, take_same hf HX.out HY.out, hc.drewN _⟩
          case measure => simp [intOf] <;> omega
        · have hne := mark_ne hxy
          have HXY := Lib.hid hxy
          obtain ⟨sx, tx⟩ := x
          obtain ⟨sy, ty⟩ := y
          simp only at c0 c1 d0 d1 s0 s1 r0 r1 hxs hys hne
          clear hxy
          go_wp2
          go_quiet (fail)
          go_wp2
          go_ret
          exact ⟨by rw [decide_eq_false (ne_of_get HX.out HY.out HXY.out)]; rfl, hc.drewN _⟩
      · go_wp2
        go_ret
        have E : l = m := by
          have := hf.out
          rwa [List.take_of_length_le (by omega), List.take_of_length_le (by rw [← H4.out]; omega)] at this
        exact ⟨by rw [decide_eq_true E]; rfl, hc⟩
  · have h4' : ((l.length : Int) != m.length) = true := by simp; omega
    go_enter Tryz.func165, Tryz.ntmps165
    go_wp2
    go_ret
    exact ⟨by rw [decide_eq_false (fun e => h4 (by rw [e]))]; rfl, Chg.refl _ _⟩
end Go.Proofs.YtjiaidchcldocaaGreatDoor
namespace Go.Proofs.YtjiaidchcldocaaGreatDoor
open Go.RowKit

theorem script_keep {l m : List ByteArray} {i k : Nat} {x : ByteArray} (hx : l[i]? = some x) (hy : m[k]? = some x) : script (l.drop i) (m.drop k) = ⟨32, x⟩ :: script (l.drop (i + 1)) (m.drop (k + 1)) := by
  rw [drop_eq hx, drop_eq hy, script, if_pos rfl]
theorem script_take {l m : List ByteArray} {i k : Nat} {x : ByteArray} (hx : l[i]? = some x) (hy : ∀ y, m[k]? = some y → x ≠ y) (h : far (l.drop (i + 1)) (m.drop k) + 1 = far (l.drop i) (m.drop k)) :
    script (l.drop i) (m.drop k) = ⟨45, x⟩ :: script (l.drop (i + 1)) (m.drop k) := by
  rcases Nat.lt_or_ge k m.length with hk | hk
  · have hm : m[k]? = some m[k] := by simp [hk]
    rw [drop_eq hx] at h ⊢
    rw [drop_eq hm] at h ⊢
    rw [script, if_neg (hy _ hm), if_pos h]
  · rw [List.drop_of_length_le hk, drop_eq hx, script]
theorem script_put {l m : List ByteArray} {i k : Nat} {y : ByteArray} (hy : m[k]? = some y) (hx : ∀ x, l[i]? = some x → x ≠ y ∧ far (l.drop (i + 1)) (m.drop k) + 1 ≠ far (l.drop i) (m.drop k)) :
    script (l.drop i) (m.drop k) = ⟨43, y⟩ :: script (l.drop i) (m.drop (k + 1)) := by
  rcases Nat.lt_or_ge i l.length with hi | hi
  · have hl : l[i]? = some l[i] := by simp [hi]
    obtain ⟨h1, h2⟩ := hx _ hl
    rw [drop_eq hl] at h2 ⊢
    rw [drop_eq hy] at h2 ⊢
    rw [script, if_neg h1, if_neg h2]
  · rw [List.drop_of_length_le hi, drop_eq hy, script]

theorem Fil.keep {T : Nat} {wr w' : World} {l m : List ByteArray} {x y : Int} {O : Nat → Prop} (h : Fil T wr l m x y) (hc : Chg O wr w') (hT : ¬ O T) : Fil T w' l m x y := by
  obtain ⟨c, h1, h2⟩ := h
  refine ⟨c, ?_, h2⟩
  rw [hc.block T (Array.getElem?_eq_some_iff.1 h1).1 hT]
  exact h1
theorem own_step' {α : Type} [Dat α] {e : TypeId} {w wr w' : World} {v : Value} {l : List α} {B : Nat} (hc : Chg Never w wr) (hB : w.heap.size ≤ B) (hown : Own e wr (Old B) v l) (hc' : Chg (OwnB v) wr w') : Chg Never w w' := by
  refine hc.trans' hc' ?_
  intro i hi ho
  obtain ⟨xs, _, hb, _⟩ := hown
  exact (hb i ho (Nat.lt_of_lt_of_le hi hB)).elim
theorem own_not {α : Type} [Dat α] {e : TypeId} {wr : World} {v : Value} {l : List α} {B k : Nat} (hown : Own e wr (Old B) v l) (hk : k < B) : ¬ OwnB v k := by
  obtain ⟨xs, _, hb, _⟩ := hown
  exact fun h => hb k h hk

theorem rd_mark (w : World) (O : Nat → Prop) (sg : Int) (tx : ByteArray) (h0 : 0 ≤ sg) (h1 : sg < 256) (h2 : tx.size ≤ maxLen) : Dat.rd w O [.int .u8 sg, .string tx] (⟨sg, tx⟩ : Mark) := ⟨rfl, h0, h1, h2⟩

def scriptR (l m : List ByteArray) : List Mark := if checkedFault l m = 0 then script l m else []


set_option maxHeartbeats 1000000 in
set_option maxRecDepth 100000 in
theorem script_ok (l m : List ByteArray) (v u : Value) (w : World) (h : Rdv w Never v l) (g : Rdv w Never u m) (hz : checkedFault l m = 0) :
    Calls Tryz.prog 110 #[v, u] w fun e w' => ∃ r, e = .returned (.tuple #[r, .nilIface]) ∧ Chg Never w w' ∧ Rdv w' (Old w.heap.size) r (script l m) := by
  have hlm := checkedFault_zero.1 hz
  have hl := linesFault_len hlm.1
  have hm := linesFault_len hlm.2
  obtain ⟨a, cap, rfl, h1, h2, h3⟩ := rdv_slice h
  obtain ⟨c, cap', rfl, g1, g2, g3⟩ := rdv_slice g
  unfold maxLen at h2 g2
  go_enter Tryz.func110, Tryz.ntmps110
  go_wp2_with fail
  refine (checked_any l m _ _ _ h g).mono ?_
  rintro e w' ⟨rfl, rfl⟩
  rw [hz, errV_zero]
  clear hz hlm
  go_wp2_with fail
  refine (measure_any l m _ _ _ h g hl hm).mono ?_
  rintro e w1 ⟨rfl, hc1, hF1⟩
  go_wp2_with fail
  go_loopw [8, 9, 10] (fun o s9 s10 wr => ∃ (i k : Nat) (pre : List Mark), i ≤ l.length ∧ k ≤ m.length ∧ s9 = .int .i64 i ∧ s10 = .int .i64 k ∧ Chg Never w wr ∧ Fil w.heap.size wr l m (-1) m.length ∧
      Own 126 wr (Old (w.heap.size + 1)) o pre ∧ Hid (pre.length ≤ i + k) ∧ Hid (pre ++ script (l.drop i) (m.drop k) = script l m)) (fun _ s9 s10 _ => (l.length - (intOf s9).toNat) + (m.length - (intOf s10).toNat))
  case atStart => exact ⟨0, 0, [], Nat.zero_le _, Nat.zero_le _, rfl, rfl, hc1, hF1, own_nil _ _ _, Nat.zero_le _, by simp [Hid]⟩
  case round =>
    clear hc1 hF1
    obtain ⟨i, k, pre, hi, hk, rfl, rfl, hc, hF, hown, hpl0, hpre⟩ := hrel
    have hpl : pre.length ≤ 120 := by have := hpl0.out; omega
    have hO : ∀ k, Old (w.heap.size + 1) k → k < wr.heap.size := by
      obtain ⟨cc, hcc, _⟩ := hF
      have := (Array.getElem?_eq_some_iff.1 hcc).1
      intro k hk
      unfold Old at hk
      omega
    have f1 := far_lt hl hm (i + 1) k
    have f2 := far_lt hl hm i k
    by_cases hil : i < l.length
    · obtain ⟨s, hs⟩ : ∃ s, l[i]? = some s := ⟨l[i], by simp [hil]⟩
      obtain ⟨b, off, rfl, _, hbl, hcx, hxs⟩ := elems_str h3 hs
      have hcx := hc.cellNever hcx
      have HS := Lib.hid hs
      have b1 : (i : Int) < l.length := by omega
      have d1 := hF.cell (i := i + 1) (k := k) (by omega) (by omega) (by omega)
      have d2 := hF.cell (i := i) (k := k) (by omega) (by omega) (by omega)
      have e1 : IntKind.i64.wrap ((i : Int) + 1) = (i : Int) + 1 := IntWalk.i64_in _ (by omega)
      have e3 : (0 : Int) ≤ (i : Int) + 1 := by omega
      have e5 : (i : Int) + 1 < 61 := by omega
      have e7 : ((i : Int) + 1).toNat = i + 1 := by omega
      have e9 : (i : Int) < 61 := by omega
      have e10 : (k : Int) < 61 := by omega
      have e11 : IntKind.i64.wrap ((far (l.drop (i + 1)) (m.drop k) : Int) + 1) = (far (l.drop (i + 1)) (m.drop k) : Int) + 1 := IntWalk.i64_in _ (by omega)
      by_cases hkm : k < m.length
      · obtain ⟨t, ht⟩ : ∃ t, m[k]? = some t := ⟨m[k], by simp [hkm]⟩
        obtain ⟨b', off', rfl, _, hbl', hcy, hys⟩ := elems_str g3 ht
        have hcy := hc.cellNever hcy
        have HT := Lib.hid ht
        have b2 : (k : Int) < m.length := by omega
        clear h3 g3 h g hs ht
        by_cases hst : s = t
        · subst hst
          clear e1 e3 e5 e7 e9 e10 e11 d1 d2
          go_wp2_with fail
          go_quiet (fail)
          generalize hw2 : World.drewN wr _ = wr2
          have hc : Chg Never w wr2 := hw2 ▸ hc.drewN _
          have hF : Fil w.heap.size wr2 l m (-1) m.length := hw2 ▸ hF.drewN _
          have hown : Own 126 wr2 (Old (w.heap.size + 1)) _ pre := hw2 ▸ hown.never ((Chg.refl _ wr).drewN _)
          have hO : ∀ k, Old (w.heap.size + 1) k → k < (wr2).heap.size := hw2 ▸ hO
          have hcx : wr2.cell? ⟨b, off + i, none⟩ = some (.string s) := hw2 ▸ hcx
          have hcy : wr2.cell? ⟨b', off' + k, none⟩ = some (.string s) := hw2 ▸ hcy
          clear hw2
          go_wp2_with (at_builtin; refine wpList_push rfl _ _ 127 rfl elemOk_mark (O := Old (w.heap.size + 1)) (l := pre) (y := ⟨32, s⟩) rfl rfl rfl hown (rd_mark _ _ 32 s (by decide) (by decide) (by assumption)) hO (by omega) ?_; intro v' w5 hown2 hc2 _)
          have hc3 := own_step' hc (Nat.le_succ _) hown hc2
          have hF3 := hF.keep hc2 (own_not hown (Nat.lt_succ_self _))
          clear hc2 hc hF hown
          go_wp2_with fail
          go_roundw
          case rel => exact ⟨i + 1, k + 1, _, by omega, by omega, by go_num, by go_num, hc3, hF3, hown2, by have := hpl0.out; show (pre ++ [_]).length ≤ _; simp; omega, by have := hpre.out; rw [script_keep HS.out HT.out] at this; rw [Hid, ← this]; simp⟩
          case measure => simp [intOf] <;> omega
        · have hne := str_beq_false hst
          have HST := Lib.hid hst
          clear hst
          by_cases htk : far (l.drop (i + 1)) (m.drop k) + 1 = far (l.drop i) (m.drop k)
          · have t1 : ((far (l.drop (i + 1)) (m.drop k) : Int) + 1 == far (l.drop i) (m.drop k)) = true := by simp; omega
            have HTK := Lib.hid htk
            clear htk
            go_wp2_with fail
            go_quiet (fail)
            generalize hw2 : World.drewN wr _ = wr2
            have hc : Chg Never w wr2 := hw2 ▸ hc.drewN _
            have hF : Fil w.heap.size wr2 l m (-1) m.length := hw2 ▸ hF.drewN _
            have hown : Own 126 wr2 (Old (w.heap.size + 1)) _ pre := hw2 ▸ hown.never ((Chg.refl _ wr).drewN _)
            have hO : ∀ k, Old (w.heap.size + 1) k → k < (wr2).heap.size := hw2 ▸ hO
            have hcx : wr2.cell? ⟨b, off + i, none⟩ = some (.string s) := hw2 ▸ hcx
            have d1 : wr2.cell? ⟨w.heap.size, (i + 1) * 61 + k, none⟩ = some (.int .i64 (far (l.drop (i + 1)) (m.drop k))) := hw2 ▸ d1
            have d2 : wr2.cell? ⟨w.heap.size, i * 61 + k, none⟩ = some (.int .i64 (far (l.drop i) (m.drop k))) := hw2 ▸ d2
            clear hw2
            go_wp2_with fail
            go_quiet (fail)
            clear e1 e3 e5 e7 e9 e10 e11 d1 d2
            generalize hw2 : World.drewN wr2 _ = wr3
            have hc : Chg Never w wr3 := hw2 ▸ hc.drewN _
            have hF : Fil w.heap.size wr3 l m (-1) m.length := hw2 ▸ hF.drewN _
            have hown : Own 126 wr3 (Old (w.heap.size + 1)) _ pre := hw2 ▸ hown.never ((Chg.refl _ wr2).drewN _)
            have hO : ∀ k, Old (w.heap.size + 1) k → k < (wr3).heap.size := hw2 ▸ hO
            have hcx : wr3.cell? ⟨b, off + i, none⟩ = some (.string s) := hw2 ▸ hcx
            clear hw2
            go_wp2_with (at_builtin; refine wpList_push rfl _ _ 127 rfl elemOk_mark (O := Old (w.heap.size + 1)) (l := pre) (y := ⟨45, s⟩) rfl rfl rfl hown (rd_mark _ _ 45 s (by decide) (by decide) (by assumption)) hO (by omega) ?_; intro v' w5 hown2 hc2 _)
            have hc3 := own_step' hc (Nat.le_succ _) hown hc2
            have hF3 := hF.keep hc2 (own_not hown (Nat.lt_succ_self _))
            clear hc2 hc hF hown
            go_wp2_with fail
            go_roundw
            case rel => exact ⟨i + 1, k, _, by omega, by omega, by go_num, by go_num, hc3, hF3, hown2, by have := hpl0.out; show (pre ++ [_]).length ≤ _; simp; omega, by have := hpre.out; rw [script_take HS.out (fun y hy => by rw [HT.out] at hy; injection hy with hy; subst hy; exact HST.out) HTK.out] at this; rw [Hid, ← this]; simp⟩
            case measure => simp [intOf] <;> omega
          · have t1 : ((far (l.drop (i + 1)) (m.drop k) : Int) + 1 == far (l.drop i) (m.drop k)) = false := by simp; omega
            have HTK := Lib.hid htk
            clear htk
            go_wp2_with fail
            go_quiet (fail)
            generalize hw2 : World.drewN wr _ = wr2
            have hc : Chg Never w wr2 := hw2 ▸ hc.drewN _
            have hF : Fil w.heap.size wr2 l m (-1) m.length := hw2 ▸ hF.drewN _
            have hown : Own 126 wr2 (Old (w.heap.size + 1)) _ pre := hw2 ▸ hown.never ((Chg.refl _ wr).drewN _)
            have hO : ∀ k, Old (w.heap.size + 1) k → k < (wr2).heap.size := hw2 ▸ hO
            have hcy : wr2.cell? ⟨b', off' + k, none⟩ = some (.string t) := hw2 ▸ hcy
            have d1 : wr2.cell? ⟨w.heap.size, (i + 1) * 61 + k, none⟩ = some (.int .i64 (far (l.drop (i + 1)) (m.drop k))) := hw2 ▸ d1
            have d2 : wr2.cell? ⟨w.heap.size, i * 61 + k, none⟩ = some (.int .i64 (far (l.drop i) (m.drop k))) := hw2 ▸ d2
            clear hw2
            go_wp2_with fail
            go_quiet (fail)
            clear e1 e3 e5 e7 e9 e10 e11 d1 d2
            generalize hw2 : World.drewN wr2 _ = wr3
            have hc : Chg Never w wr3 := hw2 ▸ hc.drewN _
            have hF : Fil w.heap.size wr3 l m (-1) m.length := hw2 ▸ hF.drewN _
            have hown : Own 126 wr3 (Old (w.heap.size + 1)) _ pre := hw2 ▸ hown.never ((Chg.refl _ wr2).drewN _)
            have hO : ∀ k, Old (w.heap.size + 1) k → k < (wr3).heap.size := hw2 ▸ hO
            have hcy : wr3.cell? ⟨b', off' + k, none⟩ = some (.string t) := hw2 ▸ hcy
            clear hw2
            go_wp2_with (at_builtin; refine wpList_push rfl _ _ 127 rfl elemOk_mark (O := Old (w.heap.size + 1)) (l := pre) (y := ⟨43, t⟩) rfl rfl rfl hown (rd_mark _ _ 43 t (by decide) (by decide) (by assumption)) hO (by omega) ?_; intro v' w5 hown2 hc2 _)
            have hc3 := own_step' hc (Nat.le_succ _) hown hc2
            have hF3 := hF.keep hc2 (own_not hown (Nat.lt_succ_self _))
            clear hc2 hc hF hown
            go_wp2_with fail
            go_roundw
            case rel => exact ⟨i, k + 1, _, by omega, by omega, by go_num, by go_num, hc3, hF3, hown2, by have := hpl0.out; show (pre ++ [_]).length ≤ _; simp; omega, by have := hpre.out; rw [script_put HT.out (fun x hx => by rw [HS.out] at hx; injection hx with hx; subst hx; exact ⟨HST.out, HTK.out⟩)] at this; rw [Hid, ← this]; simp⟩
            case measure => simp [intOf] <;> omega
      · obtain rfl : k = m.length := by omega
        have g2' : decide ((m.length : Int) < m.length) = false := by simp
        rw [List.drop_length] at d1 d2 e11 f1 f2
        have htk : far (l.drop (i + 1)) [] + 1 = far (l.drop i) [] := by
          rw [far_nil', far_nil', List.length_drop, List.length_drop]; omega
        have t1 : ((far (l.drop (i + 1)) [] : Int) + 1 == far (l.drop i) []) = true := by rw [beq_iff_eq]; omega
        have HTK := Lib.hid htk
        clear htk hs h3 g3 h g
        go_wp2_with fail
        go_quiet (fail)
        generalize hw2 : World.drewN wr _ = wr2
        have hc : Chg Never w wr2 := hw2 ▸ hc.drewN _
        have hF : Fil w.heap.size wr2 l m (-1) m.length := hw2 ▸ hF.drewN _
        have hown : Own 126 wr2 (Old (w.heap.size + 1)) _ pre := hw2 ▸ hown.never ((Chg.refl _ wr).drewN _)
        have hO : ∀ k, Old (w.heap.size + 1) k → k < (wr2).heap.size := hw2 ▸ hO
        have hcx : wr2.cell? ⟨b, off + i, none⟩ = some (.string s) := hw2 ▸ hcx
        have d1 : wr2.cell? ⟨w.heap.size, (i + 1) * 61 + m.length, none⟩ = some (.int .i64 (far (l.drop (i + 1)) [])) := hw2 ▸ d1
        have d2 : wr2.cell? ⟨w.heap.size, i * 61 + m.length, none⟩ = some (.int .i64 (far (l.drop i) [])) := hw2 ▸ d2
        clear hw2
        go_wp2_with fail
        go_quiet (fail)
        clear e1 e3 e5 e7 e9 e10 e11 d1 d2
        generalize hw2 : World.drewN wr2 _ = wr3
        have hc : Chg Never w wr3 := hw2 ▸ hc.drewN _
        have hF : Fil w.heap.size wr3 l m (-1) m.length := hw2 ▸ hF.drewN _
        have hown : Own 126 wr3 (Old (w.heap.size + 1)) _ pre := hw2 ▸ hown.never ((Chg.refl _ wr2).drewN _)
        have hO : ∀ k, Old (w.heap.size + 1) k → k < (wr3).heap.size := hw2 ▸ hO
        have hcx : wr3.cell? ⟨b, off + i, none⟩ = some (.string s) := hw2 ▸ hcx
        clear hw2
        go_wp2_with (at_builtin; refine wpList_push rfl _ _ 127 rfl elemOk_mark (O := Old (w.heap.size + 1)) (l := pre) (y := ⟨45, s⟩) rfl rfl rfl hown (rd_mark _ _ 45 s (by decide) (by decide) (by assumption)) hO (by omega) ?_; intro v' w5 hown2 hc2 _)
        have hc3 := own_step' hc (Nat.le_succ _) hown hc2
        have hF3 := hF.keep hc2 (own_not hown (Nat.lt_succ_self _))
        clear hc2 hc hF hown
        go_wp2_with fail
        go_roundw
        case rel => exact ⟨i + 1, m.length, _, by omega, by omega, by go_num, by go_num, hc3, hF3, hown2, by have := hpl0.out; show (pre ++ [_]).length ≤ _; simp; omega, by have := hpre.out; rw [script_take HS.out (fun y hy => by simp at hy) (by rw [List.drop_length]; exact HTK.out)] at this; rw [Hid, ← this]; simp⟩
        case measure => simp [intOf] <;> omega
    · obtain rfl : i = l.length := by omega
      have g1' : decide ((l.length : Int) < l.length) = false := by simp
      by_cases hkm : k < m.length
      · obtain ⟨t, ht⟩ : ∃ t, m[k]? = some t := ⟨m[k], by simp [hkm]⟩
        obtain ⟨b', off', rfl, _, hbl', hcy, hys⟩ := elems_str g3 ht
        have hcy := hc.cellNever hcy
        have HT := Lib.hid ht
        have b2 : (k : Int) < m.length := by omega
        clear h3 g3 h g ht f1 f2
        go_wp2_with fail
        go_quiet (fail)
        generalize hw2 : World.drewN wr _ = wr2
        have hc : Chg Never w wr2 := hw2 ▸ hc.drewN _
        have hF : Fil w.heap.size wr2 l m (-1) m.length := hw2 ▸ hF.drewN _
        have hown : Own 126 wr2 (Old (w.heap.size + 1)) _ pre := hw2 ▸ hown.never ((Chg.refl _ wr).drewN _)
        have hO : ∀ k, Old (w.heap.size + 1) k → k < (wr2).heap.size := hw2 ▸ hO
        have hcy : wr2.cell? ⟨b', off' + k, none⟩ = some (.string t) := hw2 ▸ hcy
        clear hw2
        go_wp2_with fail
        go_quiet (fail)
        generalize hw2 : World.drewN wr2 _ = wr3
        have hc : Chg Never w wr3 := hw2 ▸ hc.drewN _
        have hF : Fil w.heap.size wr3 l m (-1) m.length := hw2 ▸ hF.drewN _
        have hown : Own 126 wr3 (Old (w.heap.size + 1)) _ pre := hw2 ▸ hown.never ((Chg.refl _ wr2).drewN _)
        have hO : ∀ k, Old (w.heap.size + 1) k → k < (wr3).heap.size := hw2 ▸ hO
        have hcy : wr3.cell? ⟨b', off' + k, none⟩ = some (.string t) := hw2 ▸ hcy
        clear hw2
        go_wp2_with (at_builtin; refine wpList_push rfl _ _ 127 rfl elemOk_mark (O := Old (w.heap.size + 1)) (l := pre) (y := ⟨43, t⟩) rfl rfl rfl hown (rd_mark _ _ 43 t (by decide) (by decide) (by assumption)) hO (by omega) ?_; intro v' w5 hown2 hc2 _)
        have hc3 := own_step' hc (Nat.le_succ _) hown hc2
        have hF3 := hF.keep hc2 (own_not hown (Nat.lt_succ_self _))
        clear hc2 hc hF hown
        go_wp2_with fail
        go_roundw
        case rel => exact ⟨l.length, k + 1, _, by omega, by omega, by go_num, by go_num, hc3, hF3, hown2, by have := hpl0.out; show (pre ++ [_]).length ≤ _; simp; omega, by have := hpre.out; rw [script_put HT.out (fun x hx => by simp at hx)] at this; rw [Hid, ← this]; simp⟩
        case measure => simp [intOf] <;> omega
      · obtain rfl : k = m.length := by omega
        go_wp2_with fail
        go_ret2
        have E : pre = script l m := by have := hpre.out; rw [List.drop_length, List.drop_length, script, List.append_nil] at this; exact this
        exact ⟨_, rfl, hc, E ▸ hown.rdv.sub (fun k _ hk => by unfold Old at *; omega)⟩

theorem script_any (l m : List ByteArray) (v u : Value) (w : World) (h : Rdv w Never v l) (g : Rdv w Never u m) :
    Calls Tryz.prog 110 #[v, u] w fun e w' => ∃ r, e = .returned (.tuple #[r, errV (checkedFault l m)]) ∧ Chg Never w w' ∧ Rdv w' (Old w.heap.size) r (scriptR l m) := by
  by_cases hz : checkedFault l m = 0
  · refine (script_ok l m v u w h g hz).mono ?_
    rintro e w' ⟨r, rfl, hc, hr⟩
    exact ⟨r, by rw [hz, errV_zero], hc, by unfold scriptR; rw [if_pos hz]; exact hr⟩
  · go_enter Tryz.func110, Tryz.ntmps110
    go_wp2_with fail
    refine (checked_any l m _ _ _ h g).mono ?_
    rintro e w' ⟨rfl, rfl⟩
    rw [errV_pos hz]
    go_wp2_with fail
    go_ret2
    exact ⟨.slice none 0 0, by rw [errV_pos hz]; rfl, Chg.refl _ _, by unfold scriptR; rw [if_neg hz]; exact rdv_nil _ _⟩

/-! ### a script of lines that may be, may be -/
theorem linesFault_zero {l : List ByteArray} : linesFault l = 0 ↔ l.length ≤ 60 ∧ ∀ x ∈ l, lineFault x = 0 := by
  unfold linesFault
  by_cases h : 60 < l.length
  · simp [h]; omega
  · simp only [if_neg h, firstOf_zero]
    exact ⟨fun h' => ⟨by omega, h'⟩, fun h' => h'.2⟩
theorem scriptFault_zero {l : List Mark} : scriptFault l = 0 ↔ l.length ≤ 120 ∧ ∀ x ∈ l, markFault x = 0 := by
  unfold scriptFault
  by_cases h : 120 < l.length
  · simp [h]; omega
  · simp only [if_neg h, firstOf_zero]
    exact ⟨fun h' => ⟨by omega, h'⟩, fun h' => h'.2⟩
theorem script_mem : ∀ (n : Nat) (a b : List ByteArray), a.length + b.length = n → (script a b).length ≤ n ∧ ∀ x ∈ script a b, x.text ∈ a ∨ x.text ∈ b := by
  intro n
  induction n using Nat.strongRecOn with
  | _ n ih =>
    intro a b hn
    match a, b with
    | [], [] => rw [script]; simp
    | x :: a, [] =>
      obtain ⟨h1, h2⟩ := ih (n - 1) (by simp only [List.length_cons, List.length_nil] at hn ⊢; omega) a [] (by simp only [List.length_cons, List.length_nil] at hn ⊢; omega)
      rw [script]
      simp only [List.length_cons, List.length_nil] at hn ⊢
      refine ⟨by omega, ?_⟩
      intro y hy
      rcases List.mem_cons.1 hy with rfl | hy
      · simp
      · rcases h2 y hy with h | h <;> simp_all
    | [], y :: b =>
      obtain ⟨h1, h2⟩ := ih (n - 1) (by simp only [List.length_cons, List.length_nil] at hn ⊢; omega) [] b (by simp only [List.length_cons, List.length_nil] at hn ⊢; omega)
      rw [script]
      simp only [List.length_cons, List.length_nil] at hn ⊢
      refine ⟨by omega, ?_⟩
      intro z hz
      rcases List.mem_cons.1 hz with rfl | hz
      · simp
      · rcases h2 z hz with h | h <;> simp_all
    | x :: a, y :: b =>
      simp only [List.length_cons] at hn
      obtain ⟨p1, p2⟩ := ih (n - 2) (by omega) a b (by omega)
      obtain ⟨q1, q2⟩ := ih (n - 1) (by omega) a (y :: b) (by simp only [List.length_cons]; omega)
      obtain ⟨r1, r2⟩ := ih (n - 1) (by omega) (x :: a) b (by simp only [List.length_cons]; omega)
      rw [script]
      split
      · refine ⟨by simp only [List.length_cons]; omega, ?_⟩
        intro z hz
        rcases List.mem_cons.1 hz with rfl | hz
        · simp
        · rcases p2 z hz with h | h <;> simp [h]
      · split
        · refine ⟨by simp only [List.length_cons]; omega, ?_⟩
          intro z hz
          rcases List.mem_cons.1 hz with rfl | hz
          · simp
          · rcases q2 z hz with h | h
            · simp [h]
            · exact .inr h
        · refine ⟨by simp only [List.length_cons]; omega, ?_⟩
          intro z hz
          rcases List.mem_cons.1 hz with rfl | hz
          · simp
          · rcases r2 z hz with h | h
            · exact .inl h
            · simp [h]
theorem script_valid {a b : List ByteArray} (h : checkedFault a b = 0) : scriptFault (script a b) = 0 := by
  obtain ⟨h1, h2⟩ := checkedFault_zero.1 h
  rw [linesFault_zero] at h1 h2
  obtain ⟨s1, s2⟩ := script_mem _ a b rfl
  rw [scriptFault_zero]
  refine ⟨by omega, ?_⟩
  intro x hx
  have hs := script_signs a b x hx
  have ht : lineFault x.text = 0 := by
    rcases s2 x hx with h | h
    · exact h1.2 _ h
    · exact h2.2 _ h
  unfold markFault
  rw [if_neg (by omega), ht]
end Go.Proofs.YtjiaidchcldocaaGreatDoor
namespace Go.Proofs.YtjiaidchcldocaaGreatDoor
open Go.RowKit

theorem kept_any (sg : Int) (tx : ByteArray) (w : World) :
    Calls Tryz.prog 212 #[.agg #[.int .u8 sg, .string tx]] w fun e w' => e = .returned (.bool (sg == 32)) ∧ Chg Never w w' := by
  go_enter Tryz.func212, Tryz.ntmps212
  go_wp2
  go_ret
  exact ⟨rfl, by repeat (first | exact Chg.refl _ _ | apply Chg.alloc)⟩
theorem changed_any (sg : Int) (tx : ByteArray) (w : World) :
    Calls Tryz.prog 182 #[.agg #[.int .u8 sg, .string tx]] w fun e w' => e = .returned (.bool (!(sg == 32))) ∧ Chg Never w w' := by
  go_enter Tryz.func182, Tryz.ntmps182
  go_wp2_with (go_at_call 212; refine (kept_any _ _ _).mono ?_; rintro e w1 ⟨rfl, hc1⟩)
  go_ret
  exact ⟨rfl, ((Chg.refl _ _).alloc _).trans hc1⟩

theorem oldN_take {l : List Mark} {k : Nat} {x : Mark} (hx : l[k]? = some x) : oldN (l.take (k + 1)) = oldN (l.take k) + (if x.sign = 43 then 0 else 1) := by
  unfold oldN
  rw [those_take hx]
  by_cases h : x.sign = 43 <;> simp [h]
theorem newN_take {l : List Mark} {k : Nat} {x : Mark} (hx : l[k]? = some x) : newN (l.take (k + 1)) = newN (l.take k) + (if x.sign = 45 then 0 else 1) := by
  unfold newN
  rw [those_take hx]
  by_cases h : x.sign = 45 <;> simp [h]
theorem oldN_le (l : List Mark) : oldN l ≤ l.length := those_le _ _
theorem newN_le (l : List Mark) : newN l ≤ l.length := those_le _ _

theorem size_any (h : Hunk) (mv : Value) (w : World) (hm : Rdv w Never mv h.marks) :
    Calls Tryz.prog 115 #[.agg #[.int .i64 h.old, .int .i64 h.new, mv]] w fun e w' => e = .returned (.tuple #[.int .i64 (oldN h.marks), .int .i64 (newN h.marks)]) ∧ Chg Never w w' := by
  obtain ⟨o, n, l⟩ := h
  simp only at hm ⊢
  obtain ⟨a, cap, rfl, h1, h2, h3⟩ := rdv_slice hm
  unfold maxLen at h2
  go_enter Tryz.func115, Tryz.ntmps115
  go_wp2
  go_loopw [2, 3, 9] (fun s2 s3 i wr => ∃ k : Nat, k ≤ l.length ∧ i = .int .i64 k ∧ s2 = .int .i64 (oldN (l.take k)) ∧ s3 = .int .i64 (newN (l.take k)) ∧ Chg Never w wr) (fun _ _ i _ => l.length - (intOf i).toNat)
  case atStart => exact ⟨0, Nat.zero_le _, rfl, rfl, rfl, (Chg.refl _ _).alloc _⟩
  case round =>
    obtain ⟨k, hk, rfl, rfl, rfl, hc⟩ := hrel
    by_cases hlt : k < l.length
    · obtain ⟨x, hx⟩ : ∃ x, l[k]? = some x := ⟨l[k], by simp [hlt]⟩
      obtain ⟨b, off, rfl, _, _, c0, c1, s0, s1, hxs⟩ := elems_mark h3 hx
      have c0 := hc.cellNever c0
      have c1 := hc.cellNever c1
      have HO := Lib.hid (oldN_take hx)
      have HN := Lib.hid (newN_take hx)
      have l1 : oldN (l.take k) ≤ k := Nat.le_trans (oldN_le _) (List.length_take_le _ _)
      have l2 : newN (l.take k) ≤ k := Nat.le_trans (newN_le _) (List.length_take_le _ _)
      clear hx h3 hm
      obtain ⟨sg, tx⟩ := x
      simp only at c0 c1 s0 s1 hxs
      by_cases h43 : sg = 43
      · subst h43
        go_wp2
        go_roundw
        case rel => exact ⟨k + 1, by omega, by go_num, by rw [HO.out]; rfl, by rw [HN.out]; go_num, hc.alloc _⟩
        case measure => simp [intOf] <;> omega
      · have t1 : (sg != 43) = true := by simp [h43]
        by_cases h45 : sg = 45
        · subst h45
          go_wp2
          go_roundw
          case rel => exact ⟨k + 1, by omega, by go_num, by rw [HO.out]; go_num, by rw [HN.out]; rfl, hc.alloc _⟩
          case measure => simp [intOf] <;> omega
        · have t2 : (sg != 45) = true := by simp [h45]
          have H43 := Lib.hid h43
          have H45 := Lib.hid h45
          clear h43 h45
          go_wp2
          go_roundw
          case rel => exact ⟨k + 1, by omega, by go_num, by rw [HO.out, if_neg H43.out]; go_num, by rw [HN.out, if_neg H45.out]; go_num, hc.alloc _⟩
          case measure => simp [intOf] <;> omega
    · go_wp2
      go_ret2
      exact ⟨by rw [List.take_of_length_le (by omega)]; rfl, hc⟩

theorem hasChange_take {l : List Mark} {k : Nat} {x : Mark} (hx : l[k]? = some x) (h : hasChange (l.take k) = false) : hasChange (l.take (k + 1)) = (!(x.sign == 32)) := by
  rw [List.take_add_one, hx]
  unfold hasChange at *
  rw [List.any_append, h]
  by_cases h1 : x.sign = 32 <;> simp [h1]
theorem hasChange_of {l : List Mark} {k : Nat} (h : hasChange (l.take k) = true) : hasChange l = true := by
  unfold hasChange at *
  rw [List.any_eq_true] at *
  obtain ⟨x, hx, hp⟩ := h
  exact ⟨x, List.mem_of_mem_take hx, hp⟩

def IdxPost (l : List Mark) (w : World) (e : Ending) (w' : World) : Prop := ∃ n : Int, e = .returned (.int .i64 n) ∧ -1 ≤ n ∧ decide (0 ≤ n) = hasChange l ∧ Chg Never w w'
theorem index_changed (l : List Mark) (v : Value) (w : World) (h : Rdv w Never v l) :
    Calls Tryz.prog 211 #[v, .func (.func 182) #[] #[]] w (IdxPost l w) := by
  obtain ⟨a, cap, rfl, h1, h2, h3⟩ := rdv_slice h
  unfold maxLen at h2
  go_enter Tryz.func211, Tryz.ntmps211
  go_wp2_with fail
  go_loopw [8] (fun i wr => ∃ k : Nat, k ≤ l.length ∧ i = .int .i64 k ∧ Hid (hasChange (l.take k) = false) ∧ Chg Never w wr) (fun i _ => l.length - (intOf i).toNat)
  case atStart => exact ⟨0, Nat.zero_le _, rfl, rfl, Chg.refl _ _⟩
  case round =>
    obtain ⟨k, hk, rfl, hf, hc⟩ := hrel
    by_cases hlt : k < l.length
    · obtain ⟨x, hx⟩ : ∃ x, l[k]? = some x := ⟨l[k], by simp [hlt]⟩
      obtain ⟨b, off, rfl, _, _, c0, c1, s0, s1, hxs⟩ := elems_mark h3 hx
      have c0 := hc.cellNever c0
      have c1 := hc.cellNever c1
      have HT := Lib.hid (hasChange_take hx hf.out)
      clear hx h3 h
      obtain ⟨sg, tx⟩ := x
      simp only at c0 c1 s0 s1 hxs
      by_cases h32 : sg = 32
      · subst h32
        go_wp2_with (go_at_call 182; refine (changed_any _ _ _).mono ?_; rintro e w2 ⟨rfl, hc2⟩)
        go_roundw
        case rel => exact ⟨k + 1, by omega, by go_num, by rw [Hid, HT.out]; rfl, hc.trans hc2⟩
        case measure => simp [intOf] <;> omega
      · have t1 : (sg == 32) = false := by simp [h32]
        go_wp2_with (go_at_call 182; refine (changed_any _ _ _).mono ?_; rintro e w2 ⟨rfl, hc2⟩)
        go_ret
        have E : hasChange l = true := hasChange_of (k := k + 1) (by rw [HT.out]; simp [h32])
        exact ⟨k, rfl, by omega, by rw [E]; simp, hc.trans hc2⟩
    · go_wp2_with fail
      go_ret
      have E : hasChange l = false := by have := hf.out; rwa [List.take_of_length_le (by omega)] at this
      exact ⟨-1, rfl, by omega, by rw [E]; rfl, hc⟩

theorem contains_changed (l : List Mark) (v : Value) (w : World) (h : Rdv w Never v l) :
    Calls Tryz.prog 181 #[v, .func (.func 182) #[] #[]] w fun e w' => e = .returned (.bool (hasChange l)) ∧ Chg Never w w' := by
  go_enter Tryz.func181, Tryz.ntmps181
  go_wp2_with fail
  refine (index_changed l _ _ h).mono ?_
  rintro e w1 ⟨n, rfl, hn, hd, hc⟩
  have HD := Lib.hid hd
  clear hd
  go_wp2_with fail
  go_ret
  exact ⟨by rw [← HD.out]; rfl, hc⟩
end Go.Proofs.YtjiaidchcldocaaGreatDoor
namespace Go.Proofs.YtjiaidchcldocaaGreatDoor
open Go.RowKit

/-- a struct of three cells that has been boxed, and is still there -/
theorem box3 {w w1 : World} {x y z : Value} {t : TypeId} (hc : Chg Never (w.alloc (.cells #[x, y, z] t)) w1) :
    w1.cell? ⟨w.heap.size, 0, none⟩ = some x ∧ w1.cell? ⟨w.heap.size, 1, none⟩ = some y ∧ w1.cell? ⟨w.heap.size, 2, none⟩ = some z := by
  refine ⟨hc.cellNever ?_, hc.cellNever ?_, hc.cellNever ?_⟩ <;> (simp only [World.cell?]; rw [heap_alloc_new]; rfl)


set_option maxHeartbeats 800000 in
theorem one_script (o n : Int) (l : List Mark) (mv : Value) (fin more : Int) (w : World) (hm : Rdv w Never mv l) (_f0 : -100000 ≤ fin) (_f1 : fin ≤ 100000) (_m0 : -100000 ≤ more) (_m1 : more ≤ 100000)
    (HZ : Hid (scriptFault l ≠ 0)) :
    Calls Tryz.prog 141 #[.agg #[.int .i64 o, .int .i64 n, mv], .int .i64 fin, .int .i64 more] w fun e w' => e = .returned (errV (oneFault ⟨o, n, l⟩ fin more)) ∧ Chg Never w w' := by
  go_enter Tryz.func141, Tryz.ntmps141
  go_wp2_with fail
  refine (edit_check_any l _ _ (hm.never ((Chg.refl _ _).alloc _))).mono ?_
  rintro e w1 ⟨rfl, hc1⟩
  obtain ⟨x0, x1, x2⟩ := box3 hc1
  have hw : Chg Never w w1 := ((Chg.refl _ _).alloc _).trans hc1
  rw [errV_pos HZ.out]
  go_wp2_with fail
  go_ret
  exact ⟨by unfold oneFault; rw [if_pos HZ.out, errV_pos HZ.out]; rfl, hw⟩

set_option maxHeartbeats 800000 in
theorem one_none (o n : Int) (l : List Mark) (mv : Value) (fin more : Int) (w : World) (hm : Rdv w Never mv l) (_f0 : -100000 ≤ fin) (_f1 : fin ≤ 100000) (_m0 : -100000 ≤ more) (_m1 : more ≤ 100000)
    (HZ : Hid (scriptFault l = 0)) (HC : Hid (hasChange l = false)) :
    Calls Tryz.prog 141 #[.agg #[.int .i64 o, .int .i64 n, mv], .int .i64 fin, .int .i64 more] w fun e w' => e = .returned (errV (oneFault ⟨o, n, l⟩ fin more)) ∧ Chg Never w w' := by
  go_enter Tryz.func141, Tryz.ntmps141
  go_wp2_with fail
  refine (edit_check_any l _ _ (hm.never ((Chg.refl _ _).alloc _))).mono ?_
  rintro e w1 ⟨rfl, hc1⟩
  obtain ⟨x0, x1, x2⟩ := box3 hc1
  have hw : Chg Never w w1 := ((Chg.refl _ _).alloc _).trans hc1
  rw [HZ.out, errV_zero]
  go_wp2_with fail
  refine (contains_changed l _ _ (hm.never hw)).mono ?_
  rintro e w2 ⟨rfl, hc2⟩
  obtain ⟨x0, x1, x2⟩ := box3 (hc1.trans hc2)
  have hw := hw.trans hc2
  rw [HC.out]
  go_wp2_with fail
  go_ret
  exact ⟨by unfold oneFault; rw [if_neg (fun h => h HZ.out), if_pos HC.out]; rfl, hw⟩

set_option maxHeartbeats 800000 in
theorem one_range (o n : Int) (l : List Mark) (mv : Value) (fin more : Int) (w : World) (hm : Rdv w Never mv l) (_f0 : -100000 ≤ fin) (_f1 : fin ≤ 100000) (_m0 : -100000 ≤ more) (_m1 : more ≤ 100000)
    (HZ : Hid (scriptFault l = 0)) (HC : Hid (hasChange l = true)) (HR : Hid (o < 0 ∨ 60 < o ∨ n < 0 ∨ 60 < n ∨ 60 < o + oldN l ∨ 60 < n + newN l)) :
    Calls Tryz.prog 141 #[.agg #[.int .i64 o, .int .i64 n, mv], .int .i64 fin, .int .i64 more] w fun e w' => e = .returned (errV (oneFault ⟨o, n, l⟩ fin more)) ∧ Chg Never w w' := by
  have E : oneFault ⟨o, n, l⟩ fin more = 1 := by
    unfold oneFault; rw [if_neg (fun h => h HZ.out), if_neg (by rw [HC.out]; decide), if_pos HR.out]
  rw [E]
  have hl := scriptFault_len HZ.out
  have l1 := oldN_le l
  have l2 := newN_le l
  clear E
  by_cases a1 : o < 0
  · go_enter Tryz.func141, Tryz.ntmps141
    go_wp2_with fail
    refine (edit_check_any l _ _ (hm.never ((Chg.refl _ _).alloc _))).mono ?_
    rintro e w1 ⟨rfl, hc1⟩
    obtain ⟨x0, x1, x2⟩ := box3 hc1
    have hw : Chg Never w w1 := ((Chg.refl _ _).alloc _).trans hc1
    rw [HZ.out, errV_zero]
    go_wp2_with fail
    refine (contains_changed l _ _ (hm.never hw)).mono ?_
    rintro e w2 ⟨rfl, hc2⟩
    obtain ⟨x0, x1, x2⟩ := box3 (hc1.trans hc2)
    have hw := hw.trans hc2
    rw [HC.out]
    go_wp2_with fail
    refine (size_any ⟨o, n, l⟩ mv _ (hm.never hw)).mono ?_
    rintro e w3 ⟨rfl, hc3⟩
    obtain ⟨x0, x1, x2⟩ := box3 ((hc1.trans hc2).trans hc3)
    have hw := hw.trans hc3
    clear hc1 hc2 hc3
    go_wp2_with fail
    go_ret
    exact ⟨rfl, hw⟩
  · by_cases a2 : 60 < o
    · go_enter Tryz.func141, Tryz.ntmps141
      go_wp2_with fail
      refine (edit_check_any l _ _ (hm.never ((Chg.refl _ _).alloc _))).mono ?_
      rintro e w1 ⟨rfl, hc1⟩
      obtain ⟨x0, x1, x2⟩ := box3 hc1
      have hw : Chg Never w w1 := ((Chg.refl _ _).alloc _).trans hc1
      rw [HZ.out, errV_zero]
      go_wp2_with fail
      refine (contains_changed l _ _ (hm.never hw)).mono ?_
      rintro e w2 ⟨rfl, hc2⟩
      obtain ⟨x0, x1, x2⟩ := box3 (hc1.trans hc2)
      have hw := hw.trans hc2
      rw [HC.out]
      go_wp2_with fail
      refine (size_any ⟨o, n, l⟩ mv _ (hm.never hw)).mono ?_
      rintro e w3 ⟨rfl, hc3⟩
      obtain ⟨x0, x1, x2⟩ := box3 ((hc1.trans hc2).trans hc3)
      have hw := hw.trans hc3
      clear hc1 hc2 hc3
      go_wp2_with fail
      go_ret
      exact ⟨rfl, hw⟩
    · by_cases a3 : n < 0
      · go_enter Tryz.func141, Tryz.ntmps141
        go_wp2_with fail
        refine (edit_check_any l _ _ (hm.never ((Chg.refl _ _).alloc _))).mono ?_
        rintro e w1 ⟨rfl, hc1⟩
        obtain ⟨x0, x1, x2⟩ := box3 hc1
        have hw : Chg Never w w1 := ((Chg.refl _ _).alloc _).trans hc1
        rw [HZ.out, errV_zero]
        go_wp2_with fail
        refine (contains_changed l _ _ (hm.never hw)).mono ?_
        rintro e w2 ⟨rfl, hc2⟩
        obtain ⟨x0, x1, x2⟩ := box3 (hc1.trans hc2)
        have hw := hw.trans hc2
        rw [HC.out]
        go_wp2_with fail
        refine (size_any ⟨o, n, l⟩ mv _ (hm.never hw)).mono ?_
        rintro e w3 ⟨rfl, hc3⟩
        obtain ⟨x0, x1, x2⟩ := box3 ((hc1.trans hc2).trans hc3)
        have hw := hw.trans hc3
        clear hc1 hc2 hc3
        go_wp2_with fail
        go_ret
        exact ⟨rfl, hw⟩
      · by_cases a4 : 60 < n
        · go_enter Tryz.func141, Tryz.ntmps141
          go_wp2_with fail
          refine (edit_check_any l _ _ (hm.never ((Chg.refl _ _).alloc _))).mono ?_
          rintro e w1 ⟨rfl, hc1⟩
          obtain ⟨x0, x1, x2⟩ := box3 hc1
          have hw : Chg Never w w1 := ((Chg.refl _ _).alloc _).trans hc1
          rw [HZ.out, errV_zero]
          go_wp2_with fail
          refine (contains_changed l _ _ (hm.never hw)).mono ?_
          rintro e w2 ⟨rfl, hc2⟩
          obtain ⟨x0, x1, x2⟩ := box3 (hc1.trans hc2)
          have hw := hw.trans hc2
          rw [HC.out]
          go_wp2_with fail
          refine (size_any ⟨o, n, l⟩ mv _ (hm.never hw)).mono ?_
          rintro e w3 ⟨rfl, hc3⟩
          obtain ⟨x0, x1, x2⟩ := box3 ((hc1.trans hc2).trans hc3)
          have hw := hw.trans hc3
          clear hc1 hc2 hc3
          go_wp2_with fail
          go_ret
          exact ⟨rfl, hw⟩
        · by_cases a5 : 60 < o + oldN l
          · go_enter Tryz.func141, Tryz.ntmps141
            go_wp2_with fail
            refine (edit_check_any l _ _ (hm.never ((Chg.refl _ _).alloc _))).mono ?_
            rintro e w1 ⟨rfl, hc1⟩
            obtain ⟨x0, x1, x2⟩ := box3 hc1
            have hw : Chg Never w w1 := ((Chg.refl _ _).alloc _).trans hc1
            rw [HZ.out, errV_zero]
            go_wp2_with fail
            refine (contains_changed l _ _ (hm.never hw)).mono ?_
            rintro e w2 ⟨rfl, hc2⟩
            obtain ⟨x0, x1, x2⟩ := box3 (hc1.trans hc2)
            have hw := hw.trans hc2
            rw [HC.out]
            go_wp2_with fail
            refine (size_any ⟨o, n, l⟩ mv _ (hm.never hw)).mono ?_
            rintro e w3 ⟨rfl, hc3⟩
            obtain ⟨x0, x1, x2⟩ := box3 ((hc1.trans hc2).trans hc3)
            have hw := hw.trans hc3
            clear hc1 hc2 hc3
            go_wp2_with fail
            go_ret
            exact ⟨rfl, hw⟩
          · have a6 : 60 < n + newN l := by have := HR.out; omega
            go_enter Tryz.func141, Tryz.ntmps141
            go_wp2_with fail
            refine (edit_check_any l _ _ (hm.never ((Chg.refl _ _).alloc _))).mono ?_
            rintro e w1 ⟨rfl, hc1⟩
            obtain ⟨x0, x1, x2⟩ := box3 hc1
            have hw : Chg Never w w1 := ((Chg.refl _ _).alloc _).trans hc1
            rw [HZ.out, errV_zero]
            go_wp2_with fail
            refine (contains_changed l _ _ (hm.never hw)).mono ?_
            rintro e w2 ⟨rfl, hc2⟩
            obtain ⟨x0, x1, x2⟩ := box3 (hc1.trans hc2)
            have hw := hw.trans hc2
            rw [HC.out]
            go_wp2_with fail
            refine (size_any ⟨o, n, l⟩ mv _ (hm.never hw)).mono ?_
            rintro e w3 ⟨rfl, hc3⟩
            obtain ⟨x0, x1, x2⟩ := box3 ((hc1.trans hc2).trans hc3)
            have hw := hw.trans hc3
            clear hc1 hc2 hc3
            go_wp2_with fail
            go_ret
            exact ⟨rfl, hw⟩

set_option maxHeartbeats 800000 in
theorem one_rest (o n : Int) (l : List Mark) (mv : Value) (fin more : Int) (w : World) (hm : Rdv w Never mv l) (_f0 : -100000 ≤ fin) (_f1 : fin ≤ 100000) (m0 : -100000 ≤ more) (m1 : more ≤ 100000)
    (HZ : Hid (scriptFault l = 0)) (HC : Hid (hasChange l = true)) (HR : ¬ (o < 0 ∨ 60 < o ∨ n < 0 ∨ 60 < n ∨ 60 < o + oldN l ∨ 60 < n + newN l)) :
    Calls Tryz.prog 141 #[.agg #[.int .i64 o, .int .i64 n, mv], .int .i64 fin, .int .i64 more] w fun e w' => e = .returned (errV (oneFault ⟨o, n, l⟩ fin more)) ∧ Chg Never w w' := by
  have E : oneFault ⟨o, n, l⟩ fin more = if o < fin ∨ n ≠ o + more then 2 else 0 := by
    unfold oneFault; rw [if_neg (fun h => h HZ.out), if_neg (by rw [HC.out]; decide), if_neg HR]
  rw [E]
  have hl := scriptFault_len HZ.out
  have l1 := oldN_le l
  have l2 := newN_le l
  clear E
  have a1 : 0 ≤ o := by omega
  have a2 : o ≤ 60 := by omega
  have a3 : 0 ≤ n := by omega
  have a4 : n ≤ 60 := by omega
  have a5 : o + oldN l ≤ 60 := by omega
  have a6 : n + newN l ≤ 60 := by omega
  clear HR
  by_cases b1 : o < fin
  · rw [if_pos (.inl b1)]
    go_enter Tryz.func141, Tryz.ntmps141
    go_wp2_with fail
    refine (edit_check_any l _ _ (hm.never ((Chg.refl _ _).alloc _))).mono ?_
    rintro e w1 ⟨rfl, hc1⟩
    obtain ⟨x0, x1, x2⟩ := box3 hc1
    have hw : Chg Never w w1 := ((Chg.refl _ _).alloc _).trans hc1
    rw [HZ.out, errV_zero]
    go_wp2_with fail
    refine (contains_changed l _ _ (hm.never hw)).mono ?_
    rintro e w2 ⟨rfl, hc2⟩
    obtain ⟨x0, x1, x2⟩ := box3 (hc1.trans hc2)
    have hw := hw.trans hc2
    rw [HC.out]
    go_wp2_with fail
    refine (size_any ⟨o, n, l⟩ mv _ (hm.never hw)).mono ?_
    rintro e w3 ⟨rfl, hc3⟩
    obtain ⟨x0, x1, x2⟩ := box3 ((hc1.trans hc2).trans hc3)
    have hw := hw.trans hc3
    clear hc1 hc2 hc3
    go_wp2_with fail
    go_ret
    exact ⟨rfl, hw⟩
  · by_cases b2 : n = o + more
    · rw [if_neg (by omega)]
      have t1 : (n != o + more) = false := by simp [b2]
      clear b2
      go_enter Tryz.func141, Tryz.ntmps141
      go_wp2_with fail
      refine (edit_check_any l _ _ (hm.never ((Chg.refl _ _).alloc _))).mono ?_
      rintro e w1 ⟨rfl, hc1⟩
      obtain ⟨x0, x1, x2⟩ := box3 hc1
      have hw : Chg Never w w1 := ((Chg.refl _ _).alloc _).trans hc1
      rw [HZ.out, errV_zero]
      go_wp2_with fail
      refine (contains_changed l _ _ (hm.never hw)).mono ?_
      rintro e w2 ⟨rfl, hc2⟩
      obtain ⟨x0, x1, x2⟩ := box3 (hc1.trans hc2)
      have hw := hw.trans hc2
      rw [HC.out]
      go_wp2_with fail
      refine (size_any ⟨o, n, l⟩ mv _ (hm.never hw)).mono ?_
      rintro e w3 ⟨rfl, hc3⟩
      obtain ⟨x0, x1, x2⟩ := box3 ((hc1.trans hc2).trans hc3)
      have hw := hw.trans hc3
      clear hc1 hc2 hc3
      go_wp2_with fail
      go_ret
      exact ⟨rfl, hw⟩
    · rw [if_pos (.inr b2)]
      have t1 : (n != o + more) = true := by simp [b2]
      clear b2
      go_enter Tryz.func141, Tryz.ntmps141
      go_wp2_with fail
      refine (edit_check_any l _ _ (hm.never ((Chg.refl _ _).alloc _))).mono ?_
      rintro e w1 ⟨rfl, hc1⟩
      obtain ⟨x0, x1, x2⟩ := box3 hc1
      have hw : Chg Never w w1 := ((Chg.refl _ _).alloc _).trans hc1
      rw [HZ.out, errV_zero]
      go_wp2_with fail
      refine (contains_changed l _ _ (hm.never hw)).mono ?_
      rintro e w2 ⟨rfl, hc2⟩
      obtain ⟨x0, x1, x2⟩ := box3 (hc1.trans hc2)
      have hw := hw.trans hc2
      rw [HC.out]
      go_wp2_with fail
      refine (size_any ⟨o, n, l⟩ mv _ (hm.never hw)).mono ?_
      rintro e w3 ⟨rfl, hc3⟩
      obtain ⟨x0, x1, x2⟩ := box3 ((hc1.trans hc2).trans hc3)
      have hw := hw.trans hc3
      clear hc1 hc2 hc3
      go_wp2_with fail
      go_ret
      exact ⟨rfl, hw⟩

theorem one_hunk (h : Hunk) (mv : Value) (fin more : Int) (w : World) (hm : Rdv w Never mv h.marks) (f0 : -100000 ≤ fin) (f1 : fin ≤ 100000) (m0 : -100000 ≤ more) (m1 : more ≤ 100000) :
    Calls Tryz.prog 141 #[.agg #[.int .i64 h.old, .int .i64 h.new, mv], .int .i64 fin, .int .i64 more] w fun e w' => e = .returned (errV (oneFault h fin more)) ∧ Chg Never w w' := by
  obtain ⟨o, n, l⟩ := h
  by_cases hz : scriptFault l = 0
  · by_cases hc : hasChange l = true
    · by_cases hr : o < 0 ∨ 60 < o ∨ n < 0 ∨ 60 < n ∨ 60 < o + oldN l ∨ 60 < n + newN l
      · exact one_range o n l mv fin more w hm f0 f1 m0 m1 hz hc hr
      · exact one_rest o n l mv fin more w hm f0 f1 m0 m1 hz hc hr
    · exact one_none o n l mv fin more w hm f0 f1 m0 m1 hz (by simpa [Hid] using hc)
  · exact one_script o n l mv fin more w hm f0 f1 m0 m1 hz
end Go.Proofs.YtjiaidchcldocaaGreatDoor
