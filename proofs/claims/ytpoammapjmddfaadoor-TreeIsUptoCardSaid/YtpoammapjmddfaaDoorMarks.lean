/-
  THE WALKS OF LAYER 2 over scripts: Check, those, Old, New; the laws' changes and Marks.
-/
import Derived.Test.YtpoammapjmddfaaDoorEditA
import Derived.Test.YtpoammapjmddfaaDoorOwn
namespace Go.Proofs.YtpoammapjmddfaaDoor
open Go.RowKit

theorem edit_check_any (l : List Mark) (v : Value) (w : World) (h : Rdv w Never v l) :
    Calls Tryd.prog 112 #[v] w fun e w' => e = .returned (errV (scriptFault l)) ∧ Chg Never w w' := by
  obtain ⟨a, cap, rfl, h1, h2, h3⟩ := rdv_slice h
  unfold maxLen at h2
  by_cases h4 : 120 < l.length
  · go_enter Tryd.func112, Tryd.ntmps112
    go_wp2
    go_ret
    exact ⟨by simp [scriptFault, h4, errV], Chg.refl _ _⟩
  · go_enter Tryd.func112, Tryd.ntmps112
    go_wp2
    go_loopw [12] (fun i wr => ∃ k : Nat, k ≤ l.length ∧ i = .int .i64 k ∧ Hid (firstOf markFault (l.drop k) = scriptFault l) ∧ Chg Never w wr) (fun i _ => l.length - (intOf i).toNat)
    case atStart => exact ⟨0, Nat.zero_le _, rfl, by simp [Hid, scriptFault, h4], Chg.refl _ _⟩
    case round =>
      obtain ⟨k, hk, rfl, hf, hc⟩ := hrel
      by_cases hlt : k < l.length
      · obtain ⟨x, hx⟩ : ∃ x, l[k]? = some x := ⟨l[k], by simp [hlt]⟩
        obtain ⟨b, off, rfl, _, _, c0, c1, s0, s1, hxs⟩ := elems_mark h3 hx
        have c0 := hc.cellNever c0
        have c1 := hc.cellNever c1
        have hd := Lib.hid (drop_eq hx)
        clear hx h3 h
        obtain ⟨sg, tx⟩ := x
        simp only at c0 c1 s0 s1 hxs
        by_cases hsg : sg = 32 ∨ sg = 45 ∨ sg = 43
        · have hmf : markFault ⟨sg, tx⟩ = lineFault tx := by rcases hsg with e | e | e <;> subst e <;> rfl
          have HM := Lib.hid hmf
          clear hmf
          by_cases hz : lineFault tx = 0
          · rcases hsg with rfl | rfl | rfl
            all_goals
              go_wp2_with (go_at_call 52; refine (one_any _ _ hxs).mono ?_; rintro e w' ⟨rfl, rfl⟩; rw [hz, errV_zero])
              go_roundw
              case rel => exact ⟨k + 1, by omega, by go_num, by have := hf.out; rw [hd.out, firstOf, HM.out, if_pos hz] at this; exact this, hc.alloc _⟩
              case measure => simp [intOf] <;> omega
          · rcases hsg with rfl | rfl | rfl
            all_goals
              go_wp2_with (go_at_call 52; refine (one_any _ _ hxs).mono ?_; rintro e w' ⟨rfl, rfl⟩; rw [errV_pos hz])
              go_ret
              have E : errV (scriptFault l) = errV (lineFault tx) := by rw [← hf.out, hd.out, firstOf, HM.out, if_neg hz]
              exact ⟨by rw [E, errV_pos hz]; rfl, hc.alloc _⟩
        · have t1 : (sg != 32) = true := by simp; omega
          have t2 : (sg != 45) = true := by simp; omega
          have t3 : (sg != 43) = true := by simp; omega
          have hmf : markFault ⟨sg, tx⟩ = 1 := by unfold markFault; rw [if_pos (by simp; omega)]
          have HM := Lib.hid hmf
          clear hmf hsg
          go_wp2_with fail
          go_ret
          have E : errV (scriptFault l) = errV 1 := by rw [← hf.out, hd.out, firstOf, HM.out, if_neg (by decide)]
          exact ⟨by rw [E]; rfl, hc.alloc _⟩
      · go_wp2
        go_ret
        exact ⟨by have := hf.out; rw [List.drop_of_length_le (by omega), firstOf] at this; rw [← this]; rfl, hc⟩

theorem changes_take {l : List Mark} {k : Nat} {x : Mark} (hx : l[k]? = some x) : changes (l.take (k + 1)) = changes (l.take k) + (if x.sign = 32 then 0 else 1) := by
  rw [List.take_add_one, hx]
  unfold changes
  rw [List.filter_append, List.length_append]
  by_cases h : x.sign = 32 <;> simp [h]
theorem changes_le (l : List Mark) : changes l ≤ l.length := List.length_filter_le _ _


theorem elemOk_str : ElemOk Tryd.prog 22 9 1 := elemOk_of Tryd.underlying22 (z := .string ⟨#[]⟩) (b := 16) (by kernel_rfl) rfl (by decide)
theorem elemOk_mark : ElemOk Tryd.prog 40 80 2 := elemOk_of Tryd.underlying40 (z := .agg #[.int .u8 0, .string ⟨#[]⟩]) (b := 24) (by kernel_rfl) rfl (by decide)

theorem those_take {l : List Mark} {no : Int} {k : Nat} {x : Mark} (hx : l[k]? = some x) : those (l.take (k + 1)) no = if x.sign = no then those (l.take k) no else those (l.take k) no ++ [x.text] := by
  rw [List.take_add_one, hx]
  unfold those
  by_cases h : x.sign = no <;> simp [List.filter_append, h]
theorem those_le (l : List Mark) (no : Int) : (those l no).length ≤ l.length := by
  unfold those
  rw [List.length_map]
  exact List.length_filter_le _ _
theorem scriptFault_len {l : List Mark} (h : scriptFault l = 0) : l.length ≤ 120 := by
  unfold scriptFault at h
  by_cases h1 : 120 < l.length
  · simp [h1] at h
  · omega

/-- the lines of a script that may be; of another one none -/
def thoseR (l : List Mark) (no : Int) : List ByteArray := if scriptFault l = 0 then those l no else []

theorem those_any (l : List Mark) (no : Int) (v : Value) (w : World) (h : Rdv w Never v l) :
    Calls Tryd.prog 146 #[v, .int .u8 no] w fun e w' => ∃ r, e = .returned (.tuple #[r, errV (scriptFault l)]) ∧ Chg Never w w' ∧ Rdv w' (Old w.heap.size) r (thoseR l no) := by
  by_cases hz : scriptFault l = 0
  · have hlen := scriptFault_len hz
    obtain ⟨a, cap, rfl, h1, h2, h3⟩ := rdv_slice h
    unfold maxLen at h2
    have HT : Hid (thoseR l no = those l no) := if_pos hz
    go_enter Tryd.func146, Tryd.ntmps146
    go_wp2_with fail
    refine (edit_check_any l _ _ h).mono ?_
    rintro e w1 ⟨rfl, hc1⟩
    rw [hz, errV_zero]
    have HZ := Lib.hid hz
    clear hz
    go_wp2_with fail
    go_loopw [7, 17] (fun o i wr => ∃ k : Nat, k ≤ l.length ∧ i = .int .i64 k ∧ Chg Never w wr ∧ Own 9 wr (Old w.heap.size) o (those (l.take k) no)) (fun _ i _ => l.length - (intOf i).toNat)
    case atStart => exact ⟨0, Nat.zero_le _, rfl, hc1, own_nil _ _ _⟩
    case round =>
      obtain ⟨k, hk, rfl, hc, hown⟩ := hrel
      by_cases hlt : k < l.length
      · obtain ⟨x, hx⟩ : ∃ x, l[k]? = some x := ⟨l[k], by simp [hlt]⟩
        obtain ⟨b, off, rfl, _, _, c0, c1, s0, s1, hxs⟩ := elems_mark h3 hx
        have c0 := hc.cellNever c0
        have c1 := hc.cellNever c1
        have ht := Lib.hid (those_take (no := no) hx)
        have hle := those_le (l.take k) no
        have hle2 : (l.take k).length ≤ 120 := by simp; omega
        clear hx h3 h
        obtain ⟨sg, tx⟩ := x
        simp only at c0 c1 s0 s1 hxs
        by_cases hs : sg = no
        · have t1 : (sg != no) = false := by simp [hs]
          have HS := Lib.hid hs
          clear hs hle hle2
          go_wp2_with fail
          go_roundw
          case rel => exact ⟨k + 1, by omega, by go_num, hc.alloc _, by rw [ht.out, if_pos HS.out]; exact hown.never ((Chg.refl _ _).alloc _)⟩
          case measure => simp [intOf] <;> omega
        · have t1 : (sg != no) = true := by simp [hs]
          have HS := Lib.hid hs
          clear hs
          go_wp2_with (at_builtin; refine wpList_push rfl _ _ 22 rfl elemOk_str (O := Old w.heap.size) (l := those (l.take k) no) (y := tx) rfl rfl (by simp) (hown.never ((Chg.refl _ _).alloc _)) ⟨rfl, hxs⟩ (old_lt (hc.alloc _)) (by omega) ?_; intro v' w2 hown2 hc2 _)
          have hc3 := own_step (hc.alloc _) (hown.never ((Chg.refl _ _).alloc _)) hc2
          clear hc2 hle hle2
          go_wp2_with fail
          go_roundw
          case rel => exact ⟨k + 1, by omega, by go_num, hc3, by rw [ht.out, if_neg HS.out]; exact hown2⟩
          case measure => simp [intOf] <;> omega
      · go_wp2_with fail
        go_ret2
        refine ⟨_, by rw [HZ.out]; rfl, hc, ?_⟩
        rw [HT.out]
        rw [List.take_of_length_le (by omega)] at hown
        exact hown.rdv
  · go_enter Tryd.func146, Tryd.ntmps146
    go_wp2_with fail
    refine (edit_check_any l _ _ h).mono ?_
    rintro e w1 ⟨rfl, hc1⟩
    rw [errV_pos hz]
    go_wp2_with fail
    go_ret2
    exact ⟨.slice none 0 0, by rw [errV_pos hz]; rfl, hc1, by unfold thoseR; rw [if_neg hz]; exact rdv_nil _ _⟩
end Go.Proofs.YtpoammapjmddfaaDoor
