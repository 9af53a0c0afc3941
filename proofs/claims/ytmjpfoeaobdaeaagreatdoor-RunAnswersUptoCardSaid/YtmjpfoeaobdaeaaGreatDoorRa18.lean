/-
  PARTS: THE WALK of the document's common.
-/
import Derived.Test.YtmjpfoeaobdaeaaGreatDoorRa7
import Derived.Test.YtmjpfoeaobdaeaaGreatDoorRa17
set_option linter.unusedVariables false
set_option linter.unusedSimpArgs false
namespace Go.Proofs.YtmjpfoeaobdaeaaGreatDoor
open Go.RowKit

abbrev slI (R m : Nat) : Value := .slice (some ⟨R, 0, none⟩) m m
def Tab (T : Nat) (wr : World) (a b : List ByteArray) (Rf : Nat → Nat) (lo : Nat) : Prop :=
  ∃ g, ValRow 104 T wr (a.length + 1) g ∧ ∀ j, lo ≤ j → j ≤ a.length → Rf j ≠ T ∧ g j = slI (Rf j) (b.length + 1) ∧ ValRow 3 (Rf j) wr (b.length + 1) (fun k => .int .i64 (lcsAt a b j k))
def Mid (T : Nat) (wr : World) (a b : List ByteArray) (Rf : Nat → Nat) (i R : Nat) (h : Nat → Int) : Prop :=
  ∃ g, ValRow 104 T wr (a.length + 1) g ∧ R ≠ T ∧ g i = slI R (b.length + 1) ∧ ValRow 3 R wr (b.length + 1) (fun k => .int .i64 (h k)) ∧
    ∀ j, i + 1 ≤ j → j ≤ a.length → Rf j ≠ T ∧ Rf j ≠ R ∧ g j = slI (Rf j) (b.length + 1) ∧ ValRow 3 (Rf j) wr (b.length + 1) (fun k => .int .i64 (lcsAt a b j k))
theorem Tab.never {T : Nat} {wr w' : World} {a b : List ByteArray} {Rf : Nat → Nat} {lo : Nat} (h : Tab T wr a b Rf lo) (hc : Chg Never wr w') : Tab T w' a b Rf lo := by
  obtain ⟨g, h1, h2⟩ := h
  refine ⟨g, h1.keep hc (fun h => h), fun j hj hj' => ?_⟩
  obtain ⟨q1, q2, q3⟩ := h2 j hj hj'
  exact ⟨q1, q2, q3.keep hc (fun h => h)⟩
theorem Mid.never {T : Nat} {wr w' : World} {a b : List ByteArray} {Rf : Nat → Nat} {i R : Nat} {h : Nat → Int} (hm : Mid T wr a b Rf i R h) (hc : Chg Never wr w') : Mid T w' a b Rf i R h := by
  obtain ⟨g, h1, h2, h3, h4, h5⟩ := hm
  refine ⟨g, h1.keep hc (fun h => h), h2, h3, h4.keep hc (fun h => h), fun j hj hj' => ?_⟩
  obtain ⟨q1, q2, q3, q4⟩ := h5 j hj hj'
  exact ⟨q1, q2, q3, q4.keep hc (fun h => h)⟩
theorem Mid.set {T : Nat} {wr : World} {a b : List ByteArray} {Rf : Nat → Nat} {i R : Nat} {h : Nat → Int} (hm : Mid T wr a b Rf i R h) {k : Nat} (hk : k ≤ b.length) (v : Int) :
    Mid T (wr.setCell ⟨R, k, none⟩ (.int .i64 v)) a b Rf i R (fun j => if j = k then v else h j) := by
  obtain ⟨g, h1, h2, h3, h4, h5⟩ := hm
  refine ⟨g, h1.other (p := ⟨R, k, none⟩) h2 _, h2, h3, (h4.set (by omega) _).congr ?_, fun j hj hj' => ?_⟩
  · intro j _
    by_cases e : j = k
    · simp [e]
    · simp [e]
  · obtain ⟨q1, q2, q3, q4⟩ := h5 j hj hj'
    exact ⟨q1, q2, q3, q4.other (p := ⟨R, k, none⟩) (fun h => q2 h.symm) _⟩
theorem Mid.facts {T : Nat} {wr : World} {a b : List ByteArray} {Rf : Nat → Nat} {i R : Nat} {h : Nat → Int} (hm : Mid T wr a b Rf i R h) (hi : i < a.length) {k : Nat} (hk : k < b.length) :
    wr.cell? ⟨T, i, none⟩ = some (slI R (b.length + 1)) ∧ wr.cell? ⟨T, i + 1, none⟩ = some (slI (Rf (i + 1)) (b.length + 1)) ∧ wr.cell? ⟨R, k, none⟩ = some (.int .i64 (h k)) ∧ wr.cell? ⟨R, k + 1, none⟩ = some (.int .i64 (h (k + 1))) ∧
    wr.cell? ⟨Rf (i + 1), k, none⟩ = some (.int .i64 (lcsAt a b (i + 1) k)) ∧ wr.cell? ⟨Rf (i + 1), k + 1, none⟩ = some (.int .i64 (lcsAt a b (i + 1) (k + 1))) ∧ wr.frozen? ⟨R, k, none⟩ = false := by
  obtain ⟨g, h1, h2, h3, h4, h5⟩ := hm
  obtain ⟨q1, q2, q3, q4⟩ := h5 (i + 1) (Nat.le_refl _) (by omega)
  exact ⟨by rw [h1.cell (by omega), h3], by rw [h1.cell (by omega), q3], h4.cell (by omega), h4.cell (by omega), q4.cell (by omega), q4.cell (by omega), h4.free k⟩
theorem Mid.congr {T : Nat} {wr : World} {a b : List ByteArray} {Rf : Nat → Nat} {i R : Nat} {h h' : Nat → Int} (hm : Mid T wr a b Rf i R h) (e : ∀ k, k ≤ b.length → h' k = h k) : Mid T wr a b Rf i R h' := by
  obtain ⟨g, h1, h2, h3, h4, h5⟩ := hm
  exact ⟨g, h1, h2, h3, h4.congr (fun k hk => by rw [e k (by omega)]), h5⟩
theorem Tab.mid {T : Nat} {wr w1 : World} {a b : List ByteArray} {Rf : Nat → Nat} {i R : Nat} (h : Tab T wr a b Rf (i + 1)) (hi : i ≤ a.length) (hc : Chg Never wr w1) (hR : wr.heap.size ≤ R) (hr : ValRow 3 R w1 (b.length + 1) (fun _ => .int .i64 0)) :
    Mid T (w1.setCell ⟨T, i, none⟩ (slI R (b.length + 1))) a b Rf i R (fun _ => 0) := by
  obtain ⟨g, h1, h2⟩ := h
  have hTR : R ≠ T := by have := h1.lt; omega
  refine ⟨_, (h1.keep hc (fun h => h)).set (k := i) (by omega) (slI R (b.length + 1)), hTR, by simp, hr.other (p := ⟨T, i, none⟩) (fun h => hTR h.symm) _, fun j hj hj' => ?_⟩
  obtain ⟨q1, q2, q3⟩ := h2 j hj hj'
  have hlt := q3.lt
  exact ⟨q1, by omega, by rw [if_neg (by omega)]; exact q2, (q3.keep hc (fun h => h)).other (p := ⟨T, i, none⟩) (fun h => q1 h.symm) _⟩
theorem Mid.tab {T : Nat} {wr : World} {a b : List ByteArray} {Rf : Nat → Nat} {i R : Nat} (hm : Mid T wr a b Rf i R (fun k => lcsAt a b i k)) : Tab T wr a b (fun j => if j = i then R else Rf j) i := by
  obtain ⟨g, h1, h2, h3, h4, h5⟩ := hm
  refine ⟨g, h1, fun j hj hj' => ?_⟩
  by_cases e : j = i
  · subst e
    simp only [if_pos rfl, if_true]
    exact ⟨h2, h3, h4⟩
  · simp only [if_neg e]
    obtain ⟨q1, q2, q3, q4⟩ := h5 j (by omega) hj'
    exact ⟨q1, q3, q4⟩
def rowTo (a b : List ByteArray) (i lo : Nat) (k : Nat) : Int := if lo ≤ k then lcsAt a b i k else 0
theorem rowTo_zero (a b : List ByteArray) (i : Nat) : rowTo a b i 0 = fun k => (lcsAt a b i k : Int) := by funext k; simp [rowTo]
theorem rowTo_step {a b : List ByteArray} {i k : Nat} {v : Int} (e : v = lcsAt a b i k) (j : Nat) : rowTo a b i k j = if j = k then v else rowTo a b i (k + 1) j := by
  unfold rowTo
  by_cases h : j = k
  · subst h; simp [e]
  · rw [if_neg h]
    by_cases h2 : k ≤ j
    · rw [if_pos h2, if_pos (by omega)]
    · rw [if_neg h2, if_neg (by omega)]
theorem rowTo_skip {a b : List ByteArray} {i k : Nat} (e : lcsAt a b i k = 0) (j : Nat) : rowTo a b i k j = rowTo a b i (k + 1) j := by
  rw [rowTo_step (v := 0) (by rw [e]; rfl) j]
  split
  · rename_i h; subst h; unfold rowTo; rw [if_neg (by omega)]
  · rfl

set_option maxHeartbeats 4000000 in
set_option maxRecDepth 100000 in
theorem common_any (a b : List ByteArray) (va vb : Value) (w : World) (ha : Rdv w Never va a) (hb : Rdv w Never vb b) (hla : a.length ≤ 60) (hlb : b.length ≤ 60) :
    Calls Tryz.prog 56 #[va, vb] w fun e w' => e = .returned (slI w.heap.size (a.length + 1)) ∧ Chg Never w w' ∧ ∃ Rf, Tab w.heap.size w' a b Rf 0 := by
  obtain ⟨aa, acap, rfl, h1, h2, h3⟩ := rdv_slice ha
  obtain ⟨ba, bcap, rfl, g1, g2, g3⟩ := rdv_slice hb
  unfold maxLen at h2 g2
  obtain ⟨ib, ib1, ib2, ib3, ib4⟩ := info_parts (show (Tryz.prog.info? 3).map (fun i => (i.zero, i.size, i.bytes)) = some (some (.int .i64 0), 1, 8) by kernel_rfl)
  obtain ⟨is, is1, is2, is3, is4⟩ := info_parts (show (Tryz.prog.info? 104).map (fun i => (i.zero, i.size, i.bytes)) = some (some (.slice none 0 0), 1, 24) by kernel_rfl)
  go_enter Tryz.func56, Tryz.ntmps56
  go_wp2_with (at_make; refine wpList_make_full _ rfl _ _ 105 rfl 0 104 is (.slice none 0 0) 1 Tryz.underlying105 is1 is2 is3 .i64 .i64 _ _ (a.length + 1) rfl rfl rfl rfl (by rw [is4]; omega) (by unfold maxLen; omega) (Nat.zero_le _) ?_; intro w1 hown hgrow)
  have hT := valRow_made (z := .slice none 0 0) rfl hown
  have hc := (Chg.refl Never w).trans' (Chg.of_grown hgrow) (fun _ _ h => by cases h)
  have hTab : Tab w.heap.size w1 a b (fun _ => 0) (a.length + 1) := ⟨_, hT, fun j h1 h2 => by omega⟩
  clear hown hgrow hT ha hb
  go_loopw [6, 7] (fun i _ wr => ∃ (x : Int) (Rf : Nat → Nat), -1 ≤ x ∧ x ≤ a.length ∧ i = .int .i64 x ∧ Chg Never w wr ∧ Tab w.heap.size wr a b Rf (x + 1).toNat) (fun i _ _ => (intOf i + 1).toNat)
  case atStart => exact ⟨a.length, _, by omega, by omega, rfl, hc, by simpa using hTab⟩
  case round =>
    clear hTab hc
    obtain ⟨x, Rf, hx0, hx1, rfl, hc, hTab⟩ := hrel
    by_cases hx : 0 ≤ x
    · obtain ⟨i, rfl⟩ := Int.eq_ofNat_of_zero_le hx
      have hi : i ≤ a.length := by omega
      rw [show ((i : Int) + 1).toNat = i + 1 by omega] at hTab
      obtain ⟨g, hTg, hrows⟩ := id hTab
      have hTlt := hTg.lt
      have d0 := hTg.cell (k := i) (by omega)
      have b1 : (i : Int) < (a.length : Int) + 1 := by omega
      go_wp2_with (at_make; refine wpList_make_full _ rfl _ _ 104 rfl 0 3 ib (.int .i64 0) 1 Tryz.underlying104 ib1 ib2 ib3 .i64 .i64 _ _ (b.length + 1) rfl rfl rfl rfl (by rw [ib4]; omega) (by unfold maxLen; omega) (Nat.zero_le _) ?_; intro w1 hown hgrow; have hr := valRow_made (z := .int .i64 0) rfl hown; have hcg := (Chg.of_grown hgrow).mono (O' := Never) (fun _ _ h => by cases h); clear hown hgrow; have d1 := hcg.cellNever d0; have d2 := (hTg.keep hcg (fun h => h)).free i)
      have hM := hTab.mid hi hcg (Nat.le_refl _) hr
      have hc1 := (hc.trans hcg).setCell (p := ⟨w.heap.size, i, none⟩) (.inl (Nat.le_refl _)) (slI wr.heap.size (b.length + 1))
      have hRge := hc.size
      clear hTab hTg hrows d0 d1 d2 hcg hr hc hTlt
      generalize World.setCell _ _ _ = w2 at hM hc1 ⊢
      generalize wr.heap.size = R at hM hRge ⊢
      go_loopw [7] (fun k wr' => ∃ y : Int, -1 ≤ y ∧ y ≤ b.length ∧ k = .int .i64 y ∧ Chg Never w wr' ∧ Mid w.heap.size wr' a b Rf i R (rowTo a b i (y + 1).toNat)) (fun k _ => (intOf k + 1).toNat)
      case atStart => exact ⟨b.length, by omega, by omega, rfl, hc1, hM.congr (fun k hk => by unfold rowTo; rw [if_neg (by omega)])⟩
      case round =>
        clear hM hc1
        obtain ⟨y, hy0, hy1, rfl, hc, hM⟩ := hrel
        by_cases hy : 0 ≤ y
        · obtain ⟨k, rfl⟩ := Int.eq_ofNat_of_zero_le hy
          rw [show ((k : Int) + 1).toNat = k + 1 by omega] at hM
          by_cases hin : i = a.length
          · have t1 : ((i : Int) == a.length) = true := by simp [hin]
            have HL := Lib.hid (show lcsAt a b i k = 0 by rw [hin]; exact lcsAt_left a b k)
            clear hin
            go_wp2_with fail
            go_roundw
            case rel => exact ⟨(k : Int) - 1, by omega, by omega, rfl, hc, by
              rw [show ((k : Int) - 1 + 1).toNat = k by omega]
              exact hM.congr (fun j _ => rowTo_skip HL.out j)⟩
            case measure => simp [intOf] <;> omega
          · have t1 : ((i : Int) == a.length) = false := by simp; omega
            by_cases hkm : k = b.length
            · have t2 : ((k : Int) == b.length) = true := by simp [hkm]
              have HL := Lib.hid (show lcsAt a b i k = 0 by rw [hkm]; exact lcsAt_right a b i)
              clear hkm
              go_wp2_with fail
              go_roundw
              case rel => exact ⟨(k : Int) - 1, by omega, by omega, rfl, hc, by
                rw [show ((k : Int) - 1 + 1).toNat = k by omega]
                exact hM.congr (fun j _ => rowTo_skip HL.out j)⟩
              case measure => simp [intOf] <;> omega
            · have t2 : ((k : Int) == b.length) = false := by simp; omega
              have b3 : i < a.length := by omega
              have b4 : k < b.length := by omega
              have b5 : (i : Int) < a.length := by omega
              have b6 : (k : Int) < b.length := by omega
              have hk4 : k ≤ b.length := by omega
              have hkne : ¬ (k + 1 = k) := by omega
              have hV : rowTo a b i (k + 1) (k + 1) = lcsAt a b i (k + 1) := by unfold rowTo; rw [if_pos (Nat.le_refl _)]
              clear hin hkm
              obtain ⟨s, hs⟩ : ∃ s, a[i]? = some s := ⟨a[i], by simp [b3]⟩
              obtain ⟨t, ht⟩ : ∃ t, b[k]? = some t := ⟨b[k], by simp [b4]⟩
              obtain ⟨p, off, rfl, _, _, hcx0, hxs⟩ := elems_str h3 hs
              obtain ⟨p', off', rfl, _, _, hcy0, hys⟩ := elems_str g3 ht
              have HLS := Lib.hid (lcsAt_step hs ht)
              have u1 := lcsAt_le a b (i + 1) k
              have u2 := lcsAt_le a b i (k + 1)
              have u3 := lcsAt_le a b (i + 1) (k + 1)
              clear h3 g3 hs ht
              by_cases hVU : lcsAt a b (i + 1) k < lcsAt a b i (k + 1)
              · by_cases hxy : s = t
                · subst hxy
                  have eZ : IntKind.i64.wrap (((lcsAt a b (i + 1) (k + 1) : Nat) : Int) + 1) = ((lcsAt a b (i + 1) (k + 1) : Nat) : Int) + 1 := IntWalk.i64_in _ (by omega)
                  by_cases hZ : lcsAt a b i (k + 1) < lcsAt a b (i + 1) (k + 1) + 1
                  · have HR : Hid ((((lcsAt a b (i + 1) (k + 1) : Nat) : Int) + 1) = lcsAt a b i k) := by rw [Hid, HLS.out, if_pos rfl, Nat.max_eq_right (a := lcsAt a b (i + 1) k) (by omega), Nat.max_eq_right (by omega)]; rfl
                    have hZ2 : ((lcsAt a b i (k + 1) : Nat) : Int) < ((lcsAt a b (i + 1) (k + 1) : Nat) : Int) + 1 := by omega
                    go_wp2_with fail
                    have e1 : IntKind.i64.wrap ((i : Int) + 1) = (i : Int) + 1 := IntWalk.i64_in _ (by omega)
                    have e2 : IntKind.i64.wrap ((k : Int) + 1) = (k : Int) + 1 := IntWalk.i64_in _ (by omega)
                    have e3 : (0 : Int) ≤ (i : Int) + 1 := by omega
                    have e4 : (0 : Int) ≤ (k : Int) + 1 := by omega
                    have e5 : (i : Int) + 1 < (a.length : Int) + 1 := by omega
                    have e6 : (k : Int) + 1 < (b.length : Int) + 1 := by omega
                    have e7 : ((i : Int) + 1).toNat = i + 1 := by omega
                    have e8 : ((k : Int) + 1).toNat = k + 1 := by omega
                    have e9 : (i : Int) < (a.length : Int) + 1 := by omega
                    have e10 : (k : Int) < (b.length : Int) + 1 := by omega
                    obtain ⟨f1, f2, f3, f4, f5, f6, f7⟩ := hM.facts b3 b4
                    simp only [if_true, if_neg hkne, hV] at f3 f4
                    refine wp_region_still_tail 14 (by kernel_rfl) (by kernel_rfl) ?_
                    simp only [List.take_succ_cons, List.take_zero, List.drop_succ_cons, List.drop_zero]
                    change wpStill _ _ wr.drew _ _ _
                    repeat still_step
                    refine wpStill_nil ?_
                    change wpList _ _ _ _ _ wr.drew
                    clear f1 f2 f3 f4 f5 f6 f7
                    have hM3 := hM.never ((Chg.refl Never wr).drew)
                    have hc3 := hc.drew
                    clear hM hc
                    generalize wr.drew = w3 at hM3 hc3 ⊢
                    obtain ⟨f1, f2, f3, f4, f5, f6, f7⟩ := hM3.facts b3 b4
                    simp only [if_true, if_neg hkne, hV] at f3 f4
                    go_wp2_with fail
                    clear e1 e2 e3 e4 e5 e6 e7 e8 e9 e10
                    clear f1 f2 f3 f4 f5 f6 f7
                    have hM4 := hM3.set hk4 ((lcsAt a b (i + 1) k : Nat) : Int)
                    have hc4 := hc3.setCell (p := ⟨R, k, none⟩) (.inl hRge) (.int .i64 ((lcsAt a b (i + 1) k : Nat) : Int))
                    clear hM3 hc3
                    generalize w3.setCell ⟨R, k, none⟩ (.int .i64 ((lcsAt a b (i + 1) k : Nat) : Int)) = w4 at hM4 hc4 ⊢
                    have e1 : IntKind.i64.wrap ((i : Int) + 1) = (i : Int) + 1 := IntWalk.i64_in _ (by omega)
                    have e2 : IntKind.i64.wrap ((k : Int) + 1) = (k : Int) + 1 := IntWalk.i64_in _ (by omega)
                    have e3 : (0 : Int) ≤ (i : Int) + 1 := by omega
                    have e4 : (0 : Int) ≤ (k : Int) + 1 := by omega
                    have e5 : (i : Int) + 1 < (a.length : Int) + 1 := by omega
                    have e6 : (k : Int) + 1 < (b.length : Int) + 1 := by omega
                    have e7 : ((i : Int) + 1).toNat = i + 1 := by omega
                    have e8 : ((k : Int) + 1).toNat = k + 1 := by omega
                    have e9 : (i : Int) < (a.length : Int) + 1 := by omega
                    have e10 : (k : Int) < (b.length : Int) + 1 := by omega
                    obtain ⟨f1, f2, f3, f4, f5, f6, f7⟩ := hM4.facts b3 b4
                    simp only [if_true, if_neg hkne, hV] at f3 f4
                    have hcx := hc4.cellNever hcx0
                    have hcy := hc4.cellNever hcy0
                    go_quiet (fail)
                    go_wp2_with fail
                    clear e1 e2 e3 e4 e5 e6 e7 e8 e9 e10
                    clear f1 f2 f3 f4 f5 f6 f7 hcx hcy
                    generalize hw5 : World.drewN w4 _ = w5
                    have hM5 := hw5 ▸ hM4.never ((Chg.refl Never w4).drewN _)
                    have hc5 := hw5 ▸ hc4.drewN _
                    clear hw5 hM4 hc4
                    have e1 : IntKind.i64.wrap ((i : Int) + 1) = (i : Int) + 1 := IntWalk.i64_in _ (by omega)
                    have e2 : IntKind.i64.wrap ((k : Int) + 1) = (k : Int) + 1 := IntWalk.i64_in _ (by omega)
                    have e3 : (0 : Int) ≤ (i : Int) + 1 := by omega
                    have e4 : (0 : Int) ≤ (k : Int) + 1 := by omega
                    have e5 : (i : Int) + 1 < (a.length : Int) + 1 := by omega
                    have e6 : (k : Int) + 1 < (b.length : Int) + 1 := by omega
                    have e7 : ((i : Int) + 1).toNat = i + 1 := by omega
                    have e8 : ((k : Int) + 1).toNat = k + 1 := by omega
                    have e9 : (i : Int) < (a.length : Int) + 1 := by omega
                    have e10 : (k : Int) < (b.length : Int) + 1 := by omega
                    obtain ⟨f1, f2, f3, f4, f5, f6, f7⟩ := hM5.facts b3 b4
                    simp only [if_true, if_neg hkne, hV] at f3 f4
                    refine wp_region_still_tail 14 (by kernel_rfl) (by kernel_rfl) ?_
                    simp only [List.take_succ_cons, List.take_zero, List.drop_succ_cons, List.drop_zero]
                    change wpStill _ _ w5.drew _ _ _
                    repeat still_step
                    refine wpStill_nil ?_
                    change wpList _ _ _ _ _ w5.drew
                    clear f1 f2 f3 f4 f5 f6 f7
                    have hM3 := hM5.never ((Chg.refl Never w5).drew)
                    have hc3 := hc5.drew
                    clear hM5 hc5
                    generalize w5.drew = w6 at hM3 hc3 ⊢
                    obtain ⟨f1, f2, f3, f4, f5, f6, f7⟩ := hM3.facts b3 b4
                    simp only [if_true, if_neg hkne, hV] at f3 f4
                    go_wp2_with fail
                    clear e1 e2 e3 e4 e5 e6 e7 e8 e9 e10
                    clear f1 f2 f3 f4 f5 f6 f7
                    have hM7 := hM3.set hk4 ((lcsAt a b i (k + 1) : Nat) : Int)
                    have hc7 := hc3.setCell (p := ⟨R, k, none⟩) (.inl hRge) (.int .i64 ((lcsAt a b i (k + 1) : Nat) : Int))
                    clear hM3 hc3
                    generalize w6.setCell ⟨R, k, none⟩ (.int .i64 ((lcsAt a b i (k + 1) : Nat) : Int)) = w7 at hM7 hc7 ⊢
                    have e1 : IntKind.i64.wrap ((i : Int) + 1) = (i : Int) + 1 := IntWalk.i64_in _ (by omega)
                    have e2 : IntKind.i64.wrap ((k : Int) + 1) = (k : Int) + 1 := IntWalk.i64_in _ (by omega)
                    have e3 : (0 : Int) ≤ (i : Int) + 1 := by omega
                    have e4 : (0 : Int) ≤ (k : Int) + 1 := by omega
                    have e5 : (i : Int) + 1 < (a.length : Int) + 1 := by omega
                    have e6 : (k : Int) + 1 < (b.length : Int) + 1 := by omega
                    have e7 : ((i : Int) + 1).toNat = i + 1 := by omega
                    have e8 : ((k : Int) + 1).toNat = k + 1 := by omega
                    have e9 : (i : Int) < (a.length : Int) + 1 := by omega
                    have e10 : (k : Int) < (b.length : Int) + 1 := by omega
                    obtain ⟨f1, f2, f3, f4, f5, f6, f7⟩ := hM7.facts b3 b4
                    simp only [if_true, if_neg hkne, hV] at f3 f4
                    have hcx := hc7.cellNever hcx0
                    have hcy := hc7.cellNever hcy0
                    go_quiet (fail)
                    go_wp2_with fail
                    clear e1 e2 e3 e4 e5 e6 e7 e8 e9 e10
                    clear f1 f2 f3 f4 f5 f6 f7 hcx hcy
                    generalize hw5 : World.drewN w7 _ = w8
                    have hM8 := hw5 ▸ hM7.never ((Chg.refl Never w7).drewN _)
                    have hc8 := hw5 ▸ hc7.drewN _
                    clear hw5 hM7 hc7
                    have e1 : IntKind.i64.wrap ((i : Int) + 1) = (i : Int) + 1 := IntWalk.i64_in _ (by omega)
                    have e2 : IntKind.i64.wrap ((k : Int) + 1) = (k : Int) + 1 := IntWalk.i64_in _ (by omega)
                    have e3 : (0 : Int) ≤ (i : Int) + 1 := by omega
                    have e4 : (0 : Int) ≤ (k : Int) + 1 := by omega
                    have e5 : (i : Int) + 1 < (a.length : Int) + 1 := by omega
                    have e6 : (k : Int) + 1 < (b.length : Int) + 1 := by omega
                    have e7 : ((i : Int) + 1).toNat = i + 1 := by omega
                    have e8 : ((k : Int) + 1).toNat = k + 1 := by omega
                    have e9 : (i : Int) < (a.length : Int) + 1 := by omega
                    have e10 : (k : Int) < (b.length : Int) + 1 := by omega
                    obtain ⟨f1, f2, f3, f4, f5, f6, f7⟩ := hM8.facts b3 b4
                    simp only [if_true, if_neg hkne, hV] at f3 f4
                    refine wp_region_still_tail 16 (by kernel_rfl) (by kernel_rfl) ?_
                    simp only [List.take_succ_cons, List.take_zero, List.drop_succ_cons, List.drop_zero]
                    change wpStill _ _ w8.drew _ _ _
                    repeat still_step
                    refine wpStill_nil ?_
                    change wpList _ _ _ _ _ w8.drew
                    clear f1 f2 f3 f4 f5 f6 f7
                    have hM3 := hM8.never ((Chg.refl Never w8).drew)
                    have hc3 := hc8.drew
                    clear hM8 hc8
                    generalize w8.drew = w9 at hM3 hc3 ⊢
                    obtain ⟨f1, f2, f3, f4, f5, f6, f7⟩ := hM3.facts b3 b4
                    simp only [if_true, if_neg hkne, hV] at f3 f4
                    go_wp2_with fail
                    clear e1 e2 e3 e4 e5 e6 e7 e8 e9 e10
                    clear f1 f2 f3 f4 f5 f6 f7
                    have hM10 := hM3.set hk4 (((lcsAt a b (i + 1) (k + 1) : Nat) : Int) + 1)
                    have hc10 := hc3.setCell (p := ⟨R, k, none⟩) (.inl hRge) (.int .i64 (((lcsAt a b (i + 1) (k + 1) : Nat) : Int) + 1))
                    clear hM3 hc3
                    generalize w9.setCell ⟨R, k, none⟩ (.int .i64 (((lcsAt a b (i + 1) (k + 1) : Nat) : Int) + 1)) = w10 at hM10 hc10 ⊢
                    go_roundw
                    case rel => exact ⟨(k : Int) - 1, by omega, by omega, rfl, hc10, by
                      rw [show ((k : Int) - 1 + 1).toNat = k by omega]
                      exact hM10.congr (fun j _ => by first | exact rowTo_step HR.out j | (rw [rowTo_step HR.out]; by_cases h : j = k <;> simp [h]))⟩
                    case measure => simp [intOf] <;> omega
                  · have HR : Hid (((lcsAt a b i (k + 1) : Nat) : Int) = lcsAt a b i k) := by rw [Hid, HLS.out, if_pos rfl, Nat.max_eq_right (a := lcsAt a b (i + 1) k) (by omega), Nat.max_eq_left (by omega)]
                    have hZ2 : ¬ (((lcsAt a b i (k + 1) : Nat) : Int) < ((lcsAt a b (i + 1) (k + 1) : Nat) : Int) + 1) := by omega
                    go_wp2_with fail
                    have e1 : IntKind.i64.wrap ((i : Int) + 1) = (i : Int) + 1 := IntWalk.i64_in _ (by omega)
                    have e2 : IntKind.i64.wrap ((k : Int) + 1) = (k : Int) + 1 := IntWalk.i64_in _ (by omega)
                    have e3 : (0 : Int) ≤ (i : Int) + 1 := by omega
                    have e4 : (0 : Int) ≤ (k : Int) + 1 := by omega
                    have e5 : (i : Int) + 1 < (a.length : Int) + 1 := by omega
                    have e6 : (k : Int) + 1 < (b.length : Int) + 1 := by omega
                    have e7 : ((i : Int) + 1).toNat = i + 1 := by omega
                    have e8 : ((k : Int) + 1).toNat = k + 1 := by omega
                    have e9 : (i : Int) < (a.length : Int) + 1 := by omega
                    have e10 : (k : Int) < (b.length : Int) + 1 := by omega
                    obtain ⟨f1, f2, f3, f4, f5, f6, f7⟩ := hM.facts b3 b4
                    simp only [if_true, if_neg hkne, hV] at f3 f4
                    refine wp_region_still_tail 14 (by kernel_rfl) (by kernel_rfl) ?_
                    simp only [List.take_succ_cons, List.take_zero, List.drop_succ_cons, List.drop_zero]
                    change wpStill _ _ wr.drew _ _ _
                    repeat still_step
                    refine wpStill_nil ?_
                    change wpList _ _ _ _ _ wr.drew
                    clear f1 f2 f3 f4 f5 f6 f7
                    have hM3 := hM.never ((Chg.refl Never wr).drew)
                    have hc3 := hc.drew
                    clear hM hc
                    generalize wr.drew = w3 at hM3 hc3 ⊢
                    obtain ⟨f1, f2, f3, f4, f5, f6, f7⟩ := hM3.facts b3 b4
                    simp only [if_true, if_neg hkne, hV] at f3 f4
                    go_wp2_with fail
                    clear e1 e2 e3 e4 e5 e6 e7 e8 e9 e10
                    clear f1 f2 f3 f4 f5 f6 f7
                    have hM4 := hM3.set hk4 ((lcsAt a b (i + 1) k : Nat) : Int)
                    have hc4 := hc3.setCell (p := ⟨R, k, none⟩) (.inl hRge) (.int .i64 ((lcsAt a b (i + 1) k : Nat) : Int))
                    clear hM3 hc3
                    generalize w3.setCell ⟨R, k, none⟩ (.int .i64 ((lcsAt a b (i + 1) k : Nat) : Int)) = w4 at hM4 hc4 ⊢
                    have e1 : IntKind.i64.wrap ((i : Int) + 1) = (i : Int) + 1 := IntWalk.i64_in _ (by omega)
                    have e2 : IntKind.i64.wrap ((k : Int) + 1) = (k : Int) + 1 := IntWalk.i64_in _ (by omega)
                    have e3 : (0 : Int) ≤ (i : Int) + 1 := by omega
                    have e4 : (0 : Int) ≤ (k : Int) + 1 := by omega
                    have e5 : (i : Int) + 1 < (a.length : Int) + 1 := by omega
                    have e6 : (k : Int) + 1 < (b.length : Int) + 1 := by omega
                    have e7 : ((i : Int) + 1).toNat = i + 1 := by omega
                    have e8 : ((k : Int) + 1).toNat = k + 1 := by omega
                    have e9 : (i : Int) < (a.length : Int) + 1 := by omega
                    have e10 : (k : Int) < (b.length : Int) + 1 := by omega
                    obtain ⟨f1, f2, f3, f4, f5, f6, f7⟩ := hM4.facts b3 b4
                    simp only [if_true, if_neg hkne, hV] at f3 f4
                    have hcx := hc4.cellNever hcx0
                    have hcy := hc4.cellNever hcy0
                    go_quiet (fail)
                    go_wp2_with fail
                    clear e1 e2 e3 e4 e5 e6 e7 e8 e9 e10
                    clear f1 f2 f3 f4 f5 f6 f7 hcx hcy
                    generalize hw5 : World.drewN w4 _ = w5
                    have hM5 := hw5 ▸ hM4.never ((Chg.refl Never w4).drewN _)
                    have hc5 := hw5 ▸ hc4.drewN _
                    clear hw5 hM4 hc4
                    have e1 : IntKind.i64.wrap ((i : Int) + 1) = (i : Int) + 1 := IntWalk.i64_in _ (by omega)
                    have e2 : IntKind.i64.wrap ((k : Int) + 1) = (k : Int) + 1 := IntWalk.i64_in _ (by omega)
                    have e3 : (0 : Int) ≤ (i : Int) + 1 := by omega
                    have e4 : (0 : Int) ≤ (k : Int) + 1 := by omega
                    have e5 : (i : Int) + 1 < (a.length : Int) + 1 := by omega
                    have e6 : (k : Int) + 1 < (b.length : Int) + 1 := by omega
                    have e7 : ((i : Int) + 1).toNat = i + 1 := by omega
                    have e8 : ((k : Int) + 1).toNat = k + 1 := by omega
                    have e9 : (i : Int) < (a.length : Int) + 1 := by omega
                    have e10 : (k : Int) < (b.length : Int) + 1 := by omega
                    obtain ⟨f1, f2, f3, f4, f5, f6, f7⟩ := hM5.facts b3 b4
                    simp only [if_true, if_neg hkne, hV] at f3 f4
                    refine wp_region_still_tail 14 (by kernel_rfl) (by kernel_rfl) ?_
                    simp only [List.take_succ_cons, List.take_zero, List.drop_succ_cons, List.drop_zero]
                    change wpStill _ _ w5.drew _ _ _
                    repeat still_step
                    refine wpStill_nil ?_
                    change wpList _ _ _ _ _ w5.drew
                    clear f1 f2 f3 f4 f5 f6 f7
                    have hM3 := hM5.never ((Chg.refl Never w5).drew)
                    have hc3 := hc5.drew
                    clear hM5 hc5
                    generalize w5.drew = w6 at hM3 hc3 ⊢
                    obtain ⟨f1, f2, f3, f4, f5, f6, f7⟩ := hM3.facts b3 b4
                    simp only [if_true, if_neg hkne, hV] at f3 f4
                    go_wp2_with fail
                    clear e1 e2 e3 e4 e5 e6 e7 e8 e9 e10
                    clear f1 f2 f3 f4 f5 f6 f7
                    have hM7 := hM3.set hk4 ((lcsAt a b i (k + 1) : Nat) : Int)
                    have hc7 := hc3.setCell (p := ⟨R, k, none⟩) (.inl hRge) (.int .i64 ((lcsAt a b i (k + 1) : Nat) : Int))
                    clear hM3 hc3
                    generalize w6.setCell ⟨R, k, none⟩ (.int .i64 ((lcsAt a b i (k + 1) : Nat) : Int)) = w7 at hM7 hc7 ⊢
                    have e1 : IntKind.i64.wrap ((i : Int) + 1) = (i : Int) + 1 := IntWalk.i64_in _ (by omega)
                    have e2 : IntKind.i64.wrap ((k : Int) + 1) = (k : Int) + 1 := IntWalk.i64_in _ (by omega)
                    have e3 : (0 : Int) ≤ (i : Int) + 1 := by omega
                    have e4 : (0 : Int) ≤ (k : Int) + 1 := by omega
                    have e5 : (i : Int) + 1 < (a.length : Int) + 1 := by omega
                    have e6 : (k : Int) + 1 < (b.length : Int) + 1 := by omega
                    have e7 : ((i : Int) + 1).toNat = i + 1 := by omega
                    have e8 : ((k : Int) + 1).toNat = k + 1 := by omega
                    have e9 : (i : Int) < (a.length : Int) + 1 := by omega
                    have e10 : (k : Int) < (b.length : Int) + 1 := by omega
                    obtain ⟨f1, f2, f3, f4, f5, f6, f7⟩ := hM7.facts b3 b4
                    simp only [if_true, if_neg hkne, hV] at f3 f4
                    have hcx := hc7.cellNever hcx0
                    have hcy := hc7.cellNever hcy0
                    go_quiet (fail)
                    go_wp2_with fail
                    clear e1 e2 e3 e4 e5 e6 e7 e8 e9 e10
                    clear f1 f2 f3 f4 f5 f6 f7 hcx hcy
                    generalize hw5 : World.drewN w7 _ = w8
                    have hM8 := hw5 ▸ hM7.never ((Chg.refl Never w7).drewN _)
                    have hc8 := hw5 ▸ hc7.drewN _
                    clear hw5 hM7 hc7
                    go_roundw
                    case rel => exact ⟨(k : Int) - 1, by omega, by omega, rfl, hc8, by
                      rw [show ((k : Int) - 1 + 1).toNat = k by omega]
                      exact hM8.congr (fun j _ => by first | exact rowTo_step HR.out j | (rw [rowTo_step HR.out]; by_cases h : j = k <;> simp [h]))⟩
                    case measure => simp [intOf] <;> omega
                · have hne := str_beq_false hxy
                  have HR : Hid (((lcsAt a b i (k + 1) : Nat) : Int) = lcsAt a b i k) := by rw [Hid, HLS.out, if_neg hxy, Nat.max_eq_right (by omega)]
                  go_wp2_with fail
                  have e1 : IntKind.i64.wrap ((i : Int) + 1) = (i : Int) + 1 := IntWalk.i64_in _ (by omega)
                  have e2 : IntKind.i64.wrap ((k : Int) + 1) = (k : Int) + 1 := IntWalk.i64_in _ (by omega)
                  have e3 : (0 : Int) ≤ (i : Int) + 1 := by omega
                  have e4 : (0 : Int) ≤ (k : Int) + 1 := by omega
                  have e5 : (i : Int) + 1 < (a.length : Int) + 1 := by omega
                  have e6 : (k : Int) + 1 < (b.length : Int) + 1 := by omega
                  have e7 : ((i : Int) + 1).toNat = i + 1 := by omega
                  have e8 : ((k : Int) + 1).toNat = k + 1 := by omega
                  have e9 : (i : Int) < (a.length : Int) + 1 := by omega
                  have e10 : (k : Int) < (b.length : Int) + 1 := by omega
                  obtain ⟨f1, f2, f3, f4, f5, f6, f7⟩ := hM.facts b3 b4
                  simp only [if_true, if_neg hkne, hV] at f3 f4
                  refine wp_region_still_tail 14 (by kernel_rfl) (by kernel_rfl) ?_
                  simp only [List.take_succ_cons, List.take_zero, List.drop_succ_cons, List.drop_zero]
                  change wpStill _ _ wr.drew _ _ _
                  repeat still_step
                  refine wpStill_nil ?_
                  change wpList _ _ _ _ _ wr.drew
                  clear f1 f2 f3 f4 f5 f6 f7
                  have hM3 := hM.never ((Chg.refl Never wr).drew)
                  have hc3 := hc.drew
                  clear hM hc
                  generalize wr.drew = w3 at hM3 hc3 ⊢
                  obtain ⟨f1, f2, f3, f4, f5, f6, f7⟩ := hM3.facts b3 b4
                  simp only [if_true, if_neg hkne, hV] at f3 f4
                  go_wp2_with fail
                  clear e1 e2 e3 e4 e5 e6 e7 e8 e9 e10
                  clear f1 f2 f3 f4 f5 f6 f7
                  have hM4 := hM3.set hk4 ((lcsAt a b (i + 1) k : Nat) : Int)
                  have hc4 := hc3.setCell (p := ⟨R, k, none⟩) (.inl hRge) (.int .i64 ((lcsAt a b (i + 1) k : Nat) : Int))
                  clear hM3 hc3
                  generalize w3.setCell ⟨R, k, none⟩ (.int .i64 ((lcsAt a b (i + 1) k : Nat) : Int)) = w4 at hM4 hc4 ⊢
                  have e1 : IntKind.i64.wrap ((i : Int) + 1) = (i : Int) + 1 := IntWalk.i64_in _ (by omega)
                  have e2 : IntKind.i64.wrap ((k : Int) + 1) = (k : Int) + 1 := IntWalk.i64_in _ (by omega)
                  have e3 : (0 : Int) ≤ (i : Int) + 1 := by omega
                  have e4 : (0 : Int) ≤ (k : Int) + 1 := by omega
                  have e5 : (i : Int) + 1 < (a.length : Int) + 1 := by omega
                  have e6 : (k : Int) + 1 < (b.length : Int) + 1 := by omega
                  have e7 : ((i : Int) + 1).toNat = i + 1 := by omega
                  have e8 : ((k : Int) + 1).toNat = k + 1 := by omega
                  have e9 : (i : Int) < (a.length : Int) + 1 := by omega
                  have e10 : (k : Int) < (b.length : Int) + 1 := by omega
                  obtain ⟨f1, f2, f3, f4, f5, f6, f7⟩ := hM4.facts b3 b4
                  simp only [if_true, if_neg hkne, hV] at f3 f4
                  have hcx := hc4.cellNever hcx0
                  have hcy := hc4.cellNever hcy0
                  go_quiet (fail)
                  go_wp2_with fail
                  clear e1 e2 e3 e4 e5 e6 e7 e8 e9 e10
                  clear f1 f2 f3 f4 f5 f6 f7 hcx hcy
                  generalize hw5 : World.drewN w4 _ = w5
                  have hM5 := hw5 ▸ hM4.never ((Chg.refl Never w4).drewN _)
                  have hc5 := hw5 ▸ hc4.drewN _
                  clear hw5 hM4 hc4
                  have e1 : IntKind.i64.wrap ((i : Int) + 1) = (i : Int) + 1 := IntWalk.i64_in _ (by omega)
                  have e2 : IntKind.i64.wrap ((k : Int) + 1) = (k : Int) + 1 := IntWalk.i64_in _ (by omega)
                  have e3 : (0 : Int) ≤ (i : Int) + 1 := by omega
                  have e4 : (0 : Int) ≤ (k : Int) + 1 := by omega
                  have e5 : (i : Int) + 1 < (a.length : Int) + 1 := by omega
                  have e6 : (k : Int) + 1 < (b.length : Int) + 1 := by omega
                  have e7 : ((i : Int) + 1).toNat = i + 1 := by omega
                  have e8 : ((k : Int) + 1).toNat = k + 1 := by omega
                  have e9 : (i : Int) < (a.length : Int) + 1 := by omega
                  have e10 : (k : Int) < (b.length : Int) + 1 := by omega
                  obtain ⟨f1, f2, f3, f4, f5, f6, f7⟩ := hM5.facts b3 b4
                  simp only [if_true, if_neg hkne, hV] at f3 f4
                  refine wp_region_still_tail 14 (by kernel_rfl) (by kernel_rfl) ?_
                  simp only [List.take_succ_cons, List.take_zero, List.drop_succ_cons, List.drop_zero]
                  change wpStill _ _ w5.drew _ _ _
                  repeat still_step
                  refine wpStill_nil ?_
                  change wpList _ _ _ _ _ w5.drew
                  clear f1 f2 f3 f4 f5 f6 f7
                  have hM3 := hM5.never ((Chg.refl Never w5).drew)
                  have hc3 := hc5.drew
                  clear hM5 hc5
                  generalize w5.drew = w6 at hM3 hc3 ⊢
                  obtain ⟨f1, f2, f3, f4, f5, f6, f7⟩ := hM3.facts b3 b4
                  simp only [if_true, if_neg hkne, hV] at f3 f4
                  go_wp2_with fail
                  clear e1 e2 e3 e4 e5 e6 e7 e8 e9 e10
                  clear f1 f2 f3 f4 f5 f6 f7
                  have hM7 := hM3.set hk4 ((lcsAt a b i (k + 1) : Nat) : Int)
                  have hc7 := hc3.setCell (p := ⟨R, k, none⟩) (.inl hRge) (.int .i64 ((lcsAt a b i (k + 1) : Nat) : Int))
                  clear hM3 hc3
                  generalize w6.setCell ⟨R, k, none⟩ (.int .i64 ((lcsAt a b i (k + 1) : Nat) : Int)) = w7 at hM7 hc7 ⊢
                  have e1 : IntKind.i64.wrap ((i : Int) + 1) = (i : Int) + 1 := IntWalk.i64_in _ (by omega)
                  have e2 : IntKind.i64.wrap ((k : Int) + 1) = (k : Int) + 1 := IntWalk.i64_in _ (by omega)
                  have e3 : (0 : Int) ≤ (i : Int) + 1 := by omega
                  have e4 : (0 : Int) ≤ (k : Int) + 1 := by omega
                  have e5 : (i : Int) + 1 < (a.length : Int) + 1 := by omega
                  have e6 : (k : Int) + 1 < (b.length : Int) + 1 := by omega
                  have e7 : ((i : Int) + 1).toNat = i + 1 := by omega
                  have e8 : ((k : Int) + 1).toNat = k + 1 := by omega
                  have e9 : (i : Int) < (a.length : Int) + 1 := by omega
                  have e10 : (k : Int) < (b.length : Int) + 1 := by omega
                  obtain ⟨f1, f2, f3, f4, f5, f6, f7⟩ := hM7.facts b3 b4
                  simp only [if_true, if_neg hkne, hV] at f3 f4
                  have hcx := hc7.cellNever hcx0
                  have hcy := hc7.cellNever hcy0
                  go_quiet (fail)
                  go_wp2_with fail
                  clear e1 e2 e3 e4 e5 e6 e7 e8 e9 e10
                  clear f1 f2 f3 f4 f5 f6 f7 hcx hcy
                  generalize hw5 : World.drewN w7 _ = w8
                  have hM8 := hw5 ▸ hM7.never ((Chg.refl Never w7).drewN _)
                  have hc8 := hw5 ▸ hc7.drewN _
                  clear hw5 hM7 hc7
                  go_roundw
                  case rel => exact ⟨(k : Int) - 1, by omega, by omega, rfl, hc8, by
                    rw [show ((k : Int) - 1 + 1).toNat = k by omega]
                    exact hM8.congr (fun j _ => by first | exact rowTo_step HR.out j | (rw [rowTo_step HR.out]; by_cases h : j = k <;> simp [h]))⟩
                  case measure => simp [intOf] <;> omega
              · by_cases hxy : s = t
                · subst hxy
                  have eZ : IntKind.i64.wrap (((lcsAt a b (i + 1) (k + 1) : Nat) : Int) + 1) = ((lcsAt a b (i + 1) (k + 1) : Nat) : Int) + 1 := IntWalk.i64_in _ (by omega)
                  by_cases hZ : lcsAt a b (i + 1) k < lcsAt a b (i + 1) (k + 1) + 1
                  · have HR : Hid ((((lcsAt a b (i + 1) (k + 1) : Nat) : Int) + 1) = lcsAt a b i k) := by rw [Hid, HLS.out, if_pos rfl, Nat.max_eq_left (b := lcsAt a b i (k + 1)) (by omega), Nat.max_eq_right (by omega)]; rfl
                    have hZ2 : ((lcsAt a b (i + 1) k : Nat) : Int) < ((lcsAt a b (i + 1) (k + 1) : Nat) : Int) + 1 := by omega
                    go_wp2_with fail
                    have e1 : IntKind.i64.wrap ((i : Int) + 1) = (i : Int) + 1 := IntWalk.i64_in _ (by omega)
                    have e2 : IntKind.i64.wrap ((k : Int) + 1) = (k : Int) + 1 := IntWalk.i64_in _ (by omega)
                    have e3 : (0 : Int) ≤ (i : Int) + 1 := by omega
                    have e4 : (0 : Int) ≤ (k : Int) + 1 := by omega
                    have e5 : (i : Int) + 1 < (a.length : Int) + 1 := by omega
                    have e6 : (k : Int) + 1 < (b.length : Int) + 1 := by omega
                    have e7 : ((i : Int) + 1).toNat = i + 1 := by omega
                    have e8 : ((k : Int) + 1).toNat = k + 1 := by omega
                    have e9 : (i : Int) < (a.length : Int) + 1 := by omega
                    have e10 : (k : Int) < (b.length : Int) + 1 := by omega
                    obtain ⟨f1, f2, f3, f4, f5, f6, f7⟩ := hM.facts b3 b4
                    simp only [if_true, if_neg hkne, hV] at f3 f4
                    refine wp_region_still_tail 14 (by kernel_rfl) (by kernel_rfl) ?_
                    simp only [List.take_succ_cons, List.take_zero, List.drop_succ_cons, List.drop_zero]
                    change wpStill _ _ wr.drew _ _ _
                    repeat still_step
                    refine wpStill_nil ?_
                    change wpList _ _ _ _ _ wr.drew
                    clear f1 f2 f3 f4 f5 f6 f7
                    have hM3 := hM.never ((Chg.refl Never wr).drew)
                    have hc3 := hc.drew
                    clear hM hc
                    generalize wr.drew = w3 at hM3 hc3 ⊢
                    obtain ⟨f1, f2, f3, f4, f5, f6, f7⟩ := hM3.facts b3 b4
                    simp only [if_true, if_neg hkne, hV] at f3 f4
                    go_wp2_with fail
                    clear e1 e2 e3 e4 e5 e6 e7 e8 e9 e10
                    clear f1 f2 f3 f4 f5 f6 f7
                    have hM4 := hM3.set hk4 ((lcsAt a b (i + 1) k : Nat) : Int)
                    have hc4 := hc3.setCell (p := ⟨R, k, none⟩) (.inl hRge) (.int .i64 ((lcsAt a b (i + 1) k : Nat) : Int))
                    clear hM3 hc3
                    generalize w3.setCell ⟨R, k, none⟩ (.int .i64 ((lcsAt a b (i + 1) k : Nat) : Int)) = w4 at hM4 hc4 ⊢
                    have e1 : IntKind.i64.wrap ((i : Int) + 1) = (i : Int) + 1 := IntWalk.i64_in _ (by omega)
                    have e2 : IntKind.i64.wrap ((k : Int) + 1) = (k : Int) + 1 := IntWalk.i64_in _ (by omega)
                    have e3 : (0 : Int) ≤ (i : Int) + 1 := by omega
                    have e4 : (0 : Int) ≤ (k : Int) + 1 := by omega
                    have e5 : (i : Int) + 1 < (a.length : Int) + 1 := by omega
                    have e6 : (k : Int) + 1 < (b.length : Int) + 1 := by omega
                    have e7 : ((i : Int) + 1).toNat = i + 1 := by omega
                    have e8 : ((k : Int) + 1).toNat = k + 1 := by omega
                    have e9 : (i : Int) < (a.length : Int) + 1 := by omega
                    have e10 : (k : Int) < (b.length : Int) + 1 := by omega
                    obtain ⟨f1, f2, f3, f4, f5, f6, f7⟩ := hM4.facts b3 b4
                    simp only [if_true, if_neg hkne, hV] at f3 f4
                    have hcx := hc4.cellNever hcx0
                    have hcy := hc4.cellNever hcy0
                    go_quiet (fail)
                    go_wp2_with fail
                    clear e1 e2 e3 e4 e5 e6 e7 e8 e9 e10
                    clear f1 f2 f3 f4 f5 f6 f7 hcx hcy
                    generalize hw5 : World.drewN w4 _ = w5
                    have hM5 := hw5 ▸ hM4.never ((Chg.refl Never w4).drewN _)
                    have hc5 := hw5 ▸ hc4.drewN _
                    clear hw5 hM4 hc4
                    have e1 : IntKind.i64.wrap ((i : Int) + 1) = (i : Int) + 1 := IntWalk.i64_in _ (by omega)
                    have e2 : IntKind.i64.wrap ((k : Int) + 1) = (k : Int) + 1 := IntWalk.i64_in _ (by omega)
                    have e3 : (0 : Int) ≤ (i : Int) + 1 := by omega
                    have e4 : (0 : Int) ≤ (k : Int) + 1 := by omega
                    have e5 : (i : Int) + 1 < (a.length : Int) + 1 := by omega
                    have e6 : (k : Int) + 1 < (b.length : Int) + 1 := by omega
                    have e7 : ((i : Int) + 1).toNat = i + 1 := by omega
                    have e8 : ((k : Int) + 1).toNat = k + 1 := by omega
                    have e9 : (i : Int) < (a.length : Int) + 1 := by omega
                    have e10 : (k : Int) < (b.length : Int) + 1 := by omega
                    obtain ⟨f1, f2, f3, f4, f5, f6, f7⟩ := hM5.facts b3 b4
                    simp only [if_true, if_neg hkne, hV] at f3 f4
                    have hcx := hc5.cellNever hcx0
                    have hcy := hc5.cellNever hcy0
                    go_quiet (fail)
                    go_wp2_with fail
                    clear e1 e2 e3 e4 e5 e6 e7 e8 e9 e10
                    clear f1 f2 f3 f4 f5 f6 f7 hcx hcy
                    generalize hw5 : World.drewN w5 _ = w6
                    have hM6 := hw5 ▸ hM5.never ((Chg.refl Never w5).drewN _)
                    have hc6 := hw5 ▸ hc5.drewN _
                    clear hw5 hM5 hc5
                    have e1 : IntKind.i64.wrap ((i : Int) + 1) = (i : Int) + 1 := IntWalk.i64_in _ (by omega)
                    have e2 : IntKind.i64.wrap ((k : Int) + 1) = (k : Int) + 1 := IntWalk.i64_in _ (by omega)
                    have e3 : (0 : Int) ≤ (i : Int) + 1 := by omega
                    have e4 : (0 : Int) ≤ (k : Int) + 1 := by omega
                    have e5 : (i : Int) + 1 < (a.length : Int) + 1 := by omega
                    have e6 : (k : Int) + 1 < (b.length : Int) + 1 := by omega
                    have e7 : ((i : Int) + 1).toNat = i + 1 := by omega
                    have e8 : ((k : Int) + 1).toNat = k + 1 := by omega
                    have e9 : (i : Int) < (a.length : Int) + 1 := by omega
                    have e10 : (k : Int) < (b.length : Int) + 1 := by omega
                    obtain ⟨f1, f2, f3, f4, f5, f6, f7⟩ := hM6.facts b3 b4
                    simp only [if_true, if_neg hkne, hV] at f3 f4
                    refine wp_region_still_tail 16 (by kernel_rfl) (by kernel_rfl) ?_
                    simp only [List.take_succ_cons, List.take_zero, List.drop_succ_cons, List.drop_zero]
                    change wpStill _ _ w6.drew _ _ _
                    repeat still_step
                    refine wpStill_nil ?_
                    change wpList _ _ _ _ _ w6.drew
                    clear f1 f2 f3 f4 f5 f6 f7
                    have hM3 := hM6.never ((Chg.refl Never w6).drew)
                    have hc3 := hc6.drew
                    clear hM6 hc6
                    generalize w6.drew = w9 at hM3 hc3 ⊢
                    obtain ⟨f1, f2, f3, f4, f5, f6, f7⟩ := hM3.facts b3 b4
                    simp only [if_true, if_neg hkne, hV] at f3 f4
                    go_wp2_with fail
                    clear e1 e2 e3 e4 e5 e6 e7 e8 e9 e10
                    clear f1 f2 f3 f4 f5 f6 f7
                    have hM10 := hM3.set hk4 (((lcsAt a b (i + 1) (k + 1) : Nat) : Int) + 1)
                    have hc10 := hc3.setCell (p := ⟨R, k, none⟩) (.inl hRge) (.int .i64 (((lcsAt a b (i + 1) (k + 1) : Nat) : Int) + 1))
                    clear hM3 hc3
                    generalize w9.setCell ⟨R, k, none⟩ (.int .i64 (((lcsAt a b (i + 1) (k + 1) : Nat) : Int) + 1)) = w10 at hM10 hc10 ⊢
                    go_roundw
                    case rel => exact ⟨(k : Int) - 1, by omega, by omega, rfl, hc10, by
                      rw [show ((k : Int) - 1 + 1).toNat = k by omega]
                      exact hM10.congr (fun j _ => by first | exact rowTo_step HR.out j | (rw [rowTo_step HR.out]; by_cases h : j = k <;> simp [h]))⟩
                    case measure => simp [intOf] <;> omega
                  · have HR : Hid (((lcsAt a b (i + 1) k : Nat) : Int) = lcsAt a b i k) := by rw [Hid, HLS.out, if_pos rfl, Nat.max_eq_left (b := lcsAt a b i (k + 1)) (by omega), Nat.max_eq_left (by omega)]
                    have hZ2 : ¬ (((lcsAt a b (i + 1) k : Nat) : Int) < ((lcsAt a b (i + 1) (k + 1) : Nat) : Int) + 1) := by omega
                    go_wp2_with fail
                    have e1 : IntKind.i64.wrap ((i : Int) + 1) = (i : Int) + 1 := IntWalk.i64_in _ (by omega)
                    have e2 : IntKind.i64.wrap ((k : Int) + 1) = (k : Int) + 1 := IntWalk.i64_in _ (by omega)
                    have e3 : (0 : Int) ≤ (i : Int) + 1 := by omega
                    have e4 : (0 : Int) ≤ (k : Int) + 1 := by omega
                    have e5 : (i : Int) + 1 < (a.length : Int) + 1 := by omega
                    have e6 : (k : Int) + 1 < (b.length : Int) + 1 := by omega
                    have e7 : ((i : Int) + 1).toNat = i + 1 := by omega
                    have e8 : ((k : Int) + 1).toNat = k + 1 := by omega
                    have e9 : (i : Int) < (a.length : Int) + 1 := by omega
                    have e10 : (k : Int) < (b.length : Int) + 1 := by omega
                    obtain ⟨f1, f2, f3, f4, f5, f6, f7⟩ := hM.facts b3 b4
                    simp only [if_true, if_neg hkne, hV] at f3 f4
                    refine wp_region_still_tail 14 (by kernel_rfl) (by kernel_rfl) ?_
                    simp only [List.take_succ_cons, List.take_zero, List.drop_succ_cons, List.drop_zero]
                    change wpStill _ _ wr.drew _ _ _
                    repeat still_step
                    refine wpStill_nil ?_
                    change wpList _ _ _ _ _ wr.drew
                    clear f1 f2 f3 f4 f5 f6 f7
                    have hM3 := hM.never ((Chg.refl Never wr).drew)
                    have hc3 := hc.drew
                    clear hM hc
                    generalize wr.drew = w3 at hM3 hc3 ⊢
                    obtain ⟨f1, f2, f3, f4, f5, f6, f7⟩ := hM3.facts b3 b4
                    simp only [if_true, if_neg hkne, hV] at f3 f4
                    go_wp2_with fail
                    clear e1 e2 e3 e4 e5 e6 e7 e8 e9 e10
                    clear f1 f2 f3 f4 f5 f6 f7
                    have hM4 := hM3.set hk4 ((lcsAt a b (i + 1) k : Nat) : Int)
                    have hc4 := hc3.setCell (p := ⟨R, k, none⟩) (.inl hRge) (.int .i64 ((lcsAt a b (i + 1) k : Nat) : Int))
                    clear hM3 hc3
                    generalize w3.setCell ⟨R, k, none⟩ (.int .i64 ((lcsAt a b (i + 1) k : Nat) : Int)) = w4 at hM4 hc4 ⊢
                    have e1 : IntKind.i64.wrap ((i : Int) + 1) = (i : Int) + 1 := IntWalk.i64_in _ (by omega)
                    have e2 : IntKind.i64.wrap ((k : Int) + 1) = (k : Int) + 1 := IntWalk.i64_in _ (by omega)
                    have e3 : (0 : Int) ≤ (i : Int) + 1 := by omega
                    have e4 : (0 : Int) ≤ (k : Int) + 1 := by omega
                    have e5 : (i : Int) + 1 < (a.length : Int) + 1 := by omega
                    have e6 : (k : Int) + 1 < (b.length : Int) + 1 := by omega
                    have e7 : ((i : Int) + 1).toNat = i + 1 := by omega
                    have e8 : ((k : Int) + 1).toNat = k + 1 := by omega
                    have e9 : (i : Int) < (a.length : Int) + 1 := by omega
                    have e10 : (k : Int) < (b.length : Int) + 1 := by omega
                    obtain ⟨f1, f2, f3, f4, f5, f6, f7⟩ := hM4.facts b3 b4
                    simp only [if_true, if_neg hkne, hV] at f3 f4
                    have hcx := hc4.cellNever hcx0
                    have hcy := hc4.cellNever hcy0
                    go_quiet (fail)
                    go_wp2_with fail
                    clear e1 e2 e3 e4 e5 e6 e7 e8 e9 e10
                    clear f1 f2 f3 f4 f5 f6 f7 hcx hcy
                    generalize hw5 : World.drewN w4 _ = w5
                    have hM5 := hw5 ▸ hM4.never ((Chg.refl Never w4).drewN _)
                    have hc5 := hw5 ▸ hc4.drewN _
                    clear hw5 hM4 hc4
                    have e1 : IntKind.i64.wrap ((i : Int) + 1) = (i : Int) + 1 := IntWalk.i64_in _ (by omega)
                    have e2 : IntKind.i64.wrap ((k : Int) + 1) = (k : Int) + 1 := IntWalk.i64_in _ (by omega)
                    have e3 : (0 : Int) ≤ (i : Int) + 1 := by omega
                    have e4 : (0 : Int) ≤ (k : Int) + 1 := by omega
                    have e5 : (i : Int) + 1 < (a.length : Int) + 1 := by omega
                    have e6 : (k : Int) + 1 < (b.length : Int) + 1 := by omega
                    have e7 : ((i : Int) + 1).toNat = i + 1 := by omega
                    have e8 : ((k : Int) + 1).toNat = k + 1 := by omega
                    have e9 : (i : Int) < (a.length : Int) + 1 := by omega
                    have e10 : (k : Int) < (b.length : Int) + 1 := by omega
                    obtain ⟨f1, f2, f3, f4, f5, f6, f7⟩ := hM5.facts b3 b4
                    simp only [if_true, if_neg hkne, hV] at f3 f4
                    have hcx := hc5.cellNever hcx0
                    have hcy := hc5.cellNever hcy0
                    go_quiet (fail)
                    go_wp2_with fail
                    clear e1 e2 e3 e4 e5 e6 e7 e8 e9 e10
                    clear f1 f2 f3 f4 f5 f6 f7 hcx hcy
                    generalize hw5 : World.drewN w5 _ = w6
                    have hM6 := hw5 ▸ hM5.never ((Chg.refl Never w5).drewN _)
                    have hc6 := hw5 ▸ hc5.drewN _
                    clear hw5 hM5 hc5
                    go_roundw
                    case rel => exact ⟨(k : Int) - 1, by omega, by omega, rfl, hc6, by
                      rw [show ((k : Int) - 1 + 1).toNat = k by omega]
                      exact hM6.congr (fun j _ => by first | exact rowTo_step HR.out j | (rw [rowTo_step HR.out]; by_cases h : j = k <;> simp [h]))⟩
                    case measure => simp [intOf] <;> omega
                · have hne := str_beq_false hxy
                  have HR : Hid (((lcsAt a b (i + 1) k : Nat) : Int) = lcsAt a b i k) := by rw [Hid, HLS.out, if_neg hxy, Nat.max_eq_left (by omega)]
                  go_wp2_with fail
                  have e1 : IntKind.i64.wrap ((i : Int) + 1) = (i : Int) + 1 := IntWalk.i64_in _ (by omega)
                  have e2 : IntKind.i64.wrap ((k : Int) + 1) = (k : Int) + 1 := IntWalk.i64_in _ (by omega)
                  have e3 : (0 : Int) ≤ (i : Int) + 1 := by omega
                  have e4 : (0 : Int) ≤ (k : Int) + 1 := by omega
                  have e5 : (i : Int) + 1 < (a.length : Int) + 1 := by omega
                  have e6 : (k : Int) + 1 < (b.length : Int) + 1 := by omega
                  have e7 : ((i : Int) + 1).toNat = i + 1 := by omega
                  have e8 : ((k : Int) + 1).toNat = k + 1 := by omega
                  have e9 : (i : Int) < (a.length : Int) + 1 := by omega
                  have e10 : (k : Int) < (b.length : Int) + 1 := by omega
                  obtain ⟨f1, f2, f3, f4, f5, f6, f7⟩ := hM.facts b3 b4
                  simp only [if_true, if_neg hkne, hV] at f3 f4
                  refine wp_region_still_tail 14 (by kernel_rfl) (by kernel_rfl) ?_
                  simp only [List.take_succ_cons, List.take_zero, List.drop_succ_cons, List.drop_zero]
                  change wpStill _ _ wr.drew _ _ _
                  repeat still_step
                  refine wpStill_nil ?_
                  change wpList _ _ _ _ _ wr.drew
                  clear f1 f2 f3 f4 f5 f6 f7
                  have hM3 := hM.never ((Chg.refl Never wr).drew)
                  have hc3 := hc.drew
                  clear hM hc
                  generalize wr.drew = w3 at hM3 hc3 ⊢
                  obtain ⟨f1, f2, f3, f4, f5, f6, f7⟩ := hM3.facts b3 b4
                  simp only [if_true, if_neg hkne, hV] at f3 f4
                  go_wp2_with fail
                  clear e1 e2 e3 e4 e5 e6 e7 e8 e9 e10
                  clear f1 f2 f3 f4 f5 f6 f7
                  have hM4 := hM3.set hk4 ((lcsAt a b (i + 1) k : Nat) : Int)
                  have hc4 := hc3.setCell (p := ⟨R, k, none⟩) (.inl hRge) (.int .i64 ((lcsAt a b (i + 1) k : Nat) : Int))
                  clear hM3 hc3
                  generalize w3.setCell ⟨R, k, none⟩ (.int .i64 ((lcsAt a b (i + 1) k : Nat) : Int)) = w4 at hM4 hc4 ⊢
                  have e1 : IntKind.i64.wrap ((i : Int) + 1) = (i : Int) + 1 := IntWalk.i64_in _ (by omega)
                  have e2 : IntKind.i64.wrap ((k : Int) + 1) = (k : Int) + 1 := IntWalk.i64_in _ (by omega)
                  have e3 : (0 : Int) ≤ (i : Int) + 1 := by omega
                  have e4 : (0 : Int) ≤ (k : Int) + 1 := by omega
                  have e5 : (i : Int) + 1 < (a.length : Int) + 1 := by omega
                  have e6 : (k : Int) + 1 < (b.length : Int) + 1 := by omega
                  have e7 : ((i : Int) + 1).toNat = i + 1 := by omega
                  have e8 : ((k : Int) + 1).toNat = k + 1 := by omega
                  have e9 : (i : Int) < (a.length : Int) + 1 := by omega
                  have e10 : (k : Int) < (b.length : Int) + 1 := by omega
                  obtain ⟨f1, f2, f3, f4, f5, f6, f7⟩ := hM4.facts b3 b4
                  simp only [if_true, if_neg hkne, hV] at f3 f4
                  have hcx := hc4.cellNever hcx0
                  have hcy := hc4.cellNever hcy0
                  go_quiet (fail)
                  go_wp2_with fail
                  clear e1 e2 e3 e4 e5 e6 e7 e8 e9 e10
                  clear f1 f2 f3 f4 f5 f6 f7 hcx hcy
                  generalize hw5 : World.drewN w4 _ = w5
                  have hM5 := hw5 ▸ hM4.never ((Chg.refl Never w4).drewN _)
                  have hc5 := hw5 ▸ hc4.drewN _
                  clear hw5 hM4 hc4
                  have e1 : IntKind.i64.wrap ((i : Int) + 1) = (i : Int) + 1 := IntWalk.i64_in _ (by omega)
                  have e2 : IntKind.i64.wrap ((k : Int) + 1) = (k : Int) + 1 := IntWalk.i64_in _ (by omega)
                  have e3 : (0 : Int) ≤ (i : Int) + 1 := by omega
                  have e4 : (0 : Int) ≤ (k : Int) + 1 := by omega
                  have e5 : (i : Int) + 1 < (a.length : Int) + 1 := by omega
                  have e6 : (k : Int) + 1 < (b.length : Int) + 1 := by omega
                  have e7 : ((i : Int) + 1).toNat = i + 1 := by omega
                  have e8 : ((k : Int) + 1).toNat = k + 1 := by omega
                  have e9 : (i : Int) < (a.length : Int) + 1 := by omega
                  have e10 : (k : Int) < (b.length : Int) + 1 := by omega
                  obtain ⟨f1, f2, f3, f4, f5, f6, f7⟩ := hM5.facts b3 b4
                  simp only [if_true, if_neg hkne, hV] at f3 f4
                  have hcx := hc5.cellNever hcx0
                  have hcy := hc5.cellNever hcy0
                  go_quiet (fail)
                  go_wp2_with fail
                  clear e1 e2 e3 e4 e5 e6 e7 e8 e9 e10
                  clear f1 f2 f3 f4 f5 f6 f7 hcx hcy
                  generalize hw5 : World.drewN w5 _ = w6
                  have hM6 := hw5 ▸ hM5.never ((Chg.refl Never w5).drewN _)
                  have hc6 := hw5 ▸ hc5.drewN _
                  clear hw5 hM5 hc5
                  go_roundw
                  case rel => exact ⟨(k : Int) - 1, by omega, by omega, rfl, hc6, by
                    rw [show ((k : Int) - 1 + 1).toNat = k by omega]
                    exact hM6.congr (fun j _ => by first | exact rowTo_step HR.out j | (rw [rowTo_step HR.out]; by_cases h : j = k <;> simp [h]))⟩
                  case measure => simp [intOf] <;> omega
        · obtain rfl : y = -1 := by omega
          have hM2 : Mid w.heap.size _ a b Rf i R (fun k => lcsAt a b i k) := hM.congr (fun k _ => by rw [show ((-1 : Int) + 1).toNat = 0 from rfl, rowTo_zero])
          go_wp2_with fail
          go_roundw
          case rel => exact ⟨(i : Int) - 1, _, by omega, by omega, rfl, hc, by rw [show ((i : Int) - 1 + 1).toNat = i by omega]; exact hM2.tab⟩
          case measure => simp [intOf] <;> omega
    · obtain rfl : x = -1 := by omega
      go_wp2_with fail
      go_ret
      exact ⟨rfl, hc, Rf, by simpa using hTab⟩
end Go.Proofs.YtmjpfoeaobdaeaaGreatDoor
