/-
  PARTS: THE WALK of the document's readHunks (handstitchref2).
-/
import Derived.Test.YtmojaahkcpgfkaaGreatDoorPackGu9
namespace Go.Proofs.YtmojaahkcpgfkaaGreatDoor
open Go.RowKit

set_option maxHeartbeats 2000000 in
set_option maxRecDepth 100000 in
theorem readHunks_any (L : List ByteArray) (i : Nat) (v : Value) (w : World) (h : Rdv w Never v L) (hL : L.length ≤ 1000000) (hz : ∀ x ∈ L, x.size ≤ 1000000000) (hi : i ≤ L.length) :
    Calls Tryz.prog 30 #[v, .int .i64 i] w fun e w' => ∃ r, e = .returned (.tuple #[r, .int .i64 ((refTake ((linesB L).drop i) i [] 0 0).2.1 : Nat), .bool (refTake ((linesB L).drop i) i [] 0 0).2.2]) ∧ Chg Never w w' ∧ Rdv w' (Old w.heap.size) r (refTake ((linesB L).drop i) i [] 0 0).1 := by
  have HI := tak_start (linesB L) i
  generalize refTake ((linesB L).drop i) i [] 0 0 = R at HI ⊢
  have HI := Lib.hid HI
  obtain ⟨a, cap, rfl, h1, h2, h3⟩ := rdv_slice h
  unfold maxLen at h2
  have HZ := Lib.hid hz
  have hLL : (linesB L).length = L.length := by unfold linesB; rw [List.length_map]
  have HLL := Lib.hid hLL
  clear hz h hLL
  go_enter Tryz.func30, Tryz.ntmps30
  go_wp2_with fail
  go_loopw [1, 7] (fun av ov wr => ∃ (k : Nat) (hs : List Hunk), k ≤ L.length ∧ av = .int .i64 k ∧ Chg Never w wr ∧ Own 42 wr (Old w.heap.size) ov hs ∧ Hid (hs.length ≤ k) ∧ Hid (TakInv (linesB L) R k hs 0 0)) (fun av _ _ => L.length - (intOf av).toNat)
  case atStart => exact ⟨i, [], hi, rfl, Chg.refl _ _, own_nil _ _ _, Nat.zero_le _, HI⟩
  case round =>
    clear HI
    obtain ⟨k, hs, hk, rfl, hc, hown, hhl, hI⟩ := hrel
    rename World => wr
    obtain ⟨va, vn, vc, rfl⟩ := own_isSlice hown
    by_cases hlt : k < L.length
    · obtain ⟨x, hx⟩ : ∃ x, L[k]? = some x := ⟨L[k], by simp [hlt]⟩
      obtain ⟨b, off, rfl, _, _, c0, hxs⟩ := elems_str h3 hx
      have c0 := hc.cellNever c0
      have zx := HZ.out x (List.mem_of_getElem? hx)
      have HX := Lib.hid (linesB_get hx)
      have HS := fun wx => starts_any x (toB [64, 64]) wx zx (by decide)
      have HH := fun wx => refHeadOf_any x zx wx
      rw [toB_data] at HS
      unfold headV at HH
      clear hx
      go_wp2_with fail
      refine (HS _).mono ?_
      rintro e w1 ⟨rfl, rfl⟩
      rename World => wr
      cases hhd : [64, 64].isPrefixOf x.data.toList with
      | false =>
        have HR := Lib.hid (tak_stop hI.out HX.out hhd)
        clear hI hhd HH HS c0 h3
        go_wp2_with fail
        go_ret3
        exact ⟨_, by rw [HR.out]; rfl, hc, by rw [HR.out]; exact hown.rdv⟩
      | true =>
        have HD := Lib.hid hhd
        clear hhd
        go_wp2_with fail
        refine (HH _).mono ?_
        rintro e w2 ⟨p, q, o0, n0, ok, rfl, hc2, hsay⟩
        clear HH HS c0
        have hcw2 := hc.trans hc2
        rcases hsay with ⟨rfl, hno⟩ | ⟨rfl, hyes⟩
        · have HR := Lib.hid (tak_head_bad hI.out HX.out HD.out hno)
          clear hI hno h3
          go_wp2_with fail
          go_ret3
          exact ⟨_, by rw [HR.out]; rfl, hcw2.alloc _, by rw [HR.out]; exact rdv_nil _ _⟩
        · have hI2 := Lib.hid (tak_head hI.out HX.out HD.out hyes)
          have hon0 : o0 ≤ 1000 ∧ n0 ≤ 1000 := by have := headOf_lt hyes; omega
          have hown2 := hown.never hc2
          have hBx0 := Blk3.new w2 42 (.int .i64 p) (.int .i64 q) (.slice none 0 0)
          have hcA : Chg Never w2 (w2.alloc (.cells #[.int .i64 p, .int .i64 q, .slice none 0 0] 42)) := (Chg.refl Never w2).alloc _
          have hownA := hown2.keep (O'' := fun g => Old w.heap.size g ∨ w2.heap.size ≤ g) hcA (fun _ _ hh => hh.elim) (fun g hg hh => hh.elim (fun h => h) (fun h => by omega))
          have hvoB := own_block_lt hown2
          have hBw := hcw2.size
          have hcwA := hcw2.trans hcA
          have hBl := hBx0.lt
          clear hyes hI hown hown2 hc hc2 hcw2 HD HX
          go_wp2_with fail
          generalize w2.alloc (.cells #[.int .i64 p, .int .i64 q, .slice none 0 0] 42) = wB at hBx0 hcA hownA hcwA hBl ⊢
          generalize w2.heap.size = B at hBx0 hownA hvoB hBw hBl ⊢
          clear hcA
          go_loopw [1, 9, 10] (fun av ov nv wi => ∃ (j o n : Nat) (mv : Value) (ms : List Mark), k + 1 ≤ j ∧ j ≤ L.length ∧ av = .int .i64 j ∧ ov = .int .i64 o ∧ nv = .int .i64 n ∧ Chg (fun g => B ≤ g) wB wi ∧ Blk3 wi B 42 (.int .i64 p) (.int .i64 q) mv ∧ Own 39 wi (Old (B + 1)) mv ms ∧ (o ≤ 1000 ∧ n ≤ 1000) ∧ Hid (ms.length ≤ j) ∧ Hid (TakInv (linesB L) R j (hs ++ [⟨p, q, ms⟩]) o n)) (fun av _ _ _ => L.length - (intOf av).toNat)
          case atStart => exact ⟨k + 1, o0, n0, .slice none 0 0, [], Nat.le_refl _, hlt, by go_num, rfl, rfl, Chg.refl _ _, hBx0, own_nil _ _ _, hon0, Nat.zero_le _, hI2⟩
          case round =>
            clear hI2 hBx0
            obtain ⟨j, o, n, mv, ms, hkj, hjl, rfl, rfl, rfl, hc2, hBx, hmk, ⟨ho9, hn9⟩, hmj, hI⟩ := hrel
            rename World => wi
            obtain ⟨ma, mn, mc, rfl⟩ := own_isSlice hmk
            have hBlt := hBx.lt
            have hcw : Chg Never w wi := hcwA.trans' hc2 (fun g hg hh => absurd hh (by omega))
            have hml : ms.length ≤ 1000000000 := by have := hmj.out; omega
            by_cases ho : 0 < o
            · have tgo : decide ((0 : Int) < (o : Int)) = true := decide_eq_true (by omega)
              have eo : ((o : Int) == 0) = false := by simp; omega
              rcases Nat.lt_or_ge j L.length with hjlt | hjge
              rotate_left
              · have HR : Hid (R = ([], j, false)) := tak_open hI.out (by rw [HLL.out]; exact hjge) (.inl ho)
                clear hI hmk hBx h3
                go_wp2_with fail
                go_ret3
                exact ⟨_, by rw [HR.out]; rfl, hcw, by rw [HR.out]; exact rdv_nil _ _⟩
              obtain ⟨y, hy⟩ : ∃ y, L[j]? = some y := ⟨L[j], by simp [hjlt]⟩
              obtain ⟨b', off', hqe, -, -, d0, -⟩ := elems_str h3 hy
              simp only [Option.some.injEq, Addr.mk.injEq, and_true] at hqe
              obtain ⟨rfl, rfl⟩ := hqe
              have d0 := hcw.cellNever d0
              have zy := HZ.out y (List.mem_of_getElem? hy)
              have HY := Lib.hid (linesB_get hy)
              clear hy
              rcases hyl : y.data.toList with _ | ⟨c, r⟩
              · have e1 : ((y.size : Int) == 0) = true := by rw [Lib.size_eq, hyl]; rfl
                rw [hyl] at HY
                clear hyl
                have HR : Hid (R = ([], j, false)) := tak_nil hI.out HY.out (.inl ho)
                clear hI hmk hBx h3
                go_wp2_with fail
                go_ret3
                exact ⟨_, by rw [HR.out]; rfl, hcw, by rw [HR.out]; exact rdv_nil _ _⟩
              have e1 : ((y.size : Int) == 0) = false := by rw [Lib.size_eq, hyl]; simp; omega
              have hpos : 0 < y.size := by rw [Lib.size_eq, hyl]; simp
              have h1s : (1 : Int) ≤ (y.size : Int) := by omega
              have hc0 : y[0]'hpos = c := by
                have : y.data.toList[0]? = some (y[0]'hpos) := by rw [Array.getElem?_toList, Array.getElem?_eq_getElem hpos]; rfl
                rw [hyl] at this
                injection this with this
                exact this.symm
              have htx : (y.extract 1 y.size) = toB r := by
                apply ByteArray.ext
                apply Array.toList_inj.1
                rw [Lib.extract_data, hyl, toB_data, List.take_of_length_le (by rw [List.length_drop, Lib.size_eq, hyl]; simp)]
                rfl
              have htz : (toB r).size ≤ maxLen := by rw [toB_size']; have := Lib.size_eq y; rw [hyl] at this; simp at this; unfold maxLen; omega
              have hsx : ∀ wx, (Instr.index 9 (.string y) (.int .i64 0)).run Tryz.prog wx = .ok (.int .u8 c.toNat) wx := fun wx => by
                rw [run_index_string _ _ _ _ _ Tryz.underlying9, dif_pos ⟨by omega, by omega⟩]
                simp only [Int.toNat_zero, hc0]
              rw [hyl] at HY
              clear hyl hc0
              by_cases hn : 0 < n
              · have en : ((n : Int) == 0) = false := by simp; omega
                by_cases h32 : c = 32
                · subst c
                  have hsx : ∀ wx, (Instr.index 9 (.string y) (.int .i64 0)).run Tryz.prog wx = .ok (.int .u8 32) wx := hsx
                  obtain ⟨tx, htxe⟩ : ∃ tx, toB r = tx := ⟨_, rfl⟩
                  rw [htxe] at htx htz
                  have hI2 := Lib.hid (tak_keep hI.out HY.out ho hn)
                  rw [htxe] at hI2
                  clear htxe
                  have hOm : ∀ q, Old (B + 1) q → q < wi.drew.heap.size := fun q hq => by
                    have e : wi.drew.heap.size = wi.heap.size := rfl
                    rw [e]; unfold Old at hq; omega
                  obtain ⟨f0, f1, f2⟩ := hBx.cell
                  have hB' := hBx.keep (O := Never) (Chg.refl Never wi).drew (fun h => h)
                  have hmk' := hmk.never (Chg.refl Never wi).drew
                  have hc' := hc2.drew
                  clear hI h3
                  go_upto_region 17 with fail
                  clear hBx hmk
                  go_region_law ((refine step_push (by rfl) _ _ 40 (by rfl) elemOk_mark (O := Old (B + 1)) (l := ms) (y := ⟨32, tx⟩) (by rfl) (by rfl) (by simp) hmk' (rd_mark _ _ 32 tx (by decide) (by decide) htz) hOm hml ?_; intro v' w5 hmk5 hc5 hk5; obtain ⟨ad, nn, cc, rfl⟩ := own_slice hk5; have hB5 := hB'.keep hc5 (fun hh => own_out hmk' _ hh (Nat.lt_succ_self _)); obtain ⟨g0, g1, g2⟩ := hB5.cell; have g3 := hB5.free 2))
                  all_goals
                    have hB6 := hB5.set2 (.slice (some ad) nn cc)
                    have hmk6 := hmk5.keep (O' := fun q => q = B) (O'' := Old (B + 1)) ((Chg.refl (fun q => q = B) w5).setCell (p := ⟨B, 2, none⟩) (.inr rfl) (.slice (some ad) nn cc)) (fun q _ hq => by have h : q = B := hq; unfold Old; omega) (fun _ _ hh => hh)
                    have hc6 := (hc'.trans' hc5 (O := fun q => B ≤ q) (fun i hi hh => by have := own_out hmk' i hh; unfold Old at this; omega)).setCell (p := ⟨B, 2, none⟩) (.inr (Nat.le_refl B)) (.slice (some ad) nn cc)
                    clear g0 g1 g2 g3 hB5 hmk5 hc5 hk5 hB' hmk' hc' f0 f1 f2
                    go_wp2_with fail
                    go_roundw
                    case rel => exact ⟨j + 1, o - 1, n - 1, .slice (some ad) nn cc, ms ++ [⟨32, tx⟩], by omega, by omega, by go_num, by go_num, by go_num, hc6, hB6, hmk6, by omega, by rw [Hid, List.length_append]; have := hmj.out; simp; omega, hI2⟩
                    case measure => simp [intOf] <;> omega
                · by_cases h45 : c = 45
                  · subst c
                    have hsx : ∀ wx, (Instr.index 9 (.string y) (.int .i64 0)).run Tryz.prog wx = .ok (.int .u8 45) wx := hsx
                    obtain ⟨tx, htxe⟩ : ∃ tx, toB r = tx := ⟨_, rfl⟩
                    rw [htxe] at htx htz
                    have hI2 := Lib.hid (tak_take hI.out HY.out ho)
                    rw [htxe] at hI2
                    clear htxe
                    have hOm : ∀ q, Old (B + 1) q → q < wi.drew.heap.size := fun q hq => by
                      have e : wi.drew.heap.size = wi.heap.size := rfl
                      rw [e]; unfold Old at hq; omega
                    obtain ⟨f0, f1, f2⟩ := hBx.cell
                    have hB' := hBx.keep (O := Never) (Chg.refl Never wi).drew (fun h => h)
                    have hmk' := hmk.never (Chg.refl Never wi).drew
                    have hc' := hc2.drew
                    clear hI h3
                    go_upto_region 17 with fail
                    clear hBx hmk
                    go_region_law ((refine step_push (by rfl) _ _ 40 (by rfl) elemOk_mark (O := Old (B + 1)) (l := ms) (y := ⟨45, tx⟩) (by rfl) (by rfl) (by simp) hmk' (rd_mark _ _ 45 tx (by decide) (by decide) htz) hOm hml ?_; intro v' w5 hmk5 hc5 hk5; obtain ⟨ad, nn, cc, rfl⟩ := own_slice hk5; have hB5 := hB'.keep hc5 (fun hh => own_out hmk' _ hh (Nat.lt_succ_self _)); obtain ⟨g0, g1, g2⟩ := hB5.cell; have g3 := hB5.free 2))
                    all_goals
                      have hB6 := hB5.set2 (.slice (some ad) nn cc)
                      have hmk6 := hmk5.keep (O' := fun q => q = B) (O'' := Old (B + 1)) ((Chg.refl (fun q => q = B) w5).setCell (p := ⟨B, 2, none⟩) (.inr rfl) (.slice (some ad) nn cc)) (fun q _ hq => by have h : q = B := hq; unfold Old; omega) (fun _ _ hh => hh)
                      have hc6 := (hc'.trans' hc5 (O := fun q => B ≤ q) (fun i hi hh => by have := own_out hmk' i hh; unfold Old at this; omega)).setCell (p := ⟨B, 2, none⟩) (.inr (Nat.le_refl B)) (.slice (some ad) nn cc)
                      clear g0 g1 g2 g3 hB5 hmk5 hc5 hk5 hB' hmk' hc' f0 f1 f2
                      go_wp2_with fail
                      go_roundw
                      case rel => exact ⟨j + 1, o - 1, n, .slice (some ad) nn cc, ms ++ [⟨45, tx⟩], by omega, by omega, by go_num, by go_num, by go_num, hc6, hB6, hmk6, by omega, by rw [Hid, List.length_append]; have := hmj.out; simp; omega, hI2⟩
                      case measure => simp [intOf] <;> omega
                  · by_cases h43 : c = 43
                    · subst c
                      have hsx : ∀ wx, (Instr.index 9 (.string y) (.int .i64 0)).run Tryz.prog wx = .ok (.int .u8 43) wx := hsx
                      obtain ⟨tx, htxe⟩ : ∃ tx, toB r = tx := ⟨_, rfl⟩
                      rw [htxe] at htx htz
                      have hI2 := Lib.hid (tak_put hI.out HY.out hn)
                      rw [htxe] at hI2
                      clear htxe
                      have hOm : ∀ q, Old (B + 1) q → q < wi.drew.heap.size := fun q hq => by
                        have e : wi.drew.heap.size = wi.heap.size := rfl
                        rw [e]; unfold Old at hq; omega
                      obtain ⟨f0, f1, f2⟩ := hBx.cell
                      have hB' := hBx.keep (O := Never) (Chg.refl Never wi).drew (fun h => h)
                      have hmk' := hmk.never (Chg.refl Never wi).drew
                      have hc' := hc2.drew
                      clear hI h3
                      go_upto_region 17 with fail
                      clear hBx hmk
                      go_region_law ((refine step_push (by rfl) _ _ 40 (by rfl) elemOk_mark (O := Old (B + 1)) (l := ms) (y := ⟨43, tx⟩) (by rfl) (by rfl) (by simp) hmk' (rd_mark _ _ 43 tx (by decide) (by decide) htz) hOm hml ?_; intro v' w5 hmk5 hc5 hk5; obtain ⟨ad, nn, cc, rfl⟩ := own_slice hk5; have hB5 := hB'.keep hc5 (fun hh => own_out hmk' _ hh (Nat.lt_succ_self _)); obtain ⟨g0, g1, g2⟩ := hB5.cell; have g3 := hB5.free 2))
                      all_goals
                        have hB6 := hB5.set2 (.slice (some ad) nn cc)
                        have hmk6 := hmk5.keep (O' := fun q => q = B) (O'' := Old (B + 1)) ((Chg.refl (fun q => q = B) w5).setCell (p := ⟨B, 2, none⟩) (.inr rfl) (.slice (some ad) nn cc)) (fun q _ hq => by have h : q = B := hq; unfold Old; omega) (fun _ _ hh => hh)
                        have hc6 := (hc'.trans' hc5 (O := fun q => B ≤ q) (fun i hi hh => by have := own_out hmk' i hh; unfold Old at this; omega)).setCell (p := ⟨B, 2, none⟩) (.inr (Nat.le_refl B)) (.slice (some ad) nn cc)
                        clear g0 g1 g2 g3 hB5 hmk5 hc5 hk5 hB' hmk' hc' f0 f1 f2
                        go_wp2_with fail
                        go_roundw
                        case rel => exact ⟨j + 1, o, n - 1, .slice (some ad) nn cc, ms ++ [⟨43, tx⟩], by omega, by omega, by go_num, by go_num, by go_num, hc6, hB6, hmk6, by omega, by rw [Hid, List.length_append]; have := hmj.out; simp; omega, hI2⟩
                        case measure => simp [intOf] <;> omega
                    · have q1 : ((c.toNat : Int) != 32) = true := by simpa using byte_ne_int h32 rfl
                      have q2 : ((c.toNat : Int) != 45) = true := by simpa using byte_ne_int h45 rfl
                      have q3 : ((c.toNat : Int) != 43) = true := by simpa using byte_ne_int h43 rfl
                      have q1b := byte_ne_int h32 rfl
                      have q2b := byte_ne_int h45 rfl
                      have q3b := byte_ne_int h43 rfl
                      have HR : Hid (R = ([], j, false)) := tak_sign_bad hI.out HY.out (.inl ho) h32 h45 h43
                      clear hI hmk hBx h3
                      go_wp2_with fail
                      go_ret3
                      exact ⟨_, by rw [HR.out]; rfl, hcw, by rw [HR.out]; exact rdv_nil _ _⟩
              · have en : ((n : Int) == 0) = true := by simp; omega
                by_cases h32 : c = 32
                · subst c
                  have hsx : ∀ wx, (Instr.index 9 (.string y) (.int .i64 0)).run Tryz.prog wx = .ok (.int .u8 32) wx := hsx
                  obtain ⟨tx, htxe⟩ : ∃ tx, toB r = tx := ⟨_, rfl⟩
                  rw [htxe] at htx htz
                  have HR : Hid (R = ([], j, false)) := tak_keep_bad hI.out HY.out (.inl ho) (.inr (by omega))
                  clear hI hmk hBx h3
                  go_wp2_with fail
                  go_ret3
                  exact ⟨_, by rw [HR.out]; rfl, hcw, by rw [HR.out]; exact rdv_nil _ _⟩
                · by_cases h45 : c = 45
                  · subst c
                    have hsx : ∀ wx, (Instr.index 9 (.string y) (.int .i64 0)).run Tryz.prog wx = .ok (.int .u8 45) wx := hsx
                    obtain ⟨tx, htxe⟩ : ∃ tx, toB r = tx := ⟨_, rfl⟩
                    rw [htxe] at htx htz
                    have hI2 := Lib.hid (tak_take hI.out HY.out ho)
                    rw [htxe] at hI2
                    clear htxe
                    have hOm : ∀ q, Old (B + 1) q → q < wi.drew.heap.size := fun q hq => by
                      have e : wi.drew.heap.size = wi.heap.size := rfl
                      rw [e]; unfold Old at hq; omega
                    obtain ⟨f0, f1, f2⟩ := hBx.cell
                    have hB' := hBx.keep (O := Never) (Chg.refl Never wi).drew (fun h => h)
                    have hmk' := hmk.never (Chg.refl Never wi).drew
                    have hc' := hc2.drew
                    clear hI h3
                    go_upto_region 17 with fail
                    clear hBx hmk
                    go_region_law ((refine step_push (by rfl) _ _ 40 (by rfl) elemOk_mark (O := Old (B + 1)) (l := ms) (y := ⟨45, tx⟩) (by rfl) (by rfl) (by simp) hmk' (rd_mark _ _ 45 tx (by decide) (by decide) htz) hOm hml ?_; intro v' w5 hmk5 hc5 hk5; obtain ⟨ad, nn, cc, rfl⟩ := own_slice hk5; have hB5 := hB'.keep hc5 (fun hh => own_out hmk' _ hh (Nat.lt_succ_self _)); obtain ⟨g0, g1, g2⟩ := hB5.cell; have g3 := hB5.free 2))
                    all_goals
                      have hB6 := hB5.set2 (.slice (some ad) nn cc)
                      have hmk6 := hmk5.keep (O' := fun q => q = B) (O'' := Old (B + 1)) ((Chg.refl (fun q => q = B) w5).setCell (p := ⟨B, 2, none⟩) (.inr rfl) (.slice (some ad) nn cc)) (fun q _ hq => by have h : q = B := hq; unfold Old; omega) (fun _ _ hh => hh)
                      have hc6 := (hc'.trans' hc5 (O := fun q => B ≤ q) (fun i hi hh => by have := own_out hmk' i hh; unfold Old at this; omega)).setCell (p := ⟨B, 2, none⟩) (.inr (Nat.le_refl B)) (.slice (some ad) nn cc)
                      clear g0 g1 g2 g3 hB5 hmk5 hc5 hk5 hB' hmk' hc' f0 f1 f2
                      go_wp2_with fail
                      go_roundw
                      case rel => exact ⟨j + 1, o - 1, n, .slice (some ad) nn cc, ms ++ [⟨45, tx⟩], by omega, by omega, by go_num, by go_num, by go_num, hc6, hB6, hmk6, by omega, by rw [Hid, List.length_append]; have := hmj.out; simp; omega, hI2⟩
                      case measure => simp [intOf] <;> omega
                  · by_cases h43 : c = 43
                    · subst c
                      have hsx : ∀ wx, (Instr.index 9 (.string y) (.int .i64 0)).run Tryz.prog wx = .ok (.int .u8 43) wx := hsx
                      obtain ⟨tx, htxe⟩ : ∃ tx, toB r = tx := ⟨_, rfl⟩
                      rw [htxe] at htx htz
                      have HR : Hid (R = ([], j, false)) := tak_put_bad hI.out HY.out (.inl ho) (by omega)
                      clear hI hmk hBx h3
                      go_wp2_with fail
                      go_ret3
                      exact ⟨_, by rw [HR.out]; rfl, hcw, by rw [HR.out]; exact rdv_nil _ _⟩
                    · have q1 : ((c.toNat : Int) != 32) = true := by simpa using byte_ne_int h32 rfl
                      have q2 : ((c.toNat : Int) != 45) = true := by simpa using byte_ne_int h45 rfl
                      have q3 : ((c.toNat : Int) != 43) = true := by simpa using byte_ne_int h43 rfl
                      have q1b := byte_ne_int h32 rfl
                      have q2b := byte_ne_int h45 rfl
                      have q3b := byte_ne_int h43 rfl
                      have HR : Hid (R = ([], j, false)) := tak_sign_bad hI.out HY.out (.inl ho) h32 h45 h43
                      clear hI hmk hBx h3
                      go_wp2_with fail
                      go_ret3
                      exact ⟨_, by rw [HR.out]; rfl, hcw, by rw [HR.out]; exact rdv_nil _ _⟩
            · have tgo : decide ((0 : Int) < (o : Int)) = false := decide_eq_false (by omega)
              have eo : ((o : Int) == 0) = true := by simp; omega
              by_cases hn : 0 < n
              · have tn : decide ((0 : Int) < (n : Int)) = true := decide_eq_true (by omega)
                have en : ((n : Int) == 0) = false := by simp; omega
                rcases Nat.lt_or_ge j L.length with hjlt | hjge
                rotate_left
                · have HR : Hid (R = ([], j, false)) := tak_open hI.out (by rw [HLL.out]; exact hjge) (.inr hn)
                  clear hI hmk hBx h3
                  go_wp2_with fail
                  go_ret3
                  exact ⟨_, by rw [HR.out]; rfl, hcw, by rw [HR.out]; exact rdv_nil _ _⟩
                obtain ⟨y, hy⟩ : ∃ y, L[j]? = some y := ⟨L[j], by simp [hjlt]⟩
                obtain ⟨b', off', hqe, -, -, d0, -⟩ := elems_str h3 hy
                simp only [Option.some.injEq, Addr.mk.injEq, and_true] at hqe
                obtain ⟨rfl, rfl⟩ := hqe
                have d0 := hcw.cellNever d0
                have zy := HZ.out y (List.mem_of_getElem? hy)
                have HY := Lib.hid (linesB_get hy)
                clear hy
                rcases hyl : y.data.toList with _ | ⟨c, r⟩
                · have e1 : ((y.size : Int) == 0) = true := by rw [Lib.size_eq, hyl]; rfl
                  rw [hyl] at HY
                  clear hyl
                  have HR : Hid (R = ([], j, false)) := tak_nil hI.out HY.out (.inr hn)
                  clear hI hmk hBx h3
                  go_wp2_with fail
                  go_ret3
                  exact ⟨_, by rw [HR.out]; rfl, hcw, by rw [HR.out]; exact rdv_nil _ _⟩
                have e1 : ((y.size : Int) == 0) = false := by rw [Lib.size_eq, hyl]; simp; omega
                have hpos : 0 < y.size := by rw [Lib.size_eq, hyl]; simp
                have h1s : (1 : Int) ≤ (y.size : Int) := by omega
                have hc0 : y[0]'hpos = c := by
                  have : y.data.toList[0]? = some (y[0]'hpos) := by rw [Array.getElem?_toList, Array.getElem?_eq_getElem hpos]; rfl
                  rw [hyl] at this
                  injection this with this
                  exact this.symm
                have htx : (y.extract 1 y.size) = toB r := by
                  apply ByteArray.ext
                  apply Array.toList_inj.1
                  rw [Lib.extract_data, hyl, toB_data, List.take_of_length_le (by rw [List.length_drop, Lib.size_eq, hyl]; simp)]
                  rfl
                have htz : (toB r).size ≤ maxLen := by rw [toB_size']; have := Lib.size_eq y; rw [hyl] at this; simp at this; unfold maxLen; omega
                have hsx : ∀ wx, (Instr.index 9 (.string y) (.int .i64 0)).run Tryz.prog wx = .ok (.int .u8 c.toNat) wx := fun wx => by
                  rw [run_index_string _ _ _ _ _ Tryz.underlying9, dif_pos ⟨by omega, by omega⟩]
                  simp only [Int.toNat_zero, hc0]
                rw [hyl] at HY
                clear hyl hc0
                by_cases h32 : c = 32
                · subst c
                  have hsx : ∀ wx, (Instr.index 9 (.string y) (.int .i64 0)).run Tryz.prog wx = .ok (.int .u8 32) wx := hsx
                  obtain ⟨tx, htxe⟩ : ∃ tx, toB r = tx := ⟨_, rfl⟩
                  rw [htxe] at htx htz
                  have HR : Hid (R = ([], j, false)) := tak_keep_bad hI.out HY.out (.inr hn) (.inl (by omega))
                  clear hI hmk hBx h3
                  go_wp2_with fail
                  go_ret3
                  exact ⟨_, by rw [HR.out]; rfl, hcw, by rw [HR.out]; exact rdv_nil _ _⟩
                · by_cases h45 : c = 45
                  · subst c
                    have hsx : ∀ wx, (Instr.index 9 (.string y) (.int .i64 0)).run Tryz.prog wx = .ok (.int .u8 45) wx := hsx
                    obtain ⟨tx, htxe⟩ : ∃ tx, toB r = tx := ⟨_, rfl⟩
                    rw [htxe] at htx htz
                    have HR : Hid (R = ([], j, false)) := tak_take_bad hI.out HY.out (.inr hn) (by omega)
                    clear hI hmk hBx h3
                    go_wp2_with fail
                    go_ret3
                    exact ⟨_, by rw [HR.out]; rfl, hcw, by rw [HR.out]; exact rdv_nil _ _⟩
                  · by_cases h43 : c = 43
                    · subst c
                      have hsx : ∀ wx, (Instr.index 9 (.string y) (.int .i64 0)).run Tryz.prog wx = .ok (.int .u8 43) wx := hsx
                      obtain ⟨tx, htxe⟩ : ∃ tx, toB r = tx := ⟨_, rfl⟩
                      rw [htxe] at htx htz
                      have hI2 := Lib.hid (tak_put hI.out HY.out hn)
                      rw [htxe] at hI2
                      clear htxe
                      have hOm : ∀ q, Old (B + 1) q → q < wi.drew.heap.size := fun q hq => by
                        have e : wi.drew.heap.size = wi.heap.size := rfl
                        rw [e]; unfold Old at hq; omega
                      obtain ⟨f0, f1, f2⟩ := hBx.cell
                      have hB' := hBx.keep (O := Never) (Chg.refl Never wi).drew (fun h => h)
                      have hmk' := hmk.never (Chg.refl Never wi).drew
                      have hc' := hc2.drew
                      clear hI h3
                      go_upto_region 17 with fail
                      clear hBx hmk
                      go_region_law ((refine step_push (by rfl) _ _ 40 (by rfl) elemOk_mark (O := Old (B + 1)) (l := ms) (y := ⟨43, tx⟩) (by rfl) (by rfl) (by simp) hmk' (rd_mark _ _ 43 tx (by decide) (by decide) htz) hOm hml ?_; intro v' w5 hmk5 hc5 hk5; obtain ⟨ad, nn, cc, rfl⟩ := own_slice hk5; have hB5 := hB'.keep hc5 (fun hh => own_out hmk' _ hh (Nat.lt_succ_self _)); obtain ⟨g0, g1, g2⟩ := hB5.cell; have g3 := hB5.free 2))
                      all_goals
                        have hB6 := hB5.set2 (.slice (some ad) nn cc)
                        have hmk6 := hmk5.keep (O' := fun q => q = B) (O'' := Old (B + 1)) ((Chg.refl (fun q => q = B) w5).setCell (p := ⟨B, 2, none⟩) (.inr rfl) (.slice (some ad) nn cc)) (fun q _ hq => by have h : q = B := hq; unfold Old; omega) (fun _ _ hh => hh)
                        have hc6 := (hc'.trans' hc5 (O := fun q => B ≤ q) (fun i hi hh => by have := own_out hmk' i hh; unfold Old at this; omega)).setCell (p := ⟨B, 2, none⟩) (.inr (Nat.le_refl B)) (.slice (some ad) nn cc)
                        clear g0 g1 g2 g3 hB5 hmk5 hc5 hk5 hB' hmk' hc' f0 f1 f2
                        go_wp2_with fail
                        go_roundw
                        case rel => exact ⟨j + 1, o, n - 1, .slice (some ad) nn cc, ms ++ [⟨43, tx⟩], by omega, by omega, by go_num, by go_num, by go_num, hc6, hB6, hmk6, by omega, by rw [Hid, List.length_append]; have := hmj.out; simp; omega, hI2⟩
                        case measure => simp [intOf] <;> omega
                    · have q1 : ((c.toNat : Int) != 32) = true := by simpa using byte_ne_int h32 rfl
                      have q2 : ((c.toNat : Int) != 45) = true := by simpa using byte_ne_int h45 rfl
                      have q3 : ((c.toNat : Int) != 43) = true := by simpa using byte_ne_int h43 rfl
                      have q1b := byte_ne_int h32 rfl
                      have q2b := byte_ne_int h45 rfl
                      have q3b := byte_ne_int h43 rfl
                      have HR : Hid (R = ([], j, false)) := tak_sign_bad hI.out HY.out (.inr hn) h32 h45 h43
                      clear hI hmk hBx h3
                      go_wp2_with fail
                      go_ret3
                      exact ⟨_, by rw [HR.out]; rfl, hcw, by rw [HR.out]; exact rdv_nil _ _⟩
              · have tn : decide ((0 : Int) < (n : Int)) = false := decide_eq_false (by omega)
                obtain rfl : o = 0 := by omega
                obtain rfl : n = 0 := by omega
                obtain ⟨f0, f1, f2⟩ := hBx.cell
                have hownI : Own 42 wi (Old w.heap.size) (.slice va vn vc) hs := hownA.keep (O'' := Old w.heap.size) hc2 (fun g _ hh => .inr hh) (fun _ _ hh => .inl hh)
                have hmr : Rdv wi (fun g => Old w.heap.size g ∨ (Value.slice va vn vc).ownBlock = some g) (.slice ma mn mc) ms := hmk.rdv.sub (fun g _ hh => by
                  unfold Old at *
                  rcases hh with hh | hh
                  · omega
                  · have := hvoB g hh; omega)
                have hy : Dat.rd wi (fun g => Old w.heap.size g ∨ (Value.slice va vn vc).ownBlock = some g) [.int .i64 p, .int .i64 q, .slice ma mn mc] (⟨p, q, ms⟩ : Hunk) := ⟨_, rfl, hmr⟩
                have hhl2 : hs.length ≤ 1000000000 := by have := hhl.out; omega
                clear hBx hmk hownA hmr h3
                go_wp2_with (at_builtin; refine wpList_push (by rfl) _ _ 22 (by rfl) elemOk_hunk (O := Old w.heap.size) (l := hs) (y := (⟨p, q, ms⟩ : Hunk)) (by rfl) (by rfl) (by simp) hownI hy (old_lt hcw) hhl2 ?_; intro v' w5 hown5 hc5 _)
                have hc6 := own_step hcw hownI hc5
                go_wp2_with fail
                go_roundw
                case rel => exact ⟨j, hs ++ [⟨p, q, ms⟩], hjl, rfl, hc6, hown5, by rw [Hid, List.length_append]; have := hhl.out; simp; omega, hI⟩
                case measure => simp [intOf] <;> omega
    · have HR := Lib.hid (tak_done hI.out (by rw [HLL.out]; omega))
      clear hI h3
      go_wp2_with fail
      go_ret3
      exact ⟨_, by rw [HR.out]; rfl, hc, by rw [HR.out]; exact hown.rdv⟩
end Go.Proofs.YtmojaahkcpgfkaaGreatDoor
