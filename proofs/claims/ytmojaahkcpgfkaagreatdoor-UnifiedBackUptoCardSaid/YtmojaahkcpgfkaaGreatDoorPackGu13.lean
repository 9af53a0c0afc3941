/-
  PARTS: THE WALK of git.Parse.; THE WALK of the document's PatchOf (handstitchref2).; THE LAW GitIs, walked.; THE WALK of unified.Print.; THE WALK of handstitchsame.Pick: some number below n.; HUNKS AS TEXTS, in plain Lean: a text that is cut off within its last mark is none.
-/
import Derived.Test.YtmojaahkcpgfkaaGreatDoorPackGu12
import Derived.Test.YtmojaahkcpgfkaaGreatDoorPackGu6
import Derived.Test.YtmojaahkcpgfkaaGreatDoorPackGu8
import Derived.Deep.QuietTactic
import Derived.BigQuiet
import Derived.Deep.Cut
import Derived.Test.YtmojaahkcpgfkaaGreatDoorPackGu9
import Derived.Test.YtmojaahkcpgfkaaGreatDoorPackGu7
import Derived.Test.YtmojaahkcpgfkaaGreatDoorPackGu1
import Derived.Test.YtmojaahkcpgfkaaGreatDoorPackGu3
import Derived.Test.YtmojaahkcpgfkaaGreatDoorPackGu2
import Derived.Test.YtmojaahkcpgfkaaGreatDoorPackGu5
namespace Go.Proofs.YtmojaahkcpgfkaaGreatDoor
open Go.RowKit

theorem bytesL_toB (I : List (List UInt8)) : bytesL (I.map toB) = I := by
  unfold bytesL
  rw [List.map_map]
  have : ((fun x : ByteArray => x.data.toList) ∘ toB) = id := by funext x; exact toB_data x
  rw [this, List.map_id]
set_option maxHeartbeats 1000000 in
set_option maxRecDepth 100000 in
theorem gitparse_any (s : ByteArray) (w : World) (hs : s.size ≤ 100000000) (m : Int) (hg : Globs w m) :
    Calls Tryz.prog 18 #[.string s] w fun e w' => ∃ r, e = .returned (.tuple #[r, errV (parseG s.data.toList).2]) ∧ Chg Never w w' ∧ Rdv w' Never r (parseG s.data.toList).1 := by
  have hsz := Lib.size_eq s
  by_cases hl : 400000 < s.size
  · have HR : Hid (parseG s.data.toList = ([], 5)) := by unfold Hid parseG; rw [if_pos (by omega)]
    clear hsz
    go_enter Tryz.func18, Tryz.ntmps18
    go_wp2_with fail
    go_ret2
    exact ⟨_, by rw [HR.out]; rfl, Chg.refl _ _, by rw [HR.out]; exact rdv_nil _ _⟩
  · obtain ⟨I, z, hIz⟩ := last_of (parts_ne 10 s.data.toList)
    have hcnt := parts_count 10 s.data.toList
    have hpm := parts_mem 10 s.data.toList
    have HIZ := Lib.hid hIz
    have hdl : Hid ((parts 10 s.data.toList).dropLast = I) := by rw [Hid, hIz, List.dropLast_concat]
    have hgl : Hid ((parts 10 s.data.toList).getLast? = some z) := by rw [Hid, hIz]; simp
    have HSP : Hid (Lib.splitB ⟨#[10]⟩ 0 (Lib.countB s ⟨#[10]⟩) s = I.map toB ++ [toB z]) := by rw [Hid, splitB_parts, hIz, List.map_append]; rfl
    have HLEN : Hid (Lib.countB s ⟨#[10]⟩ + 1 = (I.map toB ++ [toB z]).length) := by
      have := Lib.splitB_all ⟨#[10]⟩ (by decide) 0 _ s rfl
      rw [Hid, ← this, HSP.out]
    have hIl : I.length ≤ 1000000 := by
      rw [hIz, List.length_append] at hcnt
      simp only [List.length_cons, List.length_nil] at hcnt
      omega
    have hIs : Hid (∀ x ∈ I.map toB ++ [toB z], x.size ≤ 1000000000) := by
      intro x hx
      have : ∃ y ∈ parts 10 s.data.toList, x = toB y := by
        rw [hIz]
        rcases List.mem_append.1 hx with hx | hx
        · obtain ⟨y, hy, rfl⟩ := List.mem_map.1 hx
          exact ⟨y, List.mem_append_left _ hy, rfl⟩
        · simp only [List.mem_cons, List.not_mem_nil, or_false] at hx
          exact ⟨z, by simp, hx⟩
      obtain ⟨y, hy, rfl⟩ := this
      have := hpm y hy
      rw [toB_size']
      omega
    have hbL := bytesL_toB I
    have HG : Hid (chgsL (I.map toB) = changesG (parts 10 s.data.toList).dropLast.length (parts 10 s.data.toList).dropLast) := by
      unfold Hid chgsL
      rw [hbL, hdl.out]
    have hLl : (I.map toB).length ≤ 1000000 := by rw [List.length_map]; exact hIl
    clear hIz hcnt hpm hbL hIl hdl
    generalize I.map toB = L at HSP HLEN hIs HG hLl
    have hl4 : s.data.toList.length ≤ 400000 := by omega
    have hl4 := Lib.hid hl4
    clear hsz
    go_enter Tryz.func18, Tryz.ntmps18
    go_wp2_with fail
    refine (Tryz.strings_Split s ⟨#[10]⟩ m _ (by omega) hg.ml (by decide)).mono ?_
    rintro e w2 ⟨rfl, rfl⟩
    rw [HSP.out, HLEN.out]
    have hA : Chg Never w (w.alloc (.cells ((L ++ [toB z]).map Value.string).toArray 9)) := (Chg.refl Never w).alloc _
    have hR0 : Rdv (w.alloc (.cells ((L ++ [toB z]).map Value.string).toArray 9)) Never (.slice (some ⟨w.heap.size, 0, none⟩) (L ++ [toB z]).length (L ++ [toB z]).length) (L ++ [toB z]) :=
      rdv_strs (heap_alloc_new _ _) (fun h => h) rfl (by rw [List.length_append]; simp only [List.length_cons, List.length_nil]; unfold maxLen; omega) (fun x hx => by have := hIs.out x hx; unfold maxLen; omega)
    generalize w.alloc (.cells ((L ++ [toB z]).map Value.string).toArray 9) = w3 at hR0 hA ⊢
    obtain ⟨sb, -, -, hrun, hsub⟩ := slice_g (P := Tryz.prog) (t := 56) (by kernel_rfl) size_str hR0 0 L.length (Nat.zero_le _) (by simp)
    obtain ⟨_, _, hq, -, -, hel⟩ := rdv_slice hR0
    simp only [Value.slice.injEq, true_and] at hq
    obtain ⟨rfl, rfl⟩ := hq
    obtain ⟨g, off, hq, -, -, cz, -⟩ := elems_str hel (i := L.length) (x := toB z) (by simp)
    simp only [Option.some.injEq, Addr.mk.injEq, and_true] at hq
    obtain ⟨rfl, rfl⟩ := hq
    rw [List.drop_zero, Nat.sub_zero, Nat.sub_zero, List.take_left] at hsub
    have hNL : (L ++ [toB z]).length = L.length + 1 := by simp
    rw [hNL] at hrun hsub ⊢
    rw [Nat.sub_zero, Nat.sub_zero] at hrun
    have hrun := fun (wx : World) => hrun (L.length : Nat) wx rfl rfl
    have sw : IntKind.i64.wrap (((L.length + 1 : Nat) : Int) - 1) = (L.length : Int) := by rw [show ((L.length + 1 : Nat) : Int) - 1 = (L.length : Int) by omega]; exact IntWalk.i64_in _ (by omega)
    have hCA := Lib.hid (gitchanges_any L _ _ hsub hLl (fun x hx => hIs.out x (List.mem_append_left _ hx)) m (hg.never hA))
    have hmL : Hid (m = m) := rfl
    simp only [Nat.zero_add] at cz
    generalize L.length = n at hrun hCA sw cz hLl ⊢
    clear hel hR0 hNL hsub
    go_wp2_with fail
    refine hCA.out.mono ?_
    rintro e w4 ⟨r, rfl, hc4, hr4⟩
    have cz := hc4.cellNever cz
    have hc4 := hA.trans hc4
    clear hrun sw hCA hA
    cases hC : chgsL L with
    | none =>
      rw [hC] at HG
      have HR := Lib.hid (parseG_none HG.out.symm)
      rw [Option.isSome_none]
      clear hC hr4
      go_wp2_with fail
      go_ret2
      exact ⟨_, by rw [HR.out]; rfl, by first | exact hc4 | exact hc5, by rw [HR.out]; exact rdv_nil _ _⟩
    | some p =>
      rw [hC] at HG hr4
      rw [Option.getD_some] at hr4
      rw [Option.isSome_some]
      clear hC
      cases z with
      | cons c z =>
        have HR : Hid (parseG s.data.toList = ([], 5)) := parseG_last (by rw [hgl.out]; simp)
        have tz : (toB (c :: z)).toList = c :: z := by rw [Lib.toList_data, toB_data]
        clear hr4
        go_wp2_with fail
        go_ret2
        exact ⟨_, by rw [HR.out]; rfl, by first | exact hc4 | exact hc5, by rw [HR.out]; exact rdv_nil _ _⟩
      | nil =>
        have tz : (toB []).toList = [] := by rw [Lib.toList_data, toB_data]
        have HR0 := Lib.hid (parseG_some (s := s.data.toList) hl4.out HG.out.symm hgl.out)
        have hmc := hg.ml
        have hm4 := hc4.cellNever hmc
        clear hmc
        go_wp2_with fail
        refine (patch_check_any p r _ hr4 m hm4).mono ?_
        rintro e w5 ⟨rfl, hc5⟩
        have hr5 := hr4.never hc5
        have hc5 := hc4.trans hc5
        generalize (patchFault p).1 = at0
        by_cases hz : (patchFault p).2 = 0
        · have HR : Hid (parseG s.data.toList = (p, 0)) := by rw [Hid, HR0.out, if_neg (by rw [hz]; decide)]
          rw [hz, errV_zero]
          clear hz
          go_wp2_with fail
          go_ret2
          exact ⟨_, by rw [HR.out]; rfl, hc5, by rw [HR.out]; exact hr5⟩
        · have HR : Hid (parseG s.data.toList = ([], (patchFault p).2)) := by rw [Hid, HR0.out, if_pos hz]
          have HZ := Lib.hid hz
          rw [errV_pos hz]
          clear hz
          go_wp2_with fail
          go_ret2
          exact ⟨.slice none 0 0, by rw [HR.out]; show _ = Ending.returned (.tuple #[.slice none 0 0, errV (patchFault p).2]); rw [errV_pos HZ.out]; rfl, hc5, by rw [HR.out]; exact rdv_nil _ _⟩
end Go.Proofs.YtmojaahkcpgfkaaGreatDoor
namespace Go.Proofs.YtmojaahkcpgfkaaGreatDoor
open Go.RowKit

theorem po_tail (x : ByteArray) : x.extract 6 x.size = toB (x.data.toList.drop 6) := by
  apply ByteArray.ext
  apply Array.toList_inj.1
  rw [Lib.extract_data, toB_data, List.take_of_length_le (by rw [List.length_drop, Lib.size_eq]; exact Nat.le_refl _)]
theorem po_len {p : List UInt8} {x : ByteArray} (h : p.isPrefixOf x.data.toList = true) (hp : p.length = 6) : (6 : Int) ≤ (x.size : Int) := by
  have := (List.isPrefixOf_iff_prefix.1 h).length_le
  rw [Lib.size_eq]
  omega
theorem po_lit (x : ByteArray) (l : List UInt8) : (x.toList == l) = decide (x.data.toList = l) := by
  rw [Lib.toList_data]
  by_cases h : x.data.toList = l <;> simp [h]
set_option maxHeartbeats 2000000 in
set_option maxRecDepth 100000 in
theorem refPatchOf_any (s : ByteArray) (w : World) (hs : s.size ≤ 100000000) :
    Calls Tryz.prog 17 #[.string s] w fun e w' => ∃ r, e = .returned (.tuple #[r, .int .i64 (parseG s.data.toList).2]) ∧ Chg Never w w' ∧ Rdv w' Never r (parseG s.data.toList).1 := by
  have hsz := Lib.size_eq s
  by_cases hl : 400000 < s.size
  · have HR : Hid (parseG s.data.toList = ([], 5)) := by unfold Hid parseG; rw [if_pos (by omega)]
    clear hsz
    go_enter Tryz.func17, Tryz.ntmps17
    go_wp2_with fail
    go_ret2
    exact ⟨_, by rw [HR.out]; rfl, Chg.refl _ _, by rw [HR.out]; exact rdv_nil _ _⟩
  · obtain ⟨I, z, hIz⟩ := last_of (parts_ne 10 s.data.toList)
    have hcnt := parts_count 10 s.data.toList
    have hpm := parts_mem 10 s.data.toList
    have HIZ := Lib.hid hIz
    have hIl : I.length ≤ 1000000 := by
      rw [hIz, List.length_append] at hcnt
      simp only [List.length_cons, List.length_nil] at hcnt
      omega
    have hIs : Hid (∀ x ∈ I.map toB, x.size ≤ 1000000000) := by
      intro x hx
      obtain ⟨y, hy, rfl⟩ := List.mem_map.1 hx
      have := hpm y (by rw [hIz]; exact List.mem_append_left _ hy)
      rw [toB_size']
      omega
    have hl4 : Hid (s.data.toList.length ≤ 400000) := by rw [Hid]; omega
    have hP := refParts_any s w hs
    rw [hIz, List.map_append] at hP
    have HP := Lib.hid hP
    have hLI : Hid ((I.map toB).length = I.length) := by rw [Hid, List.length_map]
    have hbL := linesB_toB I
    clear hP hIz hcnt hpm hsz
    go_enter Tryz.func17, Tryz.ntmps17
    go_wp2_with fail
    refine HP.out.mono ?_
    rintro e w1 ⟨r, rfl, hc1, hR0⟩
    have hR0 := hR0.sub (O' := Never) (fun _ _ h => h.elim)
    have hNL : (I.map toB ++ [z].map toB).length = I.length + 1 := by simp
    obtain ⟨n, hn⟩ : ∃ n, I.length = n := ⟨_, rfl⟩
    have HN := Lib.hid hn
    rw [hn] at hLI hNL hIl
    generalize I.map toB = L at hR0 hIs hLI hbL hNL
    obtain ⟨ra, rc, rfl, hra, hrb, hel⟩ := rdv_slice hR0
    unfold maxLen at hrb
    obtain ⟨sb, -, -, hrun, hsub⟩ := slice_g (P := Tryz.prog) (t := 56) (by kernel_rfl) size_str hR0 0 L.length (Nat.zero_le _) (by simp)
    obtain ⟨g, off, rfl, hgB, hglt, cz, -⟩ := elems_str hel (i := L.length) (x := toB z) (by simp)
    rw [List.drop_zero, Nat.sub_zero, Nat.sub_zero, List.take_left] at hsub
    rw [hNL] at hrun hra ⊢
    rw [Nat.sub_zero, Nat.sub_zero] at hrun
    have hrun := fun (wx : World) => hrun (L.length : Nat) wx rfl rfl
    rw [hLI.out] at hrun cz
    have sw : IntKind.i64.wrap (((n + 1 : Nat) : Int) - 1) = (n : Int) := by rw [show ((n + 1 : Nat) : Int) - 1 = (n : Int) by omega]; exact IntWalk.i64_in _ (by omega)
    have hDL : Hid ((linesB L).length = n) := by rw [hbL]; exact hn
    clear hel hNL hn hR0
    cases z with
    | cons c z =>
      have HR := Lib.hid (parseG_last (s := s.data.toList) (by rw [HIZ.out]; simp))
      obtain ⟨zz, hzz⟩ : ∃ zz, toB (c :: z) = zz := ⟨_, rfl⟩
      have tz : decide (0 < zz.size) = true := by rw [← hzz, toB_size']; simp
      have tz2 : decide ((0 : Int) < (zz.size : Int)) = true := by have := of_decide_eq_true tz; exact decide_eq_true (by omega)
      rw [hzz] at cz
      clear hrun hsub
      go_wp2_with fail
      go_ret2
      exact ⟨_, by rw [HR.out]; rfl, hc1, by rw [HR.out]; exact rdv_nil _ _⟩
    | nil =>
      obtain ⟨zz, hzz⟩ : ∃ zz, toB [] = zz := ⟨_, rfl⟩
      have tz : decide (0 < zz.size) = false := by rw [← hzz]; rfl
      have tz2 : decide ((0 : Int) < (zz.size : Int)) = false := by have := of_decide_eq_false tz; exact decide_eq_false (by omega)
      rw [hzz] at cz
      go_wp2_with fail
      clear hrun cz tz tz2 hzz
      obtain ⟨_, _, hq, -, -, hel⟩ := rdv_slice hsub
      simp only [Value.slice.injEq] at hq
      obtain ⟨rfl, hq2, rfl⟩ := hq
      rw [hLI.out] at hsub
      go_loopw [6, 7] (fun ov av wr => ∃ (k : Nat) (Lc : List Change), k ≤ n ∧ av = .int .i64 k ∧ Chg Never w1 wr ∧ Own 79 wr (Old w1.heap.size) ov Lc ∧ Hid (Lc.length ≤ k) ∧ Hid (ChgsInv (linesB L) k Lc)) (fun _ av _ => n - (intOf av).toNat)
      case atStart => exact ⟨0, [], Nat.zero_le _, rfl, Chg.refl _ _, own_nil _ _ _, Nat.zero_le _, cinv_start _⟩
      case round =>
        obtain ⟨k, Lc, hk, rfl, hc, hown, hLc, hI⟩ := hrel
        rename World => wr
        obtain ⟨va, vn, vc, rfl⟩ := own_isSlice hown
        by_cases hlt : k < n
        · by_cases h1 : k + 1 < n
          · obtain ⟨x, hx⟩ : ∃ x, L[k]? = some x := ⟨L[k]'(by rw [hLI.out]; exact hlt), by simp⟩
            obtain ⟨y, hy⟩ : ∃ y, L[k + 1]? = some y := ⟨L[k + 1]'(by rw [hLI.out]; exact h1), by simp⟩
            obtain ⟨b', off', hqe, -, -, d0, -⟩ := elems_str hel hx
            subst hqe
            obtain ⟨b'', off'', hqe, -, -, d1, -⟩ := elems_str hel hy
            simp only [Option.some.injEq, Addr.mk.injEq, and_true] at hqe
            obtain ⟨rfl, rfl⟩ := hqe
            have d0 := hc.cellNever d0
            have d1 := hc.cellNever d1
            have zx := hIs.out x (List.mem_of_getElem? hx)
            have zy := hIs.out y (List.mem_of_getElem? hy)
            have HX := Lib.hid (linesB_get hx)
            have HY := Lib.hid (linesB_get hy)
            have HD : Hid ((linesB L).drop k = x.data.toList :: y.data.toList :: (linesB L).drop (k + 2)) := by rw [Hid, drop_eq HX.out, drop_eq HY.out]
            have HS1 := fun wx => starts_any x (toB mmA) wx zx (by decide)
            have HS2 := fun wx => starts_any y (toB ppB) wx zy (by decide)
            rw [toB_data] at HS1 HS2
            have ex : x.extract 6 x.size = toB (x.data.toList.drop 6) := po_tail x
            have ey : y.extract 6 y.size = toB (y.data.toList.drop 6) := po_tail y
            have hFz : (toB (x.data.toList.drop 6)).size ≤ maxLen := by rw [toB_size', List.length_drop, ← Lib.size_eq]; unfold maxLen; omega
            have hGz : (toB (y.data.toList.drop 6)).size ≤ maxLen := by rw [toB_size', List.length_drop, ← Lib.size_eq]; unfold maxLen; omega
            have e3 : ((toB (x.data.toList.drop 6)).toList == (toB (y.data.toList.drop 6)).toList) = decide (x.data.toList.drop 6 = y.data.toList.drop 6) := str_eq_iff _ _
            have e4 : (x.toList == mmN) = decide (x.data.toList = mmN) := po_lit x _
            have e5 : (y.toList == ppN) = decide (y.data.toList = ppN) := po_lit y _
            unfold mmN at e4
            unfold ppN at e5
            have hb := Blk3.new wr 79 (.int .i64 1) (.string ⟨#[]⟩) (.slice none 0 0)
            have hA : Chg Never wr (wr.alloc (.cells #[.int .i64 1, .string ⟨#[]⟩, .slice none 0 0] 79)) := (Chg.refl Never wr).alloc _
            have HREF := Lib.hid (headed_ref x.data.toList y.data.toList)
            have hnA : x.data.toList = mmN → ¬ mmA.isPrefixOf x.data.toList = true := fun e => by rw [e]; decide
            have hnB : y.data.toList = ppN → ¬ ppB.isPrefixOf y.data.toList = true := fun e => by rw [e]; decide
            obtain ⟨F, hFe⟩ : ∃ F, toB (x.data.toList.drop 6) = F := ⟨_, rfl⟩
            obtain ⟨G, hGe⟩ : ∃ G, toB (y.data.toList.drop 6) = G := ⟨_, rfl⟩
            rw [hFe] at ex hFz e3
            rw [hGe] at ey hGz e3
            have HFX := Lib.hid hFe.symm
            have HGX := Lib.hid hGe.symm
            clear hFe hGe hx hy
            clear hel
            cases hp1 : mmA.isPrefixOf x.data.toList with
            | true =>
              have P1 := Lib.hid hp1
              have j6x := po_len hp1 rfl
              have t4 := e4.trans (decide_eq_false (fun h => hnA h hp1))
              cases hp2 : ppB.isPrefixOf y.data.toList with
              | true =>
                have P2 := Lib.hid hp2
                have j6y := po_len hp2 rfl
                have t5 := e5.trans (decide_eq_false (fun h => hnB h hp2))
                by_cases e : x.data.toList.drop 6 = y.data.toList.drop 6
                · have t3 := e3.trans (decide_eq_true e)
                  have HE := Lib.hid e
                  clear e e3 e4 e5 hnA hnB
                  go_wp2_with fail
                  refine (HS1 _).mono ?_
                  rintro e wz ⟨rfl, rfl⟩
                  rename World => wr
                  go_wp2_with fail
                  refine (HS2 _).mono ?_
                  rintro e wz ⟨rfl, rfl⟩
                  rename World => wr
                  rw [hp2]
                  go_upto_region 19 with fail
                  generalize wr.alloc (.cells #[.int .i64 1, .string ⟨#[]⟩, .slice none 0 0] 79) = wA at hb hA ⊢
                  obtain ⟨B, hBe⟩ : ∃ B, wr.heap.size = B := ⟨_, rfl⟩
                  rw [hBe] at hb ⊢
                  have hcB : wr.heap.size ≤ B := Nat.le_of_eq hBe
                  have hownB := hown.keep (O'' := fun q => Old w1.heap.size q ∨ B ≤ q) (Chg.refl Never wr) (fun _ _ hh => hh.elim) (fun q hq hh => hh.elim (fun h => h) (fun h => by omega))
                  have hownB := hownB.never hA
                  clear hBe hown HS1 HS2
                  go_quiet (fail)
                  have hcd : Chg Never wA (wA.drewN nq) := (Chg.refl Never wA).drewN nq
                  have hB := hb.keep hcd (fun h => h)
                  have hownB := hownB.never hcd
                  have hcq : Chg (fun q => B ≤ q) wr (wA.drewN nq) := (hA.trans hcd).mono (fun _ _ h => h.elim)
                  have hwq : Chg Never w1 (wA.drewN nq) := hc.trans (hA.trans hcd)
                  clear hcd hb hA
                  generalize wA.drewN nq = wq at hB hownB hcq hwq ⊢
                  obtain ⟨b0, b1, b2⟩ := hB.cell
                  have fz0 := hB.free 0
                  have fz1 := hB.free 1
                  have fz2 := hB.free 2
                  have hBs : Blk3 (wq.setCell ⟨B, 1, none⟩ (.string F)) B 79 (.int .i64 1) (.string F) (.slice none 0 0) := hB.set1 _
                  have hcs : Chg (fun q => B ≤ q) wq (wq.setCell ⟨B, 1, none⟩ (.string F)) := (Chg.refl (fun q => B ≤ q) wq).setCell (p := ⟨B, 1, none⟩) (.inr (Nat.le_refl B)) _
                  have hcr := hcq.trans hcs
                  have hHD := Lib.hid (show headedL x.data.toList y.data.toList = some ((1 : Int), x.data.toList.drop 6) from by rw [HREF.out, if_pos ⟨P1.out, P2.out, HE.out⟩])
                  clear hB hcq hwq
                  go_wp2_with fail
                  clear b0 b1 b2 fz0 fz1 fz2
                  generalize wq.setCell ⟨B, 1, none⟩ (.string F) = wS at hBs hcs hcr ⊢
                  have hcwS : Chg Never w1 wS := hc.trans' hcr (fun q hq hh => absurd hh (by have := hc.size; omega))
                  have hownS := hownB.keep (O'' := fun q => Old w1.heap.size q ∨ B ≤ q) hcs (fun q _ hh => .inr hh) (fun _ _ hh => hh)
                  have hTT := refTake_take ((linesB L).drop (k + 2)) (k + 2) [] 0 0
                  have hRH := readHunks_any L (k + 2) _ wS (hsub.never hcwS) (by rw [hLI.out]; omega) hIs.out (by rw [hLI.out]; omega)
                  clear hcs hcr hownB
                  cases ht : takeU ((linesB L).drop (k + 2)) [] 0 0 with
                  | none =>
                    rw [ht] at hTT
                    obtain ⟨j, hj⟩ := hTT
                    rw [hj] at hRH
                    have hRH := Lib.hid hRH
                    have hNO := Lib.hid (cinv_take hI.out HD.out hHD.out ht)
                    clear hj ht
                    refine hRH.out.mono ?_
                    rintro e w6 ⟨r6, rfl, hc6, hr6⟩
                    obtain ⟨ea, ec, rfl, -, -, -⟩ := rdv_slice hr6
                    have hw6 := hcwS.trans hc6
                    clear hRH hr6
                    have HR := Lib.hid (parseG_none (s := s.data.toList) (by rw [HIZ.out, List.dropLast_concat, ← hbL]; exact hNO.out))
                    clear hI
                    go_wp2_with fail
                    go_ret2
                    exact ⟨_, by rw [HR.out]; rfl, hc1.trans hw6, by rw [HR.out]; exact rdv_nil _ _⟩
                  | some q =>
                    obtain ⟨hs6, rest⟩ := q
                    rw [ht] at hTT
                    obtain ⟨j, hj, hj1, hj2, rfl⟩ := hTT
                    rw [hj] at hRH
                    have hRH := Lib.hid hRH
                    rw [List.drop_drop, show k + 2 + (j - (k + 2)) = j by omega] at ht
                    have hI2 := Lib.hid (cinv_step hI.out HD.out hHD.out ht hj1)
                    have hjn : j ≤ n := by rw [List.length_drop, hDL.out] at hj2; omega
                    clear hj ht hI hj2
                    refine hRH.out.mono ?_
                    rintro e w6 ⟨r6, rfl, hc6, hr6⟩
                    obtain ⟨ea, ec, rfl, -, -, -⟩ := rdv_slice hr6
                    have hw6 := hcwS.trans hc6
                    have hB6 := hBs.keep hc6 (fun h => h)
                    have hown6 := hownS.never hc6
                    obtain ⟨b0, b1, b2⟩ := hB6.cell
                    have fz2 := hB6.free 2
                    have hS : Chg (fun q => q = B) w6 (w6.setCell ⟨B, 2, none⟩ (.slice ea hs6.length ec)) := (Chg.refl (fun q => q = B) w6).setCell (p := ⟨B, 2, none⟩) (.inr rfl) _
                    have hB7 := hB6.set2 (.slice ea hs6.length ec)
                    have hown7 := hown6.keep (O'' := Old w1.heap.size) hS (fun q _ hh => .inr (Nat.le_of_eq hh.symm)) (fun _ _ hh => .inl hh)
                    have hBS := hBs.lt
                    have hr7 := hr6.keep (O'' := fun q => q < wS.heap.size) hS (fun q _ hh => by have h : q = B := hh; unfold Old; omega) (fun _ _ hh => hh)
                    have hw7 : Chg Never w1 (w6.setCell ⟨B, 2, none⟩ (.slice ea hs6.length ec)) := hw6.trans' hS (fun q hq hh => by have h : q = B := hh; have := hc.size; omega)
                    have hpt : (F : ByteArray).size ≤ maxLen := hFz
                    have hvl := own_block_lt hownS
                    have hy : Dat.rd (w6.setCell ⟨B, 2, none⟩ (.slice ea hs6.length ec)) (fun q => Old w1.heap.size q ∨ (Value.slice va vn vc).ownBlock = some q) [.int .i64 1, .string F, .slice ea hs6.length ec] (⟨1, F, hs6⟩ : Change) := ⟨_, rfl, hpt, hr7.sub (fun q _ hh => by
                      rcases hh with hh | hh
                      · unfold Old at hh; have := hcwS.size; omega
                      · exact hvl q hh)⟩
                    have hLc9 : Lc.length ≤ 1000000000 := by have := hLc.out; omega
                    obtain ⟨c0, c1, c2⟩ := hB7.cell
                    clear hRH hr6 hr7 hBs hownS hown6 hS hB7 hc6
                    go_wp2_with (at_builtin; refine wpList_push (by rfl) _ _ 45 (by rfl) elemOk_change (O := Old w1.heap.size) (l := Lc) (y := (⟨1, F, hs6⟩ : Change)) (by rfl) (by rfl) (by simp) hown7 hy (old_lt hw7) hLc9 ?_; intro v' w8 hown8 hc8 _)
                    have hw8 := own_step hw7 hown7 hc8
                    go_wp2_with fail
                    go_roundw
                    case rel => exact ⟨j, Lc ++ [⟨1, F, hs6⟩], hjn, rfl, hw8, hown8, by rw [Hid, List.length_append]; have := hLc.out; simp; omega, by rw [HFX.out]; exact hI2⟩
                    case measure => simp [intOf] <;> omega
                · have t3 := e3.trans (decide_eq_false e)
                  have hno := Lib.hid (cinv_head hI.out HD.out (by rw [HREF.out, if_neg (fun q => e q.2.2), if_neg (fun q => hnA q.1 P1.out), if_neg (fun q => hnB q.2 P2.out)]))
                  clear e e3 e4 e5 hnA hnB
                  go_wp2_with fail
                  refine (HS1 _).mono ?_
                  rintro e wz ⟨rfl, rfl⟩
                  rename World => wr
                  go_wp2_with fail
                  refine (HS2 _).mono ?_
                  rintro e wz ⟨rfl, rfl⟩
                  rename World => wr
                  rw [hp2]
                  go_upto_region 19 with fail
                  generalize wr.alloc (.cells #[.int .i64 1, .string ⟨#[]⟩, .slice none 0 0] 79) = wA at hb hA ⊢
                  obtain ⟨B, hBe⟩ : ∃ B, wr.heap.size = B := ⟨_, rfl⟩
                  rw [hBe] at hb ⊢
                  have hcB : wr.heap.size ≤ B := Nat.le_of_eq hBe
                  have hownB := hown.keep (O'' := fun q => Old w1.heap.size q ∨ B ≤ q) (Chg.refl Never wr) (fun _ _ hh => hh.elim) (fun q hq hh => hh.elim (fun h => h) (fun h => by omega))
                  have hownB := hownB.never hA
                  clear hBe hown HS1 HS2
                  go_quiet (fail)
                  have hcd : Chg Never wA (wA.drewN nq) := (Chg.refl Never wA).drewN nq
                  have hB := hb.keep hcd (fun h => h)
                  have hownB := hownB.never hcd
                  have hcq : Chg (fun q => B ≤ q) wr (wA.drewN nq) := (hA.trans hcd).mono (fun _ _ h => h.elim)
                  have hwq : Chg Never w1 (wA.drewN nq) := hc.trans (hA.trans hcd)
                  clear hcd hb hA
                  generalize wA.drewN nq = wq at hB hownB hcq hwq ⊢
                  obtain ⟨b0, b1, b2⟩ := hB.cell
                  have fz0 := hB.free 0
                  have fz1 := hB.free 1
                  have fz2 := hB.free 2
                  have HR := Lib.hid (parseG_none (s := s.data.toList) (by rw [HIZ.out, List.dropLast_concat, ← hbL]; exact hno.out))
                  clear hI
                  go_wp2_with fail
                  go_ret2
                  exact ⟨_, by rw [HR.out]; rfl, hc1.trans hwq, by rw [HR.out]; exact rdv_nil _ _⟩
              | false =>
                have P2 := Lib.hid hp2
                by_cases e : y.data.toList = ppN
                · have t5 := e5.trans (decide_eq_true e)
                  have hH : Hid (headedL x.data.toList y.data.toList = some ((3 : Int), x.data.toList.drop 6)) := by rw [Hid, HREF.out, if_neg (fun q => by rw [P2.out] at q; exact absurd q.2.1 (by decide)), if_neg (fun q => hnA q.1 P1.out), if_pos ⟨P1.out, e⟩]
                  clear e e3 e4 e5 hnA hnB
                  go_wp2_with fail
                  refine (HS1 _).mono ?_
                  rintro e wz ⟨rfl, rfl⟩
                  rename World => wr
                  go_wp2_with fail
                  refine (HS2 _).mono ?_
                  rintro e wz ⟨rfl, rfl⟩
                  rename World => wr
                  rw [hp2]
                  go_upto_region 19 with fail
                  generalize wr.alloc (.cells #[.int .i64 1, .string ⟨#[]⟩, .slice none 0 0] 79) = wA at hb hA ⊢
                  obtain ⟨B, hBe⟩ : ∃ B, wr.heap.size = B := ⟨_, rfl⟩
                  rw [hBe] at hb ⊢
                  have hcB : wr.heap.size ≤ B := Nat.le_of_eq hBe
                  have hownB := hown.keep (O'' := fun q => Old w1.heap.size q ∨ B ≤ q) (Chg.refl Never wr) (fun _ _ hh => hh.elim) (fun q hq hh => hh.elim (fun h => h) (fun h => by omega))
                  have hownB := hownB.never hA
                  clear hBe hown HS1 HS2
                  go_quiet (fail)
                  have hcd : Chg Never wA (wA.drewN nq) := (Chg.refl Never wA).drewN nq
                  have hB := hb.keep hcd (fun h => h)
                  have hownB := hownB.never hcd
                  have hcq : Chg (fun q => B ≤ q) wr (wA.drewN nq) := (hA.trans hcd).mono (fun _ _ h => h.elim)
                  have hwq : Chg Never w1 (wA.drewN nq) := hc.trans (hA.trans hcd)
                  clear hcd hb hA
                  generalize wA.drewN nq = wq at hB hownB hcq hwq ⊢
                  obtain ⟨b0, b1, b2⟩ := hB.cell
                  have fz0 := hB.free 0
                  have fz1 := hB.free 1
                  have fz2 := hB.free 2
                  have hBs : Blk3 ((wq.setCell ⟨B, 0, none⟩ (.int .i64 3)).setCell ⟨B, 1, none⟩ (.string F)) B 79 (.int .i64 3) (.string F) (.slice none 0 0) := (hB.set0 _).set1 _
                  have hcs : Chg (fun q => B ≤ q) wq ((wq.setCell ⟨B, 0, none⟩ (.int .i64 3)).setCell ⟨B, 1, none⟩ (.string F)) := ((Chg.refl (fun q => B ≤ q) wq).setCell (p := ⟨B, 0, none⟩) (.inr (Nat.le_refl B)) _).setCell (p := ⟨B, 1, none⟩) (.inr (Nat.le_refl B)) _
                  have hcr := hcq.trans hcs
                  have hHD := Lib.hid hH.out
                  clear hB hcq hwq
                  go_wp2_with fail
                  clear b0 b1 b2 fz0 fz1 fz2
                  generalize (wq.setCell ⟨B, 0, none⟩ (.int .i64 3)).setCell ⟨B, 1, none⟩ (.string F) = wS at hBs hcs hcr ⊢
                  have hcwS : Chg Never w1 wS := hc.trans' hcr (fun q hq hh => absurd hh (by have := hc.size; omega))
                  have hownS := hownB.keep (O'' := fun q => Old w1.heap.size q ∨ B ≤ q) hcs (fun q _ hh => .inr hh) (fun _ _ hh => hh)
                  have hTT := refTake_take ((linesB L).drop (k + 2)) (k + 2) [] 0 0
                  have hRH := readHunks_any L (k + 2) _ wS (hsub.never hcwS) (by rw [hLI.out]; omega) hIs.out (by rw [hLI.out]; omega)
                  clear hcs hcr hownB
                  cases ht : takeU ((linesB L).drop (k + 2)) [] 0 0 with
                  | none =>
                    rw [ht] at hTT
                    obtain ⟨j, hj⟩ := hTT
                    rw [hj] at hRH
                    have hRH := Lib.hid hRH
                    have hNO := Lib.hid (cinv_take hI.out HD.out hHD.out ht)
                    clear hj ht
                    refine hRH.out.mono ?_
                    rintro e w6 ⟨r6, rfl, hc6, hr6⟩
                    obtain ⟨ea, ec, rfl, -, -, -⟩ := rdv_slice hr6
                    have hw6 := hcwS.trans hc6
                    clear hRH hr6
                    have HR := Lib.hid (parseG_none (s := s.data.toList) (by rw [HIZ.out, List.dropLast_concat, ← hbL]; exact hNO.out))
                    clear hI
                    go_wp2_with fail
                    go_ret2
                    exact ⟨_, by rw [HR.out]; rfl, hc1.trans hw6, by rw [HR.out]; exact rdv_nil _ _⟩
                  | some q =>
                    obtain ⟨hs6, rest⟩ := q
                    rw [ht] at hTT
                    obtain ⟨j, hj, hj1, hj2, rfl⟩ := hTT
                    rw [hj] at hRH
                    have hRH := Lib.hid hRH
                    rw [List.drop_drop, show k + 2 + (j - (k + 2)) = j by omega] at ht
                    have hI2 := Lib.hid (cinv_step hI.out HD.out hHD.out ht hj1)
                    have hjn : j ≤ n := by rw [List.length_drop, hDL.out] at hj2; omega
                    clear hj ht hI hj2
                    refine hRH.out.mono ?_
                    rintro e w6 ⟨r6, rfl, hc6, hr6⟩
                    obtain ⟨ea, ec, rfl, -, -, -⟩ := rdv_slice hr6
                    have hw6 := hcwS.trans hc6
                    have hB6 := hBs.keep hc6 (fun h => h)
                    have hown6 := hownS.never hc6
                    obtain ⟨b0, b1, b2⟩ := hB6.cell
                    have fz2 := hB6.free 2
                    have hS : Chg (fun q => q = B) w6 (w6.setCell ⟨B, 2, none⟩ (.slice ea hs6.length ec)) := (Chg.refl (fun q => q = B) w6).setCell (p := ⟨B, 2, none⟩) (.inr rfl) _
                    have hB7 := hB6.set2 (.slice ea hs6.length ec)
                    have hown7 := hown6.keep (O'' := Old w1.heap.size) hS (fun q _ hh => .inr (Nat.le_of_eq hh.symm)) (fun _ _ hh => .inl hh)
                    have hBS := hBs.lt
                    have hr7 := hr6.keep (O'' := fun q => q < wS.heap.size) hS (fun q _ hh => by have h : q = B := hh; unfold Old; omega) (fun _ _ hh => hh)
                    have hw7 : Chg Never w1 (w6.setCell ⟨B, 2, none⟩ (.slice ea hs6.length ec)) := hw6.trans' hS (fun q hq hh => by have h : q = B := hh; have := hc.size; omega)
                    have hpt : (F : ByteArray).size ≤ maxLen := hFz
                    have hvl := own_block_lt hownS
                    have hy : Dat.rd (w6.setCell ⟨B, 2, none⟩ (.slice ea hs6.length ec)) (fun q => Old w1.heap.size q ∨ (Value.slice va vn vc).ownBlock = some q) [.int .i64 3, .string F, .slice ea hs6.length ec] (⟨3, F, hs6⟩ : Change) := ⟨_, rfl, hpt, hr7.sub (fun q _ hh => by
                      rcases hh with hh | hh
                      · unfold Old at hh; have := hcwS.size; omega
                      · exact hvl q hh)⟩
                    have hLc9 : Lc.length ≤ 1000000000 := by have := hLc.out; omega
                    obtain ⟨c0, c1, c2⟩ := hB7.cell
                    clear hRH hr6 hr7 hBs hownS hown6 hS hB7 hc6
                    go_wp2_with (at_builtin; refine wpList_push (by rfl) _ _ 45 (by rfl) elemOk_change (O := Old w1.heap.size) (l := Lc) (y := (⟨3, F, hs6⟩ : Change)) (by rfl) (by rfl) (by simp) hown7 hy (old_lt hw7) hLc9 ?_; intro v' w8 hown8 hc8 _)
                    have hw8 := own_step hw7 hown7 hc8
                    go_wp2_with fail
                    go_roundw
                    case rel => exact ⟨j, Lc ++ [⟨3, F, hs6⟩], hjn, rfl, hw8, hown8, by rw [Hid, List.length_append]; have := hLc.out; simp; omega, by rw [HFX.out]; exact hI2⟩
                    case measure => simp [intOf] <;> omega
                · have t5 := e5.trans (decide_eq_false e)
                  have hno := Lib.hid (cinv_head hI.out HD.out (by rw [HREF.out, if_neg (fun q => by rw [P2.out] at q; exact absurd q.2.1 (by decide)), if_neg (fun q => hnA q.1 P1.out), if_neg (fun q => e q.2)]))
                  clear e e3 e4 e5 hnA hnB
                  go_wp2_with fail
                  refine (HS1 _).mono ?_
                  rintro e wz ⟨rfl, rfl⟩
                  rename World => wr
                  go_wp2_with fail
                  refine (HS2 _).mono ?_
                  rintro e wz ⟨rfl, rfl⟩
                  rename World => wr
                  rw [hp2]
                  go_upto_region 19 with fail
                  generalize wr.alloc (.cells #[.int .i64 1, .string ⟨#[]⟩, .slice none 0 0] 79) = wA at hb hA ⊢
                  obtain ⟨B, hBe⟩ : ∃ B, wr.heap.size = B := ⟨_, rfl⟩
                  rw [hBe] at hb ⊢
                  have hcB : wr.heap.size ≤ B := Nat.le_of_eq hBe
                  have hownB := hown.keep (O'' := fun q => Old w1.heap.size q ∨ B ≤ q) (Chg.refl Never wr) (fun _ _ hh => hh.elim) (fun q hq hh => hh.elim (fun h => h) (fun h => by omega))
                  have hownB := hownB.never hA
                  clear hBe hown HS1 HS2
                  go_quiet (fail)
                  have hcd : Chg Never wA (wA.drewN nq) := (Chg.refl Never wA).drewN nq
                  have hB := hb.keep hcd (fun h => h)
                  have hownB := hownB.never hcd
                  have hcq : Chg (fun q => B ≤ q) wr (wA.drewN nq) := (hA.trans hcd).mono (fun _ _ h => h.elim)
                  have hwq : Chg Never w1 (wA.drewN nq) := hc.trans (hA.trans hcd)
                  clear hcd hb hA
                  generalize wA.drewN nq = wq at hB hownB hcq hwq ⊢
                  obtain ⟨b0, b1, b2⟩ := hB.cell
                  have fz0 := hB.free 0
                  have fz1 := hB.free 1
                  have fz2 := hB.free 2
                  have HR := Lib.hid (parseG_none (s := s.data.toList) (by rw [HIZ.out, List.dropLast_concat, ← hbL]; exact hno.out))
                  clear hI
                  go_wp2_with fail
                  go_ret2
                  exact ⟨_, by rw [HR.out]; rfl, hc1.trans hwq, by rw [HR.out]; exact rdv_nil _ _⟩
            | false =>
              have P1 := Lib.hid hp1
              cases hp2 : ppB.isPrefixOf y.data.toList with
              | true =>
                have P2 := Lib.hid hp2
                have j6y := po_len hp2 rfl
                by_cases e : x.data.toList = mmN
                · have t4 := e4.trans (decide_eq_true e)
                  have hH : Hid (headedL x.data.toList y.data.toList = some ((2 : Int), y.data.toList.drop 6)) := by rw [Hid, HREF.out, if_neg (fun q => by rw [P1.out] at q; exact absurd q.1 (by decide)), if_pos ⟨e, P2.out⟩]
                  clear e e3 e4 e5 hnA hnB
                  go_wp2_with fail
                  refine (HS1 _).mono ?_
                  rintro e wz ⟨rfl, rfl⟩
                  rename World => wr
                  go_wp2_with fail
                  refine (HS2 _).mono ?_
                  rintro e wz ⟨rfl, rfl⟩
                  rename World => wr
                  rw [hp2]
                  go_upto_region 19 with fail
                  generalize wr.alloc (.cells #[.int .i64 1, .string ⟨#[]⟩, .slice none 0 0] 79) = wA at hb hA ⊢
                  obtain ⟨B, hBe⟩ : ∃ B, wr.heap.size = B := ⟨_, rfl⟩
                  rw [hBe] at hb ⊢
                  have hcB : wr.heap.size ≤ B := Nat.le_of_eq hBe
                  have hownB := hown.keep (O'' := fun q => Old w1.heap.size q ∨ B ≤ q) (Chg.refl Never wr) (fun _ _ hh => hh.elim) (fun q hq hh => hh.elim (fun h => h) (fun h => by omega))
                  have hownB := hownB.never hA
                  clear hBe hown HS1 HS2
                  go_quiet (fail)
                  have hcd : Chg Never wA (wA.drewN nq) := (Chg.refl Never wA).drewN nq
                  have hB := hb.keep hcd (fun h => h)
                  have hownB := hownB.never hcd
                  have hcq : Chg (fun q => B ≤ q) wr (wA.drewN nq) := (hA.trans hcd).mono (fun _ _ h => h.elim)
                  have hwq : Chg Never w1 (wA.drewN nq) := hc.trans (hA.trans hcd)
                  clear hcd hb hA
                  generalize wA.drewN nq = wq at hB hownB hcq hwq ⊢
                  obtain ⟨b0, b1, b2⟩ := hB.cell
                  have fz0 := hB.free 0
                  have fz1 := hB.free 1
                  have fz2 := hB.free 2
                  have hBs : Blk3 ((wq.setCell ⟨B, 0, none⟩ (.int .i64 2)).setCell ⟨B, 1, none⟩ (.string G)) B 79 (.int .i64 2) (.string G) (.slice none 0 0) := (hB.set0 _).set1 _
                  have hcs : Chg (fun q => B ≤ q) wq ((wq.setCell ⟨B, 0, none⟩ (.int .i64 2)).setCell ⟨B, 1, none⟩ (.string G)) := ((Chg.refl (fun q => B ≤ q) wq).setCell (p := ⟨B, 0, none⟩) (.inr (Nat.le_refl B)) _).setCell (p := ⟨B, 1, none⟩) (.inr (Nat.le_refl B)) _
                  have hcr := hcq.trans hcs
                  have hHD := Lib.hid hH.out
                  clear hB hcq hwq
                  go_wp2_with fail
                  clear b0 b1 b2 fz0 fz1 fz2
                  generalize (wq.setCell ⟨B, 0, none⟩ (.int .i64 2)).setCell ⟨B, 1, none⟩ (.string G) = wS at hBs hcs hcr ⊢
                  have hcwS : Chg Never w1 wS := hc.trans' hcr (fun q hq hh => absurd hh (by have := hc.size; omega))
                  have hownS := hownB.keep (O'' := fun q => Old w1.heap.size q ∨ B ≤ q) hcs (fun q _ hh => .inr hh) (fun _ _ hh => hh)
                  have hTT := refTake_take ((linesB L).drop (k + 2)) (k + 2) [] 0 0
                  have hRH := readHunks_any L (k + 2) _ wS (hsub.never hcwS) (by rw [hLI.out]; omega) hIs.out (by rw [hLI.out]; omega)
                  clear hcs hcr hownB
                  cases ht : takeU ((linesB L).drop (k + 2)) [] 0 0 with
                  | none =>
                    rw [ht] at hTT
                    obtain ⟨j, hj⟩ := hTT
                    rw [hj] at hRH
                    have hRH := Lib.hid hRH
                    have hNO := Lib.hid (cinv_take hI.out HD.out hHD.out ht)
                    clear hj ht
                    refine hRH.out.mono ?_
                    rintro e w6 ⟨r6, rfl, hc6, hr6⟩
                    obtain ⟨ea, ec, rfl, -, -, -⟩ := rdv_slice hr6
                    have hw6 := hcwS.trans hc6
                    clear hRH hr6
                    have HR := Lib.hid (parseG_none (s := s.data.toList) (by rw [HIZ.out, List.dropLast_concat, ← hbL]; exact hNO.out))
                    clear hI
                    go_wp2_with fail
                    go_ret2
                    exact ⟨_, by rw [HR.out]; rfl, hc1.trans hw6, by rw [HR.out]; exact rdv_nil _ _⟩
                  | some q =>
                    obtain ⟨hs6, rest⟩ := q
                    rw [ht] at hTT
                    obtain ⟨j, hj, hj1, hj2, rfl⟩ := hTT
                    rw [hj] at hRH
                    have hRH := Lib.hid hRH
                    rw [List.drop_drop, show k + 2 + (j - (k + 2)) = j by omega] at ht
                    have hI2 := Lib.hid (cinv_step hI.out HD.out hHD.out ht hj1)
                    have hjn : j ≤ n := by rw [List.length_drop, hDL.out] at hj2; omega
                    clear hj ht hI hj2
                    refine hRH.out.mono ?_
                    rintro e w6 ⟨r6, rfl, hc6, hr6⟩
                    obtain ⟨ea, ec, rfl, -, -, -⟩ := rdv_slice hr6
                    have hw6 := hcwS.trans hc6
                    have hB6 := hBs.keep hc6 (fun h => h)
                    have hown6 := hownS.never hc6
                    obtain ⟨b0, b1, b2⟩ := hB6.cell
                    have fz2 := hB6.free 2
                    have hS : Chg (fun q => q = B) w6 (w6.setCell ⟨B, 2, none⟩ (.slice ea hs6.length ec)) := (Chg.refl (fun q => q = B) w6).setCell (p := ⟨B, 2, none⟩) (.inr rfl) _
                    have hB7 := hB6.set2 (.slice ea hs6.length ec)
                    have hown7 := hown6.keep (O'' := Old w1.heap.size) hS (fun q _ hh => .inr (Nat.le_of_eq hh.symm)) (fun _ _ hh => .inl hh)
                    have hBS := hBs.lt
                    have hr7 := hr6.keep (O'' := fun q => q < wS.heap.size) hS (fun q _ hh => by have h : q = B := hh; unfold Old; omega) (fun _ _ hh => hh)
                    have hw7 : Chg Never w1 (w6.setCell ⟨B, 2, none⟩ (.slice ea hs6.length ec)) := hw6.trans' hS (fun q hq hh => by have h : q = B := hh; have := hc.size; omega)
                    have hpt : (G : ByteArray).size ≤ maxLen := hGz
                    have hvl := own_block_lt hownS
                    have hy : Dat.rd (w6.setCell ⟨B, 2, none⟩ (.slice ea hs6.length ec)) (fun q => Old w1.heap.size q ∨ (Value.slice va vn vc).ownBlock = some q) [.int .i64 2, .string G, .slice ea hs6.length ec] (⟨2, G, hs6⟩ : Change) := ⟨_, rfl, hpt, hr7.sub (fun q _ hh => by
                      rcases hh with hh | hh
                      · unfold Old at hh; have := hcwS.size; omega
                      · exact hvl q hh)⟩
                    have hLc9 : Lc.length ≤ 1000000000 := by have := hLc.out; omega
                    obtain ⟨c0, c1, c2⟩ := hB7.cell
                    clear hRH hr6 hr7 hBs hownS hown6 hS hB7 hc6
                    go_wp2_with (at_builtin; refine wpList_push (by rfl) _ _ 45 (by rfl) elemOk_change (O := Old w1.heap.size) (l := Lc) (y := (⟨2, G, hs6⟩ : Change)) (by rfl) (by rfl) (by simp) hown7 hy (old_lt hw7) hLc9 ?_; intro v' w8 hown8 hc8 _)
                    have hw8 := own_step hw7 hown7 hc8
                    go_wp2_with fail
                    go_roundw
                    case rel => exact ⟨j, Lc ++ [⟨2, G, hs6⟩], hjn, rfl, hw8, hown8, by rw [Hid, List.length_append]; have := hLc.out; simp; omega, by rw [HGX.out]; exact hI2⟩
                    case measure => simp [intOf] <;> omega
                · have t4 := e4.trans (decide_eq_false e)
                  have hno := Lib.hid (cinv_head hI.out HD.out (by rw [HREF.out, if_neg (fun q => by rw [P1.out] at q; exact absurd q.1 (by decide)), if_neg (fun q => e q.1), if_neg (fun q => by rw [P1.out] at q; exact absurd q.1 (by decide))]))
                  clear e e3 e4 e5 hnA hnB
                  go_wp2_with fail
                  refine (HS1 _).mono ?_
                  rintro e wz ⟨rfl, rfl⟩
                  rename World => wr
                  go_wp2_with fail
                  refine (HS2 _).mono ?_
                  rintro e wz ⟨rfl, rfl⟩
                  rename World => wr
                  rw [hp2]
                  go_upto_region 19 with fail
                  generalize wr.alloc (.cells #[.int .i64 1, .string ⟨#[]⟩, .slice none 0 0] 79) = wA at hb hA ⊢
                  obtain ⟨B, hBe⟩ : ∃ B, wr.heap.size = B := ⟨_, rfl⟩
                  rw [hBe] at hb ⊢
                  have hcB : wr.heap.size ≤ B := Nat.le_of_eq hBe
                  have hownB := hown.keep (O'' := fun q => Old w1.heap.size q ∨ B ≤ q) (Chg.refl Never wr) (fun _ _ hh => hh.elim) (fun q hq hh => hh.elim (fun h => h) (fun h => by omega))
                  have hownB := hownB.never hA
                  clear hBe hown HS1 HS2
                  go_quiet (fail)
                  have hcd : Chg Never wA (wA.drewN nq) := (Chg.refl Never wA).drewN nq
                  have hB := hb.keep hcd (fun h => h)
                  have hownB := hownB.never hcd
                  have hcq : Chg (fun q => B ≤ q) wr (wA.drewN nq) := (hA.trans hcd).mono (fun _ _ h => h.elim)
                  have hwq : Chg Never w1 (wA.drewN nq) := hc.trans (hA.trans hcd)
                  clear hcd hb hA
                  generalize wA.drewN nq = wq at hB hownB hcq hwq ⊢
                  obtain ⟨b0, b1, b2⟩ := hB.cell
                  have fz0 := hB.free 0
                  have fz1 := hB.free 1
                  have fz2 := hB.free 2
                  have HR := Lib.hid (parseG_none (s := s.data.toList) (by rw [HIZ.out, List.dropLast_concat, ← hbL]; exact hno.out))
                  clear hI
                  go_wp2_with fail
                  go_ret2
                  exact ⟨_, by rw [HR.out]; rfl, hc1.trans hwq, by rw [HR.out]; exact rdv_nil _ _⟩
              | false =>
                have P2 := Lib.hid hp2
                have hno := Lib.hid (cinv_head hI.out HD.out (by rw [HREF.out, if_neg (fun q => by rw [P1.out] at q; exact absurd q.1 (by decide)), if_neg (fun q => by rw [P2.out] at q; exact absurd q.2 (by decide)), if_neg (fun q => by rw [P1.out] at q; exact absurd q.1 (by decide))]))
                by_cases e : x.data.toList = mmN
                · have t4 := e4.trans (decide_eq_true e)
                  clear e e3 e4 e5 hnA hnB
                  go_wp2_with fail
                  refine (HS1 _).mono ?_
                  rintro e wz ⟨rfl, rfl⟩
                  rename World => wr
                  go_wp2_with fail
                  refine (HS2 _).mono ?_
                  rintro e wz ⟨rfl, rfl⟩
                  rename World => wr
                  rw [hp2]
                  go_upto_region 19 with fail
                  generalize wr.alloc (.cells #[.int .i64 1, .string ⟨#[]⟩, .slice none 0 0] 79) = wA at hb hA ⊢
                  obtain ⟨B, hBe⟩ : ∃ B, wr.heap.size = B := ⟨_, rfl⟩
                  rw [hBe] at hb ⊢
                  have hcB : wr.heap.size ≤ B := Nat.le_of_eq hBe
                  have hownB := hown.keep (O'' := fun q => Old w1.heap.size q ∨ B ≤ q) (Chg.refl Never wr) (fun _ _ hh => hh.elim) (fun q hq hh => hh.elim (fun h => h) (fun h => by omega))
                  have hownB := hownB.never hA
                  clear hBe hown HS1 HS2
                  go_quiet (fail)
                  have hcd : Chg Never wA (wA.drewN nq) := (Chg.refl Never wA).drewN nq
                  have hB := hb.keep hcd (fun h => h)
                  have hownB := hownB.never hcd
                  have hcq : Chg (fun q => B ≤ q) wr (wA.drewN nq) := (hA.trans hcd).mono (fun _ _ h => h.elim)
                  have hwq : Chg Never w1 (wA.drewN nq) := hc.trans (hA.trans hcd)
                  clear hcd hb hA
                  generalize wA.drewN nq = wq at hB hownB hcq hwq ⊢
                  obtain ⟨b0, b1, b2⟩ := hB.cell
                  have fz0 := hB.free 0
                  have fz1 := hB.free 1
                  have fz2 := hB.free 2
                  have HR := Lib.hid (parseG_none (s := s.data.toList) (by rw [HIZ.out, List.dropLast_concat, ← hbL]; exact hno.out))
                  clear hI
                  go_wp2_with fail
                  go_ret2
                  exact ⟨_, by rw [HR.out]; rfl, hc1.trans hwq, by rw [HR.out]; exact rdv_nil _ _⟩
                · have t4 := e4.trans (decide_eq_false e)
                  clear e e3 e4 e5 hnA hnB
                  go_wp2_with fail
                  refine (HS1 _).mono ?_
                  rintro e wz ⟨rfl, rfl⟩
                  rename World => wr
                  go_wp2_with fail
                  refine (HS2 _).mono ?_
                  rintro e wz ⟨rfl, rfl⟩
                  rename World => wr
                  rw [hp2]
                  go_upto_region 19 with fail
                  generalize wr.alloc (.cells #[.int .i64 1, .string ⟨#[]⟩, .slice none 0 0] 79) = wA at hb hA ⊢
                  obtain ⟨B, hBe⟩ : ∃ B, wr.heap.size = B := ⟨_, rfl⟩
                  rw [hBe] at hb ⊢
                  have hcB : wr.heap.size ≤ B := Nat.le_of_eq hBe
                  have hownB := hown.keep (O'' := fun q => Old w1.heap.size q ∨ B ≤ q) (Chg.refl Never wr) (fun _ _ hh => hh.elim) (fun q hq hh => hh.elim (fun h => h) (fun h => by omega))
                  have hownB := hownB.never hA
                  clear hBe hown HS1 HS2
                  go_quiet (fail)
                  have hcd : Chg Never wA (wA.drewN nq) := (Chg.refl Never wA).drewN nq
                  have hB := hb.keep hcd (fun h => h)
                  have hownB := hownB.never hcd
                  have hcq : Chg (fun q => B ≤ q) wr (wA.drewN nq) := (hA.trans hcd).mono (fun _ _ h => h.elim)
                  have hwq : Chg Never w1 (wA.drewN nq) := hc.trans (hA.trans hcd)
                  clear hcd hb hA
                  generalize wA.drewN nq = wq at hB hownB hcq hwq ⊢
                  obtain ⟨b0, b1, b2⟩ := hB.cell
                  have fz0 := hB.free 0
                  have fz1 := hB.free 1
                  have fz2 := hB.free 2
                  have HR := Lib.hid (parseG_none (s := s.data.toList) (by rw [HIZ.out, List.dropLast_concat, ← hbL]; exact hno.out))
                  clear hI
                  go_wp2_with fail
                  go_ret2
                  exact ⟨_, by rw [HR.out]; rfl, hc1.trans hwq, by rw [HR.out]; exact rdv_nil _ _⟩
          · have hn1 := Lib.hid (cinv_one hI.out (by rw [hDL.out]; omega))
            clear hel
            have HR := Lib.hid (parseG_none (s := s.data.toList) (by rw [HIZ.out, List.dropLast_concat, ← hbL]; exact hn1.out))
            clear hI
            go_wp2_with fail
            go_ret2
            exact ⟨_, by rw [HR.out]; rfl, hc1.trans hc, by rw [HR.out]; exact rdv_nil _ _⟩
        · have hend := Lib.hid (cinv_end hI.out (by rw [hDL.out]; omega))
          have HG0 := Lib.hid (parseG_some (s := s.data.toList) hl4.out (by rw [HIZ.out, List.dropLast_concat, ← hbL]; exact hend.out) (by rw [HIZ.out]; simp))
          have hv := hown.rdv.sub (O' := Never) (fun _ _ h => h.elim)
          have hcw := hc1.trans hc
          obtain ⟨ea, ec, hq, -, -, -⟩ := rdv_slice hv
          clear hel hI hown
          go_wp2_with fail
          refine (refPatch_any Lc _ _ hv).mono ?_
          rintro e w5 ⟨rfl, hc5⟩
          have hv5 := hv.never hc5
          have hw5 := hcw.trans hc5
          generalize (patchFault Lc).1 = at0
          by_cases hz : (patchFault Lc).2 = 0
          · have HR : Hid (parseG s.data.toList = (Lc, 0)) := by rw [Hid, HG0.out, if_neg (by rw [hz]; decide)]
            rw [hz]
            clear hz
            go_wp2_with fail
            go_ret2
            exact ⟨_, by rw [HR.out]; rfl, hw5, by rw [HR.out]; exact hv5⟩
          · have HR : Hid (parseG s.data.toList = ([], (patchFault Lc).2)) := by rw [Hid, HG0.out, if_pos hz]
            have tF : ((patchFault Lc).2 != 0) = true := by simpa using hz
            have tF2 : ((patchFault Lc).2 == 0) = false := by simpa using hz
            generalize (patchFault Lc).2 = fz at HR tF tF2
            clear hz
            go_wp2_with fail
            go_ret2
            exact ⟨_, by rw [HR.out]; rfl, hw5, by rw [HR.out]; exact rdv_nil _ _⟩
end Go.Proofs.YtmojaahkcpgfkaaGreatDoor
namespace Go.Proofs.YtmojaahkcpgfkaaGreatDoor
open Go.RowKit

set_option maxHeartbeats 2000000 in
set_option maxRecDepth 100000 in
theorem law_gitIs (l : List Change) (s : ByteArray) (v : Value) (w : World) (h : Rdv w Never v l) (hs : s.size ≤ 1048576) (m : Int) (hm : w.cell? ⟨1, 0, none⟩ = some (.int .i64 m)) (hg : Globs w m) (hgt : w.cell? ⟨0, 0, none⟩ = some errT) :
    Calls Tryz.prog 5 #[v, .string s] w fun e w' => e = .returned (.bool true) ∧ Chg Never w w' := by
  have hs2 : s.size ≤ 100000000 := by omega
  have hP := fun wx hx hm => gitprint_any l v wx hx m hm
  have hv := h
  obtain ⟨a, cap, rfl, -, -, -⟩ := rdv_slice h
  clear h
  by_cases hz : (patchFault l).2 = 0
  · have HT := fun wx hx => refPatchText_any l (.slice a l.length cap) wx hx hz
    have HU : Hid (gitR l = toB (textG l)) := by unfold Hid gitR; rw [if_pos hz]
    have HZ := Lib.hid hz
    clear hz
    go_enter Tryz.func5, Tryz.ntmps5
    go_wp2_with fail
    refine (refPatch_any l _ _ hv).mono ?_
    rintro e w1 ⟨rfl, hc1⟩
    rw [HZ.out]
    generalize (patchFault l).1 = at0
    go_wp2_with fail
    refine (HT _ (hv.never hc1)).mono ?_
    rintro e w2 ⟨rfl, hc2⟩
    have hw2 := hc1.trans hc2
    rw [← HU.out]
    go_wp2_with fail
    refine (hP _ (hv.never hw2) (hw2.cellNever hm)).mono ?_
    rintro e w3 ⟨rfl, hc3⟩
    have hw3 := hw2.trans hc3
    rw [HZ.out]
    clear hP HT
    go_wp2_with fail
    refine (error_any 0 0 _ (hw3.cellNever hgt)).mono ?_
    rintro e w4 ⟨rfl, hc4⟩
    have hw4 := hw3.trans hc4
    rw [show ((0 : Int) == 0) = true from rfl]
    have tss : ((gitR l).toList == (gitR l).toList) = true := by simp
    have tsn : ((gitR l).toList != (gitR l).toList) = false := by simp
    clear hc1 hc2 hc3 hc4 hw2 hw3
    go_wp2_with fail
    refine (refPatchOf_any s _ hs2).mono ?_
    rintro e w4 ⟨r4, rfl, hc4, hr4⟩
    have hw4 := hw4.trans hc4
    go_wp2_with fail
    refine (gitparse_any s _ hs2 m (hg.never hw4)).mono ?_
    rintro e w5 ⟨r5, rfl, hc5, hr5⟩
    have hw5 := hw4.trans hc5
    have hr4 := hr4.never hc5
    generalize parseG s.data.toList = R at hr4 hr5 ⊢
    obtain ⟨X, f⟩ := R
    simp only at hr4 hr5 ⊢
    go_wp2_with fail
    refine (error_any f f _ (hw5.cellNever hgt)).mono ?_
    rintro e w6 ⟨rfl, hc6⟩
    rw [show (f == f) = true by simp]
    have hw6 := hw5.trans hc6
    go_wp2_with fail
    refine (patches_any X X _ _ _ (hr5.never hc6) (hr4.never hc6)).mono ?_
    rintro e w7 ⟨rfl, hc7⟩
    rw [decide_eq_true rfl]
    go_wp2_with fail
    go_ret
    exact ⟨rfl, hw6.trans hc7⟩
  · have HU : Hid (gitR l = ByteArray.empty) := if_neg hz
    have t1 : ((patchFault l).2 == 0) = false := by simpa using hz
    have t1n : ((patchFault l).2 != 0) = true := by simpa using hz
    generalize hfz : (patchFault l).2 = fz at t1 t1n
    have HZ := Lib.hid hfz
    clear hz hfz
    go_enter Tryz.func5, Tryz.ntmps5
    go_wp2_with fail
    refine (refPatch_any l _ _ hv).mono ?_
    rintro e w1 ⟨rfl, hc1⟩
    rw [HZ.out]
    generalize (patchFault l).1 = at0
    go_wp2_with fail
    refine (hP _ (hv.never hc1) (hc1.cellNever hm)).mono ?_
    rintro e w3 ⟨rfl, hc3⟩
    have hw3 := hc1.trans hc3
    rw [HZ.out, HU.out]
    clear hP
    go_wp2_with fail
    refine (error_any fz fz _ (hw3.cellNever hgt)).mono ?_
    rintro e w4 ⟨rfl, hc4⟩
    have hw4 := hw3.trans hc4
    rw [show (fz == fz) = true by simp]
    clear hc1 hc3 hc4 hw3
    go_wp2_with fail
    refine (refPatchOf_any s _ hs2).mono ?_
    rintro e w4 ⟨r4, rfl, hc4, hr4⟩
    have hw4 := hw4.trans hc4
    go_wp2_with fail
    refine (gitparse_any s _ hs2 m (hg.never hw4)).mono ?_
    rintro e w5 ⟨r5, rfl, hc5, hr5⟩
    have hw5 := hw4.trans hc5
    have hr4 := hr4.never hc5
    generalize parseG s.data.toList = R at hr4 hr5 ⊢
    obtain ⟨X, f⟩ := R
    simp only at hr4 hr5 ⊢
    go_wp2_with fail
    refine (error_any f f _ (hw5.cellNever hgt)).mono ?_
    rintro e w6 ⟨rfl, hc6⟩
    rw [show (f == f) = true by simp]
    have hw6 := hw5.trans hc6
    go_wp2_with fail
    refine (patches_any X X _ _ _ (hr5.never hc6) (hr4.never hc6)).mono ?_
    rintro e w7 ⟨rfl, hc7⟩
    rw [decide_eq_true rfl]
    go_wp2_with fail
    go_ret
    exact ⟨rfl, hw6.trans hc7⟩
end Go.Proofs.YtmojaahkcpgfkaaGreatDoor
namespace Go.Proofs.YtmojaahkcpgfkaaGreatDoor
open Go.RowKit

def uniR (l : List Hunk) : ByteArray := if (hunksFault l).2 = 0 then toB (textU l) else ByteArray.empty
set_option maxHeartbeats 1000000 in
set_option maxRecDepth 100000 in
theorem uniprint_any (l : List Hunk) (v : Value) (w : World) (h : Rdv w Never v l) :
    Calls Tryz.prog 8 #[v] w fun e w' => e = .returned (.tuple #[.string (uniR l), errV (hunksFault l).2]) ∧ Chg Never w w' := by
  by_cases hz : (hunksFault l).2 = 0
  · have HZ := Lib.hid hz
    have HR : Hid (uniR l = ⟨(textU l).toArray⟩) := by unfold Hid uniR; rw [if_pos hz]; rfl
    have hv := h
    obtain ⟨a, cap, rfl, -, -, -⟩ := rdv_slice h
    clear hz h
    go_enter Tryz.func8, Tryz.ntmps8
    go_wp2_with fail
    refine (hunk_check_any l _ _ hv).mono ?_
    rintro e w1 ⟨rfl, hc1⟩
    rw [HZ.out, errV_zero]
    generalize (hunksFault l).1 = at0
    go_wp2_with fail
    have hv1 : Rdv w1 (From w1.heap.size) (.slice a l.length cap) l := hv.keep hc1 (fun _ _ h => h.elim) (fun k hk h => by unfold From at h; have := hc1.size; omega)
    have hI : IsB w1.heap.size w1.heap.size [] (w1.alloc (.cells #[.pointer none, .slice none 0 0] 65)) := Lib.IsBuilderF.of (Lib.fresh_isBuilder _ _ w1)
    have hA : Below w1.heap.size w1 (w1.alloc (.cells #[.pointer none, .slice none 0 0] 65)) := (Below.refl _ w1).alloc (Nat.le_refl _) _
    refine (write_any w1.heap.size w1.heap.size [] l _ _ (hv1.keep (chg_below hA) (fun _ _ h => h) (fun _ _ h => h)) hI HZ.out (Nat.zero_le _) hA.size).mono ?_
    rintro e w2 ⟨rfl, hI2, b2⟩
    rw [List.nil_append] at hI2
    have hb := hA.trans b2
    go_wp2_with fail
    refine (Tryz.Builder_String_any_k w1.heap.size w1.heap.size (textU l) _ hI2 hb.size).mono ?_
    rintro e w4 ⟨rfl, _, b4, _⟩
    go_wp2_with fail
    go_ret2
    exact ⟨by rw [HR.out, HZ.out]; rfl, hc1.trans (Chg.of_below (hb.trans b4))⟩
  · have HR : Hid (uniR l = ByteArray.empty) := if_neg hz
    have HZ := Lib.hid hz
    obtain ⟨a, cap, rfl, -, -, -⟩ := rdv_slice h
    go_enter Tryz.func8, Tryz.ntmps8
    go_wp2_with fail
    refine (hunk_check_any l _ _ h).mono ?_
    rintro e w1 ⟨rfl, hc1⟩
    rw [errV_pos hz]
    generalize (hunksFault l).1 = at0
    clear hz
    go_wp2_with fail
    go_ret2
    exact ⟨by rw [HR.out, errV_pos HZ.out]; rfl, hc1⟩
end Go.Proofs.YtmojaahkcpgfkaaGreatDoor
namespace Go.Proofs.YtmojaahkcpgfkaaGreatDoor
open Go.RowKit

theorem tmod_nat {c : Int} {n : Nat} (hc : 0 ≤ c) (h0 : 0 < n) : ∃ k : Nat, k < n ∧ Int.tmod c (n : Int) = (k : Int) := by
  obtain ⟨d, rfl⟩ : ∃ d : Nat, c = d := ⟨c.toNat, by omega⟩
  exact ⟨d % n, Nat.mod_lt _ h0, by rw [Int.tmod_eq_emod_of_nonneg (by omega)]; omega⟩
set_option maxHeartbeats 1000000 in
theorem pick_any (c : Int) (n : Nat) (w : World) (hc : I64 c) (h0 : 0 < n) (hn : n ≤ 1000000000) :
    Calls Tryz.prog 13 #[.int .i64 c, .int .i64 n] w fun e w' => ∃ k : Nat, k < n ∧ e = .returned (.int .i64 k) ∧ w' = w := by
  unfold I64 at hc
  have n0 : ((n : Int) == 0) = false := by simp; omega
  have n1 : ((n : Int) != 0) = true := by simp; omega
  by_cases h : c < 0
  · have t1 : decide (c < 0) = true := decide_eq_true h
    have s1 : IntKind.i64.wrap (c + 1) = c + 1 := IntWalk.i64_in _ (by omega)
    have s2 : IntKind.i64.wrap (-(c + 1)) = -(c + 1) := IntWalk.i64_in _ (by omega)
    obtain ⟨k, hk, e⟩ := tmod_nat (c := -(c + 1)) (by omega) h0
    have s3 : IntKind.i64.wrap (k : Int) = k := IntWalk.i64_in _ (by omega)
    have HE := Lib.hid e
    go_enter Tryz.func13, Tryz.ntmps13
    go_wp2_with fail
    go_ret
    exact ⟨k, hk, rfl, rfl⟩
  · have t1 : decide (c < 0) = false := decide_eq_false h
    obtain ⟨k, hk, e⟩ := tmod_nat (c := c) (by omega) h0
    have s3 : IntKind.i64.wrap (k : Int) = k := IntWalk.i64_in _ (by omega)
    go_enter Tryz.func13, Tryz.ntmps13
    go_wp2_with fail
    go_ret
    exact ⟨k, hk, rfl, rfl⟩
end Go.Proofs.YtmojaahkcpgfkaaGreatDoor
namespace Go.Proofs.YtmojaahkcpgfkaaGreatDoor

theorem go_app : ∀ (a b : List (List UInt8)) (i : Nat) (hs : List Hunk) (o n : Nat), goU (a ++ b) i hs o n = match goU a i hs o n with
    | (some j, r) => (some j, r)
    | (none, hs', o', n') => goU b (i + a.length) hs' o' n'
  | [], b, i, hs, o, n => by rw [List.nil_append, goU]; rfl
  | s :: a, b, i, hs, o, n => by
    rw [List.cons_append, goU, goU]
    cases hr : readLine hs o n s with
    | none => rfl
    | some p =>
      obtain ⟨hs', o', n'⟩ := p
      simp only
      rw [go_app a b (i + 1) hs' o' n', List.length_cons, show i + 1 + a.length = i + (a.length + 1) by omega]
theorem one_change {h : Hunk} {fin more : Int} (e : oneFault h fin more = 0) : h.marks ≠ [] := by
  unfold oneFault at e
  by_cases h1 : scriptFault h.marks ≠ 0
  · rw [if_pos h1] at e; exact absurd e h1
  · rw [if_neg h1] at e
    intro hm
    rw [if_pos (by rw [hm]; rfl)] at e
    cases e
theorem go_change : ∀ (l : List Hunk) (i : Nat) (fin more : Int), (hunksGo i fin more l).2 = 0 → ∀ x ∈ l, x.marks ≠ []
  | [], _, _, _, _ => fun _ h => by cases h
  | h :: l, i, fin, more, e => by
    rw [hunksGo] at e
    by_cases h0 : oneFault h fin more = 0
    · rw [if_pos h0] at e
      intro x hx
      rcases List.mem_cons.1 hx with rfl | hx
      · exact one_change h0
      · exact go_change l _ _ _ e x hx
    · rw [if_neg h0] at e
      exact absurd e h0
theorem hunks_change {l : List Hunk} (h : (hunksFault l).2 = 0) : ∀ x ∈ l, x.marks ≠ [] := by
  unfold hunksFault at h
  by_cases hl : 60 < l.length
  · rw [if_pos hl] at h; cases h
  · rw [if_neg hl] at h
    exact go_change l _ _ _ h
theorem last_split {α : Type} {l : List α} (h : l ≠ []) : ∃ (i : List α) (x : α), l = i ++ [x] := ⟨l.dropLast, l.getLast h, (List.dropLast_concat_getLast h).symm⟩
theorem uni_last {l : List Hunk} (e : (hunksFault l).2 = 0) (hne : l ≠ []) : ∃ (init : List Hunk) (h : Hunk) (ms : List Mark) (m : Mark), l = init ++ [h] ∧ h.marks = ms ++ [m] := by
  obtain ⟨init, h, rfl⟩ := last_split hne
  obtain ⟨ms, m, hm⟩ := last_split (hunks_change e h (by simp))
  exact ⟨init, h, ms, m, rfl, hm⟩
theorem uni_cut {init : List Hunk} {h : Hunk} {ms : List Mark} {m : Mark} (e : (hunksFault (init ++ [h])).2 = 0) (hm : h.marks = ms ++ [m]) {c : Nat} (hc : c ≤ m.text.size) :
    ∃ k, 0 < k ∧ parseU ((textU (init ++ [h])).take ((textU (init ++ [h])).length - 1 - c)) = ([], k, 5) := by
  obtain ⟨h1, h2, h3⟩ := hunks_ok e
  have hL : linesU (init ++ [h]) = (linesU init ++ (headL h.old (oldN h.marks) h.new (newN h.marks) :: ms.map markL)) ++ [markL m] := by
    unfold linesU
    rw [List.flatMap_append, List.flatMap_cons, List.flatMap_nil, List.append_nil]
    show _ ++ (headL h.old (oldN h.marks) h.new (newN h.marks) :: h.marks.map markL) = _
    rw [hm]
    simp
  generalize hls : linesU init ++ (headL h.old (oldN h.marks) h.new (newN h.marks) :: ms.map markL) = ls at hL
  have hpos : 0 < ls.length := by rw [← hls, List.length_append, List.length_cons]; omega
  have hg := go_hunks [] (init ++ [h]) [] 0 h1
  rw [List.append_nil, hL, go_app] at hg
  have hx : (markL m).length = m.text.size + 1 := by unfold markL; rw [List.length_cons, ← Lib.size_eq]
  have ht : textU (init ++ [h]) = textL ls ++ (markL m ++ [10]) := by
    show textL (linesU (init ++ [h])) = _
    rw [hL, textL_app]
    simp [textL]
  have hy : (textU (init ++ [h])).take ((textU (init ++ [h])).length - 1 - c) = textL ls ++ (markL m).take (m.text.size + 1 - c) := by
    rw [ht, List.take_append, List.length_append, List.length_append, hx, List.length_singleton, List.take_of_length_le (by omega), List.take_append_of_le_length (by rw [hx]; omega)]
    congr 2
    omega
  rw [hy]
  have hy10 : ∀ c' ∈ (markL m).take (m.text.size + 1 - c), c' ≠ 10 := fun c' hc' => h2 (markL m) (by rw [hL]; simp) c' (List.mem_of_mem_take hc')
  cases hgo : goU ls 0 [] 0 0 with
  | mk a b =>
    obtain ⟨hs', o', n'⟩ := b
    rw [hgo] at hg
    cases a with
    | some j =>
      simp only at hg
      rw [goU] at hg
      cases hg
    | none =>
      refine ⟨ls.length, hpos, parse_cut e hL ?_ hy10 (by rw [List.length_take]; omega) hgo⟩
      intro he
      have := congrArg List.length he
      rw [List.length_take, hx, List.length_nil] at this
      omega
end Go.Proofs.YtmojaahkcpgfkaaGreatDoor
