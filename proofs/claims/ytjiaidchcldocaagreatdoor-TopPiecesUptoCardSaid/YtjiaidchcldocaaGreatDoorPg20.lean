/-
  PARTS: THE WALK of git.Parse.
-/
import Derived.Test.YtjiaidchcldocaaGreatDoorPg19
import Derived.Test.YtjiaidchcldocaaGreatDoorPg13
set_option linter.unusedVariables false
set_option linter.unusedSimpArgs false
namespace Go.Proofs.YtjiaidchcldocaaGreatDoor
open Go.RowKit

theorem bytesL_toB (I : List (List UInt8)) : bytesL (I.map toB) = I := by
  unfold bytesL
  rw [List.map_map]
  have : ((fun x : ByteArray => x.data.toList) ∘ toB) = id := by funext x; exact toB_data x
  rw [this, List.map_id]
set_option maxHeartbeats 1000000 in
set_option maxRecDepth 100000 in
theorem gitparse_old (s : ByteArray) (w : World) (hs : s.size ≤ 100000000) (m : Int) (hg : Globs w m) :
    Calls Tryz.prog 30 #[.string s] w fun e w' => ∃ r, e = .returned (.tuple #[r, errV (parseG s.data.toList).2]) ∧ Chg Never w w' ∧ Rdv w' (Old w.heap.size) r (parseG s.data.toList).1 := by
  have hsz := Lib.size_eq s
  by_cases hl : 400000 < s.size
  · have HR : Hid (parseG s.data.toList = ([], 5)) := by unfold Hid parseG; rw [if_pos (by omega)]
    clear hsz
    go_enter Tryz.func30, Tryz.ntmps30
    go_wp2_with fail
    go_ret2
    exact ⟨_, by rw [HR.out]; rfl, Chg.refl _ _, by rw [HR.out]; exact rdv_nil _ _⟩
  · obtain ⟨I, z, hIz⟩ := last_of (parts_ne 10 s.data.toList)
    have hcnt := parts_count 10 s.data.toList
    have hpm := parts_mem 10 s.data.toList
    have HIZ := Lib.hid hIz
    have hdl : Hid ((parts 10 s.data.toList).dropLast = I) := by rw [Hid, hIz, List.dropLast_concat]
    have hgl : Hid ((parts 10 s.data.toList).getLast? = some z) := by rw [Hid, hIz]; simp
    have HSP : Hid (Lib.splitB ⟨#[10]⟩ 0 (Lib.countB s ⟨#[10]⟩) s = I.map toB ++ [toB z]) := by rw [Hid, splitB_parts, hIz, List.map_append]; rfl
    have HLEN : Hid (Lib.countB s ⟨#[10]⟩ + 1 = (I.map toB ++ [toB z]).length) := by
      have := Lib.splitB_all ⟨#[10]⟩ (by decide) 0 _ s rfl
      rw [Hid, ← this, HSP.out]
    have hIl : I.length ≤ 1000000 := by
      rw [hIz, List.length_append] at hcnt
      simp only [List.length_cons, List.length_nil] at hcnt
      omega
    have hIs : Hid (∀ x ∈ I.map toB ++ [toB z], x.size ≤ 1000000000) := by
      intro x hx
      have : ∃ y ∈ parts 10 s.data.toList, x = toB y := by
        rw [hIz]
        rcases List.mem_append.1 hx with hx | hx
        · obtain ⟨y, hy, rfl⟩ := List.mem_map.1 hx
          exact ⟨y, List.mem_append_left _ hy, rfl⟩
        · simp only [List.mem_cons, List.not_mem_nil, or_false] at hx
          exact ⟨z, by simp, hx⟩
      obtain ⟨y, hy, rfl⟩ := this
      have := hpm y hy
      rw [toB_size']
      omega
    have hbL := bytesL_toB I
    have HG : Hid (chgsL (I.map toB) = changesG (parts 10 s.data.toList).dropLast.length (parts 10 s.data.toList).dropLast) := by
      unfold Hid chgsL
      rw [hbL, hdl.out]
    have hLl : (I.map toB).length ≤ 1000000 := by rw [List.length_map]; exact hIl
    clear hIz hcnt hpm hbL hIl hdl
    generalize I.map toB = L at HSP HLEN hIs HG hLl
    have hl4 : s.data.toList.length ≤ 400000 := by omega
    have hl4 := Lib.hid hl4
    clear hsz
    go_enter Tryz.func30, Tryz.ntmps30
    go_wp2_with fail
    refine (Tryz.strings_Split s ⟨#[10]⟩ m _ (by omega) hg.ml (by decide)).mono ?_
    rintro e w2 ⟨rfl, rfl⟩
    rw [HSP.out, HLEN.out]
    have hA : Chg Never w (w.alloc (.cells ((L ++ [toB z]).map Value.string).toArray 9)) := (Chg.refl Never w).alloc _
    have hR0 : Rdv (w.alloc (.cells ((L ++ [toB z]).map Value.string).toArray 9)) Never (.slice (some ⟨w.heap.size, 0, none⟩) (L ++ [toB z]).length (L ++ [toB z]).length) (L ++ [toB z]) :=
      rdv_strs (heap_alloc_new _ _) (fun h => h) rfl (by rw [List.length_append]; simp only [List.length_cons, List.length_nil]; unfold maxLen; omega) (fun x hx => by have := hIs.out x hx; unfold maxLen; omega)
    generalize w.alloc (.cells ((L ++ [toB z]).map Value.string).toArray 9) = w3 at hR0 hA ⊢
    obtain ⟨sb, -, -, hrun, hsub⟩ := slice_g (P := Tryz.prog) (t := 86) (by kernel_rfl) size_str hR0 0 L.length (Nat.zero_le _) (by simp)
    obtain ⟨_, _, hq, -, -, hel⟩ := rdv_slice hR0
    simp only [Value.slice.injEq, true_and] at hq
    obtain ⟨rfl, rfl⟩ := hq
    obtain ⟨g, off, hq, -, -, cz, -⟩ := elems_str hel (i := L.length) (x := toB z) (by simp)
    simp only [Option.some.injEq, Addr.mk.injEq, and_true] at hq
    obtain ⟨rfl, rfl⟩ := hq
    rw [List.drop_zero, Nat.sub_zero, Nat.sub_zero, List.take_left] at hsub
    have hNL : (L ++ [toB z]).length = L.length + 1 := by simp
    rw [hNL] at hrun hsub ⊢
    rw [Nat.sub_zero, Nat.sub_zero] at hrun
    have hrun := fun (wx : World) => hrun (L.length : Nat) wx rfl rfl
    have sw : IntKind.i64.wrap (((L.length + 1 : Nat) : Int) - 1) = (L.length : Int) := by rw [show ((L.length + 1 : Nat) : Int) - 1 = (L.length : Int) by omega]; exact IntWalk.i64_in _ (by omega)
    have hCA := Lib.hid (gitchanges_old L _ _ hsub hLl (fun x hx => hIs.out x (List.mem_append_left _ hx)) m (hg.never hA))
    have hmL : Hid (m = m) := rfl
    simp only [Nat.zero_add] at cz
    generalize L.length = n at hrun hCA sw cz hLl ⊢
    clear hel hR0 hNL hsub
    go_wp2_with fail
    refine hCA.out.mono ?_
    rintro e w4 ⟨r, rfl, hc4, hr4⟩
    have hr4 : Rdv w4 (Old w.heap.size) r ((chgsL L).getD []) := hr4.sub (fun k _ hk => Nat.lt_of_lt_of_le hk hA.size)
    have cz := hc4.cellNever cz
    have hc4 := hA.trans hc4
    clear hrun sw hCA hA
    cases hC : chgsL L with
    | none =>
      rw [hC] at HG
      have HR := Lib.hid (parseG_none HG.out.symm)
      rw [Option.isSome_none]
      clear hC hr4
      go_wp2_with fail
      go_ret2
      exact ⟨_, by rw [HR.out]; rfl, by first | exact hc4 | exact hc5, by rw [HR.out]; exact rdv_nil _ _⟩
    | some p =>
      rw [hC] at HG hr4
      rw [Option.getD_some] at hr4
      rw [Option.isSome_some]
      clear hC
      cases z with
      | cons c z =>
        have HR : Hid (parseG s.data.toList = ([], 5)) := parseG_last (by rw [hgl.out]; simp)
        have tz : (toB (c :: z)).toList = c :: z := by rw [Lib.toList_data, toB_data]
        clear hr4
        go_wp2_with fail
        go_ret2
        exact ⟨_, by rw [HR.out]; rfl, by first | exact hc4 | exact hc5, by rw [HR.out]; exact rdv_nil _ _⟩
      | nil =>
        have tz : (toB []).toList = [] := by rw [Lib.toList_data, toB_data]
        have HR0 := Lib.hid (parseG_some (s := s.data.toList) hl4.out HG.out.symm hgl.out)
        have hmc := hg.ml
        have hm4 := hc4.cellNever hmc
        clear hmc
        go_wp2_with fail
        refine (patch_check_any p r _ (hr4.sub (fun k _ hk => hk.elim)) m hm4).mono ?_
        rintro e w5 ⟨rfl, hc5⟩
        have hr5 := hr4.never hc5
        have hc5 := hc4.trans hc5
        generalize (patchFault p).1 = at0
        by_cases hz : (patchFault p).2 = 0
        · have HR : Hid (parseG s.data.toList = (p, 0)) := by rw [Hid, HR0.out, if_neg (by rw [hz]; decide)]
          rw [hz, errV_zero]
          clear hz
          go_wp2_with fail
          go_ret2
          exact ⟨_, by rw [HR.out]; rfl, hc5, by rw [HR.out]; exact hr5⟩
        · have HR : Hid (parseG s.data.toList = ([], (patchFault p).2)) := by rw [Hid, HR0.out, if_pos hz]
          have HZ := Lib.hid hz
          rw [errV_pos hz]
          clear hz
          go_wp2_with fail
          go_ret2
          exact ⟨.slice none 0 0, by rw [HR.out]; show _ = Ending.returned (.tuple #[.slice none 0 0, errV (patchFault p).2]); rw [errV_pos HZ.out]; rfl, hc5, by rw [HR.out]; exact rdv_nil _ _⟩
theorem gitparse_any (s : ByteArray) (w : World) (hs : s.size ≤ 100000000) (m : Int) (hg : Globs w m) :
    Calls Tryz.prog 30 #[.string s] w fun e w' => ∃ r, e = .returned (.tuple #[r, errV (parseG s.data.toList).2]) ∧ Chg Never w w' ∧ Rdv w' Never r (parseG s.data.toList).1 := by
  refine (gitparse_old s w hs m hg).mono ?_
  rintro e w' ⟨r, he, hc, hr⟩
  exact ⟨r, he, hc, hr.sub (fun k _ hk => hk.elim)⟩
end Go.Proofs.YtjiaidchcldocaaGreatDoor
