/-
  GitLines holds, tied to the program's text: for all arguments of bulk at most 1048576 the law answers true, and its arguments read as before.
-/
import Derived.Test.YtnekhaacapdmfaaDoorPackGl7
import Derived.Test.YtnekhaacapdmfaaDoorPackGl6
import Derived.Test.YtnekhaacapdmfaaDoorPackGl1
namespace Go.Proofs.YtnekhaacapdmfaaDoor
open Go.RowKit

def cntN (l : List UInt8) : Nat := (l.filter fun c => c == 10).length
theorem cnt_app (a b : List UInt8) : cntN (a ++ b) = cntN a + cntN b := by unfold cntN; rw [List.filter_append, List.length_append]
theorem cnt_none {a : List UInt8} (h : ∀ c ∈ a, c ≠ 10) : cntN a = 0 := by
  unfold cntN
  rw [List.length_eq_zero_iff, List.filter_eq_nil_iff]
  intro c hc
  simpa using h c hc
theorem cnt_lines : ∀ (ls : List (List UInt8)), (∀ x ∈ ls, ∀ c ∈ x, c ≠ 10) → cntN (textL ls) = ls.length ∧ ls.length ≤ (textL ls).length
  | [], _ => ⟨rfl, Nat.le_refl _⟩
  | x :: ls, h => by
    obtain ⟨i1, i2⟩ := cnt_lines ls fun y hy => h y (List.mem_cons_of_mem _ hy)
    have e : textL (x :: ls) = x ++ [10] ++ textL ls := rfl
    rw [e, cnt_app, cnt_app, i1, cnt_none (h x (List.mem_cons_self ..)), List.length_cons, List.length_append, List.length_append]
    have : cntN [10] = 1 := rfl
    rw [this, List.length_singleton]
    omega
theorem cnt_take {l : List UInt8} {k : Nat} {c : UInt8} (hx : l[k]? = some c) : (c = 10 → cntN (l.take (k + 1)) = cntN (l.take k) + 1) ∧ (c ≠ 10 → cntN (l.take (k + 1)) = cntN (l.take k)) := by
  rw [List.take_add_one, hx, Option.toList_some, cnt_app]
  constructor
  · rintro rfl; rfl
  · intro h
    rw [cnt_none (a := [c]) (by simpa using h)]; rfl
theorem byte_at' {s : ByteArray} {k : Nat} (h : k < s.size) : s.data.toList[k]? = some (s[k]'h) := by rw [Array.getElem?_toList, Array.getElem?_eq_getElem h]; rfl
theorem cnt_le (l : List UInt8) : cntN l ≤ l.length := List.length_filter_le _ _
def msN (l : List Hunk) : Nat := (l.map fun h => h.marks.length).sum
def lcC (c : Change) : Nat := 2 + c.hunks.length + msN c.hunks
def lcN (p : List Change) : Nat := (p.map lcC).sum
theorem ms_one : ∀ l : List Hunk, (l.map fun h => 1 + h.marks.length).sum = l.length + msN l
  | [] => rfl
  | h :: l => by
    have := ms_one l
    unfold msN at *
    simp only [List.map_cons, List.sum_cons, List.length_cons, this]
    omega
theorem lc_lines (p : List Change) : (linesG p).length = lcN p := by
  rw [git_lines]
  unfold lcN
  congr 1
  apply List.map_congr_left
  intro c _
  rw [ms_one]
  unfold lcC
  omega
theorem lc_take {p : List Change} {k : Nat} {x : Change} (hx : p[k]? = some x) : lcN (p.take (k + 1)) = lcN (p.take k) + lcC x := by
  unfold lcN
  rw [List.take_add_one, hx]
  simp
theorem lc_mono (p : List Change) (k : Nat) : lcN (p.take k) ≤ lcN p := by
  conv => rhs; rw [← List.take_append_drop k p]
  unfold lcN
  rw [List.map_append, List.sum_append]
  omega
theorem ms_take {l : List Hunk} {q : Nat} {h : Hunk} (hx : l[q]? = some h) : msN (l.take (q + 1)) = msN (l.take q) + h.marks.length := by
  unfold msN
  rw [List.take_add_one, hx]
  simp
theorem ms_mono (l : List Hunk) (q : Nat) : msN (l.take q) ≤ msN l := by
  conv => rhs; rw [← List.take_append_drop q l]
  unfold msN
  rw [List.map_append, List.sum_append]
  omega
def wipeA : Change := ⟨3, toB [97], []⟩
def wipeT : List UInt8 := [45, 45, 45, 32, 97, 47, 97, 10, 43, 43, 43, 32, 47, 100, 101, 118, 47, 110, 117, 108, 108, 10]
theorem wipe_fault : (patchFault [wipeA]).2 = 0 := by decide +kernel
theorem wipe_text : textG [wipeA] = wipeT := by decide +kernel
theorem rdv_one_change {w : World} {g : Nat} {e : TypeId} {c : Change} {v : Value} (h : w.heap[g]? = some (.cells #[.int .i64 c.what, .string c.path, v] e (0, 0))) (hz : c.path.size ≤ maxLen) (hv : Rdv w Never v c.hunks) : Rdv w Never (.slice (some ⟨g, 0, none⟩) 1 1) [c] :=
  rdv_lit (cs := [.int .i64 c.what, .string c.path, v]) h rfl (by decide) ⟨⟨v, rfl, hz, hv⟩, trivial⟩

set_option maxHeartbeats 2000000 in
set_option maxRecDepth 100000 in
theorem law_gitLines (p : List Change) (v : Value) (w : World) (h : Rdv w Never v p) (m : Int) (hm : w.cell? ⟨1, 0, none⟩ = some (.int .i64 m)) :
    Calls Tryd.prog 4 #[v] w fun e w' => e = .returned (.bool true) ∧ Chg Never w w' := by
  obtain ⟨a, cap, rfl, h1, h2, h3⟩ := rdv_slice h
  unfold maxLen at h2
  have n0 := heap_alloc_new w (.cells #[.int .i64 3, .string ⟨#[97]⟩, .slice none 0 0] 43)
  have q0 : Chg Never w (w.alloc (.cells #[.int .i64 3, .string ⟨#[97]⟩, .slice none 0 0] 43)) := (Chg.refl Never w).alloc _
  have r0 : Rdv (w.alloc (.cells #[.int .i64 3, .string ⟨#[97]⟩, .slice none 0 0] 43)) Never (.slice (some ⟨w.heap.size, 0, none⟩) 1 1) [wipeA] := rdv_one_change n0 (by decide) (rdv_nil _ _)
  have HG : Hid (gitR [wipeA] = toB wipeT) := by unfold Hid gitR; rw [if_pos wipe_fault, wipe_text]
  have tf : ((toB wipeT).toList == [45, 45, 45, 32, 97, 47, 97, 10, 43, 43, 43, 32, 47, 100, 101, 118, 47, 110, 117, 108, 108, 10]) = true := by rw [Lib.toList_data, toB_data]; rfl
  clear n0
  go_enter Tryd.func4, Tryd.ntmps4
  go_wp2_with fail
  (with_reducible refine (gitprint_any [wipeA] _ _ r0 m (q0.cellNever hm)).mono ?_)
  rintro e w1 ⟨rfl, hc1⟩
  rw [HG.out, wipe_fault, errV_zero]
  have hc1 := q0.trans hc1
  go_wp2_with fail
  refine (gitprint_any p _ _ (h.never hc1) m (hc1.cellNever hm)).mono ?_
  rintro e w2 ⟨rfl, hc2⟩
  have hc2 := hc1.trans hc2
  clear hc1 q0 r0 tf
  by_cases hz : (patchFault p).2 = 0
  · obtain ⟨p16, pall⟩ := patch_each hz
    obtain ⟨hl10, hTL⟩ := changes_ok p pall
    obtain ⟨k1, k2⟩ := cnt_lines (linesG p) hl10
    have HT : Hid ((gitR p).data.toList = textG p) := by unfold Hid gitR; rw [if_pos hz, toB_data]
    have hC : Hid (cntN (textG p) = lcN p) := by rw [Hid, ← lc_lines]; exact k1
    have hLc : lcN p ≤ 200000 := by
      rw [← lc_lines]
      have : (textL (linesG p)).length = (textG p).length := rfl
      omega
    have hTz : (gitR p).size ≤ 200000 := by rw [Lib.size_eq, HT.out]; omega
    obtain ⟨T, hTe⟩ : ∃ T, gitR p = T := ⟨_, rfl⟩
    rw [hTe] at HT hTz ⊢
    rw [hz, errV_zero]
    clear hz pall hl10 hTL k1 k2 hTe
    go_wp2_with fail
    go_loop [7, 8] (fun n i => ∃ k : Nat, k ≤ T.size ∧ i = .int .i64 k ∧ n = .int .i64 (cntN (T.data.toList.take k) : Nat)) (fun _ i => T.size - (intOf i).toNat)
    case atStart => exact ⟨0, Nat.zero_le _, rfl, rfl⟩
    case round =>
      obtain ⟨k, hk, rfl, rfl⟩ := hrel
      have hcl : cntN (T.data.toList.take k) ≤ k := Nat.le_trans (cnt_le _) (List.length_take_le _ _)
      by_cases hlt : k < T.size
      · obtain ⟨s1, s2⟩ := cnt_take (byte_at' hlt)
        by_cases hq : T[k]'hlt = 10
        · have hb : (((T[k]'hlt).toNat : Int) == 10) = true := by rw [hq]; rfl
          have S1 := Lib.hid (s1 hq)
          clear s1 s2 hq
          generalize cntN (T.data.toList.take k) = cn at hcl S1 ⊢
          go_wp2_with fail
          go_round
          case rel => exact ⟨k + 1, by omega, by go_num, by rw [S1.out]; go_num⟩
          case measure => simp [intOf]; omega
        · have hb : (((T[k]'hlt).toNat : Int) == 10) = false := byte_ne_int hq rfl
          have S1 := Lib.hid (s2 hq)
          clear s1 s2 hq
          generalize cntN (T.data.toList.take k) = cn at hcl S1 ⊢
          go_wp2_with fail
          go_round
          case rel => exact ⟨k + 1, by omega, by go_num, by rw [S1.out]⟩
          case measure => simp [intOf]; omega
      · have hfin : cntN (T.data.toList.take k) = lcN p := by
          rw [List.take_of_length_le (by rw [← Lib.size_eq]; omega), HT.out, hC.out]
        rw [hfin]
        clear hfin hcl
        go_wp2_with fail
        go_loop [9, 10] (fun n i => ∃ k : Nat, k ≤ p.length ∧ i = .int .i64 k ∧ n = .int .i64 (lcN (p.take k) : Nat)) (fun _ i => p.length - (intOf i).toNat)
        case atStart => exact ⟨0, Nat.zero_le _, rfl, rfl⟩
        case round =>
          obtain ⟨k', hk', rfl, rfl⟩ := hrel
          by_cases hlt' : k' < p.length
          · obtain ⟨x, hx⟩ : ∃ x, p[k']? = some x := ⟨p[k'], by simp [hlt']⟩
            obtain ⟨b', off, mv, rfl, -, -, c0, c1, c2, -, hmv⟩ := elems_change h3 hx
            have c2 := hc2.cellNever c2
            obtain ⟨ma, mc, rfl, m1, m2, hme⟩ := rdv_slice hmv
            unfold maxLen at m2
            have hlm := lc_mono p (k' + 1)
            have LT := Lib.hid (lc_take hx)
            have hlm2 : lcN (p.take k') + lcC x ≤ 200000 := by rw [← LT.out]; omega
            have hdef : Hid (lcC x = 2 + x.hunks.length + msN x.hunks) := rfl
            have hm3 : lcN (p.take k') + 2 + x.hunks.length + msN x.hunks ≤ 200000 := by rw [hdef.out] at hlm2; omega
            clear hx h3 h hlm hlm2 c0 c1 hmv
            generalize lcN (p.take k') = ck at LT hm3 ⊢
            generalize hMS : msN x.hunks = MS at hm3 hdef
            have HMS := Lib.hid hMS
            clear hMS
            go_wp2_with fail
            go_loop [9, 11] (fun n i => ∃ q : Nat, q ≤ x.hunks.length ∧ i = .int .i64 q ∧ n = .int .i64 (ck + 2 + x.hunks.length + msN (x.hunks.take q) : Nat)) (fun _ i => x.hunks.length - (intOf i).toNat)
            case atStart => exact ⟨0, Nat.zero_le _, rfl, by simp [msN]⟩
            case round =>
              obtain ⟨q, hq, rfl, rfl⟩ := hrel
              by_cases hql : q < x.hunks.length
              · obtain ⟨y, hy⟩ : ∃ y, x.hunks[q]? = some y := ⟨x.hunks[q], by simp [hql]⟩
                obtain ⟨yb, yoff, yv, rfl, -, -, d0, d1, d2, hyv⟩ := elems_hunk hme hy
                have d2 := hc2.cellNever d2
                obtain ⟨ya, yc, rfl, y1, y2, -⟩ := rdv_slice hyv
                have hmm := ms_mono x.hunks (q + 1)
                have MT := Lib.hid (ms_take hy)
                have hmm2 : msN (x.hunks.take q) + y.marks.length ≤ MS := by rw [← MT.out, ← HMS.out]; exact hmm
                clear hy hme d0 d1 hyv hmm
                generalize msN (x.hunks.take q) = mq at MT hmm2 ⊢
                go_wp2_with fail
                go_round
                case rel => exact ⟨q + 1, by omega, by go_num, by rw [MT.out]; congr 1; push_cast; omega⟩
                case measure => simp [intOf]; omega
              · have e1 : ck + 2 + x.hunks.length + msN (x.hunks.take q) = lcN (p.take (k' + 1)) := by
                  rw [List.take_of_length_le (by omega), HMS.out, LT.out, hdef.out]; omega
                rw [e1]
                have E1 := Lib.hid e1
                clear e1 hme
                go_wp2_with fail
                go_round
                case rel => exact ⟨k' + 1, by omega, by go_num, rfl⟩
                case measure => simp [intOf]; omega
          · have hfin : lcN (p.take k') = lcN p := by rw [List.take_of_length_le (by omega)]
            rw [hfin]
            clear hfin
            go_wp2_with fail
            go_ret
            exact ⟨rfl, hc2⟩
  · rw [errV_pos hz]
    clear hz
    go_wp2_with fail
    go_ret
    exact ⟨rfl, hc2⟩
end Go.Proofs.YtnekhaacapdmfaaDoor
namespace Go.Proofs.YtnekhaacapdmfaaDoor.lawGitLines
open Go.ChangeShapes Go.WideShapes Go.ChangeAt Go.RowKit

set_option maxRecDepth 100000 in
theorem contract (H : Type) (enc : TypeId × Value → H) (W : World) (base : Nat) (args : Array Value) (ds gs : List (DataW H)) (before : List MemPlace)
    (hval : ∀ (j : Nat) t v, Tryd.f4.params[j]? = some t → args[j]? = some v → Value.okWide Tryd.prog W .any base t v)
    (hW : DataW.Whole enc Tryd.prog Tryd.f4.params.toList Rows.gitLinesSpec.vars false W args.toList ds gs before) (hk : Rows.uptoSmall H (ds ++ gs) = true) (hL : laidMetH Tryd.prog Rows.gitLinesUptoRow.laid W) (hS : W.ShapedOpen Tryd.prog) :
    Calls Tryd.prog 4 args W fun e W' => ∃ v, e = .returned v ∧ Rows.gitLinesSpec.post enc Tryd.prog Tryd.f4 false true false false W args v W' := by
  skip
  obtain ⟨m, hm⟩ := maxlen_of hS
  have hW' := hW
  obtain ⟨p, q, hA0, hV, rfl, hfz, hnd⟩ := hW
  have hA : DataW.TrodAll enc Tryd.prog W 0 (fun _ => true) true Tryd.f4.params.toList args.toList ds p := hA0
  rw [Tryd.params4] at hA hval
  obtain ⟨v0, vs0, d0, ds0, p0, q0, hargs, rfl, rfl, h0, r0⟩ := trodAll_cons hA
  obtain ⟨rfl, rfl, rfl⟩ := trodAll_nil r0
  obtain rfl : args = #[v0] := by cases args; simp_all
  obtain ⟨a0, len0, cap0, rfl⟩ := okWide_slice Tryd.underlying39 (hval 0 39 v0 rfl rfl)
  obtain ⟨u0, k0⟩ := h0
  obtain ⟨x0, hx0, hb0⟩ := opens_changes _ _ _ _ _ _ _ _ _ _ k0
  refine (law_gitLines x0 _ W hx0 m hm).mono fun e W' he => ?_
  obtain ⟨he, hc⟩ := he
  subst he
  exact ⟨_, rfl, post_law hW' rfl rfl Tryd.underlying4 rfl laidOut (by decide +kernel) hc⟩

theorem reads (os : Os) {H : Type} (enc : TypeId × Value → H) : ∃ places, DataW.whole enc Tryd.prog ((laidWorldG os).forCall (fun _ _ => 0) ⟨#[], #[.slice none 0 0], []⟩).memory Tryd.f4.params.toList Rows.gitLinesSpec.vars false (#[.slice none 0 0] : Array Value).toList 8 = some ([.nil], [], places) :=
  ⟨[], by kernel_rfl⟩
set_option maxRecDepth 100000 in
theorem liftedUpto (os : Os) (started : os.Started) (H : Type) (enc : TypeId × Value → H) (F : Stop.Interp) :
    ReturnsInHanded {} Tryd.checked os 4 .any ((Rows.OpenSpec.upto Rows.gitLinesSpec).preRow enc Tryd.prog Tryd.f4 Rows.gitLinesUptoRow.domain false Rows.gitLinesUptoRow.laid) (((Rows.OpenSpec.upto Rows.gitLinesSpec).at F).post enc Tryd.prog Tryd.f4 false true false false) := by
  obtain ⟨places, hx⟩ := reads os enc
  refine returnsInHanded_of_row (C := Tryd.checked) (s := Rows.OpenSpec.upto Rows.gitLinesSpec) own started (by kernel_rfl) Tryd.func4
    (witness_row_at (enc := enc) (C := Tryd.checked) false (laidWorldG os) #[.slice none 0 0] rfl (by kernel_rfl) (by kernel_rfl) (by kernel_rfl)
      (OpenSpec.preRow_of_cond 8 hx (by kernel_rfl) (fun k hk => by cases hk; kernel_rfl) (by kernel_rfl) (laidWorldG_met os _))) ?_
  intro W base args ds gs before hval hW _ hcond _ hL hS _
  exact contract H enc W base args ds gs before hval hW (hcond _ rfl) hL hS

theorem saidUpto : Rows.GitLinesUptoSaid :=
  OpenClaim.holds_of_cond 4 Tryd.f4 rfl rfl rfl rfl rfl rfl rfl ⟨rfl, rfl, rfl, rfl, rfl⟩ rfl rfl rfl rfl rfl (by kernel_rfl) Tryd.func4 (by kernel_rfl)
    (of_decide_eq_true (by kernel_rfl)) (by unfold Func.isWrapper; first | (rw [if_pos (by decide +kernel)]; kernel_rfl) | (rw [if_neg (by decide +kernel)]; exact ⟨rfl, rfl⟩))
    (fun os started H enc _ F => by rw [OpenClaim.pre_eq_preRow]; exact liftedUpto os started H enc F)

theorem plain (f : FuncId) (fn : Func) (hf : Tryd.pinned.checked.prog.funcNamed "handstitch/handstitchlaw3.GitLines" = some f) (hfn : Tryd.pinned.checked.prog.funcs[f]? = some fn) :
    true = Tryd.pinned.checked.prog.looks [] ∧ ∀ (j : Nat) t, fn.params[j]? = some t → Tryd.pinned.checked.prog.wantsStandIn t = false := by
  obtain rfl : f = 4 := Option.some.inj ((show Tryd.prog.funcNamed "handstitch/handstitchlaw3.GitLines" = some 4 by kernel_rfl).symm.trans hf) |>.symm
  obtain rfl : fn = Tryd.f4 := (Option.some.inj (Tryd.func4.symm.trans hfn)).symm
  refine ⟨by kernel_rfl, fun j t ht => ?_⟩
  rw [Tryd.params4] at ht
  have hm := Array.mem_of_getElem? ht
  simp only [List.mem_toArray, List.mem_cons, List.not_mem_nil, or_false] at hm
  clear ht
  repeat' (first | (rcases hm with rfl | hm) | subst hm)
  all_goals exact (show Tryd.prog.wantsStandIn _ = false by kernel_rfl)

theorem cardUpto : Rows.GitLinesUptoCardSaid :=
  Claim7.holds_tied_plain_at .later [] _ _ _ _ saidUpto (fun _ h => by cases h) (by kernel_rfl) (fun _ h => by cases h) gitLinesUpto_row_tie rfl ⟨rfl, rfl⟩ (by kernel_rfl) rfl plain (by kernel_rfl)
end Go.Proofs.YtnekhaacapdmfaaDoor.lawGitLines
