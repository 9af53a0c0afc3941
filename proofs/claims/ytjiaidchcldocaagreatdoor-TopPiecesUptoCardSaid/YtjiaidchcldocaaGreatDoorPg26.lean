/-
  PARTS: THE WALK of slices.Insert of one file: at the end, in place, or in a new row.
-/
import Derived.Test.YtjiaidchcldocaaGreatDoorPg1
import Derived.Test.YtjiaidchcldocaaGreatDoorPg25
import Derived.Test.YtjiaidchcldocaaGreatDoorPg12
import Derived.Lib.Overlaps
set_option linter.unusedVariables false
set_option linter.unusedSimpArgs false
namespace Go.Proofs.YtjiaidchcldocaaGreatDoor
open Go.RowKit

theorem rdv_at {α : Type} [Dat α] {w : World} {O : Nat → Prop} {B : Nat} {E : TypeId} {cs : List Value} {x : α} (hB : w.heap[B]? = some (.cells cs.toArray E (0, 0))) (hO : ¬ O B) (hx : Dat.rd w O cs x) : Rdv w O (.slice (some ⟨B, 0, none⟩) 1 1) [x] := by
  refine ⟨some ⟨B, 0, none⟩, 1, rfl, Nat.le_refl _, by decide, ?_⟩
  intro i y hy
  obtain rfl : i = 0 := by
    cases i with
    | zero => rfl
    | succ i => simp at hy
  simp only [List.getElem?_cons_zero, Option.some.injEq] at hy
  subst hy
  refine ⟨B, 0, cs, rfl, hO, ?_, hx⟩
  intro j u hj
  simp only [World.cell?, hB]
  simpa using hj
def insAt (T : List File) (i : Nat) (f : File) : List File := T.take i ++ f :: T.drop i
set_option maxHeartbeats 2000000 in
set_option maxRecDepth 100000 in
theorem insert_end (T : List File) (f : File) (v fv : Value) (w0 w : World) (B : Nat) (E : TypeId) (hn : OwnN 117 w0 w v T) (hT : T.length ≤ 1000000)
    (hB : w.heap[B]? = some (.cells #[.string f.path, fv] E (0, 0))) (hvB : ∀ k, v.ownBlock = some k → k ≠ B) (hf : Dat.rd w (fun k => Never k ∨ v.ownBlock = some k) [.string f.path, fv] f) :
    Calls Tryz.prog 79 #[v, .int .i64 T.length, .slice (some ⟨B, 0, none⟩) 1 1] w fun e w' => ∃ r, e = .returned r ∧ OwnN 117 w0 w' r (T ++ [f]) := by
  obtain ⟨a, cap, rfl, h1, h2, _⟩ := rdv_slice hn.own.rdv
  unfold maxLen at h2
  obtain ⟨sb, u0, hrunL, u1, _⟩ := slice_gen (P := Tryz.prog) (t := 41) (by kernel_rfl) size_file (hn.own.rdv.sub (O' := Never) (fun _ _ h => h)) T.length T.length (Nat.le_refl _) (Nat.le_refl _)
  have hrunL := fun (wx : World) => hrunL (T.length : Int) wx rfl rfl
  clear u0 u1
  have hu : Rdv w (fun k => Never k ∨ (Value.slice a T.length cap).ownBlock = some k) (.slice (some ⟨B, 0, none⟩) 1 1) [f] := rdv_at hB (fun h => h.elim (fun h => h) (fun h => hvB _ h rfl)) hf
  have hle : T.length + [f].length ≤ 1000000000 := by simp; omega
  go_enter Tryz.func79, Tryz.ntmps79
  go_wp2_with (at_builtin; refine wpList_many2 (by rfl) _ _ 41 (by rfl) elemOk_file (O := Never) (l := T) (m := [f]) (by rfl) (by rfl) hn.own hu (fun _ h => h.elim) hle ?_; intro v1 w1 hw1 hd1 hk1; have hn1 := hn.step hw1 hd1 hk1)
  go_ret
  exact ⟨_, rfl, hn1⟩
theorem min_one {k : Nat} (h : 1 ≤ k) : Nat.min 1 k = 1 := Nat.min_eq_left h
theorem minR {a b : Nat} (h : b ≤ a) : Nat.min a b = b := Nat.min_eq_right h
set_option maxHeartbeats 4000000 in
set_option maxRecDepth 100000 in
theorem insert_room (T : List File) (i : Nat) (f : File) (v fv : Value) (w0 w : World) (B : Nat) (E : TypeId) (hn : OwnN 117 w0 w v T) (hi : i < T.length) (hT : T.length ≤ 1000000)
    (hB : w.heap[B]? = some (.cells #[.string f.path, fv] E (0, 0))) (hvB : ∀ k, v.ownBlock = some k → k ≠ B) (hf : Dat.rd w (fun k => Never k ∨ v.ownBlock = some k) [.string f.path, fv] f) :
    Calls Tryz.prog 79 #[v, .int .i64 i, .slice (some ⟨B, 0, none⟩) 1 1] w fun e w' => ∃ r, e = .returned r ∧ OwnN 117 w0 w' r (insAt T i f) := by
  obtain ⟨g, cap, r, tail, rfl, hg, hsz, hle, hcm, _, hr⟩ := own_rows hn.own (by omega)
  obtain ⟨hrl, hrq⟩ := hr.len
  have hrq : ∀ c ∈ r, c.length = 2 := hrq
  have hsz : (r.flatten ++ tail).length = cap * 2 := hsz
  obtain ⟨inf, hinf, hi2, hiz, hib⟩ := info_file
  have hfl : r.flatten.length = T.length * 2 := by rw [cells_len hrq, hrl]
  have hnew : w0.heap.size ≤ g := hn.new g rfl
  have hgl : g < w.heap.size := (Array.getElem?_eq_some_iff.1 hg).1
  have hBl : B < w.heap.size := (Array.getElem?_eq_some_iff.1 hB).1
  have hgB : g ≠ B := hvB g rfl
  have hRow := Lib.hid hr
  have hf' : Dat.rd w (fun k => Never k ∨ k = g) [.string f.path, fv] f := Dat.keep hf (Chg.refl Never w) (fun _ _ h => h.elim) (fun k _ hk => hk.imp_right (fun e => by rw [e]; rfl))
  unfold maxLen at hcm
  have hd1 : ((r.drop i).flatten).length = (T.length - i) * 2 := by rw [cells_len (fun c hc => hrq c (List.mem_of_mem_drop hc)), List.length_drop, hrl]
  have hone : ∀ u ∈ (r.drop i).flatten, u.oneCell' = true := fun u hu => by
    obtain ⟨c, hc, hu⟩ := List.mem_flatten.1 hu
    exact hr.one c (List.mem_of_mem_drop hc) u hu
  have hone2 : ∀ u ∈ [Value.string f.path, fv], u.oneCell' = true := Dat.one hf
  have hE1 : (r.flatten ++ tail).take (i * 2) = (r.take i).flatten := by
    rw [← cells_take r i hrq, List.take_append_of_le_length (by rw [hfl]; omega)]
  have ht1 : ((r.take i).flatten).length = i * 2 := by rw [cells_len (fun c hc => hrq c (List.mem_of_mem_take hc)), List.length_take, hrl]; omega
  have hsrc1 : ∀ (W : World), W.heap[g]? = w.heap[g]? → ∀ j u, ((r.drop i).flatten)[j]? = some u → W.cell? ((⟨g, i * 2, none⟩ : Addr).add j) = some u := fun W hW j u hu => by
    rw [Addr.add_lit]
    refine row_cell (w := W) (hW.trans hg) ?_
    rw [← cells_drop r i hrq, List.getElem?_drop] at hu
    rw [List.getElem?_append_left (List.getElem?_eq_some_iff.1 hu).1]
    exact hu
  have hsrc2 : ∀ (W : World), W.heap[B]? = w.heap[B]? → ∀ j u, [Value.string f.path, fv][j]? = some u → W.cell? ((⟨B, 0, none⟩ : Addr).add j) = some u := fun W hW j u hu => by
    rw [Addr.add_lit]
    exact row_cell (w := W) (L := [.string f.path, fv]) (hW.trans hB) (by rwa [Nat.zero_add])
  have h1 : ((i : Int) == (T.length : Int)) = false := beq_eq_false_iff_ne.2 (by omega)
  have h1' : ¬ ((i : Int) = (T.length : Int)) := by omega
  have h5 : ((i : Int) + 1).toNat = i + 1 := by omega
  have h6 : ((T.length : Int) + 1).toNat = T.length + 1 := by omega
  have h9 : (0 : Int) ≤ (i : Int) + 1 := by omega
  have h10 : (0 : Int) ≤ (T.length : Int) + 1 := by omega
  have h11 : (i : Int) + 1 ≤ (T.length : Int) + 1 := by omega
  have h12 : (i : Int) ≤ (T.length : Int) + 1 := by omega
  have h13 : (i : Int) ≤ (T.length : Int) := by omega
  have h14 : T.length + 1 - (i + 1) = T.length - i := by omega
  have h15 : i ≤ T.length := by omega
  have h16 : i ≤ T.length + 1 := by omega
  have h17 : i + 1 ≤ T.length + 1 := by omega
  have hw1 : IntKind.i64.wrap ((i : Int) + 1) = (i : Int) + 1 := by rw [IntKind.wrap_i64]; omega
  have hw2 : IntKind.i64.wrap ((T.length : Int) + 1) = (T.length : Int) + 1 := by rw [IntKind.wrap_i64]; omega
  have hw3 : IntKind.i64.wrap ((T.length : Int) + 1 - (i : Int)) = (T.length : Int) + 1 - (i : Int) := by rw [IntKind.wrap_i64]; omega
  have hm1 : Nat.min (T.length + 1 - i) (T.length - i) = T.length - i := minR (by omega)
  by_cases hroom : T.length + 1 ≤ cap
  · have hov : ∀ lb cb, (callFunc 127 #[.slice (some ⟨B, 0, none⟩) 1 1, .slice (some ⟨g, (i + 1) * 2, none⟩) lb cb]).run Tryz.prog w = .ok (.value (.bool false)) w := fun lb cb => by
      rw [run_callFunc_extern Tryz.func127 (by kernel_rfl) (by kernel_rfl) (by kernel_rfl) (e := Extern.SlicesOverlaps.overlaps #[41, 41] #[4]) (by kernel_rfl),
        Lib.run_overlaps_apart w 41 4 117 Tryz.underlying41 2 (fun w => by kernel_rfl) ⟨B, 0, none⟩ ⟨g, (i + 1) * 2, none⟩ 1 1 lb cb (fun e => hgB e.symm) E 117 2 (r.flatten ++ tail).toArray.size (by simp only [World.shape?, hB]; rfl) (by simp only [World.shape?, hg]) (by simp only [List.size_toArray]; omega) (by simp only [World.frozen?, hB]; rfl) (by simp only [World.frozen?, hB]; rfl)]
      rfl
    have hcp1 : ∀ ty dc sc, (Builtin.copy_ #[41, 41] ty #[.slice (some ⟨g, (i + 1) * 2, none⟩) (T.length - i) dc, .slice (some ⟨g, i * 2, none⟩) (T.length + 1 - i) sc]).run Tryz.prog w.drew = _ := fun ty dc sc =>
      run_copy_at (P := Tryz.prog) w.drew (ty := ty) (dCap := dc) (sCap := sc) (cs := (r.drop i).flatten) Tryz.underlying41 hinf (L := r.flatten ++ tail) hg (by rw [hd1, hi2, hm1]) (hsrc1 w.drew rfl) (by rw [hd1, hsz]; omega) hone
    have hE2 : ((r.flatten ++ tail).take ((i + 1) * 2)).length = i * 2 + 2 := by rw [List.length_take, hsz]; omega
    have hE3 : ((r.flatten ++ tail).take ((i + 1) * 2)).take (i * 2) = (r.take i).flatten := by rw [List.take_take, show min (i * 2) ((i + 1) * 2) = i * 2 by omega, hE1]
    have hE4 : ((r.flatten ++ tail).drop ((i + 1) * 2 + ((r.drop i).flatten).length)).length = (cap - (T.length + 1)) * 2 := by rw [List.length_drop, hsz, hd1]; omega
    generalize (r.flatten ++ tail).take ((i + 1) * 2) = P1 at hcp1 hE2 hE3
    generalize (r.flatten ++ tail).drop ((i + 1) * 2 + ((r.drop i).flatten).length) = rest at hcp1 hE4
    have hg1 : (w.drew.setRow g (P1 ++ (r.drop i).flatten ++ rest).toArray).heap[g]? = some (.cells (P1 ++ (r.drop i).flatten ++ rest).toArray 117 (0, 0)) := setRow_heap w.drew g _ _ _ _ hg
    have hB1 : (w.drew.setRow g (P1 ++ (r.drop i).flatten ++ rest).toArray).heap[B]? = w.heap[B]? := setRow_other w.drew g B _ (fun e => hgB e.symm)
    have hc1 := chg_setRow w.drew g (P1 ++ (r.drop i).flatten ++ rest).toArray
    generalize w.drew.setRow g (P1 ++ (r.drop i).flatten ++ rest).toArray = W1 at hcp1 hg1 hc1 hB1
    have hcp2 : ∀ (ty : TypeId) (dc : Nat), (Builtin.copy_ #[41, 41] ty #[.slice (some ⟨g, i * 2, none⟩) (T.length + 1 - i) dc, .slice (some ⟨B, 0, none⟩) 1 1]).run Tryz.prog W1 = _ := fun ty dc =>
      run_copy_at (P := Tryz.prog) W1 (ty := ty) (dCap := dc) (sCap := 1) (cs := [Value.string f.path, fv]) Tryz.underlying41 hinf hg1 (by rw [hi2, min_one (by omega)]; rfl) (hsrc2 W1 hB1) (by rw [List.length_append, List.length_append, hE2]; simp; omega) hone2
    have hL1 : (P1 ++ (r.drop i).flatten ++ rest).take (i * 2) = (r.take i).flatten := by rw [List.append_assoc, List.take_append_of_le_length (by omega), hE3]
    have hL2 : (P1 ++ (r.drop i).flatten ++ rest).drop (i * 2 + [Value.string f.path, fv].length) = (r.drop i).flatten ++ rest := by rw [List.append_assoc]; exact drop_two hE2
    rw [hL1, hL2] at hcp2
    have hg2 : (W1.setRow g ((r.take i).flatten ++ [Value.string f.path, fv] ++ ((r.drop i).flatten ++ rest)).toArray).heap[g]? = some (.cells ((r.take i).flatten ++ [Value.string f.path, fv] ++ ((r.drop i).flatten ++ rest)).toArray 117 (0, 0)) := setRow_heap W1 g _ _ _ _ hg1
    have hc2 := chg_setRow W1 g ((r.take i).flatten ++ [Value.string f.path, fv] ++ ((r.drop i).flatten ++ rest)).toArray
    generalize W1.setRow g ((r.take i).flatten ++ [Value.string f.path, fv] ++ ((r.drop i).flatten ++ rest)).toArray = W2 at hcp2 hg2 hc2
    have hcc : Chg (fun k => k = g) w W2 := ((Chg.refl (fun k => k = g) w).drew.trans hc1).trans hc2
    have hfin : Hid (OwnN 117 w0 W2 (.slice (some ⟨g, 0, none⟩) (T.length + 1) cap) (insAt T i f)) := by
      have hdl : (insAt T i f).length = T.length + 1 := by unfold insAt; rw [List.length_append, List.length_take, List.length_cons, List.length_drop]; omega
      have hrr := ((hRow.out.take i).app (show RdL w (fun k => Never k ∨ k = g) (f :: T.drop i) ([Value.string f.path, fv] :: r.drop i) from ⟨hf', hRow.out.drop i⟩)).keep (O'' := fun k => Never k ∨ k = g) hcc (fun k _ hk => .inr hk) (fun k _ hk => hk)
      have := own_laid (e := 117) (w := W2) (O := Never) (l := insAt T i f) (g := g) (cap := cap) (r := r.take i ++ [Value.string f.path, fv] :: r.drop i) (tail := rest) (by rw [List.flatten_append, List.flatten_cons]; simp only [List.append_assoc] at hg2 ⊢; exact hg2)
        (by rw [List.flatten_append, List.flatten_cons, List.length_append, List.length_append, List.length_append, ht1, hd1, hE4]; show _ = cap * 2; simp; omega) (by omega) (by unfold maxLen; omega) (fun h => h) hrr
      rw [hdl] at this
      exact ⟨this, fun k hk => by injection hk with hk; subst hk; exact hnew, hn.chg.trans' hcc (fun k hk h => by omega)⟩
    have h18 : ¬ cap = i := by omega
    have h19 : ¬ cap = i + 1 := by omega
    have h20 : (T.length : Int) + 1 ≤ cap := by omega
    have h21 : ¬ (cap : Int) < (T.length : Int) + 1 := by omega
    clear hg hsz hr hrq hfl hsrc1 hsrc2 hone hone2 hd1 hE1 hE2 hE3 hE4 hg1 hg2 hc1 hc2 hcc hRow hinf hn hrl ht1 hf hf' hB hB1 hvB hL1 hL2
    go_enter Tryz.func79, Tryz.ntmps79
    go_wp2_with (simp only [hov])
    refine wp_region_held_drew (S := fun _ => True) (by kernel_rfl) trivial (fun hH => ?_)
    refine' tk 0 ?_
    refine' tk 1 ?_
    refine' tk 2 ?_
    refine' tk 3 ?_
    refine' tk 4 ?_
    refine' tk 5 ?_
    refine' tk 6 ?_
    refine' tk 7 ?_
    refine wpAnyH_ready (rs := [8]) (by kernel_rfl) (by simp) ?_
    refine AllReadyH.cons rfl (fun K hK => ?_) AllReadyH.nil
    refine step_copy_eq (by rfl) _ _ 41 41 (by rfl) _ _ (by rfl) (by rfl) (hcp1 _ _ _) ?_
    refine hK.out _ _ trivial (fun _ => ?_)
    clear hK K
    try simp only [Act.put, List.setIfInBounds_toArray, List.set_cons_zero, List.set_cons_succ]
    refine wpAnyH_done (by kernel_rfl) ?_ _
    go_wp2_with (at_builtin; refine wpList_copy_eq _ (by rfl) _ _ 41 41 (by rfl) _ _ (by rfl) (by rfl) (hcp2 _ _) ?_)
    go_ret
    exact ⟨_, rfl, hfin.out⟩
  · obtain rfl : cap = T.length := by omega
    have hold : (Builtin.firstCells inf.size i (.slice (some ⟨g, 0, none⟩) i T.length)).run Tryz.prog w.drew = .ok ((r.take i).flatten).toArray w.drew :=
      run_firstCells_some w.drew inf.size i ⟨g, 0, none⟩ i T.length ((r.take i).flatten) (by rw [ht1, hi2]) (fun j u hu => by
        rw [Addr.add_lit]
        refine row_cell (w := w.drew) hg ?_
        rw [← hE1, List.getElem?_take] at hu
        split at hu
        · rw [Nat.zero_add]; exact hu
        · cases hu)
    have hik : i + (T.length + 1 - i) = T.length + 1 := by omega
    have hkk : (T.length : Int) + 1 - (i : Int) = ((T.length + 1 - i : Nat) : Int) := by omega
    have hrz := fun ty => Lib.run_append_grow_zeros (P := Tryz.prog) w 41 3 ty 117 inf (.agg #[.string ⟨#[]⟩, .slice none 0 0]) .i64 .i64 Tryz.underlying41 Tryz.underlying3 hinf hiz (some ⟨g, 0, none⟩) i T.length _ hold (T.length + 1 - i) (by omega) (by omega) (by omega) (by omega)
        (by have := Nat.mul_le_mul (show T.length + 1 - i ≤ 1000001 by omega) hib; omega) (growslice_fits (by omega) (by rw [hik]; have := Nat.mul_le_mul (show T.length + 1 ≤ 1000001 by omega) hib; omega))
    rw [← hkk] at hrz
    rw [hik] at hrz
    have hGn : T.length + 1 ≤ grownCap w (T.length + 1) T.length 117 := grownCap_ge w _ _ _
    have hGm : grownCap w (T.length + 1) T.length 117 ≤ maxLen := grownCap_le_maxLen w _ _ _ (by unfold maxLen; omega)
    generalize grownCap w (T.length + 1) T.length 117 = Gc at hrz hGn hGm
    have hz1 := size_zeroCells (Value.agg #[.string ⟨#[]⟩, .slice none 0 0]).cells (T.length + 1 - i)
    have hz2 := size_zeroCells (Value.agg #[.string ⟨#[]⟩, .slice none 0 0]).cells (Gc - (T.length + 1))
    have hz3 : (Value.agg #[.string ⟨#[]⟩, .slice none 0 0]).cells.size = 2 := rfl
    rw [hz3] at hz1 hz2
    generalize Builtin.zeroCells (Value.agg #[.string ⟨#[]⟩, .slice none 0 0]).cells (T.length + 1 - i) = Z1 at hrz hz1
    generalize Builtin.zeroCells (Value.agg #[.string ⟨#[]⟩, .slice none 0 0]).cells (Gc - (T.length + 1)) = Z2 at hrz hz2
    have hA : ((r.take i).flatten).toArray ++ Z1 ++ Z2 = ((r.take i).flatten ++ (Z1.toList ++ Z2.toList)).toArray := by simp
    rw [hA] at hrz
    have hZl : (Z1.toList ++ Z2.toList).length = (Gc - i) * 2 := by rw [List.length_append, Array.length_toList, Array.length_toList, hz1, hz2]; omega
    generalize Z1.toList ++ Z2.toList = ZL at hrz hZl
    generalize hG0 : w.heap.size = G0 at hrz
    have hg0 : (w.drew.alloc (.cells ((r.take i).flatten ++ ZL).toArray 117)).heap[G0]? = some (.cells ((r.take i).flatten ++ ZL).toArray 117 (0, 0)) := by rw [← hG0]; exact heap_alloc_new w.drew _
    have hc0 : Chg Never w (w.drew.alloc (.cells ((r.take i).flatten ++ ZL).toArray 117)) := (Chg.refl Never w).drew.alloc _
    generalize w.drew.alloc (.cells ((r.take i).flatten ++ ZL).toArray 117) = W1 at hrz hg0 hc0
    have hcp1 : ∀ (ty : TypeId) (dc : Nat), (Builtin.copy_ #[41, 41] ty #[.slice (some ⟨G0, i * 2, none⟩) (T.length + 1 - i) dc, .slice (some ⟨B, 0, none⟩) 1 1]).run Tryz.prog W1 = _ := fun ty dc =>
      run_copy_at (P := Tryz.prog) W1 (ty := ty) (dCap := dc) (sCap := 1) (cs := [Value.string f.path, fv]) Tryz.underlying41 hinf hg0 (by rw [hi2, min_one (by omega)]; rfl) (hsrc2 W1 (hc0.block B hBl (fun h => h))) (by rw [List.length_append, ht1, hZl]; simp; omega) hone2
    have hL1 : ((r.take i).flatten ++ ZL).take (i * 2) = (r.take i).flatten := take_two ht1
    have hL2 : (((r.take i).flatten ++ ZL).drop (i * 2 + [Value.string f.path, fv].length)).length = (Gc - (i + 1)) * 2 := by rw [List.length_drop, List.length_append, ht1, hZl]; simp; omega
    rw [hL1] at hcp1
    generalize ((r.take i).flatten ++ ZL).drop (i * 2 + [Value.string f.path, fv].length) = R1 at hcp1 hL2
    have hg1 : (W1.setRow G0 ((r.take i).flatten ++ [Value.string f.path, fv] ++ R1).toArray).heap[G0]? = some (.cells ((r.take i).flatten ++ [Value.string f.path, fv] ++ R1).toArray 117 (0, 0)) := setRow_heap W1 G0 _ _ _ _ hg0
    have hc1 := chg_setRow W1 G0 ((r.take i).flatten ++ [Value.string f.path, fv] ++ R1).toArray
    have hgg1 : (W1.setRow G0 ((r.take i).flatten ++ [Value.string f.path, fv] ++ R1).toArray).heap[g]? = w.heap[g]? := (setRow_other W1 G0 g _ (by omega)).trans (hc0.block g hgl (fun h => h))
    generalize W1.setRow G0 ((r.take i).flatten ++ [Value.string f.path, fv] ++ R1).toArray = W2 at hcp1 hg1 hc1 hgg1
    have hcp2 : ∀ ty dc sc, (Builtin.copy_ #[41, 41] ty #[.slice (some ⟨G0, (i + 1) * 2, none⟩) (T.length - i) dc, .slice (some ⟨g, i * 2, none⟩) (T.length - i) sc]).run Tryz.prog W2.drew = _ := fun ty dc sc =>
      run_copy_at (P := Tryz.prog) W2.drew (ty := ty) (dCap := dc) (sCap := sc) (cs := (r.drop i).flatten) Tryz.underlying41 hinf (L := (r.take i).flatten ++ [Value.string f.path, fv] ++ R1) hg1 (by rw [hd1, hi2, minR (by omega)]) (hsrc1 W2.drew hgg1) (by rw [hd1, List.length_append, List.length_append, ht1, hL2]; simp; omega) hone
    have hL3 : ((r.take i).flatten ++ [Value.string f.path, fv]).length = (i + 1) * 2 := by rw [List.length_append, ht1]; simp; omega
    have hL4 : ((r.take i).flatten ++ [Value.string f.path, fv] ++ R1).take ((i + 1) * 2) = (r.take i).flatten ++ [Value.string f.path, fv] := take_two hL3
    have hL5 : (((r.take i).flatten ++ [Value.string f.path, fv] ++ R1).drop ((i + 1) * 2 + ((r.drop i).flatten).length)).length = (Gc - (T.length + 1)) * 2 := by rw [List.length_drop, List.length_append, hL3, hL2, hd1]; omega
    rw [hL4] at hcp2
    generalize ((r.take i).flatten ++ [Value.string f.path, fv] ++ R1).drop ((i + 1) * 2 + ((r.drop i).flatten).length) = rest at hcp2 hL5
    have hg2 : (W2.drew.setRow G0 ((r.take i).flatten ++ [Value.string f.path, fv] ++ (r.drop i).flatten ++ rest).toArray).heap[G0]? = some (.cells ((r.take i).flatten ++ [Value.string f.path, fv] ++ (r.drop i).flatten ++ rest).toArray 117 (0, 0)) := setRow_heap W2.drew G0 _ _ _ _ hg1
    have hc2 := chg_setRow W2.drew G0 ((r.take i).flatten ++ [Value.string f.path, fv] ++ (r.drop i).flatten ++ rest).toArray
    generalize W2.drew.setRow G0 ((r.take i).flatten ++ [Value.string f.path, fv] ++ (r.drop i).flatten ++ rest).toArray = W3 at hcp2 hg2 hc2
    have hcc : Chg (fun k => k = G0) w W3 := (((hc0.mono (fun _ _ h => h.elim)).trans hc1).drew).trans hc2
    have hfin : Hid (OwnN 117 w0 W3 (.slice (some ⟨G0, 0, none⟩) (T.length + 1) Gc) (insAt T i f)) := by
      have hdl : (insAt T i f).length = T.length + 1 := by unfold insAt; rw [List.length_append, List.length_take, List.length_cons, List.length_drop]; omega
      have hrr := ((hRow.out.take i).app (show RdL w (fun k => Never k ∨ k = g) (f :: T.drop i) ([Value.string f.path, fv] :: r.drop i) from ⟨hf', hRow.out.drop i⟩)).keep (O'' := fun k => Never k ∨ k = G0) hcc (fun k hk h => by omega) (fun k hk h => h.elim (fun h => h.elim) (fun h => by omega))
      have := own_laid (e := 117) (w := W3) (O := Never) (l := insAt T i f) (g := G0) (cap := Gc) (r := r.take i ++ [Value.string f.path, fv] :: r.drop i) (tail := rest) (by rw [List.flatten_append, List.flatten_cons]; simp only [List.append_assoc] at hg2 ⊢; exact hg2)
        (by rw [List.flatten_append, List.flatten_cons, List.length_append, List.length_append, List.length_append, ht1, hd1, hL5]; show _ = Gc * 2; simp; omega) (by omega) hGm (fun h => h) hrr
      rw [hdl] at this
      have hws := hn.chg.size
      exact ⟨this, fun k hk => by injection hk with hk; subst hk; show w0.heap.size ≤ G0; omega, hn.chg.trans' hcc (fun k hk h => by omega)⟩
    have h18 : ¬ Gc = i := by omega
    have h19 : ¬ Gc = i + 1 := by omega
    have h22 : ¬ T.length = i := by omega
    have h20 : (T.length : Int) < (T.length : Int) + 1 := by omega
    clear hg hsz hr hrq hfl hsrc1 hsrc2 hone hone2 hd1 hE1 hg0 hg1 hg2 hc0 hc1 hc2 hcc hRow hinf hn hrl ht1 hf hf' hB hvB hL1 hL2 hL3 hL4 hL5 hold hA hgg1 hG0 hkk
    go_enter Tryz.func79, Tryz.ntmps79
    go_wp2_with (first
      | (at_builtin; refine Lib.wpList_append_run _ (by rfl) _ _ _ _ (by rfl) _ _ (by rfl) (by rfl) _ _ (hrz _) ?_)
      | (at_builtin; refine wpList_copy_eq _ (by rfl) _ _ 41 41 (by rfl) _ _ (by rfl) (by rfl) (hcp1 _ _) ?_))
    refine wp_region_held_drew (S := fun _ => True) (by kernel_rfl) trivial (fun hH => ?_)
    refine' tk 0 ?_
    refine' tk 1 ?_
    refine' tk 2 ?_
    refine' tk 3 ?_
    refine' tk 4 ?_
    refine' tk 5 ?_
    refine' tk 6 ?_
    refine' tk 7 ?_
    refine wpAnyH_ready (rs := [8]) (by kernel_rfl) (by simp) ?_
    refine AllReadyH.cons rfl (fun K hK => ?_) AllReadyH.nil
    refine step_copy_eq (by rfl) _ _ 41 41 (by rfl) _ _ (by rfl) (by rfl) (hcp2 _ _ _) ?_
    refine hK.out _ _ trivial (fun _ => ?_)
    clear hK K
    try simp only [Act.put, List.setIfInBounds_toArray, List.set_cons_zero, List.set_cons_succ]
    refine wpAnyH_done (by kernel_rfl) ?_ _
    go_wp2_with fail
    go_ret
    exact ⟨_, rfl, hfin.out⟩
theorem insert_any (T : List File) (i : Nat) (f : File) (v fv : Value) (w0 w : World) (B : Nat) (E : TypeId) (hn : OwnN 117 w0 w v T) (hi : i ≤ T.length) (hT : T.length ≤ 1000000)
    (hB : w.heap[B]? = some (.cells #[.string f.path, fv] E (0, 0))) (hvB : ∀ k, v.ownBlock = some k → k ≠ B) (hf : Dat.rd w (fun k => Never k ∨ v.ownBlock = some k) [.string f.path, fv] f) :
    Calls Tryz.prog 79 #[v, .int .i64 i, .slice (some ⟨B, 0, none⟩) 1 1] w fun e w' => ∃ r, e = .returned r ∧ OwnN 117 w0 w' r (insAt T i f) := by
  rcases Nat.lt_or_ge i T.length with h | h
  · exact insert_room T i f v fv w0 w B E hn h hT hB hvB hf
  · obtain rfl : i = T.length := by omega
    have e : insAt T T.length f = T ++ [f] := by unfold insAt; rw [List.take_length, List.drop_length]
    rw [e]
    exact insert_end T f v fv w0 w B E hn hT hB hvB hf
end Go.Proofs.YtjiaidchcldocaaGreatDoor
