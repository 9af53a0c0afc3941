/-
  PARTS: THE WALK of slices.Insert of one file: at the end, in place, or in a new row.; MORE ON SLICES THAT append HAS BUILT.; THE WALKS of patch.all and of the document's whole.; THE WALK of algebra.Split: a patch in pieces.; THE WALK of series.Open.; WHAT THE DOCUMENT'S WAY BETWEEN TWO TREES NEEDS, in plain Lean: places and lookups, the merged list's length, what Make answers of valid lines.
-/
import Derived.Test.YtjiaidchcldocaaGreatDoorPa11
import Derived.Test.YtjiaidchcldocaaGreatDoorPa7
import Derived.Lib.Overlaps
import Derived.Test.YtjiaidchcldocaaGreatDoorPa2
import Derived.Test.YtjiaidchcldocaaGreatDoorPa6
import Derived.Test.YtjiaidchcldocaaGreatDoorPa8
import Derived.Test.YtjiaidchcldocaaGreatDoorPa10
import Derived.Deep.RegionHeld3
import Derived.BigQuiet
import Derived.Deep.QuietTactic
set_option linter.unusedVariables false
set_option linter.unusedSimpArgs false
namespace Go.Proofs.YtjiaidchcldocaaGreatDoor
open Go.RowKit

theorem rdv_at {α : Type} [Dat α] {w : World} {O : Nat → Prop} {B : Nat} {E : TypeId} {cs : List Value} {x : α} (hB : w.heap[B]? = some (.cells cs.toArray E (0, 0))) (hO : ¬ O B) (hx : Dat.rd w O cs x) : Rdv w O (.slice (some ⟨B, 0, none⟩) 1 1) [x] := by
  refine ⟨some ⟨B, 0, none⟩, 1, rfl, Nat.le_refl _, by decide, ?_⟩
  intro i y hy
  obtain rfl : i = 0 := by
    cases i with
    | zero => rfl
    | succ i => simp at hy
  simp only [List.getElem?_cons_zero, Option.some.injEq] at hy
  subst hy
  refine ⟨B, 0, cs, rfl, hO, ?_, hx⟩
  intro j u hj
  simp only [World.cell?, hB]
  simpa using hj
def insAt (T : List File) (i : Nat) (f : File) : List File := T.take i ++ f :: T.drop i
set_option maxHeartbeats 2000000 in
set_option maxRecDepth 100000 in
theorem insert_end (T : List File) (f : File) (v fv : Value) (w0 w : World) (B : Nat) (E : TypeId) (hn : OwnN 117 w0 w v T) (hT : T.length ≤ 1000000)
    (hB : w.heap[B]? = some (.cells #[.string f.path, fv] E (0, 0))) (hvB : ∀ k, v.ownBlock = some k → k ≠ B) (hf : Dat.rd w (fun k => Never k ∨ v.ownBlock = some k) [.string f.path, fv] f) :
    Calls Tryz.prog 79 #[v, .int .i64 T.length, .slice (some ⟨B, 0, none⟩) 1 1] w fun e w' => ∃ r, e = .returned r ∧ OwnN 117 w0 w' r (T ++ [f]) := by
  obtain ⟨a, cap, rfl, h1, h2, _⟩ := rdv_slice hn.own.rdv
  unfold maxLen at h2
  obtain ⟨sb, u0, hrunL, u1, _⟩ := slice_gen (P := Tryz.prog) (t := 41) (by kernel_rfl) size_file (hn.own.rdv.sub (O' := Never) (fun _ _ h => h)) T.length T.length (Nat.le_refl _) (Nat.le_refl _)
  have hrunL := fun (wx : World) => hrunL (T.length : Int) wx rfl rfl
  clear u0 u1
  have hu : Rdv w (fun k => Never k ∨ (Value.slice a T.length cap).ownBlock = some k) (.slice (some ⟨B, 0, none⟩) 1 1) [f] := rdv_at hB (fun h => h.elim (fun h => h) (fun h => hvB _ h rfl)) hf
  have hle : T.length + [f].length ≤ 1000000000 := by simp; omega
  go_enter Tryz.func79, Tryz.ntmps79
  go_wp2_with (at_builtin; refine wpList_many2 (by rfl) _ _ 41 (by rfl) elemOk_file (O := Never) (l := T) (m := [f]) (by rfl) (by rfl) hn.own hu (fun _ h => h.elim) hle ?_; intro v1 w1 hw1 hd1 hk1; have hn1 := hn.step hw1 hd1 hk1)
  go_ret
  exact ⟨_, rfl, hn1⟩
theorem min_one {k : Nat} (h : 1 ≤ k) : Nat.min 1 k = 1 := Nat.min_eq_left h
theorem minR {a b : Nat} (h : b ≤ a) : Nat.min a b = b := Nat.min_eq_right h
set_option maxHeartbeats 4000000 in
set_option maxRecDepth 100000 in
theorem insert_room (T : List File) (i : Nat) (f : File) (v fv : Value) (w0 w : World) (B : Nat) (E : TypeId) (hn : OwnN 117 w0 w v T) (hi : i < T.length) (hT : T.length ≤ 1000000)
    (hB : w.heap[B]? = some (.cells #[.string f.path, fv] E (0, 0))) (hvB : ∀ k, v.ownBlock = some k → k ≠ B) (hf : Dat.rd w (fun k => Never k ∨ v.ownBlock = some k) [.string f.path, fv] f) :
    Calls Tryz.prog 79 #[v, .int .i64 i, .slice (some ⟨B, 0, none⟩) 1 1] w fun e w' => ∃ r, e = .returned r ∧ OwnN 117 w0 w' r (insAt T i f) := by
  obtain ⟨g, cap, r, tail, rfl, hg, hsz, hle, hcm, _, hr⟩ := own_rows hn.own (by omega)
  obtain ⟨hrl, hrq⟩ := hr.len
  have hrq : ∀ c ∈ r, c.length = 2 := hrq
  have hsz : (r.flatten ++ tail).length = cap * 2 := hsz
  obtain ⟨inf, hinf, hi2, hiz, hib⟩ := info_file
  have hfl : r.flatten.length = T.length * 2 := by rw [cells_len hrq, hrl]
  have hnew : w0.heap.size ≤ g := hn.new g rfl
  have hgl : g < w.heap.size := (Array.getElem?_eq_some_iff.1 hg).1
  have hBl : B < w.heap.size := (Array.getElem?_eq_some_iff.1 hB).1
  have hgB : g ≠ B := hvB g rfl
  have hRow := Lib.hid hr
  have hf' : Dat.rd w (fun k => Never k ∨ k = g) [.string f.path, fv] f := Dat.keep hf (Chg.refl Never w) (fun _ _ h => h.elim) (fun k _ hk => hk.imp_right (fun e => by rw [e]; rfl))
  unfold maxLen at hcm
  have hd1 : ((r.drop i).flatten).length = (T.length - i) * 2 := by rw [cells_len (fun c hc => hrq c (List.mem_of_mem_drop hc)), List.length_drop, hrl]
  have hone : ∀ u ∈ (r.drop i).flatten, u.oneCell' = true := fun u hu => by
    obtain ⟨c, hc, hu⟩ := List.mem_flatten.1 hu
    exact hr.one c (List.mem_of_mem_drop hc) u hu
  have hone2 : ∀ u ∈ [Value.string f.path, fv], u.oneCell' = true := Dat.one hf
  have hE1 : (r.flatten ++ tail).take (i * 2) = (r.take i).flatten := by
    rw [← cells_take r i hrq, List.take_append_of_le_length (by rw [hfl]; omega)]
  have ht1 : ((r.take i).flatten).length = i * 2 := by rw [cells_len (fun c hc => hrq c (List.mem_of_mem_take hc)), List.length_take, hrl]; omega
  have hsrc1 : ∀ (W : World), W.heap[g]? = w.heap[g]? → ∀ j u, ((r.drop i).flatten)[j]? = some u → W.cell? ((⟨g, i * 2, none⟩ : Addr).add j) = some u := fun W hW j u hu => by
    rw [Addr.add_lit]
    refine row_cell (w := W) (hW.trans hg) ?_
    rw [← cells_drop r i hrq, List.getElem?_drop] at hu
    rw [List.getElem?_append_left (List.getElem?_eq_some_iff.1 hu).1]
    exact hu
  have hsrc2 : ∀ (W : World), W.heap[B]? = w.heap[B]? → ∀ j u, [Value.string f.path, fv][j]? = some u → W.cell? ((⟨B, 0, none⟩ : Addr).add j) = some u := fun W hW j u hu => by
    rw [Addr.add_lit]
    exact row_cell (w := W) (L := [.string f.path, fv]) (hW.trans hB) (by rwa [Nat.zero_add])
  have h1 : ((i : Int) == (T.length : Int)) = false := beq_eq_false_iff_ne.2 (by omega)
  have h1' : ¬ ((i : Int) = (T.length : Int)) := by omega
  have h5 : ((i : Int) + 1).toNat = i + 1 := by omega
  have h6 : ((T.length : Int) + 1).toNat = T.length + 1 := by omega
  have h9 : (0 : Int) ≤ (i : Int) + 1 := by omega
  have h10 : (0 : Int) ≤ (T.length : Int) + 1 := by omega
  have h11 : (i : Int) + 1 ≤ (T.length : Int) + 1 := by omega
  have h12 : (i : Int) ≤ (T.length : Int) + 1 := by omega
  have h13 : (i : Int) ≤ (T.length : Int) := by omega
  have h14 : T.length + 1 - (i + 1) = T.length - i := by omega
  have h15 : i ≤ T.length := by omega
  have h16 : i ≤ T.length + 1 := by omega
  have h17 : i + 1 ≤ T.length + 1 := by omega
  have hw1 : IntKind.i64.wrap ((i : Int) + 1) = (i : Int) + 1 := by rw [IntKind.wrap_i64]; omega
  have hw2 : IntKind.i64.wrap ((T.length : Int) + 1) = (T.length : Int) + 1 := by rw [IntKind.wrap_i64]; omega
  have hw3 : IntKind.i64.wrap ((T.length : Int) + 1 - (i : Int)) = (T.length : Int) + 1 - (i : Int) := by rw [IntKind.wrap_i64]; omega
  have hm1 : Nat.min (T.length + 1 - i) (T.length - i) = T.length - i := minR (by omega)
  by_cases hroom : T.length + 1 ≤ cap
  · have hov : ∀ lb cb, (callFunc 127 #[.slice (some ⟨B, 0, none⟩) 1 1, .slice (some ⟨g, (i + 1) * 2, none⟩) lb cb]).run Tryz.prog w = .ok (.value (.bool false)) w := fun lb cb => by
      rw [run_callFunc_extern Tryz.func127 (by kernel_rfl) (by kernel_rfl) (by kernel_rfl) (e := Extern.SlicesOverlaps.overlaps #[41, 41] #[4]) (by kernel_rfl),
        Lib.run_overlaps_apart w 41 4 117 Tryz.underlying41 2 (fun w => by kernel_rfl) ⟨B, 0, none⟩ ⟨g, (i + 1) * 2, none⟩ 1 1 lb cb (fun e => hgB e.symm) E 117 2 (r.flatten ++ tail).toArray.size (by simp only [World.shape?, hB]; rfl) (by simp only [World.shape?, hg]) (by simp only [List.size_toArray]; omega) (by simp only [World.frozen?, hB]; rfl) (by simp only [World.frozen?, hB]; rfl)]
      rfl
    have hcp1 : ∀ ty dc sc, (Builtin.copy_ #[41, 41] ty #[.slice (some ⟨g, (i + 1) * 2, none⟩) (T.length - i) dc, .slice (some ⟨g, i * 2, none⟩) (T.length + 1 - i) sc]).run Tryz.prog w.drew = _ := fun ty dc sc =>
      run_copy_at (P := Tryz.prog) w.drew (ty := ty) (dCap := dc) (sCap := sc) (cs := (r.drop i).flatten) Tryz.underlying41 hinf (L := r.flatten ++ tail) hg (by rw [hd1, hi2, hm1]) (hsrc1 w.drew rfl) (by rw [hd1, hsz]; omega) hone
    have hE2 : ((r.flatten ++ tail).take ((i + 1) * 2)).length = i * 2 + 2 := by rw [List.length_take, hsz]; omega
    have hE3 : ((r.flatten ++ tail).take ((i + 1) * 2)).take (i * 2) = (r.take i).flatten := by rw [List.take_take, show min (i * 2) ((i + 1) * 2) = i * 2 by omega, hE1]
    have hE4 : ((r.flatten ++ tail).drop ((i + 1) * 2 + ((r.drop i).flatten).length)).length = (cap - (T.length + 1)) * 2 := by rw [List.length_drop, hsz, hd1]; omega
    generalize (r.flatten ++ tail).take ((i + 1) * 2) = P1 at hcp1 hE2 hE3
    generalize (r.flatten ++ tail).drop ((i + 1) * 2 + ((r.drop i).flatten).length) = rest at hcp1 hE4
    have hg1 : (w.drew.setRow g (P1 ++ (r.drop i).flatten ++ rest).toArray).heap[g]? = some (.cells (P1 ++ (r.drop i).flatten ++ rest).toArray 117 (0, 0)) := setRow_heap w.drew g _ _ _ _ hg
    have hB1 : (w.drew.setRow g (P1 ++ (r.drop i).flatten ++ rest).toArray).heap[B]? = w.heap[B]? := setRow_other w.drew g B _ (fun e => hgB e.symm)
    have hc1 := chg_setRow w.drew g (P1 ++ (r.drop i).flatten ++ rest).toArray
    generalize w.drew.setRow g (P1 ++ (r.drop i).flatten ++ rest).toArray = W1 at hcp1 hg1 hc1 hB1
    have hcp2 : ∀ (ty : TypeId) (dc : Nat), (Builtin.copy_ #[41, 41] ty #[.slice (some ⟨g, i * 2, none⟩) (T.length + 1 - i) dc, .slice (some ⟨B, 0, none⟩) 1 1]).run Tryz.prog W1 = _ := fun ty dc =>
      run_copy_at (P := Tryz.prog) W1 (ty := ty) (dCap := dc) (sCap := 1) (cs := [Value.string f.path, fv]) Tryz.underlying41 hinf hg1 (by rw [hi2, min_one (by omega)]; rfl) (hsrc2 W1 hB1) (by rw [List.length_append, List.length_append, hE2]; simp; omega) hone2
    have hL1 : (P1 ++ (r.drop i).flatten ++ rest).take (i * 2) = (r.take i).flatten := by rw [List.append_assoc, List.take_append_of_le_length (by omega), hE3]
    have hL2 : (P1 ++ (r.drop i).flatten ++ rest).drop (i * 2 + [Value.string f.path, fv].length) = (r.drop i).flatten ++ rest := by rw [List.append_assoc]; exact drop_two hE2
    rw [hL1, hL2] at hcp2
    have hg2 : (W1.setRow g ((r.take i).flatten ++ [Value.string f.path, fv] ++ ((r.drop i).flatten ++ rest)).toArray).heap[g]? = some (.cells ((r.take i).flatten ++ [Value.string f.path, fv] ++ ((r.drop i).flatten ++ rest)).toArray 117 (0, 0)) := setRow_heap W1 g _ _ _ _ hg1
    have hc2 := chg_setRow W1 g ((r.take i).flatten ++ [Value.string f.path, fv] ++ ((r.drop i).flatten ++ rest)).toArray
    generalize W1.setRow g ((r.take i).flatten ++ [Value.string f.path, fv] ++ ((r.drop i).flatten ++ rest)).toArray = W2 at hcp2 hg2 hc2
    have hcc : Chg (fun k => k = g) w W2 := ((Chg.refl (fun k => k = g) w).drew.trans hc1).trans hc2
    have hfin : Hid (OwnN 117 w0 W2 (.slice (some ⟨g, 0, none⟩) (T.length + 1) cap) (insAt T i f)) := by
      have hdl : (insAt T i f).length = T.length + 1 := by unfold insAt; rw [List.length_append, List.length_take, List.length_cons, List.length_drop]; omega
      have hrr := ((hRow.out.take i).app (show RdL w (fun k => Never k ∨ k = g) (f :: T.drop i) ([Value.string f.path, fv] :: r.drop i) from ⟨hf', hRow.out.drop i⟩)).keep (O'' := fun k => Never k ∨ k = g) hcc (fun k _ hk => .inr hk) (fun k _ hk => hk)
      have := own_laid (e := 117) (w := W2) (O := Never) (l := insAt T i f) (g := g) (cap := cap) (r := r.take i ++ [Value.string f.path, fv] :: r.drop i) (tail := rest) (by rw [List.flatten_append, List.flatten_cons]; simp only [List.append_assoc] at hg2 ⊢; exact hg2)
        (by rw [List.flatten_append, List.flatten_cons, List.length_append, List.length_append, List.length_append, ht1, hd1, hE4]; show _ = cap * 2; simp; omega) (by omega) (by unfold maxLen; omega) (fun h => h) hrr
      rw [hdl] at this
      exact ⟨this, fun k hk => by injection hk with hk; subst hk; exact hnew, hn.chg.trans' hcc (fun k hk h => by omega)⟩
    have h18 : ¬ cap = i := by omega
    have h19 : ¬ cap = i + 1 := by omega
    have h20 : (T.length : Int) + 1 ≤ cap := by omega
    have h21 : ¬ (cap : Int) < (T.length : Int) + 1 := by omega
    clear hg hsz hr hrq hfl hsrc1 hsrc2 hone hone2 hd1 hE1 hE2 hE3 hE4 hg1 hg2 hc1 hc2 hcc hRow hinf hn hrl ht1 hf hf' hB hB1 hvB hL1 hL2
    go_enter Tryz.func79, Tryz.ntmps79
    go_wp2_with (simp only [hov])
    refine wp_region_held_drew (S := fun _ => True) (by kernel_rfl) trivial (fun hH => ?_)
    refine' wpAnyH_take (i := 0) ?hi0 (by kernel_rfl) (by kernel_rfl) (by kernel_rfl) ?hQ0 (Or.inl ⟨?hw0, ?hy0⟩) (by assumption) ?_
    case hi0 => (simp only [List.getElem?_toArray, List.getElem?_cons_zero]; rfl)
    case hQ0 => exact fun _ _ _ h => h
    case hw0 => rfl
    case hy0 => (intro w' hSw; (try dsimp only at hSw); go_simp; all_goals with_reducible rfl)
    try simp only [Act.put, List.setIfInBounds_toArray, List.set_cons_zero, List.set_cons_succ]
    refine' wpAnyH_take (i := 1) ?hi1 (by kernel_rfl) (by kernel_rfl) (by kernel_rfl) ?hQ1 (Or.inl ⟨?hw1, ?hy1⟩) (by assumption) ?_
    case hi1 => (simp only [List.getElem?_toArray, List.getElem?_cons_succ, List.getElem?_cons_zero]; rfl)
    case hQ1 => exact fun _ _ _ h => h
    case hw1 => rfl
    case hy1 => (intro w' hSw; (try dsimp only at hSw); go_simp; all_goals with_reducible rfl)
    try simp only [Act.put, List.setIfInBounds_toArray, List.set_cons_zero, List.set_cons_succ]
    refine' wpAnyH_take (i := 2) ?hi2 (by kernel_rfl) (by kernel_rfl) (by kernel_rfl) ?hQ2 (Or.inl ⟨?hw2, ?hy2⟩) (by assumption) ?_
    case hi2 => (simp only [List.getElem?_toArray, List.getElem?_cons_succ, List.getElem?_cons_zero]; rfl)
    case hQ2 => exact fun _ _ _ h => h
    case hw2 => rfl
    case hy2 => (intro w' hSw; (try dsimp only at hSw); go_simp; all_goals with_reducible rfl)
    try simp only [Act.put, List.setIfInBounds_toArray, List.set_cons_zero, List.set_cons_succ]
    refine' wpAnyH_take (i := 3) ?hi3 (by kernel_rfl) (by kernel_rfl) (by kernel_rfl) ?hQ3 (Or.inl ⟨?hw3, ?hy3⟩) (by assumption) ?_
    case hi3 => (simp only [List.getElem?_toArray, List.getElem?_cons_succ, List.getElem?_cons_zero]; rfl)
    case hQ3 => exact fun _ _ _ h => h
    case hw3 => rfl
    case hy3 => (intro w' hSw; (try dsimp only at hSw); go_simp; all_goals with_reducible rfl)
    try simp only [Act.put, List.setIfInBounds_toArray, List.set_cons_zero, List.set_cons_succ]
    refine' wpAnyH_take (i := 4) ?hi4 (by kernel_rfl) (by kernel_rfl) (by kernel_rfl) ?hQ4 (Or.inl ⟨?hw4, ?hy4⟩) (by assumption) ?_
    case hi4 => (simp only [List.getElem?_toArray, List.getElem?_cons_succ, List.getElem?_cons_zero]; rfl)
    case hQ4 => exact fun _ _ _ h => h
    case hw4 => rfl
    case hy4 => (intro w' hSw; (try dsimp only at hSw); go_simp; all_goals with_reducible rfl)
    try simp only [Act.put, List.setIfInBounds_toArray, List.set_cons_zero, List.set_cons_succ]
    refine' wpAnyH_take (i := 5) ?hi5 (by kernel_rfl) (by kernel_rfl) (by kernel_rfl) ?hQ5 (Or.inl ⟨?hw5, ?hy5⟩) (by assumption) ?_
    case hi5 => (simp only [List.getElem?_toArray, List.getElem?_cons_succ, List.getElem?_cons_zero]; rfl)
    case hQ5 => exact fun _ _ _ h => h
    case hw5 => rfl
    case hy5 => (intro w' hSw; (try dsimp only at hSw); go_simp; all_goals with_reducible rfl)
    try simp only [Act.put, List.setIfInBounds_toArray, List.set_cons_zero, List.set_cons_succ]
    refine' wpAnyH_take (i := 6) ?hi6 (by kernel_rfl) (by kernel_rfl) (by kernel_rfl) ?hQ6 (Or.inl ⟨?hw6, ?hy6⟩) (by assumption) ?_
    case hi6 => (simp only [List.getElem?_toArray, List.getElem?_cons_succ, List.getElem?_cons_zero]; rfl)
    case hQ6 => exact fun _ _ _ h => h
    case hw6 => rfl
    case hy6 => (intro w' hSw; (try dsimp only at hSw); go_simp; all_goals with_reducible rfl)
    try simp only [Act.put, List.setIfInBounds_toArray, List.set_cons_zero, List.set_cons_succ]
    refine' wpAnyH_take (i := 7) ?hi7 (by kernel_rfl) (by kernel_rfl) (by kernel_rfl) ?hQ7 (Or.inl ⟨?hw7, ?hy7⟩) (by assumption) ?_
    case hi7 => (simp only [List.getElem?_toArray, List.getElem?_cons_succ, List.getElem?_cons_zero]; rfl)
    case hQ7 => exact fun _ _ _ h => h
    case hw7 => rfl
    case hy7 => (intro w' hSw; (try dsimp only at hSw); go_simp; all_goals with_reducible rfl)
    try simp only [Act.put, List.setIfInBounds_toArray, List.set_cons_zero, List.set_cons_succ]
    refine wpAnyH_ready (rs := [8]) (by kernel_rfl) (by simp) ?_
    refine AllReadyH.cons rfl (fun K hK => ?_) AllReadyH.nil
    refine step_copy_eq (by rfl) _ _ 41 41 (by rfl) _ _ (by rfl) (by rfl) (hcp1 _ _ _) ?_
    refine hK.out _ _ trivial (fun _ => ?_)
    clear hK K
    try simp only [Act.put, List.setIfInBounds_toArray, List.set_cons_zero, List.set_cons_succ]
    refine wpAnyH_done (by kernel_rfl) ?_ _
    go_wp2_with (at_builtin; refine wpList_copy_eq _ (by rfl) _ _ 41 41 (by rfl) _ _ (by rfl) (by rfl) (hcp2 _ _) ?_)
    go_ret
    exact ⟨_, rfl, hfin.out⟩
  · obtain rfl : cap = T.length := by omega
    have hold : (Builtin.firstCells inf.size i (.slice (some ⟨g, 0, none⟩) i T.length)).run Tryz.prog w.drew = .ok ((r.take i).flatten).toArray w.drew :=
      run_firstCells_some w.drew inf.size i ⟨g, 0, none⟩ i T.length ((r.take i).flatten) (by rw [ht1, hi2]) (fun j u hu => by
        rw [Addr.add_lit]
        refine row_cell (w := w.drew) hg ?_
        rw [← hE1, List.getElem?_take] at hu
        split at hu
        · rw [Nat.zero_add]; exact hu
        · cases hu)
    have hik : i + (T.length + 1 - i) = T.length + 1 := by omega
    have hkk : (T.length : Int) + 1 - (i : Int) = ((T.length + 1 - i : Nat) : Int) := by omega
    have hrz := fun ty => Lib.run_append_grow_zeros (P := Tryz.prog) w 41 3 ty 117 inf (.agg #[.string ⟨#[]⟩, .slice none 0 0]) .i64 .i64 Tryz.underlying41 Tryz.underlying3 hinf hiz (some ⟨g, 0, none⟩) i T.length _ hold (T.length + 1 - i) (by omega) (by omega) (by omega) (by omega)
        (by have := Nat.mul_le_mul (show T.length + 1 - i ≤ 1000001 by omega) hib; omega) (growslice_fits (by omega) (by rw [hik]; have := Nat.mul_le_mul (show T.length + 1 ≤ 1000001 by omega) hib; omega))
    rw [← hkk] at hrz
    rw [hik] at hrz
    have hGn : T.length + 1 ≤ grownCap w (T.length + 1) T.length 117 := grownCap_ge w _ _ _
    have hGm : grownCap w (T.length + 1) T.length 117 ≤ maxLen := grownCap_le_maxLen w _ _ _ (by unfold maxLen; omega)
    generalize grownCap w (T.length + 1) T.length 117 = Gc at hrz hGn hGm
    have hz1 := size_zeroCells (Value.agg #[.string ⟨#[]⟩, .slice none 0 0]).cells (T.length + 1 - i)
    have hz2 := size_zeroCells (Value.agg #[.string ⟨#[]⟩, .slice none 0 0]).cells (Gc - (T.length + 1))
    have hz3 : (Value.agg #[.string ⟨#[]⟩, .slice none 0 0]).cells.size = 2 := rfl
    rw [hz3] at hz1 hz2
    generalize Builtin.zeroCells (Value.agg #[.string ⟨#[]⟩, .slice none 0 0]).cells (T.length + 1 - i) = Z1 at hrz hz1
    generalize Builtin.zeroCells (Value.agg #[.string ⟨#[]⟩, .slice none 0 0]).cells (Gc - (T.length + 1)) = Z2 at hrz hz2
    have hA : ((r.take i).flatten).toArray ++ Z1 ++ Z2 = ((r.take i).flatten ++ (Z1.toList ++ Z2.toList)).toArray := by simp
    rw [hA] at hrz
    have hZl : (Z1.toList ++ Z2.toList).length = (Gc - i) * 2 := by rw [List.length_append, Array.length_toList, Array.length_toList, hz1, hz2]; omega
    generalize Z1.toList ++ Z2.toList = ZL at hrz hZl
    generalize hG0 : w.heap.size = G0 at hrz
    have hg0 : (w.drew.alloc (.cells ((r.take i).flatten ++ ZL).toArray 117)).heap[G0]? = some (.cells ((r.take i).flatten ++ ZL).toArray 117 (0, 0)) := by rw [← hG0]; exact heap_alloc_new w.drew _
    have hc0 : Chg Never w (w.drew.alloc (.cells ((r.take i).flatten ++ ZL).toArray 117)) := (Chg.refl Never w).drew.alloc _
    generalize w.drew.alloc (.cells ((r.take i).flatten ++ ZL).toArray 117) = W1 at hrz hg0 hc0
    have hcp1 : ∀ (ty : TypeId) (dc : Nat), (Builtin.copy_ #[41, 41] ty #[.slice (some ⟨G0, i * 2, none⟩) (T.length + 1 - i) dc, .slice (some ⟨B, 0, none⟩) 1 1]).run Tryz.prog W1 = _ := fun ty dc =>
      run_copy_at (P := Tryz.prog) W1 (ty := ty) (dCap := dc) (sCap := 1) (cs := [Value.string f.path, fv]) Tryz.underlying41 hinf hg0 (by rw [hi2, min_one (by omega)]; rfl) (hsrc2 W1 (hc0.block B hBl (fun h => h))) (by rw [List.length_append, ht1, hZl]; simp; omega) hone2
    have hL1 : ((r.take i).flatten ++ ZL).take (i * 2) = (r.take i).flatten := take_two ht1
    have hL2 : (((r.take i).flatten ++ ZL).drop (i * 2 + [Value.string f.path, fv].length)).length = (Gc - (i + 1)) * 2 := by rw [List.length_drop, List.length_append, ht1, hZl]; simp; omega
    rw [hL1] at hcp1
    generalize ((r.take i).flatten ++ ZL).drop (i * 2 + [Value.string f.path, fv].length) = R1 at hcp1 hL2
    have hg1 : (W1.setRow G0 ((r.take i).flatten ++ [Value.string f.path, fv] ++ R1).toArray).heap[G0]? = some (.cells ((r.take i).flatten ++ [Value.string f.path, fv] ++ R1).toArray 117 (0, 0)) := setRow_heap W1 G0 _ _ _ _ hg0
    have hc1 := chg_setRow W1 G0 ((r.take i).flatten ++ [Value.string f.path, fv] ++ R1).toArray
    have hgg1 : (W1.setRow G0 ((r.take i).flatten ++ [Value.string f.path, fv] ++ R1).toArray).heap[g]? = w.heap[g]? := (setRow_other W1 G0 g _ (by omega)).trans (hc0.block g hgl (fun h => h))
    generalize W1.setRow G0 ((r.take i).flatten ++ [Value.string f.path, fv] ++ R1).toArray = W2 at hcp1 hg1 hc1 hgg1
    have hcp2 : ∀ ty dc sc, (Builtin.copy_ #[41, 41] ty #[.slice (some ⟨G0, (i + 1) * 2, none⟩) (T.length - i) dc, .slice (some ⟨g, i * 2, none⟩) (T.length - i) sc]).run Tryz.prog W2.drew = _ := fun ty dc sc =>
      run_copy_at (P := Tryz.prog) W2.drew (ty := ty) (dCap := dc) (sCap := sc) (cs := (r.drop i).flatten) Tryz.underlying41 hinf (L := (r.take i).flatten ++ [Value.string f.path, fv] ++ R1) hg1 (by rw [hd1, hi2, minR (by omega)]) (hsrc1 W2.drew hgg1) (by rw [hd1, List.length_append, List.length_append, ht1, hL2]; simp; omega) hone
    have hL3 : ((r.take i).flatten ++ [Value.string f.path, fv]).length = (i + 1) * 2 := by rw [List.length_append, ht1]; simp; omega
    have hL4 : ((r.take i).flatten ++ [Value.string f.path, fv] ++ R1).take ((i + 1) * 2) = (r.take i).flatten ++ [Value.string f.path, fv] := take_two hL3
    have hL5 : (((r.take i).flatten ++ [Value.string f.path, fv] ++ R1).drop ((i + 1) * 2 + ((r.drop i).flatten).length)).length = (Gc - (T.length + 1)) * 2 := by rw [List.length_drop, List.length_append, hL3, hL2, hd1]; omega
    rw [hL4] at hcp2
    generalize ((r.take i).flatten ++ [Value.string f.path, fv] ++ R1).drop ((i + 1) * 2 + ((r.drop i).flatten).length) = rest at hcp2 hL5
    have hg2 : (W2.drew.setRow G0 ((r.take i).flatten ++ [Value.string f.path, fv] ++ (r.drop i).flatten ++ rest).toArray).heap[G0]? = some (.cells ((r.take i).flatten ++ [Value.string f.path, fv] ++ (r.drop i).flatten ++ rest).toArray 117 (0, 0)) := setRow_heap W2.drew G0 _ _ _ _ hg1
    have hc2 := chg_setRow W2.drew G0 ((r.take i).flatten ++ [Value.string f.path, fv] ++ (r.drop i).flatten ++ rest).toArray
    generalize W2.drew.setRow G0 ((r.take i).flatten ++ [Value.string f.path, fv] ++ (r.drop i).flatten ++ rest).toArray = W3 at hcp2 hg2 hc2
    have hcc : Chg (fun k => k = G0) w W3 := (((hc0.mono (fun _ _ h => h.elim)).trans hc1).drew).trans hc2
    have hfin : Hid (OwnN 117 w0 W3 (.slice (some ⟨G0, 0, none⟩) (T.length + 1) Gc) (insAt T i f)) := by
      have hdl : (insAt T i f).length = T.length + 1 := by unfold insAt; rw [List.length_append, List.length_take, List.length_cons, List.length_drop]; omega
      have hrr := ((hRow.out.take i).app (show RdL w (fun k => Never k ∨ k = g) (f :: T.drop i) ([Value.string f.path, fv] :: r.drop i) from ⟨hf', hRow.out.drop i⟩)).keep (O'' := fun k => Never k ∨ k = G0) hcc (fun k hk h => by omega) (fun k hk h => h.elim (fun h => h.elim) (fun h => by omega))
      have := own_laid (e := 117) (w := W3) (O := Never) (l := insAt T i f) (g := G0) (cap := Gc) (r := r.take i ++ [Value.string f.path, fv] :: r.drop i) (tail := rest) (by rw [List.flatten_append, List.flatten_cons]; simp only [List.append_assoc] at hg2 ⊢; exact hg2)
        (by rw [List.flatten_append, List.flatten_cons, List.length_append, List.length_append, List.length_append, ht1, hd1, hL5]; show _ = Gc * 2; simp; omega) (by omega) hGm (fun h => h) hrr
      rw [hdl] at this
      have hws := hn.chg.size
      exact ⟨this, fun k hk => by injection hk with hk; subst hk; show w0.heap.size ≤ G0; omega, hn.chg.trans' hcc (fun k hk h => by omega)⟩
    have h18 : ¬ Gc = i := by omega
    have h19 : ¬ Gc = i + 1 := by omega
    have h22 : ¬ T.length = i := by omega
    have h20 : (T.length : Int) < (T.length : Int) + 1 := by omega
    clear hg hsz hr hrq hfl hsrc1 hsrc2 hone hone2 hd1 hE1 hg0 hg1 hg2 hc0 hc1 hc2 hcc hRow hinf hn hrl ht1 hf hf' hB hvB hL1 hL2 hL3 hL4 hL5 hold hA hgg1 hG0 hkk
    go_enter Tryz.func79, Tryz.ntmps79
    go_wp2_with (first
      | (at_builtin; refine Lib.wpList_append_run _ (by rfl) _ _ _ _ (by rfl) _ _ (by rfl) (by rfl) _ _ (hrz _) ?_)
      | (at_builtin; refine wpList_copy_eq _ (by rfl) _ _ 41 41 (by rfl) _ _ (by rfl) (by rfl) (hcp1 _ _) ?_))
    refine wp_region_held_drew (S := fun _ => True) (by kernel_rfl) trivial (fun hH => ?_)
    refine' wpAnyH_take (i := 0) ?hi0 (by kernel_rfl) (by kernel_rfl) (by kernel_rfl) ?hQ0 (Or.inl ⟨?hw0, ?hy0⟩) (by assumption) ?_
    case hi0 => (simp only [List.getElem?_toArray, List.getElem?_cons_zero]; rfl)
    case hQ0 => exact fun _ _ _ h => h
    case hw0 => rfl
    case hy0 => (intro w' hSw; (try dsimp only at hSw); go_simp; all_goals with_reducible rfl)
    try simp only [Act.put, List.setIfInBounds_toArray, List.set_cons_zero, List.set_cons_succ]
    refine' wpAnyH_take (i := 1) ?hi1 (by kernel_rfl) (by kernel_rfl) (by kernel_rfl) ?hQ1 (Or.inl ⟨?hw1, ?hy1⟩) (by assumption) ?_
    case hi1 => (simp only [List.getElem?_toArray, List.getElem?_cons_succ, List.getElem?_cons_zero]; rfl)
    case hQ1 => exact fun _ _ _ h => h
    case hw1 => rfl
    case hy1 => (intro w' hSw; (try dsimp only at hSw); go_simp; all_goals with_reducible rfl)
    try simp only [Act.put, List.setIfInBounds_toArray, List.set_cons_zero, List.set_cons_succ]
    refine' wpAnyH_take (i := 2) ?hi2 (by kernel_rfl) (by kernel_rfl) (by kernel_rfl) ?hQ2 (Or.inl ⟨?hw2, ?hy2⟩) (by assumption) ?_
    case hi2 => (simp only [List.getElem?_toArray, List.getElem?_cons_succ, List.getElem?_cons_zero]; rfl)
    case hQ2 => exact fun _ _ _ h => h
    case hw2 => rfl
    case hy2 => (intro w' hSw; (try dsimp only at hSw); go_simp; all_goals with_reducible rfl)
    try simp only [Act.put, List.setIfInBounds_toArray, List.set_cons_zero, List.set_cons_succ]
    refine' wpAnyH_take (i := 3) ?hi3 (by kernel_rfl) (by kernel_rfl) (by kernel_rfl) ?hQ3 (Or.inl ⟨?hw3, ?hy3⟩) (by assumption) ?_
    case hi3 => (simp only [List.getElem?_toArray, List.getElem?_cons_succ, List.getElem?_cons_zero]; rfl)
    case hQ3 => exact fun _ _ _ h => h
    case hw3 => rfl
    case hy3 => (intro w' hSw; (try dsimp only at hSw); go_simp; all_goals with_reducible rfl)
    try simp only [Act.put, List.setIfInBounds_toArray, List.set_cons_zero, List.set_cons_succ]
    refine' wpAnyH_take (i := 4) ?hi4 (by kernel_rfl) (by kernel_rfl) (by kernel_rfl) ?hQ4 (Or.inl ⟨?hw4, ?hy4⟩) (by assumption) ?_
    case hi4 => (simp only [List.getElem?_toArray, List.getElem?_cons_succ, List.getElem?_cons_zero]; rfl)
    case hQ4 => exact fun _ _ _ h => h
    case hw4 => rfl
    case hy4 => (intro w' hSw; (try dsimp only at hSw); go_simp; all_goals with_reducible rfl)
    try simp only [Act.put, List.setIfInBounds_toArray, List.set_cons_zero, List.set_cons_succ]
    refine' wpAnyH_take (i := 5) ?hi5 (by kernel_rfl) (by kernel_rfl) (by kernel_rfl) ?hQ5 (Or.inl ⟨?hw5, ?hy5⟩) (by assumption) ?_
    case hi5 => (simp only [List.getElem?_toArray, List.getElem?_cons_succ, List.getElem?_cons_zero]; rfl)
    case hQ5 => exact fun _ _ _ h => h
    case hw5 => rfl
    case hy5 => (intro w' hSw; (try dsimp only at hSw); go_simp; all_goals with_reducible rfl)
    try simp only [Act.put, List.setIfInBounds_toArray, List.set_cons_zero, List.set_cons_succ]
    refine' wpAnyH_take (i := 6) ?hi6 (by kernel_rfl) (by kernel_rfl) (by kernel_rfl) ?hQ6 (Or.inl ⟨?hw6, ?hy6⟩) (by assumption) ?_
    case hi6 => (simp only [List.getElem?_toArray, List.getElem?_cons_succ, List.getElem?_cons_zero]; rfl)
    case hQ6 => exact fun _ _ _ h => h
    case hw6 => rfl
    case hy6 => (intro w' hSw; (try dsimp only at hSw); go_simp; all_goals with_reducible rfl)
    try simp only [Act.put, List.setIfInBounds_toArray, List.set_cons_zero, List.set_cons_succ]
    refine' wpAnyH_take (i := 7) ?hi7 (by kernel_rfl) (by kernel_rfl) (by kernel_rfl) ?hQ7 (Or.inl ⟨?hw7, ?hy7⟩) (by assumption) ?_
    case hi7 => (simp only [List.getElem?_toArray, List.getElem?_cons_succ, List.getElem?_cons_zero]; rfl)
    case hQ7 => exact fun _ _ _ h => h
    case hw7 => rfl
    case hy7 => (intro w' hSw; (try dsimp only at hSw); go_simp; all_goals with_reducible rfl)
    try simp only [Act.put, List.setIfInBounds_toArray, List.set_cons_zero, List.set_cons_succ]
    refine wpAnyH_ready (rs := [8]) (by kernel_rfl) (by simp) ?_
    refine AllReadyH.cons rfl (fun K hK => ?_) AllReadyH.nil
    refine step_copy_eq (by rfl) _ _ 41 41 (by rfl) _ _ (by rfl) (by rfl) (hcp2 _ _ _) ?_
    refine hK.out _ _ trivial (fun _ => ?_)
    clear hK K
    try simp only [Act.put, List.setIfInBounds_toArray, List.set_cons_zero, List.set_cons_succ]
    refine wpAnyH_done (by kernel_rfl) ?_ _
    go_wp2_with fail
    go_ret
    exact ⟨_, rfl, hfin.out⟩
theorem insert_any (T : List File) (i : Nat) (f : File) (v fv : Value) (w0 w : World) (B : Nat) (E : TypeId) (hn : OwnN 117 w0 w v T) (hi : i ≤ T.length) (hT : T.length ≤ 1000000)
    (hB : w.heap[B]? = some (.cells #[.string f.path, fv] E (0, 0))) (hvB : ∀ k, v.ownBlock = some k → k ≠ B) (hf : Dat.rd w (fun k => Never k ∨ v.ownBlock = some k) [.string f.path, fv] f) :
    Calls Tryz.prog 79 #[v, .int .i64 i, .slice (some ⟨B, 0, none⟩) 1 1] w fun e w' => ∃ r, e = .returned r ∧ OwnN 117 w0 w' r (insAt T i f) := by
  rcases Nat.lt_or_ge i T.length with h | h
  · exact insert_room T i f v fv w0 w B E hn h hT hB hvB hf
  · obtain rfl : i = T.length := by omega
    have e : insAt T T.length f = T ++ [f] := by unfold insAt; rw [List.take_length, List.drop_length]
    rw [e]
    exact insert_end T f v fv w0 w B E hn hT hB hvB hf
end Go.Proofs.YtjiaidchcldocaaGreatDoor
namespace Go.Proofs.YtjiaidchcldocaaGreatDoor
open Go.RowKit

theorem own_out {α : Type} [Dat α] {e : TypeId} {w : World} {O : Nat → Prop} {v : Value} {l : List α} (h : Own e w O v l) : ∀ k, v.ownBlock = some k → ¬ O k := by
  obtain ⟨_, _, q, _⟩ := h
  exact q
end Go.Proofs.YtjiaidchcldocaaGreatDoor
namespace Go.Proofs.YtjiaidchcldocaaGreatDoor
open Go.RowKit

theorem wholeR_nil (s : Int) : wholeR [] s = [] := if_pos rfl
theorem wholeR_some {l : List ByteArray} (h : l ≠ []) (s : Int) : wholeR l s = [⟨0, 0, l.map fun x => ⟨s, x⟩⟩] := if_neg h
theorem sign_take {l : List ByteArray} {k : Nat} {x : ByteArray} {s : Int} (hx : l[k]? = some x) : (l.take (k + 1)).map (fun x => (⟨s, x⟩ : Mark)) = (l.take k).map (fun x => (⟨s, x⟩ : Mark)) ++ [⟨s, x⟩] := by
  rw [List.take_add_one, hx]; simp
theorem rdv_hunkO {w : World} {O : Nat → Prop} {x : Hunk} {mv : Value} {t : TypeId} (h : Rdv w O mv x.marks) (hO : ¬ O w.heap.size) : Rdv (w.alloc (.cells #[.int .i64 x.old, .int .i64 x.new, mv] t)) O (.slice (some ⟨w.heap.size, 0, none⟩) 1 1) [x] := by
  refine ⟨some ⟨w.heap.size, 0, none⟩, 1, rfl, Nat.le_refl _, by decide, ?_⟩
  intro i y hy
  obtain rfl : i = 0 := by
    cases i with
    | zero => rfl
    | succ i => simp at hy
  simp only [List.getElem?_cons_zero, Option.some.injEq] at hy
  subst hy
  refine ⟨w.heap.size, 0, [.int .i64 x.old, .int .i64 x.new, mv], rfl, hO, ?_, ⟨mv, rfl, h.never ((Chg.refl Never w).alloc _)⟩⟩
  intro j u hj
  simp only [World.cell?, heap_alloc_new]
  simpa using hj
set_option maxHeartbeats 2000000 in
set_option maxRecDepth 100000 in
theorem all_any (l : List ByteArray) (s : Int) (v : Value) (w : World) (h : Rdv w Never v l) (s0 : 0 ≤ s) (s1 : s < 256) (hl : l.length ≤ 1000000) :
    Calls Tryz.prog 64 #[v, .int .u8 s] w fun e w' => ∃ r, e = .returned r ∧ Chg Never w w' ∧ Rdv w' (Old w.heap.size) r (wholeR l s) := by
  obtain ⟨a, cap, rfl, h1, h2, h3⟩ := rdv_slice h
  unfold maxLen at h2
  by_cases hn : l = []
  · subst hn
    rw [wholeR_nil]
    go_enter Tryz.func64, Tryz.ntmps64
    go_wp2_with fail
    go_ret
    exact ⟨_, rfl, Chg.refl _ _, rdv_nil _ _⟩
  · have hpos : 0 < l.length := List.length_pos_iff.2 hn
    have t0 : ((l.length : Int) == 0) = false := by simp; omega
    have HN := Lib.hid hn
    clear hn
    have hB0 := Blk3.new w 129 (.int .i64 0) (.int .i64 0) (.slice none 0 0)
    have hc0 : Chg Never w (w.alloc (.cells #[.int .i64 0, .int .i64 0, .slice none 0 0] 129)) := (Chg.refl Never w).alloc _
    go_enter Tryz.func64, Tryz.ntmps64
    go_wp2_with fail
    generalize w.alloc (.cells #[.int .i64 0, .int .i64 0, .slice none 0 0] 129) = wA at hB0 hc0 ⊢
    generalize hBe : w.heap.size = B at hB0 ⊢
    have hBge : w.heap.size ≤ B := Nat.le_of_eq hBe
    clear hBe
    go_loopw [13] (fun i wr => ∃ (j : Nat) (mv : Value), j ≤ l.length ∧ i = .int .i64 j ∧ Chg Never w wr ∧ Blk3 wr B 129 (.int .i64 0) (.int .i64 0) mv ∧ Own 126 wr (Old (B + 1)) mv ((l.take j).map fun x => (⟨s, x⟩ : Mark))) (fun i _ => l.length - (intOf i).toNat)
    case atStart => exact ⟨0, .slice none 0 0, Nat.zero_le _, rfl, hc0, hB0, own_nil _ _ _⟩
    case round =>
      clear hc0 hB0
      obtain ⟨j, mv, hj, rfl, hc, hB, hmk⟩ := hrel
      obtain ⟨qa, qn, qc, rfl⟩ := own_isSlice hmk
      obtain ⟨f0, f1, f2⟩ := hB.cell
      have hBlt := hB.lt
      by_cases hlt : j < l.length
      · obtain ⟨x, hx⟩ : ∃ x, l[j]? = some x := ⟨l[j], by simp [hlt]⟩
        obtain ⟨b, off, rfl, _, _, c0, hxs⟩ := elems_str h3 hx
        have c0 := hc.cellNever c0
        have HX := Lib.hid hx
        have hOm : ∀ q, Old (B + 1) q → q < wr.heap.size := fun q hq => by unfold Old at hq; omega
        have hml : ((l.take j).map fun x => (⟨s, x⟩ : Mark)).length ≤ 1000000000 := by rw [List.length_map, List.length_take]; omega
        clear hx h3 h
        go_wp2_with (at_builtin; refine wpList_push (by rfl) _ _ 127 (by rfl) elemOk_mark (O := Old (B + 1)) (l := (l.take j).map fun x => (⟨s, x⟩ : Mark)) (y := ⟨s, x⟩) (by rfl) (by rfl) (by simp) hmk (rd_mark _ _ s x s0 s1 hxs) hOm hml ?_; intro mv' w5 hmk5 hc2 _; obtain ⟨sa, sn, sc, rfl⟩ := own_isSlice hmk5; have hB5 := hB.keep hc2 (fun hh => own_out hmk _ hh (Nat.lt_succ_self _)); have hc5 := hc.trans' hc2 (fun i hi hh => own_out hmk i hh (by unfold Old; omega)); obtain ⟨g0, g1, g2⟩ := hB5.cell; have g3 := hB5.free 2; clear hc2)
        have hB6 := hB5.set2 (.slice sa sn sc)
        have hmk6 := hmk5.keep (O' := fun q => q = B) (O'' := Old (B + 1)) ((Chg.refl (fun q => q = B) w5).setCell (p := ⟨B, 2, none⟩) (.inr rfl) (.slice sa sn sc)) (fun q _ hq => by have h : q = B := hq; unfold Old; omega) (fun _ _ hh => hh)
        have hc6 := hc5.setCell (p := ⟨B, 2, none⟩) (.inl hBge) (.slice sa sn sc)
        clear g0 g1 g2 g3 hB5 hmk5 hc5 hB hmk hc
        go_roundw
        case rel => exact ⟨j + 1, .slice sa sn sc, by omega, by go_num, hc6, hB6, by rw [sign_take HX.out]; exact hmk6⟩
        case measure => simp [intOf] <;> omega
      · obtain rfl : j = l.length := by omega
        rw [List.take_length] at hmk
        have hr := hmk.rdv.sub (O' := Old w.heap.size) (fun k _ h => by unfold Old at *; omega)
        have hl1 := rdv_hunkO (x := ⟨0, 0, l.map fun x => ⟨s, x⟩⟩) (t := 129) hr (fun h => absurd hc.size (Nat.not_le_of_lt h))
        go_wp2_with fail
        go_ret
        exact ⟨_, rfl, hc.alloc _, by rw [wholeR_some HN.out]; exact hl1⟩

end Go.Proofs.YtjiaidchcldocaaGreatDoor
namespace Go.Proofs.YtjiaidchcldocaaGreatDoor
open Go.RowKit

def hpieceOf (k : Int) (p : ByteArray) (h : Hunk) : List Change := [⟨k, p, [⟨h.new, h.new, h.marks⟩]⟩]
def piecesC (c : Change) : List (List Change) := if c.hunks = [] then [[c]] else c.hunks.map (hpieceOf c.what c.path)
def pieces (p : List Change) : List (List Change) := p.flatMap piecesC
theorem elemOk_changes : ElemOk Tryz.prog 22 51 1 := elemOk_of Tryz.underlying22 (z := .slice none 0 0) (b := 24) (by kernel_rfl) rfl (by decide)
end Go.Proofs.YtjiaidchcldocaaGreatDoor
namespace Go.Proofs.YtjiaidchcldocaaGreatDoor
open Go.RowKit

theorem openMs_bad {l : List Mail} {k : Int} (h : firstOf pieceF l = k) (h0 : k ≠ 0) : openMs l = ([], [], k) := by
  unfold openMs
  rw [h, if_pos h0]
theorem openMs_ok {l : List Mail} (h : firstOf pieceF l = 0) : openMs l = openPs (l.map pieceOf) := by
  unfold openMs
  rw [h, if_neg (by simp)]
theorem opieces_take {l : List Mail} {i : Nat} {x : Mail} (hx : l[i]? = some x) : (l.take (i + 1)).map pieceOf = (l.take i).map pieceOf ++ [pieceOf x] := by
  rw [List.take_add_one, hx, Option.toList_some, List.map_append]; rfl
def SOpenPost (l : List Mail) (w : World) (e : Ending) (w' : World) : Prop := ∃ r, e = .returned (.tuple #[.string (toB (openMs l).1), r, errV (openMs l).2.2]) ∧ Chg Never w w' ∧ Rdv w' Never r (openMs l).2.1
theorem sopen_no {l : List Mail} {w w' : World} {e : Ending} {k : Int} (hk : openMs l = ([], [], k)) (he : e = .returned (.tuple #[.string ⟨#[]⟩, .slice none 0 0, errV k])) (hc : Chg Never w w') : SOpenPost l w e w' :=
  ⟨_, by rw [hk]; exact he, hc, by rw [hk]; exact rdv_nil _ _⟩
set_option maxHeartbeats 4000000 in
set_option maxRecDepth 100000 in
theorem sopen_any (l : List Mail) (v : Value) (w : World) (h : Rdv w Never v l) (hl9 : l.length ≤ 1000000000) (mx : Int) (hg : Globs w mx) :
    Calls Tryz.prog 12 #[v] w (SOpenPost l w) := by
  obtain ⟨a, cap, rfl, h1, h2, h3⟩ := rdv_slice h
  go_enter Tryz.func12, Tryz.ntmps12
  go_wp2_with fail
  go_loopw [3, 5, 20] (fun pv ov iv wr => pv = .slice none 0 0 ∧ ∃ i : Nat, i ≤ l.length ∧ iv = .int .i64 i ∧ OwnN 97 w wr ov ((l.take i).map pieceOf) ∧ Hid (firstOf pieceF (l.drop i) = firstOf pieceF l) ∧ Hid (∀ x ∈ l.take i, pieceF x = 0)) (fun _ _ iv _ => l.length - (intOf iv).toNat)
  case atStart => exact ⟨rfl, 0, Nat.zero_le _, rfl, ownN_nil _ (Chg.refl _ _), rfl, fun x hx => by cases hx⟩
  case round =>
    obtain ⟨rfl, i, hi, rfl, hn, hf, ha⟩ := hrel
    rename World => wr
    obtain ⟨va, vn, vc, rfl⟩ := own_isSlice hn.own
    by_cases hlt : i < l.length
    · obtain ⟨x, hx⟩ : ∃ x, l[i]? = some x := ⟨l[i], by simp [hlt]⟩
      obtain ⟨b, off, bv, rfl, _, _, c0, c1, c2, c3, z0, z1, z2, hv⟩ := elems_mail h3 hx
      have hcb := hn.chg
      have c0 := hcb.cellNever c0
      have c1 := hcb.cellNever c1
      have c2 := hcb.cellNever c2
      have c3 := hcb.cellNever c3
      obtain ⟨ba, bc, rfl, _, _, _⟩ := rdv_slice hv
      have hA : Chg Never wr (wr.alloc (.cells #[.string x.sender, .string x.subject, .string x.ident, .slice ba x.body.length bc] 31)) := (Chg.refl Never wr).alloc _
      obtain ⟨_, g0, g1, g2, g3⟩ := box1_mail wr 31 x.sender x.subject x.ident (.slice ba x.body.length bc) _ rfl
      have hvA := (hv.never hcb).never hA
      have hnA := hn.never hA
      have HX := Lib.hid hx
      obtain ⟨st1, st2⟩ := firstOf_from hf.out hx
      have HTK := Lib.hid (opieces_take hx)
      have hLl : ((l.take i).map pieceOf).length ≤ 1000000000 := by rw [List.length_map, List.length_take]; omega
      obtain ⟨Lp, hLp⟩ : ∃ Lp, (l.take i).map pieceOf = Lp := ⟨_, rfl⟩
      rw [hLp] at hn hnA HTK hLl
      clear hx h3 h hn hLp
      go_wp2_with fail
      clear c0 c1 c2 c3
      generalize wr.alloc (.cells #[.string x.sender, .string x.subject, .string x.ident, .slice ba x.body.length bc] 31) = wA at hA g0 g1 g2 g3 hvA hnA ⊢
      refine (sread_any x _ _ hvA ⟨z0, z1, z2⟩ mx (hg.never hnA.chg)).mono ?_
      rintro e w5 ⟨t, p, q, pv, L, rfl, hc5, hpv, hok⟩
      have hn5 := hnA.never hc5
      clear g0 g1 g2 g3 hA
      by_cases hz : pieceF x = 0
      · obtain ⟨rfl, rfl, rfl, rfl⟩ := hok hz
        have HS := Lib.hid (st1 hz)
        have HA2 : Hid (∀ y ∈ l.take (i + 1), pieceF y = 0) := fun y hy => by
          rw [List.take_add_one, HX.out, Option.toList_some] at hy
          rcases List.mem_append.1 hy with q | q
          · exact ha.out y q
          · rw [List.mem_singleton.1 q]; exact hz
        have HPO := Lib.hid (pieceOk_of hz)
        generalize pieceOf x = P at hpv HTK HPO ⊢
        rw [hz, errV_zero]
        clear hz st1 st2 hok hf ha
        have hpy := hnA.fresh hpv
        obtain ⟨pa, pc, rfl, _, _, _⟩ := rdv_slice hpv
        obtain ⟨hcB, d0, d1, d2, d3⟩ := box1_part w5 97 (toB P.title) P.at' P.many (.slice pa P.patch.length pc) _ rfl
        have hn6 := hn5.never hcB
        have hy : Dat.rd _ (fun k => Never k ∨ (Value.slice va vn vc).ownBlock = some k) [.string (toB P.title), .int .i64 P.at', .int .i64 P.many, .slice pa P.patch.length pc] P := ⟨_, rfl, HPO.out, hpy.never hcB⟩
        clear hpv hpy hc5 hn5
        go_wp2_with (at_builtin; go_loud (refine wpList_push (by rfl) _ _ 99 (by rfl) elemOk_part (O := Never) (l := Lp) (y := P) (by rfl) (by rfl) (by simp) hn6.own hy (fun _ h => h.elim) hLl ?_; intro v' w7 hown7 hc7 hk7; have hn7 := hn6.step1 hown7 hc7 hk7; clear hown7 hc7 hk7 hy; obtain ⟨oa, on, oc, rfl⟩ := own_isSlice hn7.own))
        clear hn6 d0 d1 d2 d3 hcB
        go_wp2_with fail
        go_roundw
        case rel => exact ⟨rfl, i + 1, by omega, by go_num, by rw [HTK.out]; exact hn7, HS, HA2⟩
        case measure => simp [intOf] <;> omega
      · have HO := Lib.hid (openMs_bad (st2 hz) hz)
        rw [errV_pos hz]
        have HZ := Lib.hid hz
        obtain ⟨pa, pc, rfl, _, _, _⟩ := rdv_slice hpv
        clear hz st1 st2 hok hf ha hpv
        go_wp2_with fail
        go_ret3
        exact sopen_no HO.out (by rw [errV_pos HZ.out]; rfl) ((hn5.chg).alloc _)
    · have hn0 := hn
      rw [List.take_of_length_le (by omega)] at hn0
      have hf' := hf.out
      rw [List.drop_of_length_le (by omega)] at hf'
      have HO := Lib.hid (openMs_ok (l := l) (by rw [← hf']; rfl))
      have HPO : Hid (∀ y ∈ l.map pieceOf, PieceOk y) := fun y hy => by
        obtain ⟨x, hx, rfl⟩ := List.mem_map.1 hy
        exact pieceOk_of (ha.out x (by rw [List.take_of_length_le (by omega)]; exact hx))
      have hpl : (l.map pieceOf).length ≤ 1000000000 := by rw [List.length_map]; exact hl9
      generalize l.map pieceOf = ps at hn0 HO HPO hpl
      have hwr := hn0.chg
      have hrp : Rdv wr Never (.slice va vn vc) ps := hn0.own.rdv
      obtain ⟨pa, pcap, epp, p1, p2, p3⟩ := rdv_slice hrp
      injection epp with epp1 epp2 epp3
      subst epp1; subst epp2; subst epp3
      clear hn hf hf' ha hn0 h3 h
      go_wp2_with fail
      go_loopw [3, 39] (fun pv iv wz => pv = .slice none 0 0 ∧ ∃ k : Nat, k ≤ ps.length ∧ iv = .int .i64 k ∧ Chg Never wr wz ∧ Hid (SameTo ps k)) (fun _ iv _ => ps.length - (intOf iv).toNat)
      case atStart => exact ⟨rfl, 0, Nat.zero_le _, rfl, Chg.refl _ _, same_zero ps⟩
      case round =>
        obtain ⟨rfl, k, hk, rfl, hc, hsm⟩ := hrel
        rename World => wz
        by_cases hkl : k < ps.length
        · obtain ⟨y, hy⟩ : ∃ y, ps[k]? = some y := ⟨ps[k], by simp [hkl]⟩
          obtain ⟨x, hx⟩ : ∃ x, ps[0]? = some x := ⟨ps[0]'(by omega), List.getElem?_eq_getElem (by omega)⟩
          obtain ⟨b, off, yv, rfl, _, _, c0, c1, c2, c3, _, hyv⟩ := elems_part p3 hy
          obtain ⟨b', off', xv, epp, _, _, e0, e1, e2, e3, _, _⟩ := elems_part p3 hx
          injection epp with epp
          injection epp with epp1 epp2 _
          subst epp1; subst epp2
          simp only [Nat.zero_mul, Nat.add_zero] at e0 e1 e2 e3
          obtain ⟨ya, yc, rfl, _, _, _⟩ := rdv_slice hyv
          have c0 := hc.cellNever c0
          have c1 := hc.cellNever c1
          have c2 := hc.cellNever c2
          have c3 := hc.cellNever c3
          have e0 := hc.cellNever e0
          have e2 := hc.cellNever e2
          obtain ⟨hcB, d0, d1, d2, d3⟩ := box1_part wz 97 (toB y.title) y.at' y.many (.slice ya y.patch.length yc) _ rfl
          have e0 := hcB.cellNever e0
          have e2 := hcB.cellNever e2
          have hcz := hc.trans hcB
          have hpos : (0 : Int) < (ps.length : Int) := by omega
          have hposN : 0 < ps.length := by omega
          have HY := Lib.hid hy
          have HX := Lib.hid hx
          clear e1 e3 hy hx hyv
          obtain ⟨Ty, hTy⟩ : ∃ T, toB y.title = T := ⟨_, rfl⟩
          obtain ⟨Tx, hTx⟩ : ∃ T, toB x.title = T := ⟨_, rfl⟩
          have htt : Ty.toList = Tx.toList ↔ y.title = x.title := by rw [← hTy, ← hTx, Lib.toList_data, Lib.toList_data, toB_data, toB_data]
          rw [hTy] at c0 d0 hcB d1 d2 d3 e0 e2 hcz
          rw [hTx] at e0
          by_cases q1 : y.title = x.title
          · have u1 : (Ty.toList == Tx.toList) = true := by rw [htt.2 q1]; simp
            have u2 : (Ty.toList != Tx.toList) = false := by rw [bne, u1]; rfl
            by_cases q2 : y.many = x.many
            · have s1 : (((y.many : Nat) : Int) == ((x.many : Nat) : Int)) = true := by rw [q2]; simp
              have s2 : (((y.many : Nat) : Int) != ((x.many : Nat) : Int)) = false := by rw [bne, s1]; rfl
              have HS2 : Hid (SameTo ps (k + 1)) := same_step hsm.out HY.out (fun z hz => by
                have := HX.out
                rw [hz] at this
                injection this with this
                subst this
                exact ⟨q1, q2⟩)
              clear q1 q2 htt hTy hTx hsm
              go_wp2_with fail
              go_quiet (fail)
              go_wp2_with fail
              go_roundw
              case rel => exact ⟨rfl, k + 1, by omega, by go_num, hcz.drewN _, HS2⟩
              case measure => simp [intOf] <;> omega
            · have HO2 : Hid (openMs l = ([], [], 2)) := by rw [Hid, HO.out]; exact open_shape HX.out HY.out (fun q => q2 q.2)
              have s1 : (((y.many : Nat) : Int) == ((x.many : Nat) : Int)) = false := by rw [beq_eq_false_iff_ne]; omega
              have s2 : (((y.many : Nat) : Int) != ((x.many : Nat) : Int)) = true := by rw [bne, s1]; rfl
              clear q1 q2 htt hTy hTx hsm
              go_wp2_with fail
              go_quiet (fail)
              go_wp2_with fail
              go_ret3
              exact sopen_no HO2.out rfl (hwr.trans (hcz.drewN _))
          · have HO2 : Hid (openMs l = ([], [], 2)) := by rw [Hid, HO.out]; exact open_shape HX.out HY.out (fun q => q1 q.1)
            have u1 : (Ty.toList == Tx.toList) = false := by rw [beq_eq_false_iff_ne]; exact fun q => q1 (htt.1 q)
            have u2 : (Ty.toList != Tx.toList) = true := by rw [bne, u1]; rfl
            clear q1 htt hTy hTx hsm
            go_wp2_with fail
            go_quiet (fail)
            go_wp2_with fail
            go_ret3
            exact sopen_no HO2.out rfl (hwr.trans (hcz.drewN _))
        · obtain rfl : k = ps.length := by omega
          rename World => wz
          have hmm := @run_makeMap Tryz.prog
          have hA6 : Chg Never wz (wz.alloc (.map #[] 0)) := (Chg.refl Never wz).alloc _
          have hm0 := partMap_made wz
          go_wp2_with fail
          clear hmm
          obtain ⟨MB, hMB⟩ : ∃ MB, wz.heap.size = MB := ⟨_, rfl⟩
          have hMBw : wz.heap.size ≤ MB := Nat.le_of_eq hMB
          rw [hMB] at hm0 ⊢
          clear hMB
          go_loopw [3, 64] (fun pv iv wy => pv = .slice none 0 0 ∧ ∃ (k : Nat) (F : Int → Option Value), k ≤ ps.length ∧ iv = .int .i64 k ∧ Chg Never wz wy ∧ PartMap wy MB k F ∧ Hid (Holds wz (ps.take k) F) ∧ Hid (((ps.take k).map (·.at')).Nodup)) (fun _ iv _ => ps.length - (intOf iv).toNat)
          case atStart => exact ⟨rfl, 0, _, Nat.zero_le _, rfl, hA6, hm0, holds_nil _, List.nodup_nil⟩
          case round =>
            clear hm0 hA6
            obtain ⟨rfl, k, F, hk, rfl, hc2, hmap, hH, hnd⟩ := hrel
            rename World => wy
            by_cases hkl : k < ps.length
            · obtain ⟨y, hy⟩ : ∃ y, ps[k]? = some y := ⟨ps[k], by simp [hkl]⟩
              obtain ⟨b, off, yv, rfl, _, _, c0, c1, c2, c3, hyo, hyv⟩ := elems_part p3 hy
              obtain ⟨ya, yc, rfl, _, _, _⟩ := rdv_slice hyv
              have c0 := hc2.cellNever (hc.cellNever c0)
              have c1 := hc2.cellNever (hc.cellNever c1)
              have c2 := hc2.cellNever (hc.cellNever c2)
              have c3 := hc2.cellNever (hc.cellNever c3)
              obtain ⟨hcB, d0, d1, d2, d3⟩ := box1_part wy 97 (toB y.title) y.at' y.many (.slice ya y.patch.length yc) _ rfl
              have hmap1 := hmap.keep hcB (fun h => h)
              have hyI : I64 ((y.at' : Nat) : Int) := by have := hyo.2; unfold I64; omega
              have hlook := hmap1.lookOk hyI
              by_cases hin : y.at' ∈ (ps.take k).map (·.at')
              · have HO3 : Hid (openMs l = ([], [], 6)) := by rw [Hid, HO.out]; exact open_clash hsm.out hy hin
                obtain ⟨z, zv, _, _, hz3, hz4⟩ := hH.out.here hin
                obtain ⟨za, zc, rfl, _, _, _⟩ := rdv_slice hz4
                rw [hz3] at hlook
                replace hlook : (Instr.lookup 102 (.map (some MB)) (.int .i64 y.at') true).run Tryz.prog _ = .ok (.tuple #[.agg #[.string (toB z.title), .int .i64 z.at', .int .i64 z.many, .slice za z.patch.length zc], .bool true]) _ := hlook
                have hcf := (hwr.trans hc).trans (hc2.trans hcB)
                clear hz3 hz4 hin hH hnd hsm hmap hmap1 hyv hy p3 hrp
                go_wp2_with fail
                go_ret3
                exact sopen_no HO3.out rfl (hcf.alloc _)
              · have hFn := hH.out.gone hin
                rw [hFn] at hlook
                replace hlook : (Instr.lookup 102 (.map (some MB)) (.int .i64 y.at') true).run Tryz.prog _ = .ok (.tuple #[.agg #[.string ⟨#[]⟩, .int .i64 0, .int .i64 0, .slice none 0 0], .bool false]) _ := hlook
                obtain ⟨hcB2, _⟩ := box1_part (wy.alloc (.cells #[.string (toB y.title), .int .i64 y.at', .int .i64 y.many, .slice ya y.patch.length yc] 97)) 97 ⟨#[]⟩ 0 0 (.slice none 0 0) _ rfl
                obtain ⟨w7, hrun, hmap7, hc7⟩ := (hmap1.keep hcB2 (fun h => h)).put (by unfold maxLen; omega) hyI (.agg #[.string (toB y.title), .int .i64 y.at', .int .i64 y.many, .slice ya y.patch.length yc]) hFn
                have hcz := (hc2.trans (hcB.trans hcB2)).trans' hc7 (fun x hx hh => by have h : x = MB := hh; omega)
                have HH2 := Lib.hid (hH.out.step hy hin (hyv.never hc))
                have HN2 := Lib.hid (nodup_step hnd.out hy hin)
                have d0 := hcB2.cellNever d0
                have d1 := hcB2.cellNever d1
                have d2 := hcB2.cellNever d2
                have d3 := hcB2.cellNever d3
                clear hFn hin hH hnd hmap hmap1 hyv hy hc7 hcB hcB2
                go_wp2_with fail
                go_roundw
                case rel => exact ⟨rfl, k + 1, _, by omega, by go_num, hcz, hmap7, HH2, HN2⟩
                case measure => simp [intOf] <;> omega
            · obtain rfl : k = ps.length := by omega
              rename World => wy
              have hH1 := hH.out
              have hnd1 := hnd.out
              rw [List.take_length] at hH1 hnd1
              have hH := Lib.hid hH1
              have hnd := Lib.hid hnd1
              clear hH1 hnd1
              have hcf := (hwr.trans hc).trans hc2
              by_cases h0 : ps.length = 0
              · have HO4 : Hid (openMs l = ([], [], 4)) := by
                  rw [Hid, HO.out, List.eq_nil_of_length_eq_zero h0]
                  exact openp_none
                have t0 : ((ps.length : Int) == 0) = true := by rw [h0]; rfl
                have t1 : ((ps.length : Int) != 0) = false := by rw [h0]; rfl
                clear h0 hmap hH hnd p3 hrp
                go_wp2_with fail
                go_quiet (fail)
                go_wp2_with fail
                go_ret3
                exact sopen_no HO4.out rfl (hcf.drewN _)
              · have t0 : ((ps.length : Int) == 0) = false := by rw [beq_eq_false_iff_ne]; omega
                have t1 : ((ps.length : Int) != 0) = true := by rw [bne, t0]; rfl
                have hpos : (0 : Int) < (ps.length : Int) := by omega
                have hposN : 0 < ps.length := by omega
                obtain ⟨x, hx⟩ : ∃ x, ps[0]? = some x := ⟨ps[0]'(by omega), List.getElem?_eq_getElem (by omega)⟩
                obtain ⟨b', off', xv, rfl, _, _, e0, _, e2, _, hxo, _⟩ := elems_part p3 hx
                simp only [Nat.zero_mul, Nat.add_zero] at e0 e2
                have e0 := hc2.cellNever (hc.cellNever e0)
                have e2 := hc2.cellNever (hc.cellNever e2)
                have hx8 : x.many ≤ 8 := hxo.2.2
                have hlen := fun (w' : World) (ty : TypeId) (q : PartMap w' MB ps.length F) => q.len ty
                have hmd := hmap.keep (Chg.refl Never wy).drew (fun h => h)
                have HX := Lib.hid hx
                clear hx h0
                by_cases hlm : ps.length ≤ x.many
                · have HO5 : Hid (openMs l = ([], [], 4)) := by rw [Hid, HO.out]; exact open_few hsm.out hnd.out HX.out hlm
                  have t2 : decide ((ps.length : Int) ≤ ((x.many : Nat) : Int)) = true := decide_eq_true (by omega)
                  go_wp2_with fail
                  refine wp_region_held_drew (S := fun w' => Chg Never wy w' ∧ w'.cell? ⟨b', off' + 2, none⟩ = some (.int .i64 x.many) ∧ w'.cell? ⟨b', off', none⟩ = some (.string (toB x.title)) ∧ (∀ ty, (Builtin.len_ #[102] ty #[.map (some MB)]).run Tryz.prog w' = .ok (.int .i64 ps.length) w')) (by kernel_rfl) ⟨(Chg.refl Never wy).drew, e2, e0, fun ty => hlen _ ty hmd⟩ (fun hH => ?_)
                  refine' wpAnyH_take (i := 0) ?hi0 (by kernel_rfl) (by kernel_rfl) (by kernel_rfl) ?hQ0 (Or.inl ⟨?hw0, ?hy0⟩) (by assumption) ?_
                  case hi0 => (simp only [List.getElem?_toArray, List.getElem?_cons_zero]; rfl)
                  case hQ0 => exact fun _ _ _ h => h
                  case hw0 => rfl
                  case hy0 => (intro w' hSw; (try dsimp only at hSw); go_simp; all_goals with_reducible rfl)
                  try simp only [Act.put, List.setIfInBounds_toArray, List.set_cons_zero, List.set_cons_succ]
                  refine' wpAnyH_take (i := 1) ?hi1 (by kernel_rfl) (by kernel_rfl) (by kernel_rfl) ?hQ1 (Or.inl ⟨?hw1, ?hy1⟩) (by assumption) ?_
                  case hi1 => (simp only [List.getElem?_toArray, List.getElem?_cons_succ, List.getElem?_cons_zero]; rfl)
                  case hQ1 => exact fun _ _ _ h => h
                  case hw1 => rfl
                  case hy1 => (intro w' hSw; (try dsimp only at hSw); go_simp; all_goals with_reducible rfl)
                  try simp only [Act.put, List.setIfInBounds_toArray, List.set_cons_zero, List.set_cons_succ]
                  refine' wpAnyH_take (i := 2) ?hi2 (by kernel_rfl) (by kernel_rfl) (by kernel_rfl) ?hQ2 (Or.inl ⟨?hw2, ?hy2⟩) (by assumption) ?_
                  case hi2 => (simp only [List.getElem?_toArray, List.getElem?_cons_succ, List.getElem?_cons_zero]; rfl)
                  case hQ2 => exact fun _ _ _ h => h
                  case hw2 => rfl
                  case hy2 => (intro w' hSw; (try dsimp only at hSw); go_simp; all_goals with_reducible rfl)
                  try simp only [Act.put, List.setIfInBounds_toArray, List.set_cons_zero, List.set_cons_succ]
                  refine' wpAnyH_take (i := 3) ?hi3 (by kernel_rfl) (by kernel_rfl) (by kernel_rfl) ?hQ3 (Or.inl ⟨?hw3, ?hy3⟩) (by assumption) ?_
                  case hi3 => (simp only [List.getElem?_toArray, List.getElem?_cons_succ, List.getElem?_cons_zero]; rfl)
                  case hQ3 => exact fun _ _ _ h => h
                  case hw3 => rfl
                  case hy3 => (intro w' hSw; (try dsimp only at hSw); go_simp; all_goals with_reducible rfl)
                  try simp only [Act.put, List.setIfInBounds_toArray, List.set_cons_zero, List.set_cons_succ]
                  refine' wpAnyH_take (i := 4) ?hi4 (by kernel_rfl) (by kernel_rfl) (by kernel_rfl) ?hQ4 (Or.inl ⟨?hw4, ?hy4⟩) (by assumption) ?_
                  case hi4 => (simp only [List.getElem?_toArray, List.getElem?_cons_succ, List.getElem?_cons_zero]; rfl)
                  case hQ4 => exact fun _ _ _ h => h
                  case hw4 => rfl
                  case hy4 => (intro w' hSw; (try dsimp only at hSw); go_simp; all_goals with_reducible rfl)
                  try simp only [Act.put, List.setIfInBounds_toArray, List.set_cons_zero, List.set_cons_succ]
                  refine' wpAnyH_take (i := 5) ?hi5 (by kernel_rfl) (by kernel_rfl) (by kernel_rfl) ?hQ5 (Or.inl ⟨?hw5, ?hy5⟩) (by assumption) ?_
                  case hi5 => (simp only [List.getElem?_toArray, List.getElem?_cons_succ, List.getElem?_cons_zero]; rfl)
                  case hQ5 => exact fun _ _ _ h => h
                  case hw5 => rfl
                  case hy5 => (intro w' hSw; (try dsimp only at hSw); go_simp; all_goals with_reducible rfl)
                  try simp only [Act.put, List.setIfInBounds_toArray, List.set_cons_zero, List.set_cons_succ]
                  refine' wpAnyH_take (i := 6) ?hi6 (by kernel_rfl) (by kernel_rfl) (by kernel_rfl) ?hQ6 (Or.inl ⟨?hw6, ?hy6⟩) (by assumption) ?_
                  case hi6 => (simp only [List.getElem?_toArray, List.getElem?_cons_succ, List.getElem?_cons_zero]; rfl)
                  case hQ6 => exact fun _ _ _ h => h
                  case hw6 => rfl
                  case hy6 => (intro w' hSw; (try dsimp only at hSw); go_simp; all_goals with_reducible rfl)
                  try simp only [Act.put, List.setIfInBounds_toArray, List.set_cons_zero, List.set_cons_succ]
                  refine' wpAnyH_take (i := 7) ?hi7 (by kernel_rfl) (by kernel_rfl) (by kernel_rfl) ?hQ7 (Or.inl ⟨?hw7, ?hy7⟩) (by assumption) ?_
                  case hi7 => (simp only [List.getElem?_toArray, List.getElem?_cons_succ, List.getElem?_cons_zero]; rfl)
                  case hQ7 => exact fun _ _ _ h => h
                  case hw7 => rfl
                  case hy7 => (intro w' hSw; (try dsimp only at hSw); go_simp; all_goals with_reducible rfl)
                  try simp only [Act.put, List.setIfInBounds_toArray, List.set_cons_zero, List.set_cons_succ]
                  refine' wpAnyH_take (i := 8) ?hi8 (by kernel_rfl) (by kernel_rfl) (by kernel_rfl) ?hQ8 (Or.inl ⟨?hw8, ?hy8⟩) (by assumption) ?_
                  case hi8 => (simp only [List.getElem?_toArray, List.getElem?_cons_succ, List.getElem?_cons_zero]; rfl)
                  case hQ8 => exact fun _ _ _ h => h
                  case hw8 => rfl
                  case hy8 => (intro w' hSw; (try dsimp only at hSw); go_simp; all_goals with_reducible rfl)
                  try simp only [Act.put, List.setIfInBounds_toArray, List.set_cons_zero, List.set_cons_succ]
                  refine' wpAnyH_take (i := 9) ?hi9 (by kernel_rfl) (by kernel_rfl) (by kernel_rfl) ?hQ9 (Or.inl ⟨?hw9, ?hy9⟩) (by assumption) ?_
                  case hi9 => (simp only [List.getElem?_toArray, List.getElem?_cons_succ, List.getElem?_cons_zero]; rfl)
                  case hQ9 => exact fun _ _ _ h => h
                  case hw9 => rfl
                  case hy9 => (intro w' hSw; (try dsimp only at hSw); go_simp; all_goals with_reducible rfl)
                  try simp only [Act.put, List.setIfInBounds_toArray, List.set_cons_zero, List.set_cons_succ]
                  refine' wpAnyH_take (i := 10) ?hi10 (by kernel_rfl) (by kernel_rfl) (by kernel_rfl) ?hQ10 (Or.inl ⟨?hw10, ?hy10⟩) (by assumption) ?_
                  case hi10 => (simp only [List.getElem?_toArray, List.getElem?_cons_succ, List.getElem?_cons_zero]; rfl)
                  case hQ10 => exact fun _ _ _ h => h
                  case hw10 => rfl
                  case hy10 => (intro w' hSw; (try dsimp only at hSw); go_simp; all_goals with_reducible rfl)
                  try simp only [Act.put, List.setIfInBounds_toArray, List.set_cons_zero, List.set_cons_succ]
                  refine' wpAnyH_take (i := 11) ?hi11 (by kernel_rfl) (by kernel_rfl) (by kernel_rfl) ?hQ11 (Or.inl ⟨?hw11, ?hy11⟩) (by assumption) ?_
                  case hi11 => (simp only [List.getElem?_toArray, List.getElem?_cons_succ, List.getElem?_cons_zero]; rfl)
                  case hQ11 => exact fun _ _ _ h => h
                  case hw11 => rfl
                  case hy11 => (intro w' hSw; (try dsimp only at hSw); go_simp; all_goals with_reducible rfl)
                  try simp only [Act.put, List.setIfInBounds_toArray, List.set_cons_zero, List.set_cons_succ]
                  refine wpAnyH_done (by kernel_rfl) ?_ _
                  rename (Chg Never wy _ ∧ _) => hF
                  clear hmd hlen
                  generalize wy.drew = wq at hF ⊢
                  go_wp2_with fail
                  go_ret3
                  exact sopen_no HO5.out rfl (hcf.trans hF.1)
                · have HO6 := Lib.hid (HO.out.trans (open_good hsm.out hnd.out HX.out (by omega)))
                  have t2 : decide ((ps.length : Int) ≤ ((x.many : Nat) : Int)) = false := decide_eq_false (by omega)
                  go_wp2_with fail
                  refine wp_region_held_drew (S := fun w' => Chg Never wy w' ∧ w'.cell? ⟨b', off' + 2, none⟩ = some (.int .i64 x.many) ∧ w'.cell? ⟨b', off', none⟩ = some (.string (toB x.title)) ∧ (∀ ty, (Builtin.len_ #[102] ty #[.map (some MB)]).run Tryz.prog w' = .ok (.int .i64 ps.length) w')) (by kernel_rfl) ⟨(Chg.refl Never wy).drew, e2, e0, fun ty => hlen _ ty hmd⟩ (fun hH => ?_)
                  refine' wpAnyH_take (i := 0) ?hi0 (by kernel_rfl) (by kernel_rfl) (by kernel_rfl) ?hQ0 (Or.inl ⟨?hw0, ?hy0⟩) (by assumption) ?_
                  case hi0 => (simp only [List.getElem?_toArray, List.getElem?_cons_zero]; rfl)
                  case hQ0 => exact fun _ _ _ h => h
                  case hw0 => rfl
                  case hy0 => (intro w' hSw; (try dsimp only at hSw); go_simp; all_goals with_reducible rfl)
                  try simp only [Act.put, List.setIfInBounds_toArray, List.set_cons_zero, List.set_cons_succ]
                  refine' wpAnyH_take (i := 1) ?hi1 (by kernel_rfl) (by kernel_rfl) (by kernel_rfl) ?hQ1 (Or.inl ⟨?hw1, ?hy1⟩) (by assumption) ?_
                  case hi1 => (simp only [List.getElem?_toArray, List.getElem?_cons_succ, List.getElem?_cons_zero]; rfl)
                  case hQ1 => exact fun _ _ _ h => h
                  case hw1 => rfl
                  case hy1 => (intro w' hSw; (try dsimp only at hSw); go_simp; all_goals with_reducible rfl)
                  try simp only [Act.put, List.setIfInBounds_toArray, List.set_cons_zero, List.set_cons_succ]
                  refine' wpAnyH_take (i := 2) ?hi2 (by kernel_rfl) (by kernel_rfl) (by kernel_rfl) ?hQ2 (Or.inl ⟨?hw2, ?hy2⟩) (by assumption) ?_
                  case hi2 => (simp only [List.getElem?_toArray, List.getElem?_cons_succ, List.getElem?_cons_zero]; rfl)
                  case hQ2 => exact fun _ _ _ h => h
                  case hw2 => rfl
                  case hy2 => (intro w' hSw; (try dsimp only at hSw); go_simp; all_goals with_reducible rfl)
                  try simp only [Act.put, List.setIfInBounds_toArray, List.set_cons_zero, List.set_cons_succ]
                  refine' wpAnyH_take (i := 3) ?hi3 (by kernel_rfl) (by kernel_rfl) (by kernel_rfl) ?hQ3 (Or.inl ⟨?hw3, ?hy3⟩) (by assumption) ?_
                  case hi3 => (simp only [List.getElem?_toArray, List.getElem?_cons_succ, List.getElem?_cons_zero]; rfl)
                  case hQ3 => exact fun _ _ _ h => h
                  case hw3 => rfl
                  case hy3 => (intro w' hSw; (try dsimp only at hSw); go_simp; all_goals with_reducible rfl)
                  try simp only [Act.put, List.setIfInBounds_toArray, List.set_cons_zero, List.set_cons_succ]
                  refine' wpAnyH_take (i := 4) ?hi4 (by kernel_rfl) (by kernel_rfl) (by kernel_rfl) ?hQ4 (Or.inl ⟨?hw4, ?hy4⟩) (by assumption) ?_
                  case hi4 => (simp only [List.getElem?_toArray, List.getElem?_cons_succ, List.getElem?_cons_zero]; rfl)
                  case hQ4 => exact fun _ _ _ h => h
                  case hw4 => rfl
                  case hy4 => (intro w' hSw; (try dsimp only at hSw); go_simp; all_goals with_reducible rfl)
                  try simp only [Act.put, List.setIfInBounds_toArray, List.set_cons_zero, List.set_cons_succ]
                  refine' wpAnyH_take (i := 5) ?hi5 (by kernel_rfl) (by kernel_rfl) (by kernel_rfl) ?hQ5 (Or.inl ⟨?hw5, ?hy5⟩) (by assumption) ?_
                  case hi5 => (simp only [List.getElem?_toArray, List.getElem?_cons_succ, List.getElem?_cons_zero]; rfl)
                  case hQ5 => exact fun _ _ _ h => h
                  case hw5 => rfl
                  case hy5 => (intro w' hSw; (try dsimp only at hSw); go_simp; all_goals with_reducible rfl)
                  try simp only [Act.put, List.setIfInBounds_toArray, List.set_cons_zero, List.set_cons_succ]
                  refine' wpAnyH_take (i := 6) ?hi6 (by kernel_rfl) (by kernel_rfl) (by kernel_rfl) ?hQ6 (Or.inl ⟨?hw6, ?hy6⟩) (by assumption) ?_
                  case hi6 => (simp only [List.getElem?_toArray, List.getElem?_cons_succ, List.getElem?_cons_zero]; rfl)
                  case hQ6 => exact fun _ _ _ h => h
                  case hw6 => rfl
                  case hy6 => (intro w' hSw; (try dsimp only at hSw); go_simp; all_goals with_reducible rfl)
                  try simp only [Act.put, List.setIfInBounds_toArray, List.set_cons_zero, List.set_cons_succ]
                  refine' wpAnyH_take (i := 7) ?hi7 (by kernel_rfl) (by kernel_rfl) (by kernel_rfl) ?hQ7 (Or.inl ⟨?hw7, ?hy7⟩) (by assumption) ?_
                  case hi7 => (simp only [List.getElem?_toArray, List.getElem?_cons_succ, List.getElem?_cons_zero]; rfl)
                  case hQ7 => exact fun _ _ _ h => h
                  case hw7 => rfl
                  case hy7 => (intro w' hSw; (try dsimp only at hSw); go_simp; all_goals with_reducible rfl)
                  try simp only [Act.put, List.setIfInBounds_toArray, List.set_cons_zero, List.set_cons_succ]
                  refine' wpAnyH_take (i := 8) ?hi8 (by kernel_rfl) (by kernel_rfl) (by kernel_rfl) ?hQ8 (Or.inl ⟨?hw8, ?hy8⟩) (by assumption) ?_
                  case hi8 => (simp only [List.getElem?_toArray, List.getElem?_cons_succ, List.getElem?_cons_zero]; rfl)
                  case hQ8 => exact fun _ _ _ h => h
                  case hw8 => rfl
                  case hy8 => (intro w' hSw; (try dsimp only at hSw); go_simp; all_goals with_reducible rfl)
                  try simp only [Act.put, List.setIfInBounds_toArray, List.set_cons_zero, List.set_cons_succ]
                  refine' wpAnyH_take (i := 9) ?hi9 (by kernel_rfl) (by kernel_rfl) (by kernel_rfl) ?hQ9 (Or.inl ⟨?hw9, ?hy9⟩) (by assumption) ?_
                  case hi9 => (simp only [List.getElem?_toArray, List.getElem?_cons_succ, List.getElem?_cons_zero]; rfl)
                  case hQ9 => exact fun _ _ _ h => h
                  case hw9 => rfl
                  case hy9 => (intro w' hSw; (try dsimp only at hSw); go_simp; all_goals with_reducible rfl)
                  try simp only [Act.put, List.setIfInBounds_toArray, List.set_cons_zero, List.set_cons_succ]
                  refine' wpAnyH_take (i := 10) ?hi10 (by kernel_rfl) (by kernel_rfl) (by kernel_rfl) ?hQ10 (Or.inl ⟨?hw10, ?hy10⟩) (by assumption) ?_
                  case hi10 => (simp only [List.getElem?_toArray, List.getElem?_cons_succ, List.getElem?_cons_zero]; rfl)
                  case hQ10 => exact fun _ _ _ h => h
                  case hw10 => rfl
                  case hy10 => (intro w' hSw; (try dsimp only at hSw); go_simp; all_goals with_reducible rfl)
                  try simp only [Act.put, List.setIfInBounds_toArray, List.set_cons_zero, List.set_cons_succ]
                  refine' wpAnyH_take (i := 11) ?hi11 (by kernel_rfl) (by kernel_rfl) (by kernel_rfl) ?hQ11 (Or.inl ⟨?hw11, ?hy11⟩) (by assumption) ?_
                  case hi11 => (simp only [List.getElem?_toArray, List.getElem?_cons_succ, List.getElem?_cons_zero]; rfl)
                  case hQ11 => exact fun _ _ _ h => h
                  case hw11 => rfl
                  case hy11 => (intro w' hSw; (try dsimp only at hSw); go_simp; all_goals with_reducible rfl)
                  try simp only [Act.put, List.setIfInBounds_toArray, List.set_cons_zero, List.set_cons_succ]
                  refine wpAnyH_done (by kernel_rfl) ?_ _
                  rename (Chg Never wy _ ∧ _) => hF
                  clear hmd hlen
                  generalize wy.drew = wq at hF ⊢
                  obtain ⟨hcq, e2, e0, -⟩ := hF
                  have hmapq := hmap.keep hcq (fun h => h)
                  have hHq := Lib.hid ((hH.out.never hc2).never hcq)
                  have hcf := hcf.trans hcq
                  clear hmap hH hnd hsm hlm
                  go_wp2_with fail
                  go_loopw [3, 99] (fun ov iv w4 => ∃ i : Nat, i ≤ x.many ∧ iv = .int .i64 i ∧ OwnN 51 wq w4 ov ((List.range i).map fun j => getP ps (j + 1))) (fun _ iv _ => x.many - (intOf iv).toNat)
                  case atStart => exact ⟨0, Nat.zero_le _, rfl, ownN_nil _ (Chg.refl _ _)⟩
                  case round =>
                    obtain ⟨i, hi, rfl, hn⟩ := hrel
                    rename World => w4
                    obtain ⟨va, vn, vc, rfl⟩ := own_isSlice hn.own
                    by_cases hil : i < x.many
                    · obtain ⟨t', a', b'', pv, hpe, hpv⟩ := hHq.out.patch (i + 1)
                      obtain ⟨qa, qc, rfl, _, _, _⟩ := rdv_slice hpv
                      have eI : ((i + 1 : Nat) : Int) = (i : Int) + 1 := by omega
                      have hlook := (hmapq.keep hn.chg (fun h => h)).look (j := (i : Int) + 1) (by unfold I64; omega)
                      rw [← eI, hpe, eI] at hlook
                      replace hlook : (Instr.lookup 102 (.map (some MB)) (.int .i64 ((i : Int) + 1)) false).run Tryz.prog w4 = .ok (.agg #[.string t', .int .i64 a', .int .i64 b'', .slice qa (getP ps (i + 1)).length qc]) w4 := hlook
                      have hfd : ∀ wx, (Instr.field 97 (.agg #[.string t', .int .i64 a', .int .i64 b'', .slice qa (getP ps (i + 1)).length qc]) 3).run Tryz.prog wx = .ok (.slice qa (getP ps (i + 1)).length qc) wx := fun _ => by kernel_rfl
                      have sN : IntKind.i64.wrap ((i : Int) + 1) = (i : Int) + 1 := IntWalk.i64_in _ (by omega)
                      have hy : Dat.rd w4 (fun k => Never k ∨ (Value.slice va vn vc).ownBlock = some k) [.slice qa (getP ps (i + 1)).length qc] (getP ps (i + 1)) := hn.away hpv
                      have HTR : Hid ((List.range (i + 1)).map (fun j => getP ps (j + 1)) = (List.range i).map (fun j => getP ps (j + 1)) ++ [getP ps (i + 1)]) := by rw [Hid, List.range_succ, List.map_append]; rfl
                      have hLl : ((List.range i).map fun j => getP ps (j + 1)).length ≤ 1000000000 := by rw [List.length_map, List.length_range]; omega
                      generalize (List.range i).map (fun j => getP ps (j + 1)) = Lq at hn HTR hLl
                      clear hpe eI hpv
                      go_wp2_with (at_builtin; refine wpList_push (by rfl) _ _ 22 (by rfl) elemOk_changes (O := Never) (l := Lq) (y := getP ps (i + 1)) (by rfl) (by rfl) (by rfl) hn.own hy (fun _ h => h.elim) hLl ?_; intro v' w7 hown7 hc7 hk7; have hn7 := hn.step1 hown7 hc7 hk7; clear hown7 hc7 hk7 hy; obtain ⟨oa, on, oc, rfl⟩ := own_isSlice hn7.own)
                      clear hn hlook sN
                      go_wp2_with fail
                      go_roundw
                      case rel => exact ⟨i + 1, by omega, by go_num, by rw [HTR.out]; exact hn7⟩
                      case measure => simp [intOf] <;> omega
                    · obtain rfl : i = x.many := by omega
                      have e0 := hn.chg.cellNever e0
                      have hcg := hcf.trans hn.chg
                      have hr := hn.own.rdv
                      clear hn hHq hmapq
                      go_wp2_with fail
                      go_ret3
                      exact ⟨_, by rw [HO6.out]; rfl, hcg, by rw [HO6.out]; exact hr⟩
end Go.Proofs.YtjiaidchcldocaaGreatDoor
namespace Go.Proofs.YtjiaidchcldocaaGreatDoor

theorem fileFault_lines {f : File} (h : fileFault f = 0) : linesFault f.lines = 0 := by
  unfold fileFault at h
  by_cases e : pathFault f.path = 0
  · rwa [if_pos e] at h
  · rw [if_neg e] at h; exact absurd h e
theorem checked_zero {x y : List ByteArray} (h : linesFault x = 0) (g : linesFault y = 0) : checkedFault x y = 0 := by unfold checkedFault; rw [if_pos h]; exact g
/-- of valid lines Make tells no fault -/
theorem make_valid {x y : List ByteArray} {n : Int} (h : linesFault x = 0) (g : linesFault y = 0) (n0 : 0 ≤ n) (n1 : n ≤ 1000) : makeFault x y n = 0 ∧ makeR x y n = cutOf (script x y) n := by
  have hc := checked_zero h g
  have hs := script_valid hc
  have e1 : (oldOf (script x y)).length = oldN (script x y) := rfl
  have e2 : (newOf (script x y)).length = newN (script x y) := rfl
  rw [script_old] at e1
  rw [script_new] at e2
  have l1 := linesFault_len h
  have l2 := linesFault_len g
  have hcut : cutFault (script x y) n = 0 := by
    unfold cutFault
    rw [if_neg (by rw [hs]; decide), if_neg (by omega), if_neg (by omega)]
  exact ⟨by unfold makeFault; rw [if_neg (by rw [hc]; decide)]; exact hcut, by unfold makeR cutR; rw [if_pos hc, if_pos hcut]⟩
/-! ### what lies between, step by step -/
theorem diffL_take {n : Int} {x : File} {a b : List File} (h : b = [] ∨ ∃ y r, b = y :: r ∧ less x.path y.path = true) : diffL n (x :: a) b = ⟨3, x.path, wholeR x.lines 45⟩ :: diffL n a b := by
  rcases h with rfl | ⟨y, r, rfl, h⟩
  · rw [diffL]
  · rw [diffL, if_pos h]
theorem diffL_put {n : Int} {y : File} {a b : List File} (h : a = [] ∨ ∃ x r, a = x :: r ∧ ¬ less x.path y.path = true ∧ less y.path x.path = true) : diffL n a (y :: b) = ⟨2, y.path, wholeR y.lines 43⟩ :: diffL n a b := by
  rcases h with rfl | ⟨x, r, rfl, h, g⟩
  · rw [diffL]
  · rw [diffL, if_neg h, if_pos g]
theorem diffL_both {n : Int} {x y : File} {a b : List File} (h : ¬ less x.path y.path = true) (g : ¬ less y.path x.path = true) : diffL n (x :: a) (y :: b) = chg n x.path (some x.lines) (some y.lines) ++ diffL n a b := by
  rw [diffL, if_neg h, if_neg g]
theorem diffL_nil (n : Int) : diffL n [] [] = [] := by rw [diffL]
theorem chg_none {n : Int} {p : ByteArray} {x y : List ByteArray} (h : cutOf (script x y) n = []) : chg n p (some x) (some y) = [] := if_pos h
theorem chg_some {n : Int} {p : ByteArray} {x y : List ByteArray} (h : cutOf (script x y) n ≠ []) : chg n p (some x) (some y) = [⟨1, p, cutOf (script x y) n⟩] := if_neg h
end Go.Proofs.YtjiaidchcldocaaGreatDoor
