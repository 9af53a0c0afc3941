/-
  PARTS: THE WALK of slices.Insert of one file: at the end, in place, or in a new row.; THE WALKS of patch.all and of the document's whole.; THE WALK of algebra.Split: a patch in pieces.; THE WALK of handstitchsame.Ints.; A SLICE OF SLICES: an element's cell. No program in sight.; THE WALKS of match.check and of the document's SquareFault: squares of costs.; A MAP FROM NUMBERS TO NUMBERS that the call has made: what it holds, as a function.; WHICH IS WHICH, in plain Lean: what the program chooses is what the document chooses, and none is cheaper. Rows of costs; `left`: which columns are left.; COLUMNS LEFT AS BITS of a small number.; THE LEAST COSTS BY SETS OF COLUMNS, in plain Lean: bounds; how a set's is come by.; BITS OF SMALL NUMBERS at int. No program in sight.; THE WALK of match.least.; THE WALKS of match.choose, Match.; FOUR ROWS THAT GROW SIDE BY SIDE (titles, places, how many, patches). No function of the program in sight.; SERIES, in plain Lean (chapter 13): a part of a series, its subject and its name.; SERIES, in plain Lean (chapter 13): the parts of a series, in whatever order they come.; HUNKS AS TEXTS, in plain Lean (chapter 5): the reader, line by line; what is printed is read, what is read is printed so.; HUNKS AS TEXTS, in plain Lean (chapter 5): whole texts. What is printed is read; what is read is printed so; cut off within the last line it is none.; PATCHES AS TEXTS, in plain Lean (chapter 8): lines written and read.; PATCHES AS TEXTS, in plain Lean (chapter 8): whole texts. What is printed is read; what is read is printed so.; SERIES, in plain Lean (chapter 13): what a mail is read as; the pieces of all; what is packed.; A BUILDER OF ONE'S OWN STAYS while only new blocks come.; THE WALKS of strings.Builder's methods once more, saying that every block that holds no bytes (but the builder's own) stays.; HUNKS AS TEXTS, in plain Lean: the document's reading (hunk by hunk) is the program's (line by line).; NUMBERS AS TEXTS, in plain Lean: a text that is the decimal numeral of its number; the document's reading of one.; HUNKS AS TEXTS, in plain Lean: what the program's functions compute, as the walks want it.
-/
import Derived.Test.YtjiaidchcldocaaGreatDoorPf5
import Derived.Test.YtjiaidchcldocaaGreatDoorPf4
import Derived.Lib.Overlaps
import Derived.Test.YtjiaidchcldocaaGreatDoorPf3
import Derived.Test.YtjiaidchcldocaaGreatDoorPf2
import Derived.Test.YtjiaidchcldocaaGreatDoorPf1
import Derived.Maps.OwnOps
import Derived.Maps.Views
import Init
import Derived.Laws.Entries
set_option linter.unusedVariables false
set_option linter.unusedSimpArgs false
namespace Go.Proofs.YtjiaidchcldocaaGreatDoor
open Go.RowKit

theorem rdv_at {α : Type} [Dat α] {w : World} {O : Nat → Prop} {B : Nat} {E : TypeId} {cs : List Value} {x : α} (hB : w.heap[B]? = some (.cells cs.toArray E (0, 0))) (hO : ¬ O B) (hx : Dat.rd w O cs x) : Rdv w O (.slice (some ⟨B, 0, none⟩) 1 1) [x] := by
  refine ⟨some ⟨B, 0, none⟩, 1, rfl, Nat.le_refl _, by decide, ?_⟩
  intro i y hy
  obtain rfl : i = 0 := by
    cases i with
    | zero => rfl
    | succ i => simp at hy
  simp only [List.getElem?_cons_zero, Option.some.injEq] at hy
  subst hy
  refine ⟨B, 0, cs, rfl, hO, ?_, hx⟩
  intro j u hj
  simp only [World.cell?, hB]
  simpa using hj
def insAt (T : List File) (i : Nat) (f : File) : List File := T.take i ++ f :: T.drop i
set_option maxHeartbeats 2000000 in
set_option maxRecDepth 100000 in
theorem insert_end (T : List File) (f : File) (v fv : Value) (w0 w : World) (B : Nat) (E : TypeId) (hn : OwnN 117 w0 w v T) (hT : T.length ≤ 1000000)
    (hB : w.heap[B]? = some (.cells #[.string f.path, fv] E (0, 0))) (hvB : ∀ k, v.ownBlock = some k → k ≠ B) (hf : Dat.rd w (fun k => Never k ∨ v.ownBlock = some k) [.string f.path, fv] f) :
    Calls Tryz.prog 79 #[v, .int .i64 T.length, .slice (some ⟨B, 0, none⟩) 1 1] w fun e w' => ∃ r, e = .returned r ∧ OwnN 117 w0 w' r (T ++ [f]) := by
  obtain ⟨a, cap, rfl, h1, h2, _⟩ := rdv_slice hn.own.rdv
  unfold maxLen at h2
  obtain ⟨sb, u0, hrunL, u1, _⟩ := slice_gen (P := Tryz.prog) (t := 41) (by kernel_rfl) size_file (hn.own.rdv.sub (O' := Never) (fun _ _ h => h)) T.length T.length (Nat.le_refl _) (Nat.le_refl _)
  have hrunL := fun (wx : World) => hrunL (T.length : Int) wx rfl rfl
  clear u0 u1
  have hu : Rdv w (fun k => Never k ∨ (Value.slice a T.length cap).ownBlock = some k) (.slice (some ⟨B, 0, none⟩) 1 1) [f] := rdv_at hB (fun h => h.elim (fun h => h) (fun h => hvB _ h rfl)) hf
  have hle : T.length + [f].length ≤ 1000000000 := by simp; omega
  go_enter Tryz.func79, Tryz.ntmps79
  go_wp2_with (at_builtin; refine wpList_many2 (by rfl) _ _ 41 (by rfl) elemOk_file (O := Never) (l := T) (m := [f]) (by rfl) (by rfl) hn.own hu (fun _ h => h.elim) hle ?_; intro v1 w1 hw1 hd1 hk1; have hn1 := hn.step hw1 hd1 hk1)
  go_ret
  exact ⟨_, rfl, hn1⟩
theorem min_one {k : Nat} (h : 1 ≤ k) : Nat.min 1 k = 1 := Nat.min_eq_left h
theorem minR {a b : Nat} (h : b ≤ a) : Nat.min a b = b := Nat.min_eq_right h
set_option maxHeartbeats 4000000 in
set_option maxRecDepth 100000 in
theorem insert_room (T : List File) (i : Nat) (f : File) (v fv : Value) (w0 w : World) (B : Nat) (E : TypeId) (hn : OwnN 117 w0 w v T) (hi : i < T.length) (hT : T.length ≤ 1000000)
    (hB : w.heap[B]? = some (.cells #[.string f.path, fv] E (0, 0))) (hvB : ∀ k, v.ownBlock = some k → k ≠ B) (hf : Dat.rd w (fun k => Never k ∨ v.ownBlock = some k) [.string f.path, fv] f) :
    Calls Tryz.prog 79 #[v, .int .i64 i, .slice (some ⟨B, 0, none⟩) 1 1] w fun e w' => ∃ r, e = .returned r ∧ OwnN 117 w0 w' r (insAt T i f) := by
  obtain ⟨g, cap, r, tail, rfl, hg, hsz, hle, hcm, _, hr⟩ := own_rows hn.own (by omega)
  obtain ⟨hrl, hrq⟩ := hr.len
  have hrq : ∀ c ∈ r, c.length = 2 := hrq
  have hsz : (r.flatten ++ tail).length = cap * 2 := hsz
  obtain ⟨inf, hinf, hi2, hiz, hib⟩ := info_file
  have hfl : r.flatten.length = T.length * 2 := by rw [cells_len hrq, hrl]
  have hnew : w0.heap.size ≤ g := hn.new g rfl
  have hgl : g < w.heap.size := (Array.getElem?_eq_some_iff.1 hg).1
  have hBl : B < w.heap.size := (Array.getElem?_eq_some_iff.1 hB).1
  have hgB : g ≠ B := hvB g rfl
  have hRow := Lib.hid hr
  have hf' : Dat.rd w (fun k => Never k ∨ k = g) [.string f.path, fv] f := Dat.keep hf (Chg.refl Never w) (fun _ _ h => h.elim) (fun k _ hk => hk.imp_right (fun e => by rw [e]; rfl))
  unfold maxLen at hcm
  have hd1 : ((r.drop i).flatten).length = (T.length - i) * 2 := by rw [cells_len (fun c hc => hrq c (List.mem_of_mem_drop hc)), List.length_drop, hrl]
  have hone : ∀ u ∈ (r.drop i).flatten, u.oneCell' = true := fun u hu => by
    obtain ⟨c, hc, hu⟩ := List.mem_flatten.1 hu
    exact hr.one c (List.mem_of_mem_drop hc) u hu
  have hone2 : ∀ u ∈ [Value.string f.path, fv], u.oneCell' = true := Dat.one hf
  have hE1 : (r.flatten ++ tail).take (i * 2) = (r.take i).flatten := by
    rw [← cells_take r i hrq, List.take_append_of_le_length (by rw [hfl]; omega)]
  have ht1 : ((r.take i).flatten).length = i * 2 := by rw [cells_len (fun c hc => hrq c (List.mem_of_mem_take hc)), List.length_take, hrl]; omega
  have hsrc1 : ∀ (W : World), W.heap[g]? = w.heap[g]? → ∀ j u, ((r.drop i).flatten)[j]? = some u → W.cell? ((⟨g, i * 2, none⟩ : Addr).add j) = some u := fun W hW j u hu => by
    rw [Addr.add_lit]
    refine row_cell (w := W) (hW.trans hg) ?_
    rw [← cells_drop r i hrq, List.getElem?_drop] at hu
    rw [List.getElem?_append_left (List.getElem?_eq_some_iff.1 hu).1]
    exact hu
  have hsrc2 : ∀ (W : World), W.heap[B]? = w.heap[B]? → ∀ j u, [Value.string f.path, fv][j]? = some u → W.cell? ((⟨B, 0, none⟩ : Addr).add j) = some u := fun W hW j u hu => by
    rw [Addr.add_lit]
    exact row_cell (w := W) (L := [.string f.path, fv]) (hW.trans hB) (by rwa [Nat.zero_add])
  have h1 : ((i : Int) == (T.length : Int)) = false := beq_eq_false_iff_ne.2 (by omega)
  have h1' : ¬ ((i : Int) = (T.length : Int)) := by omega
  have h5 : ((i : Int) + 1).toNat = i + 1 := by omega
  have h6 : ((T.length : Int) + 1).toNat = T.length + 1 := by omega
  have h9 : (0 : Int) ≤ (i : Int) + 1 := by omega
  have h10 : (0 : Int) ≤ (T.length : Int) + 1 := by omega
  have h11 : (i : Int) + 1 ≤ (T.length : Int) + 1 := by omega
  have h12 : (i : Int) ≤ (T.length : Int) + 1 := by omega
  have h13 : (i : Int) ≤ (T.length : Int) := by omega
  have h14 : T.length + 1 - (i + 1) = T.length - i := by omega
  have h15 : i ≤ T.length := by omega
  have h16 : i ≤ T.length + 1 := by omega
  have h17 : i + 1 ≤ T.length + 1 := by omega
  have hw1 : IntKind.i64.wrap ((i : Int) + 1) = (i : Int) + 1 := by rw [IntKind.wrap_i64]; omega
  have hw2 : IntKind.i64.wrap ((T.length : Int) + 1) = (T.length : Int) + 1 := by rw [IntKind.wrap_i64]; omega
  have hw3 : IntKind.i64.wrap ((T.length : Int) + 1 - (i : Int)) = (T.length : Int) + 1 - (i : Int) := by rw [IntKind.wrap_i64]; omega
  have hm1 : Nat.min (T.length + 1 - i) (T.length - i) = T.length - i := minR (by omega)
  by_cases hroom : T.length + 1 ≤ cap
  · have hov : ∀ lb cb, (callFunc 127 #[.slice (some ⟨B, 0, none⟩) 1 1, .slice (some ⟨g, (i + 1) * 2, none⟩) lb cb]).run Tryz.prog w = .ok (.value (.bool false)) w := fun lb cb => by
      rw [run_callFunc_extern Tryz.func127 (by kernel_rfl) (by kernel_rfl) (by kernel_rfl) (e := Extern.SlicesOverlaps.overlaps #[41, 41] #[4]) (by kernel_rfl),
        Lib.run_overlaps_apart w 41 4 117 Tryz.underlying41 2 (fun w => by kernel_rfl) ⟨B, 0, none⟩ ⟨g, (i + 1) * 2, none⟩ 1 1 lb cb (fun e => hgB e.symm) E 117 2 (r.flatten ++ tail).toArray.size (by simp only [World.shape?, hB]; rfl) (by simp only [World.shape?, hg]) (by simp only [List.size_toArray]; omega) (by simp only [World.frozen?, hB]; rfl) (by simp only [World.frozen?, hB]; rfl)]
      rfl
    have hcp1 : ∀ ty dc sc, (Builtin.copy_ #[41, 41] ty #[.slice (some ⟨g, (i + 1) * 2, none⟩) (T.length - i) dc, .slice (some ⟨g, i * 2, none⟩) (T.length + 1 - i) sc]).run Tryz.prog w.drew = _ := fun ty dc sc =>
      run_copy_at (P := Tryz.prog) w.drew (ty := ty) (dCap := dc) (sCap := sc) (cs := (r.drop i).flatten) Tryz.underlying41 hinf (L := r.flatten ++ tail) hg (by rw [hd1, hi2, hm1]) (hsrc1 w.drew rfl) (by rw [hd1, hsz]; omega) hone
    have hE2 : ((r.flatten ++ tail).take ((i + 1) * 2)).length = i * 2 + 2 := by rw [List.length_take, hsz]; omega
    have hE3 : ((r.flatten ++ tail).take ((i + 1) * 2)).take (i * 2) = (r.take i).flatten := by rw [List.take_take, show min (i * 2) ((i + 1) * 2) = i * 2 by omega, hE1]
    have hE4 : ((r.flatten ++ tail).drop ((i + 1) * 2 + ((r.drop i).flatten).length)).length = (cap - (T.length + 1)) * 2 := by rw [List.length_drop, hsz, hd1]; omega
    generalize (r.flatten ++ tail).take ((i + 1) * 2) = P1 at hcp1 hE2 hE3
    generalize (r.flatten ++ tail).drop ((i + 1) * 2 + ((r.drop i).flatten).length) = rest at hcp1 hE4
    have hg1 : (w.drew.setRow g (P1 ++ (r.drop i).flatten ++ rest).toArray).heap[g]? = some (.cells (P1 ++ (r.drop i).flatten ++ rest).toArray 117 (0, 0)) := setRow_heap w.drew g _ _ _ _ hg
    have hB1 : (w.drew.setRow g (P1 ++ (r.drop i).flatten ++ rest).toArray).heap[B]? = w.heap[B]? := setRow_other w.drew g B _ (fun e => hgB e.symm)
    have hc1 := chg_setRow w.drew g (P1 ++ (r.drop i).flatten ++ rest).toArray
    generalize w.drew.setRow g (P1 ++ (r.drop i).flatten ++ rest).toArray = W1 at hcp1 hg1 hc1 hB1
    have hcp2 : ∀ (ty : TypeId) (dc : Nat), (Builtin.copy_ #[41, 41] ty #[.slice (some ⟨g, i * 2, none⟩) (T.length + 1 - i) dc, .slice (some ⟨B, 0, none⟩) 1 1]).run Tryz.prog W1 = _ := fun ty dc =>
      run_copy_at (P := Tryz.prog) W1 (ty := ty) (dCap := dc) (sCap := 1) (cs := [Value.string f.path, fv]) Tryz.underlying41 hinf hg1 (by rw [hi2, min_one (by omega)]; rfl) (hsrc2 W1 hB1) (by rw [List.length_append, List.length_append, hE2]; simp; omega) hone2
    have hL1 : (P1 ++ (r.drop i).flatten ++ rest).take (i * 2) = (r.take i).flatten := by rw [List.append_assoc, List.take_append_of_le_length (by omega), hE3]
    have hL2 : (P1 ++ (r.drop i).flatten ++ rest).drop (i * 2 + [Value.string f.path, fv].length) = (r.drop i).flatten ++ rest := by rw [List.append_assoc]; exact drop_two hE2
    rw [hL1, hL2] at hcp2
    have hg2 : (W1.setRow g ((r.take i).flatten ++ [Value.string f.path, fv] ++ ((r.drop i).flatten ++ rest)).toArray).heap[g]? = some (.cells ((r.take i).flatten ++ [Value.string f.path, fv] ++ ((r.drop i).flatten ++ rest)).toArray 117 (0, 0)) := setRow_heap W1 g _ _ _ _ hg1
    have hc2 := chg_setRow W1 g ((r.take i).flatten ++ [Value.string f.path, fv] ++ ((r.drop i).flatten ++ rest)).toArray
    generalize W1.setRow g ((r.take i).flatten ++ [Value.string f.path, fv] ++ ((r.drop i).flatten ++ rest)).toArray = W2 at hcp2 hg2 hc2
    have hcc : Chg (fun k => k = g) w W2 := ((Chg.refl (fun k => k = g) w).drew.trans hc1).trans hc2
    have hfin : Hid (OwnN 117 w0 W2 (.slice (some ⟨g, 0, none⟩) (T.length + 1) cap) (insAt T i f)) := by
      have hdl : (insAt T i f).length = T.length + 1 := by unfold insAt; rw [List.length_append, List.length_take, List.length_cons, List.length_drop]; omega
      have hrr := ((hRow.out.take i).app (show RdL w (fun k => Never k ∨ k = g) (f :: T.drop i) ([Value.string f.path, fv] :: r.drop i) from ⟨hf', hRow.out.drop i⟩)).keep (O'' := fun k => Never k ∨ k = g) hcc (fun k _ hk => .inr hk) (fun k _ hk => hk)
      have := own_laid (e := 117) (w := W2) (O := Never) (l := insAt T i f) (g := g) (cap := cap) (r := r.take i ++ [Value.string f.path, fv] :: r.drop i) (tail := rest) (by rw [List.flatten_append, List.flatten_cons]; simp only [List.append_assoc] at hg2 ⊢; exact hg2)
        (by rw [List.flatten_append, List.flatten_cons, List.length_append, List.length_append, List.length_append, ht1, hd1, hE4]; show _ = cap * 2; simp; omega) (by omega) (by unfold maxLen; omega) (fun h => h) hrr
      rw [hdl] at this
      exact ⟨this, fun k hk => by injection hk with hk; subst hk; exact hnew, hn.chg.trans' hcc (fun k hk h => by omega)⟩
    have h18 : ¬ cap = i := by omega
    have h19 : ¬ cap = i + 1 := by omega
    have h20 : (T.length : Int) + 1 ≤ cap := by omega
    have h21 : ¬ (cap : Int) < (T.length : Int) + 1 := by omega
    clear hg hsz hr hrq hfl hsrc1 hsrc2 hone hone2 hd1 hE1 hE2 hE3 hE4 hg1 hg2 hc1 hc2 hcc hRow hinf hn hrl ht1 hf hf' hB hB1 hvB hL1 hL2
    go_enter Tryz.func79, Tryz.ntmps79
    go_wp2_with (simp only [hov])
    refine wp_region_held_drew (S := fun _ => True) (by kernel_rfl) trivial (fun hH => ?_)
    refine' tk 0 ?_
    refine' tk 1 ?_
    refine' tk 2 ?_
    refine' tk 3 ?_
    refine' tk 4 ?_
    refine' tk 5 ?_
    refine' tk 6 ?_
    refine' tk 7 ?_
    refine wpAnyH_ready (rs := [8]) (by kernel_rfl) (by simp) ?_
    refine AllReadyH.cons rfl (fun K hK => ?_) AllReadyH.nil
    refine step_copy_eq (by rfl) _ _ 41 41 (by rfl) _ _ (by rfl) (by rfl) (hcp1 _ _ _) ?_
    refine hK.out _ _ trivial (fun _ => ?_)
    clear hK K
    try simp only [Act.put, List.setIfInBounds_toArray, List.set_cons_zero, List.set_cons_succ]
    refine wpAnyH_done (by kernel_rfl) ?_ _
    go_wp2_with (at_builtin; refine wpList_copy_eq _ (by rfl) _ _ 41 41 (by rfl) _ _ (by rfl) (by rfl) (hcp2 _ _) ?_)
    go_ret
    exact ⟨_, rfl, hfin.out⟩
  · obtain rfl : cap = T.length := by omega
    have hold : (Builtin.firstCells inf.size i (.slice (some ⟨g, 0, none⟩) i T.length)).run Tryz.prog w.drew = .ok ((r.take i).flatten).toArray w.drew :=
      run_firstCells_some w.drew inf.size i ⟨g, 0, none⟩ i T.length ((r.take i).flatten) (by rw [ht1, hi2]) (fun j u hu => by
        rw [Addr.add_lit]
        refine row_cell (w := w.drew) hg ?_
        rw [← hE1, List.getElem?_take] at hu
        split at hu
        · rw [Nat.zero_add]; exact hu
        · cases hu)
    have hik : i + (T.length + 1 - i) = T.length + 1 := by omega
    have hkk : (T.length : Int) + 1 - (i : Int) = ((T.length + 1 - i : Nat) : Int) := by omega
    have hrz := fun ty => Lib.run_append_grow_zeros (P := Tryz.prog) w 41 3 ty 117 inf (.agg #[.string ⟨#[]⟩, .slice none 0 0]) .i64 .i64 Tryz.underlying41 Tryz.underlying3 hinf hiz (some ⟨g, 0, none⟩) i T.length _ hold (T.length + 1 - i) (by omega) (by omega) (by omega) (by omega)
        (by have := Nat.mul_le_mul (show T.length + 1 - i ≤ 1000001 by omega) hib; omega) (growslice_fits (by omega) (by rw [hik]; have := Nat.mul_le_mul (show T.length + 1 ≤ 1000001 by omega) hib; omega))
    rw [← hkk] at hrz
    rw [hik] at hrz
    have hGn : T.length + 1 ≤ grownCap w (T.length + 1) T.length 117 := grownCap_ge w _ _ _
    have hGm : grownCap w (T.length + 1) T.length 117 ≤ maxLen := grownCap_le_maxLen w _ _ _ (by unfold maxLen; omega)
    generalize grownCap w (T.length + 1) T.length 117 = Gc at hrz hGn hGm
    have hz1 := size_zeroCells (Value.agg #[.string ⟨#[]⟩, .slice none 0 0]).cells (T.length + 1 - i)
    have hz2 := size_zeroCells (Value.agg #[.string ⟨#[]⟩, .slice none 0 0]).cells (Gc - (T.length + 1))
    have hz3 : (Value.agg #[.string ⟨#[]⟩, .slice none 0 0]).cells.size = 2 := rfl
    rw [hz3] at hz1 hz2
    generalize Builtin.zeroCells (Value.agg #[.string ⟨#[]⟩, .slice none 0 0]).cells (T.length + 1 - i) = Z1 at hrz hz1
    generalize Builtin.zeroCells (Value.agg #[.string ⟨#[]⟩, .slice none 0 0]).cells (Gc - (T.length + 1)) = Z2 at hrz hz2
    have hA : ((r.take i).flatten).toArray ++ Z1 ++ Z2 = ((r.take i).flatten ++ (Z1.toList ++ Z2.toList)).toArray := by simp
    rw [hA] at hrz
    have hZl : (Z1.toList ++ Z2.toList).length = (Gc - i) * 2 := by rw [List.length_append, Array.length_toList, Array.length_toList, hz1, hz2]; omega
    generalize Z1.toList ++ Z2.toList = ZL at hrz hZl
    generalize hG0 : w.heap.size = G0 at hrz
    have hg0 : (w.drew.alloc (.cells ((r.take i).flatten ++ ZL).toArray 117)).heap[G0]? = some (.cells ((r.take i).flatten ++ ZL).toArray 117 (0, 0)) := by rw [← hG0]; exact heap_alloc_new w.drew _
    have hc0 : Chg Never w (w.drew.alloc (.cells ((r.take i).flatten ++ ZL).toArray 117)) := (Chg.refl Never w).drew.alloc _
    generalize w.drew.alloc (.cells ((r.take i).flatten ++ ZL).toArray 117) = W1 at hrz hg0 hc0
    have hcp1 : ∀ (ty : TypeId) (dc : Nat), (Builtin.copy_ #[41, 41] ty #[.slice (some ⟨G0, i * 2, none⟩) (T.length + 1 - i) dc, .slice (some ⟨B, 0, none⟩) 1 1]).run Tryz.prog W1 = _ := fun ty dc =>
      run_copy_at (P := Tryz.prog) W1 (ty := ty) (dCap := dc) (sCap := 1) (cs := [Value.string f.path, fv]) Tryz.underlying41 hinf hg0 (by rw [hi2, min_one (by omega)]; rfl) (hsrc2 W1 (hc0.block B hBl (fun h => h))) (by rw [List.length_append, ht1, hZl]; simp; omega) hone2
    have hL1 : ((r.take i).flatten ++ ZL).take (i * 2) = (r.take i).flatten := take_two ht1
    have hL2 : (((r.take i).flatten ++ ZL).drop (i * 2 + [Value.string f.path, fv].length)).length = (Gc - (i + 1)) * 2 := by rw [List.length_drop, List.length_append, ht1, hZl]; simp; omega
    rw [hL1] at hcp1
    generalize ((r.take i).flatten ++ ZL).drop (i * 2 + [Value.string f.path, fv].length) = R1 at hcp1 hL2
    have hg1 : (W1.setRow G0 ((r.take i).flatten ++ [Value.string f.path, fv] ++ R1).toArray).heap[G0]? = some (.cells ((r.take i).flatten ++ [Value.string f.path, fv] ++ R1).toArray 117 (0, 0)) := setRow_heap W1 G0 _ _ _ _ hg0
    have hc1 := chg_setRow W1 G0 ((r.take i).flatten ++ [Value.string f.path, fv] ++ R1).toArray
    have hgg1 : (W1.setRow G0 ((r.take i).flatten ++ [Value.string f.path, fv] ++ R1).toArray).heap[g]? = w.heap[g]? := (setRow_other W1 G0 g _ (by omega)).trans (hc0.block g hgl (fun h => h))
    generalize W1.setRow G0 ((r.take i).flatten ++ [Value.string f.path, fv] ++ R1).toArray = W2 at hcp1 hg1 hc1 hgg1
    have hcp2 : ∀ ty dc sc, (Builtin.copy_ #[41, 41] ty #[.slice (some ⟨G0, (i + 1) * 2, none⟩) (T.length - i) dc, .slice (some ⟨g, i * 2, none⟩) (T.length - i) sc]).run Tryz.prog W2.drew = _ := fun ty dc sc =>
      run_copy_at (P := Tryz.prog) W2.drew (ty := ty) (dCap := dc) (sCap := sc) (cs := (r.drop i).flatten) Tryz.underlying41 hinf (L := (r.take i).flatten ++ [Value.string f.path, fv] ++ R1) hg1 (by rw [hd1, hi2, minR (by omega)]) (hsrc1 W2.drew hgg1) (by rw [hd1, List.length_append, List.length_append, ht1, hL2]; simp; omega) hone
    have hL3 : ((r.take i).flatten ++ [Value.string f.path, fv]).length = (i + 1) * 2 := by rw [List.length_append, ht1]; simp; omega
    have hL4 : ((r.take i).flatten ++ [Value.string f.path, fv] ++ R1).take ((i + 1) * 2) = (r.take i).flatten ++ [Value.string f.path, fv] := take_two hL3
    have hL5 : (((r.take i).flatten ++ [Value.string f.path, fv] ++ R1).drop ((i + 1) * 2 + ((r.drop i).flatten).length)).length = (Gc - (T.length + 1)) * 2 := by rw [List.length_drop, List.length_append, hL3, hL2, hd1]; omega
    rw [hL4] at hcp2
    generalize ((r.take i).flatten ++ [Value.string f.path, fv] ++ R1).drop ((i + 1) * 2 + ((r.drop i).flatten).length) = rest at hcp2 hL5
    have hg2 : (W2.drew.setRow G0 ((r.take i).flatten ++ [Value.string f.path, fv] ++ (r.drop i).flatten ++ rest).toArray).heap[G0]? = some (.cells ((r.take i).flatten ++ [Value.string f.path, fv] ++ (r.drop i).flatten ++ rest).toArray 117 (0, 0)) := setRow_heap W2.drew G0 _ _ _ _ hg1
    have hc2 := chg_setRow W2.drew G0 ((r.take i).flatten ++ [Value.string f.path, fv] ++ (r.drop i).flatten ++ rest).toArray
    generalize W2.drew.setRow G0 ((r.take i).flatten ++ [Value.string f.path, fv] ++ (r.drop i).flatten ++ rest).toArray = W3 at hcp2 hg2 hc2
    have hcc : Chg (fun k => k = G0) w W3 := (((hc0.mono (fun _ _ h => h.elim)).trans hc1).drew).trans hc2
    have hfin : Hid (OwnN 117 w0 W3 (.slice (some ⟨G0, 0, none⟩) (T.length + 1) Gc) (insAt T i f)) := by
      have hdl : (insAt T i f).length = T.length + 1 := by unfold insAt; rw [List.length_append, List.length_take, List.length_cons, List.length_drop]; omega
      have hrr := ((hRow.out.take i).app (show RdL w (fun k => Never k ∨ k = g) (f :: T.drop i) ([Value.string f.path, fv] :: r.drop i) from ⟨hf', hRow.out.drop i⟩)).keep (O'' := fun k => Never k ∨ k = G0) hcc (fun k hk h => by omega) (fun k hk h => h.elim (fun h => h.elim) (fun h => by omega))
      have := own_laid (e := 117) (w := W3) (O := Never) (l := insAt T i f) (g := G0) (cap := Gc) (r := r.take i ++ [Value.string f.path, fv] :: r.drop i) (tail := rest) (by rw [List.flatten_append, List.flatten_cons]; simp only [List.append_assoc] at hg2 ⊢; exact hg2)
        (by rw [List.flatten_append, List.flatten_cons, List.length_append, List.length_append, List.length_append, ht1, hd1, hL5]; show _ = Gc * 2; simp; omega) (by omega) hGm (fun h => h) hrr
      rw [hdl] at this
      have hws := hn.chg.size
      exact ⟨this, fun k hk => by injection hk with hk; subst hk; show w0.heap.size ≤ G0; omega, hn.chg.trans' hcc (fun k hk h => by omega)⟩
    have h18 : ¬ Gc = i := by omega
    have h19 : ¬ Gc = i + 1 := by omega
    have h22 : ¬ T.length = i := by omega
    have h20 : (T.length : Int) < (T.length : Int) + 1 := by omega
    clear hg hsz hr hrq hfl hsrc1 hsrc2 hone hone2 hd1 hE1 hg0 hg1 hg2 hc0 hc1 hc2 hcc hRow hinf hn hrl ht1 hf hf' hB hvB hL1 hL2 hL3 hL4 hL5 hold hA hgg1 hG0 hkk
    go_enter Tryz.func79, Tryz.ntmps79
    go_wp2_with (first
      | (at_builtin; refine Lib.wpList_append_run _ (by rfl) _ _ _ _ (by rfl) _ _ (by rfl) (by rfl) _ _ (hrz _) ?_)
      | (at_builtin; refine wpList_copy_eq _ (by rfl) _ _ 41 41 (by rfl) _ _ (by rfl) (by rfl) (hcp1 _ _) ?_))
    refine wp_region_held_drew (S := fun _ => True) (by kernel_rfl) trivial (fun hH => ?_)
    refine' tk 0 ?_
    refine' tk 1 ?_
    refine' tk 2 ?_
    refine' tk 3 ?_
    refine' tk 4 ?_
    refine' tk 5 ?_
    refine' tk 6 ?_
    refine' tk 7 ?_
    refine wpAnyH_ready (rs := [8]) (by kernel_rfl) (by simp) ?_
    refine AllReadyH.cons rfl (fun K hK => ?_) AllReadyH.nil
    refine step_copy_eq (by rfl) _ _ 41 41 (by rfl) _ _ (by rfl) (by rfl) (hcp2 _ _ _) ?_
    refine hK.out _ _ trivial (fun _ => ?_)
    clear hK K
    try simp only [Act.put, List.setIfInBounds_toArray, List.set_cons_zero, List.set_cons_succ]
    refine wpAnyH_done (by kernel_rfl) ?_ _
    go_wp2_with fail
    go_ret
    exact ⟨_, rfl, hfin.out⟩
theorem insert_any (T : List File) (i : Nat) (f : File) (v fv : Value) (w0 w : World) (B : Nat) (E : TypeId) (hn : OwnN 117 w0 w v T) (hi : i ≤ T.length) (hT : T.length ≤ 1000000)
    (hB : w.heap[B]? = some (.cells #[.string f.path, fv] E (0, 0))) (hvB : ∀ k, v.ownBlock = some k → k ≠ B) (hf : Dat.rd w (fun k => Never k ∨ v.ownBlock = some k) [.string f.path, fv] f) :
    Calls Tryz.prog 79 #[v, .int .i64 i, .slice (some ⟨B, 0, none⟩) 1 1] w fun e w' => ∃ r, e = .returned r ∧ OwnN 117 w0 w' r (insAt T i f) := by
  rcases Nat.lt_or_ge i T.length with h | h
  · exact insert_room T i f v fv w0 w B E hn h hT hB hvB hf
  · obtain rfl : i = T.length := by omega
    have e : insAt T T.length f = T ++ [f] := by unfold insAt; rw [List.take_length, List.drop_length]
    rw [e]
    exact insert_end T f v fv w0 w B E hn hT hB hvB hf
end Go.Proofs.YtjiaidchcldocaaGreatDoor
namespace Go.Proofs.YtjiaidchcldocaaGreatDoor
open Go.RowKit

end Go.Proofs.YtjiaidchcldocaaGreatDoor
namespace Go.Proofs.YtjiaidchcldocaaGreatDoor
open Go.RowKit

def hpieceOf (k : Int) (p : ByteArray) (h : Hunk) : List Change := [⟨k, p, [⟨h.new, h.new, h.marks⟩]⟩]
def piecesC (c : Change) : List (List Change) := if c.hunks = [] then [[c]] else c.hunks.map (hpieceOf c.what c.path)
def pieces (p : List Change) : List (List Change) := p.flatMap piecesC
theorem elemOk_changes : ElemOk Tryz.prog 22 51 1 := elemOk_of Tryz.underlying22 (z := .slice none 0 0) (b := 24) (by kernel_rfl) rfl (by decide)
end Go.Proofs.YtjiaidchcldocaaGreatDoor
namespace Go.Proofs.YtjiaidchcldocaaGreatDoor
open Go.RowKit

theorem elems_ints {w : World} {O : Nat → Prop} {a : Option Addr} {l : List Int} (h : Elems w O a l) {i : Nat} {x : Int} (hx : l[i]? = some x) :
    ∃ b off, a = some ⟨b, off, none⟩ ∧ ¬ O b ∧ w.cell? ⟨b, off + i, none⟩ = some (.int .i64 x) ∧ I64 x := by
  obtain ⟨b, off, es, ha, hb, hc, rfl, hr⟩ := h i x hx
  refine ⟨b, off, ha, hb, ?_, hr⟩
  have := hc 0 _ rfl
  rw [show off + i * Dat.n Int + 0 = off + i by show off + i * 1 + 0 = _; omega] at this
  exact this
end Go.Proofs.YtjiaidchcldocaaGreatDoor
namespace Go.Proofs.YtjiaidchcldocaaGreatDoor
open Go.RowKit
theorem elems_row {α : Type} [Dat α] {w : World} {O : Nat → Prop} {a : Option Addr} {l : List (List α)} (h : Elems w O a l) {i : Nat} {x : List α} (hx : l[i]? = some x) :
    ∃ b off v, a = some ⟨b, off, none⟩ ∧ ¬ O b ∧ b < w.heap.size ∧ w.cell? ⟨b, off + i, none⟩ = some v ∧ Rdv w O v x := by
  obtain ⟨b, off, es, ha, hb, hcs, hr⟩ := h i x hx
  obtain ⟨v, rfl⟩ : ∃ v, es = [v] := by
    have hl : es.length = 1 := Dat.len hr
    match es, hl with
    | [v], _ => exact ⟨v, rfl⟩
  refine ⟨b, off, v, ha, hb, hcs.lt (by simp), ?_, hr⟩
  have := hcs 0 v rfl
  simpa [Dat.n] using this
end Go.Proofs.YtjiaidchcldocaaGreatDoor
namespace Go.Proofs.YtjiaidchcldocaaGreatDoor
open Go.RowKit

end Go.Proofs.YtjiaidchcldocaaGreatDoor
namespace Go.Proofs.YtjiaidchcldocaaGreatDoor
open Go.RowKit Go.Maps

theorem int_law : Keyed Tryz.prog 3 := int_keyed Tryz.underlying3
theorem zero_int (w : World) : (zeroValue 3).run Tryz.prog w = .ok (.int .i64 0) w := by kernel_rfl
def IntMap (w : World) (b n : Nat) (F : Int → Int) : Prop :=
  ∃ D : DataW Unit, w.ownsMap Tryz.prog 3 (plainElem Tryz.prog 3) b n D ∧ IsMap D ∧ ∀ j, D.atKey (.int .i64 j) (.lit (.int .i64 0)) = .lit (.int .i64 (F j))
theorem IntMap.lt {w : World} {b n : Nat} {F : Int → Int} (h : IntMap w b n F) : b < w.heap.size := by
  obtain ⟨D, h1, _⟩ := h
  exact h1.lt
theorem IntMap.keep {w w' : World} {b n : Nat} {F : Int → Int} {O : Nat → Prop} (h : IntMap w b n F) (hc : Chg O w w') (hb : ¬ O b) : IntMap w' b n F := by
  have hlt := h.lt
  obtain ⟨D, ⟨es, clock, h1, h2⟩, h3⟩ := h
  exact ⟨D, ⟨es, clock, (hc.block b hlt hb).trans h1, h2⟩, h3⟩
theorem IntMap.mono {w : World} {b n n' : Nat} {F : Int → Int} (h : IntMap w b n F) (hn : n ≤ n') : IntMap w b n' F := by
  obtain ⟨D, h1, h2⟩ := h
  exact ⟨D, h1.mono hn, h2⟩
theorem wf_i64 {a : Int} (h : I64 a) : (Lit.int .i64 a).wf = true := by
  unfold I64 at h
  exact WalkArith.wf_i64 (by omega)
theorem IntMap.look {w : World} {b n : Nat} {F : Int → Int} (h : IntMap w b n F) {j : Int} (hj : I64 j) : (Instr.lookup 163 (.map (some b)) (.int .i64 j) false).run Tryz.prog w = .ok (.int .i64 (F j)) w := by
  obtain ⟨D, h1, h2, h3⟩ := h
  obtain ⟨c, hrun, hat, _⟩ := h1.lookup_int int_law Tryz.underlying163 Tryz.underlying3 (zero_int w) (keyOf_int_mk Tryz.underlying3 (wf_i64 hj))
  rw [h3 j] at hat
  simp only [DataW.lit.injEq, Lit.int.injEq, true_and] at hat
  rw [hat]
  exact hrun
theorem IntMap.put {w : World} {b n : Nat} {F : Int → Int} (h : IntMap w b n F) (hn : n < maxLen) {j c : Int} (hj : I64 j) (hc : I64 c) :
    ∃ w', (Instr.mapUpdate 163 (.map (some b)) (.int .i64 j) (.int .i64 c)).run Tryz.prog w = .ok () w' ∧ IntMap w' b (n + 1) (fun i => if i = j then c else F i) ∧ Chg (fun k => k = b) w w' := by
  obtain ⟨D, h1, h2, h3⟩ := h
  obtain ⟨w', hrun, r1, r2⟩ := h1.update int_law Tryz.underlying163 hn (keyOf_int_mk Tryz.underlying3 (wf_i64 hj)) (plainElem_int Tryz.underlying3 (wf_i64 hc))
  refine ⟨w', hrun, ⟨_, r1, h2.put _ _, fun i => ?_⟩, (Chg.of_grown r2).mono (fun k _ hk => (Option.some.inj hk).symm)⟩
  by_cases e : i = j
  · subst e
    show _ = DataW.lit (.int .i64 (if i = i then c else F i))
    rw [if_pos rfl]
    exact atKey_put_same h2 (by simp [WideAt.IsKeyLit]) _ _
  · show _ = DataW.lit (.int .i64 (if i = j then c else F i))
    rw [if_neg e, atKey_put_other (by simp [e])]
    exact h3 i
end Go.Proofs.YtjiaidchcldocaaGreatDoor
namespace Go.Proofs.YtjiaidchcldocaaGreatDoor

def delC (left : Nat → Bool) (k : Nat) : Nat → Bool := fun j => left j && j != k
def minGo (f : Nat → Int) (left : Nat → Bool) : Nat → Int
  | 0 => -1
  | k + 1 => if left k = true ∧ (minGo f left k < 0 ∨ f k < minGo f left k) then f k else minGo f left k
def bestS : List (List Int) → (Nat → Bool) → Int
  | [], _ => 0
  | row :: rest, left => minGo (fun k => row.getD k 0 + bestS rest (delC left k)) left row.length
def SqOk (n : Nat) (rows : List (List Int)) : Prop := ∀ row ∈ rows, row.length = n ∧ ∀ c ∈ row, 0 ≤ c
end Go.Proofs.YtjiaidchcldocaaGreatDoor
namespace Go.Proofs.YtjiaidchcldocaaGreatDoor
end Go.Proofs.YtjiaidchcldocaaGreatDoor
namespace Go.Proofs.YtjiaidchcldocaaGreatDoor

def SqBd (n : Nat) (rows : List (List Int)) : Prop := ∀ row ∈ rows, row.length = n ∧ ∀ c ∈ row, 0 ≤ c ∧ c ≤ 100000
theorem SqBd.ok {n : Nat} {rows : List (List Int)} (h : SqBd n rows) : SqOk n rows := fun r hr => ⟨(h r hr).1, fun c hc => ((h r hr).2 c hc).1⟩
theorem SqBd.drop {n : Nat} {rows : List (List Int)} (h : SqBd n rows) (k : Nat) : SqBd n (rows.drop k) := fun r hr => h r (List.mem_of_mem_drop hr)
theorem SqBd.tail {n : Nat} {row : List Int} {rest : List (List Int)} (h : SqBd n (row :: rest)) : SqBd n rest := fun r hr => h r (List.mem_cons_of_mem _ hr)
theorem SqBd.at {n : Nat} {row : List Int} {rest : List (List Int)} (h : SqBd n (row :: rest)) (k : Nat) : 0 ≤ row.getD k 0 ∧ row.getD k 0 ≤ 100000 := by
  rw [List.getD_eq_getElem?_getD]
  cases e : row[k]? with
  | none => exact ⟨Int.le_refl _, by decide⟩
  | some c => exact (h row (List.mem_cons_self ..)).2 c (List.mem_of_getElem? e)
end Go.Proofs.YtjiaidchcldocaaGreatDoor
namespace Go.Proofs.YtjiaidchcldocaaGreatDoor
end Go.Proofs.YtjiaidchcldocaaGreatDoor
namespace Go.Proofs.YtjiaidchcldocaaGreatDoor
open Go.RowKit

end Go.Proofs.YtjiaidchcldocaaGreatDoor
namespace Go.Proofs.YtjiaidchcldocaaGreatDoor
open Go.RowKit

theorem elemOk_ints : ElemOk Tryz.prog 23 3 1 := elemOk_of Tryz.underlying23 (z := .int .i64 0) (b := 8) (by kernel_rfl) rfl (by decide)
def MissTo (row : List Int) (rest : List (List Int)) (left : Nat → Bool) (k : Nat) : Prop := ∀ j, j < k → left j = true → row.getD j 0 + bestS rest (delC left j) ≠ bestS (row :: rest) left
theorem MissTo.step {row : List Int} {rest : List (List Int)} {left : Nat → Bool} {k : Nat} (h : MissTo row rest left k) (hk : left k = true → row.getD k 0 + bestS rest (delC left k) ≠ bestS (row :: rest) left) : MissTo row rest left (k + 1) := fun j hj hl => by
  by_cases e : j = k
  · subst e; exact hk hl
  · exact h j (by omega) hl

end Go.Proofs.YtjiaidchcldocaaGreatDoor
namespace Go.Proofs.YtjiaidchcldocaaGreatDoor
open Go.RowKit

def Odd (B0 B1 : Nat) : Nat → Prop := fun k => k < B0 ∨ B1 ≤ k
structure Rows4 (w wr : World) (vT vA vM vP : Value) (lT : List ByteArray) (lA lM : List Int) (lP : List (List Change)) : Prop where
  t : Own 9 wr (fun k => OwnB vA k ∨ OwnB vM k ∨ OwnB vP k) vT lT
  a : Own 3 wr (fun k => OwnB vT k ∨ OwnB vM k ∨ OwnB vP k) vA lA
  m : Own 3 wr (fun k => OwnB vT k ∨ OwnB vA k ∨ OwnB vP k) vM lM
  p : Own 51 wr (fun k => OwnB vT k ∨ OwnB vA k ∨ OwnB vM k) vP lP
  nT : ∀ k, OwnB vT k → w.heap.size ≤ k
  nA : ∀ k, OwnB vA k → w.heap.size ≤ k
  nM : ∀ k, OwnB vM k → w.heap.size ≤ k
  nP : ∀ k, OwnB vP k → w.heap.size ≤ k
  chg : Chg Never w wr
theorem Rows4.lts {w wr : World} {vT vA vM vP : Value} {lT : List ByteArray} {lA lM : List Int} {lP : List (List Change)} (h : Rows4 w wr vT vA vM vP lT lA lM lP) :
    (∀ k, OwnB vT k → k < wr.heap.size) ∧ (∀ k, OwnB vA k → k < wr.heap.size) ∧ (∀ k, OwnB vM k → k < wr.heap.size) ∧ ∀ k, OwnB vP k → k < wr.heap.size :=
  ⟨own_block_lt h.t, own_block_lt h.a, own_block_lt h.m, own_block_lt h.p⟩
theorem rows4_nil (w : World) : Rows4 w w (.slice none 0 0) (.slice none 0 0) (.slice none 0 0) (.slice none 0 0) [] [] [] [] := by
  have z : ∀ k, OwnB (.slice none 0 0) k → False := fun k h => by simp [OwnB, Value.ownBlock] at h
  exact ⟨own_nil _ _ _, own_nil _ _ _, own_nil _ _ _, own_nil _ _ _, fun k h => (z k h).elim, fun k h => (z k h).elim, fun k h => (z k h).elim, fun k h => (z k h).elim, Chg.refl _ _⟩
theorem Rows4.never {w wr w' : World} {vT vA vM vP : Value} {lT : List ByteArray} {lA lM : List Int} {lP : List (List Change)} (h : Rows4 w wr vT vA vM vP lT lA lM lP) (hc : Chg Never wr w') : Rows4 w w' vT vA vM vP lT lA lM lP :=
  ⟨h.t.never hc, h.a.never hc, h.m.never hc, h.p.never hc, h.nT, h.nA, h.nM, h.nP, h.chg.trans hc⟩
def Grew (wr : World) (v v' : Value) : Prop := ∃ k, v'.ownBlock = some k ∧ (v.ownBlock = some k ∨ wr.heap.size ≤ k)
theorem Grew.old {wr : World} {v v' : Value} (h : Grew wr v v') {k : Nat} (hk : k < wr.heap.size) (ho : OwnB v' k) : OwnB v k := by
  obtain ⟨j, e1, e2⟩ := h
  unfold OwnB at ho ⊢
  rw [e1] at ho
  injection ho with ho
  subst ho
  rcases e2 with e2 | e2
  · exact e2
  · omega
theorem Grew.from {wr : World} {v v' : Value} (h : Grew wr v v') {k : Nat} (ho : OwnB v' k) : OwnB v k ∨ wr.heap.size ≤ k := by
  obtain ⟨j, e1, e2⟩ := h
  unfold OwnB at ho ⊢
  rw [e1] at ho
  injection ho with ho
  subst ho
  exact e2
theorem Rows4.pushT {w wr w' : World} {vT vA vM vP vT' : Value} {lT lT' : List ByteArray} {lA lM : List Int} {lP : List (List Change)} (h : Rows4 w wr vT vA vM vP lT lA lM lP)
    (ho : Own 9 w' (fun k => OwnB vA k ∨ OwnB vM k ∨ OwnB vP k) vT' lT') (hc : Chg (OwnB vT) wr w') (hg : Grew wr vT vT') : Rows4 w w' vT' vA vM vP lT' lA lM lP :=
  ⟨ho, h.a.keep hc (fun _ _ q => .inl q) (fun k hk q => q.elim (fun q => .inl (hg.old hk q)) (fun q => .inr q)), h.m.keep hc (fun _ _ q => .inl q) (fun k hk q => q.elim (fun q => .inl (hg.old hk q)) (fun q => .inr q)), h.p.keep hc (fun _ _ q => .inl q) (fun k hk q => q.elim (fun q => .inl (hg.old hk q)) (fun q => .inr q)),
    fun k q => (hg.from q).elim (h.nT k) (fun q => Nat.le_trans h.chg.size q), h.nA, h.nM, h.nP, h.chg.trans' hc (fun i hi q => absurd (h.nT i q) (by omega))⟩
theorem Rows4.pushA {w wr w' : World} {vT vA vM vP vA' : Value} {lT : List ByteArray} {lA lM lA' : List Int} {lP : List (List Change)} (h : Rows4 w wr vT vA vM vP lT lA lM lP)
    (ho : Own 3 w' (fun k => OwnB vT k ∨ OwnB vM k ∨ OwnB vP k) vA' lA') (hc : Chg (OwnB vA) wr w') (hg : Grew wr vA vA') : Rows4 w w' vT vA' vM vP lT lA' lM lP :=
  ⟨h.t.keep hc (fun _ _ q => .inl q) (fun k hk q => q.elim (fun q => .inl (hg.old hk q)) (fun q => .inr q)), ho, h.m.keep hc (fun _ _ q => .inr (.inl q)) (fun k hk q => q.elim (fun q => .inl q) (fun q => .inr (q.elim (fun q => .inl (hg.old hk q)) (fun q => .inr q)))), h.p.keep hc (fun _ _ q => .inr (.inl q)) (fun k hk q => q.elim (fun q => .inl q) (fun q => .inr (q.elim (fun q => .inl (hg.old hk q)) (fun q => .inr q)))),
    h.nT, fun k q => (hg.from q).elim (h.nA k) (fun q => Nat.le_trans h.chg.size q), h.nM, h.nP, h.chg.trans' hc (fun i hi q => absurd (h.nA i q) (by omega))⟩
theorem Rows4.pushM {w wr w' : World} {vT vA vM vP vM' : Value} {lT : List ByteArray} {lA lM lM' : List Int} {lP : List (List Change)} (h : Rows4 w wr vT vA vM vP lT lA lM lP)
    (ho : Own 3 w' (fun k => OwnB vT k ∨ OwnB vA k ∨ OwnB vP k) vM' lM') (hc : Chg (OwnB vM) wr w') (hg : Grew wr vM vM') : Rows4 w w' vT vA vM' vP lT lA lM' lP :=
  ⟨h.t.keep hc (fun _ _ q => .inr (.inl q)) (fun k hk q => q.elim (fun q => .inl q) (fun q => .inr (q.elim (fun q => .inl (hg.old hk q)) (fun q => .inr q)))), h.a.keep hc (fun _ _ q => .inr (.inl q)) (fun k hk q => q.elim (fun q => .inl q) (fun q => .inr (q.elim (fun q => .inl (hg.old hk q)) (fun q => .inr q)))), ho, h.p.keep hc (fun _ _ q => .inr (.inr q)) (fun k hk q => q.elim (fun q => .inl q) (fun q => .inr (q.elim (fun q => .inl q) (fun q => .inr (hg.old hk q))))),
    h.nT, h.nA, fun k q => (hg.from q).elim (h.nM k) (fun q => Nat.le_trans h.chg.size q), h.nP, h.chg.trans' hc (fun i hi q => absurd (h.nM i q) (by omega))⟩
theorem Rows4.pushP {w wr w' : World} {vT vA vM vP vP' : Value} {lT : List ByteArray} {lA lM : List Int} {lP lP' : List (List Change)} (h : Rows4 w wr vT vA vM vP lT lA lM lP)
    (ho : Own 51 w' (fun k => OwnB vT k ∨ OwnB vA k ∨ OwnB vM k) vP' lP') (hc : Chg (OwnB vP) wr w') (hg : Grew wr vP vP') : Rows4 w w' vT vA vM vP' lT lA lM lP' :=
  ⟨h.t.keep hc (fun _ _ q => .inr (.inr q)) (fun k hk q => q.elim (fun q => .inl q) (fun q => .inr (q.elim (fun q => .inl q) (fun q => .inr (hg.old hk q))))), h.a.keep hc (fun _ _ q => .inr (.inr q)) (fun k hk q => q.elim (fun q => .inl q) (fun q => .inr (q.elim (fun q => .inl q) (fun q => .inr (hg.old hk q))))), h.m.keep hc (fun _ _ q => .inr (.inr q)) (fun k hk q => q.elim (fun q => .inl q) (fun q => .inr (q.elim (fun q => .inl q) (fun q => .inr (hg.old hk q))))), ho,
    h.nT, h.nA, h.nM, fun k q => (hg.from q).elim (h.nP k) (fun q => Nat.le_trans h.chg.size q), h.chg.trans' hc (fun i hi q => absurd (h.nP i q) (by omega))⟩
theorem Rows4.oT {w wr : World} {vT vA vM vP : Value} {lT : List ByteArray} {lA lM : List Int} {lP : List (List Change)} (h : Rows4 w wr vT vA vM vP lT lA lM lP) : ∀ k, (OwnB vA k ∨ OwnB vM k ∨ OwnB vP k) → k < wr.heap.size := fun k q => by
  obtain ⟨h1, h2, h3, h4⟩ := h.lts
  rcases q with q | q | q
  · exact h2 k q
  · exact h3 k q
  · exact h4 k q
theorem Rows4.oA {w wr : World} {vT vA vM vP : Value} {lT : List ByteArray} {lA lM : List Int} {lP : List (List Change)} (h : Rows4 w wr vT vA vM vP lT lA lM lP) : ∀ k, (OwnB vT k ∨ OwnB vM k ∨ OwnB vP k) → k < wr.heap.size := fun k q => by
  obtain ⟨h1, h2, h3, h4⟩ := h.lts
  rcases q with q | q | q
  · exact h1 k q
  · exact h3 k q
  · exact h4 k q
theorem Rows4.oM {w wr : World} {vT vA vM vP : Value} {lT : List ByteArray} {lA lM : List Int} {lP : List (List Change)} (h : Rows4 w wr vT vA vM vP lT lA lM lP) : ∀ k, (OwnB vT k ∨ OwnB vA k ∨ OwnB vP k) → k < wr.heap.size := fun k q => by
  obtain ⟨h1, h2, h3, h4⟩ := h.lts
  rcases q with q | q | q
  · exact h1 k q
  · exact h2 k q
  · exact h4 k q
theorem Rows4.oP {w wr : World} {vT vA vM vP : Value} {lT : List ByteArray} {lA lM : List Int} {lP : List (List Change)} (h : Rows4 w wr vT vA vM vP lT lA lM lP) : ∀ k, (OwnB vT k ∨ OwnB vA k ∨ OwnB vM k) → k < wr.heap.size := fun k q => by
  obtain ⟨h1, h2, h3, h4⟩ := h.lts
  rcases q with q | q | q
  · exact h1 k q
  · exact h2 k q
  · exact h3 k q
theorem Grew.odd {wr : World} {v v' : Value} {B0 B1 : Nat} (h : Grew wr v v') (ho : ∀ k, OwnB v k → Odd B0 B1 k) (hs : B1 ≤ wr.heap.size) : ∀ k, OwnB v' k → Odd B0 B1 k := fun k q => (h.from q).elim (ho k) (fun q => .inr (Nat.le_trans hs q))
end Go.Proofs.YtjiaidchcldocaaGreatDoor
namespace Go.Proofs.YtjiaidchcldocaaGreatDoor

def patW : List UInt8 := [91, 80, 65, 84, 67, 72, 32]
def handW : List UInt8 := [104, 97, 110, 100, 115, 116, 105, 116, 99, 104]
def titledB (s : List UInt8) : Bool := !(s == []) && decide (s.length ≤ 20) && s.all fun c => decide (32 ≤ c.toNat) && decide (c.toNat ≤ 126)
def subjL (a b : Nat) (t : List UInt8) : List UInt8 := patW ++ (Lib.decDigits a ++ [47] ++ (Lib.decDigits b ++ [93, 32] ++ t))
def idL (a b : Nat) : List UInt8 := Lib.decDigits a ++ [46] ++ Lib.decDigits b
def mpartOf (m : Mail) : Option (List UInt8 × Nat × Nat) := match dropPre patW m.subject.data.toList with
  | none => none
  | some s => match cutSub [47] s with
    | none => none
    | some (a, s) => match cutSub [93, 32] s with
      | none => none
      | some (b, t) => match numOf a with
        | none => none
        | some x => match numOf b with
          | none => none
          | some y => if x ≤ y ∧ y ≤ 8 ∧ titledB t = true ∧ m.sender.data.toList = handW ∧ m.ident.data.toList = idL x y ∧ ¬ (x = 0 ∧ m.body ≠ []) then some (t, x, y) else none
def partMail (t : List UInt8) (a b : Nat) (body : List UInt8) : Mail := ⟨toB handW, toB (subjL a b t), toB (idL a b), body⟩
theorem part_back {t body : List UInt8} {a b : Nat} (hab : a ≤ b) (hb : b ≤ 8) (ht : titledB t = true) (h0 : a = 0 → body = []) : mpartOf (partMail t a b body) = some (t, a, b) := by
  have dig : ∀ {n : Nat} (x : UInt8), n < 1000 → (x.toNat < 48 ∨ 57 < x.toNat) → ∀ c ∈ Lib.decDigits n, c ≠ x := fun x hn hx c hc e => by
    have := dec_digit hn hc
    rw [e] at this; omega
  unfold mpartOf partMail
  simp only [toB_data]
  unfold subjL
  rw [pre_app]
  simp only
  rw [cut_at (x := 47) (t := []) _ (dig 47 (by omega) (by decide))]
  simp only
  rw [cut_at (x := 93) (t := [32]) _ (dig 93 (by omega) (by decide))]
  simp only
  rw [num_dec (by omega)]
  simp only
  rw [num_dec (by omega)]
  simp only
  rw [if_pos ⟨hab, hb, ht, trivial, trivial, fun ⟨q, r⟩ => r (h0 q)⟩]
theorem part_some {m : Mail} {t : List UInt8} {a b : Nat} (h : mpartOf m = some (t, a, b)) : a ≤ b ∧ b ≤ 8 ∧ titledB t = true ∧ (a = 0 → m.body = []) ∧ m = partMail t a b m.body := by
  unfold mpartOf at h
  cases h1 : dropPre patW m.subject.data.toList with
  | none => rw [h1] at h; cases h
  | some s =>
    rw [h1] at h
    simp only at h
    cases h2 : cutSub [47] s with
    | none => rw [h2] at h; cases h
    | some p =>
      obtain ⟨u, s2⟩ := p
      rw [h2] at h
      simp only at h
      cases h3 : cutSub [93, 32] s2 with
      | none => rw [h3] at h; cases h
      | some p =>
        obtain ⟨v, t'⟩ := p
        rw [h3] at h
        simp only at h
        cases h4 : numOf u with
        | none => rw [h4] at h; cases h
        | some x =>
          rw [h4] at h
          simp only at h
          cases h5 : numOf v with
          | none => rw [h5] at h; cases h
          | some y =>
            rw [h5] at h
            simp only at h
            split at h
            · rename_i q
              injection h with h
              injection h with e1 h
              injection h with e2 e3
              subst e1; subst e2; subst e3
              obtain ⟨q1, q2, q3, q4, q5, q6⟩ := q
              refine ⟨q1, q2, q3, fun z => ?_, ?_⟩
              · by_cases w : m.body = []
                · exact w
                · exact absurd ⟨z, w⟩ q6
              · have es : m.subject.data.toList = subjL x y t' := by
                  unfold subjL
                  rw [pre_some h1, cut_some h2, cut_some h3, (num_some h4).2, (num_some h5).2]
                obtain ⟨ms, mu, mi, mb⟩ := m
                simp only at es q4 q5
                unfold partMail
                rw [← es, ← q4, ← q5, toB_of, toB_of, toB_of]
            · cases h
end Go.Proofs.YtjiaidchcldocaaGreatDoor
namespace Go.Proofs.YtjiaidchcldocaaGreatDoor

structure Piece where
  title : List UInt8
  at' : Nat
  many : Nat
  patch : List Change
  deriving DecidableEq
def getP (ps : List Piece) (k : Nat) : List Change := ((ps.find? fun x => x.at' == k).map (·.patch)).getD []
def openPs : List Piece → List UInt8 × List (List Change) × Int
  | [] => ([], [], 4)
  | x :: r => if (x :: r).all (fun y => y.title == x.title && y.many == x.many) = false then ([], [], 2)
    else if ¬ ((x :: r).map (·.at')).Nodup then ([], [], 6)
    else if (x :: r).length ≤ x.many then ([], [], 4)
    else (x.title, (List.range x.many).map fun i => getP (x :: r) (i + 1), 0)
theorem findp_only {x : Piece} : ∀ {ps : List Piece}, (ps.map (·.at')).Nodup → x ∈ ps → ps.find? (fun y => y.at' == x.at') = some x
  | [], _, h => by cases h
  | y :: r, hn, h => by
    rw [List.map_cons, List.nodup_cons] at hn
    rw [List.find?_cons]
    rcases List.mem_cons.1 h with rfl | h
    · simp
    · have : (y.at' == x.at') = false := by
        rw [beq_eq_false_iff_ne]
        intro e
        exact hn.1 (List.mem_map.2 ⟨x, h, e.symm⟩)
      rw [this]
      exact findp_only hn.2 h
end Go.Proofs.YtjiaidchcldocaaGreatDoor
namespace Go.Proofs.YtjiaidchcldocaaGreatDoor

def signOf (m : Mark) : UInt8 := UInt8.ofNat m.sign.toNat
def markL (m : Mark) : List UInt8 := signOf m :: m.text.data.toList
def hunkL (h : Hunk) : List (List UInt8) := headL h.old (oldN h.marks) h.new (newN h.marks) :: h.marks.map markL
def linesU (l : List Hunk) : List (List UInt8) := l.flatMap hunkL
def textL (l : List (List UInt8)) : List UInt8 := (l.map fun x => x ++ [10]).flatten
def textU (l : List Hunk) : List UInt8 := textL (linesU l)
def addMark : List Hunk → Mark → List Hunk
  | [], _ => []
  | [h], m => [⟨h.old, h.new, h.marks ++ [m]⟩]
  | h :: k :: r, m => h :: addMark (k :: r) m
def readLine (hs : List Hunk) (o n : Nat) (s : List UInt8) : Option (List Hunk × Nat × Nat) :=
  if 0 < o ∨ 0 < n then match s with
    | [] => none
    | c :: r => if c = 32 ∧ 0 < o ∧ 0 < n then some (addMark hs ⟨32, toB r⟩, o - 1, n - 1)
      else if c = 45 ∧ 0 < o then some (addMark hs ⟨45, toB r⟩, o - 1, n)
      else if c = 43 ∧ 0 < n then some (addMark hs ⟨43, toB r⟩, o, n - 1) else none
  else match headOf s with
    | none => none
    | some (a, x, b, y) => some (hs ++ [⟨a, b, []⟩], x, y)
theorem add_mark : ∀ (hs : List Hunk) (h : Hunk) (m : Mark), addMark (hs ++ [h]) m = hs ++ [⟨h.old, h.new, h.marks ++ [m]⟩]
  | [], _, _ => rfl
  | [k], h, m => rfl
  | k :: j :: r, h, m => by
    have := add_mark (j :: r) h m
    rw [List.cons_append, List.cons_append] at *
    rw [addMark, this]; rfl
def SignOk (m : Mark) : Prop := m.sign = 32 ∨ m.sign = 45 ∨ m.sign = 43
theorem oldN_cons (m : Mark) (ms : List Mark) : oldN (m :: ms) = (if m.sign ≠ 43 then 1 else 0) + oldN ms := by
  unfold oldN those
  rw [List.filter_cons]
  by_cases h : m.sign = 43
  · rw [if_neg (by simp [h]), if_neg (by simp [h]), Nat.zero_add]
  · rw [if_pos (by simp [h]), if_pos h, List.map_cons, List.length_cons, Nat.add_comm]
theorem newN_cons (m : Mark) (ms : List Mark) : newN (m :: ms) = (if m.sign ≠ 45 then 1 else 0) + newN ms := by
  unfold newN those
  rw [List.filter_cons]
  by_cases h : m.sign = 45
  · rw [if_neg (by simp [h]), if_neg (by simp [h]), Nat.zero_add]
  · rw [if_pos (by simp [h]), if_pos h, List.map_cons, List.length_cons, Nat.add_comm]
def HeadOk (h : Hunk) : Prop := 0 ≤ h.old ∧ h.old < 999 ∧ 0 ≤ h.new ∧ h.new < 999 ∧ oldN h.marks < 1000 ∧ newN h.marks < 1000 ∧ ∀ m ∈ h.marks, SignOk m
end Go.Proofs.YtjiaidchcldocaaGreatDoor
namespace Go.Proofs.YtjiaidchcldocaaGreatDoor

theorem mark_ok {m : Mark} (h : markFault m = 0) : SignOk m ∧ (∀ c ∈ m.text.data.toList, c ≠ 10) ∧ m.text.size ≤ 80 := by
  unfold markFault at h
  by_cases hs : m.sign ≠ 32 ∧ m.sign ≠ 45 ∧ m.sign ≠ 43
  · rw [if_pos hs] at h; cases h
  · rw [if_neg hs] at h
    unfold lineFault at h
    cases hn : hasNl m.text with
    | true => rw [hn] at h; cases h
    | false =>
      rw [hn] at h
      refine ⟨?_, fun c hc e => ?_, ?_⟩
      · unfold SignOk
        by_cases h1 : m.sign = 32
        · exact .inl h1
        · by_cases h2 : m.sign = 45
          · exact .inr (.inl h2)
          · by_cases h3 : m.sign = 43
            · exact .inr (.inr h3)
            · exact absurd ⟨h1, h2, h3⟩ hs
      · subst e
        unfold hasNl at hn
        rw [List.contains_iff_mem.2 hc] at hn; cases hn
      · by_cases hz : 80 < m.text.size
        · rw [if_neg (by decide), if_pos hz] at h; cases h
        · omega
theorem marks_ok {ms : List Mark} (h : scriptFault ms = 0) : ∀ m ∈ ms, markFault m = 0 := by
  unfold scriptFault at h
  by_cases hl : 120 < ms.length
  · rw [if_pos hl] at h; cases h
  · rw [if_neg hl] at h
    exact (firstOf_zero markFault ms).1 h
theorem one_ok {h : Hunk} {fin more : Int} (e : oneFault h fin more = 0) : (∀ m ∈ h.marks, markFault m = 0) ∧ 0 ≤ h.old ∧ 0 ≤ h.new ∧ h.old + oldN h.marks ≤ 60 ∧ h.new + newN h.marks ≤ 60 ∧ fin ≤ h.old ∧ h.new = h.old + more := by
  unfold oneFault at e
  by_cases h1 : scriptFault h.marks ≠ 0
  · rw [if_pos h1] at e; exact absurd e h1
  · rw [if_neg h1] at e
    by_cases h2 : hasChange h.marks = false
    · rw [if_pos h2] at e; cases e
    · rw [if_neg h2] at e
      by_cases h3 : h.old < 0 ∨ 60 < h.old ∨ h.new < 0 ∨ 60 < h.new ∨ 60 < h.old + oldN h.marks ∨ 60 < h.new + newN h.marks
      · rw [if_pos h3] at e; cases e
      · rw [if_neg h3] at e
        by_cases h4 : h.old < fin ∨ h.new ≠ h.old + more
        · rw [if_pos h4] at e; cases e
        · refine ⟨marks_ok (by simpa using h1), ?_, ?_, ?_, ?_, ?_, ?_⟩ <;> omega
theorem one_head {h : Hunk} {fin more : Int} (e : oneFault h fin more = 0) : HeadOk h := by
  obtain ⟨q1, q2, q3, q4, q5, _⟩ := one_ok e
  exact ⟨q2, by omega, q3, by omega, by omega, by omega, fun m hm => (mark_ok (q1 m hm)).1⟩
theorem dec_len {n : Nat} (h : n < 1000) : (Lib.decDigits n).length ≤ 3 := by rw [digits_three h]; exact dec3_len n h
theorem span_len {a : Int} {m : Nat} (h0 : 0 ≤ a) (h1 : a < 999) (hm : m < 1000) : (spanL a m).length ≤ 7 := by
  obtain ⟨x, hx, hx3⟩ : ∃ x : Nat, (if 0 < m then a + 1 else a) = (x : Int) ∧ x < 1000 := ⟨(if 0 < m then a + 1 else a).toNat, by split <;> omega, by split <;> omega⟩
  unfold spanL
  rw [hx, itoa_nat, itoa_nat, List.length_append, List.length_append]
  have := dec_len hx3
  have := dec_len hm
  simp only [List.length_singleton]
  omega
theorem head_len {h : Hunk} (hh : HeadOk h) : (headL h.old (oldN h.marks) h.new (newN h.marks)).length ≤ 23 := by
  obtain ⟨h1, h2, h3, h4, h5, h6, _⟩ := hh
  have := span_len h1 h2 h5
  have := span_len h3 h4 h6
  unfold headL atAt endAt
  simp only [List.length_append, List.length_cons, List.length_nil]
  omega
theorem marks_len : ∀ (ms : List Mark), (∀ m ∈ ms, markFault m = 0) → (textL (ms.map markL)).length ≤ 82 * (oldN ms + newN ms)
  | [], _ => by simp [textL]
  | m :: ms, h => by
    have ih := marks_len ms fun k hk => h k (List.mem_cons_of_mem _ hk)
    obtain ⟨q1, _, q3⟩ := mark_ok (h m (List.mem_cons_self ..))
    have e : (textL ((m :: ms).map markL)).length = m.text.size + 2 + (textL (ms.map markL)).length := by
      show (markL m ++ [10] ++ textL (ms.map markL)).length = _
      unfold markL
      simp only [List.length_append, List.length_cons, List.length_nil, Array.length_toList, ByteArray.size_data]
    rw [e, oldN_cons, newN_cons]
    have : 1 ≤ (if m.sign ≠ 43 then 1 else 0) + (if m.sign ≠ 45 then 1 else 0) := by
      rcases q1 with q | q | q <;> rw [q] <;> decide
    omega
theorem textL_app (a b : List (List UInt8)) : textL (a ++ b) = textL a ++ textL b := by unfold textL; rw [List.map_append, List.flatten_append]
theorem hunk_len {h : Hunk} {fin more : Int} (e : oneFault h fin more = 0) : (textL (hunkL h)).length ≤ 24 + 82 * (oldN h.marks + newN h.marks) := by
  have h1 := head_len (one_head e)
  have h2 := marks_len h.marks (one_ok e).1
  have : (textL (hunkL h)).length = (headL h.old (oldN h.marks) h.new (newN h.marks)).length + 1 + (textL (h.marks.map markL)).length := by
    show (headL h.old (oldN h.marks) h.new (newN h.marks) ++ [10] ++ textL (h.marks.map markL)).length = _
    simp only [List.length_append, List.length_singleton]
  omega
theorem go_ok : ∀ (l : List Hunk) (i : Nat) (fin more : Int), fin ≤ 60 → fin + more ≤ 60 → (hunksGo i fin more l).2 = 0 →
    (∀ h ∈ l, HeadOk h) ∧ (∀ x ∈ linesU l, ∀ c ∈ x, c ≠ 10) ∧ ((textL (linesU l)).length : Int) ≤ 24 * l.length + 82 * ((60 - fin) + (60 - fin - more))
  | [], _, fin, more, h1, h2, _ => ⟨fun _ h => (by cases h), fun _ h => (by cases h), by show (0 : Int) ≤ 24 * 0 + _; omega⟩
  | h :: l, i, fin, more, h1, h2, e => by
    rw [hunksGo] at e
    by_cases h0 : oneFault h fin more = 0
    · rw [if_pos h0] at e
      obtain ⟨q1, q2, q3, q4, q5, q6, q7⟩ := one_ok h0
      obtain ⟨i1, i2, i3⟩ := go_ok l (i + 1) (h.old + oldN h.marks) (more + newN h.marks - oldN h.marks) (by omega) (by omega) e
      have hl := hunk_len h0
      have eu : linesU (h :: l) = hunkL h ++ linesU l := rfl
      refine ⟨fun k hk => ?_, fun x hx c hc => ?_, ?_⟩
      · rcases List.mem_cons.1 hk with rfl | hk
        · exact one_head h0
        · exact i1 k hk
      · rw [eu] at hx
        rcases List.mem_append.1 hx with hx | hx
        · obtain ⟨a1, a2, a3, a4, a5, a6, a7⟩ := one_head h0
          rcases List.mem_cons.1 hx with rfl | hx
          · have dig : ∀ {a : Int} {m : Nat}, 0 ≤ a → a < 999 → m < 1000 → ∀ d ∈ spanL a m, d ≠ 10 := fun b0 b1 b2 d hd e => by
              have := span_chars b0 b1 b2 hd
              rw [e] at this
              exact absurd this (by decide)
            unfold headL atAt endAt at hc
            intro e
            rcases List.mem_append.1 hc with hc | hc
            · rw [e] at hc; exact absurd hc (by decide)
            · rcases List.mem_append.1 hc with hc | hc
              · rcases List.mem_append.1 hc with hc | hc
                · rcases List.mem_append.1 hc with hc | hc
                  · exact dig a1 a2 a5 c hc e
                  · rw [e] at hc; exact absurd hc (by decide)
                · exact dig a3 a4 a6 c hc e
              · rw [e] at hc; exact absurd hc (by decide)
          · obtain ⟨m, hm, rfl⟩ := List.mem_map.1 hx
            obtain ⟨s1, s2, _⟩ := mark_ok (q1 m hm)
            rcases List.mem_cons.1 hc with rfl | hc
            · unfold signOf
              rcases s1 with s | s | s <;> rw [s] <;> decide
            · exact s2 c hc
        · exact i2 x hx c hc
      · rw [eu, textL_app, List.length_append, List.length_cons]
        omega
    · rw [if_neg h0] at e
      exact absurd e h0
theorem hunks_ok {l : List Hunk} (e : (hunksFault l).2 = 0) : (∀ h ∈ l, HeadOk h) ∧ (∀ x ∈ linesU l, ∀ c ∈ x, c ≠ 10) ∧ (textU l).length ≤ 400000 := by
  unfold hunksFault at e
  by_cases hl : 60 < l.length
  · rw [if_pos hl] at e; cases e
  · rw [if_neg hl] at e
    obtain ⟨h1, h2, h3⟩ := go_ok l 0 0 0 (by decide) (by decide) e
    refine ⟨h1, h2, ?_⟩
    show (textL (linesU l)).length ≤ _
    omega
end Go.Proofs.YtjiaidchcldocaaGreatDoor
namespace Go.Proofs.YtjiaidchcldocaaGreatDoor

def noneL : List UInt8 := [47, 100, 101, 118, 47, 110, 117, 108, 108]
def mmL : List UInt8 := [45, 45, 45, 32]
def ppL : List UInt8 := [43, 43, 43, 32]
def fromL (w : Int) (p : List UInt8) : List UInt8 := if w = 2 then noneL else [97, 47] ++ p
def toL (w : Int) (p : List UInt8) : List UInt8 := if w = 3 then noneL else [98, 47] ++ p
def changeL (c : Change) : List (List UInt8) := (mmL ++ fromL c.what c.path.data.toList) :: (ppL ++ toL c.what c.path.data.toList) :: linesU c.hunks
def linesG (p : List Change) : List (List UInt8) := p.flatMap changeL
def headedR (a b : List UInt8) : Option (Int × List UInt8) := match dropPre [97, 47] a, dropPre [98, 47] b with
  | some f, some t => if f = t then some (1, f) else none
  | none, some t => if a = noneL then some (2, t) else none
  | some f, none => if b = noneL then some (3, f) else none
  | none, none => none
def headedL (a b : List UInt8) : Option (Int × List UInt8) := match dropPre mmL a, dropPre ppL b with
  | some a, some b => headedR a b
  | _, _ => none
theorem headed_some {a b p : List UInt8} {w : Int} (h : headedL a b = some (w, p)) : (w = 1 ∨ w = 2 ∨ w = 3) ∧ a = mmL ++ fromL w p ∧ b = ppL ++ toL w p := by
  unfold headedL at h
  cases ha : dropPre mmL a with
  | none => rw [ha] at h; cases h
  | some x =>
    cases hb : dropPre ppL b with
    | none => rw [ha, hb] at h; cases h
    | some y =>
      rw [ha, hb] at h
      simp only at h
      rw [pre_some ha, pre_some hb]
      unfold headedR at h
      cases hf : dropPre [97, 47] x with
      | none =>
        cases ht : dropPre [98, 47] y with
        | none => rw [hf, ht] at h; cases h
        | some t =>
          rw [hf, ht] at h
          simp only at h
          by_cases e : x = noneL
          · rw [if_pos e] at h
            injection h with h
            injection h with h1 h2
            subst h1; subst h2
            exact ⟨.inr (.inl rfl), by rw [e]; rfl, by rw [pre_some ht]; rfl⟩
          · rw [if_neg e] at h; cases h
      | some f =>
        cases ht : dropPre [98, 47] y with
        | none =>
          rw [hf, ht] at h
          simp only at h
          by_cases e : y = noneL
          · rw [if_pos e] at h
            injection h with h
            injection h with h1 h2
            subst h1; subst h2
            exact ⟨.inr (.inr rfl), by rw [pre_some hf]; rfl, by rw [e]; rfl⟩
          · rw [if_neg e] at h; cases h
        | some t =>
          rw [hf, ht] at h
          simp only at h
          by_cases e : f = t
          · rw [if_pos e] at h
            injection h with h
            injection h with h1 h2
            subst h1; subst h2
            exact ⟨.inl rfl, by rw [pre_some hf]; rfl, by rw [pre_some ht, e]; rfl⟩
          · rw [if_neg e] at h; cases h
def hunkHead (s : List UInt8) : Bool := [64, 64].isPrefixOf s
def takeU : List (List UInt8) → List Hunk → Nat → Nat → Option (List Hunk × List (List UInt8))
  | [], hs, o, n => if 0 < o ∨ 0 < n then none else some (hs, [])
  | s :: r, hs, o, n => if (0 < o ∨ 0 < n) ∨ hunkHead s = true then match readLine hs o n s with
      | none => none
      | some (hs', o', n') => takeU r hs' o' n'
    else some (hs, s :: r)
def changesG : Nat → List (List UInt8) → Option (List Change)
  | _, [] => some []
  | 0, _ :: _ => none
  | _ + 1, [_] => none
  | k + 1, a :: b :: r => match headedL a b with
    | none => none
    | some (w, p) => match takeU r [] 0 0 with
      | none => none
      | some (hs, rest) => (changesG k rest).map fun q => ⟨w, toB p, hs⟩ :: q
theorem take_cons {s : List UInt8} {hs hs' : List Hunk} {o n o' n' : Nat} (h0 : (0 < o ∨ 0 < n) ∨ hunkHead s = true) (h : readLine hs o n s = some (hs', o', n')) (r : List (List UInt8)) : takeU (s :: r) hs o n = takeU r hs' o' n' := by
  rw [takeU, if_pos h0, h]
end Go.Proofs.YtjiaidchcldocaaGreatDoor
namespace Go.Proofs.YtjiaidchcldocaaGreatDoor

def textG (p : List Change) : List UInt8 := textL (linesG p)
def parseG (s : List UInt8) : List Change × Int :=
  if 400000 < s.length then ([], 5) else match changesG (parts 10 s).dropLast.length (parts 10 s).dropLast with
  | none => ([], 5)
  | some p => if (parts 10 s).getLast? ≠ some [] then ([], 5) else if (patchFault p).2 ≠ 0 then ([], (patchFault p).2) else (p, 0)
theorem parts_has {d c : UInt8} : ∀ {s : List UInt8}, c ∈ s → c = d ∨ ∃ x ∈ parts d s, c ∈ x
  | [], h => by cases h
  | e :: r, h => by
    obtain ⟨h', t, er⟩ := List.exists_cons_of_ne_nil (parts_ne d r)
    by_cases he : e = d
    · subst he
      rw [parts_sep]
      rcases List.mem_cons.1 h with rfl | h
      · exact .inl rfl
      · rcases parts_has (d := e) h with q | ⟨x, hx, q⟩
        · exact .inl q
        · exact .inr ⟨x, List.mem_cons_of_mem _ hx, q⟩
    · rw [parts_other he er]
      rcases List.mem_cons.1 h with rfl | h
      · exact .inr ⟨c :: h', List.mem_cons_self .., List.mem_cons_self ..⟩
      · rcases parts_has (d := d) h with q | ⟨x, hx, q⟩
        · exact .inl q
        · rw [er] at hx
          rcases List.mem_cons.1 hx with rfl | hx
          · exact .inr ⟨e :: x, List.mem_cons_self .., List.mem_cons_of_mem _ q⟩
          · exact .inr ⟨x, List.mem_cons_of_mem _ hx, q⟩
theorem path_fine {s : ByteArray} (h : pathFault s = 0) : s.data.toList.length ≤ 20 ∧ ∀ c ∈ s.data.toList, c ≠ 10 := by
  unfold pathFault at h
  by_cases hl : 20 < s.size
  · rw [if_pos hl] at h; cases h
  · rw [if_neg hl] at h
    refine ⟨by simpa using Nat.le_of_not_lt hl, fun c hc e => ?_⟩
    by_cases ha : (parts 47 s.data.toList).all nameOk = true
    · subst e
      rcases parts_has (d := 47) hc with q | ⟨x, hx, q⟩
      · exact absurd q (by decide)
      · have := List.all_eq_true.1 ha x hx
        unfold nameOk at this
        rw [Bool.and_eq_true] at this
        exact absurd (List.all_eq_true.1 this.2 10 q) (by decide)
    · rw [if_neg ha] at h; cases h
theorem change_ok {c : Change} (h : changeFault c = 0) : (c.what = 1 ∨ c.what = 2 ∨ c.what = 3) ∧ pathFault c.path = 0 ∧ (hunksFault c.hunks).2 = 0 := by
  unfold changeFault at h
  by_cases h1 : c.what < 1 ∨ 3 < c.what
  · rw [if_pos h1] at h; cases h
  · rw [if_neg h1] at h
    by_cases h2 : pathFault c.path ≠ 0
    · rw [if_pos h2] at h; exact absurd h h2
    · rw [if_neg h2] at h
      by_cases h3 : (hunksFault c.hunks).2 ≠ 0
      · rw [if_pos h3] at h; exact absurd h h3
      · exact ⟨by omega, by simpa using h2, by simpa using h3⟩
theorem hunks_short {l : List Hunk} (e : (hunksFault l).2 = 0) : (textL (linesU l)).length ≤ 11280 := by
  unfold hunksFault at e
  by_cases hl : 60 < l.length
  · rw [if_pos hl] at e; cases e
  · rw [if_neg hl] at e
    obtain ⟨_, _, h3⟩ := go_ok l 0 0 0 (by decide) (by decide) e
    omega
theorem noneL_10 : ∀ c ∈ noneL, c ≠ 10 := by decide
theorem from_fine (w : Int) {p : List UInt8} (h : p.length ≤ 20 ∧ ∀ c ∈ p, c ≠ 10) : (mmL ++ fromL w p).length ≤ 26 ∧ (∀ c ∈ mmL ++ fromL w p, c ≠ 10) ∧ (ppL ++ toL w p).length ≤ 26 ∧ (∀ c ∈ ppL ++ toL w p, c ≠ 10) := by
  have ha : ∀ c ∈ mmL, c ≠ 10 := by decide
  have hb : ∀ c ∈ ppL, c ≠ 10 := by decide
  have h1 : (fromL w p).length ≤ 22 ∧ ∀ c ∈ fromL w p, c ≠ 10 := by
    unfold fromL
    by_cases e : w = 2
    · rw [if_pos e]; exact ⟨by decide, noneL_10⟩
    · rw [if_neg e]
      refine ⟨by simp; omega, fun c hc => ?_⟩
      rcases List.mem_append.1 hc with q | q
      · exact (by decide : ∀ c ∈ ([97, 47] : List UInt8), c ≠ 10) c q
      · exact h.2 c q
  have h2 : (toL w p).length ≤ 22 ∧ ∀ c ∈ toL w p, c ≠ 10 := by
    unfold toL
    by_cases e : w = 3
    · rw [if_pos e]; exact ⟨by decide, noneL_10⟩
    · rw [if_neg e]
      refine ⟨by simp; omega, fun c hc => ?_⟩
      rcases List.mem_append.1 hc with q | q
      · exact (by decide : ∀ c ∈ ([98, 47] : List UInt8), c ≠ 10) c q
      · exact h.2 c q
  refine ⟨?_, fun c hc => ?_, ?_, fun c hc => ?_⟩
  · rw [List.length_append, show mmL.length = 4 from rfl]; omega
  · rcases List.mem_append.1 hc with q | q
    · exact ha c q
    · exact h1.2 c q
  · rw [List.length_append, show ppL.length = 4 from rfl]; omega
  · rcases List.mem_append.1 hc with q | q
    · exact hb c q
    · exact h2.2 c q
theorem changes_ok : ∀ (p : List Change), (∀ c ∈ p, changeFault c = 0) → (∀ x ∈ linesG p, ∀ c ∈ x, c ≠ 10) ∧ (textG p).length ≤ 11340 * p.length
  | [], _ => ⟨fun _ h => (by cases h), by show (0 : Nat) ≤ 0; omega⟩
  | c :: p, h => by
    obtain ⟨i1, i2⟩ := changes_ok p fun d hd => h d (List.mem_cons_of_mem _ hd)
    obtain ⟨_, q2, q3⟩ := change_ok (h c (List.mem_cons_self ..))
    obtain ⟨f1, f2, f3, f4⟩ := from_fine c.what (path_fine q2)
    have hs := hunks_short q3
    have hn := (hunks_ok q3).2.1
    have e : linesG (c :: p) = (mmL ++ fromL c.what c.path.data.toList) :: (ppL ++ toL c.what c.path.data.toList) :: (linesU c.hunks ++ linesG p) := rfl
    have et : (textG (c :: p)).length = (mmL ++ fromL c.what c.path.data.toList).length + 1 + ((ppL ++ toL c.what c.path.data.toList).length + 1 + ((textL (linesU c.hunks)).length + (textG p).length)) := by
      unfold textG
      rw [e]
      show ((mmL ++ fromL c.what c.path.data.toList) ++ [10] ++ ((ppL ++ toL c.what c.path.data.toList) ++ [10] ++ textL (linesU c.hunks ++ linesG p))).length = _
      rw [textL_app]
      simp only [List.length_append, List.length_singleton]
    refine ⟨fun x hx => ?_, by rw [et, List.length_cons]; omega⟩
    rw [e] at hx
    rcases List.mem_cons.1 hx with rfl | hx
    · exact f2
    · rcases List.mem_cons.1 hx with rfl | hx
      · exact f4
      · rcases List.mem_append.1 hx with hx | hx
        · exact hn x hx
        · exact i1 x hx
end Go.Proofs.YtjiaidchcldocaaGreatDoor
namespace Go.Proofs.YtjiaidchcldocaaGreatDoor

def pieceF (m : Mail) : Int := if mailFault m ≠ 0 then mailFault m else match mpartOf m with
  | none => 5
  | some _ => (parseG m.body).2
def pieceOf (m : Mail) : Piece := match mpartOf m with
  | none => ⟨[], 0, 0, []⟩
  | some (t, a, b) => ⟨t, a, b, (parseG m.body).1⟩
def openMs (l : List Mail) : List UInt8 × List (List Change) × Int := if firstOf pieceF l ≠ 0 then ([], [], firstOf pieceF l) else openPs (l.map pieceOf)
def packOne (t : List UInt8) (n k : Nat) (c : List Change) : Mail := partMail t k n (textG c)
def packFault (c : List Change) : Int := if (patchFault c).2 ≠ 0 then (patchFault c).2 else if 40000 < (textG c).length then 3 else 0
def packGo (t : List UInt8) (n : Nat) : Nat → List (List Change) → List Mail
  | _, [] => []
  | k, c :: r => packOne t n k c :: packGo t n (k + 1) r
def packL (t : List UInt8) (p : List (List Change)) : List Mail := partMail t 0 p.length [] :: packGo t p.length 1 p
def packF (t : List UInt8) (p : List (List Change)) : Int := if 8 < p.length then 3 else if titledB t = false then 5 else firstOf packFault p
def packR (t : List UInt8) (p : List (List Change)) : List Mail := if packF t p = 0 then packL t p else []
theorem packGo_len (t : List UInt8) (n : Nat) : ∀ (k : Nat) (p : List (List Change)), (packGo t n k p).length = p.length
  | _, [] => rfl
  | k, c :: r => by rw [packGo, List.length_cons, packGo_len t n (k + 1) r, List.length_cons]
theorem packGo_app (t : List UInt8) (n : Nat) : ∀ (k : Nat) (p q : List (List Change)), packGo t n k (p ++ q) = packGo t n k p ++ packGo t n (k + p.length) q
  | k, [], q => rfl
  | k, c :: r, q => by
    rw [List.cons_append, packGo, packGo, packGo_app t n (k + 1) r q, List.length_cons, List.cons_append, show k + 1 + r.length = k + (r.length + 1) by omega]
theorem packGo_take {t : List UInt8} {n i : Nat} {p : List (List Change)} {c : List Change} (hx : p[i]? = some c) : packGo t n 1 (p.take (i + 1)) = packGo t n 1 (p.take i) ++ [packOne t n (i + 1) c] := by
  have hi := (List.getElem?_eq_some_iff.1 hx).1
  rw [List.take_add_one, hx, Option.toList_some, packGo_app, List.length_take, Nat.min_eq_left (by omega), Nat.add_comm 1 i]
  rfl
theorem titled_ok {t : List UInt8} (h : titledB t = true) : t ≠ [] ∧ t.length ≤ 20 ∧ ∀ c ∈ t, 32 ≤ c.toNat ∧ c.toNat ≤ 126 := by
  unfold titledB at h
  simp only [Bool.and_eq_true, Bool.not_eq_true', beq_eq_false_iff_ne, ne_eq, decide_eq_true_eq, List.all_eq_true] at h
  exact ⟨h.1.1, h.1.2, h.2⟩
end Go.Proofs.YtjiaidchcldocaaGreatDoor
namespace Go.Proofs.YtjiaidchcldocaaGreatDoor
open Go.RowKit

theorem bat_keep {B b : Nat} {bs : List Value} {w w' : World} {p : Value} (h : Lib.BuilderAtF 140 5 B b p bs w) (hc : Chg Never w w') : Lib.BuilderAtF 140 5 B b p bs w' := by
  have hlt := h.lt
  obtain ⟨hB, v, hv, hown, hne⟩ := h
  refine ⟨hB, v, (hc.block b hlt (fun x => x)).trans hv, hown.kept (row := none) ⟨hc.os, hc.tape, hc.output, hc.size, fun k hk _ => hc.block k hk (fun x => x)⟩ (Classical.em _), hne⟩
theorem bld_keep {B b : Nat} {bs : List Value} {w w' : World} (h : IsB B b bs w) (hc : Chg Never w w') : IsB B b bs w' :=
  h.elim (fun x => .inl (bat_keep x hc)) (fun x => .inr (bat_keep x hc))
end Go.Proofs.YtjiaidchcldocaaGreatDoor
namespace Go.Proofs.YtjiaidchcldocaaGreatDoor
open Go.RowKit

def Keeps (b : Nat) (w w' : World) : Prop := ∀ (k : Nat) (c : Array Value) (T : TypeId) (fz : Nat × Nat), k ≠ b → w.heap[k]? = some (.cells c T fz) → T ≠ 5 → w'.heap[k]? = some (.cells c T fz)
theorem Keeps.trans {b : Nat} {x y z : World} (h : Keeps b x y) (g : Keeps b y z) : Keeps b x z := fun k c T fz h1 h2 h3 => g k c T fz h1 (h k c T fz h1 h2 h3) h3
theorem keeps_set {b : Nat} (w : World) (j : Nat) (u : Value) : Keeps b w (w.setCell ⟨b, j, none⟩ u) := fun k c T fz h1 h2 _ => by
  rw [Below.heap_setCell _ _ _ _ (fun e => h1 e)]; exact h2
theorem keeps_alloc {b : Nat} (w : World) (o : Obj) : Keeps b w (w.alloc o) := fun k c T fz _ h2 _ => by
  rw [Below.heap_alloc _ _ _ (Array.getElem?_eq_some_iff.1 h2).1]; exact h2
theorem keeps_grow {b B n : Nat} {w w' : World} {v : Value} {bs : List Value} (hown : w.ownsRowF B 5 1 v n bs) (h : w.grownBy w' v.ownBlock) : Keeps b w w' := fun k c T fz _ h2 h3 => by
  rw [h.block k (Array.getElem?_eq_some_iff.1 h2).1 ?_]
  · exact h2
  · intro e
    rcases hown.2 with ⟨rfl, _⟩ | ⟨g, cap, cur, f, rfl, _, hg, _⟩
    · cases e
    · injection e with e
      subst e
      rw [h2] at hg
      injection hg with hg
      injection hg with _ hg _
      exact h3 hg
theorem Keeps.blk3 {b B : Nat} {w w' : World} {t : TypeId} {x y z : Value} (h : Keeps b w w') (hb : Blk3 w B t x y z) (hne : B ≠ b) (ht : t ≠ 5) : Blk3 w' B t x y z := h B _ t _ hne hb ht
theorem Keeps.blk2 {b B : Nat} {w w' : World} {t : TypeId} {x y : Value} (h : Keeps b w w') (hb : Blk2 w B t x y) (hne : B ≠ b) (ht : t ≠ 5) : Blk2 w' B t x y := h B _ t _ hne hb ht

set_option maxHeartbeats 1000000 in
set_option maxRecDepth 100000 in
theorem bldk_check (B b : Nat) (bs : List Value) (w : World) (h : IsB B b bs w) :
    Calls Tryz.prog 114 #[.pointer (some ⟨b, 0, none⟩)] w fun e w' => e = .returned (.tuple #[]) ∧ BAt B b bs w' ∧ Below B w w' ∧ Keeps b w w' := by
  obtain ⟨j, hj, hjs⟩ := Option.map_eq_some_iff.1 bld_info
  rcases h with h | h
  · have c0 := h.cell0
    have hsh := h.shape
    have hfz := h.frozen0
    have hfin : BAt B b bs (w.setCell ⟨b, 0, none⟩ (.pointer (some ⟨b, 0, none⟩))) ∧ Below B w (w.setCell ⟨b, 0, none⟩ (.pointer (some ⟨b, 0, none⟩))) ∧ Keeps b w (w.setCell ⟨b, 0, none⟩ (.pointer (some ⟨b, 0, none⟩))) := ⟨h.used _, (Below.refl B w).setCell (p := ⟨b, 0, none⟩) h.1 _, keeps_set _ _ _⟩
    clear h
    go_enter Tryz.func114, Tryz.ntmps114
    go_wp2_with fail
    rw [Lib.run_to_unsafe w ⟨b, 0, none⟩ Tryz.underlying138 Tryz.underlying231 hj (by rw [hjs]; decide) hsh (Nat.zero_lt_succ 1)]
    simp only [Result.andThen]
    rw [Oper.upon_value]
    go_wp2_with fail
    rw [run_callFunc_extern Tryz.func167 (by kernel_rfl) (by kernel_rfl) (by kernel_rfl) (e := Extern.AbiNoEscape.same) (by kernel_rfl)]
    rw [Lib.run_noEscape]
    simp only [Result.andThen]
    rw [Oper.upon_value]
    go_wp2_with fail
    rw [Lib.run_from_unsafe w ⟨b, 0, none⟩ Tryz.underlying231 Tryz.underlying138 hj hsh bld_lies]
    simp only [Result.andThen]
    rw [Oper.upon_value]
    go_wp2_with fail
    go_end0
    exact ⟨rfl, hfin.1, hfin.2⟩
  · have c0 := h.cell0
    go_enter Tryz.func114, Tryz.ntmps114
    go_wp2_with fail
    rw [Lib.run_neq_ptr_same w _ Tryz.underlying138 hj]
    go_wp2_with fail
    go_end0
    exact ⟨rfl, h, Below.refl B _, fun _ _ _ _ _ h _ => h⟩
set_option maxHeartbeats 1000000 in
set_option maxRecDepth 100000 in
theorem bldk_string (B b : Nat) (bs : List Value) (s : ByteArray) (w : World) (h : IsB B b bs w) (hlen : bs.length + s.size ≤ 140737488355328) (hBw : B ≤ w.heap.size) :
    Calls Tryz.prog 71 #[.pointer (some ⟨b, 0, none⟩), .string s] w fun e w' => e = .returned (.tuple #[.int .i64 s.size, .nilIface]) ∧ BAt B b (bs ++ Lib.strCells s) w' ∧ Below B w w' ∧ Keeps b w w' := by
  obtain ⟨i0, hi, hz0, hz1, hz2⟩ := info_parts bld_byte
  go_enter Tryz.func71, Tryz.ntmps71
  go_wp2_with fail
  refine (bldk_check B b bs _ h).mono ?_
  rintro e w1 ⟨rfl, h1, hb1, hk1⟩
  obtain ⟨hB, v, hbk, hown, hne⟩ := h1
  have c0 : w1.cell? ⟨b, 0, none⟩ = some (.pointer (some ⟨b, 0, none⟩)) := by rw [Lib.cell_of_heap hbk]; rfl
  have c1 : w1.cell? ⟨b, 1, none⟩ = some v := by rw [Lib.cell_of_heap hbk]; rfl
  have hlt : b < w1.heap.size := (Array.getElem?_eq_some_iff.1 hbk).1
  have hs1 := hb1.size
  go_wp2_with (at_builtin; refine Lib.wpList_append_own_stringF _ rfl _ _ 29 9 rfl B 5 i0 Tryz.underlying29 Tryz.underlying9 hi hz0 hz1 hz2 _ _ _ rfl hown s rfl (by unfold maxLen; omega) (by omega) (by omega) ?_)
  intro v' w2 hown' hgrow _
  have hb2 : w2.heap[b]? = some (.cells #[.pointer (some ⟨b, 0, none⟩), v] 140 (0, 0)) := (hgrow.block b hlt (fun e => hne e.symm)).trans hbk
  have d0 : w2.cell? ⟨b, 0, none⟩ = some (.pointer (some ⟨b, 0, none⟩)) := by rw [Lib.cell_of_heap hb2]; rfl
  have d1 : w2.cell? ⟨b, 1, none⟩ = some v := by rw [Lib.cell_of_heap hb2]; rfl
  have f1 : w2.frozen? ⟨b, 1, none⟩ = false := Lib.frozen_of_heap hb2 1
  have hfin := Lib.BuilderAtF.put (T := 140) (e := 5) (v' := v') hB hb2 (bs' := bs ++ Lib.strCells s) (by simpa [Lib.strCells_length] using hown') (by decide)
  have hfin2 := (hb1.grown hgrow (by omega) (fun k hk => (hown.lt k hk).1)).setCell (p := ⟨b, 1, none⟩) hB v'
  have hk3 : Keeps b _ (w2.setCell ⟨b, 1, none⟩ v') := (hk1.trans (keeps_grow hown hgrow)).trans (keeps_set _ _ _)
  obtain ⟨ao, n', cap, rfl⟩ : ∃ ao n' cap, v' = .slice ao n' cap := by
    rcases hown'.2 with ⟨hv, _⟩ | ⟨g, cap, cur, fz, hv, _⟩
    · exact ⟨_, _, _, hv⟩
    · exact ⟨_, _, _, hv⟩
  clear hgrow hown hown' hbk hb2 c0 c1 hk1
  go_wp2_with fail
  go_ret2
  exact ⟨rfl, hfin, hfin2, hk3⟩
set_option maxHeartbeats 1000000 in
set_option maxRecDepth 100000 in
theorem bldk_byte1 (B b : Nat) (bs : List Value) (c : Int) (w : World) (h : IsB B b bs w) (hlen : bs.length + 1 ≤ 140737488355328) (hBw : B ≤ w.heap.size) :
    Calls Tryz.prog 117 #[.pointer (some ⟨b, 0, none⟩), .int .u8 c] w fun e w' => e = .returned .nilIface ∧ BAt B b (bs ++ [.int .u8 c]) w' ∧ Below B w w' ∧ Keeps b w w' := by
  obtain ⟨i0, hi, hz0, hz1, hz2⟩ := info_parts bld_byte
  go_enter Tryz.func117, Tryz.ntmps117
  go_wp2_with fail
  refine (bldk_check B b bs _ h).mono ?_
  rintro e w1 ⟨rfl, h1, hb1, hk1⟩
  obtain ⟨hB, v, hbk, hown, hne⟩ := h1
  have c0 : w1.cell? ⟨b, 0, none⟩ = some (.pointer (some ⟨b, 0, none⟩)) := by rw [Lib.cell_of_heap hbk]; rfl
  have c1 : w1.cell? ⟨b, 1, none⟩ = some v := by rw [Lib.cell_of_heap hbk]; rfl
  have hlt : b < w1.heap.size := (Array.getElem?_eq_some_iff.1 hbk).1
  have hs1 := hb1.size
  go_wp2_with (at_builtin; refine wpList_append_ownF _ rfl _ _ 29 rfl B 5 i0 (.int .u8 0) 1 1 Tryz.underlying29 hi hz0 hz1 hz2 rfl (by decide) _ _ _ rfl (hown.alloc _) ⟨w1.heap.size, 0, none⟩ 1 1 [.int .u8 c] rfl rfl ?c1 ?c2 (by unfold maxLen; omega) (by omega) (by simp; omega) ?_)
  case c1 =>
    intro j u hj
    match j, hj with
    | 0, hj => simp at hj; subst hj; simp [Addr.add]
  case c2 => intro u hu; simp at hu; subst hu; rfl
  intro v' w2 hown' hgrow _
  have hb2 : w2.heap[b]? = some (.cells #[.pointer (some ⟨b, 0, none⟩), v] 140 (0, 0)) := ((hgrow.block b (by simp; omega) (fun e => hne e.symm)).trans (Lib.alloc_old w1 _ b hlt)).trans hbk
  have d0 : w2.cell? ⟨b, 0, none⟩ = some (.pointer (some ⟨b, 0, none⟩)) := by rw [Lib.cell_of_heap hb2]; rfl
  have d1 : w2.cell? ⟨b, 1, none⟩ = some v := by rw [Lib.cell_of_heap hb2]; rfl
  have f1 : w2.frozen? ⟨b, 1, none⟩ = false := Lib.frozen_of_heap hb2 1
  have hfin := Lib.BuilderAtF.put (T := 140) (e := 5) (v' := v') hB hb2 (bs' := bs ++ [.int .u8 c]) (by simpa using hown') (by decide)
  have hfin2 := ((hb1.alloc (by omega) _).grown hgrow (by simp; omega) (fun k hk => (hown.lt k hk).1)).setCell (p := ⟨b, 1, none⟩) hB v'
  have hk3 : Keeps b _ (w2.setCell ⟨b, 1, none⟩ v') := ((hk1.trans (keeps_alloc _ _)).trans (keeps_grow (hown.alloc _) hgrow)).trans (keeps_set _ _ _)
  obtain ⟨ao, n', cap, rfl⟩ : ∃ ao n' cap, v' = .slice ao n' cap := by
    rcases hown'.2 with ⟨hv, _⟩ | ⟨g, cap, cur, fz, hv, _⟩
    · exact ⟨_, _, _, hv⟩
    · exact ⟨_, _, _, hv⟩
  clear hgrow hown hown' hbk hb2 c0 c1 hk1
  go_wp2_with fail
  go_ret
  exact ⟨rfl, hfin, hfin2, hk3⟩
end Go.Proofs.YtjiaidchcldocaaGreatDoor
namespace Go.Proofs.YtjiaidchcldocaaGreatDoor

def refTake : List (List UInt8) → Nat → List Hunk → Nat → Nat → List Hunk × Nat × Bool
  | [], i, hs, o, n => if 0 < o ∨ 0 < n then ([], i, false) else (hs, i, true)
  | s :: r, i, hs, o, n => if (0 < o ∨ 0 < n) ∨ hunkHead s = true then match readLine hs o n s with
      | none => ([], i, false)
      | some (hs', o', n') => refTake r (i + 1) hs' o' n'
    else (hs, i, true)
theorem refTake_take : ∀ (l : List (List UInt8)) (i : Nat) (hs : List Hunk) (o n : Nat), match takeU l hs o n with
    | none => ∃ j, refTake l i hs o n = ([], j, false)
    | some (hs', rest) => ∃ j, refTake l i hs o n = (hs', j, true) ∧ i ≤ j ∧ j ≤ i + l.length ∧ rest = l.drop (j - i)
  | [], i, hs, o, n => by
    rw [takeU, refTake]
    by_cases h : 0 < o ∨ 0 < n
    · rw [if_pos h, if_pos h]; exact ⟨i, rfl⟩
    · rw [if_neg h, if_neg h]; exact ⟨i, rfl, Nat.le_refl _, by simp, by simp⟩
  | s :: r, i, hs, o, n => by
    rw [takeU, refTake]
    by_cases h : (0 < o ∨ 0 < n) ∨ hunkHead s = true
    · rw [if_pos h, if_pos h]
      cases hr : readLine hs o n s with
      | none => exact ⟨i, rfl⟩
      | some p =>
        obtain ⟨hs', o', n'⟩ := p
        simp only
        have ih := refTake_take r (i + 1) hs' o' n'
        cases ht : takeU r hs' o' n' with
        | none => rw [ht] at ih; exact ih
        | some q =>
          obtain ⟨q1, q2⟩ := q
          rw [ht] at ih
          obtain ⟨j, h1, h2, h3, h4⟩ := ih
          refine ⟨j, h1, by omega, by rw [List.length_cons]; omega, ?_⟩
          rw [h4, show j - i = (j - (i + 1)) + 1 by omega, List.drop_succ_cons]
    · rw [if_neg h, if_neg h]
      exact ⟨i, rfl, Nat.le_refl _, by omega, by simp⟩
theorem head_ref (s : List UInt8) : headOf s = if atAt.isPrefixOf s = true ∧ endAt.isSuffixOf s = true ∧ 7 ≤ s.length then match cutSub [32, 43] ((s.drop 4).take (s.length - 7)) with
        | none => none
        | some (u, v) => match spanOf u with
          | none => none
          | some (a, x) => match spanOf v with
            | none => none
            | some (b, y) => some (a, x, b, y)
      else none := by
  unfold headOf
  by_cases hp : atAt.isPrefixOf s = true
  · have e1 : dropPre atAt s = some (s.drop 4) := if_pos hp
    rw [e1]
    simp only
    have hpl : 4 ≤ s.length := (List.isPrefixOf_iff_prefix.1 hp).length_le
    by_cases hc : endAt.isSuffixOf s = true ∧ 7 ≤ s.length
    · obtain ⟨h1, h2⟩ := hc
      have hs : endAt.isSuffixOf (s.drop 4) = true := by
        rw [List.isSuffixOf_iff_suffix] at h1 ⊢
        exact List.suffix_of_suffix_length_le h1 (List.drop_suffix 4 s) (by rw [List.length_drop]; show 3 ≤ _; omega)
      have e2 : dropSuf endAt (s.drop 4) = some ((s.drop 4).take (s.length - 7)) := by
        unfold dropSuf
        rw [if_pos hs, List.length_drop, show s.length - 4 - endAt.length = s.length - 7 by show s.length - 4 - 3 = _; omega]
      rw [e2, if_pos ⟨hp, h1, h2⟩]
      try rfl
    · rw [if_neg (fun q => hc q.2)]
      have hs : ¬ endAt.isSuffixOf (s.drop 4) = true := by
        intro q
        apply hc
        rw [List.isSuffixOf_iff_suffix] at q ⊢
        have hl := q.length_le
        rw [List.length_drop] at hl
        exact ⟨q.trans (List.drop_suffix 4 s), by have : endAt.length = 3 := rfl; omega⟩
      have e2 : dropSuf endAt (s.drop 4) = none := if_neg hs
      rw [e2]
  · have e1 : dropPre atAt s = none := if_neg hp
    rw [e1, if_neg (fun q => hp q.1)]
end Go.Proofs.YtjiaidchcldocaaGreatDoor
namespace Go.Proofs.YtjiaidchcldocaaGreatDoor

def numM (k : Nat) (s : List UInt8) : Option Nat := if s.length ≤ k then match Lib.decNat s with
  | some n => if Lib.decDigits n = s then some n else none
  | none => none
  else none
theorem numM_3 (s : List UInt8) : numM 3 s = numOf s := rfl
theorem dig_char {c : UInt8} {d : Nat} (h : Lib.digitVal c = some d) : d < 10 ∧ UInt8.ofNat (48 + d) = c ∧ c.toNat = 48 + d := by
  unfold Lib.digitVal at h
  by_cases hc : 48 ≤ c.toNat ∧ c.toNat ≤ 57
  · rw [if_pos hc] at h
    injection h with h
    subst h
    refine ⟨by omega, ?_, by omega⟩
    apply UInt8.toNat_inj.1
    rw [UInt8.toNat_ofNat']; omega
  · rw [if_neg hc] at h; cases h
theorem dec_from : ∀ (s : List UInt8) (acc n : Nat), 0 < acc → Lib.decFrom acc s = some n → Lib.decDigits n = Lib.decDigits acc ++ s ∧ 0 < n
  | [], acc, n, ha, h => by
    rw [Lib.decFrom] at h
    injection h with h
    subst h
    exact ⟨by simp, ha⟩
  | c :: r, acc, n, ha, h => by
    rw [Lib.decFrom] at h
    cases hd : Lib.digitVal c with
    | none => rw [hd] at h; cases h
    | some d =>
      rw [hd] at h
      obtain ⟨h1, h2, _⟩ := dig_char hd
      obtain ⟨h3, h4⟩ := dec_from r (acc * 10 + d) n (by omega) h
      refine ⟨?_, h4⟩
      rw [h3, Lib.decDigits, dif_neg (by omega : ¬ acc * 10 + d < 10), show (acc * 10 + d) / 10 = acc by omega, show (acc * 10 + d) % 10 = d by omega, h2]
      simp
theorem dec_head : ∀ (n : Nat), 0 < n → ∀ r, Lib.decDigits n ≠ 48 :: r := fun n => by
  induction n using Nat.strongRecOn with
  | _ n ih =>
    intro hn r h
    rw [Lib.decDigits] at h
    by_cases h10 : n < 10
    · rw [dif_pos h10] at h
      injection h with h _
      have := congrArg UInt8.toNat h
      rw [UInt8.toNat_ofNat'] at this
      have h48 : (48 : UInt8).toNat = 48 := rfl
      omega
    · rw [dif_neg h10] at h
      cases hq : Lib.decDigits (n / 10) with
      | nil =>
        have := Lib.decDigits_length (n / 10)
        rw [hq] at this
        have := Lib.nDigits_pos (n / 10)
        simp at *
        omega
      | cons a b =>
        rw [hq] at h
        injection h with h _
        exact ih (n / 10) (by omega) (by omega) b (by rw [hq, h])
theorem dec_canon {s : List UInt8} {n : Nat} (h : Lib.decNat s = some n) : Lib.decDigits n = s ↔ ¬ (1 < s.length ∧ s.head? = some 48) := by
  unfold Lib.decNat at h
  cases s with
  | nil => cases h
  | cons c r =>
    rw [if_neg (by simp), Lib.decFrom] at h
    cases hd : Lib.digitVal c with
    | none => rw [hd] at h; cases h
    | some d =>
      rw [hd] at h
      simp only [Nat.zero_mul, Nat.zero_add] at h
      obtain ⟨h1, h2, h3⟩ := dig_char hd
      by_cases h0 : d = 0
      · subst h0
        have hc : c = 48 := h2.symm
        subst hc
        constructor
        · rintro e ⟨hl, _⟩
          by_cases hn : 0 < n
          · exact dec_head n hn r e
          · have : n = 0 := by omega
            subst this
            rw [Lib.decDigits_one (by omega)] at e
            have := congrArg List.length e
            simp only [List.length_cons, List.length_nil] at this hl
            omega
        · intro e
          cases r with
          | nil =>
            rw [Lib.decFrom] at h
            injection h with h
            subst h
            rw [Lib.decDigits_one (by omega)]; rfl
          | cons a b => exact absurd ⟨by simp, rfl⟩ e
      · obtain ⟨h4, h5⟩ := dec_from r d n (by omega) h
        have e : Lib.decDigits n = c :: r := by rw [h4, Lib.decDigits_one h1, h2]; rfl
        refine ⟨fun _ ⟨_, q⟩ => ?_, fun _ => e⟩
        injection q with q
        subst q
        have h48 : (48 : UInt8).toNat = 48 := rfl
        omega
theorem num_ref (k : Nat) (s : List UInt8) : numM k s = if s.length < 1 ∨ k < s.length ∨ (1 < s.length ∧ s.head? = some 48) then none else Lib.decFrom 0 s := by
  unfold numM
  by_cases hk : k < s.length
  · rw [if_neg (by omega), if_pos (.inr (.inl hk))]
  · rw [if_pos (by omega)]
    cases s with
    | nil => rw [if_pos (.inl (by simp))]; rfl
    | cons c r =>
      have e : Lib.decNat (c :: r) = Lib.decFrom 0 (c :: r) := rfl
      rw [← e]
      cases hd : Lib.decNat (c :: r) with
      | none =>
        show none = _
        rw [ite_self]
      | some n =>
        have hcan := dec_canon hd
        simp only
        by_cases hc : 1 < (c :: r).length ∧ (c :: r).head? = some 48
        · rw [if_neg (fun q => hcan.1 q hc), if_pos (.inr (.inr hc))]
        · rw [if_pos (hcan.2 hc), if_neg]
          rintro (q | q | q)
          · simp at q
          · exact hk q
          · exact hc q
end Go.Proofs.YtjiaidchcldocaaGreatDoor
namespace Go.Proofs.YtjiaidchcldocaaGreatDoor

def RdOk (hs : List Hunk) (o n : Nat) : Prop := 0 < o ∨ 0 < n → hs ≠ []
theorem rdOk_start : RdOk [] 0 0 := fun h => by omega
theorem addMark_ne {hs : List Hunk} (m : Mark) (h : hs ≠ []) : addMark hs m ≠ [] := by
  cases hs with
  | nil => exact absurd rfl h
  | cons a l => cases l <;> simp [addMark]
theorem readLine_ok {hs hs' : List Hunk} {o n o' n' : Nat} {s : List UInt8} (hk : RdOk hs o n) (h : readLine hs o n s = some (hs', o', n')) : hs' ≠ [] := by
  unfold readLine at h
  by_cases hon : 0 < o ∨ 0 < n
  · have hne := hk hon
    rw [if_pos hon] at h
    cases s with
    | nil => cases h
    | cons c r =>
      simp only at h
      split at h
      · injection h with h; injection h with h1 _; rw [← h1]; exact addMark_ne _ hne
      · split at h
        · injection h with h; injection h with h1 _; rw [← h1]; exact addMark_ne _ hne
        · split at h
          · injection h with h; injection h with h1 _; rw [← h1]; exact addMark_ne _ hne
          · cases h
  · rw [if_neg hon] at h
    cases hd : headOf s with
    | none => rw [hd] at h; cases h
    | some x =>
      obtain ⟨a, x, b, y⟩ := x
      rw [hd] at h
      injection h with h; injection h with h1 _; rw [← h1]; simp
theorem numOf_lt {s : List UInt8} {n : Nat} (h : numOf s = some n) : n < 1000 := (num_some h).1
end Go.Proofs.YtjiaidchcldocaaGreatDoor
