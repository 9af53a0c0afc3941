/-
  PARTS: THE WALK of slices.Delete of one file, in place.; THE WALK of slices.Insert of one file: at the end, in place, or in a new row.; MORE ON SLICES THAT append HAS BUILT.; THE WALKS of patch.all and of the document's whole.; THE WALK of algebra.Split: a patch in pieces.
-/
import Derived.Test.YteocmmejfnmjcaaGreatDoorPackAi8
import Derived.Deep.RegionHeld3
import Derived.Test.YteocmmejfnmjcaaGreatDoorPackAi5
import Derived.Lib.Overlaps
import Derived.Test.YteocmmejfnmjcaaGreatDoorPackAi2
import Derived.Test.YteocmmejfnmjcaaGreatDoorPackAi6
import Derived.Test.YteocmmejfnmjcaaGreatDoorPackAi3
import Derived.Test.YteocmmejfnmjcaaGreatDoorPackAi4
namespace Go.Proofs.YteocmmejfnmjcaaGreatDoor
open Go.RowKit

theorem info_file : ∃ i, Tryz.prog.info? 76 = some i ∧ i.size = 2 ∧ i.zero = some (.agg #[.string ⟨#[]⟩, .slice none 0 0]) ∧ i.bytes ≤ 128 := by
  obtain ⟨i, h1, h2, h3, h4⟩ := info_parts (P := Tryz.prog) (e := 76) (z := .agg #[.string ⟨#[]⟩, .slice none 0 0]) (size := 2) (bytes := 40) (by kernel_rfl)
  exact ⟨i, h1, h3, h2, by omega⟩
theorem zero_file : (Builtin.zeroCells (Value.agg #[.string ⟨#[]⟩, .slice none 0 0]).cells 1).toList = [.string ⟨#[]⟩, .slice none 0 0] := by
  simp [Builtin.zeroCells, Value.cells, Array.range, Array.ofFn]
  try rfl
theorem take_two {a b : List Value} {k : Nat} (h : a.length = k) : (a ++ b).take k = a := by subst h; exact List.take_left
theorem drop_two {a b : List Value} {k : Nat} (h : a.length = k) : (a ++ b).drop k = b := by subst h; exact List.drop_left
set_option maxHeartbeats 2000000 in
set_option maxRecDepth 100000 in
theorem delete_any (T : List File) (i : Nat) (v : Value) (w0 w : World) (hn : OwnN 76 w0 w v T) (hi : i < T.length) (hT : T.length ≤ 1000000) :
    Calls Tryz.prog 40 #[v, .int .i64 i, .int .i64 ((i : Int) + 1)] w fun e w' => ∃ r, e = .returned r ∧ OwnN 76 w0 w' r (dropAt T i) ∧ Chg (OwnB v) w w' ∧ (∀ k, r.ownBlock = some k → v.ownBlock = some k) := by
  obtain ⟨g, cap, r, tail, rfl, hg, hsz, hle, hcm, _, hr⟩ := own_rows hn.own (by omega)
  obtain ⟨hrl, hrq⟩ := hr.len
  have hrq : ∀ c ∈ r, c.length = 2 := hrq
  have hsz : (r.flatten ++ tail).length = cap * 2 := hsz
  obtain ⟨inf, hinf, hi2, _, _⟩ := info_file
  have hfl : r.flatten.length = T.length * 2 := by rw [cells_len hrq, hrl]
  have hnew : w0.heap.size ≤ g := hn.new g rfl
  have hgl : g < w.heap.size := (Array.getElem?_eq_some_iff.1 hg).1
  have hRow := Lib.hid hr
  unfold maxLen at hcm
  -- what moves to the left
  have hm1 : ((r.drop (i + 1)).flatten).length = (T.length - (i + 1)) * 2 := by rw [cells_len (fun c hc => hrq c (List.mem_of_mem_drop hc)), List.length_drop, hrl]
  obtain ⟨A, hA, hsrc⟩ : ∃ A : Addr, (if cap = i + 1 then some (⟨g, 0, none⟩ : Addr) else some ⟨g, (i + 1) * 2, none⟩) = some A ∧ Hid (∀ j u, ((r.drop (i + 1)).flatten)[j]? = some u → w.drew.cell? (A.add j) = some u) := by
    by_cases h : cap = i + 1
    · refine ⟨⟨g, 0, none⟩, by rw [if_pos h], fun j u hu => ?_⟩
      have h0 : (r.drop (i + 1)).flatten = [] := List.eq_nil_of_length_eq_zero (by rw [hm1]; omega)
      rw [h0] at hu
      simp at hu
    · refine ⟨⟨g, (i + 1) * 2, none⟩, by rw [if_neg h], fun j u hu => ?_⟩
      rw [Addr.add_lit]
      refine row_cell (w := w.drew) hg ?_
      rw [← cells_drop r (i + 1) hrq, List.getElem?_drop] at hu
      rw [List.getElem?_append_left (List.getElem?_eq_some_iff.1 hu).1]
      exact hu
  have hone : ∀ u ∈ (r.drop (i + 1)).flatten, u.oneCell' = true := fun u hu => by
    obtain ⟨c, hc, hu⟩ := List.mem_flatten.1 hu
    exact hr.one c (List.mem_of_mem_drop hc) u hu
  have hrun1 : ∀ ty, (Builtin.append_ #[22, 22] ty #[.slice (some ⟨g, 0, none⟩) i cap, .slice (some A) (T.length - (i + 1)) (cap - (i + 1))]).run Tryz.prog w.drew = _ := fun ty =>
    run_append_room (P := Tryz.prog) (ty := ty) w.drew 22 76 inf Tryz.underlying22 hinf g i cap (r.flatten ++ tail).toArray hg A (T.length - (i + 1)) (cap - (i + 1)) ((r.drop (i + 1)).flatten) (by rw [hm1, hi2]) hsrc.out hone (by omega) (by rw [hi2, hm1]; simp only [List.size_toArray]; omega)
  have hE1 : (r.flatten ++ tail).take (i * 2) = (r.take i).flatten := by
    rw [← cells_take r i hrq, List.take_append_of_le_length (by rw [hfl]; omega)]
  rw [hi2] at hrun1
  simp only [List.toList_toArray, hE1] at hrun1
  have hi1 : i + (T.length - (i + 1)) = T.length - 1 := by omega
  rw [hi1] at hrun1
  have hm2 : ((r.take i).flatten ++ (r.drop (i + 1)).flatten).length = (T.length - 1) * 2 := by
    rw [List.length_append, hm1, cells_len (fun c hc => hrq c (List.mem_of_mem_take hc)), List.length_take, hrl]; omega
  have hm3 : ((r.flatten ++ tail).drop (i * 2 + ((r.drop (i + 1)).flatten).length)).length = (cap - (T.length - 1)) * 2 := by
    rw [List.length_drop, hsz, hm1]; omega
  generalize (r.flatten ++ tail).drop (i * 2 + ((r.drop (i + 1)).flatten).length) = rest at hrun1 hm3
  have hg1 : (w.drew.setRow g ((r.take i).flatten ++ (r.drop (i + 1)).flatten ++ rest).toArray).heap[g]? = some (.cells ((r.take i).flatten ++ (r.drop (i + 1)).flatten ++ rest).toArray 76 (0, 0)) := setRow_heap w.drew g _ _ _ _ hg
  have hc1 := chg_setRow w.drew g ((r.take i).flatten ++ (r.drop (i + 1)).flatten ++ rest).toArray
  generalize w.drew.setRow g ((r.take i).flatten ++ (r.drop (i + 1)).flatten ++ rest).toArray = W1 at hrun1 hg1 hc1
  have hzv : ∀ w, (zeroValue 76).run Tryz.prog w = .ok (.agg #[.string ⟨#[]⟩, .slice none 0 0]) w := fun w => by kernel_rfl
  have hcl : ∀ ty c, (Builtin.clear_ #[22] ty #[.slice (some ⟨g, (T.length - 1) * 2, none⟩) 1 c]).run Tryz.prog W1 = _ := fun ty c =>
    run_clear_at (P := Tryz.prog) (ty := ty) (c := c) W1 Tryz.underlying22 hzv (zs := [.string ⟨#[]⟩, .slice none 0 0]) zero_file hg1 (by rw [List.length_append, hm2, hm3]; simp; omega) (by simp [Value.oneCell'])
  rw [take_two hm2] at hcl
  generalize hrest : List.drop ((T.length - 1) * 2 + [Value.string ⟨#[]⟩, Value.slice none 0 0].length) ((r.take i).flatten ++ (r.drop (i + 1)).flatten ++ rest) = rest2 at hcl
  have hm4 : rest2.length = (cap - T.length) * 2 := by
    rw [← hrest, List.length_drop, List.length_append, hm2, hm3]; simp; omega
  have hg2 : (W1.setRow g ((r.take i).flatten ++ (r.drop (i + 1)).flatten ++ [Value.string ⟨#[]⟩, Value.slice none 0 0] ++ rest2).toArray).heap[g]? = some (.cells ((r.take i).flatten ++ (r.drop (i + 1)).flatten ++ [Value.string ⟨#[]⟩, Value.slice none 0 0] ++ rest2).toArray 76 (0, 0)) := setRow_heap W1 g _ _ _ _ hg1
  have hc2 := chg_setRow W1 g ((r.take i).flatten ++ (r.drop (i + 1)).flatten ++ [Value.string ⟨#[]⟩, Value.slice none 0 0] ++ rest2).toArray
  generalize W1.setRow g ((r.take i).flatten ++ (r.drop (i + 1)).flatten ++ [Value.string ⟨#[]⟩, Value.slice none 0 0] ++ rest2).toArray = W2 at hcl hg2 hc2
  have hcc : Chg (fun k => k = g) w W2 := ((Chg.refl (fun k => k = g) w).drew.trans hc1).trans hc2
  have hfin : Hid (OwnN 76 w0 W2 (.slice (some ⟨g, 0, none⟩) (T.length - 1) cap) (dropAt T i) ∧ Chg (OwnB (.slice (some ⟨g, 0, none⟩) T.length cap)) w W2 ∧ (∀ k, (Value.slice (some ⟨g, 0, none⟩) (T.length - 1) cap).ownBlock = some k → (Value.slice (some ⟨g, 0, none⟩) T.length cap).ownBlock = some k)) := by
    have hdl : (dropAt T i).length = T.length - 1 := by unfold dropAt; rw [List.length_append, List.length_take, List.length_drop]; omega
    have hrr := ((hRow.out.take i).app (hRow.out.drop (i + 1))).keep (O'' := fun k => Never k ∨ k = g) hcc (fun k _ hk => .inr hk) (fun k _ hk => hk)
    have := own_laid (e := 76) (w := W2) (O := Never) (l := dropAt T i) (g := g) (cap := cap) (r := r.take i ++ r.drop (i + 1)) (tail := [Value.string ⟨#[]⟩, Value.slice none 0 0] ++ rest2) (by rw [List.flatten_append, ← List.append_assoc]; exact hg2)
      (by rw [List.flatten_append, List.length_append, hm2, List.length_append, hm4]; show _ = cap * 2; simp; omega) (by omega) (by unfold maxLen; omega) (fun h => h) hrr
    rw [hdl] at this
    exact ⟨⟨this, fun k hk => by injection hk with hk; subst hk; exact hnew, hn.chg.trans' hcc (fun k hk h => by omega)⟩, hcc.mono (fun k _ h => by rw [h]; rfl), fun k h => h⟩
  clear hg hsz hr hrq hfl hsrc hone hm1 hm2 hm3 hm4 hE1 hg1 hg2 hc1 hc2 hcc hrest hRow hinf hzv hn hrl
  have h1 : ((i : Int) == (i : Int) + 1) = false := beq_eq_false_iff_ne.2 (by omega)
  have h2 : (T.length - 1 : Nat) + 1 = T.length := by omega
  have h3 : T.length - (T.length - 1) = 1 := by omega
  have h4 : ¬ cap = T.length - 1 := by omega
  have h5 : ((i : Int) + 1).toNat = i + 1 := by omega
  have h6 : i ≤ cap := by omega
  have h7 : i + 1 ≤ cap := by omega
  have h8 : (i : Int) + 1 ≤ T.length := by omega
  have h9 : (0 : Int) ≤ (i : Int) + 1 := by omega
  go_enter Tryz.func40, Tryz.ntmps40
  go_wp2_with fail
  refine wp_region_held_drew (S := fun _ => True) (by kernel_rfl) trivial (fun hH => ?_)
  refine' wpAnyH_take (i := 0) ?hi0 (by kernel_rfl) (by kernel_rfl) (by kernel_rfl) ?hQ0 (Or.inl ⟨?hw0, ?hy0⟩) (by assumption) ?_
  case hi0 => (simp only [List.getElem?_toArray, List.getElem?_cons_succ, List.getElem?_cons_zero]; rfl)
  case hQ0 => exact fun _ _ _ h => h
  case hw0 => rfl
  case hy0 => (intro w' hSw; (try dsimp only at hSw); go_simp; all_goals with_reducible rfl)
  try simp only [Act.put, List.setIfInBounds_toArray, List.set_cons_zero, List.set_cons_succ]
  refine' wpAnyH_take (i := 1) ?hi1 (by kernel_rfl) (by kernel_rfl) (by kernel_rfl) ?hQ1 (Or.inl ⟨?hw1, ?hy1⟩) (by assumption) ?_
  case hi1 => (simp only [List.getElem?_toArray, List.getElem?_cons_succ, List.getElem?_cons_zero]; rfl)
  case hQ1 => exact fun _ _ _ h => h
  case hw1 => rfl
  case hy1 => (intro w' hSw; (try dsimp only at hSw); go_simp; all_goals with_reducible rfl)
  try simp only [Act.put, List.setIfInBounds_toArray, List.set_cons_zero, List.set_cons_succ]
  refine' wpAnyH_take (i := 2) ?hi2 (by kernel_rfl) (by kernel_rfl) (by kernel_rfl) ?hQ2 (Or.inl ⟨?hw2, ?hy2⟩) (by assumption) ?_
  case hi2 => (simp only [List.getElem?_toArray, List.getElem?_cons_succ, List.getElem?_cons_zero]; rfl)
  case hQ2 => exact fun _ _ _ h => h
  case hw2 => rfl
  case hy2 => (intro w' hSw; (try dsimp only at hSw); go_simp; all_goals with_reducible rfl)
  try simp only [Act.put, List.setIfInBounds_toArray, List.set_cons_zero, List.set_cons_succ]
  refine' wpAnyH_take (i := 3) ?hi3 (by kernel_rfl) (by kernel_rfl) (by kernel_rfl) ?hQ3 (Or.inl ⟨?hw3, ?hy3⟩) (by assumption) ?_
  case hi3 => (simp only [List.getElem?_toArray, List.getElem?_cons_succ, List.getElem?_cons_zero]; rfl)
  case hQ3 => exact fun _ _ _ h => h
  case hw3 => rfl
  case hy3 => (intro w' hSw; (try dsimp only at hSw); go_simp; all_goals with_reducible rfl)
  try simp only [Act.put, List.setIfInBounds_toArray, List.set_cons_zero, List.set_cons_succ]
  refine' wpAnyH_take (i := 4) ?hi4 (by kernel_rfl) (by kernel_rfl) (by kernel_rfl) ?hQ4 (Or.inl ⟨?hw4, ?hy4⟩) (by assumption) ?_
  case hi4 => (simp only [List.getElem?_toArray, List.getElem?_cons_succ, List.getElem?_cons_zero]; rfl)
  case hQ4 => exact fun _ _ _ h => h
  case hw4 => rfl
  case hy4 => (intro w' hSw; (try dsimp only at hSw); go_simp; all_goals with_reducible rfl)
  try simp only [Act.put, List.setIfInBounds_toArray, List.set_cons_zero, List.set_cons_succ]
  refine' wpAnyH_take (i := 5) ?hi5 (by kernel_rfl) (by kernel_rfl) (by kernel_rfl) ?hQ5 (Or.inl ⟨?hw5, ?hy5⟩) (by assumption) ?_
  case hi5 => (simp only [List.getElem?_toArray, List.getElem?_cons_succ, List.getElem?_cons_zero]; rfl)
  case hQ5 => exact fun _ _ _ h => h
  case hw5 => rfl
  case hy5 => (intro w' hSw; (try dsimp only at hSw); go_simp; all_goals with_reducible rfl)
  try simp only [Act.put, List.setIfInBounds_toArray, List.set_cons_zero, List.set_cons_succ]
  refine wpAnyH_ready (rs := [6]) (by kernel_rfl) (by simp) ?_
  refine AllReadyH.cons rfl (fun K hK => ?_) AllReadyH.nil
  refine step_append_eq (by rfl) _ _ 22 22 (by rfl) _ _ (by rfl) (by rfl) (hrun1 _) ?_
  refine hK.out _ _ trivial (fun _ => ?_)
  clear hK K
  try simp only [Act.put, List.setIfInBounds_toArray, List.set_cons_zero, List.set_cons_succ]
  refine' wpAnyH_take (i := 7) ?hi7 (by kernel_rfl) (by kernel_rfl) (by kernel_rfl) ?hQ7 (Or.inl ⟨?hw7, ?hy7⟩) (by assumption) ?_
  case hi7 => (simp only [List.getElem?_toArray, List.getElem?_cons_succ, List.getElem?_cons_zero]; rfl)
  case hQ7 => exact fun _ _ _ h => h
  case hw7 => rfl
  case hy7 => (intro w' hSw; (try dsimp only at hSw); go_simp; all_goals with_reducible rfl)
  try simp only [Act.put, List.setIfInBounds_toArray, List.set_cons_zero, List.set_cons_succ]
  refine wpAnyH_done (by kernel_rfl) ?_ _
  go_wp2_with fail
  go_ret
  exact ⟨_, rfl, hfin.out⟩
end Go.Proofs.YteocmmejfnmjcaaGreatDoor
namespace Go.Proofs.YteocmmejfnmjcaaGreatDoor
open Go.RowKit

theorem rdv_at {α : Type} [Dat α] {w : World} {O : Nat → Prop} {B : Nat} {E : TypeId} {cs : List Value} {x : α} (hB : w.heap[B]? = some (.cells cs.toArray E (0, 0))) (hO : ¬ O B) (hx : Dat.rd w O cs x) : Rdv w O (.slice (some ⟨B, 0, none⟩) 1 1) [x] := by
  refine ⟨some ⟨B, 0, none⟩, 1, rfl, Nat.le_refl _, by decide, ?_⟩
  intro i y hy
  obtain rfl : i = 0 := by
    cases i with
    | zero => rfl
    | succ i => simp at hy
  simp only [List.getElem?_cons_zero, Option.some.injEq] at hy
  subst hy
  refine ⟨B, 0, cs, rfl, hO, ?_, hx⟩
  intro j u hj
  simp only [World.cell?, hB]
  simpa using hj
def insAt (T : List File) (i : Nat) (f : File) : List File := T.take i ++ f :: T.drop i
set_option maxHeartbeats 2000000 in
set_option maxRecDepth 100000 in
theorem insert_end (T : List File) (f : File) (v fv : Value) (w0 w : World) (B : Nat) (E : TypeId) (hn : OwnN 76 w0 w v T) (hT : T.length ≤ 1000000)
    (hB : w.heap[B]? = some (.cells #[.string f.path, fv] E (0, 0))) (hvB : ∀ k, v.ownBlock = some k → k ≠ B) (hf : Dat.rd w (fun k => Never k ∨ v.ownBlock = some k) [.string f.path, fv] f) :
    Calls Tryz.prog 41 #[v, .int .i64 T.length, .slice (some ⟨B, 0, none⟩) 1 1] w fun e w' => ∃ r, e = .returned r ∧ OwnN 76 w0 w' r (T ++ [f]) := by
  obtain ⟨a, cap, rfl, h1, h2, _⟩ := rdv_slice hn.own.rdv
  unfold maxLen at h2
  obtain ⟨sb, u0, hrunL, u1, _⟩ := slice_gen (P := Tryz.prog) (t := 22) (by kernel_rfl) size_file (hn.own.rdv.sub (O' := Never) (fun _ _ h => h)) T.length T.length (Nat.le_refl _) (Nat.le_refl _)
  have hrunL := fun (wx : World) => hrunL (T.length : Int) wx rfl rfl
  clear u0 u1
  have hu : Rdv w (fun k => Never k ∨ (Value.slice a T.length cap).ownBlock = some k) (.slice (some ⟨B, 0, none⟩) 1 1) [f] := rdv_at hB (fun h => h.elim (fun h => h) (fun h => hvB _ h rfl)) hf
  have hle : T.length + [f].length ≤ 1000000000 := by simp; omega
  go_enter Tryz.func41, Tryz.ntmps41
  go_wp2_with (at_builtin; refine wpList_many2 (by rfl) _ _ 22 (by rfl) elemOk_file (O := Never) (l := T) (m := [f]) (by rfl) (by rfl) hn.own hu (fun _ h => h.elim) hle ?_; intro v1 w1 hw1 hd1 hk1; have hn1 := hn.step hw1 hd1 hk1)
  go_ret
  exact ⟨_, rfl, hn1⟩
theorem min_one {k : Nat} (h : 1 ≤ k) : Nat.min 1 k = 1 := Nat.min_eq_left h
theorem minR {a b : Nat} (h : b ≤ a) : Nat.min a b = b := Nat.min_eq_right h
set_option maxHeartbeats 4000000 in
set_option maxRecDepth 100000 in
theorem insert_room (T : List File) (i : Nat) (f : File) (v fv : Value) (w0 w : World) (B : Nat) (E : TypeId) (hn : OwnN 76 w0 w v T) (hi : i < T.length) (hT : T.length ≤ 1000000)
    (hB : w.heap[B]? = some (.cells #[.string f.path, fv] E (0, 0))) (hvB : ∀ k, v.ownBlock = some k → k ≠ B) (hf : Dat.rd w (fun k => Never k ∨ v.ownBlock = some k) [.string f.path, fv] f) :
    Calls Tryz.prog 41 #[v, .int .i64 i, .slice (some ⟨B, 0, none⟩) 1 1] w fun e w' => ∃ r, e = .returned r ∧ OwnN 76 w0 w' r (insAt T i f) := by
  obtain ⟨g, cap, r, tail, rfl, hg, hsz, hle, hcm, _, hr⟩ := own_rows hn.own (by omega)
  obtain ⟨hrl, hrq⟩ := hr.len
  have hrq : ∀ c ∈ r, c.length = 2 := hrq
  have hsz : (r.flatten ++ tail).length = cap * 2 := hsz
  obtain ⟨inf, hinf, hi2, hiz, hib⟩ := info_file
  have hfl : r.flatten.length = T.length * 2 := by rw [cells_len hrq, hrl]
  have hnew : w0.heap.size ≤ g := hn.new g rfl
  have hgl : g < w.heap.size := (Array.getElem?_eq_some_iff.1 hg).1
  have hBl : B < w.heap.size := (Array.getElem?_eq_some_iff.1 hB).1
  have hgB : g ≠ B := hvB g rfl
  have hRow := Lib.hid hr
  have hf' : Dat.rd w (fun k => Never k ∨ k = g) [.string f.path, fv] f := Dat.keep hf (Chg.refl Never w) (fun _ _ h => h.elim) (fun k _ hk => hk.imp_right (fun e => by rw [e]; rfl))
  unfold maxLen at hcm
  have hd1 : ((r.drop i).flatten).length = (T.length - i) * 2 := by rw [cells_len (fun c hc => hrq c (List.mem_of_mem_drop hc)), List.length_drop, hrl]
  have hone : ∀ u ∈ (r.drop i).flatten, u.oneCell' = true := fun u hu => by
    obtain ⟨c, hc, hu⟩ := List.mem_flatten.1 hu
    exact hr.one c (List.mem_of_mem_drop hc) u hu
  have hone2 : ∀ u ∈ [Value.string f.path, fv], u.oneCell' = true := Dat.one hf
  have hE1 : (r.flatten ++ tail).take (i * 2) = (r.take i).flatten := by
    rw [← cells_take r i hrq, List.take_append_of_le_length (by rw [hfl]; omega)]
  have ht1 : ((r.take i).flatten).length = i * 2 := by rw [cells_len (fun c hc => hrq c (List.mem_of_mem_take hc)), List.length_take, hrl]; omega
  have hsrc1 : ∀ (W : World), W.heap[g]? = w.heap[g]? → ∀ j u, ((r.drop i).flatten)[j]? = some u → W.cell? ((⟨g, i * 2, none⟩ : Addr).add j) = some u := fun W hW j u hu => by
    rw [Addr.add_lit]
    refine row_cell (w := W) (hW.trans hg) ?_
    rw [← cells_drop r i hrq, List.getElem?_drop] at hu
    rw [List.getElem?_append_left (List.getElem?_eq_some_iff.1 hu).1]
    exact hu
  have hsrc2 : ∀ (W : World), W.heap[B]? = w.heap[B]? → ∀ j u, [Value.string f.path, fv][j]? = some u → W.cell? ((⟨B, 0, none⟩ : Addr).add j) = some u := fun W hW j u hu => by
    rw [Addr.add_lit]
    exact row_cell (w := W) (L := [.string f.path, fv]) (hW.trans hB) (by rwa [Nat.zero_add])
  have h1 : ((i : Int) == (T.length : Int)) = false := beq_eq_false_iff_ne.2 (by omega)
  have h1' : ¬ ((i : Int) = (T.length : Int)) := by omega
  have h5 : ((i : Int) + 1).toNat = i + 1 := by omega
  have h6 : ((T.length : Int) + 1).toNat = T.length + 1 := by omega
  have h9 : (0 : Int) ≤ (i : Int) + 1 := by omega
  have h10 : (0 : Int) ≤ (T.length : Int) + 1 := by omega
  have h11 : (i : Int) + 1 ≤ (T.length : Int) + 1 := by omega
  have h12 : (i : Int) ≤ (T.length : Int) + 1 := by omega
  have h13 : (i : Int) ≤ (T.length : Int) := by omega
  have h14 : T.length + 1 - (i + 1) = T.length - i := by omega
  have h15 : i ≤ T.length := by omega
  have h16 : i ≤ T.length + 1 := by omega
  have h17 : i + 1 ≤ T.length + 1 := by omega
  have hw1 : IntKind.i64.wrap ((i : Int) + 1) = (i : Int) + 1 := by rw [IntKind.wrap_i64]; omega
  have hw2 : IntKind.i64.wrap ((T.length : Int) + 1) = (T.length : Int) + 1 := by rw [IntKind.wrap_i64]; omega
  have hw3 : IntKind.i64.wrap ((T.length : Int) + 1 - (i : Int)) = (T.length : Int) + 1 - (i : Int) := by rw [IntKind.wrap_i64]; omega
  have hm1 : Nat.min (T.length + 1 - i) (T.length - i) = T.length - i := minR (by omega)
  by_cases hroom : T.length + 1 ≤ cap
  · have hov : ∀ lb cb, (callFunc 68 #[.slice (some ⟨B, 0, none⟩) 1 1, .slice (some ⟨g, (i + 1) * 2, none⟩) lb cb]).run Tryz.prog w = .ok (.value (.bool false)) w := fun lb cb => by
      rw [run_callFunc_extern Tryz.func68 (by kernel_rfl) (by kernel_rfl) (by kernel_rfl) (e := Extern.SlicesOverlaps.overlaps #[22, 22] #[4]) (by kernel_rfl),
        Lib.run_overlaps_apart w 22 4 76 Tryz.underlying22 2 (fun w => by kernel_rfl) ⟨B, 0, none⟩ ⟨g, (i + 1) * 2, none⟩ 1 1 lb cb (fun e => hgB e.symm) E 76 2 (r.flatten ++ tail).toArray.size (by simp only [World.shape?, hB]; rfl) (by simp only [World.shape?, hg]) (by simp only [List.size_toArray]; omega) (by simp only [World.frozen?, hB]; rfl) (by simp only [World.frozen?, hB]; rfl)]
      rfl
    have hcp1 : ∀ ty dc sc, (Builtin.copy_ #[22, 22] ty #[.slice (some ⟨g, (i + 1) * 2, none⟩) (T.length - i) dc, .slice (some ⟨g, i * 2, none⟩) (T.length + 1 - i) sc]).run Tryz.prog w.drew = _ := fun ty dc sc =>
      run_copy_at (P := Tryz.prog) w.drew (ty := ty) (dCap := dc) (sCap := sc) (cs := (r.drop i).flatten) Tryz.underlying22 hinf (L := r.flatten ++ tail) hg (by rw [hd1, hi2, hm1]) (hsrc1 w.drew rfl) (by rw [hd1, hsz]; omega) hone
    have hE2 : ((r.flatten ++ tail).take ((i + 1) * 2)).length = i * 2 + 2 := by rw [List.length_take, hsz]; omega
    have hE3 : ((r.flatten ++ tail).take ((i + 1) * 2)).take (i * 2) = (r.take i).flatten := by rw [List.take_take, show min (i * 2) ((i + 1) * 2) = i * 2 by omega, hE1]
    have hE4 : ((r.flatten ++ tail).drop ((i + 1) * 2 + ((r.drop i).flatten).length)).length = (cap - (T.length + 1)) * 2 := by rw [List.length_drop, hsz, hd1]; omega
    generalize (r.flatten ++ tail).take ((i + 1) * 2) = P1 at hcp1 hE2 hE3
    generalize (r.flatten ++ tail).drop ((i + 1) * 2 + ((r.drop i).flatten).length) = rest at hcp1 hE4
    have hg1 : (w.drew.setRow g (P1 ++ (r.drop i).flatten ++ rest).toArray).heap[g]? = some (.cells (P1 ++ (r.drop i).flatten ++ rest).toArray 76 (0, 0)) := setRow_heap w.drew g _ _ _ _ hg
    have hB1 : (w.drew.setRow g (P1 ++ (r.drop i).flatten ++ rest).toArray).heap[B]? = w.heap[B]? := setRow_other w.drew g B _ (fun e => hgB e.symm)
    have hc1 := chg_setRow w.drew g (P1 ++ (r.drop i).flatten ++ rest).toArray
    generalize w.drew.setRow g (P1 ++ (r.drop i).flatten ++ rest).toArray = W1 at hcp1 hg1 hc1 hB1
    have hcp2 : ∀ (ty : TypeId) (dc : Nat), (Builtin.copy_ #[22, 22] ty #[.slice (some ⟨g, i * 2, none⟩) (T.length + 1 - i) dc, .slice (some ⟨B, 0, none⟩) 1 1]).run Tryz.prog W1 = _ := fun ty dc =>
      run_copy_at (P := Tryz.prog) W1 (ty := ty) (dCap := dc) (sCap := 1) (cs := [Value.string f.path, fv]) Tryz.underlying22 hinf hg1 (by rw [hi2, min_one (by omega)]; rfl) (hsrc2 W1 hB1) (by rw [List.length_append, List.length_append, hE2]; simp; omega) hone2
    have hL1 : (P1 ++ (r.drop i).flatten ++ rest).take (i * 2) = (r.take i).flatten := by rw [List.append_assoc, List.take_append_of_le_length (by omega), hE3]
    have hL2 : (P1 ++ (r.drop i).flatten ++ rest).drop (i * 2 + [Value.string f.path, fv].length) = (r.drop i).flatten ++ rest := by rw [List.append_assoc]; exact drop_two hE2
    rw [hL1, hL2] at hcp2
    have hg2 : (W1.setRow g ((r.take i).flatten ++ [Value.string f.path, fv] ++ ((r.drop i).flatten ++ rest)).toArray).heap[g]? = some (.cells ((r.take i).flatten ++ [Value.string f.path, fv] ++ ((r.drop i).flatten ++ rest)).toArray 76 (0, 0)) := setRow_heap W1 g _ _ _ _ hg1
    have hc2 := chg_setRow W1 g ((r.take i).flatten ++ [Value.string f.path, fv] ++ ((r.drop i).flatten ++ rest)).toArray
    generalize W1.setRow g ((r.take i).flatten ++ [Value.string f.path, fv] ++ ((r.drop i).flatten ++ rest)).toArray = W2 at hcp2 hg2 hc2
    have hcc : Chg (fun k => k = g) w W2 := ((Chg.refl (fun k => k = g) w).drew.trans hc1).trans hc2
    have hfin : Hid (OwnN 76 w0 W2 (.slice (some ⟨g, 0, none⟩) (T.length + 1) cap) (insAt T i f)) := by
      have hdl : (insAt T i f).length = T.length + 1 := by unfold insAt; rw [List.length_append, List.length_take, List.length_cons, List.length_drop]; omega
      have hrr := ((hRow.out.take i).app (show RdL w (fun k => Never k ∨ k = g) (f :: T.drop i) ([Value.string f.path, fv] :: r.drop i) from ⟨hf', hRow.out.drop i⟩)).keep (O'' := fun k => Never k ∨ k = g) hcc (fun k _ hk => .inr hk) (fun k _ hk => hk)
      have := own_laid (e := 76) (w := W2) (O := Never) (l := insAt T i f) (g := g) (cap := cap) (r := r.take i ++ [Value.string f.path, fv] :: r.drop i) (tail := rest) (by rw [List.flatten_append, List.flatten_cons]; simp only [List.append_assoc] at hg2 ⊢; exact hg2)
        (by rw [List.flatten_append, List.flatten_cons, List.length_append, List.length_append, List.length_append, ht1, hd1, hE4]; show _ = cap * 2; simp; omega) (by omega) (by unfold maxLen; omega) (fun h => h) hrr
      rw [hdl] at this
      exact ⟨this, fun k hk => by injection hk with hk; subst hk; exact hnew, hn.chg.trans' hcc (fun k hk h => by omega)⟩
    have h18 : ¬ cap = i := by omega
    have h19 : ¬ cap = i + 1 := by omega
    have h20 : (T.length : Int) + 1 ≤ cap := by omega
    have h21 : ¬ (cap : Int) < (T.length : Int) + 1 := by omega
    clear hg hsz hr hrq hfl hsrc1 hsrc2 hone hone2 hd1 hE1 hE2 hE3 hE4 hg1 hg2 hc1 hc2 hcc hRow hinf hn hrl ht1 hf hf' hB hB1 hvB hL1 hL2
    go_enter Tryz.func41, Tryz.ntmps41
    go_wp2_with (simp only [hov])
    refine wp_region_held_drew (S := fun _ => True) (by kernel_rfl) trivial (fun hH => ?_)
    refine' wpAnyH_take (i := 0) ?hi0 (by kernel_rfl) (by kernel_rfl) (by kernel_rfl) ?hQ0 (Or.inl ⟨?hw0, ?hy0⟩) (by assumption) ?_
    case hi0 => (simp only [List.getElem?_toArray, List.getElem?_cons_succ, List.getElem?_cons_zero]; rfl)
    case hQ0 => exact fun _ _ _ h => h
    case hw0 => rfl
    case hy0 => (intro w' hSw; (try dsimp only at hSw); go_simp; all_goals with_reducible rfl)
    try simp only [Act.put, List.setIfInBounds_toArray, List.set_cons_zero, List.set_cons_succ]
    refine' wpAnyH_take (i := 1) ?hi1 (by kernel_rfl) (by kernel_rfl) (by kernel_rfl) ?hQ1 (Or.inl ⟨?hw1, ?hy1⟩) (by assumption) ?_
    case hi1 => (simp only [List.getElem?_toArray, List.getElem?_cons_succ, List.getElem?_cons_zero]; rfl)
    case hQ1 => exact fun _ _ _ h => h
    case hw1 => rfl
    case hy1 => (intro w' hSw; (try dsimp only at hSw); go_simp; all_goals with_reducible rfl)
    try simp only [Act.put, List.setIfInBounds_toArray, List.set_cons_zero, List.set_cons_succ]
    refine' wpAnyH_take (i := 2) ?hi2 (by kernel_rfl) (by kernel_rfl) (by kernel_rfl) ?hQ2 (Or.inl ⟨?hw2, ?hy2⟩) (by assumption) ?_
    case hi2 => (simp only [List.getElem?_toArray, List.getElem?_cons_succ, List.getElem?_cons_zero]; rfl)
    case hQ2 => exact fun _ _ _ h => h
    case hw2 => rfl
    case hy2 => (intro w' hSw; (try dsimp only at hSw); go_simp; all_goals with_reducible rfl)
    try simp only [Act.put, List.setIfInBounds_toArray, List.set_cons_zero, List.set_cons_succ]
    refine' wpAnyH_take (i := 3) ?hi3 (by kernel_rfl) (by kernel_rfl) (by kernel_rfl) ?hQ3 (Or.inl ⟨?hw3, ?hy3⟩) (by assumption) ?_
    case hi3 => (simp only [List.getElem?_toArray, List.getElem?_cons_succ, List.getElem?_cons_zero]; rfl)
    case hQ3 => exact fun _ _ _ h => h
    case hw3 => rfl
    case hy3 => (intro w' hSw; (try dsimp only at hSw); go_simp; all_goals with_reducible rfl)
    try simp only [Act.put, List.setIfInBounds_toArray, List.set_cons_zero, List.set_cons_succ]
    refine' wpAnyH_take (i := 4) ?hi4 (by kernel_rfl) (by kernel_rfl) (by kernel_rfl) ?hQ4 (Or.inl ⟨?hw4, ?hy4⟩) (by assumption) ?_
    case hi4 => (simp only [List.getElem?_toArray, List.getElem?_cons_succ, List.getElem?_cons_zero]; rfl)
    case hQ4 => exact fun _ _ _ h => h
    case hw4 => rfl
    case hy4 => (intro w' hSw; (try dsimp only at hSw); go_simp; all_goals with_reducible rfl)
    try simp only [Act.put, List.setIfInBounds_toArray, List.set_cons_zero, List.set_cons_succ]
    refine' wpAnyH_take (i := 5) ?hi5 (by kernel_rfl) (by kernel_rfl) (by kernel_rfl) ?hQ5 (Or.inl ⟨?hw5, ?hy5⟩) (by assumption) ?_
    case hi5 => (simp only [List.getElem?_toArray, List.getElem?_cons_succ, List.getElem?_cons_zero]; rfl)
    case hQ5 => exact fun _ _ _ h => h
    case hw5 => rfl
    case hy5 => (intro w' hSw; (try dsimp only at hSw); go_simp; all_goals with_reducible rfl)
    try simp only [Act.put, List.setIfInBounds_toArray, List.set_cons_zero, List.set_cons_succ]
    refine' wpAnyH_take (i := 6) ?hi6 (by kernel_rfl) (by kernel_rfl) (by kernel_rfl) ?hQ6 (Or.inl ⟨?hw6, ?hy6⟩) (by assumption) ?_
    case hi6 => (simp only [List.getElem?_toArray, List.getElem?_cons_succ, List.getElem?_cons_zero]; rfl)
    case hQ6 => exact fun _ _ _ h => h
    case hw6 => rfl
    case hy6 => (intro w' hSw; (try dsimp only at hSw); go_simp; all_goals with_reducible rfl)
    try simp only [Act.put, List.setIfInBounds_toArray, List.set_cons_zero, List.set_cons_succ]
    refine' wpAnyH_take (i := 7) ?hi7 (by kernel_rfl) (by kernel_rfl) (by kernel_rfl) ?hQ7 (Or.inl ⟨?hw7, ?hy7⟩) (by assumption) ?_
    case hi7 => (simp only [List.getElem?_toArray, List.getElem?_cons_succ, List.getElem?_cons_zero]; rfl)
    case hQ7 => exact fun _ _ _ h => h
    case hw7 => rfl
    case hy7 => (intro w' hSw; (try dsimp only at hSw); go_simp; all_goals with_reducible rfl)
    try simp only [Act.put, List.setIfInBounds_toArray, List.set_cons_zero, List.set_cons_succ]
    refine wpAnyH_ready (rs := [8]) (by kernel_rfl) (by simp) ?_
    refine AllReadyH.cons rfl (fun K hK => ?_) AllReadyH.nil
    refine step_copy_eq (by rfl) _ _ 22 22 (by rfl) _ _ (by rfl) (by rfl) (hcp1 _ _ _) ?_
    refine hK.out _ _ trivial (fun _ => ?_)
    clear hK K
    try simp only [Act.put, List.setIfInBounds_toArray, List.set_cons_zero, List.set_cons_succ]
    refine wpAnyH_done (by kernel_rfl) ?_ _
    go_wp2_with (at_builtin; refine wpList_copy_eq _ (by rfl) _ _ 22 22 (by rfl) _ _ (by rfl) (by rfl) (hcp2 _ _) ?_)
    go_ret
    exact ⟨_, rfl, hfin.out⟩
  · obtain rfl : cap = T.length := by omega
    have hold : (Builtin.firstCells inf.size i (.slice (some ⟨g, 0, none⟩) i T.length)).run Tryz.prog w.drew = .ok ((r.take i).flatten).toArray w.drew :=
      run_firstCells_some w.drew inf.size i ⟨g, 0, none⟩ i T.length ((r.take i).flatten) (by rw [ht1, hi2]) (fun j u hu => by
        rw [Addr.add_lit]
        refine row_cell (w := w.drew) hg ?_
        rw [← hE1, List.getElem?_take] at hu
        split at hu
        · rw [Nat.zero_add]; exact hu
        · cases hu)
    have hik : i + (T.length + 1 - i) = T.length + 1 := by omega
    have hkk : (T.length : Int) + 1 - (i : Int) = ((T.length + 1 - i : Nat) : Int) := by omega
    have hrz := fun ty => Lib.run_append_grow_zeros (P := Tryz.prog) w 22 3 ty 76 inf (.agg #[.string ⟨#[]⟩, .slice none 0 0]) .i64 .i64 Tryz.underlying22 Tryz.underlying3 hinf hiz (some ⟨g, 0, none⟩) i T.length _ hold (T.length + 1 - i) (by omega) (by omega) (by omega) (by omega)
        (by have := Nat.mul_le_mul (show T.length + 1 - i ≤ 1000001 by omega) hib; omega) (growslice_fits (by omega) (by rw [hik]; have := Nat.mul_le_mul (show T.length + 1 ≤ 1000001 by omega) hib; omega))
    rw [← hkk] at hrz
    rw [hik] at hrz
    have hGn : T.length + 1 ≤ grownCap w (T.length + 1) T.length 76 := grownCap_ge w _ _ _
    have hGm : grownCap w (T.length + 1) T.length 76 ≤ maxLen := grownCap_le_maxLen w _ _ _ (by unfold maxLen; omega)
    generalize grownCap w (T.length + 1) T.length 76 = Gc at hrz hGn hGm
    have hz1 := size_zeroCells (Value.agg #[.string ⟨#[]⟩, .slice none 0 0]).cells (T.length + 1 - i)
    have hz2 := size_zeroCells (Value.agg #[.string ⟨#[]⟩, .slice none 0 0]).cells (Gc - (T.length + 1))
    have hz3 : (Value.agg #[.string ⟨#[]⟩, .slice none 0 0]).cells.size = 2 := rfl
    rw [hz3] at hz1 hz2
    generalize Builtin.zeroCells (Value.agg #[.string ⟨#[]⟩, .slice none 0 0]).cells (T.length + 1 - i) = Z1 at hrz hz1
    generalize Builtin.zeroCells (Value.agg #[.string ⟨#[]⟩, .slice none 0 0]).cells (Gc - (T.length + 1)) = Z2 at hrz hz2
    have hA : ((r.take i).flatten).toArray ++ Z1 ++ Z2 = ((r.take i).flatten ++ (Z1.toList ++ Z2.toList)).toArray := by simp
    rw [hA] at hrz
    have hZl : (Z1.toList ++ Z2.toList).length = (Gc - i) * 2 := by rw [List.length_append, Array.length_toList, Array.length_toList, hz1, hz2]; omega
    generalize Z1.toList ++ Z2.toList = ZL at hrz hZl
    generalize hG0 : w.heap.size = G0 at hrz
    have hg0 : (w.drew.alloc (.cells ((r.take i).flatten ++ ZL).toArray 76)).heap[G0]? = some (.cells ((r.take i).flatten ++ ZL).toArray 76 (0, 0)) := by rw [← hG0]; exact heap_alloc_new w.drew _
    have hc0 : Chg Never w (w.drew.alloc (.cells ((r.take i).flatten ++ ZL).toArray 76)) := (Chg.refl Never w).drew.alloc _
    generalize w.drew.alloc (.cells ((r.take i).flatten ++ ZL).toArray 76) = W1 at hrz hg0 hc0
    have hcp1 : ∀ (ty : TypeId) (dc : Nat), (Builtin.copy_ #[22, 22] ty #[.slice (some ⟨G0, i * 2, none⟩) (T.length + 1 - i) dc, .slice (some ⟨B, 0, none⟩) 1 1]).run Tryz.prog W1 = _ := fun ty dc =>
      run_copy_at (P := Tryz.prog) W1 (ty := ty) (dCap := dc) (sCap := 1) (cs := [Value.string f.path, fv]) Tryz.underlying22 hinf hg0 (by rw [hi2, min_one (by omega)]; rfl) (hsrc2 W1 (hc0.block B hBl (fun h => h))) (by rw [List.length_append, ht1, hZl]; simp; omega) hone2
    have hL1 : ((r.take i).flatten ++ ZL).take (i * 2) = (r.take i).flatten := take_two ht1
    have hL2 : (((r.take i).flatten ++ ZL).drop (i * 2 + [Value.string f.path, fv].length)).length = (Gc - (i + 1)) * 2 := by rw [List.length_drop, List.length_append, ht1, hZl]; simp; omega
    rw [hL1] at hcp1
    generalize ((r.take i).flatten ++ ZL).drop (i * 2 + [Value.string f.path, fv].length) = R1 at hcp1 hL2
    have hg1 : (W1.setRow G0 ((r.take i).flatten ++ [Value.string f.path, fv] ++ R1).toArray).heap[G0]? = some (.cells ((r.take i).flatten ++ [Value.string f.path, fv] ++ R1).toArray 76 (0, 0)) := setRow_heap W1 G0 _ _ _ _ hg0
    have hc1 := chg_setRow W1 G0 ((r.take i).flatten ++ [Value.string f.path, fv] ++ R1).toArray
    have hgg1 : (W1.setRow G0 ((r.take i).flatten ++ [Value.string f.path, fv] ++ R1).toArray).heap[g]? = w.heap[g]? := (setRow_other W1 G0 g _ (by omega)).trans (hc0.block g hgl (fun h => h))
    generalize W1.setRow G0 ((r.take i).flatten ++ [Value.string f.path, fv] ++ R1).toArray = W2 at hcp1 hg1 hc1 hgg1
    have hcp2 : ∀ ty dc sc, (Builtin.copy_ #[22, 22] ty #[.slice (some ⟨G0, (i + 1) * 2, none⟩) (T.length - i) dc, .slice (some ⟨g, i * 2, none⟩) (T.length - i) sc]).run Tryz.prog W2.drew = _ := fun ty dc sc =>
      run_copy_at (P := Tryz.prog) W2.drew (ty := ty) (dCap := dc) (sCap := sc) (cs := (r.drop i).flatten) Tryz.underlying22 hinf (L := (r.take i).flatten ++ [Value.string f.path, fv] ++ R1) hg1 (by rw [hd1, hi2, minR (by omega)]) (hsrc1 W2.drew hgg1) (by rw [hd1, List.length_append, List.length_append, ht1, hL2]; simp; omega) hone
    have hL3 : ((r.take i).flatten ++ [Value.string f.path, fv]).length = (i + 1) * 2 := by rw [List.length_append, ht1]; simp; omega
    have hL4 : ((r.take i).flatten ++ [Value.string f.path, fv] ++ R1).take ((i + 1) * 2) = (r.take i).flatten ++ [Value.string f.path, fv] := take_two hL3
    have hL5 : (((r.take i).flatten ++ [Value.string f.path, fv] ++ R1).drop ((i + 1) * 2 + ((r.drop i).flatten).length)).length = (Gc - (T.length + 1)) * 2 := by rw [List.length_drop, List.length_append, hL3, hL2, hd1]; omega
    rw [hL4] at hcp2
    generalize ((r.take i).flatten ++ [Value.string f.path, fv] ++ R1).drop ((i + 1) * 2 + ((r.drop i).flatten).length) = rest at hcp2 hL5
    have hg2 : (W2.drew.setRow G0 ((r.take i).flatten ++ [Value.string f.path, fv] ++ (r.drop i).flatten ++ rest).toArray).heap[G0]? = some (.cells ((r.take i).flatten ++ [Value.string f.path, fv] ++ (r.drop i).flatten ++ rest).toArray 76 (0, 0)) := setRow_heap W2.drew G0 _ _ _ _ hg1
    have hc2 := chg_setRow W2.drew G0 ((r.take i).flatten ++ [Value.string f.path, fv] ++ (r.drop i).flatten ++ rest).toArray
    generalize W2.drew.setRow G0 ((r.take i).flatten ++ [Value.string f.path, fv] ++ (r.drop i).flatten ++ rest).toArray = W3 at hcp2 hg2 hc2
    have hcc : Chg (fun k => k = G0) w W3 := (((hc0.mono (fun _ _ h => h.elim)).trans hc1).drew).trans hc2
    have hfin : Hid (OwnN 76 w0 W3 (.slice (some ⟨G0, 0, none⟩) (T.length + 1) Gc) (insAt T i f)) := by
      have hdl : (insAt T i f).length = T.length + 1 := by unfold insAt; rw [List.length_append, List.length_take, List.length_cons, List.length_drop]; omega
      have hrr := ((hRow.out.take i).app (show RdL w (fun k => Never k ∨ k = g) (f :: T.drop i) ([Value.string f.path, fv] :: r.drop i) from ⟨hf', hRow.out.drop i⟩)).keep (O'' := fun k => Never k ∨ k = G0) hcc (fun k hk h => by omega) (fun k hk h => h.elim (fun h => h.elim) (fun h => by omega))
      have := own_laid (e := 76) (w := W3) (O := Never) (l := insAt T i f) (g := G0) (cap := Gc) (r := r.take i ++ [Value.string f.path, fv] :: r.drop i) (tail := rest) (by rw [List.flatten_append, List.flatten_cons]; simp only [List.append_assoc] at hg2 ⊢; exact hg2)
        (by rw [List.flatten_append, List.flatten_cons, List.length_append, List.length_append, List.length_append, ht1, hd1, hL5]; show _ = Gc * 2; simp; omega) (by omega) hGm (fun h => h) hrr
      rw [hdl] at this
      have hws := hn.chg.size
      exact ⟨this, fun k hk => by injection hk with hk; subst hk; show w0.heap.size ≤ G0; omega, hn.chg.trans' hcc (fun k hk h => by omega)⟩
    have h18 : ¬ Gc = i := by omega
    have h19 : ¬ Gc = i + 1 := by omega
    have h22 : ¬ T.length = i := by omega
    have h20 : (T.length : Int) < (T.length : Int) + 1 := by omega
    clear hg hsz hr hrq hfl hsrc1 hsrc2 hone hone2 hd1 hE1 hg0 hg1 hg2 hc0 hc1 hc2 hcc hRow hinf hn hrl ht1 hf hf' hB hvB hL1 hL2 hL3 hL4 hL5 hold hA hgg1 hG0 hkk
    go_enter Tryz.func41, Tryz.ntmps41
    go_wp2_with (first
      | (at_builtin; refine Lib.wpList_append_run _ (by rfl) _ _ _ _ (by rfl) _ _ (by rfl) (by rfl) _ _ (hrz _) ?_)
      | (at_builtin; refine wpList_copy_eq _ (by rfl) _ _ 22 22 (by rfl) _ _ (by rfl) (by rfl) (hcp1 _ _) ?_))
    refine wp_region_held_drew (S := fun _ => True) (by kernel_rfl) trivial (fun hH => ?_)
    refine' wpAnyH_take (i := 0) ?hi0 (by kernel_rfl) (by kernel_rfl) (by kernel_rfl) ?hQ0 (Or.inl ⟨?hw0, ?hy0⟩) (by assumption) ?_
    case hi0 => (simp only [List.getElem?_toArray, List.getElem?_cons_succ, List.getElem?_cons_zero]; rfl)
    case hQ0 => exact fun _ _ _ h => h
    case hw0 => rfl
    case hy0 => (intro w' hSw; (try dsimp only at hSw); go_simp; all_goals with_reducible rfl)
    try simp only [Act.put, List.setIfInBounds_toArray, List.set_cons_zero, List.set_cons_succ]
    refine' wpAnyH_take (i := 1) ?hi1 (by kernel_rfl) (by kernel_rfl) (by kernel_rfl) ?hQ1 (Or.inl ⟨?hw1, ?hy1⟩) (by assumption) ?_
    case hi1 => (simp only [List.getElem?_toArray, List.getElem?_cons_succ, List.getElem?_cons_zero]; rfl)
    case hQ1 => exact fun _ _ _ h => h
    case hw1 => rfl
    case hy1 => (intro w' hSw; (try dsimp only at hSw); go_simp; all_goals with_reducible rfl)
    try simp only [Act.put, List.setIfInBounds_toArray, List.set_cons_zero, List.set_cons_succ]
    refine' wpAnyH_take (i := 2) ?hi2 (by kernel_rfl) (by kernel_rfl) (by kernel_rfl) ?hQ2 (Or.inl ⟨?hw2, ?hy2⟩) (by assumption) ?_
    case hi2 => (simp only [List.getElem?_toArray, List.getElem?_cons_succ, List.getElem?_cons_zero]; rfl)
    case hQ2 => exact fun _ _ _ h => h
    case hw2 => rfl
    case hy2 => (intro w' hSw; (try dsimp only at hSw); go_simp; all_goals with_reducible rfl)
    try simp only [Act.put, List.setIfInBounds_toArray, List.set_cons_zero, List.set_cons_succ]
    refine' wpAnyH_take (i := 3) ?hi3 (by kernel_rfl) (by kernel_rfl) (by kernel_rfl) ?hQ3 (Or.inl ⟨?hw3, ?hy3⟩) (by assumption) ?_
    case hi3 => (simp only [List.getElem?_toArray, List.getElem?_cons_succ, List.getElem?_cons_zero]; rfl)
    case hQ3 => exact fun _ _ _ h => h
    case hw3 => rfl
    case hy3 => (intro w' hSw; (try dsimp only at hSw); go_simp; all_goals with_reducible rfl)
    try simp only [Act.put, List.setIfInBounds_toArray, List.set_cons_zero, List.set_cons_succ]
    refine' wpAnyH_take (i := 4) ?hi4 (by kernel_rfl) (by kernel_rfl) (by kernel_rfl) ?hQ4 (Or.inl ⟨?hw4, ?hy4⟩) (by assumption) ?_
    case hi4 => (simp only [List.getElem?_toArray, List.getElem?_cons_succ, List.getElem?_cons_zero]; rfl)
    case hQ4 => exact fun _ _ _ h => h
    case hw4 => rfl
    case hy4 => (intro w' hSw; (try dsimp only at hSw); go_simp; all_goals with_reducible rfl)
    try simp only [Act.put, List.setIfInBounds_toArray, List.set_cons_zero, List.set_cons_succ]
    refine' wpAnyH_take (i := 5) ?hi5 (by kernel_rfl) (by kernel_rfl) (by kernel_rfl) ?hQ5 (Or.inl ⟨?hw5, ?hy5⟩) (by assumption) ?_
    case hi5 => (simp only [List.getElem?_toArray, List.getElem?_cons_succ, List.getElem?_cons_zero]; rfl)
    case hQ5 => exact fun _ _ _ h => h
    case hw5 => rfl
    case hy5 => (intro w' hSw; (try dsimp only at hSw); go_simp; all_goals with_reducible rfl)
    try simp only [Act.put, List.setIfInBounds_toArray, List.set_cons_zero, List.set_cons_succ]
    refine' wpAnyH_take (i := 6) ?hi6 (by kernel_rfl) (by kernel_rfl) (by kernel_rfl) ?hQ6 (Or.inl ⟨?hw6, ?hy6⟩) (by assumption) ?_
    case hi6 => (simp only [List.getElem?_toArray, List.getElem?_cons_succ, List.getElem?_cons_zero]; rfl)
    case hQ6 => exact fun _ _ _ h => h
    case hw6 => rfl
    case hy6 => (intro w' hSw; (try dsimp only at hSw); go_simp; all_goals with_reducible rfl)
    try simp only [Act.put, List.setIfInBounds_toArray, List.set_cons_zero, List.set_cons_succ]
    refine' wpAnyH_take (i := 7) ?hi7 (by kernel_rfl) (by kernel_rfl) (by kernel_rfl) ?hQ7 (Or.inl ⟨?hw7, ?hy7⟩) (by assumption) ?_
    case hi7 => (simp only [List.getElem?_toArray, List.getElem?_cons_succ, List.getElem?_cons_zero]; rfl)
    case hQ7 => exact fun _ _ _ h => h
    case hw7 => rfl
    case hy7 => (intro w' hSw; (try dsimp only at hSw); go_simp; all_goals with_reducible rfl)
    try simp only [Act.put, List.setIfInBounds_toArray, List.set_cons_zero, List.set_cons_succ]
    refine wpAnyH_ready (rs := [8]) (by kernel_rfl) (by simp) ?_
    refine AllReadyH.cons rfl (fun K hK => ?_) AllReadyH.nil
    refine step_copy_eq (by rfl) _ _ 22 22 (by rfl) _ _ (by rfl) (by rfl) (hcp2 _ _ _) ?_
    refine hK.out _ _ trivial (fun _ => ?_)
    clear hK K
    try simp only [Act.put, List.setIfInBounds_toArray, List.set_cons_zero, List.set_cons_succ]
    refine wpAnyH_done (by kernel_rfl) ?_ _
    go_wp2_with fail
    go_ret
    exact ⟨_, rfl, hfin.out⟩
theorem insert_any (T : List File) (i : Nat) (f : File) (v fv : Value) (w0 w : World) (B : Nat) (E : TypeId) (hn : OwnN 76 w0 w v T) (hi : i ≤ T.length) (hT : T.length ≤ 1000000)
    (hB : w.heap[B]? = some (.cells #[.string f.path, fv] E (0, 0))) (hvB : ∀ k, v.ownBlock = some k → k ≠ B) (hf : Dat.rd w (fun k => Never k ∨ v.ownBlock = some k) [.string f.path, fv] f) :
    Calls Tryz.prog 41 #[v, .int .i64 i, .slice (some ⟨B, 0, none⟩) 1 1] w fun e w' => ∃ r, e = .returned r ∧ OwnN 76 w0 w' r (insAt T i f) := by
  rcases Nat.lt_or_ge i T.length with h | h
  · exact insert_room T i f v fv w0 w B E hn h hT hB hvB hf
  · obtain rfl : i = T.length := by omega
    have e : insAt T T.length f = T ++ [f] := by unfold insAt; rw [List.take_length, List.drop_length]
    rw [e]
    exact insert_end T f v fv w0 w B E hn hT hB hvB hf
end Go.Proofs.YteocmmejfnmjcaaGreatDoor
namespace Go.Proofs.YteocmmejfnmjcaaGreatDoor
open Go.RowKit

theorem own_out {α : Type} [Dat α] {e : TypeId} {w : World} {O : Nat → Prop} {v : Value} {l : List α} (h : Own e w O v l) : ∀ k, v.ownBlock = some k → ¬ O k := by
  obtain ⟨_, _, q, _⟩ := h
  exact q
end Go.Proofs.YteocmmejfnmjcaaGreatDoor
namespace Go.Proofs.YteocmmejfnmjcaaGreatDoor
open Go.RowKit

theorem wholeR_nil (s : Int) : wholeR [] s = [] := if_pos rfl
theorem wholeR_some {l : List ByteArray} (h : l ≠ []) (s : Int) : wholeR l s = [⟨0, 0, l.map fun x => ⟨s, x⟩⟩] := if_neg h
theorem sign_take {l : List ByteArray} {k : Nat} {x : ByteArray} {s : Int} (hx : l[k]? = some x) : (l.take (k + 1)).map (fun x => (⟨s, x⟩ : Mark)) = (l.take k).map (fun x => (⟨s, x⟩ : Mark)) ++ [⟨s, x⟩] := by
  rw [List.take_add_one, hx]; simp
theorem rdv_lit_hunk {w : World} {x : Hunk} {mv : Value} {t : TypeId} (h : Rdv w Never mv x.marks) : Rdv (w.alloc (.cells #[.int .i64 x.old, .int .i64 x.new, mv] t)) Never (.slice (some ⟨w.heap.size, 0, none⟩) 1 1) [x] :=
  rdv_lit (e := t) (cs := [.int .i64 x.old, .int .i64 x.new, mv]) (heap_alloc_new _ _) rfl (by decide) ⟨⟨mv, rfl, h.never ((Chg.refl Never w).alloc _)⟩, trivial⟩
theorem rdv_hunkO {w : World} {O : Nat → Prop} {x : Hunk} {mv : Value} {t : TypeId} (h : Rdv w O mv x.marks) (hO : ¬ O w.heap.size) : Rdv (w.alloc (.cells #[.int .i64 x.old, .int .i64 x.new, mv] t)) O (.slice (some ⟨w.heap.size, 0, none⟩) 1 1) [x] := by
  refine ⟨some ⟨w.heap.size, 0, none⟩, 1, rfl, Nat.le_refl _, by decide, ?_⟩
  intro i y hy
  obtain rfl : i = 0 := by
    cases i with
    | zero => rfl
    | succ i => simp at hy
  simp only [List.getElem?_cons_zero, Option.some.injEq] at hy
  subst hy
  refine ⟨w.heap.size, 0, [.int .i64 x.old, .int .i64 x.new, mv], rfl, hO, ?_, ⟨mv, rfl, h.never ((Chg.refl Never w).alloc _)⟩⟩
  intro j u hj
  simp only [World.cell?, heap_alloc_new]
  simpa using hj
set_option maxHeartbeats 2000000 in
set_option maxRecDepth 100000 in
theorem all_any (l : List ByteArray) (s : Int) (v : Value) (w : World) (h : Rdv w Never v l) (s0 : 0 ≤ s) (s1 : s < 256) (hl : l.length ≤ 1000000) :
    Calls Tryz.prog 71 #[v, .int .u8 s] w fun e w' => ∃ r, e = .returned r ∧ Chg Never w w' ∧ Rdv w' (Old w.heap.size) r (wholeR l s) := by
  obtain ⟨a, cap, rfl, h1, h2, h3⟩ := rdv_slice h
  unfold maxLen at h2
  by_cases hn : l = []
  · subst hn
    rw [wholeR_nil]
    go_enter Tryz.func71, Tryz.ntmps71
    go_wp2_with fail
    go_ret
    exact ⟨_, rfl, Chg.refl _ _, rdv_nil _ _⟩
  · have hpos : 0 < l.length := List.length_pos_iff.2 hn
    have t0 : ((l.length : Int) == 0) = false := by simp; omega
    have HN := Lib.hid hn
    clear hn
    have hB0 := Blk3.new w 61 (.int .i64 0) (.int .i64 0) (.slice none 0 0)
    have hc0 : Chg Never w (w.alloc (.cells #[.int .i64 0, .int .i64 0, .slice none 0 0] 61)) := (Chg.refl Never w).alloc _
    go_enter Tryz.func71, Tryz.ntmps71
    go_wp2_with fail
    generalize w.alloc (.cells #[.int .i64 0, .int .i64 0, .slice none 0 0] 61) = wA at hB0 hc0 ⊢
    generalize hBe : w.heap.size = B at hB0 ⊢
    have hBge : w.heap.size ≤ B := Nat.le_of_eq hBe
    clear hBe
    go_loopw [13] (fun i wr => ∃ (j : Nat) (mv : Value), j ≤ l.length ∧ i = .int .i64 j ∧ Chg Never w wr ∧ Blk3 wr B 61 (.int .i64 0) (.int .i64 0) mv ∧ Own 72 wr (Old (B + 1)) mv ((l.take j).map fun x => (⟨s, x⟩ : Mark))) (fun i _ => l.length - (intOf i).toNat)
    case atStart => exact ⟨0, .slice none 0 0, Nat.zero_le _, rfl, hc0, hB0, own_nil _ _ _⟩
    case round =>
      clear hc0 hB0
      obtain ⟨j, mv, hj, rfl, hc, hB, hmk⟩ := hrel
      obtain ⟨qa, qn, qc, rfl⟩ := own_isSlice hmk
      obtain ⟨f0, f1, f2⟩ := hB.cell
      have hBlt := hB.lt
      by_cases hlt : j < l.length
      · obtain ⟨x, hx⟩ : ∃ x, l[j]? = some x := ⟨l[j], by simp [hlt]⟩
        obtain ⟨b, off, rfl, _, _, c0, hxs⟩ := elems_str h3 hx
        have c0 := hc.cellNever c0
        have HX := Lib.hid hx
        have hOm : ∀ q, Old (B + 1) q → q < wr.heap.size := fun q hq => by unfold Old at hq; omega
        have hml : ((l.take j).map fun x => (⟨s, x⟩ : Mark)).length ≤ 1000000000 := by rw [List.length_map, List.length_take]; omega
        clear hx h3 h
        go_wp2_with (at_builtin; refine wpList_push (by rfl) _ _ 59 (by rfl) elemOk_mark (O := Old (B + 1)) (l := (l.take j).map fun x => (⟨s, x⟩ : Mark)) (y := ⟨s, x⟩) (by rfl) (by rfl) (by simp) hmk (rd_mark _ _ s x s0 s1 hxs) hOm hml ?_; intro mv' w5 hmk5 hc2 _; obtain ⟨sa, sn, sc, rfl⟩ := own_isSlice hmk5; have hB5 := hB.keep hc2 (fun hh => own_out hmk _ hh (Nat.lt_succ_self _)); have hc5 := hc.trans' hc2 (fun i hi hh => own_out hmk i hh (by unfold Old; omega)); obtain ⟨g0, g1, g2⟩ := hB5.cell; have g3 := hB5.free 2; clear hc2)
        have hB6 := hB5.set2 (.slice sa sn sc)
        have hmk6 := hmk5.keep (O' := fun q => q = B) (O'' := Old (B + 1)) ((Chg.refl (fun q => q = B) w5).setCell (p := ⟨B, 2, none⟩) (.inr rfl) (.slice sa sn sc)) (fun q _ hq => by have h : q = B := hq; unfold Old; omega) (fun _ _ hh => hh)
        have hc6 := hc5.setCell (p := ⟨B, 2, none⟩) (.inl hBge) (.slice sa sn sc)
        clear g0 g1 g2 g3 hB5 hmk5 hc5 hB hmk hc
        go_roundw
        case rel => exact ⟨j + 1, .slice sa sn sc, by omega, by go_num, hc6, hB6, by rw [sign_take HX.out]; exact hmk6⟩
        case measure => simp [intOf] <;> omega
      · obtain rfl : j = l.length := by omega
        rw [List.take_length] at hmk
        have hr := hmk.rdv.sub (O' := Old w.heap.size) (fun k _ h => by unfold Old at *; omega)
        have hl1 := rdv_hunkO (x := ⟨0, 0, l.map fun x => ⟨s, x⟩⟩) (t := 61) hr (fun h => absurd hc.size (Nat.not_le_of_lt h))
        go_wp2_with fail
        go_ret
        exact ⟨_, rfl, hc.alloc _, by rw [wholeR_some HN.out]; exact hl1⟩

set_option maxHeartbeats 2000000 in
set_option maxRecDepth 100000 in
theorem refWhole_any (l : List ByteArray) (s : Int) (v : Value) (w : World) (h : Rdv w Never v l) (s0 : 0 ≤ s) (s1 : s < 256) (hl : l.length ≤ 1000000) :
    Calls Tryz.prog 43 #[v, .int .u8 s] w fun e w' => ∃ r, e = .returned r ∧ Chg Never w w' ∧ Rdv w' (Old w.heap.size) r (wholeR l s) := by
  obtain ⟨a, cap, rfl, h1, h2, h3⟩ := rdv_slice h
  unfold maxLen at h2
  have hB0 := Blk3.new w 61 (.int .i64 0) (.int .i64 0) (.slice none 0 0)
  have hc0 : Chg Never w (w.alloc (.cells #[.int .i64 0, .int .i64 0, .slice none 0 0] 61)) := (Chg.refl Never w).alloc _
  go_enter Tryz.func43, Tryz.ntmps43
  go_wp2_with fail
  generalize w.alloc (.cells #[.int .i64 0, .int .i64 0, .slice none 0 0] 61) = wA at hB0 hc0 ⊢
  generalize hBe : w.heap.size = B at hB0 ⊢
  have hBge : w.heap.size ≤ B := Nat.le_of_eq hBe
  clear hBe
  go_loopw [6] (fun i wr => ∃ (j : Nat) (mv : Value), j ≤ l.length ∧ i = .int .i64 j ∧ Chg Never w wr ∧ Blk3 wr B 61 (.int .i64 0) (.int .i64 0) mv ∧ Own 72 wr (Old (B + 1)) mv ((l.take j).map fun x => (⟨s, x⟩ : Mark))) (fun i _ => l.length - (intOf i).toNat)
  case atStart => exact ⟨0, .slice none 0 0, Nat.zero_le _, rfl, hc0, hB0, own_nil _ _ _⟩
  case round =>
    clear hc0 hB0
    obtain ⟨j, mv, hj, rfl, hc, hB, hmk⟩ := hrel
    obtain ⟨qa, qn, qc, rfl⟩ := own_isSlice hmk
    have hBlt := hB.lt
    by_cases hlt : j < l.length
    · obtain ⟨x, hx⟩ : ∃ x, l[j]? = some x := ⟨l[j], by simp [hlt]⟩
      obtain ⟨b, off, rfl, _, _, c0, hxs⟩ := elems_str h3 hx
      have c0 := hc.cellNever c0
      have HX := Lib.hid hx
      have hOm : ∀ q, Old (B + 1) q → q < wr.drew.heap.size := fun q hq => by
        have e : wr.drew.heap.size = wr.heap.size := rfl
        rw [e]; unfold Old at hq; omega
      have hml : ((l.take j).map fun x => (⟨s, x⟩ : Mark)).length ≤ 1000000000 := by rw [List.length_map, List.length_take]; omega
      clear hx h3 h
      obtain ⟨f0, f1, f2⟩ := hB.cell
      have hB' := hB.keep (O := Never) (Chg.refl Never wr).drew (fun h => h)
      have hmk' := hmk.never (Chg.refl Never wr).drew
      have hc' := hc.drew
      clear hB hmk
      go_wp2_with fail
      go_region_law ((refine step_push (by rfl) _ _ 59 (by rfl) elemOk_mark (O := Old (B + 1)) (l := (l.take j).map fun x => (⟨s, x⟩ : Mark)) (y := ⟨s, x⟩) (by rfl) (by rfl) (by simp) hmk' (rd_mark _ _ s x s0 s1 hxs) hOm hml ?_; intro v' w5 hmk5 hc2 hk2; obtain ⟨ad, nn, cc, rfl⟩ := own_slice hk2; have hB5 := hB'.keep hc2 (fun hh => own_out hmk' _ hh (Nat.lt_succ_self _)); obtain ⟨g0, g1, g2⟩ := hB5.cell; have g3 := hB5.free 2))
      all_goals
        have hB6 := hB5.set2 (.slice (some ad) nn cc)
        have hmk6 := hmk5.keep (O' := fun q => q = B) (O'' := Old (B + 1)) ((Chg.refl (fun q => q = B) w5).setCell (p := ⟨B, 2, none⟩) (.inr rfl) (.slice (some ad) nn cc)) (fun q _ hq => by have h : q = B := hq; unfold Old; omega) (fun _ _ hh => hh)
        have hc6 := (hc'.trans' hc2 (fun i hi hh => own_out hmk' i hh (by unfold Old; omega))).setCell (p := ⟨B, 2, none⟩) (.inl hBge) (.slice (some ad) nn cc)
        clear g0 g1 g2 g3 hB5 hmk5 hc2 hk2 hB' hmk' hc' hc f0 f1 f2
        go_wp2_with fail
        go_roundw
        case rel => exact ⟨j + 1, .slice (some ad) nn cc, by omega, by go_num, hc6, hB6, by rw [sign_take HX.out]; exact hmk6⟩
        case measure => simp [intOf] <;> omega
    · obtain rfl : j = l.length := by omega
      rw [List.take_length] at hmk
      by_cases hn : l = []
      · have t0 : ((l.length : Int) == 0) = true := by rw [hn]; rfl
        have HN : Hid (wholeR l s = []) := if_pos hn
        clear hn hB hmk
        go_wp2_with fail
        go_ret
        exact ⟨_, rfl, hc, by rw [HN.out]; exact rdv_nil _ _⟩
      · have hpos : 0 < l.length := List.length_pos_iff.2 hn
        have t0 : ((l.length : Int) == 0) = false := by simp; omega
        have HN := Lib.hid hn
        clear hn
        obtain ⟨f0, f1, f2⟩ := hB.cell
        have hr := hmk.rdv.sub (O' := Old w.heap.size) (fun k _ h => by unfold Old at *; omega)
        have hl1 := rdv_hunkO (x := ⟨0, 0, l.map fun x => ⟨s, x⟩⟩) (t := 61) hr (fun h => absurd hc.size (Nat.not_le_of_lt h))
        go_wp2_with fail
        go_ret
        exact ⟨_, rfl, hc.alloc _, by rw [wholeR_some HN.out]; exact hl1⟩
end Go.Proofs.YteocmmejfnmjcaaGreatDoor
namespace Go.Proofs.YteocmmejfnmjcaaGreatDoor
open Go.RowKit

def pieceOf (k : Int) (p : ByteArray) (h : Hunk) : List Change := [⟨k, p, [⟨h.new, h.new, h.marks⟩]⟩]
def piecesC (c : Change) : List (List Change) := if c.hunks = [] then [[c]] else c.hunks.map (pieceOf c.what c.path)
def pieces (p : List Change) : List (List Change) := p.flatMap piecesC
def pcF (e : List Change) : Int := (patchFault e).2
def splitPF (p : List Change) : Int := if (patchFault p).2 ≠ 0 then (patchFault p).2 else firstOf pcF (pieces p)
def splitPR (p : List Change) : List (List Change) := if splitPF p = 0 then pieces p else []
theorem pieces_take {p : List Change} {k : Nat} {c : Change} (h : p[k]? = some c) : pieces (p.take (k + 1)) = pieces (p.take k) ++ piecesC c := by
  unfold pieces
  rw [List.take_add_one, h, List.flatMap_append]; simp
theorem first_app {α : Type} (f : α → Int) : ∀ (a b : List α), firstOf f (a ++ b) = if firstOf f a = 0 then firstOf f b else firstOf f a
  | [], b => by simp [firstOf]
  | x :: a, b => by
    rw [List.cons_append, firstOf, firstOf]
    by_cases h : f x = 0
    · rw [if_pos h, if_pos h, first_app f a b]
    · rw [if_neg h, if_neg h, if_neg h]
theorem first_one {α : Type} (f : α → Int) (x : α) : firstOf f [x] = f x := by
  unfold firstOf
  split
  · rename_i h; rw [h]; rfl
  · rfl
theorem pcF_ok {c : Change} (h : changeFault c = 0) : pcF [c] = 0 := by
  unfold pcF
  rw [patch_ok ⟨by simp, fun d hd => by rw [List.mem_singleton.1 hd]; exact h, List.pairwise_singleton _ _⟩]
theorem pieces_split {p : List Change} {k : Nat} {c : Change} (h : p[k]? = some c) : pieces p = pieces (p.take k) ++ piecesC c ++ pieces (p.drop (k + 1)) := by
  have e : p = p.take k ++ c :: p.drop (k + 1) := by
    have := drop_eq h
    rw [← this, List.take_append_drop]
  unfold pieces
  conv => lhs; rw [e]
  rw [List.flatMap_append, List.flatMap_cons, List.append_assoc]
theorem split_bad {p : List Change} {k j : Nat} {c : Change} {h : Hunk} (hp : (patchFault p).2 = 0) (hc : p[k]? = some c) (hh : c.hunks[j]? = some h) (h0 : firstOf pcF (pieces (p.take k)) = 0) (h1 : firstOf pcF ((c.hunks.take j).map (pieceOf c.what c.path)) = 0) (h2 : pcF (pieceOf c.what c.path h) ≠ 0) :
    splitPF p = pcF (pieceOf c.what c.path h) := by
  have hne : c.hunks ≠ [] := fun e => by rw [e] at hh; simp at hh
  have e2 : piecesC c = (c.hunks.take j).map (pieceOf c.what c.path) ++ (pieceOf c.what c.path h :: (c.hunks.drop (j + 1)).map (pieceOf c.what c.path)) := by
    unfold piecesC
    rw [if_neg hne, ← List.map_cons, ← List.map_append, ← drop_eq hh, List.take_append_drop]
  unfold splitPF
  rw [if_neg (by rw [hp]; decide), pieces_split hc, List.append_assoc, first_app, if_pos h0, e2, List.append_assoc, first_app, if_pos h1, List.cons_append, firstOf, if_neg h2]
theorem elemOk_changes : ElemOk Tryz.prog 50 23 1 := elemOk_of Tryz.underlying50 (z := .slice none 0 0) (b := 24) (by kernel_rfl) rfl (by decide)
theorem pieces_len : ∀ (p : List Change), (∀ c ∈ p, c.hunks.length ≤ 60) → (pieces p).length ≤ 61 * p.length
  | [], _ => Nat.zero_le _
  | c :: r, h => by
    have h1 := pieces_len r (fun d hd => h d (List.mem_cons_of_mem _ hd))
    have h2 := h c (List.mem_cons_self ..)
    have e : (piecesC c).length ≤ 61 := by
      unfold piecesC
      split
      · simp
      · rw [List.length_map]; omega
    show (piecesC c ++ pieces r).length ≤ _
    rw [List.length_append, List.length_cons]; omega
theorem chg_four (w : World) (B : Nat) (a b c d : Value) : Chg (fun j => j = B) w ((((w.setCell ⟨B, 0, none⟩ a).setCell ⟨B, 1, none⟩ b).setCell ⟨B, 2, none⟩ c).setCell ⟨B, 0, none⟩ d) :=
  ((((Chg.refl (fun j => j = B) w).setCell (p := ⟨B, 0, none⟩) (.inr rfl) a).setCell (p := ⟨B, 1, none⟩) (.inr rfl) b).setCell (p := ⟨B, 2, none⟩) (.inr rfl) c).setCell (p := ⟨B, 0, none⟩) (.inr rfl) d
theorem one_piece {w3 W6 : World} {B S : Nat} {h : Hunk} {k : Int} {pt : ByteArray} {x y z r : Value} (hB : Blk3 w3 B 61 x y z) (hr3 : Rdv w3 (Old (S + 1)) r h.marks) (hS : S = B) (hlt : S < w3.heap.size) (hpc : pt.size ≤ maxLen)
    (hW : W6 = (((((w3.setCell ⟨B, 0, none⟩ (.int .i64 h.old)).setCell ⟨B, 1, none⟩ (.int .i64 h.new)).setCell ⟨B, 2, none⟩ r).setCell ⟨B, 0, none⟩ (.int .i64 h.new)).alloc (.cells #[.int .i64 h.new, .int .i64 h.new, r] 61)).alloc (.cells #[.int .i64 k, .string pt, .slice (some ⟨w3.heap.size, 0, none⟩) 1 1] 36)) :
    Chg (fun j => j = B) w3 W6 ∧ Rdv W6 (Old S) (.slice (some ⟨w3.heap.size + 1, 0, none⟩) 1 1) (pieceOf k pt h) := by
  have hc := chg_four w3 B (.int .i64 h.old) (.int .i64 h.new) r (.int .i64 h.new)
  have hsz : ((((w3.setCell ⟨B, 0, none⟩ (.int .i64 h.old)).setCell ⟨B, 1, none⟩ (.int .i64 h.new)).setCell ⟨B, 2, none⟩ r).setCell ⟨B, 0, none⟩ (.int .i64 h.new)).heap.size = w3.heap.size := by simp
  generalize (((w3.setCell ⟨B, 0, none⟩ (.int .i64 h.old)).setCell ⟨B, 1, none⟩ (.int .i64 h.new)).setCell ⟨B, 2, none⟩ r).setCell ⟨B, 0, none⟩ (.int .i64 h.new) = W4 at hc hsz hW
  have hr4 : Rdv W4 (Old S) r h.marks := hr3.keep hc (fun j _ hj => by unfold Old; omega) (fun j _ hj => by unfold Old at *; omega)
  have hh5 := rdv_hunkO (t := 61) (x := ⟨h.new, h.new, h.marks⟩) hr4 (by rw [hsz]; unfold Old; omega)
  have hs5 : (W4.alloc (.cells #[.int .i64 h.new, .int .i64 h.new, r] 61)).heap.size = w3.heap.size + 1 := by rw [World.size_alloc, hsz]
  have hA5 : Chg Never W4 (W4.alloc (.cells #[.int .i64 h.new, .int .i64 h.new, r] 61)) := (Chg.refl Never W4).alloc _
  rw [hsz] at hh5
  simp only at hh5
  generalize W4.alloc (.cells #[.int .i64 h.new, .int .i64 h.new, r] 61) = W5 at hh5 hs5 hA5 hW
  have hn := heap_alloc_new W5 (.cells #[.int .i64 k, .string pt, .slice (some ⟨w3.heap.size, 0, none⟩) 1 1] 36)
  have hA6 : Chg Never W5 (W5.alloc (.cells #[.int .i64 k, .string pt, .slice (some ⟨w3.heap.size, 0, none⟩) 1 1] 36)) := (Chg.refl Never W5).alloc _
  rw [← hW] at hn hA6
  rw [hs5] at hn
  exact ⟨(hc.trans (hA5.mono (fun _ _ h => h.elim))).trans (hA6.mono (fun _ _ h => h.elim)), rdv_at (cs := [.int .i64 k, .string pt, .slice (some ⟨w3.heap.size, 0, none⟩) 1 1]) hn (by unfold Old; omega) ⟨_, rfl, hpc, hh5.never hA6⟩⟩
set_option maxHeartbeats 4000000 in
set_option maxRecDepth 100000 in
theorem split_any (p : List Change) (vp : Value) (w : World) (hp : Rdv w Never vp p) (m : Int) (hm : w.cell? ⟨1, 0, none⟩ = some (.int .i64 m)) :
    Calls Tryz.prog 20 #[vp] w fun e w' => ∃ r, e = .returned (.tuple #[r, errV (splitPF p)]) ∧ Chg Never w w' ∧ Rdv w' Never r (splitPR p) := by
  obtain ⟨pa, pcap, rfl, p1, p2, p3⟩ := rdv_slice hp
  unfold maxLen at p2
  by_cases y : (patchFault p).2 = 0
  · have Y := Lib.hid y
    have pl := (patch_of y).1
    have PV : Hid (∀ c ∈ p, changeFault c = 0) := (patch_of y).2.1
    have PL : Hid (∀ c ∈ p, c.hunks.length ≤ 60) := fun c hc => (hunksFault_zero (by rw [(changeFault_zero (PV.out c hc)).2.2.2.1])).1
    clear y
    go_enter Tryz.func20, Tryz.ntmps20
    go_wp2_with fail
    refine (patch_check_any p _ _ hp m hm).mono ?_
    rintro e w1 ⟨rfl, hw⟩
    rw [Y.out, errV_zero]
    have hn0 := ownN_nil (α := List Change) 23 hw
    go_wp2_with fail
    go_loopw [6, 24] (fun o i wr => ∃ k : Nat, k ≤ p.length ∧ i = .int .i64 k ∧ OwnN 23 w wr o (pieces (p.take k)) ∧ Hid (firstOf pcF (pieces (p.take k)) = 0)) (fun _ i _ => p.length - (intOf i).toNat)
    case atStart => exact ⟨0, Nat.zero_le _, rfl, hn0, rfl⟩
    case round =>
      clear hn0 hw
      rename World => wr
      obtain ⟨k, hk, rfl, hn, HF⟩ := hrel
      obtain ⟨oa, on, oc, rfl⟩ := own_isSlice hn.own
      by_cases hlt : k < p.length
      · obtain ⟨c, hx⟩ : ∃ c, p[k]? = some c := ⟨p[k], by simp [hlt]⟩
        obtain ⟨pb, po, hv, hpo, _, _, c0, c1, c2, hpc, hhv⟩ := elems_change p3 hx
        subst hpo
        obtain ⟨ha, hcap, rfl, hh1, hh2, hh3⟩ := rdv_slice hhv
        unfold maxLen at hh2
        have c0 := hn.chg.cellNever c0
        have c1 := hn.chg.cellNever c1
        have c2 := hn.chg.cellNever c2
        have HT := Lib.hid (pieces_take hx)
        have HX := Lib.hid hx
        have HCV : Hid (changeFault c = 0) := PV.out c (List.mem_of_getElem? hx)
        have hcl : c.hunks.length ≤ 60 := PL.out c (List.mem_of_getElem? hx)
        have hpl : (pieces (p.take k)).length ≤ 61 * 16 := by
          have := pieces_len (p.take k) (fun d hd => PL.out d (List.mem_of_mem_take hd))
          rw [List.length_take] at this
          omega
        obtain ⟨hA, d0, d1, d2⟩ := box1_change wr 36 c.what c.path (.slice ha c.hunks.length hcap) _ rfl
        clear hx p3
        by_cases h0 : c.hunks = []
        · have HP : Hid (piecesC c = [c]  :: []) := if_pos h0
          have hlen : (pieces (p.take k)).length ≤ 1000000000 := by omega
          obtain ⟨wh, pt, hs⟩ := c
          simp only at h0
          subst h0
          simp only at d0 d1 d2 c0 c1 c2 hhv hpc hA HP
          have hnA := hn.never hA
          have hltO := own_block_lt hn.own
          have hA1 : Chg Never (wr.alloc (.cells #[.int .i64 wh, .string pt, .slice ha ([] : List Hunk).length hcap] 36)) ((wr.alloc (.cells #[.int .i64 wh, .string pt, .slice ha ([] : List Hunk).length hcap] 36)).alloc (.cells #[.int .i64 wh, .string pt, .slice ha ([] : List Hunk).length hcap] 36)) := (Chg.refl Never _).alloc _
          have hnew := heap_alloc_new (wr.alloc (.cells #[.int .i64 wh, .string pt, .slice ha ([] : List Hunk).length hcap] 36)) (.cells #[.int .i64 wh, .string pt, .slice ha ([] : List Hunk).length hcap] 36)
          rw [World.size_alloc] at hnew
          have hn1 := hnA.never hA1
          have hy1 : Rdv _ (fun q => Never q ∨ (Value.slice oa on oc).ownBlock = some q) (.slice (some ⟨wr.heap.size + 1, 0, none⟩) 1 1) [(⟨wh, pt, []⟩ : Change)] := rdv_at (cs := [.int .i64 wh, .string pt, .slice ha ([] : List Hunk).length hcap]) hnew (fun h => h.elim (fun h => h) (fun h => by have := hltO _ h; omega)) ⟨_, rfl, hpc, (hn.away hhv).never (hA.trans hA1)⟩
          have hyo : Dat.rd _ (fun q => Never q ∨ (Value.slice oa on oc).ownBlock = some q) [.slice (some ⟨wr.heap.size + 1, 0, none⟩) 1 1] [(⟨wh, pt, []⟩ : Change)] := hy1
          go_wp2_with (at_builtin; refine wpList_push (by rfl) _ _ 50 (by rfl) elemOk_changes (O := Never) (l := pieces (p.take k)) (y := [(⟨wh, pt, []⟩ : Change)]) (by rfl) (by rfl) (by simp) hn1.own hyo (fun _ h => h.elim) hlen ?_; intro v' w9 hown2 hc2 hk2; have hn9 := hn1.step1 hown2 hc2 hk2; have d2' := hc2.cell (hA1.cellNever d2) (fun h => absurd (hltO _ h) (Nat.lt_irrefl _)); clear hown2 hc2 hk2 hn1 hyo hy1 hnew d0 d1 d2 hA1 hA; obtain ⟨ya, yn, yc, rfl⟩ := own_isSlice hn9.own)
          go_loopw [6, 40] (fun o i wz => i = .int .i64 0 ∧ OwnN 23 w wz o (pieces (p.take k) ++ [[(⟨wh, pt, []⟩ : Change)]])) (fun _ _ _ => 0)
          case atStart => exact ⟨rfl, hn9⟩
          case round =>
            clear hn9 d2'
            rename World => wz
            obtain ⟨rfl, hnz⟩ := hrel
            obtain ⟨za, zn, zc, rfl⟩ := own_isSlice hnz.own
            go_wp2_with fail
            go_roundw
            case rel => exact ⟨k + 1, by omega, by go_num, by rw [HT.out, HP.out]; exact hnz, by rw [Hid, HT.out, HP.out, first_app, if_pos HF.out, first_one]; exact pcF_ok HCV.out⟩
            case measure => simp [intOf] <;> omega
        · have h0' : ((c.hunks.length : Int) == 0) = false := beq_eq_false_iff_ne.2 (by have := List.length_pos_iff.2 h0; omega)
          have HP : Hid (piecesC c = c.hunks.map (pieceOf c.what c.path)) := if_neg h0
          clear h0
          have D0 := hA.trans (Chg.refl Never _)
          go_wp2_with fail
          generalize wr.alloc (.cells #[.int .i64 c.what, .string c.path, .slice ha c.hunks.length hcap] 36) = wA at hA d0 d1 d2 ⊢
          have hnA := hn.never hA
          have hhA := hhv.never hn.chg
          clear c0 c1 c2 D0
          have hob0 : ∀ b, (Value.slice oa on oc).ownBlock = some b → b ≠ wr.heap.size := fun b hb => Nat.ne_of_lt (own_block_lt hn.own b hb)
          have hbl0 : wr.heap.size < wA.heap.size := World.block_lt_of_cell? wA _ d0
          generalize wr.heap.size = B1 at hob0 hbl0 d0 d1 d2 ⊢
          clear hn hA
          go_wp2_with fail
          clear d2
          go_loopw [6, 40] (fun o i wz => ∃ j : Nat, j ≤ c.hunks.length ∧ i = .int .i64 j ∧ OwnN 23 w wz o (pieces (p.take k) ++ (c.hunks.take j).map (pieceOf c.what c.path)) ∧ Hid (firstOf pcF ((c.hunks.take j).map (pieceOf c.what c.path)) = 0) ∧ wz.cell? ⟨B1, 0, none⟩ = some (.int .i64 c.what) ∧ wz.cell? ⟨B1, 1, none⟩ = some (.string c.path) ∧ (∀ b, o.ownBlock = some b → b ≠ B1) ∧ B1 < wz.heap.size) (fun _ i _ => c.hunks.length - (intOf i).toNat)
          case atStart => exact ⟨0, Nat.zero_le _, rfl, by rw [List.take_zero, List.map_nil, List.append_nil]; exact hnA, rfl, d0, d1, hob0, hbl0⟩
          case round =>
            clear d0 d1 hob0 hbl0 hnA
            rename World => wz
            obtain ⟨j, hj, rfl, hnz, HFj, e0, e1, hob, hbl⟩ := hrel
            obtain ⟨za, zn, zc, rfl⟩ := own_isSlice hnz.own
            by_cases hjl : j < c.hunks.length
            · obtain ⟨h, hhx⟩ : ∃ h, c.hunks[j]? = some h := ⟨c.hunks[j], by simp [hjl]⟩
              obtain ⟨hb, ho, mv, hha, _, _, g0, g1, g2, hmv⟩ := elems_hunk hh3 hhx
              subst hha
              have g0 := hnz.chg.cellNever g0
              have g1 := hnz.chg.cellNever g1
              have g2 := hnz.chg.cellNever g2
              have hml : h.marks.length ≤ 120 := scriptFault_len (hOk_mem _ _ _ (hunksFault_zero (by rw [(changeFault_zero HCV.out).2.2.2.1])).2 h (List.mem_of_getElem? hhx))
              have HHX := Lib.hid hhx
              have hmz := hmv.never hnz.chg
              obtain ⟨ma, mc, rfl, _, _, _⟩ := rdv_slice hmz
              have hB2 := Blk3.new wz 61 (.int .i64 h.old) (.int .i64 h.new) (.slice ma h.marks.length mc)
              have hA2 : Chg Never wz (wz.alloc (.cells #[.int .i64 h.old, .int .i64 h.new, .slice ma h.marks.length mc] 61)) := (Chg.refl Never wz).alloc _
              have hs2 : (wz.alloc (.cells #[.int .i64 h.old, .int .i64 h.new, .slice ma h.marks.length mc] 61)).heap.size = wz.heap.size + 1 := World.size_alloc _ _
              obtain ⟨q0, q1, q2⟩ := hB2.cell
              clear hhx hmv
              go_wp2_with fail
              generalize wz.alloc (.cells #[.int .i64 h.old, .int .i64 h.new, .slice ma h.marks.length mc] 61) = wY at hB2 hA2 hs2 q0 q1 q2 ⊢
              clear g0 g1 g2
              refine (copy_any h _ _ (hmz.never hA2) hml).mono ?_
              rintro e w3 ⟨r3, rfl, hc3, hr3⟩
              obtain ⟨ra, rc, rfl, _, _, _⟩ := rdv_slice hr3
              rw [hs2] at hr3
              have hB3 := hB2.keep hc3 (fun h => h)
              have hlt3 : wz.heap.size < w3.heap.size := by have := hc3.size; omega
              have e0 := (hA2.trans hc3).cellNever e0
              have e1 := (hA2.trans hc3).cellNever e1
              clear q0 q1 q2
              obtain ⟨q0, q1, q2⟩ := hB3.cell
              have qf := hB3.free
              have qf0 := qf 0
              have qf1 := qf 1
              have qf2 := qf 2
              obtain ⟨W6, hW6⟩ : ∃ W6, W6 = (((((w3.setCell ⟨wz.heap.size, 0, none⟩ (.int .i64 h.old)).setCell ⟨wz.heap.size, 1, none⟩ (.int .i64 h.new)).setCell ⟨wz.heap.size, 2, none⟩ (.slice ra h.marks.length rc)).setCell ⟨wz.heap.size, 0, none⟩ (.int .i64 h.new)).alloc (.cells #[.int .i64 h.new, .int .i64 h.new, .slice ra h.marks.length rc] 61)).alloc (.cells #[.int .i64 c.what, .string c.path, .slice (some ⟨w3.heap.size, 0, none⟩) 1 1] 36) := ⟨_, rfl⟩
              obtain ⟨hc6, hone⟩ := one_piece (k := c.what) hB3 hr3 rfl hlt3 hpc hW6
              have hB1z : B1 ≠ wz.heap.size := by omega
              have HW6 := Lib.hid hW6
              clear hW6
              go_wp2_with fail
              rw [← HW6.out]
              have hZ6 : Chg Never wz W6 := (hA2.trans hc3).trans' hc6 (fun i hi h => by omega)
              have e0 := hc6.cell e0 hB1z
              have e1 := hc6.cell e1 hB1z
              clear HW6 hB3 hB2 hr3 hc3 hA2 q0 q1 q2 qf qf0 qf1 qf2
              refine (patch_check_any (pieceOf c.what c.path h) _ _ (hone.sub (fun _ _ h => h.elim)) m ((hnz.chg.trans hZ6).cellNever hm)).mono ?_
              rintro e w7 ⟨rfl, hc7⟩
              have hZ7 := hZ6.trans hc7
              have e0 := hc7.cellNever e0
              have e1 := hc7.cellNever e1
              have hone := hnz.fresh (hone.never hc7)
              have hn7 := hnz.never hZ7
              have hz7 := hZ7.size
              clear hc6 hZ6 hc7
              by_cases zz : (patchFault (pieceOf c.what c.path h)).2 = 0
              · have HZ := Lib.hid zz
                have HL : Hid ((c.hunks.take (j + 1)).map (pieceOf c.what c.path) = (c.hunks.take j).map (pieceOf c.what c.path) ++ [pieceOf c.what c.path h]) := by rw [Hid, List.take_add_one, HHX.out]; simp
                have hlen : (pieces (p.take k) ++ (c.hunks.take j).map (pieceOf c.what c.path)).length ≤ 1000000000 := by rw [List.length_append, List.length_map, List.length_take]; omega
                rw [zz, errV_zero]
                clear zz
                have hyo : Dat.rd w7 (fun k => Never k ∨ (Value.slice za zn zc).ownBlock = some k) [.slice (some ⟨w3.heap.size + 1, 0, none⟩) 1 1] (pieceOf c.what c.path h) := hone
                go_wp2_with (at_builtin; refine wpList_push (by rfl) _ _ 50 (by rfl) elemOk_changes (O := Never) (l := pieces (p.take k) ++ (c.hunks.take j).map (pieceOf c.what c.path)) (y := pieceOf c.what c.path h) (by rfl) (by rfl) (by rfl) hn7.own hyo (fun _ h => h.elim) hlen ?_; intro v' w9 hown2 hc2 hk2; have hn9 := hn7.step1 hown2 hc2 hk2; have e0' := hc2.cell e0 (fun h => hob _ h rfl); have e1' := hc2.cell e1 (fun h => hob _ h rfl); have hs9 := hc2.size; clear hown2 hc2 hn7 hyo hone e0 e1; obtain ⟨ya, yn, yc, rfl⟩ := own_isSlice hn9.own)
                go_roundw
                case rel =>
                  refine ⟨j + 1, by omega, by go_num, by rw [HL.out, ← List.append_assoc]; exact hn9, by rw [Hid, HL.out, first_app, if_pos HFj.out, first_one]; exact HZ.out, e0', e1', fun b hb => ?_, by omega⟩
                  obtain ⟨q, hq, hq2⟩ := hk2
                  rw [hq] at hb
                  injection hb with hb
                  subst hb
                  exact hq2.elim (fun h => hob _ h) (fun h => by omega)
                case measure => simp [intOf] <;> omega
              · have HS := Lib.hid (split_bad Y.out HX.out HHX.out HF.out HFj.out zz)
                have HR : Hid (splitPR p = []) := if_neg (by rw [HS.out]; exact zz)
                have hcf := hn7.chg
                rw [errV_pos zz]
                have ZZ := Lib.hid zz
                clear zz hone hn7 e0 e1
                go_wp2_with fail
                go_ret2
                exact ⟨.slice none 0 0, by rw [HS.out]; unfold pcF; rw [errV_pos ZZ.out]; rfl, hcf, by rw [HR.out]; exact rdv_nil _ _⟩
            · obtain rfl : j = c.hunks.length := by omega
              rw [List.take_length] at hnz HFj
              go_wp2_with fail
              go_roundw
              case rel => exact ⟨k + 1, by omega, by go_num, by rw [HT.out, HP.out]; exact hnz, by rw [Hid, HT.out, HP.out, first_app, if_pos HF.out]; exact HFj.out⟩
              case measure => simp [intOf] <;> omega
      · obtain rfl : k = p.length := by omega
        rw [List.take_length] at hn HF
        have HS : Hid (splitPF p = 0) := by unfold Hid splitPF; rw [if_neg (by rw [Y.out]; decide)]; exact HF.out
        have HR : Hid (splitPR p = pieces p) := if_pos HS.out
        go_wp2_with fail
        go_ret2
        exact ⟨_, by rw [HS.out]; rfl, hn.chg, by rw [HR.out]; exact hn.own.rdv.sub (fun _ _ h => h.elim)⟩
  · have HS : Hid (splitPF p = (patchFault p).2) := if_pos y
    have HR : Hid (splitPR p = []) := if_neg (by rw [HS.out]; exact y)
    have Y := Lib.hid y
    clear y
    go_enter Tryz.func20, Tryz.ntmps20
    go_wp2_with fail
    refine (patch_check_any p _ _ hp m hm).mono ?_
    rintro e w1 ⟨rfl, hw⟩
    rw [errV_pos Y.out]
    go_wp2_with fail
    go_ret2
    exact ⟨.slice none 0 0, by rw [HS.out, errV_pos Y.out]; rfl, hw, by rw [HR.out]; exact rdv_nil _ _⟩
end Go.Proofs.YteocmmejfnmjcaaGreatDoor
