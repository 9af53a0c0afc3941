/-
  PARTS: THE WALK of the document's Line, whole.; THE WALK of slices.Delete of one file, in place: what is new stays new.; THE WALK of slices.Insert of one file: at the end, in place, or in a new row.; THE WALK of patch.Apply.
-/
import Derived.Test.YtmjpfoeaobdaeaaGreatDoorRa16
import Derived.Test.YtmjpfoeaobdaeaaGreatDoorRa17
import Derived.Test.YtmjpfoeaobdaeaaGreatDoorRa19
import Derived.Test.YtmjpfoeaobdaeaaGreatDoorRa20
import Derived.Test.YtmjpfoeaobdaeaaGreatDoorRa21
import Derived.Test.YtmjpfoeaobdaeaaGreatDoorRa24
import Derived.Test.YtmjpfoeaobdaeaaGreatDoorRa2
import Derived.Test.YtmjpfoeaobdaeaaGreatDoorRa15
import Derived.Test.YtmjpfoeaobdaeaaGreatDoorRa11
import Derived.Test.YtmjpfoeaobdaeaaGreatDoorRa9
import Derived.Deep.RegionHeld3
import Derived.Test.YtmjpfoeaobdaeaaGreatDoorRa7
import Derived.Lib.Overlaps
import Derived.Test.YtmjpfoeaobdaeaaGreatDoorRa13
set_option linter.unusedVariables false
set_option linter.unusedSimpArgs false
namespace Go.Proofs.YtmjpfoeaobdaeaaGreatDoor
open Go.RowKit

theorem docline_any (b : Nat) (m : Ses) (s : List UInt8) (w : World) (hd : DocAt w b m) (hok : SesOk m) (hs : s.length ≤ 100000) :
    Calls Tryz.prog 15 #[.pointer (some ⟨b, 0, none⟩), .string (toB s)] w (DocPost b (lineS m s) w) := by
  obtain ⟨a, q, e⟩ := List.exists_cons_of_ne_nil (parts_ne 32 s)
  by_cases h1 : 3 ≤ (a :: q).length ∧ (a = oldW ∨ a = newW)
  · obtain ⟨hl, ha⟩ := h1
    match q, hl, e with
    | c :: d :: q', _, e =>
      rcases ha with rfl | rfl
      · rw [show lineS m s = _ from (congrArg (lineW m s) e).trans (lineW_old (by simp))]
        exact doc_old b m s w hd hok hs (by simp) e
      · rw [show lineS m s = _ from (congrArg (lineW m s) e).trans (lineW_new (by simp))]
        exact doc_new b m s w hd hok hs (by simp) e
    | [c], hl, _ => simp at hl
    | [], hl, _ => simp at hl
  · by_cases h2 : manyW a = (a :: q).length
    · rcases many_cases h2 with ⟨rfl, rfl⟩ | ⟨rfl, rfl⟩ | ⟨p, rfl, ha⟩
      · rw [show lineS m s = _ from (congrArg (lineW m s) e).trans lineW_back]
        exact doc_back b m s w hd hs e
      · rw [show lineS m s = _ from (congrArg (lineW m s) e).trans lineW_same]
        exact doc_same b m s w hd hok hs e
      · rcases ha with rfl | rfl | rfl | rfl
        · rw [show lineS m s = _ from (congrArg (lineW m s) e).trans lineW_drop]
          exact doc_drop b m s p w hd hok hs e
        · rw [show lineS m s = _ from (congrArg (lineW m s) e).trans lineW_diff]
          exact doc_diff b m s p w hd hok hs e
        · rw [show lineS m s = _ from (congrArg (lineW m s) e).trans lineW_far]
          exact doc_far b m s p w hd hok hs e
        · rw [show lineS m s = _ from (congrArg (lineW m s) e).trans lineW_go]
          exact doc_go b m s p w hd hok hs e
    · rw [show lineS m s = _ from (congrArg (lineW m s) e).trans (lineW_bad h1 h2)]
      exact doc_bad b m s w hd hs e h1 h2
end Go.Proofs.YtmjpfoeaobdaeaaGreatDoor
namespace Go.Proofs.YtmjpfoeaobdaeaaGreatDoor
open Go.RowKit

structure OwnQ {α : Type} [Dat α] (e : TypeId) (w0 wr : World) (v : Value) (l : List α) : Prop where
  own : Own e wr (Old w0.heap.size) v l
  new : ∀ k, v.ownBlock = some k → w0.heap.size ≤ k
  chg : Chg Never w0 wr
theorem OwnQ.olds {α : Type} [Dat α] {e : TypeId} {w0 wr : World} {v : Value} {l : List α} (h : OwnQ e w0 wr v l) : ∀ k, Old w0.heap.size k → k < wr.heap.size := fun _ hk => Nat.lt_of_lt_of_le hk h.chg.size
theorem OwnQ.step {α : Type} [Dat α] {e : TypeId} {w0 wr w' : World} {v v' : Value} {l l' : List α} (h : OwnQ e w0 wr v l) (hown : Own e w' (Old w0.heap.size) v' l') (hc : Chg (OwnB v) wr w') (hk : ∀ k, v'.ownBlock = some k → v.ownBlock = some k ∨ wr.heap.size ≤ k) : OwnQ e w0 w' v' l' :=
  ⟨hown, fun k hk' => (hk k hk').elim (h.new k) (fun hh => Nat.le_trans h.chg.size hh), h.chg.trans' hc (fun i hi hh => absurd (h.new i hh) (by omega))⟩
theorem OwnQ.never {α : Type} [Dat α] {e : TypeId} {w0 wr w' : World} {v : Value} {l : List α} (h : OwnQ e w0 wr v l) (hc : Chg Never wr w') : OwnQ e w0 w' v l := ⟨h.own.never hc, h.new, h.chg.trans hc⟩
theorem OwnQ.fresh {α β : Type} [Dat α] [Dat β] {e : TypeId} {w0 wr w' : World} {v u : Value} {l : List α} {x : β} (h : OwnQ e w0 wr v l) (hu : Rdv w' (Old wr.heap.size) u x) : Rdv w' (fun k => Old w0.heap.size k ∨ v.ownBlock = some k) u x :=
  hu.sub (fun k _ hh => by
    rcases hh with hh | hh
    · exact Nat.lt_of_lt_of_le hh h.chg.size
    · exact own_block_lt h.own k hh)
theorem info_file : ∃ i, Tryz.prog.info? 70 = some i ∧ i.size = 2 ∧ i.zero = some (.agg #[.string ⟨#[]⟩, .slice none 0 0]) ∧ i.bytes ≤ 128 := by
  obtain ⟨i, h1, h2, h3, h4⟩ := info_parts (P := Tryz.prog) (e := 70) (z := .agg #[.string ⟨#[]⟩, .slice none 0 0]) (size := 2) (bytes := 40) (by kernel_rfl)
  exact ⟨i, h1, h3, h2, by omega⟩
theorem zero_file : (Builtin.zeroCells (Value.agg #[.string ⟨#[]⟩, .slice none 0 0]).cells 1).toList = [.string ⟨#[]⟩, .slice none 0 0] := by
  simp [Builtin.zeroCells, Value.cells, Array.range, Array.ofFn]
  try rfl
theorem take_two {a b : List Value} {k : Nat} (h : a.length = k) : (a ++ b).take k = a := by subst h; exact List.take_left
theorem drop_two {a b : List Value} {k : Nat} (h : a.length = k) : (a ++ b).drop k = b := by subst h; exact List.drop_left
set_option maxHeartbeats 2000000 in
set_option maxRecDepth 100000 in
theorem delete_any (T : List File) (i : Nat) (v : Value) (w0 w : World) (hn : OwnQ 70 w0 w v T) (hi : i < T.length) (hT : T.length ≤ 1000000) :
    Calls Tryz.prog 87 #[v, .int .i64 i, .int .i64 ((i : Int) + 1)] w fun e w' => ∃ r, e = .returned r ∧ OwnQ 70 w0 w' r (dropAt T i) ∧ Chg (OwnB v) w w' ∧ (∀ k, r.ownBlock = some k → v.ownBlock = some k) := by
  obtain ⟨g, cap, r, tail, rfl, hg, hsz, hle, hcm, _, hr⟩ := own_rows hn.own (by omega)
  obtain ⟨hrl, hrq⟩ := hr.len
  have hrq : ∀ c ∈ r, c.length = 2 := hrq
  have hsz : (r.flatten ++ tail).length = cap * 2 := hsz
  obtain ⟨inf, hinf, hi2, _, _⟩ := info_file
  have hfl : r.flatten.length = T.length * 2 := by rw [cells_len hrq, hrl]
  have hnew : w0.heap.size ≤ g := hn.new g rfl
  have hgl : g < w.heap.size := (Array.getElem?_eq_some_iff.1 hg).1
  have hRow := Lib.hid hr
  unfold maxLen at hcm
  -- what moves to the left
  have hm1 : ((r.drop (i + 1)).flatten).length = (T.length - (i + 1)) * 2 := by rw [cells_len (fun c hc => hrq c (List.mem_of_mem_drop hc)), List.length_drop, hrl]
  obtain ⟨A, hA, hsrc⟩ : ∃ A : Addr, (if cap = i + 1 then some (⟨g, 0, none⟩ : Addr) else some ⟨g, (i + 1) * 2, none⟩) = some A ∧ Hid (∀ j u, ((r.drop (i + 1)).flatten)[j]? = some u → w.drew.cell? (A.add j) = some u) := by
    by_cases h : cap = i + 1
    · refine ⟨⟨g, 0, none⟩, by rw [if_pos h], fun j u hu => ?_⟩
      have h0 : (r.drop (i + 1)).flatten = [] := List.eq_nil_of_length_eq_zero (by rw [hm1]; omega)
      rw [h0] at hu
      simp at hu
    · refine ⟨⟨g, (i + 1) * 2, none⟩, by rw [if_neg h], fun j u hu => ?_⟩
      rw [Addr.add_lit]
      refine row_cell (w := w.drew) hg ?_
      rw [← cells_drop r (i + 1) hrq, List.getElem?_drop] at hu
      rw [List.getElem?_append_left (List.getElem?_eq_some_iff.1 hu).1]
      exact hu
  have hone : ∀ u ∈ (r.drop (i + 1)).flatten, u.oneCell' = true := fun u hu => by
    obtain ⟨c, hc, hu⟩ := List.mem_flatten.1 hu
    exact hr.one c (List.mem_of_mem_drop hc) u hu
  have hrun1 : ∀ ty, (Builtin.append_ #[29, 29] ty #[.slice (some ⟨g, 0, none⟩) i cap, .slice (some A) (T.length - (i + 1)) (cap - (i + 1))]).run Tryz.prog w.drew = _ := fun ty =>
    run_append_room (P := Tryz.prog) (ty := ty) w.drew 29 70 inf Tryz.underlying29 hinf g i cap (r.flatten ++ tail).toArray hg A (T.length - (i + 1)) (cap - (i + 1)) ((r.drop (i + 1)).flatten) (by rw [hm1, hi2]) hsrc.out hone (by omega) (by rw [hi2, hm1]; simp only [List.size_toArray]; omega)
  have hE1 : (r.flatten ++ tail).take (i * 2) = (r.take i).flatten := by
    rw [← cells_take r i hrq, List.take_append_of_le_length (by rw [hfl]; omega)]
  rw [hi2] at hrun1
  simp only [List.toList_toArray, hE1] at hrun1
  have hi1 : i + (T.length - (i + 1)) = T.length - 1 := by omega
  rw [hi1] at hrun1
  have hm2 : ((r.take i).flatten ++ (r.drop (i + 1)).flatten).length = (T.length - 1) * 2 := by
    rw [List.length_append, hm1, cells_len (fun c hc => hrq c (List.mem_of_mem_take hc)), List.length_take, hrl]; omega
  have hm3 : ((r.flatten ++ tail).drop (i * 2 + ((r.drop (i + 1)).flatten).length)).length = (cap - (T.length - 1)) * 2 := by
    rw [List.length_drop, hsz, hm1]; omega
  generalize (r.flatten ++ tail).drop (i * 2 + ((r.drop (i + 1)).flatten).length) = rest at hrun1 hm3
  have hg1 : (w.drew.setRow g ((r.take i).flatten ++ (r.drop (i + 1)).flatten ++ rest).toArray).heap[g]? = some (.cells ((r.take i).flatten ++ (r.drop (i + 1)).flatten ++ rest).toArray 70 (0, 0)) := setRow_heap w.drew g _ _ _ _ hg
  have hc1 := chg_setRow w.drew g ((r.take i).flatten ++ (r.drop (i + 1)).flatten ++ rest).toArray
  generalize w.drew.setRow g ((r.take i).flatten ++ (r.drop (i + 1)).flatten ++ rest).toArray = W1 at hrun1 hg1 hc1
  have hzv : ∀ w, (zeroValue 70).run Tryz.prog w = .ok (.agg #[.string ⟨#[]⟩, .slice none 0 0]) w := fun w => by kernel_rfl
  have hcl : ∀ ty c, (Builtin.clear_ #[29] ty #[.slice (some ⟨g, (T.length - 1) * 2, none⟩) 1 c]).run Tryz.prog W1 = _ := fun ty c =>
    run_clear_at (P := Tryz.prog) (ty := ty) (c := c) W1 Tryz.underlying29 hzv (zs := [.string ⟨#[]⟩, .slice none 0 0]) zero_file hg1 (by rw [List.length_append, hm2, hm3]; simp; omega) (by simp [Value.oneCell'])
  rw [take_two hm2] at hcl
  generalize hrest : List.drop ((T.length - 1) * 2 + [Value.string ⟨#[]⟩, Value.slice none 0 0].length) ((r.take i).flatten ++ (r.drop (i + 1)).flatten ++ rest) = rest2 at hcl
  have hm4 : rest2.length = (cap - T.length) * 2 := by
    rw [← hrest, List.length_drop, List.length_append, hm2, hm3]; simp; omega
  have hg2 : (W1.setRow g ((r.take i).flatten ++ (r.drop (i + 1)).flatten ++ [Value.string ⟨#[]⟩, Value.slice none 0 0] ++ rest2).toArray).heap[g]? = some (.cells ((r.take i).flatten ++ (r.drop (i + 1)).flatten ++ [Value.string ⟨#[]⟩, Value.slice none 0 0] ++ rest2).toArray 70 (0, 0)) := setRow_heap W1 g _ _ _ _ hg1
  have hc2 := chg_setRow W1 g ((r.take i).flatten ++ (r.drop (i + 1)).flatten ++ [Value.string ⟨#[]⟩, Value.slice none 0 0] ++ rest2).toArray
  generalize W1.setRow g ((r.take i).flatten ++ (r.drop (i + 1)).flatten ++ [Value.string ⟨#[]⟩, Value.slice none 0 0] ++ rest2).toArray = W2 at hcl hg2 hc2
  have hcc : Chg (fun k => k = g) w W2 := ((Chg.refl (fun k => k = g) w).drew.trans hc1).trans hc2
  have hfin : Hid (OwnQ 70 w0 W2 (.slice (some ⟨g, 0, none⟩) (T.length - 1) cap) (dropAt T i) ∧ Chg (OwnB (.slice (some ⟨g, 0, none⟩) T.length cap)) w W2 ∧ (∀ k, (Value.slice (some ⟨g, 0, none⟩) (T.length - 1) cap).ownBlock = some k → (Value.slice (some ⟨g, 0, none⟩) T.length cap).ownBlock = some k)) := by
    have hdl : (dropAt T i).length = T.length - 1 := by unfold dropAt; rw [List.length_append, List.length_take, List.length_drop]; omega
    have hrr := ((hRow.out.take i).app (hRow.out.drop (i + 1))).keep (O'' := fun k => Old w0.heap.size k ∨ k = g) hcc (fun k _ hk => .inr hk) (fun k _ hk => hk)
    have := own_laid (e := 70) (w := W2) (O := Old w0.heap.size) (l := dropAt T i) (g := g) (cap := cap) (r := r.take i ++ r.drop (i + 1)) (tail := [Value.string ⟨#[]⟩, Value.slice none 0 0] ++ rest2) (by rw [List.flatten_append, ← List.append_assoc]; exact hg2)
      (by rw [List.flatten_append, List.length_append, hm2, List.length_append, hm4]; show _ = cap * 2; simp; omega) (by omega) (by unfold maxLen; omega) (fun h => absurd h (Nat.not_lt.2 hnew)) hrr
    rw [hdl] at this
    exact ⟨⟨this, fun k hk => by injection hk with hk; subst hk; exact hnew, hn.chg.trans' hcc (fun k hk h => by omega)⟩, hcc.mono (fun k _ h => by rw [h]; rfl), fun k h => h⟩
  clear hg hsz hr hrq hfl hsrc hone hm1 hm2 hm3 hm4 hE1 hg1 hg2 hc1 hc2 hcc hrest hRow hinf hzv hn hrl
  have h1 : ((i : Int) == (i : Int) + 1) = false := beq_eq_false_iff_ne.2 (by omega)
  have h2 : (T.length - 1 : Nat) + 1 = T.length := by omega
  have h3 : T.length - (T.length - 1) = 1 := by omega
  have h4 : ¬ cap = T.length - 1 := by omega
  have h5 : ((i : Int) + 1).toNat = i + 1 := by omega
  have h6 : i ≤ cap := by omega
  have h7 : i + 1 ≤ cap := by omega
  have h8 : (i : Int) + 1 ≤ T.length := by omega
  have h9 : (0 : Int) ≤ (i : Int) + 1 := by omega
  go_enter Tryz.func87, Tryz.ntmps87
  go_wp2_with fail
  refine wp_region_held_drew (S := fun _ => True) (by kernel_rfl) trivial (fun hH => ?_)
  refine' tk 0 ?_
  refine' tk 1 ?_
  refine' tk 2 ?_
  refine' tk 3 ?_
  refine' tk 4 ?_
  refine' tk 5 ?_
  refine wpAnyH_ready (rs := [6]) (by kernel_rfl) (by simp) ?_
  refine AllReadyH.cons rfl (fun K hK => ?_) AllReadyH.nil
  refine step_append_eq (by rfl) _ _ 29 29 (by rfl) _ _ (by rfl) (by rfl) (hrun1 _) ?_
  refine hK.out _ _ trivial (fun _ => ?_)
  clear hK K
  try simp only [Act.put, List.setIfInBounds_toArray, List.set_cons_zero, List.set_cons_succ]
  refine' tk 7 ?_
  refine wpAnyH_done (by kernel_rfl) ?_ _
  go_wp2_with fail
  go_ret
  exact ⟨_, rfl, hfin.out⟩
end Go.Proofs.YtmjpfoeaobdaeaaGreatDoor
namespace Go.Proofs.YtmjpfoeaobdaeaaGreatDoor
open Go.RowKit

theorem rdv_at {α : Type} [Dat α] {w : World} {O : Nat → Prop} {B : Nat} {E : TypeId} {cs : List Value} {x : α} (hB : w.heap[B]? = some (.cells cs.toArray E (0, 0))) (hO : ¬ O B) (hx : Dat.rd w O cs x) : Rdv w O (.slice (some ⟨B, 0, none⟩) 1 1) [x] := by
  refine ⟨some ⟨B, 0, none⟩, 1, rfl, Nat.le_refl _, by decide, ?_⟩
  intro i y hy
  obtain rfl : i = 0 := by
    cases i with
    | zero => rfl
    | succ i => simp at hy
  simp only [List.getElem?_cons_zero, Option.some.injEq] at hy
  subst hy
  refine ⟨B, 0, cs, rfl, hO, ?_, hx⟩
  intro j u hj
  simp only [World.cell?, hB]
  simpa using hj
set_option maxHeartbeats 2000000 in
set_option maxRecDepth 100000 in
theorem insert_end (T : List File) (f : File) (v fv : Value) (w0 w : World) (B : Nat) (E : TypeId) (hn : OwnQ 70 w0 w v T) (hT : T.length ≤ 1000000)
    (hB : w.heap[B]? = some (.cells #[.string f.path, fv] E (0, 0))) (hvB : ∀ k, v.ownBlock = some k → k ≠ B) (hB0 : w0.heap.size ≤ B) (hf : Dat.rd w (fun k => Old w0.heap.size k ∨ v.ownBlock = some k) [.string f.path, fv] f) :
    Calls Tryz.prog 88 #[v, .int .i64 T.length, .slice (some ⟨B, 0, none⟩) 1 1] w fun e w' => ∃ r, e = .returned r ∧ OwnQ 70 w0 w' r (T ++ [f]) := by
  obtain ⟨a, cap, rfl, h1, h2, _⟩ := rdv_slice hn.own.rdv
  unfold maxLen at h2
  obtain ⟨sb, u0, hrunL, u1, _⟩ := slice_gen (P := Tryz.prog) (t := 29) (by kernel_rfl) size_file (hn.own.rdv.sub (O' := Never) (fun _ _ h => h.elim)) T.length T.length (Nat.le_refl _) (Nat.le_refl _)
  have hrunL := fun (wx : World) => hrunL (T.length : Int) wx rfl rfl
  clear u0 u1
  have hu : Rdv w (fun k => Old w0.heap.size k ∨ (Value.slice a T.length cap).ownBlock = some k) (.slice (some ⟨B, 0, none⟩) 1 1) [f] := rdv_at hB (fun h => h.elim (fun h => absurd h (Nat.not_lt.2 hB0)) (fun h => hvB _ h rfl)) hf
  have hle : T.length + [f].length ≤ 1000000000 := by simp; omega
  go_enter Tryz.func88, Tryz.ntmps88
  go_wp2_with (at_builtin; refine wpList_many2 (by rfl) _ _ 29 (by rfl) elemOk_file (O := Old w0.heap.size) (l := T) (m := [f]) (by rfl) (by rfl) hn.own hu hn.olds hle ?_; intro v1 w1 hw1 hd1 hk1; have hn1 := hn.step hw1 hd1 hk1)
  go_ret
  exact ⟨_, rfl, hn1⟩
theorem min_one {k : Nat} (h : 1 ≤ k) : Nat.min 1 k = 1 := Nat.min_eq_left h
theorem minR {a b : Nat} (h : b ≤ a) : Nat.min a b = b := Nat.min_eq_right h
set_option maxHeartbeats 4000000 in
set_option maxRecDepth 100000 in
theorem insert_room (T : List File) (i : Nat) (f : File) (v fv : Value) (w0 w : World) (B : Nat) (E : TypeId) (hn : OwnQ 70 w0 w v T) (hi : i < T.length) (hT : T.length ≤ 1000000)
    (hB : w.heap[B]? = some (.cells #[.string f.path, fv] E (0, 0))) (hvB : ∀ k, v.ownBlock = some k → k ≠ B) (hB0 : w0.heap.size ≤ B) (hf : Dat.rd w (fun k => Old w0.heap.size k ∨ v.ownBlock = some k) [.string f.path, fv] f) :
    Calls Tryz.prog 88 #[v, .int .i64 i, .slice (some ⟨B, 0, none⟩) 1 1] w fun e w' => ∃ r, e = .returned r ∧ OwnQ 70 w0 w' r (insAt T i f) := by
  obtain ⟨g, cap, r, tail, rfl, hg, hsz, hle, hcm, _, hr⟩ := own_rows hn.own (by omega)
  obtain ⟨hrl, hrq⟩ := hr.len
  have hrq : ∀ c ∈ r, c.length = 2 := hrq
  have hsz : (r.flatten ++ tail).length = cap * 2 := hsz
  obtain ⟨inf, hinf, hi2, hiz, hib⟩ := info_file
  have hfl : r.flatten.length = T.length * 2 := by rw [cells_len hrq, hrl]
  have hnew : w0.heap.size ≤ g := hn.new g rfl
  have hgl : g < w.heap.size := (Array.getElem?_eq_some_iff.1 hg).1
  have hBl : B < w.heap.size := (Array.getElem?_eq_some_iff.1 hB).1
  have hgB : g ≠ B := hvB g rfl
  have hRow := Lib.hid hr
  have hf' : Dat.rd w (fun k => Old w0.heap.size k ∨ k = g) [.string f.path, fv] f := Dat.keep hf (Chg.refl Never w) (fun _ _ h => h.elim) (fun k _ hk => hk.imp_right (fun e => by rw [e]; rfl))
  unfold maxLen at hcm
  have hd1 : ((r.drop i).flatten).length = (T.length - i) * 2 := by rw [cells_len (fun c hc => hrq c (List.mem_of_mem_drop hc)), List.length_drop, hrl]
  have hone : ∀ u ∈ (r.drop i).flatten, u.oneCell' = true := fun u hu => by
    obtain ⟨c, hc, hu⟩ := List.mem_flatten.1 hu
    exact hr.one c (List.mem_of_mem_drop hc) u hu
  have hone2 : ∀ u ∈ [Value.string f.path, fv], u.oneCell' = true := Dat.one hf
  have hE1 : (r.flatten ++ tail).take (i * 2) = (r.take i).flatten := by
    rw [← cells_take r i hrq, List.take_append_of_le_length (by rw [hfl]; omega)]
  have ht1 : ((r.take i).flatten).length = i * 2 := by rw [cells_len (fun c hc => hrq c (List.mem_of_mem_take hc)), List.length_take, hrl]; omega
  have hsrc1 : ∀ (W : World), W.heap[g]? = w.heap[g]? → ∀ j u, ((r.drop i).flatten)[j]? = some u → W.cell? ((⟨g, i * 2, none⟩ : Addr).add j) = some u := fun W hW j u hu => by
    rw [Addr.add_lit]
    refine row_cell (w := W) (hW.trans hg) ?_
    rw [← cells_drop r i hrq, List.getElem?_drop] at hu
    rw [List.getElem?_append_left (List.getElem?_eq_some_iff.1 hu).1]
    exact hu
  have hsrc2 : ∀ (W : World), W.heap[B]? = w.heap[B]? → ∀ j u, [Value.string f.path, fv][j]? = some u → W.cell? ((⟨B, 0, none⟩ : Addr).add j) = some u := fun W hW j u hu => by
    rw [Addr.add_lit]
    exact row_cell (w := W) (L := [.string f.path, fv]) (hW.trans hB) (by rwa [Nat.zero_add])
  have h1 : ((i : Int) == (T.length : Int)) = false := beq_eq_false_iff_ne.2 (by omega)
  have h1' : ¬ ((i : Int) = (T.length : Int)) := by omega
  have h5 : ((i : Int) + 1).toNat = i + 1 := by omega
  have h6 : ((T.length : Int) + 1).toNat = T.length + 1 := by omega
  have h9 : (0 : Int) ≤ (i : Int) + 1 := by omega
  have h10 : (0 : Int) ≤ (T.length : Int) + 1 := by omega
  have h11 : (i : Int) + 1 ≤ (T.length : Int) + 1 := by omega
  have h12 : (i : Int) ≤ (T.length : Int) + 1 := by omega
  have h13 : (i : Int) ≤ (T.length : Int) := by omega
  have h14 : T.length + 1 - (i + 1) = T.length - i := by omega
  have h15 : i ≤ T.length := by omega
  have h16 : i ≤ T.length + 1 := by omega
  have h17 : i + 1 ≤ T.length + 1 := by omega
  have hw1 : IntKind.i64.wrap ((i : Int) + 1) = (i : Int) + 1 := by rw [IntKind.wrap_i64]; omega
  have hw2 : IntKind.i64.wrap ((T.length : Int) + 1) = (T.length : Int) + 1 := by rw [IntKind.wrap_i64]; omega
  have hw3 : IntKind.i64.wrap ((T.length : Int) + 1 - (i : Int)) = (T.length : Int) + 1 - (i : Int) := by rw [IntKind.wrap_i64]; omega
  have hm1 : Nat.min (T.length + 1 - i) (T.length - i) = T.length - i := minR (by omega)
  by_cases hroom : T.length + 1 ≤ cap
  · have hov : ∀ lb cb, (callFunc 124 #[.slice (some ⟨B, 0, none⟩) 1 1, .slice (some ⟨g, (i + 1) * 2, none⟩) lb cb]).run Tryz.prog w = .ok (.value (.bool false)) w := fun lb cb => by
      rw [run_callFunc_extern Tryz.func124 (by kernel_rfl) (by kernel_rfl) (by kernel_rfl) (e := Extern.SlicesOverlaps.overlaps #[29, 29] #[4]) (by kernel_rfl),
        Lib.run_overlaps_apart w 29 4 70 Tryz.underlying29 2 (fun w => by kernel_rfl) ⟨B, 0, none⟩ ⟨g, (i + 1) * 2, none⟩ 1 1 lb cb (fun e => hgB e.symm) E 70 2 (r.flatten ++ tail).toArray.size (by simp only [World.shape?, hB]; rfl) (by simp only [World.shape?, hg]) (by simp only [List.size_toArray]; omega) (by simp only [World.frozen?, hB]; rfl) (by simp only [World.frozen?, hB]; rfl)]
      rfl
    have hcp1 : ∀ ty dc sc, (Builtin.copy_ #[29, 29] ty #[.slice (some ⟨g, (i + 1) * 2, none⟩) (T.length - i) dc, .slice (some ⟨g, i * 2, none⟩) (T.length + 1 - i) sc]).run Tryz.prog w.drew = _ := fun ty dc sc =>
      run_copy_at (P := Tryz.prog) w.drew (ty := ty) (dCap := dc) (sCap := sc) (cs := (r.drop i).flatten) Tryz.underlying29 hinf (L := r.flatten ++ tail) hg (by rw [hd1, hi2, hm1]) (hsrc1 w.drew rfl) (by rw [hd1, hsz]; omega) hone
    have hE2 : ((r.flatten ++ tail).take ((i + 1) * 2)).length = i * 2 + 2 := by rw [List.length_take, hsz]; omega
    have hE3 : ((r.flatten ++ tail).take ((i + 1) * 2)).take (i * 2) = (r.take i).flatten := by rw [List.take_take, show min (i * 2) ((i + 1) * 2) = i * 2 by omega, hE1]
    have hE4 : ((r.flatten ++ tail).drop ((i + 1) * 2 + ((r.drop i).flatten).length)).length = (cap - (T.length + 1)) * 2 := by rw [List.length_drop, hsz, hd1]; omega
    generalize (r.flatten ++ tail).take ((i + 1) * 2) = P1 at hcp1 hE2 hE3
    generalize (r.flatten ++ tail).drop ((i + 1) * 2 + ((r.drop i).flatten).length) = rest at hcp1 hE4
    have hg1 : (w.drew.setRow g (P1 ++ (r.drop i).flatten ++ rest).toArray).heap[g]? = some (.cells (P1 ++ (r.drop i).flatten ++ rest).toArray 70 (0, 0)) := setRow_heap w.drew g _ _ _ _ hg
    have hB1 : (w.drew.setRow g (P1 ++ (r.drop i).flatten ++ rest).toArray).heap[B]? = w.heap[B]? := setRow_other w.drew g B _ (fun e => hgB e.symm)
    have hc1 := chg_setRow w.drew g (P1 ++ (r.drop i).flatten ++ rest).toArray
    generalize w.drew.setRow g (P1 ++ (r.drop i).flatten ++ rest).toArray = W1 at hcp1 hg1 hc1 hB1
    have hcp2 : ∀ (ty : TypeId) (dc : Nat), (Builtin.copy_ #[29, 29] ty #[.slice (some ⟨g, i * 2, none⟩) (T.length + 1 - i) dc, .slice (some ⟨B, 0, none⟩) 1 1]).run Tryz.prog W1 = _ := fun ty dc =>
      run_copy_at (P := Tryz.prog) W1 (ty := ty) (dCap := dc) (sCap := 1) (cs := [Value.string f.path, fv]) Tryz.underlying29 hinf hg1 (by rw [hi2, min_one (by omega)]; rfl) (hsrc2 W1 hB1) (by rw [List.length_append, List.length_append, hE2]; simp; omega) hone2
    have hL1 : (P1 ++ (r.drop i).flatten ++ rest).take (i * 2) = (r.take i).flatten := by rw [List.append_assoc, List.take_append_of_le_length (by omega), hE3]
    have hL2 : (P1 ++ (r.drop i).flatten ++ rest).drop (i * 2 + [Value.string f.path, fv].length) = (r.drop i).flatten ++ rest := by rw [List.append_assoc]; exact drop_two hE2
    rw [hL1, hL2] at hcp2
    have hg2 : (W1.setRow g ((r.take i).flatten ++ [Value.string f.path, fv] ++ ((r.drop i).flatten ++ rest)).toArray).heap[g]? = some (.cells ((r.take i).flatten ++ [Value.string f.path, fv] ++ ((r.drop i).flatten ++ rest)).toArray 70 (0, 0)) := setRow_heap W1 g _ _ _ _ hg1
    have hc2 := chg_setRow W1 g ((r.take i).flatten ++ [Value.string f.path, fv] ++ ((r.drop i).flatten ++ rest)).toArray
    generalize W1.setRow g ((r.take i).flatten ++ [Value.string f.path, fv] ++ ((r.drop i).flatten ++ rest)).toArray = W2 at hcp2 hg2 hc2
    have hcc : Chg (fun k => k = g) w W2 := ((Chg.refl (fun k => k = g) w).drew.trans hc1).trans hc2
    have hfin : Hid (OwnQ 70 w0 W2 (.slice (some ⟨g, 0, none⟩) (T.length + 1) cap) (insAt T i f)) := by
      have hdl : (insAt T i f).length = T.length + 1 := by unfold insAt; rw [List.length_append, List.length_take, List.length_cons, List.length_drop]; omega
      have hrr := ((hRow.out.take i).app (show RdL w (fun k => Old w0.heap.size k ∨ k = g) (f :: T.drop i) ([Value.string f.path, fv] :: r.drop i) from ⟨hf', hRow.out.drop i⟩)).keep (O'' := fun k => Old w0.heap.size k ∨ k = g) hcc (fun k _ hk => .inr hk) (fun k _ hk => hk)
      have := own_laid (e := 70) (w := W2) (O := Old w0.heap.size) (l := insAt T i f) (g := g) (cap := cap) (r := r.take i ++ [Value.string f.path, fv] :: r.drop i) (tail := rest) (by rw [List.flatten_append, List.flatten_cons]; simp only [List.append_assoc] at hg2 ⊢; exact hg2)
        (by rw [List.flatten_append, List.flatten_cons, List.length_append, List.length_append, List.length_append, ht1, hd1, hE4]; show _ = cap * 2; simp; omega) (by omega) (by unfold maxLen; omega) (fun h => absurd h (Nat.not_lt.2 hnew)) hrr
      rw [hdl] at this
      exact ⟨this, fun k hk => by injection hk with hk; subst hk; exact hnew, hn.chg.trans' hcc (fun k hk h => by omega)⟩
    have h18 : ¬ cap = i := by omega
    have h19 : ¬ cap = i + 1 := by omega
    have h20 : (T.length : Int) + 1 ≤ cap := by omega
    have h21 : ¬ (cap : Int) < (T.length : Int) + 1 := by omega
    clear hg hsz hr hrq hfl hsrc1 hsrc2 hone hone2 hd1 hE1 hE2 hE3 hE4 hg1 hg2 hc1 hc2 hcc hRow hinf hn hrl ht1 hf hf' hB hB1 hvB hL1 hL2
    go_enter Tryz.func88, Tryz.ntmps88
    go_wp2_with (simp only [hov])
    refine wp_region_held_drew (S := fun _ => True) (by kernel_rfl) trivial (fun hH => ?_)
    refine' tk 0 ?_
    refine' tk 1 ?_
    refine' tk 2 ?_
    refine' tk 3 ?_
    refine' tk 4 ?_
    refine' tk 5 ?_
    refine' tk 6 ?_
    refine' tk 7 ?_
    refine wpAnyH_ready (rs := [8]) (by kernel_rfl) (by simp) ?_
    refine AllReadyH.cons rfl (fun K hK => ?_) AllReadyH.nil
    refine step_copy_eq (by rfl) _ _ 29 29 (by rfl) _ _ (by rfl) (by rfl) (hcp1 _ _ _) ?_
    refine hK.out _ _ trivial (fun _ => ?_)
    clear hK K
    try simp only [Act.put, List.setIfInBounds_toArray, List.set_cons_zero, List.set_cons_succ]
    refine wpAnyH_done (by kernel_rfl) ?_ _
    go_wp2_with (at_builtin; refine wpList_copy_eq _ (by rfl) _ _ 29 29 (by rfl) _ _ (by rfl) (by rfl) (hcp2 _ _) ?_)
    go_ret
    exact ⟨_, rfl, hfin.out⟩
  · obtain rfl : cap = T.length := by omega
    have hold : (Builtin.firstCells inf.size i (.slice (some ⟨g, 0, none⟩) i T.length)).run Tryz.prog w.drew = .ok ((r.take i).flatten).toArray w.drew :=
      run_firstCells_some w.drew inf.size i ⟨g, 0, none⟩ i T.length ((r.take i).flatten) (by rw [ht1, hi2]) (fun j u hu => by
        rw [Addr.add_lit]
        refine row_cell (w := w.drew) hg ?_
        rw [← hE1, List.getElem?_take] at hu
        split at hu
        · rw [Nat.zero_add]; exact hu
        · cases hu)
    have hik : i + (T.length + 1 - i) = T.length + 1 := by omega
    have hkk : (T.length : Int) + 1 - (i : Int) = ((T.length + 1 - i : Nat) : Int) := by omega
    have hrz := fun ty => Lib.run_append_grow_zeros (P := Tryz.prog) w 29 3 ty 70 inf (.agg #[.string ⟨#[]⟩, .slice none 0 0]) .i64 .i64 Tryz.underlying29 Tryz.underlying3 hinf hiz (some ⟨g, 0, none⟩) i T.length _ hold (T.length + 1 - i) (by omega) (by omega) (by omega) (by omega)
        (by have := Nat.mul_le_mul (show T.length + 1 - i ≤ 1000001 by omega) hib; omega) (growslice_fits (by omega) (by rw [hik]; have := Nat.mul_le_mul (show T.length + 1 ≤ 1000001 by omega) hib; omega))
    rw [← hkk] at hrz
    rw [hik] at hrz
    have hGn : T.length + 1 ≤ grownCap w (T.length + 1) T.length 70 := grownCap_ge w _ _ _
    have hGm : grownCap w (T.length + 1) T.length 70 ≤ maxLen := grownCap_le_maxLen w _ _ _ (by unfold maxLen; omega)
    generalize grownCap w (T.length + 1) T.length 70 = Gc at hrz hGn hGm
    have hz1 := size_zeroCells (Value.agg #[.string ⟨#[]⟩, .slice none 0 0]).cells (T.length + 1 - i)
    have hz2 := size_zeroCells (Value.agg #[.string ⟨#[]⟩, .slice none 0 0]).cells (Gc - (T.length + 1))
    have hz3 : (Value.agg #[.string ⟨#[]⟩, .slice none 0 0]).cells.size = 2 := rfl
    rw [hz3] at hz1 hz2
    generalize Builtin.zeroCells (Value.agg #[.string ⟨#[]⟩, .slice none 0 0]).cells (T.length + 1 - i) = Z1 at hrz hz1
    generalize Builtin.zeroCells (Value.agg #[.string ⟨#[]⟩, .slice none 0 0]).cells (Gc - (T.length + 1)) = Z2 at hrz hz2
    have hA : ((r.take i).flatten).toArray ++ Z1 ++ Z2 = ((r.take i).flatten ++ (Z1.toList ++ Z2.toList)).toArray := by simp
    rw [hA] at hrz
    have hZl : (Z1.toList ++ Z2.toList).length = (Gc - i) * 2 := by rw [List.length_append, Array.length_toList, Array.length_toList, hz1, hz2]; omega
    generalize Z1.toList ++ Z2.toList = ZL at hrz hZl
    generalize hG0 : w.heap.size = G0 at hrz
    have hg0 : (w.drew.alloc (.cells ((r.take i).flatten ++ ZL).toArray 70)).heap[G0]? = some (.cells ((r.take i).flatten ++ ZL).toArray 70 (0, 0)) := by rw [← hG0]; exact heap_alloc_new w.drew _
    have hc0 : Chg Never w (w.drew.alloc (.cells ((r.take i).flatten ++ ZL).toArray 70)) := (Chg.refl Never w).drew.alloc _
    generalize w.drew.alloc (.cells ((r.take i).flatten ++ ZL).toArray 70) = W1 at hrz hg0 hc0
    have hcp1 : ∀ (ty : TypeId) (dc : Nat), (Builtin.copy_ #[29, 29] ty #[.slice (some ⟨G0, i * 2, none⟩) (T.length + 1 - i) dc, .slice (some ⟨B, 0, none⟩) 1 1]).run Tryz.prog W1 = _ := fun ty dc =>
      run_copy_at (P := Tryz.prog) W1 (ty := ty) (dCap := dc) (sCap := 1) (cs := [Value.string f.path, fv]) Tryz.underlying29 hinf hg0 (by rw [hi2, min_one (by omega)]; rfl) (hsrc2 W1 (hc0.block B hBl (fun h => h))) (by rw [List.length_append, ht1, hZl]; simp; omega) hone2
    have hL1 : ((r.take i).flatten ++ ZL).take (i * 2) = (r.take i).flatten := take_two ht1
    have hL2 : (((r.take i).flatten ++ ZL).drop (i * 2 + [Value.string f.path, fv].length)).length = (Gc - (i + 1)) * 2 := by rw [List.length_drop, List.length_append, ht1, hZl]; simp; omega
    rw [hL1] at hcp1
    generalize ((r.take i).flatten ++ ZL).drop (i * 2 + [Value.string f.path, fv].length) = R1 at hcp1 hL2
    have hg1 : (W1.setRow G0 ((r.take i).flatten ++ [Value.string f.path, fv] ++ R1).toArray).heap[G0]? = some (.cells ((r.take i).flatten ++ [Value.string f.path, fv] ++ R1).toArray 70 (0, 0)) := setRow_heap W1 G0 _ _ _ _ hg0
    have hc1 := chg_setRow W1 G0 ((r.take i).flatten ++ [Value.string f.path, fv] ++ R1).toArray
    have hgg1 : (W1.setRow G0 ((r.take i).flatten ++ [Value.string f.path, fv] ++ R1).toArray).heap[g]? = w.heap[g]? := (setRow_other W1 G0 g _ (by omega)).trans (hc0.block g hgl (fun h => h))
    generalize W1.setRow G0 ((r.take i).flatten ++ [Value.string f.path, fv] ++ R1).toArray = W2 at hcp1 hg1 hc1 hgg1
    have hcp2 : ∀ ty dc sc, (Builtin.copy_ #[29, 29] ty #[.slice (some ⟨G0, (i + 1) * 2, none⟩) (T.length - i) dc, .slice (some ⟨g, i * 2, none⟩) (T.length - i) sc]).run Tryz.prog W2.drew = _ := fun ty dc sc =>
      run_copy_at (P := Tryz.prog) W2.drew (ty := ty) (dCap := dc) (sCap := sc) (cs := (r.drop i).flatten) Tryz.underlying29 hinf (L := (r.take i).flatten ++ [Value.string f.path, fv] ++ R1) hg1 (by rw [hd1, hi2, minR (by omega)]) (hsrc1 W2.drew hgg1) (by rw [hd1, List.length_append, List.length_append, ht1, hL2]; simp; omega) hone
    have hL3 : ((r.take i).flatten ++ [Value.string f.path, fv]).length = (i + 1) * 2 := by rw [List.length_append, ht1]; simp; omega
    have hL4 : ((r.take i).flatten ++ [Value.string f.path, fv] ++ R1).take ((i + 1) * 2) = (r.take i).flatten ++ [Value.string f.path, fv] := take_two hL3
    have hL5 : (((r.take i).flatten ++ [Value.string f.path, fv] ++ R1).drop ((i + 1) * 2 + ((r.drop i).flatten).length)).length = (Gc - (T.length + 1)) * 2 := by rw [List.length_drop, List.length_append, hL3, hL2, hd1]; omega
    rw [hL4] at hcp2
    generalize ((r.take i).flatten ++ [Value.string f.path, fv] ++ R1).drop ((i + 1) * 2 + ((r.drop i).flatten).length) = rest at hcp2 hL5
    have hg2 : (W2.drew.setRow G0 ((r.take i).flatten ++ [Value.string f.path, fv] ++ (r.drop i).flatten ++ rest).toArray).heap[G0]? = some (.cells ((r.take i).flatten ++ [Value.string f.path, fv] ++ (r.drop i).flatten ++ rest).toArray 70 (0, 0)) := setRow_heap W2.drew G0 _ _ _ _ hg1
    have hc2 := chg_setRow W2.drew G0 ((r.take i).flatten ++ [Value.string f.path, fv] ++ (r.drop i).flatten ++ rest).toArray
    generalize W2.drew.setRow G0 ((r.take i).flatten ++ [Value.string f.path, fv] ++ (r.drop i).flatten ++ rest).toArray = W3 at hcp2 hg2 hc2
    have hcc : Chg (fun k => k = G0) w W3 := (((hc0.mono (fun _ _ h => h.elim)).trans hc1).drew).trans hc2
    have hfin : Hid (OwnQ 70 w0 W3 (.slice (some ⟨G0, 0, none⟩) (T.length + 1) Gc) (insAt T i f)) := by
      have hdl : (insAt T i f).length = T.length + 1 := by unfold insAt; rw [List.length_append, List.length_take, List.length_cons, List.length_drop]; omega
      have hrr := ((hRow.out.take i).app (show RdL w (fun k => Old w0.heap.size k ∨ k = g) (f :: T.drop i) ([Value.string f.path, fv] :: r.drop i) from ⟨hf', hRow.out.drop i⟩)).keep (O'' := fun k => Old w0.heap.size k ∨ k = G0) hcc (fun k hk h => by omega) (fun k hk h => h.elim (fun h => .inl h) (fun h => by omega))
      have := own_laid (e := 70) (w := W3) (O := Old w0.heap.size) (l := insAt T i f) (g := G0) (cap := Gc) (r := r.take i ++ [Value.string f.path, fv] :: r.drop i) (tail := rest) (by rw [List.flatten_append, List.flatten_cons]; simp only [List.append_assoc] at hg2 ⊢; exact hg2)
        (by rw [List.flatten_append, List.flatten_cons, List.length_append, List.length_append, List.length_append, ht1, hd1, hL5]; show _ = Gc * 2; simp; omega) (by omega) hGm (fun h => absurd h (Nat.not_lt.2 (by have := hn.chg.size; omega))) hrr
      rw [hdl] at this
      have hws := hn.chg.size
      exact ⟨this, fun k hk => by injection hk with hk; subst hk; show w0.heap.size ≤ G0; omega, hn.chg.trans' hcc (fun k hk h => by omega)⟩
    have h18 : ¬ Gc = i := by omega
    have h19 : ¬ Gc = i + 1 := by omega
    have h22 : ¬ T.length = i := by omega
    have h20 : (T.length : Int) < (T.length : Int) + 1 := by omega
    clear hg hsz hr hrq hfl hsrc1 hsrc2 hone hone2 hd1 hE1 hg0 hg1 hg2 hc0 hc1 hc2 hcc hRow hinf hn hrl ht1 hf hf' hB hvB hL1 hL2 hL3 hL4 hL5 hold hA hgg1 hG0 hkk
    go_enter Tryz.func88, Tryz.ntmps88
    go_wp2_with (first
      | (at_builtin; refine Lib.wpList_append_run _ (by rfl) _ _ _ _ (by rfl) _ _ (by rfl) (by rfl) _ _ (hrz _) ?_)
      | (at_builtin; refine wpList_copy_eq _ (by rfl) _ _ 29 29 (by rfl) _ _ (by rfl) (by rfl) (hcp1 _ _) ?_))
    refine wp_region_held_drew (S := fun _ => True) (by kernel_rfl) trivial (fun hH => ?_)
    refine' tk 0 ?_
    refine' tk 1 ?_
    refine' tk 2 ?_
    refine' tk 3 ?_
    refine' tk 4 ?_
    refine' tk 5 ?_
    refine' tk 6 ?_
    refine' tk 7 ?_
    refine wpAnyH_ready (rs := [8]) (by kernel_rfl) (by simp) ?_
    refine AllReadyH.cons rfl (fun K hK => ?_) AllReadyH.nil
    refine step_copy_eq (by rfl) _ _ 29 29 (by rfl) _ _ (by rfl) (by rfl) (hcp2 _ _ _) ?_
    refine hK.out _ _ trivial (fun _ => ?_)
    clear hK K
    try simp only [Act.put, List.setIfInBounds_toArray, List.set_cons_zero, List.set_cons_succ]
    refine wpAnyH_done (by kernel_rfl) ?_ _
    go_wp2_with fail
    go_ret
    exact ⟨_, rfl, hfin.out⟩
theorem insert_any (T : List File) (i : Nat) (f : File) (v fv : Value) (w0 w : World) (B : Nat) (E : TypeId) (hn : OwnQ 70 w0 w v T) (hi : i ≤ T.length) (hT : T.length ≤ 1000000)
    (hB : w.heap[B]? = some (.cells #[.string f.path, fv] E (0, 0))) (hvB : ∀ k, v.ownBlock = some k → k ≠ B) (hB0 : w0.heap.size ≤ B) (hf : Dat.rd w (fun k => Old w0.heap.size k ∨ v.ownBlock = some k) [.string f.path, fv] f) :
    Calls Tryz.prog 88 #[v, .int .i64 i, .slice (some ⟨B, 0, none⟩) 1 1] w fun e w' => ∃ r, e = .returned r ∧ OwnQ 70 w0 w' r (insAt T i f) := by
  rcases Nat.lt_or_ge i T.length with h | h
  · exact insert_room T i f v fv w0 w B E hn h hT hB hvB hB0 hf
  · obtain rfl : i = T.length := by omega
    have e : insAt T T.length f = T ++ [f] := by unfold insAt; rw [List.take_length, List.drop_length]
    rw [e]
    exact insert_end T f v fv w0 w B E hn hT hB hvB hB0 hf
end Go.Proofs.YtmjpfoeaobdaeaaGreatDoor
namespace Go.Proofs.YtmjpfoeaobdaeaaGreatDoor
open Go.RowKit

def ApplyPost (t : List File) (p : List Change) (w : World) (e : Ending) (w' : World) : Prop := ∃ r, e = .returned (.tuple #[r, .int .i64 (applyR t p).2.1, errV (applyR t p).2.2]) ∧ Chg Never w w' ∧ Rdv w' (Old w.heap.size) r (applyR t p).1
theorem applyPost_bad {t : List File} {p : List Change} {k : Nat} {e : Int} {w w' : World} (h : applyR t p = ([], k, e)) (hc : Chg Never w w') : ApplyPost t p w (.returned (.tuple #[.slice none 0 0, .int .i64 k, errV e])) w' :=
  ⟨_, by rw [h], hc, by rw [h]; exact rdv_nil _ _⟩
theorem applyPost_ok {t R : List File} {p : List Change} {w w' : World} {r : Value} (h : applyR t p = (R, 0, 0)) (hc : Chg Never w w') (hr : Rdv w' (Old w.heap.size) r R) : ApplyPost t p w (.returned (.tuple #[r, .int .i64 0, .nilIface])) w' :=
  ⟨r, by rw [h]; rfl, hc, by rw [h]; exact hr⟩
theorem own_weak {α : Type} [Dat α] {e : TypeId} {w0 w w' : World} {v : Value} {l : List α} (h : Own e w' (Old w.heap.size) v l) (hc : Chg Never w0 w) (hc' : Chg Never w w') : OwnQ e w0 w' v l :=
  ⟨h.keep (O'' := Old w0.heap.size) (Chg.refl Never w') (fun _ _ h => h.elim) (fun _ _ hk => Nat.lt_of_lt_of_le hk hc.size), fun k hk => by
    obtain ⟨_, _, q, _⟩ := h
    have := q k hk
    have hs := hc.size
    unfold Old at this
    omega, hc.trans hc'⟩
set_option maxHeartbeats 4000000 in
set_option maxRecDepth 100000 in
theorem apply_any (t : List File) (p : List Change) (vt vp : Value) (w : World) (ht : Rdv w Never vt t) (hp : Rdv w Never vp p) (m : Int) (hm : w.cell? ⟨0, 0, none⟩ = some (.int .i64 m)) :
    Calls Tryz.prog 46 #[vt, vp] w fun e w' => ApplyPost t p w e w' := by
  obtain ⟨ta, tcap, rfl, _, _, _⟩ := rdv_slice ht
  obtain ⟨pa, pcap, rfl, p1, p2, _⟩ := rdv_slice hp
  unfold maxLen at p2
  by_cases z : (treeFault t).2 = 0
  · have Z := Lib.hid z
    by_cases y : (patchFault p).2 = 0
    · have Y := Lib.hid y
      have t8 := (treeFault_zero z).1
      have tl := (treeFault_zero z).2.1
      have tsrt := Lib.hid (treeFault_zero z).2.2.1
      have pl := (patch_of y).1
      have tl60 : ∀ f ∈ t, f.lines.length ≤ 1000000 := fun f hf => by
        have := linesFault_len (fileFault_lines (tl f hf))
        omega
      clear z y tl
      go_enter Tryz.func46, Tryz.ntmps46
      go_wp2_with fail
      refine (tree_check_any t _ _ ht m hm).mono ?_
      rintro e w1 ⟨rfl, hw⟩
      rw [Z.out, errV_zero]
      go_wp2_with fail
      refine (patch_check_any p _ _ (hp.never hw) m (hw.cellNever hm)).mono ?_
      rintro e w2 ⟨rfl, hc2⟩
      have hw := hw.trans hc2
      clear hc2
      rw [Y.out, errV_zero]
      go_wp2_with fail
      refine (tree_copy_any t _ _ (ht.never hw) (by omega) tl60).mono ?_
      rintro e w3 ⟨r3, rfl, hc3, hown⟩
      have hn0 := own_weak hown hw hc3
      clear hown hc3 hw tl60
      go_wp2_with fail
      go_loopw [11, 40] (fun v i wr => ∃ (k : Nat) (T : List File), k ≤ p.length ∧ i = .int .i64 k ∧ OwnQ 70 w wr v T ∧ Hid (Sorted T) ∧ T.length ≤ 8 + k ∧ Hid (applyGo k T (p.drop k) = applyGo 0 t p)) (fun _ i _ => p.length - (intOf i).toNat)
      case atStart => exact ⟨0, t, Nat.zero_le _, rfl, hn0, tsrt, by omega, rfl⟩
      case round =>
        clear hn0
        rename World => wr
        obtain ⟨k, T, hk, rfl, hn, hS, hTl, hG⟩ := hrel
        obtain ⟨oa, ocap, rfl, o1, o2, o3⟩ := rdv_slice hn.own.rdv
        unfold maxLen at o2
        have hT : T.length ≤ 1000000 := by omega
        by_cases hlt : k < p.length
        · obtain ⟨c, hx⟩ : ∃ c, p[k]? = some c := ⟨p[k], by simp [hlt]⟩
          obtain ⟨_, _, hpa, _, _, p3⟩ := rdv_slice hp
          injection hpa with hpa1 hpa2 hpa3
          subst hpa1
          clear hpa2 hpa3
          obtain ⟨pb, po, hv, rfl, _, _, c0, c1, c2, hpc, hhv⟩ := elems_change p3 hx
          obtain ⟨ha, hcap, rfl, _, _, _⟩ := rdv_slice hhv
          have hhv := Lib.hid hhv
          have c0 := hn.chg.cellNever c0
          have c1 := hn.chg.cellNever c1
          have c2 := hn.chg.cellNever c2
          have HD := Lib.hid (drop_eq hx)
          obtain ⟨hA, d0, d1, d2⟩ := box1_change wr 100 c.what c.path (.slice ha c.hunks.length hcap) _ rfl
          have DS := Lib.hid (done_step (look T c.path) c)
          clear hx p3
          cases hi : isAt T c.path with
          | true =>
            obtain ⟨f, hf, hfp, hlk, hpos⟩ := find_is hS.out hi
            have IS := Lib.hid hi
            rw [hlk] at DS
            have HLK := Lib.hid hlk
            obtain ⟨fb, fo, flv, rfl, _, _, _, f1, _, hfl⟩ := elems_file o3 hf
            clear hi hf hlk o3 hfp
            have F1 := Lib.hid f1
            clear f1
            go_wp2_with fail
            generalize wr.alloc (.cells #[.int .i64 c.what, .string c.path, .slice ha c.hunks.length hcap] 100) = wA at hA d0 d1 d2 ⊢
            have hnA := hn.never hA
            have HLT := own_block_lt hn.own
            clear hn c0 c1 c2
            refine (treefind_any T c.path _ _ (hnA.own.rdv.sub (fun _ _ h => h.elim)) hS.out hT).mono ?_
            rintro e w4 ⟨rfl, hc4⟩
            have hn4 := hnA.never hc4
            have d0 := hc4.cellNever d0
            have d1 := hc4.cellNever d1
            have d2 := hc4.cellNever d2
            have hQ := hA.trans hc4
            clear hnA hA hc4
            rw [IS.out]
            have f1 := hQ.cellNever F1.out
            have hfl4 := (hfl.never hQ).sub (O' := Never) (fun _ _ h => h.elim)
            go_wp2_with fail
            refine (done_any true f.lines c _ _ _ (hfl4) (hhv.out.never hn4.chg)).mono ?_
            rintro e w5 ⟨r5, rfl, hc5, hr5⟩
            have hnD := hn4.never hc5
            have d0 := hc5.cellNever d0
            have d1 := hc5.cellNever d1
            have d2 := hc5.cellNever d2
            obtain ⟨ra, rc, rfl, _, _, _⟩ := rdv_slice hr5
            clear f1 hfl4
            have HST : Hid ((stepOf (look T c.path) c).2 = (doneR true f.lines c).2.2) := by rw [Hid, HLK.out, DS.out]; rfl
            by_cases hst : (stepOf (look T c.path) c).2 = 0
            · have hd0 := hst
              rw [HST.out] at hd0
              have HST0 := Lib.hid hst
              have HD0 := Lib.hid hd0
              obtain ⟨q1, q2, q3⟩ := done_ok hd0
              have k2 : c.what ≠ 2 := fun e => absurd (q1 e) (by decide)
              have t2 : (c.what == 2) = false := by simp [k2]
              have t2' : (c.what != 2) = true := by simp [k2]
              have hrf := hn4.fresh hr5
              have HSS0 : Hid (Sorted (setAt T c.path (stepOf (look T c.path) c).1)) := setAt_sorted hS.out (step_at hS.out (Prod.ext rfl HST0.out))
              have HNX0 : Hid (applyGo (k + 1) (setAt T c.path (stepOf (look T c.path) c).1) (p.drop (k + 1)) = applyGo 0 t p) := by rw [Hid, ← apply_step HD.out HST0.out]; exact hG.out
              have hdl := drop_len hpos
              rw [HD0.out, errV_zero]
              by_cases k3 : c.what = 3
              · have q3' : (doneR true f.lines c).2.1 = false := by rw [q3, k3]; rfl
                have HSET : Hid (setAt T c.path (stepOf (look T c.path) c).1 = dropAt T (posOf T c.path)) := by
                  rw [Hid, HLK.out, DS.out]
                  show setAt T c.path (if (doneR true f.lines c).2.1 = true then some (doneR true f.lines c).1 else none) = _
                  rw [if_neg (by rw [q3']; decide)]; rfl
                rw [q3']
                clear hst hd0 q1 q2 q3 q3' k2 k3 hr5 hc5 hrf d1 d2
                go_wp2_with fail
                refine (delete_any T (posOf T c.path) _ w w5 hnD hpos hT).mono ?_
                rintro e w8 ⟨r8, rfl, hn8, _, _⟩
                obtain ⟨va8, vn8, vc8, rfl⟩ := own_isSlice hn8.own
                clear d0 hnD hn4
                go_wp2_with fail
                go_roundw
                case rel => exact ⟨k + 1, _, by omega, by go_num, hn8, by rw [← HSET.out]; exact HSS0, by omega, by rw [← HSET.out]; exact HNX0⟩
                case measure => simp [intOf] <;> omega
              · have q3' : (doneR true f.lines c).2.1 = true := by rw [q3]; exact decide_eq_true k3
                have HSET : Hid (setAt T c.path (stepOf (look T c.path) c).1 = insAt (dropAt T (posOf T c.path)) (posOf T c.path) ⟨c.path, (doneR true f.lines c).1⟩) := by
                  rw [Hid, HLK.out, DS.out]
                  show setAt T c.path (if (doneR true f.lines c).2.1 = true then some (doneR true f.lines c).1 else none) = _
                  rw [if_pos q3', set_edit IS.out hpos]
                have HIL := Lib.hid (ins_len (T := dropAt T (posOf T c.path)) (i := posOf T c.path) (f := ⟨c.path, (doneR true f.lines c).1⟩) (by omega))
                rw [q3']
                clear hst hd0 q1 q2 q3 q3' k2 k3 hr5 hc5 d2
                go_wp2_with fail
                refine (delete_any T (posOf T c.path) _ w w5 hnD hpos hT).mono ?_
                rintro e w8 ⟨r8, rfl, hn8, hch8, hob8⟩
                have d1 := hch8.cell d1 (fun h => absurd (HLT _ h) (Nat.lt_irrefl _))
                have hrf8 := hrf.keep (O'' := fun k => Old w.heap.size k ∨ r8.ownBlock = some k) hch8 (fun k _ h => .inr h) (fun k _ h => h.imp_right (hob8 k))
                have hlt8 := own_block_lt hn8.own
                obtain ⟨va8, vn8, vc8, rfl⟩ := own_isSlice hn8.own
                clear d0 hnD hn4 hrf hch8 hob8
                have hnB := heap_alloc_new w8 (.cells #[.string c.path, .slice ra (doneR true f.lines c).1.length rc] 70)
                have hAB : Chg Never w8 (w8.alloc (.cells #[.string c.path, .slice ra (doneR true f.lines c).1.length rc] 70)) := (Chg.refl Never w8).alloc _
                go_wp2_with fail
                generalize w8.alloc (.cells #[.string c.path, .slice ra (doneR true f.lines c).1.length rc] 70) = wB at hnB hAB ⊢
                refine (insert_any (dropAt T (posOf T c.path)) (posOf T c.path) ⟨c.path, (doneR true f.lines c).1⟩ _ (.slice ra (doneR true f.lines c).1.length rc) w wB w8.heap.size 70 (hn8.never hAB) (by omega) (by omega) hnB (fun k hk e => absurd (hlt8 k hk) (by rw [e]; omega)) (by first | exact hn8.chg.size | exact hnD.chg.size) ⟨_, rfl, hpc, hrf8.never hAB⟩).mono ?_
                rintro e w9 ⟨r9, rfl, hn9⟩
                obtain ⟨va9, vn9, vc9, rfl⟩ := own_isSlice hn9.own
                clear hnB hAB d1 hrf8 hn8
                go_wp2_with fail
                go_roundw
                case rel => exact ⟨k + 1, _, by omega, by go_num, hn9, by rw [← HSET.out]; exact HSS0, by rw [HIL.out]; omega, by rw [← HSET.out]; exact HNX0⟩
                case measure => simp [intOf] <;> omega
            · have E := applyPost_bad (w := w) (applyR_go Z.out Y.out (by rw [← hG.out]; exact apply_bad HD.out hst) |>.trans (if_pos hst)) hnD.chg
              have hst' := hst
              rw [HST.out] at E hst'
              rw [errV_pos hst'] at E ⊢
              clear hst hst' d0 d1 d2
              go_wp2_with fail
              go_ret3
              exact E
          | false =>
            obtain ⟨hlk, hpos⟩ := find_not hS.out hi
            have IS := Lib.hid hi
            rw [hlk] at DS
            have HLK := Lib.hid hlk
            clear hi hlk o3
            go_wp2_with fail
            generalize wr.alloc (.cells #[.int .i64 c.what, .string c.path, .slice ha c.hunks.length hcap] 100) = wA at hA d0 d1 d2 ⊢
            have hnA := hn.never hA
            have HLT := own_block_lt hn.own
            clear hn c0 c1 c2
            refine (treefind_any T c.path _ _ (hnA.own.rdv.sub (fun _ _ h => h.elim)) hS.out hT).mono ?_
            rintro e w4 ⟨rfl, hc4⟩
            have hn4 := hnA.never hc4
            have d0 := hc4.cellNever d0
            have d1 := hc4.cellNever d1
            have d2 := hc4.cellNever d2
            have hQ := hA.trans hc4
            clear hnA hA hc4
            rw [IS.out]
            go_wp2_with fail
            refine (done_any false ([] : List ByteArray) c _ _ _ ((rdv_nil _ _)) (hhv.out.never hn4.chg)).mono ?_
            rintro e w5 ⟨r5, rfl, hc5, hr5⟩
            have hnD := hn4.never hc5
            have d0 := hc5.cellNever d0
            have d1 := hc5.cellNever d1
            have d2 := hc5.cellNever d2
            obtain ⟨ra, rc, rfl, _, _, _⟩ := rdv_slice hr5
            have HST : Hid ((stepOf (look T c.path) c).2 = (doneR false [] c).2.2) := by rw [Hid, HLK.out, DS.out]; rfl
            by_cases hst : (stepOf (look T c.path) c).2 = 0
            · have hd0 := hst
              rw [HST.out] at hd0
              have HST0 := Lib.hid hst
              have HD0 := Lib.hid hd0
              obtain ⟨q1, q2, q3⟩ := done_ok hd0
              have k2 : c.what = 2 := by
                by_cases e : c.what = 2
                · exact e
                · exact absurd (q2 e) (by decide)
              have q3' : (doneR false [] c).2.1 = true := by rw [q3, k2]; rfl
              have t2 : (c.what == 2) = true := by simp [k2]
              have hrf := hn4.fresh hr5
              have HSET : Hid (setAt T c.path (stepOf (look T c.path) c).1 = insAt T (posOf T c.path) ⟨c.path, (doneR false [] c).1⟩) := by
                rw [Hid, HLK.out, DS.out]
                show setAt T c.path (if (doneR false [] c).2.1 = true then some (doneR false [] c).1 else none) = _
                rw [if_pos q3', set_put IS.out]
              have HNX : Hid (applyGo (k + 1) (insAt T (posOf T c.path) ⟨c.path, (doneR false [] c).1⟩) (p.drop (k + 1)) = applyGo 0 t p) := by rw [Hid, ← HSET.out, ← apply_step HD.out HST0.out]; exact hG.out
              have HSS : Hid (Sorted (insAt T (posOf T c.path) ⟨c.path, (doneR false [] c).1⟩)) := by
                rw [Hid, ← HSET.out]
                exact setAt_sorted hS.out (step_at hS.out (Prod.ext rfl HST0.out))
              have HIL := Lib.hid (ins_len (T := T) (f := ⟨c.path, (doneR false [] c).1⟩) hpos)
              rw [HD0.out, errV_zero, q3']
              clear hst hd0 q1 q2 q3 q3' k2 hr5 hc5 HSET
              have hlt8 := own_block_lt hnD.own
              have hnB := heap_alloc_new w5 (.cells #[.string c.path, .slice ra (doneR false [] c).1.length rc] 70)
              have hAB : Chg Never w5 (w5.alloc (.cells #[.string c.path, .slice ra (doneR false [] c).1.length rc] 70)) := (Chg.refl Never w5).alloc _
              go_wp2_with fail
              generalize w5.alloc (.cells #[.string c.path, .slice ra (doneR false [] c).1.length rc] 70) = wB at hnB hAB ⊢
              refine (insert_any T (posOf T c.path) ⟨c.path, (doneR false [] c).1⟩ _ (.slice ra (doneR false [] c).1.length rc) w wB w5.heap.size 70 (hnD.never hAB) hpos hT hnB (fun k hk e => absurd (hlt8 k hk) (by rw [e]; omega)) (by first | exact hn8.chg.size | exact hnD.chg.size) ⟨_, rfl, hpc, hrf.never hAB⟩).mono ?_
              rintro e w8 ⟨r8, rfl, hn8⟩
              obtain ⟨va8, vn8, vc8, rfl⟩ := own_isSlice hn8.own
              clear hnB hAB d0 d1 d2 hrf hnD hn4
              go_wp2_with fail
              go_roundw
              case rel => exact ⟨k + 1, _, by omega, by go_num, hn8, HSS, by rw [HIL.out]; omega, HNX⟩
              case measure => simp [intOf] <;> omega
            · have E := applyPost_bad (w := w) (applyR_go Z.out Y.out (by rw [← hG.out]; exact apply_bad HD.out hst) |>.trans (if_pos hst)) hnD.chg
              have hst' := hst
              rw [HST.out] at E hst'
              rw [errV_pos hst'] at E ⊢
              clear hst hst' d0 d1 d2
              go_wp2_with fail
              go_ret3
              exact E
        · obtain rfl : k = p.length := by omega
          have hGo := hG.out
          rw [apply_end] at hGo
          have hR := applyR_go Z.out Y.out hGo.symm
          rw [if_neg (by decide)] at hR
          by_cases h8 : 8 < T.length
          · rw [if_pos h8] at hR
            have E := applyPost_bad (k := 0) hR hn.chg
            rw [errV_pos (by decide)] at E
            clear hR hGo hG
            go_wp2_with fail
            go_ret3
            exact E
          · rw [if_neg h8] at hR
            have HR := Lib.hid hR
            have hr := hn.own.rdv
            clear hR hGo hG
            go_wp2_with fail
            go_ret3
            exact applyPost_ok HR.out hn.chg hr
    · have HE := Lib.hid (applyR_patch z y)
      have Y := Lib.hid y
      have Z := Lib.hid z
      clear z y
      go_enter Tryz.func46, Tryz.ntmps46
      go_wp2_with fail
      refine (tree_check_any t _ _ ht m hm).mono ?_
      rintro e w1 ⟨rfl, hw⟩
      rw [Z.out, errV_zero]
      go_wp2_with fail
      refine (patch_check_any p _ _ (hp.never hw) m (hw.cellNever hm)).mono ?_
      rintro e w2 ⟨rfl, hc2⟩
      have E := applyPost_bad HE.out (hw.trans hc2)
      rw [errV_pos Y.out] at E ⊢
      go_wp2_with fail
      go_ret3
      exact E
  · have HE := Lib.hid (applyR_tree (p := p) z)
    have Z := Lib.hid z
    clear z
    go_enter Tryz.func46, Tryz.ntmps46
    go_wp2_with fail
    refine (tree_check_any t _ _ ht m hm).mono ?_
    rintro e w1 ⟨rfl, hw⟩
    have E := applyPost_bad HE.out hw
    rw [errV_pos Z.out] at E ⊢
    go_wp2_with fail
    go_ret3
    exact E
end Go.Proofs.YtmjpfoeaobdaeaaGreatDoor
