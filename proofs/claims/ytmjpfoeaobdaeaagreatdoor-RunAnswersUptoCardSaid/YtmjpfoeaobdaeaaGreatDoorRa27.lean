/-
  PARTS: THE WALK of (*session).line, whole.; THE WALK of run.Run.; THE WALK of the document's RunOf.
-/
import Derived.Test.YtmjpfoeaobdaeaaGreatDoorRa26
import Derived.Laws.Pointers
import Derived.Test.YtmjpfoeaobdaeaaGreatDoorRa2
import Derived.Deep.RegionHeld3
import Derived.Test.YtmjpfoeaobdaeaaGreatDoorRa13
import Derived.Test.YtmjpfoeaobdaeaaGreatDoorRa25
set_option linter.unusedVariables false
set_option linter.unusedSimpArgs false
namespace Go.Proofs.YtmjpfoeaobdaeaaGreatDoor
open Go.RowKit

theorem rdv_pieces {w : World} {O : Nat → Prop} {g N n : Nat} {e : TypeId} {fr : Nat × Nat} {l : List ByteArray} (h : w.heap[g]? = some (.cells (Lib.cellsOf l N) e fr)) (hg : ¬ O g) (hn : n = l.length) (hN : l.length ≤ N) (hm : N ≤ maxLen) (hs : ∀ x ∈ l, x.size ≤ maxLen) :
    Rdv w O (.slice (some ⟨g, 0, none⟩) n N) l := by
  subst hn
  refine ⟨some ⟨g, 0, none⟩, N, rfl, hN, hm, ?_⟩
  intro i x hx
  refine ⟨g, 0, [.string x], rfl, hg, ?_, rfl, hs x (List.mem_of_getElem? hx)⟩
  intro j u hj
  match j, hj with
  | 0, hj =>
    simp only [List.getElem?_cons_zero, Option.some.injEq] at hj
    subst hj
    have hi := (List.getElem?_eq_some_iff.1 hx).1
    simp only [World.cell?, h, Lib.cellsOf]
    show _ = _
    rw [show 0 + i * Dat.n ByteArray + 0 = i by show 0 + i * 1 + 0 = i; omega]
    simp only [List.getElem?_toArray]
    rw [List.getElem?_append_left (by simpa using hi), List.getElem?_map, hx]; rfl
theorem split3_len (s : List UInt8) : ∀ x ∈ split3 s, x.length ≤ s.length := by
  rcases split3_cases s with ⟨h, _⟩ | ⟨a, b, q, _, _, h, hs, _, _⟩
  · rw [h]; exact parts_mem 32 s
  · rw [h, hs]
    intro x hx
    simp only [List.mem_cons, List.not_mem_nil, or_false] at hx
    simp only [List.length_append, List.length_cons]
    rcases hx with rfl | rfl | rfl <;> omega
theorem split3_le (s : List UInt8) : (split3 s).length ≤ 3 ∧ (split3 s).length ≤ s.length + 1 := by
  rcases split3_cases s with ⟨h, h3⟩ | ⟨a, b, q, _, _, h, hs, _, _⟩
  · rw [h]
    refine ⟨by omega, ?_⟩
    have := parts_count 32 s
    omega
  · rw [h, hs]
    simp
    omega
set_option maxHeartbeats 4000000 in
set_option maxRecDepth 100000 in
theorem line_old (b : Nat) (O : Nat → Prop) (m : Ses) (S : ByteArray) (w : World) (vo vn : Value) (mx : Int) (h : ActIn b O m w vo vn mx) (hS : S.size ≤ 100000000) {B Q : List UInt8} (hb : split3 S.data.toList = [oldW, B, Q]) (hL : lineS m S.data.toList = (⟨moreT m.old (toB B) (toB Q), m.new⟩, toldS okW (moreFault m.old (toB B) (toB Q)))) :
    Calls Tryz.prog 12 #[.pointer (some ⟨b, 0, none⟩), .string S] w (LinePost b O m S.data.toList w) := by
  have hmf : ∀ (fn : Fn) (first cap : Array Value) (w : World), (Instr.makeFunc fn first cap).run Tryz.prog w = .ok (.func fn first cap) w := fun _ _ _ _ => rfl
  have hlt := h.box.lt
  have hSS : S.size < 4294967281 := by omega
  obtain ⟨w1, hW1⟩ : ∃ W, w.alloc (.cells #[.string ⟨#[]⟩] 9) = W := ⟨_, rfl⟩
  have hnw := heap_alloc_new w (.cells #[.string ⟨#[]⟩] 9)
  rw [hW1] at hnw
  have hc1 : Chg Never w w1 := by rw [← hW1]; exact (Chg.refl Never w).alloc _
  have hs1 : w1.heap.size = w.heap.size + 1 := by rw [← hW1, World.size_alloc]
  go_enter_defers Tryz.func12, Tryz.ntmps12
  refine Code.wp_mono (Q := noPanic (bodyPostD Tryz.prog Tryz.f12 (LinePost b O m S.data.toList w))) noPanic_le ?_
  go_wp2_with fail
  refine (Tryz.strings_SplitN S ⟨#[32]⟩ 3 mx _ hSS (hc1.cellNever h.gl.ml) (by decide) (by decide) (by decide)).mono ?_
  rintro e w2 ⟨rfl, hW2⟩
  rw [pieces3_eq] at hW2 ⊢
  have hn2 := heap_alloc_new w1 (.cells (Lib.cellsOf ((split3 S.data.toList).map toB) (min 3 (S.size + 1))) 9)
  rw [← hW2] at hn2
  have hc2 : Chg Never w1 w2 := by rw [hW2]; exact (Chg.refl Never w1).alloc _
  have hs2 : w2.heap.size = w1.heap.size + 1 := by rw [hW2, World.size_alloc]
  have hR3 : Rdv w2 Never (.slice (some ⟨w1.heap.size, 0, none⟩) ((split3 S.data.toList).map toB).length (min 3 (S.size + 1))) ((split3 S.data.toList).map toB) :=
    rdv_pieces hn2 (fun x => x) rfl (by have := split3_le S.data.toList; have := Lib.size_eq S; rw [List.length_map]; omega) (by unfold maxLen; omega) (fun x hx => by
      obtain ⟨y, hy, rfl⟩ := List.mem_map.1 hx
      have := split3_len S.data.toList y hy
      have := Lib.size_eq S
      rw [toB_sz]; unfold maxLen; omega)
  have hw2 := hc1.trans hc2
  have hO' : ActIn b (fun k => O k ∨ k = w.heap.size) m w2 vo vn mx := h.later hw2 (fun k hk hh => hh.elim (fun q => q) (fun q => by omega)) (fun k hk => hk.elim (fun q => by have := h.lt k q; omega) (fun q => by omega)) (.inl h.ob)
  have hcB : w2.cell? ⟨w.heap.size, 0, none⟩ = some (.string ⟨#[]⟩) := hc2.cellNever (by simp only [World.cell?, hnw]; rfl)
  have hfB : w2.frozen? ⟨w.heap.size, 0, none⟩ = false := (hc2.frozen (p := ⟨w.heap.size, 0, none⟩) (by show w.heap.size < _; omega) (fun x => x)).trans (by simp only [World.frozen?, hnw]; rfl)
  clear hW1 hW2 hnw hn2
  have HL := Lib.hid hL
  have hz := Lib.size_eq S
  have hN3 : 3 ≤ min 3 (S.size + 1) := by have := split3_le S.data.toList; rw [hb] at this; have := this.2; simp only [List.length_cons, List.length_nil] at this; omega
  rw [hb] at hR3 ⊢
  clear hb hL
  obtain ⟨_, _, hav, _, _, h3⟩ := rdv_slice hR3
  simp only [Value.slice.injEq, true_and] at hav
  obtain ⟨rfl, rfl⟩ := hav
  obtain ⟨wb, woff, hwe, _, _, k0, _⟩ := elems_str h3 (i := 0) rfl
  injection hwe with hwe
  injection hwe with e1 e2 _
  subst e1 e2
  obtain ⟨wb, woff, hwe, _, _, k1, hp1⟩ := elems_str h3 (i := 1) rfl
  injection hwe with hwe
  injection hwe with e1 e2 _
  subst e1 e2
  obtain ⟨wb, woff, hwe, _, _, k2, hp2⟩ := elems_str h3 (i := 2) rfl
  injection hwe with hwe
  injection hwe with e1 e2 _
  subst e1 e2
  clear h3 hR3
  simp only [List.map_cons, List.map_nil, List.length_cons, List.length_nil, Nat.zero_add, Nat.add_zero, Nat.reduceAdd] at k0 k1 k2 ⊢
  have tO : ((toB oldW).toList == [111, 108, 100]) = true := by rw [wtest]; decide
  have tN : ((toB oldW).toList == [110, 101, 119]) = false := by rw [wtest]; decide
  generalize toB oldW = X at k0 tO tN
  have hbx := hO'.box
  obtain ⟨c0, c1⟩ := hbx.cell
  have hold : Rdv w2 Never vo m.old := hO'.old.sub (fun _ _ h => h.elim)
  obtain ⟨oa, oc, rfl, _, _, _⟩ := rdv_slice hold
  generalize min 3 (S.size + 1) = N at hN3 ⊢
  clear hz
  have hg1 : w.heap.size < w1.heap.size := by omega
  have hg2 : w1.heap.size < w2.heap.size := by omega
  clear hs1 hs2
  generalize w1.heap.size = G1 at k0 k1 k2 hg1 hg2 ⊢
  go_wp2_with fail
  refine wp_region_held_drew (S := fun w' => w'.cell? ⟨G1, 1, none⟩ = some (.string (toB B)) ∧ w'.cell? ⟨G1, 2, none⟩ = some (.string (toB Q))) (by kernel_rfl) ⟨k1, k2⟩ (fun hH => ?_)
  refine' tk 0 ?_
  refine' tk 1 ?_
  refine' tk 2 ?_
  refine' tk 3 ?_
  refine' tk 4 ?_
  refine' tk 5 ?_
  refine' tk 6 ?_
  refine' tk 7 ?_
  refine' tk 8 ?_
  refine' tk 9 ?_
  have hcd : Chg Never w2 w2.drew := (Chg.refl Never w2).drew
  have hO2 := hO'.later (O' := fun k => O k ∨ k = w.heap.size) hcd (fun k _ hk => hk) (fun k hk => hO'.lt k hk) hO'.ob
  have hmr := rmore_any b 0 m.old (toB B) (toB Q) _ w2.drew h.ok.1 (hcd.cellNever c0) (hO2.box.free 0) h.b9 (hold.never hcd) hp1 hp2 mx hO2.gl.ml hO2.er
  refine wpAnyH_ready (rs := [10]) (by kernel_rfl) (by simp) ?_
  refine AllReadyH.cons rfl (fun K hK => ?_) AllReadyH.nil
  go_simp
  go_at_call 20
  refine hmr.mono ?_
  intro e w3 hmp
  obtain ⟨hc3, hs3, rfl⟩ := more_ses0 hO2 hmp
  clear hmp hmr
  have k1b := hc3.cell (p := ⟨G1, 1, none⟩) k1 (by show ¬ G1 = b; omega)
  have k2b := hc3.cell (p := ⟨G1, 2, none⟩) k2 (by show ¬ G1 = b; omega)
  try go_wp2_with fail
  refine hK.out _ _ ⟨k1b, k2b⟩ (fun hH2 => ?_)
  clear hK K hH
  try simp only [Act.put, List.setIfInBounds_toArray, List.set_cons_zero, List.set_cons_succ]
  have hcB3 : w3.cell? ⟨w.heap.size, 0, none⟩ = some (.string ⟨#[]⟩) := hc3.cell (p := ⟨w.heap.size, 0, none⟩) hcB (by show ¬ w.heap.size = b; omega)
  have hfB3 : w3.frozen? ⟨w.heap.size, 0, none⟩ = false := (hc3.frozen (p := ⟨w.heap.size, 0, none⟩) (by show w.heap.size < w2.heap.size; omega) (by show ¬ w.heap.size = b; omega)).trans hfB
  refine wpAnyH_ready (rs := [11]) (by kernel_rfl) (by simp) ?_
  refine AllReadyH.cons rfl (fun K hK => ?_) AllReadyH.nil
  go_simp
  have hcs : Chg (fun k => k = w.heap.size) w3 (w3.setCell ⟨w.heap.size, 0, none⟩ (.string (toB (toldS okW (moreFault m.old (toB B) (toB Q)))))) := Chg.setCell (O := fun k => k = w.heap.size) (Chg.refl _ w3) (p := ⟨w.heap.size, 0, none⟩) (.inr rfl) _
  refine hK.out _ _ ⟨hcs.cell (p := ⟨G1, 1, none⟩) k1b (by show ¬ G1 = w.heap.size; omega), hcs.cell (p := ⟨G1, 2, none⟩) k2b (by show ¬ G1 = w.heap.size; omega)⟩ (fun hH => ?_)
  clear hK K hH2
  refine wpAnyH_done (by kernel_rfl) ?_ _
  go_wp2_with fail
  obtain ⟨hcE, hsE⟩ := line_end (O := O) (.string (toB (toldS okW (moreFault m.old (toB B) (toB Q))))) (.cells #[] 51) hlt (hw2.trans hcd) hc3 hs3
  have hcl0 := World.cell?_setCell_same' w3 ⟨w.heap.size, 0, none⟩ (.string (toB (toldS okW (moreFault m.old (toB B) (toB Q))))) (by rw [hcB3]; rfl)
  have hcl := ((Chg.refl Never (w3.setCell ⟨w.heap.size, 0, none⟩ (.string (toB (toldS okW (moreFault m.old (toB B) (toB Q))))))).alloc (.cells #[] 51)).cellNever hcl0
  show Leaves _ _ _ _ _ _ _
  refine leaves_cons (f := 18) (args := #[.pointer (some ⟨w.heap.size, 0, none⟩)]) (by simp) (by simp [go_sem]) ?_
  refine (catch_idle ⟨w.heap.size, 0, none⟩ _).mono ?_
  rintro e u' w'' ⟨rfl, rfl, rfl⟩
  generalize (w3.setCell ⟨w.heap.size, 0, none⟩ (.string (toB (toldS okW (moreFault m.old (toB B) (toB Q)))))).alloc (.cells #[] 51) = WE at hcE hsE hcl ⊢
  simp [Leaves, settle, results, Tryz.results12, go_sem, hcl]
  unfold LinePost
  rw [HL.out]
  exact ⟨hcE, hsE, rfl⟩
set_option maxHeartbeats 4000000 in
set_option maxRecDepth 100000 in
theorem line_new (b : Nat) (O : Nat → Prop) (m : Ses) (S : ByteArray) (w : World) (vo vn : Value) (mx : Int) (h : ActIn b O m w vo vn mx) (hS : S.size ≤ 100000000) {B Q : List UInt8} (hb : split3 S.data.toList = [newW, B, Q]) (hL : lineS m S.data.toList = (⟨m.old, moreT m.new (toB B) (toB Q)⟩, toldS okW (moreFault m.new (toB B) (toB Q)))) :
    Calls Tryz.prog 12 #[.pointer (some ⟨b, 0, none⟩), .string S] w (LinePost b O m S.data.toList w) := by
  have hmf : ∀ (fn : Fn) (first cap : Array Value) (w : World), (Instr.makeFunc fn first cap).run Tryz.prog w = .ok (.func fn first cap) w := fun _ _ _ _ => rfl
  have hlt := h.box.lt
  have hSS : S.size < 4294967281 := by omega
  obtain ⟨w1, hW1⟩ : ∃ W, w.alloc (.cells #[.string ⟨#[]⟩] 9) = W := ⟨_, rfl⟩
  have hnw := heap_alloc_new w (.cells #[.string ⟨#[]⟩] 9)
  rw [hW1] at hnw
  have hc1 : Chg Never w w1 := by rw [← hW1]; exact (Chg.refl Never w).alloc _
  have hs1 : w1.heap.size = w.heap.size + 1 := by rw [← hW1, World.size_alloc]
  go_enter_defers Tryz.func12, Tryz.ntmps12
  refine Code.wp_mono (Q := noPanic (bodyPostD Tryz.prog Tryz.f12 (LinePost b O m S.data.toList w))) noPanic_le ?_
  go_wp2_with fail
  refine (Tryz.strings_SplitN S ⟨#[32]⟩ 3 mx _ hSS (hc1.cellNever h.gl.ml) (by decide) (by decide) (by decide)).mono ?_
  rintro e w2 ⟨rfl, hW2⟩
  rw [pieces3_eq] at hW2 ⊢
  have hn2 := heap_alloc_new w1 (.cells (Lib.cellsOf ((split3 S.data.toList).map toB) (min 3 (S.size + 1))) 9)
  rw [← hW2] at hn2
  have hc2 : Chg Never w1 w2 := by rw [hW2]; exact (Chg.refl Never w1).alloc _
  have hs2 : w2.heap.size = w1.heap.size + 1 := by rw [hW2, World.size_alloc]
  have hR3 : Rdv w2 Never (.slice (some ⟨w1.heap.size, 0, none⟩) ((split3 S.data.toList).map toB).length (min 3 (S.size + 1))) ((split3 S.data.toList).map toB) :=
    rdv_pieces hn2 (fun x => x) rfl (by have := split3_le S.data.toList; have := Lib.size_eq S; rw [List.length_map]; omega) (by unfold maxLen; omega) (fun x hx => by
      obtain ⟨y, hy, rfl⟩ := List.mem_map.1 hx
      have := split3_len S.data.toList y hy
      have := Lib.size_eq S
      rw [toB_sz]; unfold maxLen; omega)
  have hw2 := hc1.trans hc2
  have hO' : ActIn b (fun k => O k ∨ k = w.heap.size) m w2 vo vn mx := h.later hw2 (fun k hk hh => hh.elim (fun q => q) (fun q => by omega)) (fun k hk => hk.elim (fun q => by have := h.lt k q; omega) (fun q => by omega)) (.inl h.ob)
  have hcB : w2.cell? ⟨w.heap.size, 0, none⟩ = some (.string ⟨#[]⟩) := hc2.cellNever (by simp only [World.cell?, hnw]; rfl)
  have hfB : w2.frozen? ⟨w.heap.size, 0, none⟩ = false := (hc2.frozen (p := ⟨w.heap.size, 0, none⟩) (by show w.heap.size < _; omega) (fun x => x)).trans (by simp only [World.frozen?, hnw]; rfl)
  clear hW1 hW2 hnw hn2
  have HL := Lib.hid hL
  have hz := Lib.size_eq S
  have hN3 : 3 ≤ min 3 (S.size + 1) := by have := split3_le S.data.toList; rw [hb] at this; have := this.2; simp only [List.length_cons, List.length_nil] at this; omega
  rw [hb] at hR3 ⊢
  clear hb hL
  obtain ⟨_, _, hav, _, _, h3⟩ := rdv_slice hR3
  simp only [Value.slice.injEq, true_and] at hav
  obtain ⟨rfl, rfl⟩ := hav
  obtain ⟨wb, woff, hwe, _, _, k0, _⟩ := elems_str h3 (i := 0) rfl
  injection hwe with hwe
  injection hwe with e1 e2 _
  subst e1 e2
  obtain ⟨wb, woff, hwe, _, _, k1, hp1⟩ := elems_str h3 (i := 1) rfl
  injection hwe with hwe
  injection hwe with e1 e2 _
  subst e1 e2
  obtain ⟨wb, woff, hwe, _, _, k2, hp2⟩ := elems_str h3 (i := 2) rfl
  injection hwe with hwe
  injection hwe with e1 e2 _
  subst e1 e2
  clear h3 hR3
  simp only [List.map_cons, List.map_nil, List.length_cons, List.length_nil, Nat.zero_add, Nat.add_zero, Nat.reduceAdd] at k0 k1 k2 ⊢
  have tO : ((toB newW).toList == [111, 108, 100]) = false := by rw [wtest]; decide
  have tN : ((toB newW).toList == [110, 101, 119]) = true := by rw [wtest]; decide
  generalize toB newW = X at k0 tO tN
  have hbx := hO'.box
  obtain ⟨c0, c1⟩ := hbx.cell
  have hold : Rdv w2 Never vn m.new := hO'.new.sub (fun _ _ h => h.elim)
  obtain ⟨oa, oc, rfl, _, _, _⟩ := rdv_slice hold
  generalize min 3 (S.size + 1) = N at hN3 ⊢
  clear hz
  have hg1 : w.heap.size < w1.heap.size := by omega
  have hg2 : w1.heap.size < w2.heap.size := by omega
  clear hs1 hs2
  generalize w1.heap.size = G1 at k0 k1 k2 hg1 hg2 ⊢
  go_wp2_with fail
  refine wp_region_held_drew (S := fun w' => w'.cell? ⟨G1, 1, none⟩ = some (.string (toB B)) ∧ w'.cell? ⟨G1, 2, none⟩ = some (.string (toB Q))) (by kernel_rfl) ⟨k1, k2⟩ (fun hH => ?_)
  refine' tk 0 ?_
  refine' tk 1 ?_
  refine' tk 2 ?_
  refine' tk 3 ?_
  refine' tk 4 ?_
  refine' tk 5 ?_
  refine' tk 6 ?_
  refine' tk 7 ?_
  refine' tk 8 ?_
  refine' tk 9 ?_
  have hcd : Chg Never w2 w2.drew := (Chg.refl Never w2).drew
  have hO2 := hO'.later (O' := fun k => O k ∨ k = w.heap.size) hcd (fun k _ hk => hk) (fun k hk => hO'.lt k hk) hO'.ob
  have hmr := rmore_any b 1 m.new (toB B) (toB Q) _ w2.drew h.ok.2 (hcd.cellNever c1) (hO2.box.free 1) h.b9 (hold.never hcd) hp1 hp2 mx hO2.gl.ml hO2.er
  refine wpAnyH_ready (rs := [10]) (by kernel_rfl) (by simp) ?_
  refine AllReadyH.cons rfl (fun K hK => ?_) AllReadyH.nil
  go_simp
  go_at_call 20
  refine hmr.mono ?_
  intro e w3 hmp
  obtain ⟨hc3, hs3, rfl⟩ := more_ses1 hO2 hmp
  clear hmp hmr
  have k1b := hc3.cell (p := ⟨G1, 1, none⟩) k1 (by show ¬ G1 = b; omega)
  have k2b := hc3.cell (p := ⟨G1, 2, none⟩) k2 (by show ¬ G1 = b; omega)
  try go_wp2_with fail
  refine hK.out _ _ ⟨k1b, k2b⟩ (fun hH2 => ?_)
  clear hK K hH
  try simp only [Act.put, List.setIfInBounds_toArray, List.set_cons_zero, List.set_cons_succ]
  have hcB3 : w3.cell? ⟨w.heap.size, 0, none⟩ = some (.string ⟨#[]⟩) := hc3.cell (p := ⟨w.heap.size, 0, none⟩) hcB (by show ¬ w.heap.size = b; omega)
  have hfB3 : w3.frozen? ⟨w.heap.size, 0, none⟩ = false := (hc3.frozen (p := ⟨w.heap.size, 0, none⟩) (by show w.heap.size < w2.heap.size; omega) (by show ¬ w.heap.size = b; omega)).trans hfB
  refine wpAnyH_ready (rs := [11]) (by kernel_rfl) (by simp) ?_
  refine AllReadyH.cons rfl (fun K hK => ?_) AllReadyH.nil
  go_simp
  have hcs : Chg (fun k => k = w.heap.size) w3 (w3.setCell ⟨w.heap.size, 0, none⟩ (.string (toB (toldS okW (moreFault m.new (toB B) (toB Q)))))) := Chg.setCell (O := fun k => k = w.heap.size) (Chg.refl _ w3) (p := ⟨w.heap.size, 0, none⟩) (.inr rfl) _
  refine hK.out _ _ ⟨hcs.cell (p := ⟨G1, 1, none⟩) k1b (by show ¬ G1 = w.heap.size; omega), hcs.cell (p := ⟨G1, 2, none⟩) k2b (by show ¬ G1 = w.heap.size; omega)⟩ (fun hH => ?_)
  clear hK K hH2
  refine wpAnyH_done (by kernel_rfl) ?_ _
  go_wp2_with fail
  obtain ⟨hcE, hsE⟩ := line_end (O := O) (.string (toB (toldS okW (moreFault m.new (toB B) (toB Q))))) (.cells #[] 51) hlt (hw2.trans hcd) hc3 hs3
  have hcl0 := World.cell?_setCell_same' w3 ⟨w.heap.size, 0, none⟩ (.string (toB (toldS okW (moreFault m.new (toB B) (toB Q))))) (by rw [hcB3]; rfl)
  have hcl := ((Chg.refl Never (w3.setCell ⟨w.heap.size, 0, none⟩ (.string (toB (toldS okW (moreFault m.new (toB B) (toB Q))))))).alloc (.cells #[] 51)).cellNever hcl0
  show Leaves _ _ _ _ _ _ _
  refine leaves_cons (f := 18) (args := #[.pointer (some ⟨w.heap.size, 0, none⟩)]) (by simp) (by simp [go_sem]) ?_
  refine (catch_idle ⟨w.heap.size, 0, none⟩ _).mono ?_
  rintro e u' w'' ⟨rfl, rfl, rfl⟩
  generalize (w3.setCell ⟨w.heap.size, 0, none⟩ (.string (toB (toldS okW (moreFault m.new (toB B) (toB Q)))))).alloc (.cells #[] 51) = WE at hcE hsE hcl ⊢
  simp [Leaves, settle, results, Tryz.results12, go_sem, hcl]
  unfold LinePost
  rw [HL.out]
  exact ⟨hcE, hsE, rfl⟩
theorem split_rows {w w' : World} {S : ByteArray} (hS : S.size ≤ 100000000) (hw' : w' = w.alloc (.cells ((Lib.splitB ⟨#[32]⟩ 0 (Lib.countB S ⟨#[32]⟩) S).map Value.string).toArray 9)) :
    Lib.countB S ⟨#[32]⟩ + 1 = ((parts 32 S.data.toList).map toB).length ∧ Rdv w' Never (.slice (some ⟨w.heap.size, 0, none⟩) ((parts 32 S.data.toList).map toB).length ((parts 32 S.data.toList).map toB).length) ((parts 32 S.data.toList).map toB) := by
  have e := splitB_parts 32 S
  have hl : Lib.countB S ⟨#[32]⟩ + 1 = ((parts 32 S.data.toList).map toB).length := by
    have := Lib.splitB_all ⟨#[32]⟩ (by decide) 0 _ S rfl
    rw [← this, e]
  refine ⟨hl, ?_⟩
  subst hw'
  rw [e]
  have hcnt := parts_count 32 S.data.toList
  have hz := Lib.size_eq S
  exact rdv_strs (heap_alloc_new _ _) (fun x => x) rfl (by rw [List.length_map]; unfold maxLen; omega) (fun x hx => by
    obtain ⟨y, hy, rfl⟩ := List.mem_map.1 hx
    have := parts_mem 32 S.data.toList y hy
    rw [Lib.size_eq, toB_data]; unfold maxLen; omega)
set_option maxHeartbeats 4000000 in
set_option maxRecDepth 100000 in
theorem line_few (b : Nat) (O : Nat → Prop) (m : Ses) (S : ByteArray) (w : World) (vo vn : Value) (mx : Int) (h : ActIn b O m w vo vn mx) (hS : S.size ≤ 100000000) (hb : split3 S.data.toList = parts 32 S.data.toList) (h3 : (parts 32 S.data.toList).length < 3) :
    Calls Tryz.prog 12 #[.pointer (some ⟨b, 0, none⟩), .string S] w (LinePost b O m S.data.toList w) := by
  have hno : ∀ a q, parts 32 S.data.toList = a :: q → ¬ (3 ≤ (a :: q).length ∧ (a = oldW ∨ a = newW)) := fun a q e => by rw [e] at h3; omega
  have hmf : ∀ (fn : Fn) (first cap : Array Value) (w : World), (Instr.makeFunc fn first cap).run Tryz.prog w = .ok (.func fn first cap) w := fun _ _ _ _ => rfl
  have hlt := h.box.lt
  have hSS : S.size < 4294967281 := by omega
  obtain ⟨w1, hW1⟩ : ∃ W, w.alloc (.cells #[.string ⟨#[]⟩] 9) = W := ⟨_, rfl⟩
  have hnw := heap_alloc_new w (.cells #[.string ⟨#[]⟩] 9)
  rw [hW1] at hnw
  have hc1 : Chg Never w w1 := by rw [← hW1]; exact (Chg.refl Never w).alloc _
  have hs1 : w1.heap.size = w.heap.size + 1 := by rw [← hW1, World.size_alloc]
  go_enter_defers Tryz.func12, Tryz.ntmps12
  skip
  go_wp2_with fail
  refine (Tryz.strings_SplitN S ⟨#[32]⟩ 3 mx _ hSS (hc1.cellNever h.gl.ml) (by decide) (by decide) (by decide)).mono ?_
  rintro e w2 ⟨rfl, hW2⟩
  rw [pieces3_eq] at hW2 ⊢
  have hn2 := heap_alloc_new w1 (.cells (Lib.cellsOf ((split3 S.data.toList).map toB) (min 3 (S.size + 1))) 9)
  rw [← hW2] at hn2
  have hc2 : Chg Never w1 w2 := by rw [hW2]; exact (Chg.refl Never w1).alloc _
  have hs2 : w2.heap.size = w1.heap.size + 1 := by rw [hW2, World.size_alloc]
  have hR3 : Rdv w2 Never (.slice (some ⟨w1.heap.size, 0, none⟩) ((split3 S.data.toList).map toB).length (min 3 (S.size + 1))) ((split3 S.data.toList).map toB) :=
    rdv_pieces hn2 (fun x => x) rfl (by have := split3_le S.data.toList; have := Lib.size_eq S; rw [List.length_map]; omega) (by unfold maxLen; omega) (fun x hx => by
      obtain ⟨y, hy, rfl⟩ := List.mem_map.1 hx
      have := split3_len S.data.toList y hy
      have := Lib.size_eq S
      rw [toB_sz]; unfold maxLen; omega)
  have hw2 := hc1.trans hc2
  have hO' : ActIn b (fun k => O k ∨ k = w.heap.size) m w2 vo vn mx := h.later hw2 (fun k hk hh => hh.elim (fun q => q) (fun q => by omega)) (fun k hk => hk.elim (fun q => by have := h.lt k q; omega) (fun q => by omega)) (.inl h.ob)
  have hcB : w2.cell? ⟨w.heap.size, 0, none⟩ = some (.string ⟨#[]⟩) := hc2.cellNever (by simp only [World.cell?, hnw]; rfl)
  have hfB : w2.frozen? ⟨w.heap.size, 0, none⟩ = false := (hc2.frozen (p := ⟨w.heap.size, 0, none⟩) (by show w.heap.size < _; omega) (fun x => x)).trans (by simp only [World.frozen?, hnw]; rfl)
  clear hW1 hW2 hnw hn2
  have t3 : ((((split3 S.data.toList).map toB).length : Int) == 3) = false := by
    rw [hb, List.length_map]
    exact beq_eq_false_iff_ne.2 (by omega)
  generalize ((split3 S.data.toList).map toB).length = n3 at t3 hR3 ⊢
  generalize min 3 (S.size + 1) = N at hR3 ⊢
  generalize hG1 : w1.heap.size = G1 at hs2 hR3 ⊢
  rw [hG1] at hs1
  clear hb h3 hG1
  go_wp2_with fail
  clear hR3
  refine (Tryz.strings_Split S ⟨#[32]⟩ mx _ hSS (hw2.cellNever h.gl.ml) (by decide)).mono ?_
  rintro e w3 ⟨rfl, hW3⟩
  obtain ⟨hl3, hR⟩ := split_rows hS hW3
  rw [hl3]
  have hc3 : Chg Never w2 w3 := by rw [hW3]; exact (Chg.refl Never w2).alloc _
  have hs3 : w3.heap.size = w2.heap.size + 1 := by rw [hW3, World.size_alloc]
  have hw3 := hw2.trans hc3
  have hp3 := parts_mem 32 S.data.toList
  clear hW3 hl3
  obtain ⟨a, q, hpq⟩ := List.exists_cons_of_ne_nil (parts_ne 32 S.data.toList)
  have HL : Hid (lineS m S.data.toList = lineW m S.data.toList (a :: q)) := by unfold Hid lineS; rw [hpq]
  have HNO : Hid (¬ (3 ≤ (a :: q).length ∧ (a = oldW ∨ a = newW))) := hno a q hpq
  rw [hpq] at hR hp3 ⊢
  have hal := hp3 a (List.mem_cons_self ..)
  have hz := Lib.size_eq S
  obtain ⟨_, _, hav, hq1, hq2, hel⟩ := rdv_slice hR
  simp only [Value.slice.injEq, true_and] at hav
  obtain ⟨rfl, rfl⟩ := hav
  obtain ⟨wb, woff, hwe, _, _, k0, _⟩ := elems_str hel (i := 0) rfl
  injection hwe with hwe
  injection hwe with e1 e2 _
  subst e1 e2
  obtain ⟨m1, m2, m3, m4, m5, m6, r1, r2, r3, r4, r5, r6, hcm, hlk⟩ := many_map w3
  have hw6 := hw3.trans hcm
  have hlka := hlk (toB a) (by rw [toB_sz]; unfold maxLen; omega)
  rw [toB_data] at hlka
  have k6 := hcm.cellNever k0
  have hR6 := hR.never hcm
  have hA6 : ActIn b (fun k => O k ∨ k = w.heap.size) m m6 vo vn mx := hO'.later (hc3.trans hcm) (fun k _ hk => hk) (fun k hk => Nat.lt_of_lt_of_le (hO'.lt k hk) (hc3.trans hcm).size) hO'.ob
  have hcB6 := (hc3.trans hcm).cellNever hcB
  have hfB6 := ((hc3.trans hcm).frozen (p := ⟨w.heap.size, 0, none⟩) (by show w.heap.size < w2.heap.size; omega) (fun x => x)).trans hfB
  have hll : (List.map toB (a :: q)).length = (a :: q).length := List.length_map ..
  have hmm := @run_makeMap Tryz.prog
  generalize (List.map toB (a :: q)).length = L at hR6 hq1 hq2 hll ⊢
  have hL0 : 0 < L := by rw [hll]; simp
  have HLL := Lib.hid hll
  have hsq : ∀ x ∈ q, x.length ≤ 1000000000 := fun x hx => by have := hp3 x (List.mem_cons_of_mem _ hx); omega
  clear hlk hel hR hpq hll hp3 hal hz hno k0 hs3
  simp only [Nat.zero_add, Nat.add_zero] at k6
  have hg2 : w.heap.size < w2.heap.size := by omega
  clear hs1 hs2
  generalize w2.heap.size = G2 at k6 hR6 hg2 ⊢
  by_cases hmany : manyW a = L
  · have HM := Lib.hid hmany
    have t9 : (((manyW a : Nat) : Int) != (L : Int)) = false := by rw [hmany]; simp
    clear hmany
    go_wp2_with fail
    refine (act_any b (fun k => O k ∨ k = w.heap.size) m S.data.toList a q _ m6 vo vn mx hA6 (by have := hR6; exact this) (by rw [HM.out, HLL.out]) hsq).mono ?_
    rintro e w4 ⟨bad, ⟨hc4, hs4, rfl⟩, hbad⟩
    have hcB4 := hc4.cell hcB6 (by show ¬ w.heap.size = b; omega)
    have hfB4 := (hc4.frozen (p := ⟨w.heap.size, 0, none⟩) (World.block_lt_of_cell? m6 _ hcB6) (by show ¬ w.heap.size = b; omega)).trans hfB6
    cases bad with
    | false =>
      simp only [Bool.false_eq_true, if_false]
      generalize lineW m S.data.toList (a :: q) = R at HL hs4
      go_wp2_with fail
      obtain ⟨hcE, hsE⟩ := line_end (O := O) (.string (toB R.2)) (.cells #[] 51) hlt hw6 hc4 hs4
      have hcl0 := World.cell?_setCell_same' w4 ⟨w.heap.size, 0, none⟩ (.string (toB (R.2))) (by rw [hcB4]; rfl)
      have hcl := ((Chg.refl Never (w4.setCell ⟨w.heap.size, 0, none⟩ (.string (toB (R.2))))).alloc (.cells #[] 51)).cellNever hcl0
      show Leaves _ _ _ _ _ _ _
      refine leaves_cons (f := 18) (args := #[.pointer (some ⟨w.heap.size, 0, none⟩)]) (by simp) (by simp [go_sem]) ?_
      refine (catch_idle ⟨w.heap.size, 0, none⟩ _).mono ?_
      rintro e u' w'' ⟨rfl, rfl, rfl⟩
      generalize (w4.setCell ⟨w.heap.size, 0, none⟩ (.string (toB (R.2)))).alloc (.cells #[] 51) = WE at hcE hsE hcl ⊢
      simp [Leaves, settle, results, Tryz.results12, go_sem, hcl]
      unfold LinePost
      rw [HL.out]
      exact ⟨hcE, hsE, rfl⟩
    | true =>
      simp only [if_true]
      have HBB := Lib.hid (hbad rfl)
      go_wp2_with fail
      obtain ⟨hcE, hsE⟩ := line_end2 (O := O) (.string (toB badL)) (.cells #[] 51) hlt hw6 hc4 hs4
      have hcA := ((Chg.refl Never w4).alloc (.cells #[] 51)).cellNever hcB4
      have hcl := World.cell?_setCell_same' (w4.alloc (.cells #[] 51)) ⟨w.heap.size, 0, none⟩ (.string (toB badL)) (by rw [hcA]; rfl)
      show Leaves _ _ _ _ _ _ _
      refine leaves_cons (f := 18) (args := #[.pointer (some ⟨w.heap.size, 0, none⟩)]) (by simp) (by simp [go_sem]) ?_
      refine (catch_panicking ⟨w.heap.size, 0, none⟩ _ [] _ hcB4 hfB4).mono ?_
      rintro e u' w'' ⟨rfl, rfl, rfl⟩
      generalize (w4.alloc (.cells #[] 51)).setCell ⟨w.heap.size, 0, none⟩ (.string (toB badL)) = WE at hcE hsE hcl ⊢
      simp [Leaves, settle, results, Tryz.results12, go_sem, hcl]
      unfold LinePost
      rw [HL.out]
      exact ⟨hcE, hsE, by rw [HBB.out]⟩
  · have HB : Hid (lineW m S.data.toList (a :: q) = (m, badL)) := lineW_bad HNO.out (by rw [← HLL.out]; exact hmany)
    have t9 : (((manyW a : Nat) : Int) != (L : Int)) = true := by
      simp only [bne_iff_ne, ne_eq]
      omega
    clear hmany
    go_wp2_with fail
    obtain ⟨hcE, hsE⟩ := line_end (O := O) (.string (toB badL)) (.cells #[] 51) hlt hw6 (Chg.refl (fun k => k = b) m6) ⟨_, _, hA6.box, hA6.old, hA6.new⟩
    rw [HB.out] at HL
    rw [show (⟨#[98, 97, 100, 10]⟩ : ByteArray) = toB badL from rfl]
    have hcl0 := World.cell?_setCell_same' m6 ⟨w.heap.size, 0, none⟩ (.string (toB (badL))) (by rw [hcB6]; rfl)
    have hcl := ((Chg.refl Never (m6.setCell ⟨w.heap.size, 0, none⟩ (.string (toB (badL))))).alloc (.cells #[] 51)).cellNever hcl0
    show Leaves _ _ _ _ _ _ _
    refine leaves_cons (f := 18) (args := #[.pointer (some ⟨w.heap.size, 0, none⟩)]) (by simp) (by simp [go_sem]) ?_
    refine (catch_idle ⟨w.heap.size, 0, none⟩ _).mono ?_
    rintro e u' w'' ⟨rfl, rfl, rfl⟩
    generalize (m6.setCell ⟨w.heap.size, 0, none⟩ (.string (toB (badL)))).alloc (.cells #[] 51) = WE at hcE hsE hcl ⊢
    simp [Leaves, settle, results, Tryz.results12, go_sem, hcl]
    unfold LinePost
    rw [HL.out]
    exact ⟨hcE, hsE, rfl⟩
set_option maxHeartbeats 4000000 in
set_option maxRecDepth 100000 in
theorem line_more (b : Nat) (O : Nat → Prop) (m : Ses) (S : ByteArray) (w : World) (vo vn : Value) (mx : Int) (h : ActIn b O m w vo vn mx) (hS : S.size ≤ 100000000) {A B Q : List UInt8} (hb : split3 S.data.toList = [A, B, Q]) (hA1 : A ≠ oldW) (hA2 : A ≠ newW) (hno : ∀ a q, parts 32 S.data.toList = a :: q → ¬ (3 ≤ (a :: q).length ∧ (a = oldW ∨ a = newW))) :
    Calls Tryz.prog 12 #[.pointer (some ⟨b, 0, none⟩), .string S] w (LinePost b O m S.data.toList w) := by
  have hmf : ∀ (fn : Fn) (first cap : Array Value) (w : World), (Instr.makeFunc fn first cap).run Tryz.prog w = .ok (.func fn first cap) w := fun _ _ _ _ => rfl
  have hlt := h.box.lt
  have hSS : S.size < 4294967281 := by omega
  obtain ⟨w1, hW1⟩ : ∃ W, w.alloc (.cells #[.string ⟨#[]⟩] 9) = W := ⟨_, rfl⟩
  have hnw := heap_alloc_new w (.cells #[.string ⟨#[]⟩] 9)
  rw [hW1] at hnw
  have hc1 : Chg Never w w1 := by rw [← hW1]; exact (Chg.refl Never w).alloc _
  have hs1 : w1.heap.size = w.heap.size + 1 := by rw [← hW1, World.size_alloc]
  go_enter_defers Tryz.func12, Tryz.ntmps12
  skip
  go_wp2_with fail
  refine (Tryz.strings_SplitN S ⟨#[32]⟩ 3 mx _ hSS (hc1.cellNever h.gl.ml) (by decide) (by decide) (by decide)).mono ?_
  rintro e w2 ⟨rfl, hW2⟩
  rw [pieces3_eq] at hW2 ⊢
  have hn2 := heap_alloc_new w1 (.cells (Lib.cellsOf ((split3 S.data.toList).map toB) (min 3 (S.size + 1))) 9)
  rw [← hW2] at hn2
  have hc2 : Chg Never w1 w2 := by rw [hW2]; exact (Chg.refl Never w1).alloc _
  have hs2 : w2.heap.size = w1.heap.size + 1 := by rw [hW2, World.size_alloc]
  have hR3 : Rdv w2 Never (.slice (some ⟨w1.heap.size, 0, none⟩) ((split3 S.data.toList).map toB).length (min 3 (S.size + 1))) ((split3 S.data.toList).map toB) :=
    rdv_pieces hn2 (fun x => x) rfl (by have := split3_le S.data.toList; have := Lib.size_eq S; rw [List.length_map]; omega) (by unfold maxLen; omega) (fun x hx => by
      obtain ⟨y, hy, rfl⟩ := List.mem_map.1 hx
      have := split3_len S.data.toList y hy
      have := Lib.size_eq S
      rw [toB_sz]; unfold maxLen; omega)
  have hw2 := hc1.trans hc2
  have hO' : ActIn b (fun k => O k ∨ k = w.heap.size) m w2 vo vn mx := h.later hw2 (fun k hk hh => hh.elim (fun q => q) (fun q => by omega)) (fun k hk => hk.elim (fun q => by have := h.lt k q; omega) (fun q => by omega)) (.inl h.ob)
  have hcB : w2.cell? ⟨w.heap.size, 0, none⟩ = some (.string ⟨#[]⟩) := hc2.cellNever (by simp only [World.cell?, hnw]; rfl)
  have hfB : w2.frozen? ⟨w.heap.size, 0, none⟩ = false := (hc2.frozen (p := ⟨w.heap.size, 0, none⟩) (by show w.heap.size < _; omega) (fun x => x)).trans (by simp only [World.frozen?, hnw]; rfl)
  clear hW1 hW2 hnw hn2
  have hN3 : 3 ≤ min 3 (S.size + 1) := by have := split3_le S.data.toList; rw [hb] at this; have := this.2; have := Lib.size_eq S; simp only [List.length_cons, List.length_nil] at *; omega
  rw [hb] at hR3 ⊢
  clear hb
  have hR30 := hR3
  obtain ⟨_, _, hav, _, _, h3⟩ := rdv_slice hR3
  simp only [Value.slice.injEq, true_and] at hav
  obtain ⟨rfl, rfl⟩ := hav
  obtain ⟨wb, woff, hwe, _, _, k0, _⟩ := elems_str h3 (i := 0) rfl
  injection hwe with hwe
  injection hwe with e1 e2 _
  subst e1 e2
  obtain ⟨wb, woff, hwe, _, _, k1, hp1⟩ := elems_str h3 (i := 1) rfl
  injection hwe with hwe
  injection hwe with e1 e2 _
  subst e1 e2
  obtain ⟨wb, woff, hwe, _, _, k2, hp2⟩ := elems_str h3 (i := 2) rfl
  injection hwe with hwe
  injection hwe with e1 e2 _
  subst e1 e2
  clear h3 hR3
  simp only [List.map_cons, List.map_nil, List.length_cons, List.length_nil, Nat.zero_add, Nat.add_zero, Nat.reduceAdd] at k0 k1 k2 ⊢
  have hR3 := hR30
  have tO : ((toB A).toList == [111, 108, 100]) = false := by rw [wtest]; exact decide_eq_false hA1
  have tN : ((toB A).toList == [110, 101, 119]) = false := by rw [wtest]; exact decide_eq_false hA2
  generalize toB A = X at k0 tO tN
  generalize min 3 (S.size + 1) = N at hN3 hR3 ⊢
  have hg1 : w.heap.size < w1.heap.size := by omega
  generalize hG1 : w1.heap.size = G1 at k0 k1 k2 hs2 hR3 ⊢
  rw [hG1] at hs1
  clear hG1 hA1 hA2 hR30 hR3
  have hR3 : True := trivial
  have hss1 := Lib.hid hs1
  clear hs1
  go_wp2_with fail
  have hs1 := hss1.out
  clear hR3
  refine (Tryz.strings_Split S ⟨#[32]⟩ mx _ hSS (hw2.cellNever h.gl.ml) (by decide)).mono ?_
  rintro e w3 ⟨rfl, hW3⟩
  obtain ⟨hl3, hR⟩ := split_rows hS hW3
  rw [hl3]
  have hc3 : Chg Never w2 w3 := by rw [hW3]; exact (Chg.refl Never w2).alloc _
  have hs3 : w3.heap.size = w2.heap.size + 1 := by rw [hW3, World.size_alloc]
  have hw3 := hw2.trans hc3
  have hp3 := parts_mem 32 S.data.toList
  clear hW3 hl3
  obtain ⟨a, q, hpq⟩ := List.exists_cons_of_ne_nil (parts_ne 32 S.data.toList)
  have HL : Hid (lineS m S.data.toList = lineW m S.data.toList (a :: q)) := by unfold Hid lineS; rw [hpq]
  have HNO : Hid (¬ (3 ≤ (a :: q).length ∧ (a = oldW ∨ a = newW))) := hno a q hpq
  rw [hpq] at hR hp3 ⊢
  have hal := hp3 a (List.mem_cons_self ..)
  have hz := Lib.size_eq S
  obtain ⟨_, _, hav, hq1, hq2, hel⟩ := rdv_slice hR
  simp only [Value.slice.injEq, true_and] at hav
  obtain ⟨rfl, rfl⟩ := hav
  obtain ⟨wb, woff, hwe, _, _, k0, _⟩ := elems_str hel (i := 0) rfl
  injection hwe with hwe
  injection hwe with e1 e2 _
  subst e1 e2
  obtain ⟨m1, m2, m3, m4, m5, m6, r1, r2, r3, r4, r5, r6, hcm, hlk⟩ := many_map w3
  have hw6 := hw3.trans hcm
  have hlka := hlk (toB a) (by rw [toB_sz]; unfold maxLen; omega)
  rw [toB_data] at hlka
  have k6 := hcm.cellNever k0
  have hR6 := hR.never hcm
  have hA6 : ActIn b (fun k => O k ∨ k = w.heap.size) m m6 vo vn mx := hO'.later (hc3.trans hcm) (fun k _ hk => hk) (fun k hk => Nat.lt_of_lt_of_le (hO'.lt k hk) (hc3.trans hcm).size) hO'.ob
  have hcB6 := (hc3.trans hcm).cellNever hcB
  have hfB6 := ((hc3.trans hcm).frozen (p := ⟨w.heap.size, 0, none⟩) (by show w.heap.size < w2.heap.size; omega) (fun x => x)).trans hfB
  have hll : (List.map toB (a :: q)).length = (a :: q).length := List.length_map ..
  have hmm := @run_makeMap Tryz.prog
  generalize (List.map toB (a :: q)).length = L at hR6 hq1 hq2 hll ⊢
  have hL0 : 0 < L := by rw [hll]; simp
  have HLL := Lib.hid hll
  have hsq : ∀ x ∈ q, x.length ≤ 1000000000 := fun x hx => by have := hp3 x (List.mem_cons_of_mem _ hx); omega
  clear hlk hel hR hpq hll hp3 hal hz hno k0 hs3
  simp only [Nat.zero_add, Nat.add_zero] at k6
  have hg2 : w.heap.size < w2.heap.size := by omega
  clear hs1 hs2
  generalize w2.heap.size = G2 at k6 hR6 hg2 ⊢
  by_cases hmany : manyW a = L
  · have HM := Lib.hid hmany
    have t9 : (((manyW a : Nat) : Int) != (L : Int)) = false := by rw [hmany]; simp
    clear hmany
    go_wp2_with fail
    refine (act_any b (fun k => O k ∨ k = w.heap.size) m S.data.toList a q _ m6 vo vn mx hA6 (by have := hR6; exact this) (by rw [HM.out, HLL.out]) hsq).mono ?_
    rintro e w4 ⟨bad, ⟨hc4, hs4, rfl⟩, hbad⟩
    have hcB4 := hc4.cell hcB6 (by show ¬ w.heap.size = b; omega)
    have hfB4 := (hc4.frozen (p := ⟨w.heap.size, 0, none⟩) (World.block_lt_of_cell? m6 _ hcB6) (by show ¬ w.heap.size = b; omega)).trans hfB6
    cases bad with
    | false =>
      simp only [Bool.false_eq_true, if_false]
      generalize lineW m S.data.toList (a :: q) = R at HL hs4
      go_wp2_with fail
      obtain ⟨hcE, hsE⟩ := line_end (O := O) (.string (toB R.2)) (.cells #[] 51) hlt hw6 hc4 hs4
      have hcl0 := World.cell?_setCell_same' w4 ⟨w.heap.size, 0, none⟩ (.string (toB (R.2))) (by rw [hcB4]; rfl)
      have hcl := ((Chg.refl Never (w4.setCell ⟨w.heap.size, 0, none⟩ (.string (toB (R.2))))).alloc (.cells #[] 51)).cellNever hcl0
      show Leaves _ _ _ _ _ _ _
      refine leaves_cons (f := 18) (args := #[.pointer (some ⟨w.heap.size, 0, none⟩)]) (by simp) (by simp [go_sem]) ?_
      refine (catch_idle ⟨w.heap.size, 0, none⟩ _).mono ?_
      rintro e u' w'' ⟨rfl, rfl, rfl⟩
      generalize (w4.setCell ⟨w.heap.size, 0, none⟩ (.string (toB (R.2)))).alloc (.cells #[] 51) = WE at hcE hsE hcl ⊢
      simp [Leaves, settle, results, Tryz.results12, go_sem, hcl]
      unfold LinePost
      rw [HL.out]
      exact ⟨hcE, hsE, rfl⟩
    | true =>
      simp only [if_true]
      have HBB := Lib.hid (hbad rfl)
      go_wp2_with fail
      obtain ⟨hcE, hsE⟩ := line_end2 (O := O) (.string (toB badL)) (.cells #[] 51) hlt hw6 hc4 hs4
      have hcA := ((Chg.refl Never w4).alloc (.cells #[] 51)).cellNever hcB4
      have hcl := World.cell?_setCell_same' (w4.alloc (.cells #[] 51)) ⟨w.heap.size, 0, none⟩ (.string (toB badL)) (by rw [hcA]; rfl)
      show Leaves _ _ _ _ _ _ _
      refine leaves_cons (f := 18) (args := #[.pointer (some ⟨w.heap.size, 0, none⟩)]) (by simp) (by simp [go_sem]) ?_
      refine (catch_panicking ⟨w.heap.size, 0, none⟩ _ [] _ hcB4 hfB4).mono ?_
      rintro e u' w'' ⟨rfl, rfl, rfl⟩
      generalize (w4.alloc (.cells #[] 51)).setCell ⟨w.heap.size, 0, none⟩ (.string (toB badL)) = WE at hcE hsE hcl ⊢
      simp [Leaves, settle, results, Tryz.results12, go_sem, hcl]
      unfold LinePost
      rw [HL.out]
      exact ⟨hcE, hsE, by rw [HBB.out]⟩
  · have HB : Hid (lineW m S.data.toList (a :: q) = (m, badL)) := lineW_bad HNO.out (by rw [← HLL.out]; exact hmany)
    have t9 : (((manyW a : Nat) : Int) != (L : Int)) = true := by
      simp only [bne_iff_ne, ne_eq]
      omega
    clear hmany
    go_wp2_with fail
    obtain ⟨hcE, hsE⟩ := line_end (O := O) (.string (toB badL)) (.cells #[] 51) hlt hw6 (Chg.refl (fun k => k = b) m6) ⟨_, _, hA6.box, hA6.old, hA6.new⟩
    rw [HB.out] at HL
    rw [show (⟨#[98, 97, 100, 10]⟩ : ByteArray) = toB badL from rfl]
    have hcl0 := World.cell?_setCell_same' m6 ⟨w.heap.size, 0, none⟩ (.string (toB (badL))) (by rw [hcB6]; rfl)
    have hcl := ((Chg.refl Never (m6.setCell ⟨w.heap.size, 0, none⟩ (.string (toB (badL))))).alloc (.cells #[] 51)).cellNever hcl0
    show Leaves _ _ _ _ _ _ _
    refine leaves_cons (f := 18) (args := #[.pointer (some ⟨w.heap.size, 0, none⟩)]) (by simp) (by simp [go_sem]) ?_
    refine (catch_idle ⟨w.heap.size, 0, none⟩ _).mono ?_
    rintro e u' w'' ⟨rfl, rfl, rfl⟩
    generalize (m6.setCell ⟨w.heap.size, 0, none⟩ (.string (toB (badL)))).alloc (.cells #[] 51) = WE at hcE hsE hcl ⊢
    simp [Leaves, settle, results, Tryz.results12, go_sem, hcl]
    unfold LinePost
    rw [HL.out]
    exact ⟨hcE, hsE, rfl⟩
theorem rline_any (b : Nat) (O : Nat → Prop) (m : Ses) (S : ByteArray) (w : World) (vo vn : Value) (mx : Int) (h : ActIn b O m w vo vn mx) (hS : S.size ≤ 100000000) :
    Calls Tryz.prog 12 #[.pointer (some ⟨b, 0, none⟩), .string S] w (LinePost b O m S.data.toList w) := by
  rcases split3_cases S.data.toList with ⟨h1, h2⟩ | ⟨A, B, Q, _, _, h1, h2, h3, h4⟩
  · exact line_few b O m S w vo vn mx h hS h1 h2
  · by_cases e1 : A = oldW
    · subst e1
      refine line_old b O m S w vo vn mx h hS h1 ?_
      unfold lineS
      rw [h3, lineW_old (parts_ne 32 Q)]
      rw [show 3 + B.length + 2 = oldW.length + B.length + 2 from rfl, h4]
    · by_cases e2 : A = newW
      · subst e2
        refine line_new b O m S w vo vn mx h hS h1 ?_
        unfold lineS
        rw [h3, lineW_new (parts_ne 32 Q)]
        rw [show 3 + B.length + 2 = newW.length + B.length + 2 from rfl, h4]
      · refine line_more b O m S w vo vn mx h hS h1 e1 e2 (fun a q e => ?_)
        rw [h3] at e
        injection e with e _
        subst e
        rintro ⟨_, x | x⟩
        · exact e1 x
        · exact e2 x
end Go.Proofs.YtmjpfoeaobdaeaaGreatDoor
namespace Go.Proofs.YtmjpfoeaobdaeaaGreatDoor
open Go.RowKit

def tooL : List UInt8 := [116, 111, 111, 32, 108, 111, 110, 103, 10]
def runA (s : List UInt8) : List UInt8 := if 3000 < s.length then tooL else runOut s
theorem linesR_step {r : List UInt8} (h : r ≠ []) : linesR r = cutA [10] r :: linesR (cutB [10] r) ∧ (cutB [10] r).length < r.length := by
  rcases cut10 r with g | ⟨a, q, rfl, g⟩
  · have e := csub_none g
    unfold cutA cutB
    rw [e]
    refine ⟨by rw [linesR_one g h, linesR_nil], ?_⟩
    exact List.length_pos_iff.2 h
  · have e := csub_at q g
    unfold cutA cutB
    rw [e]
    refine ⟨linesR_cut q g, ?_⟩
    simp only [List.length_append, List.length_cons]
    omega
theorem ses_keep {O O' O'' : Nat → Prop} {w w' : World} {b : Nat} {m : Ses} (h : SesAt O w b m) (hc : Chg O' w w') (h1 : ∀ k, k < w.heap.size → O' k → O k) (h2 : ∀ k, k < w.heap.size → O'' k → O k) (hb : ¬ O' b) : SesAt O'' w' b m := by
  obtain ⟨vo, vn, q1, q2, q3⟩ := h
  exact ⟨vo, vn, q1.keep hc hb, q2.keep hc h1 h2, q3.keep hc h1 h2⟩
def RunI (w0 : World) (bs bB : Nat) (m : Ses) (acc : List UInt8) (w : World) : Prop :=
  ∃ v, BldV bB v (Lib.byteCells acc) w ∧ SesAt (fun k => k = bs ∨ BldO bB v k) w bs m ∧ Chg Never w0 w ∧ (∀ k, v.ownBlock = some k → bB < k) ∧ w0.heap.size ≤ bs ∧ bs < bB ∧ SesOk m
theorem runI_line {w0 w w' : World} {bs bB : Nat} {m : Ses} {acc s : List UInt8} {v : Value} (hv : BldV bB v (Lib.byteCells acc) w) (h0 : Chg Never w0 w) (h1 : w0.heap.size ≤ bs) (h2 : bs < bB) (hk : ∀ k, v.ownBlock = some k → bB < k) (hc : Chg (fun k => k = bs) w w') : BldV bB v (Lib.byteCells acc) w' ∧ Chg Never w0 w' := by
  refine ⟨hv.keep hc (fun k e hh => ?_), h0.trans' hc (fun i hi e => absurd hi (by omega))⟩
  subst e
  rcases hh with hh | hh
  · omega
  · have := hk _ hh; omega
theorem runI_wrote {w0 w w' : World} {bs bB : Nat} {m : Ses} {acc t : List UInt8} {v v' : Value} (hs : SesAt (fun k => k = bs ∨ BldO bB v k) w bs m) (h0 : Chg Never w0 w) (h1 : w0.heap.size ≤ bs) (h2 : bs < bB) (hB : bB < w.heap.size) (hk : ∀ k, v.ownBlock = some k → bB < k) (hok : SesOk m)
    (g1 : BldV bB v' (Lib.byteCells acc ++ Lib.strCells (toB t)) w') (g2 : Chg (BldO bB v) w w') (g3 : ∀ k, v'.ownBlock = some k → v.ownBlock = some k ∨ w.heap.size ≤ k) : RunI w0 bs bB m (acc ++ t) w' := by
  refine ⟨v', ?_, ses_keep hs g2 (fun k _ hh => .inr hh) ?_ ?_, h0.trans' g2 ?_, ?_, h1, h2, hok⟩
  · have e : Lib.strCells (toB t) = Lib.byteCells t := by unfold Lib.strCells Lib.byteCells; rw [toB_data]
    rw [Lib.byteCells_append, ← e]; exact g1
  · rintro k hk2 (rfl | rfl | hh)
    · exact .inl rfl
    · exact .inr (.inl rfl)
    · rcases g3 k hh with q | q
      · exact .inr (.inr q)
      · omega
  · rintro (hh | hh)
    · omega
    · have := hk _ hh; omega
  · rintro i hi (hh | hh)
    · omega
    · have := hk i hh; omega
  · intro k hh
    rcases g3 k hh with q | q
    · exact hk k q
    · omega
set_option maxHeartbeats 4000000 in
set_option maxRecDepth 100000 in
theorem run_any (S : ByteArray) (hS : S.size ≤ 1000000000) (w : World) (mx : Int) (hg : Globs w mx) (hg9 : 9 ≤ w.heap.size) (he : w.cell? ⟨1, 0, none⟩ = some errT) :
    Calls Tryz.prog 6 #[.string S] w fun e w' => e = .returned (.string (toB (runA S.data.toList))) ∧ Chg Never w w' := by
  have hz := Lib.size_eq S
  by_cases h3 : 3000 < S.size
  · have HR : Hid (runA S.data.toList = tooL) := by unfold Hid runA; rw [if_pos (by omega)]
    have t0 : decide ((3000 : Int) < (S.size : Int)) = true := decide_eq_true (by omega)
    clear hz h3
    go_enter Tryz.func6, Tryz.ntmps6
    go_wp2_with fail
    go_ret
    exact ⟨by rw [HR.out]; rfl, Chg.refl _ _⟩
  · have HR : Hid (runA S.data.toList = runOut S.data.toList) := by unfold Hid runA; rw [if_neg (by omega)]
    have t0 : decide ((3000 : Int) < (S.size : Int)) = false := decide_eq_false (by omega)
    obtain ⟨s, hs⟩ : ∃ s, S.data.toList = s := ⟨_, rfl⟩
    have hSs : S = toB s := by rw [← hs, toB_of]
    rw [hs] at HR hz ⊢
    obtain ⟨wA, hA⟩ : ∃ W, w.alloc (.cells #[.slice none 0 0, .slice none 0 0] 33) = W := ⟨_, rfl⟩
    have hbx := Blk2.new w 33 (.slice none 0 0) (.slice none 0 0)
    rw [hA] at hbx
    have hcA : Chg Never w wA := by rw [← hA]; exact (Chg.refl Never w).alloc _
    have hsA : wA.heap.size = w.heap.size + 1 := by rw [← hA, World.size_alloc]
    obtain ⟨wB, hB⟩ : ∃ W, wA.alloc (.cells #[.pointer none, .slice none 0 0] 37) = W := ⟨_, rfl⟩
    have hbl := BldV.new wA
    rw [hB] at hbl
    have hcB : Chg Never wA wB := by rw [← hB]; exact (Chg.refl Never wA).alloc _
    have hI0 : RunI w w.heap.size wA.heap.size ⟨[], []⟩ [] wB :=
      ⟨_, hbl, ⟨_, _, hbx.keep hcB (fun x => x), rdv_nil _ _, rdv_nil _ _⟩, hcA.trans hcB, fun k hk => by simp [Value.ownBlock] at hk, Nat.le_refl _, by omega, empty_ok⟩
    rw [hsA] at hI0
    rw [hSs]
    rw [hSs] at t0
    clear hbx hbl hcA hcB h3 hS hSs hs
    go_enter Tryz.func6, Tryz.ntmps6
    go_wp2_with fail
    have hsl : s.length ≤ 3000 := by have : (toB s).size = s.length := toB_sz s; have := of_decide_eq_false t0; omega
    clear hsA hA hB hz
    have HW9 := Lib.hid hg9
    generalize hbs : w.heap.size = bs at hI0 ⊢
    rw [hbs] at hg9
    clear hbs
    go_loopw [0] (fun tv wr => ∃ (r acc : List UInt8) (m : Ses), tv = .string (toB r) ∧ r.length ≤ s.length ∧ RunI w bs (bs + 1) m acc wr ∧ acc.length ≤ 362900 * (s.length - r.length) ∧ Hid (acc ++ (runL m (linesR r)).2 = runOut s)) (fun tv _ => match tv with | .string x => x.size | _ => 0)
    case atStart => exact ⟨s, [], _, rfl, Nat.le_refl _, hI0, Nat.zero_le _, rfl⟩
    case round =>
      clear hI0
      obtain ⟨r, acc, m, rfl, hrl, hI, hal, hgo⟩ := hrel
      rename World => wr
      obtain ⟨v, hv, hses, hc0, hvk, hb1, hb2, hok⟩ := hI
      have hcap : 362900 * (s.length - r.length) ≤ 362900 * 3000 := Nat.mul_le_mul_left _ (by omega)
      by_cases hr : r = []
      · subst hr
        have t1 : (toB []).toList.isEmpty = true := by rw [Lib.toList_data, toB_data]; rfl
        have HRR : Hid (runA s = acc) := by
          have := hgo.out
          rw [linesR_nil, runL, List.append_nil] at this
          rw [Hid, HR.out, this]
        have hI0 := hv.isBB (base := w.heap.size) (fun k hk => hk.elim (fun q => by omega) (fun q => by have := hvk k q; omega))
        go_wp2_with fail
        refine (Tryz.Builder_String_any_k w.heap.size (bs + 1) acc wr hI0 hc0.size).mono ?_
        rintro e w4 ⟨rfl, _, hb4, _⟩
        go_wp2_with fail
        go_ret
        exact ⟨by rw [HRR.out]; rfl, Chg.of_below (hc0.never.trans hb4)⟩
      · have t1 : (toB r).toList.isEmpty = false := by
          rw [Lib.toList_data, toB_data]
          cases r with
          | nil => exact absurd rfl hr
          | cons _ _ => rfl
        obtain ⟨hst, hsh⟩ := linesR_step hr
        have hcl := cutA_len [10] r
        have hrz : (toB r).size = r.length := toB_sz r
        have HRZ := Lib.hid hrz
        have hrz9 : (toB r).size < 4294967281 := by omega
        clear hrz
        go_wp2_with fail
        refine (Tryz.strings_Cut (toB r) ⟨#[10]⟩ mx _ hrz9 (hc0.cellNever hg.ml)).mono ?_
        rintro e w2 ⟨rfl, n2, rfl⟩
        rw [toB_data, show (⟨#[10]⟩ : ByteArray).data.toList = [10] from rfl, lib_cut (by simp)]
        simp only
        rw [show (⟨(cutA [10] r).toArray⟩ : ByteArray) = toB (cutA [10] r) from rfl, show (⟨(cutB [10] r).toArray⟩ : ByteArray) = toB (cutB [10] r) from rfl]
        have HST := Lib.hid hst
        generalize cutA [10] r = hd at hcl HST ⊢
        generalize cutB [10] r = rest at hsh HST ⊢
        generalize (cutSub [10] r).isSome = isS
        have hcd : Chg Never wr (wr.drewN n2) := (Chg.refl Never wr).drewN n2
        have hw2 := hc0.trans hcd
        have hv2 := hv.keep hcd (fun _ h => h.elim)
        obtain ⟨vo, vn, q1, q2, q3⟩ := hses.never hcd
        have hAct : ActIn bs (fun k => k = bs ∨ BldO (bs + 1) v k) m (wr.drewN n2) vo vn mx :=
          ⟨q1, q2, q3, fun k hk => hk.elim (fun e => by rw [e]; exact q1.lt) (fun q => hv2.olt k q), .inl rfl, hok, hg9, hg.never hw2, hw2.cellNever he⟩
        have hline := rline_any bs (fun k => k = bs ∨ BldO (bs + 1) v k) m (toB hd) _ vo vn mx hAct (by rw [toB_sz]; omega)
        rw [toB_data] at hline
        have hll := lineS_len hok hd
        have hok2 := line_ok hok hd
        clear hst t1 hr hrz9
        go_wp2_with fail
        refine hline.mono ?_
        rintro e w3 ⟨hc3, hs3, rfl⟩
        have HGO : Hid ((acc ++ (lineS m hd).2) ++ (runL (lineS m hd).1 (linesR rest)).2 = runOut s) := by
          have := hgo.out
          rw [HST.out, runL] at this
          rw [Hid, List.append_assoc]; exact this
        generalize lineS m hd = R at hs3 hll hok2 HGO ⊢
        obtain ⟨hv3, hw3⟩ := runI_line (m := m) (s := []) hv2 hw2 hb1 hb2 hvk hc3
        go_wp2_with fail
        refine (bldv_string (bs + 1) v _ (toB R.2) _ hv3 (by rw [Lib.byteCells_length, toB_sz]; omega)).mono ?_
        rintro e w4 ⟨rfl, v', g1, g2, g3⟩
        have hI4 := runI_wrote hs3 hw3 hb1 hb2 hv3.lt hvk hok2 g1 g2 g3
        go_wp2_with fail
        go_roundw
        case rel =>
          refine ⟨rest, acc ++ R.2, R.1, rfl, by omega, hI4, ?_, HGO⟩
          rw [List.length_append]
          have : 362900 * (s.length - r.length) + 362900 ≤ 362900 * (s.length - rest.length) := by
            have : s.length - r.length + 1 ≤ s.length - rest.length := by omega
            have := Nat.mul_le_mul_left 362900 this
            omega
          omega
        case measure => show (toB rest).size < (toB r).size; rw [toB_sz, toB_sz]; exact hsh
end Go.Proofs.YtmjpfoeaobdaeaaGreatDoor
namespace Go.Proofs.YtmjpfoeaobdaeaaGreatDoor
open Go.RowKit

theorem lines_end {s : List UInt8} {k : Nat} (hk : k + 1 = (parts 10 s).length) (hx : (parts 10 s)[k]? = some []) : (linesR s).drop k = [] := by
  have hg : (parts 10 s).getLast? = some [] := by rw [List.getLast?_eq_getElem?, ← hx]; congr 1; omega
  unfold linesR
  rw [if_pos hg]
  exact List.drop_of_length_le (by rw [List.length_dropLast]; omega)
theorem lines_at {s : List UInt8} {k : Nat} {x : List UInt8} (hx : (parts 10 s)[k]? = some x) (hn : ¬ (k + 1 = (parts 10 s).length ∧ x = [])) : (linesR s).drop k = x :: (linesR s).drop (k + 1) := by
  have hl := (List.getElem?_eq_some_iff.1 hx).1
  have : (linesR s)[k]? = some x := by
    unfold linesR
    split
    · rename_i hg
      rw [List.getElem?_dropLast, if_pos, hx]
      rcases Nat.lt_or_ge k ((parts 10 s).length - 1) with q | q
      · exact q
      · exfalso
        refine hn ⟨by omega, ?_⟩
        rw [List.getLast?_eq_getElem?, show (parts 10 s).length - 1 = k by omega, hx] at hg
        injection hg
    · exact hx
  obtain ⟨h1, h2⟩ := List.getElem?_eq_some_iff.1 this
  rw [List.drop_eq_getElem_cons h1, h2]
theorem lines_past {s : List UInt8} {k : Nat} (hk : (parts 10 s).length ≤ k) : (linesR s).drop k = [] := by
  refine List.drop_of_length_le ?_
  unfold linesR
  split
  · rw [List.length_dropLast]; omega
  · exact hk
def DocI (w0 : World) (b : Nat) (rv : Value) (L : List (List UInt8)) (m : Ses) (w : World) : Prop :=
  DocAt w b m ∧ SesOk m ∧ Chg Never w0 w ∧ Rdv w (fun k => k = b) rv (L.map toB)
theorem DocI.step {w0 w w' : World} {b : Nat} {rv : Value} {L : List (List UInt8)} {m m' : Ses} (h : DocI w0 b rv L m w) (hb : w0.heap.size ≤ b) (hd : DocAt w' b m') (hok : SesOk m') (hc : Chg (fun k => k = b) w w') : DocI w0 b rv L m' w' :=
  ⟨hd, hok, h.2.2.1.trans' hc (fun i hi e => absurd hi (by omega)), h.2.2.2.keep hc (fun _ _ h => h) (fun _ _ h => h)⟩
set_option maxHeartbeats 4000000 in
set_option maxRecDepth 100000 in
theorem docrun_any (S : ByteArray) (hS : S.size ≤ 1000000000) (w : World) :
    Calls Tryz.prog 7 #[.string S] w fun e w' => e = .returned (.string (toB (runA S.data.toList))) ∧ Chg Never w w' := by
  have hz := Lib.size_eq S
  by_cases h3 : 3000 < S.size
  · have HR : Hid (runA S.data.toList = tooL) := by unfold Hid runA; rw [if_pos (by omega)]
    have t0 : decide ((3000 : Int) < (S.size : Int)) = true := decide_eq_true (by omega)
    clear hz h3
    go_enter Tryz.func7, Tryz.ntmps7
    go_wp2_with fail
    go_ret
    exact ⟨by rw [HR.out]; rfl, Chg.refl _ _⟩
  · have HR : Hid (runA S.data.toList = runOut S.data.toList) := by unfold Hid runA; rw [if_neg (by omega)]
    have t0 : decide ((3000 : Int) < (S.size : Int)) = false := decide_eq_false (by omega)
    obtain ⟨s, hs⟩ : ∃ s, S.data.toList = s := ⟨_, rfl⟩
    have hSs : S = toB s := by rw [← hs, toB_of]
    rw [hs] at HR hz ⊢
    have hs3 : s.length ≤ 3000 := by omega
    subst hSs
    clear hS h3 hs hz
    obtain ⟨wA, hA⟩ : ∃ W, w.alloc (.cells #[.slice none 0 0, .slice none 0 0] 47) = W := ⟨_, rfl⟩
    have hd0 : DocAt wA w.heap.size ⟨[], []⟩ := ⟨_, _, by rw [← hA]; exact Blk2.new w _ _ _, rdv_nil _ _, rdv_nil _ _⟩
    have hcA : Chg Never w wA := by rw [← hA]; exact (Chg.refl Never w).alloc _
    go_enter Tryz.func7, Tryz.ntmps7
    go_wp2_with fail
    clear hA
    refine (refParts_any (toB s) wA (by rw [toB_sz]; omega)).mono ?_
    rintro e w1 ⟨rv, rfl, hc1, hr1⟩
    rw [toB_data] at hr1
    have hd1 := hd0.never hc1
    have hI0 : DocI w w.heap.size rv (parts 10 s) ⟨[], []⟩ w1 := ⟨hd1, empty_ok, hcA.trans hc1, strs_away hr1 hd1.nostr⟩
    have hcnt := parts_count 10 s
    have hmem := parts_mem 10 s
    obtain ⟨ra, rc, rfl, q1, q2, _⟩ := rdv_slice hr1
    have HLEN : Hid (((parts 10 s).map toB).length = (parts 10 s).length) := by unfold Hid; simp
    rw [HLEN.out] at q1 hI0 ⊢
    unfold maxLen at q2
    obtain ⟨b, hbE⟩ : ∃ b, w.heap.size = b := ⟨_, rfl⟩
    rw [hbE] at hI0 ⊢
    have hb0 : w.heap.size ≤ b := Nat.le_of_eq hbE
    clear hbE
    clear hd0 hcA hc1 hr1 hd1
    have HEND : Hid (∀ k, k + 1 = (parts 10 s).length → (parts 10 s)[k]? = some [] → (linesR s).drop k = []) := fun k h1 h2 => lines_end h1 h2
    have HAT : Hid (∀ k x, (parts 10 s)[k]? = some x → ¬ (k + 1 = (parts 10 s).length ∧ x = []) → (linesR s).drop k = x :: (linesR s).drop (k + 1)) := fun k x h1 h2 => lines_at h1 h2
    have HPAST : Hid (∀ k, (parts 10 s).length ≤ k → (linesR s).drop k = []) := fun k h => lines_past h
    generalize parts 10 s = L at HEND HAT HPAST hcnt hmem HLEN q1 hI0 ⊢
    clear HLEN
    go_wp2_with fail
    go_loopw [4, 6] (fun sv iv wr => ∃ (k : Nat) (m : Ses) (acc : List UInt8), iv = .int .i64 k ∧ sv = .string (toB acc) ∧ k ≤ L.length ∧ DocI w b (.slice ra L.length rc) L m wr ∧ acc.length ≤ 362900 * k ∧ Hid (acc ++ (runL m ((linesR s).drop k)).2 = runOut s)) (fun _ iv _ => L.length - (intOf iv).toNat)
    case atStart => exact ⟨0, _, [], rfl, rfl, Nat.zero_le _, hI0, Nat.zero_le _, rfl⟩
    case round =>
      clear hI0
      obtain ⟨k, m, acc, rfl, rfl, hk, hI, hal, hgo⟩ := hrel
      rename World => wr
      have s1 : IntKind.i64.wrap ((L.length : Int) - 1) = (L.length : Int) - 1 := IntWalk.i64_in _ (by omega)
      by_cases hlt : k < L.length
      · obtain ⟨x, hx⟩ : ∃ x, L[k]? = some x := ⟨L[k], by simp [hlt]⟩
        have hxm : (L.map toB)[k]? = some (toB x) := by rw [List.getElem?_map, hx]; rfl
        obtain ⟨xb, xo, rfl, _, _, hcx, hxs⟩ := elems_str (rdv_elems hI.2.2.2) hxm
        have hzx : (toB x).size = x.length := toB_sz x
        have tk : decide ((k : Int) < (L.length : Int)) = true := decide_eq_true (by omega)
        clear hxm
        by_cases hl1 : k + 1 = L.length
        · have tl : ((k : Int) == (L.length : Int) - 1) = true := by rw [beq_iff_eq]; omega
          by_cases hx0 : x = []
          · have tx : (((toB x).size : Int) == 0) = true := by rw [hzx, hx0]; rfl
            have hfin := HEND.out k hl1 (by rw [hx, hx0])
            have HRR : Hid (runA s = acc) := by
              have := hgo.out
              rw [hfin, runL, List.append_nil] at this
              rw [Hid, HR.out, this]
            clear hfin
            have hcw := hI.2.2.1
            generalize toB x = X at hcx tx
            clear hx hxs hx0 hl1 hzx hI
            go_wp2_with fail
            go_ret
            exact ⟨by rw [HRR.out]; rfl, hcw⟩
          · have tx : (((toB x).size : Int) == 0) = false := by
              rw [hzx]
              exact beq_eq_false_iff_ne.2 (fun h => hx0 (List.length_eq_zero_iff.1 (by omega)))
            have HNX := Lib.hid (HAT.out k x hx (fun h => hx0 h.2))
            have hll := lineS_len hI.2.1 x
            have hok2 := line_ok hI.2.1 x
            have hmx := hmem x (List.mem_of_getElem? hx)
            have HLX := Lib.hid (docline_any b m x wr hI.1 hI.2.1 (by omega))
            have HGO : Hid ((acc ++ (lineS m x).2) ++ (runL (lineS m x).1 ((linesR s).drop (k + 1))).2 = runOut s) := by
              have := hgo.out
              rw [HNX.out, runL] at this
              rw [Hid, List.append_assoc]; exact this
            have hcap : 362900 * k ≤ 362900 * 3001 := Nat.mul_le_mul_left _ (by omega)
            generalize lineS m x = R at hll hok2 HLX HGO
            have HCAT := Lib.hid (toB_cat acc R.2)
            have z1 : (toB acc).size = acc.length := toB_sz _
            have z2 : (toB R.2).size = R.2.length := toB_sz _
            have n1 : ¬ (9223372036854775807 < (toB acc).size + (toB R.2).size) := by rw [z1, z2]; omega
            have s2 : IntKind.i64.wrap ((k : Int) + 1) = (k : Int) + 1 := IntWalk.i64_in _ (by omega)
            generalize toB x = X at hcx tx HLX
            clear hx hxs hzx hmx z1 z2 HNX hgo
            go_wp2_with fail
            refine HLX.out.mono ?_
            rintro e w2 ⟨hc2, hd2, rfl⟩
            have hI2 := hI.step hb0 hd2 hok2 hc2
            clear HLX hI hc2 hd2
            go_wp2_with fail
            go_roundw
            case rel => exact ⟨k + 1, R.1, acc ++ R.2, by go_num, by rw [← HCAT.out], by omega, hI2, by rw [List.length_append]; omega, HGO⟩
            case measure => simp [intOf]; omega
        · have tl : ((k : Int) == (L.length : Int) - 1) = false := beq_eq_false_iff_ne.2 (by omega)
          have HNX := Lib.hid (HAT.out k x hx (fun h => hl1 h.1))
          have tx : True := trivial
          have hll := lineS_len hI.2.1 x
          have hok2 := line_ok hI.2.1 x
          have hmx := hmem x (List.mem_of_getElem? hx)
          have HLX := Lib.hid (docline_any b m x wr hI.1 hI.2.1 (by omega))
          have HGO : Hid ((acc ++ (lineS m x).2) ++ (runL (lineS m x).1 ((linesR s).drop (k + 1))).2 = runOut s) := by
            have := hgo.out
            rw [HNX.out, runL] at this
            rw [Hid, List.append_assoc]; exact this
          have hcap : 362900 * k ≤ 362900 * 3001 := Nat.mul_le_mul_left _ (by omega)
          generalize lineS m x = R at hll hok2 HLX HGO
          have HCAT := Lib.hid (toB_cat acc R.2)
          have z1 : (toB acc).size = acc.length := toB_sz _
          have z2 : (toB R.2).size = R.2.length := toB_sz _
          have n1 : ¬ (9223372036854775807 < (toB acc).size + (toB R.2).size) := by rw [z1, z2]; omega
          have s2 : IntKind.i64.wrap ((k : Int) + 1) = (k : Int) + 1 := IntWalk.i64_in _ (by omega)
          generalize toB x = X at hcx tx HLX
          clear hx hxs hzx hmx z1 z2 HNX hgo
          go_wp2_with fail
          refine HLX.out.mono ?_
          rintro e w2 ⟨hc2, hd2, rfl⟩
          have hI2 := hI.step hb0 hd2 hok2 hc2
          clear HLX hI hc2 hd2
          go_wp2_with fail
          go_roundw
          case rel => exact ⟨k + 1, R.1, acc ++ R.2, by go_num, by rw [← HCAT.out], by omega, hI2, by rw [List.length_append]; omega, HGO⟩
          case measure => simp [intOf]; omega
      · have tk : decide ((k : Int) < (L.length : Int)) = false := decide_eq_false (by omega)
        have hfin := HPAST.out k (by omega)
        have HRR : Hid (runA s = acc) := by
          have := hgo.out
          rw [hfin, runL, List.append_nil] at this
          rw [Hid, HR.out, this]
        clear hfin
        have hcw := hI.2.2.1
        clear hI
        go_wp2_with fail
        go_ret
        exact ⟨by rw [HRR.out]; rfl, hcw⟩
end Go.Proofs.YtmjpfoeaobdaeaaGreatDoor
