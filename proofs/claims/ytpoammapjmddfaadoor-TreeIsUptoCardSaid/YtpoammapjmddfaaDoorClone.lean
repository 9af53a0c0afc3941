/-
  THE WALKS OF LAYER 4: slices.Clone, hunk.Copy.
-/
import Derived.Test.YtpoammapjmddfaaDoorSlice
namespace Go.Proofs.YtpoammapjmddfaaDoor
open Go.RowKit

theorem rd_mark_any (w : World) (O O' : Nat → Prop) : ∀ cs (y : Mark), Dat.rd w O cs y → Dat.rd w O' cs y := fun _ _ h => h
theorem own_made {α : Type} [Dat α] (w : World) (e : TypeId) : Own e (w.alloc (.cells #[] e)) (Old w.heap.size) (.slice (some ⟨w.heap.size, 0, none⟩) 0 0) ([] : List α) :=
  ⟨[], World.ownsRow_made w #[] 0 (Nat.zero_le _) (by unfold maxLen; omega) (by simp), fun k hk ho => by
    simp only [Value.ownBlock, Option.some.injEq] at hk
    subst hk
    unfold Old at ho
    omega, fun i x hi => by simp at hi⟩

set_option maxHeartbeats 800000 in
set_option maxRecDepth 100000 in
theorem clone_str (O : Nat → Prop) (l : List ByteArray) (v : Value) (w : World) (h : Rdv w O v l) (hl : l.length ≤ 1000000) :
    Calls Tryd.prog 62 #[v] w fun e w' => ∃ r, e = .returned r ∧ Chg Never w w' ∧ Own 9 w' (Old w.heap.size) r l := by
  obtain ⟨a, cap, rfl, h1, h2, h3⟩ := rdv_slice h
  unfold maxLen at h2
  cases a with
  | none =>
    have hn : l = [] := by
      cases l with
      | nil => rfl
      | cons x l =>
        obtain ⟨b, off, es, ha, _⟩ := h3 0 x rfl
        cases ha
    subst hn
    have he : ∀ wx, (binOp .eql 22 (.slice none 0 cap) (.slice none 0 0)).run Tryd.prog wx = .ok (.bool true) wx := fun wx => Lib.run_eql_slice_nil wx 22 9 none 0 cap 0 0 Tryd.underlying22
    go_enter Tryd.func62, Tryd.ntmps62
    go_wp2_with fail
    go_ret
    exact ⟨_, rfl, Chg.refl _ _, own_nil _ _ _⟩
  | some a =>
    have hm := own_made (α := ByteArray) w 9
    have hA : Chg Never w (w.alloc (.cells #[] 9)) := (Chg.refl Never w).alloc _
    have hr := (h.sub (O' := Never) (fun _ _ h => h.elim)).never hA
    have hO : ∀ k, Old w.heap.size k → k < (w.alloc (.cells #[] 9)).heap.size := by
      intro k hk
      unfold Old at hk
      simp
      omega
    have hle : ([] : List ByteArray).length + l.length ≤ 1000000000 := by simp; omega
    clear h3 h
    have he : ∀ wx, (binOp .eql 22 (.slice (some a) l.length cap) (.slice none 0 0)).run Tryd.prog wx = .ok (.bool false) wx := fun wx => Lib.run_eql_slice_nil wx 22 9 (some a) l.length cap 0 0 Tryd.underlying22
    go_enter Tryd.func62, Tryd.ntmps62
    go_wp2_with (at_builtin; refine wpList_many (by rfl) _ _ 22 (by rfl) elemOk_str (O := Old w.heap.size) (by rfl) (by rfl) hm hr (rd_str_any _ _ _) hO hle ?_; intro v' w5 hown2 hc2)
    have hc3 := own_step hA hm hc2
    clear hm hr hc2
    go_wp2_with fail
    go_ret
    exact ⟨_, rfl, hc3, hown2⟩
set_option maxHeartbeats 800000 in
set_option maxRecDepth 100000 in
theorem clone_mark (O : Nat → Prop) (l : List Mark) (v : Value) (w : World) (h : Rdv w O v l) (hl : l.length ≤ 1000000) :
    Calls Tryd.prog 102 #[v] w fun e w' => ∃ r, e = .returned r ∧ Chg Never w w' ∧ Own 80 w' (Old w.heap.size) r l := by
  obtain ⟨a, cap, rfl, h1, h2, h3⟩ := rdv_slice h
  unfold maxLen at h2
  cases a with
  | none =>
    have hn : l = [] := by
      cases l with
      | nil => rfl
      | cons x l =>
        obtain ⟨b, off, es, ha, _⟩ := h3 0 x rfl
        cases ha
    subst hn
    have he : ∀ wx, (binOp .eql 40 (.slice none 0 cap) (.slice none 0 0)).run Tryd.prog wx = .ok (.bool true) wx := fun wx => Lib.run_eql_slice_nil wx 40 80 none 0 cap 0 0 Tryd.underlying40
    go_enter Tryd.func102, Tryd.ntmps102
    go_wp2_with fail
    go_ret
    exact ⟨_, rfl, Chg.refl _ _, own_nil _ _ _⟩
  | some a =>
    have hm := own_made (α := Mark) w 80
    have hA : Chg Never w (w.alloc (.cells #[] 80)) := (Chg.refl Never w).alloc _
    have hr := (h.sub (O' := Never) (fun _ _ h => h.elim)).never hA
    have hO : ∀ k, Old w.heap.size k → k < (w.alloc (.cells #[] 80)).heap.size := by
      intro k hk
      unfold Old at hk
      simp
      omega
    have hle : ([] : List Mark).length + l.length ≤ 1000000000 := by simp; omega
    clear h3 h
    have he : ∀ wx, (binOp .eql 40 (.slice (some a) l.length cap) (.slice none 0 0)).run Tryd.prog wx = .ok (.bool false) wx := fun wx => Lib.run_eql_slice_nil wx 40 80 (some a) l.length cap 0 0 Tryd.underlying40
    go_enter Tryd.func102, Tryd.ntmps102
    go_wp2_with (at_builtin; refine wpList_many (by rfl) _ _ 40 (by rfl) elemOk_mark (O := Old w.heap.size) (by rfl) (by rfl) hm hr (rd_mark_any _ _ _) hO hle ?_; intro v' w5 hown2 hc2)
    have hc3 := own_step hA hm hc2
    clear hm hr hc2
    go_wp2_with fail
    go_ret
    exact ⟨_, rfl, hc3, hown2⟩

set_option maxHeartbeats 800000 in
set_option maxRecDepth 100000 in
theorem copy_any (h : Hunk) (mv : Value) (w : World) (hm : Rdv w Never mv h.marks) (hl : h.marks.length ≤ 120) :
    Calls Tryd.prog 78 #[.agg #[.int .i64 h.old, .int .i64 h.new, mv]] w fun e w' => ∃ r, e = .returned (.agg #[.int .i64 h.old, .int .i64 h.new, r]) ∧ Chg Never w w' ∧ Rdv w' (Old w.heap.size) r h.marks := by
  obtain ⟨o, n, l⟩ := h
  simp only at hm hl ⊢
  obtain ⟨a, cap, rfl, h1, h2, h3⟩ := rdv_slice hm
  have hA : Chg Never w ((w.alloc (.cells #[.int .i64 o, .int .i64 n, .slice a l.length cap] 42)).alloc (.cells #[.int .i64 0, .int .i64 0, .slice none 0 0] 42)) := ((Chg.refl Never w).alloc _).alloc _
  have hP : Blk3 ((w.alloc (.cells #[.int .i64 o, .int .i64 n, .slice a l.length cap] 42)).alloc (.cells #[.int .i64 0, .int .i64 0, .slice none 0 0] 42)) w.heap.size 42 (.int .i64 o) (.int .i64 n) (.slice a l.length cap) :=
    (Blk3.new w 42 (.int .i64 o) (.int .i64 n) (.slice a l.length cap)).keep (O := Never) ((Chg.refl _ _).alloc _) (fun h => h)
  have hR : Blk3 ((w.alloc (.cells #[.int .i64 o, .int .i64 n, .slice a l.length cap] 42)).alloc (.cells #[.int .i64 0, .int .i64 0, .slice none 0 0] 42)) (w.heap.size + 1) 42 (.int .i64 0) (.int .i64 0) (.slice none 0 0) := by
    have := Blk3.new (w.alloc (.cells #[.int .i64 o, .int .i64 n, .slice a l.length cap] 42)) 42 (.int .i64 0) (.int .i64 0) (.slice none 0 0)
    rw [World.size_alloc] at this
    exact this
  go_enter Tryd.func78, Tryd.ntmps78
  go_wp2_with fail
  refine (clone_mark Never l _ _ (hm.never hA) (by omega)).mono ?_
  rintro e w2 ⟨r, rfl, hc2, hown⟩
  obtain ⟨ra, rn, rc, rfl⟩ := own_isSlice hown
  have hP2 := hP.keep hc2 (fun h => h)
  have hR2 := hR.keep hc2 (fun h => h)
  have hc := hA.trans hc2
  have hown' := hown.keep (O'' := Old (w.heap.size + 2)) (Chg.refl Never _) (fun _ _ h => h.elim) (fun j _ hj => by unfold Old at *; simp; omega)
  have hP3 := hP2.set2 (.slice ra rn rc)
  have hR3 := hR2.keep (O := fun j => j = w.heap.size) ((Chg.refl (fun j => j = w.heap.size) w2).setCell (p := ⟨w.heap.size, 2, none⟩) (.inr rfl) (.slice ra rn rc)) (by omega)
  have hS : Chg (fun j => j = w.heap.size ∨ j = w.heap.size + 1) w2 ((((w2.setCell ⟨w.heap.size, 2, none⟩ (.slice ra rn rc)).setCell ⟨w.heap.size + 1, 0, none⟩ (.int .i64 o)).setCell ⟨w.heap.size + 1, 1, none⟩ (.int .i64 n)).setCell ⟨w.heap.size + 1, 2, none⟩ (.slice ra rn rc)) :=
    ((((Chg.refl (fun j => j = w.heap.size ∨ j = w.heap.size + 1) w2).setCell (p := ⟨w.heap.size, 2, none⟩) (.inr (.inl rfl)) _).setCell (p := ⟨w.heap.size + 1, 0, none⟩) (.inr (.inr rfl)) _).setCell (p := ⟨w.heap.size + 1, 1, none⟩) (.inr (.inr rfl)) _).setCell (p := ⟨w.heap.size + 1, 2, none⟩) (.inr (.inr rfl)) _
  have hr := (hown'.keep (O'' := Old w.heap.size) hS (fun j _ h => by unfold Old; omega) (fun j _ h => by unfold Old at *; omega)).rdv
  have hcF := hc.trans' hS (O := Never) (fun j hj h => by omega)
  obtain ⟨f0, f1, f2⟩ := (((hR3.set0 (.int .i64 o)).set1 (.int .i64 n)).set2 (.slice ra rn rc)).cell
  obtain ⟨p0, p1, p2⟩ := hP2.cell
  have pf := hP2.free
  obtain ⟨q0, q1, q2⟩ := hP3.cell
  obtain ⟨r0, r1, r2⟩ := hR3.cell
  have rf := hR3.free
  clear hS hown' hown hP hR hP3 hR3 hP2 hR2 hA hc2 hc h3 hm
  go_wp2_with fail
  exact bodyPost_ret (v := .agg #[.int .i64 o, .int .i64 n, .slice ra rn rc]) (by simp [results, Tryd.results78, go_sem, f0, f1, f2]) rfl ⟨_, rfl, hcF, hr⟩
end Go.Proofs.YtpoammapjmddfaaDoor
