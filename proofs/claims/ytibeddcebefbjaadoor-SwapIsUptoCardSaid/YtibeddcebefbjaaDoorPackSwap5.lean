/-
  PARTS: TWO HUNKS THE OTHER WAY ROUND, in plain Lean.; THE WALK of algebra.moved.; THE WALK of algebra.Swap.; THE WALKS of the document's NewOf, OldOf.; THE WALKS of the document's LineFault, LinesFault, ScriptFault.
-/
import Derived.Test.YtibeddcebefbjaaDoorPackSwap3
import Derived.Test.YtibeddcebefbjaaDoorPackSwap4
import Derived.Test.YtibeddcebefbjaaDoorPackSwap2
import Derived.Deep.Cut
import Derived.Deep.RegionWith
import Derived.BigQuiet
import Derived.Deep.CutBlock
namespace Go.Proofs.YtibeddcebefbjaaDoor

def hunk1 (h : Hunk) : Int := (hunksFault [h]).2
def moveH (h : Hunk) (d : Int) : Hunk := ⟨h.old + d, h.new + d, h.marks⟩
def aheadB (h k : Hunk) : Bool := decide (k.old + oldN k.marks ≤ h.new)
def behindB (h k : Hunk) : Bool := decide (h.new + newN h.marks ≤ k.old)
def pairFault (h k : Hunk) : Int := if hunk1 h ≠ 0 then hunk1 h else hunk1 k
def swapPre (h k : Hunk) : Int := if pairFault h k ≠ 0 then pairFault h k else if aheadB h k = behindB h k then 6 else 0
def swapH (h k : Hunk) : Hunk := if aheadB h k = true then moveH h (newN k.marks - oldN k.marks) else h
def swapK (h k : Hunk) : Hunk := if aheadB h k = true then k else moveH k (oldN h.marks - newN h.marks)
def swapFault (h k : Hunk) : Int := if swapPre h k ≠ 0 then swapPre h k else pairFault (swapH h k) (swapK h k)
def noHunk : Hunk := ⟨0, 0, []⟩
def swapFst (h k : Hunk) : Hunk := if swapFault h k = 0 then swapK h k else noHunk
def swapSnd (h k : Hunk) : Hunk := if swapFault h k = 0 then swapH h k else noHunk

theorem hunk1_zero {h : Hunk} (e : hunk1 h = 0) : scriptFault h.marks = 0 ∧ hasChange h.marks = true ∧ 0 ≤ h.old ∧ h.old + oldN h.marks ≤ 60 ∧ h.new = h.old ∧ h.new + newN h.marks ≤ 60 := by
  have := (hunksFault_zero e).2
  unfold hOk at this
  have q := this.1
  unfold oneFault at q
  by_cases h1 : scriptFault h.marks ≠ 0
  · rw [if_pos h1] at q; exact absurd q h1
  · rw [if_neg h1] at q
    by_cases h2 : hasChange h.marks = false
    · rw [if_pos h2] at q; cases q
    · rw [if_neg h2] at q
      by_cases h3 : h.old < 0 ∨ 60 < h.old ∨ h.new < 0 ∨ 60 < h.new ∨ 60 < h.old + oldN h.marks ∨ 60 < h.new + newN h.marks
      · rw [if_pos h3] at q; cases q
      · rw [if_neg h3] at q
        by_cases h4 : h.old < 0 ∨ h.new ≠ h.old + 0
        · rw [if_pos h4] at q; cases q
        · exact ⟨by simpa using h1, by simpa using h2, by omega, by omega, by omega, by omega⟩
theorem pair_zero {h k : Hunk} (e : pairFault h k = 0) : hunk1 h = 0 ∧ hunk1 k = 0 := by
  unfold pairFault at e
  by_cases h1 : hunk1 h ≠ 0
  · rw [if_pos h1] at e; exact absurd e h1
  · rw [if_neg h1] at e; exact ⟨by simpa using h1, e⟩
theorem pair_of {h k : Hunk} (e : hunk1 h = 0) (g : hunk1 k = 0) : pairFault h k = 0 := by unfold pairFault; rw [if_neg (by simp [e]), g]
/-- it is all one which of them is looked at first: one of them was not moved -/
theorem pair_turn {h k : Hunk} (e : pairFault h k = 0) : pairFault (swapK h k) (swapH h k) = pairFault (swapH h k) (swapK h k) := by
  obtain ⟨e1, e2⟩ := pair_zero e
  unfold swapK swapH
  by_cases a : aheadB h k = true
  · rw [if_pos a, if_pos a]
    unfold pairFault
    rw [if_neg (by simp [e2])]
    by_cases q : hunk1 (moveH h (newN k.marks - oldN k.marks)) ≠ 0
    · rw [if_pos q]
    · rw [if_neg q]; omega
  · rw [if_neg a, if_neg a]
    unfold pairFault
    rw [if_neg (show ¬ hunk1 h ≠ 0 by simp [e1])]
    by_cases q : hunk1 (moveH k (oldN h.marks - newN h.marks)) ≠ 0
    · rw [if_pos q]
    · rw [if_neg q]; omega
end Go.Proofs.YtibeddcebefbjaaDoor
namespace Go.Proofs.YtibeddcebefbjaaDoor
open Go.RowKit

set_option maxHeartbeats 1000000 in
set_option maxRecDepth 100000 in
theorem moved_any (h : Hunk) (d : Int) (mv : Value) (w : World) (hm : Rdv w Never mv h.marks) (hl : h.marks.length ≤ 120) (o1 : -1000 ≤ h.old) (o2 : h.old ≤ 1000) (n1 : -1000 ≤ h.new) (n2 : h.new ≤ 1000) (d1 : -1000 ≤ d) (d2 : d ≤ 1000) :
    Calls Tryd.prog 36 #[.agg #[.int .i64 h.old, .int .i64 h.new, mv], .int .i64 d] w fun e w' => ∃ r, e = .returned (.agg #[.int .i64 (h.old + d), .int .i64 (h.new + d), r]) ∧ Chg Never w w' ∧ Rdv w' (Old w.heap.size) r h.marks := by
  obtain ⟨o, n, l⟩ := h
  simp only at hm hl o1 o2 n1 n2 ⊢
  obtain ⟨a, cap, rfl, _, _, _⟩ := rdv_slice hm
  have hA : Chg Never w ((w.alloc (.cells #[.int .i64 o, .int .i64 n, .slice a l.length cap] 24)).alloc (.cells #[.int .i64 0, .int .i64 0, .slice none 0 0] 24)) := ((Chg.refl Never w).alloc _).alloc _
  have hP : Blk3 ((w.alloc (.cells #[.int .i64 o, .int .i64 n, .slice a l.length cap] 24)).alloc (.cells #[.int .i64 0, .int .i64 0, .slice none 0 0] 24)) w.heap.size 24 (.int .i64 o) (.int .i64 n) (.slice a l.length cap) :=
    (Blk3.new w 24 (.int .i64 o) (.int .i64 n) (.slice a l.length cap)).keep (O := Never) ((Chg.refl _ _).alloc _) (fun h => h)
  have hR : Blk3 ((w.alloc (.cells #[.int .i64 o, .int .i64 n, .slice a l.length cap] 24)).alloc (.cells #[.int .i64 0, .int .i64 0, .slice none 0 0] 24)) (w.heap.size + 1) 24 (.int .i64 0) (.int .i64 0) (.slice none 0 0) := by
    have := Blk3.new (w.alloc (.cells #[.int .i64 o, .int .i64 n, .slice a l.length cap] 24)) 24 (.int .i64 0) (.int .i64 0) (.slice none 0 0)
    rw [World.size_alloc] at this
    exact this
  have hm0 := (hm.sub (O' := fun k => w.heap.size ≤ k) (fun k hk h => by omega)).never hA
  have e1 : IntKind.i64.wrap (o + d) = o + d := IntWalk.i64_in _ (by omega)
  have e2 : IntKind.i64.wrap (n + d) = n + d := IntWalk.i64_in _ (by omega)
  go_enter Tryd.func36, Tryd.ntmps36
  go_upto_region 1 with fail
  generalize ((w.alloc (.cells #[.int .i64 o, .int .i64 n, .slice a l.length cap] 24)).alloc (.cells #[.int .i64 0, .int .i64 0, .slice none 0 0] 24)) = wA at hA hP hR hm0 ⊢
  obtain ⟨p0, p1, p2⟩ := hP.cell
  have pf := hP.free
  have hP1 := hP.set0 (.int .i64 (o + d))
  obtain ⟨q0, q1, q2⟩ := hP1.cell
  have qf := hP1.free
  have hP2 := hP1.set1 (.int .i64 (n + d))
  obtain ⟨r0, r1, r2⟩ := hP2.cell
  have hS : Chg (fun k => k = w.heap.size) wA ((wA.setCell ⟨w.heap.size, 0, none⟩ (.int .i64 (o + d))).setCell ⟨w.heap.size, 1, none⟩ (.int .i64 (n + d))) :=
    ((Chg.refl (fun k => k = w.heap.size) wA).setCell (p := ⟨w.heap.size, 0, none⟩) (.inr rfl) _).setCell (p := ⟨w.heap.size, 1, none⟩) (.inr rfl) _
  have hR2 := hR.keep hS (by omega)
  have hm2 := hm0.keep (O'' := Never) hS (fun k _ h => by omega) (fun _ _ h => h.elim)
  have hc := hA.trans' hS (fun i hi h => by omega)
  have hsz : w.heap.size ≤ _ := Nat.le_trans hA.size hS.size
  clear hA hP hR hm0 hP1 hS
  go_wp2_with fail
  generalize (wA.setCell ⟨w.heap.size, 0, none⟩ (.int .i64 (o + d))).setCell ⟨w.heap.size, 1, none⟩ (.int .i64 (n + d)) = w2 at hP2 hR2 hm2 hc hsz ⊢
  refine (copy_any ⟨o + d, n + d, l⟩ _ _ hm2 hl).mono ?_
  rintro e w3 ⟨r, rfl, hc3, hr⟩
  obtain ⟨ra, rcap, rfl, _, _, _⟩ := rdv_slice hr
  have hR3 := hR2.keep hc3 (fun h => h)
  have hc' := hc.trans hc3
  obtain ⟨s0, s1, s2⟩ := hR3.cell
  have sf := hR3.free
  have hS : Chg (fun j => j = w.heap.size + 1) w3 (((w3.setCell ⟨w.heap.size + 1, 0, none⟩ (.int .i64 (o + d))).setCell ⟨w.heap.size + 1, 1, none⟩ (.int .i64 (n + d))).setCell ⟨w.heap.size + 1, 2, none⟩ (.slice ra l.length rcap)) :=
    (((Chg.refl (fun j => j = w.heap.size + 1) w3).setCell (p := ⟨w.heap.size + 1, 0, none⟩) (.inr rfl) _).setCell (p := ⟨w.heap.size + 1, 1, none⟩) (.inr rfl) _).setCell (p := ⟨w.heap.size + 1, 2, none⟩) (.inr rfl) _
  have hR2lt := hR2.lt
  have hrF := hr.keep (O'' := Old w.heap.size) hS (fun j _ h => by unfold Old; omega) (fun j _ h => by unfold Old at *; omega)
  have hcF := hc'.trans' hS (fun j hj h => by omega)
  obtain ⟨f0, f1, f2⟩ := (((hR3.set0 (.int .i64 (o + d))).set1 (.int .i64 (n + d))).set2 (.slice ra l.length rcap)).cell
  clear hS hR2 hR3 hP2 hc' hc hm2 hc3 hr p0 p1 p2 pf q0 q1 q2 qf r0 r1 r2
  go_wp2_with fail
  exact bodyPost_ret (v := .agg #[.int .i64 (o + d), .int .i64 (n + d), .slice ra l.length rcap]) (by simp [results, Tryd.results36, go_sem, f0, f1, f2]) rfl ⟨_, rfl, hcF, hrF⟩
end Go.Proofs.YtibeddcebefbjaaDoor
namespace Go.Proofs.YtibeddcebefbjaaDoor
open Go.RowKit

theorem cell_put_same {w : World} {p : Addr} {v : Value} (h : w.cell? p = some v) : w.setCell p v = w := by
  have e : (w.setCell p v).heap = w.heap := by
    unfold World.setCell World.cell? at *
    apply Array.ext_getElem?
    intro i
    simp only [Array.getElem?_modify]
    by_cases hi : p.block = i
    · subst hi
      rw [if_pos rfl]
      cases hb : w.heap[p.block]? with
      | none => rfl
      | some ob =>
        rw [hb] at h
        cases ob with
        | cells c e f =>
          simp only at h
          by_cases hs : p.spot.isSome = true
          · rw [if_pos hs] at h; cases h
          · rw [if_neg hs] at h
            simp only [Option.map_some, hs]
            congr 2
            apply Array.ext_getElem?
            intro j
            simp only [Bool.false_eq_true, if_false]
            rw [Array.getElem?_setIfInBounds]
            by_cases hj : p.off = j
            · subst hj
              rw [if_pos rfl]
              split
              · exact h.symm
              · rw [Array.getElem?_eq_none (by omega)]
            · rw [if_neg hj]
        | _ => rfl
    · rw [if_neg hi]
  have : w.setCell p v = { w with heap := (w.setCell p v).heap } := rfl
  rw [this, e]

theorem four_blk (w : World) (t : TypeId) (x y z x' y' z' a b c a' b' c' : Value) {W : World} (hW : W = (((w.alloc (.cells #[x, y, z] t)).alloc (.cells #[x', y', z'] t)).alloc (.cells #[a, b, c] t)).alloc (.cells #[a', b', c'] t)) :
    Chg Never w W ∧ Blk3 W w.heap.size t x y z ∧ Blk3 W (w.heap.size + 1) t x' y' z' ∧ Blk3 W (w.heap.size + 2) t a b c ∧ Blk3 W (w.heap.size + 3) t a' b' c' := by
  subst hW
  have h2 := Blk3.new (w.alloc (.cells #[x, y, z] t)) t x' y' z'
  have h3 := Blk3.new ((w.alloc (.cells #[x, y, z] t)).alloc (.cells #[x', y', z'] t)) t a b c
  have h4 := Blk3.new (((w.alloc (.cells #[x, y, z] t)).alloc (.cells #[x', y', z'] t)).alloc (.cells #[a, b, c] t)) t a' b' c'
  simp only [World.size_alloc] at h2 h3 h4
  exact ⟨((((Chg.refl Never w).alloc _).alloc _).alloc _).alloc _, ((((Blk3.new w t x y z).keep (O := Never) ((Chg.refl _ _).alloc _) (fun h => h)).keep (O := Never) ((Chg.refl _ _).alloc _) (fun h => h)).keep (O := Never) ((Chg.refl _ _).alloc _) (fun h => h)),
    (h2.keep (O := Never) ((Chg.refl _ _).alloc _) (fun h => h)).keep (O := Never) ((Chg.refl _ _).alloc _) (fun h => h), h3.keep (O := Never) ((Chg.refl _ _).alloc _) (fun h => h), h4⟩

def SwapPost (h k : Hunk) (w : World) (e : Ending) (w' : World) (ev : Value) : Prop := ∃ rx ry, e = .returned (.tuple #[.agg #[.int .i64 (swapFst h k).old, .int .i64 (swapFst h k).new, rx], .agg #[.int .i64 (swapSnd h k).old, .int .i64 (swapSnd h k).new, ry], ev]) ∧ Chg Never w w' ∧ Rdv w' Never rx (swapFst h k).marks ∧ Rdv w' Never ry (swapSnd h k).marks
theorem swapPost_err {h k : Hunk} {w w' : World} {ev : Value} (z : swapFault h k ≠ 0) (hw : Chg Never w w') :
    SwapPost h k w (.returned (.tuple #[.agg #[.int .i64 0, .int .i64 0, .slice none 0 0], .agg #[.int .i64 0, .int .i64 0, .slice none 0 0], ev])) w' ev := by
  have e1 : swapFst h k = noHunk := if_neg z
  have e2 : swapSnd h k = noHunk := if_neg z
  exact ⟨.slice none 0 0, .slice none 0 0, by rw [e1, e2]; rfl, hw, by rw [e1]; exact rdv_nil _ _, by rw [e2]; exact rdv_nil _ _⟩
theorem swapFault_first {h k : Hunk} (z : hunk1 h ≠ 0) : swapFault h k = hunk1 h := by
  have e1 : pairFault h k = hunk1 h := if_pos z
  have e2 : swapPre h k = hunk1 h := by unfold swapPre; rw [e1, if_pos z]
  unfold swapFault; rw [e2, if_pos z]
theorem swapFault_second {h k : Hunk} (z : hunk1 h = 0) (y : hunk1 k ≠ 0) : swapFault h k = hunk1 k := by
  have e1 : pairFault h k = hunk1 k := if_neg (by simp [z])
  have e2 : swapPre h k = hunk1 k := by unfold swapPre; rw [e1, if_pos y]
  unfold swapFault; rw [e2, if_pos y]
theorem swapFault_clash {h k : Hunk} (z : hunk1 h = 0) (y : hunk1 k = 0) (c : aheadB h k = behindB h k) : swapFault h k = 6 := by
  have e2 : swapPre h k = 6 := by unfold swapPre; rw [pair_of z y, if_neg (by decide), if_pos c]
  unfold swapFault; rw [e2, if_pos (by decide)]
theorem swapFault_rest {h k : Hunk} (z : hunk1 h = 0) (y : hunk1 k = 0) (c : aheadB h k ≠ behindB h k) : swapFault h k = pairFault (swapK h k) (swapH h k) := by
  have e2 : swapPre h k = 0 := by unfold swapPre; rw [pair_of z y, if_neg (by decide), if_neg c]
  unfold swapFault; rw [e2, if_neg (by decide), pair_turn (pair_of z y)]

theorem rdv_one_hunk {w : World} {x : Hunk} {mv : Value} {t : TypeId} (h : Rdv w Never mv x.marks) : Rdv (w.alloc (.cells #[.int .i64 x.old, .int .i64 x.new, mv] t)) Never (.slice (some ⟨w.heap.size, 0, none⟩) 1 1) [x] :=
  rdv_lit (e := t) (cs := [.int .i64 x.old, .int .i64 x.new, mv]) (heap_alloc_new _ _) rfl (by decide) ⟨⟨mv, rfl, h.never ((Chg.refl Never w).alloc _)⟩, trivial⟩
/-- the hunk in a box, then in a row -/
theorem rdv_boxed_hunk {w : World} {x : Hunk} {mv : Value} {t : TypeId} (h : Rdv w Never mv x.marks) : Rdv ((w.alloc (.cells #[.int .i64 x.old, .int .i64 x.new, mv] t)).alloc (.cells #[.int .i64 x.old, .int .i64 x.new, mv] t)) Never (.slice (some ⟨w.heap.size + 1, 0, none⟩) 1 1) [x] := by
  have := rdv_one_hunk (t := t) (h.never ((Chg.refl Never w).alloc (.cells #[.int .i64 x.old, .int .i64 x.new, mv] t)))
  rwa [World.size_alloc] at this
theorem put3_chg {w : World} {B : Nat} (x y z : Value) : Chg (fun j => j = B) w (((w.setCell ⟨B, 0, none⟩ x).setCell ⟨B, 1, none⟩ y).setCell ⟨B, 2, none⟩ z) :=
  (((Chg.refl (fun j => j = B) w).setCell (p := ⟨B, 0, none⟩) (.inr rfl) _).setCell (p := ⟨B, 1, none⟩) (.inr rfl) _).setCell (p := ⟨B, 2, none⟩) (.inr rfl) _
theorem put3_keep {w : World} {B C : Nat} (hne : C ≠ B) {t : TypeId} {a b c : Value} (hC : Blk3 w C t a b c) (x y z : Value) : Blk3 (((w.setCell ⟨B, 0, none⟩ x).setCell ⟨B, 1, none⟩ y).setCell ⟨B, 2, none⟩ z) C t a b c :=
  hC.keep (put3_chg x y z) hne
/-- both boxes are written -/
theorem put3_two {w W : World} {B C : Nat} (hne : C ≠ B) {t t' : TypeId} {a b c a' b' c' : Value} (hB : Blk3 w B t a b c) (hC : Blk3 w C t' a' b' c') (x y z x' y' z' : Value)
    (hW : W = (((((w.setCell ⟨B, 0, none⟩ x).setCell ⟨B, 1, none⟩ y).setCell ⟨B, 2, none⟩ z).setCell ⟨C, 0, none⟩ x').setCell ⟨C, 1, none⟩ y').setCell ⟨C, 2, none⟩ z') :
    Blk3 W B t x y z ∧ Blk3 W C t' x' y' z' ∧ Chg (fun j => j = B ∨ j = C) w W := by
  subst hW
  refine ⟨(((hB.set0 x).set1 y).set2 z).keep (put3_chg x' y' z') hne.symm, (((put3_keep hne hC x y z).set0 x').set1 y').set2 z', ?_⟩
  exact ((put3_chg x y z).mono (fun _ _ h => .inl h)).trans ((put3_chg x' y' z').mono (fun _ _ h => .inr h))
/-- what Swap's second half starts from -/
def SwapMid (h k : Hunk) (w wx : World) : Prop := ∃ r1 r2, Chg Never w wx ∧ Blk3 wx w.heap.size 24 (.int .i64 (swapH h k).old) (.int .i64 (swapH h k).new) r1 ∧ Blk3 wx (w.heap.size + 1) 24 (.int .i64 (swapK h k).old) (.int .i64 (swapK h k).new) r2 ∧
  Rdv wx (fun j => w.heap.size ≤ j ∧ j < w.heap.size + 4) r1 (swapH h k).marks ∧ Rdv wx (fun j => w.heap.size ≤ j ∧ j < w.heap.size + 4) r2 (swapK h k).marks ∧
  Blk3 wx (w.heap.size + 2) 24 (.int .i64 0) (.int .i64 0) (.slice none 0 0) ∧ Blk3 wx (w.heap.size + 3) 24 (.int .i64 0) (.int .i64 0) (.slice none 0 0)
theorem swapMid_of {h k : Hunk} {w w4 w5 W : World} {r1 r2 a b c a' b' c' : Value} (hc : Chg Never w w4) (hn : w.heap.size + 4 ≤ w4.heap.size) (h45 : Chg Never w4 w5) (hP : Blk3 w5 w.heap.size 24 a b c) (hQ : Blk3 w5 (w.heap.size + 1) 24 a' b' c')
    (h1 : Rdv w5 (Old w4.heap.size) r1 (swapH h k).marks) (h2 : Rdv w5 (Old w4.heap.size) r2 (swapK h k).marks)
    (hZ2 : Blk3 w4 (w.heap.size + 2) 24 (.int .i64 0) (.int .i64 0) (.slice none 0 0)) (hZ3 : Blk3 w4 (w.heap.size + 3) 24 (.int .i64 0) (.int .i64 0) (.slice none 0 0))
    (hW : Blk3 W w.heap.size 24 (.int .i64 (swapH h k).old) (.int .i64 (swapH h k).new) r1 ∧ Blk3 W (w.heap.size + 1) 24 (.int .i64 (swapK h k).old) (.int .i64 (swapK h k).new) r2 ∧ Chg (fun j => j = w.heap.size ∨ j = w.heap.size + 1) w5 W) : SwapMid h k w W := by
  obtain ⟨g1, g2, g3⟩ := hW
  refine ⟨r1, r2, (hc.trans h45).trans' g3 (fun i hi hh => by omega), g1, g2, ?_, ?_, (hZ2.keep h45 (fun h => h)).keep g3 (by omega), (hZ3.keep h45 (fun h => h)).keep g3 (by omega)⟩
  · exact h1.keep g3 (fun j _ hj => by unfold Old; omega) (fun j _ hj => by unfold Old; omega)
  · exact h2.keep g3 (fun j _ hj => by unfold Old; omega) (fun j _ hj => by unfold Old; omega)
theorem moved_zero (h : Hunk) (mv : Value) (w : World) (hm : Rdv w Never mv h.marks) (hl : h.marks.length ≤ 120) (o1 : -1000 ≤ h.old) (o2 : h.old ≤ 1000) (n1 : -1000 ≤ h.new) (n2 : h.new ≤ 1000) :
    Calls Tryd.prog 36 #[.agg #[.int .i64 h.old, .int .i64 h.new, mv], .int .i64 0] w fun e w' => ∃ r, e = .returned (.agg #[.int .i64 h.old, .int .i64 h.new, r]) ∧ Chg Never w w' ∧ Rdv w' (Old w.heap.size) r h.marks := by
  refine (moved_any h 0 mv w hm hl o1 o2 n1 n2 (by decide) (by decide)).mono ?_
  rintro e w' ⟨r, rfl, h2⟩
  exact ⟨r, by rw [Int.add_zero, Int.add_zero], h2⟩
theorem swapPost_ok {h k : Hunk} {w w' : World} {r1 r2 : Value} (z : swapFault h k = 0) (hw : Chg Never w w') (h1 : Rdv w' Never r1 (swapH h k).marks) (h2 : Rdv w' Never r2 (swapK h k).marks) :
    SwapPost h k w (.returned (.tuple #[.agg #[.int .i64 (swapK h k).old, .int .i64 (swapK h k).new, r2], .agg #[.int .i64 (swapH h k).old, .int .i64 (swapH h k).new, r1], .nilIface])) w' (errV (swapFault h k)) := by
  have e1 : swapFst h k = swapK h k := if_pos z
  have e2 : swapSnd h k = swapH h k := if_pos z
  exact ⟨r2, r1, by rw [e1, e2, z, errV_zero], hw, by rw [e1]; exact h2, by rw [e2]; exact h1⟩
theorem pair_first {h k : Hunk} (z : hunk1 h ≠ 0) : pairFault h k = hunk1 h := if_pos z
theorem pair_second {h k : Hunk} (z : hunk1 h = 0) : pairFault h k = hunk1 k := if_neg (by simp [z])
set_option maxHeartbeats 4000000 in
set_option maxRecDepth 100000 in
theorem swap_any (h k : Hunk) (hv kv : Value) (w : World) (hh : Rdv w Never hv h.marks) (hk : Rdv w Never kv k.marks) :
    Calls Tryd.prog 11 #[.agg #[.int .i64 h.old, .int .i64 h.new, hv], .agg #[.int .i64 k.old, .int .i64 k.new, kv]] w fun e w' => SwapPost h k w e w' (errV (swapFault h k)) := by
  obtain ⟨ha, hcap, rfl, _, _, _⟩ := rdv_slice hh
  obtain ⟨ka, kcap, rfl, _, _, _⟩ := rdv_slice hk
  obtain ⟨hA, hP, hQ, hZ2, hZ3⟩ := four_blk w 24 (.int .i64 h.old) (.int .i64 h.new) (.slice ha h.marks.length hcap) (.int .i64 k.old) (.int .i64 k.new) (.slice ka k.marks.length kcap) (.int .i64 0) (.int .i64 0) (.slice none 0 0) (.int .i64 0) (.int .i64 0) (.slice none 0 0) rfl
  have hh0 := (hh.sub (O' := fun j => w.heap.size ≤ j) (fun j hj h => by omega)).never hA
  have hk0 := (hk.sub (O' := fun j => w.heap.size ≤ j) (fun j hj h => by omega)).never hA
  have x0 : ∀ wx : World, (Instr.index 74 (.agg #[.int .i64 h.old, .int .i64 h.new, .slice ha h.marks.length hcap, .int .i64 k.old, .int .i64 k.new, .slice ka k.marks.length kcap]) (.int .i64 0)).run Tryd.prog wx = .ok (.agg #[.int .i64 h.old, .int .i64 h.new, .slice ha h.marks.length hcap]) wx := fun _ => by kernel_rfl
  have x1 : ∀ wx : World, (Instr.index 74 (.agg #[.int .i64 h.old, .int .i64 h.new, .slice ha h.marks.length hcap, .int .i64 k.old, .int .i64 k.new, .slice ka k.marks.length kcap]) (.int .i64 1)).run Tryd.prog wx = .ok (.agg #[.int .i64 k.old, .int .i64 k.new, .slice ka k.marks.length kcap]) wx := fun _ => by kernel_rfl
  go_enter Tryd.func11, Tryd.ntmps11
  go_upto_region 1 with fail
  generalize (((w.alloc (.cells #[.int .i64 h.old, .int .i64 h.new, .slice ha h.marks.length hcap] 24)).alloc (.cells #[.int .i64 k.old, .int .i64 k.new, .slice ka k.marks.length kcap] 24)).alloc (.cells #[.int .i64 0, .int .i64 0, .slice none 0 0] 24)).alloc (.cells #[.int .i64 0, .int .i64 0, .slice none 0 0] 24) = wA at hA hP hQ hZ2 hZ3 hh0 hk0 ⊢
  obtain ⟨p0, p1, p2⟩ := hP.cell
  obtain ⟨q0, q1, q2⟩ := hQ.cell
  go_wp2_with fail
  go_loopw [24] (fun i wr => ∃ j : Nat, j ≤ 2 ∧ i = .int .i64 j ∧ Hid (1 ≤ j → hunk1 h = 0) ∧ Hid (2 ≤ j → hunk1 k = 0) ∧ Chg Never wA wr) (fun i _ => 2 - (intOf i).toNat)
  case atStart => exact ⟨0, by omega, rfl, fun h => by omega, fun h => by omega, Chg.refl _ _⟩
  case round =>
    obtain ⟨j, hj, rfl, g1, g2, hw⟩ := hrel
    have hZ2 := hZ2.keep hw (fun h => h)
    have hZ3 := hZ3.keep hw (fun h => h)
    have hh := hh0.never hw
    have hk := hk0.never hw
    rcases (by omega : j = 0 ∨ j = 1 ∨ j = 2) with rfl | rfl | rfl
    · have hr := rdv_boxed_hunk (t := 24) (hh.sub (O' := Never) (fun _ _ h => h.elim))
      by_cases z : hunk1 h = 0
      · go_wp2_with fail
        refine (hunk_check_any [h] _ _ hr).mono ?_
        rintro e w1 ⟨rfl, hc1⟩
        have hw := ((hw.alloc _).alloc _).trans hc1
        rw [show (hunksFault [h]).2 = 0 from z, errV_zero]
        have Z := Lib.hid z
        clear z hZ2 hZ3 hh hk hr hc1
        go_wp2_with fail
        go_roundw
        case rel => exact ⟨1, by omega, by go_num, fun _ => Z.out, fun h => by omega, hw⟩
        case measure => simp [intOf]
      · go_wp2_with fail
        refine (hunk_check_any [h] _ _ hr).mono ?_
        rintro e w1 ⟨rfl, hc1⟩
        have hZ2 := hZ2.keep (((((Chg.refl Never wr).alloc _).alloc _).trans hc1)) (fun h => h)
        have hZ3 := hZ3.keep (((((Chg.refl Never wr).alloc _).alloc _).trans hc1)) (fun h => h)
        have hw := ((hw.alloc _).alloc _).trans hc1
        have Z := Lib.hid z
        rw [show (hunksFault [h]).2 = hunk1 h from rfl, errV_pos z]
        clear z hh hk hr hc1
        obtain ⟨z0, z1, z2⟩ := hZ2.cell
        obtain ⟨y0, y1, y2⟩ := hZ3.cell
        have zf := hZ2.free
        have yf := hZ3.free
        have S0 := cell_put_same z0
        have S1 := cell_put_same z1
        have S2 := cell_put_same z2
        have S3 := cell_put_same y0
        have S4 := cell_put_same y1
        have S5 := cell_put_same y2
        go_wp2_with fail
        refine bodyPost_ret (v := .tuple #[.agg #[.int .i64 0, .int .i64 0, .slice none 0 0], .agg #[.int .i64 0, .int .i64 0, .slice none 0 0], .iface 25 (.int .i64 (hunk1 h))]) (by simp [results, Tryd.results11, go_sem, z0, z1, z2, y0, y1, y2]) rfl ?_
        rw [swapFault_first Z.out, errV_pos Z.out]
        exact swapPost_err (by rw [swapFault_first Z.out]; exact Z.out) (hA.trans hw)
    · have hr := rdv_boxed_hunk (t := 24) (hk.sub (O' := Never) (fun _ _ h => h.elim))
      have G1 := Lib.hid (g1.out (by omega))
      by_cases z : hunk1 k = 0
      · go_wp2_with fail
        refine (hunk_check_any [k] _ _ hr).mono ?_
        rintro e w1 ⟨rfl, hc1⟩
        have hw := ((hw.alloc _).alloc _).trans hc1
        rw [show (hunksFault [k]).2 = 0 from z, errV_zero]
        have Z := Lib.hid z
        clear z hZ2 hZ3 hh hk hr hc1
        go_wp2_with fail
        go_roundw
        case rel => exact ⟨2, by omega, by go_num, fun _ => G1.out, fun _ => Z.out, hw⟩
        case measure => simp [intOf]
      · go_wp2_with fail
        refine (hunk_check_any [k] _ _ hr).mono ?_
        rintro e w1 ⟨rfl, hc1⟩
        have hZ2 := hZ2.keep (((((Chg.refl Never wr).alloc _).alloc _).trans hc1)) (fun h => h)
        have hZ3 := hZ3.keep (((((Chg.refl Never wr).alloc _).alloc _).trans hc1)) (fun h => h)
        have hw := ((hw.alloc _).alloc _).trans hc1
        have Z := Lib.hid z
        rw [show (hunksFault [k]).2 = hunk1 k from rfl, errV_pos z]
        clear z hh hk hr hc1
        obtain ⟨z0, z1, z2⟩ := hZ2.cell
        obtain ⟨y0, y1, y2⟩ := hZ3.cell
        have zf := hZ2.free
        have yf := hZ3.free
        have S0 := cell_put_same z0
        have S1 := cell_put_same z1
        have S2 := cell_put_same z2
        have S3 := cell_put_same y0
        have S4 := cell_put_same y1
        have S5 := cell_put_same y2
        go_wp2_with fail
        refine bodyPost_ret (v := .tuple #[.agg #[.int .i64 0, .int .i64 0, .slice none 0 0], .agg #[.int .i64 0, .int .i64 0, .slice none 0 0], .iface 25 (.int .i64 (hunk1 k))]) (by simp [results, Tryd.results11, go_sem, z0, z1, z2, y0, y1, y2]) rfl ?_
        rw [swapFault_second G1.out Z.out, errV_pos Z.out]
        exact swapPost_err (by rw [swapFault_second G1.out Z.out]; exact Z.out) (hA.trans hw)
    · have G1 := Lib.hid (g1.out (by omega))
      have G2 := Lib.hid (g2.out (by omega))
      have hP := hP.keep hw (fun h => h)
      have hQ := hQ.keep hw (fun h => h)
      clear g1 g2 hh0 hk0 p0 p1 p2 q0 q1 q2
      obtain ⟨p0, p1, p2⟩ := hP.cell
      obtain ⟨q0, q1, q2⟩ := hQ.cell
      obtain ⟨a1, _, a3, a4, a5, a6⟩ := hunk1_zero G1.out
      obtain ⟨b1, _, b3, b4, b5, b6⟩ := hunk1_zero G2.out
      have a1 := scriptFault_len a1
      have b1 := scriptFault_len b1
      have a7 : 0 ≤ h.new := by omega
      have b7 : 0 ≤ k.new := by omega
      clear a5 b5
      have hN := hh.sub (O' := Never) (fun _ _ h => h.elim)
      go_wp2_with fail
      refine (size_any h _ _ hN).mono ?_
      rintro e w1 ⟨rfl, hc1⟩
      have hw := hw.trans hc1
      have hh := hh.never hc1
      have hk := hk.never hc1
      have hP := hP.keep hc1 (fun h => h)
      have hQ := hQ.keep hc1 (fun h => h)
      have hZ2 := hZ2.keep hc1 (fun h => h)
      have hZ3 := hZ3.keep hc1 (fun h => h)
      obtain ⟨p0, p1, p2⟩ := hP.cell
      obtain ⟨q0, q1, q2⟩ := hQ.cell
      have hN := hk.sub (O' := Never) (fun _ _ h => h.elim)
      go_wp2_with fail
      refine (size_any k _ _ hN).mono ?_
      rintro e w2 ⟨rfl, hc2⟩
      have hw := hw.trans hc2
      have hh := hh.never hc2
      have hk := hk.never hc2
      have hP := hP.keep hc2 (fun h => h)
      have hQ := hQ.keep hc2 (fun h => h)
      have hZ2 := hZ2.keep hc2 (fun h => h)
      have hZ3 := hZ3.keep hc2 (fun h => h)
      clear hc1 hc2 p0 p1 p2 q0 q1 q2
      obtain ⟨p0, p1, p2⟩ := hP.cell
      obtain ⟨q0, q1, q2⟩ := hQ.cell
      have l1 := oldN_le h.marks
      have l2 := newN_le h.marks
      have l3 := oldN_le k.marks
      have l4 := newN_le k.marks
      have e1 : IntKind.i64.wrap (k.old + (oldN k.marks : Int)) = k.old + (oldN k.marks : Int) := IntWalk.i64_in _ (by omega)
      have e2 : IntKind.i64.wrap (h.new + (newN h.marks : Int)) = h.new + (newN h.marks : Int) := IntWalk.i64_in _ (by omega)
      obtain ⟨ab, hab⟩ : ∃ b, aheadB h k = b := ⟨_, rfl⟩
      obtain ⟨bb, hbb⟩ : ∃ b, behindB h k = b := ⟨_, rfl⟩
      have t1 : decide (k.old + (oldN k.marks : Int) ≤ h.new) = ab := hab
      have t2 : decide (h.new + (newN h.marks : Int) ≤ k.old) = bb := hbb
      have HAB := Lib.hid hab
      have HBB := Lib.hid hbb
      clear hab hbb
      go_wp2_with fail
      go_quiet (fail)
      generalize hqq : w2.drewN nq = w3
      have hq : Chg Never w2 w3 := hqq ▸ (Chg.refl Never w2).drewN _
      clear hqq t1 t2 e1 e2
      have hw := hA.trans (hw.trans hq)
      have hh := hh.never hq
      have hk := hk.never hq
      have hP := hP.keep hq (fun h => h)
      have hQ := hQ.keep hq (fun h => h)
      have hZ2 := hZ2.keep hq (fun h => h)
      have hZ3 := hZ3.keep hq (fun h => h)
      clear hq p0 p1 p2 q0 q1 q2
      go_upto_block 2 with fail
      go_cut [70] from 63 (fun _ wx => Hid (SwapMid h k w wx ∧ aheadB h k ≠ behindB h k))
      case first =>
        cases ab <;> cases bb
        · have HF := Lib.hid (swapFault_clash G1.out G2.out (by rw [HAB.out, HBB.out]))
          obtain ⟨z0, z1, z2⟩ := hZ2.cell
          obtain ⟨y0, y1, y2⟩ := hZ3.cell
          have zf := hZ2.free
          have yf := hZ3.free
          have S0 := cell_put_same z0
          have S1 := cell_put_same z1
          have S2 := cell_put_same z2
          have S3 := cell_put_same y0
          have S4 := cell_put_same y1
          have S5 := cell_put_same y2
          go_wp2_with fail
          refine bodyPost_ret (v := .tuple #[.agg #[.int .i64 0, .int .i64 0, .slice none 0 0], .agg #[.int .i64 0, .int .i64 0, .slice none 0 0], .iface 25 (.int .i64 (6))]) (by simp [results, Tryd.results11, go_sem, z0, z1, z2, y0, y1, y2]) rfl ?_
          rw [HF.out]
          exact swapPost_err (by rw [HF.out]; decide) hw
        · have HSH : Hid (swapH h k = h) := if_neg (by rw [HAB.out]; decide)
          have HSK : Hid (swapK h k = moveH k (oldN h.marks - newN h.marks)) := if_neg (by rw [HAB.out]; decide)
          have e1 : IntKind.i64.wrap ((oldN h.marks : Int) - (newN h.marks : Int)) = (oldN h.marks : Int) - (newN h.marks : Int) := IntWalk.i64_in _ (by omega)
          have hPd := hP.keep (Chg.refl Never w3).drew (fun h => h)
          have hQd := hQ.keep (Chg.refl Never w3).drew (fun h => h)
          have hhd := (hh.sub (O' := Never) (fun _ _ h => h.elim)).never (Chg.refl Never w3).drew
          have hkd := (hk.sub (O' := Never) (fun _ _ h => h.elim)).never (Chg.refl Never w3).drew
          obtain ⟨p0, p1, p2⟩ := hPd.cell
          obtain ⟨q0, q1, q2⟩ := hQd.cell
          have hBC : w.heap.size + 1 ≠ w.heap.size := by omega
          have hw4 := hw.drew
          have hZ2 := hZ2.keep (Chg.refl Never w3).drew (fun h => h)
          have hZ3 := hZ3.keep (Chg.refl Never w3).drew (fun h => h)
          have hsz := hZ3.lt
          clear hP hQ hh hk hw
          go_wp2_with fail
          go_region_with ((first | (go_at_call_of 36 (Value.int .i64 h.old); refine (moved_zero h _ _ hhd a1 (by omega) (by omega) (by omega) (by omega)).mono ?_; rintro e w4 ⟨r4, rfl, hc4, hr4⟩; obtain ⟨ra, rcap, rfl, _, _, _⟩ := rdv_slice hr4; have hP4 := hPd.keep hc4 (fun h => h); have hQ4 := hQd.keep hc4 (fun h => h); have hk4 := hkd.never hc4; obtain ⟨q40, q41, q42⟩ := hQ4.cell) | (go_at_call_of 36 (Value.int .i64 k.old); refine (moved_any k ((oldN h.marks : Int) - (newN h.marks : Int)) _ _ hk4 b1 (by omega) (by omega) (by omega) (by omega) (by omega) (by omega)).mono ?_; rintro e w5 ⟨r5, rfl, hc5, hr5⟩; obtain ⟨rb, rbcap, rfl, _, _, _⟩ := rdv_slice hr5; have hP5 := hP4.keep hc5 (fun h => h); have hQ5 := hQ4.keep hc5 (fun h => h); have hQ6 := put3_keep hBC hQ5 (.int .i64 (h.old)) (.int .i64 (h.new)) (.slice ra h.marks.length rcap); obtain ⟨p50, p51, p52⟩ := hP5.cell; have p53 := hP5.free; obtain ⟨q60, q61, q62⟩ := hQ6.cell; have q63 := hQ6.free)))
          all_goals
            have hc45 := hc4.trans hc5
            have hr4F := hr4.never hc5
            have hr5F := hr5.sub (O' := Old w3.drew.heap.size) (fun j _ hj => Nat.lt_of_lt_of_le hj hc4.size)
            have HM : Hid (SwapMid h k w _) := swapMid_of (W := (((((w5.setCell ⟨w.heap.size, 0, none⟩ (.int .i64 (h.old))).setCell ⟨w.heap.size, 1, none⟩ (.int .i64 (h.new))).setCell ⟨w.heap.size, 2, none⟩ (.slice ra h.marks.length rcap)).setCell ⟨w.heap.size + 1, 0, none⟩ (.int .i64 (k.old + ((oldN h.marks : Int) - (newN h.marks : Int))))).setCell ⟨w.heap.size + 1, 1, none⟩ (.int .i64 (k.new + ((oldN h.marks : Int) - (newN h.marks : Int))))).setCell ⟨w.heap.size + 1, 2, none⟩ (.slice rb k.marks.length rbcap)) hw4 hsz hc45 hP5 hQ5 (by rw [HSH.out]; exact hr4F) (by rw [HSK.out]; exact hr5F) hZ2 hZ3 (by rw [HSH.out, HSK.out]; exact put3_two hBC hP5 hQ5 _ _ _ _ _ _ rfl)
            clear hr4 hr5 hc4 hc5 hc45 hr4F hr5F hP5 hQ5 hQ6 hP4 hQ4 hPd hQd hZ2 hZ3 hw4
            go_wp2_with fail
            go_meet
            case rel => exact ⟨HM.out, by rw [HAB.out, HBB.out]; decide⟩
        · have HSH : Hid (swapH h k = moveH h (newN k.marks - oldN k.marks)) := if_pos HAB.out
          have HSK : Hid (swapK h k = k) := if_pos HAB.out
          have e1 : IntKind.i64.wrap ((newN k.marks : Int) - (oldN k.marks : Int)) = (newN k.marks : Int) - (oldN k.marks : Int) := IntWalk.i64_in _ (by omega)
          have hPd := hP.keep (Chg.refl Never w3).drew (fun h => h)
          have hQd := hQ.keep (Chg.refl Never w3).drew (fun h => h)
          have hhd := (hh.sub (O' := Never) (fun _ _ h => h.elim)).never (Chg.refl Never w3).drew
          have hkd := (hk.sub (O' := Never) (fun _ _ h => h.elim)).never (Chg.refl Never w3).drew
          obtain ⟨p0, p1, p2⟩ := hPd.cell
          obtain ⟨q0, q1, q2⟩ := hQd.cell
          have hBC : w.heap.size + 1 ≠ w.heap.size := by omega
          have hw4 := hw.drew
          have hZ2 := hZ2.keep (Chg.refl Never w3).drew (fun h => h)
          have hZ3 := hZ3.keep (Chg.refl Never w3).drew (fun h => h)
          have hsz := hZ3.lt
          clear hP hQ hh hk hw
          go_wp2_with fail
          go_region_with ((first | (go_at_call_of 36 (Value.int .i64 h.old); refine (moved_any h ((newN k.marks : Int) - (oldN k.marks : Int)) _ _ hhd a1 (by omega) (by omega) (by omega) (by omega) (by omega) (by omega)).mono ?_; rintro e w4 ⟨r4, rfl, hc4, hr4⟩; obtain ⟨ra, rcap, rfl, _, _, _⟩ := rdv_slice hr4; have hP4 := hPd.keep hc4 (fun h => h); have hQ4 := hQd.keep hc4 (fun h => h); have hk4 := hkd.never hc4; obtain ⟨q40, q41, q42⟩ := hQ4.cell) | (go_at_call_of 36 (Value.int .i64 k.old); refine (moved_zero k _ _ hk4 b1 (by omega) (by omega) (by omega) (by omega)).mono ?_; rintro e w5 ⟨r5, rfl, hc5, hr5⟩; obtain ⟨rb, rbcap, rfl, _, _, _⟩ := rdv_slice hr5; have hP5 := hP4.keep hc5 (fun h => h); have hQ5 := hQ4.keep hc5 (fun h => h); have hQ6 := put3_keep hBC hQ5 (.int .i64 (h.old + ((newN k.marks : Int) - (oldN k.marks : Int)))) (.int .i64 (h.new + ((newN k.marks : Int) - (oldN k.marks : Int)))) (.slice ra h.marks.length rcap); obtain ⟨p50, p51, p52⟩ := hP5.cell; have p53 := hP5.free; obtain ⟨q60, q61, q62⟩ := hQ6.cell; have q63 := hQ6.free)))
          all_goals
            have hc45 := hc4.trans hc5
            have hr4F := hr4.never hc5
            have hr5F := hr5.sub (O' := Old w3.drew.heap.size) (fun j _ hj => Nat.lt_of_lt_of_le hj hc4.size)
            have HM : Hid (SwapMid h k w _) := swapMid_of (W := (((((w5.setCell ⟨w.heap.size, 0, none⟩ (.int .i64 (h.old + ((newN k.marks : Int) - (oldN k.marks : Int))))).setCell ⟨w.heap.size, 1, none⟩ (.int .i64 (h.new + ((newN k.marks : Int) - (oldN k.marks : Int))))).setCell ⟨w.heap.size, 2, none⟩ (.slice ra h.marks.length rcap)).setCell ⟨w.heap.size + 1, 0, none⟩ (.int .i64 (k.old))).setCell ⟨w.heap.size + 1, 1, none⟩ (.int .i64 (k.new))).setCell ⟨w.heap.size + 1, 2, none⟩ (.slice rb k.marks.length rbcap)) hw4 hsz hc45 hP5 hQ5 (by rw [HSH.out]; exact hr4F) (by rw [HSK.out]; exact hr5F) hZ2 hZ3 (by rw [HSH.out, HSK.out]; exact put3_two hBC hP5 hQ5 _ _ _ _ _ _ rfl)
            clear hr4 hr5 hc4 hc5 hc45 hr4F hr5F hP5 hQ5 hQ6 hP4 hQ4 hPd hQd hZ2 hZ3 hw4
            go_wp2_with fail
            go_meet
            case rel => exact ⟨HM.out, by rw [HAB.out, HBB.out]; decide⟩
        · have HF := Lib.hid (swapFault_clash G1.out G2.out (by rw [HAB.out, HBB.out]))
          obtain ⟨z0, z1, z2⟩ := hZ2.cell
          obtain ⟨y0, y1, y2⟩ := hZ3.cell
          have zf := hZ2.free
          have yf := hZ3.free
          have S0 := cell_put_same z0
          have S1 := cell_put_same z1
          have S2 := cell_put_same z2
          have S3 := cell_put_same y0
          have S4 := cell_put_same y1
          have S5 := cell_put_same y2
          go_wp2_with fail
          refine bodyPost_ret (v := .tuple #[.agg #[.int .i64 0, .int .i64 0, .slice none 0 0], .agg #[.int .i64 0, .int .i64 0, .slice none 0 0], .iface 25 (.int .i64 (6))]) (by simp [results, Tryd.results11, go_sem, z0, z1, z2, y0, y1, y2]) rfl ?_
          rw [HF.out]
          exact swapPost_err (by rw [HF.out]; decide) hw
      case rest =>
        clear hw hh hk hP hQ hZ2 hZ3 x0 x1 hA
        obtain ⟨⟨r1, r2, hw, hP, hQ, h1, h2, hZ2, hZ3⟩, hne⟩ := hcut.out
        have HF := Lib.hid (swapFault_rest G1.out G2.out hne)
        have PO : ∀ {w' : World} {r1 r2 : Value} (z : swapFault h k = 0), _ → _ → _ → _ := fun {w'} {r1} {r2} z => swapPost_ok (h := h) (k := k) (w := w) (w' := w') (r1 := r1) (r2 := r2) z
        have PE : ∀ {w' : World} {ev : Value} (z : swapFault h k ≠ 0), _ → _ := fun {w'} {ev} z => swapPost_err (h := h) (k := k) (w := w) (w' := w') (ev := ev) z
        clear hcut hne
        generalize swapH h k = X at hP h1 HF PO
        generalize swapK h k = Y at hQ h2 HF PO
        obtain ⟨ra, rac, rfl, _, _, _⟩ := rdv_slice h1
        obtain ⟨rb, rbc, rfl, _, _, _⟩ := rdv_slice h2
        have x0 : ∀ wx : World, (Instr.index 74 (.agg #[.int .i64 Y.old, .int .i64 Y.new, .slice rb Y.marks.length rbc, .int .i64 X.old, .int .i64 X.new, .slice ra X.marks.length rac]) (.int .i64 0)).run Tryd.prog wx = .ok (.agg #[.int .i64 Y.old, .int .i64 Y.new, .slice rb Y.marks.length rbc]) wx := fun _ => by kernel_rfl
        have x1 : ∀ wx : World, (Instr.index 74 (.agg #[.int .i64 Y.old, .int .i64 Y.new, .slice rb Y.marks.length rbc, .int .i64 X.old, .int .i64 X.new, .slice ra X.marks.length rac]) (.int .i64 1)).run Tryd.prog wx = .ok (.agg #[.int .i64 X.old, .int .i64 X.new, .slice ra X.marks.length rac]) wx := fun _ => by kernel_rfl
        obtain ⟨p0, p1, p2⟩ := hP.cell
        obtain ⟨q0, q1, q2⟩ := hQ.cell
        go_wp2_with fail
        go_loopw [89] (fun i wr => ∃ j : Nat, j ≤ 2 ∧ i = .int .i64 j ∧ Hid (1 ≤ j → hunk1 Y = 0) ∧ Hid (2 ≤ j → hunk1 X = 0) ∧ Chg Never wc wr) (fun i _ => 2 - (intOf i).toNat)
        case atStart => exact ⟨0, by omega, rfl, fun h => by omega, fun h => by omega, Chg.refl _ _⟩
        case round =>
          obtain ⟨j, hj, rfl, g1, g2, hv⟩ := hrel
          have hZ2 := hZ2.keep hv (fun h => h)
          have hZ3 := hZ3.keep hv (fun h => h)
          have h1 := h1.never hv
          have h2 := h2.never hv
          rcases (by omega : j = 0 ∨ j = 1 ∨ j = 2) with rfl | rfl | rfl
          · have hr := rdv_boxed_hunk (t := 24) (h2.sub (O' := Never) (fun _ _ h => h.elim))
            by_cases z : hunk1 Y = 0
            · go_wp2_with fail
              refine (hunk_check_any [Y] _ _ hr).mono ?_
              rintro e w1 ⟨rfl, hc1⟩
              have hv := ((hv.alloc _).alloc _).trans hc1
              rw [show (hunksFault [Y]).2 = 0 from z, errV_zero]
              have Z := Lib.hid z
              clear z hZ2 hZ3 h1 h2 hr hc1
              go_wp2_with fail
              go_roundw
              case rel => exact ⟨1, by omega, by go_num, fun _ => Z.out, fun h => by omega, hv⟩
              case measure => simp [intOf]
            · go_wp2_with fail
              refine (hunk_check_any [Y] _ _ hr).mono ?_
              rintro e w1 ⟨rfl, hc1⟩
              have hZ2 := hZ2.keep (((((Chg.refl Never wr).alloc _).alloc _).trans hc1)) (fun h => h)
              have hZ3 := hZ3.keep (((((Chg.refl Never wr).alloc _).alloc _).trans hc1)) (fun h => h)
              have hv := ((hv.alloc _).alloc _).trans hc1
              have Z := Lib.hid z
              rw [show (hunksFault [Y]).2 = hunk1 Y from rfl, errV_pos z]
              clear z h1 h2 hr hc1
              obtain ⟨z0, z1, z2⟩ := hZ2.cell
              obtain ⟨y0, y1, y2⟩ := hZ3.cell
              have zf := hZ2.free
              have yf := hZ3.free
              have S0 := cell_put_same z0
              have S1 := cell_put_same z1
              have S2 := cell_put_same z2
              have S3 := cell_put_same y0
              have S4 := cell_put_same y1
              have S5 := cell_put_same y2
              go_wp2_with fail
              refine bodyPost_ret (v := .tuple #[.agg #[.int .i64 0, .int .i64 0, .slice none 0 0], .agg #[.int .i64 0, .int .i64 0, .slice none 0 0], .iface 25 (.int .i64 (hunk1 Y))]) (by simp [results, Tryd.results11, go_sem, z0, z1, z2, y0, y1, y2]) rfl ?_
              have HG := HF.out
              rw [pair_first Z.out] at HG
              rw [HG, errV_pos Z.out]
              exact PE (by rw [HG]; exact Z.out) (hw.trans hv)
          · have hr := rdv_boxed_hunk (t := 24) (h1.sub (O' := Never) (fun _ _ h => h.elim))
            have G1 := Lib.hid (g1.out (by omega))
            by_cases z : hunk1 X = 0
            · go_wp2_with fail
              refine (hunk_check_any [X] _ _ hr).mono ?_
              rintro e w1 ⟨rfl, hc1⟩
              have hv := ((hv.alloc _).alloc _).trans hc1
              rw [show (hunksFault [X]).2 = 0 from z, errV_zero]
              have Z := Lib.hid z
              clear z hZ2 hZ3 h1 h2 hr hc1
              go_wp2_with fail
              go_roundw
              case rel => exact ⟨2, by omega, by go_num, fun _ => G1.out, fun _ => Z.out, hv⟩
              case measure => simp [intOf]
            · go_wp2_with fail
              refine (hunk_check_any [X] _ _ hr).mono ?_
              rintro e w1 ⟨rfl, hc1⟩
              have hZ2 := hZ2.keep (((((Chg.refl Never wr).alloc _).alloc _).trans hc1)) (fun h => h)
              have hZ3 := hZ3.keep (((((Chg.refl Never wr).alloc _).alloc _).trans hc1)) (fun h => h)
              have hv := ((hv.alloc _).alloc _).trans hc1
              have Z := Lib.hid z
              rw [show (hunksFault [X]).2 = hunk1 X from rfl, errV_pos z]
              clear z h1 h2 hr hc1
              obtain ⟨z0, z1, z2⟩ := hZ2.cell
              obtain ⟨y0, y1, y2⟩ := hZ3.cell
              have zf := hZ2.free
              have yf := hZ3.free
              have S0 := cell_put_same z0
              have S1 := cell_put_same z1
              have S2 := cell_put_same z2
              have S3 := cell_put_same y0
              have S4 := cell_put_same y1
              have S5 := cell_put_same y2
              go_wp2_with fail
              refine bodyPost_ret (v := .tuple #[.agg #[.int .i64 0, .int .i64 0, .slice none 0 0], .agg #[.int .i64 0, .int .i64 0, .slice none 0 0], .iface 25 (.int .i64 (hunk1 X))]) (by simp [results, Tryd.results11, go_sem, z0, z1, z2, y0, y1, y2]) rfl ?_
              have HG := HF.out
              rw [pair_second G1.out] at HG
              rw [HG, errV_pos Z.out]
              exact PE (by rw [HG]; exact Z.out) (hw.trans hv)
          · have G1 := Lib.hid (g1.out (by omega))
            have G2 := Lib.hid (g2.out (by omega))
            have HG := Lib.hid (HF.out.trans (pair_of G1.out G2.out))
            have hP := hP.keep hv (fun h => h)
            have hQ := hQ.keep hv (fun h => h)
            clear g1 g2 p0 p1 p2 q0 q1 q2
            have hZ2 : Blk3 wr (w.heap.size + 1 + 1) 24 (.int .i64 0) (.int .i64 0) (.slice none 0 0) := hZ2
            have hZ3 : Blk3 wr (w.heap.size + 1 + 1 + 1) 24 (.int .i64 0) (.int .i64 0) (.slice none 0 0) := hZ3
            obtain ⟨p0, p1, p2⟩ := hP.cell
            obtain ⟨q0, q1, q2⟩ := hQ.cell
            have zf := hZ2.free
            have zf0 := zf 0
            have zf1 := zf 1
            have zf2 := zf 2
            obtain ⟨z0, z1, z2⟩ := hZ2.cell
            have hBC : w.heap.size + 1 + 1 + 1 ≠ w.heap.size + 1 + 1 := by omega
            have hY := put3_keep hBC hZ3 (.int .i64 Y.old) (.int .i64 Y.new) (.slice rb Y.marks.length rbc)
            obtain ⟨y0, y1, y2⟩ := hY.cell
            have yf := hY.free
            have yf0 := yf 0
            have yf1 := yf 1
            have yf2 := yf 2
            have hX2 := put3_keep (show w.heap.size ≠ w.heap.size + 1 + 1 by omega) hP (.int .i64 Y.old) (.int .i64 Y.new) (.slice rb Y.marks.length rbc)
            obtain ⟨x30, x31, x32⟩ := hX2.cell
            have HM := Lib.hid (put3_two hBC hZ2 hZ3 (.int .i64 Y.old) (.int .i64 Y.new) (.slice rb Y.marks.length rbc) (.int .i64 X.old) (.int .i64 X.new) (.slice ra X.marks.length rac) rfl)
            have hw := hw.trans hv
            clear hY hX2 hP hQ hZ2 hZ3 hv
            go_wp2_with fail
            go_region
            all_goals
              obtain ⟨hY, hX, hS⟩ := HM.out
              have hY := hY.keep (Chg.refl Never _).drew (fun h => h)
              have hX := hX.keep (Chg.refl Never _).drew (fun h => h)
              have h1F := (h1.keep (O'' := Never) hS (fun j _ h => by omega) (fun _ _ h => h.elim)).never (Chg.refl Never _).drew
              have h2F := (h2.keep (O'' := Never) hS (fun j _ h => by omega) (fun _ _ h => h.elim)).never (Chg.refl Never _).drew
              have hcF := (hw.trans' hS (fun j hj h => by omega)).drew
              obtain ⟨f0, f1, f2⟩ := hY.cell
              obtain ⟨g0, g1, g2⟩ := hX.cell
              clear hS HM hY hX p0 p1 p2 q0 q1 q2 z0 z1 z2 y0 y1 y2 zf yf zf0 zf1 zf2 yf0 yf1 yf2 x30 x31 x32
              go_wp2_with fail
              exact bodyPost_ret (v := .tuple #[.agg #[.int .i64 Y.old, .int .i64 Y.new, .slice rb Y.marks.length rbc], .agg #[.int .i64 X.old, .int .i64 X.new, .slice ra X.marks.length rac], .nilIface]) (by simp [results, Tryd.results11, go_sem, f0, f1, f2, g0, g1, g2]) rfl (PO HG.out hcF h1F h2F)
end Go.Proofs.YtibeddcebefbjaaDoor
namespace Go.Proofs.YtibeddcebefbjaaDoor
open Go.RowKit

theorem those_signs {l : List Mark} (h : scriptFault l = 0) {k : Nat} {x : Mark} (hx : l[k]? = some x) : x.sign = 32 ∨ x.sign = 45 ∨ x.sign = 43 := by
  have := (scriptFault_zero.1 h).2 x (List.mem_of_getElem? hx)
  unfold markFault at this
  by_cases h1 : x.sign ≠ 32 ∧ x.sign ≠ 45 ∧ x.sign ≠ 43
  · rw [if_pos h1] at this; simp at this
  · omega

set_option maxHeartbeats 1000000 in
set_option maxRecDepth 100000 in
theorem refNew_any (l : List Mark) (v : Value) (w : World) (h : Rdv w Never v l) (hz : scriptFault l = 0) :
    Calls Tryd.prog 33 #[v] w fun e w' => ∃ r, e = .returned r ∧ Chg Never w w' ∧ Rdv w' (Old w.heap.size) r (those l 45) := by
  have hlen := scriptFault_len hz
  have HZ := Lib.hid hz
  clear hz
  obtain ⟨a, cap, rfl, h1, h2, h3⟩ := rdv_slice h
  unfold maxLen at h2
  go_enter Tryd.func33, Tryd.ntmps33
  go_wp2_with fail
  go_loopw [3, 4] (fun o i wr => ∃ k : Nat, k ≤ l.length ∧ i = .int .i64 k ∧ Chg Never w wr ∧ Own 9 wr (Old w.heap.size) o (those (l.take k) 45)) (fun _ i _ => l.length - (intOf i).toNat)
  case atStart => exact ⟨0, Nat.zero_le _, rfl, Chg.refl _ _, own_nil _ _ _⟩
  case round =>
    obtain ⟨k, hk, rfl, hc, hown⟩ := hrel
    by_cases hlt : k < l.length
    · obtain ⟨x, hx⟩ : ∃ x, l[k]? = some x := ⟨l[k], by simp [hlt]⟩
      obtain ⟨b, off, rfl, _, _, c0, c1, s0, s1, hxs⟩ := elems_mark h3 hx
      have c0 := hc.cellNever c0
      have c1 := hc.cellNever c1
      have ht := Lib.hid (those_take (no := 45) hx)
      have hle := those_le (l.take k) 45
      have hle2 : (l.take k).length ≤ 120 := by simp; omega
      have hsg := those_signs HZ.out hx
      clear hx h3 h
      obtain ⟨sg, tx⟩ := x
      simp only at c0 c1 s0 s1 hxs hsg
      rcases hsg with rfl | rfl | rfl
      all_goals
        first
          | (have hno : Hid ((32 : Int) ≠ 45 ∧ True) := ⟨by decide, trivial⟩
             go_wp2_with (at_builtin; refine wpList_push (by rfl) _ _ 35 (by rfl) elemOk_str (O := Old w.heap.size) (l := those (l.take k) 45) (y := tx) (by rfl) (by rfl) (by simp) hown ⟨rfl, hxs⟩ (old_lt hc) (by omega) ?_; intro v' w2 hown2 hc2 _)
             have hc3 := own_step hc hown hc2
             clear hc2 hle hle2
             go_wp2_with fail
             go_roundw
             case rel => exact ⟨k + 1, by omega, by go_num, hc3, by rw [ht.out, if_neg (by simp)]; exact hown2⟩
             case measure => simp [intOf] <;> omega)
          | (clear hle hle2
             go_wp2_with fail
             go_roundw
             case rel => exact ⟨k + 1, by omega, by go_num, hc, by rw [ht.out, if_pos (by simp)]; exact hown⟩
             case measure => simp [intOf] <;> omega)
    · go_wp2_with fail
      go_ret
      rw [List.take_of_length_le (by omega)] at hown
      exact ⟨_, rfl, hc, hown.rdv⟩
set_option maxHeartbeats 1000000 in
set_option maxRecDepth 100000 in
theorem refOld_any (l : List Mark) (v : Value) (w : World) (h : Rdv w Never v l) (hz : scriptFault l = 0) :
    Calls Tryd.prog 32 #[v] w fun e w' => ∃ r, e = .returned r ∧ Chg Never w w' ∧ Rdv w' (Old w.heap.size) r (those l 43) := by
  have hlen := scriptFault_len hz
  have HZ := Lib.hid hz
  clear hz
  obtain ⟨a, cap, rfl, h1, h2, h3⟩ := rdv_slice h
  unfold maxLen at h2
  go_enter Tryd.func32, Tryd.ntmps32
  go_wp2_with fail
  go_loopw [3, 4] (fun o i wr => ∃ k : Nat, k ≤ l.length ∧ i = .int .i64 k ∧ Chg Never w wr ∧ Own 9 wr (Old w.heap.size) o (those (l.take k) 43)) (fun _ i _ => l.length - (intOf i).toNat)
  case atStart => exact ⟨0, Nat.zero_le _, rfl, Chg.refl _ _, own_nil _ _ _⟩
  case round =>
    obtain ⟨k, hk, rfl, hc, hown⟩ := hrel
    by_cases hlt : k < l.length
    · obtain ⟨x, hx⟩ : ∃ x, l[k]? = some x := ⟨l[k], by simp [hlt]⟩
      obtain ⟨b, off, rfl, _, _, c0, c1, s0, s1, hxs⟩ := elems_mark h3 hx
      have c0 := hc.cellNever c0
      have c1 := hc.cellNever c1
      have ht := Lib.hid (those_take (no := 43) hx)
      have hle := those_le (l.take k) 43
      have hle2 : (l.take k).length ≤ 120 := by simp; omega
      have hsg := those_signs HZ.out hx
      clear hx h3 h
      obtain ⟨sg, tx⟩ := x
      simp only at c0 c1 s0 s1 hxs hsg
      rcases hsg with rfl | rfl | rfl
      all_goals
        first
          | (have hno : Hid ((32 : Int) ≠ 43 ∧ True) := ⟨by decide, trivial⟩
             go_wp2_with (at_builtin; refine wpList_push (by rfl) _ _ 35 (by rfl) elemOk_str (O := Old w.heap.size) (l := those (l.take k) 43) (y := tx) (by rfl) (by rfl) (by simp) hown ⟨rfl, hxs⟩ (old_lt hc) (by omega) ?_; intro v' w2 hown2 hc2 _)
             have hc3 := own_step hc hown hc2
             clear hc2 hle hle2
             go_wp2_with fail
             go_roundw
             case rel => exact ⟨k + 1, by omega, by go_num, hc3, by rw [ht.out, if_neg (by simp)]; exact hown2⟩
             case measure => simp [intOf] <;> omega)
          | (clear hle hle2
             go_wp2_with fail
             go_roundw
             case rel => exact ⟨k + 1, by omega, by go_num, hc, by rw [ht.out, if_pos (by simp)]; exact hown⟩
             case measure => simp [intOf] <;> omega)
    · go_wp2_with fail
      go_ret
      rw [List.take_of_length_le (by omega)] at hown
      exact ⟨_, rfl, hc, hown.rdv⟩
end Go.Proofs.YtibeddcebefbjaaDoor
namespace Go.Proofs.YtibeddcebefbjaaDoor
open Go.RowKit

theorem nl_mem {s : ByteArray} {k : Nat} (hlt : k < s.size) (h : (((s[k]'hlt).toNat : Int) == 10) = true) : hasNl s = true := by
  unfold hasNl
  have h1 : (s[k]'hlt).toNat = 10 := by have := eq_of_beq h; omega
  have h2 : s[k]'hlt = (10 : UInt8) := UInt8.toNat_inj.1 h1
  have h3 : s.data[k]'hlt = (10 : UInt8) := h2
  rw [List.contains_iff_mem, Array.mem_toList_iff]
  rw [← h3]
  exact Array.getElem_mem _
theorem nl_none {s : ByteArray} (h : ∀ (j : Nat) (hj : j < s.size), (((s[j]'hj).toNat : Int) == 10) = false) : hasNl s = false := by
  unfold hasNl
  rw [Bool.eq_false_iff]
  intro e
  rw [List.contains_iff_mem, Array.mem_toList_iff] at e
  obtain ⟨j, hj, e⟩ := Array.mem_iff_getElem.1 e
  have := h j hj
  have h2 : s[j]'hj = (10 : UInt8) := e
  rw [h2] at this
  exact absurd this (by decide)

set_option maxHeartbeats 1000000 in
set_option maxRecDepth 100000 in
theorem refLine_any (s : ByteArray) (w : World) (hs : s.size ≤ maxLen) :
    Calls Tryd.prog 73 #[.string s] w fun e w' => e = .returned (.int .i64 (lineFault s)) ∧ Chg Never w w' := by
  unfold maxLen at hs
  go_enter Tryd.func73, Tryd.ntmps73
  go_wp2_with fail
  go_loopw [3] (fun i wr => ∃ k : Nat, k ≤ s.size ∧ i = .int .i64 k ∧ Chg Never w wr ∧ Hid (∀ (j : Nat), j < k → ∀ (hj : j < s.size), (((s[j]'hj).toNat : Int) == 10) = false)) (fun i _ => s.size - (intOf i).toNat)
  case atStart => exact ⟨0, Nat.zero_le _, rfl, Chg.refl _ _, fun j h => absurd h (Nat.not_lt_zero j)⟩
  case round =>
    obtain ⟨k, hk, rfl, hc, hf⟩ := hrel
    by_cases hlt : k < s.size
    · cases hq : (((s[k]'hlt).toNat : Int) == 10) with
      | true =>
        have HN := Lib.hid (nl_mem hlt hq)
        go_wp2_with fail
        go_ret
        exact ⟨by rw [lineFault, if_pos HN.out]; rfl, hc⟩
      | false =>
        have HQ : Hid ((((s[k]'hlt).toNat : Int) == 10) = false) := hq
        go_wp2_with fail
        go_roundw
        case rel => exact ⟨k + 1, by omega, by go_num, hc, fun j hj hj' => by
          by_cases e : j = k
          · subst e; exact HQ.out
          · exact hf.out j (by omega) hj'⟩
        case measure => simp [intOf] <;> omega
    · have HN := Lib.hid (nl_none (fun j hj => hf.out j (by omega) hj))
      clear hf
      by_cases h80 : 80 < s.size
      · go_wp2_with fail
        go_ret
        exact ⟨by rw [lineFault, if_neg (by rw [HN.out]; decide), if_pos h80]; rfl, hc⟩
      · go_wp2_with fail
        go_ret
        exact ⟨by rw [lineFault, if_neg (by rw [HN.out]; decide), if_neg h80]; rfl, hc⟩

theorem firstOf_bad {α : Type} (f : α → Int) : ∀ (l : List α) (k : Nat) (x : α), (∀ y ∈ l.take k, f y = 0) → l[k]? = some x → f x ≠ 0 → firstOf f l = f x
  | [], _, _, _, h, _ => by simp at h
  | y :: r, 0, x, _, h, hx => by
    simp only [List.getElem?_cons_zero, Option.some.injEq] at h
    subst h
    rw [firstOf, if_neg hx]
  | y :: r, k + 1, x, ha, h, hx => by
    rw [firstOf, if_pos (ha y (by simp))]
    exact firstOf_bad f r k x (fun z hz => ha z (by simp [hz])) (by simpa using h) hx
theorem take_all_succ {α : Type} {p : α → Prop} {l : List α} {k : Nat} {x : α} (h : ∀ y ∈ l.take k, p y) (hx : l[k]? = some x) (hp : p x) : ∀ y ∈ l.take (k + 1), p y := by
  intro y hy
  rw [List.take_add_one, hx] at hy
  rcases List.mem_append.1 hy with h' | h'
  · exact h y h'
  · simp at h'; rw [h']; exact hp

set_option maxHeartbeats 1000000 in
set_option maxRecDepth 100000 in
theorem refLines_any (l : List ByteArray) (v : Value) (w : World) (h : Rdv w Never v l) :
    Calls Tryd.prog 46 #[v] w fun e w' => e = .returned (.int .i64 (linesFault l)) ∧ Chg Never w w' := by
  obtain ⟨a, cap, rfl, h1, h2, h3⟩ := rdv_slice h
  unfold maxLen at h2
  by_cases h60 : 60 < l.length
  · have HF : Hid (linesFault l = 3) := if_pos h60
    go_enter Tryd.func46, Tryd.ntmps46
    go_wp2_with fail
    go_ret
    exact ⟨by rw [HF.out]; rfl, Chg.refl _ _⟩
  · have HF : Hid (linesFault l = firstOf lineFault l) := if_neg h60
    go_enter Tryd.func46, Tryd.ntmps46
    go_wp2_with fail
    go_loopw [3] (fun i wr => ∃ k : Nat, k ≤ l.length ∧ i = .int .i64 k ∧ Chg Never w wr ∧ Hid (∀ y ∈ l.take k, lineFault y = 0)) (fun i _ => l.length - (intOf i).toNat)
    case atStart => exact ⟨0, Nat.zero_le _, rfl, Chg.refl _ _, fun y hy => by simp at hy⟩
    case round =>
      obtain ⟨k, hk, rfl, hc, hf⟩ := hrel
      by_cases hlt : k < l.length
      · obtain ⟨x, hx⟩ : ∃ x, l[k]? = some x := ⟨l[k], by simp [hlt]⟩
        obtain ⟨b, off, rfl, _, _, hcx, hxs⟩ := elems_str h3 hx
        have hcx := hc.cellNever hcx
        have HX := Lib.hid hx
        clear hx h3 h
        by_cases hz : lineFault x = 0
        · have HZ := Lib.hid hz
          clear hz
          go_wp2_with fail
          refine (refLine_any x _ hxs).mono ?_
          rintro e w2 ⟨rfl, hc2⟩
          rw [HZ.out]
          have hc := hc.trans hc2
          go_wp2_with fail
          go_roundw
          case rel => exact ⟨k + 1, by omega, by go_num, hc, take_all_succ hf.out HX.out HZ.out⟩
          case measure => simp [intOf] <;> omega
        · have HB := Lib.hid (firstOf_bad lineFault l k x hf.out HX.out hz)
          have t1 : (lineFault x == 0) = false := by simp [hz]
          have t2 : (lineFault x != 0) = true := by simp [hz]
          clear hz
          go_wp2_with fail
          refine (refLine_any x _ hxs).mono ?_
          rintro e w2 ⟨rfl, hc2⟩
          have hc := hc.trans hc2
          go_wp2_with fail
          go_ret
          exact ⟨by rw [HF.out, HB.out]; rfl, hc⟩
      · have HZ := Lib.hid ((firstOf_zero lineFault l).2 (fun y hy => hf.out y (by rw [List.take_of_length_le (by omega)]; exact hy)))
        go_wp2_with fail
        go_ret
        exact ⟨by rw [HF.out, HZ.out]; rfl, hc⟩

theorem markFault_line' {sg : Int} (h : sg = 32 ∨ sg = 45 ∨ sg = 43) (tx : ByteArray) : markFault ⟨sg, tx⟩ = lineFault tx := by
  unfold markFault
  rw [if_neg (by simp only []; omega)]
set_option maxHeartbeats 2000000 in
set_option maxRecDepth 100000 in
theorem refScript_any (l : List Mark) (v : Value) (w : World) (h : Rdv w Never v l) :
    Calls Tryd.prog 65 #[v] w fun e w' => e = .returned (.int .i64 (scriptFault l)) ∧ Chg Never w w' := by
  obtain ⟨a, cap, rfl, h1, h2, h3⟩ := rdv_slice h
  unfold maxLen at h2
  by_cases h60 : 120 < l.length
  · have HF : Hid (scriptFault l = 3) := if_pos h60
    go_enter Tryd.func65, Tryd.ntmps65
    go_wp2_with fail
    go_ret
    exact ⟨by rw [HF.out]; rfl, Chg.refl _ _⟩
  · have HF : Hid (scriptFault l = firstOf markFault l) := if_neg h60
    go_enter Tryd.func65, Tryd.ntmps65
    go_wp2_with fail
    go_loopw [3] (fun i wr => ∃ k : Nat, k ≤ l.length ∧ i = .int .i64 k ∧ Chg Never w wr ∧ Hid (∀ y ∈ l.take k, markFault y = 0)) (fun i _ => l.length - (intOf i).toNat)
    case atStart => exact ⟨0, Nat.zero_le _, rfl, Chg.refl _ _, fun y hy => by simp at hy⟩
    case round =>
      obtain ⟨k, hk, rfl, hc, hf⟩ := hrel
      by_cases hlt : k < l.length
      · obtain ⟨x, hx⟩ : ∃ x, l[k]? = some x := ⟨l[k], by simp [hlt]⟩
        obtain ⟨b, off, rfl, _, _, c0, c1, s0, s1, hxs⟩ := elems_mark h3 hx
        have c0 := hc.cellNever c0
        have c1 := hc.cellNever c1
        obtain ⟨sg, tx⟩ := x
        simp only at c0 c1 s0 s1 hxs
        have HX := Lib.hid hx
        clear hx h3 h
        by_cases hs : sg = 32 ∨ sg = 45 ∨ sg = 43
        · have HM := Lib.hid (markFault_line' hs tx)
          by_cases hz : lineFault tx = 0
          · have HZ : Hid (markFault ⟨sg, tx⟩ = 0) := by rw [Hid, HM.out, hz]
            have HL := Lib.hid hz
            clear hz
            rcases hs with rfl | rfl | rfl
            all_goals
              go_wp2_with fail
              refine (refLine_any tx _ hxs).mono ?_
              rintro e w2 ⟨rfl, hc2⟩
              rw [HL.out]
              have hc := hc.trans hc2
              go_wp2_with fail
              go_roundw
              case rel => exact ⟨k + 1, by omega, by go_num, hc, take_all_succ hf.out HX.out HZ.out⟩
              case measure => simp [intOf] <;> omega
          · have HB := Lib.hid (firstOf_bad markFault l k _ hf.out HX.out (by rw [HM.out]; exact hz))
            have t1 : (lineFault tx == 0) = false := by simp [hz]
            have t2 : (lineFault tx != 0) = true := by simp [hz]
            clear hz
            rcases hs with rfl | rfl | rfl
            all_goals
              go_wp2_with fail
              refine (refLine_any tx _ hxs).mono ?_
              rintro e w2 ⟨rfl, hc2⟩
              have hc := hc.trans hc2
              go_wp2_with fail
              go_ret
              exact ⟨by rw [HF.out, HB.out, HM.out]; rfl, hc⟩
        · have HZ : Hid (markFault ⟨sg, tx⟩ = 1) := by unfold Hid markFault; rw [if_pos (by simp only []; omega)]
          have HB := Lib.hid (firstOf_bad markFault l k _ hf.out HX.out (by rw [HZ.out]; decide))
          have t1 : (sg != 32) = true := by simp; omega
          have t2 : (sg != 45) = true := by simp; omega
          have t3 : (sg != 43) = true := by simp; omega
          clear hs
          go_wp2_with fail
          go_ret
          exact ⟨by rw [HF.out, HB.out, HZ.out]; rfl, hc⟩
      · have HZ := Lib.hid ((firstOf_zero markFault l).2 (fun y hy => hf.out y (by rw [List.take_of_length_le (by omega)]; exact hy)))
        go_wp2_with fail
        go_ret
        exact ⟨by rw [HF.out, HZ.out]; rfl, hc⟩
end Go.Proofs.YtibeddcebefbjaaDoor
