/-
  PARTS: A ROW OF A BLOCK's CELLS, as a function of the place; a row of numbers that make([]int, n) has made.; THE DOCUMENT's WAY TO A SCRIPT, in plain Lean: how many lines can be kept at the most; it comes to the same script.; THE WALK of the document's common.; THE WALKS of the document's FarOf, ScriptOf.; PIECES OF A SCRIPT AS THE DOCUMENT FINDS THEM, in plain Lean: is a mark in a piece, told mark by mark.
-/
import Derived.Test.YteocmmejfnmjcaaGreatDoorPackAi13
import Derived.Test.YteocmmejfnmjcaaGreatDoorPackAi2
import Derived.Test.YteocmmejfnmjcaaGreatDoorPackAi1
import Derived.Test.YteocmmejfnmjcaaGreatDoorPackAi5
import Derived.Test.YteocmmejfnmjcaaGreatDoorPackAi3
namespace Go.Proofs.YteocmmejfnmjcaaGreatDoor
open Go.RowKit

/-- the block B has so many cells of one kind: at each place what g says -/
def ValRow (e : TypeId) (B : Nat) (wr : World) (len : Nat) (g : Nat → Value) : Prop :=
  ∃ c : Array Value, wr.heap[B]? = some (.cells c e (0, 0)) ∧ c.size = len ∧ ∀ k, k < len → c[k]? = some (g k)
theorem ValRow.cell {e : TypeId} {B : Nat} {wr : World} {len : Nat} {g : Nat → Value} (h : ValRow e B wr len g) {k : Nat} (hk : k < len) : wr.cell? ⟨B, k, none⟩ = some (g k) := by
  obtain ⟨c, h1, h2, h3⟩ := h
  simp only [World.cell?, h1]
  exact h3 k hk
theorem ValRow.lt {e : TypeId} {B : Nat} {wr : World} {len : Nat} {g : Nat → Value} (h : ValRow e B wr len g) : B < wr.heap.size := by
  obtain ⟨c, h1, _⟩ := h
  exact (Array.getElem?_eq_some_iff.1 h1).1
theorem ValRow.free {e : TypeId} {B : Nat} {wr : World} {len : Nat} {g : Nat → Value} (h : ValRow e B wr len g) (k : Nat) : wr.frozen? ⟨B, k, none⟩ = false := by
  obtain ⟨c, h1, h2, h3⟩ := h
  simp [World.frozen?, h1]
theorem ValRow.keep {e : TypeId} {B : Nat} {wr w' : World} {len : Nat} {g : Nat → Value} {O : Nat → Prop} (h : ValRow e B wr len g) (hc : Chg O wr w') (hB : ¬ O B) : ValRow e B w' len g := by
  obtain ⟨c, h1, h2⟩ := h
  refine ⟨c, ?_, h2⟩
  rw [hc.block B (Array.getElem?_eq_some_iff.1 h1).1 hB]
  exact h1
theorem ValRow.set {e : TypeId} {B : Nat} {wr : World} {len : Nat} {f : Nat → Value} (h : ValRow e B wr len f) {k : Nat} (hk : k < len) (b : Value) :
    ValRow e B (wr.setCell ⟨B, k, none⟩ b) len (fun j => if j = k then b else f j) := by
  obtain ⟨c, h1, h2, h3⟩ := h
  refine ⟨c.setIfInBounds k b, ?_, by simpa using h2, ?_⟩
  · simp [World.setCell, Array.getElem?_modify, h1]
  · intro j hj
    show _ = some (if j = k then b else f j)
    rw [Array.getElem?_setIfInBounds]
    by_cases e : j = k
    · subst e; simp [h2, hj]
    · rw [if_neg (fun h => e h.symm), if_neg e]; exact h3 j hj
theorem ValRow.other {e : TypeId} {B : Nat} {wr : World} {len : Nat} {f : Nat → Value} (h : ValRow e B wr len f) {p : Addr} (hp : p.block ≠ B) (v : Value) : ValRow e B (wr.setCell p v) len f :=
  h.keep (O := fun k => k = p.block) ((Chg.refl (fun k => k = p.block) wr).setCell (p := p) (.inr rfl) v) (fun h => hp h.symm)
theorem ValRow.congr {e : TypeId} {B : Nat} {wr : World} {len : Nat} {f g : Nat → Value} (h : ValRow e B wr len f) (hg : ∀ k, k < len → g k = f k) : ValRow e B wr len g := by
  obtain ⟨c, h1, h2, h3⟩ := h
  exact ⟨c, h1, h2, fun k hk => by rw [hg k hk]; exact h3 k hk⟩
/-- what make([]T, n) has made, T of one cell -/
theorem valRow_made {e : TypeId} {z : Value} (hz : z.cells = #[z]) {w1 : World} {B len : Nat} (h : w1.ownsRow 0 e 1 (.slice (some ⟨B, 0, none⟩) len len) len (madeCells z.cells (len * 1)).toList) : ValRow e B w1 len fun _ => z := by
  obtain ⟨_, hx⟩ := h
  rcases hx with ⟨h, _⟩ | ⟨g, cap, cur, hv, _, hh, hn, hm, hcs, htake⟩
  · cases h
  · injection hv with hv1 _ hv3
    injection hv1 with hv1
    injection hv1 with hv1
    subst hv1 hv3
    refine ⟨cur, hh, by simpa using hcs, ?_⟩
    intro k hk
    have e : cur.toList[k]? = (cur.toList.take (len * 1))[k]? := by rw [List.getElem?_take, if_pos (by omega)]
    rw [← Array.getElem?_toList, e, htake]
    simp [madeCells, hz, hk, Nat.mod_one]
end Go.Proofs.YteocmmejfnmjcaaGreatDoor
namespace Go.Proofs.YteocmmejfnmjcaaGreatDoor

/-- how many lines can be kept at the most -/
def lcs : List ByteArray → List ByteArray → Nat
  | [], _ => 0
  | _ :: _, [] => 0
  | x :: a, y :: b => if x = y then max (max (lcs a (y :: b)) (lcs (x :: a) b)) (lcs a b + 1) else max (lcs a (y :: b)) (lcs (x :: a) b)
termination_by a b => a.length + b.length
theorem lcs_nil (b : List ByteArray) : lcs [] b = 0 := by rw [lcs]
theorem lcs_nil' (a : List ByteArray) : lcs a [] = 0 := by cases a <;> rw [lcs]
theorem lcs_cons (x y : ByteArray) (a b : List ByteArray) : lcs (x :: a) (y :: b) = if x = y then max (max (lcs a (y :: b)) (lcs (x :: a) b)) (lcs a b + 1) else max (lcs a (y :: b)) (lcs (x :: a) b) := by rw [lcs]
theorem far_lcs : ∀ (n : Nat) (a b : List ByteArray), a.length + b.length = n → far a b + 2 * lcs a b = a.length + b.length := by
  intro n
  induction n using Nat.strongRecOn with
  | ind n ih =>
    intro a b hn
    cases a with
    | nil => rw [far_nil, lcs_nil]; simp
    | cons x a =>
      cases b with
      | nil => rw [far_nil', lcs_nil']; simp
      | cons y b =>
        simp only [List.length_cons] at hn ⊢
        have h1 := ih _ (by simp only [List.length_cons]; omega) a (y :: b) rfl
        have h2 := ih _ (by simp only [List.length_cons]; omega) (x :: a) b rfl
        have h3 := ih _ (by omega) a b rfl
        simp only [List.length_cons] at h1 h2
        rw [far_cons, lcs_cons]
        by_cases e : x = y
        · rw [if_pos e, if_pos e]
          have k1 := far_unput y a b
          have k2 := far_untake x a b
          omega
        · rw [if_neg e, if_neg e]
          omega
theorem far_lcs' (a b : List ByteArray) : far a b + 2 * lcs a b = a.length + b.length := far_lcs _ a b rfl
theorem lcs_le (a b : List ByteArray) : lcs a b ≤ a.length ∧ lcs a b ≤ b.length := by
  have h := far_lcs' a b
  have h1 := far_ge a b
  have h2 := far_ge b a
  rw [far_symm b a] at h2
  omega
theorem lcs_same (x : ByteArray) (a b : List ByteArray) : lcs (x :: a) (x :: b) = lcs a b + 1 := by
  have h := far_lcs' (x :: a) (x :: b)
  have h2 := far_lcs' a b
  rw [far_same] at h
  simp only [List.length_cons] at h
  omega
theorem lcs_test (x y : ByteArray) (a b : List ByteArray) : (lcs a (y :: b) = lcs (x :: a) (y :: b)) ↔ far a (y :: b) + 1 = far (x :: a) (y :: b) := by
  have h := far_lcs' (x :: a) (y :: b)
  have h2 := far_lcs' a (y :: b)
  simp only [List.length_cons] at h h2
  omega

/-- by places -/
def lcsAt (a b : List ByteArray) (i k : Nat) : Nat := lcs (a.drop i) (b.drop k)
theorem drop_cons {α : Type} {l : List α} {k : Nat} {x : α} (h : l[k]? = some x) : l.drop k = x :: l.drop (k + 1) := by
  obtain ⟨h1, h2⟩ := List.getElem?_eq_some_iff.1 h
  rw [← h2]; exact List.drop_eq_getElem_cons h1
theorem lcsAt_step {a b : List ByteArray} {i k : Nat} {x y : ByteArray} (hx : a[i]? = some x) (hy : b[k]? = some y) :
    lcsAt a b i k = if x = y then max (max (lcsAt a b (i + 1) k) (lcsAt a b i (k + 1))) (lcsAt a b (i + 1) (k + 1) + 1) else max (lcsAt a b (i + 1) k) (lcsAt a b i (k + 1)) := by
  unfold lcsAt
  conv => lhs; rw [drop_cons hx, drop_cons hy, lcs_cons]
  rw [← drop_cons hx, ← drop_cons hy]
theorem lcsAt_left (a b : List ByteArray) (k : Nat) : lcsAt a b a.length k = 0 := by unfold lcsAt; rw [List.drop_length, lcs_nil]
theorem lcsAt_right (a b : List ByteArray) (i : Nat) : lcsAt a b i b.length = 0 := by unfold lcsAt; rw [List.drop_length, lcs_nil']
theorem lcsAt_le (a b : List ByteArray) (i k : Nat) : lcsAt a b i k ≤ a.length := by
  have := (lcs_le (a.drop i) (b.drop k)).1
  unfold lcsAt
  rw [List.length_drop] at this
  omega
end Go.Proofs.YteocmmejfnmjcaaGreatDoor
namespace Go.Proofs.YteocmmejfnmjcaaGreatDoor
open Go.RowKit

abbrev slI (R m : Nat) : Value := .slice (some ⟨R, 0, none⟩) m m
/-- the table's rows from lo on are done; row j lies in the block Rf j -/
def Tab (T : Nat) (wr : World) (a b : List ByteArray) (Rf : Nat → Nat) (lo : Nat) : Prop :=
  ∃ g, ValRow 121 T wr (a.length + 1) g ∧ ∀ j, lo ≤ j → j ≤ a.length → Rf j ≠ T ∧ g j = slI (Rf j) (b.length + 1) ∧ ValRow 3 (Rf j) wr (b.length + 1) (fun k => .int .i64 (lcsAt a b j k))
/-- row i is being done in the block R -/
def Mid (T : Nat) (wr : World) (a b : List ByteArray) (Rf : Nat → Nat) (i R : Nat) (h : Nat → Int) : Prop :=
  ∃ g, ValRow 121 T wr (a.length + 1) g ∧ R ≠ T ∧ g i = slI R (b.length + 1) ∧ ValRow 3 R wr (b.length + 1) (fun k => .int .i64 (h k)) ∧
    ∀ j, i + 1 ≤ j → j ≤ a.length → Rf j ≠ T ∧ Rf j ≠ R ∧ g j = slI (Rf j) (b.length + 1) ∧ ValRow 3 (Rf j) wr (b.length + 1) (fun k => .int .i64 (lcsAt a b j k))
theorem Tab.never {T : Nat} {wr w' : World} {a b : List ByteArray} {Rf : Nat → Nat} {lo : Nat} (h : Tab T wr a b Rf lo) (hc : Chg Never wr w') : Tab T w' a b Rf lo := by
  obtain ⟨g, h1, h2⟩ := h
  refine ⟨g, h1.keep hc (fun h => h), fun j hj hj' => ?_⟩
  obtain ⟨q1, q2, q3⟩ := h2 j hj hj'
  exact ⟨q1, q2, q3.keep hc (fun h => h)⟩
theorem Mid.never {T : Nat} {wr w' : World} {a b : List ByteArray} {Rf : Nat → Nat} {i R : Nat} {h : Nat → Int} (hm : Mid T wr a b Rf i R h) (hc : Chg Never wr w') : Mid T w' a b Rf i R h := by
  obtain ⟨g, h1, h2, h3, h4, h5⟩ := hm
  refine ⟨g, h1.keep hc (fun h => h), h2, h3, h4.keep hc (fun h => h), fun j hj hj' => ?_⟩
  obtain ⟨q1, q2, q3, q4⟩ := h5 j hj hj'
  exact ⟨q1, q2, q3, q4.keep hc (fun h => h)⟩
theorem Mid.set {T : Nat} {wr : World} {a b : List ByteArray} {Rf : Nat → Nat} {i R : Nat} {h : Nat → Int} (hm : Mid T wr a b Rf i R h) {k : Nat} (hk : k ≤ b.length) (v : Int) :
    Mid T (wr.setCell ⟨R, k, none⟩ (.int .i64 v)) a b Rf i R (fun j => if j = k then v else h j) := by
  obtain ⟨g, h1, h2, h3, h4, h5⟩ := hm
  refine ⟨g, h1.other (p := ⟨R, k, none⟩) h2 _, h2, h3, (h4.set (by omega) _).congr ?_, fun j hj hj' => ?_⟩
  · intro j _
    by_cases e : j = k
    · simp [e]
    · simp [e]
  · obtain ⟨q1, q2, q3, q4⟩ := h5 j hj hj'
    exact ⟨q1, q2, q3, q4.other (p := ⟨R, k, none⟩) (fun h => q2 h.symm) _⟩
theorem Mid.facts {T : Nat} {wr : World} {a b : List ByteArray} {Rf : Nat → Nat} {i R : Nat} {h : Nat → Int} (hm : Mid T wr a b Rf i R h) (hi : i < a.length) {k : Nat} (hk : k < b.length) :
    wr.cell? ⟨T, i, none⟩ = some (slI R (b.length + 1)) ∧ wr.cell? ⟨T, i + 1, none⟩ = some (slI (Rf (i + 1)) (b.length + 1)) ∧ wr.cell? ⟨R, k, none⟩ = some (.int .i64 (h k)) ∧ wr.cell? ⟨R, k + 1, none⟩ = some (.int .i64 (h (k + 1))) ∧
    wr.cell? ⟨Rf (i + 1), k, none⟩ = some (.int .i64 (lcsAt a b (i + 1) k)) ∧ wr.cell? ⟨Rf (i + 1), k + 1, none⟩ = some (.int .i64 (lcsAt a b (i + 1) (k + 1))) ∧ wr.frozen? ⟨R, k, none⟩ = false := by
  obtain ⟨g, h1, h2, h3, h4, h5⟩ := hm
  obtain ⟨q1, q2, q3, q4⟩ := h5 (i + 1) (Nat.le_refl _) (by omega)
  exact ⟨by rw [h1.cell (by omega), h3], by rw [h1.cell (by omega), q3], h4.cell (by omega), h4.cell (by omega), q4.cell (by omega), q4.cell (by omega), h4.free k⟩
theorem Mid.congr {T : Nat} {wr : World} {a b : List ByteArray} {Rf : Nat → Nat} {i R : Nat} {h h' : Nat → Int} (hm : Mid T wr a b Rf i R h) (e : ∀ k, k ≤ b.length → h' k = h k) : Mid T wr a b Rf i R h' := by
  obtain ⟨g, h1, h2, h3, h4, h5⟩ := hm
  exact ⟨g, h1, h2, h3, h4.congr (fun k hk => by rw [e k (by omega)]), h5⟩
/-- a row begins -/
theorem Tab.mid {T : Nat} {wr w1 : World} {a b : List ByteArray} {Rf : Nat → Nat} {i R : Nat} (h : Tab T wr a b Rf (i + 1)) (hi : i ≤ a.length) (hc : Chg Never wr w1) (hR : wr.heap.size ≤ R) (hr : ValRow 3 R w1 (b.length + 1) (fun _ => .int .i64 0)) :
    Mid T (w1.setCell ⟨T, i, none⟩ (slI R (b.length + 1))) a b Rf i R (fun _ => 0) := by
  obtain ⟨g, h1, h2⟩ := h
  have hTR : R ≠ T := by have := h1.lt; omega
  refine ⟨_, (h1.keep hc (fun h => h)).set (k := i) (by omega) (slI R (b.length + 1)), hTR, by simp, hr.other (p := ⟨T, i, none⟩) (fun h => hTR h.symm) _, fun j hj hj' => ?_⟩
  obtain ⟨q1, q2, q3⟩ := h2 j hj hj'
  have hlt := q3.lt
  exact ⟨q1, by omega, by rw [if_neg (by omega)]; exact q2, (q3.keep hc (fun h => h)).other (p := ⟨T, i, none⟩) (fun h => q1 h.symm) _⟩
/-- a row ends -/
theorem Mid.tab {T : Nat} {wr : World} {a b : List ByteArray} {Rf : Nat → Nat} {i R : Nat} (hm : Mid T wr a b Rf i R (fun k => lcsAt a b i k)) : Tab T wr a b (fun j => if j = i then R else Rf j) i := by
  obtain ⟨g, h1, h2, h3, h4, h5⟩ := hm
  refine ⟨g, h1, fun j hj hj' => ?_⟩
  by_cases e : j = i
  · subst e
    simp only [if_pos rfl, if_true]
    exact ⟨h2, h3, h4⟩
  · simp only [if_neg e]
    obtain ⟨q1, q2, q3, q4⟩ := h5 j (by omega) hj'
    exact ⟨q1, q3, q4⟩
/-- how far a row is done -/
def rowTo (a b : List ByteArray) (i lo : Nat) (k : Nat) : Int := if lo ≤ k then lcsAt a b i k else 0
theorem rowTo_zero (a b : List ByteArray) (i : Nat) : rowTo a b i 0 = fun k => (lcsAt a b i k : Int) := by funext k; simp [rowTo]
theorem rowTo_step {a b : List ByteArray} {i k : Nat} {v : Int} (e : v = lcsAt a b i k) (j : Nat) : rowTo a b i k j = if j = k then v else rowTo a b i (k + 1) j := by
  unfold rowTo
  by_cases h : j = k
  · subst h; simp [e]
  · rw [if_neg h]
    by_cases h2 : k ≤ j
    · rw [if_pos h2, if_pos (by omega)]
    · rw [if_neg h2, if_neg (by omega)]
theorem rowTo_skip {a b : List ByteArray} {i k : Nat} (e : lcsAt a b i k = 0) (j : Nat) : rowTo a b i k j = rowTo a b i (k + 1) j := by
  rw [rowTo_step (v := 0) (by rw [e]; rfl) j]
  split
  · rename_i h; subst h; unfold rowTo; rw [if_neg (by omega)]
  · rfl

theorem zero_sl (w : World) : (zeroValue 121).run Tryz.prog w = .ok (.slice none 0 0) w := by kernel_rfl
set_option maxHeartbeats 4000000 in
set_option maxRecDepth 100000 in
theorem common_any (a b : List ByteArray) (va vb : Value) (w : World) (ha : Rdv w Never va a) (hb : Rdv w Never vb b) (hla : a.length ≤ 60) (hlb : b.length ≤ 60) :
    Calls Tryz.prog 70 #[va, vb] w fun e w' => e = .returned (slI w.heap.size (a.length + 1)) ∧ Chg Never w w' ∧ ∃ Rf, Tab w.heap.size w' a b Rf 0 := by
  obtain ⟨aa, acap, rfl, h1, h2, h3⟩ := rdv_slice ha
  obtain ⟨ba, bcap, rfl, g1, g2, g3⟩ := rdv_slice hb
  unfold maxLen at h2 g2
  obtain ⟨ib, ib1, ib2, ib3, ib4⟩ := info_parts (show (Tryz.prog.info? 3).map (fun i => (i.zero, i.size, i.bytes)) = some (some (.int .i64 0), 1, 8) by kernel_rfl)
  obtain ⟨is, is1, is2, is3, is4⟩ := info_parts (show (Tryz.prog.info? 121).map (fun i => (i.zero, i.size, i.bytes)) = some (some (.slice none 0 0), 1, 24) by kernel_rfl)
  go_enter Tryz.func70, Tryz.ntmps70
  go_wp2_with (at_make; refine wpList_make_full _ rfl _ _ 119 rfl 0 121 is (.slice none 0 0) 1 Tryz.underlying119 is1 is2 is3 .i64 .i64 _ _ (a.length + 1) rfl rfl rfl rfl (by rw [is4]; omega) (by unfold maxLen; omega) (Nat.zero_le _) ?_; intro w1 hown hgrow)
  have hT := valRow_made (z := .slice none 0 0) rfl hown
  have hc := (Chg.refl Never w).trans' (Chg.of_grown hgrow) (fun _ _ h => by cases h)
  have hTab : Tab w.heap.size w1 a b (fun _ => 0) (a.length + 1) := ⟨_, hT, fun j h1 h2 => by omega⟩
  clear hown hgrow hT ha hb
  go_loopw [6, 7] (fun i _ wr => ∃ (x : Int) (Rf : Nat → Nat), -1 ≤ x ∧ x ≤ a.length ∧ i = .int .i64 x ∧ Chg Never w wr ∧ Tab w.heap.size wr a b Rf (x + 1).toNat) (fun i _ _ => (intOf i + 1).toNat)
  case atStart => exact ⟨a.length, _, by omega, by omega, rfl, hc, by simpa using hTab⟩
  case round =>
    clear hTab hc
    obtain ⟨x, Rf, hx0, hx1, rfl, hc, hTab⟩ := hrel
    by_cases hx : 0 ≤ x
    · obtain ⟨i, rfl⟩ := Int.eq_ofNat_of_zero_le hx
      have hi : i ≤ a.length := by omega
      rw [show ((i : Int) + 1).toNat = i + 1 by omega] at hTab
      obtain ⟨g, hTg, hrows⟩ := id hTab
      have hTlt := hTg.lt
      have d0 := hTg.cell (k := i) (by omega)
      have b1 : (i : Int) < (a.length : Int) + 1 := by omega
      go_wp2_with (at_make; refine wpList_make_full _ rfl _ _ 121 rfl 0 3 ib (.int .i64 0) 1 Tryz.underlying121 ib1 ib2 ib3 .i64 .i64 _ _ (b.length + 1) rfl rfl rfl rfl (by rw [ib4]; omega) (by unfold maxLen; omega) (Nat.zero_le _) ?_; intro w1 hown hgrow; have hr := valRow_made (z := .int .i64 0) rfl hown; have hcg := (Chg.of_grown hgrow).mono (O' := Never) (fun _ _ h => by cases h); clear hown hgrow; have d1 := hcg.cellNever d0; have d2 := (hTg.keep hcg (fun h => h)).free i)
      have hM := hTab.mid hi hcg (Nat.le_refl _) hr
      have hc1 := (hc.trans hcg).setCell (p := ⟨w.heap.size, i, none⟩) (.inl (Nat.le_refl _)) (slI wr.heap.size (b.length + 1))
      have hRge := hc.size
      clear hTab hTg hrows d0 d1 d2 hcg hr hc hTlt
      generalize World.setCell _ _ _ = w2 at hM hc1 ⊢
      generalize wr.heap.size = R at hM hRge ⊢
      go_loopw [7] (fun k wr' => ∃ y : Int, -1 ≤ y ∧ y ≤ b.length ∧ k = .int .i64 y ∧ Chg Never w wr' ∧ Mid w.heap.size wr' a b Rf i R (rowTo a b i (y + 1).toNat)) (fun k _ => (intOf k + 1).toNat)
      case atStart => exact ⟨b.length, by omega, by omega, rfl, hc1, hM.congr (fun k hk => by unfold rowTo; rw [if_neg (by omega)])⟩
      case round =>
        clear hM hc1
        obtain ⟨y, hy0, hy1, rfl, hc, hM⟩ := hrel
        by_cases hy : 0 ≤ y
        · obtain ⟨k, rfl⟩ := Int.eq_ofNat_of_zero_le hy
          rw [show ((k : Int) + 1).toNat = k + 1 by omega] at hM
          by_cases hin : i = a.length
          · have t1 : ((i : Int) == a.length) = true := by simp [hin]
            have HL := Lib.hid (show lcsAt a b i k = 0 by rw [hin]; exact lcsAt_left a b k)
            clear hin
            go_wp2_with fail
            go_roundw
            case rel => exact ⟨(k : Int) - 1, by omega, by omega, rfl, hc, by
              rw [show ((k : Int) - 1 + 1).toNat = k by omega]
              exact hM.congr (fun j _ => rowTo_skip HL.out j)⟩
            case measure => simp [intOf] <;> omega
          · have t1 : ((i : Int) == a.length) = false := by simp; omega
            by_cases hkm : k = b.length
            · have t2 : ((k : Int) == b.length) = true := by simp [hkm]
              have HL := Lib.hid (show lcsAt a b i k = 0 by rw [hkm]; exact lcsAt_right a b i)
              clear hkm
              go_wp2_with fail
              go_roundw
              case rel => exact ⟨(k : Int) - 1, by omega, by omega, rfl, hc, by
                rw [show ((k : Int) - 1 + 1).toNat = k by omega]
                exact hM.congr (fun j _ => rowTo_skip HL.out j)⟩
              case measure => simp [intOf] <;> omega
            · have t2 : ((k : Int) == b.length) = false := by simp; omega
              have b3 : i < a.length := by omega
              have b4 : k < b.length := by omega
              have b5 : (i : Int) < a.length := by omega
              have b6 : (k : Int) < b.length := by omega
              have hk4 : k ≤ b.length := by omega
              have hkne : ¬ (k + 1 = k) := by omega
              have hV : rowTo a b i (k + 1) (k + 1) = lcsAt a b i (k + 1) := by unfold rowTo; rw [if_pos (Nat.le_refl _)]
              clear hin hkm
              obtain ⟨s, hs⟩ : ∃ s, a[i]? = some s := ⟨a[i], by simp [b3]⟩
              obtain ⟨t, ht⟩ : ∃ t, b[k]? = some t := ⟨b[k], by simp [b4]⟩
              obtain ⟨p, off, rfl, _, _, hcx0, hxs⟩ := elems_str h3 hs
              obtain ⟨p', off', rfl, _, _, hcy0, hys⟩ := elems_str g3 ht
              have HLS := Lib.hid (lcsAt_step hs ht)
              have u1 := lcsAt_le a b (i + 1) k
              have u2 := lcsAt_le a b i (k + 1)
              have u3 := lcsAt_le a b (i + 1) (k + 1)
              clear h3 g3 hs ht
              by_cases hVU : lcsAt a b (i + 1) k < lcsAt a b i (k + 1)
              · by_cases hxy : s = t
                · subst hxy
                  have eZ : IntKind.i64.wrap (((lcsAt a b (i + 1) (k + 1) : Nat) : Int) + 1) = ((lcsAt a b (i + 1) (k + 1) : Nat) : Int) + 1 := IntWalk.i64_in _ (by omega)
                  by_cases hZ : lcsAt a b i (k + 1) < lcsAt a b (i + 1) (k + 1) + 1
                  · have HR : Hid ((((lcsAt a b (i + 1) (k + 1) : Nat) : Int) + 1) = lcsAt a b i k) := by rw [Hid, HLS.out, if_pos rfl, Nat.max_eq_right (a := lcsAt a b (i + 1) k) (by omega), Nat.max_eq_right (by omega)]; rfl
                    have hZ2 : ((lcsAt a b i (k + 1) : Nat) : Int) < ((lcsAt a b (i + 1) (k + 1) : Nat) : Int) + 1 := by omega
                    go_wp2_with fail
                    have e1 : IntKind.i64.wrap ((i : Int) + 1) = (i : Int) + 1 := IntWalk.i64_in _ (by omega)
                    have e2 : IntKind.i64.wrap ((k : Int) + 1) = (k : Int) + 1 := IntWalk.i64_in _ (by omega)
                    have e3 : (0 : Int) ≤ (i : Int) + 1 := by omega
                    have e4 : (0 : Int) ≤ (k : Int) + 1 := by omega
                    have e5 : (i : Int) + 1 < (a.length : Int) + 1 := by omega
                    have e6 : (k : Int) + 1 < (b.length : Int) + 1 := by omega
                    have e7 : ((i : Int) + 1).toNat = i + 1 := by omega
                    have e8 : ((k : Int) + 1).toNat = k + 1 := by omega
                    have e9 : (i : Int) < (a.length : Int) + 1 := by omega
                    have e10 : (k : Int) < (b.length : Int) + 1 := by omega
                    obtain ⟨f1, f2, f3, f4, f5, f6, f7⟩ := hM.facts b3 b4
                    simp only [if_true, if_neg hkne, hV] at f3 f4
                    refine wp_region_still_tail 14 (by kernel_rfl) (by kernel_rfl) ?_
                    simp only [List.take_succ_cons, List.take_zero, List.drop_succ_cons, List.drop_zero]
                    change wpStill _ _ wr.drew _ _ _
                    repeat still_step
                    refine wpStill_nil ?_
                    change wpList _ _ _ _ _ wr.drew
                    clear f1 f2 f3 f4 f5 f6 f7
                    have hM3 := hM.never ((Chg.refl Never wr).drew)
                    have hc3 := hc.drew
                    clear hM hc
                    generalize wr.drew = w3 at hM3 hc3 ⊢
                    obtain ⟨f1, f2, f3, f4, f5, f6, f7⟩ := hM3.facts b3 b4
                    simp only [if_true, if_neg hkne, hV] at f3 f4
                    go_wp2_with fail
                    clear e1 e2 e3 e4 e5 e6 e7 e8 e9 e10
                    clear f1 f2 f3 f4 f5 f6 f7
                    have hM4 := hM3.set hk4 ((lcsAt a b (i + 1) k : Nat) : Int)
                    have hc4 := hc3.setCell (p := ⟨R, k, none⟩) (.inl hRge) (.int .i64 ((lcsAt a b (i + 1) k : Nat) : Int))
                    clear hM3 hc3
                    generalize w3.setCell ⟨R, k, none⟩ (.int .i64 ((lcsAt a b (i + 1) k : Nat) : Int)) = w4 at hM4 hc4 ⊢
                    have e1 : IntKind.i64.wrap ((i : Int) + 1) = (i : Int) + 1 := IntWalk.i64_in _ (by omega)
                    have e2 : IntKind.i64.wrap ((k : Int) + 1) = (k : Int) + 1 := IntWalk.i64_in _ (by omega)
                    have e3 : (0 : Int) ≤ (i : Int) + 1 := by omega
                    have e4 : (0 : Int) ≤ (k : Int) + 1 := by omega
                    have e5 : (i : Int) + 1 < (a.length : Int) + 1 := by omega
                    have e6 : (k : Int) + 1 < (b.length : Int) + 1 := by omega
                    have e7 : ((i : Int) + 1).toNat = i + 1 := by omega
                    have e8 : ((k : Int) + 1).toNat = k + 1 := by omega
                    have e9 : (i : Int) < (a.length : Int) + 1 := by omega
                    have e10 : (k : Int) < (b.length : Int) + 1 := by omega
                    obtain ⟨f1, f2, f3, f4, f5, f6, f7⟩ := hM4.facts b3 b4
                    simp only [if_true, if_neg hkne, hV] at f3 f4
                    have hcx := hc4.cellNever hcx0
                    have hcy := hc4.cellNever hcy0
                    go_quiet (fail)
                    go_wp2_with fail
                    clear e1 e2 e3 e4 e5 e6 e7 e8 e9 e10
                    clear f1 f2 f3 f4 f5 f6 f7 hcx hcy
                    generalize hw5 : World.drewN w4 _ = w5
                    have hM5 := hw5 ▸ hM4.never ((Chg.refl Never w4).drewN _)
                    have hc5 := hw5 ▸ hc4.drewN _
                    clear hw5 hM4 hc4
                    have e1 : IntKind.i64.wrap ((i : Int) + 1) = (i : Int) + 1 := IntWalk.i64_in _ (by omega)
                    have e2 : IntKind.i64.wrap ((k : Int) + 1) = (k : Int) + 1 := IntWalk.i64_in _ (by omega)
                    have e3 : (0 : Int) ≤ (i : Int) + 1 := by omega
                    have e4 : (0 : Int) ≤ (k : Int) + 1 := by omega
                    have e5 : (i : Int) + 1 < (a.length : Int) + 1 := by omega
                    have e6 : (k : Int) + 1 < (b.length : Int) + 1 := by omega
                    have e7 : ((i : Int) + 1).toNat = i + 1 := by omega
                    have e8 : ((k : Int) + 1).toNat = k + 1 := by omega
                    have e9 : (i : Int) < (a.length : Int) + 1 := by omega
                    have e10 : (k : Int) < (b.length : Int) + 1 := by omega
                    obtain ⟨f1, f2, f3, f4, f5, f6, f7⟩ := hM5.facts b3 b4
                    simp only [if_true, if_neg hkne, hV] at f3 f4
                    refine wp_region_still_tail 14 (by kernel_rfl) (by kernel_rfl) ?_
                    simp only [List.take_succ_cons, List.take_zero, List.drop_succ_cons, List.drop_zero]
                    change wpStill _ _ w5.drew _ _ _
                    repeat still_step
                    refine wpStill_nil ?_
                    change wpList _ _ _ _ _ w5.drew
                    clear f1 f2 f3 f4 f5 f6 f7
                    have hM3 := hM5.never ((Chg.refl Never w5).drew)
                    have hc3 := hc5.drew
                    clear hM5 hc5
                    generalize w5.drew = w6 at hM3 hc3 ⊢
                    obtain ⟨f1, f2, f3, f4, f5, f6, f7⟩ := hM3.facts b3 b4
                    simp only [if_true, if_neg hkne, hV] at f3 f4
                    go_wp2_with fail
                    clear e1 e2 e3 e4 e5 e6 e7 e8 e9 e10
                    clear f1 f2 f3 f4 f5 f6 f7
                    have hM7 := hM3.set hk4 ((lcsAt a b i (k + 1) : Nat) : Int)
                    have hc7 := hc3.setCell (p := ⟨R, k, none⟩) (.inl hRge) (.int .i64 ((lcsAt a b i (k + 1) : Nat) : Int))
                    clear hM3 hc3
                    generalize w6.setCell ⟨R, k, none⟩ (.int .i64 ((lcsAt a b i (k + 1) : Nat) : Int)) = w7 at hM7 hc7 ⊢
                    have e1 : IntKind.i64.wrap ((i : Int) + 1) = (i : Int) + 1 := IntWalk.i64_in _ (by omega)
                    have e2 : IntKind.i64.wrap ((k : Int) + 1) = (k : Int) + 1 := IntWalk.i64_in _ (by omega)
                    have e3 : (0 : Int) ≤ (i : Int) + 1 := by omega
                    have e4 : (0 : Int) ≤ (k : Int) + 1 := by omega
                    have e5 : (i : Int) + 1 < (a.length : Int) + 1 := by omega
                    have e6 : (k : Int) + 1 < (b.length : Int) + 1 := by omega
                    have e7 : ((i : Int) + 1).toNat = i + 1 := by omega
                    have e8 : ((k : Int) + 1).toNat = k + 1 := by omega
                    have e9 : (i : Int) < (a.length : Int) + 1 := by omega
                    have e10 : (k : Int) < (b.length : Int) + 1 := by omega
                    obtain ⟨f1, f2, f3, f4, f5, f6, f7⟩ := hM7.facts b3 b4
                    simp only [if_true, if_neg hkne, hV] at f3 f4
                    have hcx := hc7.cellNever hcx0
                    have hcy := hc7.cellNever hcy0
                    go_quiet (fail)
                    go_wp2_with fail
                    clear e1 e2 e3 e4 e5 e6 e7 e8 e9 e10
                    clear f1 f2 f3 f4 f5 f6 f7 hcx hcy
                    generalize hw5 : World.drewN w7 _ = w8
                    have hM8 := hw5 ▸ hM7.never ((Chg.refl Never w7).drewN _)
                    have hc8 := hw5 ▸ hc7.drewN _
                    clear hw5 hM7 hc7
                    have e1 : IntKind.i64.wrap ((i : Int) + 1) = (i : Int) + 1 := IntWalk.i64_in _ (by omega)
                    have e2 : IntKind.i64.wrap ((k : Int) + 1) = (k : Int) + 1 := IntWalk.i64_in _ (by omega)
                    have e3 : (0 : Int) ≤ (i : Int) + 1 := by omega
                    have e4 : (0 : Int) ≤ (k : Int) + 1 := by omega
                    have e5 : (i : Int) + 1 < (a.length : Int) + 1 := by omega
                    have e6 : (k : Int) + 1 < (b.length : Int) + 1 := by omega
                    have e7 : ((i : Int) + 1).toNat = i + 1 := by omega
                    have e8 : ((k : Int) + 1).toNat = k + 1 := by omega
                    have e9 : (i : Int) < (a.length : Int) + 1 := by omega
                    have e10 : (k : Int) < (b.length : Int) + 1 := by omega
                    obtain ⟨f1, f2, f3, f4, f5, f6, f7⟩ := hM8.facts b3 b4
                    simp only [if_true, if_neg hkne, hV] at f3 f4
                    refine wp_region_still_tail 16 (by kernel_rfl) (by kernel_rfl) ?_
                    simp only [List.take_succ_cons, List.take_zero, List.drop_succ_cons, List.drop_zero]
                    change wpStill _ _ w8.drew _ _ _
                    repeat still_step
                    refine wpStill_nil ?_
                    change wpList _ _ _ _ _ w8.drew
                    clear f1 f2 f3 f4 f5 f6 f7
                    have hM3 := hM8.never ((Chg.refl Never w8).drew)
                    have hc3 := hc8.drew
                    clear hM8 hc8
                    generalize w8.drew = w9 at hM3 hc3 ⊢
                    obtain ⟨f1, f2, f3, f4, f5, f6, f7⟩ := hM3.facts b3 b4
                    simp only [if_true, if_neg hkne, hV] at f3 f4
                    go_wp2_with fail
                    clear e1 e2 e3 e4 e5 e6 e7 e8 e9 e10
                    clear f1 f2 f3 f4 f5 f6 f7
                    have hM10 := hM3.set hk4 (((lcsAt a b (i + 1) (k + 1) : Nat) : Int) + 1)
                    have hc10 := hc3.setCell (p := ⟨R, k, none⟩) (.inl hRge) (.int .i64 (((lcsAt a b (i + 1) (k + 1) : Nat) : Int) + 1))
                    clear hM3 hc3
                    generalize w9.setCell ⟨R, k, none⟩ (.int .i64 (((lcsAt a b (i + 1) (k + 1) : Nat) : Int) + 1)) = w10 at hM10 hc10 ⊢
                    go_roundw
                    case rel => exact ⟨(k : Int) - 1, by omega, by omega, rfl, hc10, by
                      rw [show ((k : Int) - 1 + 1).toNat = k by omega]
                      exact hM10.congr (fun j _ => by first | exact rowTo_step HR.out j | (rw [rowTo_step HR.out]; by_cases h : j = k <;> simp [h]))⟩
                    case measure => simp [intOf] <;> omega
                  · have HR : Hid (((lcsAt a b i (k + 1) : Nat) : Int) = lcsAt a b i k) := by rw [Hid, HLS.out, if_pos rfl, Nat.max_eq_right (a := lcsAt a b (i + 1) k) (by omega), Nat.max_eq_left (by omega)]
                    have hZ2 : ¬ (((lcsAt a b i (k + 1) : Nat) : Int) < ((lcsAt a b (i + 1) (k + 1) : Nat) : Int) + 1) := by omega
                    go_wp2_with fail
                    have e1 : IntKind.i64.wrap ((i : Int) + 1) = (i : Int) + 1 := IntWalk.i64_in _ (by omega)
                    have e2 : IntKind.i64.wrap ((k : Int) + 1) = (k : Int) + 1 := IntWalk.i64_in _ (by omega)
                    have e3 : (0 : Int) ≤ (i : Int) + 1 := by omega
                    have e4 : (0 : Int) ≤ (k : Int) + 1 := by omega
                    have e5 : (i : Int) + 1 < (a.length : Int) + 1 := by omega
                    have e6 : (k : Int) + 1 < (b.length : Int) + 1 := by omega
                    have e7 : ((i : Int) + 1).toNat = i + 1 := by omega
                    have e8 : ((k : Int) + 1).toNat = k + 1 := by omega
                    have e9 : (i : Int) < (a.length : Int) + 1 := by omega
                    have e10 : (k : Int) < (b.length : Int) + 1 := by omega
                    obtain ⟨f1, f2, f3, f4, f5, f6, f7⟩ := hM.facts b3 b4
                    simp only [if_true, if_neg hkne, hV] at f3 f4
                    refine wp_region_still_tail 14 (by kernel_rfl) (by kernel_rfl) ?_
                    simp only [List.take_succ_cons, List.take_zero, List.drop_succ_cons, List.drop_zero]
                    change wpStill _ _ wr.drew _ _ _
                    repeat still_step
                    refine wpStill_nil ?_
                    change wpList _ _ _ _ _ wr.drew
                    clear f1 f2 f3 f4 f5 f6 f7
                    have hM3 := hM.never ((Chg.refl Never wr).drew)
                    have hc3 := hc.drew
                    clear hM hc
                    generalize wr.drew = w3 at hM3 hc3 ⊢
                    obtain ⟨f1, f2, f3, f4, f5, f6, f7⟩ := hM3.facts b3 b4
                    simp only [if_true, if_neg hkne, hV] at f3 f4
                    go_wp2_with fail
                    clear e1 e2 e3 e4 e5 e6 e7 e8 e9 e10
                    clear f1 f2 f3 f4 f5 f6 f7
                    have hM4 := hM3.set hk4 ((lcsAt a b (i + 1) k : Nat) : Int)
                    have hc4 := hc3.setCell (p := ⟨R, k, none⟩) (.inl hRge) (.int .i64 ((lcsAt a b (i + 1) k : Nat) : Int))
                    clear hM3 hc3
                    generalize w3.setCell ⟨R, k, none⟩ (.int .i64 ((lcsAt a b (i + 1) k : Nat) : Int)) = w4 at hM4 hc4 ⊢
                    have e1 : IntKind.i64.wrap ((i : Int) + 1) = (i : Int) + 1 := IntWalk.i64_in _ (by omega)
                    have e2 : IntKind.i64.wrap ((k : Int) + 1) = (k : Int) + 1 := IntWalk.i64_in _ (by omega)
                    have e3 : (0 : Int) ≤ (i : Int) + 1 := by omega
                    have e4 : (0 : Int) ≤ (k : Int) + 1 := by omega
                    have e5 : (i : Int) + 1 < (a.length : Int) + 1 := by omega
                    have e6 : (k : Int) + 1 < (b.length : Int) + 1 := by omega
                    have e7 : ((i : Int) + 1).toNat = i + 1 := by omega
                    have e8 : ((k : Int) + 1).toNat = k + 1 := by omega
                    have e9 : (i : Int) < (a.length : Int) + 1 := by omega
                    have e10 : (k : Int) < (b.length : Int) + 1 := by omega
                    obtain ⟨f1, f2, f3, f4, f5, f6, f7⟩ := hM4.facts b3 b4
                    simp only [if_true, if_neg hkne, hV] at f3 f4
                    have hcx := hc4.cellNever hcx0
                    have hcy := hc4.cellNever hcy0
                    go_quiet (fail)
                    go_wp2_with fail
                    clear e1 e2 e3 e4 e5 e6 e7 e8 e9 e10
                    clear f1 f2 f3 f4 f5 f6 f7 hcx hcy
                    generalize hw5 : World.drewN w4 _ = w5
                    have hM5 := hw5 ▸ hM4.never ((Chg.refl Never w4).drewN _)
                    have hc5 := hw5 ▸ hc4.drewN _
                    clear hw5 hM4 hc4
                    have e1 : IntKind.i64.wrap ((i : Int) + 1) = (i : Int) + 1 := IntWalk.i64_in _ (by omega)
                    have e2 : IntKind.i64.wrap ((k : Int) + 1) = (k : Int) + 1 := IntWalk.i64_in _ (by omega)
                    have e3 : (0 : Int) ≤ (i : Int) + 1 := by omega
                    have e4 : (0 : Int) ≤ (k : Int) + 1 := by omega
                    have e5 : (i : Int) + 1 < (a.length : Int) + 1 := by omega
                    have e6 : (k : Int) + 1 < (b.length : Int) + 1 := by omega
                    have e7 : ((i : Int) + 1).toNat = i + 1 := by omega
                    have e8 : ((k : Int) + 1).toNat = k + 1 := by omega
                    have e9 : (i : Int) < (a.length : Int) + 1 := by omega
                    have e10 : (k : Int) < (b.length : Int) + 1 := by omega
                    obtain ⟨f1, f2, f3, f4, f5, f6, f7⟩ := hM5.facts b3 b4
                    simp only [if_true, if_neg hkne, hV] at f3 f4
                    refine wp_region_still_tail 14 (by kernel_rfl) (by kernel_rfl) ?_
                    simp only [List.take_succ_cons, List.take_zero, List.drop_succ_cons, List.drop_zero]
                    change wpStill _ _ w5.drew _ _ _
                    repeat still_step
                    refine wpStill_nil ?_
                    change wpList _ _ _ _ _ w5.drew
                    clear f1 f2 f3 f4 f5 f6 f7
                    have hM3 := hM5.never ((Chg.refl Never w5).drew)
                    have hc3 := hc5.drew
                    clear hM5 hc5
                    generalize w5.drew = w6 at hM3 hc3 ⊢
                    obtain ⟨f1, f2, f3, f4, f5, f6, f7⟩ := hM3.facts b3 b4
                    simp only [if_true, if_neg hkne, hV] at f3 f4
                    go_wp2_with fail
                    clear e1 e2 e3 e4 e5 e6 e7 e8 e9 e10
                    clear f1 f2 f3 f4 f5 f6 f7
                    have hM7 := hM3.set hk4 ((lcsAt a b i (k + 1) : Nat) : Int)
                    have hc7 := hc3.setCell (p := ⟨R, k, none⟩) (.inl hRge) (.int .i64 ((lcsAt a b i (k + 1) : Nat) : Int))
                    clear hM3 hc3
                    generalize w6.setCell ⟨R, k, none⟩ (.int .i64 ((lcsAt a b i (k + 1) : Nat) : Int)) = w7 at hM7 hc7 ⊢
                    have e1 : IntKind.i64.wrap ((i : Int) + 1) = (i : Int) + 1 := IntWalk.i64_in _ (by omega)
                    have e2 : IntKind.i64.wrap ((k : Int) + 1) = (k : Int) + 1 := IntWalk.i64_in _ (by omega)
                    have e3 : (0 : Int) ≤ (i : Int) + 1 := by omega
                    have e4 : (0 : Int) ≤ (k : Int) + 1 := by omega
                    have e5 : (i : Int) + 1 < (a.length : Int) + 1 := by omega
                    have e6 : (k : Int) + 1 < (b.length : Int) + 1 := by omega
                    have e7 : ((i : Int) + 1).toNat = i + 1 := by omega
                    have e8 : ((k : Int) + 1).toNat = k + 1 := by omega
                    have e9 : (i : Int) < (a.length : Int) + 1 := by omega
                    have e10 : (k : Int) < (b.length : Int) + 1 := by omega
                    obtain ⟨f1, f2, f3, f4, f5, f6, f7⟩ := hM7.facts b3 b4
                    simp only [if_true, if_neg hkne, hV] at f3 f4
                    have hcx := hc7.cellNever hcx0
                    have hcy := hc7.cellNever hcy0
                    go_quiet (fail)
                    go_wp2_with fail
                    clear e1 e2 e3 e4 e5 e6 e7 e8 e9 e10
                    clear f1 f2 f3 f4 f5 f6 f7 hcx hcy
                    generalize hw5 : World.drewN w7 _ = w8
                    have hM8 := hw5 ▸ hM7.never ((Chg.refl Never w7).drewN _)
                    have hc8 := hw5 ▸ hc7.drewN _
                    clear hw5 hM7 hc7
                    go_roundw
                    case rel => exact ⟨(k : Int) - 1, by omega, by omega, rfl, hc8, by
                      rw [show ((k : Int) - 1 + 1).toNat = k by omega]
                      exact hM8.congr (fun j _ => by first | exact rowTo_step HR.out j | (rw [rowTo_step HR.out]; by_cases h : j = k <;> simp [h]))⟩
                    case measure => simp [intOf] <;> omega
                · have hne := str_beq_false hxy
                  have HR : Hid (((lcsAt a b i (k + 1) : Nat) : Int) = lcsAt a b i k) := by rw [Hid, HLS.out, if_neg hxy, Nat.max_eq_right (by omega)]
                  go_wp2_with fail
                  have e1 : IntKind.i64.wrap ((i : Int) + 1) = (i : Int) + 1 := IntWalk.i64_in _ (by omega)
                  have e2 : IntKind.i64.wrap ((k : Int) + 1) = (k : Int) + 1 := IntWalk.i64_in _ (by omega)
                  have e3 : (0 : Int) ≤ (i : Int) + 1 := by omega
                  have e4 : (0 : Int) ≤ (k : Int) + 1 := by omega
                  have e5 : (i : Int) + 1 < (a.length : Int) + 1 := by omega
                  have e6 : (k : Int) + 1 < (b.length : Int) + 1 := by omega
                  have e7 : ((i : Int) + 1).toNat = i + 1 := by omega
                  have e8 : ((k : Int) + 1).toNat = k + 1 := by omega
                  have e9 : (i : Int) < (a.length : Int) + 1 := by omega
                  have e10 : (k : Int) < (b.length : Int) + 1 := by omega
                  obtain ⟨f1, f2, f3, f4, f5, f6, f7⟩ := hM.facts b3 b4
                  simp only [if_true, if_neg hkne, hV] at f3 f4
                  refine wp_region_still_tail 14 (by kernel_rfl) (by kernel_rfl) ?_
                  simp only [List.take_succ_cons, List.take_zero, List.drop_succ_cons, List.drop_zero]
                  change wpStill _ _ wr.drew _ _ _
                  repeat still_step
                  refine wpStill_nil ?_
                  change wpList _ _ _ _ _ wr.drew
                  clear f1 f2 f3 f4 f5 f6 f7
                  have hM3 := hM.never ((Chg.refl Never wr).drew)
                  have hc3 := hc.drew
                  clear hM hc
                  generalize wr.drew = w3 at hM3 hc3 ⊢
                  obtain ⟨f1, f2, f3, f4, f5, f6, f7⟩ := hM3.facts b3 b4
                  simp only [if_true, if_neg hkne, hV] at f3 f4
                  go_wp2_with fail
                  clear e1 e2 e3 e4 e5 e6 e7 e8 e9 e10
                  clear f1 f2 f3 f4 f5 f6 f7
                  have hM4 := hM3.set hk4 ((lcsAt a b (i + 1) k : Nat) : Int)
                  have hc4 := hc3.setCell (p := ⟨R, k, none⟩) (.inl hRge) (.int .i64 ((lcsAt a b (i + 1) k : Nat) : Int))
                  clear hM3 hc3
                  generalize w3.setCell ⟨R, k, none⟩ (.int .i64 ((lcsAt a b (i + 1) k : Nat) : Int)) = w4 at hM4 hc4 ⊢
                  have e1 : IntKind.i64.wrap ((i : Int) + 1) = (i : Int) + 1 := IntWalk.i64_in _ (by omega)
                  have e2 : IntKind.i64.wrap ((k : Int) + 1) = (k : Int) + 1 := IntWalk.i64_in _ (by omega)
                  have e3 : (0 : Int) ≤ (i : Int) + 1 := by omega
                  have e4 : (0 : Int) ≤ (k : Int) + 1 := by omega
                  have e5 : (i : Int) + 1 < (a.length : Int) + 1 := by omega
                  have e6 : (k : Int) + 1 < (b.length : Int) + 1 := by omega
                  have e7 : ((i : Int) + 1).toNat = i + 1 := by omega
                  have e8 : ((k : Int) + 1).toNat = k + 1 := by omega
                  have e9 : (i : Int) < (a.length : Int) + 1 := by omega
                  have e10 : (k : Int) < (b.length : Int) + 1 := by omega
                  obtain ⟨f1, f2, f3, f4, f5, f6, f7⟩ := hM4.facts b3 b4
                  simp only [if_true, if_neg hkne, hV] at f3 f4
                  have hcx := hc4.cellNever hcx0
                  have hcy := hc4.cellNever hcy0
                  go_quiet (fail)
                  go_wp2_with fail
                  clear e1 e2 e3 e4 e5 e6 e7 e8 e9 e10
                  clear f1 f2 f3 f4 f5 f6 f7 hcx hcy
                  generalize hw5 : World.drewN w4 _ = w5
                  have hM5 := hw5 ▸ hM4.never ((Chg.refl Never w4).drewN _)
                  have hc5 := hw5 ▸ hc4.drewN _
                  clear hw5 hM4 hc4
                  have e1 : IntKind.i64.wrap ((i : Int) + 1) = (i : Int) + 1 := IntWalk.i64_in _ (by omega)
                  have e2 : IntKind.i64.wrap ((k : Int) + 1) = (k : Int) + 1 := IntWalk.i64_in _ (by omega)
                  have e3 : (0 : Int) ≤ (i : Int) + 1 := by omega
                  have e4 : (0 : Int) ≤ (k : Int) + 1 := by omega
                  have e5 : (i : Int) + 1 < (a.length : Int) + 1 := by omega
                  have e6 : (k : Int) + 1 < (b.length : Int) + 1 := by omega
                  have e7 : ((i : Int) + 1).toNat = i + 1 := by omega
                  have e8 : ((k : Int) + 1).toNat = k + 1 := by omega
                  have e9 : (i : Int) < (a.length : Int) + 1 := by omega
                  have e10 : (k : Int) < (b.length : Int) + 1 := by omega
                  obtain ⟨f1, f2, f3, f4, f5, f6, f7⟩ := hM5.facts b3 b4
                  simp only [if_true, if_neg hkne, hV] at f3 f4
                  refine wp_region_still_tail 14 (by kernel_rfl) (by kernel_rfl) ?_
                  simp only [List.take_succ_cons, List.take_zero, List.drop_succ_cons, List.drop_zero]
                  change wpStill _ _ w5.drew _ _ _
                  repeat still_step
                  refine wpStill_nil ?_
                  change wpList _ _ _ _ _ w5.drew
                  clear f1 f2 f3 f4 f5 f6 f7
                  have hM3 := hM5.never ((Chg.refl Never w5).drew)
                  have hc3 := hc5.drew
                  clear hM5 hc5
                  generalize w5.drew = w6 at hM3 hc3 ⊢
                  obtain ⟨f1, f2, f3, f4, f5, f6, f7⟩ := hM3.facts b3 b4
                  simp only [if_true, if_neg hkne, hV] at f3 f4
                  go_wp2_with fail
                  clear e1 e2 e3 e4 e5 e6 e7 e8 e9 e10
                  clear f1 f2 f3 f4 f5 f6 f7
                  have hM7 := hM3.set hk4 ((lcsAt a b i (k + 1) : Nat) : Int)
                  have hc7 := hc3.setCell (p := ⟨R, k, none⟩) (.inl hRge) (.int .i64 ((lcsAt a b i (k + 1) : Nat) : Int))
                  clear hM3 hc3
                  generalize w6.setCell ⟨R, k, none⟩ (.int .i64 ((lcsAt a b i (k + 1) : Nat) : Int)) = w7 at hM7 hc7 ⊢
                  have e1 : IntKind.i64.wrap ((i : Int) + 1) = (i : Int) + 1 := IntWalk.i64_in _ (by omega)
                  have e2 : IntKind.i64.wrap ((k : Int) + 1) = (k : Int) + 1 := IntWalk.i64_in _ (by omega)
                  have e3 : (0 : Int) ≤ (i : Int) + 1 := by omega
                  have e4 : (0 : Int) ≤ (k : Int) + 1 := by omega
                  have e5 : (i : Int) + 1 < (a.length : Int) + 1 := by omega
                  have e6 : (k : Int) + 1 < (b.length : Int) + 1 := by omega
                  have e7 : ((i : Int) + 1).toNat = i + 1 := by omega
                  have e8 : ((k : Int) + 1).toNat = k + 1 := by omega
                  have e9 : (i : Int) < (a.length : Int) + 1 := by omega
                  have e10 : (k : Int) < (b.length : Int) + 1 := by omega
                  obtain ⟨f1, f2, f3, f4, f5, f6, f7⟩ := hM7.facts b3 b4
                  simp only [if_true, if_neg hkne, hV] at f3 f4
                  have hcx := hc7.cellNever hcx0
                  have hcy := hc7.cellNever hcy0
                  go_quiet (fail)
                  go_wp2_with fail
                  clear e1 e2 e3 e4 e5 e6 e7 e8 e9 e10
                  clear f1 f2 f3 f4 f5 f6 f7 hcx hcy
                  generalize hw5 : World.drewN w7 _ = w8
                  have hM8 := hw5 ▸ hM7.never ((Chg.refl Never w7).drewN _)
                  have hc8 := hw5 ▸ hc7.drewN _
                  clear hw5 hM7 hc7
                  go_roundw
                  case rel => exact ⟨(k : Int) - 1, by omega, by omega, rfl, hc8, by
                    rw [show ((k : Int) - 1 + 1).toNat = k by omega]
                    exact hM8.congr (fun j _ => by first | exact rowTo_step HR.out j | (rw [rowTo_step HR.out]; by_cases h : j = k <;> simp [h]))⟩
                  case measure => simp [intOf] <;> omega
              · by_cases hxy : s = t
                · subst hxy
                  have eZ : IntKind.i64.wrap (((lcsAt a b (i + 1) (k + 1) : Nat) : Int) + 1) = ((lcsAt a b (i + 1) (k + 1) : Nat) : Int) + 1 := IntWalk.i64_in _ (by omega)
                  by_cases hZ : lcsAt a b (i + 1) k < lcsAt a b (i + 1) (k + 1) + 1
                  · have HR : Hid ((((lcsAt a b (i + 1) (k + 1) : Nat) : Int) + 1) = lcsAt a b i k) := by rw [Hid, HLS.out, if_pos rfl, Nat.max_eq_left (b := lcsAt a b i (k + 1)) (by omega), Nat.max_eq_right (by omega)]; rfl
                    have hZ2 : ((lcsAt a b (i + 1) k : Nat) : Int) < ((lcsAt a b (i + 1) (k + 1) : Nat) : Int) + 1 := by omega
                    go_wp2_with fail
                    have e1 : IntKind.i64.wrap ((i : Int) + 1) = (i : Int) + 1 := IntWalk.i64_in _ (by omega)
                    have e2 : IntKind.i64.wrap ((k : Int) + 1) = (k : Int) + 1 := IntWalk.i64_in _ (by omega)
                    have e3 : (0 : Int) ≤ (i : Int) + 1 := by omega
                    have e4 : (0 : Int) ≤ (k : Int) + 1 := by omega
                    have e5 : (i : Int) + 1 < (a.length : Int) + 1 := by omega
                    have e6 : (k : Int) + 1 < (b.length : Int) + 1 := by omega
                    have e7 : ((i : Int) + 1).toNat = i + 1 := by omega
                    have e8 : ((k : Int) + 1).toNat = k + 1 := by omega
                    have e9 : (i : Int) < (a.length : Int) + 1 := by omega
                    have e10 : (k : Int) < (b.length : Int) + 1 := by omega
                    obtain ⟨f1, f2, f3, f4, f5, f6, f7⟩ := hM.facts b3 b4
                    simp only [if_true, if_neg hkne, hV] at f3 f4
                    refine wp_region_still_tail 14 (by kernel_rfl) (by kernel_rfl) ?_
                    simp only [List.take_succ_cons, List.take_zero, List.drop_succ_cons, List.drop_zero]
                    change wpStill _ _ wr.drew _ _ _
                    repeat still_step
                    refine wpStill_nil ?_
                    change wpList _ _ _ _ _ wr.drew
                    clear f1 f2 f3 f4 f5 f6 f7
                    have hM3 := hM.never ((Chg.refl Never wr).drew)
                    have hc3 := hc.drew
                    clear hM hc
                    generalize wr.drew = w3 at hM3 hc3 ⊢
                    obtain ⟨f1, f2, f3, f4, f5, f6, f7⟩ := hM3.facts b3 b4
                    simp only [if_true, if_neg hkne, hV] at f3 f4
                    go_wp2_with fail
                    clear e1 e2 e3 e4 e5 e6 e7 e8 e9 e10
                    clear f1 f2 f3 f4 f5 f6 f7
                    have hM4 := hM3.set hk4 ((lcsAt a b (i + 1) k : Nat) : Int)
                    have hc4 := hc3.setCell (p := ⟨R, k, none⟩) (.inl hRge) (.int .i64 ((lcsAt a b (i + 1) k : Nat) : Int))
                    clear hM3 hc3
                    generalize w3.setCell ⟨R, k, none⟩ (.int .i64 ((lcsAt a b (i + 1) k : Nat) : Int)) = w4 at hM4 hc4 ⊢
                    have e1 : IntKind.i64.wrap ((i : Int) + 1) = (i : Int) + 1 := IntWalk.i64_in _ (by omega)
                    have e2 : IntKind.i64.wrap ((k : Int) + 1) = (k : Int) + 1 := IntWalk.i64_in _ (by omega)
                    have e3 : (0 : Int) ≤ (i : Int) + 1 := by omega
                    have e4 : (0 : Int) ≤ (k : Int) + 1 := by omega
                    have e5 : (i : Int) + 1 < (a.length : Int) + 1 := by omega
                    have e6 : (k : Int) + 1 < (b.length : Int) + 1 := by omega
                    have e7 : ((i : Int) + 1).toNat = i + 1 := by omega
                    have e8 : ((k : Int) + 1).toNat = k + 1 := by omega
                    have e9 : (i : Int) < (a.length : Int) + 1 := by omega
                    have e10 : (k : Int) < (b.length : Int) + 1 := by omega
                    obtain ⟨f1, f2, f3, f4, f5, f6, f7⟩ := hM4.facts b3 b4
                    simp only [if_true, if_neg hkne, hV] at f3 f4
                    have hcx := hc4.cellNever hcx0
                    have hcy := hc4.cellNever hcy0
                    go_quiet (fail)
                    go_wp2_with fail
                    clear e1 e2 e3 e4 e5 e6 e7 e8 e9 e10
                    clear f1 f2 f3 f4 f5 f6 f7 hcx hcy
                    generalize hw5 : World.drewN w4 _ = w5
                    have hM5 := hw5 ▸ hM4.never ((Chg.refl Never w4).drewN _)
                    have hc5 := hw5 ▸ hc4.drewN _
                    clear hw5 hM4 hc4
                    have e1 : IntKind.i64.wrap ((i : Int) + 1) = (i : Int) + 1 := IntWalk.i64_in _ (by omega)
                    have e2 : IntKind.i64.wrap ((k : Int) + 1) = (k : Int) + 1 := IntWalk.i64_in _ (by omega)
                    have e3 : (0 : Int) ≤ (i : Int) + 1 := by omega
                    have e4 : (0 : Int) ≤ (k : Int) + 1 := by omega
                    have e5 : (i : Int) + 1 < (a.length : Int) + 1 := by omega
                    have e6 : (k : Int) + 1 < (b.length : Int) + 1 := by omega
                    have e7 : ((i : Int) + 1).toNat = i + 1 := by omega
                    have e8 : ((k : Int) + 1).toNat = k + 1 := by omega
                    have e9 : (i : Int) < (a.length : Int) + 1 := by omega
                    have e10 : (k : Int) < (b.length : Int) + 1 := by omega
                    obtain ⟨f1, f2, f3, f4, f5, f6, f7⟩ := hM5.facts b3 b4
                    simp only [if_true, if_neg hkne, hV] at f3 f4
                    have hcx := hc5.cellNever hcx0
                    have hcy := hc5.cellNever hcy0
                    go_quiet (fail)
                    go_wp2_with fail
                    clear e1 e2 e3 e4 e5 e6 e7 e8 e9 e10
                    clear f1 f2 f3 f4 f5 f6 f7 hcx hcy
                    generalize hw5 : World.drewN w5 _ = w6
                    have hM6 := hw5 ▸ hM5.never ((Chg.refl Never w5).drewN _)
                    have hc6 := hw5 ▸ hc5.drewN _
                    clear hw5 hM5 hc5
                    have e1 : IntKind.i64.wrap ((i : Int) + 1) = (i : Int) + 1 := IntWalk.i64_in _ (by omega)
                    have e2 : IntKind.i64.wrap ((k : Int) + 1) = (k : Int) + 1 := IntWalk.i64_in _ (by omega)
                    have e3 : (0 : Int) ≤ (i : Int) + 1 := by omega
                    have e4 : (0 : Int) ≤ (k : Int) + 1 := by omega
                    have e5 : (i : Int) + 1 < (a.length : Int) + 1 := by omega
                    have e6 : (k : Int) + 1 < (b.length : Int) + 1 := by omega
                    have e7 : ((i : Int) + 1).toNat = i + 1 := by omega
                    have e8 : ((k : Int) + 1).toNat = k + 1 := by omega
                    have e9 : (i : Int) < (a.length : Int) + 1 := by omega
                    have e10 : (k : Int) < (b.length : Int) + 1 := by omega
                    obtain ⟨f1, f2, f3, f4, f5, f6, f7⟩ := hM6.facts b3 b4
                    simp only [if_true, if_neg hkne, hV] at f3 f4
                    refine wp_region_still_tail 16 (by kernel_rfl) (by kernel_rfl) ?_
                    simp only [List.take_succ_cons, List.take_zero, List.drop_succ_cons, List.drop_zero]
                    change wpStill _ _ w6.drew _ _ _
                    repeat still_step
                    refine wpStill_nil ?_
                    change wpList _ _ _ _ _ w6.drew
                    clear f1 f2 f3 f4 f5 f6 f7
                    have hM3 := hM6.never ((Chg.refl Never w6).drew)
                    have hc3 := hc6.drew
                    clear hM6 hc6
                    generalize w6.drew = w9 at hM3 hc3 ⊢
                    obtain ⟨f1, f2, f3, f4, f5, f6, f7⟩ := hM3.facts b3 b4
                    simp only [if_true, if_neg hkne, hV] at f3 f4
                    go_wp2_with fail
                    clear e1 e2 e3 e4 e5 e6 e7 e8 e9 e10
                    clear f1 f2 f3 f4 f5 f6 f7
                    have hM10 := hM3.set hk4 (((lcsAt a b (i + 1) (k + 1) : Nat) : Int) + 1)
                    have hc10 := hc3.setCell (p := ⟨R, k, none⟩) (.inl hRge) (.int .i64 (((lcsAt a b (i + 1) (k + 1) : Nat) : Int) + 1))
                    clear hM3 hc3
                    generalize w9.setCell ⟨R, k, none⟩ (.int .i64 (((lcsAt a b (i + 1) (k + 1) : Nat) : Int) + 1)) = w10 at hM10 hc10 ⊢
                    go_roundw
                    case rel => exact ⟨(k : Int) - 1, by omega, by omega, rfl, hc10, by
                      rw [show ((k : Int) - 1 + 1).toNat = k by omega]
                      exact hM10.congr (fun j _ => by first | exact rowTo_step HR.out j | (rw [rowTo_step HR.out]; by_cases h : j = k <;> simp [h]))⟩
                    case measure => simp [intOf] <;> omega
                  · have HR : Hid (((lcsAt a b (i + 1) k : Nat) : Int) = lcsAt a b i k) := by rw [Hid, HLS.out, if_pos rfl, Nat.max_eq_left (b := lcsAt a b i (k + 1)) (by omega), Nat.max_eq_left (by omega)]
                    have hZ2 : ¬ (((lcsAt a b (i + 1) k : Nat) : Int) < ((lcsAt a b (i + 1) (k + 1) : Nat) : Int) + 1) := by omega
                    go_wp2_with fail
                    have e1 : IntKind.i64.wrap ((i : Int) + 1) = (i : Int) + 1 := IntWalk.i64_in _ (by omega)
                    have e2 : IntKind.i64.wrap ((k : Int) + 1) = (k : Int) + 1 := IntWalk.i64_in _ (by omega)
                    have e3 : (0 : Int) ≤ (i : Int) + 1 := by omega
                    have e4 : (0 : Int) ≤ (k : Int) + 1 := by omega
                    have e5 : (i : Int) + 1 < (a.length : Int) + 1 := by omega
                    have e6 : (k : Int) + 1 < (b.length : Int) + 1 := by omega
                    have e7 : ((i : Int) + 1).toNat = i + 1 := by omega
                    have e8 : ((k : Int) + 1).toNat = k + 1 := by omega
                    have e9 : (i : Int) < (a.length : Int) + 1 := by omega
                    have e10 : (k : Int) < (b.length : Int) + 1 := by omega
                    obtain ⟨f1, f2, f3, f4, f5, f6, f7⟩ := hM.facts b3 b4
                    simp only [if_true, if_neg hkne, hV] at f3 f4
                    refine wp_region_still_tail 14 (by kernel_rfl) (by kernel_rfl) ?_
                    simp only [List.take_succ_cons, List.take_zero, List.drop_succ_cons, List.drop_zero]
                    change wpStill _ _ wr.drew _ _ _
                    repeat still_step
                    refine wpStill_nil ?_
                    change wpList _ _ _ _ _ wr.drew
                    clear f1 f2 f3 f4 f5 f6 f7
                    have hM3 := hM.never ((Chg.refl Never wr).drew)
                    have hc3 := hc.drew
                    clear hM hc
                    generalize wr.drew = w3 at hM3 hc3 ⊢
                    obtain ⟨f1, f2, f3, f4, f5, f6, f7⟩ := hM3.facts b3 b4
                    simp only [if_true, if_neg hkne, hV] at f3 f4
                    go_wp2_with fail
                    clear e1 e2 e3 e4 e5 e6 e7 e8 e9 e10
                    clear f1 f2 f3 f4 f5 f6 f7
                    have hM4 := hM3.set hk4 ((lcsAt a b (i + 1) k : Nat) : Int)
                    have hc4 := hc3.setCell (p := ⟨R, k, none⟩) (.inl hRge) (.int .i64 ((lcsAt a b (i + 1) k : Nat) : Int))
                    clear hM3 hc3
                    generalize w3.setCell ⟨R, k, none⟩ (.int .i64 ((lcsAt a b (i + 1) k : Nat) : Int)) = w4 at hM4 hc4 ⊢
                    have e1 : IntKind.i64.wrap ((i : Int) + 1) = (i : Int) + 1 := IntWalk.i64_in _ (by omega)
                    have e2 : IntKind.i64.wrap ((k : Int) + 1) = (k : Int) + 1 := IntWalk.i64_in _ (by omega)
                    have e3 : (0 : Int) ≤ (i : Int) + 1 := by omega
                    have e4 : (0 : Int) ≤ (k : Int) + 1 := by omega
                    have e5 : (i : Int) + 1 < (a.length : Int) + 1 := by omega
                    have e6 : (k : Int) + 1 < (b.length : Int) + 1 := by omega
                    have e7 : ((i : Int) + 1).toNat = i + 1 := by omega
                    have e8 : ((k : Int) + 1).toNat = k + 1 := by omega
                    have e9 : (i : Int) < (a.length : Int) + 1 := by omega
                    have e10 : (k : Int) < (b.length : Int) + 1 := by omega
                    obtain ⟨f1, f2, f3, f4, f5, f6, f7⟩ := hM4.facts b3 b4
                    simp only [if_true, if_neg hkne, hV] at f3 f4
                    have hcx := hc4.cellNever hcx0
                    have hcy := hc4.cellNever hcy0
                    go_quiet (fail)
                    go_wp2_with fail
                    clear e1 e2 e3 e4 e5 e6 e7 e8 e9 e10
                    clear f1 f2 f3 f4 f5 f6 f7 hcx hcy
                    generalize hw5 : World.drewN w4 _ = w5
                    have hM5 := hw5 ▸ hM4.never ((Chg.refl Never w4).drewN _)
                    have hc5 := hw5 ▸ hc4.drewN _
                    clear hw5 hM4 hc4
                    have e1 : IntKind.i64.wrap ((i : Int) + 1) = (i : Int) + 1 := IntWalk.i64_in _ (by omega)
                    have e2 : IntKind.i64.wrap ((k : Int) + 1) = (k : Int) + 1 := IntWalk.i64_in _ (by omega)
                    have e3 : (0 : Int) ≤ (i : Int) + 1 := by omega
                    have e4 : (0 : Int) ≤ (k : Int) + 1 := by omega
                    have e5 : (i : Int) + 1 < (a.length : Int) + 1 := by omega
                    have e6 : (k : Int) + 1 < (b.length : Int) + 1 := by omega
                    have e7 : ((i : Int) + 1).toNat = i + 1 := by omega
                    have e8 : ((k : Int) + 1).toNat = k + 1 := by omega
                    have e9 : (i : Int) < (a.length : Int) + 1 := by omega
                    have e10 : (k : Int) < (b.length : Int) + 1 := by omega
                    obtain ⟨f1, f2, f3, f4, f5, f6, f7⟩ := hM5.facts b3 b4
                    simp only [if_true, if_neg hkne, hV] at f3 f4
                    have hcx := hc5.cellNever hcx0
                    have hcy := hc5.cellNever hcy0
                    go_quiet (fail)
                    go_wp2_with fail
                    clear e1 e2 e3 e4 e5 e6 e7 e8 e9 e10
                    clear f1 f2 f3 f4 f5 f6 f7 hcx hcy
                    generalize hw5 : World.drewN w5 _ = w6
                    have hM6 := hw5 ▸ hM5.never ((Chg.refl Never w5).drewN _)
                    have hc6 := hw5 ▸ hc5.drewN _
                    clear hw5 hM5 hc5
                    go_roundw
                    case rel => exact ⟨(k : Int) - 1, by omega, by omega, rfl, hc6, by
                      rw [show ((k : Int) - 1 + 1).toNat = k by omega]
                      exact hM6.congr (fun j _ => by first | exact rowTo_step HR.out j | (rw [rowTo_step HR.out]; by_cases h : j = k <;> simp [h]))⟩
                    case measure => simp [intOf] <;> omega
                · have hne := str_beq_false hxy
                  have HR : Hid (((lcsAt a b (i + 1) k : Nat) : Int) = lcsAt a b i k) := by rw [Hid, HLS.out, if_neg hxy, Nat.max_eq_left (by omega)]
                  go_wp2_with fail
                  have e1 : IntKind.i64.wrap ((i : Int) + 1) = (i : Int) + 1 := IntWalk.i64_in _ (by omega)
                  have e2 : IntKind.i64.wrap ((k : Int) + 1) = (k : Int) + 1 := IntWalk.i64_in _ (by omega)
                  have e3 : (0 : Int) ≤ (i : Int) + 1 := by omega
                  have e4 : (0 : Int) ≤ (k : Int) + 1 := by omega
                  have e5 : (i : Int) + 1 < (a.length : Int) + 1 := by omega
                  have e6 : (k : Int) + 1 < (b.length : Int) + 1 := by omega
                  have e7 : ((i : Int) + 1).toNat = i + 1 := by omega
                  have e8 : ((k : Int) + 1).toNat = k + 1 := by omega
                  have e9 : (i : Int) < (a.length : Int) + 1 := by omega
                  have e10 : (k : Int) < (b.length : Int) + 1 := by omega
                  obtain ⟨f1, f2, f3, f4, f5, f6, f7⟩ := hM.facts b3 b4
                  simp only [if_true, if_neg hkne, hV] at f3 f4
                  refine wp_region_still_tail 14 (by kernel_rfl) (by kernel_rfl) ?_
                  simp only [List.take_succ_cons, List.take_zero, List.drop_succ_cons, List.drop_zero]
                  change wpStill _ _ wr.drew _ _ _
                  repeat still_step
                  refine wpStill_nil ?_
                  change wpList _ _ _ _ _ wr.drew
                  clear f1 f2 f3 f4 f5 f6 f7
                  have hM3 := hM.never ((Chg.refl Never wr).drew)
                  have hc3 := hc.drew
                  clear hM hc
                  generalize wr.drew = w3 at hM3 hc3 ⊢
                  obtain ⟨f1, f2, f3, f4, f5, f6, f7⟩ := hM3.facts b3 b4
                  simp only [if_true, if_neg hkne, hV] at f3 f4
                  go_wp2_with fail
                  clear e1 e2 e3 e4 e5 e6 e7 e8 e9 e10
                  clear f1 f2 f3 f4 f5 f6 f7
                  have hM4 := hM3.set hk4 ((lcsAt a b (i + 1) k : Nat) : Int)
                  have hc4 := hc3.setCell (p := ⟨R, k, none⟩) (.inl hRge) (.int .i64 ((lcsAt a b (i + 1) k : Nat) : Int))
                  clear hM3 hc3
                  generalize w3.setCell ⟨R, k, none⟩ (.int .i64 ((lcsAt a b (i + 1) k : Nat) : Int)) = w4 at hM4 hc4 ⊢
                  have e1 : IntKind.i64.wrap ((i : Int) + 1) = (i : Int) + 1 := IntWalk.i64_in _ (by omega)
                  have e2 : IntKind.i64.wrap ((k : Int) + 1) = (k : Int) + 1 := IntWalk.i64_in _ (by omega)
                  have e3 : (0 : Int) ≤ (i : Int) + 1 := by omega
                  have e4 : (0 : Int) ≤ (k : Int) + 1 := by omega
                  have e5 : (i : Int) + 1 < (a.length : Int) + 1 := by omega
                  have e6 : (k : Int) + 1 < (b.length : Int) + 1 := by omega
                  have e7 : ((i : Int) + 1).toNat = i + 1 := by omega
                  have e8 : ((k : Int) + 1).toNat = k + 1 := by omega
                  have e9 : (i : Int) < (a.length : Int) + 1 := by omega
                  have e10 : (k : Int) < (b.length : Int) + 1 := by omega
                  obtain ⟨f1, f2, f3, f4, f5, f6, f7⟩ := hM4.facts b3 b4
                  simp only [if_true, if_neg hkne, hV] at f3 f4
                  have hcx := hc4.cellNever hcx0
                  have hcy := hc4.cellNever hcy0
                  go_quiet (fail)
                  go_wp2_with fail
                  clear e1 e2 e3 e4 e5 e6 e7 e8 e9 e10
                  clear f1 f2 f3 f4 f5 f6 f7 hcx hcy
                  generalize hw5 : World.drewN w4 _ = w5
                  have hM5 := hw5 ▸ hM4.never ((Chg.refl Never w4).drewN _)
                  have hc5 := hw5 ▸ hc4.drewN _
                  clear hw5 hM4 hc4
                  have e1 : IntKind.i64.wrap ((i : Int) + 1) = (i : Int) + 1 := IntWalk.i64_in _ (by omega)
                  have e2 : IntKind.i64.wrap ((k : Int) + 1) = (k : Int) + 1 := IntWalk.i64_in _ (by omega)
                  have e3 : (0 : Int) ≤ (i : Int) + 1 := by omega
                  have e4 : (0 : Int) ≤ (k : Int) + 1 := by omega
                  have e5 : (i : Int) + 1 < (a.length : Int) + 1 := by omega
                  have e6 : (k : Int) + 1 < (b.length : Int) + 1 := by omega
                  have e7 : ((i : Int) + 1).toNat = i + 1 := by omega
                  have e8 : ((k : Int) + 1).toNat = k + 1 := by omega
                  have e9 : (i : Int) < (a.length : Int) + 1 := by omega
                  have e10 : (k : Int) < (b.length : Int) + 1 := by omega
                  obtain ⟨f1, f2, f3, f4, f5, f6, f7⟩ := hM5.facts b3 b4
                  simp only [if_true, if_neg hkne, hV] at f3 f4
                  have hcx := hc5.cellNever hcx0
                  have hcy := hc5.cellNever hcy0
                  go_quiet (fail)
                  go_wp2_with fail
                  clear e1 e2 e3 e4 e5 e6 e7 e8 e9 e10
                  clear f1 f2 f3 f4 f5 f6 f7 hcx hcy
                  generalize hw5 : World.drewN w5 _ = w6
                  have hM6 := hw5 ▸ hM5.never ((Chg.refl Never w5).drewN _)
                  have hc6 := hw5 ▸ hc5.drewN _
                  clear hw5 hM5 hc5
                  go_roundw
                  case rel => exact ⟨(k : Int) - 1, by omega, by omega, rfl, hc6, by
                    rw [show ((k : Int) - 1 + 1).toNat = k by omega]
                    exact hM6.congr (fun j _ => by first | exact rowTo_step HR.out j | (rw [rowTo_step HR.out]; by_cases h : j = k <;> simp [h]))⟩
                  case measure => simp [intOf] <;> omega
        · obtain rfl : y = -1 := by omega
          have hM2 : Mid w.heap.size _ a b Rf i R (fun k => lcsAt a b i k) := hM.congr (fun k _ => by rw [show ((-1 : Int) + 1).toNat = 0 from rfl, rowTo_zero])
          go_wp2_with fail
          go_roundw
          case rel => exact ⟨(i : Int) - 1, _, by omega, by omega, rfl, hc, by rw [show ((i : Int) - 1 + 1).toNat = i by omega]; exact hM2.tab⟩
          case measure => simp [intOf] <;> omega
    · obtain rfl : x = -1 := by omega
      go_wp2_with fail
      go_ret
      exact ⟨rfl, hc, Rf, by simpa using hTab⟩
end Go.Proofs.YteocmmejfnmjcaaGreatDoor
namespace Go.Proofs.YteocmmejfnmjcaaGreatDoor
open Go.RowKit

theorem Tab.cells {T : Nat} {wr : World} {a b : List ByteArray} {Rf : Nat → Nat} {lo : Nat} (h : Tab T wr a b Rf lo) {i k : Nat} (hi : lo ≤ i) (hi' : i ≤ a.length) (hk : k ≤ b.length) :
    wr.cell? ⟨T, i, none⟩ = some (slI (Rf i) (b.length + 1)) ∧ wr.cell? ⟨Rf i, k, none⟩ = some (.int .i64 (lcsAt a b i k)) := by
  obtain ⟨g, h1, h2⟩ := h
  obtain ⟨q1, q2, q3⟩ := h2 i hi hi'
  exact ⟨by rw [h1.cell (by omega), q2], q3.cell (by omega)⟩
theorem farOf_eq (a b : List ByteArray) : (a.length : Int) + b.length - 2 * (lcsAt a b 0 0 : Nat) = far a b := by
  have := far_lcs' a b
  unfold lcsAt
  simp only [List.drop_zero]
  omega

set_option maxHeartbeats 2000000 in
set_option maxRecDepth 100000 in
theorem scriptOf_any (a b : List ByteArray) (va vb : Value) (w : World) (ha : Rdv w Never va a) (hb : Rdv w Never vb b) (hla : a.length ≤ 60) (hlb : b.length ≤ 60) :
    Calls Tryz.prog 45 #[va, vb] w fun e w' => ∃ r, e = .returned r ∧ Chg Never w w' ∧ Rdv w' (Old w.heap.size) r (script a b) := by
  obtain ⟨aa, acap, rfl, h1, h2, h3⟩ := rdv_slice ha
  obtain ⟨ba, bcap, rfl, g1, g2, g3⟩ := rdv_slice hb
  unfold maxLen at h2 g2
  go_enter Tryz.func45, Tryz.ntmps45
  go_wp2_with fail
  refine (common_any a b _ _ _ ha hb hla hlb).mono ?_
  rintro e w1 ⟨rfl, hw1, Rf, hT⟩
  generalize w.heap.size = T at hT ⊢
  go_wp2_with fail
  go_loopw [6, 7, 8] (fun o s7 s8 wr => ∃ (i k : Nat) (pre : List Mark), i ≤ a.length ∧ k ≤ b.length ∧ s7 = .int .i64 i ∧ s8 = .int .i64 k ∧ Chg Never w1 wr ∧
      Own 72 wr (Old w1.heap.size) o pre ∧ Hid (pre.length ≤ i + k) ∧ Hid (pre ++ script (a.drop i) (b.drop k) = script a b)) (fun _ s7 s8 _ => (a.length - (intOf s7).toNat) + (b.length - (intOf s8).toNat))
  case atStart => exact ⟨0, 0, [], Nat.zero_le _, Nat.zero_le _, rfl, rfl, Chg.refl _ _, own_nil _ _ _, Nat.zero_le _, by simp [Hid]⟩
  case round =>
    obtain ⟨i, k, pre, hi, hk, rfl, rfl, hc, hown, hpl0, hpre⟩ := hrel
    have hpl : pre.length ≤ 120 := by have := hpl0.out; omega
    by_cases hil : i < a.length
    · obtain ⟨s, hs⟩ : ∃ s, a[i]? = some s := ⟨a[i], by simp [hil]⟩
      obtain ⟨p, off, rfl, _, hbl, hcx0, hxs⟩ := elems_str h3 hs
      have hcx0 := hw1.cellNever hcx0
      have hcx := hc.cellNever hcx0
      have HS := Lib.hid hs
      have b1 : (i : Int) < a.length := by omega
      obtain ⟨D1, D2⟩ := hT.cells (i := i) (k := k) (Nat.zero_le _) hi hk
      obtain ⟨D3, D4⟩ := hT.cells (i := i + 1) (k := k) (Nat.zero_le _) hil hk
      have d1 := hc.cellNever D1
      have d2 := hc.cellNever D2
      have d3 := hc.cellNever D3
      have d4 := hc.cellNever D4
      have u1 := lcsAt_le a b i k
      have u2 := lcsAt_le a b (i + 1) k
      have e1 : IntKind.i64.wrap ((i : Int) + 1) = (i : Int) + 1 := IntWalk.i64_in _ (by omega)
      have e2 : IntKind.i64.wrap ((k : Int) + 1) = (k : Int) + 1 := IntWalk.i64_in _ (by omega)
      have e3 : (0 : Int) ≤ (i : Int) + 1 := by omega
      have e4 : (0 : Int) ≤ (k : Int) + 1 := by omega
      have e5 : (i : Int) + 1 < (a.length : Int) + 1 := by omega
      have e6 : (k : Int) < (b.length : Int) + 1 := by omega
      have e7 : ((i : Int) + 1).toNat = i + 1 := by omega
      have e8 : ((k : Int) + 1).toNat = k + 1 := by omega
      have e9 : (i : Int) < (a.length : Int) + 1 := by omega
      by_cases hkm : k < b.length
      · obtain ⟨t, ht⟩ : ∃ t, b[k]? = some t := ⟨b[k], by simp [hkm]⟩
        obtain ⟨p', off', rfl, _, hbl', hcy0, hys⟩ := elems_str g3 ht
        have hcy0 := hw1.cellNever hcy0
        have hcy := hc.cellNever hcy0
        have HT := Lib.hid ht
        have b2 : (k : Int) < b.length := by omega
        obtain ⟨_, D5⟩ := hT.cells (i := i + 1) (k := k + 1) (Nat.zero_le _) hil hkm
        have d5 := hc.cellNever D5
        have u3 := lcsAt_le a b (i + 1) (k + 1)
        have e11 : IntKind.i64.wrap (((lcsAt a b (i + 1) (k + 1) : Nat) : Int) + 1) = ((lcsAt a b (i + 1) (k + 1) : Nat) : Int) + 1 := IntWalk.i64_in _ (by omega)
        have e12 : (k : Int) + 1 < (b.length : Int) + 1 := by omega
        clear h3 g3 ha hb hs ht
        by_cases hst : s = t
        · subst hst
          have t0 : lcsAt a b i k = lcsAt a b (i + 1) (k + 1) + 1 := by
            unfold lcsAt
            rw [drop_cons HS.out, drop_cons HT.out, lcs_same]
          have t1 : (((lcsAt a b (i + 1) (k + 1) : Nat) : Int) + 1 == ((lcsAt a b i k : Nat) : Int)) = true := by rw [beq_iff_eq]; omega
          clear t0
          go_wp2_with fail
          go_quiet (fail)
          clear d1 d2 d3 d4 d5 e11 e12 hcx hcy D1 D2 D3 D4 D5
          clear e1 e2 e3 e4 e5 e6 e7 e8 e9
          generalize hw2 : World.drewN wr _ = wr2
          have hc : Chg Never w1 wr2 := hw2 ▸ hc.drewN _
          have hown : Own 72 wr2 (Old w1.heap.size) _ pre := hw2 ▸ hown.never ((Chg.refl _ wr).drewN _)
          clear hw2
          have hcx := hc.cellNever hcx0
          go_wp2_with (at_builtin; refine wpList_push rfl _ _ 59 rfl elemOk_mark (O := Old w1.heap.size) (l := pre) (y := ⟨32, s⟩) rfl rfl rfl hown (rd_mark _ _ 32 s (by decide) (by decide) (by assumption)) (old_lt hc) (by omega) ?_; intro v' w5 hown2 hc2 _)
          have hc3 := own_step hc hown hc2
          clear hc2 hc hown
          go_wp2_with fail
          go_roundw
          case rel => exact ⟨i + 1, k + 1, _, by omega, by omega, by go_num, by go_num, hc3, hown2, by have := hpl0.out; show (pre ++ [_]).length ≤ _; simp; omega, by have := hpre.out; rw [script_keep HS.out HT.out] at this; rw [Hid, ← this]; simp⟩
          case measure => simp [intOf] <;> omega
        · have hne := str_beq_false hst
          have HST := Lib.hid hst
          have htest := lcs_test s t (a.drop (i + 1)) (b.drop (k + 1))
          rw [← drop_cons HS.out, ← drop_cons HT.out] at htest
          clear hst
          by_cases htk : far (a.drop (i + 1)) (b.drop k) + 1 = far (a.drop i) (b.drop k)
          · have t0 : lcsAt a b (i + 1) k = lcsAt a b i k := htest.2 htk
            have t1 : (((lcsAt a b (i + 1) k : Nat) : Int) == ((lcsAt a b i k : Nat) : Int)) = true := by rw [beq_iff_eq]; omega
            have HTK := Lib.hid htk
            clear htk htest t0
            go_wp2_with fail
            go_quiet (fail)
            clear d1 d2 d3 d4 d5 hcx hcy D5
            generalize hw2 : World.drewN wr _ = wr2
            have hc : Chg Never w1 wr2 := hw2 ▸ hc.drewN _
            have hown : Own 72 wr2 (Old w1.heap.size) _ pre := hw2 ▸ hown.never ((Chg.refl _ wr).drewN _)
            clear hw2
            have hcx := hc.cellNever hcx0
            have d1 := hc.cellNever D1
            have d2 := hc.cellNever D2
            have d3 := hc.cellNever D3
            have d4 := hc.cellNever D4
            go_wp2_with fail
            go_quiet (fail)
            clear d1 d2 d3 d4 hcx D1 D2 D3 D4 e11 e12
            clear e1 e2 e3 e4 e5 e6 e7 e8 e9
            generalize hw2 : World.drewN wr2 _ = wr3
            have hc : Chg Never w1 wr3 := hw2 ▸ hc.drewN _
            have hown : Own 72 wr3 (Old w1.heap.size) _ pre := hw2 ▸ hown.never ((Chg.refl _ wr2).drewN _)
            clear hw2
            have hcx := hc.cellNever hcx0
            go_wp2_with (at_builtin; refine wpList_push rfl _ _ 59 rfl elemOk_mark (O := Old w1.heap.size) (l := pre) (y := ⟨45, s⟩) rfl rfl rfl hown (rd_mark _ _ 45 s (by decide) (by decide) (by assumption)) (old_lt hc) (by omega) ?_; intro v' w5 hown2 hc2 _)
            have hc3 := own_step hc hown hc2
            clear hc2 hc hown
            go_wp2_with fail
            go_roundw
            case rel => exact ⟨i + 1, k, _, by omega, by omega, by go_num, by go_num, hc3, hown2, by have := hpl0.out; show (pre ++ [_]).length ≤ _; simp; omega, by have := hpre.out; rw [script_take HS.out (fun y hy => by rw [HT.out] at hy; injection hy with hy; subst hy; exact HST.out) HTK.out] at this; rw [Hid, ← this]; simp⟩
            case measure => simp [intOf] <;> omega
          · have t0 : lcsAt a b (i + 1) k ≠ lcsAt a b i k := fun e => htk (htest.1 e)
            have t1 : (((lcsAt a b (i + 1) k : Nat) : Int) == ((lcsAt a b i k : Nat) : Int)) = false := by rw [beq_eq_false_iff_ne]; omega
            have HTK := Lib.hid htk
            clear htk htest t0
            go_wp2_with fail
            go_quiet (fail)
            clear d1 d2 d3 d4 d5 hcx hcy D5
            generalize hw2 : World.drewN wr _ = wr2
            have hc : Chg Never w1 wr2 := hw2 ▸ hc.drewN _
            have hown : Own 72 wr2 (Old w1.heap.size) _ pre := hw2 ▸ hown.never ((Chg.refl _ wr).drewN _)
            clear hw2
            have hcy := hc.cellNever hcy0
            have d1 := hc.cellNever D1
            have d2 := hc.cellNever D2
            have d3 := hc.cellNever D3
            have d4 := hc.cellNever D4
            go_wp2_with fail
            go_quiet (fail)
            clear d1 d2 d3 d4 hcy D1 D2 D3 D4 e11 e12
            clear e1 e2 e3 e4 e5 e6 e7 e8 e9
            generalize hw2 : World.drewN wr2 _ = wr3
            have hc : Chg Never w1 wr3 := hw2 ▸ hc.drewN _
            have hown : Own 72 wr3 (Old w1.heap.size) _ pre := hw2 ▸ hown.never ((Chg.refl _ wr2).drewN _)
            clear hw2
            have hcy := hc.cellNever hcy0
            go_wp2_with (at_builtin; refine wpList_push rfl _ _ 59 rfl elemOk_mark (O := Old w1.heap.size) (l := pre) (y := ⟨43, t⟩) rfl rfl rfl hown (rd_mark _ _ 43 t (by decide) (by decide) (by assumption)) (old_lt hc) (by omega) ?_; intro v' w5 hown2 hc2 _)
            have hc3 := own_step hc hown hc2
            clear hc2 hc hown
            go_wp2_with fail
            go_roundw
            case rel => exact ⟨i, k + 1, _, by omega, by omega, by go_num, by go_num, hc3, hown2, by have := hpl0.out; show (pre ++ [_]).length ≤ _; simp; omega, by have := hpre.out; rw [script_put HT.out (fun x hx => by rw [HS.out] at hx; injection hx with hx; subst hx; exact ⟨HST.out, HTK.out⟩)] at this; rw [Hid, ← this]; simp⟩
            case measure => simp [intOf] <;> omega
      · obtain rfl : k = b.length := by omega
        have g2' : decide ((b.length : Int) < b.length) = false := by simp
        have htk : far (a.drop (i + 1)) [] + 1 = far (a.drop i) [] := by
          rw [far_nil', far_nil', List.length_drop, List.length_drop]; omega
        rw [lcsAt_right] at d2 d4 D2 D4
        have HTK := Lib.hid htk
        clear htk hs h3 g3 ha hb
        go_wp2_with fail
        go_quiet (fail)
        clear d1 d2 d3 d4 hcx
        generalize hw2 : World.drewN wr _ = wr2
        have hc : Chg Never w1 wr2 := hw2 ▸ hc.drewN _
        have hown : Own 72 wr2 (Old w1.heap.size) _ pre := hw2 ▸ hown.never ((Chg.refl _ wr).drewN _)
        clear hw2
        have hcx := hc.cellNever hcx0
        have d1 := hc.cellNever D1
        have d2 := hc.cellNever D2
        have d3 := hc.cellNever D3
        have d4 := hc.cellNever D4
        go_wp2_with fail
        go_quiet (fail)
        clear d1 d2 d3 d4 hcx D1 D2 D3 D4
        clear e1 e2 e3 e4 e5 e6 e7 e8 e9
        generalize hw2 : World.drewN wr2 _ = wr3
        have hc : Chg Never w1 wr3 := hw2 ▸ hc.drewN _
        have hown : Own 72 wr3 (Old w1.heap.size) _ pre := hw2 ▸ hown.never ((Chg.refl _ wr2).drewN _)
        clear hw2
        have hcx := hc.cellNever hcx0
        go_wp2_with (at_builtin; refine wpList_push rfl _ _ 59 rfl elemOk_mark (O := Old w1.heap.size) (l := pre) (y := ⟨45, s⟩) rfl rfl rfl hown (rd_mark _ _ 45 s (by decide) (by decide) (by assumption)) (old_lt hc) (by omega) ?_; intro v' w5 hown2 hc2 _)
        have hc3 := own_step hc hown hc2
        clear hc2 hc hown
        go_wp2_with fail
        go_roundw
        case rel => exact ⟨i + 1, b.length, _, by omega, by omega, by go_num, by go_num, hc3, hown2, by have := hpl0.out; show (pre ++ [_]).length ≤ _; simp; omega, by have := hpre.out; rw [script_take HS.out (fun y hy => by simp at hy) (by rw [List.drop_length]; exact HTK.out)] at this; rw [Hid, ← this]; simp⟩
        case measure => simp [intOf] <;> omega
    · obtain rfl : i = a.length := by omega
      have g1' : decide ((a.length : Int) < a.length) = false := by simp
      by_cases hkm : k < b.length
      · obtain ⟨t, ht⟩ : ∃ t, b[k]? = some t := ⟨b[k], by simp [hkm]⟩
        obtain ⟨p', off', rfl, _, hbl', hcy0, hys⟩ := elems_str g3 ht
        have hcy0 := hw1.cellNever hcy0
        have HT := Lib.hid ht
        have b2 : (k : Int) < b.length := by omega
        clear h3 g3 ha hb ht
        go_wp2_with fail
        go_quiet (fail)
        generalize hw2 : World.drewN wr _ = wr2
        have hc : Chg Never w1 wr2 := hw2 ▸ hc.drewN _
        have hown : Own 72 wr2 (Old w1.heap.size) _ pre := hw2 ▸ hown.never ((Chg.refl _ wr).drewN _)
        clear hw2
        go_wp2_with fail
        go_quiet (fail)
        generalize hw2 : World.drewN wr2 _ = wr3
        have hc : Chg Never w1 wr3 := hw2 ▸ hc.drewN _
        have hown : Own 72 wr3 (Old w1.heap.size) _ pre := hw2 ▸ hown.never ((Chg.refl _ wr2).drewN _)
        clear hw2
        have hcy := hc.cellNever hcy0
        go_wp2_with (at_builtin; refine wpList_push rfl _ _ 59 rfl elemOk_mark (O := Old w1.heap.size) (l := pre) (y := ⟨43, t⟩) rfl rfl rfl hown (rd_mark _ _ 43 t (by decide) (by decide) (by assumption)) (old_lt hc) (by omega) ?_; intro v' w5 hown2 hc2 _)
        have hc3 := own_step hc hown hc2
        clear hc2 hc hown
        go_wp2_with fail
        go_roundw
        case rel => exact ⟨a.length, k + 1, _, by omega, by omega, by go_num, by go_num, hc3, hown2, by have := hpl0.out; show (pre ++ [_]).length ≤ _; simp; omega, by have := hpre.out; rw [script_put HT.out (fun x hx => by simp at hx)] at this; rw [Hid, ← this]; simp⟩
        case measure => simp [intOf] <;> omega
      · obtain rfl : k = b.length := by omega
        go_wp2_with fail
        go_ret
        have E : pre = script a b := by have := hpre.out; rw [List.drop_length, List.drop_length, script, List.append_nil] at this; exact this
        exact ⟨_, rfl, hw1.trans hc, E ▸ hown.rdv.sub (fun k _ hk => by have := hw1.size; unfold Old at *; omega)⟩
end Go.Proofs.YteocmmejfnmjcaaGreatDoor
namespace Go.Proofs.YteocmmejfnmjcaaGreatDoor

/-- is mark k in a piece, as far as j marks tell? -/
def inTo (s : List Mark) (n : Int) (k j : Nat) : Bool := (s[k]?.any isChange) || (List.range j).any fun i => (s[i]?.any isChange) && decide ((k : Int) ≤ i + n) && decide ((i : Int) ≤ k + n)
theorem inTo_zero {s : List Mark} {n : Int} {k : Nat} {x : Mark} (hx : s[k]? = some x) : inTo s n k 0 = isChange x := by
  unfold inTo; simp [hx]
theorem inTo_step {s : List Mark} {n : Int} {k j : Nat} {y : Mark} (hy : s[j]? = some y) : inTo s n k (j + 1) = (inTo s n k j || (isChange y && decide ((k : Int) ≤ j + n) && decide ((j : Int) ≤ k + n))) := by
  unfold inTo
  rw [List.range_succ, List.any_append]
  simp [hy, Bool.or_assoc]
theorem inTo_in {s : List Mark} {n : Int} {k j : Nat} {y : Mark} (hy : s[j]? = some y) (h1 : y.sign ≠ 32) (h2 : (j : Int) - k ≤ n) (h3 : (k : Int) - j ≤ n) : inTo s n k (j + 1) = true := by
  rw [inTo_step hy]
  have e1 : isChange y = true := by simp [isChange, h1]
  rw [e1, decide_eq_true (show (k : Int) ≤ j + n by omega), decide_eq_true (show (j : Int) ≤ k + n by omega)]
  simp
theorem inTo_out {s : List Mark} {n : Int} {k j : Nat} {y : Mark} (hy : s[j]? = some y) (h : y.sign = 32 ∨ ¬ (j : Int) - k ≤ n ∨ ¬ (k : Int) - j ≤ n) : inTo s n k (j + 1) = inTo s n k j := by
  rw [inTo_step hy]
  have : (isChange y && decide ((k : Int) ≤ j + n) && decide ((j : Int) ≤ k + n)) = false := by
    rcases h with h | h | h
    · have e1 : isChange y = false := by simp [isChange, h]
      rw [e1]; rfl
    · rw [decide_eq_false (show ¬ (j : Int) ≤ k + n by omega)]; simp
    · rw [decide_eq_false (show ¬ (k : Int) ≤ j + n by omega)]; simp
  rw [this, Bool.or_false]
theorem inTo_end {s : List Mark} {n : Int} {k : Nat} (hn : 0 ≤ n) (hk : k < s.length) : inTo s n k s.length = inAt s n k := by
  unfold inTo inAt
  cases hc : s[k]?.any isChange with
  | false => rfl
  | true =>
    rw [Bool.true_or]
    symm
    rw [List.any_eq_true]
    exact ⟨k, List.mem_range.2 hk, by rw [hc, decide_eq_true (show (k : Int) ≤ k + n by omega)]; rfl⟩
end Go.Proofs.YteocmmejfnmjcaaGreatDoor
