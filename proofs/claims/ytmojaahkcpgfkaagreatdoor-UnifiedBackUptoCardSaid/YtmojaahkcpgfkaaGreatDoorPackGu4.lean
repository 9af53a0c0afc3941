/-
  PARTS: THE WALKS: the laws' Hunk, Hunks.; PIECES OF A SCRIPT, in plain Lean (chapter 3, H2): what Cut answers.; THE WALK of hunk.near.; A SLICE OF HUNKS THAT THE CALL ITSELF BUILDS, OF WHICH THE LAST ONE STILL GROWS ('OwnLast'): pushed onto, its last one's marks pushed onto, closed. No program in sight.; PIECES OF A SCRIPT, plain laws: what Cut answers is pieces in order ('Pcs'), valid hunks, has all changes; turned; of a great context one piece; with more context no more pieces.; THE WALK of hunk.cut.; HUNKS DONE STRICTLY, plain laws: what Strict answers; hunks that lead from a file to another one; turned they lead back.; THE WALKS of hunk.Cut, Turned, Turn.; append OF A WHOLE SLICE to one of the call's own; a slice's slice. No program in sight.; THE WALKS OF LAYER 4: hunk.Make, sides, slices.Equal, stands.; THE WALKS OF LAYER 4: slices.Grow of nil, slices.Concat.
-/
import Derived.Test.YtmojaahkcpgfkaaGreatDoorPackGu3
import Derived.Test.YtmojaahkcpgfkaaGreatDoorPackGu2
import Derived.Test.YtmojaahkcpgfkaaGreatDoorPackGu1
import Derived.WalkLawsBesides
import Derived.Deep.RegionLaw
import Derived.Deep.DrawnRows
import Derived.Lib.Walk
import Derived.Lib.SliceRun
import Derived.Lib.AppendZerosOnto
namespace Go.Proofs.YtmojaahkcpgfkaaGreatDoor
open Go.RowKit

theorem box3' {w w1 : World} {x y z x' y' z' : Value} {t t' : TypeId} (hc : Chg Never ((w.alloc (.cells #[x, y, z] t)).alloc (.cells #[x', y', z'] t')) w1) :
    (w1.cell? ⟨w.heap.size, 0, none⟩ = some x ∧ w1.cell? ⟨w.heap.size, 1, none⟩ = some y ∧ w1.cell? ⟨w.heap.size, 2, none⟩ = some z) ∧
    (w1.cell? ⟨w.heap.size + 1, 0, none⟩ = some x' ∧ w1.cell? ⟨w.heap.size + 1, 1, none⟩ = some y' ∧ w1.cell? ⟨w.heap.size + 1, 2, none⟩ = some z') := by
  have h1 := box3 (((Chg.refl Never _).alloc (.cells #[x', y', z'] t')).trans hc)
  have h2 := box3 hc
  simp only [World.size_alloc] at h2
  exact ⟨h1, h2⟩


theorem hunk_eq_any (h k : Hunk) (hv kv : Value) (w : World) (hh : Rdv w Never hv h.marks) (hk : Rdv w Never kv k.marks) :
    Calls Tryz.prog 34 #[.agg #[.int .i64 h.old, .int .i64 h.new, hv], .agg #[.int .i64 k.old, .int .i64 k.new, kv]] w fun e w' => e = .returned (.bool (decide (h = k))) ∧ Chg Never w w' := by
  obtain ⟨a, cap, rfl, _, _, _⟩ := rdv_slice hh
  obtain ⟨b, cap', rfl, _, _, _⟩ := rdv_slice hk
  have E : decide (h = k) = (decide (h.marks = k.marks) && h.old == k.old && h.new == k.new) := by
    obtain ⟨ho, hn, hm⟩ := h
    obtain ⟨ko, kn, km⟩ := k
    by_cases h1 : ho = ko <;> by_cases h2 : hn = kn <;> by_cases h3 : hm = km <;> simp [h1, h2, h3]
  rw [E]
  clear E
  by_cases hm : h.marks = k.marks
  · rw [decide_eq_true hm]
    have HM := Lib.hid (decide_eq_true hm)
    clear hm
    by_cases ho : h.old = k.old
    · have t1 : (h.old == k.old) = true := by simp [ho]
      rw [t1]
      clear ho
      go_enter Tryz.func34, Tryz.ntmps34
      go_wp2_with fail
      refine (marks_any h.marks k.marks _ _ _ (hh.never (((Chg.refl _ _).alloc _).alloc _)) (hk.never (((Chg.refl _ _).alloc _).alloc _))).mono ?_
      rintro e w1 ⟨rfl, hc1⟩
      obtain ⟨⟨x0, x1, x2⟩, ⟨y0, y1, y2⟩⟩ := box3' hc1
      have hw : Chg Never w w1 := (((Chg.refl _ _).alloc _).alloc _).trans hc1
      clear hc1
      rw [HM.out]
      go_wp2_with fail
      go_ret
      exact ⟨rfl, hw⟩
    · have t1 : (h.old == k.old) = false := by simp [ho]
      rw [t1]
      clear ho
      go_enter Tryz.func34, Tryz.ntmps34
      go_wp2_with fail
      refine (marks_any h.marks k.marks _ _ _ (hh.never (((Chg.refl _ _).alloc _).alloc _)) (hk.never (((Chg.refl _ _).alloc _).alloc _))).mono ?_
      rintro e w1 ⟨rfl, hc1⟩
      obtain ⟨⟨x0, x1, x2⟩, ⟨y0, y1, y2⟩⟩ := box3' hc1
      have hw : Chg Never w w1 := (((Chg.refl _ _).alloc _).alloc _).trans hc1
      clear hc1
      rw [HM.out]
      go_wp2_with fail
      go_ret
      exact ⟨rfl, hw⟩
  · rw [decide_eq_false hm]
    have HM := Lib.hid (decide_eq_false hm)
    clear hm
    go_enter Tryz.func34, Tryz.ntmps34
    go_wp2_with fail
    refine (marks_any h.marks k.marks _ _ _ (hh.never (((Chg.refl _ _).alloc _).alloc _)) (hk.never (((Chg.refl _ _).alloc _).alloc _))).mono ?_
    rintro e w1 ⟨rfl, hc1⟩
    obtain ⟨⟨x0, x1, x2⟩, ⟨y0, y1, y2⟩⟩ := box3' hc1
    have hw : Chg Never w w1 := (((Chg.refl _ _).alloc _).alloc _).trans hc1
    clear hc1
    rw [HM.out]
    go_wp2_with fail
    go_ret
    exact ⟨rfl, hw⟩

set_option maxRecDepth 100000 in
theorem hunks_eq_any (l m : List Hunk) (v u : Value) (w : World) (h : Rdv w Never v l) (g : Rdv w Never u m) :
    Calls Tryz.prog 12 #[v, u] w fun e w' => e = .returned (.bool (decide (l = m))) ∧ Chg Never w w' := by
  obtain ⟨a, cap, rfl, h1, h2, h3⟩ := rdv_slice h
  obtain ⟨c, cap', rfl, g1, g2, g3⟩ := rdv_slice g
  unfold maxLen at h2 g2
  by_cases h4 : l.length = m.length
  · have h4' : ((l.length : Int) != m.length) = false := by simp [h4]
    have H4 := Lib.hid h4
    clear h4
    go_enter Tryz.func12, Tryz.ntmps12
    go_wp2
    go_loopw [5] (fun i wr => ∃ k : Nat, k ≤ l.length ∧ i = .int .i64 k ∧ Hid (l.take k = m.take k) ∧ Chg Never w wr) (fun i _ => l.length - (intOf i).toNat)
    case atStart => exact ⟨0, Nat.zero_le _, rfl, by simp [Hid], Chg.refl _ _⟩
    case round =>
      obtain ⟨k, hk, rfl, hf, hc⟩ := hrel
      by_cases hlt : k < l.length
      · obtain ⟨x, hx⟩ : ∃ x, l[k]? = some x := ⟨l[k], by simp [hlt]⟩
        obtain ⟨y, hy⟩ : ∃ y, m[k]? = some y := ⟨m[k]'(by rw [← H4.out]; exact hlt), by simp [H4.out ▸ hlt]⟩
        obtain ⟨b, off, mv, rfl, _, _, c0, c1, c2, hmv⟩ := elems_hunk h3 hx
        obtain ⟨b', off', mv', rfl, _, _, d0, d1, d2, hmv'⟩ := elems_hunk g3 hy
        have c0 := hc.cellNever c0
        have c1 := hc.cellNever c1
        have c2 := hc.cellNever c2
        have d0 := hc.cellNever d0
        have d1 := hc.cellNever d1
        have d2 := hc.cellNever d2
        have hmv := hmv.never hc
        have hmv' := hmv'.never hc
        clear h3 g3 h g
        have hlm : k < m.length := by rw [← H4.out]; exact hlt
        have HX := Lib.hid hx
        have HY := Lib.hid hy
        clear hx hy
        have b1 : (k : Int) < l.length := by omega
        have b2 : (k : Int) < m.length := by omega
        go_wp2_with fail
        refine wp_region_still_tail 8 (by kernel_rfl) (by kernel_rfl) ?_
        simp only [List.take_succ_cons, List.take_zero, List.drop_succ_cons, List.drop_zero]
        change wpStill _ _ wr.drew _ _ _
        repeat still_step
        refine wpStill_nil ?_
        change wpList _ _ _ _ _ wr.drew
        have hcd : Chg Never w wr.drew := hc.drew
        have hmd := hmv.never ((Chg.refl Never wr).drew)
        have hmd' := hmv'.never ((Chg.refl Never wr).drew)
        generalize wr.drew = w3 at hcd hmd hmd'
        go_wp2_with fail
        refine (hunk_eq_any x y _ _ _ hmd hmd').mono ?_
        rintro e w4 ⟨rfl, hc4⟩
        have hc5 := hcd.trans hc4
        by_cases hxy : x = y
        · subst hxy
          rw [decide_eq_true rfl]
          go_wp2_with fail
          go_roundw
          case rel => exact ⟨k + 1, by omega, by go_num, take_same hf HX.out HY.out, hc5⟩
          case measure => simp [intOf] <;> omega
        · rw [decide_eq_false hxy]
          go_wp2_with fail
          go_ret
          exact ⟨by rw [decide_eq_false (ne_of_get HX.out HY.out hxy)]; rfl, hc5⟩
      · go_wp2
        go_ret
        have E : l = m := by
          have := hf.out
          rwa [List.take_of_length_le (by omega), List.take_of_length_le (by rw [← H4.out]; omega)] at this
        exact ⟨by rw [decide_eq_true E]; rfl, hc⟩
  · have h4' : ((l.length : Int) != m.length) = true := by simp; omega
    go_enter Tryz.func12, Tryz.ntmps12
    go_wp2
    go_ret
    exact ⟨by rw [decide_eq_false (fun e => h4 (by rw [e]))]; rfl, Chg.refl _ _⟩
end Go.Proofs.YtmojaahkcpgfkaaGreatDoor
namespace Go.Proofs.YtmojaahkcpgfkaaGreatDoor

def isChange (m : Mark) : Bool := !(m.sign == 32)
/-- is mark k within n of one that takes or puts? -/
def inAt (s : List Mark) (n : Int) (k : Nat) : Bool := (List.range s.length).any fun i => (s[i]?.any isChange) && decide ((k : Int) ≤ i + n) && decide ((i : Int) ≤ k + n)
/-- a mark more in the last hunk -/
def pushLast (out : List Hunk) (m : Mark) : List Hunk :=
  match out.getLast? with
  | some h => out.dropLast ++ [{ h with marks := h.marks ++ [m] }]
  | none => out
/-- one step: the hunks so far, whether the mark ahead was in one, how many old and new lines stand ahead -/
def cutStep (out : List Hunk) (was inn : Bool) (before after : Nat) (m : Mark) : List Hunk :=
  if inn then pushLast (if was then out else out ++ [⟨before, after, []⟩]) m else out
def cutTo (s : List Mark) (n : Int) : Nat → List Hunk
  | 0 => []
  | k + 1 => match s[k]? with
    | some m => cutStep (cutTo s n k) (decide (0 < k) && inAt s n (k - 1)) (inAt s n k) (oldN (s.take k)) (newN (s.take k)) m
    | none => cutTo s n k
def cutOf (s : List Mark) (n : Int) : List Hunk := cutTo s n s.length
def cutFault (s : List Mark) (n : Int) : Int :=
  if scriptFault s ≠ 0 then scriptFault s else if n < 0 ∨ 1000 < n then 1 else if 60 < oldN s ∨ 60 < newN s then 3 else 0
end Go.Proofs.YtmojaahkcpgfkaaGreatDoor
namespace Go.Proofs.YtmojaahkcpgfkaaGreatDoor
open Go.RowKit

/-- which marks are near one of the first i -/
def nearTo (s : List Mark) (n : Int) (i k : Nat) : Bool :=
  (List.range i).any fun j => (s[j]?.any isChange) && decide ((k : Int) ≤ j + n) && decide ((j : Int) ≤ k + n) && (k == j || (s[k]?.any fun m => m.sign == 32))
def BoolRow (B : Nat) (wr : World) (len : Nat) (f : Nat → Bool) : Prop :=
  ∃ c : Array Value, wr.heap[B]? = some (.cells c 4 (0, 0)) ∧ c.size = len ∧ ∀ k, k < len → c[k]? = some (.bool (f k))

theorem BoolRow.cell {B : Nat} {wr : World} {len : Nat} {f : Nat → Bool} (h : BoolRow B wr len f) {k : Nat} (hk : k < len) : wr.cell? ⟨B, k, none⟩ = some (.bool (f k)) := by
  obtain ⟨c, h1, h2, h3⟩ := h
  simp only [World.cell?, h1]
  exact h3 k hk
theorem BoolRow.free {B : Nat} {wr : World} {len : Nat} {f : Nat → Bool} (h : BoolRow B wr len f) (k : Nat) : wr.frozen? ⟨B, k, none⟩ = false := by
  obtain ⟨c, h1, h2, h3⟩ := h
  simp [World.frozen?, h1]
theorem BoolRow.keep {B : Nat} {wr w' : World} {len : Nat} {f : Nat → Bool} {O : Nat → Prop} (h : BoolRow B wr len f) (hc : Chg O wr w') (hB : ¬ O B) : BoolRow B w' len f := by
  obtain ⟨c, h1, h2⟩ := h
  refine ⟨c, ?_, h2⟩
  rw [hc.block B (Array.getElem?_eq_some_iff.1 h1).1 hB]
  exact h1
theorem BoolRow.set {B : Nat} {wr : World} {len : Nat} {f : Nat → Bool} (h : BoolRow B wr len f) {k : Nat} (hk : k < len) (b : Bool) {g : Nat → Bool} (hg : ∀ j, j < len → g j = if j = k then b else f j) :
    BoolRow B (wr.setCell ⟨B, k, none⟩ (.bool b)) len g := by
  obtain ⟨c, h1, h2, h3⟩ := h
  refine ⟨c.setIfInBounds k (.bool b), ?_, by simpa using h2, ?_⟩
  · simp [World.setCell, Array.getElem?_modify, h1]
  · intro j hj
    rw [Array.getElem?_setIfInBounds, hg j hj]
    by_cases e : j = k
    · subst e; simp [h2, hj]
    · rw [if_neg (fun h => e h.symm), if_neg e]; exact h3 j hj

def keptAt (s : List Mark) (k : Nat) : Bool := s[k]?.any fun m => m.sign == 32
def inWin (n : Int) (i k : Nat) : Bool := decide ((k : Int) ≤ i + n) && decide ((i : Int) ≤ k + n)
theorem nearTo_succ {s : List Mark} {n : Int} {i k : Nat} {x : Mark} (hx : s[i]? = some x) :
    nearTo s n (i + 1) k = (nearTo s n i k || (isChange x && inWin n i k && (k == i || keptAt s k))) := by
  unfold nearTo inWin keptAt
  rw [List.range_succ, List.any_append]
  simp [hx, Bool.and_assoc]
theorem nearTo_kept {s : List Mark} {n : Int} {i : Nat} {x : Mark} (hx : s[i]? = some x) (h : x.sign = 32) : nearTo s n i = nearTo s n (i + 1) := by
  funext k
  rw [nearTo_succ hx]
  simp [isChange, h]
/-- the row in the midst of mark i: done from lo to c -/
def midRow (s : List Mark) (n : Int) (i : Nat) (c : Int) (k : Nat) : Bool := if (k : Int) < c then nearTo s n (i + 1) k else nearTo s n i k
theorem midRow_start {s : List Mark} {n : Int} {i : Nat} {x : Mark} (hx : s[i]? = some x) (_hn : 0 ≤ n) (k : Nat) : midRow s n i (max 0 ((i : Int) - n)) k = nearTo s n i k := by
  unfold midRow
  split
  · rw [nearTo_succ hx]
    have : inWin n i k = false := by
      unfold inWin
      rename_i h
      have : decide ((i : Int) ≤ k + n) = false := by simp; omega
      simp [this]
    simp [this]
  · rfl
theorem midRow_end {s : List Mark} {n : Int} {i : Nat} {x : Mark} {c : Int} (hx : s[i]? = some x) (hc : min ((s.length : Int) - 1) (i + n) < c) {k : Nat} (hk : k < s.length) : midRow s n i c k = nearTo s n (i + 1) k := by
  unfold midRow
  split
  · rfl
  · rw [nearTo_succ hx]
    have : inWin n i k = false := by
      unfold inWin
      rename_i h
      have : decide ((k : Int) ≤ i + n) = false := by simp; omega
      simp [this]
    simp [this]
theorem midRow_step {s : List Mark} {n : Int} {i c : Nat} (j : Nat) : midRow s n i ((c : Int) + 1) j = if j = c then nearTo s n (i + 1) c else midRow s n i c j := by
  unfold midRow
  by_cases h : j = c
  · subst h; simp; omega
  · rw [if_neg h]
    by_cases h1 : (j : Int) < c
    · rw [if_pos h1, if_pos (by omega)]
    · rw [if_neg h1, if_neg (by omega)]
theorem nearTo_inAt {s : List Mark} {n : Int} (hn : 0 ≤ n) {k : Nat} (hk : k < s.length) : nearTo s n s.length k = inAt s n k := by
  rw [Bool.eq_iff_iff]
  unfold nearTo inAt
  rw [List.any_eq_true, List.any_eq_true]
  have hsk : s[k]? = some s[k] := by simp [hk]
  constructor
  · rintro ⟨j, hj, hp⟩
    rw [Bool.and_eq_true] at hp
    exact ⟨j, hj, hp.1⟩
  · rintro ⟨j, hj, hp⟩
    by_cases hc : (s[k]).sign = 32
    · refine ⟨j, hj, ?_⟩
      rw [Bool.and_eq_true]
      exact ⟨hp, by simp [hsk, hc]⟩
    · refine ⟨k, List.mem_range.2 hk, ?_⟩
      simp [hsk, isChange, hc]
      omega

theorem boolRow_made {w1 : World} {B len : Nat} (h : w1.ownsRow 0 4 1 (.slice (some ⟨B, 0, none⟩) len len) len (madeCells (Value.bool false).cells (len * 1)).toList) : BoolRow B w1 len fun _ => false := by
  obtain ⟨_, hx⟩ := h
  rcases hx with ⟨h, _⟩ | ⟨g, cap, cur, hv, _, hh, hn, hm, hcs, htake⟩
  · cases h
  · injection hv with hv1 _ hv3
    injection hv1 with hv1
    injection hv1 with hv1
    subst hv1 hv3
    refine ⟨cur, hh, by simpa using hcs, ?_⟩
    intro k hk
    have e : cur.toList[k]? = (cur.toList.take (len * 1))[k]? := by rw [List.getElem?_take, if_pos (by omega)]
    rw [← Array.getElem?_toList, e, htake]
    simp [madeCells, Value.cells, hk, Nat.mod_one]

end Go.Proofs.YtmojaahkcpgfkaaGreatDoor
namespace Go.Proofs.YtmojaahkcpgfkaaGreatDoor
open Go.RowKit

/-- append of one element to a row of the call's own, in raw cells -/
theorem run_push_raw {P : Program} {n : Nat} (hn : 0 < n) {t ty e : TypeId} (hP : ElemOk P t e n) {w0 : World} {v : Value} {m : Nat} {xs es : List Value} (E' : TypeId)
    (hx : w0.ownsRow 0 e n v m xs) (hl : es.length = n) (h1 : ∀ u ∈ es, u.oneCell' = true) (hlen : m ≤ 1000000000) :
    ∃ v' w', (Builtin.append_ #[t, t] ty #[v, .slice (some ⟨w0.heap.size, 0, none⟩) 1 1]).run P (w0.alloc (.cells es.toArray E')) = .ok v' w' ∧ w'.ownsRow 0 e n v' (m + 1) (xs ++ es) ∧ Chg (OwnB v) w0 w' ∧ (∃ k, v'.ownBlock = some k ∧ (v.ownBlock = some k ∨ w0.heap.size ≤ k)) := by
  obtain ⟨i, z, hi, hz, hsz, hzs, hby⟩ := hP.info
  have hnl : es.length = 1 * n := by omega
  have hcells : ∀ j u, es[j]? = some u → (w0.alloc (.cells es.toArray E')).cell? ((⟨w0.heap.size, 0, none⟩ : Addr).add j) = some u := by
    intro j u hj
    have e1 : (⟨w0.heap.size, 0, none⟩ : Addr).add j = ⟨w0.heap.size, j, none⟩ := by unfold Addr.add; split <;> simp_all
    rw [e1, World.cell?, heap_alloc_new]
    simpa using hj
  have hx' := hx.alloc (.cells es.toArray E')
  have hbound : (m + 1) * i.bytes ≤ 140737488355328 := by
    have := Nat.mul_le_mul (show m + 1 ≤ 1000000001 by omega) hby
    omega
  obtain ⟨v', w', hrun, hown', hgrow, hnil⟩ := run_append_own (P := P) (w0.alloc (.cells es.toArray E')) 0 t ty e i z n i.bytes hP.ht hi hz hsz rfl hzs hn v m xs hx'
    ⟨w0.heap.size, 0, none⟩ 1 1 es hnl hcells h1 (by unfold maxLen; omega) hbound (Nat.zero_le _)
  obtain ⟨kb, hkb, hkb'⟩ := append_block (P := P) (w0.alloc (.cells es.toArray E')) 0 t ty e i z n i.bytes hP.ht hi hz hsz rfl v m xs hx'
    ⟨w0.heap.size, 0, none⟩ 1 1 es hnl hcells h1 (by unfold maxLen; omega) hbound (by omega) hrun
  have hkb2 : v.ownBlock = some kb ∨ w0.heap.size ≤ kb := by
    rcases hkb' with h | h
    · exact .inl h
    · right; rw [h]; simp
  exact ⟨v', w', hrun, hown', ((Chg.refl (OwnB v) w0).alloc _).trans' (Chg.of_grown hgrow) (fun k _ hk => hk), kb, hkb, hkb2⟩

structure OwnLast (e em : TypeId) (w : World) (O : Nat → Prop) (v : Value) (init : List Hunk) (h : Hunk) (mv : Value) (xs : List Value) : Prop where
  row : w.ownsRow 0 e 3 v (init.length + 1) xs
  out : ∀ k, v.ownBlock = some k → ¬ O k
  firsts : ∀ (i : Nat) (x : Hunk), init[i]? = some x → Dat.rd w (fun k => (O k ∨ v.ownBlock = some k) ∨ mv.ownBlock = some k) ((xs.drop (i * 3)).take 3) x
  last : xs.drop (init.length * 3) = [.int .i64 h.old, .int .i64 h.new, mv]
  marks : Own em w (fun k => O k ∨ v.ownBlock = some k) mv h.marks

/-- closed, it is a slice as any other -/
theorem OwnLast.own {e em : TypeId} {w : World} {O : Nat → Prop} {v : Value} {init : List Hunk} {h : Hunk} {mv : Value} {xs : List Value} (hl : OwnLast e em w O v init h mv xs) : Own e w O v (init ++ [h]) := by
  obtain ⟨h1, h2, h3, h4, h5⟩ := hl
  refine ⟨xs, by rw [List.length_append]; exact h1, h2, ?_⟩
  intro i x hx
  rcases Nat.lt_or_ge i init.length with hi | hi
  · rw [List.getElem?_append_left hi] at hx
    exact Dat.keep (h3 i x hx) (Chg.refl Never w) (fun _ _ h => h.elim) (fun k _ ho => .inl ho)
  · have hil : i = init.length := by
      have := (List.getElem?_eq_some_iff.1 hx).1
      simp at this
      omega
    subst hil
    simp at hx
    subst hx
    show Dat.rd w _ ((xs.drop (init.length * 3)).take 3) h
    rw [h4]
    exact ⟨mv, rfl, h5.rdv⟩

/-- its shape, and the place of the last one's marks -/
theorem OwnLast.shape {e em : TypeId} {w : World} {O : Nat → Prop} {v : Value} {init : List Hunk} {h : Hunk} {mv : Value} {xs : List Value} (hl : OwnLast e em w O v init h mv xs) :
    ∃ g cap, v = .slice (some ⟨g, 0, none⟩) (init.length + 1) cap ∧ g < w.heap.size ∧ ¬ O g ∧ init.length + 1 ≤ cap ∧ cap ≤ maxLen ∧ w.cell? ⟨g, init.length * 3 + 2, none⟩ = some mv ∧ w.cell? ⟨g, init.length * 3, none⟩ = some (.int .i64 h.old) ∧ w.cell? ⟨g, init.length * 3 + 1, none⟩ = some (.int .i64 h.new) ∧ ∀ j, w.frozen? ⟨g, j, none⟩ = false := by
  obtain ⟨h1, h2, h3, h4, h5⟩ := hl
  have h1' := h1
  rcases h1.2 with ⟨rfl, h0⟩ | ⟨g, cap, cur, rfl, hg, hh, hnc, hm, hcs, htake⟩
  · cases h0
  · have hc : ∀ j, j < 3 → w.cell? ⟨g, init.length * 3 + j, none⟩ = (xs.drop (init.length * 3))[j]? := by
      intro j hj
      rw [h1'.cellAt (init.length * 3 + j) (by omega), List.getElem?_drop]
    refine ⟨g, cap, rfl, (h1'.lt g rfl).2, h2 g rfl, hnc, hm, ?_, ?_, ?_, fun j => h1'.frozenAt j⟩
    · rw [hc 2 (by omega), h4]; rfl
    · rw [← Nat.add_zero (init.length * 3), hc 0 (by omega), h4]; rfl
    · rw [hc 1 (by omega), h4]; rfl

/-- a hunk more, without marks -/
theorem run_push_last {P : Program} {t ty e em : TypeId} (hP : ElemOk P t e 3) {w0 : World} {O : Nat → Prop} {v : Value} {l : List Hunk} {o n : Int} (E' : TypeId)
    (hown : Own e w0 O v l) (hO : ∀ k, O k → k < w0.heap.size) (hlen : l.length ≤ 1000000000) :
    ∃ v' w', (Builtin.append_ #[t, t] ty #[v, .slice (some ⟨w0.heap.size, 0, none⟩) 1 1]).run P (w0.alloc (.cells #[.int .i64 o, .int .i64 n, .slice none 0 0] E')) = .ok v' w' ∧ (∃ xs, OwnLast e em w' O v' l ⟨o, n, []⟩ (.slice none 0 0) xs) ∧ Chg (OwnB v) w0 w' := by
  obtain ⟨xs, hx, hb, hel⟩ := id hown
  obtain ⟨v', w', hrun, hrow, hc, kb, hkb, hkb2⟩ := run_push_raw (by decide) hP (ty := ty) (es := [.int .i64 o, .int .i64 n, .slice none 0 0]) E' hx rfl (by intro u hu; simp at hu; rcases hu with rfl | rfl | rfl <;> rfl) hlen
  have hxl : xs.length = l.length * 3 := hx.1
  have hout : ∀ k, v'.ownBlock = some k → ¬ O k := by
    intro k hk ho
    rw [hkb] at hk
    injection hk with hk
    subst hk
    rcases hkb2 with h | h
    · exact hb _ h ho
    · exact absurd (hO _ ho) (by omega)
  refine ⟨v', w', hrun, ⟨xs ++ [.int .i64 o, .int .i64 n, .slice none 0 0], hrow, hout, ?_, ?_, own_nil _ _ _⟩, hc⟩
  · intro i x hi
    have hil := (List.getElem?_eq_some_iff.1 hi).1
    have hr := hel i x hi
    have hle : i * 3 + 3 ≤ xs.length := by omega
    rw [List.drop_append_of_le_length (by omega), List.take_append_of_le_length (by rw [List.length_drop]; omega)]
    refine Dat.keep hr hc (fun k _ hk => .inr hk) ?_
    rintro k hk ((h | h) | h)
    · exact .inl h
    · rw [hkb] at h
      injection h with h
      subst h
      rcases hkb2 with h | h
      · exact .inr h
      · omega
    · cases h
  · rw [← hxl, List.drop_left]
theorem wpList_push_last {P : Program} {ops : Array Oper} {rest : List Oper} {o : Oper} {a : Act} {Q : Exit → Act → World → Prop} (hgd : o.guard = none) (s x : Operand) (t : TypeId)
    (ho : o.op = .call { callee := .builtin .append, args := #[s, x], argTypes := #[t, t] }) {e : TypeId} (em : TypeId) (hP : ElemOk P t e 3) {w0 : World} {O : Nat → Prop} {v : Value} {l : List Hunk} {old new : Int} {E' : TypeId} {B : Nat}
    (hs : a.eval s = v) (hx : a.eval x = .slice (some ⟨B, 0, none⟩) 1 1) (hB : B = w0.heap.size)
    (hown : Own e w0 O v l) (hO : ∀ k, O k → k < w0.heap.size) (hlen : l.length ≤ 1000000000)
    (h : ∀ v' w' xs, OwnLast e em w' O v' l ⟨old, new, []⟩ (.slice none 0 0) xs → Chg (OwnB v) w0 w' → wpList P ops Q rest (a.put o.dst v') w') :
    wpList P ops Q (o :: rest) a (w0.alloc (.cells #[.int .i64 old, .int .i64 new, .slice none 0 0] E')) := by
  subst hB
  refine wpList_plain hgd fun K hK => ?_
  obtain ⟨v', w', hrun, ⟨xs, h1⟩, h2⟩ := run_push_last (ty := o.type) (em := em) (o := old) (n := new) hP E' hown hO hlen
  unfold Oper.wp execOp
  simp only [ho, resolve, invoke, builtin, Sem.run_bind, Sem.run_pure, Result.andThen_ok, List.map_toArray, List.map_cons, List.map_nil, hs, hx, hrun]
  exact hK _ _ (h v' w' xs h1 h2)

/-- the last one's marks, grown by an append in w0 → w1, are stored back -/
theorem OwnLast.stored {e em : TypeId} {w0 w1 : World} {O : Nat → Prop} {g n cap : Nat} {init : List Hunk} {h : Hunk} {mv mv' : Value} {xs : List Value} {ms : List Mark}
    (hl : OwnLast e em w0 O (.slice (some ⟨g, 0, none⟩) n cap) init h mv xs)
    (hown : Own em w1 (fun k => O k ∨ (Value.slice (some ⟨g, 0, none⟩) n cap).ownBlock = some k) mv' ms) (hc : Chg (OwnB mv) w0 w1) (hk : ∃ k, mv'.ownBlock = some k ∧ (mv.ownBlock = some k ∨ w0.heap.size ≤ k)) :
    OwnLast e em (w1.setCell ⟨g, init.length * 3 + 2, none⟩ mv') O (.slice (some ⟨g, 0, none⟩) n cap) init ⟨h.old, h.new, ms⟩ mv' (xs.set (init.length * 3 + 2) mv') := by
  obtain ⟨h1, h2, h3, h4, h5⟩ := hl
  obtain ⟨kb, hkb, hkb2⟩ := hk
  have hn : n = init.length + 1 := by
    rcases h1.2 with ⟨h, _⟩ | ⟨g', cap', cur, h, _⟩
    · cases h
    · simp only [Value.slice.injEq] at h
      exact h.2.1
  subst hn
  have hg0 : g < w0.heap.size := (h1.lt g rfl).2
  have hgm : ¬ OwnB mv g := by
    obtain ⟨_, _, q, _⟩ := h5
    exact fun hh => q g hh (.inr rfl)
  have row1 : w1.ownsRow 0 e 3 (.slice (some ⟨g, 0, none⟩) (init.length + 1) cap) (init.length + 1) xs := by
    refine ⟨h1.1, ?_⟩
    rcases h1.2 with h | ⟨g', cap', cur, hv, r1, r2, r3⟩
    · exact .inl h
    · simp only [Value.slice.injEq, Option.some.injEq, Addr.mk.injEq, and_true, true_and] at hv
      obtain ⟨rfl, rfl⟩ := hv
      exact .inr ⟨g, cap, cur, rfl, r1, (hc.block g hg0 hgm).trans r2, r3⟩
  have hst := (row1.stored (init.length * 3 + 2) mv').1
  have hc2 : Chg (fun k => k = g) w1 (w1.setCell ⟨g, init.length * 3 + 2, none⟩ mv') := (Chg.refl (fun k => k = g) w1).setCell (p := ⟨g, init.length * 3 + 2, none⟩) (.inr rfl) mv'
  have hxl : xs.length = (init.length + 1) * 3 := h1.1
  refine ⟨hst, h2, ?_, ?_, ?_⟩
  · intro i x hi
    have hil := (List.getElem?_eq_some_iff.1 hi).1
    have hr := h3 i x hi
    have e1 : ((xs.set (init.length * 3 + 2) mv').drop (i * 3)).take 3 = (xs.drop (i * 3)).take 3 := by
      apply List.ext_getElem?
      intro j
      rw [List.getElem?_take, List.getElem?_take]
      by_cases hj : j < 3
      · rw [if_pos hj, if_pos hj, List.getElem?_drop, List.getElem?_drop, List.getElem?_set_ne (by omega)]
      · rw [if_neg hj, if_neg hj]
    rw [e1]
    refine Dat.keep (Dat.keep hr hc (O'' := fun k => (O k ∨ (Value.slice (some ⟨g, 0, none⟩) (init.length + 1) cap).ownBlock = some k) ∨ mv'.ownBlock = some k) (fun k _ hk => .inr hk) ?_) hc2 ?_ (fun k _ h => h)
    · rintro k hk (h | h)
      · exact .inl h
      · rw [hkb] at h
        injection h with h
        subst h
        rcases hkb2 with h | h
        · exact .inr h
        · omega
    · rintro k _ rfl
      exact .inl (.inr rfl)
  · apply List.ext_getElem?
    intro j
    have h4j : xs[init.length * 3 + j]? = [Value.int .i64 h.old, .int .i64 h.new, mv][j]? := by rw [← List.getElem?_drop, h4]
    rw [List.getElem?_drop]
    match j with
    | 0 => rw [List.getElem?_set_ne (by omega), h4j]; rfl
    | 1 => rw [List.getElem?_set_ne (by omega), h4j]; rfl
    | 2 => rw [List.getElem?_set_self (by omega)]; rfl
    | j + 3 => rw [List.getElem?_set_ne (by omega), h4j]; rfl
  · refine hown.keep hc2 ?_ (fun k _ h => h)
    rintro k _ rfl
    exact .inr rfl

theorem OwnLast.keep {e em : TypeId} {w w' : World} {O : Nat → Prop} {v : Value} {init : List Hunk} {h : Hunk} {mv : Value} {xs : List Value} (hl : OwnLast e em w O v init h mv xs) (hc : Chg Never w w') : OwnLast e em w' O v init h mv xs := by
  obtain ⟨h1, h2, h3, h4, h5⟩ := hl
  refine ⟨⟨h1.1, ?_⟩, h2, fun i x hi => Dat.never (h3 i x hi) hc, h4, h5.never hc⟩
  rcases h1.2 with h | ⟨g', cap', cur, hv, r1, r2, r3⟩
  · exact .inl h
  · subst hv
    exact .inr ⟨g', cap', cur, rfl, r1, (hc.block g' (h1.lt g' rfl).2 (fun x => x)).trans r2, r3⟩
end Go.Proofs.YtmojaahkcpgfkaaGreatDoor
namespace Go.Proofs.YtmojaahkcpgfkaaGreatDoor

/-- p, seen from its beginning on, has the pieces l, and all else of it is kept (true: another piece may begin here) -/
inductive Pcs : Bool → List Mark → List Hunk → Prop
  | nil : Pcs true [] []
  | keep {b : Bool} {p : List Mark} {l : List Hunk} {m : Mark} : Pcs b p l → m.sign = 32 → Pcs true (p ++ [m]) l
  | hunk {p : List Mark} {l : List Hunk} (m : List Mark) : Pcs true p l → hasChange m = true → Pcs false (p ++ m) (l ++ [⟨oldN p, newN p, m⟩])

theorem inAt_iff {s : List Mark} {n : Int} {k : Nat} : inAt s n k = true ↔ ∃ (i : Nat) (x : Mark), s[i]? = some x ∧ x.sign ≠ 32 ∧ (k : Int) ≤ i + n ∧ (i : Int) ≤ k + n := by
  unfold inAt
  rw [List.any_eq_true]
  constructor
  · rintro ⟨i, hi, hp⟩
    rw [List.mem_range] at hi
    have hx : s[i]? = some s[i] := by simp [hi]
    rw [hx] at hp
    simp only [Option.any_some, isChange, Bool.and_eq_true, decide_eq_true_eq, Bool.not_eq_true', beq_eq_false_iff_ne] at hp
    exact ⟨i, _, hx, hp.1.1, hp.1.2, hp.2⟩
  · rintro ⟨i, x, hx, h1, h2, h3⟩
    refine ⟨i, List.mem_range.2 (List.getElem?_eq_some_iff.1 hx).1, ?_⟩
    rw [hx]
    simp only [Option.any_some, isChange, Bool.and_eq_true, decide_eq_true_eq, Bool.not_eq_true', beq_eq_false_iff_ne]
    exact ⟨⟨h1, h2⟩, h3⟩

def wasIn (s : List Mark) (n : Int) (k : Nat) : Bool := decide (0 < k) && inAt s n (k - 1)
theorem wasIn_succ (s : List Mark) (n : Int) (k : Nat) : wasIn s n (k + 1) = inAt s n k := by simp [wasIn]
theorem wasIn_zero (s : List Mark) (n : Int) : wasIn s n 0 = false := rfl

theorem cutTo_succ {s : List Mark} {n : Int} {k : Nat} {x : Mark} (hx : s[k]? = some x) :
    cutTo s n (k + 1) = cutStep (cutTo s n k) (wasIn s n k) (inAt s n k) (oldN (s.take k)) (newN (s.take k)) x := by
  rw [cutTo, hx]; rfl
theorem pushLast_snoc (l : List Hunk) (h : Hunk) (m : Mark) : pushLast (l ++ [h]) m = l ++ [⟨h.old, h.new, h.marks ++ [m]⟩] := by
  unfold pushLast
  rw [List.getLast?_concat]
  simp
theorem cutTo_out {s : List Mark} {n : Int} {k : Nat} {x : Mark} (hx : s[k]? = some x) (h : inAt s n k = false) : cutTo s n (k + 1) = cutTo s n k := by
  rw [cutTo_succ hx, h]; rfl
theorem cutTo_new {s : List Mark} {n : Int} {k : Nat} {x : Mark} (hx : s[k]? = some x) (h : inAt s n k = true) (h' : wasIn s n k = false) :
    cutTo s n (k + 1) = cutTo s n k ++ [⟨oldN (s.take k), newN (s.take k), [x]⟩] := by
  rw [cutTo_succ hx, h, h']
  exact pushLast_snoc _ _ _
theorem cutTo_more {s : List Mark} {n : Int} {k : Nat} {x : Mark} {l : List Hunk} {q : Hunk} (hx : s[k]? = some x) (h : inAt s n k = true) (h' : wasIn s n k = true) (e : cutTo s n k = l ++ [q]) :
    cutTo s n (k + 1) = l ++ [⟨q.old, q.new, q.marks ++ [x]⟩] := by
  rw [cutTo_succ hx, h, h', e]
  exact pushLast_snoc _ _ _

theorem take_snoc' {α : Type} {s : List α} {k : Nat} {x : α} (hx : s[k]? = some x) : s.take (k + 1) = s.take k ++ [x] := by
  rw [List.take_add_one, hx]; rfl

theorem change_in {s : List Mark} {n : Int} (hn : 0 ≤ n) {k : Nat} {x : Mark} (hx : s[k]? = some x) (h : inAt s n k = false) : x.sign = 32 := by
  by_cases hs : x.sign = 32
  · exact hs
  · have : inAt s n k = true := inAt_iff.2 ⟨k, x, hx, hs, by omega, by omega⟩
    rw [this] at h; cases h

/-- the piece that is open at k -/
structure PieceOpen (s : List Mark) (n : Int) (k : Nat) (p m : List Mark) (l : List Hunk) : Prop where
  eq : s.take k = p ++ m
  pcs : Pcs true p l
  cut : cutTo s n k = l ++ [⟨oldN p, newN p, m⟩]
  lt : p.length < k
  inn : ∀ j, p.length ≤ j → j < k → inAt s n j = true
  out : p.length = 0 ∨ inAt s n (p.length - 1) = false

theorem PieceOpen.change {s : List Mark} {n : Int} (hn : 0 ≤ n) {k : Nat} {p m : List Mark} {l : List Hunk} (h : PieceOpen s n k p m l) (_hk : k ≤ s.length) (hk' : k = s.length ∨ inAt s n k = false) : hasChange m = true := by
  obtain ⟨e, _, _, hlt, hin, hout⟩ := h
  obtain ⟨i, x, hx, h1, h2, h3⟩ := inAt_iff.1 (hin (k - 1) (by omega) (by omega))
  have hil := (List.getElem?_eq_some_iff.1 hx).1
  have c1 : i < k := by
    rcases Nat.lt_or_ge i k with h | h
    · exact h
    · rcases hk' with h' | h'
      · omega
      · have : inAt s n k = true := inAt_iff.2 ⟨i, x, hx, h1, by omega, by omega⟩
        rw [this] at h'; cases h'
  have c2 : p.length ≤ i := by
    rcases Nat.lt_or_ge i p.length with h | h
    · rcases hout with h' | h'
      · omega
      · have : inAt s n (p.length - 1) = true := inAt_iff.2 ⟨i, x, hx, h1, by omega, by omega⟩
        rw [this] at h'; cases h'
    · exact h
  have hm : m[i - p.length]? = some x := by
    have : (s.take k)[i]? = some x := by rw [List.getElem?_take, if_pos c1, hx]
    rw [e, List.getElem?_append_right c2] at this
    exact this
  unfold hasChange
  rw [List.any_eq_true]
  exact ⟨x, List.mem_of_getElem? hm, by simpa using h1⟩

theorem cut_inv {s : List Mark} {n : Int} (hn : 0 ≤ n) : ∀ k, k ≤ s.length →
    (wasIn s n k = false → Pcs true (s.take k) (cutTo s n k)) ∧ (wasIn s n k = true → ∃ p m l, PieceOpen s n k p m l) := by
  intro k
  induction k with
  | zero =>
    intro _
    refine ⟨fun _ => ?_, fun h => ?_⟩
    · rw [List.take_zero]; exact Pcs.nil
    · rw [wasIn_zero] at h; cases h
  | succ k ih =>
    intro hk
    obtain ⟨i1, i2⟩ := ih (by omega)
    have hx : s[k]? = some s[k] := by simp
    have ht := take_snoc' hx
    refine ⟨fun h => ?_, fun h => ?_⟩
    · rw [wasIn_succ] at h
      have hs := change_in hn hx h
      rw [ht, cutTo_out hx h]
      by_cases hw : wasIn s n k = true
      · obtain ⟨p, m, l, ho⟩ := i2 hw
        have hc := ho.change hn (by omega) (.inr h)
        rw [ho.eq, ho.cut]
        exact (Pcs.hunk m ho.pcs hc).keep hs
      · exact (i1 (by simpa using hw)).keep hs
    · rw [wasIn_succ] at h
      by_cases hw : wasIn s n k = true
      · obtain ⟨p, m, l, ho⟩ := i2 hw
        refine ⟨p, m ++ [s[k]], l, ?_, ho.pcs, ?_, by have := ho.lt; omega, ?_, ho.out⟩
        · rw [ht, ho.eq, List.append_assoc]
        · rw [cutTo_more hx h hw ho.cut]
        · intro j h1 h2
          rcases Nat.lt_or_ge j k with h3 | h3
          · exact ho.inn j h1 h3
          · obtain rfl : j = k := by omega
            exact h
      · have hw' : wasIn s n k = false := by simpa using hw
        have hl : (s.take k).length = k := by rw [List.length_take]; omega
        refine ⟨s.take k, [s[k]], cutTo s n k, ht, i1 hw', cutTo_new hx h hw', by omega, ?_, ?_⟩
        · intro j h1 h2
          obtain rfl : j = k := by omega
          exact h
        · rw [hl]
          unfold wasIn at hw'
          rcases Nat.eq_zero_or_pos k with h0 | h0
          · exact .inl h0
          · right
            simpa [h0] using hw'

theorem cut_pcs {s : List Mark} {n : Int} (hn : 0 ≤ n) : ∃ b, Pcs b s (cutOf s n) := by
  obtain ⟨i1, i2⟩ := cut_inv (s := s) hn s.length (Nat.le_refl _)
  unfold cutOf
  by_cases hw : wasIn s n s.length = true
  · obtain ⟨p, m, l, ho⟩ := i2 hw
    have hc := ho.change hn (Nat.le_refl _) (.inl rfl)
    have e := ho.eq
    rw [List.take_length] at e
    rw [ho.cut]
    refine ⟨false, ?_⟩
    conv => arg 2; rw [e]
    exact Pcs.hunk m ho.pcs hc
  · have := i1 (by simpa using hw)
    rw [List.take_length] at this
    exact ⟨true, this⟩

/-! ### sums over pieces -/
theorem oldN_append (p m : List Mark) : oldN (p ++ m) = oldN p + oldN m := by simp [oldN, those, List.filter_append]
theorem newN_append (p m : List Mark) : newN (p ++ m) = newN p + newN m := by simp [newN, those, List.filter_append]
theorem changes_append (p m : List Mark) : changes (p ++ m) = changes p + changes m := by simp [changes, List.filter_append]
theorem oldN_keep {m : Mark} (h : m.sign = 32) : oldN [m] = 1 := by simp [oldN, those, h]
theorem newN_keep {m : Mark} (h : m.sign = 32) : newN [m] = 1 := by simp [newN, those, h]
theorem changes_keep {m : Mark} (h : m.sign = 32) : changes [m] = 0 := by simp [changes, h]

def manyChanges (l : List Hunk) : Nat := (l.map fun h => changes h.marks).sum
theorem Pcs.many {b : Bool} {p : List Mark} {l : List Hunk} (h : Pcs b p l) : manyChanges l = changes p := by
  induction h with
  | nil => rfl
  | keep h hs ih => rw [changes_append, changes_keep hs, ih]; rfl
  | hunk m h hc ih => rw [changes_append, ← ih]; simp [manyChanges]
theorem sizes_changes {m : List Mark} (h : hasChange m = true) : 1 ≤ oldN m + newN m := by
  unfold hasChange at h
  rw [List.any_eq_true] at h
  obtain ⟨x, hx, _⟩ := h
  by_cases h43 : x.sign = 43
  · have : x.text ∈ those m 45 := by
      unfold those
      exact List.mem_map.2 ⟨x, List.mem_filter.2 ⟨hx, by simp [h43]⟩, rfl⟩
    have := List.length_pos_of_mem this
    unfold oldN newN; omega
  · have : x.text ∈ those m 43 := by
      unfold those
      exact List.mem_map.2 ⟨x, List.mem_filter.2 ⟨hx, by simp [h43]⟩, rfl⟩
    have := List.length_pos_of_mem this
    unfold oldN newN; omega
theorem Pcs.few {b : Bool} {p : List Mark} {l : List Hunk} (h : Pcs b p l) : 3 * l.length ≤ oldN p + newN p + (if b then 0 else 2) := by
  induction h with
  | nil => simp
  | keep h hs ih =>
    rw [oldN_append, newN_append, oldN_keep hs, newN_keep hs]
    simp only [if_true]
    split at ih <;> omega
  | hunk m h hc ih =>
    have := sizes_changes hc
    rw [oldN_append, newN_append, List.length_append]
    simp only [if_true, List.length_cons, List.length_nil] at ih ⊢
    simp
    omega

/-! ### hunks, one by one -/
def hOk : Int → Int → List Hunk → Prop
  | _, _, [] => True
  | fin, more, h :: r => oneFault h fin more = 0 ∧ hOk (h.old + oldN h.marks) (more + newN h.marks - oldN h.marks) r
def hFin : Int → Int → List Hunk → Int × Int
  | fin, more, [] => (fin, more)
  | _, more, h :: r => hFin (h.old + oldN h.marks) (more + newN h.marks - oldN h.marks) r
theorem hunksGo_ok : ∀ (l : List Hunk) (i : Nat) (fin more : Int), hOk fin more l → hunksGo i fin more l = (0, 0)
  | [], _, _, _, _ => rfl
  | h :: r, i, fin, more, hk => by
    rw [hunksGo, if_pos hk.1]
    exact hunksGo_ok r _ _ _ hk.2
theorem hunksGo_zero : ∀ (l : List Hunk) (i : Nat) (fin more : Int), (hunksGo i fin more l).2 = 0 → hOk fin more l
  | [], _, _, _, _ => trivial
  | h :: r, i, fin, more, hk => by
    rw [hunksGo] at hk
    by_cases h0 : oneFault h fin more = 0
    · rw [if_pos h0] at hk
      exact ⟨h0, hunksGo_zero r _ _ _ hk⟩
    · rw [if_neg h0] at hk
      exact absurd hk h0
theorem hunksFault_ok {l : List Hunk} (h : l.length ≤ 60) (hk : hOk 0 0 l) : hunksFault l = (0, 0) := by
  unfold hunksFault
  rw [if_neg (by omega), hunksGo_ok l _ _ _ hk]
theorem hunksFault_zero {l : List Hunk} (h : (hunksFault l).2 = 0) : l.length ≤ 60 ∧ hOk 0 0 l := by
  unfold hunksFault at h
  by_cases h1 : 60 < l.length
  · rw [if_pos h1] at h; simp at h
  · rw [if_neg h1] at h
    exact ⟨by omega, hunksGo_zero _ _ _ _ h⟩
theorem hunksFault_first {l : List Hunk} (h : (hunksFault l).2 = 0) : hunksFault l = (0, 0) := by
  obtain ⟨h1, h2⟩ := hunksFault_zero h
  exact hunksFault_ok h1 h2
theorem hOk_snoc : ∀ (l : List Hunk) (h : Hunk) (fin more : Int), hOk fin more l → oneFault h (hFin fin more l).1 (hFin fin more l).2 = 0 → hOk fin more (l ++ [h])
  | [], _h, _, _, _, h2 => ⟨h2, trivial⟩
  | _x :: r, h, _fin, _more, h1, h2 => ⟨h1.1, hOk_snoc r h _ _ h1.2 h2⟩
theorem hFin_snoc : ∀ (l : List Hunk) (h : Hunk) (fin more : Int), hFin fin more (l ++ [h]) = (h.old + oldN h.marks, (hFin fin more l).2 + newN h.marks - oldN h.marks)
  | [], _h, _fin, _more => rfl
  | _x :: r, h, _fin, _more => hFin_snoc r h _ _

theorem scriptFault_sub {s m : List Mark} (h : scriptFault s = 0) (hm : ∀ x ∈ m, x ∈ s) (hl : m.length ≤ s.length) : scriptFault m = 0 := by
  rw [scriptFault_zero] at h ⊢
  exact ⟨by omega, fun x hx => h.2 x (hm x hx)⟩
theorem oneFault_of {h : Hunk} {fin more : Int} (h1 : scriptFault h.marks = 0) (h2 : hasChange h.marks = true) (h3 : 0 ≤ h.old) (h4 : 0 ≤ h.new) (h5 : h.old + oldN h.marks ≤ 60) (h6 : h.new + newN h.marks ≤ 60) (h7 : fin ≤ h.old) (h8 : h.new = h.old + more) : oneFault h fin more = 0 := by
  unfold oneFault
  rw [if_neg (by simp [h1]), if_neg (by simp [h2]), if_neg (by omega), if_neg (by omega)]

theorem Pcs.ok {b : Bool} {p : List Mark} {l : List Hunk} (h : Pcs b p l) : scriptFault p = 0 → oldN p ≤ 60 → newN p ≤ 60 → hOk 0 0 l ∧ (hFin 0 0 l).1 ≤ oldN p ∧ (hFin 0 0 l).2 = (newN p : Int) - oldN p := by
  induction h with
  | nil => intro _ _ _; exact ⟨trivial, by simp [hFin], by simp [hFin, oldN, newN, those]⟩
  | @keep b p l m h hs ih =>
    intro s0 s1 s2
    rw [oldN_append, oldN_keep hs] at s1 ⊢
    rw [newN_append, newN_keep hs] at s2 ⊢
    obtain ⟨i1, i2, i3⟩ := ih (scriptFault_sub s0 (fun x hx => List.mem_append_left _ hx) (by simp)) (by omega) (by omega)
    exact ⟨i1, by omega, by omega⟩
  | @hunk p l m h hc ih =>
    intro s0 s1 s2
    rw [oldN_append] at s1 ⊢
    rw [newN_append] at s2 ⊢
    obtain ⟨i1, i2, i3⟩ := ih (scriptFault_sub s0 (fun x hx => List.mem_append_left _ hx) (by simp)) (by omega) (by omega)
    have hm := scriptFault_sub (m := m) s0 (fun x hx => List.mem_append_right _ hx) (by simp)
    rw [hFin_snoc]
    refine ⟨hOk_snoc _ _ _ _ i1 (oneFault_of hm hc ?_ ?_ ?_ ?_ ?_ ?_), ?_, ?_⟩
    all_goals simp only []
    all_goals omega

theorem cutFault_zero {s : List Mark} {n : Int} (h : cutFault s n = 0) : scriptFault s = 0 ∧ 0 ≤ n ∧ n ≤ 1000 ∧ oldN s ≤ 60 ∧ newN s ≤ 60 := by
  unfold cutFault at h
  by_cases h1 : scriptFault s ≠ 0
  · rw [if_pos h1] at h; exact absurd h h1
  · rw [if_neg h1] at h
    by_cases h2 : n < 0 ∨ 1000 < n
    · rw [if_pos h2] at h; simp at h
    · rw [if_neg h2] at h
      by_cases h3 : 60 < oldN s ∨ 60 < newN s
      · rw [if_pos h3] at h; simp at h
      · exact ⟨by simpa using h1, by omega, by omega, by omega, by omega⟩
theorem cutFault_of {s : List Mark} {n m : Int} (h : cutFault s n = 0) (h0 : 0 ≤ m) (h1 : m ≤ 1000) : cutFault s m = 0 := by
  obtain ⟨a, _, _, b, c⟩ := cutFault_zero h
  unfold cutFault
  rw [if_neg (by simp [a]), if_neg (by omega), if_neg (by omega)]
theorem cut_ok {s : List Mark} {n : Int} (h : cutFault s n = 0) : hunksFault (cutOf s n) = (0, 0) := by
  obtain ⟨h1, h2, h3, h4, h5⟩ := cutFault_zero h
  obtain ⟨b, hp⟩ := cut_pcs (s := s) h2
  obtain ⟨k1, _, _⟩ := hp.ok h1 h4 h5
  refine hunksFault_ok ?_ k1
  have := hp.few
  split at this <;> omega
theorem cut_many {s : List Mark} {n : Int} (h : 0 ≤ n) : manyChanges (cutOf s n) = changes s := by
  obtain ⟨b, hp⟩ := cut_pcs (s := s) h
  exact hp.many

/-! ### turned -/
theorem turnMark_turnMark (m : Mark) : turnMark (turnMark m) = m := by
  obtain ⟨sg, tx⟩ := m
  simp only [turnMark, Mark.mk.injEq, and_true]
  by_cases h1 : sg = 45
  · simp [h1]
  · by_cases h2 : sg = 43
    · simp [h2]
    · simp [h1, h2]
theorem turnHunk_turnHunk (h : Hunk) : turnHunk (turnHunk h) = h := by
  obtain ⟨o, n, l⟩ := h
  simp only [turnHunk, List.map_map, Hunk.mk.injEq, true_and]
  rw [show turnMark ∘ turnMark = id from funext turnMark_turnMark]
  simp
def turnHunks (l : List Hunk) : List Hunk := l.map turnHunk
theorem turn_turn (l : List Hunk) : turnHunks (turnHunks l) = l := by
  unfold turnHunks
  rw [List.map_map, show turnHunk ∘ turnHunk = id from funext turnHunk_turnHunk]
  simp
theorem turnMark_43 (m : Mark) : (turnMark m).sign = 43 ↔ m.sign = 45 := by
  unfold turnMark
  by_cases h1 : m.sign = 45
  · simp [h1]
  · by_cases h2 : m.sign = 43
    · simp [h2]
    · simp [h1, h2]
theorem turnMark_45 (m : Mark) : (turnMark m).sign = 45 ↔ m.sign = 43 := by
  unfold turnMark
  by_cases h1 : m.sign = 45
  · simp [h1]
  · by_cases h2 : m.sign = 43
    · simp [h2]
    · simp [h1, h2]
theorem turnMark_32 (m : Mark) : (turnMark m).sign = 32 ↔ m.sign = 32 := by
  unfold turnMark
  by_cases h1 : m.sign = 45
  · simp [h1]
  · by_cases h2 : m.sign = 43
    · simp [h2]
    · simp [h1, h2]
theorem those_turn (l : List Mark) : those (l.map turnMark) 43 = those l 45 ∧ those (l.map turnMark) 45 = those l 43 := by
  unfold those
  constructor
  · rw [List.filter_map, List.map_map]
    have e1 : ((fun m : Mark => decide (m.sign ≠ 43)) ∘ turnMark) = fun m => decide (m.sign ≠ 45) := by
      funext m; simp [turnMark_43]
    rw [e1]; rfl
  · rw [List.filter_map, List.map_map]
    have e1 : ((fun m : Mark => decide (m.sign ≠ 45)) ∘ turnMark) = fun m => decide (m.sign ≠ 43) := by
      funext m; simp [turnMark_45]
    rw [e1]; rfl
theorem oldN_turn (l : List Mark) : oldN (l.map turnMark) = newN l := by unfold oldN newN; rw [(those_turn l).1]
theorem newN_turn (l : List Mark) : newN (l.map turnMark) = oldN l := by unfold oldN newN; rw [(those_turn l).2]
theorem markFault_turn (m : Mark) : markFault (turnMark m) = markFault m := by
  unfold markFault
  have e : ((turnMark m).sign ≠ 32 ∧ (turnMark m).sign ≠ 45 ∧ (turnMark m).sign ≠ 43) = (m.sign ≠ 32 ∧ m.sign ≠ 45 ∧ m.sign ≠ 43) := by
    simp only [ne_eq, turnMark_32, turnMark_43, turnMark_45, eq_iff_iff]
    constructor <;> (rintro ⟨a, b, c⟩; exact ⟨a, c, b⟩)
  simp only [e]
  rfl
theorem scriptFault_turn {l : List Mark} (h : scriptFault l = 0) : scriptFault (l.map turnMark) = 0 := by
  rw [scriptFault_zero] at h ⊢
  refine ⟨by simpa using h.1, ?_⟩
  intro x hx
  obtain ⟨y, hy, rfl⟩ := List.mem_map.1 hx
  rw [markFault_turn]
  exact h.2 y hy
theorem hasChange_turn (l : List Mark) : hasChange (l.map turnMark) = hasChange l := by
  unfold hasChange
  rw [List.any_map]
  congr 1
  funext m
  simp [turnMark_32]
theorem oneFault_turn {h : Hunk} {fin more : Int} (e : oneFault h fin more = 0) : oneFault (turnHunk h) (fin + more) (-more) = 0 := by
  obtain ⟨e1, e2, e3, e4, e5, e6, e7, e8⟩ := oneFault_zero e
  refine oneFault_of (scriptFault_turn e1) ?_ ?_ ?_ ?_ ?_ ?_ ?_
  · simp only [turnHunk]; rw [hasChange_turn]; exact e2
  all_goals simp only [turnHunk, oldN_turn, newN_turn]
  all_goals omega
theorem hOk_turn : ∀ (l : List Hunk) (fin more : Int), hOk fin more l → hOk (fin + more) (-more) (turnHunks l)
  | [], _, _, _ => trivial
  | h :: r, fin, more, hk => by
    refine ⟨oneFault_turn hk.1, ?_⟩
    obtain ⟨_, _, _, _, _, _, _, e8⟩ := oneFault_zero hk.1
    have := hOk_turn r _ _ hk.2
    have e1 : (turnHunk h).old + oldN (turnHunk h).marks = (h.old + oldN h.marks) + (more + newN h.marks - oldN h.marks) := by
      simp only [turnHunk, oldN_turn]; omega
    have e2 : -more + (newN (turnHunk h).marks : Int) - oldN (turnHunk h).marks = -(more + newN h.marks - oldN h.marks) := by
      simp only [turnHunk, oldN_turn, newN_turn]; omega
    rw [e1, e2]
    exact this
theorem turn_ok {l : List Hunk} (h : hunksFault l = (0, 0)) : hunksFault (turnHunks l) = (0, 0) := by
  obtain ⟨h1, h2⟩ := hunksFault_zero (by rw [h])
  refine hunksFault_ok (by simpa [turnHunks] using h1) ?_
  simpa using hOk_turn l 0 0 h2

/-! ### of a great context one piece -/
theorem cut_none {s : List Mark} {n : Int} (h : ∀ k, inAt s n k = false) : ∀ k, k ≤ s.length → cutTo s n k = [] := by
  intro k
  induction k with
  | zero => intro _; rfl
  | succ k ih =>
    intro hk
    have hx : s[k]? = some s[k] := by simp
    rw [cutTo_out hx (h k), ih (by omega)]
theorem cut_whole {s : List Mark} {n : Int} (h : ∀ k, k < s.length → inAt s n k = true) : ∀ k, k < s.length → cutTo s n (k + 1) = [⟨0, 0, s.take (k + 1)⟩] := by
  intro k
  induction k with
  | zero =>
    intro hk
    have hx : s[0]? = some s[0] := by simp
    rw [cutTo_new hx (h 0 hk) rfl, take_snoc' hx]
    rfl
  | succ k ih =>
    intro hk
    have hx : s[k + 1]? = some s[k + 1] := by simp
    rw [cutTo_more (l := []) hx (h _ hk) (by rw [wasIn_succ]; exact h k (by omega)) (ih (by omega)), take_snoc' hx]
    rfl
theorem changes_zero {s : List Mark} (h : changes s = 0) : ∀ x ∈ s, x.sign = 32 := by
  intro x hx
  unfold changes at h
  have := List.filter_eq_nil_iff.1 (List.eq_nil_of_length_eq_zero h) x hx
  simpa using this
theorem cut_200 {s : List Mark} (h : s.length ≤ 120) : cutOf s 200 = if changes s = 0 then [] else [⟨0, 0, s⟩] := by
  by_cases h0 : changes s = 0
  · rw [if_pos h0]
    have hz := changes_zero h0
    refine cut_none (fun k => ?_) _ (Nat.le_refl _)
    by_cases hk : inAt s 200 k = true
    · obtain ⟨i, x, hx, h1, _⟩ := inAt_iff.1 hk
      exact absurd (hz x (List.mem_of_getElem? hx)) h1
    · simpa using hk
  · rw [if_neg h0]
    obtain ⟨x, hx, hs⟩ : ∃ x ∈ s, x.sign ≠ 32 := by
      have : (s.filter fun m => decide (m.sign ≠ 32)) ≠ [] := fun e => h0 (by unfold changes; rw [e]; rfl)
      obtain ⟨x, hx⟩ := List.exists_mem_of_ne_nil _ this
      rw [List.mem_filter] at hx
      exact ⟨x, hx.1, by simpa using hx.2⟩
    obtain ⟨i, hi⟩ := List.getElem?_of_mem hx
    have hil := (List.getElem?_eq_some_iff.1 hi).1
    have hall : ∀ k, k < s.length → inAt s 200 k = true := fun k hk => inAt_iff.2 ⟨i, x, hi, hs, by omega, by omega⟩
    have := cut_whole hall (s.length - 1) (by omega)
    unfold cutOf
    rw [show s.length - 1 + 1 = s.length by omega, List.take_length] at this
    exact this

/-! ### with more context no more pieces -/
theorem inAt_mono {s : List Mark} {n m : Int} (h : n ≤ m) {k : Nat} (hk : inAt s n k = true) : inAt s m k = true := by
  obtain ⟨i, x, hx, h1, h2, h3⟩ := inAt_iff.1 hk
  exact inAt_iff.2 ⟨i, x, hx, h1, by omega, by omega⟩
theorem cutLen_out {s : List Mark} {n : Int} {k : Nat} (hk : k < s.length) (h : inAt s n k = false) : (cutTo s n (k + 1)).length = (cutTo s n k).length := by
  have hx : s[k]? = some s[k] := by simp [hk]
  rw [cutTo_out hx h]
theorem cutLen_new {s : List Mark} {n : Int} {k : Nat} (hk : k < s.length) (h : inAt s n k = true) (h' : wasIn s n k = false) : (cutTo s n (k + 1)).length = (cutTo s n k).length + 1 := by
  have hx : s[k]? = some s[k] := by simp [hk]
  rw [cutTo_new hx h h']; simp
theorem cutLen_more {s : List Mark} {n : Int} (hn : 0 ≤ n) {k : Nat} (hk : k < s.length) (h : inAt s n k = true) (h' : wasIn s n k = true) : (cutTo s n (k + 1)).length = (cutTo s n k).length := by
  have hx : s[k]? = some s[k] := by simp [hk]
  obtain ⟨p, m, l, ho⟩ := (cut_inv hn k (by omega)).2 h'
  rw [cutTo_more hx h h' ho.cut, ho.cut]; simp
theorem cut_fewer {s : List Mark} {n m : Int} (hn : 0 ≤ n) (h : n ≤ m) : ∀ k, k ≤ s.length →
    (cutTo s m k).length ≤ (cutTo s n k).length ∨
    ((cutTo s m k).length ≤ (cutTo s n k).length + 1 ∧ ∃ st, st < k ∧ (∀ j, st ≤ j → j < k → inAt s m j = true ∧ inAt s n j = false) ∧ (st = 0 ∨ inAt s m (st - 1) = false)) := by
  intro k
  induction k with
  | zero => intro _; exact .inl (Nat.le_refl _)
  | succ k ih =>
    intro hk
    have hlt : k < s.length := by omega
    have hm0 : 0 ≤ m := by omega
    have ihk := ih (by omega)
    by_cases hm : inAt s m k = true
    · by_cases hn' : inAt s n k = true
      · -- both
        by_cases wm : wasIn s m k = true
        · have e1 := cutLen_more hm0 hlt hm wm
          by_cases wn : wasIn s n k = true
          · have e2 := cutLen_more hn hlt hn' wn
            rcases ihk with h1 | ⟨h1, st, h2, h3, h4⟩
            · left; omega
            · exfalso
              have := (h3 (k - 1) (by omega) (by omega)).2
              unfold wasIn at wn
              rw [this] at wn
              simp at wn
          · have e2 := cutLen_new hlt hn' (by simpa using wn)
            rcases ihk with h1 | ⟨h1, _⟩
            · left; omega
            · left; omega
        · have wm' : wasIn s m k = false := by simpa using wm
          have e1 := cutLen_new hlt hm wm'
          have wn' : wasIn s n k = false := by
            unfold wasIn at wm' ⊢
            by_cases h0 : 0 < k
            · simp only [h0, decide_true, Bool.true_and] at wm' ⊢
              by_cases hh : inAt s n (k - 1) = true
              · rw [inAt_mono h hh] at wm'; cases wm'
              · simpa using hh
            · simp [h0]
          have e2 := cutLen_new hlt hn' wn'
          rcases ihk with h1 | ⟨h1, st, h2, h3, h4⟩
          · left; omega
          · exfalso
            have := (h3 (k - 1) (by omega) (by omega)).1
            unfold wasIn at wm'
            rw [this] at wm'
            simp at wm'
            omega
      · have hn'' : inAt s n k = false := by simpa using hn'
        have e2 := cutLen_out hlt hn''
        by_cases wm : wasIn s m k = true
        · have e1 := cutLen_more hm0 hlt hm wm
          rcases ihk with h1 | ⟨h1, st, h2, h3, h4⟩
          · left; omega
          · right
            refine ⟨by omega, st, by omega, ?_, h4⟩
            intro j a b
            rcases Nat.lt_or_ge j k with c | c
            · exact h3 j a c
            · obtain rfl : j = k := by omega
              exact ⟨hm, hn''⟩
        · have wm' : wasIn s m k = false := by simpa using wm
          have e1 := cutLen_new hlt hm wm'
          rcases ihk with h1 | ⟨h1, st, h2, h3, h4⟩
          · right
            refine ⟨by omega, k, by omega, ?_, ?_⟩
            · intro j a b
              obtain rfl : j = k := by omega
              exact ⟨hm, hn''⟩
            · unfold wasIn at wm'
              rcases Nat.eq_zero_or_pos k with h0 | h0
              · exact .inl h0
              · right; simpa [h0] using wm'
          · exfalso
            have := (h3 (k - 1) (by omega) (by omega)).1
            unfold wasIn at wm'
            rw [this] at wm'
            simp at wm'
            omega
    · have hm' : inAt s m k = false := by simpa using hm
      have hn' : inAt s n k = false := by
        by_cases hh : inAt s n k = true
        · rw [inAt_mono h hh] at hm'; cases hm'
        · simpa using hh
      have e1 := cutLen_out hlt hm'
      have e2 := cutLen_out hlt hn'
      rcases ihk with h1 | ⟨h1, st, h2, h3, h4⟩
      · left; omega
      · exfalso
        obtain ⟨i, x, hx, c1, c2, c3⟩ := inAt_iff.1 (h3 (k - 1) (by omega) (by omega)).1
        rcases Nat.lt_or_ge i k with d1 | d1
        · rcases Nat.lt_or_ge i st with d2 | d2
          · rcases h4 with h4 | h4
            · omega
            · have : inAt s m (st - 1) = true := inAt_iff.2 ⟨i, x, hx, c1, by omega, by omega⟩
              rw [this] at h4; cases h4
          · have := (h3 i d2 d1).2
            have h5 : inAt s n i = true := inAt_iff.2 ⟨i, x, hx, c1, by omega, by omega⟩
            rw [this] at h5; cases h5
        · have : inAt s m k = true := inAt_iff.2 ⟨i, x, hx, c1, by omega, by omega⟩
          rw [this] at hm'; cases hm'
theorem cut_mono {s : List Mark} {n m : Int} (hn : 0 ≤ n) (h : n ≤ m) : (cutOf s m).length ≤ (cutOf s n).length := by
  unfold cutOf
  rcases cut_fewer (s := s) hn h s.length (Nat.le_refl _) with h1 | ⟨h1, st, h2, h3, h4⟩
  · exact h1
  · exfalso
    obtain ⟨i, x, hx, c1, c2, c3⟩ := inAt_iff.1 (h3 (s.length - 1) (by omega) (by omega)).1
    have hi := (List.getElem?_eq_some_iff.1 hx).1
    rcases Nat.lt_or_ge i st with d2 | d2
    · rcases h4 with h4 | h4
      · omega
      · have : inAt s m (st - 1) = true := inAt_iff.2 ⟨i, x, hx, c1, by omega, by omega⟩
        rw [this] at h4; cases h4
    · have := (h3 i d2 hi).2
      have h5 : inAt s n i = true := inAt_iff.2 ⟨i, x, hx, c1, by omega, by omega⟩
      rw [this] at h5; cases h5
end Go.Proofs.YtmojaahkcpgfkaaGreatDoor
namespace Go.Proofs.YtmojaahkcpgfkaaGreatDoor
open Go.RowKit

theorem elemOk_hunk : ElemOk Tryz.prog 22 42 3 := elemOk_of Tryz.underlying22 (z := .agg #[.int .i64 0, .int .i64 0, .slice none 0 0]) (b := 40) (by kernel_rfl) rfl (by decide)

/-- 'append(v, y)' at a step of a region that draws: y's cells have just been laid in a block of their own -/
theorem step_push {P : Program} {ops : Array Oper} {o : Oper} {a : Act} {K : Act → World → Prop} {Q : Exit → Act → World → Prop} {E : Prop} (hgd : o.guard = none) (s x : Operand) (t : TypeId)
    (ho : o.op = .call { callee := .builtin .append, args := #[s, x], argTypes := #[t, t] }) {α : Type} [Dat α] {e : TypeId} (hP : ElemOk P t e (Dat.n α)) {w0 : World} {O : Nat → Prop} {v : Value} {l : List α} {y : α} {es : List Value} {E' : TypeId} {B : Nat}
    (hs : a.eval s = v) (hx : a.eval x = .slice (some ⟨B, 0, none⟩) 1 1) (hB : B = w0.heap.size)
    (hown : Own e w0 O v l) (hy : Dat.rd w0 (fun k => O k ∨ v.ownBlock = some k) es y) (hO : ∀ k, O k → k < w0.heap.size) (hlen : l.length ≤ 1000000000)
    (h : ∀ v' w', Own e w' O v' (l ++ [y]) → Chg (OwnB v) w0 w' → (∃ k, v'.ownBlock = some k ∧ (v.ownBlock = some k ∨ w0.heap.size ≤ k)) → K (a.put o.dst v') w') :
    if Region.wanted o (yielded ops a.tmps) = true then Oper.wp P o a (w0.alloc (.cells es.toArray E')) K Q else E := by
  have hw : Region.wanted o (yielded ops a.tmps) = true := by simp [Region.wanted, hgd]
  rw [if_pos hw]
  subst hB
  obtain ⟨v', w', hrun, h1, h2, h3⟩ := run_push (ty := o.type) hP E' hown hy hO hlen
  unfold Oper.wp execOp
  simp only [ho, resolve, invoke, builtin, Sem.run_bind, Sem.run_pure, Result.andThen_ok, List.map_toArray, List.map_cons, List.map_nil, hs, hx, hrun]
  exact h v' w' h1 h2 h3

theorem cutTo_len {s : List Mark} {n : Int} (hn : 0 ≤ n) : ∀ k, k ≤ s.length → (cutTo s n k).length ≤ k := by
  intro k
  induction k with
  | zero => intro _; exact Nat.le_refl _
  | succ k ih =>
    intro hk
    have := ih (by omega)
    by_cases h1 : inAt s n k = true
    · by_cases h2 : wasIn s n k = true
      · rw [cutLen_more hn (by omega) h1 h2]; omega
      · rw [cutLen_new (by omega) h1 (by simpa using h2)]; omega
    · rw [cutLen_out (by omega) (by simpa using h1)]; omega

theorem own_slice {v : Value} {p : Nat → Prop} (h : ∃ k, v.ownBlock = some k ∧ p k) : ∃ a n c, v = .slice (some a) n c := by
  obtain ⟨k, hk, _⟩ := h
  unfold Value.ownBlock at hk
  split at hk
  · exact ⟨_, _, _, rfl⟩
  · cases hk

theorem ifn_true {a k : Int} (h : (a != k) = true) : (if a = k then (0 : Nat) else 1) = 1 := if_neg (by simpa using h)
theorem ifn_false {a k : Int} (h : (a != k) = false) : (if a = k then (0 : Nat) else 1) = 0 := if_pos (by simpa using h)

/-- the hunks so far -/
def CutOwn (w : World) (O : Nat → Prop) (v : Value) (l : List Hunk) (was : Bool) : Prop :=
  if was = true then ∃ init h mv xs, l = init ++ [h] ∧ OwnLast 42 39 w O v init h mv xs else Own 42 w O v l
theorem CutOwn.own {w : World} {O : Nat → Prop} {v : Value} {l : List Hunk} {was : Bool} (h : CutOwn w O v l was) : Own 42 w O v l := by
  unfold CutOwn at h
  split at h
  · obtain ⟨init, q, mv, xs, rfl, hl⟩ := h
    exact hl.own
  · exact h


theorem cut_marks {s : List Mark} {n : Int} (hn : 0 ≤ n) {k : Nat} (hk : k ≤ s.length) (hw : wasIn s n k = true) {init : List Hunk} {q : Hunk} (e : cutTo s n k = init ++ [q]) : q.marks.length ≤ k := by
  obtain ⟨p, m, l, ho⟩ := (cut_inv hn k hk).2 hw
  have h1 := ho.eq
  have h2 := ho.cut
  rw [e] at h2
  have h3 := (List.append_inj' h2 rfl).2
  simp only [List.cons.injEq, and_true] at h3
  subst h3
  have : (s.take k).length = (p ++ m).length := by rw [h1]
  rw [List.length_take, List.length_append] at this
  simp only
  omega

end Go.Proofs.YtmojaahkcpgfkaaGreatDoor
namespace Go.Proofs.YtmojaahkcpgfkaaGreatDoor

/-- do lines stand at a place? -/
def standsB (a : List ByteArray) (at_ : Int) (l : List ByteArray) : Bool :=
  decide (0 ≤ at_) && decide (at_ + l.length ≤ a.length) && decide ((a.drop at_.toNat).take l.length = l)
/-- hunk by hunk: the number, from where on the file is not yet copied, what has come so far -/
def strictGo (a : List ByteArray) : Nat → Nat → List ByteArray → List Hunk → List ByteArray × Nat × Int
  | _, fr, out, [] => if 60 < (out ++ a.drop fr).length then ([], 0, 3) else (out ++ a.drop fr, 0, 0)
  | i, fr, out, h :: r =>
    if standsB a h.old (oldOf h.marks) then strictGo a (i + 1) (h.old.toNat + oldN h.marks) (out ++ (a.drop fr).take (h.old.toNat - fr) ++ newOf h.marks) r
    else ([], i, 6)
def strict (a : List ByteArray) (l : List Hunk) : List ByteArray × Nat × Int :=
  if linesFault a ≠ 0 then ([], 0, linesFault a) else if (hunksFault l).2 ≠ 0 then ([], (hunksFault l).1, (hunksFault l).2) else strictGo a 0 0 [] l

/-- p has the hunks l, each at its place, and all else of it is kept -/
inductive Fits : List Mark → List Hunk → Prop
  | nil : Fits [] []
  | keep {p : List Mark} {l : List Hunk} {m : Mark} : Fits p l → m.sign = 32 → Fits (p ++ [m]) l
  | hunk {p : List Mark} {l : List Hunk} (m : List Mark) : Fits p l → hasChange m = true → Fits (p ++ m) (l ++ [⟨oldN p, newN p, m⟩])
theorem Pcs.fits {b : Bool} {p : List Mark} {l : List Hunk} (h : Pcs b p l) : Fits p l := by
  induction h with
  | nil => exact .nil
  | keep _ hs ih => exact ih.keep hs
  | hunk m _ hc ih => exact ih.hunk m hc

theorem those_append (p m : List Mark) (no : Int) : those (p ++ m) no = those p no ++ those m no := by simp [those, List.filter_append]
theorem those_keep {m : Mark} (h : m.sign = 32) : those [m] 43 = [m.text] ∧ those [m] 45 = [m.text] := by simp [those, h]
theorem oldN_eq (p : List Mark) : oldN p = (those p 43).length := rfl
theorem newN_eq (p : List Mark) : newN p = (those p 45).length := rfl

/-- the state behind some hunks -/
def doAll (a : List ByteArray) : Nat → List ByteArray → List Hunk → Option (Nat × List ByteArray)
  | fr, out, [] => some (fr, out)
  | fr, out, h :: r => if standsB a h.old (oldOf h.marks) then doAll a (h.old.toNat + oldN h.marks) (out ++ (a.drop fr).take (h.old.toNat - fr) ++ newOf h.marks) r else none
theorem doAll_snoc (a : List ByteArray) : ∀ (l : List Hunk) (h : Hunk) (fr fr' : Nat) (out out' : List ByteArray), doAll a fr out l = some (fr', out') → standsB a h.old (oldOf h.marks) = true →
    doAll a fr out (l ++ [h]) = some (h.old.toNat + oldN h.marks, out' ++ (a.drop fr').take (h.old.toNat - fr') ++ newOf h.marks)
  | [], h, fr, fr', out, out', e, hs => by
    simp only [doAll, Option.some.injEq, Prod.mk.injEq] at e
    obtain ⟨rfl, rfl⟩ := e
    simp [doAll, hs]
  | x :: r, h, fr, fr', out, out', e, hs => by
    simp only [doAll, List.cons_append] at e ⊢
    by_cases hx : standsB a x.old (oldOf x.marks) = true
    · rw [if_pos hx] at e ⊢
      exact doAll_snoc a r h _ _ _ _ e hs
    · rw [if_neg hx] at e; cases e
theorem strictGo_of (a : List ByteArray) : ∀ (l : List Hunk) (i fr fr' : Nat) (out out' : List ByteArray), doAll a fr out l = some (fr', out') → (out' ++ a.drop fr').length ≤ 60 → strictGo a i fr out l = (out' ++ a.drop fr', 0, 0)
  | [], i, fr, fr', out, out', e, h60 => by
    simp only [doAll, Option.some.injEq, Prod.mk.injEq] at e
    obtain ⟨rfl, rfl⟩ := e
    rw [strictGo, if_neg (by omega)]
  | x :: r, i, fr, fr', out, out', e, h60 => by
    rw [doAll] at e
    by_cases hx : standsB a x.old (oldOf x.marks) = true
    · rw [if_pos hx] at e
      rw [strictGo, if_pos hx]
      exact strictGo_of a r _ _ _ _ _ e h60
    · rw [if_neg hx] at e; cases e
theorem strictGo_inv (a : List ByteArray) : ∀ (l : List Hunk) (i fr : Nat) (out y : List ByteArray) (k : Nat), strictGo a i fr out l = (y, k, 0) → ∃ fr' out', doAll a fr out l = some (fr', out') ∧ y = out' ++ a.drop fr' ∧ y.length ≤ 60 ∧ k = 0
  | [], i, fr, out, y, k, e => by
    rw [strictGo] at e
    by_cases h : 60 < (out ++ a.drop fr).length
    · rw [if_pos h] at e; simp at e
    · rw [if_neg h] at e
      simp only [Prod.mk.injEq, and_true] at e
      obtain ⟨rfl, rfl⟩ := e
      exact ⟨fr, out, rfl, rfl, by omega, rfl⟩
  | x :: r, i, fr, out, y, k, e => by
    rw [strictGo] at e
    by_cases hx : standsB a x.old (oldOf x.marks) = true
    · rw [if_pos hx] at e
      obtain ⟨fr', out', h1, h2, h3, h4⟩ := strictGo_inv a r _ _ _ _ _ e
      exact ⟨fr', out', by rw [doAll, if_pos hx]; exact h1, h2, h3, h4⟩
    · rw [if_neg hx] at e; simp at e

theorem stands_mid (x y z : List ByteArray) : standsB (x ++ y ++ z) (x.length : Int) y = true := by
  unfold standsB
  simp only [Bool.and_eq_true, decide_eq_true_eq, Int.toNat_natCast]
  refine ⟨⟨by omega, by simp; omega⟩, ?_⟩
  rw [List.append_assoc, List.drop_left, List.take_left]

theorem Fits.doAll {p : List Mark} {l : List Hunk} (h : Fits p l) : ∀ t : List ByteArray, ∃ fr out, doAll (those p 43 ++ t) 0 [] l = some (fr, out) ∧ fr ≤ oldN p ∧ out ++ (those p 43).drop fr = those p 45 := by
  induction h with
  | nil => intro t; exact ⟨0, [], rfl, Nat.zero_le _, rfl⟩
  | @keep p l m h hs ih =>
    intro t
    obtain ⟨fr, out, h1, h2, h3⟩ := ih ([m.text] ++ t)
    refine ⟨fr, out, ?_, ?_, ?_⟩
    · rw [those_append, (those_keep hs).1, List.append_assoc]; exact h1
    · rw [oldN_append]; omega
    · rw [those_append, those_append, (those_keep hs).1, (those_keep hs).2, List.drop_append_of_le_length (by rw [← oldN_eq]; exact h2), ← List.append_assoc, h3]
  | @hunk p l m h hc ih =>
    intro t
    obtain ⟨fr, out, h1, h2, h3⟩ := ih (those m 43 ++ t)
    refine ⟨oldN p + oldN m, those p 45 ++ those m 45, ?_, ?_, ?_⟩
    · rw [those_append, List.append_assoc]
      have hs : standsB (those p 43 ++ (those m 43 ++ t)) ((oldN p : Nat) : Int) (oldOf m) = true := by
        rw [← List.append_assoc]
        exact stands_mid (those p 43) (those m 43) t
      rw [doAll_snoc _ l ⟨oldN p, newN p, m⟩ _ _ _ _ h1 hs]
      have e1 : ((those p 43 ++ (those m 43 ++ t)).drop fr).take (oldN p - fr) = (those p 43).drop fr := by
        rw [List.drop_append_of_le_length (by rw [← oldN_eq]; exact h2), List.take_left' (by rw [List.length_drop, ← oldN_eq])]
      simp only [Int.toNat_natCast]
      rw [e1, h3]
      rfl
    · rw [oldN_append]; omega
    · rw [those_append, those_append, List.drop_of_length_le (by rw [List.length_append, ← oldN_eq, ← oldN_eq]; omega), List.append_nil]

theorem Fits.ok {p : List Mark} {l : List Hunk} (h : Fits p l) : (∀ x ∈ p, markFault x = 0) → (∀ q ∈ l, q.marks.length ≤ 120) → oldN p ≤ 60 → newN p ≤ 60 → hOk 0 0 l ∧ (hFin 0 0 l).1 ≤ oldN p ∧ (hFin 0 0 l).2 = (newN p : Int) - oldN p := by
  induction h with
  | nil => intro _ _ _ _; exact ⟨trivial, by simp [hFin], by simp [hFin, oldN, newN, those]⟩
  | @keep p l m h hs ih =>
    intro s0 s3 s1 s2
    rw [oldN_append, oldN_keep hs] at s1 ⊢
    rw [newN_append, newN_keep hs] at s2 ⊢
    obtain ⟨i1, i2, i3⟩ := ih (fun x hx => s0 x (List.mem_append_left _ hx)) s3 (by omega) (by omega)
    exact ⟨i1, by omega, by omega⟩
  | @hunk p l m h hc ih =>
    intro s0 s3 s1 s2
    rw [oldN_append] at s1 ⊢
    rw [newN_append] at s2 ⊢
    obtain ⟨i1, i2, i3⟩ := ih (fun x hx => s0 x (List.mem_append_left _ hx)) (fun q hq => s3 q (List.mem_append_left _ hq)) (by omega) (by omega)
    have hm : scriptFault m = 0 := scriptFault_zero.2 ⟨s3 ⟨oldN p, newN p, m⟩ (by simp), fun x hx => s0 x (List.mem_append_right _ hx)⟩
    rw [hFin_snoc]
    refine ⟨hOk_snoc _ _ _ _ i1 (oneFault_of hm hc ?_ ?_ ?_ ?_ ?_ ?_), ?_, ?_⟩
    all_goals simp only []
    all_goals omega

theorem Fits.turn {p : List Mark} {l : List Hunk} (h : Fits p l) : Fits (p.map turnMark) (turnHunks l) := by
  induction h with
  | nil => exact .nil
  | @keep p l m h hs ih =>
    rw [List.map_append]
    exact ih.keep ((turnMark_32 m).2 hs)
  | @hunk p l m h hc ih =>
    rw [List.map_append]
    have e : turnHunks (l ++ [⟨oldN p, newN p, m⟩]) = turnHunks l ++ [⟨oldN (p.map turnMark), newN (p.map turnMark), m.map turnMark⟩] := by
      simp [turnHunks, turnHunk, oldN_turn, newN_turn]
    rw [e]
    exact ih.hunk _ (by rw [hasChange_turn]; exact hc)

/-- hunks that fit a script lead from its old lines to its new ones -/
theorem Fits.strict {p : List Mark} {l : List Hunk} (h : Fits p l) (h1 : linesFault (those p 43) = 0) (h2 : (hunksFault l).2 = 0) (h3 : newN p ≤ 60) : strict (those p 43) l = (those p 45, 0, 0) := by
  unfold Proofs.YtmojaahkcpgfkaaGreatDoor.strict
  rw [if_neg (by simp [h1]), if_neg (by simp [h2])]
  obtain ⟨fr, out, e1, e2, e3⟩ := h.doAll []
  rw [List.append_nil] at e1
  rw [strictGo_of _ l 0 0 fr [] out e1 (by rw [e3, ← newN_eq]; exact h3), e3]

/-! ### hunks that were done fit -/
def keeps (l : List ByteArray) : List Mark := l.map fun x => ⟨32, x⟩
theorem those_keeps (l : List ByteArray) : those (keeps l) 43 = l ∧ those (keeps l) 45 = l := by
  unfold keeps those
  constructor
  · rw [List.filter_eq_self.2 (by intro m hm; obtain ⟨x, _, rfl⟩ := List.mem_map.1 hm; simp), List.map_map]
    exact List.map_id' l
  · rw [List.filter_eq_self.2 (by intro m hm; obtain ⟨x, _, rfl⟩ := List.mem_map.1 hm; simp), List.map_map]
    exact List.map_id' l
theorem Fits.keeps {p : List Mark} {l : List Hunk} (h : Fits p l) : ∀ r : List ByteArray, Fits (p ++ Proofs.YtmojaahkcpgfkaaGreatDoor.keeps r) l := by
  intro r
  induction r generalizing p with
  | nil => simpa [Proofs.YtmojaahkcpgfkaaGreatDoor.keeps] using h
  | cons x r ih =>
    have := ih (h.keep (m := ⟨32, x⟩) rfl)
    rw [List.append_assoc] at this
    exact this

theorem stands_split {a : List ByteArray} {at_ : Int} {l : List ByteArray} (h : standsB a at_ l = true) : 0 ≤ at_ ∧ at_.toNat + l.length ≤ a.length ∧ a = a.take at_.toNat ++ l ++ a.drop (at_.toNat + l.length) := by
  unfold standsB at h
  simp only [Bool.and_eq_true, decide_eq_true_eq] at h
  obtain ⟨⟨h1, h2⟩, h3⟩ := h
  refine ⟨h1, by omega, ?_⟩
  conv => lhs; rw [← List.take_append_drop at_.toNat a, ← List.take_append_drop l.length (a.drop at_.toNat), h3, List.drop_drop]
  rw [List.append_assoc]

theorem fits_of_doAll (a : List ByteArray) : ∀ (r l : List Hunk) (p : List Mark) (fr fr' : Nat) (out out' : List ByteArray) (more : Int), Fits p l → those p 43 = a.take fr → fr ≤ a.length → those p 45 = out → more = (newN p : Int) - oldN p →
    hOk fr more r → doAll a fr out r = some (fr', out') → ∃ q, Fits q (l ++ r) ∧ those q 43 = a.take fr' ∧ fr' ≤ a.length ∧ those q 45 = out'
  | [], l, p, fr, fr', out, out', more, hf, h1, h2, h3, h4, _, hd => by
    simp only [doAll, Option.some.injEq, Prod.mk.injEq] at hd
    obtain ⟨rfl, rfl⟩ := hd
    exact ⟨p, by simpa using hf, h1, h2, h3⟩
  | h :: r, l, p, fr, fr', out, out', more, hf, h1, h2, h3, h4, hk, hd => by
    rw [doAll] at hd
    by_cases hs : standsB a h.old (oldOf h.marks) = true
    · rw [if_pos hs] at hd
      obtain ⟨z1, z2, z3, z4, z5, z6, z7, z8⟩ := oneFault_zero hk.1
      obtain ⟨s1, s2, s3⟩ := stands_split hs
      have hon : oldN h.marks = (oldOf h.marks).length := rfl
      have hle : fr ≤ h.old.toNat := by omega
      have hpn : oldN p = fr := by rw [oldN_eq, h1, List.length_take]; omega
      have gap : (a.drop fr).take (h.old.toNat - fr) = (a.take h.old.toNat).drop fr := by rw [List.drop_take]
      have hl2 : ((a.drop fr).take (h.old.toNat - fr)).length = h.old.toNat - fr := by rw [List.length_take, List.length_drop]; omega
      have f1 := hf.keeps ((a.drop fr).take (h.old.toNat - fr))
      have f2 := f1.hunk h.marks z2
      have c1 : oldN (p ++ keeps ((a.drop fr).take (h.old.toNat - fr))) = h.old.toNat := by
        rw [oldN_append, oldN_eq (keeps _), (those_keeps _).1, hl2, hpn]; omega
      have c2 : (newN (p ++ keeps ((a.drop fr).take (h.old.toNat - fr))) : Int) = h.new := by
        rw [newN_append, newN_eq (keeps _), (those_keeps _).2, hl2]; omega
      have e1 : (⟨(oldN (p ++ keeps ((a.drop fr).take (h.old.toNat - fr))) : Int), (newN (p ++ keeps ((a.drop fr).take (h.old.toNat - fr))) : Int), h.marks⟩ : Hunk) = h := by
        rw [c1, c2]
        obtain ⟨o, n, m⟩ := h
        simp only [Hunk.mk.injEq, and_true]
        simp only at s1
        omega
      rw [e1] at f2
      have t1 : those (p ++ keeps ((a.drop fr).take (h.old.toNat - fr)) ++ h.marks) 43 = a.take (h.old.toNat + oldN h.marks) := by
        rw [those_append, those_append, (those_keeps _).1, h1, gap]
        have g1 : a.take fr ++ (a.take h.old.toNat).drop fr = a.take h.old.toNat := by
          conv => rhs; rw [← List.take_append_drop fr (a.take h.old.toNat)]
          rw [List.take_take, Nat.min_eq_left hle]
        rw [g1]
        conv => rhs; rw [s3]
        have g2 : (a.take h.old.toNat ++ oldOf h.marks).length = h.old.toNat + oldN h.marks := by rw [List.length_append, List.length_take]; omega
        rw [List.take_append_of_le_length (by omega)]
        exact (List.take_of_length_le (l := a.take h.old.toNat ++ oldOf h.marks) (by omega)).symm
      have t2 : those (p ++ keeps ((a.drop fr).take (h.old.toNat - fr)) ++ h.marks) 45 = out ++ (a.drop fr).take (h.old.toNat - fr) ++ newOf h.marks := by
        rw [those_append, those_append, (those_keeps _).2, h3]; rfl
      have t3 : more + newN h.marks - oldN h.marks = (newN (p ++ keeps ((a.drop fr).take (h.old.toNat - fr)) ++ h.marks) : Int) - oldN (p ++ keeps ((a.drop fr).take (h.old.toNat - fr)) ++ h.marks) := by
        rw [newN_append _ h.marks, oldN_append _ h.marks, c1]
        push_cast
        rw [c2]
        omega
      have hk2 : hOk ((h.old.toNat + oldN h.marks : Nat) : Int) (more + newN h.marks - oldN h.marks) r := by
        have := hk.2
        rw [show ((h.old.toNat + oldN h.marks : Nat) : Int) = h.old + oldN h.marks by omega]
        exact this
      obtain ⟨q, q1, q2, q3, q4⟩ := fits_of_doAll a r (l ++ [h]) _ _ _ _ _ _ f2 t1 (by omega) t2 t3 hk2 hd
      exact ⟨q, by simpa using q1, q2, q3, q4⟩
    · rw [if_neg hs] at hd; cases hd

theorem strict_zero {a y : List ByteArray} {l : List Hunk} {k : Nat} (h : strict a l = (y, k, 0)) : linesFault a = 0 ∧ hunksFault l = (0, 0) ∧ strictGo a 0 0 [] l = (y, k, 0) := by
  unfold strict at h
  by_cases h1 : linesFault a ≠ 0
  · rw [if_pos h1] at h
    simp only [Prod.mk.injEq] at h
    exact absurd h.2.2 h1
  · rw [if_neg h1] at h
    by_cases h2 : (hunksFault l).2 ≠ 0
    · rw [if_pos h2] at h
      simp only [Prod.mk.injEq] at h
      exact absurd h.2.2 h2
    · rw [if_neg h2] at h
      exact ⟨by simpa using h1, hunksFault_first (by simpa using h2), h⟩
theorem fits_of_strict {a y : List ByteArray} {l : List Hunk} {k : Nat} (h : strict a l = (y, k, 0)) : k = 0 ∧ y.length ≤ 60 ∧ ∃ q, Fits q l ∧ those q 43 = a ∧ those q 45 = y := by
  obtain ⟨h1, h2, h3⟩ := strict_zero h
  obtain ⟨fr, out, e1, e2, e3, e4⟩ := strictGo_inv a l 0 0 [] y k h3
  obtain ⟨_, hk⟩ := hunksFault_zero (by rw [h2])
  obtain ⟨q, q1, q2, q3, q4⟩ := fits_of_doAll a l [] [] 0 fr [] out 0 .nil rfl (Nat.zero_le _) rfl rfl hk e1
  refine ⟨e4, e3, q ++ keeps (a.drop fr), q1.keeps _, ?_, ?_⟩
  · rw [those_append, (those_keeps _).1, q2, List.take_append_drop]
  · rw [those_append, (those_keeps _).2, q4, e2]

theorem hOk_mem : ∀ (l : List Hunk) (fin more : Int), hOk fin more l → ∀ h ∈ l, scriptFault h.marks = 0
  | [], _, _, _, h, hh => by simp at hh
  | x :: r, fin, more, hk, h, hh => by
    rcases List.mem_cons.1 hh with rfl | hh
    · exact (oneFault_zero hk.1).1
    · exact hOk_mem r _ _ hk.2 h hh
theorem markFault_line {m : Mark} (h : markFault m = 0) : lineFault m.text = 0 := by
  unfold markFault at h
  by_cases h1 : m.sign ≠ 32 ∧ m.sign ≠ 45 ∧ m.sign ≠ 43
  · rw [if_pos h1] at h; simp at h
  · rw [if_neg h1] at h; exact h
/-- lines of the new file are lines of the old one, or of a hunk -/
theorem Fits.lines {p : List Mark} {l : List Hunk} (h : Fits p l) (ha : ∀ x ∈ those p 43, lineFault x = 0) (hl : ∀ q ∈ l, scriptFault q.marks = 0) : ∀ x ∈ those p 45, lineFault x = 0 := by
  induction h with
  | nil => intro x hx; simp [those] at hx
  | @keep p l m h hs ih =>
    intro x hx
    rw [those_append, (those_keep hs).2] at hx
    rw [those_append, (those_keep hs).1] at ha
    rcases List.mem_append.1 hx with hx | hx
    · exact ih (fun y hy => ha y (List.mem_append_left _ hy)) hl x hx
    · exact ha x (List.mem_append_right _ hx)
  | @hunk p l m h hc ih =>
    intro x hx
    rw [those_append] at hx ha
    rcases List.mem_append.1 hx with hx | hx
    · exact ih (fun y hy => ha y (List.mem_append_left _ hy)) (fun q hq => hl q (List.mem_append_left _ hq)) x hx
    · have := scriptFault_zero.1 (hl ⟨oldN p, newN p, m⟩ (by simp))
      unfold those at hx
      obtain ⟨y, hy, rfl⟩ := List.mem_map.1 hx
      exact markFault_line (this.2 y (List.mem_filter.1 hy).1)

/-- what was done is undone -/
theorem strict_undo {a y : List ByteArray} {l : List Hunk} {k : Nat} (h : strict a l = (y, k, 0)) : strict y (turnHunks l) = (a, 0, 0) ∧ linesFault y = 0 := by
  obtain ⟨h1, h2, h3⟩ := strict_zero h
  obtain ⟨_, hy, q, q1, q2, q3⟩ := fits_of_strict h
  obtain ⟨a1, a2⟩ := linesFault_zero.1 h1
  obtain ⟨_, hk⟩ := hunksFault_zero (by rw [h2])
  have hly : linesFault y = 0 := by
    rw [linesFault_zero]
    exact ⟨hy, q3 ▸ q1.lines (q2 ▸ a2) (hOk_mem _ _ _ hk)⟩
  have t := q1.turn
  have e1 : those (q.map turnMark) 43 = y := by rw [(those_turn q).1, q3]
  have e2 : those (q.map turnMark) 45 = a := by rw [(those_turn q).2, q2]
  have := t.strict (by rw [e1]; exact hly) (by rw [turn_ok h2]) (by rw [newN_eq, e2]; exact a1)
  rw [e1, e2] at this
  exact ⟨this, hly⟩

/-- what was found is done, and back -/
theorem strict_cut {a b : List ByteArray} {n : Int} (h : checkedFault a b = 0) (h0 : 0 ≤ n) (h1 : n ≤ 1000) :
    cutFault (script a b) n = 0 ∧ strict a (cutOf (script a b) n) = (b, 0, 0) ∧ hunksFault (cutOf (script a b) n) = (0, 0) ∧ strict b (turnHunks (cutOf (script a b) n)) = (a, 0, 0) := by
  obtain ⟨ha, hb⟩ := checkedFault_zero.1 h
  have e1 : those (script a b) 43 = a := script_old a b
  have e2 : those (script a b) 45 = b := script_new a b
  have la := (linesFault_zero.1 ha).1
  have lb := (linesFault_zero.1 hb).1
  have hc : cutFault (script a b) n = 0 := by
    unfold cutFault
    rw [if_neg (by simp [script_valid h]), if_neg (by omega), if_neg (by rw [oldN_eq, newN_eq, e1, e2]; omega)]
  have hk := cut_ok hc
  obtain ⟨_, hp⟩ := cut_pcs (s := script a b) h0
  have f := hp.fits
  have r1 := f.strict (by rw [e1]; exact ha) (by rw [hk]) (by rw [newN_eq, e2]; exact lb)
  rw [e1, e2] at r1
  exact ⟨hc, r1, hk, (strict_undo r1).1⟩
end Go.Proofs.YtmojaahkcpgfkaaGreatDoor
namespace Go.Proofs.YtmojaahkcpgfkaaGreatDoor
open Go.RowKit

def cutR (s : List Mark) (n : Int) : List Hunk := if cutFault s n = 0 then cutOf s n else []

/-! ### turned -/

theorem map_take {l : List Mark} {k : Nat} {x : Mark} (hx : l[k]? = some x) : (l.take (k + 1)).map turnMark = (l.take k).map turnMark ++ [turnMark x] := by
  rw [List.take_add_one, hx]; simp


def turnR (l : List Hunk) : List Hunk := if (hunksFault l).2 = 0 then turnHunks l else []
theorem turnHunks_take {l : List Hunk} {k : Nat} {x : Hunk} (hx : l[k]? = some x) : turnHunks (l.take (k + 1)) = turnHunks (l.take k) ++ [turnHunk x] := by
  rw [List.take_add_one, hx]; simp [turnHunks]
end Go.Proofs.YtmojaahkcpgfkaaGreatDoor
namespace Go.Proofs.YtmojaahkcpgfkaaGreatDoor
open Go.RowKit

theorem elems_cells {α : Type} [Dat α] {w : World} {O : Nat → Prop} {b off : Nat} {m : List α} (h : Elems w O (some ⟨b, off, none⟩) m) : ∀ k, k ≤ m.length →
    ∃ news : List Value, news.length = k * Dat.n α ∧ (∀ (j : Nat) (u : Value), news[j]? = some u → w.cell? ⟨b, off + j, none⟩ = some u) ∧ (∀ u ∈ news, u.oneCell' = true) ∧
      (∀ (i : Nat) (x : α), i < k → m[i]? = some x → Dat.rd w O ((news.drop (i * Dat.n α)).take (Dat.n α)) x) := by
  intro k
  induction k with
  | zero => intro _; exact ⟨[], by simp, by simp, by simp, fun i x hi => by omega⟩
  | succ k ih =>
    intro hk
    obtain ⟨news, h1, h2, h3, h4⟩ := ih (by omega)
    have hx : m[k]? = some m[k] := by simp
    obtain ⟨b', off', es, he, hb, hcs, hr⟩ := h k m[k] hx
    simp only [Option.some.injEq, Addr.mk.injEq, and_true] at he
    obtain ⟨rfl, rfl⟩ := he
    have hes := Dat.len hr
    refine ⟨news ++ es, by rw [List.length_append, h1, hes, Nat.succ_mul], ?_, ?_, ?_⟩
    · intro j u hj
      rcases Nat.lt_or_ge j news.length with hl | hl
      · rw [List.getElem?_append_left hl] at hj
        exact h2 j u hj
      · rw [List.getElem?_append_right hl] at hj
        have := hcs _ u hj
        rw [show off + k * Dat.n α + (j - news.length) = off + j by omega] at this
        exact this
    · intro u hu
      rcases List.mem_append.1 hu with hu | hu
      · exact h3 u hu
      · exact Dat.one hr u hu
    · intro i x hi hxi
      rcases Nat.lt_or_ge i k with hl | hl
      · have hle : i * Dat.n α + Dat.n α ≤ news.length := by rw [h1, ← Nat.succ_mul]; exact Nat.mul_le_mul_right _ hl
        rw [List.drop_append_of_le_length (by omega), List.take_append_of_le_length (by rw [List.length_drop]; omega)]
        exact h4 i x hl hxi
      · obtain rfl : i = k := by omega
        rw [hx] at hxi
        injection hxi with hxi
        subst hxi
        rw [← h1, List.drop_left, List.take_of_length_le (by omega)]
        exact hr

theorem run_append_empty {P : Program} {t ty e : TypeId} {n : Nat} (hP : ElemOk P t e n) {w : World} {v : Value} {m : Nat} {xs : List Value} (hown : w.ownsRow 0 e n v m xs) (a : Option Addr) (c : Nat) :
    (Builtin.append_ #[t, t] ty #[v, .slice a 0 c]).run P w = .ok v w := by
  obtain ⟨i, z, hi, _⟩ := hP.info
  have ht := hP.ht
  cases a with
  | none =>
    rcases hown.2 with ⟨rfl, rfl⟩ | ⟨g, cap, cur, rfl, _, _, hnc, _⟩
    · simp [Builtin.append_, run_underlying ht, sizeOf, typeInfo, hi, Builtin.lenOf, Builtin.firstCells]
    · simp [Builtin.append_, run_underlying ht, sizeOf, typeInfo, hi, Builtin.lenOf, Builtin.firstCells, hnc, storeCells]
  | some a =>
    rcases hown.2 with ⟨rfl, rfl⟩ | ⟨g, cap, cur, rfl, _, _, hnc, _⟩
    · simp [Builtin.append_, run_underlying ht, sizeOf, typeInfo, hi, Builtin.lenOf, Builtin.firstCells, loadCells, loadCellsFrom]
    · simp [Builtin.append_, run_underlying ht, sizeOf, typeInfo, hi, Builtin.lenOf, Builtin.firstCells, loadCells, loadCellsFrom, hnc, storeCells]

theorem run_many {P : Program} {α : Type} [Dat α] {t ty e : TypeId} (hP : ElemOk P t e (Dat.n α)) {w0 : World} {O : Nat → Prop} {v x : Value} {l m : List α}
    (hown : Own e w0 O v l) (hx : Rdv w0 Never x m) (hd : ∀ cs y, Dat.rd w0 Never cs (y : α) → Dat.rd w0 (fun k => O k ∨ v.ownBlock = some k) cs y) (hO : ∀ k, O k → k < w0.heap.size) (hlen : l.length + m.length ≤ 1000000000) :
    ∃ v' w', (Builtin.append_ #[t, t] ty #[v, x]).run P w0 = .ok v' w' ∧ Own e w' O v' (l ++ m) ∧ Chg (OwnB v) w0 w' := by
  obtain ⟨a, cap, rfl, c1, c2, hel⟩ := rdv_slice hx
  rcases Nat.eq_zero_or_pos m.length with h0 | hpos
  · have : m = [] := List.eq_nil_of_length_eq_zero h0
    subst this
    refine ⟨v, w0, ?_, by rw [List.append_nil]; exact hown, Chg.refl _ _⟩
    obtain ⟨xs, hrow, _⟩ := hown
    exact run_append_empty hP hrow a cap
  · obtain ⟨b, off, rfl⟩ : ∃ b off, a = some ⟨b, off, none⟩ := by
      obtain ⟨b, off, es, ha, _⟩ := hel 0 m[0] (by simp [hpos])
      exact ⟨b, off, ha⟩
    obtain ⟨i, z, hi, hz, hsz, hzs, hby⟩ := hP.info
    obtain ⟨xs, hrow, hb, hels⟩ := id hown
    obtain ⟨news, n1, n2, n3, n4⟩ := elems_cells hel m.length (Nat.le_refl _)
    have hpos' := Dat.pos (α := α)
    have hcells : ∀ j u, news[j]? = some u → w0.cell? ((⟨b, off, none⟩ : Addr).add j) = some u := by
      intro j u hj
      have e1 : (⟨b, off, none⟩ : Addr).add j = ⟨b, off + j, none⟩ := by unfold Addr.add; split <;> simp_all
      rw [e1]
      exact n2 j u hj
    have hbound : (l.length + m.length) * i.bytes ≤ 140737488355328 := by
      have := Nat.mul_le_mul hlen hby
      omega
    obtain ⟨v', w', hrun, hown', hgrow, hnil⟩ := run_append_own (P := P) w0 0 t ty e i z (Dat.n α) i.bytes hP.ht hi hz hsz rfl hzs hpos' v l.length xs hrow
      ⟨b, off, none⟩ m.length cap news n1 hcells n3 (by unfold maxLen; omega) hbound (Nat.zero_le _)
    obtain ⟨kb, hkb, hkb'⟩ := append_block (P := P) w0 0 t ty e i z (Dat.n α) i.bytes hP.ht hi hz hsz rfl v l.length xs hrow
      ⟨b, off, none⟩ m.length cap news n1 hcells n3 (by unfold maxLen; omega) hbound (by omega) hrun
    have hc : Chg (OwnB v) w0 w' := Chg.of_grown hgrow
    have hsub : ∀ k, k < w0.heap.size → (O k ∨ v'.ownBlock = some k) → (O k ∨ v.ownBlock = some k) := by
      rintro k hk (h | h)
      · exact .inl h
      · rw [hkb] at h
        injection h with h
        subst h
        rcases hkb' with h | h
        · exact .inr h
        · omega
    refine ⟨v', w', hrun, ⟨xs ++ news, ?_, ?_, ?_⟩, hc⟩
    · rw [List.length_append]; exact hown'
    · intro k hk ho
      rw [hkb] at hk
      injection hk with hk
      subst hk
      rcases hkb' with h | h
      · exact hb _ h ho
      · exact absurd (hO _ ho) (by omega)
    · intro j y hj
      have hxl : xs.length = l.length * Dat.n α := hrow.1
      rcases Nat.lt_or_ge j l.length with hjl | hjl
      · rw [List.getElem?_append_left hjl] at hj
        have hle : j * Dat.n α + Dat.n α ≤ xs.length := by rw [hxl, ← Nat.succ_mul]; exact Nat.mul_le_mul_right _ hjl
        rw [List.drop_append_of_le_length (by omega), List.take_append_of_le_length (by rw [List.length_drop]; omega)]
        exact Dat.keep (hels j y hj) hc (fun k _ hk => .inr hk) hsub
      · rw [List.getElem?_append_right hjl] at hj
        have hjm := (List.getElem?_eq_some_iff.1 hj).1
        have e1 : (xs ++ news).drop (j * Dat.n α) = news.drop ((j - l.length) * Dat.n α) := by
          have e2 : j * Dat.n α = xs.length + (j - l.length) * Dat.n α := by rw [hxl, ← Nat.add_mul]; congr 1; omega
          rw [e2, List.drop_append]
          simp
        rw [e1]
        exact Dat.keep (hd _ _ (n4 _ y hjm hj)) hc (fun k _ hk => .inr hk) hsub

theorem wpList_many {P : Program} {ops : Array Oper} {rest : List Oper} {o : Oper} {a : Act} {Q : Exit → Act → World → Prop} (hgd : o.guard = none) (s x : Operand) (t : TypeId)
    (ho : o.op = .call { callee := .builtin .append, args := #[s, x], argTypes := #[t, t] }) {α : Type} [Dat α] {e : TypeId} (hP : ElemOk P t e (Dat.n α)) {w0 : World} {O : Nat → Prop} {v u : Value} {l m : List α}
    (hs : a.eval s = v) (hx : a.eval x = u) (hown : Own e w0 O v l) (hu : Rdv w0 Never u m) (hd : ∀ cs y, Dat.rd w0 Never cs (y : α) → Dat.rd w0 (fun k => O k ∨ v.ownBlock = some k) cs y) (hO : ∀ k, O k → k < w0.heap.size) (hlen : l.length + m.length ≤ 1000000000)
    (h : ∀ v' w', Own e w' O v' (l ++ m) → Chg (OwnB v) w0 w' → wpList P ops Q rest (a.put o.dst v') w') :
    wpList P ops Q (o :: rest) a w0 := by
  refine wpList_plain hgd fun K hK => ?_
  obtain ⟨v', w', hrun, h1, h2⟩ := run_many (ty := o.type) hP hown hu hd hO hlen
  unfold Oper.wp execOp
  simp only [ho, resolve, invoke, builtin, Sem.run_bind, Sem.run_pure, Result.andThen_ok, List.map_toArray, List.map_cons, List.map_nil, hs, hx, hrun]
  exact hK _ _ (h v' w' h1 h2)

/-! ### a slice's slice -/
theorem elems_sub {α : Type} [Dat α] {w : World} {O : Nat → Prop} {b off : Nat} {l : List α} (h : Elems w O (some ⟨b, off, none⟩) l) (i k : Nat) : Elems w O (some ⟨b, off + i * Dat.n α, none⟩) ((l.drop i).take k) := by
  intro q x hx
  rw [List.getElem?_take] at hx
  split at hx
  · rw [List.getElem?_drop] at hx
    obtain ⟨b', off', es, he, hb, hcs, hr⟩ := h (i + q) x hx
    simp only [Option.some.injEq, Addr.mk.injEq, and_true] at he
    obtain ⟨rfl, rfl⟩ := he
    refine ⟨b, _, es, rfl, hb, ?_, hr⟩
    rw [Nat.add_assoc, ← Nat.add_mul]
    exact hcs
  · cases hx
/-- 's[i:j]' as a value -/
theorem rdv_sliced {α : Type} [Dat α] {w : World} {O : Nat → Prop} {a : Option Addr} {cap : Nat} {l : List α} (h : Rdv w O (.slice a l.length cap) l) (i j : Nat) (hij : i ≤ j) (hj : j ≤ l.length) :
    Rdv w O (sliced a i j cap (Dat.n α)) ((l.drop i).take (j - i)) := by
  obtain ⟨a', cap', e, h1, h2, h3⟩ := rdv_slice h
  simp only [Value.slice.injEq, true_and] at e
  obtain ⟨rfl, rfl⟩ := e
  have hl : ((l.drop i).take (j - i)).length = j - i := by rw [List.length_take, List.length_drop]; omega
  refine ⟨if cap = i then a else a.map (·.add (i * Dat.n α)), cap - i, by rw [hl]; rfl, by rw [hl]; omega, by omega, ?_⟩
  by_cases hc : cap = i
  · have : (l.drop i).take (j - i) = [] := List.eq_nil_of_length_eq_zero (by rw [hl]; omega)
    rw [this]
    intro q x hx
    simp at hx
  · rw [if_neg hc]
    intro q x hx
    have hq := (List.getElem?_eq_some_iff.1 hx).1
    have hpos : 0 < l.length := by rw [hl] at hq; omega
    obtain ⟨b, off, es, ha, _⟩ := h3 0 l[0] (by simp [hpos])
    subst ha
    have e1 : (some (⟨b, off, none⟩ : Addr)).map (·.add (i * Dat.n α)) = some ⟨b, off + i * Dat.n α, none⟩ := by
      simp only [Option.map_some]
      unfold Addr.add
      split <;> simp_all
    rw [e1]
    exact elems_sub h3 i (j - i) q x hx
theorem sliced_isSlice (a : Option Addr) (i j cap s : Nat) : ∃ b, sliced a i j cap s = .slice b (j - i) (cap - i) := ⟨_, rfl⟩
end Go.Proofs.YtmojaahkcpgfkaaGreatDoor
namespace Go.Proofs.YtmojaahkcpgfkaaGreatDoor
open Go.RowKit

def makeFault (a b : List ByteArray) (n : Int) : Int := if checkedFault a b ≠ 0 then checkedFault a b else cutFault (script a b) n
def makeR (a b : List ByteArray) (n : Int) : List Hunk := if checkedFault a b = 0 then cutR (script a b) n else []
theorem str_bne_true {x y : ByteArray} (h : x ≠ y) : (x.toList != y.toList) = true := by
  have := str_beq_false h
  simp only [bne, this, Bool.not_false]
theorem size_str (w : World) : (sizeOf (Tryz.prog.elem 56)).run Tryz.prog w = .ok 1 w := by kernel_rfl
/-- 'a[i:j]' of texts, as a run -/
theorem slice_str {w0 : World} {O : Nat → Prop} {a : Option Addr} {cap : Nat} {l : List ByteArray} (h : Rdv w0 O (.slice a l.length cap) l) (i j : Nat) (hij : i ≤ j) (hj : j ≤ l.length) :
    ∃ b, (∀ (x y : Int) (w : World), x = i → y = j → (Instr.slice 56 (.slice a l.length cap) (some (.int .i64 x)) (some (.int .i64 y)) none).run Tryz.prog w = .ok (.slice b (j - i) (cap - i)) w) ∧
      (∀ (x : Int) (w : World), x = i → j = l.length → (Instr.slice 56 (.slice a l.length cap) (some (.int .i64 x)) none none).run Tryz.prog w = .ok (.slice b (j - i) (cap - i)) w) ∧
      Rdv w0 O (.slice b (j - i) (cap - i)) ((l.drop i).take (j - i)) := by
  have hr := rdv_sliced h i j hij hj
  obtain ⟨b, hb⟩ := sliced_isSlice a i j cap 1
  obtain ⟨a', cap', e, h1, h2, h3⟩ := rdv_slice h
  simp only [Value.slice.injEq, true_and] at e
  obtain ⟨rfl, rfl⟩ := e
  refine ⟨b, ?_, ?_, hb ▸ hr⟩
  · rintro x y w rfl rfl
    rw [run_slice_lh w 56 a l.length cap (by kernel_rfl) .i64 .i64 _ _ (by omega) (by omega) (by omega), size_str]
    simp only [Result.andThen_ok, Int.toNat_natCast]
    rw [hb]
  · rintro x w rfl rfl
    rw [run_slice_l w 56 a l.length cap (by kernel_rfl) .i64 _ (by omega) (by omega), size_str]
    simp only [Result.andThen_ok, Int.toNat_natCast]
    rw [hb]

end Go.Proofs.YtmojaahkcpgfkaaGreatDoor
namespace Go.Proofs.YtmojaahkcpgfkaaGreatDoor
open Go.RowKit

theorem elems_list {α : Type} [Dat α] {w : World} {O : Nat → Prop} {a : Option Addr} {l : List (List α)} (h : Elems w O a l) {i : Nat} {x : List α} (hx : l[i]? = some x) :
    ∃ b off v, a = some ⟨b, off, none⟩ ∧ ¬ O b ∧ b < w.heap.size ∧ w.cell? ⟨b, off + i, none⟩ = some v ∧ Rdv w O v x := by
  obtain ⟨b, off, es, ha, hb, hcs, hr⟩ := h i x hx
  obtain ⟨v, rfl⟩ : ∃ v, es = [v] := by
    have hl : es.length = 1 := Dat.len hr
    match es, hl with
    | [v], _ => exact ⟨v, rfl⟩
  refine ⟨b, off, v, ha, hb, hcs.lt (by simp), ?_, hr⟩
  have := hcs 0 v rfl
  simpa [Dat.n] using this
theorem flatten_take {l : List (List ByteArray)} {k : Nat} {x : List ByteArray} (hx : l[k]? = some x) : (l.take (k + 1)).flatten = (l.take k).flatten ++ x := by
  rw [List.take_add_one, hx]; simp
def totalOf (l : List (List ByteArray)) (k : Nat) : Nat := (l.take k).flatten.length
theorem flatten_take_le (l : List (List ByteArray)) (k : Nat) : (l.take k).flatten.length ≤ l.flatten.length := by
  have h : ((l.take k) ++ (l.drop k)).flatten.length = l.flatten.length := by rw [List.take_append_drop]
  rw [List.flatten_append, List.length_append] at h
  omega
theorem rd_str_any (w : World) (O O' : Nat → Prop) : ∀ cs (y : ByteArray), Dat.rd w O cs y → Dat.rd w O' cs y := fun _ _ h => h

end Go.Proofs.YtmojaahkcpgfkaaGreatDoor
