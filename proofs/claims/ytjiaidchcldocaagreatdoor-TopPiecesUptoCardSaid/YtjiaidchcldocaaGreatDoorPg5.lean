/-
  PARTS: THE WALKS OF LAYER 3: Check.; PIECES OF A SCRIPT, plain laws: what Cut answers is pieces in order ('Pcs'), valid hunks, has all changes; turned; of a great context one piece; with more context no more pieces.; HUNKS DONE STRICTLY, plain laws: what Strict answers; hunks that lead from a file to another one; turned they lead back.
-/
import Derived.Test.YtjiaidchcldocaaGreatDoorPg4
import Derived.Test.YtjiaidchcldocaaGreatDoorPg3
set_option linter.unusedVariables false
set_option linter.unusedSimpArgs false
namespace Go.Proofs.YtjiaidchcldocaaGreatDoor
open Go.RowKit

theorem elems_hunk {w : World} {O : Nat → Prop} {a : Option Addr} {l : List Hunk} (h : Elems w O a l) {i : Nat} {x : Hunk} (hx : l[i]? = some x) :
    ∃ b off mv, a = some ⟨b, off, none⟩ ∧ ¬ O b ∧ b < w.heap.size ∧ w.cell? ⟨b, off + i * 3, none⟩ = some (.int .i64 x.old) ∧ w.cell? ⟨b, off + i * 3 + 1, none⟩ = some (.int .i64 x.new) ∧ w.cell? ⟨b, off + i * 3 + 2, none⟩ = some mv ∧ Rdv w O mv x.marks := by
  obtain ⟨b, off, es, ha, hb, hcs, mv, rfl, hs⟩ := h i x hx
  refine ⟨b, off, mv, ha, hb, hcs.lt (by simp), ?_, ?_, ?_, hs⟩
  · simpa [Dat.n] using hcs 0 _ rfl
  · simpa [Dat.n] using hcs 1 _ rfl
  · simpa [Dat.n] using hcs 2 _ rfl

theorem hunksGo_drop {l : List Hunk} {k : Nat} {x : Hunk} {i : Nat} {fin more : Int} (hx : l[k]? = some x) :
    hunksGo i fin more (l.drop k) = if oneFault x fin more = 0 then hunksGo (i + 1) (x.old + oldN x.marks) (more + newN x.marks - oldN x.marks) (l.drop (k + 1)) else (i, oneFault x fin more) := by
  rw [drop_eq hx, hunksGo]
theorem oneFault_zero {h : Hunk} {fin more : Int} (e : oneFault h fin more = 0) : scriptFault h.marks = 0 ∧ hasChange h.marks = true ∧ 0 ≤ h.old ∧ 0 ≤ h.new ∧ h.old + oldN h.marks ≤ 60 ∧ h.new + newN h.marks ≤ 60 ∧ fin ≤ h.old ∧ h.new = h.old + more := by
  unfold oneFault at e
  by_cases h1 : scriptFault h.marks ≠ 0
  · rw [if_pos h1] at e; exact absurd e h1
  · rw [if_neg h1] at e
    by_cases h2 : hasChange h.marks = false
    · rw [if_pos h2] at e; simp at e
    · rw [if_neg h2] at e
      by_cases h3 : h.old < 0 ∨ 60 < h.old ∨ h.new < 0 ∨ 60 < h.new ∨ 60 < h.old + oldN h.marks ∨ 60 < h.new + newN h.marks
      · rw [if_pos h3] at e; simp at e
      · rw [if_neg h3] at e
        by_cases h4 : h.old < fin ∨ h.new ≠ h.old + more
        · rw [if_pos h4] at e; simp at e
        · refine ⟨by simpa using h1, by simpa using h2, ?_⟩
          omega

set_option maxHeartbeats 800000 in
theorem hunk_check_any (l : List Hunk) (v : Value) (w : World) (h : Rdv w Never v l) :
    Calls Tryz.prog 93 #[v] w fun e w' => e = .returned (.tuple #[.int .i64 (hunksFault l).1, errV (hunksFault l).2]) ∧ Chg Never w w' := by
  obtain ⟨a, cap, rfl, h1, h2, h3⟩ := rdv_slice h
  unfold maxLen at h2
  by_cases h4 : 60 < l.length
  · have E : hunksFault l = (0, 3) := if_pos h4
    rw [E]
    clear E
    go_enter Tryz.func93, Tryz.ntmps93
    go_wp2_with fail
    go_ret2
    exact ⟨rfl, Chg.refl _ _⟩
  · have HE : Hid (hunksFault l = hunksGo 0 0 0 l) := if_neg h4
    go_enter Tryz.func93, Tryz.ntmps93
    go_wp2_with fail
    go_loopw [4, 5, 17] (fun s4 s5 i wr => ∃ (k : Nat) (fin more : Int), k ≤ l.length ∧ i = .int .i64 k ∧ s4 = .int .i64 fin ∧ s5 = .int .i64 more ∧ 0 ≤ fin ∧ fin ≤ 60 ∧ -60 ≤ more ∧ more ≤ 60 ∧ Hid (hunksGo k fin more (l.drop k) = hunksFault l) ∧ Chg Never w wr) (fun _ _ i _ => l.length - (intOf i).toNat)
    case atStart => exact ⟨0, 0, 0, Nat.zero_le _, rfl, rfl, rfl, by omega, by omega, by omega, by omega, HE.out.symm, Chg.refl _ _⟩
    case round =>
      obtain ⟨k, fin, more, hk, rfl, rfl, rfl, f0, f1, m0, m1, hf, hc⟩ := hrel
      by_cases hlt : k < l.length
      · obtain ⟨x, hx⟩ : ∃ x, l[k]? = some x := ⟨l[k], by simp [hlt]⟩
        obtain ⟨b, off, mv, rfl, _, _, c0, c1, c2, hmv⟩ := elems_hunk h3 hx
        have c0 := hc.cellNever c0
        have c1 := hc.cellNever c1
        have c2 := hc.cellNever c2
        have hmv := hmv.never hc
        obtain ⟨ma, mcap, rfl, _, _, _⟩ := rdv_slice hmv
        have HG := Lib.hid (hunksGo_drop (i := k) (fin := fin) (more := more) hx)
        clear hx h3 h
        by_cases hz : oneFault x fin more = 0
        · have hzz := oneFault_zero hz
          have HZ := Lib.hid hz
          obtain ⟨z1, z2, z3, z4, z5, z6, z7, z8⟩ := hzz
          have Z8 := Lib.hid z8
          have l1 := oldN_le x.marks
          have l2 := newN_le x.marks
          clear hz z1 z2 z8
          go_wp2_with fail
          refine (one_hunk x _ fin more _ (hmv.never ((Chg.refl _ _).alloc _)) (by omega) (by omega) (by omega) (by omega)).mono ?_
          rintro e w1 ⟨rfl, hc1⟩
          obtain ⟨x0, x1, x2⟩ := box3 hc1
          have hmv1 := (hmv.never ((Chg.refl _ _).alloc _)).never hc1
          rw [HZ.out, errV_zero]
          go_wp2_with fail
          refine (size_any x _ _ hmv1).mono ?_
          rintro e w2 ⟨rfl, hc2⟩
          obtain ⟨x0, x1, x2⟩ := box3 (hc1.trans hc2)
          have hw := (hc.alloc _).trans (hc1.trans hc2)
          clear hc1 hc2
          go_wp2_with fail
          go_roundw
          case rel => exact ⟨k + 1, x.old + oldN x.marks, more + newN x.marks - oldN x.marks, by omega, by go_num, rfl, rfl, by omega, by omega, by have := Z8.out; omega, by have := Z8.out; omega, by have := hf.out; rw [HG.out, if_pos HZ.out] at this; exact this, hw⟩
          case measure => simp [intOf] <;> omega
        · have HZ := Lib.hid hz
          clear hz
          go_wp2_with fail
          refine (one_hunk x _ fin more _ (hmv.never ((Chg.refl _ _).alloc _)) (by omega) (by omega) (by omega) (by omega)).mono ?_
          rintro e w1 ⟨rfl, hc1⟩
          have hw := (hc.alloc _).trans hc1
          clear hc1
          rw [errV_pos HZ.out]
          go_wp2_with fail
          go_ret2
          have E : hunksFault l = (k, oneFault x fin more) := by have := hf.out; rw [HG.out, if_neg HZ.out] at this; exact this.symm
          exact ⟨by rw [E]; show _ = Ending.returned (.tuple #[.int .i64 (k : Int), errV (oneFault x fin more)]); rw [errV_pos HZ.out]; rfl, hw⟩
      · go_wp2_with fail
        go_ret2
        have E : hunksFault l = (0, 0) := by have := hf.out; rw [List.drop_of_length_le (by omega), hunksGo] at this; exact this.symm
        exact ⟨by rw [E]; rfl, hc⟩
end Go.Proofs.YtjiaidchcldocaaGreatDoor
namespace Go.Proofs.YtjiaidchcldocaaGreatDoor

/-- p, seen from its beginning on, has the pieces l, and all else of it is kept (true: another piece may begin here) -/
inductive Pcs : Bool → List Mark → List Hunk → Prop
  | nil : Pcs true [] []
  | keep {b : Bool} {p : List Mark} {l : List Hunk} {m : Mark} : Pcs b p l → m.sign = 32 → Pcs true (p ++ [m]) l
  | hunk {p : List Mark} {l : List Hunk} (m : List Mark) : Pcs true p l → hasChange m = true → Pcs false (p ++ m) (l ++ [⟨oldN p, newN p, m⟩])

theorem inAt_iff {s : List Mark} {n : Int} {k : Nat} : inAt s n k = true ↔ ∃ (i : Nat) (x : Mark), s[i]? = some x ∧ x.sign ≠ 32 ∧ (k : Int) ≤ i + n ∧ (i : Int) ≤ k + n := by
  unfold inAt
  rw [List.any_eq_true]
  constructor
  · rintro ⟨i, hi, hp⟩
    rw [List.mem_range] at hi
    have hx : s[i]? = some s[i] := by simp [hi]
    rw [hx] at hp
    simp only [Option.any_some, isChange, Bool.and_eq_true, decide_eq_true_eq, Bool.not_eq_true', beq_eq_false_iff_ne] at hp
    exact ⟨i, _, hx, hp.1.1, hp.1.2, hp.2⟩
  · rintro ⟨i, x, hx, h1, h2, h3⟩
    refine ⟨i, List.mem_range.2 (List.getElem?_eq_some_iff.1 hx).1, ?_⟩
    rw [hx]
    simp only [Option.any_some, isChange, Bool.and_eq_true, decide_eq_true_eq, Bool.not_eq_true', beq_eq_false_iff_ne]
    exact ⟨⟨h1, h2⟩, h3⟩

def wasIn (s : List Mark) (n : Int) (k : Nat) : Bool := decide (0 < k) && inAt s n (k - 1)
theorem wasIn_succ (s : List Mark) (n : Int) (k : Nat) : wasIn s n (k + 1) = inAt s n k := by simp [wasIn]
theorem wasIn_zero (s : List Mark) (n : Int) : wasIn s n 0 = false := rfl

theorem cutTo_succ {s : List Mark} {n : Int} {k : Nat} {x : Mark} (hx : s[k]? = some x) :
    cutTo s n (k + 1) = cutStep (cutTo s n k) (wasIn s n k) (inAt s n k) (oldN (s.take k)) (newN (s.take k)) x := by
  rw [cutTo, hx]; rfl
theorem pushLast_snoc (l : List Hunk) (h : Hunk) (m : Mark) : pushLast (l ++ [h]) m = l ++ [⟨h.old, h.new, h.marks ++ [m]⟩] := by
  unfold pushLast
  rw [List.getLast?_concat]
  simp
theorem cutTo_out {s : List Mark} {n : Int} {k : Nat} {x : Mark} (hx : s[k]? = some x) (h : inAt s n k = false) : cutTo s n (k + 1) = cutTo s n k := by
  rw [cutTo_succ hx, h]; rfl
theorem cutTo_new {s : List Mark} {n : Int} {k : Nat} {x : Mark} (hx : s[k]? = some x) (h : inAt s n k = true) (h' : wasIn s n k = false) :
    cutTo s n (k + 1) = cutTo s n k ++ [⟨oldN (s.take k), newN (s.take k), [x]⟩] := by
  rw [cutTo_succ hx, h, h']
  exact pushLast_snoc _ _ _
theorem cutTo_more {s : List Mark} {n : Int} {k : Nat} {x : Mark} {l : List Hunk} {q : Hunk} (hx : s[k]? = some x) (h : inAt s n k = true) (h' : wasIn s n k = true) (e : cutTo s n k = l ++ [q]) :
    cutTo s n (k + 1) = l ++ [⟨q.old, q.new, q.marks ++ [x]⟩] := by
  rw [cutTo_succ hx, h, h', e]
  exact pushLast_snoc _ _ _

theorem take_snoc' {α : Type} {s : List α} {k : Nat} {x : α} (hx : s[k]? = some x) : s.take (k + 1) = s.take k ++ [x] := by
  rw [List.take_add_one, hx]; rfl

theorem change_in {s : List Mark} {n : Int} (hn : 0 ≤ n) {k : Nat} {x : Mark} (hx : s[k]? = some x) (h : inAt s n k = false) : x.sign = 32 := by
  by_cases hs : x.sign = 32
  · exact hs
  · have : inAt s n k = true := inAt_iff.2 ⟨k, x, hx, hs, by omega, by omega⟩
    rw [this] at h; cases h

/-- the piece that is open at k -/
structure PieceOpen (s : List Mark) (n : Int) (k : Nat) (p m : List Mark) (l : List Hunk) : Prop where
  eq : s.take k = p ++ m
  pcs : Pcs true p l
  cut : cutTo s n k = l ++ [⟨oldN p, newN p, m⟩]
  lt : p.length < k
  inn : ∀ j, p.length ≤ j → j < k → inAt s n j = true
  out : p.length = 0 ∨ inAt s n (p.length - 1) = false

theorem PieceOpen.change {s : List Mark} {n : Int} (hn : 0 ≤ n) {k : Nat} {p m : List Mark} {l : List Hunk} (h : PieceOpen s n k p m l) (_hk : k ≤ s.length) (hk' : k = s.length ∨ inAt s n k = false) : hasChange m = true := by
  obtain ⟨e, _, _, hlt, hin, hout⟩ := h
  obtain ⟨i, x, hx, h1, h2, h3⟩ := inAt_iff.1 (hin (k - 1) (by omega) (by omega))
  have hil := (List.getElem?_eq_some_iff.1 hx).1
  have c1 : i < k := by
    rcases Nat.lt_or_ge i k with h | h
    · exact h
    · rcases hk' with h' | h'
      · omega
      · have : inAt s n k = true := inAt_iff.2 ⟨i, x, hx, h1, by omega, by omega⟩
        rw [this] at h'; cases h'
  have c2 : p.length ≤ i := by
    rcases Nat.lt_or_ge i p.length with h | h
    · rcases hout with h' | h'
      · omega
      · have : inAt s n (p.length - 1) = true := inAt_iff.2 ⟨i, x, hx, h1, by omega, by omega⟩
        rw [this] at h'; cases h'
    · exact h
  have hm : m[i - p.length]? = some x := by
    have : (s.take k)[i]? = some x := by rw [List.getElem?_take, if_pos c1, hx]
    rw [e, List.getElem?_append_right c2] at this
    exact this
  unfold hasChange
  rw [List.any_eq_true]
  exact ⟨x, List.mem_of_getElem? hm, by simpa using h1⟩

theorem cut_inv {s : List Mark} {n : Int} (hn : 0 ≤ n) : ∀ k, k ≤ s.length →
    (wasIn s n k = false → Pcs true (s.take k) (cutTo s n k)) ∧ (wasIn s n k = true → ∃ p m l, PieceOpen s n k p m l) := by
  intro k
  induction k with
  | zero =>
    intro _
    refine ⟨fun _ => ?_, fun h => ?_⟩
    · rw [List.take_zero]; exact Pcs.nil
    · rw [wasIn_zero] at h; cases h
  | succ k ih =>
    intro hk
    obtain ⟨i1, i2⟩ := ih (by omega)
    have hx : s[k]? = some s[k] := by simp
    have ht := take_snoc' hx
    refine ⟨fun h => ?_, fun h => ?_⟩
    · rw [wasIn_succ] at h
      have hs := change_in hn hx h
      rw [ht, cutTo_out hx h]
      by_cases hw : wasIn s n k = true
      · obtain ⟨p, m, l, ho⟩ := i2 hw
        have hc := ho.change hn (by omega) (.inr h)
        rw [ho.eq, ho.cut]
        exact (Pcs.hunk m ho.pcs hc).keep hs
      · exact (i1 (by simpa using hw)).keep hs
    · rw [wasIn_succ] at h
      by_cases hw : wasIn s n k = true
      · obtain ⟨p, m, l, ho⟩ := i2 hw
        refine ⟨p, m ++ [s[k]], l, ?_, ho.pcs, ?_, by have := ho.lt; omega, ?_, ho.out⟩
        · rw [ht, ho.eq, List.append_assoc]
        · rw [cutTo_more hx h hw ho.cut]
        · intro j h1 h2
          rcases Nat.lt_or_ge j k with h3 | h3
          · exact ho.inn j h1 h3
          · obtain rfl : j = k := by omega
            exact h
      · have hw' : wasIn s n k = false := by simpa using hw
        have hl : (s.take k).length = k := by rw [List.length_take]; omega
        refine ⟨s.take k, [s[k]], cutTo s n k, ht, i1 hw', cutTo_new hx h hw', by omega, ?_, ?_⟩
        · intro j h1 h2
          obtain rfl : j = k := by omega
          exact h
        · rw [hl]
          unfold wasIn at hw'
          rcases Nat.eq_zero_or_pos k with h0 | h0
          · exact .inl h0
          · right
            simpa [h0] using hw'

theorem cut_pcs {s : List Mark} {n : Int} (hn : 0 ≤ n) : ∃ b, Pcs b s (cutOf s n) := by
  obtain ⟨i1, i2⟩ := cut_inv (s := s) hn s.length (Nat.le_refl _)
  unfold cutOf
  by_cases hw : wasIn s n s.length = true
  · obtain ⟨p, m, l, ho⟩ := i2 hw
    have hc := ho.change hn (Nat.le_refl _) (.inl rfl)
    have e := ho.eq
    rw [List.take_length] at e
    rw [ho.cut]
    refine ⟨false, ?_⟩
    conv => arg 2; rw [e]
    exact Pcs.hunk m ho.pcs hc
  · have := i1 (by simpa using hw)
    rw [List.take_length] at this
    exact ⟨true, this⟩

/-! ### sums over pieces -/
theorem oldN_append (p m : List Mark) : oldN (p ++ m) = oldN p + oldN m := by simp [oldN, those, List.filter_append]
theorem newN_append (p m : List Mark) : newN (p ++ m) = newN p + newN m := by simp [newN, those, List.filter_append]
theorem changes_append (p m : List Mark) : changes (p ++ m) = changes p + changes m := by simp [changes, List.filter_append]
theorem oldN_keep {m : Mark} (h : m.sign = 32) : oldN [m] = 1 := by simp [oldN, those, h]
theorem newN_keep {m : Mark} (h : m.sign = 32) : newN [m] = 1 := by simp [newN, those, h]
theorem changes_keep {m : Mark} (h : m.sign = 32) : changes [m] = 0 := by simp [changes, h]

def manyChanges (l : List Hunk) : Nat := (l.map fun h => changes h.marks).sum
theorem Pcs.many {b : Bool} {p : List Mark} {l : List Hunk} (h : Pcs b p l) : manyChanges l = changes p := by
  induction h with
  | nil => rfl
  | keep h hs ih => rw [changes_append, changes_keep hs, ih]; rfl
  | hunk m h hc ih => rw [changes_append, ← ih]; simp [manyChanges]
theorem sizes_changes {m : List Mark} (h : hasChange m = true) : 1 ≤ oldN m + newN m := by
  unfold hasChange at h
  rw [List.any_eq_true] at h
  obtain ⟨x, hx, _⟩ := h
  by_cases h43 : x.sign = 43
  · have : x.text ∈ those m 45 := by
      unfold those
      exact List.mem_map.2 ⟨x, List.mem_filter.2 ⟨hx, by simp [h43]⟩, rfl⟩
    have := List.length_pos_of_mem this
    unfold oldN newN; omega
  · have : x.text ∈ those m 43 := by
      unfold those
      exact List.mem_map.2 ⟨x, List.mem_filter.2 ⟨hx, by simp [h43]⟩, rfl⟩
    have := List.length_pos_of_mem this
    unfold oldN newN; omega
theorem Pcs.few {b : Bool} {p : List Mark} {l : List Hunk} (h : Pcs b p l) : 3 * l.length ≤ oldN p + newN p + (if b then 0 else 2) := by
  induction h with
  | nil => simp
  | keep h hs ih =>
    rw [oldN_append, newN_append, oldN_keep hs, newN_keep hs]
    simp only [if_true]
    split at ih <;> omega
  | hunk m h hc ih =>
    have := sizes_changes hc
    rw [oldN_append, newN_append, List.length_append]
    simp only [if_true, List.length_cons, List.length_nil] at ih ⊢
    simp
    omega

/-! ### hunks, one by one -/
def hOk : Int → Int → List Hunk → Prop
  | _, _, [] => True
  | fin, more, h :: r => oneFault h fin more = 0 ∧ hOk (h.old + oldN h.marks) (more + newN h.marks - oldN h.marks) r
def hFin : Int → Int → List Hunk → Int × Int
  | fin, more, [] => (fin, more)
  | _, more, h :: r => hFin (h.old + oldN h.marks) (more + newN h.marks - oldN h.marks) r
theorem hunksGo_ok : ∀ (l : List Hunk) (i : Nat) (fin more : Int), hOk fin more l → hunksGo i fin more l = (0, 0)
  | [], _, _, _, _ => rfl
  | h :: r, i, fin, more, hk => by
    rw [hunksGo, if_pos hk.1]
    exact hunksGo_ok r _ _ _ hk.2
theorem hunksGo_zero : ∀ (l : List Hunk) (i : Nat) (fin more : Int), (hunksGo i fin more l).2 = 0 → hOk fin more l
  | [], _, _, _, _ => trivial
  | h :: r, i, fin, more, hk => by
    rw [hunksGo] at hk
    by_cases h0 : oneFault h fin more = 0
    · rw [if_pos h0] at hk
      exact ⟨h0, hunksGo_zero r _ _ _ hk⟩
    · rw [if_neg h0] at hk
      exact absurd hk h0
theorem hunksFault_ok {l : List Hunk} (h : l.length ≤ 60) (hk : hOk 0 0 l) : hunksFault l = (0, 0) := by
  unfold hunksFault
  rw [if_neg (by omega), hunksGo_ok l _ _ _ hk]
theorem hunksFault_zero {l : List Hunk} (h : (hunksFault l).2 = 0) : l.length ≤ 60 ∧ hOk 0 0 l := by
  unfold hunksFault at h
  by_cases h1 : 60 < l.length
  · rw [if_pos h1] at h; simp at h
  · rw [if_neg h1] at h
    exact ⟨by omega, hunksGo_zero _ _ _ _ h⟩
theorem hunksFault_first {l : List Hunk} (h : (hunksFault l).2 = 0) : hunksFault l = (0, 0) := by
  obtain ⟨h1, h2⟩ := hunksFault_zero h
  exact hunksFault_ok h1 h2
theorem hOk_snoc : ∀ (l : List Hunk) (h : Hunk) (fin more : Int), hOk fin more l → oneFault h (hFin fin more l).1 (hFin fin more l).2 = 0 → hOk fin more (l ++ [h])
  | [], _h, _, _, _, h2 => ⟨h2, trivial⟩
  | _x :: r, h, _fin, _more, h1, h2 => ⟨h1.1, hOk_snoc r h _ _ h1.2 h2⟩
theorem hFin_snoc : ∀ (l : List Hunk) (h : Hunk) (fin more : Int), hFin fin more (l ++ [h]) = (h.old + oldN h.marks, (hFin fin more l).2 + newN h.marks - oldN h.marks)
  | [], _h, _fin, _more => rfl
  | _x :: r, h, _fin, _more => hFin_snoc r h _ _

theorem scriptFault_sub {s m : List Mark} (h : scriptFault s = 0) (hm : ∀ x ∈ m, x ∈ s) (hl : m.length ≤ s.length) : scriptFault m = 0 := by
  rw [scriptFault_zero] at h ⊢
  exact ⟨by omega, fun x hx => h.2 x (hm x hx)⟩
theorem oneFault_of {h : Hunk} {fin more : Int} (h1 : scriptFault h.marks = 0) (h2 : hasChange h.marks = true) (h3 : 0 ≤ h.old) (h4 : 0 ≤ h.new) (h5 : h.old + oldN h.marks ≤ 60) (h6 : h.new + newN h.marks ≤ 60) (h7 : fin ≤ h.old) (h8 : h.new = h.old + more) : oneFault h fin more = 0 := by
  unfold oneFault
  rw [if_neg (by simp [h1]), if_neg (by simp [h2]), if_neg (by omega), if_neg (by omega)]

theorem Pcs.ok {b : Bool} {p : List Mark} {l : List Hunk} (h : Pcs b p l) : scriptFault p = 0 → oldN p ≤ 60 → newN p ≤ 60 → hOk 0 0 l ∧ (hFin 0 0 l).1 ≤ oldN p ∧ (hFin 0 0 l).2 = (newN p : Int) - oldN p := by
  induction h with
  | nil => intro _ _ _; exact ⟨trivial, by simp [hFin], by simp [hFin, oldN, newN, those]⟩
  | @keep b p l m h hs ih =>
    intro s0 s1 s2
    rw [oldN_append, oldN_keep hs] at s1 ⊢
    rw [newN_append, newN_keep hs] at s2 ⊢
    obtain ⟨i1, i2, i3⟩ := ih (scriptFault_sub s0 (fun x hx => List.mem_append_left _ hx) (by simp)) (by omega) (by omega)
    exact ⟨i1, by omega, by omega⟩
  | @hunk p l m h hc ih =>
    intro s0 s1 s2
    rw [oldN_append] at s1 ⊢
    rw [newN_append] at s2 ⊢
    obtain ⟨i1, i2, i3⟩ := ih (scriptFault_sub s0 (fun x hx => List.mem_append_left _ hx) (by simp)) (by omega) (by omega)
    have hm := scriptFault_sub (m := m) s0 (fun x hx => List.mem_append_right _ hx) (by simp)
    rw [hFin_snoc]
    refine ⟨hOk_snoc _ _ _ _ i1 (oneFault_of hm hc ?_ ?_ ?_ ?_ ?_ ?_), ?_, ?_⟩
    all_goals simp only []
    all_goals omega

theorem cutFault_zero {s : List Mark} {n : Int} (h : cutFault s n = 0) : scriptFault s = 0 ∧ 0 ≤ n ∧ n ≤ 1000 ∧ oldN s ≤ 60 ∧ newN s ≤ 60 := by
  unfold cutFault at h
  by_cases h1 : scriptFault s ≠ 0
  · rw [if_pos h1] at h; exact absurd h h1
  · rw [if_neg h1] at h
    by_cases h2 : n < 0 ∨ 1000 < n
    · rw [if_pos h2] at h; simp at h
    · rw [if_neg h2] at h
      by_cases h3 : 60 < oldN s ∨ 60 < newN s
      · rw [if_pos h3] at h; simp at h
      · exact ⟨by simpa using h1, by omega, by omega, by omega, by omega⟩
theorem cut_ok {s : List Mark} {n : Int} (h : cutFault s n = 0) : hunksFault (cutOf s n) = (0, 0) := by
  obtain ⟨h1, h2, h3, h4, h5⟩ := cutFault_zero h
  obtain ⟨b, hp⟩ := cut_pcs (s := s) h2
  obtain ⟨k1, _, _⟩ := hp.ok h1 h4 h5
  refine hunksFault_ok ?_ k1
  have := hp.few
  split at this <;> omega
/-! ### turned -/
def turnHunks (l : List Hunk) : List Hunk := l.map turnHunk
theorem turnMark_43 (m : Mark) : (turnMark m).sign = 43 ↔ m.sign = 45 := by
  unfold turnMark
  by_cases h1 : m.sign = 45
  · simp [h1]
  · by_cases h2 : m.sign = 43
    · simp [h2]
    · simp [h1, h2]
theorem turnMark_45 (m : Mark) : (turnMark m).sign = 45 ↔ m.sign = 43 := by
  unfold turnMark
  by_cases h1 : m.sign = 45
  · simp [h1]
  · by_cases h2 : m.sign = 43
    · simp [h2]
    · simp [h1, h2]
theorem turnMark_32 (m : Mark) : (turnMark m).sign = 32 ↔ m.sign = 32 := by
  unfold turnMark
  by_cases h1 : m.sign = 45
  · simp [h1]
  · by_cases h2 : m.sign = 43
    · simp [h2]
    · simp [h1, h2]
theorem those_turn (l : List Mark) : those (l.map turnMark) 43 = those l 45 ∧ those (l.map turnMark) 45 = those l 43 := by
  unfold those
  constructor
  · rw [List.filter_map, List.map_map]
    have e1 : ((fun m : Mark => decide (m.sign ≠ 43)) ∘ turnMark) = fun m => decide (m.sign ≠ 45) := by
      funext m; simp [turnMark_43]
    rw [e1]; rfl
  · rw [List.filter_map, List.map_map]
    have e1 : ((fun m : Mark => decide (m.sign ≠ 45)) ∘ turnMark) = fun m => decide (m.sign ≠ 43) := by
      funext m; simp [turnMark_45]
    rw [e1]; rfl
theorem oldN_turn (l : List Mark) : oldN (l.map turnMark) = newN l := by unfold oldN newN; rw [(those_turn l).1]
theorem newN_turn (l : List Mark) : newN (l.map turnMark) = oldN l := by unfold oldN newN; rw [(those_turn l).2]
theorem markFault_turn (m : Mark) : markFault (turnMark m) = markFault m := by
  unfold markFault
  have e : ((turnMark m).sign ≠ 32 ∧ (turnMark m).sign ≠ 45 ∧ (turnMark m).sign ≠ 43) = (m.sign ≠ 32 ∧ m.sign ≠ 45 ∧ m.sign ≠ 43) := by
    simp only [ne_eq, turnMark_32, turnMark_43, turnMark_45, eq_iff_iff]
    constructor <;> (rintro ⟨a, b, c⟩; exact ⟨a, c, b⟩)
  simp only [e]
  rfl
theorem scriptFault_turn {l : List Mark} (h : scriptFault l = 0) : scriptFault (l.map turnMark) = 0 := by
  rw [scriptFault_zero] at h ⊢
  refine ⟨by simpa using h.1, ?_⟩
  intro x hx
  obtain ⟨y, hy, rfl⟩ := List.mem_map.1 hx
  rw [markFault_turn]
  exact h.2 y hy
theorem hasChange_turn (l : List Mark) : hasChange (l.map turnMark) = hasChange l := by
  unfold hasChange
  rw [List.any_map]
  congr 1
  funext m
  simp [turnMark_32]
theorem oneFault_turn {h : Hunk} {fin more : Int} (e : oneFault h fin more = 0) : oneFault (turnHunk h) (fin + more) (-more) = 0 := by
  obtain ⟨e1, e2, e3, e4, e5, e6, e7, e8⟩ := oneFault_zero e
  refine oneFault_of (scriptFault_turn e1) ?_ ?_ ?_ ?_ ?_ ?_ ?_
  · simp only [turnHunk]; rw [hasChange_turn]; exact e2
  all_goals simp only [turnHunk, oldN_turn, newN_turn]
  all_goals omega
theorem hOk_turn : ∀ (l : List Hunk) (fin more : Int), hOk fin more l → hOk (fin + more) (-more) (turnHunks l)
  | [], _, _, _ => trivial
  | h :: r, fin, more, hk => by
    refine ⟨oneFault_turn hk.1, ?_⟩
    obtain ⟨_, _, _, _, _, _, _, e8⟩ := oneFault_zero hk.1
    have := hOk_turn r _ _ hk.2
    have e1 : (turnHunk h).old + oldN (turnHunk h).marks = (h.old + oldN h.marks) + (more + newN h.marks - oldN h.marks) := by
      simp only [turnHunk, oldN_turn]; omega
    have e2 : -more + (newN (turnHunk h).marks : Int) - oldN (turnHunk h).marks = -(more + newN h.marks - oldN h.marks) := by
      simp only [turnHunk, oldN_turn, newN_turn]; omega
    rw [e1, e2]
    exact this
theorem turn_ok {l : List Hunk} (h : hunksFault l = (0, 0)) : hunksFault (turnHunks l) = (0, 0) := by
  obtain ⟨h1, h2⟩ := hunksFault_zero (by rw [h])
  refine hunksFault_ok (by simpa [turnHunks] using h1) ?_
  simpa using hOk_turn l 0 0 h2

/-! ### of a great context one piece -/
theorem cut_none {s : List Mark} {n : Int} (h : ∀ k, inAt s n k = false) : ∀ k, k ≤ s.length → cutTo s n k = [] := by
  intro k
  induction k with
  | zero => intro _; rfl
  | succ k ih =>
    intro hk
    have hx : s[k]? = some s[k] := by simp
    rw [cutTo_out hx (h k), ih (by omega)]
theorem cut_whole {s : List Mark} {n : Int} (h : ∀ k, k < s.length → inAt s n k = true) : ∀ k, k < s.length → cutTo s n (k + 1) = [⟨0, 0, s.take (k + 1)⟩] := by
  intro k
  induction k with
  | zero =>
    intro hk
    have hx : s[0]? = some s[0] := by simp
    rw [cutTo_new hx (h 0 hk) rfl, take_snoc' hx]
    rfl
  | succ k ih =>
    intro hk
    have hx : s[k + 1]? = some s[k + 1] := by simp
    rw [cutTo_more (l := []) hx (h _ hk) (by rw [wasIn_succ]; exact h k (by omega)) (ih (by omega)), take_snoc' hx]
    rfl
theorem changes_zero {s : List Mark} (h : changes s = 0) : ∀ x ∈ s, x.sign = 32 := by
  intro x hx
  unfold changes at h
  have := List.filter_eq_nil_iff.1 (List.eq_nil_of_length_eq_zero h) x hx
  simpa using this
theorem cut_200 {s : List Mark} (h : s.length ≤ 120) : cutOf s 200 = if changes s = 0 then [] else [⟨0, 0, s⟩] := by
  by_cases h0 : changes s = 0
  · rw [if_pos h0]
    have hz := changes_zero h0
    refine cut_none (fun k => ?_) _ (Nat.le_refl _)
    by_cases hk : inAt s 200 k = true
    · obtain ⟨i, x, hx, h1, _⟩ := inAt_iff.1 hk
      exact absurd (hz x (List.mem_of_getElem? hx)) h1
    · simpa using hk
  · rw [if_neg h0]
    obtain ⟨x, hx, hs⟩ : ∃ x ∈ s, x.sign ≠ 32 := by
      have : (s.filter fun m => decide (m.sign ≠ 32)) ≠ [] := fun e => h0 (by unfold changes; rw [e]; rfl)
      obtain ⟨x, hx⟩ := List.exists_mem_of_ne_nil _ this
      rw [List.mem_filter] at hx
      exact ⟨x, hx.1, by simpa using hx.2⟩
    obtain ⟨i, hi⟩ := List.getElem?_of_mem hx
    have hil := (List.getElem?_eq_some_iff.1 hi).1
    have hall : ∀ k, k < s.length → inAt s 200 k = true := fun k hk => inAt_iff.2 ⟨i, x, hi, hs, by omega, by omega⟩
    have := cut_whole hall (s.length - 1) (by omega)
    unfold cutOf
    rw [show s.length - 1 + 1 = s.length by omega, List.take_length] at this
    exact this

/-! ### with more context no more pieces -/
theorem cutLen_out {s : List Mark} {n : Int} {k : Nat} (hk : k < s.length) (h : inAt s n k = false) : (cutTo s n (k + 1)).length = (cutTo s n k).length := by
  have hx : s[k]? = some s[k] := by simp [hk]
  rw [cutTo_out hx h]
theorem cutLen_new {s : List Mark} {n : Int} {k : Nat} (hk : k < s.length) (h : inAt s n k = true) (h' : wasIn s n k = false) : (cutTo s n (k + 1)).length = (cutTo s n k).length + 1 := by
  have hx : s[k]? = some s[k] := by simp [hk]
  rw [cutTo_new hx h h']; simp
theorem cutLen_more {s : List Mark} {n : Int} (hn : 0 ≤ n) {k : Nat} (hk : k < s.length) (h : inAt s n k = true) (h' : wasIn s n k = true) : (cutTo s n (k + 1)).length = (cutTo s n k).length := by
  have hx : s[k]? = some s[k] := by simp [hk]
  obtain ⟨p, m, l, ho⟩ := (cut_inv hn k (by omega)).2 h'
  rw [cutTo_more hx h h' ho.cut, ho.cut]; simp
end Go.Proofs.YtjiaidchcldocaaGreatDoor
namespace Go.Proofs.YtjiaidchcldocaaGreatDoor

/-- do lines stand at a place? -/
def standsB (a : List ByteArray) (at_ : Int) (l : List ByteArray) : Bool :=
  decide (0 ≤ at_) && decide (at_ + l.length ≤ a.length) && decide ((a.drop at_.toNat).take l.length = l)
/-- hunk by hunk: the number, from where on the file is not yet copied, what has come so far -/
def strictGo (a : List ByteArray) : Nat → Nat → List ByteArray → List Hunk → List ByteArray × Nat × Int
  | _, fr, out, [] => if 60 < (out ++ a.drop fr).length then ([], 0, 3) else (out ++ a.drop fr, 0, 0)
  | i, fr, out, h :: r =>
    if standsB a h.old (oldOf h.marks) then strictGo a (i + 1) (h.old.toNat + oldN h.marks) (out ++ (a.drop fr).take (h.old.toNat - fr) ++ newOf h.marks) r
    else ([], i, 6)
def strict (a : List ByteArray) (l : List Hunk) : List ByteArray × Nat × Int :=
  if linesFault a ≠ 0 then ([], 0, linesFault a) else if (hunksFault l).2 ≠ 0 then ([], (hunksFault l).1, (hunksFault l).2) else strictGo a 0 0 [] l

/-- p has the hunks l, each at its place, and all else of it is kept -/
inductive Fits : List Mark → List Hunk → Prop
  | nil : Fits [] []
  | keep {p : List Mark} {l : List Hunk} {m : Mark} : Fits p l → m.sign = 32 → Fits (p ++ [m]) l
  | hunk {p : List Mark} {l : List Hunk} (m : List Mark) : Fits p l → hasChange m = true → Fits (p ++ m) (l ++ [⟨oldN p, newN p, m⟩])
theorem Pcs.fits {b : Bool} {p : List Mark} {l : List Hunk} (h : Pcs b p l) : Fits p l := by
  induction h with
  | nil => exact .nil
  | keep _ hs ih => exact ih.keep hs
  | hunk m _ hc ih => exact ih.hunk m hc

theorem those_append (p m : List Mark) (no : Int) : those (p ++ m) no = those p no ++ those m no := by simp [those, List.filter_append]
theorem those_keep {m : Mark} (h : m.sign = 32) : those [m] 43 = [m.text] ∧ those [m] 45 = [m.text] := by simp [those, h]
theorem oldN_eq (p : List Mark) : oldN p = (those p 43).length := rfl
theorem newN_eq (p : List Mark) : newN p = (those p 45).length := rfl

/-- the state behind some hunks -/
def doAll (a : List ByteArray) : Nat → List ByteArray → List Hunk → Option (Nat × List ByteArray)
  | fr, out, [] => some (fr, out)
  | fr, out, h :: r => if standsB a h.old (oldOf h.marks) then doAll a (h.old.toNat + oldN h.marks) (out ++ (a.drop fr).take (h.old.toNat - fr) ++ newOf h.marks) r else none
theorem doAll_snoc (a : List ByteArray) : ∀ (l : List Hunk) (h : Hunk) (fr fr' : Nat) (out out' : List ByteArray), doAll a fr out l = some (fr', out') → standsB a h.old (oldOf h.marks) = true →
    doAll a fr out (l ++ [h]) = some (h.old.toNat + oldN h.marks, out' ++ (a.drop fr').take (h.old.toNat - fr') ++ newOf h.marks)
  | [], h, fr, fr', out, out', e, hs => by
    simp only [doAll, Option.some.injEq, Prod.mk.injEq] at e
    obtain ⟨rfl, rfl⟩ := e
    simp [doAll, hs]
  | x :: r, h, fr, fr', out, out', e, hs => by
    simp only [doAll, List.cons_append] at e ⊢
    by_cases hx : standsB a x.old (oldOf x.marks) = true
    · rw [if_pos hx] at e ⊢
      exact doAll_snoc a r h _ _ _ _ e hs
    · rw [if_neg hx] at e; cases e
theorem strictGo_of (a : List ByteArray) : ∀ (l : List Hunk) (i fr fr' : Nat) (out out' : List ByteArray), doAll a fr out l = some (fr', out') → (out' ++ a.drop fr').length ≤ 60 → strictGo a i fr out l = (out' ++ a.drop fr', 0, 0)
  | [], i, fr, fr', out, out', e, h60 => by
    simp only [doAll, Option.some.injEq, Prod.mk.injEq] at e
    obtain ⟨rfl, rfl⟩ := e
    rw [strictGo, if_neg (by omega)]
  | x :: r, i, fr, fr', out, out', e, h60 => by
    rw [doAll] at e
    by_cases hx : standsB a x.old (oldOf x.marks) = true
    · rw [if_pos hx] at e
      rw [strictGo, if_pos hx]
      exact strictGo_of a r _ _ _ _ _ e h60
    · rw [if_neg hx] at e; cases e
theorem strictGo_inv (a : List ByteArray) : ∀ (l : List Hunk) (i fr : Nat) (out y : List ByteArray) (k : Nat), strictGo a i fr out l = (y, k, 0) → ∃ fr' out', doAll a fr out l = some (fr', out') ∧ y = out' ++ a.drop fr' ∧ y.length ≤ 60 ∧ k = 0
  | [], i, fr, out, y, k, e => by
    rw [strictGo] at e
    by_cases h : 60 < (out ++ a.drop fr).length
    · rw [if_pos h] at e; simp at e
    · rw [if_neg h] at e
      simp only [Prod.mk.injEq, and_true] at e
      obtain ⟨rfl, rfl⟩ := e
      exact ⟨fr, out, rfl, rfl, by omega, rfl⟩
  | x :: r, i, fr, out, y, k, e => by
    rw [strictGo] at e
    by_cases hx : standsB a x.old (oldOf x.marks) = true
    · rw [if_pos hx] at e
      obtain ⟨fr', out', h1, h2, h3, h4⟩ := strictGo_inv a r _ _ _ _ _ e
      exact ⟨fr', out', by rw [doAll, if_pos hx]; exact h1, h2, h3, h4⟩
    · rw [if_neg hx] at e; simp at e

theorem stands_mid (x y z : List ByteArray) : standsB (x ++ y ++ z) (x.length : Int) y = true := by
  unfold standsB
  simp only [Bool.and_eq_true, decide_eq_true_eq, Int.toNat_natCast]
  refine ⟨⟨by omega, by simp; omega⟩, ?_⟩
  rw [List.append_assoc, List.drop_left, List.take_left]

theorem Fits.doAll {p : List Mark} {l : List Hunk} (h : Fits p l) : ∀ t : List ByteArray, ∃ fr out, doAll (those p 43 ++ t) 0 [] l = some (fr, out) ∧ fr ≤ oldN p ∧ out ++ (those p 43).drop fr = those p 45 := by
  induction h with
  | nil => intro t; exact ⟨0, [], rfl, Nat.zero_le _, rfl⟩
  | @keep p l m h hs ih =>
    intro t
    obtain ⟨fr, out, h1, h2, h3⟩ := ih ([m.text] ++ t)
    refine ⟨fr, out, ?_, ?_, ?_⟩
    · rw [those_append, (those_keep hs).1, List.append_assoc]; exact h1
    · rw [oldN_append]; omega
    · rw [those_append, those_append, (those_keep hs).1, (those_keep hs).2, List.drop_append_of_le_length (by rw [← oldN_eq]; exact h2), ← List.append_assoc, h3]
  | @hunk p l m h hc ih =>
    intro t
    obtain ⟨fr, out, h1, h2, h3⟩ := ih (those m 43 ++ t)
    refine ⟨oldN p + oldN m, those p 45 ++ those m 45, ?_, ?_, ?_⟩
    · rw [those_append, List.append_assoc]
      have hs : standsB (those p 43 ++ (those m 43 ++ t)) ((oldN p : Nat) : Int) (oldOf m) = true := by
        rw [← List.append_assoc]
        exact stands_mid (those p 43) (those m 43) t
      rw [doAll_snoc _ l ⟨oldN p, newN p, m⟩ _ _ _ _ h1 hs]
      have e1 : ((those p 43 ++ (those m 43 ++ t)).drop fr).take (oldN p - fr) = (those p 43).drop fr := by
        rw [List.drop_append_of_le_length (by rw [← oldN_eq]; exact h2), List.take_left' (by rw [List.length_drop, ← oldN_eq])]
      simp only [Int.toNat_natCast]
      rw [e1, h3]
      rfl
    · rw [oldN_append]; omega
    · rw [those_append, those_append, List.drop_of_length_le (by rw [List.length_append, ← oldN_eq, ← oldN_eq]; omega), List.append_nil]

theorem Fits.ok {p : List Mark} {l : List Hunk} (h : Fits p l) : (∀ x ∈ p, markFault x = 0) → (∀ q ∈ l, q.marks.length ≤ 120) → oldN p ≤ 60 → newN p ≤ 60 → hOk 0 0 l ∧ (hFin 0 0 l).1 ≤ oldN p ∧ (hFin 0 0 l).2 = (newN p : Int) - oldN p := by
  induction h with
  | nil => intro _ _ _ _; exact ⟨trivial, by simp [hFin], by simp [hFin, oldN, newN, those]⟩
  | @keep p l m h hs ih =>
    intro s0 s3 s1 s2
    rw [oldN_append, oldN_keep hs] at s1 ⊢
    rw [newN_append, newN_keep hs] at s2 ⊢
    obtain ⟨i1, i2, i3⟩ := ih (fun x hx => s0 x (List.mem_append_left _ hx)) s3 (by omega) (by omega)
    exact ⟨i1, by omega, by omega⟩
  | @hunk p l m h hc ih =>
    intro s0 s3 s1 s2
    rw [oldN_append] at s1 ⊢
    rw [newN_append] at s2 ⊢
    obtain ⟨i1, i2, i3⟩ := ih (fun x hx => s0 x (List.mem_append_left _ hx)) (fun q hq => s3 q (List.mem_append_left _ hq)) (by omega) (by omega)
    have hm : scriptFault m = 0 := scriptFault_zero.2 ⟨s3 ⟨oldN p, newN p, m⟩ (by simp), fun x hx => s0 x (List.mem_append_right _ hx)⟩
    rw [hFin_snoc]
    refine ⟨hOk_snoc _ _ _ _ i1 (oneFault_of hm hc ?_ ?_ ?_ ?_ ?_ ?_), ?_, ?_⟩
    all_goals simp only []
    all_goals omega

theorem Fits.turn {p : List Mark} {l : List Hunk} (h : Fits p l) : Fits (p.map turnMark) (turnHunks l) := by
  induction h with
  | nil => exact .nil
  | @keep p l m h hs ih =>
    rw [List.map_append]
    exact ih.keep ((turnMark_32 m).2 hs)
  | @hunk p l m h hc ih =>
    rw [List.map_append]
    have e : turnHunks (l ++ [⟨oldN p, newN p, m⟩]) = turnHunks l ++ [⟨oldN (p.map turnMark), newN (p.map turnMark), m.map turnMark⟩] := by
      simp [turnHunks, turnHunk, oldN_turn, newN_turn]
    rw [e]
    exact ih.hunk _ (by rw [hasChange_turn]; exact hc)

/-- hunks that fit a script lead from its old lines to its new ones -/
theorem Fits.strict {p : List Mark} {l : List Hunk} (h : Fits p l) (h1 : linesFault (those p 43) = 0) (h2 : (hunksFault l).2 = 0) (h3 : newN p ≤ 60) : strict (those p 43) l = (those p 45, 0, 0) := by
  unfold Proofs.YtjiaidchcldocaaGreatDoor.strict
  rw [if_neg (by simp [h1]), if_neg (by simp [h2])]
  obtain ⟨fr, out, e1, e2, e3⟩ := h.doAll []
  rw [List.append_nil] at e1
  rw [strictGo_of _ l 0 0 fr [] out e1 (by rw [e3, ← newN_eq]; exact h3), e3]

/-! ### hunks that were done fit -/
def keeps (l : List ByteArray) : List Mark := l.map fun x => ⟨32, x⟩
theorem those_keeps (l : List ByteArray) : those (keeps l) 43 = l ∧ those (keeps l) 45 = l := by
  unfold keeps those
  constructor
  · rw [List.filter_eq_self.2 (by intro m hm; obtain ⟨x, _, rfl⟩ := List.mem_map.1 hm; simp), List.map_map]
    exact List.map_id' l
  · rw [List.filter_eq_self.2 (by intro m hm; obtain ⟨x, _, rfl⟩ := List.mem_map.1 hm; simp), List.map_map]
    exact List.map_id' l
theorem Fits.keeps {p : List Mark} {l : List Hunk} (h : Fits p l) : ∀ r : List ByteArray, Fits (p ++ Proofs.YtjiaidchcldocaaGreatDoor.keeps r) l := by
  intro r
  induction r generalizing p with
  | nil => simpa [Proofs.YtjiaidchcldocaaGreatDoor.keeps] using h
  | cons x r ih =>
    have := ih (h.keep (m := ⟨32, x⟩) rfl)
    rw [List.append_assoc] at this
    exact this

theorem stands_split {a : List ByteArray} {at_ : Int} {l : List ByteArray} (h : standsB a at_ l = true) : 0 ≤ at_ ∧ at_.toNat + l.length ≤ a.length ∧ a = a.take at_.toNat ++ l ++ a.drop (at_.toNat + l.length) := by
  unfold standsB at h
  simp only [Bool.and_eq_true, decide_eq_true_eq] at h
  obtain ⟨⟨h1, h2⟩, h3⟩ := h
  refine ⟨h1, by omega, ?_⟩
  conv => lhs; rw [← List.take_append_drop at_.toNat a, ← List.take_append_drop l.length (a.drop at_.toNat), h3, List.drop_drop]
  rw [List.append_assoc]

theorem fits_of_doAll (a : List ByteArray) : ∀ (r l : List Hunk) (p : List Mark) (fr fr' : Nat) (out out' : List ByteArray) (more : Int), Fits p l → those p 43 = a.take fr → fr ≤ a.length → those p 45 = out → more = (newN p : Int) - oldN p →
    hOk fr more r → doAll a fr out r = some (fr', out') → ∃ q, Fits q (l ++ r) ∧ those q 43 = a.take fr' ∧ fr' ≤ a.length ∧ those q 45 = out'
  | [], l, p, fr, fr', out, out', more, hf, h1, h2, h3, h4, _, hd => by
    simp only [doAll, Option.some.injEq, Prod.mk.injEq] at hd
    obtain ⟨rfl, rfl⟩ := hd
    exact ⟨p, by simpa using hf, h1, h2, h3⟩
  | h :: r, l, p, fr, fr', out, out', more, hf, h1, h2, h3, h4, hk, hd => by
    rw [doAll] at hd
    by_cases hs : standsB a h.old (oldOf h.marks) = true
    · rw [if_pos hs] at hd
      obtain ⟨z1, z2, z3, z4, z5, z6, z7, z8⟩ := oneFault_zero hk.1
      obtain ⟨s1, s2, s3⟩ := stands_split hs
      have hon : oldN h.marks = (oldOf h.marks).length := rfl
      have hle : fr ≤ h.old.toNat := by omega
      have hpn : oldN p = fr := by rw [oldN_eq, h1, List.length_take]; omega
      have gap : (a.drop fr).take (h.old.toNat - fr) = (a.take h.old.toNat).drop fr := by rw [List.drop_take]
      have hl2 : ((a.drop fr).take (h.old.toNat - fr)).length = h.old.toNat - fr := by rw [List.length_take, List.length_drop]; omega
      have f1 := hf.keeps ((a.drop fr).take (h.old.toNat - fr))
      have f2 := f1.hunk h.marks z2
      have c1 : oldN (p ++ keeps ((a.drop fr).take (h.old.toNat - fr))) = h.old.toNat := by
        rw [oldN_append, oldN_eq (keeps _), (those_keeps _).1, hl2, hpn]; omega
      have c2 : (newN (p ++ keeps ((a.drop fr).take (h.old.toNat - fr))) : Int) = h.new := by
        rw [newN_append, newN_eq (keeps _), (those_keeps _).2, hl2]; omega
      have e1 : (⟨(oldN (p ++ keeps ((a.drop fr).take (h.old.toNat - fr))) : Int), (newN (p ++ keeps ((a.drop fr).take (h.old.toNat - fr))) : Int), h.marks⟩ : Hunk) = h := by
        rw [c1, c2]
        obtain ⟨o, n, m⟩ := h
        simp only [Hunk.mk.injEq, and_true]
        simp only at s1
        omega
      rw [e1] at f2
      have t1 : those (p ++ keeps ((a.drop fr).take (h.old.toNat - fr)) ++ h.marks) 43 = a.take (h.old.toNat + oldN h.marks) := by
        rw [those_append, those_append, (those_keeps _).1, h1, gap]
        have g1 : a.take fr ++ (a.take h.old.toNat).drop fr = a.take h.old.toNat := by
          conv => rhs; rw [← List.take_append_drop fr (a.take h.old.toNat)]
          rw [List.take_take, Nat.min_eq_left hle]
        rw [g1]
        conv => rhs; rw [s3]
        have g2 : (a.take h.old.toNat ++ oldOf h.marks).length = h.old.toNat + oldN h.marks := by rw [List.length_append, List.length_take]; omega
        rw [List.take_append_of_le_length (by omega)]
        exact (List.take_of_length_le (l := a.take h.old.toNat ++ oldOf h.marks) (by omega)).symm
      have t2 : those (p ++ keeps ((a.drop fr).take (h.old.toNat - fr)) ++ h.marks) 45 = out ++ (a.drop fr).take (h.old.toNat - fr) ++ newOf h.marks := by
        rw [those_append, those_append, (those_keeps _).2, h3]; rfl
      have t3 : more + newN h.marks - oldN h.marks = (newN (p ++ keeps ((a.drop fr).take (h.old.toNat - fr)) ++ h.marks) : Int) - oldN (p ++ keeps ((a.drop fr).take (h.old.toNat - fr)) ++ h.marks) := by
        rw [newN_append _ h.marks, oldN_append _ h.marks, c1]
        push_cast
        rw [c2]
        omega
      have hk2 : hOk ((h.old.toNat + oldN h.marks : Nat) : Int) (more + newN h.marks - oldN h.marks) r := by
        have := hk.2
        rw [show ((h.old.toNat + oldN h.marks : Nat) : Int) = h.old + oldN h.marks by omega]
        exact this
      obtain ⟨q, q1, q2, q3, q4⟩ := fits_of_doAll a r (l ++ [h]) _ _ _ _ _ _ f2 t1 (by omega) t2 t3 hk2 hd
      exact ⟨q, by simpa using q1, q2, q3, q4⟩
    · rw [if_neg hs] at hd; cases hd

theorem strict_zero {a y : List ByteArray} {l : List Hunk} {k : Nat} (h : strict a l = (y, k, 0)) : linesFault a = 0 ∧ hunksFault l = (0, 0) ∧ strictGo a 0 0 [] l = (y, k, 0) := by
  unfold strict at h
  by_cases h1 : linesFault a ≠ 0
  · rw [if_pos h1] at h
    simp only [Prod.mk.injEq] at h
    exact absurd h.2.2 h1
  · rw [if_neg h1] at h
    by_cases h2 : (hunksFault l).2 ≠ 0
    · rw [if_pos h2] at h
      simp only [Prod.mk.injEq] at h
      exact absurd h.2.2 h2
    · rw [if_neg h2] at h
      exact ⟨by simpa using h1, hunksFault_first (by simpa using h2), h⟩
theorem fits_of_strict {a y : List ByteArray} {l : List Hunk} {k : Nat} (h : strict a l = (y, k, 0)) : k = 0 ∧ y.length ≤ 60 ∧ ∃ q, Fits q l ∧ those q 43 = a ∧ those q 45 = y := by
  obtain ⟨h1, h2, h3⟩ := strict_zero h
  obtain ⟨fr, out, e1, e2, e3, e4⟩ := strictGo_inv a l 0 0 [] y k h3
  obtain ⟨_, hk⟩ := hunksFault_zero (by rw [h2])
  obtain ⟨q, q1, q2, q3, q4⟩ := fits_of_doAll a l [] [] 0 fr [] out 0 .nil rfl (Nat.zero_le _) rfl rfl hk e1
  refine ⟨e4, e3, q ++ keeps (a.drop fr), q1.keeps _, ?_, ?_⟩
  · rw [those_append, (those_keeps _).1, q2, List.take_append_drop]
  · rw [those_append, (those_keeps _).2, q4, e2]

theorem hOk_mem : ∀ (l : List Hunk) (fin more : Int), hOk fin more l → ∀ h ∈ l, scriptFault h.marks = 0
  | [], _, _, _, h, hh => by simp at hh
  | x :: r, fin, more, hk, h, hh => by
    rcases List.mem_cons.1 hh with rfl | hh
    · exact (oneFault_zero hk.1).1
    · exact hOk_mem r _ _ hk.2 h hh
theorem markFault_line {m : Mark} (h : markFault m = 0) : lineFault m.text = 0 := by
  unfold markFault at h
  by_cases h1 : m.sign ≠ 32 ∧ m.sign ≠ 45 ∧ m.sign ≠ 43
  · rw [if_pos h1] at h; simp at h
  · rw [if_neg h1] at h; exact h
/-- lines of the new file are lines of the old one, or of a hunk -/
theorem Fits.lines {p : List Mark} {l : List Hunk} (h : Fits p l) (ha : ∀ x ∈ those p 43, lineFault x = 0) (hl : ∀ q ∈ l, scriptFault q.marks = 0) : ∀ x ∈ those p 45, lineFault x = 0 := by
  induction h with
  | nil => intro x hx; simp [those] at hx
  | @keep p l m h hs ih =>
    intro x hx
    rw [those_append, (those_keep hs).2] at hx
    rw [those_append, (those_keep hs).1] at ha
    rcases List.mem_append.1 hx with hx | hx
    · exact ih (fun y hy => ha y (List.mem_append_left _ hy)) hl x hx
    · exact ha x (List.mem_append_right _ hx)
  | @hunk p l m h hc ih =>
    intro x hx
    rw [those_append] at hx ha
    rcases List.mem_append.1 hx with hx | hx
    · exact ih (fun y hy => ha y (List.mem_append_left _ hy)) (fun q hq => hl q (List.mem_append_left _ hq)) x hx
    · have := scriptFault_zero.1 (hl ⟨oldN p, newN p, m⟩ (by simp))
      unfold those at hx
      obtain ⟨y, hy, rfl⟩ := List.mem_map.1 hx
      exact markFault_line (this.2 y (List.mem_filter.1 hy).1)

/-- what was done is undone -/
theorem strict_undo {a y : List ByteArray} {l : List Hunk} {k : Nat} (h : strict a l = (y, k, 0)) : strict y (turnHunks l) = (a, 0, 0) ∧ linesFault y = 0 := by
  obtain ⟨h1, h2, h3⟩ := strict_zero h
  obtain ⟨_, hy, q, q1, q2, q3⟩ := fits_of_strict h
  obtain ⟨a1, a2⟩ := linesFault_zero.1 h1
  obtain ⟨_, hk⟩ := hunksFault_zero (by rw [h2])
  have hly : linesFault y = 0 := by
    rw [linesFault_zero]
    exact ⟨hy, q3 ▸ q1.lines (q2 ▸ a2) (hOk_mem _ _ _ hk)⟩
  have t := q1.turn
  have e1 : those (q.map turnMark) 43 = y := by rw [(those_turn q).1, q3]
  have e2 : those (q.map turnMark) 45 = a := by rw [(those_turn q).2, q2]
  have := t.strict (by rw [e1]; exact hly) (by rw [turn_ok h2]) (by rw [newN_eq, e2]; exact a1)
  rw [e1, e2] at this
  exact ⟨this, hly⟩

/-- what was found is done, and back -/
theorem strict_cut {a b : List ByteArray} {n : Int} (h : checkedFault a b = 0) (h0 : 0 ≤ n) (h1 : n ≤ 1000) :
    cutFault (script a b) n = 0 ∧ strict a (cutOf (script a b) n) = (b, 0, 0) ∧ hunksFault (cutOf (script a b) n) = (0, 0) ∧ strict b (turnHunks (cutOf (script a b) n)) = (a, 0, 0) := by
  obtain ⟨ha, hb⟩ := checkedFault_zero.1 h
  have e1 : those (script a b) 43 = a := script_old a b
  have e2 : those (script a b) 45 = b := script_new a b
  have la := (linesFault_zero.1 ha).1
  have lb := (linesFault_zero.1 hb).1
  have hc : cutFault (script a b) n = 0 := by
    unfold cutFault
    rw [if_neg (by simp [script_valid h]), if_neg (by omega), if_neg (by rw [oldN_eq, newN_eq, e1, e2]; omega)]
  have hk := cut_ok hc
  obtain ⟨_, hp⟩ := cut_pcs (s := script a b) h0
  have f := hp.fits
  have r1 := f.strict (by rw [e1]; exact ha) (by rw [hk]) (by rw [newN_eq, e2]; exact lb)
  rw [e1, e2] at r1
  exact ⟨hc, r1, hk, (strict_undo r1).1⟩
end Go.Proofs.YtjiaidchcldocaaGreatDoor
