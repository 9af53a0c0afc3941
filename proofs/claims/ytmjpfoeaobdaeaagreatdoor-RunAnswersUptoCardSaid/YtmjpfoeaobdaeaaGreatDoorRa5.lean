/-
  PARTS: PIECES OF A SCRIPT, plain laws: what Cut answers is pieces in order ('Pcs'), valid hunks, has all changes; turned; of a great context one piece; with more context no more pieces.; THE WALK of hunk.cut.
-/
import Derived.Test.YtmjpfoeaobdaeaaGreatDoorRa4
import Derived.Deep.RegionLaw
import Derived.Deep.DrawnRows
set_option linter.unusedVariables false
set_option linter.unusedSimpArgs false
namespace Go.Proofs.YtmjpfoeaobdaeaaGreatDoor

inductive Pcs : Bool → List Mark → List Hunk → Prop
  | nil : Pcs true [] []
  | keep {b : Bool} {p : List Mark} {l : List Hunk} {m : Mark} : Pcs b p l → m.sign = 32 → Pcs true (p ++ [m]) l
  | hunk {p : List Mark} {l : List Hunk} (m : List Mark) : Pcs true p l → hasChange m = true → Pcs false (p ++ m) (l ++ [⟨oldN p, newN p, m⟩])

theorem inAt_iff {s : List Mark} {n : Int} {k : Nat} : inAt s n k = true ↔ ∃ (i : Nat) (x : Mark), s[i]? = some x ∧ x.sign ≠ 32 ∧ (k : Int) ≤ i + n ∧ (i : Int) ≤ k + n := by
  unfold inAt
  rw [List.any_eq_true]
  constructor
  · rintro ⟨i, hi, hp⟩
    rw [List.mem_range] at hi
    have hx : s[i]? = some s[i] := by simp [hi]
    rw [hx] at hp
    simp only [Option.any_some, isChange, Bool.and_eq_true, decide_eq_true_eq, Bool.not_eq_true', beq_eq_false_iff_ne] at hp
    exact ⟨i, _, hx, hp.1.1, hp.1.2, hp.2⟩
  · rintro ⟨i, x, hx, h1, h2, h3⟩
    refine ⟨i, List.mem_range.2 (List.getElem?_eq_some_iff.1 hx).1, ?_⟩
    rw [hx]
    simp only [Option.any_some, isChange, Bool.and_eq_true, decide_eq_true_eq, Bool.not_eq_true', beq_eq_false_iff_ne]
    exact ⟨⟨h1, h2⟩, h3⟩

def wasIn (s : List Mark) (n : Int) (k : Nat) : Bool := decide (0 < k) && inAt s n (k - 1)
theorem wasIn_succ (s : List Mark) (n : Int) (k : Nat) : wasIn s n (k + 1) = inAt s n k := by simp [wasIn]
theorem wasIn_zero (s : List Mark) (n : Int) : wasIn s n 0 = false := rfl

theorem cutTo_succ {s : List Mark} {n : Int} {k : Nat} {x : Mark} (hx : s[k]? = some x) :
    cutTo s n (k + 1) = cutStep (cutTo s n k) (wasIn s n k) (inAt s n k) (oldN (s.take k)) (newN (s.take k)) x := by
  rw [cutTo, hx]; rfl
theorem pushLast_snoc (l : List Hunk) (h : Hunk) (m : Mark) : pushLast (l ++ [h]) m = l ++ [⟨h.old, h.new, h.marks ++ [m]⟩] := by
  unfold pushLast
  rw [List.getLast?_concat]
  simp
theorem cutTo_out {s : List Mark} {n : Int} {k : Nat} {x : Mark} (hx : s[k]? = some x) (h : inAt s n k = false) : cutTo s n (k + 1) = cutTo s n k := by
  rw [cutTo_succ hx, h]; rfl
theorem cutTo_new {s : List Mark} {n : Int} {k : Nat} {x : Mark} (hx : s[k]? = some x) (h : inAt s n k = true) (h' : wasIn s n k = false) :
    cutTo s n (k + 1) = cutTo s n k ++ [⟨oldN (s.take k), newN (s.take k), [x]⟩] := by
  rw [cutTo_succ hx, h, h']
  exact pushLast_snoc _ _ _
theorem cutTo_more {s : List Mark} {n : Int} {k : Nat} {x : Mark} {l : List Hunk} {q : Hunk} (hx : s[k]? = some x) (h : inAt s n k = true) (h' : wasIn s n k = true) (e : cutTo s n k = l ++ [q]) :
    cutTo s n (k + 1) = l ++ [⟨q.old, q.new, q.marks ++ [x]⟩] := by
  rw [cutTo_succ hx, h, h', e]
  exact pushLast_snoc _ _ _

theorem take_snoc' {α : Type} {s : List α} {k : Nat} {x : α} (hx : s[k]? = some x) : s.take (k + 1) = s.take k ++ [x] := by
  rw [List.take_add_one, hx]; rfl

theorem change_in {s : List Mark} {n : Int} (hn : 0 ≤ n) {k : Nat} {x : Mark} (hx : s[k]? = some x) (h : inAt s n k = false) : x.sign = 32 := by
  by_cases hs : x.sign = 32
  · exact hs
  · have : inAt s n k = true := inAt_iff.2 ⟨k, x, hx, hs, by omega, by omega⟩
    rw [this] at h; cases h

structure PieceOpen (s : List Mark) (n : Int) (k : Nat) (p m : List Mark) (l : List Hunk) : Prop where
  eq : s.take k = p ++ m
  pcs : Pcs true p l
  cut : cutTo s n k = l ++ [⟨oldN p, newN p, m⟩]
  lt : p.length < k
  inn : ∀ j, p.length ≤ j → j < k → inAt s n j = true
  out : p.length = 0 ∨ inAt s n (p.length - 1) = false

theorem PieceOpen.change {s : List Mark} {n : Int} (hn : 0 ≤ n) {k : Nat} {p m : List Mark} {l : List Hunk} (h : PieceOpen s n k p m l) (_hk : k ≤ s.length) (hk' : k = s.length ∨ inAt s n k = false) : hasChange m = true := by
  obtain ⟨e, _, _, hlt, hin, hout⟩ := h
  obtain ⟨i, x, hx, h1, h2, h3⟩ := inAt_iff.1 (hin (k - 1) (by omega) (by omega))
  have hil := (List.getElem?_eq_some_iff.1 hx).1
  have c1 : i < k := by
    rcases Nat.lt_or_ge i k with h | h
    · exact h
    · rcases hk' with h' | h'
      · omega
      · have : inAt s n k = true := inAt_iff.2 ⟨i, x, hx, h1, by omega, by omega⟩
        rw [this] at h'; cases h'
  have c2 : p.length ≤ i := by
    rcases Nat.lt_or_ge i p.length with h | h
    · rcases hout with h' | h'
      · omega
      · have : inAt s n (p.length - 1) = true := inAt_iff.2 ⟨i, x, hx, h1, by omega, by omega⟩
        rw [this] at h'; cases h'
    · exact h
  have hm : m[i - p.length]? = some x := by
    have : (s.take k)[i]? = some x := by rw [List.getElem?_take, if_pos c1, hx]
    rw [e, List.getElem?_append_right c2] at this
    exact this
  unfold hasChange
  rw [List.any_eq_true]
  exact ⟨x, List.mem_of_getElem? hm, by simpa using h1⟩

theorem cut_inv {s : List Mark} {n : Int} (hn : 0 ≤ n) : ∀ k, k ≤ s.length →
    (wasIn s n k = false → Pcs true (s.take k) (cutTo s n k)) ∧ (wasIn s n k = true → ∃ p m l, PieceOpen s n k p m l) := by
  intro k
  induction k with
  | zero =>
    intro _
    refine ⟨fun _ => ?_, fun h => ?_⟩
    · rw [List.take_zero]; exact Pcs.nil
    · rw [wasIn_zero] at h; cases h
  | succ k ih =>
    intro hk
    obtain ⟨i1, i2⟩ := ih (by omega)
    have hx : s[k]? = some s[k] := by simp
    have ht := take_snoc' hx
    refine ⟨fun h => ?_, fun h => ?_⟩
    · rw [wasIn_succ] at h
      have hs := change_in hn hx h
      rw [ht, cutTo_out hx h]
      by_cases hw : wasIn s n k = true
      · obtain ⟨p, m, l, ho⟩ := i2 hw
        have hc := ho.change hn (by omega) (.inr h)
        rw [ho.eq, ho.cut]
        exact (Pcs.hunk m ho.pcs hc).keep hs
      · exact (i1 (by simpa using hw)).keep hs
    · rw [wasIn_succ] at h
      by_cases hw : wasIn s n k = true
      · obtain ⟨p, m, l, ho⟩ := i2 hw
        refine ⟨p, m ++ [s[k]], l, ?_, ho.pcs, ?_, by have := ho.lt; omega, ?_, ho.out⟩
        · rw [ht, ho.eq, List.append_assoc]
        · rw [cutTo_more hx h hw ho.cut]
        · intro j h1 h2
          rcases Nat.lt_or_ge j k with h3 | h3
          · exact ho.inn j h1 h3
          · obtain rfl : j = k := by omega
            exact h
      · have hw' : wasIn s n k = false := by simpa using hw
        have hl : (s.take k).length = k := by rw [List.length_take]; omega
        refine ⟨s.take k, [s[k]], cutTo s n k, ht, i1 hw', cutTo_new hx h hw', by omega, ?_, ?_⟩
        · intro j h1 h2
          obtain rfl : j = k := by omega
          exact h
        · rw [hl]
          unfold wasIn at hw'
          rcases Nat.eq_zero_or_pos k with h0 | h0
          · exact .inl h0
          · right
            simpa [h0] using hw'

theorem cut_pcs {s : List Mark} {n : Int} (hn : 0 ≤ n) : ∃ b, Pcs b s (cutOf s n) := by
  obtain ⟨i1, i2⟩ := cut_inv (s := s) hn s.length (Nat.le_refl _)
  unfold cutOf
  by_cases hw : wasIn s n s.length = true
  · obtain ⟨p, m, l, ho⟩ := i2 hw
    have hc := ho.change hn (Nat.le_refl _) (.inl rfl)
    have e := ho.eq
    rw [List.take_length] at e
    rw [ho.cut]
    refine ⟨false, ?_⟩
    conv => arg 2; rw [e]
    exact Pcs.hunk m ho.pcs hc
  · have := i1 (by simpa using hw)
    rw [List.take_length] at this
    exact ⟨true, this⟩

theorem oldN_append (p m : List Mark) : oldN (p ++ m) = oldN p + oldN m := by simp [oldN, those, List.filter_append]
theorem newN_append (p m : List Mark) : newN (p ++ m) = newN p + newN m := by simp [newN, those, List.filter_append]
theorem changes_append (p m : List Mark) : changes (p ++ m) = changes p + changes m := by simp [changes, List.filter_append]
theorem oldN_keep {m : Mark} (h : m.sign = 32) : oldN [m] = 1 := by simp [oldN, those, h]
theorem newN_keep {m : Mark} (h : m.sign = 32) : newN [m] = 1 := by simp [newN, those, h]
theorem changes_keep {m : Mark} (h : m.sign = 32) : changes [m] = 0 := by simp [changes, h]

def manyChanges (l : List Hunk) : Nat := (l.map fun h => changes h.marks).sum
theorem Pcs.many {b : Bool} {p : List Mark} {l : List Hunk} (h : Pcs b p l) : manyChanges l = changes p := by
  induction h with
  | nil => rfl
  | keep h hs ih => rw [changes_append, changes_keep hs, ih]; rfl
  | hunk m h hc ih => rw [changes_append, ← ih]; simp [manyChanges]
theorem sizes_changes {m : List Mark} (h : hasChange m = true) : 1 ≤ oldN m + newN m := by
  unfold hasChange at h
  rw [List.any_eq_true] at h
  obtain ⟨x, hx, _⟩ := h
  by_cases h43 : x.sign = 43
  · have : x.text ∈ those m 45 := by
      unfold those
      exact List.mem_map.2 ⟨x, List.mem_filter.2 ⟨hx, by simp [h43]⟩, rfl⟩
    have := List.length_pos_of_mem this
    unfold oldN newN; omega
  · have : x.text ∈ those m 43 := by
      unfold those
      exact List.mem_map.2 ⟨x, List.mem_filter.2 ⟨hx, by simp [h43]⟩, rfl⟩
    have := List.length_pos_of_mem this
    unfold oldN newN; omega
theorem Pcs.few {b : Bool} {p : List Mark} {l : List Hunk} (h : Pcs b p l) : 3 * l.length ≤ oldN p + newN p + (if b then 0 else 2) := by
  induction h with
  | nil => simp
  | keep h hs ih =>
    rw [oldN_append, newN_append, oldN_keep hs, newN_keep hs]
    simp only [if_true]
    split at ih <;> omega
  | hunk m h hc ih =>
    have := sizes_changes hc
    rw [oldN_append, newN_append, List.length_append]
    simp only [if_true, List.length_cons, List.length_nil] at ih ⊢
    simp
    omega

def hOk : Int → Int → List Hunk → Prop
  | _, _, [] => True
  | fin, more, h :: r => oneFault h fin more = 0 ∧ hOk (h.old + oldN h.marks) (more + newN h.marks - oldN h.marks) r
def hFin : Int → Int → List Hunk → Int × Int
  | fin, more, [] => (fin, more)
  | _, more, h :: r => hFin (h.old + oldN h.marks) (more + newN h.marks - oldN h.marks) r
theorem hunksGo_ok : ∀ (l : List Hunk) (i : Nat) (fin more : Int), hOk fin more l → hunksGo i fin more l = (0, 0)
  | [], _, _, _, _ => rfl
  | h :: r, i, fin, more, hk => by
    rw [hunksGo, if_pos hk.1]
    exact hunksGo_ok r _ _ _ hk.2
theorem hunksGo_zero : ∀ (l : List Hunk) (i : Nat) (fin more : Int), (hunksGo i fin more l).2 = 0 → hOk fin more l
  | [], _, _, _, _ => trivial
  | h :: r, i, fin, more, hk => by
    rw [hunksGo] at hk
    by_cases h0 : oneFault h fin more = 0
    · rw [if_pos h0] at hk
      exact ⟨h0, hunksGo_zero r _ _ _ hk⟩
    · rw [if_neg h0] at hk
      exact absurd hk h0
theorem hunksFault_ok {l : List Hunk} (h : l.length ≤ 60) (hk : hOk 0 0 l) : hunksFault l = (0, 0) := by
  unfold hunksFault
  rw [if_neg (by omega), hunksGo_ok l _ _ _ hk]
theorem hunksFault_zero {l : List Hunk} (h : (hunksFault l).2 = 0) : l.length ≤ 60 ∧ hOk 0 0 l := by
  unfold hunksFault at h
  by_cases h1 : 60 < l.length
  · rw [if_pos h1] at h; simp at h
  · rw [if_neg h1] at h
    exact ⟨by omega, hunksGo_zero _ _ _ _ h⟩
theorem hunksFault_first {l : List Hunk} (h : (hunksFault l).2 = 0) : hunksFault l = (0, 0) := by
  obtain ⟨h1, h2⟩ := hunksFault_zero h
  exact hunksFault_ok h1 h2
theorem hOk_snoc : ∀ (l : List Hunk) (h : Hunk) (fin more : Int), hOk fin more l → oneFault h (hFin fin more l).1 (hFin fin more l).2 = 0 → hOk fin more (l ++ [h])
  | [], _h, _, _, _, h2 => ⟨h2, trivial⟩
  | _x :: r, h, _fin, _more, h1, h2 => ⟨h1.1, hOk_snoc r h _ _ h1.2 h2⟩
theorem hFin_snoc : ∀ (l : List Hunk) (h : Hunk) (fin more : Int), hFin fin more (l ++ [h]) = (h.old + oldN h.marks, (hFin fin more l).2 + newN h.marks - oldN h.marks)
  | [], _h, _fin, _more => rfl
  | _x :: r, h, _fin, _more => hFin_snoc r h _ _

theorem scriptFault_sub {s m : List Mark} (h : scriptFault s = 0) (hm : ∀ x ∈ m, x ∈ s) (hl : m.length ≤ s.length) : scriptFault m = 0 := by
  rw [scriptFault_zero] at h ⊢
  exact ⟨by omega, fun x hx => h.2 x (hm x hx)⟩
theorem oneFault_of {h : Hunk} {fin more : Int} (h1 : scriptFault h.marks = 0) (h2 : hasChange h.marks = true) (h3 : 0 ≤ h.old) (h4 : 0 ≤ h.new) (h5 : h.old + oldN h.marks ≤ 60) (h6 : h.new + newN h.marks ≤ 60) (h7 : fin ≤ h.old) (h8 : h.new = h.old + more) : oneFault h fin more = 0 := by
  unfold oneFault
  rw [if_neg (by simp [h1]), if_neg (by simp [h2]), if_neg (by omega), if_neg (by omega)]

theorem Pcs.ok {b : Bool} {p : List Mark} {l : List Hunk} (h : Pcs b p l) : scriptFault p = 0 → oldN p ≤ 60 → newN p ≤ 60 → hOk 0 0 l ∧ (hFin 0 0 l).1 ≤ oldN p ∧ (hFin 0 0 l).2 = (newN p : Int) - oldN p := by
  induction h with
  | nil => intro _ _ _; exact ⟨trivial, by simp [hFin], by simp [hFin, oldN, newN, those]⟩
  | @keep b p l m h hs ih =>
    intro s0 s1 s2
    rw [oldN_append, oldN_keep hs] at s1 ⊢
    rw [newN_append, newN_keep hs] at s2 ⊢
    obtain ⟨i1, i2, i3⟩ := ih (scriptFault_sub s0 (fun x hx => List.mem_append_left _ hx) (by simp)) (by omega) (by omega)
    exact ⟨i1, by omega, by omega⟩
  | @hunk p l m h hc ih =>
    intro s0 s1 s2
    rw [oldN_append] at s1 ⊢
    rw [newN_append] at s2 ⊢
    obtain ⟨i1, i2, i3⟩ := ih (scriptFault_sub s0 (fun x hx => List.mem_append_left _ hx) (by simp)) (by omega) (by omega)
    have hm := scriptFault_sub (m := m) s0 (fun x hx => List.mem_append_right _ hx) (by simp)
    rw [hFin_snoc]
    refine ⟨hOk_snoc _ _ _ _ i1 (oneFault_of hm hc ?_ ?_ ?_ ?_ ?_ ?_), ?_, ?_⟩
    all_goals simp only []
    all_goals omega

theorem cutFault_zero {s : List Mark} {n : Int} (h : cutFault s n = 0) : scriptFault s = 0 ∧ 0 ≤ n ∧ n ≤ 1000 ∧ oldN s ≤ 60 ∧ newN s ≤ 60 := by
  unfold cutFault at h
  by_cases h1 : scriptFault s ≠ 0
  · rw [if_pos h1] at h; exact absurd h h1
  · rw [if_neg h1] at h
    by_cases h2 : n < 0 ∨ 1000 < n
    · rw [if_pos h2] at h; simp at h
    · rw [if_neg h2] at h
      by_cases h3 : 60 < oldN s ∨ 60 < newN s
      · rw [if_pos h3] at h; simp at h
      · exact ⟨by simpa using h1, by omega, by omega, by omega, by omega⟩
theorem cut_ok {s : List Mark} {n : Int} (h : cutFault s n = 0) : hunksFault (cutOf s n) = (0, 0) := by
  obtain ⟨h1, h2, h3, h4, h5⟩ := cutFault_zero h
  obtain ⟨b, hp⟩ := cut_pcs (s := s) h2
  obtain ⟨k1, _, _⟩ := hp.ok h1 h4 h5
  refine hunksFault_ok ?_ k1
  have := hp.few
  split at this <;> omega
def turnHunks (l : List Hunk) : List Hunk := l.map turnHunk
theorem turnMark_43 (m : Mark) : (turnMark m).sign = 43 ↔ m.sign = 45 := by
  unfold turnMark
  by_cases h1 : m.sign = 45
  · simp [h1]
  · by_cases h2 : m.sign = 43
    · simp [h2]
    · simp [h1, h2]
theorem turnMark_45 (m : Mark) : (turnMark m).sign = 45 ↔ m.sign = 43 := by
  unfold turnMark
  by_cases h1 : m.sign = 45
  · simp [h1]
  · by_cases h2 : m.sign = 43
    · simp [h2]
    · simp [h1, h2]
theorem turnMark_32 (m : Mark) : (turnMark m).sign = 32 ↔ m.sign = 32 := by
  unfold turnMark
  by_cases h1 : m.sign = 45
  · simp [h1]
  · by_cases h2 : m.sign = 43
    · simp [h2]
    · simp [h1, h2]
theorem those_turn (l : List Mark) : those (l.map turnMark) 43 = those l 45 ∧ those (l.map turnMark) 45 = those l 43 := by
  unfold those
  constructor
  · rw [List.filter_map, List.map_map]
    have e1 : ((fun m : Mark => decide (m.sign ≠ 43)) ∘ turnMark) = fun m => decide (m.sign ≠ 45) := by
      funext m; simp [turnMark_43]
    rw [e1]; rfl
  · rw [List.filter_map, List.map_map]
    have e1 : ((fun m : Mark => decide (m.sign ≠ 45)) ∘ turnMark) = fun m => decide (m.sign ≠ 43) := by
      funext m; simp [turnMark_45]
    rw [e1]; rfl
theorem oldN_turn (l : List Mark) : oldN (l.map turnMark) = newN l := by unfold oldN newN; rw [(those_turn l).1]
theorem newN_turn (l : List Mark) : newN (l.map turnMark) = oldN l := by unfold oldN newN; rw [(those_turn l).2]
theorem markFault_turn (m : Mark) : markFault (turnMark m) = markFault m := by
  unfold markFault
  have e : ((turnMark m).sign ≠ 32 ∧ (turnMark m).sign ≠ 45 ∧ (turnMark m).sign ≠ 43) = (m.sign ≠ 32 ∧ m.sign ≠ 45 ∧ m.sign ≠ 43) := by
    simp only [ne_eq, turnMark_32, turnMark_43, turnMark_45, eq_iff_iff]
    constructor <;> (rintro ⟨a, b, c⟩; exact ⟨a, c, b⟩)
  simp only [e]
  rfl
theorem scriptFault_turn {l : List Mark} (h : scriptFault l = 0) : scriptFault (l.map turnMark) = 0 := by
  rw [scriptFault_zero] at h ⊢
  refine ⟨by simpa using h.1, ?_⟩
  intro x hx
  obtain ⟨y, hy, rfl⟩ := List.mem_map.1 hx
  rw [markFault_turn]
  exact h.2 y hy
theorem hasChange_turn (l : List Mark) : hasChange (l.map turnMark) = hasChange l := by
  unfold hasChange
  rw [List.any_map]
  congr 1
  funext m
  simp [turnMark_32]
theorem oneFault_turn {h : Hunk} {fin more : Int} (e : oneFault h fin more = 0) : oneFault (turnHunk h) (fin + more) (-more) = 0 := by
  obtain ⟨e1, e2, e3, e4, e5, e6, e7, e8⟩ := oneFault_zero e
  refine oneFault_of (scriptFault_turn e1) ?_ ?_ ?_ ?_ ?_ ?_ ?_
  · simp only [turnHunk]; rw [hasChange_turn]; exact e2
  all_goals simp only [turnHunk, oldN_turn, newN_turn]
  all_goals omega
theorem hOk_turn : ∀ (l : List Hunk) (fin more : Int), hOk fin more l → hOk (fin + more) (-more) (turnHunks l)
  | [], _, _, _ => trivial
  | h :: r, fin, more, hk => by
    refine ⟨oneFault_turn hk.1, ?_⟩
    obtain ⟨_, _, _, _, _, _, _, e8⟩ := oneFault_zero hk.1
    have := hOk_turn r _ _ hk.2
    have e1 : (turnHunk h).old + oldN (turnHunk h).marks = (h.old + oldN h.marks) + (more + newN h.marks - oldN h.marks) := by
      simp only [turnHunk, oldN_turn]; omega
    have e2 : -more + (newN (turnHunk h).marks : Int) - oldN (turnHunk h).marks = -(more + newN h.marks - oldN h.marks) := by
      simp only [turnHunk, oldN_turn, newN_turn]; omega
    rw [e1, e2]
    exact this
theorem turn_ok {l : List Hunk} (h : hunksFault l = (0, 0)) : hunksFault (turnHunks l) = (0, 0) := by
  obtain ⟨h1, h2⟩ := hunksFault_zero (by rw [h])
  refine hunksFault_ok (by simpa [turnHunks] using h1) ?_
  simpa using hOk_turn l 0 0 h2

theorem cut_none {s : List Mark} {n : Int} (h : ∀ k, inAt s n k = false) : ∀ k, k ≤ s.length → cutTo s n k = [] := by
  intro k
  induction k with
  | zero => intro _; rfl
  | succ k ih =>
    intro hk
    have hx : s[k]? = some s[k] := by simp
    rw [cutTo_out hx (h k), ih (by omega)]
theorem cut_whole {s : List Mark} {n : Int} (h : ∀ k, k < s.length → inAt s n k = true) : ∀ k, k < s.length → cutTo s n (k + 1) = [⟨0, 0, s.take (k + 1)⟩] := by
  intro k
  induction k with
  | zero =>
    intro hk
    have hx : s[0]? = some s[0] := by simp
    rw [cutTo_new hx (h 0 hk) rfl, take_snoc' hx]
    rfl
  | succ k ih =>
    intro hk
    have hx : s[k + 1]? = some s[k + 1] := by simp
    rw [cutTo_more (l := []) hx (h _ hk) (by rw [wasIn_succ]; exact h k (by omega)) (ih (by omega)), take_snoc' hx]
    rfl
theorem changes_zero {s : List Mark} (h : changes s = 0) : ∀ x ∈ s, x.sign = 32 := by
  intro x hx
  unfold changes at h
  have := List.filter_eq_nil_iff.1 (List.eq_nil_of_length_eq_zero h) x hx
  simpa using this
theorem cut_200 {s : List Mark} (h : s.length ≤ 120) : cutOf s 200 = if changes s = 0 then [] else [⟨0, 0, s⟩] := by
  by_cases h0 : changes s = 0
  · rw [if_pos h0]
    have hz := changes_zero h0
    refine cut_none (fun k => ?_) _ (Nat.le_refl _)
    by_cases hk : inAt s 200 k = true
    · obtain ⟨i, x, hx, h1, _⟩ := inAt_iff.1 hk
      exact absurd (hz x (List.mem_of_getElem? hx)) h1
    · simpa using hk
  · rw [if_neg h0]
    obtain ⟨x, hx, hs⟩ : ∃ x ∈ s, x.sign ≠ 32 := by
      have : (s.filter fun m => decide (m.sign ≠ 32)) ≠ [] := fun e => h0 (by unfold changes; rw [e]; rfl)
      obtain ⟨x, hx⟩ := List.exists_mem_of_ne_nil _ this
      rw [List.mem_filter] at hx
      exact ⟨x, hx.1, by simpa using hx.2⟩
    obtain ⟨i, hi⟩ := List.getElem?_of_mem hx
    have hil := (List.getElem?_eq_some_iff.1 hi).1
    have hall : ∀ k, k < s.length → inAt s 200 k = true := fun k hk => inAt_iff.2 ⟨i, x, hi, hs, by omega, by omega⟩
    have := cut_whole hall (s.length - 1) (by omega)
    unfold cutOf
    rw [show s.length - 1 + 1 = s.length by omega, List.take_length] at this
    exact this

theorem cutLen_out {s : List Mark} {n : Int} {k : Nat} (hk : k < s.length) (h : inAt s n k = false) : (cutTo s n (k + 1)).length = (cutTo s n k).length := by
  have hx : s[k]? = some s[k] := by simp [hk]
  rw [cutTo_out hx h]
theorem cutLen_new {s : List Mark} {n : Int} {k : Nat} (hk : k < s.length) (h : inAt s n k = true) (h' : wasIn s n k = false) : (cutTo s n (k + 1)).length = (cutTo s n k).length + 1 := by
  have hx : s[k]? = some s[k] := by simp [hk]
  rw [cutTo_new hx h h']; simp
theorem cutLen_more {s : List Mark} {n : Int} (hn : 0 ≤ n) {k : Nat} (hk : k < s.length) (h : inAt s n k = true) (h' : wasIn s n k = true) : (cutTo s n (k + 1)).length = (cutTo s n k).length := by
  have hx : s[k]? = some s[k] := by simp [hk]
  obtain ⟨p, m, l, ho⟩ := (cut_inv hn k (by omega)).2 h'
  rw [cutTo_more hx h h' ho.cut, ho.cut]; simp
end Go.Proofs.YtmjpfoeaobdaeaaGreatDoor
namespace Go.Proofs.YtmjpfoeaobdaeaaGreatDoor
open Go.RowKit

theorem elemOk_hunk : ElemOk Tryz.prog 97 146 3 := elemOk_of Tryz.underlying97 (z := .agg #[.int .i64 0, .int .i64 0, .slice none 0 0]) (b := 40) (by kernel_rfl) rfl (by decide)

theorem step_push {P : Program} {ops : Array Oper} {o : Oper} {a : Act} {K : Act → World → Prop} {Q : Exit → Act → World → Prop} {E : Prop} (hgd : o.guard = none) (s x : Operand) (t : TypeId)
    (ho : o.op = .call { callee := .builtin .append, args := #[s, x], argTypes := #[t, t] }) {α : Type} [Dat α] {e : TypeId} (hP : ElemOk P t e (Dat.n α)) {w0 : World} {O : Nat → Prop} {v : Value} {l : List α} {y : α} {es : List Value} {E' : TypeId} {B : Nat}
    (hs : a.eval s = v) (hx : a.eval x = .slice (some ⟨B, 0, none⟩) 1 1) (hB : B = w0.heap.size)
    (hown : Own e w0 O v l) (hy : Dat.rd w0 (fun k => O k ∨ v.ownBlock = some k) es y) (hO : ∀ k, O k → k < w0.heap.size) (hlen : l.length ≤ 1000000000)
    (h : ∀ v' w', Own e w' O v' (l ++ [y]) → Chg (OwnB v) w0 w' → (∃ k, v'.ownBlock = some k ∧ (v.ownBlock = some k ∨ w0.heap.size ≤ k)) → K (a.put o.dst v') w') :
    if Region.wanted o (yielded ops a.tmps) = true then Oper.wp P o a (w0.alloc (.cells es.toArray E')) K Q else E := by
  have hw : Region.wanted o (yielded ops a.tmps) = true := by simp [Region.wanted, hgd]
  rw [if_pos hw]
  subst hB
  obtain ⟨v', w', hrun, h1, h2, h3⟩ := run_push (ty := o.type) hP E' hown hy hO hlen
  unfold Oper.wp execOp
  simp only [ho, resolve, invoke, builtin, Sem.run_bind, Sem.run_pure, Result.andThen_ok, List.map_toArray, List.map_cons, List.map_nil, hs, hx, hrun]
  exact h v' w' h1 h2 h3

theorem cutTo_len {s : List Mark} {n : Int} (hn : 0 ≤ n) : ∀ k, k ≤ s.length → (cutTo s n k).length ≤ k := by
  intro k
  induction k with
  | zero => intro _; exact Nat.le_refl _
  | succ k ih =>
    intro hk
    have := ih (by omega)
    by_cases h1 : inAt s n k = true
    · by_cases h2 : wasIn s n k = true
      · rw [cutLen_more hn (by omega) h1 h2]; omega
      · rw [cutLen_new (by omega) h1 (by simpa using h2)]; omega
    · rw [cutLen_out (by omega) (by simpa using h1)]; omega

theorem own_slice {v : Value} {p : Nat → Prop} (h : ∃ k, v.ownBlock = some k ∧ p k) : ∃ a n c, v = .slice (some a) n c := by
  obtain ⟨k, hk, _⟩ := h
  unfold Value.ownBlock at hk
  split at hk
  · exact ⟨_, _, _, rfl⟩
  · cases hk

theorem ifn_true {a k : Int} (h : (a != k) = true) : (if a = k then (0 : Nat) else 1) = 1 := if_neg (by simpa using h)
theorem ifn_false {a k : Int} (h : (a != k) = false) : (if a = k then (0 : Nat) else 1) = 0 := if_pos (by simpa using h)

def CutOwn (w : World) (O : Nat → Prop) (v : Value) (l : List Hunk) (was : Bool) : Prop :=
  if was = true then ∃ init h mv xs, l = init ++ [h] ∧ OwnLast 146 148 w O v init h mv xs else Own 146 w O v l
theorem CutOwn.own {w : World} {O : Nat → Prop} {v : Value} {l : List Hunk} {was : Bool} (h : CutOwn w O v l was) : Own 146 w O v l := by
  unfold CutOwn at h
  split at h
  · obtain ⟨init, q, mv, xs, rfl, hl⟩ := h
    exact hl.own
  · exact h


theorem cut_marks {s : List Mark} {n : Int} (hn : 0 ≤ n) {k : Nat} (hk : k ≤ s.length) (hw : wasIn s n k = true) {init : List Hunk} {q : Hunk} (e : cutTo s n k = init ++ [q]) : q.marks.length ≤ k := by
  obtain ⟨p, m, l, ho⟩ := (cut_inv hn k hk).2 hw
  have h1 := ho.eq
  have h2 := ho.cut
  rw [e] at h2
  have h3 := (List.append_inj' h2 rfl).2
  simp only [List.cons.injEq, and_true] at h3
  subst h3
  have : (s.take k).length = (p ++ m).length := by rw [h1]
  rw [List.length_take, List.length_append] at this
  simp only
  omega

set_option maxHeartbeats 2000000 in
set_option maxRecDepth 100000 in
theorem cut_any (s : List Mark) (n : Int) (v : Value) (w : World) (h : Rdv w Never v s) (hl : s.length ≤ 120) (hn : 0 ≤ n) (hn' : n ≤ 1000) :
    Calls Tryz.prog 146 #[v, .int .i64 n] w fun e w' => ∃ r, e = .returned r ∧ Chg Never w w' ∧ Rdv w' (Old w.heap.size) r (cutOf s n) := by
  obtain ⟨a, cap, rfl, h1, h2, h3⟩ := rdv_slice h
  unfold maxLen at h2
  go_enter Tryz.func146, Tryz.ntmps146
  go_wp2_with fail
  refine (near_any s n _ _ h hl hn hn').mono ?_
  rintro e w1 ⟨rfl, hc1, hB1⟩
  go_wp2_with fail
  go_loopw [6, 7, 8, 17] (fun o s7 s8 i wr => ∃ k : Nat, k ≤ s.length ∧ i = .int .i64 k ∧ s7 = .int .i64 (oldN (s.take k)) ∧ s8 = .int .i64 (newN (s.take k)) ∧ Chg Never w wr ∧ BoolRow w.heap.size wr s.length (inAt s n) ∧
      CutOwn wr (Old (w.heap.size + 1)) o (cutTo s n k) (wasIn s n k)) (fun _ _ _ i _ => s.length - (intOf i).toNat)
  case atStart => exact ⟨0, Nat.zero_le _, rfl, rfl, rfl, hc1, hB1, own_nil _ _ _⟩
  case round =>
    clear hc1 hB1
    obtain ⟨k, hk, rfl, rfl, rfl, hc, hB, hown⟩ := hrel
    by_cases hlt : k < s.length
    · obtain ⟨x, hx⟩ : ∃ x, s[k]? = some x := ⟨s[k], by simp [hlt]⟩
      obtain ⟨b, off, rfl, _, _, c0, c1, s0, s1, hxs⟩ := elems_mark h3 hx
      have c0 := hc.cellNever c0
      have c1 := hc.cellNever c1
      have HO := Lib.hid (oldN_take hx)
      have HN := Lib.hid (newN_take hx)
      have l1 : oldN (s.take k) ≤ k := Nat.le_trans (oldN_le _) (List.length_take_le _ _)
      have l2 : newN (s.take k) ≤ k := Nat.le_trans (newN_le _) (List.length_take_le _ _)
      have hlen := cutTo_len (s := s) hn k hk
      clear h3 h
      have dk := hB.cell hlt
      obtain ⟨sg, tx⟩ := x
      simp only at c0 c1 s0 s1 hxs
      have hA : Chg Never wr (wr.alloc (.cells #[.int .u8 sg, .string tx] 148)) := (Chg.refl Never wr).alloc _
      have hx0 : (wr.alloc (.cells #[.int .u8 sg, .string tx] 148)).cell? ⟨wr.heap.size, 0, none⟩ = some (.int .u8 sg) := by simp only [World.cell?]; rw [heap_alloc_new]; rfl
      have hx1 : (wr.alloc (.cells #[.int .u8 sg, .string tx] 148)).cell? ⟨wr.heap.size, 1, none⟩ = some (.string tx) := by simp only [World.cell?]; rw [heap_alloc_new]; rfl
      have dk := hA.cellNever dk
      have HX := Lib.hid hx
      cases hin : inAt s n k with
      | false =>
        rw [hin] at dk
        have HF := Lib.hid (cutTo_out hx hin)
        have HIN := Lib.hid hin
        have hown := hown.own.never hA
        have hc := hc.trans hA
        have hB := hB.keep hA (fun x => x)
        clear hin hx hA hx0 hx1
        go_wp2_with fail
        all_goals
          go_roundw
          case rel => exact ⟨k + 1, by omega, by go_num, by rw [HO.out]; first | (rw [ifn_true ‹(sg != 43) = true›]; go_num) | (rw [ifn_false ‹(sg != 43) = false›]; rfl), by rw [HN.out]; first | (rw [ifn_true ‹(sg != 45) = true›]; go_num) | (rw [ifn_false ‹(sg != 45) = false›]; rfl), hc, hB, by rw [wasIn_succ, HIN.out, CutOwn, if_neg (by decide), HF.out]; exact hown⟩
          case measure => simp [intOf] <;> omega
      | true =>
        rw [hin] at dk
        have HIN := Lib.hid hin
        cases hwas : wasIn s n k with
        | true =>
          obtain ⟨k', rfl⟩ : ∃ k', k = k' + 1 := by
            unfold wasIn at hwas
            by_cases h0 : 0 < k
            · exact ⟨k - 1, by omega⟩
            · simp [h0] at hwas
          have hown' := hown
          unfold CutOwn at hown'
          rw [if_pos hwas] at hown'
          obtain ⟨init, q, mv, xs, HE, hlast⟩ := hown'
          obtain ⟨g, gcap, rfl, hg1, hg2, hg3, hg4, m2, m0, m1, hfr⟩ := hlast.shape
          have hil : init.length ≤ 120 := by
            rw [HE, List.length_append] at hlen
            simp at hlen
            omega
          have hlm : q.marks.length ≤ 1000000000 := by
            have := cut_marks hn hk hwas HE
            omega
          have HF := Lib.hid (cutTo_more hx hin hwas HE)
          have hin' : inAt s n k' = true := by rw [wasIn_succ] at hwas; exact hwas
          have dk' := hB.cell (k := k') (by omega)
          rw [hin'] at dk'
          have dk' := hA.cellNever dk'
          have hxM : ¬ OwnB mv wr.heap.size := fun hh => absurd (own_block_lt hlast.marks _ hh) (by omega)
          have hlast := hlast.keep hA
          have hc := hc.trans hA
          have hB := hB.keep hA (fun x => x)
          have m2 := hA.cellNever m2
          have hfr := fun j => (hA.frozen (p := ⟨g, j, none⟩) hg1 (fun x => x)).trans (hfr j)
          have hg1 : g < (wr.alloc (.cells #[.int .u8 sg, .string tx] 148)).heap.size := Nat.lt_of_lt_of_le hg1 hA.size
          clear HE hin hin' hwas hown hx hA hlen
          have z1 : (k' : Int) + 1 - 1 = k' := by omega
          have z2 : ((k' : Int) + 1 == 0) = false := by simp; omega
          go_wp2_with fail
          generalize wr.alloc (.cells #[.int .u8 sg, .string tx] 148) = w4 at hlast m2 hx0 hx1 hc hB hfr hg1 ⊢
          have hmL : OwnLast 146 148 w4.drew (Old (w.heap.size + 1)) (.slice (some ⟨g, 0, none⟩) (init.length + 1) gcap) init q mv xs := hlast.keep (Chg.drew (Chg.refl Never _))
          have hgge : w.heap.size ≤ g := by unfold Old at hg2; omega
          have hgM : ¬ OwnB mv g := by
            obtain ⟨_, _, qq, _⟩ := hlast.marks
            exact fun hh => qq g hh (.inr rfl)
          have hO : ∀ k, (Old (w.heap.size + 1) k ∨ (Value.slice (some ⟨g, 0, none⟩) (init.length + 1) gcap).ownBlock = some k) → k < w4.drew.heap.size := by
            rintro k (h | h)
            · obtain ⟨_, hb1, _⟩ := id hB
              have := (Array.getElem?_eq_some_iff.1 hb1).1
              unfold Old at h
              show k < w4.heap.size
              omega
            · cases h
              exact hg1
          clear hlast
          have m2 : w4.drew.cell? ⟨g, init.length * 3 + 2, none⟩ = some mv := m2
          have hx0 : w4.drew.cell? ⟨wr.heap.size, 0, none⟩ = some (.int .u8 sg) := hx0
          have hx1 : w4.drew.cell? ⟨wr.heap.size, 1, none⟩ = some (.string tx) := hx1
          have hc : Chg Never w w4.drew := hc.drew
          have hB : BoolRow w.heap.size w4.drew s.length (inAt s n) := hB
          have hfr : ∀ j, w4.drew.frozen? ⟨g, j, none⟩ = false := hfr
          have hg1 : g < w4.drew.heap.size := hg1
          go_region_law ((refine step_push (by rfl) _ _ 102 (by rfl) elemOk_mark (O := fun k => Old (w.heap.size + 1) k ∨ (Value.slice (some ⟨g, 0, none⟩) (init.length + 1) gcap).ownBlock = some k) (l := q.marks) (y := ⟨sg, tx⟩) (by rfl) (by rfl) (by simp) hmL.marks (rd_mark _ _ sg tx s0 s1 hxs) hO hlm ?_; intro v' w5 hown2 hc2 hk2; obtain ⟨ad, nn, cc, rfl⟩ := own_slice hk2; have hfr5 : w5.frozen? ⟨g, init.length * 3 + 2, none⟩ = false := (hc2.frozen (p := ⟨g, init.length * 3 + 2, none⟩) hg1 hgM).trans (hfr _); have hcl5 : w5.cell? ⟨g, init.length * 3 + 2, none⟩ = some mv := hc2.cell (p := ⟨g, init.length * 3 + 2, none⟩) m2 hgM; have hb0 : w5.cell? ⟨wr.heap.size, 0, none⟩ = some (.int .u8 sg) := hc2.cell (p := ⟨wr.heap.size, 0, none⟩) hx0 hxM; have hb1 : w5.cell? ⟨wr.heap.size, 1, none⟩ = some (.string tx) := hc2.cell (p := ⟨wr.heap.size, 1, none⟩) hx1 hxM))
          all_goals go_wp2_with fail
          all_goals
            have hBne : ¬ OwnB mv w.heap.size := by
              obtain ⟨_, _, qq, _⟩ := hmL.marks
              exact fun hh => qq _ hh (.inl (Nat.lt_succ_self _))
            have hown3 : Own 148 w4.drew (Old (w.heap.size + 1)) mv q.marks := hmL.marks.keep (Chg.refl Never _) (fun _ _ h => h.elim) (fun _ _ h => .inl h)
            have hc5 := own_step' hc (Nat.le_succ _) hown3 hc2
            have hst := OwnLast.stored hmL hown2 hc2 hk2
            have hB5 := hB.keep hc2 hBne
            have hB6 := hB5.keep ((Chg.refl (fun k => k = g) w5).setCell (p := ⟨g, init.length * 3 + 2, none⟩) (.inr rfl) (.slice (some ad) nn cc)) (fun h => by unfold Old at hg2; omega)
            clear hmL hB hB5 hown2 hown3
            go_roundw
            case rel => exact ⟨(k' + 1) + 1, by omega, by go_num, by rw [HO.out]; first | (rw [ifn_true ‹(sg != 43) = true›]; go_num) | (rw [ifn_false ‹(sg != 43) = false›]; rfl), by rw [HN.out]; first | (rw [ifn_true ‹(sg != 45) = true›]; go_num) | (rw [ifn_false ‹(sg != 45) = false›]; rfl), hc5.setCell (.inl hgge) _, hB6, by rw [wasIn_succ, HIN.out, CutOwn, if_pos rfl]; exact ⟨_, _, _, _, HF.out, hst⟩⟩
            case measure => simp [intOf] <;> omega
        | false =>
          rcases Nat.eq_zero_or_pos k with h0 | h0
          · subst h0
            have hown' := hown
            unfold CutOwn at hown'
            rw [if_neg (by rw [hwas]; decide)] at hown'
            have HF := Lib.hid (cutTo_new hx hin hwas)
            generalize cutTo s n 0 = init at HF hown' hlen
            have hxM0 := own_block_lt hown'
            clear hown
            have hown := hown'.never hA
            have hc := hc.trans hA
            have hO0 : ∀ k, Old (w.heap.size + 1) k → k < (wr.alloc (.cells #[.int .u8 sg, .string tx] 148)).heap.size := by
              intro k h
              obtain ⟨_, hb1, _⟩ := id hB
              have := (Array.getElem?_eq_some_iff.1 hb1).1
              unfold Old at h
              simp
              omega
            have hxM := fun hh => (Nat.lt_irrefl _ (hxM0 wr.heap.size hh) : False)
            clear hxM0
            have hB := hB.keep hA (fun x => x)
            clear hin hwas hx hA hown'
            simp only [Nat.zero_mul, Nat.add_zero, Nat.zero_add, List.take_zero] at c0 c1 dk HO HN l1 l2
            go_wp2_with (at_builtin; refine wpList_push_last (by rfl) _ _ 97 (by rfl) 148 elemOk_hunk (O := Old (w.heap.size + 1)) (by rfl) (by rfl) (by simp) hown hO0 (by omega) ?_; intro v' w4 xs hlast hc4; obtain ⟨g, gcap, rfl, hg1, hg2, hg3, hg4, m2, m0, m1, hfr⟩ := hlast.shape)
            have hx0 := hc4.cell (p := ⟨wr.heap.size, 0, none⟩) hx0 hxM
            have hx1 := hc4.cell (p := ⟨wr.heap.size, 1, none⟩) hx1 hxM
            have hB := hB.keep hc4 (own_not hown (Nat.lt_succ_self _))
            have hc := own_step' hc (Nat.le_succ _) hown hc4
            have hxM : ¬ OwnB (Value.slice none 0 0) wr.heap.size := by simp [OwnB, Value.ownBlock]
            have hlm : ([] : List Mark).length ≤ 1000000000 := by simp
            have hmL : OwnLast 146 148 w4.drew (Old (w.heap.size + 1)) (.slice (some ⟨g, 0, none⟩) (init.length + 1) gcap) init (⟨(oldN ([] : List Mark) : Int), (newN ([] : List Mark) : Int), []⟩ : Hunk) (Value.slice none 0 0) xs := hlast.keep (Chg.drew (Chg.refl Never _))
            have hgge : w.heap.size ≤ g := by unfold Old at hg2; omega
            have hgM : ¬ OwnB (Value.slice none 0 0) g := by
              obtain ⟨_, _, qq, _⟩ := hlast.marks
              exact fun hh => qq g hh (.inr rfl)
            have hO : ∀ k, (Old (w.heap.size + 1) k ∨ (Value.slice (some ⟨g, 0, none⟩) (init.length + 1) gcap).ownBlock = some k) → k < w4.drew.heap.size := by
              rintro k (h | h)
              · obtain ⟨_, hb1, _⟩ := id hB
                have := (Array.getElem?_eq_some_iff.1 hb1).1
                unfold Old at h
                show k < w4.heap.size
                omega
              · cases h
                exact hg1
            clear hlast
            have m2 : w4.drew.cell? ⟨g, init.length * 3 + 2, none⟩ = some (Value.slice none 0 0) := m2
            have hx0 : w4.drew.cell? ⟨wr.heap.size, 0, none⟩ = some (.int .u8 sg) := hx0
            have hx1 : w4.drew.cell? ⟨wr.heap.size, 1, none⟩ = some (.string tx) := hx1
            have hc : Chg Never w w4.drew := hc.drew
            have hB : BoolRow w.heap.size w4.drew s.length (inAt s n) := hB
            have hfr : ∀ j, w4.drew.frozen? ⟨g, j, none⟩ = false := hfr
            have hg1 : g < w4.drew.heap.size := hg1
            go_region_law ((refine step_push (by rfl) _ _ 102 (by rfl) elemOk_mark (O := fun k => Old (w.heap.size + 1) k ∨ (Value.slice (some ⟨g, 0, none⟩) (init.length + 1) gcap).ownBlock = some k) (l := (⟨(oldN ([] : List Mark) : Int), (newN ([] : List Mark) : Int), []⟩ : Hunk).marks) (y := ⟨sg, tx⟩) (by rfl) (by rfl) (by simp) hmL.marks (rd_mark _ _ sg tx s0 s1 hxs) hO hlm ?_; intro v' w5 hown2 hc2 hk2; obtain ⟨ad, nn, cc, rfl⟩ := own_slice hk2; have hfr5 : w5.frozen? ⟨g, init.length * 3 + 2, none⟩ = false := (hc2.frozen (p := ⟨g, init.length * 3 + 2, none⟩) hg1 hgM).trans (hfr _); have hcl5 : w5.cell? ⟨g, init.length * 3 + 2, none⟩ = some (Value.slice none 0 0) := hc2.cell (p := ⟨g, init.length * 3 + 2, none⟩) m2 hgM; have hb0 : w5.cell? ⟨wr.heap.size, 0, none⟩ = some (.int .u8 sg) := hc2.cell (p := ⟨wr.heap.size, 0, none⟩) hx0 hxM; have hb1 : w5.cell? ⟨wr.heap.size, 1, none⟩ = some (.string tx) := hc2.cell (p := ⟨wr.heap.size, 1, none⟩) hx1 hxM))
            all_goals go_wp2_with fail
            all_goals
              have hBne : ¬ OwnB (Value.slice none 0 0) w.heap.size := by
                obtain ⟨_, _, qq, _⟩ := hmL.marks
                exact fun hh => qq _ hh (.inl (Nat.lt_succ_self _))
              have hown3 : Own 148 w4.drew (Old (w.heap.size + 1)) (Value.slice none 0 0) (⟨(oldN ([] : List Mark) : Int), (newN ([] : List Mark) : Int), []⟩ : Hunk).marks := hmL.marks.keep (Chg.refl Never _) (fun _ _ h => h.elim) (fun _ _ h => .inl h)
              have hc5 := own_step' hc (Nat.le_succ _) hown3 hc2
              have hst := OwnLast.stored hmL hown2 hc2 hk2
              have hB5 := hB.keep hc2 hBne
              have hB6 := hB5.keep ((Chg.refl (fun k => k = g) w5).setCell (p := ⟨g, init.length * 3 + 2, none⟩) (.inr rfl) (.slice (some ad) nn cc)) (fun h => by unfold Old at hg2; omega)
              clear hmL hB hB5 hown2 hown3
              go_roundw
              case rel => exact ⟨0 + 1, by omega, by go_num, by rw [HO.out]; first | (rw [ifn_true ‹(sg != 43) = true›]; go_num) | (rw [ifn_false ‹(sg != 43) = false›]; rfl), by rw [HN.out]; first | (rw [ifn_true ‹(sg != 45) = true›]; go_num) | (rw [ifn_false ‹(sg != 45) = false›]; rfl), hc5.setCell (.inl hgge) _, hB6, by rw [wasIn_succ, HIN.out, CutOwn, if_pos rfl]; exact ⟨_, _, _, _, HF.out, hst⟩⟩
              case measure => simp [intOf] <;> omega
          · obtain ⟨k', rfl⟩ : ∃ k', k = k' + 1 := ⟨k - 1, by omega⟩
            have hin' : inAt s n k' = false := by rw [wasIn_succ] at hwas; exact hwas
            have dk' := hB.cell (k := k') (by omega)
            rw [hin'] at dk'
            have dk' := hA.cellNever dk'
            have hown' := hown
            unfold CutOwn at hown'
            rw [if_neg (by rw [hwas]; decide)] at hown'
            have HF := Lib.hid (cutTo_new hx hin hwas)
            generalize cutTo s n (k' + 1) = init at HF hown' hlen
            have hxM0 := own_block_lt hown'
            clear hown
            have hown := hown'.never hA
            have hc := hc.trans hA
            have hO0 : ∀ k, Old (w.heap.size + 1) k → k < (wr.alloc (.cells #[.int .u8 sg, .string tx] 148)).heap.size := by
              intro k h
              obtain ⟨_, hb1, _⟩ := id hB
              have := (Array.getElem?_eq_some_iff.1 hb1).1
              unfold Old at h
              simp
              omega
            have hxM := fun hh => (Nat.lt_irrefl _ (hxM0 wr.heap.size hh) : False)
            clear hxM0
            have hB := hB.keep hA (fun x => x)
            clear hin hin' hwas hx hA hown'
            have z1 : (k' : Int) + 1 - 1 = k' := by omega
            have z2 : ((k' : Int) + 1 == 0) = false := by simp; omega
            go_wp2_with (at_builtin; refine wpList_push_last (by rfl) _ _ 97 (by rfl) 148 elemOk_hunk (O := Old (w.heap.size + 1)) (by rfl) (by rfl) (by simp) hown hO0 (by omega) ?_; intro v' w4 xs hlast hc4; obtain ⟨g, gcap, rfl, hg1, hg2, hg3, hg4, m2, m0, m1, hfr⟩ := hlast.shape)
            have hx0 := hc4.cell (p := ⟨wr.heap.size, 0, none⟩) hx0 hxM
            have hx1 := hc4.cell (p := ⟨wr.heap.size, 1, none⟩) hx1 hxM
            have hB := hB.keep hc4 (own_not hown (Nat.lt_succ_self _))
            have hc := own_step' hc (Nat.le_succ _) hown hc4
            have hxM : ¬ OwnB (Value.slice none 0 0) wr.heap.size := by simp [OwnB, Value.ownBlock]
            have hlm : ([] : List Mark).length ≤ 1000000000 := by simp
            have hmL : OwnLast 146 148 w4.drew (Old (w.heap.size + 1)) (.slice (some ⟨g, 0, none⟩) (init.length + 1) gcap) init (⟨(oldN (s.take (k' + 1)) : Int), (newN (s.take (k' + 1)) : Int), []⟩ : Hunk) (Value.slice none 0 0) xs := hlast.keep (Chg.drew (Chg.refl Never _))
            have hgge : w.heap.size ≤ g := by unfold Old at hg2; omega
            have hgM : ¬ OwnB (Value.slice none 0 0) g := by
              obtain ⟨_, _, qq, _⟩ := hlast.marks
              exact fun hh => qq g hh (.inr rfl)
            have hO : ∀ k, (Old (w.heap.size + 1) k ∨ (Value.slice (some ⟨g, 0, none⟩) (init.length + 1) gcap).ownBlock = some k) → k < w4.drew.heap.size := by
              rintro k (h | h)
              · obtain ⟨_, hb1, _⟩ := id hB
                have := (Array.getElem?_eq_some_iff.1 hb1).1
                unfold Old at h
                show k < w4.heap.size
                omega
              · cases h
                exact hg1
            clear hlast
            have m2 : w4.drew.cell? ⟨g, init.length * 3 + 2, none⟩ = some (Value.slice none 0 0) := m2
            have hx0 : w4.drew.cell? ⟨wr.heap.size, 0, none⟩ = some (.int .u8 sg) := hx0
            have hx1 : w4.drew.cell? ⟨wr.heap.size, 1, none⟩ = some (.string tx) := hx1
            have hc : Chg Never w w4.drew := hc.drew
            have hB : BoolRow w.heap.size w4.drew s.length (inAt s n) := hB
            have hfr : ∀ j, w4.drew.frozen? ⟨g, j, none⟩ = false := hfr
            have hg1 : g < w4.drew.heap.size := hg1
            go_region_law ((refine step_push (by rfl) _ _ 102 (by rfl) elemOk_mark (O := fun k => Old (w.heap.size + 1) k ∨ (Value.slice (some ⟨g, 0, none⟩) (init.length + 1) gcap).ownBlock = some k) (l := (⟨(oldN (s.take (k' + 1)) : Int), (newN (s.take (k' + 1)) : Int), []⟩ : Hunk).marks) (y := ⟨sg, tx⟩) (by rfl) (by rfl) (by simp) hmL.marks (rd_mark _ _ sg tx s0 s1 hxs) hO hlm ?_; intro v' w5 hown2 hc2 hk2; obtain ⟨ad, nn, cc, rfl⟩ := own_slice hk2; have hfr5 : w5.frozen? ⟨g, init.length * 3 + 2, none⟩ = false := (hc2.frozen (p := ⟨g, init.length * 3 + 2, none⟩) hg1 hgM).trans (hfr _); have hcl5 : w5.cell? ⟨g, init.length * 3 + 2, none⟩ = some (Value.slice none 0 0) := hc2.cell (p := ⟨g, init.length * 3 + 2, none⟩) m2 hgM; have hb0 : w5.cell? ⟨wr.heap.size, 0, none⟩ = some (.int .u8 sg) := hc2.cell (p := ⟨wr.heap.size, 0, none⟩) hx0 hxM; have hb1 : w5.cell? ⟨wr.heap.size, 1, none⟩ = some (.string tx) := hc2.cell (p := ⟨wr.heap.size, 1, none⟩) hx1 hxM))
            all_goals go_wp2_with fail
            all_goals
              have hBne : ¬ OwnB (Value.slice none 0 0) w.heap.size := by
                obtain ⟨_, _, qq, _⟩ := hmL.marks
                exact fun hh => qq _ hh (.inl (Nat.lt_succ_self _))
              have hown3 : Own 148 w4.drew (Old (w.heap.size + 1)) (Value.slice none 0 0) (⟨(oldN (s.take (k' + 1)) : Int), (newN (s.take (k' + 1)) : Int), []⟩ : Hunk).marks := hmL.marks.keep (Chg.refl Never _) (fun _ _ h => h.elim) (fun _ _ h => .inl h)
              have hc5 := own_step' hc (Nat.le_succ _) hown3 hc2
              have hst := OwnLast.stored hmL hown2 hc2 hk2
              have hB5 := hB.keep hc2 hBne
              have hB6 := hB5.keep ((Chg.refl (fun k => k = g) w5).setCell (p := ⟨g, init.length * 3 + 2, none⟩) (.inr rfl) (.slice (some ad) nn cc)) (fun h => by unfold Old at hg2; omega)
              clear hmL hB hB5 hown2 hown3
              go_roundw
              case rel => exact ⟨(k' + 1) + 1, by omega, by go_num, by rw [HO.out]; first | (rw [ifn_true ‹(sg != 43) = true›]; go_num) | (rw [ifn_false ‹(sg != 43) = false›]; rfl), by rw [HN.out]; first | (rw [ifn_true ‹(sg != 45) = true›]; go_num) | (rw [ifn_false ‹(sg != 45) = false›]; rfl), hc5.setCell (.inl hgge) _, hB6, by rw [wasIn_succ, HIN.out, CutOwn, if_pos rfl]; exact ⟨_, _, _, _, HF.out, hst⟩⟩
              case measure => simp [intOf] <;> omega
    · go_wp2_with fail
      go_ret
      obtain rfl : k = s.length := by omega
      exact ⟨_, rfl, hc, hown.own.rdv.sub (fun k _ hk => by unfold Old at *; omega)⟩
end Go.Proofs.YtmjpfoeaobdaeaaGreatDoor
