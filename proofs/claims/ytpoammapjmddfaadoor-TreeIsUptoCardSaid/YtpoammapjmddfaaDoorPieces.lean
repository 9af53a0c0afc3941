/-
  PIECES OF A SCRIPT, plain laws: what Cut answers is pieces in order ('Pcs'), valid hunks, has all changes; turned; of a great context one piece; with more context no more pieces.
-/
import Derived.Test.YtpoammapjmddfaaDoorHunkC
import Derived.Test.YtpoammapjmddfaaDoorSpecCut
namespace Go.Proofs.YtpoammapjmddfaaDoor

/-- p, seen from its beginning on, has the pieces l, and all else of it is kept (true: another piece may begin here) -/
inductive Pcs : Bool → List Mark → List Hunk → Prop
  | nil : Pcs true [] []
  | keep {b : Bool} {p : List Mark} {l : List Hunk} {m : Mark} : Pcs b p l → m.sign = 32 → Pcs true (p ++ [m]) l
  | hunk {p : List Mark} {l : List Hunk} (m : List Mark) : Pcs true p l → hasChange m = true → Pcs false (p ++ m) (l ++ [⟨oldN p, newN p, m⟩])

theorem inAt_iff {s : List Mark} {n : Int} {k : Nat} : inAt s n k = true ↔ ∃ (i : Nat) (x : Mark), s[i]? = some x ∧ x.sign ≠ 32 ∧ (k : Int) ≤ i + n ∧ (i : Int) ≤ k + n := by
  unfold inAt
  rw [List.any_eq_true]
  constructor
  · rintro ⟨i, hi, hp⟩
    rw [List.mem_range] at hi
    have hx : s[i]? = some s[i] := by simp [hi]
    rw [hx] at hp
    simp only [Option.any_some, isChange, Bool.and_eq_true, decide_eq_true_eq, Bool.not_eq_true', beq_eq_false_iff_ne] at hp
    exact ⟨i, _, hx, hp.1.1, hp.1.2, hp.2⟩
  · rintro ⟨i, x, hx, h1, h2, h3⟩
    refine ⟨i, List.mem_range.2 (List.getElem?_eq_some_iff.1 hx).1, ?_⟩
    rw [hx]
    simp only [Option.any_some, isChange, Bool.and_eq_true, decide_eq_true_eq, Bool.not_eq_true', beq_eq_false_iff_ne]
    exact ⟨⟨h1, h2⟩, h3⟩

def wasIn (s : List Mark) (n : Int) (k : Nat) : Bool := decide (0 < k) && inAt s n (k - 1)
theorem wasIn_succ (s : List Mark) (n : Int) (k : Nat) : wasIn s n (k + 1) = inAt s n k := by simp [wasIn]
theorem wasIn_zero (s : List Mark) (n : Int) : wasIn s n 0 = false := rfl

theorem cutTo_succ {s : List Mark} {n : Int} {k : Nat} {x : Mark} (hx : s[k]? = some x) :
    cutTo s n (k + 1) = cutStep (cutTo s n k) (wasIn s n k) (inAt s n k) (oldN (s.take k)) (newN (s.take k)) x := by
  rw [cutTo, hx]; rfl
theorem pushLast_snoc (l : List Hunk) (h : Hunk) (m : Mark) : pushLast (l ++ [h]) m = l ++ [⟨h.old, h.new, h.marks ++ [m]⟩] := by
  unfold pushLast
  rw [List.getLast?_concat]
  simp
theorem cutTo_out {s : List Mark} {n : Int} {k : Nat} {x : Mark} (hx : s[k]? = some x) (h : inAt s n k = false) : cutTo s n (k + 1) = cutTo s n k := by
  rw [cutTo_succ hx, h]; rfl
theorem cutTo_new {s : List Mark} {n : Int} {k : Nat} {x : Mark} (hx : s[k]? = some x) (h : inAt s n k = true) (h' : wasIn s n k = false) :
    cutTo s n (k + 1) = cutTo s n k ++ [⟨oldN (s.take k), newN (s.take k), [x]⟩] := by
  rw [cutTo_succ hx, h, h']
  exact pushLast_snoc _ _ _
theorem cutTo_more {s : List Mark} {n : Int} {k : Nat} {x : Mark} {l : List Hunk} {q : Hunk} (hx : s[k]? = some x) (h : inAt s n k = true) (h' : wasIn s n k = true) (e : cutTo s n k = l ++ [q]) :
    cutTo s n (k + 1) = l ++ [⟨q.old, q.new, q.marks ++ [x]⟩] := by
  rw [cutTo_succ hx, h, h', e]
  exact pushLast_snoc _ _ _

theorem take_snoc' {α : Type} {s : List α} {k : Nat} {x : α} (hx : s[k]? = some x) : s.take (k + 1) = s.take k ++ [x] := by
  rw [List.take_add_one, hx]; rfl

theorem change_in {s : List Mark} {n : Int} (hn : 0 ≤ n) {k : Nat} {x : Mark} (hx : s[k]? = some x) (h : inAt s n k = false) : x.sign = 32 := by
  by_cases hs : x.sign = 32
  · exact hs
  · have : inAt s n k = true := inAt_iff.2 ⟨k, x, hx, hs, by omega, by omega⟩
    rw [this] at h; cases h

/-- the piece that is open at k -/
structure PieceOpen (s : List Mark) (n : Int) (k : Nat) (p m : List Mark) (l : List Hunk) : Prop where
  eq : s.take k = p ++ m
  pcs : Pcs true p l
  cut : cutTo s n k = l ++ [⟨oldN p, newN p, m⟩]
  lt : p.length < k
  inn : ∀ j, p.length ≤ j → j < k → inAt s n j = true
  out : p.length = 0 ∨ inAt s n (p.length - 1) = false

theorem PieceOpen.change {s : List Mark} {n : Int} (hn : 0 ≤ n) {k : Nat} {p m : List Mark} {l : List Hunk} (h : PieceOpen s n k p m l) (hk : k ≤ s.length) (hk' : k = s.length ∨ inAt s n k = false) : hasChange m = true := by
  obtain ⟨e, _, _, hlt, hin, hout⟩ := h
  obtain ⟨i, x, hx, h1, h2, h3⟩ := inAt_iff.1 (hin (k - 1) (by omega) (by omega))
  have hil := (List.getElem?_eq_some_iff.1 hx).1
  have c1 : i < k := by
    rcases Nat.lt_or_ge i k with h | h
    · exact h
    · rcases hk' with h' | h'
      · omega
      · have : inAt s n k = true := inAt_iff.2 ⟨i, x, hx, h1, by omega, by omega⟩
        rw [this] at h'; cases h'
  have c2 : p.length ≤ i := by
    rcases Nat.lt_or_ge i p.length with h | h
    · rcases hout with h' | h'
      · omega
      · have : inAt s n (p.length - 1) = true := inAt_iff.2 ⟨i, x, hx, h1, by omega, by omega⟩
        rw [this] at h'; cases h'
    · exact h
  have hm : m[i - p.length]? = some x := by
    have : (s.take k)[i]? = some x := by rw [List.getElem?_take, if_pos c1, hx]
    rw [e, List.getElem?_append_right c2] at this
    exact this
  unfold hasChange
  rw [List.any_eq_true]
  exact ⟨x, List.mem_of_getElem? hm, by simpa using h1⟩

theorem cut_inv {s : List Mark} {n : Int} (hn : 0 ≤ n) : ∀ k, k ≤ s.length →
    (wasIn s n k = false → Pcs true (s.take k) (cutTo s n k)) ∧ (wasIn s n k = true → ∃ p m l, PieceOpen s n k p m l) := by
  intro k
  induction k with
  | zero =>
    intro _
    refine ⟨fun _ => ?_, fun h => ?_⟩
    · rw [List.take_zero]; exact Pcs.nil
    · rw [wasIn_zero] at h; cases h
  | succ k ih =>
    intro hk
    obtain ⟨i1, i2⟩ := ih (by omega)
    have hx : s[k]? = some s[k] := by simp
    have ht := take_snoc' hx
    refine ⟨fun h => ?_, fun h => ?_⟩
    · rw [wasIn_succ] at h
      have hs := change_in hn hx h
      rw [ht, cutTo_out hx h]
      by_cases hw : wasIn s n k = true
      · obtain ⟨p, m, l, ho⟩ := i2 hw
        have hc := ho.change hn (by omega) (.inr h)
        rw [ho.eq, ho.cut]
        exact (Pcs.hunk m ho.pcs hc).keep hs
      · exact (i1 (by simpa using hw)).keep hs
    · rw [wasIn_succ] at h
      by_cases hw : wasIn s n k = true
      · obtain ⟨p, m, l, ho⟩ := i2 hw
        refine ⟨p, m ++ [s[k]], l, ?_, ho.pcs, ?_, by have := ho.lt; omega, ?_, ho.out⟩
        · rw [ht, ho.eq, List.append_assoc]
        · rw [cutTo_more hx h hw ho.cut]
        · intro j h1 h2
          rcases Nat.lt_or_ge j k with h3 | h3
          · exact ho.inn j h1 h3
          · obtain rfl : j = k := by omega
            exact h
      · have hw' : wasIn s n k = false := by simpa using hw
        have hl : (s.take k).length = k := by rw [List.length_take]; omega
        refine ⟨s.take k, [s[k]], cutTo s n k, ht, i1 hw', cutTo_new hx h hw', by omega, ?_, ?_⟩
        · intro j h1 h2
          obtain rfl : j = k := by omega
          exact h
        · rw [hl]
          unfold wasIn at hw'
          rcases Nat.eq_zero_or_pos k with h0 | h0
          · exact .inl h0
          · right
            simpa [h0] using hw'

theorem cut_pcs {s : List Mark} {n : Int} (hn : 0 ≤ n) : ∃ b, Pcs b s (cutOf s n) := by
  obtain ⟨i1, i2⟩ := cut_inv (s := s) hn s.length (Nat.le_refl _)
  unfold cutOf
  by_cases hw : wasIn s n s.length = true
  · obtain ⟨p, m, l, ho⟩ := i2 hw
    have hc := ho.change hn (Nat.le_refl _) (.inl rfl)
    have e := ho.eq
    rw [List.take_length] at e
    rw [ho.cut]
    refine ⟨false, ?_⟩
    conv => arg 2; rw [e]
    exact Pcs.hunk m ho.pcs hc
  · have := i1 (by simpa using hw)
    rw [List.take_length] at this
    exact ⟨true, this⟩

/-! ### sums over pieces -/
theorem oldN_append (p m : List Mark) : oldN (p ++ m) = oldN p + oldN m := by simp [oldN, those, List.filter_append]
theorem newN_append (p m : List Mark) : newN (p ++ m) = newN p + newN m := by simp [newN, those, List.filter_append]
theorem changes_append (p m : List Mark) : changes (p ++ m) = changes p + changes m := by simp [changes, List.filter_append]
theorem oldN_keep {m : Mark} (h : m.sign = 32) : oldN [m] = 1 := by simp [oldN, those, h]
theorem newN_keep {m : Mark} (h : m.sign = 32) : newN [m] = 1 := by simp [newN, those, h]
theorem changes_keep {m : Mark} (h : m.sign = 32) : changes [m] = 0 := by simp [changes, h]

def manyChanges (l : List Hunk) : Nat := (l.map fun h => changes h.marks).sum
theorem Pcs.many {b : Bool} {p : List Mark} {l : List Hunk} (h : Pcs b p l) : manyChanges l = changes p := by
  induction h with
  | nil => rfl
  | keep h hs ih => rw [changes_append, changes_keep hs, ih]; rfl
  | hunk m h hc ih => rw [changes_append, ← ih]; simp [manyChanges]
theorem sizes_changes {m : List Mark} (h : hasChange m = true) : 1 ≤ oldN m + newN m := by
  unfold hasChange at h
  rw [List.any_eq_true] at h
  obtain ⟨x, hx, _⟩ := h
  by_cases h43 : x.sign = 43
  · have : x.text ∈ those m 45 := by
      unfold those
      exact List.mem_map.2 ⟨x, List.mem_filter.2 ⟨hx, by simp [h43]⟩, rfl⟩
    have := List.length_pos_of_mem this
    unfold oldN newN; omega
  · have : x.text ∈ those m 43 := by
      unfold those
      exact List.mem_map.2 ⟨x, List.mem_filter.2 ⟨hx, by simp [h43]⟩, rfl⟩
    have := List.length_pos_of_mem this
    unfold oldN newN; omega
theorem Pcs.few {b : Bool} {p : List Mark} {l : List Hunk} (h : Pcs b p l) : 3 * l.length ≤ oldN p + newN p + (if b then 0 else 2) := by
  induction h with
  | nil => simp
  | keep h hs ih =>
    rw [oldN_append, newN_append, oldN_keep hs, newN_keep hs]
    simp only [if_true]
    split at ih <;> omega
  | hunk m h hc ih =>
    have := sizes_changes hc
    rw [oldN_append, newN_append, List.length_append]
    simp only [if_true, List.length_cons, List.length_nil] at ih ⊢
    simp
    omega

/-! ### hunks, one by one -/
def hOk : Int → Int → List Hunk → Prop
  | _, _, [] => True
  | fin, more, h :: r => oneFault h fin more = 0 ∧ hOk (h.old + oldN h.marks) (more + newN h.marks - oldN h.marks) r
def hFin : Int → Int → List Hunk → Int × Int
  | fin, more, [] => (fin, more)
  | _, more, h :: r => hFin (h.old + oldN h.marks) (more + newN h.marks - oldN h.marks) r
theorem hunksGo_ok : ∀ (l : List Hunk) (i : Nat) (fin more : Int), hOk fin more l → hunksGo i fin more l = (0, 0)
  | [], _, _, _, _ => rfl
  | h :: r, i, fin, more, hk => by
    rw [hunksGo, if_pos hk.1]
    exact hunksGo_ok r _ _ _ hk.2
theorem hunksGo_zero : ∀ (l : List Hunk) (i : Nat) (fin more : Int), (hunksGo i fin more l).2 = 0 → hOk fin more l
  | [], _, _, _, _ => trivial
  | h :: r, i, fin, more, hk => by
    rw [hunksGo] at hk
    by_cases h0 : oneFault h fin more = 0
    · rw [if_pos h0] at hk
      exact ⟨h0, hunksGo_zero r _ _ _ hk⟩
    · rw [if_neg h0] at hk
      exact absurd hk h0
theorem hunksFault_ok {l : List Hunk} (h : l.length ≤ 60) (hk : hOk 0 0 l) : hunksFault l = (0, 0) := by
  unfold hunksFault
  rw [if_neg (by omega), hunksGo_ok l _ _ _ hk]
theorem hunksFault_zero {l : List Hunk} (h : (hunksFault l).2 = 0) : l.length ≤ 60 ∧ hOk 0 0 l := by
  unfold hunksFault at h
  by_cases h1 : 60 < l.length
  · rw [if_pos h1] at h; simp at h
  · rw [if_neg h1] at h
    exact ⟨by omega, hunksGo_zero _ _ _ _ h⟩
theorem hunksFault_first {l : List Hunk} (h : (hunksFault l).2 = 0) : hunksFault l = (0, 0) := by
  obtain ⟨h1, h2⟩ := hunksFault_zero h
  exact hunksFault_ok h1 h2
theorem hOk_snoc : ∀ (l : List Hunk) (h : Hunk) (fin more : Int), hOk fin more l → oneFault h (hFin fin more l).1 (hFin fin more l).2 = 0 → hOk fin more (l ++ [h])
  | [], h, _, _, _, h2 => ⟨h2, trivial⟩
  | x :: r, h, fin, more, h1, h2 => ⟨h1.1, hOk_snoc r h _ _ h1.2 h2⟩
theorem hFin_snoc : ∀ (l : List Hunk) (h : Hunk) (fin more : Int), hFin fin more (l ++ [h]) = (h.old + oldN h.marks, (hFin fin more l).2 + newN h.marks - oldN h.marks)
  | [], h, fin, more => rfl
  | x :: r, h, fin, more => hFin_snoc r h _ _

theorem scriptFault_sub {s m : List Mark} (h : scriptFault s = 0) (hm : ∀ x ∈ m, x ∈ s) (hl : m.length ≤ s.length) : scriptFault m = 0 := by
  rw [scriptFault_zero] at h ⊢
  exact ⟨by omega, fun x hx => h.2 x (hm x hx)⟩
theorem oneFault_of {h : Hunk} {fin more : Int} (h1 : scriptFault h.marks = 0) (h2 : hasChange h.marks = true) (h3 : 0 ≤ h.old) (h4 : 0 ≤ h.new) (h5 : h.old + oldN h.marks ≤ 60) (h6 : h.new + newN h.marks ≤ 60) (h7 : fin ≤ h.old) (h8 : h.new = h.old + more) : oneFault h fin more = 0 := by
  unfold oneFault
  rw [if_neg (by simp [h1]), if_neg (by simp [h2]), if_neg (by omega), if_neg (by omega)]

theorem Pcs.ok {b : Bool} {p : List Mark} {l : List Hunk} (h : Pcs b p l) : scriptFault p = 0 → oldN p ≤ 60 → newN p ≤ 60 → hOk 0 0 l ∧ (hFin 0 0 l).1 ≤ oldN p ∧ (hFin 0 0 l).2 = (newN p : Int) - oldN p := by
  induction h with
  | nil => intro _ _ _; exact ⟨trivial, by simp [hFin], by simp [hFin, oldN, newN, those]⟩
  | @keep b p l m h hs ih =>
    intro s0 s1 s2
    rw [oldN_append, oldN_keep hs] at s1 ⊢
    rw [newN_append, newN_keep hs] at s2 ⊢
    obtain ⟨i1, i2, i3⟩ := ih (scriptFault_sub s0 (fun x hx => List.mem_append_left _ hx) (by simp)) (by omega) (by omega)
    exact ⟨i1, by omega, by omega⟩
  | @hunk p l m h hc ih =>
    intro s0 s1 s2
    rw [oldN_append] at s1 ⊢
    rw [newN_append] at s2 ⊢
    obtain ⟨i1, i2, i3⟩ := ih (scriptFault_sub s0 (fun x hx => List.mem_append_left _ hx) (by simp)) (by omega) (by omega)
    have hm := scriptFault_sub (m := m) s0 (fun x hx => List.mem_append_right _ hx) (by simp)
    rw [hFin_snoc]
    refine ⟨hOk_snoc _ _ _ _ i1 (oneFault_of hm hc ?_ ?_ ?_ ?_ ?_ ?_), ?_, ?_⟩
    all_goals simp only []
    all_goals omega

theorem cutFault_zero {s : List Mark} {n : Int} (h : cutFault s n = 0) : scriptFault s = 0 ∧ 0 ≤ n ∧ n ≤ 1000 ∧ oldN s ≤ 60 ∧ newN s ≤ 60 := by
  unfold cutFault at h
  by_cases h1 : scriptFault s ≠ 0
  · rw [if_pos h1] at h; exact absurd h h1
  · rw [if_neg h1] at h
    by_cases h2 : n < 0 ∨ 1000 < n
    · rw [if_pos h2] at h; simp at h
    · rw [if_neg h2] at h
      by_cases h3 : 60 < oldN s ∨ 60 < newN s
      · rw [if_pos h3] at h; simp at h
      · exact ⟨by simpa using h1, by omega, by omega, by omega, by omega⟩
theorem cutFault_of {s : List Mark} {n m : Int} (h : cutFault s n = 0) (h0 : 0 ≤ m) (h1 : m ≤ 1000) : cutFault s m = 0 := by
  obtain ⟨a, _, _, b, c⟩ := cutFault_zero h
  unfold cutFault
  rw [if_neg (by simp [a]), if_neg (by omega), if_neg (by omega)]
theorem cut_ok {s : List Mark} {n : Int} (h : cutFault s n = 0) : hunksFault (cutOf s n) = (0, 0) := by
  obtain ⟨h1, h2, h3, h4, h5⟩ := cutFault_zero h
  obtain ⟨b, hp⟩ := cut_pcs (s := s) h2
  obtain ⟨k1, _, _⟩ := hp.ok h1 h4 h5
  refine hunksFault_ok ?_ k1
  have := hp.few
  split at this <;> omega
theorem cut_many {s : List Mark} {n : Int} (h : 0 ≤ n) : manyChanges (cutOf s n) = changes s := by
  obtain ⟨b, hp⟩ := cut_pcs (s := s) h
  exact hp.many

/-! ### turned -/
theorem turnMark_turnMark (m : Mark) : turnMark (turnMark m) = m := by
  obtain ⟨sg, tx⟩ := m
  simp only [turnMark, Mark.mk.injEq, and_true]
  by_cases h1 : sg = 45
  · simp [h1]
  · by_cases h2 : sg = 43
    · simp [h2]
    · simp [h1, h2]
theorem turnHunk_turnHunk (h : Hunk) : turnHunk (turnHunk h) = h := by
  obtain ⟨o, n, l⟩ := h
  simp only [turnHunk, List.map_map, Hunk.mk.injEq, true_and]
  rw [show turnMark ∘ turnMark = id from funext turnMark_turnMark]
  simp
def turnHunks (l : List Hunk) : List Hunk := l.map turnHunk
theorem turn_turn (l : List Hunk) : turnHunks (turnHunks l) = l := by
  unfold turnHunks
  rw [List.map_map, show turnHunk ∘ turnHunk = id from funext turnHunk_turnHunk]
  simp
theorem turnMark_43 (m : Mark) : (turnMark m).sign = 43 ↔ m.sign = 45 := by
  unfold turnMark
  by_cases h1 : m.sign = 45
  · simp [h1]
  · by_cases h2 : m.sign = 43
    · simp [h2]
    · simp [h1, h2]
theorem turnMark_45 (m : Mark) : (turnMark m).sign = 45 ↔ m.sign = 43 := by
  unfold turnMark
  by_cases h1 : m.sign = 45
  · simp [h1]
  · by_cases h2 : m.sign = 43
    · simp [h2]
    · simp [h1, h2]
theorem turnMark_32 (m : Mark) : (turnMark m).sign = 32 ↔ m.sign = 32 := by
  unfold turnMark
  by_cases h1 : m.sign = 45
  · simp [h1]
  · by_cases h2 : m.sign = 43
    · simp [h2]
    · simp [h1, h2]
theorem those_turn (l : List Mark) : those (l.map turnMark) 43 = those l 45 ∧ those (l.map turnMark) 45 = those l 43 := by
  unfold those
  constructor
  · rw [List.filter_map, List.map_map]
    have e1 : ((fun m : Mark => decide (m.sign ≠ 43)) ∘ turnMark) = fun m => decide (m.sign ≠ 45) := by
      funext m; simp [turnMark_43]
    rw [e1]; rfl
  · rw [List.filter_map, List.map_map]
    have e1 : ((fun m : Mark => decide (m.sign ≠ 45)) ∘ turnMark) = fun m => decide (m.sign ≠ 43) := by
      funext m; simp [turnMark_45]
    rw [e1]; rfl
theorem oldN_turn (l : List Mark) : oldN (l.map turnMark) = newN l := by unfold oldN newN; rw [(those_turn l).1]
theorem newN_turn (l : List Mark) : newN (l.map turnMark) = oldN l := by unfold oldN newN; rw [(those_turn l).2]
theorem markFault_turn (m : Mark) : markFault (turnMark m) = markFault m := by
  unfold markFault
  have e : ((turnMark m).sign ≠ 32 ∧ (turnMark m).sign ≠ 45 ∧ (turnMark m).sign ≠ 43) = (m.sign ≠ 32 ∧ m.sign ≠ 45 ∧ m.sign ≠ 43) := by
    simp only [ne_eq, turnMark_32, turnMark_43, turnMark_45, eq_iff_iff]
    constructor <;> (rintro ⟨a, b, c⟩; exact ⟨a, c, b⟩)
  simp only [e]
  rfl
theorem scriptFault_turn {l : List Mark} (h : scriptFault l = 0) : scriptFault (l.map turnMark) = 0 := by
  rw [scriptFault_zero] at h ⊢
  refine ⟨by simpa using h.1, ?_⟩
  intro x hx
  obtain ⟨y, hy, rfl⟩ := List.mem_map.1 hx
  rw [markFault_turn]
  exact h.2 y hy
theorem hasChange_turn (l : List Mark) : hasChange (l.map turnMark) = hasChange l := by
  unfold hasChange
  rw [List.any_map]
  congr 1
  funext m
  simp [turnMark_32]
theorem oneFault_turn {h : Hunk} {fin more : Int} (e : oneFault h fin more = 0) : oneFault (turnHunk h) (fin + more) (-more) = 0 := by
  obtain ⟨e1, e2, e3, e4, e5, e6, e7, e8⟩ := oneFault_zero e
  refine oneFault_of (scriptFault_turn e1) ?_ ?_ ?_ ?_ ?_ ?_ ?_
  · simp only [turnHunk]; rw [hasChange_turn]; exact e2
  all_goals simp only [turnHunk, oldN_turn, newN_turn]
  all_goals omega
theorem hOk_turn : ∀ (l : List Hunk) (fin more : Int), hOk fin more l → hOk (fin + more) (-more) (turnHunks l)
  | [], _, _, _ => trivial
  | h :: r, fin, more, hk => by
    refine ⟨oneFault_turn hk.1, ?_⟩
    obtain ⟨_, _, _, _, _, _, _, e8⟩ := oneFault_zero hk.1
    have := hOk_turn r _ _ hk.2
    have e1 : (turnHunk h).old + oldN (turnHunk h).marks = (h.old + oldN h.marks) + (more + newN h.marks - oldN h.marks) := by
      simp only [turnHunk, oldN_turn]; omega
    have e2 : -more + (newN (turnHunk h).marks : Int) - oldN (turnHunk h).marks = -(more + newN h.marks - oldN h.marks) := by
      simp only [turnHunk, oldN_turn, newN_turn]; omega
    rw [e1, e2]
    exact this
theorem turn_ok {l : List Hunk} (h : hunksFault l = (0, 0)) : hunksFault (turnHunks l) = (0, 0) := by
  obtain ⟨h1, h2⟩ := hunksFault_zero (by rw [h])
  refine hunksFault_ok (by simpa [turnHunks] using h1) ?_
  simpa using hOk_turn l 0 0 h2

/-! ### of a great context one piece -/
theorem cut_none {s : List Mark} {n : Int} (h : ∀ k, inAt s n k = false) : ∀ k, k ≤ s.length → cutTo s n k = [] := by
  intro k
  induction k with
  | zero => intro _; rfl
  | succ k ih =>
    intro hk
    have hx : s[k]? = some s[k] := by simp
    rw [cutTo_out hx (h k), ih (by omega)]
theorem cut_whole {s : List Mark} {n : Int} (h : ∀ k, k < s.length → inAt s n k = true) : ∀ k, k < s.length → cutTo s n (k + 1) = [⟨0, 0, s.take (k + 1)⟩] := by
  intro k
  induction k with
  | zero =>
    intro hk
    have hx : s[0]? = some s[0] := by simp
    rw [cutTo_new hx (h 0 hk) rfl, take_snoc' hx]
    rfl
  | succ k ih =>
    intro hk
    have hx : s[k + 1]? = some s[k + 1] := by simp
    rw [cutTo_more (l := []) hx (h _ hk) (by rw [wasIn_succ]; exact h k (by omega)) (ih (by omega)), take_snoc' hx]
    rfl
theorem changes_zero {s : List Mark} (h : changes s = 0) : ∀ x ∈ s, x.sign = 32 := by
  intro x hx
  unfold changes at h
  have := List.filter_eq_nil_iff.1 (List.eq_nil_of_length_eq_zero h) x hx
  simpa using this
theorem cut_200 {s : List Mark} (h : s.length ≤ 120) : cutOf s 200 = if changes s = 0 then [] else [⟨0, 0, s⟩] := by
  by_cases h0 : changes s = 0
  · rw [if_pos h0]
    have hz := changes_zero h0
    refine cut_none (fun k => ?_) _ (Nat.le_refl _)
    by_cases hk : inAt s 200 k = true
    · obtain ⟨i, x, hx, h1, _⟩ := inAt_iff.1 hk
      exact absurd (hz x (List.mem_of_getElem? hx)) h1
    · simpa using hk
  · rw [if_neg h0]
    obtain ⟨x, hx, hs⟩ : ∃ x ∈ s, x.sign ≠ 32 := by
      have : (s.filter fun m => decide (m.sign ≠ 32)) ≠ [] := fun e => h0 (by unfold changes; rw [e]; rfl)
      obtain ⟨x, hx⟩ := List.exists_mem_of_ne_nil _ this
      rw [List.mem_filter] at hx
      exact ⟨x, hx.1, by simpa using hx.2⟩
    obtain ⟨i, hi⟩ := List.getElem?_of_mem hx
    have hil := (List.getElem?_eq_some_iff.1 hi).1
    have hall : ∀ k, k < s.length → inAt s 200 k = true := fun k hk => inAt_iff.2 ⟨i, x, hi, hs, by omega, by omega⟩
    have := cut_whole hall (s.length - 1) (by omega)
    unfold cutOf
    rw [show s.length - 1 + 1 = s.length by omega, List.take_length] at this
    exact this

/-! ### with more context no more pieces -/
theorem inAt_mono {s : List Mark} {n m : Int} (h : n ≤ m) {k : Nat} (hk : inAt s n k = true) : inAt s m k = true := by
  obtain ⟨i, x, hx, h1, h2, h3⟩ := inAt_iff.1 hk
  exact inAt_iff.2 ⟨i, x, hx, h1, by omega, by omega⟩
theorem cutLen_out {s : List Mark} {n : Int} {k : Nat} (hk : k < s.length) (h : inAt s n k = false) : (cutTo s n (k + 1)).length = (cutTo s n k).length := by
  have hx : s[k]? = some s[k] := by simp [hk]
  rw [cutTo_out hx h]
theorem cutLen_new {s : List Mark} {n : Int} {k : Nat} (hk : k < s.length) (h : inAt s n k = true) (h' : wasIn s n k = false) : (cutTo s n (k + 1)).length = (cutTo s n k).length + 1 := by
  have hx : s[k]? = some s[k] := by simp [hk]
  rw [cutTo_new hx h h']; simp
theorem cutLen_more {s : List Mark} {n : Int} (hn : 0 ≤ n) {k : Nat} (hk : k < s.length) (h : inAt s n k = true) (h' : wasIn s n k = true) : (cutTo s n (k + 1)).length = (cutTo s n k).length := by
  have hx : s[k]? = some s[k] := by simp [hk]
  obtain ⟨p, m, l, ho⟩ := (cut_inv hn k (by omega)).2 h'
  rw [cutTo_more hx h h' ho.cut, ho.cut]; simp
theorem cut_fewer {s : List Mark} {n m : Int} (hn : 0 ≤ n) (h : n ≤ m) : ∀ k, k ≤ s.length →
    (cutTo s m k).length ≤ (cutTo s n k).length ∨
    ((cutTo s m k).length ≤ (cutTo s n k).length + 1 ∧ ∃ st, st < k ∧ (∀ j, st ≤ j → j < k → inAt s m j = true ∧ inAt s n j = false) ∧ (st = 0 ∨ inAt s m (st - 1) = false)) := by
  intro k
  induction k with
  | zero => intro _; exact .inl (Nat.le_refl _)
  | succ k ih =>
    intro hk
    have hlt : k < s.length := by omega
    have hm0 : 0 ≤ m := by omega
    have ihk := ih (by omega)
    by_cases hm : inAt s m k = true
    · by_cases hn' : inAt s n k = true
      · -- both
        by_cases wm : wasIn s m k = true
        · have e1 := cutLen_more hm0 hlt hm wm
          by_cases wn : wasIn s n k = true
          · have e2 := cutLen_more hn hlt hn' wn
            rcases ihk with h1 | ⟨h1, st, h2, h3, h4⟩
            · left; omega
            · exfalso
              have := (h3 (k - 1) (by omega) (by omega)).2
              unfold wasIn at wn
              rw [this] at wn
              simp at wn
          · have e2 := cutLen_new hlt hn' (by simpa using wn)
            rcases ihk with h1 | ⟨h1, _⟩
            · left; omega
            · left; omega
        · have wm' : wasIn s m k = false := by simpa using wm
          have e1 := cutLen_new hlt hm wm'
          have wn' : wasIn s n k = false := by
            unfold wasIn at wm' ⊢
            by_cases h0 : 0 < k
            · simp only [h0, decide_true, Bool.true_and] at wm' ⊢
              by_cases hh : inAt s n (k - 1) = true
              · rw [inAt_mono h hh] at wm'; cases wm'
              · simpa using hh
            · simp [h0]
          have e2 := cutLen_new hlt hn' wn'
          rcases ihk with h1 | ⟨h1, st, h2, h3, h4⟩
          · left; omega
          · exfalso
            have := (h3 (k - 1) (by omega) (by omega)).1
            unfold wasIn at wm'
            rw [this] at wm'
            simp at wm'
            omega
      · have hn'' : inAt s n k = false := by simpa using hn'
        have e2 := cutLen_out hlt hn''
        by_cases wm : wasIn s m k = true
        · have e1 := cutLen_more hm0 hlt hm wm
          rcases ihk with h1 | ⟨h1, st, h2, h3, h4⟩
          · left; omega
          · right
            refine ⟨by omega, st, by omega, ?_, h4⟩
            intro j a b
            rcases Nat.lt_or_ge j k with c | c
            · exact h3 j a c
            · obtain rfl : j = k := by omega
              exact ⟨hm, hn''⟩
        · have wm' : wasIn s m k = false := by simpa using wm
          have e1 := cutLen_new hlt hm wm'
          rcases ihk with h1 | ⟨h1, st, h2, h3, h4⟩
          · right
            refine ⟨by omega, k, by omega, ?_, ?_⟩
            · intro j a b
              obtain rfl : j = k := by omega
              exact ⟨hm, hn''⟩
            · unfold wasIn at wm'
              rcases Nat.eq_zero_or_pos k with h0 | h0
              · exact .inl h0
              · right; simpa [h0] using wm'
          · exfalso
            have := (h3 (k - 1) (by omega) (by omega)).1
            unfold wasIn at wm'
            rw [this] at wm'
            simp at wm'
            omega
    · have hm' : inAt s m k = false := by simpa using hm
      have hn' : inAt s n k = false := by
        by_cases hh : inAt s n k = true
        · rw [inAt_mono h hh] at hm'; cases hm'
        · simpa using hh
      have e1 := cutLen_out hlt hm'
      have e2 := cutLen_out hlt hn'
      rcases ihk with h1 | ⟨h1, st, h2, h3, h4⟩
      · left; omega
      · exfalso
        obtain ⟨i, x, hx, c1, c2, c3⟩ := inAt_iff.1 (h3 (k - 1) (by omega) (by omega)).1
        rcases Nat.lt_or_ge i k with d1 | d1
        · rcases Nat.lt_or_ge i st with d2 | d2
          · rcases h4 with h4 | h4
            · omega
            · have : inAt s m (st - 1) = true := inAt_iff.2 ⟨i, x, hx, c1, by omega, by omega⟩
              rw [this] at h4; cases h4
          · have := (h3 i d2 d1).2
            have h5 : inAt s n i = true := inAt_iff.2 ⟨i, x, hx, c1, by omega, by omega⟩
            rw [this] at h5; cases h5
        · have : inAt s m k = true := inAt_iff.2 ⟨i, x, hx, c1, by omega, by omega⟩
          rw [this] at hm'; cases hm'
theorem cut_mono {s : List Mark} {n m : Int} (hn : 0 ≤ n) (h : n ≤ m) : (cutOf s m).length ≤ (cutOf s n).length := by
  unfold cutOf
  rcases cut_fewer (s := s) hn h s.length (Nat.le_refl _) with h1 | ⟨h1, st, h2, h3, h4⟩
  · exact h1
  · exfalso
    obtain ⟨i, x, hx, c1, c2, c3⟩ := inAt_iff.1 (h3 (s.length - 1) (by omega) (by omega)).1
    have hi := (List.getElem?_eq_some_iff.1 hx).1
    rcases Nat.lt_or_ge i st with d2 | d2
    · rcases h4 with h4 | h4
      · omega
      · have : inAt s m (st - 1) = true := inAt_iff.2 ⟨i, x, hx, c1, by omega, by omega⟩
        rw [this] at h4; cases h4
    · have := (h3 i d2 hi).2
      have h5 : inAt s n i = true := inAt_iff.2 ⟨i, x, hx, c1, by omega, by omega⟩
      rw [this] at h5; cases h5
end Go.Proofs.YtpoammapjmddfaaDoor
