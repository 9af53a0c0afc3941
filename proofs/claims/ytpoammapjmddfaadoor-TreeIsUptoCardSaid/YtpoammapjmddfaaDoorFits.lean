/-
  HUNKS DONE STRICTLY, plain laws: what Strict answers; hunks that lead from a file to another one; turned they lead back.
-/
import Derived.Test.YtpoammapjmddfaaDoorPieces
namespace Go.Proofs.YtpoammapjmddfaaDoor

/-- do lines stand at a place? -/
def standsB (a : List ByteArray) (at_ : Int) (l : List ByteArray) : Bool :=
  decide (0 ≤ at_) && decide (at_ + l.length ≤ a.length) && decide ((a.drop at_.toNat).take l.length = l)
/-- hunk by hunk: the number, from where on the file is not yet copied, what has come so far -/
def strictGo (a : List ByteArray) : Nat → Nat → List ByteArray → List Hunk → List ByteArray × Nat × Int
  | _, fr, out, [] => if 60 < (out ++ a.drop fr).length then ([], 0, 3) else (out ++ a.drop fr, 0, 0)
  | i, fr, out, h :: r =>
    if standsB a h.old (oldOf h.marks) then strictGo a (i + 1) (h.old.toNat + oldN h.marks) (out ++ (a.drop fr).take (h.old.toNat - fr) ++ newOf h.marks) r
    else ([], i, 6)
def strict (a : List ByteArray) (l : List Hunk) : List ByteArray × Nat × Int :=
  if linesFault a ≠ 0 then ([], 0, linesFault a) else if (hunksFault l).2 ≠ 0 then ([], (hunksFault l).1, (hunksFault l).2) else strictGo a 0 0 [] l

/-- p has the hunks l, each at its place, and all else of it is kept -/
inductive Fits : List Mark → List Hunk → Prop
  | nil : Fits [] []
  | keep {p : List Mark} {l : List Hunk} {m : Mark} : Fits p l → m.sign = 32 → Fits (p ++ [m]) l
  | hunk {p : List Mark} {l : List Hunk} (m : List Mark) : Fits p l → hasChange m = true → Fits (p ++ m) (l ++ [⟨oldN p, newN p, m⟩])
theorem Pcs.fits {b : Bool} {p : List Mark} {l : List Hunk} (h : Pcs b p l) : Fits p l := by
  induction h with
  | nil => exact .nil
  | keep _ hs ih => exact ih.keep hs
  | hunk m _ hc ih => exact ih.hunk m hc

theorem those_append (p m : List Mark) (no : Int) : those (p ++ m) no = those p no ++ those m no := by simp [those, List.filter_append]
theorem those_keep {m : Mark} (h : m.sign = 32) : those [m] 43 = [m.text] ∧ those [m] 45 = [m.text] := by simp [those, h]
theorem oldN_eq (p : List Mark) : oldN p = (those p 43).length := rfl
theorem newN_eq (p : List Mark) : newN p = (those p 45).length := rfl

/-- the state behind some hunks -/
def doAll (a : List ByteArray) : Nat → List ByteArray → List Hunk → Option (Nat × List ByteArray)
  | fr, out, [] => some (fr, out)
  | fr, out, h :: r => if standsB a h.old (oldOf h.marks) then doAll a (h.old.toNat + oldN h.marks) (out ++ (a.drop fr).take (h.old.toNat - fr) ++ newOf h.marks) r else none
theorem doAll_snoc (a : List ByteArray) : ∀ (l : List Hunk) (h : Hunk) (fr fr' : Nat) (out out' : List ByteArray), doAll a fr out l = some (fr', out') → standsB a h.old (oldOf h.marks) = true →
    doAll a fr out (l ++ [h]) = some (h.old.toNat + oldN h.marks, out' ++ (a.drop fr').take (h.old.toNat - fr') ++ newOf h.marks)
  | [], h, fr, fr', out, out', e, hs => by
    simp only [doAll, Option.some.injEq, Prod.mk.injEq] at e
    obtain ⟨rfl, rfl⟩ := e
    simp [doAll, hs]
  | x :: r, h, fr, fr', out, out', e, hs => by
    simp only [doAll, List.cons_append] at e ⊢
    by_cases hx : standsB a x.old (oldOf x.marks) = true
    · rw [if_pos hx] at e ⊢
      exact doAll_snoc a r h _ _ _ _ e hs
    · rw [if_neg hx] at e; cases e
theorem strictGo_of (a : List ByteArray) : ∀ (l : List Hunk) (i fr fr' : Nat) (out out' : List ByteArray), doAll a fr out l = some (fr', out') → (out' ++ a.drop fr').length ≤ 60 → strictGo a i fr out l = (out' ++ a.drop fr', 0, 0)
  | [], i, fr, fr', out, out', e, h60 => by
    simp only [doAll, Option.some.injEq, Prod.mk.injEq] at e
    obtain ⟨rfl, rfl⟩ := e
    rw [strictGo, if_neg (by omega)]
  | x :: r, i, fr, fr', out, out', e, h60 => by
    rw [doAll] at e
    by_cases hx : standsB a x.old (oldOf x.marks) = true
    · rw [if_pos hx] at e
      rw [strictGo, if_pos hx]
      exact strictGo_of a r _ _ _ _ _ e h60
    · rw [if_neg hx] at e; cases e
theorem strictGo_inv (a : List ByteArray) : ∀ (l : List Hunk) (i fr : Nat) (out y : List ByteArray) (k : Nat), strictGo a i fr out l = (y, k, 0) → ∃ fr' out', doAll a fr out l = some (fr', out') ∧ y = out' ++ a.drop fr' ∧ y.length ≤ 60 ∧ k = 0
  | [], i, fr, out, y, k, e => by
    rw [strictGo] at e
    by_cases h : 60 < (out ++ a.drop fr).length
    · rw [if_pos h] at e; simp at e
    · rw [if_neg h] at e
      simp only [Prod.mk.injEq, and_true] at e
      obtain ⟨rfl, rfl⟩ := e
      exact ⟨fr, out, rfl, rfl, by omega, rfl⟩
  | x :: r, i, fr, out, y, k, e => by
    rw [strictGo] at e
    by_cases hx : standsB a x.old (oldOf x.marks) = true
    · rw [if_pos hx] at e
      obtain ⟨fr', out', h1, h2, h3, h4⟩ := strictGo_inv a r _ _ _ _ _ e
      exact ⟨fr', out', by rw [doAll, if_pos hx]; exact h1, h2, h3, h4⟩
    · rw [if_neg hx] at e; simp at e

theorem stands_mid (x y z : List ByteArray) : standsB (x ++ y ++ z) (x.length : Int) y = true := by
  unfold standsB
  simp only [Bool.and_eq_true, decide_eq_true_eq, Int.toNat_natCast]
  refine ⟨⟨by omega, by simp; omega⟩, ?_⟩
  rw [List.append_assoc, List.drop_left, List.take_left]

theorem Fits.doAll {p : List Mark} {l : List Hunk} (h : Fits p l) : ∀ t : List ByteArray, ∃ fr out, doAll (those p 43 ++ t) 0 [] l = some (fr, out) ∧ fr ≤ oldN p ∧ out ++ (those p 43).drop fr = those p 45 := by
  induction h with
  | nil => intro t; exact ⟨0, [], rfl, Nat.zero_le _, rfl⟩
  | @keep p l m h hs ih =>
    intro t
    obtain ⟨fr, out, h1, h2, h3⟩ := ih ([m.text] ++ t)
    refine ⟨fr, out, ?_, ?_, ?_⟩
    · rw [those_append, (those_keep hs).1, List.append_assoc]; exact h1
    · rw [oldN_append]; omega
    · rw [those_append, those_append, (those_keep hs).1, (those_keep hs).2, List.drop_append_of_le_length (by rw [← oldN_eq]; exact h2), ← List.append_assoc, h3]
  | @hunk p l m h hc ih =>
    intro t
    obtain ⟨fr, out, h1, h2, h3⟩ := ih (those m 43 ++ t)
    refine ⟨oldN p + oldN m, those p 45 ++ those m 45, ?_, ?_, ?_⟩
    · rw [those_append, List.append_assoc]
      have hs : standsB (those p 43 ++ (those m 43 ++ t)) ((oldN p : Nat) : Int) (oldOf m) = true := by
        rw [← List.append_assoc]
        exact stands_mid (those p 43) (those m 43) t
      rw [doAll_snoc _ l ⟨oldN p, newN p, m⟩ _ _ _ _ h1 hs]
      have e1 : ((those p 43 ++ (those m 43 ++ t)).drop fr).take (oldN p - fr) = (those p 43).drop fr := by
        rw [List.drop_append_of_le_length (by rw [← oldN_eq]; exact h2), List.take_left' (by rw [List.length_drop, ← oldN_eq])]
      simp only [Int.toNat_natCast]
      rw [e1, h3]
      rfl
    · rw [oldN_append]; omega
    · rw [those_append, those_append, List.drop_of_length_le (by rw [List.length_append, ← oldN_eq, ← oldN_eq]; omega), List.append_nil]

theorem Fits.ok {p : List Mark} {l : List Hunk} (h : Fits p l) : (∀ x ∈ p, markFault x = 0) → (∀ q ∈ l, q.marks.length ≤ 120) → oldN p ≤ 60 → newN p ≤ 60 → hOk 0 0 l ∧ (hFin 0 0 l).1 ≤ oldN p ∧ (hFin 0 0 l).2 = (newN p : Int) - oldN p := by
  induction h with
  | nil => intro _ _ _ _; exact ⟨trivial, by simp [hFin], by simp [hFin, oldN, newN, those]⟩
  | @keep p l m h hs ih =>
    intro s0 s3 s1 s2
    rw [oldN_append, oldN_keep hs] at s1 ⊢
    rw [newN_append, newN_keep hs] at s2 ⊢
    obtain ⟨i1, i2, i3⟩ := ih (fun x hx => s0 x (List.mem_append_left _ hx)) s3 (by omega) (by omega)
    exact ⟨i1, by omega, by omega⟩
  | @hunk p l m h hc ih =>
    intro s0 s3 s1 s2
    rw [oldN_append] at s1 ⊢
    rw [newN_append] at s2 ⊢
    obtain ⟨i1, i2, i3⟩ := ih (fun x hx => s0 x (List.mem_append_left _ hx)) (fun q hq => s3 q (List.mem_append_left _ hq)) (by omega) (by omega)
    have hm : scriptFault m = 0 := scriptFault_zero.2 ⟨s3 ⟨oldN p, newN p, m⟩ (by simp), fun x hx => s0 x (List.mem_append_right _ hx)⟩
    rw [hFin_snoc]
    refine ⟨hOk_snoc _ _ _ _ i1 (oneFault_of hm hc ?_ ?_ ?_ ?_ ?_ ?_), ?_, ?_⟩
    all_goals simp only []
    all_goals omega

theorem Fits.turn {p : List Mark} {l : List Hunk} (h : Fits p l) : Fits (p.map turnMark) (turnHunks l) := by
  induction h with
  | nil => exact .nil
  | @keep p l m h hs ih =>
    rw [List.map_append]
    exact ih.keep ((turnMark_32 m).2 hs)
  | @hunk p l m h hc ih =>
    rw [List.map_append]
    have e : turnHunks (l ++ [⟨oldN p, newN p, m⟩]) = turnHunks l ++ [⟨oldN (p.map turnMark), newN (p.map turnMark), m.map turnMark⟩] := by
      simp [turnHunks, turnHunk, oldN_turn, newN_turn]
    rw [e]
    exact ih.hunk _ (by rw [hasChange_turn]; exact hc)

/-- hunks that fit a script lead from its old lines to its new ones -/
theorem Fits.strict {p : List Mark} {l : List Hunk} (h : Fits p l) (h1 : linesFault (those p 43) = 0) (h2 : (hunksFault l).2 = 0) (h3 : newN p ≤ 60) : strict (those p 43) l = (those p 45, 0, 0) := by
  unfold Proofs.YtpoammapjmddfaaDoor.strict
  rw [if_neg (by simp [h1]), if_neg (by simp [h2])]
  obtain ⟨fr, out, e1, e2, e3⟩ := h.doAll []
  rw [List.append_nil] at e1
  rw [strictGo_of _ l 0 0 fr [] out e1 (by rw [e3, ← newN_eq]; exact h3), e3]

/-! ### hunks that were done fit -/
def keeps (l : List ByteArray) : List Mark := l.map fun x => ⟨32, x⟩
theorem those_keeps (l : List ByteArray) : those (keeps l) 43 = l ∧ those (keeps l) 45 = l := by
  unfold keeps those
  constructor
  · rw [List.filter_eq_self.2 (by intro m hm; obtain ⟨x, _, rfl⟩ := List.mem_map.1 hm; simp), List.map_map]
    exact List.map_id' l
  · rw [List.filter_eq_self.2 (by intro m hm; obtain ⟨x, _, rfl⟩ := List.mem_map.1 hm; simp), List.map_map]
    exact List.map_id' l
theorem Fits.keeps {p : List Mark} {l : List Hunk} (h : Fits p l) : ∀ r : List ByteArray, Fits (p ++ Proofs.YtpoammapjmddfaaDoor.keeps r) l := by
  intro r
  induction r generalizing p with
  | nil => simpa [Proofs.YtpoammapjmddfaaDoor.keeps] using h
  | cons x r ih =>
    have := ih (h.keep (m := ⟨32, x⟩) rfl)
    rw [List.append_assoc] at this
    exact this

theorem stands_split {a : List ByteArray} {at_ : Int} {l : List ByteArray} (h : standsB a at_ l = true) : 0 ≤ at_ ∧ at_.toNat + l.length ≤ a.length ∧ a = a.take at_.toNat ++ l ++ a.drop (at_.toNat + l.length) := by
  unfold standsB at h
  simp only [Bool.and_eq_true, decide_eq_true_eq] at h
  obtain ⟨⟨h1, h2⟩, h3⟩ := h
  refine ⟨h1, by omega, ?_⟩
  conv => lhs; rw [← List.take_append_drop at_.toNat a, ← List.take_append_drop l.length (a.drop at_.toNat), h3, List.drop_drop]
  rw [List.append_assoc]

theorem fits_of_doAll (a : List ByteArray) : ∀ (r l : List Hunk) (p : List Mark) (fr fr' : Nat) (out out' : List ByteArray) (more : Int), Fits p l → those p 43 = a.take fr → fr ≤ a.length → those p 45 = out → more = (newN p : Int) - oldN p →
    hOk fr more r → doAll a fr out r = some (fr', out') → ∃ q, Fits q (l ++ r) ∧ those q 43 = a.take fr' ∧ fr' ≤ a.length ∧ those q 45 = out'
  | [], l, p, fr, fr', out, out', more, hf, h1, h2, h3, h4, _, hd => by
    simp only [doAll, Option.some.injEq, Prod.mk.injEq] at hd
    obtain ⟨rfl, rfl⟩ := hd
    exact ⟨p, by simpa using hf, h1, h2, h3⟩
  | h :: r, l, p, fr, fr', out, out', more, hf, h1, h2, h3, h4, hk, hd => by
    rw [doAll] at hd
    by_cases hs : standsB a h.old (oldOf h.marks) = true
    · rw [if_pos hs] at hd
      obtain ⟨z1, z2, z3, z4, z5, z6, z7, z8⟩ := oneFault_zero hk.1
      obtain ⟨s1, s2, s3⟩ := stands_split hs
      have hon : oldN h.marks = (oldOf h.marks).length := rfl
      have hle : fr ≤ h.old.toNat := by omega
      have hpn : oldN p = fr := by rw [oldN_eq, h1, List.length_take]; omega
      have gap : (a.drop fr).take (h.old.toNat - fr) = (a.take h.old.toNat).drop fr := by rw [List.drop_take]
      have hl2 : ((a.drop fr).take (h.old.toNat - fr)).length = h.old.toNat - fr := by rw [List.length_take, List.length_drop]; omega
      have f1 := hf.keeps ((a.drop fr).take (h.old.toNat - fr))
      have f2 := f1.hunk h.marks z2
      have c1 : oldN (p ++ keeps ((a.drop fr).take (h.old.toNat - fr))) = h.old.toNat := by
        rw [oldN_append, oldN_eq (keeps _), (those_keeps _).1, hl2, hpn]; omega
      have c2 : (newN (p ++ keeps ((a.drop fr).take (h.old.toNat - fr))) : Int) = h.new := by
        rw [newN_append, newN_eq (keeps _), (those_keeps _).2, hl2]; omega
      have e1 : (⟨(oldN (p ++ keeps ((a.drop fr).take (h.old.toNat - fr))) : Int), (newN (p ++ keeps ((a.drop fr).take (h.old.toNat - fr))) : Int), h.marks⟩ : Hunk) = h := by
        rw [c1, c2]
        obtain ⟨o, n, m⟩ := h
        simp only [Hunk.mk.injEq, and_true]
        simp only at s1
        omega
      rw [e1] at f2
      have t1 : those (p ++ keeps ((a.drop fr).take (h.old.toNat - fr)) ++ h.marks) 43 = a.take (h.old.toNat + oldN h.marks) := by
        rw [those_append, those_append, (those_keeps _).1, h1, gap]
        have g1 : a.take fr ++ (a.take h.old.toNat).drop fr = a.take h.old.toNat := by
          conv => rhs; rw [← List.take_append_drop fr (a.take h.old.toNat)]
          rw [List.take_take, Nat.min_eq_left hle]
        rw [g1]
        conv => rhs; rw [s3]
        have g2 : (a.take h.old.toNat ++ oldOf h.marks).length = h.old.toNat + oldN h.marks := by rw [List.length_append, List.length_take]; omega
        rw [List.take_append_of_le_length (by omega)]
        exact (List.take_of_length_le (l := a.take h.old.toNat ++ oldOf h.marks) (by omega)).symm
      have t2 : those (p ++ keeps ((a.drop fr).take (h.old.toNat - fr)) ++ h.marks) 45 = out ++ (a.drop fr).take (h.old.toNat - fr) ++ newOf h.marks := by
        rw [those_append, those_append, (those_keeps _).2, h3]; rfl
      have t3 : more + newN h.marks - oldN h.marks = (newN (p ++ keeps ((a.drop fr).take (h.old.toNat - fr)) ++ h.marks) : Int) - oldN (p ++ keeps ((a.drop fr).take (h.old.toNat - fr)) ++ h.marks) := by
        rw [newN_append _ h.marks, oldN_append _ h.marks, c1]
        push_cast
        rw [c2]
        omega
      have hk2 : hOk ((h.old.toNat + oldN h.marks : Nat) : Int) (more + newN h.marks - oldN h.marks) r := by
        have := hk.2
        rw [show ((h.old.toNat + oldN h.marks : Nat) : Int) = h.old + oldN h.marks by omega]
        exact this
      obtain ⟨q, q1, q2, q3, q4⟩ := fits_of_doAll a r (l ++ [h]) _ _ _ _ _ _ f2 t1 (by omega) t2 t3 hk2 hd
      exact ⟨q, by simpa using q1, q2, q3, q4⟩
    · rw [if_neg hs] at hd; cases hd

theorem strict_zero {a y : List ByteArray} {l : List Hunk} {k : Nat} (h : strict a l = (y, k, 0)) : linesFault a = 0 ∧ hunksFault l = (0, 0) ∧ strictGo a 0 0 [] l = (y, k, 0) := by
  unfold strict at h
  by_cases h1 : linesFault a ≠ 0
  · rw [if_pos h1] at h
    simp only [Prod.mk.injEq] at h
    exact absurd h.2.2 h1
  · rw [if_neg h1] at h
    by_cases h2 : (hunksFault l).2 ≠ 0
    · rw [if_pos h2] at h
      simp only [Prod.mk.injEq] at h
      exact absurd h.2.2 h2
    · rw [if_neg h2] at h
      exact ⟨by simpa using h1, hunksFault_first (by simpa using h2), h⟩
theorem fits_of_strict {a y : List ByteArray} {l : List Hunk} {k : Nat} (h : strict a l = (y, k, 0)) : k = 0 ∧ y.length ≤ 60 ∧ ∃ q, Fits q l ∧ those q 43 = a ∧ those q 45 = y := by
  obtain ⟨h1, h2, h3⟩ := strict_zero h
  obtain ⟨fr, out, e1, e2, e3, e4⟩ := strictGo_inv a l 0 0 [] y k h3
  obtain ⟨_, hk⟩ := hunksFault_zero (by rw [h2])
  obtain ⟨q, q1, q2, q3, q4⟩ := fits_of_doAll a l [] [] 0 fr [] out 0 .nil rfl (Nat.zero_le _) rfl rfl hk e1
  refine ⟨e4, e3, q ++ keeps (a.drop fr), q1.keeps _, ?_, ?_⟩
  · rw [those_append, (those_keeps _).1, q2, List.take_append_drop]
  · rw [those_append, (those_keeps _).2, q4, e2]

theorem hOk_mem : ∀ (l : List Hunk) (fin more : Int), hOk fin more l → ∀ h ∈ l, scriptFault h.marks = 0
  | [], _, _, _, h, hh => by simp at hh
  | x :: r, fin, more, hk, h, hh => by
    rcases List.mem_cons.1 hh with rfl | hh
    · exact (oneFault_zero hk.1).1
    · exact hOk_mem r _ _ hk.2 h hh
theorem markFault_line {m : Mark} (h : markFault m = 0) : lineFault m.text = 0 := by
  unfold markFault at h
  by_cases h1 : m.sign ≠ 32 ∧ m.sign ≠ 45 ∧ m.sign ≠ 43
  · rw [if_pos h1] at h; simp at h
  · rw [if_neg h1] at h; exact h
/-- lines of the new file are lines of the old one, or of a hunk -/
theorem Fits.lines {p : List Mark} {l : List Hunk} (h : Fits p l) (ha : ∀ x ∈ those p 43, lineFault x = 0) (hl : ∀ q ∈ l, scriptFault q.marks = 0) : ∀ x ∈ those p 45, lineFault x = 0 := by
  induction h with
  | nil => intro x hx; simp [those] at hx
  | @keep p l m h hs ih =>
    intro x hx
    rw [those_append, (those_keep hs).2] at hx
    rw [those_append, (those_keep hs).1] at ha
    rcases List.mem_append.1 hx with hx | hx
    · exact ih (fun y hy => ha y (List.mem_append_left _ hy)) hl x hx
    · exact ha x (List.mem_append_right _ hx)
  | @hunk p l m h hc ih =>
    intro x hx
    rw [those_append] at hx ha
    rcases List.mem_append.1 hx with hx | hx
    · exact ih (fun y hy => ha y (List.mem_append_left _ hy)) (fun q hq => hl q (List.mem_append_left _ hq)) x hx
    · have := scriptFault_zero.1 (hl ⟨oldN p, newN p, m⟩ (by simp))
      unfold those at hx
      obtain ⟨y, hy, rfl⟩ := List.mem_map.1 hx
      exact markFault_line (this.2 y (List.mem_filter.1 hy).1)

/-- what was done is undone -/
theorem strict_undo {a y : List ByteArray} {l : List Hunk} {k : Nat} (h : strict a l = (y, k, 0)) : strict y (turnHunks l) = (a, 0, 0) ∧ linesFault y = 0 := by
  obtain ⟨h1, h2, h3⟩ := strict_zero h
  obtain ⟨_, hy, q, q1, q2, q3⟩ := fits_of_strict h
  obtain ⟨a1, a2⟩ := linesFault_zero.1 h1
  obtain ⟨_, hk⟩ := hunksFault_zero (by rw [h2])
  have hly : linesFault y = 0 := by
    rw [linesFault_zero]
    exact ⟨hy, q3 ▸ q1.lines (q2 ▸ a2) (hOk_mem _ _ _ hk)⟩
  have t := q1.turn
  have e1 : those (q.map turnMark) 43 = y := by rw [(those_turn q).1, q3]
  have e2 : those (q.map turnMark) 45 = a := by rw [(those_turn q).2, q2]
  have := t.strict (by rw [e1]; exact hly) (by rw [turn_ok h2]) (by rw [newN_eq, e2]; exact a1)
  rw [e1, e2] at this
  exact ⟨this, hly⟩

/-- what was found is done, and back -/
theorem strict_cut {a b : List ByteArray} {n : Int} (h : checkedFault a b = 0) (h0 : 0 ≤ n) (h1 : n ≤ 1000) :
    cutFault (script a b) n = 0 ∧ strict a (cutOf (script a b) n) = (b, 0, 0) ∧ hunksFault (cutOf (script a b) n) = (0, 0) ∧ strict b (turnHunks (cutOf (script a b) n)) = (a, 0, 0) := by
  obtain ⟨ha, hb⟩ := checkedFault_zero.1 h
  have e1 : those (script a b) 43 = a := script_old a b
  have e2 : those (script a b) 45 = b := script_new a b
  have la := (linesFault_zero.1 ha).1
  have lb := (linesFault_zero.1 hb).1
  have hc : cutFault (script a b) n = 0 := by
    unfold cutFault
    rw [if_neg (by simp [script_valid h]), if_neg (by omega), if_neg (by rw [oldN_eq, newN_eq, e1, e2]; omega)]
  have hk := cut_ok hc
  obtain ⟨_, hp⟩ := cut_pcs (s := script a b) h0
  have f := hp.fits
  have r1 := f.strict (by rw [e1]; exact ha) (by rw [hk]) (by rw [newN_eq, e2]; exact lb)
  rw [e1, e2] at r1
  exact ⟨hc, r1, hk, (strict_undo r1).1⟩
end Go.Proofs.YtpoammapjmddfaaDoor
