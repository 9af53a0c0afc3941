/-
  PARTS: HUNKS DONE STRICTLY, plain laws: what Strict answers; hunks that lead from a file to another one; turned they lead back.; PATCHES, in plain Lean (chapter 2): what may be one, what is done to a tree, turned it leads back.; PATCHES AS TEXTS, in plain Lean (chapter 8): whole texts. What is printed is read; what is read is printed so.; SERIES, in plain Lean (chapter 13): what a mail is read as; the pieces of all; what is packed.; THE WALKS of strings.Builder's methods at a builder of one's own: copyCheck, WriteString, WriteByte.; A BUILDER OF ONE'S OWN STAYS while only new blocks come.; A BOX OF TWO CELLS, and of three (Blk3). No program in sight.; THE WALKS of strings.Builder's methods once more, saying that every block that holds no bytes (but the builder's own) stays.; HUNKS AS TEXTS, in plain Lean: the document's reading (hunk by hunk) is the program's (line by line).; NUMBERS AS TEXTS, in plain Lean: a text that is the decimal numeral of its number; the document's reading of one.; HUNKS AS TEXTS, in plain Lean: what the program's functions compute, as the walks want it.; THE WALKS of unified.span and Write.
-/
import Derived.Test.YtjiaidchcldocaaGreatDoorPa3
import Derived.Test.YtjiaidchcldocaaGreatDoorPa2
import Derived.Test.YtjiaidchcldocaaGreatDoorPa1
import Derived.Shelf.Strings.BuilderK
import Derived.StillTailTactics
set_option linter.unusedVariables false
set_option linter.unusedSimpArgs false
namespace Go.Proofs.YtjiaidchcldocaaGreatDoor

/-- do lines stand at a place? -/
def standsB (a : List ByteArray) (at_ : Int) (l : List ByteArray) : Bool :=
  decide (0 ≤ at_) && decide (at_ + l.length ≤ a.length) && decide ((a.drop at_.toNat).take l.length = l)
/-- hunk by hunk: the number, from where on the file is not yet copied, what has come so far -/
def strictGo (a : List ByteArray) : Nat → Nat → List ByteArray → List Hunk → List ByteArray × Nat × Int
  | _, fr, out, [] => if 60 < (out ++ a.drop fr).length then ([], 0, 3) else (out ++ a.drop fr, 0, 0)
  | i, fr, out, h :: r =>
    if standsB a h.old (oldOf h.marks) then strictGo a (i + 1) (h.old.toNat + oldN h.marks) (out ++ (a.drop fr).take (h.old.toNat - fr) ++ newOf h.marks) r
    else ([], i, 6)
def strict (a : List ByteArray) (l : List Hunk) : List ByteArray × Nat × Int :=
  if linesFault a ≠ 0 then ([], 0, linesFault a) else if (hunksFault l).2 ≠ 0 then ([], (hunksFault l).1, (hunksFault l).2) else strictGo a 0 0 [] l

/-- p has the hunks l, each at its place, and all else of it is kept -/
inductive Fits : List Mark → List Hunk → Prop
  | nil : Fits [] []
  | keep {p : List Mark} {l : List Hunk} {m : Mark} : Fits p l → m.sign = 32 → Fits (p ++ [m]) l
  | hunk {p : List Mark} {l : List Hunk} (m : List Mark) : Fits p l → hasChange m = true → Fits (p ++ m) (l ++ [⟨oldN p, newN p, m⟩])
theorem Pcs.fits {b : Bool} {p : List Mark} {l : List Hunk} (h : Pcs b p l) : Fits p l := by
  induction h with
  | nil => exact .nil
  | keep _ hs ih => exact ih.keep hs
  | hunk m _ hc ih => exact ih.hunk m hc

theorem those_append (p m : List Mark) (no : Int) : those (p ++ m) no = those p no ++ those m no := by simp [those, List.filter_append]
theorem those_keep {m : Mark} (h : m.sign = 32) : those [m] 43 = [m.text] ∧ those [m] 45 = [m.text] := by simp [those, h]
theorem oldN_eq (p : List Mark) : oldN p = (those p 43).length := rfl
theorem newN_eq (p : List Mark) : newN p = (those p 45).length := rfl

/-- the state behind some hunks -/
def doAll (a : List ByteArray) : Nat → List ByteArray → List Hunk → Option (Nat × List ByteArray)
  | fr, out, [] => some (fr, out)
  | fr, out, h :: r => if standsB a h.old (oldOf h.marks) then doAll a (h.old.toNat + oldN h.marks) (out ++ (a.drop fr).take (h.old.toNat - fr) ++ newOf h.marks) r else none
theorem doAll_snoc (a : List ByteArray) : ∀ (l : List Hunk) (h : Hunk) (fr fr' : Nat) (out out' : List ByteArray), doAll a fr out l = some (fr', out') → standsB a h.old (oldOf h.marks) = true →
    doAll a fr out (l ++ [h]) = some (h.old.toNat + oldN h.marks, out' ++ (a.drop fr').take (h.old.toNat - fr') ++ newOf h.marks)
  | [], h, fr, fr', out, out', e, hs => by
    simp only [doAll, Option.some.injEq, Prod.mk.injEq] at e
    obtain ⟨rfl, rfl⟩ := e
    simp [doAll, hs]
  | x :: r, h, fr, fr', out, out', e, hs => by
    simp only [doAll, List.cons_append] at e ⊢
    by_cases hx : standsB a x.old (oldOf x.marks) = true
    · rw [if_pos hx] at e ⊢
      exact doAll_snoc a r h _ _ _ _ e hs
    · rw [if_neg hx] at e; cases e
theorem strictGo_of (a : List ByteArray) : ∀ (l : List Hunk) (i fr fr' : Nat) (out out' : List ByteArray), doAll a fr out l = some (fr', out') → (out' ++ a.drop fr').length ≤ 60 → strictGo a i fr out l = (out' ++ a.drop fr', 0, 0)
  | [], i, fr, fr', out, out', e, h60 => by
    simp only [doAll, Option.some.injEq, Prod.mk.injEq] at e
    obtain ⟨rfl, rfl⟩ := e
    rw [strictGo, if_neg (by omega)]
  | x :: r, i, fr, fr', out, out', e, h60 => by
    rw [doAll] at e
    by_cases hx : standsB a x.old (oldOf x.marks) = true
    · rw [if_pos hx] at e
      rw [strictGo, if_pos hx]
      exact strictGo_of a r _ _ _ _ _ e h60
    · rw [if_neg hx] at e; cases e
theorem strictGo_inv (a : List ByteArray) : ∀ (l : List Hunk) (i fr : Nat) (out y : List ByteArray) (k : Nat), strictGo a i fr out l = (y, k, 0) → ∃ fr' out', doAll a fr out l = some (fr', out') ∧ y = out' ++ a.drop fr' ∧ y.length ≤ 60 ∧ k = 0
  | [], i, fr, out, y, k, e => by
    rw [strictGo] at e
    by_cases h : 60 < (out ++ a.drop fr).length
    · rw [if_pos h] at e; simp at e
    · rw [if_neg h] at e
      simp only [Prod.mk.injEq, and_true] at e
      obtain ⟨rfl, rfl⟩ := e
      exact ⟨fr, out, rfl, rfl, by omega, rfl⟩
  | x :: r, i, fr, out, y, k, e => by
    rw [strictGo] at e
    by_cases hx : standsB a x.old (oldOf x.marks) = true
    · rw [if_pos hx] at e
      obtain ⟨fr', out', h1, h2, h3, h4⟩ := strictGo_inv a r _ _ _ _ _ e
      exact ⟨fr', out', by rw [doAll, if_pos hx]; exact h1, h2, h3, h4⟩
    · rw [if_neg hx] at e; simp at e

theorem stands_mid (x y z : List ByteArray) : standsB (x ++ y ++ z) (x.length : Int) y = true := by
  unfold standsB
  simp only [Bool.and_eq_true, decide_eq_true_eq, Int.toNat_natCast]
  refine ⟨⟨by omega, by simp; omega⟩, ?_⟩
  rw [List.append_assoc, List.drop_left, List.take_left]

theorem Fits.doAll {p : List Mark} {l : List Hunk} (h : Fits p l) : ∀ t : List ByteArray, ∃ fr out, doAll (those p 43 ++ t) 0 [] l = some (fr, out) ∧ fr ≤ oldN p ∧ out ++ (those p 43).drop fr = those p 45 := by
  induction h with
  | nil => intro t; exact ⟨0, [], rfl, Nat.zero_le _, rfl⟩
  | @keep p l m h hs ih =>
    intro t
    obtain ⟨fr, out, h1, h2, h3⟩ := ih ([m.text] ++ t)
    refine ⟨fr, out, ?_, ?_, ?_⟩
    · rw [those_append, (those_keep hs).1, List.append_assoc]; exact h1
    · rw [oldN_append]; omega
    · rw [those_append, those_append, (those_keep hs).1, (those_keep hs).2, List.drop_append_of_le_length (by rw [← oldN_eq]; exact h2), ← List.append_assoc, h3]
  | @hunk p l m h hc ih =>
    intro t
    obtain ⟨fr, out, h1, h2, h3⟩ := ih (those m 43 ++ t)
    refine ⟨oldN p + oldN m, those p 45 ++ those m 45, ?_, ?_, ?_⟩
    · rw [those_append, List.append_assoc]
      have hs : standsB (those p 43 ++ (those m 43 ++ t)) ((oldN p : Nat) : Int) (oldOf m) = true := by
        rw [← List.append_assoc]
        exact stands_mid (those p 43) (those m 43) t
      rw [doAll_snoc _ l ⟨oldN p, newN p, m⟩ _ _ _ _ h1 hs]
      have e1 : ((those p 43 ++ (those m 43 ++ t)).drop fr).take (oldN p - fr) = (those p 43).drop fr := by
        rw [List.drop_append_of_le_length (by rw [← oldN_eq]; exact h2), List.take_left' (by rw [List.length_drop, ← oldN_eq])]
      simp only [Int.toNat_natCast]
      rw [e1, h3]
      rfl
    · rw [oldN_append]; omega
    · rw [those_append, those_append, List.drop_of_length_le (by rw [List.length_append, ← oldN_eq, ← oldN_eq]; omega), List.append_nil]

theorem Fits.ok {p : List Mark} {l : List Hunk} (h : Fits p l) : (∀ x ∈ p, markFault x = 0) → (∀ q ∈ l, q.marks.length ≤ 120) → oldN p ≤ 60 → newN p ≤ 60 → hOk 0 0 l ∧ (hFin 0 0 l).1 ≤ oldN p ∧ (hFin 0 0 l).2 = (newN p : Int) - oldN p := by
  induction h with
  | nil => intro _ _ _ _; exact ⟨trivial, by simp [hFin], by simp [hFin, oldN, newN, those]⟩
  | @keep p l m h hs ih =>
    intro s0 s3 s1 s2
    rw [oldN_append, oldN_keep hs] at s1 ⊢
    rw [newN_append, newN_keep hs] at s2 ⊢
    obtain ⟨i1, i2, i3⟩ := ih (fun x hx => s0 x (List.mem_append_left _ hx)) s3 (by omega) (by omega)
    exact ⟨i1, by omega, by omega⟩
  | @hunk p l m h hc ih =>
    intro s0 s3 s1 s2
    rw [oldN_append] at s1 ⊢
    rw [newN_append] at s2 ⊢
    obtain ⟨i1, i2, i3⟩ := ih (fun x hx => s0 x (List.mem_append_left _ hx)) (fun q hq => s3 q (List.mem_append_left _ hq)) (by omega) (by omega)
    have hm : scriptFault m = 0 := scriptFault_zero.2 ⟨s3 ⟨oldN p, newN p, m⟩ (by simp), fun x hx => s0 x (List.mem_append_right _ hx)⟩
    rw [hFin_snoc]
    refine ⟨hOk_snoc _ _ _ _ i1 (oneFault_of hm hc ?_ ?_ ?_ ?_ ?_ ?_), ?_, ?_⟩
    all_goals simp only []
    all_goals omega

theorem Fits.turn {p : List Mark} {l : List Hunk} (h : Fits p l) : Fits (p.map turnMark) (turnHunks l) := by
  induction h with
  | nil => exact .nil
  | @keep p l m h hs ih =>
    rw [List.map_append]
    exact ih.keep ((turnMark_32 m).2 hs)
  | @hunk p l m h hc ih =>
    rw [List.map_append]
    have e : turnHunks (l ++ [⟨oldN p, newN p, m⟩]) = turnHunks l ++ [⟨oldN (p.map turnMark), newN (p.map turnMark), m.map turnMark⟩] := by
      simp [turnHunks, turnHunk, oldN_turn, newN_turn]
    rw [e]
    exact ih.hunk _ (by rw [hasChange_turn]; exact hc)

/-- hunks that fit a script lead from its old lines to its new ones -/
theorem Fits.strict {p : List Mark} {l : List Hunk} (h : Fits p l) (h1 : linesFault (those p 43) = 0) (h2 : (hunksFault l).2 = 0) (h3 : newN p ≤ 60) : strict (those p 43) l = (those p 45, 0, 0) := by
  unfold Proofs.YtjiaidchcldocaaGreatDoor.strict
  rw [if_neg (by simp [h1]), if_neg (by simp [h2])]
  obtain ⟨fr, out, e1, e2, e3⟩ := h.doAll []
  rw [List.append_nil] at e1
  rw [strictGo_of _ l 0 0 fr [] out e1 (by rw [e3, ← newN_eq]; exact h3), e3]

/-! ### hunks that were done fit -/
def keeps (l : List ByteArray) : List Mark := l.map fun x => ⟨32, x⟩
theorem those_keeps (l : List ByteArray) : those (keeps l) 43 = l ∧ those (keeps l) 45 = l := by
  unfold keeps those
  constructor
  · rw [List.filter_eq_self.2 (by intro m hm; obtain ⟨x, _, rfl⟩ := List.mem_map.1 hm; simp), List.map_map]
    exact List.map_id' l
  · rw [List.filter_eq_self.2 (by intro m hm; obtain ⟨x, _, rfl⟩ := List.mem_map.1 hm; simp), List.map_map]
    exact List.map_id' l
theorem Fits.keeps {p : List Mark} {l : List Hunk} (h : Fits p l) : ∀ r : List ByteArray, Fits (p ++ Proofs.YtjiaidchcldocaaGreatDoor.keeps r) l := by
  intro r
  induction r generalizing p with
  | nil => simpa [Proofs.YtjiaidchcldocaaGreatDoor.keeps] using h
  | cons x r ih =>
    have := ih (h.keep (m := ⟨32, x⟩) rfl)
    rw [List.append_assoc] at this
    exact this

theorem stands_split {a : List ByteArray} {at_ : Int} {l : List ByteArray} (h : standsB a at_ l = true) : 0 ≤ at_ ∧ at_.toNat + l.length ≤ a.length ∧ a = a.take at_.toNat ++ l ++ a.drop (at_.toNat + l.length) := by
  unfold standsB at h
  simp only [Bool.and_eq_true, decide_eq_true_eq] at h
  obtain ⟨⟨h1, h2⟩, h3⟩ := h
  refine ⟨h1, by omega, ?_⟩
  conv => lhs; rw [← List.take_append_drop at_.toNat a, ← List.take_append_drop l.length (a.drop at_.toNat), h3, List.drop_drop]
  rw [List.append_assoc]

theorem fits_of_doAll (a : List ByteArray) : ∀ (r l : List Hunk) (p : List Mark) (fr fr' : Nat) (out out' : List ByteArray) (more : Int), Fits p l → those p 43 = a.take fr → fr ≤ a.length → those p 45 = out → more = (newN p : Int) - oldN p →
    hOk fr more r → doAll a fr out r = some (fr', out') → ∃ q, Fits q (l ++ r) ∧ those q 43 = a.take fr' ∧ fr' ≤ a.length ∧ those q 45 = out'
  | [], l, p, fr, fr', out, out', more, hf, h1, h2, h3, h4, _, hd => by
    simp only [doAll, Option.some.injEq, Prod.mk.injEq] at hd
    obtain ⟨rfl, rfl⟩ := hd
    exact ⟨p, by simpa using hf, h1, h2, h3⟩
  | h :: r, l, p, fr, fr', out, out', more, hf, h1, h2, h3, h4, hk, hd => by
    rw [doAll] at hd
    by_cases hs : standsB a h.old (oldOf h.marks) = true
    · rw [if_pos hs] at hd
      obtain ⟨z1, z2, z3, z4, z5, z6, z7, z8⟩ := oneFault_zero hk.1
      obtain ⟨s1, s2, s3⟩ := stands_split hs
      have hon : oldN h.marks = (oldOf h.marks).length := rfl
      have hle : fr ≤ h.old.toNat := by omega
      have hpn : oldN p = fr := by rw [oldN_eq, h1, List.length_take]; omega
      have gap : (a.drop fr).take (h.old.toNat - fr) = (a.take h.old.toNat).drop fr := by rw [List.drop_take]
      have hl2 : ((a.drop fr).take (h.old.toNat - fr)).length = h.old.toNat - fr := by rw [List.length_take, List.length_drop]; omega
      have f1 := hf.keeps ((a.drop fr).take (h.old.toNat - fr))
      have f2 := f1.hunk h.marks z2
      have c1 : oldN (p ++ keeps ((a.drop fr).take (h.old.toNat - fr))) = h.old.toNat := by
        rw [oldN_append, oldN_eq (keeps _), (those_keeps _).1, hl2, hpn]; omega
      have c2 : (newN (p ++ keeps ((a.drop fr).take (h.old.toNat - fr))) : Int) = h.new := by
        rw [newN_append, newN_eq (keeps _), (those_keeps _).2, hl2]; omega
      have e1 : (⟨(oldN (p ++ keeps ((a.drop fr).take (h.old.toNat - fr))) : Int), (newN (p ++ keeps ((a.drop fr).take (h.old.toNat - fr))) : Int), h.marks⟩ : Hunk) = h := by
        rw [c1, c2]
        obtain ⟨o, n, m⟩ := h
        simp only [Hunk.mk.injEq, and_true]
        simp only at s1
        omega
      rw [e1] at f2
      have t1 : those (p ++ keeps ((a.drop fr).take (h.old.toNat - fr)) ++ h.marks) 43 = a.take (h.old.toNat + oldN h.marks) := by
        rw [those_append, those_append, (those_keeps _).1, h1, gap]
        have g1 : a.take fr ++ (a.take h.old.toNat).drop fr = a.take h.old.toNat := by
          conv => rhs; rw [← List.take_append_drop fr (a.take h.old.toNat)]
          rw [List.take_take, Nat.min_eq_left hle]
        rw [g1]
        conv => rhs; rw [s3]
        have g2 : (a.take h.old.toNat ++ oldOf h.marks).length = h.old.toNat + oldN h.marks := by rw [List.length_append, List.length_take]; omega
        rw [List.take_append_of_le_length (by omega)]
        exact (List.take_of_length_le (l := a.take h.old.toNat ++ oldOf h.marks) (by omega)).symm
      have t2 : those (p ++ keeps ((a.drop fr).take (h.old.toNat - fr)) ++ h.marks) 45 = out ++ (a.drop fr).take (h.old.toNat - fr) ++ newOf h.marks := by
        rw [those_append, those_append, (those_keeps _).2, h3]; rfl
      have t3 : more + newN h.marks - oldN h.marks = (newN (p ++ keeps ((a.drop fr).take (h.old.toNat - fr)) ++ h.marks) : Int) - oldN (p ++ keeps ((a.drop fr).take (h.old.toNat - fr)) ++ h.marks) := by
        rw [newN_append _ h.marks, oldN_append _ h.marks, c1]
        push_cast
        rw [c2]
        omega
      have hk2 : hOk ((h.old.toNat + oldN h.marks : Nat) : Int) (more + newN h.marks - oldN h.marks) r := by
        have := hk.2
        rw [show ((h.old.toNat + oldN h.marks : Nat) : Int) = h.old + oldN h.marks by omega]
        exact this
      obtain ⟨q, q1, q2, q3, q4⟩ := fits_of_doAll a r (l ++ [h]) _ _ _ _ _ _ f2 t1 (by omega) t2 t3 hk2 hd
      exact ⟨q, by simpa using q1, q2, q3, q4⟩
    · rw [if_neg hs] at hd; cases hd

theorem strict_zero {a y : List ByteArray} {l : List Hunk} {k : Nat} (h : strict a l = (y, k, 0)) : linesFault a = 0 ∧ hunksFault l = (0, 0) ∧ strictGo a 0 0 [] l = (y, k, 0) := by
  unfold strict at h
  by_cases h1 : linesFault a ≠ 0
  · rw [if_pos h1] at h
    simp only [Prod.mk.injEq] at h
    exact absurd h.2.2 h1
  · rw [if_neg h1] at h
    by_cases h2 : (hunksFault l).2 ≠ 0
    · rw [if_pos h2] at h
      simp only [Prod.mk.injEq] at h
      exact absurd h.2.2 h2
    · rw [if_neg h2] at h
      exact ⟨by simpa using h1, hunksFault_first (by simpa using h2), h⟩
theorem fits_of_strict {a y : List ByteArray} {l : List Hunk} {k : Nat} (h : strict a l = (y, k, 0)) : k = 0 ∧ y.length ≤ 60 ∧ ∃ q, Fits q l ∧ those q 43 = a ∧ those q 45 = y := by
  obtain ⟨h1, h2, h3⟩ := strict_zero h
  obtain ⟨fr, out, e1, e2, e3, e4⟩ := strictGo_inv a l 0 0 [] y k h3
  obtain ⟨_, hk⟩ := hunksFault_zero (by rw [h2])
  obtain ⟨q, q1, q2, q3, q4⟩ := fits_of_doAll a l [] [] 0 fr [] out 0 .nil rfl (Nat.zero_le _) rfl rfl hk e1
  refine ⟨e4, e3, q ++ keeps (a.drop fr), q1.keeps _, ?_, ?_⟩
  · rw [those_append, (those_keeps _).1, q2, List.take_append_drop]
  · rw [those_append, (those_keeps _).2, q4, e2]

theorem hOk_mem : ∀ (l : List Hunk) (fin more : Int), hOk fin more l → ∀ h ∈ l, scriptFault h.marks = 0
  | [], _, _, _, h, hh => by simp at hh
  | x :: r, fin, more, hk, h, hh => by
    rcases List.mem_cons.1 hh with rfl | hh
    · exact (oneFault_zero hk.1).1
    · exact hOk_mem r _ _ hk.2 h hh
theorem markFault_line {m : Mark} (h : markFault m = 0) : lineFault m.text = 0 := by
  unfold markFault at h
  by_cases h1 : m.sign ≠ 32 ∧ m.sign ≠ 45 ∧ m.sign ≠ 43
  · rw [if_pos h1] at h; simp at h
  · rw [if_neg h1] at h; exact h
/-- lines of the new file are lines of the old one, or of a hunk -/
theorem Fits.lines {p : List Mark} {l : List Hunk} (h : Fits p l) (ha : ∀ x ∈ those p 43, lineFault x = 0) (hl : ∀ q ∈ l, scriptFault q.marks = 0) : ∀ x ∈ those p 45, lineFault x = 0 := by
  induction h with
  | nil => intro x hx; simp [those] at hx
  | @keep p l m h hs ih =>
    intro x hx
    rw [those_append, (those_keep hs).2] at hx
    rw [those_append, (those_keep hs).1] at ha
    rcases List.mem_append.1 hx with hx | hx
    · exact ih (fun y hy => ha y (List.mem_append_left _ hy)) hl x hx
    · exact ha x (List.mem_append_right _ hx)
  | @hunk p l m h hc ih =>
    intro x hx
    rw [those_append] at hx ha
    rcases List.mem_append.1 hx with hx | hx
    · exact ih (fun y hy => ha y (List.mem_append_left _ hy)) (fun q hq => hl q (List.mem_append_left _ hq)) x hx
    · have := scriptFault_zero.1 (hl ⟨oldN p, newN p, m⟩ (by simp))
      unfold those at hx
      obtain ⟨y, hy, rfl⟩ := List.mem_map.1 hx
      exact markFault_line (this.2 y (List.mem_filter.1 hy).1)

/-- what was done is undone -/
theorem strict_undo {a y : List ByteArray} {l : List Hunk} {k : Nat} (h : strict a l = (y, k, 0)) : strict y (turnHunks l) = (a, 0, 0) ∧ linesFault y = 0 := by
  obtain ⟨h1, h2, h3⟩ := strict_zero h
  obtain ⟨_, hy, q, q1, q2, q3⟩ := fits_of_strict h
  obtain ⟨a1, a2⟩ := linesFault_zero.1 h1
  obtain ⟨_, hk⟩ := hunksFault_zero (by rw [h2])
  have hly : linesFault y = 0 := by
    rw [linesFault_zero]
    exact ⟨hy, q3 ▸ q1.lines (q2 ▸ a2) (hOk_mem _ _ _ hk)⟩
  have t := q1.turn
  have e1 : those (q.map turnMark) 43 = y := by rw [(those_turn q).1, q3]
  have e2 : those (q.map turnMark) 45 = a := by rw [(those_turn q).2, q2]
  have := t.strict (by rw [e1]; exact hly) (by rw [turn_ok h2]) (by rw [newN_eq, e2]; exact a1)
  rw [e1, e2] at this
  exact ⟨this, hly⟩

/-- what was found is done, and back -/
theorem strict_cut {a b : List ByteArray} {n : Int} (h : checkedFault a b = 0) (h0 : 0 ≤ n) (h1 : n ≤ 1000) :
    cutFault (script a b) n = 0 ∧ strict a (cutOf (script a b) n) = (b, 0, 0) ∧ hunksFault (cutOf (script a b) n) = (0, 0) ∧ strict b (turnHunks (cutOf (script a b) n)) = (a, 0, 0) := by
  obtain ⟨ha, hb⟩ := checkedFault_zero.1 h
  have e1 : those (script a b) 43 = a := script_old a b
  have e2 : those (script a b) 45 = b := script_new a b
  have la := (linesFault_zero.1 ha).1
  have lb := (linesFault_zero.1 hb).1
  have hc : cutFault (script a b) n = 0 := by
    unfold cutFault
    rw [if_neg (by simp [script_valid h]), if_neg (by omega), if_neg (by rw [oldN_eq, newN_eq, e1, e2]; omega)]
  have hk := cut_ok hc
  obtain ⟨_, hp⟩ := cut_pcs (s := script a b) h0
  have f := hp.fits
  have r1 := f.strict (by rw [e1]; exact ha) (by rw [hk]) (by rw [newN_eq, e2]; exact lb)
  rw [e1, e2] at r1
  exact ⟨hc, r1, hk, (strict_undo r1).1⟩
end Go.Proofs.YtjiaidchcldocaaGreatDoor
namespace Go.Proofs.YtjiaidchcldocaaGreatDoor

def wholeB (l : List Hunk) (s : Int) : Bool :=
  match l with
  | [] => true
  | [h] => decide (h.old = 0) && decide (h.new = 0) && h.marks.all fun m => decide (m.sign = s)
  | _ => false
def shapeB (c : Change) : Bool := if c.what = 2 then wholeB c.hunks 43 else if c.what = 3 then wholeB c.hunks 45 else !c.hunks.isEmpty
def changeFault (c : Change) : Int :=
  if c.what < 1 ∨ 3 < c.what then 1 else if pathFault c.path ≠ 0 then pathFault c.path else if (hunksFault c.hunks).2 ≠ 0 then (hunksFault c.hunks).2 else if shapeB c = true then 0 else 2
def patchGo : Nat → Option ByteArray → List Change → Nat × Int
  | _, _, [] => (0, 0)
  | i, prev, c :: r => if changeFault c ≠ 0 then (i, changeFault c) else if prev.any (fun p => leqB c.path p) = true then (i, 2) else patchGo (i + 1) (some c.path) r
def patchFault (p : List Change) : Nat × Int := if 16 < p.length then (0, 3) else patchGo 0 none p
def SortedC (p : List Change) : Prop := p.Pairwise fun c d => less c.path d.path = true
def Patch (p : List Change) : Prop := p.length ≤ 16 ∧ (∀ c ∈ p, changeFault c = 0) ∧ SortedC p

theorem patchGo_zero : ∀ (t : List Change) (i : Nat) (prev : Option ByteArray), (patchGo i prev t).2 = 0 → (∀ f ∈ t, changeFault f = 0) ∧ SortedC t ∧ (∀ p f, prev = some p → f ∈ t → less p f.path = true) ∧ patchGo i prev t = (0, 0)
  | [], _, _, _ => ⟨by simp, List.Pairwise.nil, by simp, rfl⟩
  | f :: r, i, prev, h => by
    rw [patchGo] at h ⊢
    by_cases h1 : changeFault f ≠ 0
    · rw [if_pos h1] at h; exact absurd h h1
    · rw [if_neg h1] at h ⊢
      by_cases h2 : prev.any (fun p => leqB f.path p) = true
      · rw [if_pos h2] at h; cases h
      · rw [if_neg h2] at h ⊢
        obtain ⟨i1, i2, i3, i4⟩ := patchGo_zero r (i + 1) (some f.path) h
        refine ⟨?_, ?_, ?_, i4⟩
        · intro x hx
          rcases List.mem_cons.1 hx with rfl | hx
          · simpa using h1
          · exact i1 x hx
        · exact List.Pairwise.cons (fun g hg => i3 f.path g rfl hg) i2
        · rintro p x rfl hx
          have hp : less p f.path = true := by
            simp only [Option.any_some] at h2
            rcases less_tri p f.path with g | g | g
            · exact g
            · exact absurd (leqB_true.2 (by rw [g]; exact less_irrefl _)) h2
            · exact absurd (leqB_true.2 (less_asymm g)) h2
          rcases List.mem_cons.1 hx with rfl | hx
          · exact hp
          · exact less_trans hp (i3 f.path x rfl hx)
theorem patchGo_ok : ∀ (t : List Change) (i : Nat) (prev : Option ByteArray), (∀ f ∈ t, changeFault f = 0) → SortedC t → (∀ p f, prev = some p → f ∈ t → less p f.path = true) → patchGo i prev t = (0, 0)
  | [], _, _, _, _, _ => rfl
  | f :: r, i, prev, h1, h2, h3 => by
    obtain ⟨g1, g2⟩ := List.pairwise_cons.1 h2
    have hp : ¬ prev.any (fun p => leqB f.path p) = true := by
      cases prev with
      | none => simp
      | some p =>
        simp only [Option.any_some]
        intro e
        have := leqB_true.1 e
        rw [h3 p f rfl (List.mem_cons_self ..)] at this
        cases this
    rw [patchGo, if_neg (by rw [h1 f (List.mem_cons_self ..)]; simp), if_neg hp]
    exact patchGo_ok r (i + 1) (some f.path) (fun x hx => h1 x (List.mem_cons_of_mem _ hx)) g2 (fun p x hp hx => by cases hp; exact g1 x hx)
theorem patch_ok {p : List Change} (h : Patch p) : patchFault p = (0, 0) := by
  unfold patchFault
  rw [if_neg (by have := h.1; omega)]
  exact patchGo_ok p 0 none h.2.1 h.2.2 (by simp)
theorem patch_of {p : List Change} (h : (patchFault p).2 = 0) : Patch p := by
  unfold patchFault at h
  by_cases h1 : 16 < p.length
  · rw [if_pos h1] at h; cases h
  · rw [if_neg h1] at h
    obtain ⟨i1, i2, _, _⟩ := patchGo_zero p 0 none h
    exact ⟨by omega, i1, i2⟩
/-! ### what a change does to what a path reads -/
def stepOf (x : Option (List ByteArray)) (c : Change) : Option (List ByteArray) × Int :=
  if c.what = 2 ∧ x.isSome = true then (none, 6)
  else if c.what ≠ 2 ∧ x.isSome = false then (none, 4)
  else if (strict (x.getD []) c.hunks).2.2 ≠ 0 then (none, (strict (x.getD []) c.hunks).2.2)
  else if c.what = 3 then (if (strict (x.getD []) c.hunks).1 = [] then (none, 0) else (none, 6))
  else (some (strict (x.getD []) c.hunks).1, 0)
def setAt (t : List File) (p : ByteArray) (y : Option (List ByteArray)) : List File :=
  match y with
  | some l => putAt t ⟨p, l⟩
  | none => dropAt t (posOf t p)
def applyGo : Nat → List File → List Change → List File × Nat × Int
  | _, t, [] => (t, 0, 0)
  | i, t, c :: r => if (stepOf (look t c.path) c).2 ≠ 0 then ([], i, (stepOf (look t c.path) c).2) else applyGo (i + 1) (setAt t c.path (stepOf (look t c.path) c).1) r
def applyR (t : List File) (p : List Change) : List File × Nat × Int :=
  if (treeFault t).2 ≠ 0 then ([], 0, (treeFault t).2)
  else if (patchFault p).2 ≠ 0 then ([], (patchFault p).1, (patchFault p).2)
  else if (applyGo 0 t p).2.2 ≠ 0 then applyGo 0 t p
  else if 8 < (applyGo 0 t p).1.length then ([], 0, 3)
  else ((applyGo 0 t p).1, 0, 0)

theorem step_none {x : Option (List ByteArray)} {c : Change} (h : stepOf x c = (none, 0)) : x.isSome = true := by
  unfold stepOf at h
  by_cases h1 : c.what = 2 ∧ x.isSome = true
  · exact h1.2
  · rw [if_neg h1] at h
    by_cases h2 : c.what ≠ 2 ∧ x.isSome = false
    · rw [if_pos h2] at h; cases h
    · rw [if_neg h2] at h
      by_cases h3 : (strict (x.getD []) c.hunks).2.2 ≠ 0
      · rw [if_pos h3] at h; exact absurd (Prod.mk.inj h).2 h3
      · rw [if_neg h3] at h
        by_cases h4 : c.what = 3
        · cases hx : x.isSome with
          | true => rfl
          | false => exact absurd ⟨by omega, hx⟩ h2
        · rw [if_neg h4] at h; cases h
theorem setAt_look {t : List File} (hs : Sorted t) {p : ByteArray} {y : Option (List ByteArray)} (hy : y = none → isAt t p = true) (q : ByteArray) : look (setAt t p y) q = if p = q then y else look t q := by
  cases y with
  | some l => exact putAt_look hs ⟨p, l⟩ q
  | none => exact dropAt_look hs (hy rfl) q
theorem setAt_sorted {t : List File} (hs : Sorted t) {p : ByteArray} {y : Option (List ByteArray)} (hy : y = none → isAt t p = true) : Sorted (setAt t p y) := by
  cases y with
  | some l => exact putAt_sorted hs ⟨p, l⟩
  | none => exact dropAt_sorted hs (hy rfl)
theorem step_at {t : List File} (hs : Sorted t) {c : Change} {y : Option (List ByteArray)} (h : stepOf (look t c.path) c = (y, 0)) : y = none → isAt t c.path = true := by
  rintro rfl
  rw [isAt_look hs]
  exact step_none h

/-- a patch leads from tree to tree: by what each path reads -/
def Leads (t : List File) (p : List Change) (b : List File) : Prop :=
  (∀ c ∈ p, stepOf (look t c.path) c = (look b c.path, 0)) ∧ ∀ q, (∀ c ∈ p, c.path ≠ q) → look b q = look t q
theorem apply_of : ∀ (p : List Change) (t b : List File) (i : Nat), Sorted t → Sorted b → SortedC p → Leads t p b → applyGo i t p = (b, 0, 0)
  | [], t, b, _, ht, hb, _, h => by
    rw [applyGo, sorted_ext ht hb fun q => (h.2 q (by simp)).symm]
  | c :: r, t, b, i, ht, hb, hp, h => by
    obtain ⟨p1, p2⟩ := List.pairwise_cons.1 hp
    have hc := h.1 c (List.mem_cons_self ..)
    have hy := step_at ht hc
    rw [applyGo, hc, if_neg (by simp)]
    refine apply_of r _ b (i + 1) (setAt_sorted ht hy) hb p2 ⟨fun d hd => ?_, fun q hq => ?_⟩
    · rw [setAt_look ht hy, if_neg (less_ne (p1 d hd))]
      exact h.1 d (List.mem_cons_of_mem _ hd)
    · rw [setAt_look ht hy]
      by_cases e : c.path = q
      · rw [if_pos e, e]
      · rw [if_neg e]
        refine h.2 q fun d hd => ?_
        rcases List.mem_cons.1 hd with rfl | hd
        · exact e
        · exact hq d hd
theorem apply_inv : ∀ (p : List Change) (t b : List File) (k i : Nat), Sorted t → SortedC p → applyGo i t p = (b, k, 0) → k = 0 ∧ Sorted b ∧ Leads t p b
  | [], t, b, k, _, ht, _, h => by
    rw [applyGo] at h
    cases h
    exact ⟨rfl, ht, by simp, fun _ _ => rfl⟩
  | c :: r, t, b, k, i, ht, hp, h => by
    obtain ⟨p1, p2⟩ := List.pairwise_cons.1 hp
    rw [applyGo] at h
    by_cases z : (stepOf (look t c.path) c).2 ≠ 0
    · rw [if_pos z] at h
      simp only [Prod.mk.injEq] at h
      exact absurd h.2.2 z
    · rw [if_neg z] at h
      have hc : stepOf (look t c.path) c = ((stepOf (look t c.path) c).1, 0) := by
        rw [Prod.ext_iff]; exact ⟨rfl, by simpa using z⟩
      generalize (stepOf (look t c.path) c).1 = y at h hc
      have hy := step_at ht hc
      obtain ⟨k0, sb, l1, l2⟩ := apply_inv r _ b k (i + 1) (setAt_sorted ht hy) p2 h
      have hcb : look b c.path = y := by
        rw [l2 c.path fun d hd => (less_ne (p1 d hd)).symm, setAt_look ht hy, if_pos rfl]
      refine ⟨k0, sb, fun d hd => ?_, fun q hq => ?_⟩
      · rcases List.mem_cons.1 hd with rfl | hd
        · rw [hc, hcb]
        · have := l1 d hd
          rwa [setAt_look ht hy, if_neg (less_ne (p1 d hd))] at this
      · rw [l2 q fun d hd => hq d (List.mem_cons_of_mem _ hd), setAt_look ht hy, if_neg (hq c (List.mem_cons_self ..))]
theorem applyR_of {t b : List File} {p : List Change} (ht : Tree t) (hp : Patch p) (hb : Sorted b) (h8 : b.length ≤ 8) (h : Leads t p b) : applyR t p = (b, 0, 0) := by
  have e := apply_of p t b 0 ht.2.2 hb hp.2.2 h
  unfold applyR
  rw [if_neg (by rw [tree_iff.1 ht]; simp), if_neg (by rw [patch_ok hp]; simp), e, if_neg (by simp), if_neg (by simp only; omega)]
theorem applyR_inv {t b : List File} {p : List Change} {k : Nat} (h : applyR t p = (b, k, 0)) : k = 0 ∧ Tree t ∧ Patch p ∧ Sorted b ∧ b.length ≤ 8 ∧ Leads t p b := by
  unfold applyR at h
  by_cases h1 : (treeFault t).2 ≠ 0
  · rw [if_pos h1] at h; simp only [Prod.mk.injEq] at h; exact absurd h.2.2 h1
  · rw [if_neg h1] at h
    by_cases h2 : (patchFault p).2 ≠ 0
    · rw [if_pos h2] at h; simp only [Prod.mk.injEq] at h; exact absurd h.2.2 h2
    · rw [if_neg h2] at h
      have ht : Tree t := tree_iff.2 (by simpa using h1)
      have hp : Patch p := patch_of (by simpa using h2)
      by_cases h3 : (applyGo 0 t p).2.2 ≠ 0
      · rw [if_pos h3] at h; rw [h] at h3; exact absurd rfl h3
      · rw [if_neg h3] at h
        by_cases h4 : 8 < (applyGo 0 t p).1.length
        · rw [if_pos h4] at h; cases h
        · rw [if_neg h4] at h
          have e : applyGo 0 t p = ((applyGo 0 t p).1, (applyGo 0 t p).2.1, 0) := by
            rw [Prod.ext_iff, Prod.ext_iff]; exact ⟨rfl, rfl, by simpa using h3⟩
          obtain ⟨_, q2, q3⟩ := apply_inv p t _ _ 0 ht.2.2 hp.2.2 e
          cases h
          exact ⟨rfl, ht, hp, q2, by omega, q3⟩

/-! ### turned -/
def turnW (k : Int) : Int := if k = 2 then 3 else if k = 3 then 2 else k
def turnC (c : Change) : Change := ⟨turnW c.what, c.path, turnHunks c.hunks⟩
def turnP (p : List Change) : List Change := p.map turnC
theorem changeFault_zero {c : Change} (h : changeFault c = 0) : 1 ≤ c.what ∧ c.what ≤ 3 ∧ pathFault c.path = 0 ∧ hunksFault c.hunks = (0, 0) ∧ shapeB c = true := by
  unfold changeFault at h
  by_cases h1 : c.what < 1 ∨ 3 < c.what
  · rw [if_pos h1] at h; cases h
  · rw [if_neg h1] at h
    by_cases h2 : pathFault c.path ≠ 0
    · rw [if_pos h2] at h; exact absurd h h2
    · rw [if_neg h2] at h
      by_cases h3 : (hunksFault c.hunks).2 ≠ 0
      · rw [if_pos h3] at h; exact absurd h h3
      · rw [if_neg h3] at h
        by_cases h4 : shapeB c = true
        · exact ⟨by omega, by omega, by simpa using h2, hunksFault_first (by simpa using h3), h4⟩
        · rw [if_neg h4] at h; cases h
theorem changeFault_of {c : Change} (h1 : 1 ≤ c.what) (h2 : c.what ≤ 3) (h3 : pathFault c.path = 0) (h4 : hunksFault c.hunks = (0, 0)) (h5 : shapeB c = true) : changeFault c = 0 := by
  unfold changeFault
  rw [if_neg (by omega), if_neg (by simp [h3]), if_neg (by simp [h4]), if_pos h5]
theorem wholeB_turn {l : List Hunk} {s : Int} (hs : s = 43 ∨ s = 45) (h : wholeB l s = true) : wholeB (turnHunks l) (88 - s) = true := by
  match l with
  | [] => rfl
  | [q] =>
    unfold wholeB at h
    simp only [Bool.and_eq_true, decide_eq_true_eq, List.all_eq_true] at h
    obtain ⟨⟨h1, h2⟩, h3⟩ := h
    show (decide (q.new = 0) && decide (q.old = 0) && (q.marks.map turnMark).all fun m => decide (m.sign = 88 - s)) = true
    rw [Bool.and_eq_true, Bool.and_eq_true]
    refine ⟨⟨decide_eq_true h2, decide_eq_true h1⟩, List.all_eq_true.2 fun m hm => ?_⟩
    obtain ⟨x, hx, rfl⟩ := List.mem_map.1 hm
    have := h3 x hx
    refine decide_eq_true ?_
    unfold turnMark
    rcases hs with rfl | rfl
    · simp [this]
    · simp [this]
  | _ :: _ :: _ => cases h
theorem turnC_ok {c : Change} (h : changeFault c = 0) : changeFault (turnC c) = 0 := by
  obtain ⟨h1, h2, h3, h4, h5⟩ := changeFault_zero h
  have hw : c.what = 1 ∨ c.what = 2 ∨ c.what = 3 := by omega
  refine changeFault_of ?_ ?_ h3 (turn_ok h4) ?_
  · show 1 ≤ turnW c.what
    rcases hw with e | e | e <;> rw [e] <;> decide
  · show turnW c.what ≤ 3
    rcases hw with e | e | e <;> rw [e] <;> decide
  · unfold shapeB at h5 ⊢
    show (if turnW c.what = 2 then wholeB (turnHunks c.hunks) 43 else if turnW c.what = 3 then wholeB (turnHunks c.hunks) 45 else !(turnHunks c.hunks).isEmpty) = true
    rcases hw with e | e | e
    · rw [e, if_neg (by decide), if_neg (by decide)] at h5
      rw [e, if_neg (by decide), if_neg (by decide)]
      unfold turnHunks
      cases hh : c.hunks with
      | nil => rw [hh] at h5; cases h5
      | cons a b => rfl
    · rw [e, if_pos rfl] at h5
      rw [e, if_neg (by decide), if_pos (by decide)]
      exact wholeB_turn (.inl rfl) h5
    · rw [e, if_neg (by decide), if_pos rfl] at h5
      rw [e, if_pos (by decide)]
      exact wholeB_turn (.inr rfl) h5
theorem patch_turn {p : List Change} (h : Patch p) : Patch (turnP p) := by
  refine ⟨by unfold turnP; rw [List.length_map]; exact h.1, fun c hc => ?_, ?_⟩
  · obtain ⟨x, hx, rfl⟩ := List.mem_map.1 hc
    exact turnC_ok (h.2.1 x hx)
  · unfold SortedC turnP
    rw [List.pairwise_map]
    exact h.2.2
theorem step_undo {x y : Option (List ByteArray)} {c : Change} (hc : changeFault c = 0) (h : stepOf x c = (y, 0)) : stepOf y (turnC c) = (x, 0) := by
  obtain ⟨c1, c2, _, _, _⟩ := changeFault_zero hc
  have hw : c.what = 1 ∨ c.what = 2 ∨ c.what = 3 := by omega
  unfold stepOf at h
  by_cases h1 : c.what = 2 ∧ x.isSome = true
  · rw [if_pos h1] at h; cases h
  · rw [if_neg h1] at h
    by_cases h2 : c.what ≠ 2 ∧ x.isSome = false
    · rw [if_pos h2] at h; cases h
    · rw [if_neg h2] at h
      by_cases h3 : (strict (x.getD []) c.hunks).2.2 ≠ 0
      · rw [if_pos h3] at h; simp only [Prod.mk.injEq] at h; exact absurd h.2 h3
      · rw [if_neg h3] at h
        have e : strict (x.getD []) c.hunks = ((strict (x.getD []) c.hunks).1, (strict (x.getD []) c.hunks).2.1, 0) := by
          rw [Prod.ext_iff, Prod.ext_iff]; exact ⟨rfl, rfl, by simpa using h3⟩
        have u := (strict_undo e).1
        rcases hw with w | w | w
        · rw [if_neg (by omega)] at h
          have hy := (Prod.mk.inj h).1
          cases x with
          | none => exact absurd ⟨by omega, rfl⟩ h2
          | some l =>
            subst hy
            unfold stepOf turnC turnW
            simp only [w, Option.getD_some] at u ⊢
            simp [u]
        · rw [if_neg (by omega)] at h
          have hy := (Prod.mk.inj h).1
          cases x with
          | some l => exact absurd ⟨w, rfl⟩ h1
          | none =>
            subst hy
            unfold stepOf turnC turnW
            simp only [w, Option.getD_some, Option.getD_none] at u ⊢
            simp [u]
        · rw [if_pos w] at h
          cases x with
          | none => exact absurd ⟨by omega, rfl⟩ h2
          | some l =>
            by_cases q : (strict ((some l).getD []) c.hunks).1 = []
            · rw [if_pos q] at h
              have hy := (Prod.mk.inj h).1
              subst hy
              rw [q] at u
              unfold stepOf turnC turnW
              simp only [w, Option.getD_some, Option.getD_none] at u ⊢
              simp [u]
            · rw [if_neg q] at h; cases h
theorem leads_turn {t b : List File} {p : List Change} (hp : ∀ c ∈ p, changeFault c = 0) (h : Leads t p b) : Leads b (turnP p) t := by
  refine ⟨fun c hc => ?_, fun q hq => ?_⟩
  · obtain ⟨x, hx, rfl⟩ := List.mem_map.1 hc
    exact step_undo (hp x hx) (h.1 x hx)
  · exact (h.2 q fun c hc => hq (turnC c) (List.mem_map_of_mem hc)).symm
theorem step_lines {x y : Option (List ByteArray)} {c : Change} (h : stepOf x c = (y, 0)) : ∀ l, y = some l → linesFault l = 0 := by
  rintro l rfl
  unfold stepOf at h
  by_cases h1 : c.what = 2 ∧ x.isSome = true
  · rw [if_pos h1] at h; cases h
  · rw [if_neg h1] at h
    by_cases h2 : c.what ≠ 2 ∧ x.isSome = false
    · rw [if_pos h2] at h; cases h
    · rw [if_neg h2] at h
      by_cases h3 : (strict (x.getD []) c.hunks).2.2 ≠ 0
      · rw [if_pos h3] at h; cases h
      · rw [if_neg h3] at h
        have e : strict (x.getD []) c.hunks = ((strict (x.getD []) c.hunks).1, (strict (x.getD []) c.hunks).2.1, 0) := by
          rw [Prod.ext_iff, Prod.ext_iff]; exact ⟨rfl, rfl, by simpa using h3⟩
        by_cases h4 : c.what = 3
        · rw [if_pos h4] at h
          split at h <;> cases h
        · rw [if_neg h4] at h
          have := Option.some.inj (Prod.mk.inj h).1
          rw [← this]
          exact (strict_undo e).2
/-- what comes of a tree is one -/
theorem leads_tree {t b : List File} {p : List Change} (ht : Tree t) (hp : Patch p) (hb : Sorted b) (h8 : b.length ≤ 8) (h : Leads t p b) : Tree b := by
  refine ⟨h8, fun f hf => ?_, hb⟩
  have hl := look_mem hb hf
  by_cases e : ∃ c ∈ p, c.path = f.path
  · obtain ⟨c, hc, e⟩ := e
    have hs := h.1 c hc
    rw [e, hl] at hs
    unfold fileFault
    rw [if_pos (by rw [← e]; exact (changeFault_zero (hp.2.1 c hc)).2.2.1)]
    exact step_lines hs _ rfl
  · have := h.2 f.path fun c hc g => e ⟨c, hc, g⟩
    rw [hl] at this
    obtain ⟨x, hx, e1, e2⟩ := look_some this.symm
    have q : x = f := by cases x; cases f; simp only at e1 e2; rw [e1, e2]
    exact q ▸ ht.2.1 x hx
/-- what was done is undone -/
theorem apply_back {t b : List File} {p : List Change} {k : Nat} (h : applyR t p = (b, k, 0)) : applyR b (turnP p) = (t, 0, 0) := by
  obtain ⟨_, ht, hp, hb, h8, hl⟩ := applyR_inv h
  exact applyR_of (leads_tree ht hp hb h8 hl) (patch_turn hp) ht.2.2 ht.1 (leads_turn hp.2.1 hl)
end Go.Proofs.YtjiaidchcldocaaGreatDoor
namespace Go.Proofs.YtjiaidchcldocaaGreatDoor

def textG (p : List Change) : List UInt8 := textL (linesG p)
def parseG (s : List UInt8) : List Change × Int :=
  if 400000 < s.length then ([], 5) else match changesG (parts 10 s).dropLast.length (parts 10 s).dropLast with
  | none => ([], 5)
  | some p => if (parts 10 s).getLast? ≠ some [] then ([], 5) else if (patchFault p).2 ≠ 0 then ([], (patchFault p).2) else (p, 0)
theorem parts_has {d c : UInt8} : ∀ {s : List UInt8}, c ∈ s → c = d ∨ ∃ x ∈ parts d s, c ∈ x
  | [], h => by cases h
  | e :: r, h => by
    obtain ⟨h', t, er⟩ := List.exists_cons_of_ne_nil (parts_ne d r)
    by_cases he : e = d
    · subst he
      rw [parts_sep]
      rcases List.mem_cons.1 h with rfl | h
      · exact .inl rfl
      · rcases parts_has (d := e) h with q | ⟨x, hx, q⟩
        · exact .inl q
        · exact .inr ⟨x, List.mem_cons_of_mem _ hx, q⟩
    · rw [parts_other he er]
      rcases List.mem_cons.1 h with rfl | h
      · exact .inr ⟨c :: h', List.mem_cons_self .., List.mem_cons_self ..⟩
      · rcases parts_has (d := d) h with q | ⟨x, hx, q⟩
        · exact .inl q
        · rw [er] at hx
          rcases List.mem_cons.1 hx with rfl | hx
          · exact .inr ⟨e :: x, List.mem_cons_self .., List.mem_cons_of_mem _ q⟩
          · exact .inr ⟨x, List.mem_cons_of_mem _ hx, q⟩
theorem path_fine {s : ByteArray} (h : pathFault s = 0) : s.data.toList.length ≤ 20 ∧ ∀ c ∈ s.data.toList, c ≠ 10 := by
  unfold pathFault at h
  by_cases hl : 20 < s.size
  · rw [if_pos hl] at h; cases h
  · rw [if_neg hl] at h
    refine ⟨by simpa using Nat.le_of_not_lt hl, fun c hc e => ?_⟩
    by_cases ha : (parts 47 s.data.toList).all nameOk = true
    · subst e
      rcases parts_has (d := 47) hc with q | ⟨x, hx, q⟩
      · exact absurd q (by decide)
      · have := List.all_eq_true.1 ha x hx
        unfold nameOk at this
        rw [Bool.and_eq_true] at this
        exact absurd (List.all_eq_true.1 this.2 10 q) (by decide)
    · rw [if_neg ha] at h; cases h
theorem change_ok {c : Change} (h : changeFault c = 0) : (c.what = 1 ∨ c.what = 2 ∨ c.what = 3) ∧ pathFault c.path = 0 ∧ (hunksFault c.hunks).2 = 0 := by
  unfold changeFault at h
  by_cases h1 : c.what < 1 ∨ 3 < c.what
  · rw [if_pos h1] at h; cases h
  · rw [if_neg h1] at h
    by_cases h2 : pathFault c.path ≠ 0
    · rw [if_pos h2] at h; exact absurd h h2
    · rw [if_neg h2] at h
      by_cases h3 : (hunksFault c.hunks).2 ≠ 0
      · rw [if_pos h3] at h; exact absurd h h3
      · exact ⟨by omega, by simpa using h2, by simpa using h3⟩
theorem hunks_short {l : List Hunk} (e : (hunksFault l).2 = 0) : (textL (linesU l)).length ≤ 11280 := by
  unfold hunksFault at e
  by_cases hl : 60 < l.length
  · rw [if_pos hl] at e; cases e
  · rw [if_neg hl] at e
    obtain ⟨_, _, h3⟩ := go_ok l 0 0 0 (by decide) (by decide) e
    omega
theorem noneL_10 : ∀ c ∈ noneL, c ≠ 10 := by decide
theorem from_fine (w : Int) {p : List UInt8} (h : p.length ≤ 20 ∧ ∀ c ∈ p, c ≠ 10) : (mmL ++ fromL w p).length ≤ 26 ∧ (∀ c ∈ mmL ++ fromL w p, c ≠ 10) ∧ (ppL ++ toL w p).length ≤ 26 ∧ (∀ c ∈ ppL ++ toL w p, c ≠ 10) := by
  have ha : ∀ c ∈ mmL, c ≠ 10 := by decide
  have hb : ∀ c ∈ ppL, c ≠ 10 := by decide
  have h1 : (fromL w p).length ≤ 22 ∧ ∀ c ∈ fromL w p, c ≠ 10 := by
    unfold fromL
    by_cases e : w = 2
    · rw [if_pos e]; exact ⟨by decide, noneL_10⟩
    · rw [if_neg e]
      refine ⟨by simp; omega, fun c hc => ?_⟩
      rcases List.mem_append.1 hc with q | q
      · exact (by decide : ∀ c ∈ ([97, 47] : List UInt8), c ≠ 10) c q
      · exact h.2 c q
  have h2 : (toL w p).length ≤ 22 ∧ ∀ c ∈ toL w p, c ≠ 10 := by
    unfold toL
    by_cases e : w = 3
    · rw [if_pos e]; exact ⟨by decide, noneL_10⟩
    · rw [if_neg e]
      refine ⟨by simp; omega, fun c hc => ?_⟩
      rcases List.mem_append.1 hc with q | q
      · exact (by decide : ∀ c ∈ ([98, 47] : List UInt8), c ≠ 10) c q
      · exact h.2 c q
  refine ⟨?_, fun c hc => ?_, ?_, fun c hc => ?_⟩
  · rw [List.length_append, show mmL.length = 4 from rfl]; omega
  · rcases List.mem_append.1 hc with q | q
    · exact ha c q
    · exact h1.2 c q
  · rw [List.length_append, show ppL.length = 4 from rfl]; omega
  · rcases List.mem_append.1 hc with q | q
    · exact hb c q
    · exact h2.2 c q
theorem changes_ok : ∀ (p : List Change), (∀ c ∈ p, changeFault c = 0) → (∀ x ∈ linesG p, ∀ c ∈ x, c ≠ 10) ∧ (textG p).length ≤ 11340 * p.length
  | [], _ => ⟨fun _ h => (by cases h), by show (0 : Nat) ≤ 0; omega⟩
  | c :: p, h => by
    obtain ⟨i1, i2⟩ := changes_ok p fun d hd => h d (List.mem_cons_of_mem _ hd)
    obtain ⟨_, q2, q3⟩ := change_ok (h c (List.mem_cons_self ..))
    obtain ⟨f1, f2, f3, f4⟩ := from_fine c.what (path_fine q2)
    have hs := hunks_short q3
    have hn := (hunks_ok q3).2.1
    have e : linesG (c :: p) = (mmL ++ fromL c.what c.path.data.toList) :: (ppL ++ toL c.what c.path.data.toList) :: (linesU c.hunks ++ linesG p) := rfl
    have et : (textG (c :: p)).length = (mmL ++ fromL c.what c.path.data.toList).length + 1 + ((ppL ++ toL c.what c.path.data.toList).length + 1 + ((textL (linesU c.hunks)).length + (textG p).length)) := by
      unfold textG
      rw [e]
      show ((mmL ++ fromL c.what c.path.data.toList) ++ [10] ++ ((ppL ++ toL c.what c.path.data.toList) ++ [10] ++ textL (linesU c.hunks ++ linesG p))).length = _
      rw [textL_app]
      simp only [List.length_append, List.length_singleton]
    refine ⟨fun x hx => ?_, by rw [et, List.length_cons]; omega⟩
    rw [e] at hx
    rcases List.mem_cons.1 hx with rfl | hx
    · exact f2
    · rcases List.mem_cons.1 hx with rfl | hx
      · exact f4
      · rcases List.mem_append.1 hx with hx | hx
        · exact hn x hx
        · exact i1 x hx
/-- what is printed is read -/
theorem git_back {p : List Change} (e : (patchFault p).2 = 0) : parseG (textG p) = (p, 0) := by
  have hlen : p.length ≤ 16 ∧ ∀ c ∈ p, changeFault c = 0 := by
    unfold patchFault at e
    by_cases h : 16 < p.length
    · rw [if_pos h] at e; cases e
    · rw [if_neg h] at e
      exact ⟨by omega, (patchGo_zero p 0 none e).1⟩
  obtain ⟨h1, h2⟩ := changes_ok p hlen.2
  have hp : parts 10 (textG p) = linesG p ++ [[]] := by
    have := parts_text (linesG p) [] h1
    rwa [List.append_nil] at this
  unfold parseG
  rw [if_neg (by omega), hp, List.dropLast_concat, changes_back p _ (Nat.le_refl _) fun c hc => ⟨(change_ok (hlen.2 c hc)).1, (hunks_ok (change_ok (hlen.2 c hc)).2.2).1⟩]
  simp only
  rw [if_neg (by rw [List.getLast?_append]; simp), if_neg (by rw [e]; simp)]
end Go.Proofs.YtjiaidchcldocaaGreatDoor
namespace Go.Proofs.YtjiaidchcldocaaGreatDoor

/-- a mail's piece, or why it has none -/
def pieceF (m : Mail) : Int := if mailFault m ≠ 0 then mailFault m else match mpartOf m with
  | none => 5
  | some _ => (parseG m.body).2
def pieceOf (m : Mail) : Piece := match mpartOf m with
  | none => ⟨[], 0, 0, []⟩
  | some (t, a, b) => ⟨t, a, b, (parseG m.body).1⟩
/-- what a series opens as -/
def openMs (l : List Mail) : List UInt8 × List (List Change) × Int := if firstOf pieceF l ≠ 0 then ([], [], firstOf pieceF l) else openPs (l.map pieceOf)
/-- what a patch is packed as -/
def packOne (t : List UInt8) (n k : Nat) (c : List Change) : Mail := partMail t k n (textG c)
def packFault (c : List Change) : Int := if (patchFault c).2 ≠ 0 then (patchFault c).2 else if 40000 < (textG c).length then 3 else 0
def packGo (t : List UInt8) (n : Nat) : Nat → List (List Change) → List Mail
  | _, [] => []
  | k, c :: r => packOne t n k c :: packGo t n (k + 1) r
def packL (t : List UInt8) (p : List (List Change)) : List Mail := partMail t 0 p.length [] :: packGo t p.length 1 p
def packF (t : List UInt8) (p : List (List Change)) : Int := if 8 < p.length then 3 else if titledB t = false then 5 else firstOf packFault p
def packR (t : List UInt8) (p : List (List Change)) : List Mail := if packF t p = 0 then packL t p else []
theorem packGo_len (t : List UInt8) (n : Nat) : ∀ (k : Nat) (p : List (List Change)), (packGo t n k p).length = p.length
  | _, [] => rfl
  | k, c :: r => by rw [packGo, List.length_cons, packGo_len t n (k + 1) r, List.length_cons]
theorem packGo_app (t : List UInt8) (n : Nat) : ∀ (k : Nat) (p q : List (List Change)), packGo t n k (p ++ q) = packGo t n k p ++ packGo t n (k + p.length) q
  | k, [], q => rfl
  | k, c :: r, q => by
    rw [List.cons_append, packGo, packGo, packGo_app t n (k + 1) r q, List.length_cons, List.cons_append, show k + 1 + r.length = k + (r.length + 1) by omega]
theorem packGo_take {t : List UInt8} {n i : Nat} {p : List (List Change)} {c : List Change} (hx : p[i]? = some c) : packGo t n 1 (p.take (i + 1)) = packGo t n 1 (p.take i) ++ [packOne t n (i + 1) c] := by
  have hi := (List.getElem?_eq_some_iff.1 hx).1
  rw [List.take_add_one, hx, Option.toList_some, packGo_app, List.length_take, Nat.min_eq_left (by omega), Nat.add_comm 1 i]
  rfl
/-! ### sizes -/
theorem titled_ok {t : List UInt8} (h : titledB t = true) : t ≠ [] ∧ t.length ≤ 20 ∧ ∀ c ∈ t, 32 ≤ c.toNat ∧ c.toNat ≤ 126 := by
  unfold titledB at h
  simp only [Bool.and_eq_true, Bool.not_eq_true', beq_eq_false_iff_ne, ne_eq, decide_eq_true_eq, List.all_eq_true] at h
  exact ⟨h.1.1, h.1.2, h.2⟩
/-- a mail that was packed may be -/
theorem part_fault {t body : List UInt8} {a b : Nat} (hab : a ≤ b) (hb : b ≤ 8) (ht : titledB t = true) (hz : body.length ≤ 40000) : mailFault (partMail t a b body) = 0 := by
  obtain ⟨h1, h2, h3⟩ := titled_ok ht
  have dg : ∀ {n : Nat}, n ≤ 8 → (Lib.decDigits n).length = 1 ∧ (∀ c ∈ Lib.decDigits n, 48 ≤ c.toNat ∧ c.toNat ≤ 57) := by decide +kernel
  obtain ⟨a1, a2⟩ := dg (n := a) (by omega)
  obtain ⟨b1, b2⟩ := dg (n := b) hb
  have hs : wordB (subjL a b t) = true := by
    unfold wordB subjL
    have e : (patW ++ (Lib.decDigits a ++ [47] ++ (Lib.decDigits b ++ [93, 32] ++ t)) == []) = false := by unfold patW; rfl
    rw [e]
    simp only [Bool.not_false, Bool.true_and, Bool.and_eq_true, decide_eq_true_eq, List.all_eq_true]
    refine ⟨by simp only [List.length_append, a1, b1, List.length_cons, List.length_nil, patW]; omega, fun c hc => ?_⟩
    unfold patW at hc
    simp only [List.mem_append, List.mem_cons, List.not_mem_nil, or_false] at hc
    rcases hc with hc | (hc | hc) | (hc | hc) | hc
    · rcases hc with rfl | rfl | rfl | rfl | rfl | rfl | rfl <;> decide
    · have := a2 c hc; omega
    · subst hc; decide
    · have := b2 c hc; omega
    · rcases hc with rfl | rfl <;> decide
    · exact h3 c hc
  have hi : wordB (idL a b) = true := by
    unfold wordB idL
    have e : (Lib.decDigits a ++ [46] ++ Lib.decDigits b == []) = false := by
      rw [beq_eq_false_iff_ne]
      intro q
      have := congrArg List.length q
      simp at this
    rw [e]
    simp only [Bool.not_false, Bool.true_and, Bool.and_eq_true, decide_eq_true_eq, List.all_eq_true]
    refine ⟨by simp only [List.length_append, a1, b1, List.length_cons, List.length_nil]; omega, fun c hc => ?_⟩
    simp only [List.mem_append, List.mem_cons, List.not_mem_nil, or_false] at hc
    rcases hc with (hc | hc) | hc
    · have := a2 c hc; omega
    · subst hc; decide
    · have := b2 c hc; omega
  have hm : ∀ x : UInt8, (x = 60 ∨ x = 62) → x ∉ idL a b := fun x hx hc => by
    unfold idL at hc
    simp only [List.mem_append, List.mem_cons, List.not_mem_nil, or_false] at hc
    rcases hx with rfl | rfl
    all_goals
      rcases hc with (hc | hc) | hc
      · have := a2 _ hc; revert this; decide
      · revert hc; decide
      · have := b2 _ hc; revert this; decide
  unfold mailFault partMail
  simp only [toB_data]
  rw [hs, hi, if_neg (by
    rintro (q | q | q | q | q)
    · exact absurd q (by decide)
    · exact absurd q (by decide)
    · exact absurd q (by decide)
    · exact hm 60 (.inl rfl) q
    · exact hm 62 (.inr rfl) q), if_neg (by omega)]
/-- its piece -/
theorem piece_back {t : List UInt8} {c : List Change} {a b : Nat} (ha : 1 ≤ a) (hab : a ≤ b) (hb : b ≤ 8) (ht : titledB t = true) (hc : packFault c = 0) : pieceF (packOne t b a c) = 0 ∧ pieceOf (packOne t b a c) = ⟨t, a, b, c⟩ := by
  unfold packFault at hc
  by_cases h1 : (patchFault c).2 ≠ 0
  · rw [if_pos h1] at hc; exact absurd hc h1
  · rw [if_neg h1] at hc
    by_cases h2 : 40000 < (textG c).length
    · rw [if_pos h2] at hc; cases hc
    · have hb2 : parseG (textG c) = (c, 0) := git_back (by simpa using h1)
      have hp : mpartOf (packOne t b a c) = some (t, a, b) := part_back hab hb ht (by omega)
      have hf : mailFault (packOne t b a c) = 0 := part_fault hab hb ht (by omega)
      have hbd : (packOne t b a c).body = textG c := rfl
      unfold pieceF pieceOf
      rw [hf, hp, if_neg (by simp)]
      simp only
      rw [hbd, hb2]
      exact ⟨rfl, rfl⟩
theorem parseG_nil : parseG [] = ([], 0) := by decide +kernel
theorem cover_back {t : List UInt8} {b : Nat} (hb : b ≤ 8) (ht : titledB t = true) : pieceF (partMail t 0 b []) = 0 ∧ pieceOf (partMail t 0 b []) = ⟨t, 0, b, []⟩ := by
  have hp : mpartOf (partMail t 0 b []) = some (t, 0, b) := part_back (Nat.zero_le _) hb ht (fun _ => rfl)
  have hf : mailFault (partMail t 0 b []) = 0 := part_fault (Nat.zero_le _) hb ht (by simp)
  have hbd : (partMail t 0 b []).body = [] := rfl
  unfold pieceF pieceOf
  rw [hf, hp, if_neg (by simp)]
  simp only
  rw [hbd, parseG_nil]
  exact ⟨rfl, rfl⟩
theorem packF_ok {t : List UInt8} {p : List (List Change)} (h : packF t p = 0) : p.length ≤ 8 ∧ titledB t = true ∧ ∀ c ∈ p, packFault c = 0 := by
  unfold packF at h
  by_cases h1 : 8 < p.length
  · rw [if_pos h1] at h; cases h
  · rw [if_neg h1] at h
    by_cases h2 : titledB t = false
    · rw [if_pos h2] at h; cases h
    · rw [if_neg h2, firstOf_zero] at h
      exact ⟨by omega, by simpa using h2, h⟩
theorem packGo_pieces {t : List UInt8} {n : Nat} (hn : n ≤ 8) (ht : titledB t = true) : ∀ (k : Nat) (p : List (List Change)), 1 ≤ k → k + p.length ≤ n + 1 → (∀ c ∈ p, packFault c = 0) → (∀ x ∈ packGo t n k p, pieceF x = 0) ∧ (packGo t n k p).map pieceOf = canonGo t n k p
  | _, [], _, _, _ => ⟨fun x hx => (by cases hx), rfl⟩
  | k, c :: r, hk, hl, hc => by
    rw [List.length_cons] at hl
    obtain ⟨i1, i2⟩ := packGo_pieces hn ht (k + 1) r (by omega) (by omega) fun d hd => hc d (List.mem_cons_of_mem _ hd)
    obtain ⟨j1, j2⟩ := piece_back (b := n) hk (by omega) hn ht (hc c (List.mem_cons_self ..))
    rw [packGo, canonGo, List.map_cons, j2, i2]
    refine ⟨fun x hx => ?_, rfl⟩
    rcases List.mem_cons.1 hx with rfl | hx
    · exact j1
    · exact i1 x hx
/-- what is packed: its pieces -/
theorem pack_pieces {t : List UInt8} {p : List (List Change)} (h : packF t p = 0) : (∀ x ∈ packL t p, pieceF x = 0) ∧ (packL t p).map pieceOf = canonP t p := by
  obtain ⟨h1, h2, h3⟩ := packF_ok h
  obtain ⟨i1, i2⟩ := packGo_pieces (n := p.length) h1 h2 1 p (Nat.le_refl _) (by omega) h3
  obtain ⟨j1, j2⟩ := cover_back h1 h2
  unfold packL canonP
  rw [List.map_cons, j2, i2]
  refine ⟨fun x hx => ?_, rfl⟩
  rcases List.mem_cons.1 hx with rfl | hx
  · exact j1
  · exact i1 x hx
theorem firstOf_all {l : List Mail} (h : ∀ x ∈ l, pieceF x = 0) : firstOf pieceF l = 0 := (firstOf_zero _ _).2 h
/-- in whatever order it comes -/
theorem openMs_perm {t : List UInt8} {p : List (List Change)} {l : List Mail} (h : packF t p = 0) (hp : l.Perm (packL t p)) : openMs l = (t, p, 0) := by
  obtain ⟨h1, h2⟩ := pack_pieces h
  unfold openMs
  rw [firstOf_all fun x hx => h1 x (hp.mem_iff.1 hx), if_neg (by simp)]
  exact open_perm (by rw [← h2]; exact hp.map _)
end Go.Proofs.YtjiaidchcldocaaGreatDoor
namespace Go.Proofs.YtjiaidchcldocaaGreatDoor
open Go.RowKit

abbrev IsB : Nat → Nat → List Value → World → Prop := Lib.IsBuilderF 140 5
abbrev BAt (B b : Nat) (bs : List Value) (w : World) : Prop := Lib.BuilderAtF 140 5 B b (.pointer (some ⟨b, 0, none⟩)) bs w
theorem bld_info : (Tryz.prog.info? 140).map (·.size) = some 2 := by kernel_rfl
theorem bld_lies : liesAt Tryz.prog Tryz.prog.depth 140 (2 / Tryz.prog.cellsOf 140) 0 140 1 = true := by kernel_rfl
theorem bld_byte : (Tryz.prog.info? 5).map (fun i => (i.zero, i.size, i.bytes)) = some (some (.int .u8 0), 1, 1) := by kernel_rfl

end Go.Proofs.YtjiaidchcldocaaGreatDoor
namespace Go.Proofs.YtjiaidchcldocaaGreatDoor
open Go.RowKit

theorem bat_keep {B b : Nat} {bs : List Value} {w w' : World} {p : Value} (h : Lib.BuilderAtF 140 5 B b p bs w) (hc : Chg Never w w') : Lib.BuilderAtF 140 5 B b p bs w' := by
  have hlt := h.lt
  obtain ⟨hB, v, hv, hown, hne⟩ := h
  refine ⟨hB, v, (hc.block b hlt (fun x => x)).trans hv, hown.kept (row := none) ⟨hc.os, hc.tape, hc.output, hc.size, fun k hk _ => hc.block k hk (fun x => x)⟩ (Classical.em _), hne⟩
theorem bld_keep {B b : Nat} {bs : List Value} {w w' : World} (h : IsB B b bs w) (hc : Chg Never w w') : IsB B b bs w' :=
  h.elim (fun x => .inl (bat_keep x hc)) (fun x => .inr (bat_keep x hc))
end Go.Proofs.YtjiaidchcldocaaGreatDoor
namespace Go.Proofs.YtjiaidchcldocaaGreatDoor
open Go.RowKit

/-- block B holds two cells of its own -/
def Blk2 (w : World) (B : Nat) (t : TypeId) (x y : Value) : Prop := w.heap[B]? = some (.cells #[x, y] t (0, 0))
theorem Blk2.cell {w : World} {B : Nat} {t : TypeId} {x y : Value} (h : Blk2 w B t x y) : w.cell? ⟨B, 0, none⟩ = some x ∧ w.cell? ⟨B, 1, none⟩ = some y := by
  unfold Blk2 at h
  refine ⟨?_, ?_⟩ <;> (unfold World.cell?; rw [h]; rfl)
theorem Blk2.free {w : World} {B : Nat} {t : TypeId} {x y : Value} (h : Blk2 w B t x y) (j : Nat) : w.frozen? ⟨B, j, none⟩ = false := by
  unfold Blk2 at h
  unfold World.frozen?; rw [h]; simp
theorem Blk2.lt {w : World} {B : Nat} {t : TypeId} {x y : Value} (h : Blk2 w B t x y) : B < w.heap.size := (Array.getElem?_eq_some_iff.1 h).1
theorem Blk2.keep {w w' : World} {B : Nat} {t : TypeId} {x y : Value} {O : Nat → Prop} (h : Blk2 w B t x y) (hc : Chg O w w') (hB : ¬ O B) : Blk2 w' B t x y := by
  unfold Blk2 at *
  rw [hc.block B (Array.getElem?_eq_some_iff.1 h).1 hB]
  exact h
theorem Blk2.set1 {w : World} {B : Nat} {t : TypeId} {x y : Value} (h : Blk2 w B t x y) (u : Value) : Blk2 (w.setCell ⟨B, 1, none⟩ u) B t x u := by
  unfold Blk2 at *
  simp [World.setCell, Array.getElem?_modify, h]
theorem Blk2.new (w : World) (t : TypeId) (x y : Value) : Blk2 (w.alloc (.cells #[x, y] t)) w.heap.size t x y := heap_alloc_new _ _
/-- a block of three cells, as it is -/
def Blk3 (w : World) (B : Nat) (t : TypeId) (x y z : Value) : Prop := w.heap[B]? = some (.cells #[x, y, z] t (0, 0))
theorem Blk3.cell {w : World} {B : Nat} {t : TypeId} {x y z : Value} (h : Blk3 w B t x y z) : w.cell? ⟨B, 0, none⟩ = some x ∧ w.cell? ⟨B, 1, none⟩ = some y ∧ w.cell? ⟨B, 2, none⟩ = some z := by
  unfold Blk3 at h
  simp [World.cell?, h]
theorem Blk3.free {w : World} {B : Nat} {t : TypeId} {x y z : Value} (h : Blk3 w B t x y z) (j : Nat) : w.frozen? ⟨B, j, none⟩ = false := by
  unfold Blk3 at h
  simp [World.frozen?, h]
theorem Blk3.lt {w : World} {B : Nat} {t : TypeId} {x y z : Value} (h : Blk3 w B t x y z) : B < w.heap.size := (Array.getElem?_eq_some_iff.1 h).1
theorem Blk3.keep {w w' : World} {B : Nat} {t : TypeId} {x y z : Value} {O : Nat → Prop} (h : Blk3 w B t x y z) (hc : Chg O w w') (hB : ¬ O B) : Blk3 w' B t x y z := by
  have := hc.block B h.lt hB
  unfold Blk3 at *
  rw [this]
  exact h
theorem Blk3.set2 {w : World} {B : Nat} {t : TypeId} {x y z : Value} (h : Blk3 w B t x y z) (u : Value) : Blk3 (w.setCell ⟨B, 2, none⟩ u) B t x y u := by
  unfold Blk3 at *
  simp [World.setCell, Array.getElem?_modify, h]
theorem Blk3.set0 {w : World} {B : Nat} {t : TypeId} {x y z : Value} (h : Blk3 w B t x y z) (u : Value) : Blk3 (w.setCell ⟨B, 0, none⟩ u) B t u y z := by
  unfold Blk3 at *
  simp [World.setCell, Array.getElem?_modify, h]
theorem Blk3.set1 {w : World} {B : Nat} {t : TypeId} {x y z : Value} (h : Blk3 w B t x y z) (u : Value) : Blk3 (w.setCell ⟨B, 1, none⟩ u) B t x u z := by
  unfold Blk3 at *
  simp [World.setCell, Array.getElem?_modify, h]
theorem Blk3.new (w : World) (t : TypeId) (x y z : Value) : Blk3 (w.alloc (.cells #[x, y, z] t)) w.heap.size t x y z := heap_alloc_new _ _
theorem own_isSlice {α : Type} [Dat α] {e : TypeId} {w : World} {O : Nat → Prop} {v : Value} {l : List α} (h : Own e w O v l) : ∃ a n c, v = .slice a n c := by
  obtain ⟨xs, hx, _⟩ := h
  rcases hx.2 with ⟨h, _⟩ | ⟨g, cap, cur, h, _⟩
  · exact ⟨_, _, _, h⟩
  · exact ⟨_, _, _, h⟩
theorem cell_put_eq {w : World} {p : Addr} {v : Value} (h : w.cell? p = some v) : w.setCell p v = w := by
  have e : (w.setCell p v).heap = w.heap := by
    unfold World.setCell World.cell? at *
    apply Array.ext_getElem?
    intro i
    simp only [Array.getElem?_modify]
    by_cases hi : p.block = i
    · subst hi
      rw [if_pos rfl]
      cases hb : w.heap[p.block]? with
      | none => rfl
      | some ob =>
        rw [hb] at h
        cases ob with
        | cells c e f =>
          simp only at h
          by_cases hs : p.spot.isSome = true
          · rw [if_pos hs] at h; cases h
          · rw [if_neg hs] at h
            simp only [Option.map_some, hs]
            congr 2
            apply Array.ext_getElem?
            intro j
            simp only [Bool.false_eq_true, if_false]
            rw [Array.getElem?_setIfInBounds]
            by_cases hj : p.off = j
            · subst hj
              rw [if_pos rfl]
              split
              · exact h.symm
              · rw [Array.getElem?_eq_none (by omega)]
            · rw [if_neg hj]
        | _ => rfl
    · rw [if_neg hi]
  have : w.setCell p v = { w with heap := (w.setCell p v).heap } := rfl
  rw [this, e]
end Go.Proofs.YtjiaidchcldocaaGreatDoor
namespace Go.Proofs.YtjiaidchcldocaaGreatDoor
open Go.RowKit

/-- each block of cells that are no bytes, but for block b, stays -/
def Keeps (b : Nat) (w w' : World) : Prop := ∀ (k : Nat) (c : Array Value) (T : TypeId) (fz : Nat × Nat), k ≠ b → w.heap[k]? = some (.cells c T fz) → T ≠ 5 → w'.heap[k]? = some (.cells c T fz)
theorem Keeps.trans {b : Nat} {x y z : World} (h : Keeps b x y) (g : Keeps b y z) : Keeps b x z := fun k c T fz h1 h2 h3 => g k c T fz h1 (h k c T fz h1 h2 h3) h3
theorem keeps_set {b : Nat} (w : World) (j : Nat) (u : Value) : Keeps b w (w.setCell ⟨b, j, none⟩ u) := fun k c T fz h1 h2 _ => by
  rw [Below.heap_setCell _ _ _ _ (fun e => h1 e)]; exact h2
theorem keeps_alloc {b : Nat} (w : World) (o : Obj) : Keeps b w (w.alloc o) := fun k c T fz _ h2 _ => by
  rw [Below.heap_alloc _ _ _ (Array.getElem?_eq_some_iff.1 h2).1]; exact h2
theorem keeps_grow {b B n : Nat} {w w' : World} {v : Value} {bs : List Value} (hown : w.ownsRowF B 5 1 v n bs) (h : w.grownBy w' v.ownBlock) : Keeps b w w' := fun k c T fz _ h2 h3 => by
  rw [h.block k (Array.getElem?_eq_some_iff.1 h2).1 ?_]
  · exact h2
  · intro e
    rcases hown.2 with ⟨rfl, _⟩ | ⟨g, cap, cur, f, rfl, _, hg, _⟩
    · cases e
    · injection e with e
      subst e
      rw [h2] at hg
      injection hg with hg
      injection hg with _ hg _
      exact h3 hg
theorem Keeps.blk3 {b B : Nat} {w w' : World} {t : TypeId} {x y z : Value} (h : Keeps b w w') (hb : Blk3 w B t x y z) (hne : B ≠ b) (ht : t ≠ 5) : Blk3 w' B t x y z := h B _ t _ hne hb ht
theorem Keeps.blk2 {b B : Nat} {w w' : World} {t : TypeId} {x y : Value} (h : Keeps b w w') (hb : Blk2 w B t x y) (hne : B ≠ b) (ht : t ≠ 5) : Blk2 w' B t x y := h B _ t _ hne hb ht

set_option maxHeartbeats 1000000 in
set_option maxRecDepth 100000 in
theorem bldk_check (B b : Nat) (bs : List Value) (w : World) (h : IsB B b bs w) :
    Calls Tryz.prog 114 #[.pointer (some ⟨b, 0, none⟩)] w fun e w' => e = .returned (.tuple #[]) ∧ BAt B b bs w' ∧ Below B w w' ∧ Keeps b w w' := by
  obtain ⟨j, hj, hjs⟩ := Option.map_eq_some_iff.1 bld_info
  rcases h with h | h
  · have c0 := h.cell0
    have hsh := h.shape
    have hfz := h.frozen0
    have hfin : BAt B b bs (w.setCell ⟨b, 0, none⟩ (.pointer (some ⟨b, 0, none⟩))) ∧ Below B w (w.setCell ⟨b, 0, none⟩ (.pointer (some ⟨b, 0, none⟩))) ∧ Keeps b w (w.setCell ⟨b, 0, none⟩ (.pointer (some ⟨b, 0, none⟩))) := ⟨h.used _, (Below.refl B w).setCell (p := ⟨b, 0, none⟩) h.1 _, keeps_set _ _ _⟩
    clear h
    go_enter Tryz.func114, Tryz.ntmps114
    go_wp2_with fail
    rw [Lib.run_to_unsafe w ⟨b, 0, none⟩ Tryz.underlying138 Tryz.underlying231 hj (by rw [hjs]; decide) hsh (Nat.zero_lt_succ 1)]
    simp only [Result.andThen]
    rw [Oper.upon_value]
    go_wp2_with fail
    rw [run_callFunc_extern Tryz.func167 (by kernel_rfl) (by kernel_rfl) (by kernel_rfl) (e := Extern.AbiNoEscape.same) (by kernel_rfl)]
    rw [Lib.run_noEscape]
    simp only [Result.andThen]
    rw [Oper.upon_value]
    go_wp2_with fail
    rw [Lib.run_from_unsafe w ⟨b, 0, none⟩ Tryz.underlying231 Tryz.underlying138 hj hsh bld_lies]
    simp only [Result.andThen]
    rw [Oper.upon_value]
    go_wp2_with fail
    go_end0
    exact ⟨rfl, hfin.1, hfin.2⟩
  · have c0 := h.cell0
    go_enter Tryz.func114, Tryz.ntmps114
    go_wp2_with fail
    rw [Lib.run_neq_ptr_same w _ Tryz.underlying138 hj]
    go_wp2_with fail
    go_end0
    exact ⟨rfl, h, Below.refl B _, fun _ _ _ _ _ h _ => h⟩
set_option maxHeartbeats 1000000 in
set_option maxRecDepth 100000 in
theorem bldk_string (B b : Nat) (bs : List Value) (s : ByteArray) (w : World) (h : IsB B b bs w) (hlen : bs.length + s.size ≤ 140737488355328) (hBw : B ≤ w.heap.size) :
    Calls Tryz.prog 71 #[.pointer (some ⟨b, 0, none⟩), .string s] w fun e w' => e = .returned (.tuple #[.int .i64 s.size, .nilIface]) ∧ BAt B b (bs ++ Lib.strCells s) w' ∧ Below B w w' ∧ Keeps b w w' := by
  obtain ⟨i0, hi, hz0, hz1, hz2⟩ := info_parts bld_byte
  go_enter Tryz.func71, Tryz.ntmps71
  go_wp2_with fail
  refine (bldk_check B b bs _ h).mono ?_
  rintro e w1 ⟨rfl, h1, hb1, hk1⟩
  obtain ⟨hB, v, hbk, hown, hne⟩ := h1
  have c0 : w1.cell? ⟨b, 0, none⟩ = some (.pointer (some ⟨b, 0, none⟩)) := by rw [Lib.cell_of_heap hbk]; rfl
  have c1 : w1.cell? ⟨b, 1, none⟩ = some v := by rw [Lib.cell_of_heap hbk]; rfl
  have hlt : b < w1.heap.size := (Array.getElem?_eq_some_iff.1 hbk).1
  have hs1 := hb1.size
  go_wp2_with (at_builtin; refine Lib.wpList_append_own_stringF _ rfl _ _ 29 9 rfl B 5 i0 Tryz.underlying29 Tryz.underlying9 hi hz0 hz1 hz2 _ _ _ rfl hown s rfl (by unfold maxLen; omega) (by omega) (by omega) ?_)
  intro v' w2 hown' hgrow _
  have hb2 : w2.heap[b]? = some (.cells #[.pointer (some ⟨b, 0, none⟩), v] 140 (0, 0)) := (hgrow.block b hlt (fun e => hne e.symm)).trans hbk
  have d0 : w2.cell? ⟨b, 0, none⟩ = some (.pointer (some ⟨b, 0, none⟩)) := by rw [Lib.cell_of_heap hb2]; rfl
  have d1 : w2.cell? ⟨b, 1, none⟩ = some v := by rw [Lib.cell_of_heap hb2]; rfl
  have f1 : w2.frozen? ⟨b, 1, none⟩ = false := Lib.frozen_of_heap hb2 1
  have hfin := Lib.BuilderAtF.put (T := 140) (e := 5) (v' := v') hB hb2 (bs' := bs ++ Lib.strCells s) (by simpa [Lib.strCells_length] using hown') (by decide)
  have hfin2 := (hb1.grown hgrow (by omega) (fun k hk => (hown.lt k hk).1)).setCell (p := ⟨b, 1, none⟩) hB v'
  have hk3 : Keeps b _ (w2.setCell ⟨b, 1, none⟩ v') := (hk1.trans (keeps_grow hown hgrow)).trans (keeps_set _ _ _)
  obtain ⟨ao, n', cap, rfl⟩ : ∃ ao n' cap, v' = .slice ao n' cap := by
    rcases hown'.2 with ⟨hv, _⟩ | ⟨g, cap, cur, fz, hv, _⟩
    · exact ⟨_, _, _, hv⟩
    · exact ⟨_, _, _, hv⟩
  clear hgrow hown hown' hbk hb2 c0 c1 hk1
  go_wp2_with fail
  go_ret2
  exact ⟨rfl, hfin, hfin2, hk3⟩
set_option maxHeartbeats 1000000 in
set_option maxRecDepth 100000 in
theorem bldk_byte1 (B b : Nat) (bs : List Value) (c : Int) (w : World) (h : IsB B b bs w) (hlen : bs.length + 1 ≤ 140737488355328) (hBw : B ≤ w.heap.size) :
    Calls Tryz.prog 117 #[.pointer (some ⟨b, 0, none⟩), .int .u8 c] w fun e w' => e = .returned .nilIface ∧ BAt B b (bs ++ [.int .u8 c]) w' ∧ Below B w w' ∧ Keeps b w w' := by
  obtain ⟨i0, hi, hz0, hz1, hz2⟩ := info_parts bld_byte
  go_enter Tryz.func117, Tryz.ntmps117
  go_wp2_with fail
  refine (bldk_check B b bs _ h).mono ?_
  rintro e w1 ⟨rfl, h1, hb1, hk1⟩
  obtain ⟨hB, v, hbk, hown, hne⟩ := h1
  have c0 : w1.cell? ⟨b, 0, none⟩ = some (.pointer (some ⟨b, 0, none⟩)) := by rw [Lib.cell_of_heap hbk]; rfl
  have c1 : w1.cell? ⟨b, 1, none⟩ = some v := by rw [Lib.cell_of_heap hbk]; rfl
  have hlt : b < w1.heap.size := (Array.getElem?_eq_some_iff.1 hbk).1
  have hs1 := hb1.size
  go_wp2_with (at_builtin; refine wpList_append_ownF _ rfl _ _ 29 rfl B 5 i0 (.int .u8 0) 1 1 Tryz.underlying29 hi hz0 hz1 hz2 rfl (by decide) _ _ _ rfl (hown.alloc _) ⟨w1.heap.size, 0, none⟩ 1 1 [.int .u8 c] rfl rfl ?c1 ?c2 (by unfold maxLen; omega) (by omega) (by simp; omega) ?_)
  case c1 =>
    intro j u hj
    match j, hj with
    | 0, hj => simp at hj; subst hj; simp [Addr.add]
  case c2 => intro u hu; simp at hu; subst hu; rfl
  intro v' w2 hown' hgrow _
  have hb2 : w2.heap[b]? = some (.cells #[.pointer (some ⟨b, 0, none⟩), v] 140 (0, 0)) := ((hgrow.block b (by simp; omega) (fun e => hne e.symm)).trans (Lib.alloc_old w1 _ b hlt)).trans hbk
  have d0 : w2.cell? ⟨b, 0, none⟩ = some (.pointer (some ⟨b, 0, none⟩)) := by rw [Lib.cell_of_heap hb2]; rfl
  have d1 : w2.cell? ⟨b, 1, none⟩ = some v := by rw [Lib.cell_of_heap hb2]; rfl
  have f1 : w2.frozen? ⟨b, 1, none⟩ = false := Lib.frozen_of_heap hb2 1
  have hfin := Lib.BuilderAtF.put (T := 140) (e := 5) (v' := v') hB hb2 (bs' := bs ++ [.int .u8 c]) (by simpa using hown') (by decide)
  have hfin2 := ((hb1.alloc (by omega) _).grown hgrow (by simp; omega) (fun k hk => (hown.lt k hk).1)).setCell (p := ⟨b, 1, none⟩) hB v'
  have hk3 : Keeps b _ (w2.setCell ⟨b, 1, none⟩ v') := ((hk1.trans (keeps_alloc _ _)).trans (keeps_grow (hown.alloc _) hgrow)).trans (keeps_set _ _ _)
  obtain ⟨ao, n', cap, rfl⟩ : ∃ ao n' cap, v' = .slice ao n' cap := by
    rcases hown'.2 with ⟨hv, _⟩ | ⟨g, cap, cur, fz, hv, _⟩
    · exact ⟨_, _, _, hv⟩
    · exact ⟨_, _, _, hv⟩
  clear hgrow hown hown' hbk hb2 c0 c1 hk1
  go_wp2_with fail
  go_ret
  exact ⟨rfl, hfin, hfin2, hk3⟩
end Go.Proofs.YtjiaidchcldocaaGreatDoor
namespace Go.Proofs.YtjiaidchcldocaaGreatDoor

end Go.Proofs.YtjiaidchcldocaaGreatDoor
namespace Go.Proofs.YtjiaidchcldocaaGreatDoor

end Go.Proofs.YtjiaidchcldocaaGreatDoor
namespace Go.Proofs.YtjiaidchcldocaaGreatDoor

/-- the reader's hunks, with marks wanted only behind one -/
def RdOk (hs : List Hunk) (o n : Nat) : Prop := 0 < o ∨ 0 < n → hs ≠ []
theorem rdOk_start : RdOk [] 0 0 := fun h => by omega
theorem addMark_ne {hs : List Hunk} (m : Mark) (h : hs ≠ []) : addMark hs m ≠ [] := by
  cases hs with
  | nil => exact absurd rfl h
  | cons a l => cases l <;> simp [addMark]
theorem readLine_ok {hs hs' : List Hunk} {o n o' n' : Nat} {s : List UInt8} (hk : RdOk hs o n) (h : readLine hs o n s = some (hs', o', n')) : hs' ≠ [] := by
  unfold readLine at h
  by_cases hon : 0 < o ∨ 0 < n
  · have hne := hk hon
    rw [if_pos hon] at h
    cases s with
    | nil => cases h
    | cons c r =>
      simp only at h
      split at h
      · injection h with h; injection h with h1 _; rw [← h1]; exact addMark_ne _ hne
      · split at h
        · injection h with h; injection h with h1 _; rw [← h1]; exact addMark_ne _ hne
        · split at h
          · injection h with h; injection h with h1 _; rw [← h1]; exact addMark_ne _ hne
          · cases h
  · rw [if_neg hon] at h
    cases hd : headOf s with
    | none => rw [hd] at h; cases h
    | some x =>
      obtain ⟨a, x, b, y⟩ := x
      rw [hd] at h
      injection h with h; injection h with h1 _; rw [← h1]; simp
theorem numOf_lt {s : List UInt8} {n : Nat} (h : numOf s = some n) : n < 1000 := (num_some h).1
end Go.Proofs.YtjiaidchcldocaaGreatDoor
namespace Go.Proofs.YtjiaidchcldocaaGreatDoor
open Go.RowKit

theorem toB_size' (X : List UInt8) : (toB X).size = X.length := by rw [Lib.size_eq, toB_data]
theorem toB_three (a b c : List UInt8) : toB a ++ toB b ++ toB c = toB (a ++ b ++ c) := by
  apply ByteArray.ext
  apply Array.toList_inj.1
  rw [bytes_append, bytes_append, toB_data, toB_data, toB_data, toB_data]
theorem itoa_any (x : Int) (n : Nat) (hx : x = n) (h : n < 100) (w : World) :
    Calls Tryz.prog 96 #[.int .i64 x] w fun e w' => e = .returned (.string (toB (Lib.itoa x))) ∧ w' = w := by
  subst hx
  rw [itoa_nat]
  exact Tryz.strconv_Itoa_small n h w
set_option maxHeartbeats 1000000 in
set_option maxRecDepth 100000 in
theorem span_any (a : Int) (n : Nat) (h0 : 0 ≤ a) (h1 : a < 99) (hn : n < 100) (w : World) :
    Calls Tryz.prog 116 #[.int .i64 a, .int .i64 n] w fun e w' => e = .returned (.string (toB (spanL a n))) ∧ w' = w := by
  have hs2 : (toB (Lib.itoa (n : Int))).size ≤ 20 := by
    rw [toB_size', itoa_nat]
    have := dec_len (n := n) (by omega)
    omega
  by_cases hp : 0 < n
  · have HE : Hid (spanL a n = Lib.itoa (a + 1) ++ [44] ++ Lib.itoa n) := by unfold Hid spanL; rw [if_pos hp]
    have t1 : decide ((0 : Int) < (n : Int)) = true := decide_eq_true (by omega)
    have t1n : decide (0 < n) = true := decide_eq_true hp
    have F1 : ∀ wx, Calls Tryz.prog 96 #[.int .i64 (a + 1)] wx fun e w' => e = .returned (.string (toB (Lib.itoa (a + 1)))) ∧ w' = wx := fun wx => itoa_any (a + 1) (a + 1).toNat (by omega) (by omega) wx
    have hs1 : (toB (Lib.itoa (a + 1))).size ≤ 20 := by
      obtain ⟨k, hk⟩ : ∃ k : Nat, a + 1 = k := ⟨(a + 1).toNat, by omega⟩
      rw [toB_size', hk, itoa_nat]
      have := dec_len (n := k) (by omega)
      omega
    clear hp
    go_enter Tryz.func116, Tryz.ntmps116
    go_wp2_with fail
    refine (F1 _).mono ?_
    rintro e w1 ⟨rfl, rfl⟩
    go_wp2_with fail
    refine (itoa_any n n rfl hn _).mono ?_
    rintro e w1 ⟨rfl, rfl⟩
    go_wp2_with fail
    go_ret
    exact ⟨by rw [HE.out]; exact congrArg (fun x => Ending.returned (Value.string x)) (toB_three _ _ _), rfl⟩
  · obtain rfl : n = 0 := by omega
    have HE : Hid (spanL a 0 = Lib.itoa a ++ [44] ++ Lib.itoa 0) := by unfold Hid spanL; rw [if_neg hp]; rfl
    have F1 : ∀ wx, Calls Tryz.prog 96 #[.int .i64 a] wx fun e w' => e = .returned (.string (toB (Lib.itoa a))) ∧ w' = wx := fun wx => itoa_any a a.toNat (by omega) (by omega) wx
    have F2 : ∀ wx, Calls Tryz.prog 96 #[.int .i64 0] wx fun e w' => e = .returned (.string (toB (Lib.itoa 0))) ∧ w' = wx := fun wx => itoa_any 0 0 rfl (by omega) wx
    have hs1 : (toB (Lib.itoa a)).size ≤ 20 := by
      obtain ⟨k, hk⟩ : ∃ k : Nat, a = k := ⟨a.toNat, by omega⟩
      rw [toB_size', hk, itoa_nat]
      have := dec_len (n := k) (by omega)
      omega
    have hs2 : (toB (Lib.itoa 0)).size ≤ 20 := hs2
    clear hp
    go_enter Tryz.func116, Tryz.ntmps116
    go_wp2_with fail
    refine (F1 _).mono ?_
    rintro e w1 ⟨rfl, rfl⟩
    go_wp2_with fail
    refine (F2 _).mono ?_
    rintro e w1 ⟨rfl, rfl⟩
    go_wp2_with fail
    go_ret
    exact ⟨by rw [HE.out]; exact congrArg (fun x => Ending.returned (Value.string x)) (toB_three _ _ _), rfl⟩

theorem chg_below {B : Nat} {w w' : World} (h : Below B w w') : Chg (From B) w w' :=
  ⟨h.os, h.tape, h.output, h.size, fun k hk hn => h.block k (by unfold From at hn; omega)⟩
theorem hunkR_head (h : Hunk) : textL (hunkL h) = headL h.old (oldN h.marks) h.new (newN h.marks) ++ [10] ++ textL (h.marks.map markL) := rfl
theorem textU_take {l : List Hunk} {k : Nat} {x : Hunk} (hx : l[k]? = some x) : textU (l.take (k + 1)) = textU (l.take k) ++ textL (hunkL x) := by
  unfold textU linesU
  rw [List.take_add_one, hx, Option.toList_some, List.flatMap_append, textL_app]
  simp
theorem textM_take {l : List Mark} {k : Nat} {x : Mark} (hx : l[k]? = some x) : textL ((l.take (k + 1)).map markL) = textL ((l.take k).map markL) ++ (signOf x :: (x.text.data.toList ++ [10])) := by
  rw [List.take_add_one, hx, Option.toList_some, List.map_append, textL_app]
  simp [textL, markL]
/-- what each of the hunks that may be is -/
def EachH (x : Hunk) : Prop := scriptFault x.marks = 0 ∧ 0 ≤ x.old ∧ x.old ≤ 60 ∧ 0 ≤ x.new ∧ x.new ≤ 60 ∧ oldN x.marks ≤ 60 ∧ newN x.marks ≤ 60
theorem one_scr {h : Hunk} {fin more : Int} (e : oneFault h fin more = 0) : scriptFault h.marks = 0 := by
  unfold oneFault at e
  by_cases h1 : scriptFault h.marks ≠ 0
  · rw [if_pos h1] at e; exact absurd e h1
  · simpa using h1
theorem go_each : ∀ (l : List Hunk) (i : Nat) (fin more : Int), (hunksGo i fin more l).2 = 0 → ∀ x ∈ l, EachH x
  | [], _, _, _, _ => fun _ h => by cases h
  | h :: l, i, fin, more, e => by
    rw [hunksGo] at e
    by_cases h0 : oneFault h fin more = 0
    · rw [if_pos h0] at e
      obtain ⟨q1, q2, q3, q4, q5, q6, q7⟩ := one_ok h0
      intro x hx
      rcases List.mem_cons.1 hx with rfl | hx
      · exact ⟨one_scr h0, q2, by omega, q3, by omega, by omega, by omega⟩
      · exact go_each l _ _ _ e x hx
    · rw [if_neg h0] at e
      exact absurd e h0
theorem hunks_each {l : List Hunk} (h : (hunksFault l).2 = 0) : ∀ x ∈ l, EachH x := by
  unfold hunksFault at h
  by_cases hl : 60 < l.length
  · rw [if_pos hl] at h; cases h
  · rw [if_neg hl] at h
    exact go_each l _ _ _ h
theorem textU_mono {l : List Hunk} {k : Nat} : (textU (l.take k)).length ≤ (textU l).length := by
  conv => rhs; rw [← List.take_append_drop k l]
  unfold textU linesU
  rw [List.flatMap_append, textL_app, List.length_append]
  omega
theorem cells_toB (x : List UInt8) : Lib.strCells (toB x) = Lib.byteCells x := by rw [Lib.strCells_eq, toB_data]
/-- a head, as the walk writes it -/
theorem head_row (a b : Int) (x y : Nat) : toB [64, 64, 32, 45] ++ toB (spanL a x) ++ toB [32, 43] ++ toB (spanL b y) ++ toB [32, 64, 64, 10] = toB (headL a x b y ++ [10]) := by
  apply ByteArray.ext
  apply Array.toList_inj.1
  simp only [bytes_append, toB_data]
  unfold headL atAt endAt
  simp
theorem mark_cells {m : Mark} (h : SignOk m) : [.int .u8 m.sign] ++ Lib.strCells (m.text ++ toB [10]) = Lib.byteCells (signOf m :: (m.text.data.toList ++ [10])) := by
  rw [Lib.strCells_eq, bytes_append, toB_data]
  unfold signOf
  rcases h with e | e | e <;> rw [e] <;> rfl
theorem marks_take_len {ms : List Mark} {q : Nat} (h : ∀ m ∈ ms, markFault m = 0) (hl : ms.length ≤ 120) : (textL ((ms.take q).map markL)).length ≤ 82 * 120 := by
  have : ∀ (k : List Mark), (∀ m ∈ k, markFault m = 0) → (textL (k.map markL)).length ≤ 82 * k.length := fun k hk => by
    induction k with
    | nil => simp [textL]
    | cons m k ih =>
      obtain ⟨-, -, q3⟩ := mark_ok (hk m (List.mem_cons_self ..))
      have := ih fun x hx => hk x (List.mem_cons_of_mem _ hx)
      have e : (textL ((m :: k).map markL)).length = m.text.size + 2 + (textL (k.map markL)).length := by
        show (markL m ++ [10] ++ textL (k.map markL)).length = _
        unfold markL
        simp only [List.length_append, List.length_cons, List.length_nil, Array.length_toList, ByteArray.size_data]
      rw [e, List.length_cons]; omega
  have h1 := this (ms.take q) (fun m hm => h m (List.mem_of_mem_take hm))
  rw [List.length_take] at h1
  omega
set_option maxHeartbeats 1000000 in
set_option maxRecDepth 100000 in
theorem write_any (B b : Nat) (bs : List Value) (l : List Hunk) (v : Value) (w : World) (h : Rdv w (From B) v l) (hI : IsB B b bs w) (hz : (hunksFault l).2 = 0) (hlen : bs.length ≤ 1000000000) (hBw : B ≤ w.heap.size) :
    Calls Tryz.prog 72 #[.pointer (some ⟨b, 0, none⟩), v] w fun e w' => e = .returned (.tuple #[]) ∧ IsB B b (bs ++ Lib.byteCells (textU l)) w' ∧ Below B w w' := by
  obtain ⟨a, cap, rfl, h1, h2, h3⟩ := rdv_slice h
  unfold maxLen at h2
  have hTL := Lib.hid (hunks_ok hz).2.2
  have hH := Lib.hid (hunks_each hz)
  clear hz
  go_enter Tryz.func72, Tryz.ntmps72
  go_wp2_with fail
  go_loopw [12] (fun i wr => ∃ k : Nat, k ≤ l.length ∧ i = .int .i64 k ∧ IsB B b (bs ++ Lib.byteCells (textU (l.take k))) wr ∧ Below B w wr) (fun i _ => l.length - (intOf i).toNat)
  case atStart => exact ⟨0, Nat.zero_le _, rfl, by simpa [textU, textL, linesU, Lib.byteCells] using hI, Below.refl _ _⟩
  case round =>
    clear hI
    obtain ⟨k, hk, rfl, hI, hb⟩ := hrel
    rename World => wr
    have hbs := hb.size
    by_cases hlt : k < l.length
    · obtain ⟨x, hx⟩ : ∃ x, l[k]? = some x := ⟨l[k], by simp [hlt]⟩
      obtain ⟨b', off, mv, rfl, hnb, -, c0, c1, c2, hmv⟩ := elems_hunk h3 hx
      have hcb := chg_below hb
      have hbne : wr.heap.size ≠ b := by
        have : b < wr.heap.size := hI.elim (fun q => q.lt) (fun q => q.lt)
        omega
      obtain ⟨e1, e2, e3, e4, e5, e6, e7⟩ := hH.out x (List.mem_of_getElem? hx)
      have E1 := Lib.hid e1
      have hml := scriptFault_len e1
      have HT := Lib.hid (textU_take hx)
      have hTk := @textU_mono l k
      have hTk1 := @textU_mono l (k + 1)
      have hTLo := hTL.out
      obtain ⟨ma, mc, rfl, -, -, hme⟩ := rdv_slice hmv
      have c0 := hcb.cell c0 hnb
      have c1 := hcb.cell c1 hnb
      have c2 := hcb.cell c2 hnb
      have hmr : Rdv wr (From B) (.slice ma x.marks.length mc) x.marks := hmv.keep hcb (fun _ _ h => h) (fun _ _ h => h)
      have hA : Chg Never wr (wr.alloc (.cells #[.int .i64 x.old, .int .i64 x.new, .slice ma x.marks.length mc] 129)) := (Chg.refl Never wr).alloc _
      have hbox := Blk3.new wr 129 (.int .i64 x.old) (.int .i64 x.new) (.slice ma x.marks.length mc)
      obtain ⟨g0, g1, g2⟩ := hbox.cell
      have hIA := bld_keep hI hA
      have hmA := hmr.never hA
      have hbA : Below B w (wr.alloc (.cells #[.int .i64 x.old, .int .i64 x.new, .slice ma x.marks.length mc] 129)) := hb.alloc (by omega) _
      clear hx h3 h hI hmr hmv e1
      go_wp2_with fail
      clear c0 c1 c2
      generalize wr.alloc (.cells #[.int .i64 x.old, .int .i64 x.new, .slice ma x.marks.length mc] 129) = wA at hA hbox g0 g1 g2 hIA hmA hbA ⊢
      refine (size_any x _ _ (hmA.sub (fun _ _ h => h.elim))).mono ?_
      rintro e w2 ⟨rfl, hc2⟩
      have g0 := hc2.cellNever g0
      have g1 := hc2.cellNever g1
      have g2 := hc2.cellNever g2
      have hI2 := bld_keep hIA hc2
      have hm2 := hmA.never hc2
      have hb2 := hbA.trans (hc2.never.mono (Nat.le_trans hBw hbA.size))
      have hwsz := hb2.size
      have hl1 : (spanL x.old (oldN x.marks)).length ≤ 7 := span_len e2 (by omega) (by omega)
      have hl2 : (spanL x.new (newN x.marks)).length ≤ 7 := span_len e4 (by omega) (by omega)
      have FS1 : ∀ wx, Calls Tryz.prog 116 #[.int .i64 x.old, .int .i64 (oldN x.marks : Nat)] wx fun e w' => e = .returned (.string (toB (spanL x.old (oldN x.marks)))) ∧ w' = wx := fun wx => span_any _ _ e2 (by omega) (by omega) wx
      have FS2 : ∀ wx, Calls Tryz.prog 116 #[.int .i64 x.new, .int .i64 (newN x.marks : Nat)] wx fun e w' => e = .returned (.string (toB (spanL x.new (newN x.marks)))) ∧ w' = wx := fun wx => span_any _ _ e4 (by omega) (by omega) wx
      have HR := Lib.hid (head_row x.old x.new (oldN x.marks) (newN x.marks))
      have HUL := Lib.hid (hunkR_head x)
      obtain ⟨S1, hS1⟩ : ∃ S1, toB (spanL x.old (oldN x.marks)) = S1 := ⟨_, rfl⟩
      obtain ⟨S2, hS2⟩ : ∃ S2, toB (spanL x.new (newN x.marks)) = S2 := ⟨_, rfl⟩
      obtain ⟨HD, hHD⟩ : ∃ HD, headL x.old (oldN x.marks) x.new (newN x.marks) ++ [10] = HD := ⟨_, rfl⟩
      have hz1 : S1.size ≤ 7 := by rw [← hS1, toB_size']; exact hl1
      have hz2 : S2.size ≤ 7 := by rw [← hS2, toB_size']; exact hl2
      have hbl : (bs ++ Lib.byteCells (textU (l.take k))).length ≤ 1000400000 := by rw [List.length_append, Lib.byteCells_length]; omega
      rw [hS1, hS2, hHD] at HR
      rw [hHD] at HUL
      rw [hS1] at FS1
      rw [hS2] at FS2
      obtain ⟨bs1, hbs1⟩ : ∃ bs1, bs ++ Lib.byteCells (textU (l.take k)) = bs1 := ⟨_, rfl⟩
      rw [hbs1] at hI2 hbl
      have HB1 := Lib.hid hbs1
      clear hbs1
      clear hS1 hS2 hl1 hl2 hIA hmA hbA hA hb hH hTL hTk hTk1
      go_wp2_with fail
      have n1 : ¬ (9223372036854775807 < 4 + S1.size) := by omega
      have n2 : ¬ (9223372036854775807 < 4 + S1.size + 2) := by omega
      have n3 : ¬ (9223372036854775807 < 4 + S1.size + 2 + S2.size) := by omega
      have n4 : ¬ (9223372036854775807 < 4 + S1.size + 2 + S2.size + 4) := by omega
      refine wp_region_still_tail 13 (by kernel_rfl) (by kernel_rfl) ?_
      simp only [List.take_succ_cons, List.take_zero, List.drop_succ_cons, List.drop_zero]
      change wpStill _ _ w2.drew _ _ _
      still_step
      still_step
      still_step
      still_step
      refine wpStill_step (fun K hK => ?_)
      go_simp
      refine ⟨.string S1, FS1 _, ?_⟩
      refine hK _ ?_
      clear hK K
      still_step
      still_step
      still_step
      still_step
      still_step
      refine wpStill_step (fun K hK => ?_)
      go_simp
      refine ⟨.string S2, FS2 _, ?_⟩
      refine hK _ ?_
      clear hK K
      still_step
      still_step
      refine wpStill_nil ?_
      change wpList _ _ _ _ _ w2.drew
      have hbox2 := hbox.keep hc2 (fun h => h)
      have hcd : Chg Never w2 w2.drew := (Chg.refl Never w2).drew
      have hbox3 := hbox2.keep hcd (fun h => h)
      have hI3 := bld_keep hI2 hcd
      have hm3 := hm2.never hcd
      have hb3 := hb2.trans (hcd.never.mono (Nat.le_trans hBw hb2.size))
      have hw3s : B ≤ w2.drew.heap.size := Nat.le_trans hBw hb3.size
      have hHl : HD.length ≤ 24 := by
        have := head_len ⟨e2, by omega, e4, by omega, by omega, by omega, fun m hm => (mark_ok (marks_ok E1.out m hm)).1⟩
        rw [← hHD, List.length_append]; simp; omega
      generalize w2.drew = w3 at hI3 hm3 hb3 hw3s hbox3
      clear hcd hI2 hm2 hb2 g0 g1 g2 hHD n1 n2 n3 n4 FS1 FS2 hbox hbox2 hc2 hwsz
      go_wp2_with fail
      refine (bldk_string B b bs1 _ _ hI3 (by rw [ByteArray.size_append, ByteArray.size_append, ByteArray.size_append, ByteArray.size_append]; show _ + (4 + S1.size + 2 + S2.size + 4) ≤ _; omega) hw3s).mono ?_
      rintro e w4 ⟨rfl, hI4, b4, k4⟩
      have hI4 : BAt B b (bs1 ++ Lib.byteCells HD) w4 := by rw [← cells_toB, ← HR.out]; exact hI4
      have hb4 := hb3.trans b4
      have hc4 := chg_below b4
      have hm4 : Rdv w4 (From B) (.slice ma x.marks.length mc) x.marks := hm3.keep hc4 (fun _ _ h => h) (fun _ _ h => h)
      obtain ⟨-, -, g2⟩ := (k4.blk3 hbox3 hbne (by decide)).cell
      have hbl2 : (bs1 ++ Lib.byteCells HD).length ≤ 1000500000 := by rw [List.length_append, Lib.byteCells_length]; omega
      obtain ⟨bs2, hbs2⟩ : ∃ bs2, bs1 ++ Lib.byteCells HD = bs2 := ⟨_, rfl⟩
      rw [hbs2] at hI4 hbl2
      have HB2 := Lib.hid hbs2
      clear hI3 hm3 hb3 b4 hc4 HR hbs2 hz1 hz2 k4 hbox3
      have hme4 := (rdv_slice hm4)
      obtain ⟨ma', mc', hq, -, -, hme⟩ := hme4
      injection hq with hq1 _ hq2
      subst hq1 hq2
      have hMK := Lib.hid (marks_ok E1.out)
      have hw4s := Nat.le_trans hBw hb4.size
      have hst0 : bs2 ++ Lib.byteCells (textL ((x.marks.take 0).map markL)) = bs2 := by simp [textL, Lib.byteCells]
      unfold maxLen at *
      go_wp2_with fail
      clear g2
      go_loopw [38] (fun i wi => ∃ q : Nat, q ≤ x.marks.length ∧ i = .int .i64 q ∧ IsB B b (bs2 ++ Lib.byteCells (textL ((x.marks.take q).map markL))) wi ∧ Below B w4 wi) (fun i _ => x.marks.length - (intOf i).toNat)
      case atStart => exact ⟨0, Nat.zero_le _, rfl, by rw [hst0]; exact .inr hI4, Below.refl _ _⟩
      case round =>
        clear hI4
        obtain ⟨q, hq, rfl, hJ, hbi⟩ := hrel
        rename World => wi
        by_cases hql : q < x.marks.length
        · obtain ⟨y, hy⟩ : ∃ y, x.marks[q]? = some y := ⟨x.marks[q], by simp [hql]⟩
          obtain ⟨yb, yoff, rfl, hynb, -, d0, d1, s0, s1, hys⟩ := elems_mark hme hy
          have hci := chg_below hbi
          have d0 := hci.cell d0 hynb
          have d1 := hci.cell d1 hynb
          obtain ⟨m1, m2, m3⟩ := mark_ok (hMK.out y (List.mem_of_getElem? hy))
          have HMT := Lib.hid (textM_take hy)
          have hA : Chg Never wi (wi.alloc (.cells #[.int .u8 y.sign, .string y.text] 126)) := (Chg.refl Never wi).alloc _
          have hbx := Blk2.new wi 126 (.int .u8 y.sign) (.string y.text)
          have hbn : wi.heap.size ≠ b := by
            have : b < wi.heap.size := hJ.elim (fun q => q.lt) (fun q => q.lt)
            omega
          obtain ⟨f0, f1⟩ := hbx.cell
          have hJA := bld_keep hJ hA
          have hbA := hbi.trans (hA.never.mono (Nat.le_trans hw4s hbi.size))
          have hsA := Nat.le_trans hw4s hbA.size
          have hmt : (textL ((x.marks.take q).map markL)).length ≤ 82 * 120 := marks_take_len hMK.out hml
          have hbl3 : (bs2 ++ Lib.byteCells (textL ((x.marks.take q).map markL))).length ≤ 1000600000 := by rw [List.length_append, Lib.byteCells_length]; omega
          have HJ2 : Hid (bs2 ++ Lib.byteCells (textL ((x.marks.take q).map markL)) ++ [.int .u8 y.sign] ++ Lib.strCells (y.text ++ toB [10]) = bs2 ++ Lib.byteCells (textL ((x.marks.take (q + 1)).map markL))) := by
            rw [Hid, HMT.out, Lib.byteCells_append, List.append_assoc, List.append_assoc, mark_cells m1]
          generalize bs2 ++ Lib.byteCells (textL ((x.marks.take q).map markL)) = bs3 at hJA hbl3 HJ2
          clear hy hJ hmt
          go_wp2_with fail
          clear d0 d1
          refine (bldk_byte1 B b bs3 y.sign _ hJA (by omega) hsA).mono ?_
          rintro e w5 ⟨rfl, hJ5, b5, k5⟩
          obtain ⟨f0, f1⟩ := (k5.blk2 hbx hbn (by decide)).cell
          have hb5 := hbA.trans b5
          clear hJA hbx b5 k5 hA
          go_wp2_with fail
          refine (bldk_string B b _ _ _ (.inr hJ5) (by rw [List.length_append, ByteArray.size_append]; show bs3.length + 1 + (y.text.size + 1) ≤ _; omega) (Nat.le_trans hw4s hb5.size)).mono ?_
          rintro e w6 ⟨rfl, hJ6, b6, -⟩
          go_wp2_with fail
          go_roundw
          case rel => exact ⟨q + 1, by omega, by go_num, .inr (by rw [← HJ2.out]; exact hJ6), hb5.trans b6⟩
          case measure => simp [intOf]; omega
        · rw [List.take_of_length_le (by omega)] at hJ
          have hfin : IsB B b (bs ++ Lib.byteCells (textU (l.take (k + 1)))) wi := by
            rw [HT.out, Lib.byteCells_append, ← List.append_assoc, HB1.out, HUL.out, Lib.byteCells_append, ← List.append_assoc, HB2.out]
            exact hJ
          have hbf := hb4.trans hbi
          clear hJ hbi hme hMK
          go_wp2_with fail
          go_roundw
          case rel => exact ⟨k + 1, by omega, by go_num, hfin, hbf⟩
          case measure => simp [intOf]; omega
    · rw [List.take_of_length_le (by omega)] at hI
      go_wp2_with fail
      go_end0
      exact ⟨rfl, hI, hb⟩
end Go.Proofs.YtjiaidchcldocaaGreatDoor
