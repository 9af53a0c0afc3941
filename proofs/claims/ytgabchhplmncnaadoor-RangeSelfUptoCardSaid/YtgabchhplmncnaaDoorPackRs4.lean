/-
  PARTS: HUNKS DONE STRICTLY, plain laws: what Strict answers; hunks that lead from a file to another one; turned they lead back.; PATCHES, in plain Lean (chapter 2): what may be one, what is done to a tree, turned it leads back.; PATCHES AS TEXTS, in plain Lean (chapter 8): whole texts. What is printed is read; what is read is printed so.; TWO SERIES, WHICH IS WHICH, in plain Lean: the costs, what is told of a choice.; THE WALKS of match.apart, alone, and of the document's differ.; A SLICE OF SLICES: an element's cell. No program in sight.; THE WALKS of strings.Builder's methods at a builder of one's own: copyCheck, WriteString, WriteByte.; A BUILDER OF ONE'S OWN STAYS while only new blocks come.; A BOX OF TWO CELLS, and of three (Blk3). No program in sight.
-/
import Derived.Test.YtgabchhplmncnaaDoorPackRs3
import Derived.Test.YtgabchhplmncnaaDoorPackRs2
import Derived.Test.YtgabchhplmncnaaDoorPackRs1
import Derived.Deep.QuietTactic
import Derived.BigQuiet
import Derived.Shelf.Strings.BuilderK
namespace Go.Proofs.YtgabchhplmncnaaDoor

/-- do lines stand at a place? -/
def standsB (a : List ByteArray) (at_ : Int) (l : List ByteArray) : Bool :=
  decide (0 ≤ at_) && decide (at_ + l.length ≤ a.length) && decide ((a.drop at_.toNat).take l.length = l)
/-- hunk by hunk: the number, from where on the file is not yet copied, what has come so far -/
def strictGo (a : List ByteArray) : Nat → Nat → List ByteArray → List Hunk → List ByteArray × Nat × Int
  | _, fr, out, [] => if 60 < (out ++ a.drop fr).length then ([], 0, 3) else (out ++ a.drop fr, 0, 0)
  | i, fr, out, h :: r =>
    if standsB a h.old (oldOf h.marks) then strictGo a (i + 1) (h.old.toNat + oldN h.marks) (out ++ (a.drop fr).take (h.old.toNat - fr) ++ newOf h.marks) r
    else ([], i, 6)
def strict (a : List ByteArray) (l : List Hunk) : List ByteArray × Nat × Int :=
  if linesFault a ≠ 0 then ([], 0, linesFault a) else if (hunksFault l).2 ≠ 0 then ([], (hunksFault l).1, (hunksFault l).2) else strictGo a 0 0 [] l

/-- p has the hunks l, each at its place, and all else of it is kept -/
inductive Fits : List Mark → List Hunk → Prop
  | nil : Fits [] []
  | keep {p : List Mark} {l : List Hunk} {m : Mark} : Fits p l → m.sign = 32 → Fits (p ++ [m]) l
  | hunk {p : List Mark} {l : List Hunk} (m : List Mark) : Fits p l → hasChange m = true → Fits (p ++ m) (l ++ [⟨oldN p, newN p, m⟩])
theorem Pcs.fits {b : Bool} {p : List Mark} {l : List Hunk} (h : Pcs b p l) : Fits p l := by
  induction h with
  | nil => exact .nil
  | keep _ hs ih => exact ih.keep hs
  | hunk m _ hc ih => exact ih.hunk m hc

theorem those_append (p m : List Mark) (no : Int) : those (p ++ m) no = those p no ++ those m no := by simp [those, List.filter_append]
theorem those_keep {m : Mark} (h : m.sign = 32) : those [m] 43 = [m.text] ∧ those [m] 45 = [m.text] := by simp [those, h]
theorem oldN_eq (p : List Mark) : oldN p = (those p 43).length := rfl
theorem newN_eq (p : List Mark) : newN p = (those p 45).length := rfl

/-- the state behind some hunks -/
def doAll (a : List ByteArray) : Nat → List ByteArray → List Hunk → Option (Nat × List ByteArray)
  | fr, out, [] => some (fr, out)
  | fr, out, h :: r => if standsB a h.old (oldOf h.marks) then doAll a (h.old.toNat + oldN h.marks) (out ++ (a.drop fr).take (h.old.toNat - fr) ++ newOf h.marks) r else none
theorem doAll_snoc (a : List ByteArray) : ∀ (l : List Hunk) (h : Hunk) (fr fr' : Nat) (out out' : List ByteArray), doAll a fr out l = some (fr', out') → standsB a h.old (oldOf h.marks) = true →
    doAll a fr out (l ++ [h]) = some (h.old.toNat + oldN h.marks, out' ++ (a.drop fr').take (h.old.toNat - fr') ++ newOf h.marks)
  | [], h, fr, fr', out, out', e, hs => by
    simp only [doAll, Option.some.injEq, Prod.mk.injEq] at e
    obtain ⟨rfl, rfl⟩ := e
    simp [doAll, hs]
  | x :: r, h, fr, fr', out, out', e, hs => by
    simp only [doAll, List.cons_append] at e ⊢
    by_cases hx : standsB a x.old (oldOf x.marks) = true
    · rw [if_pos hx] at e ⊢
      exact doAll_snoc a r h _ _ _ _ e hs
    · rw [if_neg hx] at e; cases e
theorem strictGo_of (a : List ByteArray) : ∀ (l : List Hunk) (i fr fr' : Nat) (out out' : List ByteArray), doAll a fr out l = some (fr', out') → (out' ++ a.drop fr').length ≤ 60 → strictGo a i fr out l = (out' ++ a.drop fr', 0, 0)
  | [], i, fr, fr', out, out', e, h60 => by
    simp only [doAll, Option.some.injEq, Prod.mk.injEq] at e
    obtain ⟨rfl, rfl⟩ := e
    rw [strictGo, if_neg (by omega)]
  | x :: r, i, fr, fr', out, out', e, h60 => by
    rw [doAll] at e
    by_cases hx : standsB a x.old (oldOf x.marks) = true
    · rw [if_pos hx] at e
      rw [strictGo, if_pos hx]
      exact strictGo_of a r _ _ _ _ _ e h60
    · rw [if_neg hx] at e; cases e
theorem strictGo_inv (a : List ByteArray) : ∀ (l : List Hunk) (i fr : Nat) (out y : List ByteArray) (k : Nat), strictGo a i fr out l = (y, k, 0) → ∃ fr' out', doAll a fr out l = some (fr', out') ∧ y = out' ++ a.drop fr' ∧ y.length ≤ 60 ∧ k = 0
  | [], i, fr, out, y, k, e => by
    rw [strictGo] at e
    by_cases h : 60 < (out ++ a.drop fr).length
    · rw [if_pos h] at e; simp at e
    · rw [if_neg h] at e
      simp only [Prod.mk.injEq, and_true] at e
      obtain ⟨rfl, rfl⟩ := e
      exact ⟨fr, out, rfl, rfl, by omega, rfl⟩
  | x :: r, i, fr, out, y, k, e => by
    rw [strictGo] at e
    by_cases hx : standsB a x.old (oldOf x.marks) = true
    · rw [if_pos hx] at e
      obtain ⟨fr', out', h1, h2, h3, h4⟩ := strictGo_inv a r _ _ _ _ _ e
      exact ⟨fr', out', by rw [doAll, if_pos hx]; exact h1, h2, h3, h4⟩
    · rw [if_neg hx] at e; simp at e

theorem stands_mid (x y z : List ByteArray) : standsB (x ++ y ++ z) (x.length : Int) y = true := by
  unfold standsB
  simp only [Bool.and_eq_true, decide_eq_true_eq, Int.toNat_natCast]
  refine ⟨⟨by omega, by simp; omega⟩, ?_⟩
  rw [List.append_assoc, List.drop_left, List.take_left]

theorem Fits.doAll {p : List Mark} {l : List Hunk} (h : Fits p l) : ∀ t : List ByteArray, ∃ fr out, doAll (those p 43 ++ t) 0 [] l = some (fr, out) ∧ fr ≤ oldN p ∧ out ++ (those p 43).drop fr = those p 45 := by
  induction h with
  | nil => intro t; exact ⟨0, [], rfl, Nat.zero_le _, rfl⟩
  | @keep p l m h hs ih =>
    intro t
    obtain ⟨fr, out, h1, h2, h3⟩ := ih ([m.text] ++ t)
    refine ⟨fr, out, ?_, ?_, ?_⟩
    · rw [those_append, (those_keep hs).1, List.append_assoc]; exact h1
    · rw [oldN_append]; omega
    · rw [those_append, those_append, (those_keep hs).1, (those_keep hs).2, List.drop_append_of_le_length (by rw [← oldN_eq]; exact h2), ← List.append_assoc, h3]
  | @hunk p l m h hc ih =>
    intro t
    obtain ⟨fr, out, h1, h2, h3⟩ := ih (those m 43 ++ t)
    refine ⟨oldN p + oldN m, those p 45 ++ those m 45, ?_, ?_, ?_⟩
    · rw [those_append, List.append_assoc]
      have hs : standsB (those p 43 ++ (those m 43 ++ t)) ((oldN p : Nat) : Int) (oldOf m) = true := by
        rw [← List.append_assoc]
        exact stands_mid (those p 43) (those m 43) t
      rw [doAll_snoc _ l ⟨oldN p, newN p, m⟩ _ _ _ _ h1 hs]
      have e1 : ((those p 43 ++ (those m 43 ++ t)).drop fr).take (oldN p - fr) = (those p 43).drop fr := by
        rw [List.drop_append_of_le_length (by rw [← oldN_eq]; exact h2), List.take_left' (by rw [List.length_drop, ← oldN_eq])]
      simp only [Int.toNat_natCast]
      rw [e1, h3]
      rfl
    · rw [oldN_append]; omega
    · rw [those_append, those_append, List.drop_of_length_le (by rw [List.length_append, ← oldN_eq, ← oldN_eq]; omega), List.append_nil]

theorem Fits.ok {p : List Mark} {l : List Hunk} (h : Fits p l) : (∀ x ∈ p, markFault x = 0) → (∀ q ∈ l, q.marks.length ≤ 120) → oldN p ≤ 60 → newN p ≤ 60 → hOk 0 0 l ∧ (hFin 0 0 l).1 ≤ oldN p ∧ (hFin 0 0 l).2 = (newN p : Int) - oldN p := by
  induction h with
  | nil => intro _ _ _ _; exact ⟨trivial, by simp [hFin], by simp [hFin, oldN, newN, those]⟩
  | @keep p l m h hs ih =>
    intro s0 s3 s1 s2
    rw [oldN_append, oldN_keep hs] at s1 ⊢
    rw [newN_append, newN_keep hs] at s2 ⊢
    obtain ⟨i1, i2, i3⟩ := ih (fun x hx => s0 x (List.mem_append_left _ hx)) s3 (by omega) (by omega)
    exact ⟨i1, by omega, by omega⟩
  | @hunk p l m h hc ih =>
    intro s0 s3 s1 s2
    rw [oldN_append] at s1 ⊢
    rw [newN_append] at s2 ⊢
    obtain ⟨i1, i2, i3⟩ := ih (fun x hx => s0 x (List.mem_append_left _ hx)) (fun q hq => s3 q (List.mem_append_left _ hq)) (by omega) (by omega)
    have hm : scriptFault m = 0 := scriptFault_zero.2 ⟨s3 ⟨oldN p, newN p, m⟩ (by simp), fun x hx => s0 x (List.mem_append_right _ hx)⟩
    rw [hFin_snoc]
    refine ⟨hOk_snoc _ _ _ _ i1 (oneFault_of hm hc ?_ ?_ ?_ ?_ ?_ ?_), ?_, ?_⟩
    all_goals simp only []
    all_goals omega

theorem Fits.turn {p : List Mark} {l : List Hunk} (h : Fits p l) : Fits (p.map turnMark) (turnHunks l) := by
  induction h with
  | nil => exact .nil
  | @keep p l m h hs ih =>
    rw [List.map_append]
    exact ih.keep ((turnMark_32 m).2 hs)
  | @hunk p l m h hc ih =>
    rw [List.map_append]
    have e : turnHunks (l ++ [⟨oldN p, newN p, m⟩]) = turnHunks l ++ [⟨oldN (p.map turnMark), newN (p.map turnMark), m.map turnMark⟩] := by
      simp [turnHunks, turnHunk, oldN_turn, newN_turn]
    rw [e]
    exact ih.hunk _ (by rw [hasChange_turn]; exact hc)

/-- hunks that fit a script lead from its old lines to its new ones -/
theorem Fits.strict {p : List Mark} {l : List Hunk} (h : Fits p l) (h1 : linesFault (those p 43) = 0) (h2 : (hunksFault l).2 = 0) (h3 : newN p ≤ 60) : strict (those p 43) l = (those p 45, 0, 0) := by
  unfold Proofs.YtgabchhplmncnaaDoor.strict
  rw [if_neg (by simp [h1]), if_neg (by simp [h2])]
  obtain ⟨fr, out, e1, e2, e3⟩ := h.doAll []
  rw [List.append_nil] at e1
  rw [strictGo_of _ l 0 0 fr [] out e1 (by rw [e3, ← newN_eq]; exact h3), e3]

/-! ### hunks that were done fit -/
def keeps (l : List ByteArray) : List Mark := l.map fun x => ⟨32, x⟩
theorem those_keeps (l : List ByteArray) : those (keeps l) 43 = l ∧ those (keeps l) 45 = l := by
  unfold keeps those
  constructor
  · rw [List.filter_eq_self.2 (by intro m hm; obtain ⟨x, _, rfl⟩ := List.mem_map.1 hm; simp), List.map_map]
    exact List.map_id' l
  · rw [List.filter_eq_self.2 (by intro m hm; obtain ⟨x, _, rfl⟩ := List.mem_map.1 hm; simp), List.map_map]
    exact List.map_id' l
theorem Fits.keeps {p : List Mark} {l : List Hunk} (h : Fits p l) : ∀ r : List ByteArray, Fits (p ++ Proofs.YtgabchhplmncnaaDoor.keeps r) l := by
  intro r
  induction r generalizing p with
  | nil => simpa [Proofs.YtgabchhplmncnaaDoor.keeps] using h
  | cons x r ih =>
    have := ih (h.keep (m := ⟨32, x⟩) rfl)
    rw [List.append_assoc] at this
    exact this

theorem stands_split {a : List ByteArray} {at_ : Int} {l : List ByteArray} (h : standsB a at_ l = true) : 0 ≤ at_ ∧ at_.toNat + l.length ≤ a.length ∧ a = a.take at_.toNat ++ l ++ a.drop (at_.toNat + l.length) := by
  unfold standsB at h
  simp only [Bool.and_eq_true, decide_eq_true_eq] at h
  obtain ⟨⟨h1, h2⟩, h3⟩ := h
  refine ⟨h1, by omega, ?_⟩
  conv => lhs; rw [← List.take_append_drop at_.toNat a, ← List.take_append_drop l.length (a.drop at_.toNat), h3, List.drop_drop]
  rw [List.append_assoc]

theorem fits_of_doAll (a : List ByteArray) : ∀ (r l : List Hunk) (p : List Mark) (fr fr' : Nat) (out out' : List ByteArray) (more : Int), Fits p l → those p 43 = a.take fr → fr ≤ a.length → those p 45 = out → more = (newN p : Int) - oldN p →
    hOk fr more r → doAll a fr out r = some (fr', out') → ∃ q, Fits q (l ++ r) ∧ those q 43 = a.take fr' ∧ fr' ≤ a.length ∧ those q 45 = out'
  | [], l, p, fr, fr', out, out', more, hf, h1, h2, h3, h4, _, hd => by
    simp only [doAll, Option.some.injEq, Prod.mk.injEq] at hd
    obtain ⟨rfl, rfl⟩ := hd
    exact ⟨p, by simpa using hf, h1, h2, h3⟩
  | h :: r, l, p, fr, fr', out, out', more, hf, h1, h2, h3, h4, hk, hd => by
    rw [doAll] at hd
    by_cases hs : standsB a h.old (oldOf h.marks) = true
    · rw [if_pos hs] at hd
      obtain ⟨z1, z2, z3, z4, z5, z6, z7, z8⟩ := oneFault_zero hk.1
      obtain ⟨s1, s2, s3⟩ := stands_split hs
      have hon : oldN h.marks = (oldOf h.marks).length := rfl
      have hle : fr ≤ h.old.toNat := by omega
      have hpn : oldN p = fr := by rw [oldN_eq, h1, List.length_take]; omega
      have gap : (a.drop fr).take (h.old.toNat - fr) = (a.take h.old.toNat).drop fr := by rw [List.drop_take]
      have hl2 : ((a.drop fr).take (h.old.toNat - fr)).length = h.old.toNat - fr := by rw [List.length_take, List.length_drop]; omega
      have f1 := hf.keeps ((a.drop fr).take (h.old.toNat - fr))
      have f2 := f1.hunk h.marks z2
      have c1 : oldN (p ++ keeps ((a.drop fr).take (h.old.toNat - fr))) = h.old.toNat := by
        rw [oldN_append, oldN_eq (keeps _), (those_keeps _).1, hl2, hpn]; omega
      have c2 : (newN (p ++ keeps ((a.drop fr).take (h.old.toNat - fr))) : Int) = h.new := by
        rw [newN_append, newN_eq (keeps _), (those_keeps _).2, hl2]; omega
      have e1 : (⟨(oldN (p ++ keeps ((a.drop fr).take (h.old.toNat - fr))) : Int), (newN (p ++ keeps ((a.drop fr).take (h.old.toNat - fr))) : Int), h.marks⟩ : Hunk) = h := by
        rw [c1, c2]
        obtain ⟨o, n, m⟩ := h
        simp only [Hunk.mk.injEq, and_true]
        simp only at s1
        omega
      rw [e1] at f2
      have t1 : those (p ++ keeps ((a.drop fr).take (h.old.toNat - fr)) ++ h.marks) 43 = a.take (h.old.toNat + oldN h.marks) := by
        rw [those_append, those_append, (those_keeps _).1, h1, gap]
        have g1 : a.take fr ++ (a.take h.old.toNat).drop fr = a.take h.old.toNat := by
          conv => rhs; rw [← List.take_append_drop fr (a.take h.old.toNat)]
          rw [List.take_take, Nat.min_eq_left hle]
        rw [g1]
        conv => rhs; rw [s3]
        have g2 : (a.take h.old.toNat ++ oldOf h.marks).length = h.old.toNat + oldN h.marks := by rw [List.length_append, List.length_take]; omega
        rw [List.take_append_of_le_length (by omega)]
        exact (List.take_of_length_le (l := a.take h.old.toNat ++ oldOf h.marks) (by omega)).symm
      have t2 : those (p ++ keeps ((a.drop fr).take (h.old.toNat - fr)) ++ h.marks) 45 = out ++ (a.drop fr).take (h.old.toNat - fr) ++ newOf h.marks := by
        rw [those_append, those_append, (those_keeps _).2, h3]; rfl
      have t3 : more + newN h.marks - oldN h.marks = (newN (p ++ keeps ((a.drop fr).take (h.old.toNat - fr)) ++ h.marks) : Int) - oldN (p ++ keeps ((a.drop fr).take (h.old.toNat - fr)) ++ h.marks) := by
        rw [newN_append _ h.marks, oldN_append _ h.marks, c1]
        push_cast
        rw [c2]
        omega
      have hk2 : hOk ((h.old.toNat + oldN h.marks : Nat) : Int) (more + newN h.marks - oldN h.marks) r := by
        have := hk.2
        rw [show ((h.old.toNat + oldN h.marks : Nat) : Int) = h.old + oldN h.marks by omega]
        exact this
      obtain ⟨q, q1, q2, q3, q4⟩ := fits_of_doAll a r (l ++ [h]) _ _ _ _ _ _ f2 t1 (by omega) t2 t3 hk2 hd
      exact ⟨q, by simpa using q1, q2, q3, q4⟩
    · rw [if_neg hs] at hd; cases hd

theorem strict_zero {a y : List ByteArray} {l : List Hunk} {k : Nat} (h : strict a l = (y, k, 0)) : linesFault a = 0 ∧ hunksFault l = (0, 0) ∧ strictGo a 0 0 [] l = (y, k, 0) := by
  unfold strict at h
  by_cases h1 : linesFault a ≠ 0
  · rw [if_pos h1] at h
    simp only [Prod.mk.injEq] at h
    exact absurd h.2.2 h1
  · rw [if_neg h1] at h
    by_cases h2 : (hunksFault l).2 ≠ 0
    · rw [if_pos h2] at h
      simp only [Prod.mk.injEq] at h
      exact absurd h.2.2 h2
    · rw [if_neg h2] at h
      exact ⟨by simpa using h1, hunksFault_first (by simpa using h2), h⟩
theorem fits_of_strict {a y : List ByteArray} {l : List Hunk} {k : Nat} (h : strict a l = (y, k, 0)) : k = 0 ∧ y.length ≤ 60 ∧ ∃ q, Fits q l ∧ those q 43 = a ∧ those q 45 = y := by
  obtain ⟨h1, h2, h3⟩ := strict_zero h
  obtain ⟨fr, out, e1, e2, e3, e4⟩ := strictGo_inv a l 0 0 [] y k h3
  obtain ⟨_, hk⟩ := hunksFault_zero (by rw [h2])
  obtain ⟨q, q1, q2, q3, q4⟩ := fits_of_doAll a l [] [] 0 fr [] out 0 .nil rfl (Nat.zero_le _) rfl rfl hk e1
  refine ⟨e4, e3, q ++ keeps (a.drop fr), q1.keeps _, ?_, ?_⟩
  · rw [those_append, (those_keeps _).1, q2, List.take_append_drop]
  · rw [those_append, (those_keeps _).2, q4, e2]

theorem hOk_mem : ∀ (l : List Hunk) (fin more : Int), hOk fin more l → ∀ h ∈ l, scriptFault h.marks = 0
  | [], _, _, _, h, hh => by simp at hh
  | x :: r, fin, more, hk, h, hh => by
    rcases List.mem_cons.1 hh with rfl | hh
    · exact (oneFault_zero hk.1).1
    · exact hOk_mem r _ _ hk.2 h hh
theorem markFault_line {m : Mark} (h : markFault m = 0) : lineFault m.text = 0 := by
  unfold markFault at h
  by_cases h1 : m.sign ≠ 32 ∧ m.sign ≠ 45 ∧ m.sign ≠ 43
  · rw [if_pos h1] at h; simp at h
  · rw [if_neg h1] at h; exact h
/-- lines of the new file are lines of the old one, or of a hunk -/
theorem Fits.lines {p : List Mark} {l : List Hunk} (h : Fits p l) (ha : ∀ x ∈ those p 43, lineFault x = 0) (hl : ∀ q ∈ l, scriptFault q.marks = 0) : ∀ x ∈ those p 45, lineFault x = 0 := by
  induction h with
  | nil => intro x hx; simp [those] at hx
  | @keep p l m h hs ih =>
    intro x hx
    rw [those_append, (those_keep hs).2] at hx
    rw [those_append, (those_keep hs).1] at ha
    rcases List.mem_append.1 hx with hx | hx
    · exact ih (fun y hy => ha y (List.mem_append_left _ hy)) hl x hx
    · exact ha x (List.mem_append_right _ hx)
  | @hunk p l m h hc ih =>
    intro x hx
    rw [those_append] at hx ha
    rcases List.mem_append.1 hx with hx | hx
    · exact ih (fun y hy => ha y (List.mem_append_left _ hy)) (fun q hq => hl q (List.mem_append_left _ hq)) x hx
    · have := scriptFault_zero.1 (hl ⟨oldN p, newN p, m⟩ (by simp))
      unfold those at hx
      obtain ⟨y, hy, rfl⟩ := List.mem_map.1 hx
      exact markFault_line (this.2 y (List.mem_filter.1 hy).1)

/-- what was done is undone -/
theorem strict_undo {a y : List ByteArray} {l : List Hunk} {k : Nat} (h : strict a l = (y, k, 0)) : strict y (turnHunks l) = (a, 0, 0) ∧ linesFault y = 0 := by
  obtain ⟨h1, h2, h3⟩ := strict_zero h
  obtain ⟨_, hy, q, q1, q2, q3⟩ := fits_of_strict h
  obtain ⟨a1, a2⟩ := linesFault_zero.1 h1
  obtain ⟨_, hk⟩ := hunksFault_zero (by rw [h2])
  have hly : linesFault y = 0 := by
    rw [linesFault_zero]
    exact ⟨hy, q3 ▸ q1.lines (q2 ▸ a2) (hOk_mem _ _ _ hk)⟩
  have t := q1.turn
  have e1 : those (q.map turnMark) 43 = y := by rw [(those_turn q).1, q3]
  have e2 : those (q.map turnMark) 45 = a := by rw [(those_turn q).2, q2]
  have := t.strict (by rw [e1]; exact hly) (by rw [turn_ok h2]) (by rw [newN_eq, e2]; exact a1)
  rw [e1, e2] at this
  exact ⟨this, hly⟩

/-- what was found is done, and back -/
theorem strict_cut {a b : List ByteArray} {n : Int} (h : checkedFault a b = 0) (h0 : 0 ≤ n) (h1 : n ≤ 1000) :
    cutFault (script a b) n = 0 ∧ strict a (cutOf (script a b) n) = (b, 0, 0) ∧ hunksFault (cutOf (script a b) n) = (0, 0) ∧ strict b (turnHunks (cutOf (script a b) n)) = (a, 0, 0) := by
  obtain ⟨ha, hb⟩ := checkedFault_zero.1 h
  have e1 : those (script a b) 43 = a := script_old a b
  have e2 : those (script a b) 45 = b := script_new a b
  have la := (linesFault_zero.1 ha).1
  have lb := (linesFault_zero.1 hb).1
  have hc : cutFault (script a b) n = 0 := by
    unfold cutFault
    rw [if_neg (by simp [script_valid h]), if_neg (by omega), if_neg (by rw [oldN_eq, newN_eq, e1, e2]; omega)]
  have hk := cut_ok hc
  obtain ⟨_, hp⟩ := cut_pcs (s := script a b) h0
  have f := hp.fits
  have r1 := f.strict (by rw [e1]; exact ha) (by rw [hk]) (by rw [newN_eq, e2]; exact lb)
  rw [e1, e2] at r1
  exact ⟨hc, r1, hk, (strict_undo r1).1⟩
end Go.Proofs.YtgabchhplmncnaaDoor
namespace Go.Proofs.YtgabchhplmncnaaDoor

def wholeB (l : List Hunk) (s : Int) : Bool :=
  match l with
  | [] => true
  | [h] => decide (h.old = 0) && decide (h.new = 0) && h.marks.all fun m => decide (m.sign = s)
  | _ => false
def shapeB (c : Change) : Bool := if c.what = 2 then wholeB c.hunks 43 else if c.what = 3 then wholeB c.hunks 45 else !c.hunks.isEmpty
def changeFault (c : Change) : Int :=
  if c.what < 1 ∨ 3 < c.what then 1 else if pathFault c.path ≠ 0 then pathFault c.path else if (hunksFault c.hunks).2 ≠ 0 then (hunksFault c.hunks).2 else if shapeB c = true then 0 else 2
def patchGo : Nat → Option ByteArray → List Change → Nat × Int
  | _, _, [] => (0, 0)
  | i, prev, c :: r => if changeFault c ≠ 0 then (i, changeFault c) else if prev.any (fun p => leqB c.path p) = true then (i, 2) else patchGo (i + 1) (some c.path) r
def patchFault (p : List Change) : Nat × Int := if 16 < p.length then (0, 3) else patchGo 0 none p
def SortedC (p : List Change) : Prop := p.Pairwise fun c d => less c.path d.path = true
def Patch (p : List Change) : Prop := p.length ≤ 16 ∧ (∀ c ∈ p, changeFault c = 0) ∧ SortedC p

theorem patchGo_zero : ∀ (t : List Change) (i : Nat) (prev : Option ByteArray), (patchGo i prev t).2 = 0 → (∀ f ∈ t, changeFault f = 0) ∧ SortedC t ∧ (∀ p f, prev = some p → f ∈ t → less p f.path = true) ∧ patchGo i prev t = (0, 0)
  | [], _, _, _ => ⟨by simp, List.Pairwise.nil, by simp, rfl⟩
  | f :: r, i, prev, h => by
    rw [patchGo] at h ⊢
    by_cases h1 : changeFault f ≠ 0
    · rw [if_pos h1] at h; exact absurd h h1
    · rw [if_neg h1] at h ⊢
      by_cases h2 : prev.any (fun p => leqB f.path p) = true
      · rw [if_pos h2] at h; cases h
      · rw [if_neg h2] at h ⊢
        obtain ⟨i1, i2, i3, i4⟩ := patchGo_zero r (i + 1) (some f.path) h
        refine ⟨?_, ?_, ?_, i4⟩
        · intro x hx
          rcases List.mem_cons.1 hx with rfl | hx
          · simpa using h1
          · exact i1 x hx
        · exact List.Pairwise.cons (fun g hg => i3 f.path g rfl hg) i2
        · rintro p x rfl hx
          have hp : less p f.path = true := by
            simp only [Option.any_some] at h2
            rcases less_tri p f.path with g | g | g
            · exact g
            · exact absurd (leqB_true.2 (by rw [g]; exact less_irrefl _)) h2
            · exact absurd (leqB_true.2 (less_asymm g)) h2
          rcases List.mem_cons.1 hx with rfl | hx
          · exact hp
          · exact less_trans hp (i3 f.path x rfl hx)
theorem patchGo_ok : ∀ (t : List Change) (i : Nat) (prev : Option ByteArray), (∀ f ∈ t, changeFault f = 0) → SortedC t → (∀ p f, prev = some p → f ∈ t → less p f.path = true) → patchGo i prev t = (0, 0)
  | [], _, _, _, _, _ => rfl
  | f :: r, i, prev, h1, h2, h3 => by
    obtain ⟨g1, g2⟩ := List.pairwise_cons.1 h2
    have hp : ¬ prev.any (fun p => leqB f.path p) = true := by
      cases prev with
      | none => simp
      | some p =>
        simp only [Option.any_some]
        intro e
        have := leqB_true.1 e
        rw [h3 p f rfl (List.mem_cons_self ..)] at this
        cases this
    rw [patchGo, if_neg (by rw [h1 f (List.mem_cons_self ..)]; simp), if_neg hp]
    exact patchGo_ok r (i + 1) (some f.path) (fun x hx => h1 x (List.mem_cons_of_mem _ hx)) g2 (fun p x hp hx => by cases hp; exact g1 x hx)
theorem patch_ok {p : List Change} (h : Patch p) : patchFault p = (0, 0) := by
  unfold patchFault
  rw [if_neg (by have := h.1; omega)]
  exact patchGo_ok p 0 none h.2.1 h.2.2 (by simp)
theorem patch_of {p : List Change} (h : (patchFault p).2 = 0) : Patch p := by
  unfold patchFault at h
  by_cases h1 : 16 < p.length
  · rw [if_pos h1] at h; cases h
  · rw [if_neg h1] at h
    obtain ⟨i1, i2, _, _⟩ := patchGo_zero p 0 none h
    exact ⟨by omega, i1, i2⟩
theorem patch_zero {p : List Change} (h : (patchFault p).2 = 0) : patchFault p = (0, 0) := patch_ok (patch_of h)

/-! ### what a change does to what a path reads -/
def stepOf (x : Option (List ByteArray)) (c : Change) : Option (List ByteArray) × Int :=
  if c.what = 2 ∧ x.isSome = true then (none, 6)
  else if c.what ≠ 2 ∧ x.isSome = false then (none, 4)
  else if (strict (x.getD []) c.hunks).2.2 ≠ 0 then (none, (strict (x.getD []) c.hunks).2.2)
  else if c.what = 3 then (if (strict (x.getD []) c.hunks).1 = [] then (none, 0) else (none, 6))
  else (some (strict (x.getD []) c.hunks).1, 0)
def setAt (t : List File) (p : ByteArray) (y : Option (List ByteArray)) : List File :=
  match y with
  | some l => putAt t ⟨p, l⟩
  | none => dropAt t (posOf t p)
def applyGo : Nat → List File → List Change → List File × Nat × Int
  | _, t, [] => (t, 0, 0)
  | i, t, c :: r => if (stepOf (look t c.path) c).2 ≠ 0 then ([], i, (stepOf (look t c.path) c).2) else applyGo (i + 1) (setAt t c.path (stepOf (look t c.path) c).1) r
def applyR (t : List File) (p : List Change) : List File × Nat × Int :=
  if (treeFault t).2 ≠ 0 then ([], 0, (treeFault t).2)
  else if (patchFault p).2 ≠ 0 then ([], (patchFault p).1, (patchFault p).2)
  else if (applyGo 0 t p).2.2 ≠ 0 then applyGo 0 t p
  else if 8 < (applyGo 0 t p).1.length then ([], 0, 3)
  else ((applyGo 0 t p).1, 0, 0)

theorem step_none {x : Option (List ByteArray)} {c : Change} (h : stepOf x c = (none, 0)) : x.isSome = true := by
  unfold stepOf at h
  by_cases h1 : c.what = 2 ∧ x.isSome = true
  · exact h1.2
  · rw [if_neg h1] at h
    by_cases h2 : c.what ≠ 2 ∧ x.isSome = false
    · rw [if_pos h2] at h; cases h
    · rw [if_neg h2] at h
      by_cases h3 : (strict (x.getD []) c.hunks).2.2 ≠ 0
      · rw [if_pos h3] at h; exact absurd (Prod.mk.inj h).2 h3
      · rw [if_neg h3] at h
        by_cases h4 : c.what = 3
        · cases hx : x.isSome with
          | true => rfl
          | false => exact absurd ⟨by omega, hx⟩ h2
        · rw [if_neg h4] at h; cases h
theorem setAt_look {t : List File} (hs : Sorted t) {p : ByteArray} {y : Option (List ByteArray)} (hy : y = none → isAt t p = true) (q : ByteArray) : look (setAt t p y) q = if p = q then y else look t q := by
  cases y with
  | some l => exact putAt_look hs ⟨p, l⟩ q
  | none => exact dropAt_look hs (hy rfl) q
theorem setAt_sorted {t : List File} (hs : Sorted t) {p : ByteArray} {y : Option (List ByteArray)} (hy : y = none → isAt t p = true) : Sorted (setAt t p y) := by
  cases y with
  | some l => exact putAt_sorted hs ⟨p, l⟩
  | none => exact dropAt_sorted hs (hy rfl)
theorem step_at {t : List File} (hs : Sorted t) {c : Change} {y : Option (List ByteArray)} (h : stepOf (look t c.path) c = (y, 0)) : y = none → isAt t c.path = true := by
  rintro rfl
  rw [isAt_look hs]
  exact step_none h

/-- a patch leads from tree to tree: by what each path reads -/
def Leads (t : List File) (p : List Change) (b : List File) : Prop :=
  (∀ c ∈ p, stepOf (look t c.path) c = (look b c.path, 0)) ∧ ∀ q, (∀ c ∈ p, c.path ≠ q) → look b q = look t q
theorem apply_of : ∀ (p : List Change) (t b : List File) (i : Nat), Sorted t → Sorted b → SortedC p → Leads t p b → applyGo i t p = (b, 0, 0)
  | [], t, b, _, ht, hb, _, h => by
    rw [applyGo, sorted_ext ht hb fun q => (h.2 q (by simp)).symm]
  | c :: r, t, b, i, ht, hb, hp, h => by
    obtain ⟨p1, p2⟩ := List.pairwise_cons.1 hp
    have hc := h.1 c (List.mem_cons_self ..)
    have hy := step_at ht hc
    rw [applyGo, hc, if_neg (by simp)]
    refine apply_of r _ b (i + 1) (setAt_sorted ht hy) hb p2 ⟨fun d hd => ?_, fun q hq => ?_⟩
    · rw [setAt_look ht hy, if_neg (less_ne (p1 d hd))]
      exact h.1 d (List.mem_cons_of_mem _ hd)
    · rw [setAt_look ht hy]
      by_cases e : c.path = q
      · rw [if_pos e, e]
      · rw [if_neg e]
        refine h.2 q fun d hd => ?_
        rcases List.mem_cons.1 hd with rfl | hd
        · exact e
        · exact hq d hd
theorem apply_inv : ∀ (p : List Change) (t b : List File) (k i : Nat), Sorted t → SortedC p → applyGo i t p = (b, k, 0) → k = 0 ∧ Sorted b ∧ Leads t p b
  | [], t, b, k, _, ht, _, h => by
    rw [applyGo] at h
    cases h
    exact ⟨rfl, ht, by simp, fun _ _ => rfl⟩
  | c :: r, t, b, k, i, ht, hp, h => by
    obtain ⟨p1, p2⟩ := List.pairwise_cons.1 hp
    rw [applyGo] at h
    by_cases z : (stepOf (look t c.path) c).2 ≠ 0
    · rw [if_pos z] at h
      simp only [Prod.mk.injEq] at h
      exact absurd h.2.2 z
    · rw [if_neg z] at h
      have hc : stepOf (look t c.path) c = ((stepOf (look t c.path) c).1, 0) := by
        rw [Prod.ext_iff]; exact ⟨rfl, by simpa using z⟩
      generalize (stepOf (look t c.path) c).1 = y at h hc
      have hy := step_at ht hc
      obtain ⟨k0, sb, l1, l2⟩ := apply_inv r _ b k (i + 1) (setAt_sorted ht hy) p2 h
      have hcb : look b c.path = y := by
        rw [l2 c.path fun d hd => (less_ne (p1 d hd)).symm, setAt_look ht hy, if_pos rfl]
      refine ⟨k0, sb, fun d hd => ?_, fun q hq => ?_⟩
      · rcases List.mem_cons.1 hd with rfl | hd
        · rw [hc, hcb]
        · have := l1 d hd
          rwa [setAt_look ht hy, if_neg (less_ne (p1 d hd))] at this
      · rw [l2 q fun d hd => hq d (List.mem_cons_of_mem _ hd), setAt_look ht hy, if_neg (hq c (List.mem_cons_self ..))]
theorem applyR_of {t b : List File} {p : List Change} (ht : Tree t) (hp : Patch p) (hb : Sorted b) (h8 : b.length ≤ 8) (h : Leads t p b) : applyR t p = (b, 0, 0) := by
  have e := apply_of p t b 0 ht.2.2 hb hp.2.2 h
  unfold applyR
  rw [if_neg (by rw [tree_iff.1 ht]; simp), if_neg (by rw [patch_ok hp]; simp), e, if_neg (by simp), if_neg (by simp only; omega)]
theorem applyR_inv {t b : List File} {p : List Change} {k : Nat} (h : applyR t p = (b, k, 0)) : k = 0 ∧ Tree t ∧ Patch p ∧ Sorted b ∧ b.length ≤ 8 ∧ Leads t p b := by
  unfold applyR at h
  by_cases h1 : (treeFault t).2 ≠ 0
  · rw [if_pos h1] at h; simp only [Prod.mk.injEq] at h; exact absurd h.2.2 h1
  · rw [if_neg h1] at h
    by_cases h2 : (patchFault p).2 ≠ 0
    · rw [if_pos h2] at h; simp only [Prod.mk.injEq] at h; exact absurd h.2.2 h2
    · rw [if_neg h2] at h
      have ht : Tree t := tree_iff.2 (by simpa using h1)
      have hp : Patch p := patch_of (by simpa using h2)
      by_cases h3 : (applyGo 0 t p).2.2 ≠ 0
      · rw [if_pos h3] at h; rw [h] at h3; exact absurd rfl h3
      · rw [if_neg h3] at h
        by_cases h4 : 8 < (applyGo 0 t p).1.length
        · rw [if_pos h4] at h; cases h
        · rw [if_neg h4] at h
          have e : applyGo 0 t p = ((applyGo 0 t p).1, (applyGo 0 t p).2.1, 0) := by
            rw [Prod.ext_iff, Prod.ext_iff]; exact ⟨rfl, rfl, by simpa using h3⟩
          obtain ⟨_, q2, q3⟩ := apply_inv p t _ _ 0 ht.2.2 hp.2.2 e
          cases h
          exact ⟨rfl, ht, hp, q2, by omega, q3⟩

/-! ### turned -/
def turnW (k : Int) : Int := if k = 2 then 3 else if k = 3 then 2 else k
def turnC (c : Change) : Change := ⟨turnW c.what, c.path, turnHunks c.hunks⟩
def turnP (p : List Change) : List Change := p.map turnC
theorem changeFault_zero {c : Change} (h : changeFault c = 0) : 1 ≤ c.what ∧ c.what ≤ 3 ∧ pathFault c.path = 0 ∧ hunksFault c.hunks = (0, 0) ∧ shapeB c = true := by
  unfold changeFault at h
  by_cases h1 : c.what < 1 ∨ 3 < c.what
  · rw [if_pos h1] at h; cases h
  · rw [if_neg h1] at h
    by_cases h2 : pathFault c.path ≠ 0
    · rw [if_pos h2] at h; exact absurd h h2
    · rw [if_neg h2] at h
      by_cases h3 : (hunksFault c.hunks).2 ≠ 0
      · rw [if_pos h3] at h; exact absurd h h3
      · rw [if_neg h3] at h
        by_cases h4 : shapeB c = true
        · exact ⟨by omega, by omega, by simpa using h2, hunksFault_first (by simpa using h3), h4⟩
        · rw [if_neg h4] at h; cases h
theorem changeFault_of {c : Change} (h1 : 1 ≤ c.what) (h2 : c.what ≤ 3) (h3 : pathFault c.path = 0) (h4 : hunksFault c.hunks = (0, 0)) (h5 : shapeB c = true) : changeFault c = 0 := by
  unfold changeFault
  rw [if_neg (by omega), if_neg (by simp [h3]), if_neg (by simp [h4]), if_pos h5]
theorem wholeB_turn {l : List Hunk} {s : Int} (hs : s = 43 ∨ s = 45) (h : wholeB l s = true) : wholeB (turnHunks l) (88 - s) = true := by
  match l with
  | [] => rfl
  | [q] =>
    unfold wholeB at h
    simp only [Bool.and_eq_true, decide_eq_true_eq, List.all_eq_true] at h
    obtain ⟨⟨h1, h2⟩, h3⟩ := h
    show (decide (q.new = 0) && decide (q.old = 0) && (q.marks.map turnMark).all fun m => decide (m.sign = 88 - s)) = true
    rw [Bool.and_eq_true, Bool.and_eq_true]
    refine ⟨⟨decide_eq_true h2, decide_eq_true h1⟩, List.all_eq_true.2 fun m hm => ?_⟩
    obtain ⟨x, hx, rfl⟩ := List.mem_map.1 hm
    have := h3 x hx
    refine decide_eq_true ?_
    unfold turnMark
    rcases hs with rfl | rfl
    · simp [this]
    · simp [this]
  | _ :: _ :: _ => cases h
theorem turnC_ok {c : Change} (h : changeFault c = 0) : changeFault (turnC c) = 0 := by
  obtain ⟨h1, h2, h3, h4, h5⟩ := changeFault_zero h
  have hw : c.what = 1 ∨ c.what = 2 ∨ c.what = 3 := by omega
  refine changeFault_of ?_ ?_ h3 (turn_ok h4) ?_
  · show 1 ≤ turnW c.what
    rcases hw with e | e | e <;> rw [e] <;> decide
  · show turnW c.what ≤ 3
    rcases hw with e | e | e <;> rw [e] <;> decide
  · unfold shapeB at h5 ⊢
    show (if turnW c.what = 2 then wholeB (turnHunks c.hunks) 43 else if turnW c.what = 3 then wholeB (turnHunks c.hunks) 45 else !(turnHunks c.hunks).isEmpty) = true
    rcases hw with e | e | e
    · rw [e, if_neg (by decide), if_neg (by decide)] at h5
      rw [e, if_neg (by decide), if_neg (by decide)]
      unfold turnHunks
      cases hh : c.hunks with
      | nil => rw [hh] at h5; cases h5
      | cons a b => rfl
    · rw [e, if_pos rfl] at h5
      rw [e, if_neg (by decide), if_pos (by decide)]
      exact wholeB_turn (.inl rfl) h5
    · rw [e, if_neg (by decide), if_pos rfl] at h5
      rw [e, if_pos (by decide)]
      exact wholeB_turn (.inr rfl) h5
theorem turnC_turnC (c : Change) : turnC (turnC c) = c := by
  cases c with
  | mk k p l =>
    unfold turnC
    simp only [turn_turn]
    congr 1
    unfold turnW
    by_cases h2 : k = 2
    · simp [h2]
    · by_cases h3 : k = 3
      · simp [h3]
      · simp [h2, h3]
theorem turnP_turnP (p : List Change) : turnP (turnP p) = p := by
  unfold turnP
  rw [List.map_map]
  conv => rhs; rw [← List.map_id p]
  exact List.map_congr_left fun c _ => turnC_turnC c
theorem patch_turn {p : List Change} (h : Patch p) : Patch (turnP p) := by
  refine ⟨by unfold turnP; rw [List.length_map]; exact h.1, fun c hc => ?_, ?_⟩
  · obtain ⟨x, hx, rfl⟩ := List.mem_map.1 hc
    exact turnC_ok (h.2.1 x hx)
  · unfold SortedC turnP
    rw [List.pairwise_map]
    exact h.2.2
theorem strict_nil {a : List ByteArray} {l : List Hunk} {y : List ByteArray} {k : Nat} (h : strict a l = (y, k, 0)) : k = 0 := (fits_of_strict h).1
theorem step_undo {x y : Option (List ByteArray)} {c : Change} (hc : changeFault c = 0) (h : stepOf x c = (y, 0)) : stepOf y (turnC c) = (x, 0) := by
  obtain ⟨c1, c2, _, _, _⟩ := changeFault_zero hc
  have hw : c.what = 1 ∨ c.what = 2 ∨ c.what = 3 := by omega
  unfold stepOf at h
  by_cases h1 : c.what = 2 ∧ x.isSome = true
  · rw [if_pos h1] at h; cases h
  · rw [if_neg h1] at h
    by_cases h2 : c.what ≠ 2 ∧ x.isSome = false
    · rw [if_pos h2] at h; cases h
    · rw [if_neg h2] at h
      by_cases h3 : (strict (x.getD []) c.hunks).2.2 ≠ 0
      · rw [if_pos h3] at h; simp only [Prod.mk.injEq] at h; exact absurd h.2 h3
      · rw [if_neg h3] at h
        have e : strict (x.getD []) c.hunks = ((strict (x.getD []) c.hunks).1, (strict (x.getD []) c.hunks).2.1, 0) := by
          rw [Prod.ext_iff, Prod.ext_iff]; exact ⟨rfl, rfl, by simpa using h3⟩
        have u := (strict_undo e).1
        rcases hw with w | w | w
        · rw [if_neg (by omega)] at h
          have hy := (Prod.mk.inj h).1
          cases x with
          | none => exact absurd ⟨by omega, rfl⟩ h2
          | some l =>
            subst hy
            unfold stepOf turnC turnW
            simp only [w, Option.getD_some] at u ⊢
            simp [u]
        · rw [if_neg (by omega)] at h
          have hy := (Prod.mk.inj h).1
          cases x with
          | some l => exact absurd ⟨w, rfl⟩ h1
          | none =>
            subst hy
            unfold stepOf turnC turnW
            simp only [w, Option.getD_some, Option.getD_none] at u ⊢
            simp [u]
        · rw [if_pos w] at h
          cases x with
          | none => exact absurd ⟨by omega, rfl⟩ h2
          | some l =>
            by_cases q : (strict ((some l).getD []) c.hunks).1 = []
            · rw [if_pos q] at h
              have hy := (Prod.mk.inj h).1
              subst hy
              rw [q] at u
              unfold stepOf turnC turnW
              simp only [w, Option.getD_some, Option.getD_none] at u ⊢
              simp [u]
            · rw [if_neg q] at h; cases h
theorem leads_turn {t b : List File} {p : List Change} (hp : ∀ c ∈ p, changeFault c = 0) (h : Leads t p b) : Leads b (turnP p) t := by
  refine ⟨fun c hc => ?_, fun q hq => ?_⟩
  · obtain ⟨x, hx, rfl⟩ := List.mem_map.1 hc
    exact step_undo (hp x hx) (h.1 x hx)
  · exact (h.2 q fun c hc => hq (turnC c) (List.mem_map_of_mem hc)).symm
theorem step_lines {x y : Option (List ByteArray)} {c : Change} (h : stepOf x c = (y, 0)) : ∀ l, y = some l → linesFault l = 0 := by
  rintro l rfl
  unfold stepOf at h
  by_cases h1 : c.what = 2 ∧ x.isSome = true
  · rw [if_pos h1] at h; cases h
  · rw [if_neg h1] at h
    by_cases h2 : c.what ≠ 2 ∧ x.isSome = false
    · rw [if_pos h2] at h; cases h
    · rw [if_neg h2] at h
      by_cases h3 : (strict (x.getD []) c.hunks).2.2 ≠ 0
      · rw [if_pos h3] at h; cases h
      · rw [if_neg h3] at h
        have e : strict (x.getD []) c.hunks = ((strict (x.getD []) c.hunks).1, (strict (x.getD []) c.hunks).2.1, 0) := by
          rw [Prod.ext_iff, Prod.ext_iff]; exact ⟨rfl, rfl, by simpa using h3⟩
        by_cases h4 : c.what = 3
        · rw [if_pos h4] at h
          split at h <;> cases h
        · rw [if_neg h4] at h
          have := Option.some.inj (Prod.mk.inj h).1
          rw [← this]
          exact (strict_undo e).2
/-- what comes of a tree is one -/
theorem leads_tree {t b : List File} {p : List Change} (ht : Tree t) (hp : Patch p) (hb : Sorted b) (h8 : b.length ≤ 8) (h : Leads t p b) : Tree b := by
  refine ⟨h8, fun f hf => ?_, hb⟩
  have hl := look_mem hb hf
  by_cases e : ∃ c ∈ p, c.path = f.path
  · obtain ⟨c, hc, e⟩ := e
    have hs := h.1 c hc
    rw [e, hl] at hs
    unfold fileFault
    rw [if_pos (by rw [← e]; exact (changeFault_zero (hp.2.1 c hc)).2.2.1)]
    exact step_lines hs _ rfl
  · have := h.2 f.path fun c hc g => e ⟨c, hc, g⟩
    rw [hl] at this
    obtain ⟨x, hx, e1, e2⟩ := look_some this.symm
    have q : x = f := by cases x; cases f; simp only at e1 e2; rw [e1, e2]
    exact q ▸ ht.2.1 x hx
/-- what was done is undone -/
theorem apply_back {t b : List File} {p : List Change} {k : Nat} (h : applyR t p = (b, k, 0)) : applyR b (turnP p) = (t, 0, 0) := by
  obtain ⟨_, ht, hp, hb, h8, hl⟩ := applyR_inv h
  exact applyR_of (leads_tree ht hp hb h8 hl) (patch_turn hp) ht.2.2 ht.1 (leads_turn hp.2.1 hl)
end Go.Proofs.YtgabchhplmncnaaDoor
namespace Go.Proofs.YtgabchhplmncnaaDoor

def textG (p : List Change) : List UInt8 := textL (linesG p)
def parseG (s : List UInt8) : List Change × Int :=
  if 400000 < s.length then ([], 5) else match changesG (parts 10 s).dropLast.length (parts 10 s).dropLast with
  | none => ([], 5)
  | some p => if (parts 10 s).getLast? ≠ some [] then ([], 5) else if (patchFault p).2 ≠ 0 then ([], (patchFault p).2) else (p, 0)
theorem parts_has {d c : UInt8} : ∀ {s : List UInt8}, c ∈ s → c = d ∨ ∃ x ∈ parts d s, c ∈ x
  | [], h => by cases h
  | e :: r, h => by
    obtain ⟨h', t, er⟩ := List.exists_cons_of_ne_nil (parts_ne d r)
    by_cases he : e = d
    · subst he
      rw [parts_sep]
      rcases List.mem_cons.1 h with rfl | h
      · exact .inl rfl
      · rcases parts_has (d := e) h with q | ⟨x, hx, q⟩
        · exact .inl q
        · exact .inr ⟨x, List.mem_cons_of_mem _ hx, q⟩
    · rw [parts_other he er]
      rcases List.mem_cons.1 h with rfl | h
      · exact .inr ⟨c :: h', List.mem_cons_self .., List.mem_cons_self ..⟩
      · rcases parts_has (d := d) h with q | ⟨x, hx, q⟩
        · exact .inl q
        · rw [er] at hx
          rcases List.mem_cons.1 hx with rfl | hx
          · exact .inr ⟨e :: x, List.mem_cons_self .., List.mem_cons_of_mem _ q⟩
          · exact .inr ⟨x, List.mem_cons_of_mem _ hx, q⟩
theorem path_fine {s : ByteArray} (h : pathFault s = 0) : s.data.toList.length ≤ 20 ∧ ∀ c ∈ s.data.toList, c ≠ 10 := by
  unfold pathFault at h
  by_cases hl : 20 < s.size
  · rw [if_pos hl] at h; cases h
  · rw [if_neg hl] at h
    refine ⟨by simpa using Nat.le_of_not_lt hl, fun c hc e => ?_⟩
    by_cases ha : (parts 47 s.data.toList).all nameOk = true
    · subst e
      rcases parts_has (d := 47) hc with q | ⟨x, hx, q⟩
      · exact absurd q (by decide)
      · have := List.all_eq_true.1 ha x hx
        unfold nameOk at this
        rw [Bool.and_eq_true] at this
        exact absurd (List.all_eq_true.1 this.2 10 q) (by decide)
    · rw [if_neg ha] at h; cases h
theorem change_ok {c : Change} (h : changeFault c = 0) : (c.what = 1 ∨ c.what = 2 ∨ c.what = 3) ∧ pathFault c.path = 0 ∧ (hunksFault c.hunks).2 = 0 := by
  unfold changeFault at h
  by_cases h1 : c.what < 1 ∨ 3 < c.what
  · rw [if_pos h1] at h; cases h
  · rw [if_neg h1] at h
    by_cases h2 : pathFault c.path ≠ 0
    · rw [if_pos h2] at h; exact absurd h h2
    · rw [if_neg h2] at h
      by_cases h3 : (hunksFault c.hunks).2 ≠ 0
      · rw [if_pos h3] at h; exact absurd h h3
      · exact ⟨by omega, by simpa using h2, by simpa using h3⟩
theorem hunks_short {l : List Hunk} (e : (hunksFault l).2 = 0) : (textL (linesU l)).length ≤ 11280 := by
  unfold hunksFault at e
  by_cases hl : 60 < l.length
  · rw [if_pos hl] at e; cases e
  · rw [if_neg hl] at e
    obtain ⟨_, _, h3⟩ := go_ok l 0 0 0 (by decide) (by decide) e
    omega
theorem noneL_10 : ∀ c ∈ noneL, c ≠ 10 := by decide
theorem from_fine (w : Int) {p : List UInt8} (h : p.length ≤ 20 ∧ ∀ c ∈ p, c ≠ 10) : (mmL ++ fromL w p).length ≤ 26 ∧ (∀ c ∈ mmL ++ fromL w p, c ≠ 10) ∧ (ppL ++ toL w p).length ≤ 26 ∧ (∀ c ∈ ppL ++ toL w p, c ≠ 10) := by
  have ha : ∀ c ∈ mmL, c ≠ 10 := by decide
  have hb : ∀ c ∈ ppL, c ≠ 10 := by decide
  have h1 : (fromL w p).length ≤ 22 ∧ ∀ c ∈ fromL w p, c ≠ 10 := by
    unfold fromL
    by_cases e : w = 2
    · rw [if_pos e]; exact ⟨by decide, noneL_10⟩
    · rw [if_neg e]
      refine ⟨by simp; omega, fun c hc => ?_⟩
      rcases List.mem_append.1 hc with q | q
      · exact (by decide : ∀ c ∈ ([97, 47] : List UInt8), c ≠ 10) c q
      · exact h.2 c q
  have h2 : (toL w p).length ≤ 22 ∧ ∀ c ∈ toL w p, c ≠ 10 := by
    unfold toL
    by_cases e : w = 3
    · rw [if_pos e]; exact ⟨by decide, noneL_10⟩
    · rw [if_neg e]
      refine ⟨by simp; omega, fun c hc => ?_⟩
      rcases List.mem_append.1 hc with q | q
      · exact (by decide : ∀ c ∈ ([98, 47] : List UInt8), c ≠ 10) c q
      · exact h.2 c q
  refine ⟨?_, fun c hc => ?_, ?_, fun c hc => ?_⟩
  · rw [List.length_append, show mmL.length = 4 from rfl]; omega
  · rcases List.mem_append.1 hc with q | q
    · exact ha c q
    · exact h1.2 c q
  · rw [List.length_append, show ppL.length = 4 from rfl]; omega
  · rcases List.mem_append.1 hc with q | q
    · exact hb c q
    · exact h2.2 c q
theorem changes_ok : ∀ (p : List Change), (∀ c ∈ p, changeFault c = 0) → (∀ x ∈ linesG p, ∀ c ∈ x, c ≠ 10) ∧ (textG p).length ≤ 11340 * p.length
  | [], _ => ⟨fun _ h => (by cases h), by show (0 : Nat) ≤ 0; omega⟩
  | c :: p, h => by
    obtain ⟨i1, i2⟩ := changes_ok p fun d hd => h d (List.mem_cons_of_mem _ hd)
    obtain ⟨_, q2, q3⟩ := change_ok (h c (List.mem_cons_self ..))
    obtain ⟨f1, f2, f3, f4⟩ := from_fine c.what (path_fine q2)
    have hs := hunks_short q3
    have hn := (hunks_ok q3).2.1
    have e : linesG (c :: p) = (mmL ++ fromL c.what c.path.data.toList) :: (ppL ++ toL c.what c.path.data.toList) :: (linesU c.hunks ++ linesG p) := rfl
    have et : (textG (c :: p)).length = (mmL ++ fromL c.what c.path.data.toList).length + 1 + ((ppL ++ toL c.what c.path.data.toList).length + 1 + ((textL (linesU c.hunks)).length + (textG p).length)) := by
      unfold textG
      rw [e]
      show ((mmL ++ fromL c.what c.path.data.toList) ++ [10] ++ ((ppL ++ toL c.what c.path.data.toList) ++ [10] ++ textL (linesU c.hunks ++ linesG p))).length = _
      rw [textL_app]
      simp only [List.length_append, List.length_singleton]
    refine ⟨fun x hx => ?_, by rw [et, List.length_cons]; omega⟩
    rw [e] at hx
    rcases List.mem_cons.1 hx with rfl | hx
    · exact f2
    · rcases List.mem_cons.1 hx with rfl | hx
      · exact f4
      · rcases List.mem_append.1 hx with hx | hx
        · exact hn x hx
        · exact i1 x hx
/-- what is printed is read -/
theorem git_back {p : List Change} (e : (patchFault p).2 = 0) : parseG (textG p) = (p, 0) := by
  have hlen : p.length ≤ 16 ∧ ∀ c ∈ p, changeFault c = 0 := by
    unfold patchFault at e
    by_cases h : 16 < p.length
    · rw [if_pos h] at e; cases e
    · rw [if_neg h] at e
      exact ⟨by omega, (patchGo_zero p 0 none e).1⟩
  obtain ⟨h1, h2⟩ := changes_ok p hlen.2
  have hp : parts 10 (textG p) = linesG p ++ [[]] := by
    have := parts_text (linesG p) [] h1
    rwa [List.append_nil] at this
  unfold parseG
  rw [if_neg (by omega), hp, List.dropLast_concat, changes_back p _ (Nat.le_refl _) fun c hc => ⟨(change_ok (hlen.2 c hc)).1, (hunks_ok (change_ok (hlen.2 c hc)).2.2).1⟩]
  simp only
  rw [if_neg (by rw [List.getLast?_append]; simp), if_neg (by rw [e]; simp)]
/-- what is read is printed so -/
theorem git_some {s : List UInt8} {p : List Change} (h : parseG s = (p, 0)) : textG p = s ∧ (patchFault p).2 = 0 := by
  unfold parseG at h
  by_cases hl : 400000 < s.length
  · rw [if_pos hl] at h
    injection h with _ h
    cases h
  · rw [if_neg hl] at h
    cases hc : changesG (parts 10 s).dropLast.length (parts 10 s).dropLast with
    | none =>
      rw [hc] at h
      injection h with _ h
      cases h
    | some q =>
      rw [hc] at h
      simp only at h
      by_cases hg : (parts 10 s).getLast? ≠ some []
      · rw [if_pos hg] at h
        injection h with _ h
        cases h
      · rw [if_neg hg] at h
        by_cases hf : (patchFault q).2 ≠ 0
        · rw [if_pos hf] at h
          injection h with _ h
          exact absurd h hf
        · rw [if_neg hf] at h
          injection h with h _
          subst h
          have hlast : (parts 10 s).getLast? = some [] := by
            by_cases z : (parts 10 s).getLast? = some []
            · exact z
            · exact absurd z hg
          refine ⟨?_, by simpa using hf⟩
          have := parts_flat 10 s
          rw [hlast, ← changes_some _ _ _ hc] at this
          simpa [textG, textL] using this
/-- how many lines it has -/
theorem git_lines : ∀ (p : List Change), (linesG p).length = (p.map fun c => 2 + (c.hunks.map fun h => 1 + h.marks.length).sum).sum
  | [] => rfl
  | c :: p => by
    have hu : ∀ l : List Hunk, (linesU l).length = (l.map fun h => 1 + h.marks.length).sum := fun l => by
      induction l with
      | nil => rfl
      | cons h l ih =>
        show (hunkL h ++ linesU l).length = _
        rw [List.length_append, ih, List.map_cons, List.sum_cons]
        unfold hunkL
        rw [List.length_cons, List.length_map, Nat.add_comm 1]
    show ((mmL ++ fromL c.what c.path.data.toList) :: (ppL ++ toL c.what c.path.data.toList) :: (linesU c.hunks ++ linesG p)).length = _
    rw [List.length_cons, List.length_cons, List.length_append, git_lines p, hu, List.map_cons, List.sum_cons]
    omega
end Go.Proofs.YtgabchhplmncnaaDoor
namespace Go.Proofs.YtgabchhplmncnaaDoor

/-- in how many lines two texts differ, as far as both go -/
def diffZ : List ByteArray → List ByteArray → Nat
  | x :: a, y :: b => (if x = y then 0 else 1) + diffZ a b
  | _, _ => 0
/-- in how many lines two texts differ -/
def diffN : List ByteArray → List ByteArray → Nat
  | x :: a, y :: b => (if x = y then 0 else 1) + diffN a b
  | [], b => b.length
  | a, [] => a.length
theorem diffN_nil (a : List ByteArray) : diffN a [] = a.length := by cases a <;> rfl
theorem diffZ_nil (a : List ByteArray) : diffZ a [] = 0 := by cases a <;> rfl
theorem diffN_eq : ∀ (a b : List ByteArray), diffN a b = (max a.length b.length - min a.length b.length) + diffZ a b
  | [], b => by simp [diffN, diffZ]
  | x :: a, [] => by simp [diffN, diffZ]
  | x :: a, y :: b => by
    rw [diffN, diffZ, diffN_eq a b, List.length_cons, List.length_cons]
    omega
theorem diffZ_le : ∀ (a b : List ByteArray), diffZ a b ≤ min a.length b.length
  | [], b => by simp [diffZ]
  | x :: a, [] => by simp [diffZ]
  | x :: a, y :: b => by
    have := diffZ_le a b
    rw [diffZ, List.length_cons, List.length_cons]
    split <;> omega
theorem diffN_le (a b : List ByteArray) : diffN a b ≤ max a.length b.length := by
  rw [diffN_eq]
  have := diffZ_le a b
  omega
theorem diffN_self : ∀ (a : List ByteArray), diffN a a = 0
  | [] => rfl
  | x :: a => by rw [diffN, if_pos rfl, diffN_self a]
theorem diffN_zero : ∀ (a b : List ByteArray), diffN a b = 0 → a = b
  | [], [], _ => rfl
  | [], _ :: _, h => by simp [diffN] at h
  | _ :: _, [], h => by simp [diffN] at h
  | x :: a, y :: b, h => by
    rw [diffN] at h
    by_cases e : x = y
    · rw [diffN_zero a b (by omega), e]
    · rw [if_neg e] at h; omega
/-- what a text costs by itself -/
def aloneN (a : List ByteArray) : Nat := (a.length + 1) / 2 + 1
/-- the cost of two places, of which one or both may be none -/
def rangeCost (a b : List (List ByteArray)) (i k : Nat) : Int := match a[i]?, b[k]? with
  | some x, some y => (diffN x y : Nat)
  | some x, none => (aloneN x : Nat)
  | none, some y => (aloneN y : Nat)
  | none, none => 0
def rowOf (a b : List (List ByteArray)) (i : Nat) : List Int := (List.range (a.length + b.length)).map (rangeCost a b i)
def costsOf (a b : List (List ByteArray)) : List (List Int) := (List.range (a.length + b.length)).map (rowOf a b)
theorem costs_len (a b : List (List ByteArray)) : (costsOf a b).length = a.length + b.length := by simp [costsOf]
theorem row_len (a b : List (List ByteArray)) (i : Nat) : (rowOf a b i).length = a.length + b.length := by simp [rowOf]
theorem cost_bd {a b : List (List ByteArray)} (ha : ∀ x ∈ a, x.length ≤ 99000) (hb : ∀ x ∈ b, x.length ≤ 99000) (i k : Nat) : 0 ≤ rangeCost a b i k ∧ rangeCost a b i k ≤ 100000 := by
  unfold rangeCost aloneN
  cases hi : a[i]? with
  | none =>
    cases hk : b[k]? with
    | none => simp only; omega
    | some y => have := hb y (List.mem_of_getElem? hk); simp only; omega
  | some x =>
    have h1 := ha x (List.mem_of_getElem? hi)
    cases hk : b[k]? with
    | none => simp only; omega
    | some y =>
      have h2 := hb y (List.mem_of_getElem? hk)
      have := diffN_le x y
      simp only; omega
theorem costs_bd {a b : List (List ByteArray)} (ha : ∀ x ∈ a, x.length ≤ 99000) (hb : ∀ x ∈ b, x.length ≤ 99000) : SqBd (costsOf a b).length (costsOf a b) := by
  rw [costs_len]
  intro row hr
  unfold costsOf at hr
  obtain ⟨i, -, rfl⟩ := List.mem_map.1 hr
  refine ⟨row_len a b i, fun c hc => ?_⟩
  unfold rowOf at hc
  obtain ⟨k, -, rfl⟩ := List.mem_map.1 hc
  exact cost_bd ha hb i k
theorem row_take {a b : List (List ByteArray)} {i k : Nat} (hk : k < a.length + b.length) : ((List.range (a.length + b.length)).take (k + 1)).map (rangeCost a b i) = ((List.range (a.length + b.length)).take k).map (rangeCost a b i) ++ [rangeCost a b i k] := by
  rw [List.take_add_one, List.getElem?_range hk, Option.toList_some, List.map_append]; rfl
theorem costs_take {a b : List (List ByteArray)} {i : Nat} (hi : i < a.length + b.length) : ((List.range (a.length + b.length)).take (i + 1)).map (rowOf a b) = ((List.range (a.length + b.length)).take i).map (rowOf a b) ++ [rowOf a b i] := by
  rw [List.take_add_one, List.getElem?_range hi, Option.toList_some, List.map_append]; rfl

/-! ### a choice: each column once -/
theorem choose_mem {n : Nat} : ∀ {rows : List (List Int)} {left : Nat → Bool}, SqOk n rows → rows.length ≤ cntL left n → ∀ c ∈ chooseS rows left, ∃ k : Nat, c = k ∧ k < n ∧ left k = true
  | [], _, _, _, c, hc => by simp [chooseS] at hc
  | row :: rest, left, h, hl, c, hc => by
    obtain ⟨j, q1, q2, _, q4, _, q6, _⟩ := best_step h (by simpa using hl)
    rw [q6] at hc
    rcases List.mem_cons.1 hc with rfl | hc
    · exact ⟨j, rfl, q1, q2⟩
    · obtain ⟨k, e, r1, r2⟩ := choose_mem (sq_tail h) q4 c hc
      exact ⟨k, e, r1, (del_left r2).1⟩
theorem choose_nodup {n : Nat} : ∀ {rows : List (List Int)} {left : Nat → Bool}, SqOk n rows → rows.length ≤ cntL left n → (chooseS rows left).Nodup
  | [], _, _, _ => by simp [chooseS]
  | row :: rest, left, h, hl => by
    obtain ⟨j, q1, q2, _, q4, _, q6, _⟩ := best_step h (by simpa using hl)
    rw [q6, List.nodup_cons]
    refine ⟨fun hm => ?_, choose_nodup (sq_tail h) q4⟩
    obtain ⟨k, e, r1, r2⟩ := choose_mem (sq_tail h) q4 _ hm
    have : j = k := by omega
    subst this
    exact (del_left r2).2 rfl

/-! ### what is told -/
/-- of the first series' places -/
def firstsOf (n : Nat) (m : List Int) (i : Nat) : Int × Int := (i, if m.getD i 0 < n then m.getD i 0 else -1)
def rangeOut (a b : Nat) (m : List Int) : List (Int × Int) := (List.range a).map (firstsOf b m) ++ ((List.range b).filter fun (k : Nat) => decide ((k : Int) ∈ m.drop a)).map fun (k : Nat) => ((-1 : Int), (k : Int))
theorem firsts_take {a b : Nat} {m : List Int} {i : Nat} (hi : i < a) : ((List.range a).take (i + 1)).map (firstsOf b m) = ((List.range a).take i).map (firstsOf b m) ++ [firstsOf b m i] := by
  rw [List.take_add_one, List.getElem?_range hi, Option.toList_some, List.map_append]; rfl
theorem thens_take {b : Nat} {k : Nat} (p : Nat → Bool) (hk : k < b) : (((List.range b).take (k + 1)).filter p).map (fun (k : Nat) => ((-1 : Int), (k : Int))) = (((List.range b).take k).filter p).map (fun (k : Nat) => ((-1 : Int), (k : Int))) ++ if p k = true then [((-1 : Int), (k : Int))] else [] := by
  rw [List.take_add_one, List.getElem?_range hk, Option.toList_some, List.filter_append, List.map_append]
  by_cases e : p k = true
  · rw [if_pos e, List.filter_cons, if_pos e]; rfl
  · rw [if_neg e, List.filter_cons, if_neg e]; rfl
theorem filter_eq_of_nodup : ∀ {l : List Int} (k : Int), l.Nodup → l.filter (· == k) = if k ∈ l then [k] else []
  | [], _, _ => rfl
  | x :: l, k, h => by
    rw [List.nodup_cons] at h
    rw [List.filter_cons, filter_eq_of_nodup k h.2]
    by_cases e : x = k
    · subst e
      rw [if_pos (by simp), if_neg h.1, if_pos (List.mem_cons_self ..)]
    · rw [if_neg (by simp [e])]
      by_cases q : k ∈ l
      · rw [if_pos q, if_pos (List.mem_cons_of_mem _ q)]
      · rw [if_neg q, if_neg (by simp [q, Ne.symm e])]
/-- the patches' texts, by lines -/
def rtextOf (p : List Change) : List ByteArray := (linesG p).map toB
def rangeFault (p q : List (List Change)) : Int := if 4 < p.length ∨ 4 < q.length then 3 else firstOf (fun c => (patchFault c).2) (p ++ q)
def rangeM (p q : List (List Change)) : List Int := chooseS (costsOf (p.map rtextOf) (q.map rtextOf)) (bitsOf (2 ^ (costsOf (p.map rtextOf) (q.map rtextOf)).length - 1))
def rangeL (p q : List (List Change)) : List (Int × Int) := if rangeFault p q = 0 then rangeOut p.length q.length (rangeM p q) else []
theorem firstOf_app {α : Type} (f : α → Int) : ∀ (l m : List α), firstOf f (l ++ m) = if firstOf f l = 0 then firstOf f m else firstOf f l
  | [], m => by rw [List.nil_append, if_pos (by rfl)]
  | x :: l, m => by
    rw [List.cons_append, firstOf, firstOf]
    by_cases h : f x = 0
    · rw [if_pos h, if_pos h]; exact firstOf_app f l m
    · rw [if_neg h, if_neg h, if_neg h]

/-! ### a nodup list of so many numbers below n has all -/
theorem nodup_le {α : Type} [BEq α] [LawfulBEq α] : ∀ (l r : List α), l.Nodup → (∀ x ∈ l, x ∈ r) → l.length ≤ r.length
  | [], _, _, _ => Nat.zero_le _
  | x :: l, r, h, hs => by
    rw [List.nodup_cons] at h
    have hx := hs x (List.mem_cons_self ..)
    have := nodup_le l (r.erase x) h.2 fun y hy => (List.mem_erase_of_ne (by rintro rfl; exact h.1 hy)).2 (hs y (List.mem_cons_of_mem _ hy))
    rw [List.length_erase_of_mem hx] at this
    have := List.length_pos_of_mem hx
    rw [List.length_cons]; omega
theorem nodup_all {m : List Int} {n : Nat} (h1 : m.Nodup) (h2 : ∀ c ∈ m, ∃ k : Nat, c = k ∧ k < n) (h3 : m.length = n) {k : Nat} (hk : k < n) : (k : Int) ∈ m := by
  by_cases h : (k : Int) ∈ m
  · exact h
  · exfalso
    have := nodup_le ((k : Int) :: m) ((List.range n).map fun (i : Nat) => (i : Int)) (by rw [List.nodup_cons]; exact ⟨h, h1⟩) (by
      intro x hx
      rcases List.mem_cons.1 hx with rfl | hx
      · exact List.mem_map.2 ⟨k, List.mem_range.2 hk, rfl⟩
      · obtain ⟨j, rfl, hj⟩ := h2 x hx
        exact List.mem_map.2 ⟨j, List.mem_range.2 hj, rfl⟩)
    rw [List.length_cons, List.length_map, List.length_range] at this
    omega
theorem nodup_cast {l : List Nat} (h : l.Nodup) : (l.map fun (i : Nat) => (i : Int)).Nodup := by
  unfold List.Nodup at *
  rw [List.pairwise_map]
  exact h.imp fun hne e => hne (by omega)
/-- a choice: each number below n once -/
structure Choice (n : Nat) (m : List Int) : Prop where
  len : m.length = n
  nodup : m.Nodup
  mem : ∀ c ∈ m, ∃ k : Nat, c = k ∧ k < n
theorem cnt_all {n : Nat} : n ≤ cntL (bitsOf (2 ^ n - 1)) n := by rw [cnt_full n n (Nat.le_refl _)]; exact Nat.le_refl _
theorem choice_of {a b : List (List ByteArray)} (ha : ∀ x ∈ a, x.length ≤ 99000) (hb : ∀ x ∈ b, x.length ≤ 99000) : Choice (a.length + b.length) (chooseS (costsOf a b) (bitsOf (2 ^ (costsOf a b).length - 1))) := by
  have hq := (costs_bd ha hb).ok
  have hl := costs_len a b
  have hc : (costsOf a b).length ≤ cntL (bitsOf (2 ^ (costsOf a b).length - 1)) (costsOf a b).length := cnt_all
  refine ⟨by rw [choose_len hq hc, hl], choose_nodup hq hc, fun c hm => ?_⟩
  obtain ⟨k, e, h1, _⟩ := choose_mem hq hc c hm
  exact ⟨k, e, by rw [hl] at h1; exact h1⟩

/-! ### what is told: each place once -/
def firstsL (L : List (Int × Int)) : List Int := (L.map (·.1)).filter fun x => decide (0 ≤ x)
def thensL (L : List (Int × Int)) : List Int := (L.map (·.2)).filter fun x => decide (0 ≤ x)
theorem firstsL_app (L M : List (Int × Int)) : firstsL (L ++ M) = firstsL L ++ firstsL M := by unfold firstsL; rw [List.map_append, List.filter_append]
theorem thensL_app (L M : List (Int × Int)) : thensL (L ++ M) = thensL L ++ thensL M := by unfold thensL; rw [List.map_append, List.filter_append]
theorem firsts_all (b : Nat) (m : List Int) : ∀ (l : List Nat), firstsL (l.map (firstsOf b m)) = l.map fun (i : Nat) => (i : Int)
  | [] => rfl
  | i :: l => by
    have := firsts_all b m l
    unfold firstsL at *
    rw [List.map_cons, List.map_cons, List.filter_cons, if_pos (by show decide (0 ≤ (i : Int)) = true; simp), this, List.map_cons]
    rfl
theorem firsts_none : ∀ (l : List Nat), firstsL (l.map fun (k : Nat) => ((-1 : Int), (k : Int))) = []
  | [] => rfl
  | i :: l => by
    have := firsts_none l
    unfold firstsL at *
    rw [List.map_cons, List.map_cons, List.filter_cons, if_neg (by show ¬ decide (0 ≤ (-1 : Int)) = true; decide), this]
theorem thens_all : ∀ (l : List Nat), thensL (l.map fun (k : Nat) => ((-1 : Int), (k : Int))) = l.map fun (i : Nat) => (i : Int)
  | [] => rfl
  | i :: l => by
    have := thens_all l
    unfold thensL at *
    rw [List.map_cons, List.map_cons, List.filter_cons, if_pos (by show decide (0 ≤ (i : Int)) = true; simp), this, List.map_cons]
theorem thens_first {n b : Nat} {m : List Int} (h : ∀ c ∈ m, ∃ k : Nat, c = k ∧ k < n) : ∀ (a : Nat), a ≤ m.length → thensL ((List.range a).map (firstsOf b m)) = (m.take a).filter fun (x : Int) => decide (x < b)
  | 0, _ => rfl
  | a + 1, ha => by
    rw [List.range_succ, List.map_append, thensL_app, thens_first h a (by omega), List.take_add_one, List.getElem?_eq_getElem (by omega), Option.toList_some, List.filter_append]
    congr 1
    obtain ⟨k, e, hk⟩ := h m[a] (List.getElem_mem _)
    have hg : m.getD a 0 = m[a] := by rw [List.getD_eq_getElem?_getD, List.getElem?_eq_getElem (by omega)]; rfl
    unfold thensL firstsOf
    rw [List.map_cons, List.map_nil, List.map_cons, List.map_nil, hg]
    by_cases hb : m[a] < (b : Int)
    · rw [if_pos hb, List.filter_cons, List.filter_cons, if_pos (by simp; omega), if_pos (by simpa using hb)]
      rfl
    · rw [if_neg hb, List.filter_cons, List.filter_cons, if_neg (by simp), if_neg (by simpa using hb)]
      rfl
theorem told_firsts {a b : Nat} {m : List Int} : firstsL (rangeOut a b m) = (List.range a).map fun (i : Nat) => (i : Int) := by
  unfold rangeOut
  rw [firstsL_app, firsts_all, firsts_none, List.append_nil]
theorem told_thens {a b : Nat} {m : List Int} (h : Choice (a + b) m) : (thensL (rangeOut a b m)).Nodup ∧ (thensL (rangeOut a b m)).length = b := by
  have e : thensL (rangeOut a b m) = (m.take a).filter (fun (x : Int) => decide (x < b)) ++ ((List.range b).filter fun (k : Nat) => decide ((k : Int) ∈ m.drop a)).map fun (i : Nat) => (i : Int) := by
    unfold rangeOut
    rw [thensL_app, thens_first h.mem a (by rw [h.len]; omega), thens_all]
  have hnd : m.Nodup := h.nodup
  rw [← List.take_append_drop a m, List.nodup_append] at hnd
  obtain ⟨n1, n2, n3⟩ := hnd
  have hN : (thensL (rangeOut a b m)).Nodup := by
    rw [e, List.nodup_append]
    refine ⟨n1.filter _, ?_, ?_⟩
    · refine nodup_cast (List.nodup_range.filter _)
    · intro x hx y hy hxy
      subst hxy
      obtain ⟨k, hk, rfl⟩ := List.mem_map.1 hy
      have := (List.mem_filter.1 hk).2
      exact n3 _ (List.mem_filter.1 hx).1 _ (by simpa using this) rfl
  refine ⟨hN, Nat.le_antisymm ?_ ?_⟩
  · have := nodup_le (thensL (rangeOut a b m)) ((List.range b).map fun (i : Nat) => (i : Int)) hN (by
      intro x hx
      rw [e] at hx
      rcases List.mem_append.1 hx with hx | hx
      · obtain ⟨k, rfl, _⟩ := h.mem x (List.mem_of_mem_take (List.mem_filter.1 hx).1)
        have := (List.mem_filter.1 hx).2
        exact List.mem_map.2 ⟨k, List.mem_range.2 (by simpa using this), rfl⟩
      · obtain ⟨k, hk, rfl⟩ := List.mem_map.1 hx
        exact List.mem_map.2 ⟨k, (List.mem_filter.1 hk).1, rfl⟩)
    rw [List.length_map, List.length_range] at this
    exact this
  · have := nodup_le ((List.range b).map fun (i : Nat) => (i : Int)) (thensL (rangeOut a b m)) (nodup_cast List.nodup_range) (by
      intro x hx
      obtain ⟨k, hk, rfl⟩ := List.mem_map.1 hx
      have hkb := List.mem_range.1 hk
      have hm := nodup_all h.nodup h.mem h.len (show k < a + b by omega)
      rw [← List.take_append_drop a m] at hm
      rw [e]
      rcases List.mem_append.1 hm with q | q
      · exact List.mem_append_left _ (List.mem_filter.2 ⟨q, by simp; omega⟩)
      · exact List.mem_append_right _ (List.mem_map.2 ⟨k, List.mem_filter.2 ⟨hk, by simpa using q⟩, rfl⟩))
    rw [List.length_map, List.length_range] at this
    exact this
/-- each entry is fine -/
theorem told_each {a b : Nat} {m : List Int} (h : Choice (a + b) m) {i : Nat} {x y : Int} (hx : (rangeOut a b m)[i]? = some (x, y)) :
    ¬ (x < 0 ∧ y < 0) ∧ x < a ∧ y < b ∧ x ∉ firstsL ((rangeOut a b m).take i) ∧ y ∉ thensL ((rangeOut a b m).take i) := by
  have hd : rangeOut a b m = (rangeOut a b m).take i ++ (x, y) :: (rangeOut a b m).drop (i + 1) := by
    obtain ⟨hi, e⟩ := List.getElem?_eq_some_iff.1 hx
    conv => lhs; rw [← List.take_append_drop i (rangeOut a b m), List.drop_eq_getElem_cons hi, e]
  have hm : (x, y) ∈ rangeOut a b m := List.mem_of_getElem? hx
  obtain ⟨t1, -⟩ := told_thens h
  have f1 : (firstsL (rangeOut a b m)).Nodup := by rw [told_firsts]; exact nodup_cast List.nodup_range
  have hpos : ∀ (L : List (Int × Int)) z, z ∈ firstsL L → 0 ≤ z := fun L z hz => by simpa using (List.mem_filter.1 hz).2
  have hpos2 : ∀ (L : List (Int × Int)) z, z ∈ thensL L → 0 ≤ z := fun L z hz => by simpa using (List.mem_filter.1 hz).2
  refine ⟨?_, ?_, ?_, ?_, ?_⟩
  · rintro ⟨q1, q2⟩
    unfold rangeOut at hm
    rcases List.mem_append.1 hm with hm | hm
    · obtain ⟨k, _, e⟩ := List.mem_map.1 hm
      unfold firstsOf at e
      injection e with e1 e2
      omega
    · obtain ⟨k, _, e⟩ := List.mem_map.1 hm
      injection e with e1 e2
      omega
  · unfold rangeOut at hm
    rcases List.mem_append.1 hm with hm | hm
    · obtain ⟨k, hk, e⟩ := List.mem_map.1 hm
      have := List.mem_range.1 hk
      unfold firstsOf at e
      injection e with e1 e2
      omega
    · obtain ⟨k, _, e⟩ := List.mem_map.1 hm
      injection e with e1 e2
      omega
  · unfold rangeOut at hm
    rcases List.mem_append.1 hm with hm | hm
    · obtain ⟨k, hk, e⟩ := List.mem_map.1 hm
      unfold firstsOf at e
      injection e with e1 e2
      by_cases q : m.getD k 0 < (b : Int)
      · rw [if_pos q] at e2; omega
      · rw [if_neg q] at e2; omega
    · obtain ⟨k, hk, e⟩ := List.mem_map.1 hm
      have := List.mem_range.1 (List.mem_filter.1 hk).1
      injection e with e1 e2
      omega
  · intro hc
    have hx0 := hpos _ _ hc
    rw [hd, firstsL_app, List.nodup_append] at f1
    exact f1.2.2 _ hc x (by unfold firstsL; rw [List.map_cons, List.filter_cons, if_pos (by simpa using hx0)]; exact List.mem_cons_self ..) rfl
  · intro hc
    have hx0 := hpos2 _ _ hc
    rw [hd, thensL_app, List.nodup_append] at t1
    exact t1.2.2 _ hc y (by unfold thensL; rw [List.map_cons, List.filter_cons, if_pos (by simpa using hx0)]; exact List.mem_cons_self ..) rfl
theorem firstsL_take {L : List (Int × Int)} {i : Nat} {x y : Int} (hx : L[i]? = some (x, y)) : firstsL (L.take (i + 1)) = firstsL (L.take i) ++ if 0 ≤ x then [x] else [] := by
  rw [List.take_add_one, hx, Option.toList_some, firstsL_app]
  congr 1
  unfold firstsL
  by_cases h : 0 ≤ x
  · rw [if_pos h, List.map_cons, List.filter_cons, if_pos (by simpa using h)]; rfl
  · rw [if_neg h, List.map_cons, List.filter_cons, if_neg (by simpa using h)]; rfl
theorem thensL_take {L : List (Int × Int)} {i : Nat} {x y : Int} (hx : L[i]? = some (x, y)) : thensL (L.take (i + 1)) = thensL (L.take i) ++ if 0 ≤ y then [y] else [] := by
  rw [List.take_add_one, hx, Option.toList_some, thensL_app]
  congr 1
  unfold thensL
  by_cases h : 0 ≤ y
  · rw [if_pos h, List.map_cons, List.filter_cons, if_pos (by simpa using h)]; rfl
  · rw [if_neg h, List.map_cons, List.filter_cons, if_neg (by simpa using h)]; rfl

/-! ### of itself -/
theorem diag_self {A : List (List ByteArray)} : ∀ (j i : Nat), i + j = A.length + A.length → Diag (A.length + A.length) i ((List.range' i j).map (rowOf A A))
  | 0, i, h => by show i = _; omega
  | j + 1, i, h => by
    rw [List.range'_succ, List.map_cons]
    refine ⟨by omega, ?_, diag_self j (i + 1) (by omega)⟩
    unfold rowOf
    rw [List.getD_eq_getElem?_getD, List.getElem?_map, List.getElem?_range (by omega)]
    show rangeCost A A i i = 0
    unfold rangeCost
    cases A[i]? with
    | none => rfl
    | some x => simp only; rw [diffN_self]; rfl
theorem choose_self {A : List (List ByteArray)} (ha : ∀ x ∈ A, x.length ≤ 99000) : chooseS (costsOf A A) (bitsOf (2 ^ (costsOf A A).length - 1)) = (List.range (A.length + A.length)).map fun (k : Nat) => (k : Int) := by
  have hq := (costs_bd ha ha).ok
  have hl := costs_len A A
  rw [hl] at hq ⊢
  have hd : Diag (A.length + A.length) 0 (costsOf A A) := by
    have := diag_self (A := A) (A.length + A.length) 0 (by omega)
    rwa [← List.range_eq_range'] at this
  have := choose_diag (left := bitsOf (2 ^ (A.length + A.length) - 1)) hq hd (by rw [hl]; exact cnt_all) (fun k hk => by rw [bits_full]; simp [hk])
  rw [this, hl, ← List.range_eq_range']
theorem rangeOut_self (n : Nat) : rangeOut n n ((List.range (n + n)).map fun (k : Nat) => (k : Int)) = (List.range n).map fun (i : Nat) => ((i : Int), (i : Int)) := by
  unfold rangeOut
  have e1 : (List.range n).map (firstsOf n ((List.range (n + n)).map fun (k : Nat) => (k : Int))) = (List.range n).map fun (i : Nat) => ((i : Int), (i : Int)) := by
    refine List.map_congr_left fun i hi => ?_
    have hi := List.mem_range.1 hi
    unfold firstsOf
    rw [List.getD_eq_getElem?_getD, List.getElem?_map, List.getElem?_range (by omega)]
    simp only [Option.map_some, Option.getD_some]
    rw [if_pos (by omega)]
  have e2 : ((List.range n).filter fun (k : Nat) => decide ((k : Int) ∈ ((List.range (n + n)).map fun (k : Nat) => (k : Int)).drop n)) = [] := by
    rw [List.filter_eq_nil_iff]
    intro k hk
    have hk := List.mem_range.1 hk
    simp only [decide_eq_true_eq]
    rw [← List.map_drop]
    intro hm
    obtain ⟨j, hj, e⟩ := List.mem_map.1 hm
    rw [List.range_eq_range', List.drop_range'] at hj
    have := List.mem_range'_1.1 hj
    omega
  rw [e1, e2, List.map_nil, List.append_nil]
end Go.Proofs.YtgabchhplmncnaaDoor
namespace Go.Proofs.YtgabchhplmncnaaDoor
open Go.RowKit

theorem diffZ_step {a b : List ByteArray} {k : Nat} {x y : ByteArray} (hx : a[k]? = some x) (hy : b[k]? = some y) : diffZ (a.drop k) (b.drop k) = (if x = y then 0 else 1) + diffZ (a.drop (k + 1)) (b.drop (k + 1)) := by
  rw [drop_eq hx, drop_eq hy, diffZ]
theorem diffZ_end {a b : List ByteArray} {k : Nat} (h : min a.length b.length ≤ k) : diffZ (a.drop k) (b.drop k) = 0 := by
  rcases Nat.le_total a.length b.length with q | q
  · rw [List.drop_of_length_le (by omega), diffZ]; intros; simp_all
  · rw [List.drop_of_length_le (l := b) (by omega), diffZ_nil]
theorem diffN_step {a b : List ByteArray} {k : Nat} {x y : ByteArray} (hx : a[k]? = some x) (hy : b[k]? = some y) : diffN (a.drop k) (b.drop k) = (if x = y then 0 else 1) + diffN (a.drop (k + 1)) (b.drop (k + 1)) := by
  rw [drop_eq hx, drop_eq hy, diffN]
theorem diffN_left {a b : List ByteArray} {k : Nat} (ha : k < a.length) (hb : b.length ≤ k) : diffN (a.drop k) (b.drop k) = 1 + diffN (a.drop (k + 1)) (b.drop (k + 1)) := by
  rw [List.drop_of_length_le (l := b) hb, List.drop_of_length_le (l := b) (by omega), diffN_nil, diffN_nil, List.length_drop, List.length_drop]
  omega
theorem diffN_right {a b : List ByteArray} {k : Nat} (ha : a.length ≤ k) (hb : k < b.length) : diffN (a.drop k) (b.drop k) = 1 + diffN (a.drop (k + 1)) (b.drop (k + 1)) := by
  rw [List.drop_of_length_le (l := a) ha, List.drop_of_length_le (l := a) (by omega), diffN, diffN, List.length_drop, List.length_drop]
  omega
theorem diffN_end {a b : List ByteArray} {k : Nat} (ha : a.length ≤ k) (hb : b.length ≤ k) : diffN (a.drop k) (b.drop k) = 0 := by
  rw [List.drop_of_length_le ha, List.drop_of_length_le hb]; rfl
theorem str_ne (x y : ByteArray) : (x.toList != y.toList) = decide (x ≠ y) := by
  by_cases h : x = y
  · subst h; simp
  · rw [decide_eq_true h]
    simp only [bne_iff_ne, ne_eq]
    intro e
    apply h
    apply ByteArray.ext
    apply Array.toList_inj.1
    rw [← Lib.toList_data, ← Lib.toList_data, e]
theorem str_eqq (x y : ByteArray) : (x.toList == y.toList) = decide (x = y) := by
  by_cases h : x = y
  · subst h; simp
  · rw [decide_eq_false h]
    rw [beq_eq_false_iff_ne]
    intro e
    apply h
    apply ByteArray.ext
    apply Array.toList_inj.1
    rw [← Lib.toList_data, ← Lib.toList_data, e]

set_option maxHeartbeats 1000000 in
set_option maxRecDepth 100000 in
theorem apart_any (l m : List ByteArray) (v u : Value) (w : World) (h : Rdv w Never v l) (g : Rdv w Never u m) (hl : l.length ≤ 1000000) (hm : m.length ≤ 1000000) :
    Calls Tryd.prog 16 #[v, u] w fun e w' => e = .returned (.int .i64 (diffN l m : Nat)) ∧ Chg Never w w' := by
  obtain ⟨a, cap, rfl, h1, h2, h3⟩ := rdv_slice h
  obtain ⟨c, cap', rfl, g1, g2, g3⟩ := rdv_slice g
  unfold maxLen at h2 g2
  have HD := Lib.hid (diffN_eq l m)
  obtain ⟨M, hM⟩ : ∃ M, max l.length m.length - min l.length m.length = M := ⟨_, rfl⟩
  rw [hM] at HD
  have hMz : M ≤ 1000000 := by omega
  have hK : min l.length m.length ≤ 1000000 := by omega
  go_enter Tryd.func16, Tryd.ntmps16
  go_wp2_with fail
  have hm1 : max l.length m.length - min l.length m.length = M := hM
  go_loopw [5, 23] (fun nv iv wr => ∃ k n : Nat, k ≤ min l.length m.length ∧ iv = .int .i64 k ∧ nv = .int .i64 n ∧ n ≤ M + k ∧ Chg Never w wr ∧ Hid (n + diffZ (l.drop k) (m.drop k) = diffN l m)) (fun _ iv _ => min l.length m.length - (intOf iv).toNat)
  case atStart => exact ⟨0, M, Nat.zero_le _, rfl, by go_num, by omega, Chg.refl _ _, HD.out.symm⟩
  case round =>
    obtain ⟨k, n, hk, rfl, rfl, hn, hc, hJ⟩ := hrel
    rename World => wr
    by_cases hlt : k < min l.length m.length
    · obtain ⟨x, hx⟩ : ∃ x, l[k]? = some x := ⟨l[k]'(by omega), by simp⟩
      obtain ⟨y, hy⟩ : ∃ y, m[k]? = some y := ⟨m[k]'(by omega), by simp⟩
      obtain ⟨b, off, rfl, -, -, c0, -⟩ := elems_str h3 hx
      obtain ⟨b', off', rfl, -, -, d0, -⟩ := elems_str g3 hy
      have c0 := hc.cellNever c0
      have d0 := hc.cellNever d0
      have hst := diffZ_step hx hy
      have ib1 : (k : Int) < (l.length : Int) := by omega
      have ib2 : (k : Int) < (m.length : Int) := by omega
      clear h3 g3 hx hy
      by_cases e : x = y
      · have t1 := (str_ne x y).trans (decide_eq_false (by simpa using e))
        have t1b := (str_eqq x y).trans (decide_eq_true e)
        have HJ2 : Hid (n + diffZ (l.drop (k + 1)) (m.drop (k + 1)) = diffN l m) := by rw [Hid, ← hJ.out, hst, if_pos e]; omega
        clear e hst hJ
        go_wp2_with fail
        go_quiet (fail)
        go_wp2_with fail
        go_roundw
        case rel => exact ⟨k + 1, n, by omega, by go_num, rfl, by omega, hc.drewN _, HJ2⟩
        case measure => simp [intOf]; omega
      · have t1 := (str_ne x y).trans (decide_eq_true (by simpa using e))
        have t1b := (str_eqq x y).trans (decide_eq_false e)
        have HJ2 : Hid (n + 1 + diffZ (l.drop (k + 1)) (m.drop (k + 1)) = diffN l m) := by rw [Hid, ← hJ.out, hst, if_neg e]; omega
        clear e hst hJ
        go_wp2_with fail
        go_quiet (fail)
        go_wp2_with fail
        go_roundw
        case rel => exact ⟨k + 1, n + 1, by omega, by go_num, by go_num, by omega, hc.drewN _, HJ2⟩
        case measure => simp [intOf]; omega
    · have hJ2 := hJ.out
      rw [diffZ_end (by omega), Nat.add_zero] at hJ2
      go_wp2_with fail
      go_ret
      exact ⟨by rw [← hJ2]; rfl, hc⟩

set_option maxHeartbeats 1000000 in
set_option maxRecDepth 100000 in
theorem alone_any (l : List ByteArray) (v : Value) (w : World) (h : Rdv w Never v l) (hl : l.length ≤ 1000000) :
    Calls Tryd.prog 17 #[v] w fun e w' => e = .returned (.int .i64 (aloneN l : Nat)) ∧ Chg Never w w' := by
  obtain ⟨a, cap, rfl, h1, h2, h3⟩ := rdv_slice h
  have e1 : IntKind.i64.wrap ((l.length : Int) + 1) = ((l.length + 1 : Nat) : Int) := by rw [show (l.length : Int) + 1 = ((l.length + 1 : Nat) : Int) by omega]; exact IntWalk.i64_in _ (by omega)
  have e2 : (((l.length + 1 : Nat) : Int)).tdiv 2 = (((l.length + 1) / 2 : Nat) : Int) := by rw [Int.tdiv_eq_ediv_of_nonneg (by omega)]; omega
  have e3 : IntKind.i64.wrap ((((l.length + 1) / 2 : Nat) : Int)) = (((l.length + 1) / 2 : Nat) : Int) := IntWalk.i64_in _ (by omega)
  have e4 : IntKind.i64.wrap ((((l.length + 1) / 2 : Nat) : Int) + 1) = (aloneN l : Int) := by unfold aloneN; rw [show (((l.length + 1) / 2 : Nat) : Int) + 1 = (((l.length + 1) / 2 + 1 : Nat) : Int) by omega]; exact IntWalk.i64_in _ (by omega)
  go_enter Tryd.func17, Tryd.ntmps17
  go_wp2_with fail
  go_ret
  exact ⟨rfl, Chg.refl _ _⟩

end Go.Proofs.YtgabchhplmncnaaDoor
namespace Go.Proofs.YtgabchhplmncnaaDoor
open Go.RowKit
theorem elems_row {α : Type} [Dat α] {w : World} {O : Nat → Prop} {a : Option Addr} {l : List (List α)} (h : Elems w O a l) {i : Nat} {x : List α} (hx : l[i]? = some x) :
    ∃ b off v, a = some ⟨b, off, none⟩ ∧ ¬ O b ∧ b < w.heap.size ∧ w.cell? ⟨b, off + i, none⟩ = some v ∧ Rdv w O v x := by
  obtain ⟨b, off, es, ha, hb, hcs, hr⟩ := h i x hx
  obtain ⟨v, rfl⟩ : ∃ v, es = [v] := by
    have hl : es.length = 1 := Dat.len hr
    match es, hl with
    | [v], _ => exact ⟨v, rfl⟩
  refine ⟨b, off, v, ha, hb, hcs.lt (by simp), ?_, hr⟩
  have := hcs 0 v rfl
  simpa [Dat.n] using this
end Go.Proofs.YtgabchhplmncnaaDoor
namespace Go.Proofs.YtgabchhplmncnaaDoor
open Go.RowKit

abbrev IsB : Nat → Nat → List Value → World → Prop := Lib.IsBuilderF 68 5
abbrev BAt (B b : Nat) (bs : List Value) (w : World) : Prop := Lib.BuilderAtF 68 5 B b (.pointer (some ⟨b, 0, none⟩)) bs w
theorem bld_info : (Tryd.prog.info? 68).map (·.size) = some 2 := by kernel_rfl
theorem bld_lies : liesAt Tryd.prog Tryd.prog.depth 68 (2 / Tryd.prog.cellsOf 68) 0 68 1 = true := by kernel_rfl
theorem bld_byte : (Tryd.prog.info? 5).map (fun i => (i.zero, i.size, i.bytes)) = some (some (.int .u8 0), 1, 1) := by kernel_rfl

set_option maxHeartbeats 1000000 in
set_option maxRecDepth 100000 in
theorem bld_check (B b : Nat) (bs : List Value) (w : World) (h : IsB B b bs w) :
    Calls Tryd.prog 28 #[.pointer (some ⟨b, 0, none⟩)] w fun e w' => e = .returned (.tuple #[]) ∧ BAt B b bs w' ∧ Below B w w' := by
  obtain ⟨j, hj, hjs⟩ := Option.map_eq_some_iff.1 bld_info
  rcases h with h | h
  · have c0 := h.cell0
    have hsh := h.shape
    have hfz := h.frozen0
    have hfin : BAt B b bs (w.setCell ⟨b, 0, none⟩ (.pointer (some ⟨b, 0, none⟩))) ∧ Below B w (w.setCell ⟨b, 0, none⟩ (.pointer (some ⟨b, 0, none⟩))) := ⟨h.used _, (Below.refl B w).setCell (p := ⟨b, 0, none⟩) h.1 _⟩
    clear h
    go_enter Tryd.func28, Tryd.ntmps28
    go_wp2_with fail
    rw [Lib.run_to_unsafe w ⟨b, 0, none⟩ Tryd.underlying65 Tryd.underlying84 hj (by rw [hjs]; decide) hsh (Nat.zero_lt_succ 1)]
    simp only [Result.andThen]
    rw [Oper.upon_value]
    go_wp2_with fail
    rw [run_callFunc_extern Tryd.func38 (by kernel_rfl) (by kernel_rfl) (by kernel_rfl) (e := Extern.AbiNoEscape.same) (by kernel_rfl)]
    rw [Lib.run_noEscape]
    simp only [Result.andThen]
    rw [Oper.upon_value]
    go_wp2_with fail
    rw [Lib.run_from_unsafe w ⟨b, 0, none⟩ Tryd.underlying84 Tryd.underlying65 hj hsh bld_lies]
    simp only [Result.andThen]
    rw [Oper.upon_value]
    go_wp2_with fail
    go_end0
    exact ⟨rfl, hfin.1, hfin.2⟩
  · have c0 := h.cell0
    go_enter Tryd.func28, Tryd.ntmps28
    go_wp2_with fail
    rw [Lib.run_neq_ptr_same w _ Tryd.underlying65 hj]
    go_wp2_with fail
    go_end0
    exact ⟨rfl, h, Below.refl B _⟩
set_option maxHeartbeats 1000000 in
set_option maxRecDepth 100000 in
theorem bld_string (B b : Nat) (bs : List Value) (s : ByteArray) (w : World) (h : IsB B b bs w) (hlen : bs.length + s.size ≤ 140737488355328) (hBw : B ≤ w.heap.size) :
    Calls Tryd.prog 22 #[.pointer (some ⟨b, 0, none⟩), .string s] w fun e w' => e = .returned (.tuple #[.int .i64 s.size, .nilIface]) ∧ BAt B b (bs ++ Lib.strCells s) w' ∧ Below B w w' := by
  obtain ⟨i0, hi, hz0, hz1, hz2⟩ := info_parts bld_byte
  go_enter Tryd.func22, Tryd.ntmps22
  go_wp2_with fail
  refine (bld_check B b bs _ h).mono ?_
  rintro e w1 ⟨rfl, h1, hb1⟩
  obtain ⟨hB, v, hbk, hown, hne⟩ := h1
  have c0 : w1.cell? ⟨b, 0, none⟩ = some (.pointer (some ⟨b, 0, none⟩)) := by rw [Lib.cell_of_heap hbk]; rfl
  have c1 : w1.cell? ⟨b, 1, none⟩ = some v := by rw [Lib.cell_of_heap hbk]; rfl
  have hlt : b < w1.heap.size := (Array.getElem?_eq_some_iff.1 hbk).1
  have hs1 := hb1.size
  go_wp2_with (at_builtin; refine Lib.wpList_append_own_stringF _ rfl _ _ 66 9 rfl B 5 i0 Tryd.underlying66 Tryd.underlying9 hi hz0 hz1 hz2 _ _ _ rfl hown s rfl (by unfold maxLen; omega) (by omega) (by omega) ?_)
  intro v' w2 hown' hgrow _
  have hb2 : w2.heap[b]? = some (.cells #[.pointer (some ⟨b, 0, none⟩), v] 68 (0, 0)) := (hgrow.block b hlt (fun e => hne e.symm)).trans hbk
  have d0 : w2.cell? ⟨b, 0, none⟩ = some (.pointer (some ⟨b, 0, none⟩)) := by rw [Lib.cell_of_heap hb2]; rfl
  have d1 : w2.cell? ⟨b, 1, none⟩ = some v := by rw [Lib.cell_of_heap hb2]; rfl
  have f1 : w2.frozen? ⟨b, 1, none⟩ = false := Lib.frozen_of_heap hb2 1
  have hfin := Lib.BuilderAtF.put (T := 68) (e := 5) (v' := v') hB hb2 (bs' := bs ++ Lib.strCells s) (by simpa [Lib.strCells_length] using hown') (by decide)
  have hfin2 := (hb1.grown hgrow (by omega) (fun k hk => (hown.lt k hk).1)).setCell (p := ⟨b, 1, none⟩) hB v'
  obtain ⟨ao, n', cap, rfl⟩ : ∃ ao n' cap, v' = .slice ao n' cap := by
    rcases hown'.2 with ⟨hv, _⟩ | ⟨g, cap, cur, fz, hv, _⟩
    · exact ⟨_, _, _, hv⟩
    · exact ⟨_, _, _, hv⟩
  clear hgrow hown hown' hbk hb2 c0 c1
  go_wp2_with fail
  go_ret2
  exact ⟨rfl, hfin, hfin2⟩
set_option maxHeartbeats 1000000 in
set_option maxRecDepth 100000 in
theorem bld_byte1 (B b : Nat) (bs : List Value) (c : Int) (w : World) (h : IsB B b bs w) (hlen : bs.length + 1 ≤ 140737488355328) (hBw : B ≤ w.heap.size) :
    Calls Tryd.prog 31 #[.pointer (some ⟨b, 0, none⟩), .int .u8 c] w fun e w' => e = .returned .nilIface ∧ BAt B b (bs ++ [.int .u8 c]) w' ∧ Below B w w' := by
  obtain ⟨i0, hi, hz0, hz1, hz2⟩ := info_parts bld_byte
  go_enter Tryd.func31, Tryd.ntmps31
  go_wp2_with fail
  refine (bld_check B b bs _ h).mono ?_
  rintro e w1 ⟨rfl, h1, hb1⟩
  obtain ⟨hB, v, hbk, hown, hne⟩ := h1
  have c0 : w1.cell? ⟨b, 0, none⟩ = some (.pointer (some ⟨b, 0, none⟩)) := by rw [Lib.cell_of_heap hbk]; rfl
  have c1 : w1.cell? ⟨b, 1, none⟩ = some v := by rw [Lib.cell_of_heap hbk]; rfl
  have hlt : b < w1.heap.size := (Array.getElem?_eq_some_iff.1 hbk).1
  have hs1 := hb1.size
  go_wp2_with (at_builtin; refine wpList_append_ownF _ rfl _ _ 66 rfl B 5 i0 (.int .u8 0) 1 1 Tryd.underlying66 hi hz0 hz1 hz2 rfl (by decide) _ _ _ rfl (hown.alloc _) ⟨w1.heap.size, 0, none⟩ 1 1 [.int .u8 c] rfl rfl ?c1 ?c2 (by unfold maxLen; omega) (by omega) (by simp; omega) ?_)
  case c1 =>
    intro j u hj
    match j, hj with
    | 0, hj => simp at hj; subst hj; simp [Addr.add]
  case c2 => intro u hu; simp at hu; subst hu; rfl
  intro v' w2 hown' hgrow _
  have hb2 : w2.heap[b]? = some (.cells #[.pointer (some ⟨b, 0, none⟩), v] 68 (0, 0)) := ((hgrow.block b (by simp; omega) (fun e => hne e.symm)).trans (Lib.alloc_old w1 _ b hlt)).trans hbk
  have d0 : w2.cell? ⟨b, 0, none⟩ = some (.pointer (some ⟨b, 0, none⟩)) := by rw [Lib.cell_of_heap hb2]; rfl
  have d1 : w2.cell? ⟨b, 1, none⟩ = some v := by rw [Lib.cell_of_heap hb2]; rfl
  have f1 : w2.frozen? ⟨b, 1, none⟩ = false := Lib.frozen_of_heap hb2 1
  have hfin := Lib.BuilderAtF.put (T := 68) (e := 5) (v' := v') hB hb2 (bs' := bs ++ [.int .u8 c]) (by simpa using hown') (by decide)
  have hfin2 := ((hb1.alloc (by omega) _).grown hgrow (by simp; omega) (fun k hk => (hown.lt k hk).1)).setCell (p := ⟨b, 1, none⟩) hB v'
  obtain ⟨ao, n', cap, rfl⟩ : ∃ ao n' cap, v' = .slice ao n' cap := by
    rcases hown'.2 with ⟨hv, _⟩ | ⟨g, cap, cur, fz, hv, _⟩
    · exact ⟨_, _, _, hv⟩
    · exact ⟨_, _, _, hv⟩
  clear hgrow hown hown' hbk hb2 c0 c1
  go_wp2_with fail
  go_ret
  exact ⟨rfl, hfin, hfin2⟩
end Go.Proofs.YtgabchhplmncnaaDoor
namespace Go.Proofs.YtgabchhplmncnaaDoor
open Go.RowKit

theorem bat_keep {B b : Nat} {bs : List Value} {w w' : World} {p : Value} (h : Lib.BuilderAtF 68 5 B b p bs w) (hc : Chg Never w w') : Lib.BuilderAtF 68 5 B b p bs w' := by
  have hlt := h.lt
  obtain ⟨hB, v, hv, hown, hne⟩ := h
  refine ⟨hB, v, (hc.block b hlt (fun x => x)).trans hv, hown.kept (row := none) ⟨hc.os, hc.tape, hc.output, hc.size, fun k hk _ => hc.block k hk (fun x => x)⟩ (Classical.em _), hne⟩
theorem bld_keep {B b : Nat} {bs : List Value} {w w' : World} (h : IsB B b bs w) (hc : Chg Never w w') : IsB B b bs w' :=
  h.elim (fun x => .inl (bat_keep x hc)) (fun x => .inr (bat_keep x hc))
end Go.Proofs.YtgabchhplmncnaaDoor
namespace Go.Proofs.YtgabchhplmncnaaDoor
open Go.RowKit

/-- block B holds two cells of its own -/
def Blk2 (w : World) (B : Nat) (t : TypeId) (x y : Value) : Prop := w.heap[B]? = some (.cells #[x, y] t (0, 0))
theorem Blk2.cell {w : World} {B : Nat} {t : TypeId} {x y : Value} (h : Blk2 w B t x y) : w.cell? ⟨B, 0, none⟩ = some x ∧ w.cell? ⟨B, 1, none⟩ = some y := by
  unfold Blk2 at h
  refine ⟨?_, ?_⟩ <;> (unfold World.cell?; rw [h]; rfl)
theorem Blk2.free {w : World} {B : Nat} {t : TypeId} {x y : Value} (h : Blk2 w B t x y) (j : Nat) : w.frozen? ⟨B, j, none⟩ = false := by
  unfold Blk2 at h
  unfold World.frozen?; rw [h]; simp
theorem Blk2.lt {w : World} {B : Nat} {t : TypeId} {x y : Value} (h : Blk2 w B t x y) : B < w.heap.size := (Array.getElem?_eq_some_iff.1 h).1
theorem Blk2.keep {w w' : World} {B : Nat} {t : TypeId} {x y : Value} {O : Nat → Prop} (h : Blk2 w B t x y) (hc : Chg O w w') (hB : ¬ O B) : Blk2 w' B t x y := by
  unfold Blk2 at *
  rw [hc.block B (Array.getElem?_eq_some_iff.1 h).1 hB]
  exact h
theorem Blk2.set1 {w : World} {B : Nat} {t : TypeId} {x y : Value} (h : Blk2 w B t x y) (u : Value) : Blk2 (w.setCell ⟨B, 1, none⟩ u) B t x u := by
  unfold Blk2 at *
  simp [World.setCell, Array.getElem?_modify, h]
theorem Blk2.new (w : World) (t : TypeId) (x y : Value) : Blk2 (w.alloc (.cells #[x, y] t)) w.heap.size t x y := heap_alloc_new _ _
/-- a block of three cells, as it is -/
def Blk3 (w : World) (B : Nat) (t : TypeId) (x y z : Value) : Prop := w.heap[B]? = some (.cells #[x, y, z] t (0, 0))
theorem Blk3.cell {w : World} {B : Nat} {t : TypeId} {x y z : Value} (h : Blk3 w B t x y z) : w.cell? ⟨B, 0, none⟩ = some x ∧ w.cell? ⟨B, 1, none⟩ = some y ∧ w.cell? ⟨B, 2, none⟩ = some z := by
  unfold Blk3 at h
  simp [World.cell?, h]
theorem Blk3.free {w : World} {B : Nat} {t : TypeId} {x y z : Value} (h : Blk3 w B t x y z) (j : Nat) : w.frozen? ⟨B, j, none⟩ = false := by
  unfold Blk3 at h
  simp [World.frozen?, h]
theorem Blk3.lt {w : World} {B : Nat} {t : TypeId} {x y z : Value} (h : Blk3 w B t x y z) : B < w.heap.size := (Array.getElem?_eq_some_iff.1 h).1
theorem Blk3.keep {w w' : World} {B : Nat} {t : TypeId} {x y z : Value} {O : Nat → Prop} (h : Blk3 w B t x y z) (hc : Chg O w w') (hB : ¬ O B) : Blk3 w' B t x y z := by
  have := hc.block B h.lt hB
  unfold Blk3 at *
  rw [this]
  exact h
theorem Blk3.set2 {w : World} {B : Nat} {t : TypeId} {x y z : Value} (h : Blk3 w B t x y z) (u : Value) : Blk3 (w.setCell ⟨B, 2, none⟩ u) B t x y u := by
  unfold Blk3 at *
  simp [World.setCell, Array.getElem?_modify, h]
theorem Blk3.set0 {w : World} {B : Nat} {t : TypeId} {x y z : Value} (h : Blk3 w B t x y z) (u : Value) : Blk3 (w.setCell ⟨B, 0, none⟩ u) B t u y z := by
  unfold Blk3 at *
  simp [World.setCell, Array.getElem?_modify, h]
theorem Blk3.set1 {w : World} {B : Nat} {t : TypeId} {x y z : Value} (h : Blk3 w B t x y z) (u : Value) : Blk3 (w.setCell ⟨B, 1, none⟩ u) B t x u z := by
  unfold Blk3 at *
  simp [World.setCell, Array.getElem?_modify, h]
theorem Blk3.new (w : World) (t : TypeId) (x y z : Value) : Blk3 (w.alloc (.cells #[x, y, z] t)) w.heap.size t x y z := heap_alloc_new _ _
theorem own_isSlice {α : Type} [Dat α] {e : TypeId} {w : World} {O : Nat → Prop} {v : Value} {l : List α} (h : Own e w O v l) : ∃ a n c, v = .slice a n c := by
  obtain ⟨xs, hx, _⟩ := h
  rcases hx.2 with ⟨h, _⟩ | ⟨g, cap, cur, h, _⟩
  · exact ⟨_, _, _, h⟩
  · exact ⟨_, _, _, h⟩
theorem cell_put_eq {w : World} {p : Addr} {v : Value} (h : w.cell? p = some v) : w.setCell p v = w := by
  have e : (w.setCell p v).heap = w.heap := by
    unfold World.setCell World.cell? at *
    apply Array.ext_getElem?
    intro i
    simp only [Array.getElem?_modify]
    by_cases hi : p.block = i
    · subst hi
      rw [if_pos rfl]
      cases hb : w.heap[p.block]? with
      | none => rfl
      | some ob =>
        rw [hb] at h
        cases ob with
        | cells c e f =>
          simp only at h
          by_cases hs : p.spot.isSome = true
          · rw [if_pos hs] at h; cases h
          · rw [if_neg hs] at h
            simp only [Option.map_some, hs]
            congr 2
            apply Array.ext_getElem?
            intro j
            simp only [Bool.false_eq_true, if_false]
            rw [Array.getElem?_setIfInBounds]
            by_cases hj : p.off = j
            · subst hj
              rw [if_pos rfl]
              split
              · exact h.symm
              · rw [Array.getElem?_eq_none (by omega)]
            · rw [if_neg hj]
        | _ => rfl
    · rw [if_neg hi]
  have : w.setCell p v = { w with heap := (w.setCell p v).heap } := rfl
  rw [this, e]
end Go.Proofs.YtgabchhplmncnaaDoor
