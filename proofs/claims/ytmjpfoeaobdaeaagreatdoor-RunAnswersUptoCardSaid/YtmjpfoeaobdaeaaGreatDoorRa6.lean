/-
  PARTS: HUNKS DONE STRICTLY, plain laws: what Strict answers; hunks that lead from a file to another one; turned they lead back.; A BOX OF TWO CELLS, and of three (Blk3). No program in sight.; THE WALKS of hunk.Cut, Turned, Turn.; append OF A WHOLE SLICE to one of the call's own; a slice's slice. No program in sight.; THE WALKS OF LAYER 4: hunk.Make, sides, slices.Equal, stands.; THE WALKS OF LAYER 4: slices.Grow of nil, slices.Concat.
-/
import Derived.Test.YtmjpfoeaobdaeaaGreatDoorRa5
import Derived.Test.YtmjpfoeaobdaeaaGreatDoorRa2
import Derived.WalkLawsBesides
import Derived.Lib.Walk
import Derived.Lib.SliceRun
import Derived.Lib.AppendZerosOnto
set_option linter.unusedVariables false
set_option linter.unusedSimpArgs false
namespace Go.Proofs.YtmjpfoeaobdaeaaGreatDoor

def standsB (a : List ByteArray) (at_ : Int) (l : List ByteArray) : Bool :=
  decide (0 ≤ at_) && decide (at_ + l.length ≤ a.length) && decide ((a.drop at_.toNat).take l.length = l)
def strictGo (a : List ByteArray) : Nat → Nat → List ByteArray → List Hunk → List ByteArray × Nat × Int
  | _, fr, out, [] => if 60 < (out ++ a.drop fr).length then ([], 0, 3) else (out ++ a.drop fr, 0, 0)
  | i, fr, out, h :: r =>
    if standsB a h.old (oldOf h.marks) then strictGo a (i + 1) (h.old.toNat + oldN h.marks) (out ++ (a.drop fr).take (h.old.toNat - fr) ++ newOf h.marks) r
    else ([], i, 6)
def strict (a : List ByteArray) (l : List Hunk) : List ByteArray × Nat × Int :=
  if linesFault a ≠ 0 then ([], 0, linesFault a) else if (hunksFault l).2 ≠ 0 then ([], (hunksFault l).1, (hunksFault l).2) else strictGo a 0 0 [] l

inductive Fits : List Mark → List Hunk → Prop
  | nil : Fits [] []
  | keep {p : List Mark} {l : List Hunk} {m : Mark} : Fits p l → m.sign = 32 → Fits (p ++ [m]) l
  | hunk {p : List Mark} {l : List Hunk} (m : List Mark) : Fits p l → hasChange m = true → Fits (p ++ m) (l ++ [⟨oldN p, newN p, m⟩])
theorem Pcs.fits {b : Bool} {p : List Mark} {l : List Hunk} (h : Pcs b p l) : Fits p l := by
  induction h with
  | nil => exact .nil
  | keep _ hs ih => exact ih.keep hs
  | hunk m _ hc ih => exact ih.hunk m hc

theorem those_append (p m : List Mark) (no : Int) : those (p ++ m) no = those p no ++ those m no := by simp [those, List.filter_append]
theorem those_keep {m : Mark} (h : m.sign = 32) : those [m] 43 = [m.text] ∧ those [m] 45 = [m.text] := by simp [those, h]
theorem oldN_eq (p : List Mark) : oldN p = (those p 43).length := rfl
theorem newN_eq (p : List Mark) : newN p = (those p 45).length := rfl

def doAll (a : List ByteArray) : Nat → List ByteArray → List Hunk → Option (Nat × List ByteArray)
  | fr, out, [] => some (fr, out)
  | fr, out, h :: r => if standsB a h.old (oldOf h.marks) then doAll a (h.old.toNat + oldN h.marks) (out ++ (a.drop fr).take (h.old.toNat - fr) ++ newOf h.marks) r else none
theorem doAll_snoc (a : List ByteArray) : ∀ (l : List Hunk) (h : Hunk) (fr fr' : Nat) (out out' : List ByteArray), doAll a fr out l = some (fr', out') → standsB a h.old (oldOf h.marks) = true →
    doAll a fr out (l ++ [h]) = some (h.old.toNat + oldN h.marks, out' ++ (a.drop fr').take (h.old.toNat - fr') ++ newOf h.marks)
  | [], h, fr, fr', out, out', e, hs => by
    simp only [doAll, Option.some.injEq, Prod.mk.injEq] at e
    obtain ⟨rfl, rfl⟩ := e
    simp [doAll, hs]
  | x :: r, h, fr, fr', out, out', e, hs => by
    simp only [doAll, List.cons_append] at e ⊢
    by_cases hx : standsB a x.old (oldOf x.marks) = true
    · rw [if_pos hx] at e ⊢
      exact doAll_snoc a r h _ _ _ _ e hs
    · rw [if_neg hx] at e; cases e
theorem strictGo_of (a : List ByteArray) : ∀ (l : List Hunk) (i fr fr' : Nat) (out out' : List ByteArray), doAll a fr out l = some (fr', out') → (out' ++ a.drop fr').length ≤ 60 → strictGo a i fr out l = (out' ++ a.drop fr', 0, 0)
  | [], i, fr, fr', out, out', e, h60 => by
    simp only [doAll, Option.some.injEq, Prod.mk.injEq] at e
    obtain ⟨rfl, rfl⟩ := e
    rw [strictGo, if_neg (by omega)]
  | x :: r, i, fr, fr', out, out', e, h60 => by
    rw [doAll] at e
    by_cases hx : standsB a x.old (oldOf x.marks) = true
    · rw [if_pos hx] at e
      rw [strictGo, if_pos hx]
      exact strictGo_of a r _ _ _ _ _ e h60
    · rw [if_neg hx] at e; cases e
theorem strictGo_inv (a : List ByteArray) : ∀ (l : List Hunk) (i fr : Nat) (out y : List ByteArray) (k : Nat), strictGo a i fr out l = (y, k, 0) → ∃ fr' out', doAll a fr out l = some (fr', out') ∧ y = out' ++ a.drop fr' ∧ y.length ≤ 60 ∧ k = 0
  | [], i, fr, out, y, k, e => by
    rw [strictGo] at e
    by_cases h : 60 < (out ++ a.drop fr).length
    · rw [if_pos h] at e; simp at e
    · rw [if_neg h] at e
      simp only [Prod.mk.injEq, and_true] at e
      obtain ⟨rfl, rfl⟩ := e
      exact ⟨fr, out, rfl, rfl, by omega, rfl⟩
  | x :: r, i, fr, out, y, k, e => by
    rw [strictGo] at e
    by_cases hx : standsB a x.old (oldOf x.marks) = true
    · rw [if_pos hx] at e
      obtain ⟨fr', out', h1, h2, h3, h4⟩ := strictGo_inv a r _ _ _ _ _ e
      exact ⟨fr', out', by rw [doAll, if_pos hx]; exact h1, h2, h3, h4⟩
    · rw [if_neg hx] at e; simp at e

theorem stands_mid (x y z : List ByteArray) : standsB (x ++ y ++ z) (x.length : Int) y = true := by
  unfold standsB
  simp only [Bool.and_eq_true, decide_eq_true_eq, Int.toNat_natCast]
  refine ⟨⟨by omega, by simp; omega⟩, ?_⟩
  rw [List.append_assoc, List.drop_left, List.take_left]

theorem Fits.doAll {p : List Mark} {l : List Hunk} (h : Fits p l) : ∀ t : List ByteArray, ∃ fr out, doAll (those p 43 ++ t) 0 [] l = some (fr, out) ∧ fr ≤ oldN p ∧ out ++ (those p 43).drop fr = those p 45 := by
  induction h with
  | nil => intro t; exact ⟨0, [], rfl, Nat.zero_le _, rfl⟩
  | @keep p l m h hs ih =>
    intro t
    obtain ⟨fr, out, h1, h2, h3⟩ := ih ([m.text] ++ t)
    refine ⟨fr, out, ?_, ?_, ?_⟩
    · rw [those_append, (those_keep hs).1, List.append_assoc]; exact h1
    · rw [oldN_append]; omega
    · rw [those_append, those_append, (those_keep hs).1, (those_keep hs).2, List.drop_append_of_le_length (by rw [← oldN_eq]; exact h2), ← List.append_assoc, h3]
  | @hunk p l m h hc ih =>
    intro t
    obtain ⟨fr, out, h1, h2, h3⟩ := ih (those m 43 ++ t)
    refine ⟨oldN p + oldN m, those p 45 ++ those m 45, ?_, ?_, ?_⟩
    · rw [those_append, List.append_assoc]
      have hs : standsB (those p 43 ++ (those m 43 ++ t)) ((oldN p : Nat) : Int) (oldOf m) = true := by
        rw [← List.append_assoc]
        exact stands_mid (those p 43) (those m 43) t
      rw [doAll_snoc _ l ⟨oldN p, newN p, m⟩ _ _ _ _ h1 hs]
      have e1 : ((those p 43 ++ (those m 43 ++ t)).drop fr).take (oldN p - fr) = (those p 43).drop fr := by
        rw [List.drop_append_of_le_length (by rw [← oldN_eq]; exact h2), List.take_left' (by rw [List.length_drop, ← oldN_eq])]
      simp only [Int.toNat_natCast]
      rw [e1, h3]
      rfl
    · rw [oldN_append]; omega
    · rw [those_append, those_append, List.drop_of_length_le (by rw [List.length_append, ← oldN_eq, ← oldN_eq]; omega), List.append_nil]

theorem Fits.ok {p : List Mark} {l : List Hunk} (h : Fits p l) : (∀ x ∈ p, markFault x = 0) → (∀ q ∈ l, q.marks.length ≤ 120) → oldN p ≤ 60 → newN p ≤ 60 → hOk 0 0 l ∧ (hFin 0 0 l).1 ≤ oldN p ∧ (hFin 0 0 l).2 = (newN p : Int) - oldN p := by
  induction h with
  | nil => intro _ _ _ _; exact ⟨trivial, by simp [hFin], by simp [hFin, oldN, newN, those]⟩
  | @keep p l m h hs ih =>
    intro s0 s3 s1 s2
    rw [oldN_append, oldN_keep hs] at s1 ⊢
    rw [newN_append, newN_keep hs] at s2 ⊢
    obtain ⟨i1, i2, i3⟩ := ih (fun x hx => s0 x (List.mem_append_left _ hx)) s3 (by omega) (by omega)
    exact ⟨i1, by omega, by omega⟩
  | @hunk p l m h hc ih =>
    intro s0 s3 s1 s2
    rw [oldN_append] at s1 ⊢
    rw [newN_append] at s2 ⊢
    obtain ⟨i1, i2, i3⟩ := ih (fun x hx => s0 x (List.mem_append_left _ hx)) (fun q hq => s3 q (List.mem_append_left _ hq)) (by omega) (by omega)
    have hm : scriptFault m = 0 := scriptFault_zero.2 ⟨s3 ⟨oldN p, newN p, m⟩ (by simp), fun x hx => s0 x (List.mem_append_right _ hx)⟩
    rw [hFin_snoc]
    refine ⟨hOk_snoc _ _ _ _ i1 (oneFault_of hm hc ?_ ?_ ?_ ?_ ?_ ?_), ?_, ?_⟩
    all_goals simp only []
    all_goals omega

theorem Fits.turn {p : List Mark} {l : List Hunk} (h : Fits p l) : Fits (p.map turnMark) (turnHunks l) := by
  induction h with
  | nil => exact .nil
  | @keep p l m h hs ih =>
    rw [List.map_append]
    exact ih.keep ((turnMark_32 m).2 hs)
  | @hunk p l m h hc ih =>
    rw [List.map_append]
    have e : turnHunks (l ++ [⟨oldN p, newN p, m⟩]) = turnHunks l ++ [⟨oldN (p.map turnMark), newN (p.map turnMark), m.map turnMark⟩] := by
      simp [turnHunks, turnHunk, oldN_turn, newN_turn]
    rw [e]
    exact ih.hunk _ (by rw [hasChange_turn]; exact hc)

theorem Fits.strict {p : List Mark} {l : List Hunk} (h : Fits p l) (h1 : linesFault (those p 43) = 0) (h2 : (hunksFault l).2 = 0) (h3 : newN p ≤ 60) : strict (those p 43) l = (those p 45, 0, 0) := by
  unfold Proofs.YtmjpfoeaobdaeaaGreatDoor.strict
  rw [if_neg (by simp [h1]), if_neg (by simp [h2])]
  obtain ⟨fr, out, e1, e2, e3⟩ := h.doAll []
  rw [List.append_nil] at e1
  rw [strictGo_of _ l 0 0 fr [] out e1 (by rw [e3, ← newN_eq]; exact h3), e3]

def keeps (l : List ByteArray) : List Mark := l.map fun x => ⟨32, x⟩
theorem those_keeps (l : List ByteArray) : those (keeps l) 43 = l ∧ those (keeps l) 45 = l := by
  unfold keeps those
  constructor
  · rw [List.filter_eq_self.2 (by intro m hm; obtain ⟨x, _, rfl⟩ := List.mem_map.1 hm; simp), List.map_map]
    exact List.map_id' l
  · rw [List.filter_eq_self.2 (by intro m hm; obtain ⟨x, _, rfl⟩ := List.mem_map.1 hm; simp), List.map_map]
    exact List.map_id' l
theorem Fits.keeps {p : List Mark} {l : List Hunk} (h : Fits p l) : ∀ r : List ByteArray, Fits (p ++ Proofs.YtmjpfoeaobdaeaaGreatDoor.keeps r) l := by
  intro r
  induction r generalizing p with
  | nil => simpa [Proofs.YtmjpfoeaobdaeaaGreatDoor.keeps] using h
  | cons x r ih =>
    have := ih (h.keep (m := ⟨32, x⟩) rfl)
    rw [List.append_assoc] at this
    exact this

theorem stands_split {a : List ByteArray} {at_ : Int} {l : List ByteArray} (h : standsB a at_ l = true) : 0 ≤ at_ ∧ at_.toNat + l.length ≤ a.length ∧ a = a.take at_.toNat ++ l ++ a.drop (at_.toNat + l.length) := by
  unfold standsB at h
  simp only [Bool.and_eq_true, decide_eq_true_eq] at h
  obtain ⟨⟨h1, h2⟩, h3⟩ := h
  refine ⟨h1, by omega, ?_⟩
  conv => lhs; rw [← List.take_append_drop at_.toNat a, ← List.take_append_drop l.length (a.drop at_.toNat), h3, List.drop_drop]
  rw [List.append_assoc]

theorem fits_of_doAll (a : List ByteArray) : ∀ (r l : List Hunk) (p : List Mark) (fr fr' : Nat) (out out' : List ByteArray) (more : Int), Fits p l → those p 43 = a.take fr → fr ≤ a.length → those p 45 = out → more = (newN p : Int) - oldN p →
    hOk fr more r → doAll a fr out r = some (fr', out') → ∃ q, Fits q (l ++ r) ∧ those q 43 = a.take fr' ∧ fr' ≤ a.length ∧ those q 45 = out'
  | [], l, p, fr, fr', out, out', more, hf, h1, h2, h3, h4, _, hd => by
    simp only [doAll, Option.some.injEq, Prod.mk.injEq] at hd
    obtain ⟨rfl, rfl⟩ := hd
    exact ⟨p, by simpa using hf, h1, h2, h3⟩
  | h :: r, l, p, fr, fr', out, out', more, hf, h1, h2, h3, h4, hk, hd => by
    rw [doAll] at hd
    by_cases hs : standsB a h.old (oldOf h.marks) = true
    · rw [if_pos hs] at hd
      obtain ⟨z1, z2, z3, z4, z5, z6, z7, z8⟩ := oneFault_zero hk.1
      obtain ⟨s1, s2, s3⟩ := stands_split hs
      have hon : oldN h.marks = (oldOf h.marks).length := rfl
      have hle : fr ≤ h.old.toNat := by omega
      have hpn : oldN p = fr := by rw [oldN_eq, h1, List.length_take]; omega
      have gap : (a.drop fr).take (h.old.toNat - fr) = (a.take h.old.toNat).drop fr := by rw [List.drop_take]
      have hl2 : ((a.drop fr).take (h.old.toNat - fr)).length = h.old.toNat - fr := by rw [List.length_take, List.length_drop]; omega
      have f1 := hf.keeps ((a.drop fr).take (h.old.toNat - fr))
      have f2 := f1.hunk h.marks z2
      have c1 : oldN (p ++ keeps ((a.drop fr).take (h.old.toNat - fr))) = h.old.toNat := by
        rw [oldN_append, oldN_eq (keeps _), (those_keeps _).1, hl2, hpn]; omega
      have c2 : (newN (p ++ keeps ((a.drop fr).take (h.old.toNat - fr))) : Int) = h.new := by
        rw [newN_append, newN_eq (keeps _), (those_keeps _).2, hl2]; omega
      have e1 : (⟨(oldN (p ++ keeps ((a.drop fr).take (h.old.toNat - fr))) : Int), (newN (p ++ keeps ((a.drop fr).take (h.old.toNat - fr))) : Int), h.marks⟩ : Hunk) = h := by
        rw [c1, c2]
        obtain ⟨o, n, m⟩ := h
        simp only [Hunk.mk.injEq, and_true]
        simp only at s1
        omega
      rw [e1] at f2
      have t1 : those (p ++ keeps ((a.drop fr).take (h.old.toNat - fr)) ++ h.marks) 43 = a.take (h.old.toNat + oldN h.marks) := by
        rw [those_append, those_append, (those_keeps _).1, h1, gap]
        have g1 : a.take fr ++ (a.take h.old.toNat).drop fr = a.take h.old.toNat := by
          conv => rhs; rw [← List.take_append_drop fr (a.take h.old.toNat)]
          rw [List.take_take, Nat.min_eq_left hle]
        rw [g1]
        conv => rhs; rw [s3]
        have g2 : (a.take h.old.toNat ++ oldOf h.marks).length = h.old.toNat + oldN h.marks := by rw [List.length_append, List.length_take]; omega
        rw [List.take_append_of_le_length (by omega)]
        exact (List.take_of_length_le (l := a.take h.old.toNat ++ oldOf h.marks) (by omega)).symm
      have t2 : those (p ++ keeps ((a.drop fr).take (h.old.toNat - fr)) ++ h.marks) 45 = out ++ (a.drop fr).take (h.old.toNat - fr) ++ newOf h.marks := by
        rw [those_append, those_append, (those_keeps _).2, h3]; rfl
      have t3 : more + newN h.marks - oldN h.marks = (newN (p ++ keeps ((a.drop fr).take (h.old.toNat - fr)) ++ h.marks) : Int) - oldN (p ++ keeps ((a.drop fr).take (h.old.toNat - fr)) ++ h.marks) := by
        rw [newN_append _ h.marks, oldN_append _ h.marks, c1]
        push_cast
        rw [c2]
        omega
      have hk2 : hOk ((h.old.toNat + oldN h.marks : Nat) : Int) (more + newN h.marks - oldN h.marks) r := by
        have := hk.2
        rw [show ((h.old.toNat + oldN h.marks : Nat) : Int) = h.old + oldN h.marks by omega]
        exact this
      obtain ⟨q, q1, q2, q3, q4⟩ := fits_of_doAll a r (l ++ [h]) _ _ _ _ _ _ f2 t1 (by omega) t2 t3 hk2 hd
      exact ⟨q, by simpa using q1, q2, q3, q4⟩
    · rw [if_neg hs] at hd; cases hd

theorem strict_zero {a y : List ByteArray} {l : List Hunk} {k : Nat} (h : strict a l = (y, k, 0)) : linesFault a = 0 ∧ hunksFault l = (0, 0) ∧ strictGo a 0 0 [] l = (y, k, 0) := by
  unfold strict at h
  by_cases h1 : linesFault a ≠ 0
  · rw [if_pos h1] at h
    simp only [Prod.mk.injEq] at h
    exact absurd h.2.2 h1
  · rw [if_neg h1] at h
    by_cases h2 : (hunksFault l).2 ≠ 0
    · rw [if_pos h2] at h
      simp only [Prod.mk.injEq] at h
      exact absurd h.2.2 h2
    · rw [if_neg h2] at h
      exact ⟨by simpa using h1, hunksFault_first (by simpa using h2), h⟩
theorem fits_of_strict {a y : List ByteArray} {l : List Hunk} {k : Nat} (h : strict a l = (y, k, 0)) : k = 0 ∧ y.length ≤ 60 ∧ ∃ q, Fits q l ∧ those q 43 = a ∧ those q 45 = y := by
  obtain ⟨h1, h2, h3⟩ := strict_zero h
  obtain ⟨fr, out, e1, e2, e3, e4⟩ := strictGo_inv a l 0 0 [] y k h3
  obtain ⟨_, hk⟩ := hunksFault_zero (by rw [h2])
  obtain ⟨q, q1, q2, q3, q4⟩ := fits_of_doAll a l [] [] 0 fr [] out 0 .nil rfl (Nat.zero_le _) rfl rfl hk e1
  refine ⟨e4, e3, q ++ keeps (a.drop fr), q1.keeps _, ?_, ?_⟩
  · rw [those_append, (those_keeps _).1, q2, List.take_append_drop]
  · rw [those_append, (those_keeps _).2, q4, e2]

theorem hOk_mem : ∀ (l : List Hunk) (fin more : Int), hOk fin more l → ∀ h ∈ l, scriptFault h.marks = 0
  | [], _, _, _, h, hh => by simp at hh
  | x :: r, fin, more, hk, h, hh => by
    rcases List.mem_cons.1 hh with rfl | hh
    · exact (oneFault_zero hk.1).1
    · exact hOk_mem r _ _ hk.2 h hh
theorem markFault_line {m : Mark} (h : markFault m = 0) : lineFault m.text = 0 := by
  unfold markFault at h
  by_cases h1 : m.sign ≠ 32 ∧ m.sign ≠ 45 ∧ m.sign ≠ 43
  · rw [if_pos h1] at h; simp at h
  · rw [if_neg h1] at h; exact h
theorem Fits.lines {p : List Mark} {l : List Hunk} (h : Fits p l) (ha : ∀ x ∈ those p 43, lineFault x = 0) (hl : ∀ q ∈ l, scriptFault q.marks = 0) : ∀ x ∈ those p 45, lineFault x = 0 := by
  induction h with
  | nil => intro x hx; simp [those] at hx
  | @keep p l m h hs ih =>
    intro x hx
    rw [those_append, (those_keep hs).2] at hx
    rw [those_append, (those_keep hs).1] at ha
    rcases List.mem_append.1 hx with hx | hx
    · exact ih (fun y hy => ha y (List.mem_append_left _ hy)) hl x hx
    · exact ha x (List.mem_append_right _ hx)
  | @hunk p l m h hc ih =>
    intro x hx
    rw [those_append] at hx ha
    rcases List.mem_append.1 hx with hx | hx
    · exact ih (fun y hy => ha y (List.mem_append_left _ hy)) (fun q hq => hl q (List.mem_append_left _ hq)) x hx
    · have := scriptFault_zero.1 (hl ⟨oldN p, newN p, m⟩ (by simp))
      unfold those at hx
      obtain ⟨y, hy, rfl⟩ := List.mem_map.1 hx
      exact markFault_line (this.2 y (List.mem_filter.1 hy).1)

theorem strict_undo {a y : List ByteArray} {l : List Hunk} {k : Nat} (h : strict a l = (y, k, 0)) : strict y (turnHunks l) = (a, 0, 0) ∧ linesFault y = 0 := by
  obtain ⟨h1, h2, h3⟩ := strict_zero h
  obtain ⟨_, hy, q, q1, q2, q3⟩ := fits_of_strict h
  obtain ⟨a1, a2⟩ := linesFault_zero.1 h1
  obtain ⟨_, hk⟩ := hunksFault_zero (by rw [h2])
  have hly : linesFault y = 0 := by
    rw [linesFault_zero]
    exact ⟨hy, q3 ▸ q1.lines (q2 ▸ a2) (hOk_mem _ _ _ hk)⟩
  have t := q1.turn
  have e1 : those (q.map turnMark) 43 = y := by rw [(those_turn q).1, q3]
  have e2 : those (q.map turnMark) 45 = a := by rw [(those_turn q).2, q2]
  have := t.strict (by rw [e1]; exact hly) (by rw [turn_ok h2]) (by rw [newN_eq, e2]; exact a1)
  rw [e1, e2] at this
  exact ⟨this, hly⟩

theorem strict_cut {a b : List ByteArray} {n : Int} (h : checkedFault a b = 0) (h0 : 0 ≤ n) (h1 : n ≤ 1000) :
    cutFault (script a b) n = 0 ∧ strict a (cutOf (script a b) n) = (b, 0, 0) ∧ hunksFault (cutOf (script a b) n) = (0, 0) ∧ strict b (turnHunks (cutOf (script a b) n)) = (a, 0, 0) := by
  obtain ⟨ha, hb⟩ := checkedFault_zero.1 h
  have e1 : those (script a b) 43 = a := script_old a b
  have e2 : those (script a b) 45 = b := script_new a b
  have la := (linesFault_zero.1 ha).1
  have lb := (linesFault_zero.1 hb).1
  have hc : cutFault (script a b) n = 0 := by
    unfold cutFault
    rw [if_neg (by simp [script_valid h]), if_neg (by omega), if_neg (by rw [oldN_eq, newN_eq, e1, e2]; omega)]
  have hk := cut_ok hc
  obtain ⟨_, hp⟩ := cut_pcs (s := script a b) h0
  have f := hp.fits
  have r1 := f.strict (by rw [e1]; exact ha) (by rw [hk]) (by rw [newN_eq, e2]; exact lb)
  rw [e1, e2] at r1
  exact ⟨hc, r1, hk, (strict_undo r1).1⟩
end Go.Proofs.YtmjpfoeaobdaeaaGreatDoor
namespace Go.Proofs.YtmjpfoeaobdaeaaGreatDoor
open Go.RowKit

def Blk2 (w : World) (B : Nat) (t : TypeId) (x y : Value) : Prop := w.heap[B]? = some (.cells #[x, y] t (0, 0))
theorem Blk2.cell {w : World} {B : Nat} {t : TypeId} {x y : Value} (h : Blk2 w B t x y) : w.cell? ⟨B, 0, none⟩ = some x ∧ w.cell? ⟨B, 1, none⟩ = some y := by
  unfold Blk2 at h
  refine ⟨?_, ?_⟩ <;> (unfold World.cell?; rw [h]; rfl)
theorem Blk2.free {w : World} {B : Nat} {t : TypeId} {x y : Value} (h : Blk2 w B t x y) (j : Nat) : w.frozen? ⟨B, j, none⟩ = false := by
  unfold Blk2 at h
  unfold World.frozen?; rw [h]; simp
theorem Blk2.lt {w : World} {B : Nat} {t : TypeId} {x y : Value} (h : Blk2 w B t x y) : B < w.heap.size := (Array.getElem?_eq_some_iff.1 h).1
theorem Blk2.keep {w w' : World} {B : Nat} {t : TypeId} {x y : Value} {O : Nat → Prop} (h : Blk2 w B t x y) (hc : Chg O w w') (hB : ¬ O B) : Blk2 w' B t x y := by
  unfold Blk2 at *
  rw [hc.block B (Array.getElem?_eq_some_iff.1 h).1 hB]
  exact h
theorem Blk2.set1 {w : World} {B : Nat} {t : TypeId} {x y : Value} (h : Blk2 w B t x y) (u : Value) : Blk2 (w.setCell ⟨B, 1, none⟩ u) B t x u := by
  unfold Blk2 at *
  simp [World.setCell, Array.getElem?_modify, h]
theorem Blk2.new (w : World) (t : TypeId) (x y : Value) : Blk2 (w.alloc (.cells #[x, y] t)) w.heap.size t x y := heap_alloc_new _ _
def Blk3 (w : World) (B : Nat) (t : TypeId) (x y z : Value) : Prop := w.heap[B]? = some (.cells #[x, y, z] t (0, 0))
theorem Blk3.cell {w : World} {B : Nat} {t : TypeId} {x y z : Value} (h : Blk3 w B t x y z) : w.cell? ⟨B, 0, none⟩ = some x ∧ w.cell? ⟨B, 1, none⟩ = some y ∧ w.cell? ⟨B, 2, none⟩ = some z := by
  unfold Blk3 at h
  simp [World.cell?, h]
theorem Blk3.free {w : World} {B : Nat} {t : TypeId} {x y z : Value} (h : Blk3 w B t x y z) (j : Nat) : w.frozen? ⟨B, j, none⟩ = false := by
  unfold Blk3 at h
  simp [World.frozen?, h]
theorem Blk3.lt {w : World} {B : Nat} {t : TypeId} {x y z : Value} (h : Blk3 w B t x y z) : B < w.heap.size := (Array.getElem?_eq_some_iff.1 h).1
theorem Blk3.keep {w w' : World} {B : Nat} {t : TypeId} {x y z : Value} {O : Nat → Prop} (h : Blk3 w B t x y z) (hc : Chg O w w') (hB : ¬ O B) : Blk3 w' B t x y z := by
  have := hc.block B h.lt hB
  unfold Blk3 at *
  rw [this]
  exact h
theorem Blk3.set2 {w : World} {B : Nat} {t : TypeId} {x y z : Value} (h : Blk3 w B t x y z) (u : Value) : Blk3 (w.setCell ⟨B, 2, none⟩ u) B t x y u := by
  unfold Blk3 at *
  simp [World.setCell, Array.getElem?_modify, h]
theorem Blk3.set0 {w : World} {B : Nat} {t : TypeId} {x y z : Value} (h : Blk3 w B t x y z) (u : Value) : Blk3 (w.setCell ⟨B, 0, none⟩ u) B t u y z := by
  unfold Blk3 at *
  simp [World.setCell, Array.getElem?_modify, h]
theorem Blk3.set1 {w : World} {B : Nat} {t : TypeId} {x y z : Value} (h : Blk3 w B t x y z) (u : Value) : Blk3 (w.setCell ⟨B, 1, none⟩ u) B t x u z := by
  unfold Blk3 at *
  simp [World.setCell, Array.getElem?_modify, h]
theorem Blk3.new (w : World) (t : TypeId) (x y z : Value) : Blk3 (w.alloc (.cells #[x, y, z] t)) w.heap.size t x y z := heap_alloc_new _ _
theorem own_isSlice {α : Type} [Dat α] {e : TypeId} {w : World} {O : Nat → Prop} {v : Value} {l : List α} (h : Own e w O v l) : ∃ a n c, v = .slice a n c := by
  obtain ⟨xs, hx, _⟩ := h
  rcases hx.2 with ⟨h, _⟩ | ⟨g, cap, cur, h, _⟩
  · exact ⟨_, _, _, h⟩
  · exact ⟨_, _, _, h⟩
end Go.Proofs.YtmjpfoeaobdaeaaGreatDoor
namespace Go.Proofs.YtmjpfoeaobdaeaaGreatDoor
open Go.RowKit

def cutR (s : List Mark) (n : Int) : List Hunk := if cutFault s n = 0 then cutOf s n else []

set_option maxHeartbeats 800000 in
theorem Cut_any (s : List Mark) (n : Int) (v : Value) (w : World) (hs : Rdv w Never v s) (hn : I64 n) :
    Calls Tryz.prog 118 #[v, .int .i64 n] w fun e w' => ∃ r, e = .returned (.tuple #[r, errV (cutFault s n)]) ∧ Chg Never w w' ∧ Rdv w' (Old w.heap.size) r (cutR s n) := by
  obtain ⟨sa, scap, rfl, _, _, _⟩ := rdv_slice hs
  by_cases h1 : scriptFault s = 0
  · have hlen := scriptFault_len h1
    have H1 := Lib.hid h1
    have l1 := oldN_le s
    have l2 := newN_le s
    by_cases h2 : n < 0
    · have E : Hid (cutFault s n = 1) := by unfold cutFault Hid; rw [if_neg (by simp [h1]), if_pos (.inl h2)]
      clear h1
      go_enter Tryz.func118, Tryz.ntmps118
      go_wp2_with fail
      refine (edit_check_any s _ _ hs).mono ?_
      rintro e w1 ⟨rfl, hc1⟩
      rw [H1.out, errV_zero]
      go_wp2_with fail
      go_ret2
      exact ⟨.slice none 0 0, by rw [E.out]; rfl, hc1, by unfold cutR; rw [if_neg (by rw [E.out]; decide)]; exact rdv_nil _ _⟩
    · by_cases h3 : 1000 < n
      · have E : Hid (cutFault s n = 1) := by unfold cutFault Hid; rw [if_neg (by simp [h1]), if_pos (.inr h3)]
        clear h1
        go_enter Tryz.func118, Tryz.ntmps118
        go_wp2_with fail
        refine (edit_check_any s _ _ hs).mono ?_
        rintro e w1 ⟨rfl, hc1⟩
        rw [H1.out, errV_zero]
        go_wp2_with fail
        go_ret2
        exact ⟨.slice none 0 0, by rw [E.out]; rfl, hc1, by unfold cutR; rw [if_neg (by rw [E.out]; decide)]; exact rdv_nil _ _⟩
      · by_cases h4 : 60 < oldN s ∨ 60 < newN s
        · have E : Hid (cutFault s n = 3) := by unfold cutFault Hid; rw [if_neg (by simp [h1]), if_neg (by omega), if_pos h4]
          clear h1
          rcases (show 60 < oldN s ∨ oldN s ≤ 60 ∧ 60 < newN s by omega) with h5 | ⟨h5, h6⟩
          all_goals
            clear h4
            have t1 : decide (n < 0) = false := by simp; omega
            have t2 : decide (1000 < n) = false := by simp; omega
            go_enter Tryz.func118, Tryz.ntmps118
            go_wp2_with fail
            refine (edit_check_any s _ _ hs).mono ?_
            rintro e w1 ⟨rfl, hc1⟩
            rw [H1.out, errV_zero]
            go_wp2_with fail
            refine (size_any ⟨0, 0, s⟩ _ _ (hs.never hc1)).mono ?_
            rintro e w2 ⟨rfl, hc2⟩
            go_wp2_with fail
            go_ret2
            exact ⟨.slice none 0 0, by rw [E.out]; rfl, hc1.trans hc2, by unfold cutR; rw [if_neg (by rw [E.out]; decide)]; exact rdv_nil _ _⟩
        · have E : Hid (cutFault s n = 0) := by unfold cutFault Hid; rw [if_neg (by simp [h1]), if_neg (by omega), if_neg h4]
          clear h1
          have t1 : decide (n < 0) = false := by simp; omega
          have t2 : decide (1000 < n) = false := by simp; omega
          have h5 : oldN s ≤ 60 := by omega
          have h6 : newN s ≤ 60 := by omega
          clear h4
          go_enter Tryz.func118, Tryz.ntmps118
          go_wp2_with fail
          refine (edit_check_any s _ _ hs).mono ?_
          rintro e w1 ⟨rfl, hc1⟩
          rw [H1.out, errV_zero]
          go_wp2_with fail
          refine (size_any ⟨0, 0, s⟩ _ _ (hs.never hc1)).mono ?_
          rintro e w2 ⟨rfl, hc2⟩
          have hw := hc1.trans hc2
          go_wp2_with fail
          refine (cut_any s n _ _ (hs.never hw) hlen (by omega) (by omega)).mono ?_
          rintro e w3 ⟨r, rfl, hc3, hr⟩
          go_wp2_with fail
          go_ret2
          exact ⟨r, by rw [E.out]; rfl, hw.trans hc3, by unfold cutR; rw [if_pos E.out]; exact hr.sub (fun k hk h => Nat.lt_of_lt_of_le h hw.size)⟩
  · have E : Hid (cutFault s n = scriptFault s) := by unfold cutFault Hid; rw [if_pos h1]
    go_enter Tryz.func118, Tryz.ntmps118
    go_wp2_with fail
    refine (edit_check_any s _ _ hs).mono ?_
    rintro e w1 ⟨rfl, hc1⟩
    rw [errV_pos h1]
    go_wp2_with fail
    go_ret2
    exact ⟨.slice none 0 0, by rw [E.out, errV_pos h1]; rfl, hc1, by unfold cutR; rw [if_neg (by rw [E.out]; exact h1)]; exact rdv_nil _ _⟩


end Go.Proofs.YtmjpfoeaobdaeaaGreatDoor
namespace Go.Proofs.YtmjpfoeaobdaeaaGreatDoor
open Go.RowKit

theorem elems_cells {α : Type} [Dat α] {w : World} {O : Nat → Prop} {b off : Nat} {m : List α} (h : Elems w O (some ⟨b, off, none⟩) m) : ∀ k, k ≤ m.length →
    ∃ news : List Value, news.length = k * Dat.n α ∧ (∀ (j : Nat) (u : Value), news[j]? = some u → w.cell? ⟨b, off + j, none⟩ = some u) ∧ (∀ u ∈ news, u.oneCell' = true) ∧
      (∀ (i : Nat) (x : α), i < k → m[i]? = some x → Dat.rd w O ((news.drop (i * Dat.n α)).take (Dat.n α)) x) := by
  intro k
  induction k with
  | zero => intro _; exact ⟨[], by simp, by simp, by simp, fun i x hi => by omega⟩
  | succ k ih =>
    intro hk
    obtain ⟨news, h1, h2, h3, h4⟩ := ih (by omega)
    have hx : m[k]? = some m[k] := by simp
    obtain ⟨b', off', es, he, hb, hcs, hr⟩ := h k m[k] hx
    simp only [Option.some.injEq, Addr.mk.injEq, and_true] at he
    obtain ⟨rfl, rfl⟩ := he
    have hes := Dat.len hr
    refine ⟨news ++ es, by rw [List.length_append, h1, hes, Nat.succ_mul], ?_, ?_, ?_⟩
    · intro j u hj
      rcases Nat.lt_or_ge j news.length with hl | hl
      · rw [List.getElem?_append_left hl] at hj
        exact h2 j u hj
      · rw [List.getElem?_append_right hl] at hj
        have := hcs _ u hj
        rw [show off + k * Dat.n α + (j - news.length) = off + j by omega] at this
        exact this
    · intro u hu
      rcases List.mem_append.1 hu with hu | hu
      · exact h3 u hu
      · exact Dat.one hr u hu
    · intro i x hi hxi
      rcases Nat.lt_or_ge i k with hl | hl
      · have hle : i * Dat.n α + Dat.n α ≤ news.length := by rw [h1, ← Nat.succ_mul]; exact Nat.mul_le_mul_right _ hl
        rw [List.drop_append_of_le_length (by omega), List.take_append_of_le_length (by rw [List.length_drop]; omega)]
        exact h4 i x hl hxi
      · obtain rfl : i = k := by omega
        rw [hx] at hxi
        injection hxi with hxi
        subst hxi
        rw [← h1, List.drop_left, List.take_of_length_le (by omega)]
        exact hr

theorem run_append_empty {P : Program} {t ty e : TypeId} {n : Nat} (hP : ElemOk P t e n) {w : World} {v : Value} {m : Nat} {xs : List Value} (hown : w.ownsRow 0 e n v m xs) (a : Option Addr) (c : Nat) :
    (Builtin.append_ #[t, t] ty #[v, .slice a 0 c]).run P w = .ok v w := by
  obtain ⟨i, z, hi, _⟩ := hP.info
  have ht := hP.ht
  cases a with
  | none =>
    rcases hown.2 with ⟨rfl, rfl⟩ | ⟨g, cap, cur, rfl, _, _, hnc, _⟩
    · simp [Builtin.append_, run_underlying ht, sizeOf, typeInfo, hi, Builtin.lenOf, Builtin.firstCells]
    · simp [Builtin.append_, run_underlying ht, sizeOf, typeInfo, hi, Builtin.lenOf, Builtin.firstCells, hnc, storeCells]
  | some a =>
    rcases hown.2 with ⟨rfl, rfl⟩ | ⟨g, cap, cur, rfl, _, _, hnc, _⟩
    · simp [Builtin.append_, run_underlying ht, sizeOf, typeInfo, hi, Builtin.lenOf, Builtin.firstCells, loadCells, loadCellsFrom]
    · simp [Builtin.append_, run_underlying ht, sizeOf, typeInfo, hi, Builtin.lenOf, Builtin.firstCells, loadCells, loadCellsFrom, hnc, storeCells]

theorem run_many {P : Program} {α : Type} [Dat α] {t ty e : TypeId} (hP : ElemOk P t e (Dat.n α)) {w0 : World} {O : Nat → Prop} {v x : Value} {l m : List α}
    (hown : Own e w0 O v l) (hx : Rdv w0 Never x m) (hd : ∀ cs y, Dat.rd w0 Never cs (y : α) → Dat.rd w0 (fun k => O k ∨ v.ownBlock = some k) cs y) (hO : ∀ k, O k → k < w0.heap.size) (hlen : l.length + m.length ≤ 1000000000) :
    ∃ v' w', (Builtin.append_ #[t, t] ty #[v, x]).run P w0 = .ok v' w' ∧ Own e w' O v' (l ++ m) ∧ Chg (OwnB v) w0 w' := by
  obtain ⟨a, cap, rfl, c1, c2, hel⟩ := rdv_slice hx
  rcases Nat.eq_zero_or_pos m.length with h0 | hpos
  · have : m = [] := List.eq_nil_of_length_eq_zero h0
    subst this
    refine ⟨v, w0, ?_, by rw [List.append_nil]; exact hown, Chg.refl _ _⟩
    obtain ⟨xs, hrow, _⟩ := hown
    exact run_append_empty hP hrow a cap
  · obtain ⟨b, off, rfl⟩ : ∃ b off, a = some ⟨b, off, none⟩ := by
      obtain ⟨b, off, es, ha, _⟩ := hel 0 m[0] (by simp [hpos])
      exact ⟨b, off, ha⟩
    obtain ⟨i, z, hi, hz, hsz, hzs, hby⟩ := hP.info
    obtain ⟨xs, hrow, hb, hels⟩ := id hown
    obtain ⟨news, n1, n2, n3, n4⟩ := elems_cells hel m.length (Nat.le_refl _)
    have hpos' := Dat.pos (α := α)
    have hcells : ∀ j u, news[j]? = some u → w0.cell? ((⟨b, off, none⟩ : Addr).add j) = some u := by
      intro j u hj
      have e1 : (⟨b, off, none⟩ : Addr).add j = ⟨b, off + j, none⟩ := by unfold Addr.add; split <;> simp_all
      rw [e1]
      exact n2 j u hj
    have hbound : (l.length + m.length) * i.bytes ≤ 140737488355328 := by
      have := Nat.mul_le_mul hlen hby
      omega
    obtain ⟨v', w', hrun, hown', hgrow, hnil⟩ := run_append_own (P := P) w0 0 t ty e i z (Dat.n α) i.bytes hP.ht hi hz hsz rfl hzs hpos' v l.length xs hrow
      ⟨b, off, none⟩ m.length cap news n1 hcells n3 (by unfold maxLen; omega) hbound (Nat.zero_le _)
    obtain ⟨kb, hkb, hkb'⟩ := append_block (P := P) w0 0 t ty e i z (Dat.n α) i.bytes hP.ht hi hz hsz rfl v l.length xs hrow
      ⟨b, off, none⟩ m.length cap news n1 hcells n3 (by unfold maxLen; omega) hbound (by omega) hrun
    have hc : Chg (OwnB v) w0 w' := Chg.of_grown hgrow
    have hsub : ∀ k, k < w0.heap.size → (O k ∨ v'.ownBlock = some k) → (O k ∨ v.ownBlock = some k) := by
      rintro k hk (h | h)
      · exact .inl h
      · rw [hkb] at h
        injection h with h
        subst h
        rcases hkb' with h | h
        · exact .inr h
        · omega
    refine ⟨v', w', hrun, ⟨xs ++ news, ?_, ?_, ?_⟩, hc⟩
    · rw [List.length_append]; exact hown'
    · intro k hk ho
      rw [hkb] at hk
      injection hk with hk
      subst hk
      rcases hkb' with h | h
      · exact hb _ h ho
      · exact absurd (hO _ ho) (by omega)
    · intro j y hj
      have hxl : xs.length = l.length * Dat.n α := hrow.1
      rcases Nat.lt_or_ge j l.length with hjl | hjl
      · rw [List.getElem?_append_left hjl] at hj
        have hle : j * Dat.n α + Dat.n α ≤ xs.length := by rw [hxl, ← Nat.succ_mul]; exact Nat.mul_le_mul_right _ hjl
        rw [List.drop_append_of_le_length (by omega), List.take_append_of_le_length (by rw [List.length_drop]; omega)]
        exact Dat.keep (hels j y hj) hc (fun k _ hk => .inr hk) hsub
      · rw [List.getElem?_append_right hjl] at hj
        have hjm := (List.getElem?_eq_some_iff.1 hj).1
        have e1 : (xs ++ news).drop (j * Dat.n α) = news.drop ((j - l.length) * Dat.n α) := by
          have e2 : j * Dat.n α = xs.length + (j - l.length) * Dat.n α := by rw [hxl, ← Nat.add_mul]; congr 1; omega
          rw [e2, List.drop_append]
          simp
        rw [e1]
        exact Dat.keep (hd _ _ (n4 _ y hjm hj)) hc (fun k _ hk => .inr hk) hsub

theorem wpList_many {P : Program} {ops : Array Oper} {rest : List Oper} {o : Oper} {a : Act} {Q : Exit → Act → World → Prop} (hgd : o.guard = none) (s x : Operand) (t : TypeId)
    (ho : o.op = .call { callee := .builtin .append, args := #[s, x], argTypes := #[t, t] }) {α : Type} [Dat α] {e : TypeId} (hP : ElemOk P t e (Dat.n α)) {w0 : World} {O : Nat → Prop} {v u : Value} {l m : List α}
    (hs : a.eval s = v) (hx : a.eval x = u) (hown : Own e w0 O v l) (hu : Rdv w0 Never u m) (hd : ∀ cs y, Dat.rd w0 Never cs (y : α) → Dat.rd w0 (fun k => O k ∨ v.ownBlock = some k) cs y) (hO : ∀ k, O k → k < w0.heap.size) (hlen : l.length + m.length ≤ 1000000000)
    (h : ∀ v' w', Own e w' O v' (l ++ m) → Chg (OwnB v) w0 w' → wpList P ops Q rest (a.put o.dst v') w') :
    wpList P ops Q (o :: rest) a w0 := by
  refine wpList_plain hgd fun K hK => ?_
  obtain ⟨v', w', hrun, h1, h2⟩ := run_many (ty := o.type) hP hown hu hd hO hlen
  unfold Oper.wp execOp
  simp only [ho, resolve, invoke, builtin, Sem.run_bind, Sem.run_pure, Result.andThen_ok, List.map_toArray, List.map_cons, List.map_nil, hs, hx, hrun]
  exact hK _ _ (h v' w' h1 h2)

theorem elems_sub {α : Type} [Dat α] {w : World} {O : Nat → Prop} {b off : Nat} {l : List α} (h : Elems w O (some ⟨b, off, none⟩) l) (i k : Nat) : Elems w O (some ⟨b, off + i * Dat.n α, none⟩) ((l.drop i).take k) := by
  intro q x hx
  rw [List.getElem?_take] at hx
  split at hx
  · rw [List.getElem?_drop] at hx
    obtain ⟨b', off', es, he, hb, hcs, hr⟩ := h (i + q) x hx
    simp only [Option.some.injEq, Addr.mk.injEq, and_true] at he
    obtain ⟨rfl, rfl⟩ := he
    refine ⟨b, _, es, rfl, hb, ?_, hr⟩
    rw [Nat.add_assoc, ← Nat.add_mul]
    exact hcs
  · cases hx
theorem rdv_sliced {α : Type} [Dat α] {w : World} {O : Nat → Prop} {a : Option Addr} {cap : Nat} {l : List α} (h : Rdv w O (.slice a l.length cap) l) (i j : Nat) (hij : i ≤ j) (hj : j ≤ l.length) :
    Rdv w O (sliced a i j cap (Dat.n α)) ((l.drop i).take (j - i)) := by
  obtain ⟨a', cap', e, h1, h2, h3⟩ := rdv_slice h
  simp only [Value.slice.injEq, true_and] at e
  obtain ⟨rfl, rfl⟩ := e
  have hl : ((l.drop i).take (j - i)).length = j - i := by rw [List.length_take, List.length_drop]; omega
  refine ⟨if cap = i then a else a.map (·.add (i * Dat.n α)), cap - i, by rw [hl]; rfl, by rw [hl]; omega, by omega, ?_⟩
  by_cases hc : cap = i
  · have : (l.drop i).take (j - i) = [] := List.eq_nil_of_length_eq_zero (by rw [hl]; omega)
    rw [this]
    intro q x hx
    simp at hx
  · rw [if_neg hc]
    intro q x hx
    have hq := (List.getElem?_eq_some_iff.1 hx).1
    have hpos : 0 < l.length := by rw [hl] at hq; omega
    obtain ⟨b, off, es, ha, _⟩ := h3 0 l[0] (by simp [hpos])
    subst ha
    have e1 : (some (⟨b, off, none⟩ : Addr)).map (·.add (i * Dat.n α)) = some ⟨b, off + i * Dat.n α, none⟩ := by
      simp only [Option.map_some]
      unfold Addr.add
      split <;> simp_all
    rw [e1]
    exact elems_sub h3 i (j - i) q x hx
theorem sliced_isSlice (a : Option Addr) (i j cap s : Nat) : ∃ b, sliced a i j cap s = .slice b (j - i) (cap - i) := ⟨_, rfl⟩
end Go.Proofs.YtmjpfoeaobdaeaaGreatDoor
namespace Go.Proofs.YtmjpfoeaobdaeaaGreatDoor
open Go.RowKit

def makeFault (a b : List ByteArray) (n : Int) : Int := if checkedFault a b ≠ 0 then checkedFault a b else cutFault (script a b) n
def makeR (a b : List ByteArray) (n : Int) : List Hunk := if checkedFault a b = 0 then cutR (script a b) n else []
theorem make_any (a b : List ByteArray) (n : Int) (v u : Value) (w : World) (ha : Rdv w Never v a) (hb : Rdv w Never u b) (hn : I64 n) :
    Calls Tryz.prog 83 #[v, u, .int .i64 n] w fun e w' => ∃ r, e = .returned (.tuple #[r, errV (makeFault a b n)]) ∧ Chg Never w w' ∧ Rdv w' (Old w.heap.size) r (makeR a b n) := by
  by_cases hz : checkedFault a b = 0
  · have HZ := Lib.hid hz
    have E1 : Hid (makeFault a b n = cutFault (script a b) n) := by unfold Hid makeFault; rw [if_neg (by simp [hz])]
    have E2 : Hid (makeR a b n = cutR (script a b) n) := if_pos hz
    have E3 : Hid (scriptR a b = script a b) := if_pos hz
    clear hz
    go_enter Tryz.func83, Tryz.ntmps83
    go_wp2_with fail
    refine (script_any a b _ _ _ ha hb).mono ?_
    rintro e w1 ⟨r1, rfl, hc1, hr1⟩
    rw [HZ.out, errV_zero]
    rw [E3.out] at hr1
    go_wp2_with fail
    refine (Cut_any (script a b) n _ _ (hr1.sub (fun _ _ h => h.elim)) hn).mono ?_
    rintro e w2 ⟨r2, rfl, hc2, hr2⟩
    go_wp2_with fail
    go_ret2
    exact ⟨r2, by rw [E1.out]; rfl, hc1.trans hc2, by rw [E2.out]; exact hr2.sub (fun k hk h => Nat.lt_of_lt_of_le h hc1.size)⟩
  · have HZ := Lib.hid hz
    have E1 : Hid (makeFault a b n = checkedFault a b) := if_pos hz
    have E2 : Hid (makeR a b n = []) := if_neg hz
    clear hz
    go_enter Tryz.func83, Tryz.ntmps83
    go_wp2_with fail
    refine (script_any a b _ _ _ ha hb).mono ?_
    rintro e w1 ⟨r1, rfl, hc1, hr1⟩
    rw [errV_pos HZ.out]
    go_wp2_with fail
    go_ret2
    exact ⟨.slice none 0 0, by rw [E1.out, errV_pos HZ.out]; rfl, hc1, by rw [E2.out]; exact rdv_nil _ _⟩

theorem sides_any (l : List Mark) (v : Value) (w : World) (h : Rdv w Never v l) (hz : scriptFault l = 0) :
    Calls Tryz.prog 150 #[v] w fun e w' => ∃ r s, e = .returned (.tuple #[r, s, .nilIface]) ∧ Chg Never w w' ∧ Rdv w' (Old w.heap.size) r (oldOf l) ∧ Rdv w' (Old w.heap.size) s (newOf l) := by
  have HZ := Lib.hid hz
  have H1 : Hid (thoseR l 43 = oldOf l) := if_pos hz
  have H2 : Hid (thoseR l 45 = newOf l) := if_pos hz
  clear hz
  go_enter Tryz.func150, Tryz.ntmps150
  go_wp2_with fail
  refine (old_any l _ _ h).mono ?_
  rintro e w1 ⟨r1, rfl, hc1, hr1⟩
  rw [HZ.out, errV_zero]
  rw [H1.out] at hr1
  go_wp2_with fail
  refine (new_any l _ _ (h.never hc1)).mono ?_
  rintro e w2 ⟨r2, rfl, hc2, hr2⟩
  rw [HZ.out, errV_zero]
  rw [H2.out] at hr2
  go_wp2_with fail
  go_ret3
  exact ⟨r1, r2, rfl, hc1.trans hc2, hr1.never hc2, hr2.sub (fun k hk h => Nat.lt_of_lt_of_le h hc1.size)⟩

theorem str_bne_true {x y : ByteArray} (h : x ≠ y) : (x.toList != y.toList) = true := by
  have := str_beq_false h
  simp only [bne, this, Bool.not_false]
theorem equal_any (l m : List ByteArray) (v u : Value) (w : World) (h : Rdv w Never v l) (g : Rdv w Never u m) :
    Calls Tryz.prog 48 #[v, u] w fun e w' => e = .returned (.bool (decide (l = m))) ∧ Chg Never w w' := by
  obtain ⟨a, cap, rfl, h1, h2, h3⟩ := rdv_slice h
  obtain ⟨c, cap', rfl, g1, g2, g3⟩ := rdv_slice g
  unfold maxLen at h2 g2
  by_cases h4 : l.length = m.length
  · have h4' : ((l.length : Int) != m.length) = false := by simp [h4]
    have H4 := Lib.hid h4
    clear h4
    go_enter Tryz.func48, Tryz.ntmps48
    go_wp2
    go_loopw [13] (fun i wr => ∃ k : Nat, k ≤ l.length ∧ i = .int .i64 k ∧ Hid (l.take k = m.take k) ∧ Chg Never w wr) (fun i _ => l.length - (intOf i).toNat)
    case atStart => exact ⟨0, Nat.zero_le _, rfl, by simp [Hid], Chg.refl _ _⟩
    case round =>
      obtain ⟨k, hk, rfl, hf, hc⟩ := hrel
      by_cases hlt : k < l.length
      · obtain ⟨x, hx⟩ : ∃ x, l[k]? = some x := ⟨l[k], by simp [hlt]⟩
        obtain ⟨y, hy⟩ : ∃ y, m[k]? = some y := ⟨m[k]'(by rw [← H4.out]; exact hlt), by simp [H4.out ▸ hlt]⟩
        obtain ⟨b, off, rfl, _, _, hcx, hxs⟩ := elems_str h3 hx
        obtain ⟨b', off', rfl, _, _, hcy, hys⟩ := elems_str g3 hy
        have hcx := hc.cellNever hcx
        have hcy := hc.cellNever hcy
        clear h3 g3 h g
        have hlm : k < m.length := by rw [← H4.out]; exact hlt
        have HX := Lib.hid hx
        have HY := Lib.hid hy
        clear hx hy
        have b1 : (k : Int) < l.length := by omega
        have b2 : (k : Int) < m.length := by omega
        by_cases hxy : x = y
        · subst hxy
          go_wp2
          go_quiet (fail)
          go_wp2
          go_roundw
          case rel => exact ⟨k + 1, by omega, by go_num, take_same hf HX.out HY.out, hc.drewN _⟩
          case measure => simp [intOf]; omega
        · have hne := str_beq_false hxy
          have hne' := str_bne_true hxy
          go_wp2
          go_quiet (fail)
          go_wp2
          go_ret
          exact ⟨by rw [decide_eq_false (ne_of_get HX.out HY.out hxy)]; rfl, hc.drewN _⟩
      · go_wp2
        go_ret
        have E : l = m := by
          have := hf.out
          rwa [List.take_of_length_le (by omega), List.take_of_length_le (by rw [← H4.out]; omega)] at this
        exact ⟨by rw [decide_eq_true E]; rfl, hc⟩
  · have h4' : ((l.length : Int) != m.length) = true := by simp; omega
    go_enter Tryz.func48, Tryz.ntmps48
    go_wp2
    go_ret
    exact ⟨by rw [decide_eq_false (fun e => h4 (by rw [e]))]; rfl, Chg.refl _ _⟩

theorem size_str (w : World) : (sizeOf (Tryz.prog.elem 25)).run Tryz.prog w = .ok 1 w := by kernel_rfl
theorem slice_str {w0 : World} {O : Nat → Prop} {a : Option Addr} {cap : Nat} {l : List ByteArray} (h : Rdv w0 O (.slice a l.length cap) l) (i j : Nat) (hij : i ≤ j) (hj : j ≤ l.length) :
    ∃ b, (∀ (x y : Int) (w : World), x = i → y = j → (Instr.slice 25 (.slice a l.length cap) (some (.int .i64 x)) (some (.int .i64 y)) none).run Tryz.prog w = .ok (.slice b (j - i) (cap - i)) w) ∧
      (∀ (x : Int) (w : World), x = i → j = l.length → (Instr.slice 25 (.slice a l.length cap) (some (.int .i64 x)) none none).run Tryz.prog w = .ok (.slice b (j - i) (cap - i)) w) ∧
      Rdv w0 O (.slice b (j - i) (cap - i)) ((l.drop i).take (j - i)) := by
  have hr := rdv_sliced h i j hij hj
  obtain ⟨b, hb⟩ := sliced_isSlice a i j cap 1
  obtain ⟨a', cap', e, h1, h2, h3⟩ := rdv_slice h
  simp only [Value.slice.injEq, true_and] at e
  obtain ⟨rfl, rfl⟩ := e
  refine ⟨b, ?_, ?_, hb ▸ hr⟩
  · rintro x y w rfl rfl
    rw [run_slice_lh w 25 a l.length cap (by kernel_rfl) .i64 .i64 _ _ (by omega) (by omega) (by omega), size_str]
    simp only [Result.andThen_ok, Int.toNat_natCast]
    rw [hb]
  · rintro x w rfl rfl
    rw [run_slice_l w 25 a l.length cap (by kernel_rfl) .i64 _ (by omega) (by omega), size_str]
    simp only [Result.andThen_ok, Int.toNat_natCast]
    rw [hb]

theorem stands_any (a l : List ByteArray) (at_ : Int) (v u : Value) (w : World) (ha : Rdv w Never v a) (hl : Rdv w Never u l) (h0 : -1000000 ≤ at_) (h1 : at_ ≤ 1000000) (hla : a.length ≤ 1000000) (hll : l.length ≤ 1000000) :
    Calls Tryz.prog 151 #[v, .int .i64 at_, u] w fun e w' => e = .returned (.bool (standsB a at_ l)) ∧ Chg Never w w' := by
  obtain ⟨b, cap, rfl, _, hcap, _⟩ := rdv_slice ha
  obtain ⟨c, cap', rfl, _, _, _⟩ := rdv_slice hl
  unfold maxLen at hcap
  by_cases c1 : at_ < 0
  · have E : standsB a at_ l = false := by unfold standsB; simp; omega
    rw [E]
    go_enter Tryz.func151, Tryz.ntmps151
    go_wp2_with fail
    go_ret
    exact ⟨rfl, Chg.refl _ _⟩
  · obtain ⟨n, rfl⟩ := Int.eq_ofNat_of_zero_le (show 0 ≤ at_ by omega)
    by_cases c2 : a.length < n + l.length
    · have E : standsB a n l = false := by unfold standsB; simp; omega
      rw [E]
      have t1 : decide ((n : Int) + l.length ≤ a.length) = false := by simp; omega
      go_enter Tryz.func151, Tryz.ntmps151
      go_wp2_with fail
      go_ret
      exact ⟨rfl, Chg.refl _ _⟩
    · have E : Hid (standsB a n l = decide ((a.drop n).take l.length = l)) := by
        unfold Hid standsB
        have e1 : decide ((0 : Int) ≤ n) = true := by simp
        have e2 : decide ((n : Int) + l.length ≤ a.length) = true := by simp; omega
        rw [e1, e2]; simp
      obtain ⟨sb, hrun, _, hsub⟩ := slice_str ha n (n + l.length) (by omega) (by omega)
      have hrun := fun (wx : World) => hrun n ((n : Int) + l.length) wx rfl (by push_cast; rfl)
      rw [show n + l.length - n = l.length by omega] at hrun hsub
      have t1 : decide ((n : Int) + l.length ≤ a.length) = true := by simp; omega
      clear c2
      go_enter Tryz.func151, Tryz.ntmps151
      go_wp2_with fail
      refine (equal_any ((a.drop n).take l.length) l _ _ _ hsub hl).mono ?_
      rintro e w1 ⟨rfl, hc1⟩
      go_wp2_with fail
      go_ret
      exact ⟨by rw [E.out]; rfl, hc1⟩
end Go.Proofs.YtmjpfoeaobdaeaaGreatDoor
namespace Go.Proofs.YtmjpfoeaobdaeaaGreatDoor
open Go.RowKit

set_option maxRecDepth 100000 in
theorem grow_nil (n : Nat) (w : World) (hn : n ≤ 1000000) :
    Calls Tryz.prog 168 #[.slice none 0 0, .int .i64 n] w fun e w' => ∃ r, e = .returned r ∧ Chg Never w w' ∧ Own 9 w' (Old w.heap.size) r ([] : List ByteArray) := by
  rcases Nat.eq_zero_or_pos n with h0 | hpos
  · subst h0
    go_enter Tryz.func168, Tryz.ntmps168
    go_wp2_with fail
    go_ret
    exact ⟨_, rfl, Chg.refl _ _, own_nil _ _ _⟩
  · obtain ⟨i0, hi0, hz0, hs0, hb0⟩ := info_parts (show (Tryz.prog.info? 9).map (fun i => (i.zero, i.size, i.bytes)) = some (some (.string ⟨#[]⟩), 1, 16) by kernel_rfl)
    have hold : (Builtin.firstCells i0.size 0 (.slice none 0 0)).run Tryz.prog w.drew = .ok ([] : List Value).toArray w.drew := run_firstCells_none w.drew i0.size 0 0 0
    have hrz : ∀ ty, (Builtin.append_ #[25, 3] ty #[.slice none 0 0, .int .i64 (n : Int)]).run Tryz.prog w = .ok (.slice (some ⟨w.heap.size, 0, none⟩) n (grownCap w n 0 9))
        (w.drew.alloc (.cells (([] : List Value).toArray ++ Builtin.zeroCells (Value.string ⟨#[]⟩).cells n ++ Builtin.zeroCells (Value.string ⟨#[]⟩).cells (grownCap w n 0 9 - n)) 9)) := fun ty => by
      have h := Lib.run_append_grow_zeros w 25 3 ty 9 i0 (.string ⟨#[]⟩) .i64 .i64 Tryz.underlying25 Tryz.underlying3 hi0 hz0 none 0 0 [] hold n hpos (by omega) (by omega) (by omega) (by rw [hb0]; omega)
        (growslice_fits (by omega) (by rw [hb0]; omega))
      rw [Nat.zero_add] at h
      exact h
    have hGn : n ≤ grownCap w n 0 9 := grownCap_ge w _ _ _
    have hGm : grownCap w n 0 9 ≤ maxLen := grownCap_le_maxLen w n 0 9 (by unfold maxLen; omega)
    generalize grownCap w n 0 9 = G at hrz hGn hGm
    have hG63 : G ≤ 9223372036854775807 := by unfold maxLen at hGm; omega
    obtain ⟨cur, hcur⟩ : ∃ cur, cur = ([] : List Value).toArray ++ Builtin.zeroCells (Value.string ⟨#[]⟩).cells n ++ Builtin.zeroCells (Value.string ⟨#[]⟩).cells (G - n) := ⟨_, rfl⟩
    rw [← hcur] at hrz
    have hcs : cur.size = G * 1 := by rw [hcur]; simp [Builtin.zeroCells, Value.cells]; omega
    clear hcur
    have hmade : (w.drew.alloc (.cells cur 9)).ownsRow 0 9 1 (.slice (some ⟨w.heap.size, 0, none⟩) 0 G) 0 [] :=
      World.ownsRow_made w.drew _ G (Nat.zero_le _) hGm hcs
    have hcw : Chg Never w (w.drew.alloc (.cells cur 9)) := (Chg.refl Never w).drew.alloc _
    clear hcs
    have HM := Lib.hid hmade
    have HC := Lib.hid hcw
    clear hmade hcw hold hi0 hz0 hs0 hb0 hGm
    go_enter Tryz.func168, Tryz.ntmps168
    go_wp2_with (at_builtin; refine Lib.wpList_append_run _ rfl _ _ _ _ rfl _ _ rfl rfl _ _ (hrz _) ?_)
    all_goals
      go_ret
      have HO : ∀ k, (Value.slice (some ⟨w.heap.size, 0, none⟩) 0 G).ownBlock = some k → ¬ Old w.heap.size k := by
        intro k hk ho
        simp only [Value.ownBlock, Option.some.injEq] at hk
        subst hk
        unfold Old at ho
        omega
      exact ⟨.slice (some ⟨w.heap.size, 0, none⟩) 0 G, rfl, HC.out, [], HM.out, HO, fun i x hi => by simp at hi⟩

theorem elems_list {α : Type} [Dat α] {w : World} {O : Nat → Prop} {a : Option Addr} {l : List (List α)} (h : Elems w O a l) {i : Nat} {x : List α} (hx : l[i]? = some x) :
    ∃ b off v, a = some ⟨b, off, none⟩ ∧ ¬ O b ∧ b < w.heap.size ∧ w.cell? ⟨b, off + i, none⟩ = some v ∧ Rdv w O v x := by
  obtain ⟨b, off, es, ha, hb, hcs, hr⟩ := h i x hx
  obtain ⟨v, rfl⟩ : ∃ v, es = [v] := by
    have hl : es.length = 1 := Dat.len hr
    match es, hl with
    | [v], _ => exact ⟨v, rfl⟩
  refine ⟨b, off, v, ha, hb, hcs.lt (by simp), ?_, hr⟩
  have := hcs 0 v rfl
  simpa [Dat.n] using this
theorem flatten_take {l : List (List ByteArray)} {k : Nat} {x : List ByteArray} (hx : l[k]? = some x) : (l.take (k + 1)).flatten = (l.take k).flatten ++ x := by
  rw [List.take_add_one, hx]; simp
def totalOf (l : List (List ByteArray)) (k : Nat) : Nat := (l.take k).flatten.length
theorem flatten_take_le (l : List (List ByteArray)) (k : Nat) : (l.take k).flatten.length ≤ l.flatten.length := by
  have h : ((l.take k) ++ (l.drop k)).flatten.length = l.flatten.length := by rw [List.take_append_drop]
  rw [List.flatten_append, List.length_append] at h
  omega
theorem rd_str_any (w : World) (O O' : Nat → Prop) : ∀ cs (y : ByteArray), Dat.rd w O cs y → Dat.rd w O' cs y := fun _ _ h => h

set_option maxHeartbeats 800000 in
set_option maxRecDepth 100000 in
theorem concat_any (ls : List (List ByteArray)) (v : Value) (w : World) (h : Rdv w Never v ls) (hb : ls.flatten.length ≤ 1000000) :
    Calls Tryz.prog 152 #[v] w fun e w' => ∃ r, e = .returned r ∧ Chg Never w w' ∧ Own 9 w' (Old w.heap.size) r ls.flatten := by
  obtain ⟨a, cap, rfl, h1, h2, h3⟩ := rdv_slice h
  unfold maxLen at h2
  go_enter Tryz.func152, Tryz.ntmps152
  go_wp2_with fail
  go_loop [3, 5, 11] (fun sz _ i => ∃ k : Nat, k ≤ ls.length ∧ i = .int .i64 k ∧ sz = .int .i64 (totalOf ls k)) (fun _ _ i => ls.length - (intOf i).toNat)
  case atStart => exact ⟨0, Nat.zero_le _, rfl, rfl⟩
  case round =>
    obtain ⟨k, hk, rfl, rfl⟩ := hrel
    by_cases hlt : k < ls.length
    · obtain ⟨x, hx⟩ : ∃ x, ls[k]? = some x := ⟨ls[k], by simp [hlt]⟩
      obtain ⟨b, off, sv, rfl, _, _, c0, hsv⟩ := elems_list h3 hx
      obtain ⟨xa, xcap, rfl, _, _, _⟩ := rdv_slice hsv
      have HT : Hid (totalOf ls (k + 1) = totalOf ls k + x.length) := by rw [Hid, totalOf, flatten_take hx, List.length_append]; rfl
      have hle : totalOf ls k + x.length ≤ 1000000 := by
        have h1 : totalOf ls (k + 1) ≤ ls.flatten.length := flatten_take_le ls (k + 1)
        rw [HT.out] at h1
        omega
      clear hx h3 h hsv
      go_wp2_with fail
      go_round
      case rel => exact ⟨k + 1, by omega, by go_num, by rw [HT.out]; go_num⟩
      case measure => simp [intOf] <;> omega
    · obtain rfl : k = ls.length := by omega
      have hb' : totalOf ls ls.length ≤ 1000000 := Nat.le_trans (flatten_take_le ls _) hb
      go_wp2_with fail
      refine (grow_nil (totalOf ls ls.length) _ hb').mono ?_
      rintro e w1 ⟨r1, rfl, hc1, hown1⟩
      go_wp2_with fail
      go_loopw [6, 8, 27] (fun o _ i wr => ∃ k : Nat, k ≤ ls.length ∧ i = .int .i64 k ∧ Chg Never w wr ∧ Own 9 wr (Old w.heap.size) o (ls.take k).flatten) (fun _ _ i _ => ls.length - (intOf i).toNat)
      case atStart => exact ⟨0, Nat.zero_le _, rfl, hc1, hown1⟩
      case round =>
        clear hc1 hown1
        obtain ⟨k, hk, rfl, hc, hown⟩ := hrel
        by_cases hlt : k < ls.length
        · obtain ⟨x, hx⟩ : ∃ x, ls[k]? = some x := ⟨ls[k], by simp [hlt]⟩
          obtain ⟨b, off, sv, rfl, _, _, c0, hsv⟩ := elems_list h3 hx
          obtain ⟨xa, xcap, rfl, _, _, _⟩ := rdv_slice hsv
          have c0 := hc.cellNever c0
          have hsv := hsv.never hc
          have HF := Lib.hid (flatten_take hx)
          have hle : (ls.take k).flatten.length + x.length ≤ 1000000000 := by
            have := flatten_take_le ls (k + 1)
            rw [HF.out, List.length_append] at this
            omega
          clear hx h3 h
          go_wp2_with (at_builtin; refine wpList_many (by rfl) _ _ 25 (by rfl) elemOk_str (O := Old w.heap.size) (by rfl) (by rfl) hown hsv (rd_str_any _ _ _) (old_lt hc) hle ?_; intro v' w5 hown2 hc2)
          have hc3 := own_step hc hown hc2
          clear hc2 hown
          go_wp2_with fail
          go_roundw
          case rel => exact ⟨k + 1, by omega, by go_num, hc3, by rw [HF.out]; exact hown2⟩
          case measure => simp [intOf] <;> omega
        · obtain rfl : k = ls.length := by omega
          rw [List.take_length] at hown
          go_wp2_with fail
          go_ret
          exact ⟨_, rfl, hc, hown⟩
end Go.Proofs.YtmjpfoeaobdaeaaGreatDoor
