/-
  PARTS: PATCHES, in plain Lean (chapter 2): what may be one, what is done to a tree, turned it leads back.; PATCHES AS TEXTS, in plain Lean (chapter 8): whole texts. What is printed is read; what is read is printed so.; SERIES, in plain Lean (chapter 13): what a mail is read as; the pieces of all; what is packed.; THE WALKS of strings.Builder's methods at a builder of one's own: copyCheck, WriteString, WriteByte.; A BUILDER OF ONE'S OWN STAYS while only new blocks come.; A BOX OF TWO CELLS, and of three (Blk3). No program in sight.; THE WALKS of strings.Builder's methods once more, saying that every block that holds no bytes (but the builder's own) stays.; HUNKS AS TEXTS, in plain Lean: the document's reading (hunk by hunk) is the program's (line by line).; NUMBERS AS TEXTS, in plain Lean: a text that is the decimal numeral of its number; the document's reading of one.; HUNKS AS TEXTS, in plain Lean: what the program's functions compute, as the walks want it.
-/
import Derived.Test.YtjiaidchcldocaaGreatDoorPg3
import Derived.Test.YtjiaidchcldocaaGreatDoorPg5
import Derived.Test.YtjiaidchcldocaaGreatDoorPg2
import Derived.Test.YtjiaidchcldocaaGreatDoorPg1
import Derived.Shelf.Strings.BuilderK
set_option linter.unusedVariables false
set_option linter.unusedSimpArgs false
namespace Go.Proofs.YtjiaidchcldocaaGreatDoor

def wholeB (l : List Hunk) (s : Int) : Bool :=
  match l with
  | [] => true
  | [h] => decide (h.old = 0) && decide (h.new = 0) && h.marks.all fun m => decide (m.sign = s)
  | _ => false
def shapeB (c : Change) : Bool := if c.what = 2 then wholeB c.hunks 43 else if c.what = 3 then wholeB c.hunks 45 else !c.hunks.isEmpty
def changeFault (c : Change) : Int :=
  if c.what < 1 ∨ 3 < c.what then 1 else if pathFault c.path ≠ 0 then pathFault c.path else if (hunksFault c.hunks).2 ≠ 0 then (hunksFault c.hunks).2 else if shapeB c = true then 0 else 2
def patchGo : Nat → Option ByteArray → List Change → Nat × Int
  | _, _, [] => (0, 0)
  | i, prev, c :: r => if changeFault c ≠ 0 then (i, changeFault c) else if prev.any (fun p => leqB c.path p) = true then (i, 2) else patchGo (i + 1) (some c.path) r
def patchFault (p : List Change) : Nat × Int := if 16 < p.length then (0, 3) else patchGo 0 none p
def SortedC (p : List Change) : Prop := p.Pairwise fun c d => less c.path d.path = true
def Patch (p : List Change) : Prop := p.length ≤ 16 ∧ (∀ c ∈ p, changeFault c = 0) ∧ SortedC p

theorem patchGo_zero : ∀ (t : List Change) (i : Nat) (prev : Option ByteArray), (patchGo i prev t).2 = 0 → (∀ f ∈ t, changeFault f = 0) ∧ SortedC t ∧ (∀ p f, prev = some p → f ∈ t → less p f.path = true) ∧ patchGo i prev t = (0, 0)
  | [], _, _, _ => ⟨by simp, List.Pairwise.nil, by simp, rfl⟩
  | f :: r, i, prev, h => by
    rw [patchGo] at h ⊢
    by_cases h1 : changeFault f ≠ 0
    · rw [if_pos h1] at h; exact absurd h h1
    · rw [if_neg h1] at h ⊢
      by_cases h2 : prev.any (fun p => leqB f.path p) = true
      · rw [if_pos h2] at h; cases h
      · rw [if_neg h2] at h ⊢
        obtain ⟨i1, i2, i3, i4⟩ := patchGo_zero r (i + 1) (some f.path) h
        refine ⟨?_, ?_, ?_, i4⟩
        · intro x hx
          rcases List.mem_cons.1 hx with rfl | hx
          · simpa using h1
          · exact i1 x hx
        · exact List.Pairwise.cons (fun g hg => i3 f.path g rfl hg) i2
        · rintro p x rfl hx
          have hp : less p f.path = true := by
            simp only [Option.any_some] at h2
            rcases less_tri p f.path with g | g | g
            · exact g
            · exact absurd (leqB_true.2 (by rw [g]; exact less_irrefl _)) h2
            · exact absurd (leqB_true.2 (less_asymm g)) h2
          rcases List.mem_cons.1 hx with rfl | hx
          · exact hp
          · exact less_trans hp (i3 f.path x rfl hx)
theorem patchGo_ok : ∀ (t : List Change) (i : Nat) (prev : Option ByteArray), (∀ f ∈ t, changeFault f = 0) → SortedC t → (∀ p f, prev = some p → f ∈ t → less p f.path = true) → patchGo i prev t = (0, 0)
  | [], _, _, _, _, _ => rfl
  | f :: r, i, prev, h1, h2, h3 => by
    obtain ⟨g1, g2⟩ := List.pairwise_cons.1 h2
    have hp : ¬ prev.any (fun p => leqB f.path p) = true := by
      cases prev with
      | none => simp
      | some p =>
        simp only [Option.any_some]
        intro e
        have := leqB_true.1 e
        rw [h3 p f rfl (List.mem_cons_self ..)] at this
        cases this
    rw [patchGo, if_neg (by rw [h1 f (List.mem_cons_self ..)]; simp), if_neg hp]
    exact patchGo_ok r (i + 1) (some f.path) (fun x hx => h1 x (List.mem_cons_of_mem _ hx)) g2 (fun p x hp hx => by cases hp; exact g1 x hx)
theorem patch_ok {p : List Change} (h : Patch p) : patchFault p = (0, 0) := by
  unfold patchFault
  rw [if_neg (by have := h.1; omega)]
  exact patchGo_ok p 0 none h.2.1 h.2.2 (by simp)
theorem patch_of {p : List Change} (h : (patchFault p).2 = 0) : Patch p := by
  unfold patchFault at h
  by_cases h1 : 16 < p.length
  · rw [if_pos h1] at h; cases h
  · rw [if_neg h1] at h
    obtain ⟨i1, i2, _, _⟩ := patchGo_zero p 0 none h
    exact ⟨by omega, i1, i2⟩
/-! ### what a change does to what a path reads -/
def stepOf (x : Option (List ByteArray)) (c : Change) : Option (List ByteArray) × Int :=
  if c.what = 2 ∧ x.isSome = true then (none, 6)
  else if c.what ≠ 2 ∧ x.isSome = false then (none, 4)
  else if (strict (x.getD []) c.hunks).2.2 ≠ 0 then (none, (strict (x.getD []) c.hunks).2.2)
  else if c.what = 3 then (if (strict (x.getD []) c.hunks).1 = [] then (none, 0) else (none, 6))
  else (some (strict (x.getD []) c.hunks).1, 0)
def setAt (t : List File) (p : ByteArray) (y : Option (List ByteArray)) : List File :=
  match y with
  | some l => putAt t ⟨p, l⟩
  | none => dropAt t (posOf t p)
def applyGo : Nat → List File → List Change → List File × Nat × Int
  | _, t, [] => (t, 0, 0)
  | i, t, c :: r => if (stepOf (look t c.path) c).2 ≠ 0 then ([], i, (stepOf (look t c.path) c).2) else applyGo (i + 1) (setAt t c.path (stepOf (look t c.path) c).1) r
def applyR (t : List File) (p : List Change) : List File × Nat × Int :=
  if (treeFault t).2 ≠ 0 then ([], 0, (treeFault t).2)
  else if (patchFault p).2 ≠ 0 then ([], (patchFault p).1, (patchFault p).2)
  else if (applyGo 0 t p).2.2 ≠ 0 then applyGo 0 t p
  else if 8 < (applyGo 0 t p).1.length then ([], 0, 3)
  else ((applyGo 0 t p).1, 0, 0)

theorem step_none {x : Option (List ByteArray)} {c : Change} (h : stepOf x c = (none, 0)) : x.isSome = true := by
  unfold stepOf at h
  by_cases h1 : c.what = 2 ∧ x.isSome = true
  · exact h1.2
  · rw [if_neg h1] at h
    by_cases h2 : c.what ≠ 2 ∧ x.isSome = false
    · rw [if_pos h2] at h; cases h
    · rw [if_neg h2] at h
      by_cases h3 : (strict (x.getD []) c.hunks).2.2 ≠ 0
      · rw [if_pos h3] at h; exact absurd (Prod.mk.inj h).2 h3
      · rw [if_neg h3] at h
        by_cases h4 : c.what = 3
        · cases hx : x.isSome with
          | true => rfl
          | false => exact absurd ⟨by omega, hx⟩ h2
        · rw [if_neg h4] at h; cases h
theorem setAt_look {t : List File} (hs : Sorted t) {p : ByteArray} {y : Option (List ByteArray)} (hy : y = none → isAt t p = true) (q : ByteArray) : look (setAt t p y) q = if p = q then y else look t q := by
  cases y with
  | some l => exact putAt_look hs ⟨p, l⟩ q
  | none => exact dropAt_look hs (hy rfl) q
theorem setAt_sorted {t : List File} (hs : Sorted t) {p : ByteArray} {y : Option (List ByteArray)} (hy : y = none → isAt t p = true) : Sorted (setAt t p y) := by
  cases y with
  | some l => exact putAt_sorted hs ⟨p, l⟩
  | none => exact dropAt_sorted hs (hy rfl)
theorem step_at {t : List File} (hs : Sorted t) {c : Change} {y : Option (List ByteArray)} (h : stepOf (look t c.path) c = (y, 0)) : y = none → isAt t c.path = true := by
  rintro rfl
  rw [isAt_look hs]
  exact step_none h

/-- a patch leads from tree to tree: by what each path reads -/
def Leads (t : List File) (p : List Change) (b : List File) : Prop :=
  (∀ c ∈ p, stepOf (look t c.path) c = (look b c.path, 0)) ∧ ∀ q, (∀ c ∈ p, c.path ≠ q) → look b q = look t q
theorem apply_of : ∀ (p : List Change) (t b : List File) (i : Nat), Sorted t → Sorted b → SortedC p → Leads t p b → applyGo i t p = (b, 0, 0)
  | [], t, b, _, ht, hb, _, h => by
    rw [applyGo, sorted_ext ht hb fun q => (h.2 q (by simp)).symm]
  | c :: r, t, b, i, ht, hb, hp, h => by
    obtain ⟨p1, p2⟩ := List.pairwise_cons.1 hp
    have hc := h.1 c (List.mem_cons_self ..)
    have hy := step_at ht hc
    rw [applyGo, hc, if_neg (by simp)]
    refine apply_of r _ b (i + 1) (setAt_sorted ht hy) hb p2 ⟨fun d hd => ?_, fun q hq => ?_⟩
    · rw [setAt_look ht hy, if_neg (less_ne (p1 d hd))]
      exact h.1 d (List.mem_cons_of_mem _ hd)
    · rw [setAt_look ht hy]
      by_cases e : c.path = q
      · rw [if_pos e, e]
      · rw [if_neg e]
        refine h.2 q fun d hd => ?_
        rcases List.mem_cons.1 hd with rfl | hd
        · exact e
        · exact hq d hd
theorem apply_inv : ∀ (p : List Change) (t b : List File) (k i : Nat), Sorted t → SortedC p → applyGo i t p = (b, k, 0) → k = 0 ∧ Sorted b ∧ Leads t p b
  | [], t, b, k, _, ht, _, h => by
    rw [applyGo] at h
    cases h
    exact ⟨rfl, ht, by simp, fun _ _ => rfl⟩
  | c :: r, t, b, k, i, ht, hp, h => by
    obtain ⟨p1, p2⟩ := List.pairwise_cons.1 hp
    rw [applyGo] at h
    by_cases z : (stepOf (look t c.path) c).2 ≠ 0
    · rw [if_pos z] at h
      simp only [Prod.mk.injEq] at h
      exact absurd h.2.2 z
    · rw [if_neg z] at h
      have hc : stepOf (look t c.path) c = ((stepOf (look t c.path) c).1, 0) := by
        rw [Prod.ext_iff]; exact ⟨rfl, by simpa using z⟩
      generalize (stepOf (look t c.path) c).1 = y at h hc
      have hy := step_at ht hc
      obtain ⟨k0, sb, l1, l2⟩ := apply_inv r _ b k (i + 1) (setAt_sorted ht hy) p2 h
      have hcb : look b c.path = y := by
        rw [l2 c.path fun d hd => (less_ne (p1 d hd)).symm, setAt_look ht hy, if_pos rfl]
      refine ⟨k0, sb, fun d hd => ?_, fun q hq => ?_⟩
      · rcases List.mem_cons.1 hd with rfl | hd
        · rw [hc, hcb]
        · have := l1 d hd
          rwa [setAt_look ht hy, if_neg (less_ne (p1 d hd))] at this
      · rw [l2 q fun d hd => hq d (List.mem_cons_of_mem _ hd), setAt_look ht hy, if_neg (hq c (List.mem_cons_self ..))]
theorem applyR_of {t b : List File} {p : List Change} (ht : Tree t) (hp : Patch p) (hb : Sorted b) (h8 : b.length ≤ 8) (h : Leads t p b) : applyR t p = (b, 0, 0) := by
  have e := apply_of p t b 0 ht.2.2 hb hp.2.2 h
  unfold applyR
  rw [if_neg (by rw [tree_iff.1 ht]; simp), if_neg (by rw [patch_ok hp]; simp), e, if_neg (by simp), if_neg (by simp only; omega)]
theorem applyR_inv {t b : List File} {p : List Change} {k : Nat} (h : applyR t p = (b, k, 0)) : k = 0 ∧ Tree t ∧ Patch p ∧ Sorted b ∧ b.length ≤ 8 ∧ Leads t p b := by
  unfold applyR at h
  by_cases h1 : (treeFault t).2 ≠ 0
  · rw [if_pos h1] at h; simp only [Prod.mk.injEq] at h; exact absurd h.2.2 h1
  · rw [if_neg h1] at h
    by_cases h2 : (patchFault p).2 ≠ 0
    · rw [if_pos h2] at h; simp only [Prod.mk.injEq] at h; exact absurd h.2.2 h2
    · rw [if_neg h2] at h
      have ht : Tree t := tree_iff.2 (by simpa using h1)
      have hp : Patch p := patch_of (by simpa using h2)
      by_cases h3 : (applyGo 0 t p).2.2 ≠ 0
      · rw [if_pos h3] at h; rw [h] at h3; exact absurd rfl h3
      · rw [if_neg h3] at h
        by_cases h4 : 8 < (applyGo 0 t p).1.length
        · rw [if_pos h4] at h; cases h
        · rw [if_neg h4] at h
          have e : applyGo 0 t p = ((applyGo 0 t p).1, (applyGo 0 t p).2.1, 0) := by
            rw [Prod.ext_iff, Prod.ext_iff]; exact ⟨rfl, rfl, by simpa using h3⟩
          obtain ⟨_, q2, q3⟩ := apply_inv p t _ _ 0 ht.2.2 hp.2.2 e
          cases h
          exact ⟨rfl, ht, hp, q2, by omega, q3⟩

/-! ### turned -/
def turnW (k : Int) : Int := if k = 2 then 3 else if k = 3 then 2 else k
def turnC (c : Change) : Change := ⟨turnW c.what, c.path, turnHunks c.hunks⟩
def turnP (p : List Change) : List Change := p.map turnC
theorem changeFault_zero {c : Change} (h : changeFault c = 0) : 1 ≤ c.what ∧ c.what ≤ 3 ∧ pathFault c.path = 0 ∧ hunksFault c.hunks = (0, 0) ∧ shapeB c = true := by
  unfold changeFault at h
  by_cases h1 : c.what < 1 ∨ 3 < c.what
  · rw [if_pos h1] at h; cases h
  · rw [if_neg h1] at h
    by_cases h2 : pathFault c.path ≠ 0
    · rw [if_pos h2] at h; exact absurd h h2
    · rw [if_neg h2] at h
      by_cases h3 : (hunksFault c.hunks).2 ≠ 0
      · rw [if_pos h3] at h; exact absurd h h3
      · rw [if_neg h3] at h
        by_cases h4 : shapeB c = true
        · exact ⟨by omega, by omega, by simpa using h2, hunksFault_first (by simpa using h3), h4⟩
        · rw [if_neg h4] at h; cases h
theorem changeFault_of {c : Change} (h1 : 1 ≤ c.what) (h2 : c.what ≤ 3) (h3 : pathFault c.path = 0) (h4 : hunksFault c.hunks = (0, 0)) (h5 : shapeB c = true) : changeFault c = 0 := by
  unfold changeFault
  rw [if_neg (by omega), if_neg (by simp [h3]), if_neg (by simp [h4]), if_pos h5]
theorem wholeB_turn {l : List Hunk} {s : Int} (hs : s = 43 ∨ s = 45) (h : wholeB l s = true) : wholeB (turnHunks l) (88 - s) = true := by
  match l with
  | [] => rfl
  | [q] =>
    unfold wholeB at h
    simp only [Bool.and_eq_true, decide_eq_true_eq, List.all_eq_true] at h
    obtain ⟨⟨h1, h2⟩, h3⟩ := h
    show (decide (q.new = 0) && decide (q.old = 0) && (q.marks.map turnMark).all fun m => decide (m.sign = 88 - s)) = true
    rw [Bool.and_eq_true, Bool.and_eq_true]
    refine ⟨⟨decide_eq_true h2, decide_eq_true h1⟩, List.all_eq_true.2 fun m hm => ?_⟩
    obtain ⟨x, hx, rfl⟩ := List.mem_map.1 hm
    have := h3 x hx
    refine decide_eq_true ?_
    unfold turnMark
    rcases hs with rfl | rfl
    · simp [this]
    · simp [this]
  | _ :: _ :: _ => cases h
theorem turnC_ok {c : Change} (h : changeFault c = 0) : changeFault (turnC c) = 0 := by
  obtain ⟨h1, h2, h3, h4, h5⟩ := changeFault_zero h
  have hw : c.what = 1 ∨ c.what = 2 ∨ c.what = 3 := by omega
  refine changeFault_of ?_ ?_ h3 (turn_ok h4) ?_
  · show 1 ≤ turnW c.what
    rcases hw with e | e | e <;> rw [e] <;> decide
  · show turnW c.what ≤ 3
    rcases hw with e | e | e <;> rw [e] <;> decide
  · unfold shapeB at h5 ⊢
    show (if turnW c.what = 2 then wholeB (turnHunks c.hunks) 43 else if turnW c.what = 3 then wholeB (turnHunks c.hunks) 45 else !(turnHunks c.hunks).isEmpty) = true
    rcases hw with e | e | e
    · rw [e, if_neg (by decide), if_neg (by decide)] at h5
      rw [e, if_neg (by decide), if_neg (by decide)]
      unfold turnHunks
      cases hh : c.hunks with
      | nil => rw [hh] at h5; cases h5
      | cons a b => rfl
    · rw [e, if_pos rfl] at h5
      rw [e, if_neg (by decide), if_pos (by decide)]
      exact wholeB_turn (.inl rfl) h5
    · rw [e, if_neg (by decide), if_pos rfl] at h5
      rw [e, if_pos (by decide)]
      exact wholeB_turn (.inr rfl) h5
theorem patch_turn {p : List Change} (h : Patch p) : Patch (turnP p) := by
  refine ⟨by unfold turnP; rw [List.length_map]; exact h.1, fun c hc => ?_, ?_⟩
  · obtain ⟨x, hx, rfl⟩ := List.mem_map.1 hc
    exact turnC_ok (h.2.1 x hx)
  · unfold SortedC turnP
    rw [List.pairwise_map]
    exact h.2.2
theorem step_undo {x y : Option (List ByteArray)} {c : Change} (hc : changeFault c = 0) (h : stepOf x c = (y, 0)) : stepOf y (turnC c) = (x, 0) := by
  obtain ⟨c1, c2, _, _, _⟩ := changeFault_zero hc
  have hw : c.what = 1 ∨ c.what = 2 ∨ c.what = 3 := by omega
  unfold stepOf at h
  by_cases h1 : c.what = 2 ∧ x.isSome = true
  · rw [if_pos h1] at h; cases h
  · rw [if_neg h1] at h
    by_cases h2 : c.what ≠ 2 ∧ x.isSome = false
    · rw [if_pos h2] at h; cases h
    · rw [if_neg h2] at h
      by_cases h3 : (strict (x.getD []) c.hunks).2.2 ≠ 0
      · rw [if_pos h3] at h; simp only [Prod.mk.injEq] at h; exact absurd h.2 h3
      · rw [if_neg h3] at h
        have e : strict (x.getD []) c.hunks = ((strict (x.getD []) c.hunks).1, (strict (x.getD []) c.hunks).2.1, 0) := by
          rw [Prod.ext_iff, Prod.ext_iff]; exact ⟨rfl, rfl, by simpa using h3⟩
        have u := (strict_undo e).1
        rcases hw with w | w | w
        · rw [if_neg (by omega)] at h
          have hy := (Prod.mk.inj h).1
          cases x with
          | none => exact absurd ⟨by omega, rfl⟩ h2
          | some l =>
            subst hy
            unfold stepOf turnC turnW
            simp only [w, Option.getD_some] at u ⊢
            simp [u]
        · rw [if_neg (by omega)] at h
          have hy := (Prod.mk.inj h).1
          cases x with
          | some l => exact absurd ⟨w, rfl⟩ h1
          | none =>
            subst hy
            unfold stepOf turnC turnW
            simp only [w, Option.getD_some, Option.getD_none] at u ⊢
            simp [u]
        · rw [if_pos w] at h
          cases x with
          | none => exact absurd ⟨by omega, rfl⟩ h2
          | some l =>
            by_cases q : (strict ((some l).getD []) c.hunks).1 = []
            · rw [if_pos q] at h
              have hy := (Prod.mk.inj h).1
              subst hy
              rw [q] at u
              unfold stepOf turnC turnW
              simp only [w, Option.getD_some, Option.getD_none] at u ⊢
              simp [u]
            · rw [if_neg q] at h; cases h
theorem leads_turn {t b : List File} {p : List Change} (hp : ∀ c ∈ p, changeFault c = 0) (h : Leads t p b) : Leads b (turnP p) t := by
  refine ⟨fun c hc => ?_, fun q hq => ?_⟩
  · obtain ⟨x, hx, rfl⟩ := List.mem_map.1 hc
    exact step_undo (hp x hx) (h.1 x hx)
  · exact (h.2 q fun c hc => hq (turnC c) (List.mem_map_of_mem hc)).symm
theorem step_lines {x y : Option (List ByteArray)} {c : Change} (h : stepOf x c = (y, 0)) : ∀ l, y = some l → linesFault l = 0 := by
  rintro l rfl
  unfold stepOf at h
  by_cases h1 : c.what = 2 ∧ x.isSome = true
  · rw [if_pos h1] at h; cases h
  · rw [if_neg h1] at h
    by_cases h2 : c.what ≠ 2 ∧ x.isSome = false
    · rw [if_pos h2] at h; cases h
    · rw [if_neg h2] at h
      by_cases h3 : (strict (x.getD []) c.hunks).2.2 ≠ 0
      · rw [if_pos h3] at h; cases h
      · rw [if_neg h3] at h
        have e : strict (x.getD []) c.hunks = ((strict (x.getD []) c.hunks).1, (strict (x.getD []) c.hunks).2.1, 0) := by
          rw [Prod.ext_iff, Prod.ext_iff]; exact ⟨rfl, rfl, by simpa using h3⟩
        by_cases h4 : c.what = 3
        · rw [if_pos h4] at h
          split at h <;> cases h
        · rw [if_neg h4] at h
          have := Option.some.inj (Prod.mk.inj h).1
          rw [← this]
          exact (strict_undo e).2
/-- what comes of a tree is one -/
theorem leads_tree {t b : List File} {p : List Change} (ht : Tree t) (hp : Patch p) (hb : Sorted b) (h8 : b.length ≤ 8) (h : Leads t p b) : Tree b := by
  refine ⟨h8, fun f hf => ?_, hb⟩
  have hl := look_mem hb hf
  by_cases e : ∃ c ∈ p, c.path = f.path
  · obtain ⟨c, hc, e⟩ := e
    have hs := h.1 c hc
    rw [e, hl] at hs
    unfold fileFault
    rw [if_pos (by rw [← e]; exact (changeFault_zero (hp.2.1 c hc)).2.2.1)]
    exact step_lines hs _ rfl
  · have := h.2 f.path fun c hc g => e ⟨c, hc, g⟩
    rw [hl] at this
    obtain ⟨x, hx, e1, e2⟩ := look_some this.symm
    have q : x = f := by cases x; cases f; simp only at e1 e2; rw [e1, e2]
    exact q ▸ ht.2.1 x hx
/-- what was done is undone -/
theorem apply_back {t b : List File} {p : List Change} {k : Nat} (h : applyR t p = (b, k, 0)) : applyR b (turnP p) = (t, 0, 0) := by
  obtain ⟨_, ht, hp, hb, h8, hl⟩ := applyR_inv h
  exact applyR_of (leads_tree ht hp hb h8 hl) (patch_turn hp) ht.2.2 ht.1 (leads_turn hp.2.1 hl)
end Go.Proofs.YtjiaidchcldocaaGreatDoor
namespace Go.Proofs.YtjiaidchcldocaaGreatDoor

def textG (p : List Change) : List UInt8 := textL (linesG p)
def parseG (s : List UInt8) : List Change × Int :=
  if 400000 < s.length then ([], 5) else match changesG (parts 10 s).dropLast.length (parts 10 s).dropLast with
  | none => ([], 5)
  | some p => if (parts 10 s).getLast? ≠ some [] then ([], 5) else if (patchFault p).2 ≠ 0 then ([], (patchFault p).2) else (p, 0)
theorem parts_has {d c : UInt8} : ∀ {s : List UInt8}, c ∈ s → c = d ∨ ∃ x ∈ parts d s, c ∈ x
  | [], h => by cases h
  | e :: r, h => by
    obtain ⟨h', t, er⟩ := List.exists_cons_of_ne_nil (parts_ne d r)
    by_cases he : e = d
    · subst he
      rw [parts_sep]
      rcases List.mem_cons.1 h with rfl | h
      · exact .inl rfl
      · rcases parts_has (d := e) h with q | ⟨x, hx, q⟩
        · exact .inl q
        · exact .inr ⟨x, List.mem_cons_of_mem _ hx, q⟩
    · rw [parts_other he er]
      rcases List.mem_cons.1 h with rfl | h
      · exact .inr ⟨c :: h', List.mem_cons_self .., List.mem_cons_self ..⟩
      · rcases parts_has (d := d) h with q | ⟨x, hx, q⟩
        · exact .inl q
        · rw [er] at hx
          rcases List.mem_cons.1 hx with rfl | hx
          · exact .inr ⟨e :: x, List.mem_cons_self .., List.mem_cons_of_mem _ q⟩
          · exact .inr ⟨x, List.mem_cons_of_mem _ hx, q⟩
theorem path_fine {s : ByteArray} (h : pathFault s = 0) : s.data.toList.length ≤ 20 ∧ ∀ c ∈ s.data.toList, c ≠ 10 := by
  unfold pathFault at h
  by_cases hl : 20 < s.size
  · rw [if_pos hl] at h; cases h
  · rw [if_neg hl] at h
    refine ⟨by simpa using Nat.le_of_not_lt hl, fun c hc e => ?_⟩
    by_cases ha : (parts 47 s.data.toList).all nameOk = true
    · subst e
      rcases parts_has (d := 47) hc with q | ⟨x, hx, q⟩
      · exact absurd q (by decide)
      · have := List.all_eq_true.1 ha x hx
        unfold nameOk at this
        rw [Bool.and_eq_true] at this
        exact absurd (List.all_eq_true.1 this.2 10 q) (by decide)
    · rw [if_neg ha] at h; cases h
theorem change_ok {c : Change} (h : changeFault c = 0) : (c.what = 1 ∨ c.what = 2 ∨ c.what = 3) ∧ pathFault c.path = 0 ∧ (hunksFault c.hunks).2 = 0 := by
  unfold changeFault at h
  by_cases h1 : c.what < 1 ∨ 3 < c.what
  · rw [if_pos h1] at h; cases h
  · rw [if_neg h1] at h
    by_cases h2 : pathFault c.path ≠ 0
    · rw [if_pos h2] at h; exact absurd h h2
    · rw [if_neg h2] at h
      by_cases h3 : (hunksFault c.hunks).2 ≠ 0
      · rw [if_pos h3] at h; exact absurd h h3
      · exact ⟨by omega, by simpa using h2, by simpa using h3⟩
theorem hunks_short {l : List Hunk} (e : (hunksFault l).2 = 0) : (textL (linesU l)).length ≤ 11280 := by
  unfold hunksFault at e
  by_cases hl : 60 < l.length
  · rw [if_pos hl] at e; cases e
  · rw [if_neg hl] at e
    obtain ⟨_, _, h3⟩ := go_ok l 0 0 0 (by decide) (by decide) e
    omega
theorem noneL_10 : ∀ c ∈ noneL, c ≠ 10 := by decide
theorem from_fine (w : Int) {p : List UInt8} (h : p.length ≤ 20 ∧ ∀ c ∈ p, c ≠ 10) : (mmL ++ fromL w p).length ≤ 26 ∧ (∀ c ∈ mmL ++ fromL w p, c ≠ 10) ∧ (ppL ++ toL w p).length ≤ 26 ∧ (∀ c ∈ ppL ++ toL w p, c ≠ 10) := by
  have ha : ∀ c ∈ mmL, c ≠ 10 := by decide
  have hb : ∀ c ∈ ppL, c ≠ 10 := by decide
  have h1 : (fromL w p).length ≤ 22 ∧ ∀ c ∈ fromL w p, c ≠ 10 := by
    unfold fromL
    by_cases e : w = 2
    · rw [if_pos e]; exact ⟨by decide, noneL_10⟩
    · rw [if_neg e]
      refine ⟨by simp; omega, fun c hc => ?_⟩
      rcases List.mem_append.1 hc with q | q
      · exact (by decide : ∀ c ∈ ([97, 47] : List UInt8), c ≠ 10) c q
      · exact h.2 c q
  have h2 : (toL w p).length ≤ 22 ∧ ∀ c ∈ toL w p, c ≠ 10 := by
    unfold toL
    by_cases e : w = 3
    · rw [if_pos e]; exact ⟨by decide, noneL_10⟩
    · rw [if_neg e]
      refine ⟨by simp; omega, fun c hc => ?_⟩
      rcases List.mem_append.1 hc with q | q
      · exact (by decide : ∀ c ∈ ([98, 47] : List UInt8), c ≠ 10) c q
      · exact h.2 c q
  refine ⟨?_, fun c hc => ?_, ?_, fun c hc => ?_⟩
  · rw [List.length_append, show mmL.length = 4 from rfl]; omega
  · rcases List.mem_append.1 hc with q | q
    · exact ha c q
    · exact h1.2 c q
  · rw [List.length_append, show ppL.length = 4 from rfl]; omega
  · rcases List.mem_append.1 hc with q | q
    · exact hb c q
    · exact h2.2 c q
theorem changes_ok : ∀ (p : List Change), (∀ c ∈ p, changeFault c = 0) → (∀ x ∈ linesG p, ∀ c ∈ x, c ≠ 10) ∧ (textG p).length ≤ 11340 * p.length
  | [], _ => ⟨fun _ h => (by cases h), by show (0 : Nat) ≤ 0; omega⟩
  | c :: p, h => by
    obtain ⟨i1, i2⟩ := changes_ok p fun d hd => h d (List.mem_cons_of_mem _ hd)
    obtain ⟨_, q2, q3⟩ := change_ok (h c (List.mem_cons_self ..))
    obtain ⟨f1, f2, f3, f4⟩ := from_fine c.what (path_fine q2)
    have hs := hunks_short q3
    have hn := (hunks_ok q3).2.1
    have e : linesG (c :: p) = (mmL ++ fromL c.what c.path.data.toList) :: (ppL ++ toL c.what c.path.data.toList) :: (linesU c.hunks ++ linesG p) := rfl
    have et : (textG (c :: p)).length = (mmL ++ fromL c.what c.path.data.toList).length + 1 + ((ppL ++ toL c.what c.path.data.toList).length + 1 + ((textL (linesU c.hunks)).length + (textG p).length)) := by
      unfold textG
      rw [e]
      show ((mmL ++ fromL c.what c.path.data.toList) ++ [10] ++ ((ppL ++ toL c.what c.path.data.toList) ++ [10] ++ textL (linesU c.hunks ++ linesG p))).length = _
      rw [textL_app]
      simp only [List.length_append, List.length_singleton]
    refine ⟨fun x hx => ?_, by rw [et, List.length_cons]; omega⟩
    rw [e] at hx
    rcases List.mem_cons.1 hx with rfl | hx
    · exact f2
    · rcases List.mem_cons.1 hx with rfl | hx
      · exact f4
      · rcases List.mem_append.1 hx with hx | hx
        · exact hn x hx
        · exact i1 x hx
/-- what is printed is read -/
theorem git_back {p : List Change} (e : (patchFault p).2 = 0) : parseG (textG p) = (p, 0) := by
  have hlen : p.length ≤ 16 ∧ ∀ c ∈ p, changeFault c = 0 := by
    unfold patchFault at e
    by_cases h : 16 < p.length
    · rw [if_pos h] at e; cases e
    · rw [if_neg h] at e
      exact ⟨by omega, (patchGo_zero p 0 none e).1⟩
  obtain ⟨h1, h2⟩ := changes_ok p hlen.2
  have hp : parts 10 (textG p) = linesG p ++ [[]] := by
    have := parts_text (linesG p) [] h1
    rwa [List.append_nil] at this
  unfold parseG
  rw [if_neg (by omega), hp, List.dropLast_concat, changes_back p _ (Nat.le_refl _) fun c hc => ⟨(change_ok (hlen.2 c hc)).1, (hunks_ok (change_ok (hlen.2 c hc)).2.2).1⟩]
  simp only
  rw [if_neg (by rw [List.getLast?_append]; simp), if_neg (by rw [e]; simp)]
end Go.Proofs.YtjiaidchcldocaaGreatDoor
namespace Go.Proofs.YtjiaidchcldocaaGreatDoor

/-- a mail's piece, or why it has none -/
def pieceF (m : Mail) : Int := if mailFault m ≠ 0 then mailFault m else match mpartOf m with
  | none => 5
  | some _ => (parseG m.body).2
def pieceOf (m : Mail) : Piece := match mpartOf m with
  | none => ⟨[], 0, 0, []⟩
  | some (t, a, b) => ⟨t, a, b, (parseG m.body).1⟩
/-- what a series opens as -/
def openMs (l : List Mail) : List UInt8 × List (List Change) × Int := if firstOf pieceF l ≠ 0 then ([], [], firstOf pieceF l) else openPs (l.map pieceOf)
/-- what a patch is packed as -/
def packOne (t : List UInt8) (n k : Nat) (c : List Change) : Mail := partMail t k n (textG c)
def packFault (c : List Change) : Int := if (patchFault c).2 ≠ 0 then (patchFault c).2 else if 40000 < (textG c).length then 3 else 0
def packGo (t : List UInt8) (n : Nat) : Nat → List (List Change) → List Mail
  | _, [] => []
  | k, c :: r => packOne t n k c :: packGo t n (k + 1) r
def packL (t : List UInt8) (p : List (List Change)) : List Mail := partMail t 0 p.length [] :: packGo t p.length 1 p
def packF (t : List UInt8) (p : List (List Change)) : Int := if 8 < p.length then 3 else if titledB t = false then 5 else firstOf packFault p
def packR (t : List UInt8) (p : List (List Change)) : List Mail := if packF t p = 0 then packL t p else []
theorem packGo_len (t : List UInt8) (n : Nat) : ∀ (k : Nat) (p : List (List Change)), (packGo t n k p).length = p.length
  | _, [] => rfl
  | k, c :: r => by rw [packGo, List.length_cons, packGo_len t n (k + 1) r, List.length_cons]
theorem packGo_app (t : List UInt8) (n : Nat) : ∀ (k : Nat) (p q : List (List Change)), packGo t n k (p ++ q) = packGo t n k p ++ packGo t n (k + p.length) q
  | k, [], q => rfl
  | k, c :: r, q => by
    rw [List.cons_append, packGo, packGo, packGo_app t n (k + 1) r q, List.length_cons, List.cons_append, show k + 1 + r.length = k + (r.length + 1) by omega]
theorem packGo_take {t : List UInt8} {n i : Nat} {p : List (List Change)} {c : List Change} (hx : p[i]? = some c) : packGo t n 1 (p.take (i + 1)) = packGo t n 1 (p.take i) ++ [packOne t n (i + 1) c] := by
  have hi := (List.getElem?_eq_some_iff.1 hx).1
  rw [List.take_add_one, hx, Option.toList_some, packGo_app, List.length_take, Nat.min_eq_left (by omega), Nat.add_comm 1 i]
  rfl
/-! ### sizes -/
theorem titled_ok {t : List UInt8} (h : titledB t = true) : t ≠ [] ∧ t.length ≤ 20 ∧ ∀ c ∈ t, 32 ≤ c.toNat ∧ c.toNat ≤ 126 := by
  unfold titledB at h
  simp only [Bool.and_eq_true, Bool.not_eq_true', beq_eq_false_iff_ne, ne_eq, decide_eq_true_eq, List.all_eq_true] at h
  exact ⟨h.1.1, h.1.2, h.2⟩
/-- a mail that was packed may be -/
theorem part_fault {t body : List UInt8} {a b : Nat} (hab : a ≤ b) (hb : b ≤ 8) (ht : titledB t = true) (hz : body.length ≤ 40000) : mailFault (partMail t a b body) = 0 := by
  obtain ⟨h1, h2, h3⟩ := titled_ok ht
  have dg : ∀ {n : Nat}, n ≤ 8 → (Lib.decDigits n).length = 1 ∧ (∀ c ∈ Lib.decDigits n, 48 ≤ c.toNat ∧ c.toNat ≤ 57) := by decide +kernel
  obtain ⟨a1, a2⟩ := dg (n := a) (by omega)
  obtain ⟨b1, b2⟩ := dg (n := b) hb
  have hs : wordB (subjL a b t) = true := by
    unfold wordB subjL
    have e : (patW ++ (Lib.decDigits a ++ [47] ++ (Lib.decDigits b ++ [93, 32] ++ t)) == []) = false := by unfold patW; rfl
    rw [e]
    simp only [Bool.not_false, Bool.true_and, Bool.and_eq_true, decide_eq_true_eq, List.all_eq_true]
    refine ⟨by simp only [List.length_append, a1, b1, List.length_cons, List.length_nil, patW]; omega, fun c hc => ?_⟩
    unfold patW at hc
    simp only [List.mem_append, List.mem_cons, List.not_mem_nil, or_false] at hc
    rcases hc with hc | (hc | hc) | (hc | hc) | hc
    · rcases hc with rfl | rfl | rfl | rfl | rfl | rfl | rfl <;> decide
    · have := a2 c hc; omega
    · subst hc; decide
    · have := b2 c hc; omega
    · rcases hc with rfl | rfl <;> decide
    · exact h3 c hc
  have hi : wordB (idL a b) = true := by
    unfold wordB idL
    have e : (Lib.decDigits a ++ [46] ++ Lib.decDigits b == []) = false := by
      rw [beq_eq_false_iff_ne]
      intro q
      have := congrArg List.length q
      simp at this
    rw [e]
    simp only [Bool.not_false, Bool.true_and, Bool.and_eq_true, decide_eq_true_eq, List.all_eq_true]
    refine ⟨by simp only [List.length_append, a1, b1, List.length_cons, List.length_nil]; omega, fun c hc => ?_⟩
    simp only [List.mem_append, List.mem_cons, List.not_mem_nil, or_false] at hc
    rcases hc with (hc | hc) | hc
    · have := a2 c hc; omega
    · subst hc; decide
    · have := b2 c hc; omega
  have hm : ∀ x : UInt8, (x = 60 ∨ x = 62) → x ∉ idL a b := fun x hx hc => by
    unfold idL at hc
    simp only [List.mem_append, List.mem_cons, List.not_mem_nil, or_false] at hc
    rcases hx with rfl | rfl
    all_goals
      rcases hc with (hc | hc) | hc
      · have := a2 _ hc; revert this; decide
      · revert hc; decide
      · have := b2 _ hc; revert this; decide
  unfold mailFault partMail
  simp only [toB_data]
  rw [hs, hi, if_neg (by
    rintro (q | q | q | q | q)
    · exact absurd q (by decide)
    · exact absurd q (by decide)
    · exact absurd q (by decide)
    · exact hm 60 (.inl rfl) q
    · exact hm 62 (.inr rfl) q), if_neg (by omega)]
/-- its piece -/
theorem piece_back {t : List UInt8} {c : List Change} {a b : Nat} (ha : 1 ≤ a) (hab : a ≤ b) (hb : b ≤ 8) (ht : titledB t = true) (hc : packFault c = 0) : pieceF (packOne t b a c) = 0 ∧ pieceOf (packOne t b a c) = ⟨t, a, b, c⟩ := by
  unfold packFault at hc
  by_cases h1 : (patchFault c).2 ≠ 0
  · rw [if_pos h1] at hc; exact absurd hc h1
  · rw [if_neg h1] at hc
    by_cases h2 : 40000 < (textG c).length
    · rw [if_pos h2] at hc; cases hc
    · have hb2 : parseG (textG c) = (c, 0) := git_back (by simpa using h1)
      have hp : mpartOf (packOne t b a c) = some (t, a, b) := part_back hab hb ht (by omega)
      have hf : mailFault (packOne t b a c) = 0 := part_fault hab hb ht (by omega)
      have hbd : (packOne t b a c).body = textG c := rfl
      unfold pieceF pieceOf
      rw [hf, hp, if_neg (by simp)]
      simp only
      rw [hbd, hb2]
      exact ⟨rfl, rfl⟩
theorem parseG_nil : parseG [] = ([], 0) := by decide +kernel
theorem cover_back {t : List UInt8} {b : Nat} (hb : b ≤ 8) (ht : titledB t = true) : pieceF (partMail t 0 b []) = 0 ∧ pieceOf (partMail t 0 b []) = ⟨t, 0, b, []⟩ := by
  have hp : mpartOf (partMail t 0 b []) = some (t, 0, b) := part_back (Nat.zero_le _) hb ht (fun _ => rfl)
  have hf : mailFault (partMail t 0 b []) = 0 := part_fault (Nat.zero_le _) hb ht (by simp)
  have hbd : (partMail t 0 b []).body = [] := rfl
  unfold pieceF pieceOf
  rw [hf, hp, if_neg (by simp)]
  simp only
  rw [hbd, parseG_nil]
  exact ⟨rfl, rfl⟩
theorem packF_ok {t : List UInt8} {p : List (List Change)} (h : packF t p = 0) : p.length ≤ 8 ∧ titledB t = true ∧ ∀ c ∈ p, packFault c = 0 := by
  unfold packF at h
  by_cases h1 : 8 < p.length
  · rw [if_pos h1] at h; cases h
  · rw [if_neg h1] at h
    by_cases h2 : titledB t = false
    · rw [if_pos h2] at h; cases h
    · rw [if_neg h2, firstOf_zero] at h
      exact ⟨by omega, by simpa using h2, h⟩
theorem packGo_pieces {t : List UInt8} {n : Nat} (hn : n ≤ 8) (ht : titledB t = true) : ∀ (k : Nat) (p : List (List Change)), 1 ≤ k → k + p.length ≤ n + 1 → (∀ c ∈ p, packFault c = 0) → (∀ x ∈ packGo t n k p, pieceF x = 0) ∧ (packGo t n k p).map pieceOf = canonGo t n k p
  | _, [], _, _, _ => ⟨fun x hx => (by cases hx), rfl⟩
  | k, c :: r, hk, hl, hc => by
    rw [List.length_cons] at hl
    obtain ⟨i1, i2⟩ := packGo_pieces hn ht (k + 1) r (by omega) (by omega) fun d hd => hc d (List.mem_cons_of_mem _ hd)
    obtain ⟨j1, j2⟩ := piece_back (b := n) hk (by omega) hn ht (hc c (List.mem_cons_self ..))
    rw [packGo, canonGo, List.map_cons, j2, i2]
    refine ⟨fun x hx => ?_, rfl⟩
    rcases List.mem_cons.1 hx with rfl | hx
    · exact j1
    · exact i1 x hx
/-- what is packed: its pieces -/
theorem pack_pieces {t : List UInt8} {p : List (List Change)} (h : packF t p = 0) : (∀ x ∈ packL t p, pieceF x = 0) ∧ (packL t p).map pieceOf = canonP t p := by
  obtain ⟨h1, h2, h3⟩ := packF_ok h
  obtain ⟨i1, i2⟩ := packGo_pieces (n := p.length) h1 h2 1 p (Nat.le_refl _) (by omega) h3
  obtain ⟨j1, j2⟩ := cover_back h1 h2
  unfold packL canonP
  rw [List.map_cons, j2, i2]
  refine ⟨fun x hx => ?_, rfl⟩
  rcases List.mem_cons.1 hx with rfl | hx
  · exact j1
  · exact i1 x hx
theorem firstOf_all {l : List Mail} (h : ∀ x ∈ l, pieceF x = 0) : firstOf pieceF l = 0 := (firstOf_zero _ _).2 h
/-- in whatever order it comes -/
theorem openMs_perm {t : List UInt8} {p : List (List Change)} {l : List Mail} (h : packF t p = 0) (hp : l.Perm (packL t p)) : openMs l = (t, p, 0) := by
  obtain ⟨h1, h2⟩ := pack_pieces h
  unfold openMs
  rw [firstOf_all fun x hx => h1 x (hp.mem_iff.1 hx), if_neg (by simp)]
  exact open_perm (by rw [← h2]; exact hp.map _)
end Go.Proofs.YtjiaidchcldocaaGreatDoor
namespace Go.Proofs.YtjiaidchcldocaaGreatDoor
open Go.RowKit

abbrev IsB : Nat → Nat → List Value → World → Prop := Lib.IsBuilderF 140 5
abbrev BAt (B b : Nat) (bs : List Value) (w : World) : Prop := Lib.BuilderAtF 140 5 B b (.pointer (some ⟨b, 0, none⟩)) bs w
theorem bld_info : (Tryz.prog.info? 140).map (·.size) = some 2 := by kernel_rfl
theorem bld_lies : liesAt Tryz.prog Tryz.prog.depth 140 (2 / Tryz.prog.cellsOf 140) 0 140 1 = true := by kernel_rfl
theorem bld_byte : (Tryz.prog.info? 5).map (fun i => (i.zero, i.size, i.bytes)) = some (some (.int .u8 0), 1, 1) := by kernel_rfl

end Go.Proofs.YtjiaidchcldocaaGreatDoor
namespace Go.Proofs.YtjiaidchcldocaaGreatDoor
open Go.RowKit

theorem bat_keep {B b : Nat} {bs : List Value} {w w' : World} {p : Value} (h : Lib.BuilderAtF 140 5 B b p bs w) (hc : Chg Never w w') : Lib.BuilderAtF 140 5 B b p bs w' := by
  have hlt := h.lt
  obtain ⟨hB, v, hv, hown, hne⟩ := h
  refine ⟨hB, v, (hc.block b hlt (fun x => x)).trans hv, hown.kept (row := none) ⟨hc.os, hc.tape, hc.output, hc.size, fun k hk _ => hc.block k hk (fun x => x)⟩ (Classical.em _), hne⟩
theorem bld_keep {B b : Nat} {bs : List Value} {w w' : World} (h : IsB B b bs w) (hc : Chg Never w w') : IsB B b bs w' :=
  h.elim (fun x => .inl (bat_keep x hc)) (fun x => .inr (bat_keep x hc))
end Go.Proofs.YtjiaidchcldocaaGreatDoor
namespace Go.Proofs.YtjiaidchcldocaaGreatDoor
open Go.RowKit

/-- block B holds two cells of its own -/
def Blk2 (w : World) (B : Nat) (t : TypeId) (x y : Value) : Prop := w.heap[B]? = some (.cells #[x, y] t (0, 0))
theorem Blk2.cell {w : World} {B : Nat} {t : TypeId} {x y : Value} (h : Blk2 w B t x y) : w.cell? ⟨B, 0, none⟩ = some x ∧ w.cell? ⟨B, 1, none⟩ = some y := by
  unfold Blk2 at h
  refine ⟨?_, ?_⟩ <;> (unfold World.cell?; rw [h]; rfl)
theorem Blk2.free {w : World} {B : Nat} {t : TypeId} {x y : Value} (h : Blk2 w B t x y) (j : Nat) : w.frozen? ⟨B, j, none⟩ = false := by
  unfold Blk2 at h
  unfold World.frozen?; rw [h]; simp
theorem Blk2.lt {w : World} {B : Nat} {t : TypeId} {x y : Value} (h : Blk2 w B t x y) : B < w.heap.size := (Array.getElem?_eq_some_iff.1 h).1
theorem Blk2.keep {w w' : World} {B : Nat} {t : TypeId} {x y : Value} {O : Nat → Prop} (h : Blk2 w B t x y) (hc : Chg O w w') (hB : ¬ O B) : Blk2 w' B t x y := by
  unfold Blk2 at *
  rw [hc.block B (Array.getElem?_eq_some_iff.1 h).1 hB]
  exact h
theorem Blk2.set1 {w : World} {B : Nat} {t : TypeId} {x y : Value} (h : Blk2 w B t x y) (u : Value) : Blk2 (w.setCell ⟨B, 1, none⟩ u) B t x u := by
  unfold Blk2 at *
  simp [World.setCell, Array.getElem?_modify, h]
theorem Blk2.new (w : World) (t : TypeId) (x y : Value) : Blk2 (w.alloc (.cells #[x, y] t)) w.heap.size t x y := heap_alloc_new _ _
/-- a block of three cells, as it is -/
def Blk3 (w : World) (B : Nat) (t : TypeId) (x y z : Value) : Prop := w.heap[B]? = some (.cells #[x, y, z] t (0, 0))
theorem Blk3.cell {w : World} {B : Nat} {t : TypeId} {x y z : Value} (h : Blk3 w B t x y z) : w.cell? ⟨B, 0, none⟩ = some x ∧ w.cell? ⟨B, 1, none⟩ = some y ∧ w.cell? ⟨B, 2, none⟩ = some z := by
  unfold Blk3 at h
  simp [World.cell?, h]
theorem Blk3.free {w : World} {B : Nat} {t : TypeId} {x y z : Value} (h : Blk3 w B t x y z) (j : Nat) : w.frozen? ⟨B, j, none⟩ = false := by
  unfold Blk3 at h
  simp [World.frozen?, h]
theorem Blk3.lt {w : World} {B : Nat} {t : TypeId} {x y z : Value} (h : Blk3 w B t x y z) : B < w.heap.size := (Array.getElem?_eq_some_iff.1 h).1
theorem Blk3.keep {w w' : World} {B : Nat} {t : TypeId} {x y z : Value} {O : Nat → Prop} (h : Blk3 w B t x y z) (hc : Chg O w w') (hB : ¬ O B) : Blk3 w' B t x y z := by
  have := hc.block B h.lt hB
  unfold Blk3 at *
  rw [this]
  exact h
theorem Blk3.set2 {w : World} {B : Nat} {t : TypeId} {x y z : Value} (h : Blk3 w B t x y z) (u : Value) : Blk3 (w.setCell ⟨B, 2, none⟩ u) B t x y u := by
  unfold Blk3 at *
  simp [World.setCell, Array.getElem?_modify, h]
theorem Blk3.set0 {w : World} {B : Nat} {t : TypeId} {x y z : Value} (h : Blk3 w B t x y z) (u : Value) : Blk3 (w.setCell ⟨B, 0, none⟩ u) B t u y z := by
  unfold Blk3 at *
  simp [World.setCell, Array.getElem?_modify, h]
theorem Blk3.set1 {w : World} {B : Nat} {t : TypeId} {x y z : Value} (h : Blk3 w B t x y z) (u : Value) : Blk3 (w.setCell ⟨B, 1, none⟩ u) B t x u z := by
  unfold Blk3 at *
  simp [World.setCell, Array.getElem?_modify, h]
theorem Blk3.new (w : World) (t : TypeId) (x y z : Value) : Blk3 (w.alloc (.cells #[x, y, z] t)) w.heap.size t x y z := heap_alloc_new _ _
theorem own_isSlice {α : Type} [Dat α] {e : TypeId} {w : World} {O : Nat → Prop} {v : Value} {l : List α} (h : Own e w O v l) : ∃ a n c, v = .slice a n c := by
  obtain ⟨xs, hx, _⟩ := h
  rcases hx.2 with ⟨h, _⟩ | ⟨g, cap, cur, h, _⟩
  · exact ⟨_, _, _, h⟩
  · exact ⟨_, _, _, h⟩
theorem cell_put_eq {w : World} {p : Addr} {v : Value} (h : w.cell? p = some v) : w.setCell p v = w := by
  have e : (w.setCell p v).heap = w.heap := by
    unfold World.setCell World.cell? at *
    apply Array.ext_getElem?
    intro i
    simp only [Array.getElem?_modify]
    by_cases hi : p.block = i
    · subst hi
      rw [if_pos rfl]
      cases hb : w.heap[p.block]? with
      | none => rfl
      | some ob =>
        rw [hb] at h
        cases ob with
        | cells c e f =>
          simp only at h
          by_cases hs : p.spot.isSome = true
          · rw [if_pos hs] at h; cases h
          · rw [if_neg hs] at h
            simp only [Option.map_some, hs]
            congr 2
            apply Array.ext_getElem?
            intro j
            simp only [Bool.false_eq_true, if_false]
            rw [Array.getElem?_setIfInBounds]
            by_cases hj : p.off = j
            · subst hj
              rw [if_pos rfl]
              split
              · exact h.symm
              · rw [Array.getElem?_eq_none (by omega)]
            · rw [if_neg hj]
        | _ => rfl
    · rw [if_neg hi]
  have : w.setCell p v = { w with heap := (w.setCell p v).heap } := rfl
  rw [this, e]
end Go.Proofs.YtjiaidchcldocaaGreatDoor
namespace Go.Proofs.YtjiaidchcldocaaGreatDoor
open Go.RowKit

/-- each block of cells that are no bytes, but for block b, stays -/
def Keeps (b : Nat) (w w' : World) : Prop := ∀ (k : Nat) (c : Array Value) (T : TypeId) (fz : Nat × Nat), k ≠ b → w.heap[k]? = some (.cells c T fz) → T ≠ 5 → w'.heap[k]? = some (.cells c T fz)
theorem Keeps.trans {b : Nat} {x y z : World} (h : Keeps b x y) (g : Keeps b y z) : Keeps b x z := fun k c T fz h1 h2 h3 => g k c T fz h1 (h k c T fz h1 h2 h3) h3
theorem keeps_set {b : Nat} (w : World) (j : Nat) (u : Value) : Keeps b w (w.setCell ⟨b, j, none⟩ u) := fun k c T fz h1 h2 _ => by
  rw [Below.heap_setCell _ _ _ _ (fun e => h1 e)]; exact h2
theorem keeps_alloc {b : Nat} (w : World) (o : Obj) : Keeps b w (w.alloc o) := fun k c T fz _ h2 _ => by
  rw [Below.heap_alloc _ _ _ (Array.getElem?_eq_some_iff.1 h2).1]; exact h2
theorem keeps_grow {b B n : Nat} {w w' : World} {v : Value} {bs : List Value} (hown : w.ownsRowF B 5 1 v n bs) (h : w.grownBy w' v.ownBlock) : Keeps b w w' := fun k c T fz _ h2 h3 => by
  rw [h.block k (Array.getElem?_eq_some_iff.1 h2).1 ?_]
  · exact h2
  · intro e
    rcases hown.2 with ⟨rfl, _⟩ | ⟨g, cap, cur, f, rfl, _, hg, _⟩
    · cases e
    · injection e with e
      subst e
      rw [h2] at hg
      injection hg with hg
      injection hg with _ hg _
      exact h3 hg
theorem Keeps.blk3 {b B : Nat} {w w' : World} {t : TypeId} {x y z : Value} (h : Keeps b w w') (hb : Blk3 w B t x y z) (hne : B ≠ b) (ht : t ≠ 5) : Blk3 w' B t x y z := h B _ t _ hne hb ht
theorem Keeps.blk2 {b B : Nat} {w w' : World} {t : TypeId} {x y : Value} (h : Keeps b w w') (hb : Blk2 w B t x y) (hne : B ≠ b) (ht : t ≠ 5) : Blk2 w' B t x y := h B _ t _ hne hb ht

set_option maxHeartbeats 1000000 in
set_option maxRecDepth 100000 in
theorem bldk_check (B b : Nat) (bs : List Value) (w : World) (h : IsB B b bs w) :
    Calls Tryz.prog 114 #[.pointer (some ⟨b, 0, none⟩)] w fun e w' => e = .returned (.tuple #[]) ∧ BAt B b bs w' ∧ Below B w w' ∧ Keeps b w w' := by
  obtain ⟨j, hj, hjs⟩ := Option.map_eq_some_iff.1 bld_info
  rcases h with h | h
  · have c0 := h.cell0
    have hsh := h.shape
    have hfz := h.frozen0
    have hfin : BAt B b bs (w.setCell ⟨b, 0, none⟩ (.pointer (some ⟨b, 0, none⟩))) ∧ Below B w (w.setCell ⟨b, 0, none⟩ (.pointer (some ⟨b, 0, none⟩))) ∧ Keeps b w (w.setCell ⟨b, 0, none⟩ (.pointer (some ⟨b, 0, none⟩))) := ⟨h.used _, (Below.refl B w).setCell (p := ⟨b, 0, none⟩) h.1 _, keeps_set _ _ _⟩
    clear h
    go_enter Tryz.func114, Tryz.ntmps114
    go_wp2_with fail
    rw [Lib.run_to_unsafe w ⟨b, 0, none⟩ Tryz.underlying138 Tryz.underlying231 hj (by rw [hjs]; decide) hsh (Nat.zero_lt_succ 1)]
    simp only [Result.andThen]
    rw [Oper.upon_value]
    go_wp2_with fail
    rw [run_callFunc_extern Tryz.func167 (by kernel_rfl) (by kernel_rfl) (by kernel_rfl) (e := Extern.AbiNoEscape.same) (by kernel_rfl)]
    rw [Lib.run_noEscape]
    simp only [Result.andThen]
    rw [Oper.upon_value]
    go_wp2_with fail
    rw [Lib.run_from_unsafe w ⟨b, 0, none⟩ Tryz.underlying231 Tryz.underlying138 hj hsh bld_lies]
    simp only [Result.andThen]
    rw [Oper.upon_value]
    go_wp2_with fail
    go_end0
    exact ⟨rfl, hfin.1, hfin.2⟩
  · have c0 := h.cell0
    go_enter Tryz.func114, Tryz.ntmps114
    go_wp2_with fail
    rw [Lib.run_neq_ptr_same w _ Tryz.underlying138 hj]
    go_wp2_with fail
    go_end0
    exact ⟨rfl, h, Below.refl B _, fun _ _ _ _ _ h _ => h⟩
set_option maxHeartbeats 1000000 in
set_option maxRecDepth 100000 in
theorem bldk_string (B b : Nat) (bs : List Value) (s : ByteArray) (w : World) (h : IsB B b bs w) (hlen : bs.length + s.size ≤ 140737488355328) (hBw : B ≤ w.heap.size) :
    Calls Tryz.prog 71 #[.pointer (some ⟨b, 0, none⟩), .string s] w fun e w' => e = .returned (.tuple #[.int .i64 s.size, .nilIface]) ∧ BAt B b (bs ++ Lib.strCells s) w' ∧ Below B w w' ∧ Keeps b w w' := by
  obtain ⟨i0, hi, hz0, hz1, hz2⟩ := info_parts bld_byte
  go_enter Tryz.func71, Tryz.ntmps71
  go_wp2_with fail
  refine (bldk_check B b bs _ h).mono ?_
  rintro e w1 ⟨rfl, h1, hb1, hk1⟩
  obtain ⟨hB, v, hbk, hown, hne⟩ := h1
  have c0 : w1.cell? ⟨b, 0, none⟩ = some (.pointer (some ⟨b, 0, none⟩)) := by rw [Lib.cell_of_heap hbk]; rfl
  have c1 : w1.cell? ⟨b, 1, none⟩ = some v := by rw [Lib.cell_of_heap hbk]; rfl
  have hlt : b < w1.heap.size := (Array.getElem?_eq_some_iff.1 hbk).1
  have hs1 := hb1.size
  go_wp2_with (at_builtin; refine Lib.wpList_append_own_stringF _ rfl _ _ 29 9 rfl B 5 i0 Tryz.underlying29 Tryz.underlying9 hi hz0 hz1 hz2 _ _ _ rfl hown s rfl (by unfold maxLen; omega) (by omega) (by omega) ?_)
  intro v' w2 hown' hgrow _
  have hb2 : w2.heap[b]? = some (.cells #[.pointer (some ⟨b, 0, none⟩), v] 140 (0, 0)) := (hgrow.block b hlt (fun e => hne e.symm)).trans hbk
  have d0 : w2.cell? ⟨b, 0, none⟩ = some (.pointer (some ⟨b, 0, none⟩)) := by rw [Lib.cell_of_heap hb2]; rfl
  have d1 : w2.cell? ⟨b, 1, none⟩ = some v := by rw [Lib.cell_of_heap hb2]; rfl
  have f1 : w2.frozen? ⟨b, 1, none⟩ = false := Lib.frozen_of_heap hb2 1
  have hfin := Lib.BuilderAtF.put (T := 140) (e := 5) (v' := v') hB hb2 (bs' := bs ++ Lib.strCells s) (by simpa [Lib.strCells_length] using hown') (by decide)
  have hfin2 := (hb1.grown hgrow (by omega) (fun k hk => (hown.lt k hk).1)).setCell (p := ⟨b, 1, none⟩) hB v'
  have hk3 : Keeps b _ (w2.setCell ⟨b, 1, none⟩ v') := (hk1.trans (keeps_grow hown hgrow)).trans (keeps_set _ _ _)
  obtain ⟨ao, n', cap, rfl⟩ : ∃ ao n' cap, v' = .slice ao n' cap := by
    rcases hown'.2 with ⟨hv, _⟩ | ⟨g, cap, cur, fz, hv, _⟩
    · exact ⟨_, _, _, hv⟩
    · exact ⟨_, _, _, hv⟩
  clear hgrow hown hown' hbk hb2 c0 c1 hk1
  go_wp2_with fail
  go_ret2
  exact ⟨rfl, hfin, hfin2, hk3⟩
set_option maxHeartbeats 1000000 in
set_option maxRecDepth 100000 in
theorem bldk_byte1 (B b : Nat) (bs : List Value) (c : Int) (w : World) (h : IsB B b bs w) (hlen : bs.length + 1 ≤ 140737488355328) (hBw : B ≤ w.heap.size) :
    Calls Tryz.prog 117 #[.pointer (some ⟨b, 0, none⟩), .int .u8 c] w fun e w' => e = .returned .nilIface ∧ BAt B b (bs ++ [.int .u8 c]) w' ∧ Below B w w' ∧ Keeps b w w' := by
  obtain ⟨i0, hi, hz0, hz1, hz2⟩ := info_parts bld_byte
  go_enter Tryz.func117, Tryz.ntmps117
  go_wp2_with fail
  refine (bldk_check B b bs _ h).mono ?_
  rintro e w1 ⟨rfl, h1, hb1, hk1⟩
  obtain ⟨hB, v, hbk, hown, hne⟩ := h1
  have c0 : w1.cell? ⟨b, 0, none⟩ = some (.pointer (some ⟨b, 0, none⟩)) := by rw [Lib.cell_of_heap hbk]; rfl
  have c1 : w1.cell? ⟨b, 1, none⟩ = some v := by rw [Lib.cell_of_heap hbk]; rfl
  have hlt : b < w1.heap.size := (Array.getElem?_eq_some_iff.1 hbk).1
  have hs1 := hb1.size
  go_wp2_with (at_builtin; refine wpList_append_ownF _ rfl _ _ 29 rfl B 5 i0 (.int .u8 0) 1 1 Tryz.underlying29 hi hz0 hz1 hz2 rfl (by decide) _ _ _ rfl (hown.alloc _) ⟨w1.heap.size, 0, none⟩ 1 1 [.int .u8 c] rfl rfl ?c1 ?c2 (by unfold maxLen; omega) (by omega) (by simp; omega) ?_)
  case c1 =>
    intro j u hj
    match j, hj with
    | 0, hj => simp at hj; subst hj; simp [Addr.add]
  case c2 => intro u hu; simp at hu; subst hu; rfl
  intro v' w2 hown' hgrow _
  have hb2 : w2.heap[b]? = some (.cells #[.pointer (some ⟨b, 0, none⟩), v] 140 (0, 0)) := ((hgrow.block b (by simp; omega) (fun e => hne e.symm)).trans (Lib.alloc_old w1 _ b hlt)).trans hbk
  have d0 : w2.cell? ⟨b, 0, none⟩ = some (.pointer (some ⟨b, 0, none⟩)) := by rw [Lib.cell_of_heap hb2]; rfl
  have d1 : w2.cell? ⟨b, 1, none⟩ = some v := by rw [Lib.cell_of_heap hb2]; rfl
  have f1 : w2.frozen? ⟨b, 1, none⟩ = false := Lib.frozen_of_heap hb2 1
  have hfin := Lib.BuilderAtF.put (T := 140) (e := 5) (v' := v') hB hb2 (bs' := bs ++ [.int .u8 c]) (by simpa using hown') (by decide)
  have hfin2 := ((hb1.alloc (by omega) _).grown hgrow (by simp; omega) (fun k hk => (hown.lt k hk).1)).setCell (p := ⟨b, 1, none⟩) hB v'
  have hk3 : Keeps b _ (w2.setCell ⟨b, 1, none⟩ v') := ((hk1.trans (keeps_alloc _ _)).trans (keeps_grow (hown.alloc _) hgrow)).trans (keeps_set _ _ _)
  obtain ⟨ao, n', cap, rfl⟩ : ∃ ao n' cap, v' = .slice ao n' cap := by
    rcases hown'.2 with ⟨hv, _⟩ | ⟨g, cap, cur, fz, hv, _⟩
    · exact ⟨_, _, _, hv⟩
    · exact ⟨_, _, _, hv⟩
  clear hgrow hown hown' hbk hb2 c0 c1 hk1
  go_wp2_with fail
  go_ret
  exact ⟨rfl, hfin, hfin2, hk3⟩
end Go.Proofs.YtjiaidchcldocaaGreatDoor
namespace Go.Proofs.YtjiaidchcldocaaGreatDoor

end Go.Proofs.YtjiaidchcldocaaGreatDoor
namespace Go.Proofs.YtjiaidchcldocaaGreatDoor

end Go.Proofs.YtjiaidchcldocaaGreatDoor
namespace Go.Proofs.YtjiaidchcldocaaGreatDoor

/-- the reader's hunks, with marks wanted only behind one -/
def RdOk (hs : List Hunk) (o n : Nat) : Prop := 0 < o ∨ 0 < n → hs ≠ []
theorem rdOk_start : RdOk [] 0 0 := fun h => by omega
theorem addMark_ne {hs : List Hunk} (m : Mark) (h : hs ≠ []) : addMark hs m ≠ [] := by
  cases hs with
  | nil => exact absurd rfl h
  | cons a l => cases l <;> simp [addMark]
theorem readLine_ok {hs hs' : List Hunk} {o n o' n' : Nat} {s : List UInt8} (hk : RdOk hs o n) (h : readLine hs o n s = some (hs', o', n')) : hs' ≠ [] := by
  unfold readLine at h
  by_cases hon : 0 < o ∨ 0 < n
  · have hne := hk hon
    rw [if_pos hon] at h
    cases s with
    | nil => cases h
    | cons c r =>
      simp only at h
      split at h
      · injection h with h; injection h with h1 _; rw [← h1]; exact addMark_ne _ hne
      · split at h
        · injection h with h; injection h with h1 _; rw [← h1]; exact addMark_ne _ hne
        · split at h
          · injection h with h; injection h with h1 _; rw [← h1]; exact addMark_ne _ hne
          · cases h
  · rw [if_neg hon] at h
    cases hd : headOf s with
    | none => rw [hd] at h; cases h
    | some x =>
      obtain ⟨a, x, b, y⟩ := x
      rw [hd] at h
      injection h with h; injection h with h1 _; rw [← h1]; simp
theorem numOf_lt {s : List UInt8} {n : Nat} (h : numOf s = some n) : n < 1000 := (num_some h).1
end Go.Proofs.YtjiaidchcldocaaGreatDoor
