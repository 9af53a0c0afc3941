/-
  PARTS: PATCHES, in plain Lean (chapter 2): what may be one, what is done to a tree, turned it leads back.; THE WALKS of patch.whole, shape, one, Check.; THE WALKS of patch.shape, one, Check.; PATCHES AS TEXTS, in plain Lean (chapter 8): whole texts. What is printed is read; what is read is printed so.; PATCHES AS TEXTS, in plain Lean: the document's reading of a change's two lines is the program's; the loop's steps.; THE WALKS of git.headed and Print.; THE WALK of git.Print.
-/
import Derived.Test.YtmojaahkcpgfkaaGreatDoorPackGu7
import Derived.Test.YtmojaahkcpgfkaaGreatDoorPackGu4
import Derived.Test.YtmojaahkcpgfkaaGreatDoorPackGu2
import Derived.BigQuiet
import Derived.Test.YtmojaahkcpgfkaaGreatDoorPackGu3
import Derived.Test.YtmojaahkcpgfkaaGreatDoorPackGu6
import Derived.Deep.QuietTactic
namespace Go.Proofs.YtmojaahkcpgfkaaGreatDoor

def wholeB (l : List Hunk) (s : Int) : Bool :=
  match l with
  | [] => true
  | [h] => decide (h.old = 0) && decide (h.new = 0) && h.marks.all fun m => decide (m.sign = s)
  | _ => false
def shapeB (c : Change) : Bool := if c.what = 2 then wholeB c.hunks 43 else if c.what = 3 then wholeB c.hunks 45 else !c.hunks.isEmpty
def changeFault (c : Change) : Int :=
  if c.what < 1 ∨ 3 < c.what then 1 else if pathFault c.path ≠ 0 then pathFault c.path else if (hunksFault c.hunks).2 ≠ 0 then (hunksFault c.hunks).2 else if shapeB c = true then 0 else 2
def patchGo : Nat → Option ByteArray → List Change → Nat × Int
  | _, _, [] => (0, 0)
  | i, prev, c :: r => if changeFault c ≠ 0 then (i, changeFault c) else if prev.any (fun p => leqB c.path p) = true then (i, 2) else patchGo (i + 1) (some c.path) r
def patchFault (p : List Change) : Nat × Int := if 16 < p.length then (0, 3) else patchGo 0 none p
def SortedC (p : List Change) : Prop := p.Pairwise fun c d => less c.path d.path = true
def Patch (p : List Change) : Prop := p.length ≤ 16 ∧ (∀ c ∈ p, changeFault c = 0) ∧ SortedC p

theorem patchGo_zero : ∀ (t : List Change) (i : Nat) (prev : Option ByteArray), (patchGo i prev t).2 = 0 → (∀ f ∈ t, changeFault f = 0) ∧ SortedC t ∧ (∀ p f, prev = some p → f ∈ t → less p f.path = true) ∧ patchGo i prev t = (0, 0)
  | [], _, _, _ => ⟨by simp, List.Pairwise.nil, by simp, rfl⟩
  | f :: r, i, prev, h => by
    rw [patchGo] at h ⊢
    by_cases h1 : changeFault f ≠ 0
    · rw [if_pos h1] at h; exact absurd h h1
    · rw [if_neg h1] at h ⊢
      by_cases h2 : prev.any (fun p => leqB f.path p) = true
      · rw [if_pos h2] at h; cases h
      · rw [if_neg h2] at h ⊢
        obtain ⟨i1, i2, i3, i4⟩ := patchGo_zero r (i + 1) (some f.path) h
        refine ⟨?_, ?_, ?_, i4⟩
        · intro x hx
          rcases List.mem_cons.1 hx with rfl | hx
          · simpa using h1
          · exact i1 x hx
        · exact List.Pairwise.cons (fun g hg => i3 f.path g rfl hg) i2
        · rintro p x rfl hx
          have hp : less p f.path = true := by
            simp only [Option.any_some] at h2
            rcases less_tri p f.path with g | g | g
            · exact g
            · exact absurd (leqB_true.2 (by rw [g]; exact less_irrefl _)) h2
            · exact absurd (leqB_true.2 (less_asymm g)) h2
          rcases List.mem_cons.1 hx with rfl | hx
          · exact hp
          · exact less_trans hp (i3 f.path x rfl hx)
theorem patchGo_ok : ∀ (t : List Change) (i : Nat) (prev : Option ByteArray), (∀ f ∈ t, changeFault f = 0) → SortedC t → (∀ p f, prev = some p → f ∈ t → less p f.path = true) → patchGo i prev t = (0, 0)
  | [], _, _, _, _, _ => rfl
  | f :: r, i, prev, h1, h2, h3 => by
    obtain ⟨g1, g2⟩ := List.pairwise_cons.1 h2
    have hp : ¬ prev.any (fun p => leqB f.path p) = true := by
      cases prev with
      | none => simp
      | some p =>
        simp only [Option.any_some]
        intro e
        have := leqB_true.1 e
        rw [h3 p f rfl (List.mem_cons_self ..)] at this
        cases this
    rw [patchGo, if_neg (by rw [h1 f (List.mem_cons_self ..)]; simp), if_neg hp]
    exact patchGo_ok r (i + 1) (some f.path) (fun x hx => h1 x (List.mem_cons_of_mem _ hx)) g2 (fun p x hp hx => by cases hp; exact g1 x hx)
theorem patch_ok {p : List Change} (h : Patch p) : patchFault p = (0, 0) := by
  unfold patchFault
  rw [if_neg (by have := h.1; omega)]
  exact patchGo_ok p 0 none h.2.1 h.2.2 (by simp)
theorem patch_of {p : List Change} (h : (patchFault p).2 = 0) : Patch p := by
  unfold patchFault at h
  by_cases h1 : 16 < p.length
  · rw [if_pos h1] at h; cases h
  · rw [if_neg h1] at h
    obtain ⟨i1, i2, _, _⟩ := patchGo_zero p 0 none h
    exact ⟨by omega, i1, i2⟩
theorem patch_zero {p : List Change} (h : (patchFault p).2 = 0) : patchFault p = (0, 0) := patch_ok (patch_of h)

/-! ### what a change does to what a path reads -/
def stepOf (x : Option (List ByteArray)) (c : Change) : Option (List ByteArray) × Int :=
  if c.what = 2 ∧ x.isSome = true then (none, 6)
  else if c.what ≠ 2 ∧ x.isSome = false then (none, 4)
  else if (strict (x.getD []) c.hunks).2.2 ≠ 0 then (none, (strict (x.getD []) c.hunks).2.2)
  else if c.what = 3 then (if (strict (x.getD []) c.hunks).1 = [] then (none, 0) else (none, 6))
  else (some (strict (x.getD []) c.hunks).1, 0)
def setAt (t : List File) (p : ByteArray) (y : Option (List ByteArray)) : List File :=
  match y with
  | some l => putAt t ⟨p, l⟩
  | none => dropAt t (posOf t p)
def applyGo : Nat → List File → List Change → List File × Nat × Int
  | _, t, [] => (t, 0, 0)
  | i, t, c :: r => if (stepOf (look t c.path) c).2 ≠ 0 then ([], i, (stepOf (look t c.path) c).2) else applyGo (i + 1) (setAt t c.path (stepOf (look t c.path) c).1) r
def applyR (t : List File) (p : List Change) : List File × Nat × Int :=
  if (treeFault t).2 ≠ 0 then ([], 0, (treeFault t).2)
  else if (patchFault p).2 ≠ 0 then ([], (patchFault p).1, (patchFault p).2)
  else if (applyGo 0 t p).2.2 ≠ 0 then applyGo 0 t p
  else if 8 < (applyGo 0 t p).1.length then ([], 0, 3)
  else ((applyGo 0 t p).1, 0, 0)

theorem step_none {x : Option (List ByteArray)} {c : Change} (h : stepOf x c = (none, 0)) : x.isSome = true := by
  unfold stepOf at h
  by_cases h1 : c.what = 2 ∧ x.isSome = true
  · exact h1.2
  · rw [if_neg h1] at h
    by_cases h2 : c.what ≠ 2 ∧ x.isSome = false
    · rw [if_pos h2] at h; cases h
    · rw [if_neg h2] at h
      by_cases h3 : (strict (x.getD []) c.hunks).2.2 ≠ 0
      · rw [if_pos h3] at h; exact absurd (Prod.mk.inj h).2 h3
      · rw [if_neg h3] at h
        by_cases h4 : c.what = 3
        · cases hx : x.isSome with
          | true => rfl
          | false => exact absurd ⟨by omega, hx⟩ h2
        · rw [if_neg h4] at h; cases h
theorem setAt_look {t : List File} (hs : Sorted t) {p : ByteArray} {y : Option (List ByteArray)} (hy : y = none → isAt t p = true) (q : ByteArray) : look (setAt t p y) q = if p = q then y else look t q := by
  cases y with
  | some l => exact putAt_look hs ⟨p, l⟩ q
  | none => exact dropAt_look hs (hy rfl) q
theorem setAt_sorted {t : List File} (hs : Sorted t) {p : ByteArray} {y : Option (List ByteArray)} (hy : y = none → isAt t p = true) : Sorted (setAt t p y) := by
  cases y with
  | some l => exact putAt_sorted hs ⟨p, l⟩
  | none => exact dropAt_sorted hs (hy rfl)
theorem step_at {t : List File} (hs : Sorted t) {c : Change} {y : Option (List ByteArray)} (h : stepOf (look t c.path) c = (y, 0)) : y = none → isAt t c.path = true := by
  rintro rfl
  rw [isAt_look hs]
  exact step_none h

/-- a patch leads from tree to tree: by what each path reads -/
def Leads (t : List File) (p : List Change) (b : List File) : Prop :=
  (∀ c ∈ p, stepOf (look t c.path) c = (look b c.path, 0)) ∧ ∀ q, (∀ c ∈ p, c.path ≠ q) → look b q = look t q
theorem apply_of : ∀ (p : List Change) (t b : List File) (i : Nat), Sorted t → Sorted b → SortedC p → Leads t p b → applyGo i t p = (b, 0, 0)
  | [], t, b, _, ht, hb, _, h => by
    rw [applyGo, sorted_ext ht hb fun q => (h.2 q (by simp)).symm]
  | c :: r, t, b, i, ht, hb, hp, h => by
    obtain ⟨p1, p2⟩ := List.pairwise_cons.1 hp
    have hc := h.1 c (List.mem_cons_self ..)
    have hy := step_at ht hc
    rw [applyGo, hc, if_neg (by simp)]
    refine apply_of r _ b (i + 1) (setAt_sorted ht hy) hb p2 ⟨fun d hd => ?_, fun q hq => ?_⟩
    · rw [setAt_look ht hy, if_neg (less_ne (p1 d hd))]
      exact h.1 d (List.mem_cons_of_mem _ hd)
    · rw [setAt_look ht hy]
      by_cases e : c.path = q
      · rw [if_pos e, e]
      · rw [if_neg e]
        refine h.2 q fun d hd => ?_
        rcases List.mem_cons.1 hd with rfl | hd
        · exact e
        · exact hq d hd
theorem apply_inv : ∀ (p : List Change) (t b : List File) (k i : Nat), Sorted t → SortedC p → applyGo i t p = (b, k, 0) → k = 0 ∧ Sorted b ∧ Leads t p b
  | [], t, b, k, _, ht, _, h => by
    rw [applyGo] at h
    cases h
    exact ⟨rfl, ht, by simp, fun _ _ => rfl⟩
  | c :: r, t, b, k, i, ht, hp, h => by
    obtain ⟨p1, p2⟩ := List.pairwise_cons.1 hp
    rw [applyGo] at h
    by_cases z : (stepOf (look t c.path) c).2 ≠ 0
    · rw [if_pos z] at h
      simp only [Prod.mk.injEq] at h
      exact absurd h.2.2 z
    · rw [if_neg z] at h
      have hc : stepOf (look t c.path) c = ((stepOf (look t c.path) c).1, 0) := by
        rw [Prod.ext_iff]; exact ⟨rfl, by simpa using z⟩
      generalize (stepOf (look t c.path) c).1 = y at h hc
      have hy := step_at ht hc
      obtain ⟨k0, sb, l1, l2⟩ := apply_inv r _ b k (i + 1) (setAt_sorted ht hy) p2 h
      have hcb : look b c.path = y := by
        rw [l2 c.path fun d hd => (less_ne (p1 d hd)).symm, setAt_look ht hy, if_pos rfl]
      refine ⟨k0, sb, fun d hd => ?_, fun q hq => ?_⟩
      · rcases List.mem_cons.1 hd with rfl | hd
        · rw [hc, hcb]
        · have := l1 d hd
          rwa [setAt_look ht hy, if_neg (less_ne (p1 d hd))] at this
      · rw [l2 q fun d hd => hq d (List.mem_cons_of_mem _ hd), setAt_look ht hy, if_neg (hq c (List.mem_cons_self ..))]
theorem applyR_of {t b : List File} {p : List Change} (ht : Tree t) (hp : Patch p) (hb : Sorted b) (h8 : b.length ≤ 8) (h : Leads t p b) : applyR t p = (b, 0, 0) := by
  have e := apply_of p t b 0 ht.2.2 hb hp.2.2 h
  unfold applyR
  rw [if_neg (by rw [tree_iff.1 ht]; simp), if_neg (by rw [patch_ok hp]; simp), e, if_neg (by simp), if_neg (by simp only; omega)]
theorem applyR_inv {t b : List File} {p : List Change} {k : Nat} (h : applyR t p = (b, k, 0)) : k = 0 ∧ Tree t ∧ Patch p ∧ Sorted b ∧ b.length ≤ 8 ∧ Leads t p b := by
  unfold applyR at h
  by_cases h1 : (treeFault t).2 ≠ 0
  · rw [if_pos h1] at h; simp only [Prod.mk.injEq] at h; exact absurd h.2.2 h1
  · rw [if_neg h1] at h
    by_cases h2 : (patchFault p).2 ≠ 0
    · rw [if_pos h2] at h; simp only [Prod.mk.injEq] at h; exact absurd h.2.2 h2
    · rw [if_neg h2] at h
      have ht : Tree t := tree_iff.2 (by simpa using h1)
      have hp : Patch p := patch_of (by simpa using h2)
      by_cases h3 : (applyGo 0 t p).2.2 ≠ 0
      · rw [if_pos h3] at h; rw [h] at h3; exact absurd rfl h3
      · rw [if_neg h3] at h
        by_cases h4 : 8 < (applyGo 0 t p).1.length
        · rw [if_pos h4] at h; cases h
        · rw [if_neg h4] at h
          have e : applyGo 0 t p = ((applyGo 0 t p).1, (applyGo 0 t p).2.1, 0) := by
            rw [Prod.ext_iff, Prod.ext_iff]; exact ⟨rfl, rfl, by simpa using h3⟩
          obtain ⟨_, q2, q3⟩ := apply_inv p t _ _ 0 ht.2.2 hp.2.2 e
          cases h
          exact ⟨rfl, ht, hp, q2, by omega, q3⟩

/-! ### turned -/
def turnW (k : Int) : Int := if k = 2 then 3 else if k = 3 then 2 else k
def turnC (c : Change) : Change := ⟨turnW c.what, c.path, turnHunks c.hunks⟩
def turnP (p : List Change) : List Change := p.map turnC
theorem changeFault_zero {c : Change} (h : changeFault c = 0) : 1 ≤ c.what ∧ c.what ≤ 3 ∧ pathFault c.path = 0 ∧ hunksFault c.hunks = (0, 0) ∧ shapeB c = true := by
  unfold changeFault at h
  by_cases h1 : c.what < 1 ∨ 3 < c.what
  · rw [if_pos h1] at h; cases h
  · rw [if_neg h1] at h
    by_cases h2 : pathFault c.path ≠ 0
    · rw [if_pos h2] at h; exact absurd h h2
    · rw [if_neg h2] at h
      by_cases h3 : (hunksFault c.hunks).2 ≠ 0
      · rw [if_pos h3] at h; exact absurd h h3
      · rw [if_neg h3] at h
        by_cases h4 : shapeB c = true
        · exact ⟨by omega, by omega, by simpa using h2, hunksFault_first (by simpa using h3), h4⟩
        · rw [if_neg h4] at h; cases h
theorem changeFault_of {c : Change} (h1 : 1 ≤ c.what) (h2 : c.what ≤ 3) (h3 : pathFault c.path = 0) (h4 : hunksFault c.hunks = (0, 0)) (h5 : shapeB c = true) : changeFault c = 0 := by
  unfold changeFault
  rw [if_neg (by omega), if_neg (by simp [h3]), if_neg (by simp [h4]), if_pos h5]
theorem wholeB_turn {l : List Hunk} {s : Int} (hs : s = 43 ∨ s = 45) (h : wholeB l s = true) : wholeB (turnHunks l) (88 - s) = true := by
  match l with
  | [] => rfl
  | [q] =>
    unfold wholeB at h
    simp only [Bool.and_eq_true, decide_eq_true_eq, List.all_eq_true] at h
    obtain ⟨⟨h1, h2⟩, h3⟩ := h
    show (decide (q.new = 0) && decide (q.old = 0) && (q.marks.map turnMark).all fun m => decide (m.sign = 88 - s)) = true
    rw [Bool.and_eq_true, Bool.and_eq_true]
    refine ⟨⟨decide_eq_true h2, decide_eq_true h1⟩, List.all_eq_true.2 fun m hm => ?_⟩
    obtain ⟨x, hx, rfl⟩ := List.mem_map.1 hm
    have := h3 x hx
    refine decide_eq_true ?_
    unfold turnMark
    rcases hs with rfl | rfl
    · simp [this]
    · simp [this]
  | _ :: _ :: _ => cases h
theorem turnC_ok {c : Change} (h : changeFault c = 0) : changeFault (turnC c) = 0 := by
  obtain ⟨h1, h2, h3, h4, h5⟩ := changeFault_zero h
  have hw : c.what = 1 ∨ c.what = 2 ∨ c.what = 3 := by omega
  refine changeFault_of ?_ ?_ h3 (turn_ok h4) ?_
  · show 1 ≤ turnW c.what
    rcases hw with e | e | e <;> rw [e] <;> decide
  · show turnW c.what ≤ 3
    rcases hw with e | e | e <;> rw [e] <;> decide
  · unfold shapeB at h5 ⊢
    show (if turnW c.what = 2 then wholeB (turnHunks c.hunks) 43 else if turnW c.what = 3 then wholeB (turnHunks c.hunks) 45 else !(turnHunks c.hunks).isEmpty) = true
    rcases hw with e | e | e
    · rw [e, if_neg (by decide), if_neg (by decide)] at h5
      rw [e, if_neg (by decide), if_neg (by decide)]
      unfold turnHunks
      cases hh : c.hunks with
      | nil => rw [hh] at h5; cases h5
      | cons a b => rfl
    · rw [e, if_pos rfl] at h5
      rw [e, if_neg (by decide), if_pos (by decide)]
      exact wholeB_turn (.inl rfl) h5
    · rw [e, if_neg (by decide), if_pos rfl] at h5
      rw [e, if_pos (by decide)]
      exact wholeB_turn (.inr rfl) h5
theorem turnC_turnC (c : Change) : turnC (turnC c) = c := by
  cases c with
  | mk k p l =>
    unfold turnC
    simp only [turn_turn]
    congr 1
    unfold turnW
    by_cases h2 : k = 2
    · simp [h2]
    · by_cases h3 : k = 3
      · simp [h3]
      · simp [h2, h3]
theorem turnP_turnP (p : List Change) : turnP (turnP p) = p := by
  unfold turnP
  rw [List.map_map]
  conv => rhs; rw [← List.map_id p]
  exact List.map_congr_left fun c _ => turnC_turnC c
theorem patch_turn {p : List Change} (h : Patch p) : Patch (turnP p) := by
  refine ⟨by unfold turnP; rw [List.length_map]; exact h.1, fun c hc => ?_, ?_⟩
  · obtain ⟨x, hx, rfl⟩ := List.mem_map.1 hc
    exact turnC_ok (h.2.1 x hx)
  · unfold SortedC turnP
    rw [List.pairwise_map]
    exact h.2.2
theorem strict_nil {a : List ByteArray} {l : List Hunk} {y : List ByteArray} {k : Nat} (h : strict a l = (y, k, 0)) : k = 0 := (fits_of_strict h).1
theorem step_undo {x y : Option (List ByteArray)} {c : Change} (hc : changeFault c = 0) (h : stepOf x c = (y, 0)) : stepOf y (turnC c) = (x, 0) := by
  obtain ⟨c1, c2, _, _, _⟩ := changeFault_zero hc
  have hw : c.what = 1 ∨ c.what = 2 ∨ c.what = 3 := by omega
  unfold stepOf at h
  by_cases h1 : c.what = 2 ∧ x.isSome = true
  · rw [if_pos h1] at h; cases h
  · rw [if_neg h1] at h
    by_cases h2 : c.what ≠ 2 ∧ x.isSome = false
    · rw [if_pos h2] at h; cases h
    · rw [if_neg h2] at h
      by_cases h3 : (strict (x.getD []) c.hunks).2.2 ≠ 0
      · rw [if_pos h3] at h; simp only [Prod.mk.injEq] at h; exact absurd h.2 h3
      · rw [if_neg h3] at h
        have e : strict (x.getD []) c.hunks = ((strict (x.getD []) c.hunks).1, (strict (x.getD []) c.hunks).2.1, 0) := by
          rw [Prod.ext_iff, Prod.ext_iff]; exact ⟨rfl, rfl, by simpa using h3⟩
        have u := (strict_undo e).1
        rcases hw with w | w | w
        · rw [if_neg (by omega)] at h
          have hy := (Prod.mk.inj h).1
          cases x with
          | none => exact absurd ⟨by omega, rfl⟩ h2
          | some l =>
            subst hy
            unfold stepOf turnC turnW
            simp only [w, Option.getD_some] at u ⊢
            simp [u]
        · rw [if_neg (by omega)] at h
          have hy := (Prod.mk.inj h).1
          cases x with
          | some l => exact absurd ⟨w, rfl⟩ h1
          | none =>
            subst hy
            unfold stepOf turnC turnW
            simp only [w, Option.getD_some, Option.getD_none] at u ⊢
            simp [u]
        · rw [if_pos w] at h
          cases x with
          | none => exact absurd ⟨by omega, rfl⟩ h2
          | some l =>
            by_cases q : (strict ((some l).getD []) c.hunks).1 = []
            · rw [if_pos q] at h
              have hy := (Prod.mk.inj h).1
              subst hy
              rw [q] at u
              unfold stepOf turnC turnW
              simp only [w, Option.getD_some, Option.getD_none] at u ⊢
              simp [u]
            · rw [if_neg q] at h; cases h
theorem leads_turn {t b : List File} {p : List Change} (hp : ∀ c ∈ p, changeFault c = 0) (h : Leads t p b) : Leads b (turnP p) t := by
  refine ⟨fun c hc => ?_, fun q hq => ?_⟩
  · obtain ⟨x, hx, rfl⟩ := List.mem_map.1 hc
    exact step_undo (hp x hx) (h.1 x hx)
  · exact (h.2 q fun c hc => hq (turnC c) (List.mem_map_of_mem hc)).symm
theorem step_lines {x y : Option (List ByteArray)} {c : Change} (h : stepOf x c = (y, 0)) : ∀ l, y = some l → linesFault l = 0 := by
  rintro l rfl
  unfold stepOf at h
  by_cases h1 : c.what = 2 ∧ x.isSome = true
  · rw [if_pos h1] at h; cases h
  · rw [if_neg h1] at h
    by_cases h2 : c.what ≠ 2 ∧ x.isSome = false
    · rw [if_pos h2] at h; cases h
    · rw [if_neg h2] at h
      by_cases h3 : (strict (x.getD []) c.hunks).2.2 ≠ 0
      · rw [if_pos h3] at h; cases h
      · rw [if_neg h3] at h
        have e : strict (x.getD []) c.hunks = ((strict (x.getD []) c.hunks).1, (strict (x.getD []) c.hunks).2.1, 0) := by
          rw [Prod.ext_iff, Prod.ext_iff]; exact ⟨rfl, rfl, by simpa using h3⟩
        by_cases h4 : c.what = 3
        · rw [if_pos h4] at h
          split at h <;> cases h
        · rw [if_neg h4] at h
          have := Option.some.inj (Prod.mk.inj h).1
          rw [← this]
          exact (strict_undo e).2
/-- what comes of a tree is one -/
theorem leads_tree {t b : List File} {p : List Change} (ht : Tree t) (hp : Patch p) (hb : Sorted b) (h8 : b.length ≤ 8) (h : Leads t p b) : Tree b := by
  refine ⟨h8, fun f hf => ?_, hb⟩
  have hl := look_mem hb hf
  by_cases e : ∃ c ∈ p, c.path = f.path
  · obtain ⟨c, hc, e⟩ := e
    have hs := h.1 c hc
    rw [e, hl] at hs
    unfold fileFault
    rw [if_pos (by rw [← e]; exact (changeFault_zero (hp.2.1 c hc)).2.2.1)]
    exact step_lines hs _ rfl
  · have := h.2 f.path fun c hc g => e ⟨c, hc, g⟩
    rw [hl] at this
    obtain ⟨x, hx, e1, e2⟩ := look_some this.symm
    have q : x = f := by cases x; cases f; simp only at e1 e2; rw [e1, e2]
    exact q ▸ ht.2.1 x hx
/-- what was done is undone -/
theorem apply_back {t b : List File} {p : List Change} {k : Nat} (h : applyR t p = (b, k, 0)) : applyR b (turnP p) = (t, 0, 0) := by
  obtain ⟨_, ht, hp, hb, h8, hl⟩ := applyR_inv h
  exact applyR_of (leads_tree ht hp hb h8 hl) (patch_turn hp) ht.2.2 ht.1 (leads_turn hp.2.1 hl)
end Go.Proofs.YtmojaahkcpgfkaaGreatDoor
namespace Go.Proofs.YtmojaahkcpgfkaaGreatDoor
open Go.RowKit

theorem other_any (sg s : Int) (tx : ByteArray) (p : Addr) (w : World) (h : w.cell? p = some (.int .u8 s)) :
    Calls Tryz.prog 106 #[.agg #[.int .u8 sg, .string tx], .pointer (some p)] w fun e w' => e = .returned (.bool (sg != s)) ∧ Chg Never w w' := by
  have h := ((Chg.refl Never w).alloc (.cells #[.int .u8 sg, .string tx] 39)).cellNever h
  go_enter Tryz.func106, Tryz.ntmps106
  go_wp2_with fail
  go_ret
  exact ⟨rfl, (Chg.refl _ _).alloc _⟩
def allSign (l : List Mark) (s : Int) : Bool := l.all fun m => decide (m.sign = s)
theorem allSign_take {l : List Mark} {k : Nat} {x : Mark} {s : Int} (hx : l[k]? = some x) (h : allSign (l.take k) s = true) : allSign (l.take (k + 1)) s = decide (x.sign = s) := by
  rw [List.take_add_one, hx]
  unfold allSign at *
  rw [List.all_append, h]
  simp
theorem allSign_bad {l : List Mark} {k : Nat} {x : Mark} {s : Int} (hx : l[k]? = some x) (h : x.sign ≠ s) : allSign l s = false := by
  unfold allSign
  rw [List.all_eq_false]
  exact ⟨x, List.mem_of_getElem? hx, by simp [h]⟩
def OthPost (l : List Mark) (s : Int) (w : World) (e : Ending) (w' : World) : Prop := ∃ n : Int, e = .returned (.int .i64 n) ∧ -1 ≤ n ∧ decide (0 ≤ n) = !(allSign l s) ∧ Chg Never w w'
set_option maxHeartbeats 1000000 in
set_option maxRecDepth 100000 in
theorem index_other (l : List Mark) (s : Int) (v : Value) (p : Addr) (w : World) (h : Rdv w Never v l) (hp : w.cell? p = some (.int .u8 s)) :
    Calls Tryz.prog 82 #[v, .func (.func 106) #[] #[.pointer (some p)]] w (OthPost l s w) := by
  obtain ⟨a, cap, rfl, h1, h2, h3⟩ := rdv_slice h
  unfold maxLen at h2
  go_enter Tryz.func82, Tryz.ntmps82
  go_wp2_with fail
  go_loopw [8] (fun i wr => ∃ k : Nat, k ≤ l.length ∧ i = .int .i64 k ∧ Hid (allSign (l.take k) s = true) ∧ Chg Never w wr) (fun i _ => l.length - (intOf i).toNat)
  case atStart => exact ⟨0, Nat.zero_le _, rfl, rfl, Chg.refl _ _⟩
  case round =>
    obtain ⟨k, hk, rfl, hf, hc⟩ := hrel
    by_cases hlt : k < l.length
    · obtain ⟨x, hx⟩ : ∃ x, l[k]? = some x := ⟨l[k], by simp [hlt]⟩
      obtain ⟨b, off, rfl, _, _, c0, c1, s0, s1, hxs⟩ := elems_mark h3 hx
      have c0 := hc.cellNever c0
      have c1 := hc.cellNever c1
      have HT := Lib.hid (allSign_take hx hf.out)
      have HB : ∀ _ : x.sign ≠ s, Hid (allSign l s = false) := fun e => allSign_bad hx e
      clear hx h3 h
      obtain ⟨sg, tx⟩ := x
      simp only at c0 c1 s0 s1 hxs HB HT
      by_cases h32 : sg = s
      · have t1 : (sg != s) = false := by simp [h32]
        go_wp2_with (go_at_call 106; refine (other_any _ s _ _ _ (hc.cellNever hp)).mono ?_; rintro e w2 ⟨rfl, hc2⟩)
        go_roundw
        case rel => exact ⟨k + 1, by omega, by go_num, by rw [Hid, HT.out]; exact decide_eq_true h32, hc.trans hc2⟩
        case measure => simp [intOf] <;> omega
      · have t1 : (sg != s) = true := by simp [h32]
        have E := HB h32
        clear HB HT
        go_wp2_with (go_at_call 106; refine (other_any _ s _ _ _ (hc.cellNever hp)).mono ?_; rintro e w2 ⟨rfl, hc2⟩)
        go_ret
        exact ⟨k, rfl, by omega, by rw [E.out]; simp, hc.trans hc2⟩
    · go_wp2_with fail
      go_ret
      have E : allSign l s = true := by have := hf.out; rwa [List.take_of_length_le (by omega)] at this
      exact ⟨-1, rfl, by omega, by rw [E]; rfl, hc⟩
theorem contains_other (l : List Mark) (s : Int) (v : Value) (p : Addr) (w : World) (h : Rdv w Never v l) (hp : w.cell? p = some (.int .u8 s)) :
    Calls Tryz.prog 60 #[v, .func (.func 106) #[] #[.pointer (some p)]] w fun e w' => e = .returned (.bool (!(allSign l s))) ∧ Chg Never w w' := by
  go_enter Tryz.func60, Tryz.ntmps60
  go_wp2_with fail
  refine (index_other l s _ _ _ h hp).mono ?_
  rintro e w1 ⟨n, rfl, hn, hd, hc⟩
  have HD := Lib.hid hd
  clear hd
  go_wp2_with fail
  go_ret
  exact ⟨by rw [← HD.out]; rfl, hc⟩

/-- a change and a sign in boxes -/
theorem box_change (w : World) (T U : TypeId) (k s : Int) (p : ByteArray) (v : Value) (W : World) (hW : W = (w.alloc (.cells #[.int .i64 k, .string p, v] T)).alloc (.cells #[.int .u8 s] U)) :
    Chg Never w W ∧ W.cell? ⟨w.heap.size, 0, none⟩ = some (.int .i64 k) ∧ W.cell? ⟨w.heap.size, 1, none⟩ = some (.string p) ∧ W.cell? ⟨w.heap.size, 2, none⟩ = some v ∧ W.cell? ⟨w.heap.size + 1, 0, none⟩ = some (.int .u8 s) := by
  subst hW
  have hA : Chg Never w (w.alloc (.cells #[.int .i64 k, .string p, v] T)) := (Chg.refl Never w).alloc _
  have hB := (Chg.refl Never (w.alloc (.cells #[.int .i64 k, .string p, v] T))).alloc (.cells #[.int .u8 s] U)
  have n := heap_alloc_new w (.cells #[.int .i64 k, .string p, v] T)
  have n2 := heap_alloc_new (w.alloc (.cells #[.int .i64 k, .string p, v] T)) (.cells #[.int .u8 s] U)
  rw [World.size_alloc] at n2
  refine ⟨hA.trans hB, hB.cellNever ?_, hB.cellNever ?_, hB.cellNever ?_, ?_⟩
  · simp only [World.cell?]; rw [n]; rfl
  · simp only [World.cell?]; rw [n]; rfl
  · simp only [World.cell?]; rw [n]; rfl
  · simp only [World.cell?]; rw [n2]; rfl
theorem box1_change (w : World) (T : TypeId) (k : Int) (p : ByteArray) (v : Value) (W : World) (hW : W = w.alloc (.cells #[.int .i64 k, .string p, v] T)) :
    Chg Never w W ∧ W.cell? ⟨w.heap.size, 0, none⟩ = some (.int .i64 k) ∧ W.cell? ⟨w.heap.size, 1, none⟩ = some (.string p) ∧ W.cell? ⟨w.heap.size, 2, none⟩ = some v := by
  subst hW
  have n := heap_alloc_new w (.cells #[.int .i64 k, .string p, v] T)
  refine ⟨(Chg.refl Never w).alloc _, ?_, ?_, ?_⟩ <;> (simp only [World.cell?]; rw [n]; rfl)
theorem wholeB_one (h : Hunk) (s : Int) : wholeB [h] s = (decide (h.old = 0) && decide (h.new = 0) && allSign h.marks s) := rfl
theorem wholeB_many {l : List Hunk} {s : Int} (h : 2 ≤ l.length) : wholeB l s = false := by
  match l, h with
  | _ :: _ :: _, _ => rfl
set_option maxHeartbeats 2000000 in
set_option maxRecDepth 100000 in
theorem whole_go (wh : Int) (pa : ByteArray) (hs : List Hunk) (s : Int) (v : Value) (w : World) (h : Rdv w Never v hs) :
    Calls Tryz.prog 96 #[.agg #[.int .i64 wh, .string pa, v], .int .u8 s] w fun e w' => e = .returned (.bool (wholeB hs s)) ∧ Chg Never w w' := by
  obtain ⟨a, cap, rfl, h1, h2, h3⟩ := rdv_slice h
  obtain ⟨hA, b0, b1, b2, bs⟩ := box_change w 79 5 wh s pa (.slice a hs.length cap) _ rfl
  match hs, h, h1, h2, h3, hA, b0, b1, b2, bs with
  | [], h, h1, h2, h3, hA, b0, b1, b2, bs =>
    have e0 : wholeB [] s = true := rfl
    rw [e0]
    go_enter Tryz.func96, Tryz.ntmps96
    go_wp2_with fail
    go_ret
    exact ⟨rfl, hA⟩
  | [x], h, h1, h2, h3, hA, b0, b1, b2, bs =>
    obtain ⟨b, off, mv, rfl, _, _, c0, c1, c2, hmv⟩ := elems_hunk h3 (i := 0) rfl
    simp only [Nat.zero_mul, Nat.add_zero] at c0 c1 c2
    have c0 := hA.cellNever c0
    have c1 := hA.cellNever c1
    have c2 := hA.cellNever c2
    have hmv := hmv.never hA
    rw [wholeB_one]
    clear h3
    by_cases o : x.old = 0
    · by_cases n : x.new = 0
      · rw [decide_eq_true o, decide_eq_true n]
        have o0 : (x.old == 0) = true := by simp [o]
        have n0 : (x.new == 0) = true := by simp [n]
        clear o n
        go_enter Tryz.func96, Tryz.ntmps96
        go_wp2_with fail
        refine (contains_other x.marks s _ _ _ hmv bs).mono ?_
        rintro e w2 ⟨rfl, hc2⟩
        go_wp2_with fail
        go_ret
        exact ⟨by simp, hA.trans hc2⟩
      · rw [decide_eq_true o, decide_eq_false n]
        have o0 : (x.old == 0) = true := by simp [o]
        have n0 : (x.new == 0) = false := by simp [n]
        clear o n
        go_enter Tryz.func96, Tryz.ntmps96
        go_wp2_with fail
        go_ret
        exact ⟨rfl, hA⟩
    · rw [decide_eq_false o]
      have o0 : (x.old == 0) = false := by simp [o]
      clear o
      go_enter Tryz.func96, Tryz.ntmps96
      go_wp2_with fail
      go_ret
      exact ⟨rfl, hA⟩
  | x :: y :: r, h, h1, h2, h3, hA, b0, b1, b2, bs =>
    rw [wholeB_many (by simp)]
    generalize hL : x :: y :: r = L at b0 b1 b2 bs h h1 h2 hA ⊢
    have hge : 2 ≤ L.length := by rw [← hL]; simp
    have t0 : ((L.length : Int) == 0) = false := beq_eq_false_iff_ne.2 (by omega)
    have t1 : ((L.length : Int) == 1) = false := beq_eq_false_iff_ne.2 (by omega)
    clear hL h3
    go_enter Tryz.func96, Tryz.ntmps96
    go_wp2_with fail
    go_ret
    exact ⟨rfl, hA⟩
theorem whole_any (c : Change) (s : Int) (v : Value) (w : World) (h : Rdv w Never v c.hunks) :
    Calls Tryz.prog 96 #[.agg #[.int .i64 c.what, .string c.path, v], .int .u8 s] w fun e w' => e = .returned (.bool (wholeB c.hunks s)) ∧ Chg Never w w' := whole_go _ _ _ _ _ _ h
end Go.Proofs.YtmojaahkcpgfkaaGreatDoor
namespace Go.Proofs.YtmojaahkcpgfkaaGreatDoor
open Go.RowKit

set_option maxHeartbeats 1000000 in
set_option maxRecDepth 100000 in
theorem shape_any (c : Change) (v : Value) (w : World) (h : Rdv w Never v c.hunks) :
    Calls Tryz.prog 78 #[.agg #[.int .i64 c.what, .string c.path, v]] w fun e w' => e = .returned (.bool (shapeB c)) ∧ Chg Never w w' := by
  obtain ⟨a, cap, rfl, h1, h2, _⟩ := rdv_slice h
  obtain ⟨hA, b0, b1, b2⟩ := box1_change w 79 c.what c.path (.slice a c.hunks.length cap) _ rfl
  by_cases k2 : c.what = 2
  · have E : Hid (shapeB c = wholeB c.hunks 43) := if_pos k2
    have t2 : (c.what == 2) = true := by simp [k2]
    clear k2
    go_enter Tryz.func78, Tryz.ntmps78
    go_wp2_with fail
    refine (whole_any c 43 _ _ (h.never hA)).mono ?_
    rintro e w2 ⟨rfl, hc2⟩
    go_wp2_with fail
    go_ret
    exact ⟨by rw [E.out]; rfl, hA.trans hc2⟩
  · have t2 : (c.what == 2) = false := by simp [k2]
    by_cases k3 : c.what = 3
    · have E : Hid (shapeB c = wholeB c.hunks 45) := by unfold Hid shapeB; rw [if_neg k2, if_pos k3]
      have t3 : (c.what == 3) = true := by simp [k3]
      clear k2 k3
      go_enter Tryz.func78, Tryz.ntmps78
      go_wp2_with fail
      refine (whole_any c 45 _ _ (h.never hA)).mono ?_
      rintro e w2 ⟨rfl, hc2⟩
      go_wp2_with fail
      go_ret
      exact ⟨by rw [E.out]; rfl, hA.trans hc2⟩
    · have E : Hid (shapeB c = decide (0 < c.hunks.length)) := by
        unfold Hid shapeB
        rw [if_neg k2, if_neg k3]
        cases c.hunks <;> simp
      have t3 : (c.what == 3) = false := by simp [k3]
      clear k2 k3
      go_enter Tryz.func78, Tryz.ntmps78
      go_wp2_with fail
      go_ret
      exact ⟨by rw [E.out]; rfl, hA⟩
theorem cf_rng {c : Change} (h : c.what < 1 ∨ 3 < c.what) : changeFault c = 1 := if_pos h
theorem cf_path {c : Change} (h : ¬ (c.what < 1 ∨ 3 < c.what)) (g : pathFault c.path ≠ 0) : changeFault c = pathFault c.path := by unfold changeFault; rw [if_neg h, if_pos g]
theorem cf_hunks {c : Change} (h : ¬ (c.what < 1 ∨ 3 < c.what)) (g : pathFault c.path = 0) (k : (hunksFault c.hunks).2 ≠ 0) : changeFault c = (hunksFault c.hunks).2 := by unfold changeFault; rw [if_neg h, if_neg (by rw [g]; decide), if_pos k]
theorem cf_shape {c : Change} (h : ¬ (c.what < 1 ∨ 3 < c.what)) (g : pathFault c.path = 0) (k : (hunksFault c.hunks).2 = 0) (s : shapeB c = false) : changeFault c = 2 := by unfold changeFault; rw [if_neg h, if_neg (by rw [g]; decide), if_neg (by rw [k]; decide), if_neg (by rw [s]; decide)]
theorem cf_ok {c : Change} (h : ¬ (c.what < 1 ∨ 3 < c.what)) (g : pathFault c.path = 0) (k : (hunksFault c.hunks).2 = 0) (s : shapeB c = true) : changeFault c = 0 := by unfold changeFault; rw [if_neg h, if_neg (by rw [g]; decide), if_neg (by rw [k]; decide), if_pos s]
set_option maxHeartbeats 2000000 in
set_option maxRecDepth 100000 in
theorem patch_one_any (c : Change) (v : Value) (w : World) (h : Rdv w Never v c.hunks) (m : Int) (hm : w.cell? ⟨1, 0, none⟩ = some (.int .i64 m)) :
    Calls Tryz.prog 55 #[.agg #[.int .i64 c.what, .string c.path, v]] w fun e w' => e = .returned (errV (changeFault c)) ∧ Chg Never w w' := by
  obtain ⟨a, cap, rfl, h1, h2, _⟩ := rdv_slice h
  obtain ⟨hA, b0, b1, b2⟩ := box1_change w 79 c.what c.path (.slice a c.hunks.length cap) _ rfl
  by_cases r : c.what < 1 ∨ 3 < c.what
  · rw [cf_rng r]
    rcases r with r | r
    · go_enter Tryz.func55, Tryz.ntmps55
      go_wp2_with fail
      go_ret
      exact ⟨rfl, hA⟩
    · have r0 : ¬ c.what < 1 := by omega
      go_enter Tryz.func55, Tryz.ntmps55
      go_wp2_with fail
      go_ret
      exact ⟨rfl, hA⟩
  · have r0 : ¬ c.what < 1 := by omega
    have r1 : ¬ 3 < c.what := by omega
    by_cases z : pathFault c.path = 0
    · have Z := Lib.hid z
      by_cases y : (hunksFault c.hunks).2 = 0
      · have Y := Lib.hid y
        cases s : shapeB c with
        | true =>
          have E := Lib.hid (cf_ok r z y s)
          have S := Lib.hid s
          clear r z y s
          go_enter Tryz.func55, Tryz.ntmps55
          go_wp2_with fail
          generalize w.alloc (.cells #[.int .i64 c.what, .string c.path, .slice a c.hunks.length cap] 79) = wA at hA b0 b1 b2 ⊢
          refine (line_path_any c.path _ m (hA.cellNever hm)).mono ?_
          rintro e w2 ⟨rfl, hc2⟩
          have hw := hA.trans hc2
          have b0 := hc2.cellNever b0
          have b1 := hc2.cellNever b1
          have b2 := hc2.cellNever b2
          clear hc2
          rw [Z.out, errV_zero]
          go_wp2_with fail
          refine (hunk_check_any c.hunks _ _ (h.never hw)).mono ?_
          rintro e w3 ⟨rfl, hc3⟩
          have hw := hw.trans hc3
          have b0 := hc3.cellNever b0
          have b1 := hc3.cellNever b1
          have b2 := hc3.cellNever b2
          clear hc3
          rw [Y.out, errV_zero]
          go_wp2_with fail
          refine (shape_any c _ _ (h.never hw)).mono ?_
          rintro e w4 ⟨rfl, hc4⟩
          rw [S.out]
          clear b0 b1 b2
          go_wp2_with fail
          go_ret
          exact ⟨by rw [E.out]; rfl, hw.trans hc4⟩
        | false =>
          have E := Lib.hid (cf_shape r z y s)
          have S := Lib.hid s
          clear r z y s
          go_enter Tryz.func55, Tryz.ntmps55
          go_wp2_with fail
          generalize w.alloc (.cells #[.int .i64 c.what, .string c.path, .slice a c.hunks.length cap] 79) = wA at hA b0 b1 b2 ⊢
          refine (line_path_any c.path _ m (hA.cellNever hm)).mono ?_
          rintro e w2 ⟨rfl, hc2⟩
          have hw := hA.trans hc2
          have b0 := hc2.cellNever b0
          have b1 := hc2.cellNever b1
          have b2 := hc2.cellNever b2
          clear hc2
          rw [Z.out, errV_zero]
          go_wp2_with fail
          refine (hunk_check_any c.hunks _ _ (h.never hw)).mono ?_
          rintro e w3 ⟨rfl, hc3⟩
          have hw := hw.trans hc3
          have b0 := hc3.cellNever b0
          have b1 := hc3.cellNever b1
          have b2 := hc3.cellNever b2
          clear hc3
          rw [Y.out, errV_zero]
          go_wp2_with fail
          refine (shape_any c _ _ (h.never hw)).mono ?_
          rintro e w4 ⟨rfl, hc4⟩
          rw [S.out]
          clear b0 b1 b2
          go_wp2_with fail
          go_ret
          exact ⟨by rw [E.out]; rfl, hw.trans hc4⟩
      · have E := Lib.hid (cf_hunks r z y)
        have Y := Lib.hid y
        clear r z y
        go_enter Tryz.func55, Tryz.ntmps55
        go_wp2_with fail
        generalize w.alloc (.cells #[.int .i64 c.what, .string c.path, .slice a c.hunks.length cap] 79) = wA at hA b0 b1 b2 ⊢
        refine (line_path_any c.path _ m (hA.cellNever hm)).mono ?_
        rintro e w2 ⟨rfl, hc2⟩
        have hw := hA.trans hc2
        have b0 := hc2.cellNever b0
        have b1 := hc2.cellNever b1
        have b2 := hc2.cellNever b2
        clear hc2
        rw [Z.out, errV_zero]
        go_wp2_with fail
        refine (hunk_check_any c.hunks _ _ (h.never hw)).mono ?_
        rintro e w3 ⟨rfl, hc3⟩
        have hw := hw.trans hc3
        have b0 := hc3.cellNever b0
        have b1 := hc3.cellNever b1
        have b2 := hc3.cellNever b2
        clear hc3
        rw [errV_pos Y.out]
        clear b0 b1 b2
        go_wp2_with fail
        go_ret
        exact ⟨by rw [E.out, errV_pos Y.out]; rfl, hw⟩
    · have E := Lib.hid (cf_path r z)
      have Z := Lib.hid z
      clear r z
      go_enter Tryz.func55, Tryz.ntmps55
      go_wp2_with fail
      generalize w.alloc (.cells #[.int .i64 c.what, .string c.path, .slice a c.hunks.length cap] 79) = wA at hA b0 b1 b2 ⊢
      refine (line_path_any c.path _ m (hA.cellNever hm)).mono ?_
      rintro e w2 ⟨rfl, hc2⟩
      have hw := hA.trans hc2
      have b0 := hc2.cellNever b0
      have b1 := hc2.cellNever b1
      have b2 := hc2.cellNever b2
      clear hc2
      rw [errV_pos Z.out]
      clear b0 b1 b2
      go_wp2_with fail
      go_ret
      exact ⟨by rw [E.out, errV_pos Z.out]; rfl, hw⟩
/-! ### Check -/
def prevC (t : List Change) (k : Nat) : Option ByteArray := if k = 0 then none else (t[k - 1]?).map (·.path)
theorem prevC_succ {t : List Change} {k : Nat} {f : Change} (h : t[k]? = some f) : prevC t (k + 1) = some f.path := by unfold prevC; simp [h]
theorem patchGo_next {t : List Change} {k : Nat} {f : Change} {prev : Option ByteArray} (hd : t.drop k = f :: t.drop (k + 1)) (h1 : changeFault f = 0) (h2 : prev.any (fun p => leqB f.path p) = false) : patchGo k prev (t.drop k) = patchGo (k + 1) (some f.path) (t.drop (k + 1)) := by
  rw [hd, patchGo, if_neg (by simp [h1]), if_neg (by rw [h2]; decide)]
theorem patchGo_bad {t : List Change} {k : Nat} {f : Change} {prev : Option ByteArray} (hd : t.drop k = f :: t.drop (k + 1)) (h1 : changeFault f ≠ 0) : patchGo k prev (t.drop k) = (k, changeFault f) := by
  rw [hd, patchGo, if_pos h1]
theorem patchGo_order {t : List Change} {k : Nat} {f : Change} {p : ByteArray} (hd : t.drop k = f :: t.drop (k + 1)) (h1 : changeFault f = 0) (h2 : leqB f.path p = true) : patchGo k (some p) (t.drop k) = (k, 2) := by
  rw [hd, patchGo, if_neg (by simp [h1]), if_pos (by simpa using h2)]
theorem patchGo_end {t : List Change} {prev : Option ByteArray} : patchGo t.length prev (t.drop t.length) = (0, 0) := by rw [List.drop_length]; rfl
set_option maxHeartbeats 2000000 in
set_option maxRecDepth 100000 in
theorem patch_check_any (t : List Change) (v : Value) (w : World) (h : Rdv w Never v t) (m : Int) (hm : w.cell? ⟨1, 0, none⟩ = some (.int .i64 m)) :
    Calls Tryz.prog 36 #[v] w fun e w' => e = .returned (.tuple #[.int .i64 (patchFault t).1, errV (patchFault t).2]) ∧ Chg Never w w' := by
  obtain ⟨a, cap, rfl, h1, h2, h3⟩ := rdv_slice h
  unfold maxLen at h2
  by_cases h8 : 16 < t.length
  · have HF : Hid (patchFault t = (0, 3)) := if_pos h8
    go_enter Tryz.func36, Tryz.ntmps36
    go_wp2_with fail
    go_ret2
    exact ⟨by rw [HF.out]; rfl, Chg.refl _ _⟩
  · have HF : Hid (patchFault t = patchGo 0 (prevC t 0) (t.drop 0)) := if_neg h8
    go_enter Tryz.func36, Tryz.ntmps36
    go_wp2_with fail
    go_loopw [13] (fun i wr => ∃ k : Nat, k ≤ t.length ∧ i = .int .i64 k ∧ Chg Never w wr ∧ Hid (patchFault t = patchGo k (prevC t k) (t.drop k))) (fun i _ => t.length - (intOf i).toNat)
    case atStart => exact ⟨0, Nat.zero_le _, rfl, Chg.refl _ _, HF.out⟩
    case round =>
      clear HF
      obtain ⟨k, hk, rfl, hc, hG⟩ := hrel
      by_cases hlt : k < t.length
      · obtain ⟨x, hx⟩ : ∃ x, t[k]? = some x := ⟨t[k], by simp [hlt]⟩
        obtain ⟨b, off, lv, rfl, _, _, c0, c1, c2, hps, hlv⟩ := elems_change h3 hx
        obtain ⟨la, lcap, rfl, _, _, _⟩ := rdv_slice hlv
        have c0 := hc.cellNever c0
        have c1 := hc.cellNever c1
        have c2 := hc.cellNever c2
        have hlv := hlv.never hc
        have HD := Lib.hid (drop_eq hx)
        have HPV := Lib.hid (prevC_succ hx)
        have HX := Lib.hid hx
        obtain ⟨hA, b0, b1, b2⟩ := box1_change wr 79 x.what x.path (.slice la x.hunks.length lcap) _ rfl
        clear hx
        by_cases p0 : changeFault x = 0
        · have HFF := Lib.hid p0
          clear p0
          go_wp2_with fail
          generalize wr.alloc (.cells #[.int .i64 x.what, .string x.path, .slice la x.hunks.length lcap] 79) = w3 at hA b0 b1 b2 ⊢
          have hc3 := hc.trans hA
          refine (patch_one_any x _ _ (hlv.never hA) m (hc3.cellNever hm)).mono ?_
          rintro e w4 ⟨rfl, hc4⟩
          have b1 := hc4.cellNever b1
          have hcD := hc3.trans hc4
          clear hc4 hc3 hA c0 c1 c2 b0 b2
          rw [HFF.out, errV_zero]
          rcases Nat.eq_zero_or_pos k with h0 | h0
          · subst h0
            have HNX : Hid (patchFault t = patchGo (0 + 1) (prevC t (0 + 1)) (t.drop (0 + 1))) := by rw [Hid, HPV.out, hG.out]; exact patchGo_next HD.out HFF.out rfl
            clear hG
            go_wp2_with fail
            go_quiet (fail)
            go_wp2_with fail
            go_roundw
            case rel => exact ⟨0 + 1, by omega, by go_num, hcD.drewN _, HNX⟩
            case measure => simp [intOf] <;> omega
          · obtain ⟨k', rfl⟩ : ∃ k', k = k' + 1 := ⟨k - 1, by omega⟩
            obtain ⟨y, hy⟩ : ∃ y, t[k']? = some y := ⟨t[k']'(by omega), by simp [show k' < t.length by omega]⟩
            obtain ⟨b', off', lv', hbo, _, _, _, y0, _, _, _⟩ := elems_change h3 hy
            simp only [Option.some.injEq, Addr.mk.injEq, and_true] at hbo
            obtain ⟨rfl, rfl⟩ := hbo
            have y0 := hcD.cellNever y0
            have HPY : Hid (prevC t (k' + 1) = some y.path) := prevC_succ hy
            have z1 : (k' : Int) + 1 - 1 = k' := by omega
            have z2 : decide ((0 : Int) < (k' : Int) + 1) = true := decide_eq_true (by omega)
            clear hy
            rcases less_tri x.path y.path with g | g | g
            · have HE : Hid (patchFault t = (k' + 1, 2)) := by rw [Hid, hG.out, HPY.out]; exact patchGo_order HD.out HFF.out (leqB_true.2 (less_asymm g))
              have a1 : Op.bytesLess x.path.toList y.path.toList = true := g
              clear g hG
              go_wp2_with fail
              go_quiet (fail)
              go_wp2_with fail; go_ret2; exact ⟨by rw [HE.out]; rfl, hcD.drewN _⟩
            · have HE : Hid (patchFault t = (k' + 1, 2)) := by rw [Hid, hG.out, HPY.out]; exact patchGo_order HD.out HFF.out (leqB_true.2 (by rw [g]; exact less_irrefl _))
              have a1 : Op.bytesLess x.path.toList y.path.toList = false := by rw [g]; exact bl_irrefl _
              have a2 : (x.path.toList == y.path.toList) = true := by rw [g]; exact beq_self_eq_true _
              clear g hG
              go_wp2_with fail
              go_quiet (fail)
              go_wp2_with fail; go_ret2; exact ⟨by rw [HE.out]; rfl, hcD.drewN _⟩
            · have HNX : Hid (patchFault t = patchGo (k' + 1 + 1) (prevC t (k' + 1 + 1)) (t.drop (k' + 1 + 1))) := by
                rw [Hid, HPV.out, hG.out]
                refine patchGo_next HD.out HFF.out ?_
                rw [HPY.out, Option.any_some, Bool.eq_false_iff]
                intro e
                rw [leqB_true.1 e] at g; cases g
              have a1 : Op.bytesLess x.path.toList y.path.toList = false := less_asymm g
              have a2 := str_beq_false (less_ne g).symm
              clear g hG
              go_wp2_with fail
              go_quiet (fail)
              go_wp2_with fail
              go_roundw
              case rel => exact ⟨k' + 1 + 1, by omega, by go_num, hcD.drewN _, HNX⟩
              case measure => simp [intOf] <;> omega
        · have HE : Hid (patchFault t = (k, changeFault x)) := by rw [Hid, hG.out, patchGo_bad HD.out p0]
          have P0 := Lib.hid p0
          clear p0 hG
          go_wp2_with fail
          generalize wr.alloc (.cells #[.int .i64 x.what, .string x.path, .slice la x.hunks.length lcap] 79) = w3 at hA b0 b1 b2 ⊢
          have hc3 := hc.trans hA
          refine (patch_one_any x _ _ (hlv.never hA) m (hc3.cellNever hm)).mono ?_
          rintro e w4 ⟨rfl, hc4⟩
          have b1 := hc4.cellNever b1
          have hcD := hc3.trans hc4
          clear hc4 hc3 hA c0 c1 c2 b0 b2
          rw [errV_pos P0.out]
          go_wp2_with fail
          go_ret2
          exact ⟨by rw [HE.out, errV_pos P0.out]; rfl, hcD⟩
      · obtain rfl : k = t.length := by omega
        have e := hG.out
        rw [patchGo_end] at e
        have HE := Lib.hid e
        clear hG e
        go_wp2_with fail
        go_ret2
        exact ⟨by rw [HE.out]; rfl, hc⟩
end Go.Proofs.YtmojaahkcpgfkaaGreatDoor
namespace Go.Proofs.YtmojaahkcpgfkaaGreatDoor

def textG (p : List Change) : List UInt8 := textL (linesG p)
def parseG (s : List UInt8) : List Change × Int :=
  if 400000 < s.length then ([], 5) else match changesG (parts 10 s).dropLast.length (parts 10 s).dropLast with
  | none => ([], 5)
  | some p => if (parts 10 s).getLast? ≠ some [] then ([], 5) else if (patchFault p).2 ≠ 0 then ([], (patchFault p).2) else (p, 0)
theorem parts_has {d c : UInt8} : ∀ {s : List UInt8}, c ∈ s → c = d ∨ ∃ x ∈ parts d s, c ∈ x
  | [], h => by cases h
  | e :: r, h => by
    obtain ⟨h', t, er⟩ := List.exists_cons_of_ne_nil (parts_ne d r)
    by_cases he : e = d
    · subst he
      rw [parts_sep]
      rcases List.mem_cons.1 h with rfl | h
      · exact .inl rfl
      · rcases parts_has (d := e) h with q | ⟨x, hx, q⟩
        · exact .inl q
        · exact .inr ⟨x, List.mem_cons_of_mem _ hx, q⟩
    · rw [parts_other he er]
      rcases List.mem_cons.1 h with rfl | h
      · exact .inr ⟨c :: h', List.mem_cons_self .., List.mem_cons_self ..⟩
      · rcases parts_has (d := d) h with q | ⟨x, hx, q⟩
        · exact .inl q
        · rw [er] at hx
          rcases List.mem_cons.1 hx with rfl | hx
          · exact .inr ⟨e :: x, List.mem_cons_self .., List.mem_cons_of_mem _ q⟩
          · exact .inr ⟨x, List.mem_cons_of_mem _ hx, q⟩
theorem path_fine {s : ByteArray} (h : pathFault s = 0) : s.data.toList.length ≤ 20 ∧ ∀ c ∈ s.data.toList, c ≠ 10 := by
  unfold pathFault at h
  by_cases hl : 20 < s.size
  · rw [if_pos hl] at h; cases h
  · rw [if_neg hl] at h
    refine ⟨by simpa using Nat.le_of_not_lt hl, fun c hc e => ?_⟩
    by_cases ha : (parts 47 s.data.toList).all nameOk = true
    · subst e
      rcases parts_has (d := 47) hc with q | ⟨x, hx, q⟩
      · exact absurd q (by decide)
      · have := List.all_eq_true.1 ha x hx
        unfold nameOk at this
        rw [Bool.and_eq_true] at this
        exact absurd (List.all_eq_true.1 this.2 10 q) (by decide)
    · rw [if_neg ha] at h; cases h
theorem change_ok {c : Change} (h : changeFault c = 0) : (c.what = 1 ∨ c.what = 2 ∨ c.what = 3) ∧ pathFault c.path = 0 ∧ (hunksFault c.hunks).2 = 0 := by
  unfold changeFault at h
  by_cases h1 : c.what < 1 ∨ 3 < c.what
  · rw [if_pos h1] at h; cases h
  · rw [if_neg h1] at h
    by_cases h2 : pathFault c.path ≠ 0
    · rw [if_pos h2] at h; exact absurd h h2
    · rw [if_neg h2] at h
      by_cases h3 : (hunksFault c.hunks).2 ≠ 0
      · rw [if_pos h3] at h; exact absurd h h3
      · exact ⟨by omega, by simpa using h2, by simpa using h3⟩
theorem hunks_short {l : List Hunk} (e : (hunksFault l).2 = 0) : (textL (linesU l)).length ≤ 11280 := by
  unfold hunksFault at e
  by_cases hl : 60 < l.length
  · rw [if_pos hl] at e; cases e
  · rw [if_neg hl] at e
    obtain ⟨_, _, h3⟩ := go_ok l 0 0 0 (by decide) (by decide) e
    omega
theorem noneL_10 : ∀ c ∈ noneL, c ≠ 10 := by decide
theorem from_fine (w : Int) {p : List UInt8} (h : p.length ≤ 20 ∧ ∀ c ∈ p, c ≠ 10) : (mmL ++ fromL w p).length ≤ 26 ∧ (∀ c ∈ mmL ++ fromL w p, c ≠ 10) ∧ (ppL ++ toL w p).length ≤ 26 ∧ (∀ c ∈ ppL ++ toL w p, c ≠ 10) := by
  have ha : ∀ c ∈ mmL, c ≠ 10 := by decide
  have hb : ∀ c ∈ ppL, c ≠ 10 := by decide
  have h1 : (fromL w p).length ≤ 22 ∧ ∀ c ∈ fromL w p, c ≠ 10 := by
    unfold fromL
    by_cases e : w = 2
    · rw [if_pos e]; exact ⟨by decide, noneL_10⟩
    · rw [if_neg e]
      refine ⟨by simp; omega, fun c hc => ?_⟩
      rcases List.mem_append.1 hc with q | q
      · exact (by decide : ∀ c ∈ ([97, 47] : List UInt8), c ≠ 10) c q
      · exact h.2 c q
  have h2 : (toL w p).length ≤ 22 ∧ ∀ c ∈ toL w p, c ≠ 10 := by
    unfold toL
    by_cases e : w = 3
    · rw [if_pos e]; exact ⟨by decide, noneL_10⟩
    · rw [if_neg e]
      refine ⟨by simp; omega, fun c hc => ?_⟩
      rcases List.mem_append.1 hc with q | q
      · exact (by decide : ∀ c ∈ ([98, 47] : List UInt8), c ≠ 10) c q
      · exact h.2 c q
  refine ⟨?_, fun c hc => ?_, ?_, fun c hc => ?_⟩
  · rw [List.length_append, show mmL.length = 4 from rfl]; omega
  · rcases List.mem_append.1 hc with q | q
    · exact ha c q
    · exact h1.2 c q
  · rw [List.length_append, show ppL.length = 4 from rfl]; omega
  · rcases List.mem_append.1 hc with q | q
    · exact hb c q
    · exact h2.2 c q
theorem changes_ok : ∀ (p : List Change), (∀ c ∈ p, changeFault c = 0) → (∀ x ∈ linesG p, ∀ c ∈ x, c ≠ 10) ∧ (textG p).length ≤ 11340 * p.length
  | [], _ => ⟨fun _ h => (by cases h), by show (0 : Nat) ≤ 0; omega⟩
  | c :: p, h => by
    obtain ⟨i1, i2⟩ := changes_ok p fun d hd => h d (List.mem_cons_of_mem _ hd)
    obtain ⟨_, q2, q3⟩ := change_ok (h c (List.mem_cons_self ..))
    obtain ⟨f1, f2, f3, f4⟩ := from_fine c.what (path_fine q2)
    have hs := hunks_short q3
    have hn := (hunks_ok q3).2.1
    have e : linesG (c :: p) = (mmL ++ fromL c.what c.path.data.toList) :: (ppL ++ toL c.what c.path.data.toList) :: (linesU c.hunks ++ linesG p) := rfl
    have et : (textG (c :: p)).length = (mmL ++ fromL c.what c.path.data.toList).length + 1 + ((ppL ++ toL c.what c.path.data.toList).length + 1 + ((textL (linesU c.hunks)).length + (textG p).length)) := by
      unfold textG
      rw [e]
      show ((mmL ++ fromL c.what c.path.data.toList) ++ [10] ++ ((ppL ++ toL c.what c.path.data.toList) ++ [10] ++ textL (linesU c.hunks ++ linesG p))).length = _
      rw [textL_app]
      simp only [List.length_append, List.length_singleton]
    refine ⟨fun x hx => ?_, by rw [et, List.length_cons]; omega⟩
    rw [e] at hx
    rcases List.mem_cons.1 hx with rfl | hx
    · exact f2
    · rcases List.mem_cons.1 hx with rfl | hx
      · exact f4
      · rcases List.mem_append.1 hx with hx | hx
        · exact hn x hx
        · exact i1 x hx
/-- what is printed is read -/
theorem git_back {p : List Change} (e : (patchFault p).2 = 0) : parseG (textG p) = (p, 0) := by
  have hlen : p.length ≤ 16 ∧ ∀ c ∈ p, changeFault c = 0 := by
    unfold patchFault at e
    by_cases h : 16 < p.length
    · rw [if_pos h] at e; cases e
    · rw [if_neg h] at e
      exact ⟨by omega, (patchGo_zero p 0 none e).1⟩
  obtain ⟨h1, h2⟩ := changes_ok p hlen.2
  have hp : parts 10 (textG p) = linesG p ++ [[]] := by
    have := parts_text (linesG p) [] h1
    rwa [List.append_nil] at this
  unfold parseG
  rw [if_neg (by omega), hp, List.dropLast_concat, changes_back p _ (Nat.le_refl _) fun c hc => ⟨(change_ok (hlen.2 c hc)).1, (hunks_ok (change_ok (hlen.2 c hc)).2.2).1⟩]
  simp only
  rw [if_neg (by rw [List.getLast?_append]; simp), if_neg (by rw [e]; simp)]
/-- what is read is printed so -/
theorem git_some {s : List UInt8} {p : List Change} (h : parseG s = (p, 0)) : textG p = s ∧ (patchFault p).2 = 0 := by
  unfold parseG at h
  by_cases hl : 400000 < s.length
  · rw [if_pos hl] at h
    injection h with _ h
    cases h
  · rw [if_neg hl] at h
    cases hc : changesG (parts 10 s).dropLast.length (parts 10 s).dropLast with
    | none =>
      rw [hc] at h
      injection h with _ h
      cases h
    | some q =>
      rw [hc] at h
      simp only at h
      by_cases hg : (parts 10 s).getLast? ≠ some []
      · rw [if_pos hg] at h
        injection h with _ h
        cases h
      · rw [if_neg hg] at h
        by_cases hf : (patchFault q).2 ≠ 0
        · rw [if_pos hf] at h
          injection h with _ h
          exact absurd h hf
        · rw [if_neg hf] at h
          injection h with h _
          subst h
          have hlast : (parts 10 s).getLast? = some [] := by
            by_cases z : (parts 10 s).getLast? = some []
            · exact z
            · exact absurd z hg
          refine ⟨?_, by simpa using hf⟩
          have := parts_flat 10 s
          rw [hlast, ← changes_some _ _ _ hc] at this
          simpa [textG, textL] using this
/-- how many lines it has -/
theorem git_lines : ∀ (p : List Change), (linesG p).length = (p.map fun c => 2 + (c.hunks.map fun h => 1 + h.marks.length).sum).sum
  | [] => rfl
  | c :: p => by
    have hu : ∀ l : List Hunk, (linesU l).length = (l.map fun h => 1 + h.marks.length).sum := fun l => by
      induction l with
      | nil => rfl
      | cons h l ih =>
        show (hunkL h ++ linesU l).length = _
        rw [List.length_append, ih, List.map_cons, List.sum_cons]
        unfold hunkL
        rw [List.length_cons, List.length_map, Nat.add_comm 1]
    show ((mmL ++ fromL c.what c.path.data.toList) :: (ppL ++ toL c.what c.path.data.toList) :: (linesU c.hunks ++ linesG p)).length = _
    rw [List.length_cons, List.length_cons, List.length_append, git_lines p, hu, List.map_cons, List.sum_cons]
    omega
end Go.Proofs.YtmojaahkcpgfkaaGreatDoor
namespace Go.Proofs.YtmojaahkcpgfkaaGreatDoor

def mmA : List UInt8 := [45, 45, 45, 32, 97, 47]
def ppB : List UInt8 := [43, 43, 43, 32, 98, 47]
def mmN : List UInt8 := [45, 45, 45, 32, 47, 100, 101, 118, 47, 110, 117, 108, 108]
def ppN : List UInt8 := [43, 43, 43, 32, 47, 100, 101, 118, 47, 110, 117, 108, 108]
theorem pre_pre (p q a : List UInt8) : dropPre (p ++ q) a = match dropPre p a with
    | none => none
    | some r => dropPre q r := by
  cases h : dropPre p a with
  | none =>
    simp only
    unfold dropPre at h ⊢
    rw [if_neg]
    intro e
    rw [if_pos] at h
    · cases h
    · obtain ⟨t, ht⟩ := List.isPrefixOf_iff_prefix.1 e
      exact List.isPrefixOf_iff_prefix.2 ⟨q ++ t, by rw [← ht]; simp⟩
  | some r =>
    have e := pre_some h
    subst e
    simp only
    unfold dropPre
    by_cases hq : q.isPrefixOf r = true
    · obtain ⟨t, ht⟩ := List.isPrefixOf_iff_prefix.1 hq
      rw [if_pos hq, if_pos (List.isPrefixOf_iff_prefix.2 ⟨t, by rw [← ht]; simp⟩), List.length_append, ← List.drop_drop, List.drop_left]
    · rw [if_neg hq, if_neg]
      intro e
      obtain ⟨t, ht⟩ := List.isPrefixOf_iff_prefix.1 e
      rw [List.append_assoc] at ht
      exact hq (List.isPrefixOf_iff_prefix.2 ⟨t, List.append_cancel_left ht⟩)
theorem pre_eq {p a x : List UInt8} (h : dropPre p a = some x) (n : List UInt8) : x = n ↔ a = p ++ n := by
  rw [pre_some h]
  exact ⟨fun e => by rw [e], fun e => List.append_cancel_left e⟩
theorem headed_ref (a b : List UInt8) : headedL a b =
    if mmA.isPrefixOf a = true ∧ ppB.isPrefixOf b = true ∧ a.drop 6 = b.drop 6 then some (1, a.drop 6)
    else if a = mmN ∧ ppB.isPrefixOf b = true then some (2, b.drop 6)
    else if mmA.isPrefixOf a = true ∧ b = ppN then some (3, a.drop 6) else none := by
  have hA : dropPre mmA a = match dropPre mmL a with
    | none => none
    | some r => dropPre [97, 47] r := pre_pre mmL [97, 47] a
  have hB : dropPre ppB b = match dropPre ppL b with
    | none => none
    | some r => dropPre [98, 47] r := pre_pre ppL [98, 47] b
  have iA : ∀ f, dropPre mmA a = some f → mmA.isPrefixOf a = true ∧ a.drop 6 = f := fun f e => by
    unfold dropPre at e
    by_cases q : mmA.isPrefixOf a = true
    · rw [if_pos q] at e
      injection e with e
      exact ⟨q, e⟩
    · rw [if_neg q] at e; cases e
  have nA : dropPre mmA a = none → ¬ mmA.isPrefixOf a = true := fun e q => by
    unfold dropPre at e
    rw [if_pos q] at e; cases e
  have iB : ∀ f, dropPre ppB b = some f → ppB.isPrefixOf b = true ∧ b.drop 6 = f := fun f e => by
    unfold dropPre at e
    by_cases q : ppB.isPrefixOf b = true
    · rw [if_pos q] at e
      injection e with e
      exact ⟨q, e⟩
    · rw [if_neg q] at e; cases e
  have nB : dropPre ppB b = none → ¬ ppB.isPrefixOf b = true := fun e q => by
    unfold dropPre at e
    rw [if_pos q] at e; cases e
  have mA : a = mmN → ¬ mmA.isPrefixOf a = true := fun e => by rw [e]; decide
  have mB : b = ppN → ¬ ppB.isPrefixOf b = true := fun e => by rw [e]; decide
  have hmN : mmN = mmL ++ noneL := rfl
  have hpN : ppN = ppL ++ noneL := rfl
  unfold headedL
  cases ha : dropPre mmL a with
  | none =>
    rw [ha] at hA
    have q1 := nA hA
    have q2 : a ≠ mmN := fun e => by rw [e, hmN, pre_app] at ha; cases ha
    rw [if_neg (fun q => q1 q.1), if_neg (fun q => q2 q.1), if_neg (fun q => q1 q.1)]
  | some x =>
    rw [ha] at hA
    simp only at hA
    cases hb : dropPre ppL b with
    | none =>
      rw [hb] at hB
      have q1 := nB hB
      have q2 : b ≠ ppN := fun e => by rw [e, hpN, pre_app] at hb; cases hb
      rw [if_neg (fun q => q1 q.2.1), if_neg (fun q => q1 q.2), if_neg (fun q => q2 q.2)]
    | some y =>
      rw [hb] at hB
      simp only at hB ⊢
      unfold headedR
      cases hf : dropPre [97, 47] x with
      | none =>
        rw [hf] at hA
        have q1 := nA hA
        rw [if_neg (fun q => q1 q.1), if_neg (c := _ ∧ b = ppN) (fun q => q1 q.1)]
        cases ht : dropPre [98, 47] y with
        | none =>
          rw [ht] at hB
          rw [if_neg (fun q => nB hB q.2)]
        | some t =>
          rw [ht] at hB
          obtain ⟨q2, q3⟩ := iB _ hB
          simp only
          by_cases e : x = noneL
          · rw [if_pos e, if_pos ⟨(pre_eq ha noneL).1 e, q2⟩, q3]
          · rw [if_neg e, if_neg (fun q => e ((pre_eq ha noneL).2 q.1))]
      | some f =>
        rw [hf] at hA
        obtain ⟨q1, q4⟩ := iA _ hA
        have q5 : ¬ (a = mmN ∧ ppB.isPrefixOf b = true) := fun q => mA q.1 q1
        cases ht : dropPre [98, 47] y with
        | none =>
          rw [ht] at hB
          have q2 := nB hB
          simp only
          have q6 : ¬ (mmA.isPrefixOf a = true ∧ ppB.isPrefixOf b = true ∧ a.drop 6 = b.drop 6) := fun q => q2 q.2.1
          by_cases e : y = noneL
          · rw [if_pos e, if_neg q6, if_neg q5, if_pos ⟨q1, (pre_eq hb noneL).1 e⟩, q4]
          · have q7 : ¬ (mmA.isPrefixOf a = true ∧ b = ppN) := fun q => e ((pre_eq hb noneL).2 q.2)
            rw [if_neg e, if_neg q6, if_neg q5, if_neg q7]
        | some t =>
          rw [ht] at hB
          obtain ⟨q2, q3⟩ := iB _ hB
          simp only
          rw [q3, q4]
          by_cases e : f = t
          · rw [if_pos e, if_pos ⟨q1, q2, e⟩]
          · rw [if_neg e, if_neg (fun q => e q.2.2), if_neg q5, if_neg (fun q => mB q.2 q2)]
/-! ### the loop -/
/-- what is read from a place on, behind what has been read -/
def ChgsInv (l : List (List UInt8)) (at_ : Nat) (L : List Change) : Prop := ∃ k, (l.drop at_).length ≤ k ∧ (changesG k (l.drop at_)).map (L ++ ·) = changesG l.length l
theorem cinv_start (l : List (List UInt8)) : ChgsInv l 0 [] := ⟨l.length, by simp, by simp⟩
theorem cinv_end {l : List (List UInt8)} {i : Nat} {L : List Change} (h : ChgsInv l i L) (hi : l.length ≤ i) : changesG l.length l = some L := by
  obtain ⟨k, _, h⟩ := h
  rw [List.drop_of_length_le hi, changesG] at h
  rw [← h]; simp
theorem cinv_one {l : List (List UInt8)} {i : Nat} {L : List Change} (h : ChgsInv l i L) (hi : i + 1 = l.length) : changesG l.length l = none := by
  obtain ⟨k, hk, h⟩ := h
  have hx : (l.drop i).length = 1 := by rw [List.length_drop]; omega
  obtain ⟨x, hx⟩ := List.length_eq_one_iff.1 hx
  rw [hx] at h hk
  obtain ⟨k, rfl⟩ : ∃ j, k = j + 1 := ⟨k - 1, by simp at hk; omega⟩
  rw [← h, changesG]; rfl
theorem cinv_head {l : List (List UInt8)} {i : Nat} {L : List Change} (h : ChgsInv l i L) {a b : List UInt8} {r : List (List UInt8)} (hd : l.drop i = a :: b :: r) (hh : headedL a b = none) : changesG l.length l = none := by
  obtain ⟨k, hk, h⟩ := h
  rw [hd] at h hk
  obtain ⟨k, rfl⟩ : ∃ j, k = j + 1 := ⟨k - 1, by simp at hk; omega⟩
  rw [← h, changesG, hh]; rfl
theorem cinv_take {l : List (List UInt8)} {i : Nat} {L : List Change} (h : ChgsInv l i L) {a b : List UInt8} {r : List (List UInt8)} (hd : l.drop i = a :: b :: r) {w : Int} {p : List UInt8} (hh : headedL a b = some (w, p)) (ht : takeU r [] 0 0 = none) : changesG l.length l = none := by
  obtain ⟨k, hk, h⟩ := h
  rw [hd] at h hk
  obtain ⟨k, rfl⟩ : ∃ j, k = j + 1 := ⟨k - 1, by simp at hk; omega⟩
  rw [← h, changesG, hh]
  simp only
  rw [ht]; rfl
theorem cinv_step {l : List (List UInt8)} {i j : Nat} {L : List Change} (h : ChgsInv l i L) {a b : List UInt8} {r : List (List UInt8)} (hd : l.drop i = a :: b :: r) {w : Int} {p : List UInt8} (hh : headedL a b = some (w, p)) {hs : List Hunk} (ht : takeU r [] 0 0 = some (hs, l.drop j)) (hj : i + 2 ≤ j) : ChgsInv l j (L ++ [⟨w, toB p, hs⟩]) := by
  obtain ⟨k, hk, h⟩ := h
  have hl : (l.drop i).length = r.length + 2 := by rw [hd]; rfl
  rw [hd] at h hk
  obtain ⟨k, rfl⟩ : ∃ j, k = j + 1 := ⟨k - 1, by simp at hk; omega⟩
  refine ⟨k, ?_, ?_⟩
  · rw [List.length_drop] at hl ⊢
    simp at hk
    omega
  · rw [← h, changesG, hh]
    simp only
    rw [ht]
    simp only
    cases changesG k (l.drop j) with
    | none => rfl
    | some q => simp
theorem parseG_none {s : List UInt8} (h : changesG (parts 10 s).dropLast.length (parts 10 s).dropLast = none) : parseG s = ([], 5) := by
  unfold parseG
  by_cases hl : 400000 < s.length
  · rw [if_pos hl]
  · rw [if_neg hl, h]
theorem parseG_some {s : List UInt8} {p : List Change} (hl : s.length ≤ 400000) (h : changesG (parts 10 s).dropLast.length (parts 10 s).dropLast = some p) (hx : (parts 10 s).getLast? = some []) : parseG s = if (patchFault p).2 ≠ 0 then ([], (patchFault p).2) else (p, 0) := by
  unfold parseG
  rw [if_neg (by omega), h]
  simp only
  rw [if_neg (by simpa using hx)]
theorem parseG_last {s : List UInt8} (hx : (parts 10 s).getLast? ≠ some []) : parseG s = ([], 5) := by
  unfold parseG
  by_cases hl : 400000 < s.length
  · rw [if_pos hl]
  · rw [if_neg hl]
    cases changesG (parts 10 s).dropLast.length (parts 10 s).dropLast with
    | none => rfl
    | some p => simp only; rw [if_pos hx]
end Go.Proofs.YtmojaahkcpgfkaaGreatDoor
namespace Go.Proofs.YtmojaahkcpgfkaaGreatDoor
open Go.RowKit

/-- two lines, as the program reads them -/
theorem headed_tests (a b : List UInt8) : ∃ (p1 p2 p3 p4 : Bool) (a1 b1 f t : List UInt8), Lib.hasPrefix a mmL = p1 ∧ Lib.trimPrefix a mmL = a1 ∧ Lib.hasPrefix b ppL = p2 ∧ Lib.trimPrefix b ppL = b1 ∧
    Lib.hasPrefix a1 [97, 47] = p3 ∧ Lib.trimPrefix a1 [97, 47] = f ∧ Lib.hasPrefix b1 [98, 47] = p4 ∧ Lib.trimPrefix b1 [98, 47] = t ∧
    (p3 = true → a1 ≠ noneL) ∧ (p4 = true → b1 ≠ noneL) ∧ f.length ≤ a.length ∧ t.length ≤ b.length ∧
    headedL a b = if p1 = false ∨ p2 = false then none else if p3 = true ∧ p4 = true ∧ f = t then some (1, f) else if a1 = noneL ∧ p4 = true then some (2, t) else if p3 = true ∧ b1 = noneL then some (3, f) else none := by
  have tl : ∀ x p : List UInt8, (Lib.trimPrefix x p).length ≤ x.length := fun x p => by
    unfold Lib.trimPrefix; split
    · rw [List.length_drop]; omega
    · exact Nat.le_refl _
  have hn : ∀ (x : List UInt8), Lib.hasPrefix x [97, 47] = true → x ≠ noneL := fun x h e => by rw [e] at h; exact absurd h (by decide)
  have hm : ∀ (x : List UInt8), Lib.hasPrefix x [98, 47] = true → x ≠ noneL := fun x h e => by rw [e] at h; exact absurd h (by decide)
  refine ⟨_, _, _, _, _, _, _, _, rfl, rfl, rfl, rfl, rfl, rfl, rfl, rfl, hn _, hm _, Nat.le_trans (tl _ _) (tl _ _), Nat.le_trans (tl _ _) (tl _ _), ?_⟩
  unfold headedL
  rcases lib_pre a mmL with ⟨h1, h2, h3⟩ | ⟨x, h1, h2, h3⟩
  · rw [h1, h2, if_pos (.inl rfl)]
  · rcases lib_pre b ppL with ⟨g1, g2, g3⟩ | ⟨y, g1, g2, g3⟩
    · rw [h1, g1, g2, if_pos (.inr rfl)]
    · rw [h1, h2, h3, g1, g2, g3, if_neg (by simp)]
      simp only
      unfold headedR
      rcases lib_pre x [97, 47] with ⟨k1, k2, k3⟩ | ⟨f, k1, k2, k3⟩
      · rcases lib_pre y [98, 47] with ⟨j1, j2, j3⟩ | ⟨t, j1, j2, j3⟩
        · rw [k1, j1, k2, j2]; simp
        · rw [k1, j1, k2, j2, j3]; simp
      · have q := hn x k2
        rcases lib_pre y [98, 47] with ⟨j1, j2, j3⟩ | ⟨t, j1, j2, j3⟩
        · rw [k1, j1, k2, j2, k3]; simp
        · have q2 := hm y j2
          rw [k1, j1, k2, j2, k3, j3]; simp [q, q2]
def HeadPost (a b : List UInt8) (w : World) (e : Ending) (w' : World) : Prop :=
  Chg Never w w' ∧ match headedL a b with
  | none => e = .returned (.tuple #[.agg #[.int .i64 0, .string ⟨#[]⟩, .slice none 0 0], .bool false])
  | some (k, p) => e = .returned (.tuple #[.agg #[.int .i64 k, .string (toB p), .slice none 0 0], .bool true])
theorem headPost_no {a b : List UInt8} {w w' : World} {e : Ending} (h : headedL a b = none) (hc : Chg Never w w') (he : e = .returned (.tuple #[.agg #[.int .i64 0, .string ⟨#[]⟩, .slice none 0 0], .bool false])) : HeadPost a b w e w' := ⟨hc, by rw [h]; exact he⟩
theorem headPost_yes {a b p : List UInt8} {k : Int} {w w' : World} {e : Ending} (h : headedL a b = some (k, p)) (hc : Chg Never w w') (he : e = .returned (.tuple #[.agg #[.int .i64 k, .string (toB p), .slice none 0 0], .bool true])) : HeadPost a b w e w' := ⟨hc, by rw [h]; exact he⟩
theorem str_eq_iff (x y : List UInt8) : ((toB x).toList == (toB y).toList) = decide (x = y) := by
  rw [Lib.toList_data, Lib.toList_data, toB_data, toB_data]
  by_cases h : x = y <;> simp [h]
theorem str_eq_lit (x y : List UInt8) : ((toB x).toList == y) = decide (x = y) := by
  rw [Lib.toList_data, toB_data]
  by_cases h : x = y <;> simp [h]

set_option maxHeartbeats 2000000 in
set_option maxRecDepth 100000 in
theorem headed_any (a b : ByteArray) (w : World) (_ha : a.size ≤ 1000000000) (_hb : b.size ≤ 1000000000) :
    Calls Tryz.prog 57 #[.string a, .string b] w (HeadPost a.data.toList b.data.toList w) := by
  obtain ⟨p1, p2, p3, p4, a1, b1', f, t, e1, e2, e3, e4, e5, e6, e7, e8, q1, q2, -, -, hh⟩ := headed_tests a.data.toList b.data.toList
  have HH := Lib.hid hh
  have E1 := Lib.hid e1
  have E2 := Lib.hid e2
  have E3 := Lib.hid e3
  have E4 := Lib.hid e4
  have E5 := Lib.hid e5
  have E6 := Lib.hid e6
  have E7 := Lib.hid e7
  have E8 := Lib.hid e8
  have hA0 : Chg Never w (w.alloc (.cells #[.int .i64 0, .string ⟨#[]⟩, .slice none 0 0] 79)) := (Chg.refl Never w).alloc _
  have hB0 := Blk3.new w 79 (.int .i64 0) (.string ⟨#[]⟩) (.slice none 0 0)
  clear e1 e2 e3 e4 e5 e6 e7 e8 hh
  go_enter Tryz.func57, Tryz.ntmps57
  go_wp2_with fail
  obtain ⟨w0, hw0⟩ : ∃ w0, w.alloc (.cells #[.int .i64 0, .string ⟨#[]⟩, .slice none 0 0] 79) = w0 := ⟨_, rfl⟩
  obtain ⟨wb, hwbe⟩ : ∃ wb, w.heap.size = wb := ⟨_, rfl⟩
  have hwb : w.heap.size ≤ wb := Nat.le_of_eq hwbe
  rw [hw0] at hA0 hB0 ⊢
  rw [hwbe] at hB0 ⊢
  clear hw0 hwbe
  refine (Tryz.strings_CutPrefix a (toB mmL) _).mono ?_
  rintro e w1 ⟨rfl, rfl⟩
  rename World => w0
  rw [toB_data, E1.out, E2.out, show (⟨a1.toArray⟩ : ByteArray) = toB a1 from rfl]
  go_wp2_with fail
  refine (Tryz.strings_CutPrefix b (toB ppL) _).mono ?_
  rintro e w1 ⟨rfl, rfl⟩
  rename World => w0
  rw [toB_data, E3.out, E4.out, show (⟨b1'.toArray⟩ : ByteArray) = toB b1' from rfl]
  go_wp2_with fail
  refine (Tryz.strings_CutPrefix (toB a1) (toB [97, 47]) _).mono ?_
  rintro e w1 ⟨rfl, rfl⟩
  rename World => w0
  rw [toB_data, toB_data, E5.out, E6.out, show (⟨f.toArray⟩ : ByteArray) = toB f from rfl]
  go_wp2_with fail
  refine (Tryz.strings_CutPrefix (toB b1') (toB [98, 47]) _).mono ?_
  rintro e w1 ⟨rfl, rfl⟩
  rename World => w0
  rw [toB_data, toB_data, E7.out, E8.out, show (⟨t.toArray⟩ : ByteArray) = toB t from rfl]
  have hA := hA0
  have hB := hB0
  obtain ⟨b0, b1, b2⟩ := hB.cell
  have f0 := hB.free 0
  have f1 := hB.free 1
  have f2 := hB.free 2
  have S0 := cell_put_eq b0
  have S1 := cell_put_eq b1
  have S2 := cell_put_eq b2
  clear hA0 hB0 E1 E2 E3 E4 E5 E6 E7 E8
  have eft := str_eq_iff f t
  have ean : ((toB a1).toList == [47, 100, 101, 118, 47, 110, 117, 108, 108]) = decide (a1 = noneL) := str_eq_lit a1 noneL
  have ebn : ((toB b1').toList == [47, 100, 101, 118, 47, 110, 117, 108, 108]) = decide (b1' = noneL) := str_eq_lit b1' noneL
  cases p1 with
  | false =>
    clear eft ean ebn q1 q2
    have hr : Hid (headedL a.data.toList b.data.toList = none) := by
      rw [Hid, HH.out]
      rw [if_pos (.inl rfl)]
    clear HH
    go_wp2_with fail
    refine bodyPost_ret (v := .tuple #[.agg #[.int .i64 0, .string ⟨#[]⟩, .slice none 0 0], .bool false]) (by simp [results, Tryz.results57, go_sem, b0, b1, b2]) rfl ?_
    exact headPost_no hr.out hA rfl
  | true =>
    cases p2 with
    | false =>
      clear eft ean ebn q1 q2
      have hr : Hid (headedL a.data.toList b.data.toList = none) := by
        rw [Hid, HH.out]
        rw [if_pos (.inr rfl)]
      clear HH
      go_wp2_with fail
      refine bodyPost_ret (v := .tuple #[.agg #[.int .i64 0, .string ⟨#[]⟩, .slice none 0 0], .bool false]) (by simp [results, Tryz.results57, go_sem, b0, b1, b2]) rfl ?_
      exact headPost_no hr.out hA rfl
    | true =>
      have HH : Hid (headedL a.data.toList b.data.toList = if p3 = true ∧ p4 = true ∧ f = t then some (1, f) else if a1 = noneL ∧ p4 = true then some (2, t) else if p3 = true ∧ b1' = noneL then some (3, f) else none) := by
        have := HH.out
        rw [if_neg (by simp)] at this
        exact this
      cases p3 with
      | true =>
        rw [decide_eq_false (q1 rfl)] at ean
        have nA := Lib.hid (q1 rfl)
        cases p4 with
        | true =>
          rw [decide_eq_false (q2 rfl)] at ebn
          have nB := Lib.hid (q2 rfl)
          by_cases h : f = t
          · rw [decide_eq_true h] at eft
            have HFT := Lib.hid h
            clear q1 q2 h
            have hr : Hid (headedL a.data.toList b.data.toList = some (1, f)) := by
              rw [Hid, HH.out]
              rw [if_pos ⟨rfl, rfl, HFT.out⟩]
            have hBF := ((hB.set0 (.int .i64 1)).set1 (.string (toB f))).set2 (.slice none 0 0)
            have hCF := ((hA.setCell (p := ⟨wb, 0, none⟩) (.inl hwb) (.int .i64 1)).setCell (p := ⟨wb, 1, none⟩) (.inl hwb) (.string (toB f))).setCell (p := ⟨wb, 2, none⟩) (.inl hwb) (.slice none 0 0)
            clear HH S0 S1 S2
            go_wp2_with fail
            obtain ⟨d0, d1, d2⟩ := hBF.cell
            refine bodyPost_ret (v := .tuple #[.agg #[.int .i64 1, .string (toB f), .slice none 0 0], .bool true]) (by simp [results, Tryz.results57, go_sem, d0, d1, d2]) rfl ?_
            exact headPost_yes hr.out hCF rfl
          · rw [decide_eq_false h] at eft
            have HFT := Lib.hid h
            clear q1 q2 h
            have hr : Hid (headedL a.data.toList b.data.toList = none) := by
              rw [Hid, HH.out]
              rw [if_neg (fun q => HFT.out q.2.2), if_neg (fun q => nA.out q.1), if_neg (fun q => nB.out q.2)]
            clear HH
            go_wp2_with fail
            refine bodyPost_ret (v := .tuple #[.agg #[.int .i64 0, .string ⟨#[]⟩, .slice none 0 0], .bool false]) (by simp [results, Tryz.results57, go_sem, b0, b1, b2]) rfl ?_
            exact headPost_no hr.out hA rfl
        | false =>
          by_cases h : b1' = noneL
          · rw [decide_eq_true h] at ebn
            have HFT := Lib.hid h
            clear q1 q2 h
            have hr : Hid (headedL a.data.toList b.data.toList = some (3, f)) := by
              rw [Hid, HH.out]
              rw [if_neg (by simp), if_neg (by simp), if_pos ⟨rfl, HFT.out⟩]
            have hBF := ((hB.set0 (.int .i64 3)).set1 (.string (toB f))).set2 (.slice none 0 0)
            have hCF := ((hA.setCell (p := ⟨wb, 0, none⟩) (.inl hwb) (.int .i64 3)).setCell (p := ⟨wb, 1, none⟩) (.inl hwb) (.string (toB f))).setCell (p := ⟨wb, 2, none⟩) (.inl hwb) (.slice none 0 0)
            clear HH S0 S1 S2
            go_wp2_with fail
            obtain ⟨d0, d1, d2⟩ := hBF.cell
            refine bodyPost_ret (v := .tuple #[.agg #[.int .i64 3, .string (toB f), .slice none 0 0], .bool true]) (by simp [results, Tryz.results57, go_sem, d0, d1, d2]) rfl ?_
            exact headPost_yes hr.out hCF rfl
          · rw [decide_eq_false h] at ebn
            have HFT := Lib.hid h
            clear q1 q2 h
            have hr : Hid (headedL a.data.toList b.data.toList = none) := by
              rw [Hid, HH.out]
              rw [if_neg (by simp), if_neg (by simp), if_neg (fun q => HFT.out q.2)]
            clear HH
            go_wp2_with fail
            refine bodyPost_ret (v := .tuple #[.agg #[.int .i64 0, .string ⟨#[]⟩, .slice none 0 0], .bool false]) (by simp [results, Tryz.results57, go_sem, b0, b1, b2]) rfl ?_
            exact headPost_no hr.out hA rfl
      | false =>
        by_cases h : a1 = noneL
        · rw [decide_eq_true h] at ean
          have HFT := Lib.hid h
          clear q1 q2 h
          cases p4 with
          | true =>
            have hr : Hid (headedL a.data.toList b.data.toList = some (2, t)) := by
              rw [Hid, HH.out]
              rw [if_neg (by simp), if_pos ⟨HFT.out, rfl⟩]
            have hBF := ((hB.set0 (.int .i64 2)).set1 (.string (toB t))).set2 (.slice none 0 0)
            have hCF := ((hA.setCell (p := ⟨wb, 0, none⟩) (.inl hwb) (.int .i64 2)).setCell (p := ⟨wb, 1, none⟩) (.inl hwb) (.string (toB t))).setCell (p := ⟨wb, 2, none⟩) (.inl hwb) (.slice none 0 0)
            clear HH S0 S1 S2
            go_wp2_with fail
            obtain ⟨d0, d1, d2⟩ := hBF.cell
            refine bodyPost_ret (v := .tuple #[.agg #[.int .i64 2, .string (toB t), .slice none 0 0], .bool true]) (by simp [results, Tryz.results57, go_sem, d0, d1, d2]) rfl ?_
            exact headPost_yes hr.out hCF rfl
          | false =>
            have hr : Hid (headedL a.data.toList b.data.toList = none) := by
              rw [Hid, HH.out]
              rw [if_neg (by simp), if_neg (by simp), if_neg (by simp)]
            clear HH
            go_wp2_with fail
            refine bodyPost_ret (v := .tuple #[.agg #[.int .i64 0, .string ⟨#[]⟩, .slice none 0 0], .bool false]) (by simp [results, Tryz.results57, go_sem, b0, b1, b2]) rfl ?_
            exact headPost_no hr.out hA rfl
        · rw [decide_eq_false h] at ean
          have HFT := Lib.hid h
          clear q1 q2 h
          cases p4 with
          | true =>
            have hr : Hid (headedL a.data.toList b.data.toList = none) := by
              rw [Hid, HH.out]
              rw [if_neg (by simp), if_neg (fun q => HFT.out q.1), if_neg (by simp)]
            clear HH
            go_wp2_with fail
            refine bodyPost_ret (v := .tuple #[.agg #[.int .i64 0, .string ⟨#[]⟩, .slice none 0 0], .bool false]) (by simp [results, Tryz.results57, go_sem, b0, b1, b2]) rfl ?_
            exact headPost_no hr.out hA rfl
          | false =>
            have hr : Hid (headedL a.data.toList b.data.toList = none) := by
              rw [Hid, HH.out]
              rw [if_neg (by simp), if_neg (by simp), if_neg (by simp)]
            clear HH
            go_wp2_with fail
            refine bodyPost_ret (v := .tuple #[.agg #[.int .i64 0, .string ⟨#[]⟩, .slice none 0 0], .bool false]) (by simp [results, Tryz.results57, go_sem, b0, b1, b2]) rfl ?_
            exact headPost_no hr.out hA rfl
end Go.Proofs.YtmojaahkcpgfkaaGreatDoor
namespace Go.Proofs.YtmojaahkcpgfkaaGreatDoor
open Go.RowKit

def gitR (p : List Change) : ByteArray := if (patchFault p).2 = 0 then toB (textG p) else ByteArray.empty
theorem textG_take {p : List Change} {k : Nat} {x : Change} (hx : p[k]? = some x) : textG (p.take (k + 1)) = textG (p.take k) ++ (mmL ++ fromL x.what x.path.data.toList ++ [10] ++ (ppL ++ toL x.what x.path.data.toList ++ [10]) ++ textU x.hunks) := by
  unfold textG linesG textU
  rw [List.take_add_one, hx, Option.toList_some, List.flatMap_append, textL_app]
  congr 1
  simp only [List.flatMap_cons, List.flatMap_nil, List.append_nil]
  show textL ((mmL ++ fromL x.what x.path.data.toList) :: (ppL ++ toL x.what x.path.data.toList) :: linesU x.hunks) = _
  simp [textL]
theorem textG_mono {p : List Change} {k : Nat} : (textG (p.take k)).length ≤ (textG p).length := by
  conv => rhs; rw [← List.take_append_drop k p]
  unfold textG linesG
  rw [List.flatMap_append, textL_app, List.length_append]
  omega
/-- a change's two lines, as the walk writes them -/
theorem two_lines (f t : List UInt8) : toB mmL ++ toB f ++ toB [10, 43, 43, 43, 32] ++ toB t ++ toB [10] = toB (mmL ++ f ++ [10] ++ (ppL ++ t ++ [10])) := by
  apply ByteArray.ext
  apply Array.toList_inj.1
  simp only [bytes_append, toB_data]
  unfold ppL
  simp
theorem patch_each {p : List Change} (e : (patchFault p).2 = 0) : p.length ≤ 16 ∧ ∀ c ∈ p, changeFault c = 0 := by
  unfold patchFault at e
  by_cases h : 16 < p.length
  · rw [if_pos h] at e; cases e
  · rw [if_neg h] at e
    exact ⟨by omega, (patchGo_zero p 0 none e).1⟩

theorem gp_str (w : Int) (path F T : ByteArray) (hF : F = toB (fromL w path.data.toList)) (hT : T = toB (toL w path.data.toList)) :
    (⟨#[45, 45, 45, 32]⟩ : ByteArray) ++ F ++ ⟨#[10, 43, 43, 43, 32]⟩ ++ T ++ ⟨#[10]⟩ = toB (mmL ++ fromL w path.data.toList ++ [10] ++ (ppL ++ toL w path.data.toList ++ [10])) := by
  subst hF hT
  exact two_lines _ _
theorem gp_pre (a b : UInt8) (path : ByteArray) : (⟨#[a, b]⟩ : ByteArray) ++ path = toB ([a, b] ++ path.data.toList) := by
  apply ByteArray.ext
  apply Array.toList_inj.1
  rw [bytes_append, toB_data]
set_option maxHeartbeats 2000000 in
set_option maxRecDepth 100000 in
theorem gitprint_any (p : List Change) (v : Value) (w : World) (h : Rdv w Never v p) (m : Int) (hm : w.cell? ⟨1, 0, none⟩ = some (.int .i64 m)) :
    Calls Tryz.prog 16 #[v] w fun e w' => e = .returned (.tuple #[.string (gitR p), errV (patchFault p).2]) ∧ Chg Never w w' := by
  by_cases hz : (patchFault p).2 = 0
  · obtain ⟨p16, pall⟩ := patch_each hz
    have hTL := (changes_ok p pall).2
    have HALL := Lib.hid pall
    have HZ := Lib.hid hz
    have HR : Hid (gitR p = ⟨(textG p).toArray⟩) := by unfold Hid gitR; rw [if_pos hz]; rfl
    have hv := h
    obtain ⟨a, cap, rfl, h1, h2, -⟩ := rdv_slice h
    unfold maxLen at h2
    clear hz pall h
    go_enter Tryz.func16, Tryz.ntmps16
    go_wp2_with fail
    refine (patch_check_any p _ _ hv m hm).mono ?_
    rintro e w1 ⟨rfl, hc1⟩
    rw [HZ.out, errV_zero]
    generalize (patchFault p).1 = at0
    go_wp2_with fail
    have hv1 : Rdv w1 (From w1.heap.size) (.slice a p.length cap) p := hv.keep hc1 (fun _ _ h => h.elim) (fun k hk h => by unfold From at h; have := hc1.size; omega)
    obtain ⟨a', cap', hq, -, -, h3⟩ := rdv_slice hv1
    injection hq with hq1 _ hq2
    subst hq1 hq2
    go_loopw [21] (fun i wr => ∃ k : Nat, k ≤ p.length ∧ i = .int .i64 k ∧ IsB w1.heap.size w1.heap.size (Lib.byteCells (textG (p.take k))) wr ∧ Below w1.heap.size w1 wr) (fun i _ => p.length - (intOf i).toNat)
    case atStart => exact ⟨0, Nat.zero_le _, rfl, Lib.IsBuilderF.of (Lib.fresh_isBuilder _ _ w1), (Below.refl _ w1).alloc (Nat.le_refl _) _⟩
    case round =>
      obtain ⟨k, hk, rfl, hI, hb⟩ := hrel
      rename World => wr
      have hbs := hb.size
      by_cases hlt : k < p.length
      · obtain ⟨x, hx⟩ : ∃ x, p[k]? = some x := ⟨p[k], by simp [hlt]⟩
        obtain ⟨b', off, mv, rfl, hnb, -, c0, c1, c2, hxp, hmv⟩ := elems_change h3 hx
        have hcb := chg_below hb
        have c0 := hcb.cell c0 hnb
        have c1 := hcb.cell c1 hnb
        have c2 := hcb.cell c2 hnb
        have hmr : Rdv wr (From w1.heap.size) mv x.hunks := hmv.keep hcb (fun _ _ h => h) (fun _ _ h => h)
        obtain ⟨ma, mc, rfl, -, -, -⟩ := rdv_slice hmv
        obtain ⟨x1, x2, x3⟩ := change_ok (HALL.out x (List.mem_of_getElem? hx))
        obtain ⟨xl, -⟩ := path_fine x2
        have X3 := Lib.hid x3
        obtain ⟨ff1, -, ff2, -⟩ := from_fine x.what (path_fine x2)
        have HT := Lib.hid (textG_take hx)
        have hTk := @textG_mono p k
        have hTk1 := @textG_mono p (k + 1)
        have hA : Chg Never wr (wr.alloc (.cells #[.int .i64 x.what, .string x.path, .slice ma x.hunks.length mc] 79)) := (Chg.refl Never wr).alloc _
        have hbox := Blk3.new wr 79 (.int .i64 x.what) (.string x.path) (.slice ma x.hunks.length mc)
        have hbne : wr.heap.size ≠ w1.heap.size := by
          have : w1.heap.size < wr.heap.size := hI.elim (fun q => q.lt) (fun q => q.lt)
          omega
        obtain ⟨g0, g1, g2⟩ := hbox.cell
        have hIA := bld_keep hI hA
        have hmA := hmr.never hA
        have hbA := hb.trans (hA.never.mono hbs)
        have hpz : x.path.size ≤ 20 := by rw [Lib.size_eq]; exact xl
        have n1 : ¬ (9223372036854775807 < 2 + x.path.size) := by omega
        clear hx h3 hI hmr hmv x2 x3 xl
        go_wp2_with fail
        clear c0 c1 c2
        generalize wr.alloc (.cells #[.int .i64 x.what, .string x.path, .slice ma x.hunks.length mc] 79) = wA at hA hbox g0 g1 g2 hIA hmA hbA ⊢
        go_quiet (fail)
        have hcd : Chg Never wA (wA.drewN nq) := (Chg.refl Never wA).drewN nq
        have hbox2 := hbox.keep hcd (fun h => h)
        have hI2 := bld_keep hIA hcd
        have hm2 := hmA.never hcd
        have hb2 := hbA.trans (hcd.never.mono (Nat.le_trans hbs hA.size))
        generalize wA.drewN nq = w2 at hbox2 hI2 hm2 hb2 ⊢
        obtain ⟨g0, g1, g2⟩ := hbox2.cell
        clear hcd hbox hIA hmA hbA hA
        have hbs' : w1.heap.size ≤ w1.heap.size := Nat.le_refl _
        rcases x1 with x1 | x1 | x1
        · have q2 : (x.what == 2) = false := by rw [x1]; rfl
          have q3 : (x.what == 3) = false := by rw [x1]; rfl
          have XW := Lib.hid x1
          have HS : Hid ((⟨#[45, 45, 45, 32]⟩ : ByteArray) ++ ((⟨#[97, 47]⟩ : ByteArray) ++ x.path) ++ ⟨#[10, 43, 43, 43, 32]⟩ ++ ((⟨#[98, 47]⟩ : ByteArray) ++ x.path) ++ ⟨#[10]⟩ = toB (mmL ++ fromL x.what x.path.data.toList ++ [10] ++ (ppL ++ toL x.what x.path.data.toList ++ [10]))) := gp_str _ _ _ _ (by (rw [XW.out]; exact gp_pre 97 47 x.path)) (by (rw [XW.out]; exact gp_pre 98 47 x.path))
          have hLl : (mmL ++ fromL x.what x.path.data.toList ++ [10] ++ (ppL ++ toL x.what x.path.data.toList ++ [10])).length ≤ 60 := by
            simp only [List.length_append, List.length_cons, List.length_nil] at ff1 ff2 ⊢
            omega
          have hFz : ((⟨#[97, 47]⟩ : ByteArray) ++ x.path : ByteArray).size ≤ 22 := by (rw [ByteArray.size_append]; show 2 + x.path.size ≤ 22; omega)
          have hTz : ((⟨#[98, 47]⟩ : ByteArray) ++ x.path : ByteArray).size ≤ 22 := by (rw [ByteArray.size_append]; show 2 + x.path.size ≤ 22; omega)
          clear x1
          go_wp2_with fail
          clear g0 g1 g2
          have hbl : (Lib.byteCells (textG (p.take k))).length ≤ 181440 := by rw [Lib.byteCells_length]; omega
          refine (bldk_string w1.heap.size w1.heap.size _ _ _ hI2 (by rw [HS.out, toB_size']; omega) (Nat.le_trans hbs' hb2.size)).mono ?_
          rintro e w4 ⟨rfl, hI4, b4, k4⟩
          rw [HS.out, cells_toB, ← Lib.byteCells_append] at hI4
          have hc4 := chg_below b4
          have hm4 : Rdv w4 (From w1.heap.size) (.slice ma x.hunks.length mc) x.hunks := hm2.keep hc4 (fun _ _ h => h) (fun _ _ h => h)
          obtain ⟨-, -, g2⟩ := (k4.blk3 hbox2 hbne (by decide)).cell
          have hb4 := hb2.trans b4
          clear hm2 hI2 k4 hbox2 HS hc4
          go_wp2_with fail
          clear g2
          refine (write_any w1.heap.size w1.heap.size _ x.hunks _ _ hm4 (.inr hI4) X3.out (by rw [Lib.byteCells_length, List.length_append]; rw [Lib.byteCells_length] at hbl; omega) (Nat.le_trans hbs' hb4.size)).mono ?_
          rintro e w5 ⟨rfl, hI5, b5⟩
          rw [← Lib.byteCells_append, List.append_assoc, ← HT.out] at hI5
          go_wp2_with fail
          go_roundw
          case rel => exact ⟨k + 1, by omega, by go_num, hI5, hb4.trans b5⟩
          case measure => simp [intOf]; omega
        · have q2 : (x.what == 2) = true := by rw [x1]; rfl
          have q3 : (x.what == 3) = false := by rw [x1]; rfl
          have XW := Lib.hid x1
          have HS : Hid ((⟨#[45, 45, 45, 32]⟩ : ByteArray) ++ ((⟨#[47, 100, 101, 118, 47, 110, 117, 108, 108]⟩ : ByteArray)) ++ ⟨#[10, 43, 43, 43, 32]⟩ ++ ((⟨#[98, 47]⟩ : ByteArray) ++ x.path) ++ ⟨#[10]⟩ = toB (mmL ++ fromL x.what x.path.data.toList ++ [10] ++ (ppL ++ toL x.what x.path.data.toList ++ [10]))) := gp_str _ _ _ _ (by (rw [XW.out]; rfl)) (by (rw [XW.out]; exact gp_pre 98 47 x.path))
          have hLl : (mmL ++ fromL x.what x.path.data.toList ++ [10] ++ (ppL ++ toL x.what x.path.data.toList ++ [10])).length ≤ 60 := by
            simp only [List.length_append, List.length_cons, List.length_nil] at ff1 ff2 ⊢
            omega
          have hFz : ((⟨#[47, 100, 101, 118, 47, 110, 117, 108, 108]⟩ : ByteArray) : ByteArray).size ≤ 22 := by decide
          have hTz : ((⟨#[98, 47]⟩ : ByteArray) ++ x.path : ByteArray).size ≤ 22 := by (rw [ByteArray.size_append]; show 2 + x.path.size ≤ 22; omega)
          clear x1
          go_wp2_with fail
          clear g0 g1 g2
          have hbl : (Lib.byteCells (textG (p.take k))).length ≤ 181440 := by rw [Lib.byteCells_length]; omega
          refine (bldk_string w1.heap.size w1.heap.size _ _ _ hI2 (by rw [HS.out, toB_size']; omega) (Nat.le_trans hbs' hb2.size)).mono ?_
          rintro e w4 ⟨rfl, hI4, b4, k4⟩
          rw [HS.out, cells_toB, ← Lib.byteCells_append] at hI4
          have hc4 := chg_below b4
          have hm4 : Rdv w4 (From w1.heap.size) (.slice ma x.hunks.length mc) x.hunks := hm2.keep hc4 (fun _ _ h => h) (fun _ _ h => h)
          obtain ⟨-, -, g2⟩ := (k4.blk3 hbox2 hbne (by decide)).cell
          have hb4 := hb2.trans b4
          clear hm2 hI2 k4 hbox2 HS hc4
          go_wp2_with fail
          clear g2
          refine (write_any w1.heap.size w1.heap.size _ x.hunks _ _ hm4 (.inr hI4) X3.out (by rw [Lib.byteCells_length, List.length_append]; rw [Lib.byteCells_length] at hbl; omega) (Nat.le_trans hbs' hb4.size)).mono ?_
          rintro e w5 ⟨rfl, hI5, b5⟩
          rw [← Lib.byteCells_append, List.append_assoc, ← HT.out] at hI5
          go_wp2_with fail
          go_roundw
          case rel => exact ⟨k + 1, by omega, by go_num, hI5, hb4.trans b5⟩
          case measure => simp [intOf]; omega
        · have q2 : (x.what == 2) = false := by rw [x1]; rfl
          have q3 : (x.what == 3) = true := by rw [x1]; rfl
          have XW := Lib.hid x1
          have HS : Hid ((⟨#[45, 45, 45, 32]⟩ : ByteArray) ++ ((⟨#[97, 47]⟩ : ByteArray) ++ x.path) ++ ⟨#[10, 43, 43, 43, 32]⟩ ++ ((⟨#[47, 100, 101, 118, 47, 110, 117, 108, 108]⟩ : ByteArray)) ++ ⟨#[10]⟩ = toB (mmL ++ fromL x.what x.path.data.toList ++ [10] ++ (ppL ++ toL x.what x.path.data.toList ++ [10]))) := gp_str _ _ _ _ (by (rw [XW.out]; exact gp_pre 97 47 x.path)) (by (rw [XW.out]; rfl))
          have hLl : (mmL ++ fromL x.what x.path.data.toList ++ [10] ++ (ppL ++ toL x.what x.path.data.toList ++ [10])).length ≤ 60 := by
            simp only [List.length_append, List.length_cons, List.length_nil] at ff1 ff2 ⊢
            omega
          have hFz : ((⟨#[97, 47]⟩ : ByteArray) ++ x.path : ByteArray).size ≤ 22 := by (rw [ByteArray.size_append]; show 2 + x.path.size ≤ 22; omega)
          have hTz : ((⟨#[47, 100, 101, 118, 47, 110, 117, 108, 108]⟩ : ByteArray) : ByteArray).size ≤ 22 := by decide
          clear x1
          go_wp2_with fail
          clear g0 g1 g2
          have hbl : (Lib.byteCells (textG (p.take k))).length ≤ 181440 := by rw [Lib.byteCells_length]; omega
          refine (bldk_string w1.heap.size w1.heap.size _ _ _ hI2 (by rw [HS.out, toB_size']; omega) (Nat.le_trans hbs' hb2.size)).mono ?_
          rintro e w4 ⟨rfl, hI4, b4, k4⟩
          rw [HS.out, cells_toB, ← Lib.byteCells_append] at hI4
          have hc4 := chg_below b4
          have hm4 : Rdv w4 (From w1.heap.size) (.slice ma x.hunks.length mc) x.hunks := hm2.keep hc4 (fun _ _ h => h) (fun _ _ h => h)
          obtain ⟨-, -, g2⟩ := (k4.blk3 hbox2 hbne (by decide)).cell
          have hb4 := hb2.trans b4
          clear hm2 hI2 k4 hbox2 HS hc4
          go_wp2_with fail
          clear g2
          refine (write_any w1.heap.size w1.heap.size _ x.hunks _ _ hm4 (.inr hI4) X3.out (by rw [Lib.byteCells_length, List.length_append]; rw [Lib.byteCells_length] at hbl; omega) (Nat.le_trans hbs' hb4.size)).mono ?_
          rintro e w5 ⟨rfl, hI5, b5⟩
          rw [← Lib.byteCells_append, List.append_assoc, ← HT.out] at hI5
          go_wp2_with fail
          go_roundw
          case rel => exact ⟨k + 1, by omega, by go_num, hI5, hb4.trans b5⟩
          case measure => simp [intOf]; omega
      · rw [List.take_of_length_le (by omega)] at hI
        go_wp2_with fail
        refine (Tryz.Builder_String_any_k w1.heap.size w1.heap.size (textG p) _ hI hbs).mono ?_
        rintro e w4 ⟨rfl, _, b4, _⟩
        go_wp2_with fail
        go_ret2
        exact ⟨by rw [HR.out, HZ.out]; rfl, hc1.trans (Chg.of_below (hb.trans b4))⟩
  · have HR : Hid (gitR p = ByteArray.empty) := if_neg hz
    have HZ := Lib.hid hz
    obtain ⟨a, cap, rfl, -, -, -⟩ := rdv_slice h
    go_enter Tryz.func16, Tryz.ntmps16
    go_wp2_with fail
    refine (patch_check_any p _ _ h m hm).mono ?_
    rintro e w1 ⟨rfl, hc1⟩
    rw [errV_pos hz]
    generalize (patchFault p).1 = at0
    clear hz
    go_wp2_with fail
    go_ret2
    exact ⟨by rw [HR.out, errV_pos HZ.out]; rfl, hc1⟩
end Go.Proofs.YtmojaahkcpgfkaaGreatDoor
