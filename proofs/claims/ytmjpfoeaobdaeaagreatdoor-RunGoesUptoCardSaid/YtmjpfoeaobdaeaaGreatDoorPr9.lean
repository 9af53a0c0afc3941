/-
  PARTS: PATCHES, in plain Lean (chapter 2): what may be one, what is done to a tree, turned it leads back.; FROM TREE TO TREE, in plain Lean: what is found between two trees is a patch and leads from the one to the other; between a tree and itself there is nothing.; MORE ON SLICES THAT append HAS BUILT.; THE WALKS of patch.all and of the document's whole.; WHAT THE DOCUMENT'S WAY BETWEEN TWO TREES NEEDS, in plain Lean: places and lookups, the merged list's length, what Make answers of valid lines.; CHANGES AS CELLS, and handstitchsame.Patches.; MORE ON ROWS THAT append HAS BUILT, whose elements lie elsewhere.
-/
import Derived.Test.YtmjpfoeaobdaeaaGreatDoorPr8
import Derived.Test.YtmjpfoeaobdaeaaGreatDoorPr6
import Derived.Test.YtmjpfoeaobdaeaaGreatDoorPr2
import Derived.Test.YtmjpfoeaobdaeaaGreatDoorPr5
import Derived.Test.YtmjpfoeaobdaeaaGreatDoorPr7
import Derived.Test.YtmjpfoeaobdaeaaGreatDoorPr4
import Derived.StillTailTactics
set_option linter.unusedVariables false
set_option linter.unusedSimpArgs false
namespace Go.Proofs.YtmjpfoeaobdaeaaGreatDoor

def wholeB (l : List Hunk) (s : Int) : Bool :=
  match l with
  | [] => true
  | [h] => decide (h.old = 0) && decide (h.new = 0) && h.marks.all fun m => decide (m.sign = s)
  | _ => false
def shapeB (c : Change) : Bool := if c.what = 2 then wholeB c.hunks 43 else if c.what = 3 then wholeB c.hunks 45 else !c.hunks.isEmpty
def changeFault (c : Change) : Int :=
  if c.what < 1 ∨ 3 < c.what then 1 else if pathFault c.path ≠ 0 then pathFault c.path else if (hunksFault c.hunks).2 ≠ 0 then (hunksFault c.hunks).2 else if shapeB c = true then 0 else 2
def patchGo : Nat → Option ByteArray → List Change → Nat × Int
  | _, _, [] => (0, 0)
  | i, prev, c :: r => if changeFault c ≠ 0 then (i, changeFault c) else if prev.any (fun p => leqB c.path p) = true then (i, 2) else patchGo (i + 1) (some c.path) r
def patchFault (p : List Change) : Nat × Int := if 16 < p.length then (0, 3) else patchGo 0 none p
def SortedC (p : List Change) : Prop := p.Pairwise fun c d => less c.path d.path = true
def Patch (p : List Change) : Prop := p.length ≤ 16 ∧ (∀ c ∈ p, changeFault c = 0) ∧ SortedC p

theorem patchGo_zero : ∀ (t : List Change) (i : Nat) (prev : Option ByteArray), (patchGo i prev t).2 = 0 → (∀ f ∈ t, changeFault f = 0) ∧ SortedC t ∧ (∀ p f, prev = some p → f ∈ t → less p f.path = true) ∧ patchGo i prev t = (0, 0)
  | [], _, _, _ => ⟨by simp, List.Pairwise.nil, by simp, rfl⟩
  | f :: r, i, prev, h => by
    rw [patchGo] at h ⊢
    by_cases h1 : changeFault f ≠ 0
    · rw [if_pos h1] at h; exact absurd h h1
    · rw [if_neg h1] at h ⊢
      by_cases h2 : prev.any (fun p => leqB f.path p) = true
      · rw [if_pos h2] at h; cases h
      · rw [if_neg h2] at h ⊢
        obtain ⟨i1, i2, i3, i4⟩ := patchGo_zero r (i + 1) (some f.path) h
        refine ⟨?_, ?_, ?_, i4⟩
        · intro x hx
          rcases List.mem_cons.1 hx with rfl | hx
          · simpa using h1
          · exact i1 x hx
        · exact List.Pairwise.cons (fun g hg => i3 f.path g rfl hg) i2
        · rintro p x rfl hx
          have hp : less p f.path = true := by
            simp only [Option.any_some] at h2
            rcases less_tri p f.path with g | g | g
            · exact g
            · exact absurd (leqB_true.2 (by rw [g]; exact less_irrefl _)) h2
            · exact absurd (leqB_true.2 (less_asymm g)) h2
          rcases List.mem_cons.1 hx with rfl | hx
          · exact hp
          · exact less_trans hp (i3 f.path x rfl hx)
theorem patchGo_ok : ∀ (t : List Change) (i : Nat) (prev : Option ByteArray), (∀ f ∈ t, changeFault f = 0) → SortedC t → (∀ p f, prev = some p → f ∈ t → less p f.path = true) → patchGo i prev t = (0, 0)
  | [], _, _, _, _, _ => rfl
  | f :: r, i, prev, h1, h2, h3 => by
    obtain ⟨g1, g2⟩ := List.pairwise_cons.1 h2
    have hp : ¬ prev.any (fun p => leqB f.path p) = true := by
      cases prev with
      | none => simp
      | some p =>
        simp only [Option.any_some]
        intro e
        have := leqB_true.1 e
        rw [h3 p f rfl (List.mem_cons_self ..)] at this
        cases this
    rw [patchGo, if_neg (by rw [h1 f (List.mem_cons_self ..)]; simp), if_neg hp]
    exact patchGo_ok r (i + 1) (some f.path) (fun x hx => h1 x (List.mem_cons_of_mem _ hx)) g2 (fun p x hp hx => by cases hp; exact g1 x hx)
theorem patch_ok {p : List Change} (h : Patch p) : patchFault p = (0, 0) := by
  unfold patchFault
  rw [if_neg (by have := h.1; omega)]
  exact patchGo_ok p 0 none h.2.1 h.2.2 (by simp)
theorem patch_of {p : List Change} (h : (patchFault p).2 = 0) : Patch p := by
  unfold patchFault at h
  by_cases h1 : 16 < p.length
  · rw [if_pos h1] at h; cases h
  · rw [if_neg h1] at h
    obtain ⟨i1, i2, _, _⟩ := patchGo_zero p 0 none h
    exact ⟨by omega, i1, i2⟩
/-! ### what a change does to what a path reads -/
def stepOf (x : Option (List ByteArray)) (c : Change) : Option (List ByteArray) × Int :=
  if c.what = 2 ∧ x.isSome = true then (none, 6)
  else if c.what ≠ 2 ∧ x.isSome = false then (none, 4)
  else if (strict (x.getD []) c.hunks).2.2 ≠ 0 then (none, (strict (x.getD []) c.hunks).2.2)
  else if c.what = 3 then (if (strict (x.getD []) c.hunks).1 = [] then (none, 0) else (none, 6))
  else (some (strict (x.getD []) c.hunks).1, 0)
def setAt (t : List File) (p : ByteArray) (y : Option (List ByteArray)) : List File :=
  match y with
  | some l => putAt t ⟨p, l⟩
  | none => dropAt t (posOf t p)
def applyGo : Nat → List File → List Change → List File × Nat × Int
  | _, t, [] => (t, 0, 0)
  | i, t, c :: r => if (stepOf (look t c.path) c).2 ≠ 0 then ([], i, (stepOf (look t c.path) c).2) else applyGo (i + 1) (setAt t c.path (stepOf (look t c.path) c).1) r
def applyR (t : List File) (p : List Change) : List File × Nat × Int :=
  if (treeFault t).2 ≠ 0 then ([], 0, (treeFault t).2)
  else if (patchFault p).2 ≠ 0 then ([], (patchFault p).1, (patchFault p).2)
  else if (applyGo 0 t p).2.2 ≠ 0 then applyGo 0 t p
  else if 8 < (applyGo 0 t p).1.length then ([], 0, 3)
  else ((applyGo 0 t p).1, 0, 0)

theorem step_none {x : Option (List ByteArray)} {c : Change} (h : stepOf x c = (none, 0)) : x.isSome = true := by
  unfold stepOf at h
  by_cases h1 : c.what = 2 ∧ x.isSome = true
  · exact h1.2
  · rw [if_neg h1] at h
    by_cases h2 : c.what ≠ 2 ∧ x.isSome = false
    · rw [if_pos h2] at h; cases h
    · rw [if_neg h2] at h
      by_cases h3 : (strict (x.getD []) c.hunks).2.2 ≠ 0
      · rw [if_pos h3] at h; exact absurd (Prod.mk.inj h).2 h3
      · rw [if_neg h3] at h
        by_cases h4 : c.what = 3
        · cases hx : x.isSome with
          | true => rfl
          | false => exact absurd ⟨by omega, hx⟩ h2
        · rw [if_neg h4] at h; cases h
theorem setAt_look {t : List File} (hs : Sorted t) {p : ByteArray} {y : Option (List ByteArray)} (hy : y = none → isAt t p = true) (q : ByteArray) : look (setAt t p y) q = if p = q then y else look t q := by
  cases y with
  | some l => exact putAt_look hs ⟨p, l⟩ q
  | none => exact dropAt_look hs (hy rfl) q
theorem setAt_sorted {t : List File} (hs : Sorted t) {p : ByteArray} {y : Option (List ByteArray)} (hy : y = none → isAt t p = true) : Sorted (setAt t p y) := by
  cases y with
  | some l => exact putAt_sorted hs ⟨p, l⟩
  | none => exact dropAt_sorted hs (hy rfl)
theorem step_at {t : List File} (hs : Sorted t) {c : Change} {y : Option (List ByteArray)} (h : stepOf (look t c.path) c = (y, 0)) : y = none → isAt t c.path = true := by
  rintro rfl
  rw [isAt_look hs]
  exact step_none h

/-- a patch leads from tree to tree: by what each path reads -/
def Leads (t : List File) (p : List Change) (b : List File) : Prop :=
  (∀ c ∈ p, stepOf (look t c.path) c = (look b c.path, 0)) ∧ ∀ q, (∀ c ∈ p, c.path ≠ q) → look b q = look t q
theorem apply_of : ∀ (p : List Change) (t b : List File) (i : Nat), Sorted t → Sorted b → SortedC p → Leads t p b → applyGo i t p = (b, 0, 0)
  | [], t, b, _, ht, hb, _, h => by
    rw [applyGo, sorted_ext ht hb fun q => (h.2 q (by simp)).symm]
  | c :: r, t, b, i, ht, hb, hp, h => by
    obtain ⟨p1, p2⟩ := List.pairwise_cons.1 hp
    have hc := h.1 c (List.mem_cons_self ..)
    have hy := step_at ht hc
    rw [applyGo, hc, if_neg (by simp)]
    refine apply_of r _ b (i + 1) (setAt_sorted ht hy) hb p2 ⟨fun d hd => ?_, fun q hq => ?_⟩
    · rw [setAt_look ht hy, if_neg (less_ne (p1 d hd))]
      exact h.1 d (List.mem_cons_of_mem _ hd)
    · rw [setAt_look ht hy]
      by_cases e : c.path = q
      · rw [if_pos e, e]
      · rw [if_neg e]
        refine h.2 q fun d hd => ?_
        rcases List.mem_cons.1 hd with rfl | hd
        · exact e
        · exact hq d hd
theorem apply_inv : ∀ (p : List Change) (t b : List File) (k i : Nat), Sorted t → SortedC p → applyGo i t p = (b, k, 0) → k = 0 ∧ Sorted b ∧ Leads t p b
  | [], t, b, k, _, ht, _, h => by
    rw [applyGo] at h
    cases h
    exact ⟨rfl, ht, by simp, fun _ _ => rfl⟩
  | c :: r, t, b, k, i, ht, hp, h => by
    obtain ⟨p1, p2⟩ := List.pairwise_cons.1 hp
    rw [applyGo] at h
    by_cases z : (stepOf (look t c.path) c).2 ≠ 0
    · rw [if_pos z] at h
      simp only [Prod.mk.injEq] at h
      exact absurd h.2.2 z
    · rw [if_neg z] at h
      have hc : stepOf (look t c.path) c = ((stepOf (look t c.path) c).1, 0) := by
        rw [Prod.ext_iff]; exact ⟨rfl, by simpa using z⟩
      generalize (stepOf (look t c.path) c).1 = y at h hc
      have hy := step_at ht hc
      obtain ⟨k0, sb, l1, l2⟩ := apply_inv r _ b k (i + 1) (setAt_sorted ht hy) p2 h
      have hcb : look b c.path = y := by
        rw [l2 c.path fun d hd => (less_ne (p1 d hd)).symm, setAt_look ht hy, if_pos rfl]
      refine ⟨k0, sb, fun d hd => ?_, fun q hq => ?_⟩
      · rcases List.mem_cons.1 hd with rfl | hd
        · rw [hc, hcb]
        · have := l1 d hd
          rwa [setAt_look ht hy, if_neg (less_ne (p1 d hd))] at this
      · rw [l2 q fun d hd => hq d (List.mem_cons_of_mem _ hd), setAt_look ht hy, if_neg (hq c (List.mem_cons_self ..))]
theorem applyR_of {t b : List File} {p : List Change} (ht : Tree t) (hp : Patch p) (hb : Sorted b) (h8 : b.length ≤ 8) (h : Leads t p b) : applyR t p = (b, 0, 0) := by
  have e := apply_of p t b 0 ht.2.2 hb hp.2.2 h
  unfold applyR
  rw [if_neg (by rw [tree_iff.1 ht]; simp), if_neg (by rw [patch_ok hp]; simp), e, if_neg (by simp), if_neg (by simp only; omega)]
theorem applyR_inv {t b : List File} {p : List Change} {k : Nat} (h : applyR t p = (b, k, 0)) : k = 0 ∧ Tree t ∧ Patch p ∧ Sorted b ∧ b.length ≤ 8 ∧ Leads t p b := by
  unfold applyR at h
  by_cases h1 : (treeFault t).2 ≠ 0
  · rw [if_pos h1] at h; simp only [Prod.mk.injEq] at h; exact absurd h.2.2 h1
  · rw [if_neg h1] at h
    by_cases h2 : (patchFault p).2 ≠ 0
    · rw [if_pos h2] at h; simp only [Prod.mk.injEq] at h; exact absurd h.2.2 h2
    · rw [if_neg h2] at h
      have ht : Tree t := tree_iff.2 (by simpa using h1)
      have hp : Patch p := patch_of (by simpa using h2)
      by_cases h3 : (applyGo 0 t p).2.2 ≠ 0
      · rw [if_pos h3] at h; rw [h] at h3; exact absurd rfl h3
      · rw [if_neg h3] at h
        by_cases h4 : 8 < (applyGo 0 t p).1.length
        · rw [if_pos h4] at h; cases h
        · rw [if_neg h4] at h
          have e : applyGo 0 t p = ((applyGo 0 t p).1, (applyGo 0 t p).2.1, 0) := by
            rw [Prod.ext_iff, Prod.ext_iff]; exact ⟨rfl, rfl, by simpa using h3⟩
          obtain ⟨_, q2, q3⟩ := apply_inv p t _ _ 0 ht.2.2 hp.2.2 e
          cases h
          exact ⟨rfl, ht, hp, q2, by omega, q3⟩

/-! ### turned -/
def turnW (k : Int) : Int := if k = 2 then 3 else if k = 3 then 2 else k
def turnC (c : Change) : Change := ⟨turnW c.what, c.path, turnHunks c.hunks⟩
def turnP (p : List Change) : List Change := p.map turnC
theorem changeFault_zero {c : Change} (h : changeFault c = 0) : 1 ≤ c.what ∧ c.what ≤ 3 ∧ pathFault c.path = 0 ∧ hunksFault c.hunks = (0, 0) ∧ shapeB c = true := by
  unfold changeFault at h
  by_cases h1 : c.what < 1 ∨ 3 < c.what
  · rw [if_pos h1] at h; cases h
  · rw [if_neg h1] at h
    by_cases h2 : pathFault c.path ≠ 0
    · rw [if_pos h2] at h; exact absurd h h2
    · rw [if_neg h2] at h
      by_cases h3 : (hunksFault c.hunks).2 ≠ 0
      · rw [if_pos h3] at h; exact absurd h h3
      · rw [if_neg h3] at h
        by_cases h4 : shapeB c = true
        · exact ⟨by omega, by omega, by simpa using h2, hunksFault_first (by simpa using h3), h4⟩
        · rw [if_neg h4] at h; cases h
theorem changeFault_of {c : Change} (h1 : 1 ≤ c.what) (h2 : c.what ≤ 3) (h3 : pathFault c.path = 0) (h4 : hunksFault c.hunks = (0, 0)) (h5 : shapeB c = true) : changeFault c = 0 := by
  unfold changeFault
  rw [if_neg (by omega), if_neg (by simp [h3]), if_neg (by simp [h4]), if_pos h5]
theorem wholeB_turn {l : List Hunk} {s : Int} (hs : s = 43 ∨ s = 45) (h : wholeB l s = true) : wholeB (turnHunks l) (88 - s) = true := by
  match l with
  | [] => rfl
  | [q] =>
    unfold wholeB at h
    simp only [Bool.and_eq_true, decide_eq_true_eq, List.all_eq_true] at h
    obtain ⟨⟨h1, h2⟩, h3⟩ := h
    show (decide (q.new = 0) && decide (q.old = 0) && (q.marks.map turnMark).all fun m => decide (m.sign = 88 - s)) = true
    rw [Bool.and_eq_true, Bool.and_eq_true]
    refine ⟨⟨decide_eq_true h2, decide_eq_true h1⟩, List.all_eq_true.2 fun m hm => ?_⟩
    obtain ⟨x, hx, rfl⟩ := List.mem_map.1 hm
    have := h3 x hx
    refine decide_eq_true ?_
    unfold turnMark
    rcases hs with rfl | rfl
    · simp [this]
    · simp [this]
  | _ :: _ :: _ => cases h
theorem turnC_ok {c : Change} (h : changeFault c = 0) : changeFault (turnC c) = 0 := by
  obtain ⟨h1, h2, h3, h4, h5⟩ := changeFault_zero h
  have hw : c.what = 1 ∨ c.what = 2 ∨ c.what = 3 := by omega
  refine changeFault_of ?_ ?_ h3 (turn_ok h4) ?_
  · show 1 ≤ turnW c.what
    rcases hw with e | e | e <;> rw [e] <;> decide
  · show turnW c.what ≤ 3
    rcases hw with e | e | e <;> rw [e] <;> decide
  · unfold shapeB at h5 ⊢
    show (if turnW c.what = 2 then wholeB (turnHunks c.hunks) 43 else if turnW c.what = 3 then wholeB (turnHunks c.hunks) 45 else !(turnHunks c.hunks).isEmpty) = true
    rcases hw with e | e | e
    · rw [e, if_neg (by decide), if_neg (by decide)] at h5
      rw [e, if_neg (by decide), if_neg (by decide)]
      unfold turnHunks
      cases hh : c.hunks with
      | nil => rw [hh] at h5; cases h5
      | cons a b => rfl
    · rw [e, if_pos rfl] at h5
      rw [e, if_neg (by decide), if_pos (by decide)]
      exact wholeB_turn (.inl rfl) h5
    · rw [e, if_neg (by decide), if_pos rfl] at h5
      rw [e, if_pos (by decide)]
      exact wholeB_turn (.inr rfl) h5
theorem patch_turn {p : List Change} (h : Patch p) : Patch (turnP p) := by
  refine ⟨by unfold turnP; rw [List.length_map]; exact h.1, fun c hc => ?_, ?_⟩
  · obtain ⟨x, hx, rfl⟩ := List.mem_map.1 hc
    exact turnC_ok (h.2.1 x hx)
  · unfold SortedC turnP
    rw [List.pairwise_map]
    exact h.2.2
theorem step_undo {x y : Option (List ByteArray)} {c : Change} (hc : changeFault c = 0) (h : stepOf x c = (y, 0)) : stepOf y (turnC c) = (x, 0) := by
  obtain ⟨c1, c2, _, _, _⟩ := changeFault_zero hc
  have hw : c.what = 1 ∨ c.what = 2 ∨ c.what = 3 := by omega
  unfold stepOf at h
  by_cases h1 : c.what = 2 ∧ x.isSome = true
  · rw [if_pos h1] at h; cases h
  · rw [if_neg h1] at h
    by_cases h2 : c.what ≠ 2 ∧ x.isSome = false
    · rw [if_pos h2] at h; cases h
    · rw [if_neg h2] at h
      by_cases h3 : (strict (x.getD []) c.hunks).2.2 ≠ 0
      · rw [if_pos h3] at h; simp only [Prod.mk.injEq] at h; exact absurd h.2 h3
      · rw [if_neg h3] at h
        have e : strict (x.getD []) c.hunks = ((strict (x.getD []) c.hunks).1, (strict (x.getD []) c.hunks).2.1, 0) := by
          rw [Prod.ext_iff, Prod.ext_iff]; exact ⟨rfl, rfl, by simpa using h3⟩
        have u := (strict_undo e).1
        rcases hw with w | w | w
        · rw [if_neg (by omega)] at h
          have hy := (Prod.mk.inj h).1
          cases x with
          | none => exact absurd ⟨by omega, rfl⟩ h2
          | some l =>
            subst hy
            unfold stepOf turnC turnW
            simp only [w, Option.getD_some] at u ⊢
            simp [u]
        · rw [if_neg (by omega)] at h
          have hy := (Prod.mk.inj h).1
          cases x with
          | some l => exact absurd ⟨w, rfl⟩ h1
          | none =>
            subst hy
            unfold stepOf turnC turnW
            simp only [w, Option.getD_some, Option.getD_none] at u ⊢
            simp [u]
        · rw [if_pos w] at h
          cases x with
          | none => exact absurd ⟨by omega, rfl⟩ h2
          | some l =>
            by_cases q : (strict ((some l).getD []) c.hunks).1 = []
            · rw [if_pos q] at h
              have hy := (Prod.mk.inj h).1
              subst hy
              rw [q] at u
              unfold stepOf turnC turnW
              simp only [w, Option.getD_some, Option.getD_none] at u ⊢
              simp [u]
            · rw [if_neg q] at h; cases h
theorem leads_turn {t b : List File} {p : List Change} (hp : ∀ c ∈ p, changeFault c = 0) (h : Leads t p b) : Leads b (turnP p) t := by
  refine ⟨fun c hc => ?_, fun q hq => ?_⟩
  · obtain ⟨x, hx, rfl⟩ := List.mem_map.1 hc
    exact step_undo (hp x hx) (h.1 x hx)
  · exact (h.2 q fun c hc => hq (turnC c) (List.mem_map_of_mem hc)).symm
theorem step_lines {x y : Option (List ByteArray)} {c : Change} (h : stepOf x c = (y, 0)) : ∀ l, y = some l → linesFault l = 0 := by
  rintro l rfl
  unfold stepOf at h
  by_cases h1 : c.what = 2 ∧ x.isSome = true
  · rw [if_pos h1] at h; cases h
  · rw [if_neg h1] at h
    by_cases h2 : c.what ≠ 2 ∧ x.isSome = false
    · rw [if_pos h2] at h; cases h
    · rw [if_neg h2] at h
      by_cases h3 : (strict (x.getD []) c.hunks).2.2 ≠ 0
      · rw [if_pos h3] at h; cases h
      · rw [if_neg h3] at h
        have e : strict (x.getD []) c.hunks = ((strict (x.getD []) c.hunks).1, (strict (x.getD []) c.hunks).2.1, 0) := by
          rw [Prod.ext_iff, Prod.ext_iff]; exact ⟨rfl, rfl, by simpa using h3⟩
        by_cases h4 : c.what = 3
        · rw [if_pos h4] at h
          split at h <;> cases h
        · rw [if_neg h4] at h
          have := Option.some.inj (Prod.mk.inj h).1
          rw [← this]
          exact (strict_undo e).2
/-- what comes of a tree is one -/
theorem leads_tree {t b : List File} {p : List Change} (ht : Tree t) (hp : Patch p) (hb : Sorted b) (h8 : b.length ≤ 8) (h : Leads t p b) : Tree b := by
  refine ⟨h8, fun f hf => ?_, hb⟩
  have hl := look_mem hb hf
  by_cases e : ∃ c ∈ p, c.path = f.path
  · obtain ⟨c, hc, e⟩ := e
    have hs := h.1 c hc
    rw [e, hl] at hs
    unfold fileFault
    rw [if_pos (by rw [← e]; exact (changeFault_zero (hp.2.1 c hc)).2.2.1)]
    exact step_lines hs _ rfl
  · have := h.2 f.path fun c hc g => e ⟨c, hc, g⟩
    rw [hl] at this
    obtain ⟨x, hx, e1, e2⟩ := look_some this.symm
    have q : x = f := by cases x; cases f; simp only at e1 e2; rw [e1, e2]
    exact q ▸ ht.2.1 x hx
/-- what was done is undone -/
theorem apply_back {t b : List File} {p : List Change} {k : Nat} (h : applyR t p = (b, k, 0)) : applyR b (turnP p) = (t, 0, 0) := by
  obtain ⟨_, ht, hp, hb, h8, hl⟩ := applyR_inv h
  exact applyR_of (leads_tree ht hp hb h8 hl) (patch_turn hp) ht.2.2 ht.1 (leads_turn hp.2.1 hl)
end Go.Proofs.YtmjpfoeaobdaeaaGreatDoor
namespace Go.Proofs.YtmjpfoeaobdaeaaGreatDoor

theorem script_puts : ∀ y : List ByteArray, script [] y = y.map fun x => ⟨43, x⟩
  | [] => by rw [script]; rfl
  | x :: r => by rw [script, script_puts r]; rfl
theorem script_takes : ∀ y : List ByteArray, script y [] = y.map fun x => ⟨45, x⟩
  | [] => by rw [script]; rfl
  | x :: r => by rw [script, script_takes r]; rfl
theorem script_self : ∀ y : List ByteArray, script y y = y.map fun x => ⟨32, x⟩
  | [] => by rw [script]; rfl
  | x :: r => by rw [script, if_pos rfl, script_self r]; rfl
theorem changes_map (s : Int) (hs : s ≠ 32) (y : List ByteArray) : changes (y.map fun x => (⟨s, x⟩ : Mark)) = y.length := by
  unfold changes
  rw [List.filter_eq_self.2, List.length_map]
  intro m hm
  obtain ⟨x, _, rfl⟩ := List.mem_map.1 hm
  simpa using hs
theorem wholeR_cut (s : Int) (hs : s ≠ 32) (y : List ByteArray) (h : y.length ≤ 60) : wholeR y s = cutOf (y.map fun x => ⟨s, x⟩) 200 := by
  rw [cut_200 (by rw [List.length_map]; omega), changes_map s hs]
  unfold wholeR
  cases y with
  | nil => rfl
  | cons x r => rw [if_neg (by simp), if_neg (by simp)]
theorem wholeR_shape (y : List ByteArray) (s : Int) : wholeB (wholeR y s) s = true := by
  unfold wholeR
  by_cases h : y = []
  · rw [if_pos h]; rfl
  · rw [if_neg h]
    unfold wholeB
    simp
theorem whole_put {y : List ByteArray} (h : linesFault y = 0) : hunksFault (wholeR y 43) = (0, 0) ∧ strict [] (wholeR y 43) = (y, 0, 0) := by
  have := strict_cut (a := []) (b := y) (n := 200) (checkedFault_zero.2 ⟨rfl, h⟩) (by omega) (by omega)
  rw [script_puts, ← wholeR_cut 43 (by decide) y (linesFault_zero.1 h).1] at this
  exact ⟨this.2.2.1, this.2.1⟩
theorem whole_take {y : List ByteArray} (h : linesFault y = 0) : hunksFault (wholeR y 45) = (0, 0) ∧ strict y (wholeR y 45) = ([], 0, 0) := by
  have := strict_cut (a := y) (b := []) (n := 200) (checkedFault_zero.2 ⟨h, rfl⟩) (by omega) (by omega)
  rw [script_takes, ← wholeR_cut 45 (by decide) y (linesFault_zero.1 h).1] at this
  exact ⟨this.2.2.1, this.2.1⟩
theorem chg_facts {n : Int} (h0 : 0 ≤ n) (h1 : n ≤ 1000) {p : ByteArray} (hp : pathFault p = 0) {x y : Option (List ByteArray)} (hx : ∀ l, x = some l → linesFault l = 0) (hy : ∀ l, y = some l → linesFault l = 0) :
    (∀ c ∈ chg n p x y, c.path = p ∧ changeFault c = 0 ∧ stepOf x c = (y, 0)) ∧ (chg n p x y = [] → x = y) ∧ (chg n p x y).length ≤ 1 := by
  cases x with
  | none =>
    cases y with
    | none => exact ⟨fun c hc => (by cases hc), fun _ => rfl, by simp [chg]⟩
    | some y =>
      obtain ⟨w1, w2⟩ := whole_put (hy y rfl)
      refine ⟨fun c hc => ?_, fun h => (by cases h), by simp [chg]⟩
      rw [show c = ⟨2, p, wholeR y 43⟩ from List.mem_singleton.1 hc]
      refine ⟨rfl, changeFault_of (by simp) (by simp) hp w1 ?_, ?_⟩
      · unfold shapeB
        rw [if_pos rfl]
        exact wholeR_shape y 43
      · unfold stepOf
        simp only [Option.getD_none]
        simp [w2]
  | some x =>
    cases y with
    | none =>
      obtain ⟨w1, w2⟩ := whole_take (hx x rfl)
      refine ⟨fun c hc => ?_, fun h => (by cases h), by simp [chg]⟩
      rw [show c = ⟨3, p, wholeR x 45⟩ from List.mem_singleton.1 hc]
      refine ⟨rfl, changeFault_of (by simp) (by simp) hp w1 ?_, ?_⟩
      · unfold shapeB
        rw [if_neg (by simp), if_pos rfl]
        exact wholeR_shape x 45
      · unfold stepOf
        simp only [Option.getD_some]
        simp [w2]
    | some y =>
      obtain ⟨w0, w1, w2, _⟩ := strict_cut (checkedFault_zero.2 ⟨hx x rfl, hy y rfl⟩) h0 h1
      unfold chg
      simp only
      by_cases e : cutOf (script x y) n = []
      · rw [if_pos e]
        refine ⟨fun c hc => (by cases hc), fun _ => ?_, by simp⟩
        rw [e] at w1
        have q : strict x [] = (x, 0, 0) := by
          unfold strict
          have hl := (linesFault_zero.1 (hx x rfl)).1
          rw [if_neg (by simp [hx x rfl]), if_neg (by decide), strictGo]
          rw [if_neg (by simp; omega)]
          simp
        rw [q] at w1
        exact congrArg some (Prod.mk.inj w1).1
      · rw [if_neg e]
        refine ⟨fun c hc => ?_, fun h => (by cases h), by simp⟩
        rw [show c = ⟨1, p, cutOf (script x y) n⟩ from List.mem_singleton.1 hc]
        refine ⟨rfl, changeFault_of (by simp) (by simp) hp w2 ?_, ?_⟩
        · unfold shapeB
          rw [if_neg (by simp), if_neg (by simp)]
          cases hh : cutOf (script x y) n with
          | nil => exact absurd hh e
          | cons _ _ => rfl
        · unfold stepOf
          simp only [Option.getD_some]
          simp [w1]
theorem all_len : ∀ (b a : List File), Sorted a → (allOf a b).length ≤ a.length + b.length
  | [], a, _ => by unfold allOf; simp
  | x :: r, a, h => by
    have := all_len r (putAt a x) (putAt_sorted h x)
    have e := putAt_len h x
    rw [show allOf a (x :: r) = allOf (putAt a x) r from rfl]
    split at e <;> simp only [List.length_cons] <;> omega
theorem flat_sorted {g : File → List Change} : ∀ {L : List File}, Sorted L → (∀ f ∈ L, (∀ c ∈ g f, c.path = f.path) ∧ (g f).length ≤ 1) → SortedC (L.flatMap g) ∧ (L.flatMap g).length ≤ L.length
  | [], _, _ => ⟨List.Pairwise.nil, Nat.le_refl _⟩
  | f :: r, h, hg => by
    obtain ⟨h1, h2⟩ := List.pairwise_cons.1 h
    obtain ⟨i1, i2⟩ := flat_sorted h2 fun x hx => hg x (List.mem_cons_of_mem _ hx)
    obtain ⟨g1, g2⟩ := hg f (List.mem_cons_self ..)
    rw [List.flatMap_cons]
    refine ⟨List.pairwise_append.2 ⟨?_, i1, fun c hc d hd => ?_⟩, by rw [List.length_append, List.length_cons]; omega⟩
    · match hh : g f with
      | [] => exact List.Pairwise.nil
      | [_] => exact List.pairwise_singleton _ _
      | _ :: _ :: _ => rw [hh] at g2; simp at g2
    · obtain ⟨x, hx, hd⟩ := List.mem_flatMap.1 hd
      rw [g1 c hc, (hg x (List.mem_cons_of_mem _ hx)).1 d hd]
      exact h1 x hx
theorem tree_linesAt {a : List File} (ha : Tree a) (p : ByteArray) : ∀ l, look a p = some l → linesFault l = 0 ∧ pathFault p = 0 := by
  intro l h
  obtain ⟨x, hx, rfl, rfl⟩ := look_some h
  obtain ⟨q1, q2⟩ := fileFault_zero (ha.2.1 x hx)
  exact ⟨q2, q1⟩
theorem ref_facts {a b : List File} (ha : Tree a) (hb : Tree b) {n : Int} (h0 : 0 ≤ n) (h1 : n ≤ 1000) {f : File} (hf : f ∈ allOf a b) :
    (∀ c ∈ chg n f.path (look a f.path) (look b f.path), c.path = f.path ∧ changeFault c = 0 ∧ stepOf (look a f.path) c = (look b f.path, 0)) ∧ (chg n f.path (look a f.path) (look b f.path) = [] → look a f.path = look b f.path) ∧ (chg n f.path (look a f.path) (look b f.path)).length ≤ 1 := by
  have hl := look_mem (all_sorted b a ha.2.2) hf
  rw [all_look f.path b a ha.2.2 hb.2.2] at hl
  have hp : pathFault f.path = 0 := by
    cases hx : look b f.path with
    | some l => exact (tree_linesAt hb _ l hx).2
    | none =>
      rw [hx] at hl
      exact (tree_linesAt ha _ _ hl).2
  exact chg_facts h0 h1 hp (fun l h => (tree_linesAt ha _ l h).1) (fun l h => (tree_linesAt hb _ l h).1)
/-- what is found between two trees is a patch and leads from the one to the other -/
theorem diff_leads {a b : List File} (ha : Tree a) (hb : Tree b) {n : Int} (h0 : 0 ≤ n) (h1 : n ≤ 1000) : Patch (diffL n a b) ∧ Leads a (diffL n a b) b := by
  rw [← diff_same n ha.2.2 hb.2.2]
  unfold refDiff
  have hs := all_sorted b a ha.2.2
  obtain ⟨s1, s2⟩ := flat_sorted (g := fun f => chg n f.path (look a f.path) (look b f.path)) hs fun f hf => ⟨fun c hc => ((ref_facts ha hb h0 h1 hf).1 c hc).1, (ref_facts ha hb h0 h1 hf).2.2⟩
  have hl := all_len b a ha.2.2
  have a8 := ha.1
  have b8 := hb.1
  refine ⟨⟨by omega, fun c hc => ?_, s1⟩, fun c hc => ?_, fun q hq => ?_⟩
  · obtain ⟨f, hf, hc⟩ := List.mem_flatMap.1 hc
    exact ((ref_facts ha hb h0 h1 hf).1 c hc).2.1
  · obtain ⟨f, hf, hc⟩ := List.mem_flatMap.1 hc
    obtain ⟨e1, _, e3⟩ := (ref_facts ha hb h0 h1 hf).1 c hc
    rw [e1]
    exact e3
  · cases hx : look (allOf a b) q with
    | none =>
      rw [all_look q b a ha.2.2 hb.2.2] at hx
      cases hy : look b q with
      | some l => rw [hy] at hx; cases hx
      | none =>
        rw [hy] at hx
        exact hx.symm
    | some l =>
      obtain ⟨f, hf, rfl, _⟩ := look_some hx
      refine ((ref_facts ha hb h0 h1 hf).2.1 ?_).symm
      cases hh : chg n f.path (look a f.path) (look b f.path) with
      | nil => rfl
      | cons c r =>
        have hm : c ∈ chg n f.path (look a f.path) (look b f.path) := by rw [hh]; exact List.mem_cons_self ..
        exact absurd ((ref_facts ha hb h0 h1 hf).1 c hm).1 (hq c (List.mem_flatMap.2 ⟨f, hf, hm⟩))
theorem diff_makes {a b : List File} (ha : Tree a) (hb : Tree b) {n : Int} (h0 : 0 ≤ n) (h1 : n ≤ 1000) : applyR a (diffL n a b) = (b, 0, 0) ∧ applyR b (turnP (diffL n a b)) = (a, 0, 0) := by
  obtain ⟨q1, q2⟩ := diff_leads ha hb h0 h1
  have := applyR_of ha q1 hb.2.2 hb.1 q2
  exact ⟨this, apply_back this⟩
/-- between a tree and itself there is nothing -/
theorem diff_self {a : List File} (ha : Sorted a) (n : Int) : diffL n a a = [] := by
  rw [← diff_same n ha ha]
  unfold refDiff
  rw [List.flatMap_eq_nil_iff]
  intro f _
  cases look a f.path with
  | none => rfl
  | some l =>
    show (if cutOf (script l l) n = [] then [] else _) = ([] : List Change)
    rw [if_pos]
    unfold cutOf
    refine cut_none (fun k => ?_) _ (Nat.le_refl _)
    rw [Bool.eq_false_iff]
    intro h
    obtain ⟨i, m, e1, e2, _⟩ := inAt_iff.1 h
    rw [script_self] at e1
    obtain ⟨x, _, rfl⟩ := List.mem_map.1 (List.mem_of_getElem? e1)
    exact e2 rfl
end Go.Proofs.YtmjpfoeaobdaeaaGreatDoor
namespace Go.Proofs.YtmjpfoeaobdaeaaGreatDoor
open Go.RowKit

theorem own_out {α : Type} [Dat α] {e : TypeId} {w : World} {O : Nat → Prop} {v : Value} {l : List α} (h : Own e w O v l) : ∀ k, v.ownBlock = some k → ¬ O k := by
  obtain ⟨_, _, q, _⟩ := h
  exact q
end Go.Proofs.YtmjpfoeaobdaeaaGreatDoor
namespace Go.Proofs.YtmjpfoeaobdaeaaGreatDoor
open Go.RowKit

theorem wholeR_nil (s : Int) : wholeR [] s = [] := if_pos rfl
theorem wholeR_some {l : List ByteArray} (h : l ≠ []) (s : Int) : wholeR l s = [⟨0, 0, l.map fun x => ⟨s, x⟩⟩] := if_neg h
theorem sign_take {l : List ByteArray} {k : Nat} {x : ByteArray} {s : Int} (hx : l[k]? = some x) : (l.take (k + 1)).map (fun x => (⟨s, x⟩ : Mark)) = (l.take k).map (fun x => (⟨s, x⟩ : Mark)) ++ [⟨s, x⟩] := by
  rw [List.take_add_one, hx]; simp
theorem rdv_hunkO {w : World} {O : Nat → Prop} {x : Hunk} {mv : Value} {t : TypeId} (h : Rdv w O mv x.marks) (hO : ¬ O w.heap.size) : Rdv (w.alloc (.cells #[.int .i64 x.old, .int .i64 x.new, mv] t)) O (.slice (some ⟨w.heap.size, 0, none⟩) 1 1) [x] := by
  refine ⟨some ⟨w.heap.size, 0, none⟩, 1, rfl, Nat.le_refl _, by decide, ?_⟩
  intro i y hy
  obtain rfl : i = 0 := by
    cases i with
    | zero => rfl
    | succ i => simp at hy
  simp only [List.getElem?_cons_zero, Option.some.injEq] at hy
  subst hy
  refine ⟨w.heap.size, 0, [.int .i64 x.old, .int .i64 x.new, mv], rfl, hO, ?_, ⟨mv, rfl, h.never ((Chg.refl Never w).alloc _)⟩⟩
  intro j u hj
  simp only [World.cell?, heap_alloc_new]
  simpa using hj
set_option maxHeartbeats 2000000 in
set_option maxRecDepth 100000 in
theorem all_any (l : List ByteArray) (s : Int) (v : Value) (w : World) (h : Rdv w Never v l) (s0 : 0 ≤ s) (s1 : s < 256) (hl : l.length ≤ 1000000) :
    Calls Tryz.prog 82 #[v, .int .u8 s] w fun e w' => ∃ r, e = .returned r ∧ Chg Never w w' ∧ Rdv w' (Old w.heap.size) r (wholeR l s) := by
  obtain ⟨a, cap, rfl, h1, h2, h3⟩ := rdv_slice h
  unfold maxLen at h2
  by_cases hn : l = []
  · subst hn
    rw [wholeR_nil]
    go_enter Tryz.func82, Tryz.ntmps82
    go_wp2_with fail
    go_ret
    exact ⟨_, rfl, Chg.refl _ _, rdv_nil _ _⟩
  · have hpos : 0 < l.length := List.length_pos_iff.2 hn
    have t0 : ((l.length : Int) == 0) = false := by simp; omega
    have HN := Lib.hid hn
    clear hn
    have hB0 := Blk3.new w 146 (.int .i64 0) (.int .i64 0) (.slice none 0 0)
    have hc0 : Chg Never w (w.alloc (.cells #[.int .i64 0, .int .i64 0, .slice none 0 0] 146)) := (Chg.refl Never w).alloc _
    go_enter Tryz.func82, Tryz.ntmps82
    go_wp2_with fail
    generalize w.alloc (.cells #[.int .i64 0, .int .i64 0, .slice none 0 0] 146) = wA at hB0 hc0 ⊢
    generalize hBe : w.heap.size = B at hB0 ⊢
    have hBge : w.heap.size ≤ B := Nat.le_of_eq hBe
    clear hBe
    go_loopw [13] (fun i wr => ∃ (j : Nat) (mv : Value), j ≤ l.length ∧ i = .int .i64 j ∧ Chg Never w wr ∧ Blk3 wr B 146 (.int .i64 0) (.int .i64 0) mv ∧ Own 148 wr (Old (B + 1)) mv ((l.take j).map fun x => (⟨s, x⟩ : Mark))) (fun i _ => l.length - (intOf i).toNat)
    case atStart => exact ⟨0, .slice none 0 0, Nat.zero_le _, rfl, hc0, hB0, own_nil _ _ _⟩
    case round =>
      clear hc0 hB0
      obtain ⟨j, mv, hj, rfl, hc, hB, hmk⟩ := hrel
      obtain ⟨qa, qn, qc, rfl⟩ := own_isSlice hmk
      obtain ⟨f0, f1, f2⟩ := hB.cell
      have hBlt := hB.lt
      by_cases hlt : j < l.length
      · obtain ⟨x, hx⟩ : ∃ x, l[j]? = some x := ⟨l[j], by simp [hlt]⟩
        obtain ⟨b, off, rfl, _, _, c0, hxs⟩ := elems_str h3 hx
        have c0 := hc.cellNever c0
        have HX := Lib.hid hx
        have hOm : ∀ q, Old (B + 1) q → q < wr.heap.size := fun q hq => by unfold Old at hq; omega
        have hml : ((l.take j).map fun x => (⟨s, x⟩ : Mark)).length ≤ 1000000000 := by rw [List.length_map, List.length_take]; omega
        clear hx h3 h
        go_wp2_with (at_builtin; refine wpList_push (by rfl) _ _ 102 (by rfl) elemOk_mark (O := Old (B + 1)) (l := (l.take j).map fun x => (⟨s, x⟩ : Mark)) (y := ⟨s, x⟩) (by rfl) (by rfl) (by simp) hmk (rd_mark _ _ s x s0 s1 hxs) hOm hml ?_; intro mv' w5 hmk5 hc2 _; obtain ⟨sa, sn, sc, rfl⟩ := own_isSlice hmk5; have hB5 := hB.keep hc2 (fun hh => own_out hmk _ hh (Nat.lt_succ_self _)); have hc5 := hc.trans' hc2 (fun i hi hh => own_out hmk i hh (by unfold Old; omega)); obtain ⟨g0, g1, g2⟩ := hB5.cell; have g3 := hB5.free 2; clear hc2)
        have hB6 := hB5.set2 (.slice sa sn sc)
        have hmk6 := hmk5.keep (O' := fun q => q = B) (O'' := Old (B + 1)) ((Chg.refl (fun q => q = B) w5).setCell (p := ⟨B, 2, none⟩) (.inr rfl) (.slice sa sn sc)) (fun q _ hq => by have h : q = B := hq; unfold Old; omega) (fun _ _ hh => hh)
        have hc6 := hc5.setCell (p := ⟨B, 2, none⟩) (.inl hBge) (.slice sa sn sc)
        clear g0 g1 g2 g3 hB5 hmk5 hc5 hB hmk hc
        go_roundw
        case rel => exact ⟨j + 1, .slice sa sn sc, by omega, by go_num, hc6, hB6, by rw [sign_take HX.out]; exact hmk6⟩
        case measure => simp [intOf] <;> omega
      · obtain rfl : j = l.length := by omega
        rw [List.take_length] at hmk
        have hr := hmk.rdv.sub (O' := Old w.heap.size) (fun k _ h => by unfold Old at *; omega)
        have hl1 := rdv_hunkO (x := ⟨0, 0, l.map fun x => ⟨s, x⟩⟩) (t := 146) hr (fun h => absurd hc.size (Nat.not_le_of_lt h))
        go_wp2_with fail
        go_ret
        exact ⟨_, rfl, hc.alloc _, by rw [wholeR_some HN.out]; exact hl1⟩

end Go.Proofs.YtmjpfoeaobdaeaaGreatDoor
namespace Go.Proofs.YtmjpfoeaobdaeaaGreatDoor

theorem fileFault_lines {f : File} (h : fileFault f = 0) : linesFault f.lines = 0 := by
  unfold fileFault at h
  by_cases e : pathFault f.path = 0
  · rwa [if_pos e] at h
  · rw [if_neg e] at h; exact absurd h e
theorem checked_zero {x y : List ByteArray} (h : linesFault x = 0) (g : linesFault y = 0) : checkedFault x y = 0 := by unfold checkedFault; rw [if_pos h]; exact g
/-- of valid lines Make tells no fault -/
theorem make_valid {x y : List ByteArray} {n : Int} (h : linesFault x = 0) (g : linesFault y = 0) (n0 : 0 ≤ n) (n1 : n ≤ 1000) : makeFault x y n = 0 ∧ makeR x y n = cutOf (script x y) n := by
  have hc := checked_zero h g
  have hs := script_valid hc
  have e1 : (oldOf (script x y)).length = oldN (script x y) := rfl
  have e2 : (newOf (script x y)).length = newN (script x y) := rfl
  rw [script_old] at e1
  rw [script_new] at e2
  have l1 := linesFault_len h
  have l2 := linesFault_len g
  have hcut : cutFault (script x y) n = 0 := by
    unfold cutFault
    rw [if_neg (by rw [hs]; decide), if_neg (by omega), if_neg (by omega)]
  exact ⟨by unfold makeFault; rw [if_neg (by rw [hc]; decide)]; exact hcut, by unfold makeR cutR; rw [if_pos hc, if_pos hcut]⟩
/-! ### what lies between, step by step -/
theorem diffL_take {n : Int} {x : File} {a b : List File} (h : b = [] ∨ ∃ y r, b = y :: r ∧ less x.path y.path = true) : diffL n (x :: a) b = ⟨3, x.path, wholeR x.lines 45⟩ :: diffL n a b := by
  rcases h with rfl | ⟨y, r, rfl, h⟩
  · rw [diffL]
  · rw [diffL, if_pos h]
theorem diffL_put {n : Int} {y : File} {a b : List File} (h : a = [] ∨ ∃ x r, a = x :: r ∧ ¬ less x.path y.path = true ∧ less y.path x.path = true) : diffL n a (y :: b) = ⟨2, y.path, wholeR y.lines 43⟩ :: diffL n a b := by
  rcases h with rfl | ⟨x, r, rfl, h, g⟩
  · rw [diffL]
  · rw [diffL, if_neg h, if_pos g]
theorem diffL_both {n : Int} {x y : File} {a b : List File} (h : ¬ less x.path y.path = true) (g : ¬ less y.path x.path = true) : diffL n (x :: a) (y :: b) = chg n x.path (some x.lines) (some y.lines) ++ diffL n a b := by
  rw [diffL, if_neg h, if_neg g]
theorem diffL_nil (n : Int) : diffL n [] [] = [] := by rw [diffL]
theorem chg_none {n : Int} {p : ByteArray} {x y : List ByteArray} (h : cutOf (script x y) n = []) : chg n p (some x) (some y) = [] := if_pos h
theorem chg_some {n : Int} {p : ByteArray} {x y : List ByteArray} (h : cutOf (script x y) n ≠ []) : chg n p (some x) (some y) = [⟨1, p, cutOf (script x y) n⟩] := if_neg h
end Go.Proofs.YtmjpfoeaobdaeaaGreatDoor
namespace Go.Proofs.YtmjpfoeaobdaeaaGreatDoor
open Go.RowKit

theorem elemOk_change : ElemOk Tryz.prog 62 100 3 := elemOk_of Tryz.underlying62 (z := .agg #[.int .i64 0, .string ⟨#[]⟩, .slice none 0 0]) (b := 48) (by kernel_rfl) rfl (by decide)
theorem elems_change {w : World} {O : Nat → Prop} {a : Option Addr} {l : List Change} (h : Elems w O a l) {i : Nat} {x : Change} (hx : l[i]? = some x) :
    ∃ b off v, a = some ⟨b, off, none⟩ ∧ ¬ O b ∧ b < w.heap.size ∧ w.cell? ⟨b, off + i * 3, none⟩ = some (.int .i64 x.what) ∧ w.cell? ⟨b, off + i * 3 + 1, none⟩ = some (.string x.path) ∧ w.cell? ⟨b, off + i * 3 + 2, none⟩ = some v ∧ x.path.size ≤ maxLen ∧ Rdv w O v x.hunks := by
  obtain ⟨b, off, es, ha, hb, hcs, v, rfl, hp, hv⟩ := h i x hx
  refine ⟨b, off, v, ha, hb, hcs.lt (by simp), ?_, ?_, ?_, hp, hv⟩
  · simpa [Dat.n] using hcs 0 _ rfl
  · simpa [Dat.n] using hcs 1 _ rfl
  · simpa [Dat.n] using hcs 2 _ rfl

theorem two_keep {w0 w w' : World} {a b : Addr} {x y : Value} (h : Chg Never w0 w ∧ w.cell? a = some x ∧ w.cell? b = some y) (hc : Chg Never w w') : Chg Never w0 w' ∧ w'.cell? a = some x ∧ w'.cell? b = some y :=
  ⟨h.1.trans hc, hc.cellNever h.2.1, hc.cellNever h.2.2⟩

end Go.Proofs.YtmjpfoeaobdaeaaGreatDoor
namespace Go.Proofs.YtmjpfoeaobdaeaaGreatDoor
open Go.RowKit

/-- what has come since does not lie in the row -/
theorem OwnN.fresh {α β : Type} [Dat α] [Dat β] {e : TypeId} {w0 wr w' : World} {v u : Value} {l : List α} {x : β} (h : OwnN e w0 wr v l) (hu : Rdv w' (Old wr.heap.size) u x) : Rdv w' (fun k => Never k ∨ v.ownBlock = some k) u x :=
  hu.sub (fun k _ hh => by
    rcases hh with hh | hh
    · exact hh.elim
    · exact own_block_lt h.own k hh)
/-- a row that this call has built by append: neither it nor what its elements hold lies in what was there at w0 -/
structure OwnO {α : Type} [Dat α] (e : TypeId) (w0 wr : World) (v : Value) (l : List α) : Prop where
  own : Own e wr (Old w0.heap.size) v l
  chg : Chg Never w0 wr
theorem ownO_nil {α : Type} [Dat α] (e : TypeId) {w0 wr : World} (h : Chg Never w0 wr) : OwnO e w0 wr (.slice none 0 0) ([] : List α) := ⟨own_nil _ _ _, h⟩
theorem OwnO.never {α : Type} [Dat α] {e : TypeId} {w0 wr w' : World} {v : Value} {l : List α} (h : OwnO e w0 wr v l) (hc : Chg Never wr w') : OwnO e w0 w' v l := ⟨h.own.never hc, h.chg.trans hc⟩
theorem OwnO.step1 {α : Type} [Dat α] {e : TypeId} {w0 wr w' : World} {v v' : Value} {l l' : List α} (h : OwnO e w0 wr v l) (hown : Own e w' (Old w0.heap.size) v' l') (hc : Chg (OwnB v) wr w') : OwnO e w0 w' v' l' := ⟨hown, own_step h.chg h.own hc⟩
theorem OwnO.fresh {α β : Type} [Dat α] [Dat β] {e : TypeId} {w0 wr w' : World} {v u : Value} {l : List α} {x : β} (h : OwnO e w0 wr v l) (hu : Rdv w' (Old wr.heap.size) u x) : Rdv w' (fun k => Old w0.heap.size k ∨ v.ownBlock = some k) u x :=
  hu.sub (fun k _ hh => by
    rcases hh with hh | hh
    · exact Nat.lt_of_lt_of_le hh h.chg.size
    · exact own_block_lt h.own k hh)
theorem OwnO.olds {α : Type} [Dat α] {e : TypeId} {w0 wr : World} {v : Value} {l : List α} (h : OwnO e w0 wr v l) : ∀ k, Old w0.heap.size k → k < wr.heap.size := fun _ hk => Nat.lt_of_lt_of_le hk h.chg.size
end Go.Proofs.YtmjpfoeaobdaeaaGreatDoor
