/-
  PARTS: TREES BY WHAT IS LOOKED UP IN THEM, in plain Lean: what put and drop do to each path; two trees in which each path reads the same are the same.; PIECES OF A SCRIPT, in plain Lean (chapter 3, H2): what Cut answers.; WHAT LIES BETWEEN TWO TREES, in plain Lean: file by file of two sorted lists; the document's way by all paths of both is the same.; THE LAWS OF THE DISTANCE AND OF THE SCRIPT, in plain Lean (chapter 2, E2): symmetric, a triangle, 0 just of the same, attained by the script, no script is shorter.; THE WALKS OF LAYER 2: checked, measure, Far.; A SLICE THAT THE CALL ITSELF BUILDS BY append ('Own'): kept, pushed onto, read. No program in sight.
-/
import Derived.Test.YtjiaidchcldocaaGreatDoorPg2
import Derived.Test.YtjiaidchcldocaaGreatDoorPg1
import Derived.StillTailTactics
set_option linter.unusedVariables false
set_option linter.unusedSimpArgs false
namespace Go.Proofs.YtjiaidchcldocaaGreatDoor

def look (t : List File) (p : ByteArray) : Option (List ByteArray) := (t.find? fun f => decide (f.path = p)).map (·.lines)
theorem look_nil (p : ByteArray) : look [] p = none := rfl
theorem look_cons (x : File) (r : List File) (p : ByteArray) : look (x :: r) p = if x.path = p then some x.lines else look r p := by
  unfold look
  by_cases h : x.path = p
  · rw [List.find?_cons_of_pos (by simpa using h), if_pos h]; rfl
  · rw [List.find?_cons_of_neg (by simpa using h), if_neg h]
theorem look_none : ∀ {A : List File} {p : ByteArray}, (∀ x ∈ A, x.path ≠ p) → look A p = none
  | [], _, _ => rfl
  | x :: r, p, h => by rw [look_cons, if_neg (h x (List.mem_cons_self ..)), look_none fun y hy => h y (List.mem_cons_of_mem _ hy)]
theorem look_app : ∀ (A B : List File) (p : ByteArray), look (A ++ B) p = (look A p).or (look B p)
  | [], B, p => by simp [look_nil]
  | x :: A, B, p => by
    rw [List.cons_append, look_cons, look_cons, look_app A B p]
    by_cases h : x.path = p
    · rw [if_pos h, if_pos h]; rfl
    · rw [if_neg h, if_neg h]
theorem look_some : ∀ {A : List File} {p : ByteArray} {l : List ByteArray}, look A p = some l → ∃ x ∈ A, x.path = p ∧ x.lines = l
  | [], _, _, h => by cases h
  | x :: r, p, l, h => by
    rw [look_cons] at h
    by_cases e : x.path = p
    · rw [if_pos e] at h
      exact ⟨x, List.mem_cons_self .., e, Option.some.inj h⟩
    · rw [if_neg e] at h
      obtain ⟨y, hy, h2⟩ := look_some h
      exact ⟨y, List.mem_cons_of_mem _ hy, h2⟩
theorem look_mem {t : List File} (hs : Sorted t) {x : File} (h : x ∈ t) : look t x.path = some x.lines := by
  induction t with
  | nil => cases h
  | cons y r ih =>
    obtain ⟨h1, h2⟩ := List.pairwise_cons.1 hs
    rw [look_cons]
    rcases List.mem_cons.1 h with rfl | h
    · rw [if_pos rfl]
    · rw [if_neg (less_ne (h1 x h)), ih h2 h]

theorem tree_split {t : List File} (hs : Sorted t) (p : ByteArray) : ∃ A C : List File, (∀ x ∈ A, less x.path p = true) ∧ (∀ x ∈ C, less p x.path = true) ∧ Sorted A ∧ Sorted C ∧ posOf t p = A.length ∧
    ((isAt t p = true ∧ ∃ g, g.path = p ∧ t = A ++ g :: C) ∨ (isAt t p = false ∧ t = A ++ C)) := by
  induction t with
  | nil => exact ⟨[], [], by simp, by simp, List.Pairwise.nil, List.Pairwise.nil, rfl, .inr ⟨rfl, rfl⟩⟩
  | cons x r ih =>
    obtain ⟨h1, h2⟩ := List.pairwise_cons.1 hs
    rcases less_tri x.path p with g | g | g
    · obtain ⟨A, C, a1, a2, a3, a4, a5, a6⟩ := ih h2
      have e2 : posOf (x :: r) p = posOf r p + 1 := by unfold posOf; rw [List.takeWhile_cons, g]; rfl
      have e3 : isAt (x :: r) p = isAt r p := by unfold isAt; rw [e2, List.getElem?_cons_succ]
      have hA : Sorted (x :: A) := by
        refine List.Pairwise.cons (fun y hy => h1 y ?_) a3
        rcases a6 with ⟨_, w, _, rfl⟩ | ⟨_, rfl⟩
        · exact List.mem_append_left _ hy
        · exact List.mem_append_left _ hy
      refine ⟨x :: A, C, ?_, a2, hA, a4, by rw [e2, a5]; rfl, ?_⟩
      · intro y hy
        rcases List.mem_cons.1 hy with rfl | hy
        · exact g
        · exact a1 y hy
      · rw [e3]
        rcases a6 with ⟨b1, w, b2, b3⟩ | ⟨b1, b2⟩
        · exact .inl ⟨b1, w, b2, by rw [b3]; rfl⟩
        · exact .inr ⟨b1, by rw [b2]; rfl⟩
    · have e2 : posOf (x :: r) p = 0 := by unfold posOf; rw [List.takeWhile_cons, g, less_irrefl]; rfl
      exact ⟨[], r, by simp, fun y hy => by rw [← g]; exact h1 y hy, List.Pairwise.nil, h2, e2, .inl ⟨by unfold isAt; rw [e2]; simp [g], x, g, rfl⟩⟩
    · have e2 : posOf (x :: r) p = 0 := by unfold posOf; rw [List.takeWhile_cons, less_asymm g]; rfl
      refine ⟨[], x :: r, by simp, fun y hy => ?_, List.Pairwise.nil, hs, e2, .inr ⟨by unfold isAt; rw [e2]; simp [(less_ne g).symm], rfl⟩⟩
      rcases List.mem_cons.1 hy with rfl | hy
      · exact g
      · exact less_trans g (h1 y hy)
theorem sorted_join {A C : List File} {f : File} (a1 : ∀ x ∈ A, less x.path f.path = true) (a2 : ∀ x ∈ C, less f.path x.path = true) (a3 : Sorted A) (a4 : Sorted C) : Sorted (A ++ f :: C) := by
  refine List.pairwise_append.2 ⟨a3, List.Pairwise.cons a2 a4, fun x hx y hy => ?_⟩
  rcases List.mem_cons.1 hy with rfl | hy
  · exact a1 x hx
  · exact less_trans (a1 x hx) (a2 y hy)
theorem sorted_pair {A C : List File} {p : ByteArray} (a1 : ∀ x ∈ A, less x.path p = true) (a2 : ∀ x ∈ C, less p x.path = true) (a3 : Sorted A) (a4 : Sorted C) : Sorted (A ++ C) :=
  List.pairwise_append.2 ⟨a3, a4, fun x hx y hy => less_trans (a1 x hx) (a2 y hy)⟩
theorem isAt_look {t : List File} (hs : Sorted t) (p : ByteArray) : isAt t p = (look t p).isSome := by
  obtain ⟨A, C, a1, a2, _, _, _, a6⟩ := tree_split hs p
  rcases a6 with ⟨b1, w, b2, rfl⟩ | ⟨b1, rfl⟩
  · rw [b1, look_app, look_none fun x hx => less_ne (a1 x hx), look_cons, if_pos b2]; rfl
  · rw [b1, look_app, look_none fun x hx => less_ne (a1 x hx), look_none fun x hx => (less_ne (a2 x hx)).symm]; rfl
theorem putAt_is {t : List File} (hs : Sorted t) (f : File) : ∃ A C : List File, (∀ x ∈ A, less x.path f.path = true) ∧ (∀ x ∈ C, less f.path x.path = true) ∧ Sorted A ∧ Sorted C ∧ putAt t f = A ++ f :: C ∧
    ((isAt t f.path = true ∧ ∃ g, g.path = f.path ∧ t = A ++ g :: C) ∨ (isAt t f.path = false ∧ t = A ++ C)) := by
  obtain ⟨A, C, a1, a2, a3, a4, a5, a6⟩ := tree_split hs f.path
  refine ⟨A, C, a1, a2, a3, a4, ?_, a6⟩
  unfold putAt
  rcases a6 with ⟨b1, w, b2, rfl⟩ | ⟨b1, rfl⟩
  · rw [if_pos b1, a5, List.take_left' rfl, List.drop_append, List.drop_eq_nil_of_le (by omega)]
    simp
  · rw [if_neg (by rw [b1]; decide), a5, List.take_left' rfl, List.drop_left' rfl]
theorem putAt_sorted {t : List File} (hs : Sorted t) (f : File) : Sorted (putAt t f) := by
  obtain ⟨A, C, a1, a2, a3, a4, a5, _⟩ := putAt_is hs f
  rw [a5]
  exact sorted_join a1 a2 a3 a4
theorem putAt_look {t : List File} (hs : Sorted t) (f : File) (p : ByteArray) : look (putAt t f) p = if f.path = p then some f.lines else look t p := by
  obtain ⟨A, C, a1, a2, a3, a4, a5, a6⟩ := putAt_is hs f
  rw [a5, look_app, look_cons]
  by_cases e : f.path = p
  · rw [if_pos e, if_pos e, look_none fun x hx => by rw [← e]; exact less_ne (a1 x hx)]; rfl
  · rw [if_neg e, if_neg e]
    rcases a6 with ⟨b1, w, b2, rfl⟩ | ⟨b1, rfl⟩
    · rw [look_app, look_cons, if_neg (by rw [b2]; exact e)]
    · rw [look_app]
theorem putAt_len {t : List File} (hs : Sorted t) (f : File) : (putAt t f).length = if isAt t f.path = true then t.length else t.length + 1 := by
  obtain ⟨A, C, a1, a2, a3, a4, a5, a6⟩ := putAt_is hs f
  rw [a5]
  rcases a6 with ⟨b1, w, b2, rfl⟩ | ⟨b1, rfl⟩
  · rw [if_pos b1]; simp
  · rw [if_neg (by rw [b1]; decide)]; simp; omega
theorem dropAt_isp {t : List File} (hs : Sorted t) {p : ByteArray} (h : isAt t p = true) : ∃ A C : List File, (∀ x ∈ A, less x.path p = true) ∧ (∀ x ∈ C, less p x.path = true) ∧ Sorted A ∧ Sorted C ∧ dropAt t (posOf t p) = A ++ C ∧ ∃ g, g.path = p ∧ t = A ++ g :: C := by
  obtain ⟨A, C, a1, a2, a3, a4, a5, a6⟩ := tree_split hs p
  rcases a6 with ⟨b1, w, b2, rfl⟩ | ⟨b1, rfl⟩
  · refine ⟨A, C, a1, a2, a3, a4, ?_, w, b2, rfl⟩
    unfold dropAt
    rw [a5, List.take_left' rfl, List.drop_append, List.drop_eq_nil_of_le (by omega)]
    simp
  · rw [b1] at h; cases h
theorem dropAt_sorted {t : List File} (hs : Sorted t) {p : ByteArray} (h : isAt t p = true) : Sorted (dropAt t (posOf t p)) := by
  obtain ⟨A, C, a1, a2, a3, a4, a5, _⟩ := dropAt_isp hs h
  rw [a5]
  exact sorted_pair a1 a2 a3 a4
theorem dropAt_look {t : List File} (hs : Sorted t) {p : ByteArray} (h : isAt t p = true) (q : ByteArray) : look (dropAt t (posOf t p)) q = if p = q then none else look t q := by
  obtain ⟨A, C, a1, a2, a3, a4, a5, g, b1, b2⟩ := dropAt_isp hs h
  rw [a5, look_app]
  by_cases e : p = q
  · subst e
    rw [if_pos rfl, look_none fun x hx => less_ne (a1 x hx), look_none fun x hx => (less_ne (a2 x hx)).symm]; rfl
  · rw [if_neg e, b2, look_app, look_cons, if_neg (by rw [b1]; exact e)]
/-- two trees in which each path reads the same are the same -/
theorem sorted_ext : ∀ {t u : List File}, Sorted t → Sorted u → (∀ p, look t p = look u p) → t = u
  | [], [], _, _, _ => rfl
  | [], y :: s, _, _, h => by have := h y.path; rw [look_nil, look_cons, if_pos rfl] at this; cases this
  | x :: r, [], _, _, h => by have := h x.path; rw [look_nil, look_cons, if_pos rfl] at this; cases this
  | x :: r, y :: s, hs, hu, h => by
    obtain ⟨h1, h2⟩ := List.pairwise_cons.1 hs
    obtain ⟨g1, g2⟩ := List.pairwise_cons.1 hu
    have hx := h x.path
    rw [look_cons, if_pos rfl, look_cons] at hx
    have hy := h y.path
    rw [look_cons y s, if_pos rfl, look_cons] at hy
    have key : x.path = y.path := by
      rcases less_tri x.path y.path with g | g | g
      · rw [if_neg (less_ne g).symm, look_none fun z hz => (less_ne (less_trans g (g1 z hz))).symm] at hx
        cases hx
      · exact g
      · rw [if_neg (less_ne g).symm, look_none fun z hz => (less_ne (less_trans g (h1 z hz))).symm] at hy
        cases hy
    rw [if_pos key.symm] at hx
    have e : x = y := by
      cases x; cases y
      simp only at key hx
      simp [key, Option.some.inj hx]
    subst e
    congr 1
    refine sorted_ext h2 g2 fun p => ?_
    have := h p
    rw [look_cons, look_cons] at this
    by_cases e : x.path = p
    · rw [look_none fun z hz => by rw [← e]; exact (less_ne (h1 z hz)).symm, look_none fun z hz => by rw [← e]; exact (less_ne (g1 z hz)).symm]
    · rw [if_neg e, if_neg e] at this
      exact this

/-! ### what makes a tree -/
theorem treeGo_ok : ∀ (t : List File) (i : Nat) (prev : Option ByteArray), (∀ f ∈ t, fileFault f = 0) → Sorted t → (∀ p f, prev = some p → f ∈ t → less p f.path = true) → treeGo i prev t = (0, 0)
  | [], _, _, _, _, _ => rfl
  | f :: r, i, prev, h1, h2, h3 => by
    obtain ⟨g1, g2⟩ := List.pairwise_cons.1 h2
    have hp : ¬ prev.any (fun p => leqB f.path p) = true := by
      cases prev with
      | none => simp
      | some p =>
        simp only [Option.any_some]
        intro e
        have := leqB_true.1 e
        rw [h3 p f rfl (List.mem_cons_self ..)] at this
        cases this
    rw [treeGo, if_neg (by rw [h1 f (List.mem_cons_self ..)]; simp), if_neg hp]
    exact treeGo_ok r (i + 1) (some f.path) (fun x hx => h1 x (List.mem_cons_of_mem _ hx)) g2 (fun p x hp hx => by cases hp; exact g1 x hx)
theorem treeFault_ok {t : List File} (h0 : t.length ≤ 8) (h1 : ∀ f ∈ t, fileFault f = 0) (h2 : Sorted t) : treeFault t = (0, 0) := by
  unfold treeFault
  rw [if_neg (by omega)]
  exact treeGo_ok t 0 none h1 h2 (by simp)
/-- a tree that may be -/
def Tree (t : List File) : Prop := t.length ≤ 8 ∧ (∀ f ∈ t, fileFault f = 0) ∧ Sorted t
theorem tree_iff {t : List File} : Tree t ↔ (treeFault t).2 = 0 :=
  ⟨fun h => by rw [treeFault_ok h.1 h.2.1 h.2.2], fun h => by obtain ⟨a, b, c, _⟩ := treeFault_zero h; exact ⟨a, b, c⟩⟩
end Go.Proofs.YtjiaidchcldocaaGreatDoor
namespace Go.Proofs.YtjiaidchcldocaaGreatDoor

def isChange (m : Mark) : Bool := !(m.sign == 32)
/-- is mark k within n of one that takes or puts? -/
def inAt (s : List Mark) (n : Int) (k : Nat) : Bool := (List.range s.length).any fun i => (s[i]?.any isChange) && decide ((k : Int) ≤ i + n) && decide ((i : Int) ≤ k + n)
/-- a mark more in the last hunk -/
def pushLast (out : List Hunk) (m : Mark) : List Hunk :=
  match out.getLast? with
  | some h => out.dropLast ++ [{ h with marks := h.marks ++ [m] }]
  | none => out
/-- one step: the hunks so far, whether the mark ahead was in one, how many old and new lines stand ahead -/
def cutStep (out : List Hunk) (was inn : Bool) (before after : Nat) (m : Mark) : List Hunk :=
  if inn then pushLast (if was then out else out ++ [⟨before, after, []⟩]) m else out
def cutTo (s : List Mark) (n : Int) : Nat → List Hunk
  | 0 => []
  | k + 1 => match s[k]? with
    | some m => cutStep (cutTo s n k) (decide (0 < k) && inAt s n (k - 1)) (inAt s n k) (oldN (s.take k)) (newN (s.take k)) m
    | none => cutTo s n k
def cutOf (s : List Mark) (n : Int) : List Hunk := cutTo s n s.length
def cutFault (s : List Mark) (n : Int) : Int :=
  if scriptFault s ≠ 0 then scriptFault s else if n < 0 ∨ 1000 < n then 1 else if 60 < oldN s ∨ 60 < newN s then 3 else 0
end Go.Proofs.YtjiaidchcldocaaGreatDoor
namespace Go.Proofs.YtjiaidchcldocaaGreatDoor

def wholeR (l : List ByteArray) (s : Int) : List Hunk := if l = [] then [] else [⟨0, 0, l.map fun x => ⟨s, x⟩⟩]
/-- the change of a path by what it reads ahead and behind -/
def chg (n : Int) (p : ByteArray) : Option (List ByteArray) → Option (List ByteArray) → List Change
  | none, none => []
  | none, some y => [⟨2, p, wholeR y 43⟩]
  | some x, none => [⟨3, p, wholeR x 45⟩]
  | some x, some y => if cutOf (script x y) n = [] then [] else [⟨1, p, cutOf (script x y) n⟩]
def diffL (n : Int) : List File → List File → List Change
  | [], [] => []
  | x :: a, [] => ⟨3, x.path, wholeR x.lines 45⟩ :: diffL n a []
  | [], y :: b => ⟨2, y.path, wholeR y.lines 43⟩ :: diffL n [] b
  | x :: a, y :: b =>
    if less x.path y.path = true then ⟨3, x.path, wholeR x.lines 45⟩ :: diffL n a (y :: b)
    else if less y.path x.path = true then ⟨2, y.path, wholeR y.lines 43⟩ :: diffL n (x :: a) b
    else chg n x.path (some x.lines) (some y.lines) ++ diffL n a b
termination_by a b => a.length + b.length
def mergeT : List File → List File → List File
  | [], [] => []
  | x :: a, [] => x :: mergeT a []
  | [], y :: b => y :: mergeT [] b
  | x :: a, y :: b =>
    if less x.path y.path = true then x :: mergeT a (y :: b)
    else if less y.path x.path = true then y :: mergeT (x :: a) b
    else y :: mergeT a b
termination_by a b => a.length + b.length
def allOf (a b : List File) : List File := b.foldl putAt a
def refDiff (a b : List File) (n : Int) : List Change := (allOf a b).flatMap fun f => chg n f.path (look a f.path) (look b f.path)

theorem flat_congr {α β : Type} {g h : α → List β} : ∀ {l : List α}, (∀ x ∈ l, g x = h x) → l.flatMap g = l.flatMap h
  | [], _ => rfl
  | x :: r, e => by rw [List.flatMap_cons, List.flatMap_cons, e x (List.mem_cons_self ..), flat_congr fun y hy => e y (List.mem_cons_of_mem _ hy)]
theorem less_same {p q : ByteArray} (h : ¬ less p q = true) (g : ¬ less q p = true) : p = q := by
  rcases less_tri p q with e | e | e
  · exact absurd e h
  · exact e
  · exact absurd e g
/-- all of two lists lie behind a path -/
def Behind (p : ByteArray) (a : List File) : Prop := ∀ x ∈ a, less p x.path = true
theorem Behind.trans {p q : ByteArray} {a : List File} (h : Behind q a) (g : less p q = true) : Behind p a := fun x hx => less_trans g (h x hx)
theorem Behind.cons {p : ByteArray} {x : File} {a : List File} (h : Behind p a) (g : less p x.path = true) : Behind p (x :: a) := fun y hy => by
  rcases List.mem_cons.1 hy with rfl | hy
  · exact g
  · exact h y hy
theorem Behind.none {p : ByteArray} {a : List File} (h : Behind p a) : look a p = none := look_none fun x hx => (less_ne (h x hx)).symm
theorem sorted_cons {x : File} {a : List File} (h : Sorted (x :: a)) : Behind x.path a ∧ Sorted a := List.pairwise_cons.1 h
theorem merge_behind (p : ByteArray) : ∀ (a b : List File), Behind p a → Behind p b → Behind p (mergeT a b)
  | [], [], _, _ => by rw [mergeT]; exact fun x hx => by cases hx
  | x :: a, [], h, g => by
    rw [mergeT]
    exact Behind.cons (merge_behind p a [] (fun y hy => h y (List.mem_cons_of_mem _ hy)) g) (h x (List.mem_cons_self ..))
  | [], y :: b, h, g => by
    rw [mergeT]
    exact Behind.cons (merge_behind p [] b h (fun z hz => g z (List.mem_cons_of_mem _ hz))) (g y (List.mem_cons_self ..))
  | x :: a, y :: b, h, g => by
    have h1 : Behind p a := fun y hy => h y (List.mem_cons_of_mem _ hy)
    have g1 : Behind p b := fun y hy => g y (List.mem_cons_of_mem _ hy)
    rw [mergeT]
    split
    · exact Behind.cons (merge_behind p a (y :: b) h1 g) (h x (List.mem_cons_self ..))
    · split
      · exact Behind.cons (merge_behind p (x :: a) b h g1) (g y (List.mem_cons_self ..))
      · exact Behind.cons (merge_behind p a b h1 g1) (g y (List.mem_cons_self ..))
termination_by a b => a.length + b.length
theorem merge_sorted : ∀ (a b : List File), Sorted a → Sorted b → Sorted (mergeT a b)
  | [], [], _, _ => by rw [mergeT]; exact List.Pairwise.nil
  | x :: a, [], h, g => by
    rw [mergeT]
    exact List.Pairwise.cons (merge_behind x.path a [] (sorted_cons h).1 (fun y hy => by cases hy)) (merge_sorted a [] (sorted_cons h).2 g)
  | [], y :: b, h, g => by
    rw [mergeT]
    exact List.Pairwise.cons (merge_behind y.path [] b (fun y hy => by cases hy) (sorted_cons g).1) (merge_sorted [] b h (sorted_cons g).2)
  | x :: a, y :: b, h, g => by
    obtain ⟨h1, h2⟩ := sorted_cons h
    obtain ⟨g1, g2⟩ := sorted_cons g
    rw [mergeT]
    split
    · rename_i l1
      exact List.Pairwise.cons (merge_behind x.path a (y :: b) h1 ((g1.trans l1).cons l1)) (merge_sorted a (y :: b) h2 g)
    · rename_i l1
      split
      · rename_i l2
        exact List.Pairwise.cons (merge_behind y.path (x :: a) b ((h1.trans l2).cons l2) g1) (merge_sorted (x :: a) b h g2)
      · rename_i l2
        have e := less_same l1 l2
        exact List.Pairwise.cons (merge_behind y.path a b (by rw [← e]; exact h1) g1) (merge_sorted a b h2 g2)
termination_by a b => a.length + b.length
theorem merge_look (p : ByteArray) : ∀ (a b : List File), Sorted a → Sorted b → look (mergeT a b) p = (look b p).or (look a p)
  | [], [], _, _ => by rw [mergeT]; rfl
  | x :: a, [], h, g => by
    rw [mergeT, look_cons, look_cons, merge_look p a [] (sorted_cons h).2 g]
    rw [look_nil]; rfl
  | [], y :: b, h, g => by
    rw [mergeT, look_cons, look_cons, merge_look p [] b h (sorted_cons g).2]
    by_cases e : y.path = p
    · rw [if_pos e, if_pos e]; rfl
    · rw [if_neg e, if_neg e]
  | x :: a, y :: b, h, g => by
    obtain ⟨h1, h2⟩ := sorted_cons h
    obtain ⟨g1, g2⟩ := sorted_cons g
    rw [mergeT]
    split
    · rename_i l1
      rw [look_cons, merge_look p a (y :: b) h2 g, look_cons x a]
      by_cases e : x.path = p
      · rw [if_pos e, if_pos e, Behind.none (p := p) (by rw [← e]; exact (g1.trans l1).cons l1)]; rfl
      · rw [if_neg e, if_neg e]
    · rename_i l1
      split
      · rename_i l2
        rw [look_cons, merge_look p (x :: a) b h g2, look_cons y b]
        by_cases e : y.path = p
        · rw [if_pos e, if_pos e]; rfl
        · rw [if_neg e, if_neg e]
      · rename_i l2
        have e := less_same l1 l2
        rw [look_cons, merge_look p a b h2 g2, look_cons y b, look_cons x a]
        by_cases q : y.path = p
        · rw [if_pos q, if_pos q]; rfl
        · rw [if_neg q, if_neg q, if_neg (by rw [e]; exact q)]
termination_by a b => a.length + b.length
theorem all_sorted : ∀ (b a : List File), Sorted a → Sorted (allOf a b)
  | [], _, h => h
  | x :: r, a, h => all_sorted r (putAt a x) (putAt_sorted h x)
theorem all_look (p : ByteArray) : ∀ (b a : List File), Sorted a → Sorted b → look (allOf a b) p = (look b p).or (look a p)
  | [], a, _, _ => rfl
  | x :: r, a, h, g => by
    obtain ⟨g1, g2⟩ := sorted_cons g
    have := all_look p r (putAt a x) (putAt_sorted h x) g2
    rw [show allOf a (x :: r) = allOf (putAt a x) r from rfl, this, putAt_look h, look_cons]
    by_cases e : x.path = p
    · rw [if_pos e, if_pos e, Behind.none (p := p) (by rw [← e]; exact g1)]; rfl
    · rw [if_neg e, if_neg e]
theorem all_merge {a b : List File} (h : Sorted a) (g : Sorted b) : allOf a b = mergeT a b :=
  sorted_ext (all_sorted b a h) (merge_sorted a b h g) fun p => by rw [all_look p b a h g, merge_look p a b h g]
theorem merge_diff (n : Int) : ∀ (a b : List File), Sorted a → Sorted b → ((mergeT a b).flatMap fun f => chg n f.path (look a f.path) (look b f.path)) = diffL n a b
  | [], [], _, _ => by rw [mergeT, diffL]; rfl
  | x :: a, [], h, g => by
    obtain ⟨h1, h2⟩ := sorted_cons h
    rw [mergeT, diffL, List.flatMap_cons, ← merge_diff n a [] h2 g, look_cons, if_pos rfl, look_nil]
    refine congrArg (fun l => _ :: l) (flat_congr fun f hf => ?_)
    rw [look_cons, if_neg (less_ne (merge_behind x.path a [] h1 (fun y hy => by cases hy) f hf))]
  | [], y :: b, h, g => by
    obtain ⟨g1, g2⟩ := sorted_cons g
    rw [mergeT, diffL, List.flatMap_cons, ← merge_diff n [] b h g2, look_cons, if_pos rfl, look_nil]
    refine congrArg (fun l => _ :: l) (flat_congr fun f hf => ?_)
    rw [look_cons, if_neg (less_ne (merge_behind y.path [] b (fun y hy => by cases hy) g1 f hf))]
  | x :: a, y :: b, h, g => by
    obtain ⟨h1, h2⟩ := sorted_cons h
    obtain ⟨g1, g2⟩ := sorted_cons g
    rw [mergeT, diffL]
    by_cases l1 : less x.path y.path = true
    · have q := (g1.trans l1).cons l1
      rw [if_pos l1, if_pos l1, List.flatMap_cons, ← merge_diff n a (y :: b) h2 g, q.none, look_cons, if_pos rfl]
      refine congrArg (fun l => _ :: l) (flat_congr fun f hf => ?_)
      rw [look_cons x a, if_neg (less_ne (merge_behind x.path a (y :: b) h1 q f hf))]
    · rw [if_neg l1, if_neg l1]
      by_cases l2 : less y.path x.path = true
      · have q := (h1.trans l2).cons l2
        rw [if_pos l2, if_pos l2, List.flatMap_cons, ← merge_diff n (x :: a) b h g2, q.none, look_cons, if_pos rfl]
        refine congrArg (fun l => _ :: l) (flat_congr fun f hf => ?_)
        rw [look_cons y b, if_neg (less_ne (merge_behind y.path (x :: a) b q g1 f hf))]
      · have e := less_same l1 l2
        rw [if_neg l2, if_neg l2, List.flatMap_cons, ← merge_diff n a b h2 g2, look_cons, if_pos e, look_cons, if_pos rfl, e]
        refine congrArg (fun l => _ ++ l) (flat_congr fun f hf => ?_)
        have q := less_ne (merge_behind y.path a b (by rw [← e]; exact h1) g1 f hf)
        rw [look_cons y b, look_cons x a, if_neg (by rw [e]; exact q), if_neg q]
termination_by a b => a.length + b.length
theorem diff_same {a b : List File} (n : Int) (h : Sorted a) (g : Sorted b) : refDiff a b n = diffL n a b := by
  unfold refDiff
  rw [all_merge h g, merge_diff n a b h g]
end Go.Proofs.YtjiaidchcldocaaGreatDoor
namespace Go.Proofs.YtjiaidchcldocaaGreatDoor

theorem far_nil (b : List ByteArray) : far [] b = b.length := by rw [far]
theorem far_nil' (a : List ByteArray) : far a [] = a.length := by cases a <;> rw [far] <;> rfl
theorem far_cons (x y : ByteArray) (a b : List ByteArray) : far (x :: a) (y :: b) = if x = y then far a b else 1 + min (far a (y :: b)) (far (x :: a) b) := by rw [far]
theorem far_same (x : ByteArray) (a b : List ByteArray) : far (x :: a) (x :: b) = far a b := by rw [far_cons, if_pos rfl]

theorem far_comm : ∀ (n : Nat) (a b : List ByteArray), a.length + b.length = n → far a b = far b a := by
  intro n
  induction n using Nat.strongRecOn with
  | _ n ih =>
    intro a b hn
    match a, b with
    | [], b => rw [far_nil, far_nil']
    | x :: a, [] => rw [far_nil, far_nil']
    | x :: a, y :: b =>
      simp only [List.length_cons] at hn
      rw [far_cons, far_cons, ih _ (by omega) a b rfl, ih _ (by simp only [List.length_cons]; omega) a (y :: b) rfl, ih _ (by simp only [List.length_cons]; omega) (x :: a) b rfl]
      by_cases h : x = y
      · subst h; simp
      · rw [if_neg h, if_neg (fun e => h e.symm), Nat.min_comm]
theorem far_symm (a b : List ByteArray) : far a b = far b a := far_comm _ a b rfl

/-- one line more at either head: at most one further, at most one nearer -/
theorem far_step : ∀ (n : Nat) (x : ByteArray) (a c : List ByteArray), a.length + c.length = n → far (x :: a) c ≤ 1 + far a c ∧ far a c ≤ 1 + far (x :: a) c := by
  intro n
  induction n using Nat.strongRecOn with
  | _ n ih =>
    intro x a c hn
    match c with
    | [] => rw [far_nil', far_nil']; simp only [List.length_cons]; omega
    | z :: c =>
      simp only [List.length_cons] at hn
      have h1 := ih (a.length + c.length) (by omega) z c a (by omega)
      rw [far_symm (z :: c) a, far_symm c a] at h1
      have h2 := ih (a.length + c.length) (by omega) x a c rfl
      rw [far_cons]
      by_cases h : x = z
      · rw [if_pos h]; omega
      · rw [if_neg h]; omega

theorem far_take (x : ByteArray) (a c : List ByteArray) : far (x :: a) c ≤ 1 + far a c := (far_step _ x a c rfl).1
theorem far_le : ∀ (a b : List ByteArray), far a b ≤ a.length + b.length
  | [], b => by rw [far_nil]; simp
  | x :: a, b => by have := far_take x a b; have := far_le a b; simp only [List.length_cons]; omega
/-! ### scripts -/
def signsOk (s : List Mark) : Prop := ∀ m ∈ s, m.sign = 32 ∨ m.sign = 45 ∨ m.sign = 43

theorem oldOf_cons (m : Mark) (s : List Mark) : oldOf (m :: s) = if m.sign = 43 then oldOf s else m.text :: oldOf s := by
  by_cases h : m.sign = 43 <;> simp [oldOf, those, h]
theorem newOf_cons (m : Mark) (s : List Mark) : newOf (m :: s) = if m.sign = 45 then newOf s else m.text :: newOf s := by
  by_cases h : m.sign = 45 <;> simp [newOf, those, h]
theorem changes_cons (m : Mark) (s : List Mark) : changes (m :: s) = if m.sign = 32 then changes s else changes s + 1 := by
  by_cases h : m.sign = 32 <;> simp [changes, h]

theorem script_facts : ∀ (n : Nat) (a b : List ByteArray), a.length + b.length = n →
    oldOf (script a b) = a ∧ newOf (script a b) = b ∧ changes (script a b) = far a b ∧ signsOk (script a b) := by
  intro n
  induction n using Nat.strongRecOn with
  | _ n ih =>
    intro a b hn
    match a, b with
    | [], [] => rw [script, far_nil]; simp [oldOf, newOf, those, changes, signsOk]
    | x :: a, [] =>
      obtain ⟨h1, h2, h3, h4⟩ := ih _ (by simp only [List.length_cons, List.length_nil] at hn ⊢; omega) a [] rfl
      rw [script, oldOf_cons, newOf_cons, changes_cons, h1, h2, h3, far_nil', far_nil']
      refine ⟨by simp, by simp, by simp, ?_⟩
      intro m hm
      rcases List.mem_cons.1 hm with rfl | hm
      · simp
      · exact h4 m hm
    | [], y :: b =>
      obtain ⟨h1, h2, h3, h4⟩ := ih _ (by simp only [List.length_cons, List.length_nil] at hn ⊢; omega) [] b rfl
      rw [script, oldOf_cons, newOf_cons, changes_cons, h1, h2, h3, far_nil, far_nil]
      refine ⟨by simp, by simp, by simp, ?_⟩
      intro m hm
      rcases List.mem_cons.1 hm with rfl | hm
      · simp
      · exact h4 m hm
    | x :: a, y :: b =>
      simp only [List.length_cons] at hn
      obtain ⟨p1, p2, p3, p4⟩ := ih _ (by omega) a b rfl
      obtain ⟨q1, q2, q3, q4⟩ := ih _ (by simp only [List.length_cons]; omega) a (y :: b) rfl
      obtain ⟨r1, r2, r3, r4⟩ := ih _ (by simp only [List.length_cons]; omega) (x :: a) b rfl
      have e := far_cons x y a b
      rw [script]
      by_cases hxy : x = y
      · subst hxy
        rw [if_pos rfl] at e ⊢
        rw [oldOf_cons, newOf_cons, changes_cons, p1, p2, p3, e]
        refine ⟨by simp, by simp, by simp, ?_⟩
        intro m hm
        rcases List.mem_cons.1 hm with rfl | hm
        · simp
        · exact p4 m hm
      · rw [if_neg hxy] at e ⊢
        by_cases ht : far a (y :: b) + 1 = far (x :: a) (y :: b)
        · rw [if_pos ht, oldOf_cons, newOf_cons, changes_cons, q1, q2, q3]
          refine ⟨by simp, by simp, by simp; omega, ?_⟩
          intro m hm
          rcases List.mem_cons.1 hm with rfl | hm
          · simp
          · exact q4 m hm
        · rw [if_neg ht, oldOf_cons, newOf_cons, changes_cons, r1, r2, r3]
          refine ⟨by simp, by simp, by simp; omega, ?_⟩
          intro m hm
          rcases List.mem_cons.1 hm with rfl | hm
          · simp
          · exact r4 m hm
theorem script_old (a b : List ByteArray) : oldOf (script a b) = a := (script_facts _ a b rfl).1
theorem script_new (a b : List ByteArray) : newOf (script a b) = b := (script_facts _ a b rfl).2.1
theorem script_signs (a b : List ByteArray) : signsOk (script a b) := (script_facts _ a b rfl).2.2.2
end Go.Proofs.YtjiaidchcldocaaGreatDoor
namespace Go.Proofs.YtjiaidchcldocaaGreatDoor
open Go.RowKit

def checkedFault (l m : List ByteArray) : Int := if linesFault l = 0 then linesFault m else linesFault l
theorem linesFault_len {l : List ByteArray} (h : linesFault l = 0) : l.length ≤ 60 := by
  unfold linesFault at h
  by_cases h1 : 60 < l.length
  · simp [h1] at h
  · omega
theorem checkedFault_zero {l m : List ByteArray} : checkedFault l m = 0 ↔ linesFault l = 0 ∧ linesFault m = 0 := by
  unfold checkedFault
  by_cases h : linesFault l = 0 <;> simp [h]

theorem checked_any (l m : List ByteArray) (v u : Value) (w : World) (h : Rdv w Never v l) (g : Rdv w Never u m) :
    Calls Tryz.prog 161 #[v, u] w fun e w' => e = .returned (errV (checkedFault l m)) ∧ w = w' := by
  by_cases hz : linesFault l = 0
  · go_enter Tryz.func161, Tryz.ntmps161
    go_wp2_with fail
    refine (check_any l _ _ h).mono ?_
    rintro e w' ⟨rfl, rfl⟩
    rw [hz, errV_zero]
    go_wp2_with fail
    refine (check_any m _ _ g).mono ?_
    rintro e w' ⟨rfl, rfl⟩
    go_wp2_with fail
    go_ret
    exact ⟨by unfold checkedFault; rw [if_pos hz]; rfl, rfl⟩
  · go_enter Tryz.func161, Tryz.ntmps161
    go_wp2_with fail
    refine (check_any l _ _ h).mono ?_
    rintro e w' ⟨rfl, rfl⟩
    rw [errV_pos hz]
    go_wp2_with fail
    go_ret
    exact ⟨by unfold checkedFault; rw [if_neg hz, errV_pos hz]; rfl, rfl⟩

def zeros : Array Value := Array.replicate 3721 (.int .i64 0)
theorem zero_table (w : World) : (zeroValue 289).run Tryz.prog w = .ok (.agg zeros) w := by kernel_rfl

/-- the table at block T holds the distances of all places behind (x, y) -/
def Fil (T : Nat) (wr : World) (l m : List ByteArray) (x y : Int) : Prop :=
  ∃ c : Array Value, wr.heap[T]? = some (.cells c 289 (0, 0)) ∧ c.size = 3721 ∧ (∀ j, j < 3721 → ∃ n, c[j]? = some (.int .i64 n)) ∧
    ∀ i k : Nat, i ≤ l.length → k ≤ m.length → (x < i ∨ (x = i ∧ y < k)) → c[i * 61 + k]? = some (.int .i64 (far (l.drop i) (m.drop k)))

theorem Fil.cell {T : Nat} {wr : World} {l m : List ByteArray} {x y : Int} (h : Fil T wr l m x y) {i k : Nat} (hi : i ≤ l.length) (hk : k ≤ m.length) (hp : x < i ∨ (x = i ∧ y < k)) :
    wr.cell? ⟨T, i * 61 + k, none⟩ = some (.int .i64 (far (l.drop i) (m.drop k))) := by
  obtain ⟨c, h1, h2, h3, h4⟩ := h
  simp only [World.cell?, h1]
  exact h4 i k hi hk hp
theorem Fil.any {T : Nat} {wr : World} {l m : List ByteArray} {x y : Int} (h : Fil T wr l m x y) {j : Nat} (hj : j < 3721) :
    ∃ n, wr.cell? ⟨T, j, none⟩ = some (.int .i64 n) := by
  obtain ⟨c, h1, h2, h3, h4⟩ := h
  simp only [World.cell?, h1]
  exact h3 j hj
theorem Fil.free {T : Nat} {wr : World} {l m : List ByteArray} {x y : Int} (h : Fil T wr l m x y) (j : Nat) : wr.frozen? ⟨T, j, none⟩ = false := by
  obtain ⟨c, h1, h2, h3, h4⟩ := h
  simp [World.frozen?, h1]

theorem Fil.set {T : Nat} {wr : World} {l m : List ByteArray} {i k : Nat} (h : Fil T wr l m i k) (hl : l.length ≤ 60) (hm : m.length ≤ 60) (hi : i ≤ l.length) (hk : k ≤ m.length) {n : Int} (hn : n = far (l.drop i) (m.drop k)) :
    Fil T (wr.setCell ⟨T, i * 61 + k, none⟩ (.int .i64 n)) l m i ((k : Int) - 1) := by
  obtain ⟨c, h1, h2, h3, h4⟩ := h
  refine ⟨c.setIfInBounds (i * 61 + k) (.int .i64 n), ?_, by simpa using h2, ?_, ?_⟩
  · simp [World.setCell, Array.getElem?_modify, h1]
  · intro j hj
    by_cases e : i * 61 + k = j
    · exact ⟨n, by rw [Array.getElem?_setIfInBounds, if_pos e, if_pos (by omega)]⟩
    · obtain ⟨n', hn'⟩ := h3 j hj
      exact ⟨n', by rw [Array.getElem?_setIfInBounds, if_neg e]; exact hn'⟩
  · intro i' k' hi' hk' hp
    by_cases e : i * 61 + k = i' * 61 + k'
    · have e1 : i' = i := by omega
      have e2 : k' = k := by omega
      subst e1 e2
      rw [Array.getElem?_setIfInBounds, if_pos e, if_pos (by omega), hn]
    · rw [Array.getElem?_setIfInBounds, if_neg e]
      refine h4 i' k' hi' hk' ?_
      rcases hp with hp | ⟨hp, hq⟩
      · exact .inl hp
      · rcases Int.lt_or_le k k' with h5 | h5
        · exact .inr ⟨hp, h5⟩
        · exact absurd (by omega) e

theorem Fil.drewN {T : Nat} {wr : World} {l m : List ByteArray} {x y : Int} (h : Fil T wr l m x y) (n : Nat) : Fil T (wr.drewN n) l m x y := h
theorem Fil.drew {T : Nat} {wr : World} {l m : List ByteArray} {x y : Int} (h : Fil T wr l m x y) : Fil T wr.drew l m x y := h

theorem Fil.start (w : World) (l m : List ByteArray) : Fil w.heap.size (w.alloc (.cells zeros 289)) l m l.length m.length := by
  refine ⟨zeros, heap_alloc_new _ _, by simp [zeros], ?_, ?_⟩
  · intro j hj
    exact ⟨0, by simp [zeros, hj]⟩
  · intro i k hi hk hp
    omega
theorem Fil.row {T : Nat} {wr : World} {l m : List ByteArray} {i : Nat} (h : Fil T wr l m i (-1)) : Fil T wr l m ((i : Int) - 1) m.length := by
  obtain ⟨c, h1, h2, h3, h4⟩ := h
  refine ⟨c, h1, h2, h3, ?_⟩
  intro i' k' hi' hk' hp
  refine h4 i' k' hi' hk' ?_
  omega

theorem far_end_l {l m : List ByteArray} {i k : Nat} (hi : i = l.length) (hk : k ≤ m.length) : (m.length : Int) - k = far (l.drop i) (m.drop k) := by
  rw [hi, List.drop_length, far_nil, List.length_drop]; omega
theorem far_end_m {l m : List ByteArray} {i k : Nat} (hk : k = m.length) (hi : i ≤ l.length) : (l.length : Int) - i = far (l.drop i) (m.drop k) := by
  rw [hk, List.drop_length, far_nil', List.length_drop]; omega
theorem far_eq {l m : List ByteArray} {i k : Nat} {x : ByteArray} (hx : l[i]? = some x) (hy : m[k]? = some x) : far (l.drop i) (m.drop k) = far (l.drop (i + 1)) (m.drop (k + 1)) := by
  rw [drop_eq hx, drop_eq hy, far_same]
theorem far_ne {l m : List ByteArray} {i k : Nat} {x y : ByteArray} (hx : l[i]? = some x) (hy : m[k]? = some y) (h : x ≠ y) :
    far (l.drop i) (m.drop k) = 1 + min (far (l.drop (i + 1)) (m.drop k)) (far (l.drop i) (m.drop (k + 1))) := by
  rw [drop_eq hx, drop_eq hy, far_cons, if_neg h, ← drop_eq hx, ← drop_eq hy]
theorem far_lt {l m : List ByteArray} (hl : l.length ≤ 60) (hm : m.length ≤ 60) (i k : Nat) : far (l.drop i) (m.drop k) ≤ 120 := by
  have := far_le (l.drop i) (m.drop k)
  simp only [List.length_drop] at this
  omega

set_option maxHeartbeats 800000 in
set_option maxRecDepth 100000 in
theorem measure_any (l m : List ByteArray) (v u : Value) (w : World) (h : Rdv w Never v l) (g : Rdv w Never u m) (hl : l.length ≤ 60) (hm : m.length ≤ 60) :
    Calls Tryz.prog 162 #[v, u] w fun e w' => e = .returned (.pointer (some ⟨w.heap.size, 0, none⟩)) ∧ Chg Never w w' ∧ Fil w.heap.size w' l m (-1) m.length := by
  obtain ⟨a, cap, rfl, h1, h2, h3⟩ := rdv_slice h
  obtain ⟨c, cap', rfl, g1, g2, g3⟩ := rdv_slice g
  unfold maxLen at h2 g2
  have hzt := zero_table
  go_enter Tryz.func162, Tryz.ntmps162
  go_wp2_with fail
  go_loopw [6, 7] (fun s6 s7 wr => ∃ x : Int, -1 ≤ x ∧ x ≤ l.length ∧ s6 = .int .i64 x ∧ Chg Never w wr ∧ Fil w.heap.size wr l m x m.length) (fun s6 _ _ => (intOf s6 + 1).toNat)
  case atStart => exact ⟨l.length, by omega, Int.le_refl _, rfl, (Chg.refl _ _).alloc _, Fil.start _ _ _⟩
  case round =>
    obtain ⟨x, hx1, hx2, rfl, hc, hF⟩ := hrel
    by_cases hx : 0 ≤ x
    · obtain ⟨i, rfl⟩ := Int.eq_ofNat_of_zero_le hx
      go_wp2_with fail
      go_loopw [7] (fun s7 wr' => ∃ y : Int, -1 ≤ y ∧ y ≤ m.length ∧ s7 = .int .i64 y ∧ Chg Never w wr' ∧ Fil w.heap.size wr' l m i y) (fun s7 _ => (intOf s7 + 1).toNat)
      case atStart => exact ⟨m.length, by omega, Int.le_refl _, rfl, hc, hF⟩
      case round =>
        rename_i wo _
        clear hF hc
        obtain ⟨y, hy1, hy2, rfl, hc, hF⟩ := hrel
        by_cases hy : 0 ≤ y
        · obtain ⟨k, rfl⟩ := Int.eq_ofNat_of_zero_le hy
          obtain ⟨n0, hn0⟩ := hF.any (j := i * 61 + k) (by omega)
          have hfr := hF.free (i * 61 + k)
          by_cases hil : i = l.length
          · have t1 : ((i : Int) == l.length) = true := by simp [hil]
            have HI := Lib.hid hil
            clear hil
            go_wp2_with fail
            go_roundw
            case rel => exact ⟨(k : Int) - 1, by omega, by omega, rfl, hc.setCell (.inl (Nat.le_refl _)) _, hF.set hl hm (by omega) (by omega) (far_end_l HI.out (by omega))⟩
            case measure => simp [intOf] <;> omega
          · have t1 : ((i : Int) == l.length) = false := by simp; omega
            by_cases hkm : k = m.length
            · have t2 : ((k : Int) == m.length) = true := by simp [hkm]
              have HK := Lib.hid hkm
              clear hkm
              go_wp2_with fail
              go_roundw
              case rel => exact ⟨(k : Int) - 1, by omega, by omega, rfl, hc.setCell (.inl (Nat.le_refl _)) _, hF.set hl hm (by omega) (by omega) (far_end_m HK.out (by omega))⟩
              case measure => simp [intOf] <;> omega
            · have t2 : ((k : Int) == m.length) = false := by simp; omega
              have b1 : (i : Int) < l.length := by omega
              have b2 : (k : Int) < m.length := by omega
              have b3 : i < l.length := by omega
              have b4 : k < m.length := by omega
              clear hil hkm
              obtain ⟨s, hs⟩ : ∃ s, l[i]? = some s := ⟨l[i], by simp [b3]⟩
              obtain ⟨t, ht⟩ : ∃ t, m[k]? = some t := ⟨m[k], by simp [b4]⟩
              obtain ⟨b, off, rfl, _, hbl, hcx, hxs⟩ := elems_str h3 hs
              obtain ⟨b', off', rfl, _, hbl', hcy, hys⟩ := elems_str g3 ht
              have hcx := hc.cellNever hcx
              have hcy := hc.cellNever hcy
              have HS := Lib.hid hs
              have HT := Lib.hid ht
              clear h3 g3 h g hs ht
              have c1 := hF.cell (i := i + 1) (k := k + 1) (by omega) (by omega) (by omega)
              have c2 := hF.cell (i := i + 1) (k := k) (by omega) (by omega) (by omega)
              have c3 := hF.cell (i := i) (k := k + 1) (by omega) (by omega) (by omega)
              have f2 := far_lt hl hm (i + 1) k
              have f3 := far_lt hl hm i (k + 1)
              by_cases hst : s = t
              · subst hst
                go_wp2_with fail
                go_quiet (fail)
                go_wp2_with fail
                generalize hw2 : World.drewN wr _ = w2
                have hc2 : Chg Never w w2 := hw2 ▸ hc.drewN _
                have hF2 : Fil w.heap.size w2 l m i k := hw2 ▸ hF.drewN _
                have hfr2 := hF2.free (i * 61 + k)
                have hn2 : w2.cell? ⟨w.heap.size, i * 61 + k, none⟩ = some (.int .i64 n0) := hw2 ▸ hn0
                have c1 := hF2.cell (i := i + 1) (k := k + 1) (by omega) (by omega) (by omega)
                have c2 := hF2.cell (i := i + 1) (k := k) (by omega) (by omega) (by omega)
                have c3 := hF2.cell (i := i) (k := k + 1) (by omega) (by omega) (by omega)
                clear hw2 hfr hn0 hc hF
                have e1 : IntKind.i64.wrap ((i : Int) + 1) = (i : Int) + 1 := IntWalk.i64_in _ (by omega)
                have e2 : IntKind.i64.wrap ((k : Int) + 1) = (k : Int) + 1 := IntWalk.i64_in _ (by omega)
                have e3 : (0 : Int) ≤ (i : Int) + 1 := by omega
                have e4 : (0 : Int) ≤ (k : Int) + 1 := by omega
                have e5 : (i : Int) + 1 < 61 := by omega
                have e6 : (k : Int) + 1 < 61 := by omega
                have e7 : ((i : Int) + 1).toNat = i + 1 := by omega
                have e8 : ((k : Int) + 1).toNat = k + 1 := by omega
                have e9 : (i : Int) < 61 := by omega
                have e10 : (k : Int) < 61 := by omega
                refine wp_region_still_tail 11 (by kernel_rfl) (by kernel_rfl) ?_
                simp only [List.take_succ_cons, List.take_zero, List.drop_succ_cons, List.drop_zero]
                change wpStill _ _ w2.drew _ _ _
                repeat still_step
                refine wpStill_nil ?_
                change wpList _ _ _ _ _ w2.drew
                have hn3 : w2.drew.cell? ⟨w.heap.size, i * 61 + k, none⟩ = some (.int .i64 n0) := hn2
                have hfr3 : w2.drew.frozen? ⟨w.heap.size, i * 61 + k, none⟩ = false := hfr2
                generalize hw3 : w2.drew = w3 at hn3 hfr3
                go_wp2_with fail
                clear e1 e2 e3 e4 e5 e6 e7 e8 e9 e10 c1 c2 c3
                have hc3 : Chg Never w w3 := hw3 ▸ hc2.drew
                have hF3 : Fil w.heap.size w3 l m i k := hw3 ▸ hF2.drew
                go_roundw
                case rel => exact ⟨(k : Int) - 1, by omega, by omega, rfl, hc3.setCell (.inl (Nat.le_refl _)) _, hF3.set hl hm (by omega) (by omega) (by rw [far_eq HS.out HT.out])⟩
                case measure => simp [intOf] <;> omega
              · have hne := str_beq_false hst
                go_wp2_with fail
                go_quiet (fail)
                go_wp2_with fail
                generalize hw2 : World.drewN wr _ = w2
                have hc2 : Chg Never w w2 := hw2 ▸ hc.drewN _
                have hF2 : Fil w.heap.size w2 l m i k := hw2 ▸ hF.drewN _
                have hfr2 := hF2.free (i * 61 + k)
                have hn2 : w2.cell? ⟨w.heap.size, i * 61 + k, none⟩ = some (.int .i64 n0) := hw2 ▸ hn0
                have c1 := hF2.cell (i := i + 1) (k := k + 1) (by omega) (by omega) (by omega)
                have c2 := hF2.cell (i := i + 1) (k := k) (by omega) (by omega) (by omega)
                have c3 := hF2.cell (i := i) (k := k + 1) (by omega) (by omega) (by omega)
                clear hw2 hfr hn0 hc hF
                have e1 : IntKind.i64.wrap ((i : Int) + 1) = (i : Int) + 1 := IntWalk.i64_in _ (by omega)
                have e2 : IntKind.i64.wrap ((k : Int) + 1) = (k : Int) + 1 := IntWalk.i64_in _ (by omega)
                have e3 : (0 : Int) ≤ (i : Int) + 1 := by omega
                have e4 : (0 : Int) ≤ (k : Int) + 1 := by omega
                have e5 : (i : Int) + 1 < 61 := by omega
                have e6 : (k : Int) + 1 < 61 := by omega
                have e7 : ((i : Int) + 1).toNat = i + 1 := by omega
                have e8 : ((k : Int) + 1).toNat = k + 1 := by omega
                have e9 : (i : Int) < 61 := by omega
                have e10 : (k : Int) < 61 := by omega
                refine wp_region_still_tail 18 (by kernel_rfl) (by kernel_rfl) ?_
                simp only [List.take_succ_cons, List.take_zero, List.drop_succ_cons, List.drop_zero]
                change wpStill _ _ w2.drew _ _ _
                repeat still_step
                refine wpStill_nil ?_
                change wpList _ _ _ _ _ w2.drew
                have hn3 : w2.drew.cell? ⟨w.heap.size, i * 61 + k, none⟩ = some (.int .i64 n0) := hn2
                have hfr3 : w2.drew.frozen? ⟨w.heap.size, i * 61 + k, none⟩ = false := hfr2
                generalize hw3 : w2.drew = w3 at hn3 hfr3
                go_wp2_with fail
                clear e1 e2 e3 e4 e5 e6 e7 e8 e9 e10 c1 c2 c3
                have hc3 : Chg Never w w3 := hw3 ▸ hc2.drew
                have hF3 : Fil w.heap.size w3 l m i k := hw3 ▸ hF2.drew
                go_roundw
                case rel => exact ⟨(k : Int) - 1, by omega, by omega, rfl, hc3.setCell (.inl (Nat.le_refl _)) _, hF3.set hl hm (by omega) (by omega) (by rw [far_ne HS.out HT.out hst]; omega)⟩
                case measure => simp [intOf] <;> omega
        · obtain rfl : y = -1 := by omega
          go_wp2_with fail
          go_roundw
          case rel => exact ⟨(i : Int) - 1, by omega, by omega, rfl, hc, hF.row⟩
          case measure => simp [intOf] <;> omega
    · obtain rfl : x = -1 := by omega
      go_wp2_with fail
      go_ret
      exact ⟨rfl, hc, hF⟩
end Go.Proofs.YtjiaidchcldocaaGreatDoor
namespace Go.Proofs.YtjiaidchcldocaaGreatDoor
open Go.RowKit

theorem own_block_lt {α : Type} [Dat α] {e : TypeId} {w : World} {O : Nat → Prop} {v : Value} {l : List α} (h : Own e w O v l) : ∀ k, v.ownBlock = some k → k < w.heap.size := by
  obtain ⟨xs, h1, _⟩ := h
  exact fun k hk => (h1.lt k hk).2

theorem Own.keep {α : Type} [Dat α] {e : TypeId} {w w' : World} {O O' O'' : Nat → Prop} {v : Value} {l : List α} (h : Own e w O v l) (hc : Chg O' w w')
    (h1 : ∀ k, k < w.heap.size → O' k → O k) (h2 : ∀ k, k < w.heap.size → O'' k → O k) : Own e w' O'' v l := by
  obtain ⟨xs, hx, hb, hel⟩ := h
  have hlt := fun k hk => (hx.lt k hk).2
  refine ⟨xs, ?_, fun k hk ho => hb k hk (h2 k (hlt k hk) ho), ?_⟩
  · refine ⟨hx.1, ?_⟩
    rcases hx.2 with h | ⟨g, cap, cur, rfl, hg, hh, r⟩
    · exact .inl h
    · refine .inr ⟨g, cap, cur, rfl, hg, ?_, r⟩
      rw [hc.block g (hlt g rfl) (fun ho => hb g rfl (h1 g (hlt g rfl) ho))]
      exact hh
  · intro i x hi
    refine Dat.keep (hel i x hi) hc (fun k hk ho => .inl (h1 k hk ho)) ?_
    rintro k hk (ho | ho)
    · exact .inl (h2 k hk ho)
    · exact .inr ho
theorem Own.never {α : Type} [Dat α] {e : TypeId} {w w' : World} {O : Nat → Prop} {v : Value} {l : List α} (h : Own e w O v l) (hc : Chg Never w w') : Own e w' O v l :=
  h.keep hc (fun _ _ h => h.elim) (fun _ _ h => h)

/-- an owned slice reads as any other -/
theorem Own.rdv {α : Type} [Dat α] {e : TypeId} {w : World} {O : Nat → Prop} {v : Value} {l : List α} (h : Own e w O v l) : Rdv w O v l := by
  obtain ⟨xs, hx, hb, hel⟩ := h
  have hlen := hx.1
  rcases hx.2 with ⟨rfl, h0⟩ | ⟨g, cap, cur, rfl, hg, hh, hn, hm, hcs, htake⟩
  · have : l = [] := List.eq_nil_of_length_eq_zero h0
    subst this
    exact rdv_nil _ _
  · refine ⟨some ⟨g, 0, none⟩, cap, rfl, hn, hm, ?_⟩
    intro i x hi
    have hil := (List.getElem?_eq_some_iff.1 hi).1
    have hel' := hel i x hi
    have hel2 : Dat.rd w O _ x := Dat.keep hel' (Chg.refl Never w) (fun _ _ h => h.elim) (fun k _ ho => .inl ho)
    refine ⟨g, 0, _, rfl, hb g rfl, ?_, hel2⟩
    intro j u hj
    have hcell := World.ownsRow.cells hx (g := g) rfl (i * Dat.n α + j) u ?_
    · rw [← hcell]
      unfold Addr.add
      split <;> simp_all
    · rw [List.getElem?_take] at hj
      split at hj
      · rw [List.getElem?_drop] at hj; exact hj
      · cases hj

theorem append_block {P : Program} (w : World) (base : Nat) (t ty e : TypeId) (i : TypeInfo) (z : Value) (size bytes : Nat) (ht : P.underlying t = some (.slice e)) (hi : P.info? e = some i) (hz : i.zero = some z)
    (hsize : i.size = size) (hby : i.bytes = bytes)
    (v : Value) (n : Nat) (xs : List Value) (hown : w.ownsRow base e size v n xs)
    (a : Addr) (m c : Nat) (news : List Value) (hl : news.length = m * size) (hnews : ∀ j u, news[j]? = some u → w.cell? (a.add j) = some u) (h1 : ∀ u ∈ news, u.oneCell' = true)
    (h63 : n + m ≤ maxLen) (hbytes : (n + m) * bytes ≤ 140737488355328) (hm : m ≠ 0) {v' : Value} {w' : World} (hrun : (Builtin.append_ #[t, t] ty #[v, .slice (some a) m c]).run P w = .ok v' w') :
    ∃ k, v'.ownBlock = some k ∧ (v.ownBlock = some k ∨ k = w.heap.size) := by
  subst hsize
  subst hby
  have hsmall : n + m ≤ 9223372036854775807 := by simp only [maxLen] at h63; omega
  rcases hown.2 with ⟨rfl, rfl⟩ | ⟨g, cap, cur, rfl, hbg, hg, hnc, hcm, hcs, htake⟩
  · have hr := run_append_nil (P := P) w t ty e i z ht hi hz a m c news hl hnews (by omega) (by omega) (by have hb := hbytes; simp only [Nat.zero_add] at hb; omega)
    rw [hr] at hrun
    injection hrun with hv _
    subst hv
    exact ⟨_, rfl, .inr rfl⟩
  · by_cases hroom : n + m ≤ cap
    · have hfit : n * i.size + news.length ≤ cur.size := by rw [hl, hcs, ← Nat.add_mul]; exact Nat.mul_le_mul_right _ hroom
      have hr := run_append_room (P := P) w t ty e i ht hi g n cap cur hg a m c news hl hnews h1 hroom hfit
      rw [hr] at hrun
      injection hrun with hv _
      subst hv
      exact ⟨_, rfl, .inl rfl⟩
    · have holds : ∀ j u, xs[j]? = some u → w.cell? ((⟨g, 0, none⟩ : Addr).add j) = some u := hown.cells (g := g) rfl
      have hr := run_append_grow (P := P) w t ty e i z ht hi hz ⟨g, 0, none⟩ n cap xs hown.1 holds a m c news hl hnews (by omega) (by omega) (growslice_fits (by omega) hbytes)
      rw [hr] at hrun
      injection hrun with hv _
      subst hv
      exact ⟨_, rfl, .inr rfl⟩

/-- what a slice's element type asks of the program's table -/
structure ElemOk (P : Program) (t e : TypeId) (n : Nat) : Prop where
  ht : P.underlying t = some (.slice e)
  info : ∃ i z, P.info? e = some i ∧ i.zero = some z ∧ i.size = n ∧ z.cells.size = n ∧ i.bytes ≤ 128

theorem run_push {P : Program} {α : Type} [Dat α] {t ty e : TypeId} (hP : ElemOk P t e (Dat.n α)) {w0 : World} {O : Nat → Prop} {v : Value} {l : List α} {y : α} {es : List Value} (E' : TypeId)
    (hown : Own e w0 O v l) (hy : Dat.rd w0 (fun k => O k ∨ v.ownBlock = some k) es y) (hO : ∀ k, O k → k < w0.heap.size) (hlen : l.length ≤ 1000000000) :
    ∃ v' w', (Builtin.append_ #[t, t] ty #[v, .slice (some ⟨w0.heap.size, 0, none⟩) 1 1]).run P (w0.alloc (.cells es.toArray E')) = .ok v' w' ∧ Own e w' O v' (l ++ [y]) ∧ Chg (OwnB v) w0 w' ∧ (∃ k, v'.ownBlock = some k ∧ (v.ownBlock = some k ∨ w0.heap.size ≤ k)) := by
  obtain ⟨i, z, hi, hz, hsz, hzs, hby⟩ := hP.info
  have hlt := own_block_lt hown
  obtain ⟨xs, hx, hb, hel⟩ := id hown
  have hnl : es.length = 1 * Dat.n α := by rw [Dat.len hy]; omega
  have hpos := Dat.pos (α := α)
  have hcells : ∀ j u, es[j]? = some u → (w0.alloc (.cells es.toArray E')).cell? ((⟨w0.heap.size, 0, none⟩ : Addr).add j) = some u := by
    intro j u hj
    have e1 : (⟨w0.heap.size, 0, none⟩ : Addr).add j = ⟨w0.heap.size, j, none⟩ := by unfold Addr.add; split <;> simp_all
    rw [e1, World.cell?, heap_alloc_new]
    simpa using hj
  have hx' := hx.alloc (.cells es.toArray E')
  have hbound : (l.length + 1) * i.bytes ≤ 140737488355328 := by
    have := Nat.mul_le_mul (show l.length + 1 ≤ 1000000001 by omega) hby
    omega
  obtain ⟨v', w', hrun, hown', hgrow, hnil⟩ := run_append_own (P := P) (w0.alloc (.cells es.toArray E')) 0 t ty e i z (Dat.n α) i.bytes hP.ht hi hz hsz rfl hzs hpos v l.length xs hx'
    ⟨w0.heap.size, 0, none⟩ 1 1 es hnl hcells (Dat.one hy) (by unfold maxLen; omega) hbound (Nat.zero_le _)
  obtain ⟨kb, hkb, hkb'⟩ := append_block (P := P) (w0.alloc (.cells es.toArray E')) 0 t ty e i z (Dat.n α) i.bytes hP.ht hi hz hsz rfl v l.length xs hx'
    ⟨w0.heap.size, 0, none⟩ 1 1 es hnl hcells (Dat.one hy) (by unfold maxLen; omega) hbound (by omega) hrun
  have hkb2 : v.ownBlock = some kb ∨ w0.heap.size ≤ kb := by
    rcases hkb' with h | h
    · exact .inl h
    · right; rw [h]; simp
  have hc : Chg (OwnB v) w0 w' := ((Chg.refl (OwnB v) w0).alloc _).trans' (Chg.of_grown hgrow) (fun k _ hk => hk)
  refine ⟨v', w', hrun, ⟨xs ++ es, ?_, ?_, ?_⟩, hc, kb, hkb, hkb2⟩
  · simpa using hown'
  · intro k hk ho
    rw [hkb] at hk
    injection hk with hk
    subst hk
    rcases hkb2 with h | h
    · exact hb _ h ho
    · exact absurd (hO _ ho) (by omega)
  · have hsub : ∀ k, k < w0.heap.size → (O k ∨ v'.ownBlock = some k) → (O k ∨ v.ownBlock = some k) := by
      rintro k hk (h | h)
      · exact .inl h
      · rw [hkb] at h
        injection h with h
        subst h
        rcases hkb2 with h | h
        · exact .inr h
        · omega
    intro j x hj
    have hxl := hx.1
    rcases Nat.lt_or_ge j l.length with hjl | hjl
    · rw [List.getElem?_append_left hjl] at hj
      have h := Dat.keep (hel j x hj) hc (fun k _ hk => .inr hk) hsub
      have hle : j * Dat.n α + Dat.n α ≤ xs.length := by rw [hxl, ← Nat.succ_mul]; exact Nat.mul_le_mul_right _ hjl
      rw [List.drop_append_of_le_length (by omega), List.take_append_of_le_length (by rw [List.length_drop]; omega)]
      exact h
    · have e : j = l.length := by
        have := (List.getElem?_eq_some_iff.1 hj).1
        simp at this
        omega
      subst e
      simp at hj
      subst hj
      rw [← hxl, List.drop_left, List.take_of_length_le (by omega)]
      exact Dat.keep hy hc (fun k _ hk => .inr hk) hsub

/-- 'out = append(out, y)': y's cells have just been laid in a block of their own -/
theorem wpList_push {P : Program} {ops : Array Oper} {rest : List Oper} {o : Oper} {a : Act} {Q : Exit → Act → World → Prop} (hgd : o.guard = none) (s x : Operand) (t : TypeId)
    (ho : o.op = .call { callee := .builtin .append, args := #[s, x], argTypes := #[t, t] }) {α : Type} [Dat α] {e : TypeId} (hP : ElemOk P t e (Dat.n α)) {w0 : World} {O : Nat → Prop} {v : Value} {l : List α} {y : α} {es : List Value} {E' : TypeId} {B : Nat}
    (hs : a.eval s = v) (hx : a.eval x = .slice (some ⟨B, 0, none⟩) 1 1) (hB : B = w0.heap.size)
    (hown : Own e w0 O v l) (hy : Dat.rd w0 (fun k => O k ∨ v.ownBlock = some k) es y) (hO : ∀ k, O k → k < w0.heap.size) (hlen : l.length ≤ 1000000000)
    (h : ∀ v' w', Own e w' O v' (l ++ [y]) → Chg (OwnB v) w0 w' → (∃ k, v'.ownBlock = some k ∧ (v.ownBlock = some k ∨ w0.heap.size ≤ k)) → wpList P ops Q rest (a.put o.dst v') w') :
    wpList P ops Q (o :: rest) a (w0.alloc (.cells es.toArray E')) := by
  subst hB
  refine wpList_plain hgd fun K hK => ?_
  obtain ⟨v', w', hrun, h1, h2, h3⟩ := run_push (ty := o.type) hP E' hown hy hO hlen
  unfold Oper.wp execOp
  simp only [ho, resolve, invoke, builtin, Sem.run_bind, Sem.run_pure, Result.andThen_ok, List.map_toArray, List.map_cons, List.map_nil, hs, hx, hrun]
  exact hK _ _ (h v' w' h1 h2 h3)

theorem elemOk_of {P : Program} {t e : TypeId} {n b : Nat} {z : Value} (ht : P.underlying t = some (.slice e)) (h : (P.info? e).map (fun i => (i.zero, i.size, i.bytes)) = some (some z, n, b)) (hz : z.cells.size = n) (hb : b ≤ 128) : ElemOk P t e n := by
  obtain ⟨i, h1, h2, h3, h4⟩ := info_parts h
  exact ⟨ht, i, z, h1, h2, h3, hz, by omega⟩

/-- a step that may have changed the call's own row leaves what was there before the call -/
theorem own_step {α : Type} [Dat α] {e : TypeId} {w wr w' : World} {v : Value} {l : List α} (hc : Chg Never w wr) (hown : Own e wr (Old w.heap.size) v l) (hc' : Chg (OwnB v) wr w') : Chg Never w w' := by
  refine hc.trans' hc' ?_
  intro i hi ho
  obtain ⟨xs, _, hb, _⟩ := hown
  exact (hb i ho hi).elim
theorem old_lt {w wr : World} (hc : Chg Never w wr) : ∀ k, Old w.heap.size k → k < wr.heap.size := fun _ hk => Nat.lt_of_lt_of_le hk hc.size
end Go.Proofs.YtjiaidchcldocaaGreatDoor
