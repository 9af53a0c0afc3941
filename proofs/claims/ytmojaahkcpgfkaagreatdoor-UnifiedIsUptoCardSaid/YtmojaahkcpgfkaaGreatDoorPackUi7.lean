/-
  PARTS: TREES, in plain Lean (chapter 2): files by path, in order.; TREES BY WHAT IS LOOKED UP IN THEM, in plain Lean: what put and drop do to each path; two trees in which each path reads the same are the same.; WHAT LIES BETWEEN TWO TREES, in plain Lean: file by file of two sorted lists; the document's way by all paths of both is the same.; PATCHES, in plain Lean (chapter 2): what may be one, what is done to a tree, turned it leads back.; PATCHES AS TEXTS, in plain Lean (chapter 8): whole texts. What is printed is read; what is read is printed so.; PATCHES AS TEXTS, in plain Lean: the document's reading of a change's two lines is the program's; the loop's steps.; A CHANGE's HUNKS READ LINE BY LINE, in plain Lean: what holds at each line.; A TEXT OF HUNKS READ LINE BY LINE, in plain Lean: what holds at each line, what the program answers.; A SLICE OF A SLICE, as a run, at whatever element type (light: no function walked).; THE WALK of the document's Parts (a text of its own: no function of layers 1 to 9 in it).
-/
import Derived.Test.YtmojaahkcpgfkaaGreatDoorPackUi6
import Derived.Test.YtmojaahkcpgfkaaGreatDoorPackUi2
import Derived.Lib.Bytealg
import GoSem.Op.String
import Derived.Test.YtmojaahkcpgfkaaGreatDoorPackUi3
import Derived.Test.YtmojaahkcpgfkaaGreatDoorPackUi4
import Derived.WalkSpells
import Derived.Test.YtmojaahkcpgfkaaGreatDoorPackUi1
namespace Go.Proofs.YtmojaahkcpgfkaaGreatDoor

/-! ### the order of paths -/
theorem bl_cons (a b : UInt8) (x y : List UInt8) : Op.bytesLess (a :: x) (b :: y) = (decide (a < b) || (a == b && Op.bytesLess x y)) := by rw [Op.bytesLess]
theorem bl_nil_r (x : List UInt8) : Op.bytesLess x [] = false := by cases x <;> rfl
theorem bl_nil_l (b : UInt8) (y : List UInt8) : Op.bytesLess [] (b :: y) = true := rfl
theorem bl_irrefl : ∀ x : List UInt8, Op.bytesLess x x = false
  | [] => rfl
  | a :: x => by rw [bl_cons, bl_irrefl x]; simp
theorem bl_trans : ∀ {x y z : List UInt8}, Op.bytesLess x y = true → Op.bytesLess y z = true → Op.bytesLess x z = true
  | _, [], _, h, _ => by rw [bl_nil_r] at h; cases h
  | _, _ :: _, [], _, h => by rw [bl_nil_r] at h; cases h
  | [], _ :: _, _ :: _, _, _ => rfl
  | a :: x, b :: y, c :: z, h, g => by
    rw [bl_cons] at h g ⊢
    simp only [Bool.or_eq_true, decide_eq_true_eq, Bool.and_eq_true, beq_iff_eq] at h g ⊢
    rcases h with h | ⟨rfl, h⟩
    · rcases g with g | ⟨rfl, g⟩
      · exact .inl (UInt8.lt_trans h g)
      · exact .inl h
    · rcases g with g | ⟨rfl, g⟩
      · exact .inl g
      · exact .inr ⟨rfl, bl_trans h g⟩
theorem bl_tri : ∀ x y : List UInt8, Op.bytesLess x y = true ∨ x = y ∨ Op.bytesLess y x = true
  | [], [] => .inr (.inl rfl)
  | [], _ :: _ => .inl rfl
  | _ :: _, [] => .inr (.inr rfl)
  | a :: x, b :: y => by
    rw [bl_cons, bl_cons]
    simp only [Bool.or_eq_true, decide_eq_true_eq, Bool.and_eq_true, beq_iff_eq, List.cons.injEq]
    rcases Nat.lt_trichotomy a.toNat b.toNat with h | h | h
    · exact .inl (.inl (UInt8.lt_iff_toNat_lt.2 h))
    · have hab : a = b := UInt8.toNat_inj.1 h
      subst hab
      rcases bl_tri x y with h | h | h
      · exact .inl (.inr ⟨rfl, h⟩)
      · exact .inr (.inl ⟨rfl, h⟩)
      · exact .inr (.inr (.inr ⟨rfl, h⟩))
    · exact .inr (.inr (.inl (UInt8.lt_iff_toNat_lt.2 h)))
theorem compare_bl : ∀ x y : List UInt8, (Lib.compareBytes x y < 0 ↔ Op.bytesLess x y = true) ∧ (Lib.compareBytes x y = 0 ↔ x = y)
  | [], [] => by simp [Lib.compareBytes, Op.bytesLess]
  | [], _ :: _ => by simp [Lib.compareBytes, Op.bytesLess]
  | _ :: _, [] => by simp [Lib.compareBytes, Op.bytesLess]
  | a :: x, b :: y => by
    obtain ⟨i1, i2⟩ := compare_bl x y
    rw [bl_cons, Lib.compareBytes]
    by_cases h1 : a < b
    · have : a ≠ b := by rintro rfl; exact absurd h1 (UInt8.lt_irrefl a)
      simp [h1, this]
    · by_cases h2 : b < a
      · have : a ≠ b := by rintro rfl; exact absurd h2 (UInt8.lt_irrefl a)
        simp [h1, h2, this]
      · have hab : a = b := by
          have n1 : ¬ a.toNat < b.toNat := fun h => h1 (UInt8.lt_iff_toNat_lt.2 h)
          have n2 : ¬ b.toNat < a.toNat := fun h => h2 (UInt8.lt_iff_toNat_lt.2 h)
          exact UInt8.toNat_inj.1 (by omega)
        subst hab
        simp [h1, i1, i2]
def less (a b : ByteArray) : Bool := Op.bytesLess a.toList b.toList
theorem toList_inj {a b : ByteArray} (h : a.toList = b.toList) : a = b := by
  rw [Lib.toList_data, Lib.toList_data] at h
  exact ByteArray.ext (Array.toList_inj.1 h)
theorem less_irrefl (a : ByteArray) : less a a = false := bl_irrefl _
theorem less_trans {a b c : ByteArray} (h : less a b = true) (g : less b c = true) : less a c = true := bl_trans h g
theorem less_tri (a b : ByteArray) : less a b = true ∨ a = b ∨ less b a = true := by
  rcases bl_tri a.toList b.toList with h | h | h
  · exact .inl h
  · exact .inr (.inl (toList_inj h))
  · exact .inr (.inr h)
theorem less_asymm {a b : ByteArray} (h : less a b = true) : less b a = false := by
  cases hb : less b a with
  | false => rfl
  | true =>
    have := less_trans h hb
    rw [less_irrefl] at this
    cases this
theorem less_ne {a b : ByteArray} (h : less a b = true) : a ≠ b := by
  rintro rfl
  rw [less_irrefl] at h
  cases h
/-- the walk's 'a <= b' -/
def leqB (a b : ByteArray) : Bool := Op.bytesLess a.toList b.toList || a.toList == b.toList
theorem leqB_true {a b : ByteArray} : leqB a b = true ↔ less b a = false := by
  unfold leqB
  rw [Bool.or_eq_true, beq_iff_eq]
  constructor
  · rintro (h | h)
    · exact less_asymm h
    · rw [toList_inj h]; exact less_irrefl b
  · intro h
    rcases less_tri a b with g | g | g
    · exact .inl g
    · exact .inr (by rw [g])
    · rw [g] at h; cases h

/-! ### trees -/
def fileFault (f : File) : Int := if pathFault f.path = 0 then linesFault f.lines else pathFault f.path
def treeGo : Nat → Option ByteArray → List File → Nat × Int
  | _, _, [] => (0, 0)
  | i, prev, f :: r => if fileFault f ≠ 0 then (i, fileFault f) else if prev.any (fun p => leqB f.path p) = true then (i, 2) else treeGo (i + 1) (some f.path) r
def treeFault (t : List File) : Nat × Int := if 8 < t.length then (0, 3) else treeGo 0 none t
def Sorted (t : List File) : Prop := t.Pairwise fun f g => less f.path g.path = true

theorem treeGo_zero : ∀ (t : List File) (i : Nat) (prev : Option ByteArray), (treeGo i prev t).2 = 0 → (∀ f ∈ t, fileFault f = 0) ∧ Sorted t ∧ (∀ p f, prev = some p → f ∈ t → less p f.path = true) ∧ treeGo i prev t = (0, 0)
  | [], _, _, _ => ⟨by simp, List.Pairwise.nil, by simp, rfl⟩
  | f :: r, i, prev, h => by
    rw [treeGo] at h ⊢
    by_cases h1 : fileFault f ≠ 0
    · rw [if_pos h1] at h; exact absurd h h1
    · rw [if_neg h1] at h ⊢
      by_cases h2 : prev.any (fun p => leqB f.path p) = true
      · rw [if_pos h2] at h; cases h
      · rw [if_neg h2] at h ⊢
        obtain ⟨i1, i2, i3, i4⟩ := treeGo_zero r (i + 1) (some f.path) h
        refine ⟨?_, ?_, ?_, i4⟩
        · intro x hx
          rcases List.mem_cons.1 hx with rfl | hx
          · simpa using h1
          · exact i1 x hx
        · exact List.Pairwise.cons (fun g hg => i3 f.path g rfl hg) i2
        · rintro p x rfl hx
          have hp : less p f.path = true := by
            simp only [Option.any_some] at h2
            rcases less_tri p f.path with g | g | g
            · exact g
            · exact absurd (leqB_true.2 (by rw [g]; exact less_irrefl _)) h2
            · exact absurd (leqB_true.2 (less_asymm g)) h2
          rcases List.mem_cons.1 hx with rfl | hx
          · exact hp
          · exact less_trans hp (i3 f.path x rfl hx)
theorem treeFault_zero {t : List File} (h : (treeFault t).2 = 0) : t.length ≤ 8 ∧ (∀ f ∈ t, fileFault f = 0) ∧ Sorted t ∧ treeFault t = (0, 0) := by
  unfold treeFault at h ⊢
  by_cases h1 : 8 < t.length
  · rw [if_pos h1] at h; cases h
  · rw [if_neg h1] at h ⊢
    obtain ⟨i1, i2, _, i4⟩ := treeGo_zero t 0 none h
    exact ⟨by omega, i1, i2, i4⟩
theorem fileFault_zero {f : File} (h : fileFault f = 0) : pathFault f.path = 0 ∧ linesFault f.lines = 0 := by
  unfold fileFault at h
  by_cases h1 : pathFault f.path = 0
  · rw [if_pos h1] at h; exact ⟨h1, h⟩
  · rw [if_neg h1] at h; exact absurd h h1

/-- where a path is, or would be -/
def posOf (t : List File) (p : ByteArray) : Nat := (t.takeWhile fun f => less f.path p).length
def isAt (t : List File) (p : ByteArray) : Bool := (t[posOf t p]?).any fun f => decide (f.path = p)
def placeOf (t : List File) (p : ByteArray) : Option Nat := t.findIdx? fun f => decide (f.path = p)
def putAt (t : List File) (f : File) : List File := t.take (posOf t f.path) ++ f :: t.drop (if isAt t f.path = true then posOf t f.path + 1 else posOf t f.path)
def dropAt (t : List File) (k : Nat) : List File := t.take k ++ t.drop (k + 1)
/-- the document's way to put -/
def putLoop (f : File) : Bool → List File → List File
  | done, [] => if done then [] else [f]
  | done, x :: r => (if !done && leqB f.path x.path then [f] else []) ++ (if x.path = f.path then [] else [x]) ++ putLoop f (done || leqB f.path x.path) r

theorem posOf_le (t : List File) (p : ByteArray) : posOf t p ≤ t.length := by
  unfold posOf
  exact (List.takeWhile_prefix _).length_le
theorem pos_unique {t : List File} {p : ByteArray} {i : Nat} (h1 : ∀ q f, q < i → t[q]? = some f → less f.path p = true) (h2 : ∀ f, t[i]? = some f → less f.path p = false) (hi : i ≤ t.length) : posOf t p = i := by
  induction t generalizing i with
  | nil => simp at hi; subst hi; rfl
  | cons x t ih =>
    unfold posOf at ih ⊢
    cases i with
    | zero =>
      have := h2 x rfl
      rw [List.takeWhile_cons, this]; rfl
    | succ i =>
      have := h1 0 x (Nat.succ_pos i) rfl
      rw [List.takeWhile_cons, this]
      simp only [if_true, List.length_cons]
      congr 1
      exact ih (fun q f hq hf => h1 (q + 1) f (by omega) (by simpa using hf)) (fun f hf => h2 f (by simpa using hf)) (by simpa using hi)
theorem sorted_mono {t : List File} (h : Sorted t) {i j : Nat} {f g : File} (hij : i < j) (hi : t[i]? = some f) (hj : t[j]? = some g) : less f.path g.path = true := by
  obtain ⟨hi1, hi2⟩ := List.getElem?_eq_some_iff.1 hi
  obtain ⟨hj1, hj2⟩ := List.getElem?_eq_some_iff.1 hj
  have := List.pairwise_iff_getElem.1 h i j hi1 hj1 hij
  rw [hi2, hj2] at this
  exact this
theorem putLoop_done (f : File) : ∀ t : List File, (∀ x ∈ t, less f.path x.path = true) → putLoop f true t = t
  | [], _ => rfl
  | x :: r, h => by
    have hx := h x (List.mem_cons_self ..)
    rw [putLoop, Bool.true_or, putLoop_done f r (fun y hy => h y (List.mem_cons_of_mem _ hy))]
    simp [(less_ne hx).symm]
theorem putLoop_sorted (f : File) : ∀ t : List File, Sorted t → putLoop f false t = putAt t f
  | [], _ => rfl
  | x :: r, h => by
    obtain ⟨h1, h2⟩ := List.pairwise_cons.1 h
    have ih := putLoop_sorted f r h2
    rcases less_tri x.path f.path with g | g | g
    · have e1 : leqB f.path x.path = false := by
        rw [Bool.eq_false_iff]; intro e
        rw [leqB_true.1 e] at g; cases g
      have e2 : posOf (x :: r) f.path = posOf r f.path + 1 := by unfold posOf; rw [List.takeWhile_cons, g]; rfl
      have e3 : isAt (x :: r) f.path = isAt r f.path := by unfold isAt; rw [e2, List.getElem?_cons_succ]
      rw [putLoop, e1, if_neg (less_ne g)]
      unfold putAt at ih ⊢
      rw [e2, e3, List.take_succ_cons]
      simp only [Bool.not_false, Bool.and_false, Bool.false_eq_true, if_false, List.nil_append, Bool.or_false, List.cons_append, List.cons.injEq, true_and]
      rw [ih]
      by_cases hi : isAt r f.path = true
      · rw [if_pos hi, if_pos hi]; rfl
      · rw [if_neg hi, if_neg hi]; rfl
    · have e1 : leqB f.path x.path = true := leqB_true.2 (by rw [g]; exact less_irrefl _)
      have e2 : posOf (x :: r) f.path = 0 := by unfold posOf; rw [List.takeWhile_cons, g, less_irrefl]; rfl
      have e3 : isAt (x :: r) f.path = true := by unfold isAt; rw [e2]; simp [g]
      rw [putLoop, e1, if_pos g, Bool.false_or, putLoop_done f r (fun y hy => by rw [← g]; exact h1 y hy)]
      unfold putAt
      rw [e2, if_pos e3]
      rfl
    · have e1 : leqB f.path x.path = true := leqB_true.2 (less_asymm g)
      have e2 : posOf (x :: r) f.path = 0 := by unfold posOf; rw [List.takeWhile_cons, less_asymm g]; rfl
      have e3 : isAt (x :: r) f.path = false := by unfold isAt; rw [e2]; simp [(less_ne g).symm]
      rw [putLoop, e1, if_neg (less_ne g).symm, Bool.false_or, putLoop_done f r (fun y hy => less_trans g (h1 y hy))]
      unfold putAt
      have e4 : (if isAt (x :: r) f.path = true then 0 + 1 else 0) = 0 := if_neg (by rw [e3]; decide)
      rw [e2, e4]
      rfl
theorem placeOf_sorted {t : List File} (h : Sorted t) (p : ByteArray) : placeOf t p = if isAt t p = true then some (posOf t p) else none := by
  induction t with
  | nil => rfl
  | cons x r ih =>
    obtain ⟨h1, h2⟩ := List.pairwise_cons.1 h
    have ih := ih h2
    unfold placeOf at ih ⊢
    rw [List.findIdx?_cons]
    rcases less_tri x.path p with g | g | g
    · have e2 : posOf (x :: r) p = posOf r p + 1 := by unfold posOf; rw [List.takeWhile_cons, g]; rfl
      have e3 : isAt (x :: r) p = isAt r p := by unfold isAt; rw [e2, List.getElem?_cons_succ]
      rw [decide_eq_false (less_ne g), e2, e3, ih]
      by_cases hi : isAt r p = true
      · simp [hi]
      · simp [hi]
    · have e2 : posOf (x :: r) p = 0 := by unfold posOf; rw [List.takeWhile_cons, g, less_irrefl]; rfl
      have e3 : isAt (x :: r) p = true := by unfold isAt; rw [e2]; simp [g]
      rw [decide_eq_true g, e2, e3]; rfl
    · have e2 : posOf (x :: r) p = 0 := by unfold posOf; rw [List.takeWhile_cons, less_asymm g]; rfl
      have e3 : isAt (x :: r) p = false := by unfold isAt; rw [e2]; simp [(less_ne g).symm]
      have hr : isAt r p = false := by
        unfold isAt
        cases hf : r[posOf r p]? with
        | none => rfl
        | some y => simp [(less_ne (less_trans g (h1 y (List.mem_of_getElem? hf)))).symm]
      rw [decide_eq_false (less_ne g).symm, e3, ih, hr]; rfl
theorem dropAt_is {t : List File} (p : ByteArray) : dropAt t (posOf t p) = t.take (posOf t p) ++ t.drop (posOf t p + 1) := rfl
end Go.Proofs.YtmojaahkcpgfkaaGreatDoor
namespace Go.Proofs.YtmojaahkcpgfkaaGreatDoor

def look (t : List File) (p : ByteArray) : Option (List ByteArray) := (t.find? fun f => decide (f.path = p)).map (·.lines)
theorem look_nil (p : ByteArray) : look [] p = none := rfl
theorem look_cons (x : File) (r : List File) (p : ByteArray) : look (x :: r) p = if x.path = p then some x.lines else look r p := by
  unfold look
  by_cases h : x.path = p
  · rw [List.find?_cons_of_pos (by simpa using h), if_pos h]; rfl
  · rw [List.find?_cons_of_neg (by simpa using h), if_neg h]
theorem look_none : ∀ {A : List File} {p : ByteArray}, (∀ x ∈ A, x.path ≠ p) → look A p = none
  | [], _, _ => rfl
  | x :: r, p, h => by rw [look_cons, if_neg (h x (List.mem_cons_self ..)), look_none fun y hy => h y (List.mem_cons_of_mem _ hy)]
theorem look_app : ∀ (A B : List File) (p : ByteArray), look (A ++ B) p = (look A p).or (look B p)
  | [], B, p => by simp [look_nil]
  | x :: A, B, p => by
    rw [List.cons_append, look_cons, look_cons, look_app A B p]
    by_cases h : x.path = p
    · rw [if_pos h, if_pos h]; rfl
    · rw [if_neg h, if_neg h]
theorem look_some : ∀ {A : List File} {p : ByteArray} {l : List ByteArray}, look A p = some l → ∃ x ∈ A, x.path = p ∧ x.lines = l
  | [], _, _, h => by cases h
  | x :: r, p, l, h => by
    rw [look_cons] at h
    by_cases e : x.path = p
    · rw [if_pos e] at h
      exact ⟨x, List.mem_cons_self .., e, Option.some.inj h⟩
    · rw [if_neg e] at h
      obtain ⟨y, hy, h2⟩ := look_some h
      exact ⟨y, List.mem_cons_of_mem _ hy, h2⟩
theorem look_mem {t : List File} (hs : Sorted t) {x : File} (h : x ∈ t) : look t x.path = some x.lines := by
  induction t with
  | nil => cases h
  | cons y r ih =>
    obtain ⟨h1, h2⟩ := List.pairwise_cons.1 hs
    rw [look_cons]
    rcases List.mem_cons.1 h with rfl | h
    · rw [if_pos rfl]
    · rw [if_neg (less_ne (h1 x h)), ih h2 h]

theorem tree_split {t : List File} (hs : Sorted t) (p : ByteArray) : ∃ A C : List File, (∀ x ∈ A, less x.path p = true) ∧ (∀ x ∈ C, less p x.path = true) ∧ Sorted A ∧ Sorted C ∧ posOf t p = A.length ∧
    ((isAt t p = true ∧ ∃ g, g.path = p ∧ t = A ++ g :: C) ∨ (isAt t p = false ∧ t = A ++ C)) := by
  induction t with
  | nil => exact ⟨[], [], by simp, by simp, List.Pairwise.nil, List.Pairwise.nil, rfl, .inr ⟨rfl, rfl⟩⟩
  | cons x r ih =>
    obtain ⟨h1, h2⟩ := List.pairwise_cons.1 hs
    rcases less_tri x.path p with g | g | g
    · obtain ⟨A, C, a1, a2, a3, a4, a5, a6⟩ := ih h2
      have e2 : posOf (x :: r) p = posOf r p + 1 := by unfold posOf; rw [List.takeWhile_cons, g]; rfl
      have e3 : isAt (x :: r) p = isAt r p := by unfold isAt; rw [e2, List.getElem?_cons_succ]
      have hA : Sorted (x :: A) := by
        refine List.Pairwise.cons (fun y hy => h1 y ?_) a3
        rcases a6 with ⟨_, w, _, rfl⟩ | ⟨_, rfl⟩
        · exact List.mem_append_left _ hy
        · exact List.mem_append_left _ hy
      refine ⟨x :: A, C, ?_, a2, hA, a4, by rw [e2, a5]; rfl, ?_⟩
      · intro y hy
        rcases List.mem_cons.1 hy with rfl | hy
        · exact g
        · exact a1 y hy
      · rw [e3]
        rcases a6 with ⟨b1, w, b2, b3⟩ | ⟨b1, b2⟩
        · exact .inl ⟨b1, w, b2, by rw [b3]; rfl⟩
        · exact .inr ⟨b1, by rw [b2]; rfl⟩
    · have e2 : posOf (x :: r) p = 0 := by unfold posOf; rw [List.takeWhile_cons, g, less_irrefl]; rfl
      exact ⟨[], r, by simp, fun y hy => by rw [← g]; exact h1 y hy, List.Pairwise.nil, h2, e2, .inl ⟨by unfold isAt; rw [e2]; simp [g], x, g, rfl⟩⟩
    · have e2 : posOf (x :: r) p = 0 := by unfold posOf; rw [List.takeWhile_cons, less_asymm g]; rfl
      refine ⟨[], x :: r, by simp, fun y hy => ?_, List.Pairwise.nil, hs, e2, .inr ⟨by unfold isAt; rw [e2]; simp [(less_ne g).symm], rfl⟩⟩
      rcases List.mem_cons.1 hy with rfl | hy
      · exact g
      · exact less_trans g (h1 y hy)
theorem sorted_join {A C : List File} {f : File} (a1 : ∀ x ∈ A, less x.path f.path = true) (a2 : ∀ x ∈ C, less f.path x.path = true) (a3 : Sorted A) (a4 : Sorted C) : Sorted (A ++ f :: C) := by
  refine List.pairwise_append.2 ⟨a3, List.Pairwise.cons a2 a4, fun x hx y hy => ?_⟩
  rcases List.mem_cons.1 hy with rfl | hy
  · exact a1 x hx
  · exact less_trans (a1 x hx) (a2 y hy)
theorem sorted_pair {A C : List File} {p : ByteArray} (a1 : ∀ x ∈ A, less x.path p = true) (a2 : ∀ x ∈ C, less p x.path = true) (a3 : Sorted A) (a4 : Sorted C) : Sorted (A ++ C) :=
  List.pairwise_append.2 ⟨a3, a4, fun x hx y hy => less_trans (a1 x hx) (a2 y hy)⟩
theorem isAt_look {t : List File} (hs : Sorted t) (p : ByteArray) : isAt t p = (look t p).isSome := by
  obtain ⟨A, C, a1, a2, _, _, _, a6⟩ := tree_split hs p
  rcases a6 with ⟨b1, w, b2, rfl⟩ | ⟨b1, rfl⟩
  · rw [b1, look_app, look_none fun x hx => less_ne (a1 x hx), look_cons, if_pos b2]; rfl
  · rw [b1, look_app, look_none fun x hx => less_ne (a1 x hx), look_none fun x hx => (less_ne (a2 x hx)).symm]; rfl
theorem posOf_look {t : List File} (hs : Sorted t) (p : ByteArray) : ((t[posOf t p]?).map (·.lines)).getD [] = (look t p).getD [] ∨ isAt t p = false := by
  obtain ⟨A, C, a1, a2, _, _, a5, a6⟩ := tree_split hs p
  rcases a6 with ⟨b1, w, b2, rfl⟩ | ⟨b1, _⟩
  · rw [a5, look_app, look_none fun x hx => less_ne (a1 x hx), look_cons, if_pos b2]
    exact .inl (by simp)
  · exact .inr b1
theorem putAt_is {t : List File} (hs : Sorted t) (f : File) : ∃ A C : List File, (∀ x ∈ A, less x.path f.path = true) ∧ (∀ x ∈ C, less f.path x.path = true) ∧ Sorted A ∧ Sorted C ∧ putAt t f = A ++ f :: C ∧
    ((isAt t f.path = true ∧ ∃ g, g.path = f.path ∧ t = A ++ g :: C) ∨ (isAt t f.path = false ∧ t = A ++ C)) := by
  obtain ⟨A, C, a1, a2, a3, a4, a5, a6⟩ := tree_split hs f.path
  refine ⟨A, C, a1, a2, a3, a4, ?_, a6⟩
  unfold putAt
  rcases a6 with ⟨b1, w, b2, rfl⟩ | ⟨b1, rfl⟩
  · rw [if_pos b1, a5, List.take_left' rfl, List.drop_append, List.drop_eq_nil_of_le (by omega)]
    simp
  · rw [if_neg (by rw [b1]; decide), a5, List.take_left' rfl, List.drop_left' rfl]
theorem putAt_sorted {t : List File} (hs : Sorted t) (f : File) : Sorted (putAt t f) := by
  obtain ⟨A, C, a1, a2, a3, a4, a5, _⟩ := putAt_is hs f
  rw [a5]
  exact sorted_join a1 a2 a3 a4
theorem putAt_look {t : List File} (hs : Sorted t) (f : File) (p : ByteArray) : look (putAt t f) p = if f.path = p then some f.lines else look t p := by
  obtain ⟨A, C, a1, a2, a3, a4, a5, a6⟩ := putAt_is hs f
  rw [a5, look_app, look_cons]
  by_cases e : f.path = p
  · rw [if_pos e, if_pos e, look_none fun x hx => by rw [← e]; exact less_ne (a1 x hx)]; rfl
  · rw [if_neg e, if_neg e]
    rcases a6 with ⟨b1, w, b2, rfl⟩ | ⟨b1, rfl⟩
    · rw [look_app, look_cons, if_neg (by rw [b2]; exact e)]
    · rw [look_app]
theorem putAt_len {t : List File} (hs : Sorted t) (f : File) : (putAt t f).length = if isAt t f.path = true then t.length else t.length + 1 := by
  obtain ⟨A, C, a1, a2, a3, a4, a5, a6⟩ := putAt_is hs f
  rw [a5]
  rcases a6 with ⟨b1, w, b2, rfl⟩ | ⟨b1, rfl⟩
  · rw [if_pos b1]; simp
  · rw [if_neg (by rw [b1]; decide)]; simp; omega
theorem putAt_mem {t : List File} {f x : File} (h : x ∈ putAt t f) : x = f ∨ x ∈ t := by
  unfold putAt at h
  rcases List.mem_append.1 h with h | h
  · exact .inr (List.mem_of_mem_take h)
  · rcases List.mem_cons.1 h with h | h
    · exact .inl h
    · exact .inr (List.mem_of_mem_drop h)
theorem dropAt_isp {t : List File} (hs : Sorted t) {p : ByteArray} (h : isAt t p = true) : ∃ A C : List File, (∀ x ∈ A, less x.path p = true) ∧ (∀ x ∈ C, less p x.path = true) ∧ Sorted A ∧ Sorted C ∧ dropAt t (posOf t p) = A ++ C ∧ ∃ g, g.path = p ∧ t = A ++ g :: C := by
  obtain ⟨A, C, a1, a2, a3, a4, a5, a6⟩ := tree_split hs p
  rcases a6 with ⟨b1, w, b2, rfl⟩ | ⟨b1, rfl⟩
  · refine ⟨A, C, a1, a2, a3, a4, ?_, w, b2, rfl⟩
    unfold dropAt
    rw [a5, List.take_left' rfl, List.drop_append, List.drop_eq_nil_of_le (by omega)]
    simp
  · rw [b1] at h; cases h
theorem dropAt_sorted {t : List File} (hs : Sorted t) {p : ByteArray} (h : isAt t p = true) : Sorted (dropAt t (posOf t p)) := by
  obtain ⟨A, C, a1, a2, a3, a4, a5, _⟩ := dropAt_isp hs h
  rw [a5]
  exact sorted_pair a1 a2 a3 a4
theorem dropAt_look {t : List File} (hs : Sorted t) {p : ByteArray} (h : isAt t p = true) (q : ByteArray) : look (dropAt t (posOf t p)) q = if p = q then none else look t q := by
  obtain ⟨A, C, a1, a2, a3, a4, a5, g, b1, b2⟩ := dropAt_isp hs h
  rw [a5, look_app]
  by_cases e : p = q
  · subst e
    rw [if_pos rfl, look_none fun x hx => less_ne (a1 x hx), look_none fun x hx => (less_ne (a2 x hx)).symm]; rfl
  · rw [if_neg e, b2, look_app, look_cons, if_neg (by rw [b1]; exact e)]
theorem dropAt_len {t : List File} (hs : Sorted t) {p : ByteArray} (h : isAt t p = true) : (dropAt t (posOf t p)).length + 1 = t.length := by
  obtain ⟨A, C, a1, a2, a3, a4, a5, g, b1, b2⟩ := dropAt_isp hs h
  rw [a5, b2]; simp; omega
theorem dropAt_mem {t : List File} {k : Nat} {x : File} (h : x ∈ dropAt t k) : x ∈ t := by
  unfold dropAt at h
  rcases List.mem_append.1 h with h | h
  · exact List.mem_of_mem_take h
  · exact List.mem_of_mem_drop h
/-- two trees in which each path reads the same are the same -/
theorem sorted_ext : ∀ {t u : List File}, Sorted t → Sorted u → (∀ p, look t p = look u p) → t = u
  | [], [], _, _, _ => rfl
  | [], y :: s, _, _, h => by have := h y.path; rw [look_nil, look_cons, if_pos rfl] at this; cases this
  | x :: r, [], _, _, h => by have := h x.path; rw [look_nil, look_cons, if_pos rfl] at this; cases this
  | x :: r, y :: s, hs, hu, h => by
    obtain ⟨h1, h2⟩ := List.pairwise_cons.1 hs
    obtain ⟨g1, g2⟩ := List.pairwise_cons.1 hu
    have hx := h x.path
    rw [look_cons, if_pos rfl, look_cons] at hx
    have hy := h y.path
    rw [look_cons y s, if_pos rfl, look_cons] at hy
    have key : x.path = y.path := by
      rcases less_tri x.path y.path with g | g | g
      · rw [if_neg (less_ne g).symm, look_none fun z hz => (less_ne (less_trans g (g1 z hz))).symm] at hx
        cases hx
      · exact g
      · rw [if_neg (less_ne g).symm, look_none fun z hz => (less_ne (less_trans g (h1 z hz))).symm] at hy
        cases hy
    rw [if_pos key.symm] at hx
    have e : x = y := by
      cases x; cases y
      simp only at key hx
      simp [key, Option.some.inj hx]
    subst e
    congr 1
    refine sorted_ext h2 g2 fun p => ?_
    have := h p
    rw [look_cons, look_cons] at this
    by_cases e : x.path = p
    · rw [look_none fun z hz => by rw [← e]; exact (less_ne (h1 z hz)).symm, look_none fun z hz => by rw [← e]; exact (less_ne (g1 z hz)).symm]
    · rw [if_neg e, if_neg e] at this
      exact this

/-! ### what makes a tree -/
theorem treeGo_ok : ∀ (t : List File) (i : Nat) (prev : Option ByteArray), (∀ f ∈ t, fileFault f = 0) → Sorted t → (∀ p f, prev = some p → f ∈ t → less p f.path = true) → treeGo i prev t = (0, 0)
  | [], _, _, _, _, _ => rfl
  | f :: r, i, prev, h1, h2, h3 => by
    obtain ⟨g1, g2⟩ := List.pairwise_cons.1 h2
    have hp : ¬ prev.any (fun p => leqB f.path p) = true := by
      cases prev with
      | none => simp
      | some p =>
        simp only [Option.any_some]
        intro e
        have := leqB_true.1 e
        rw [h3 p f rfl (List.mem_cons_self ..)] at this
        cases this
    rw [treeGo, if_neg (by rw [h1 f (List.mem_cons_self ..)]; simp), if_neg hp]
    exact treeGo_ok r (i + 1) (some f.path) (fun x hx => h1 x (List.mem_cons_of_mem _ hx)) g2 (fun p x hp hx => by cases hp; exact g1 x hx)
theorem treeFault_ok {t : List File} (h0 : t.length ≤ 8) (h1 : ∀ f ∈ t, fileFault f = 0) (h2 : Sorted t) : treeFault t = (0, 0) := by
  unfold treeFault
  rw [if_neg (by omega)]
  exact treeGo_ok t 0 none h1 h2 (by simp)
/-- a tree that may be -/
def Tree (t : List File) : Prop := t.length ≤ 8 ∧ (∀ f ∈ t, fileFault f = 0) ∧ Sorted t
theorem tree_iff {t : List File} : Tree t ↔ (treeFault t).2 = 0 :=
  ⟨fun h => by rw [treeFault_ok h.1 h.2.1 h.2.2], fun h => by obtain ⟨a, b, c, _⟩ := treeFault_zero h; exact ⟨a, b, c⟩⟩
end Go.Proofs.YtmojaahkcpgfkaaGreatDoor
namespace Go.Proofs.YtmojaahkcpgfkaaGreatDoor

def wholeR (l : List ByteArray) (s : Int) : List Hunk := if l = [] then [] else [⟨0, 0, l.map fun x => ⟨s, x⟩⟩]
/-- the change of a path by what it reads ahead and behind -/
def chg (n : Int) (p : ByteArray) : Option (List ByteArray) → Option (List ByteArray) → List Change
  | none, none => []
  | none, some y => [⟨2, p, wholeR y 43⟩]
  | some x, none => [⟨3, p, wholeR x 45⟩]
  | some x, some y => if cutOf (script x y) n = [] then [] else [⟨1, p, cutOf (script x y) n⟩]
def diffL (n : Int) : List File → List File → List Change
  | [], [] => []
  | x :: a, [] => ⟨3, x.path, wholeR x.lines 45⟩ :: diffL n a []
  | [], y :: b => ⟨2, y.path, wholeR y.lines 43⟩ :: diffL n [] b
  | x :: a, y :: b =>
    if less x.path y.path = true then ⟨3, x.path, wholeR x.lines 45⟩ :: diffL n a (y :: b)
    else if less y.path x.path = true then ⟨2, y.path, wholeR y.lines 43⟩ :: diffL n (x :: a) b
    else chg n x.path (some x.lines) (some y.lines) ++ diffL n a b
termination_by a b => a.length + b.length
def mergeT : List File → List File → List File
  | [], [] => []
  | x :: a, [] => x :: mergeT a []
  | [], y :: b => y :: mergeT [] b
  | x :: a, y :: b =>
    if less x.path y.path = true then x :: mergeT a (y :: b)
    else if less y.path x.path = true then y :: mergeT (x :: a) b
    else y :: mergeT a b
termination_by a b => a.length + b.length
def allOf (a b : List File) : List File := b.foldl putAt a
def refDiff (a b : List File) (n : Int) : List Change := (allOf a b).flatMap fun f => chg n f.path (look a f.path) (look b f.path)

theorem flat_congr {α β : Type} {g h : α → List β} : ∀ {l : List α}, (∀ x ∈ l, g x = h x) → l.flatMap g = l.flatMap h
  | [], _ => rfl
  | x :: r, e => by rw [List.flatMap_cons, List.flatMap_cons, e x (List.mem_cons_self ..), flat_congr fun y hy => e y (List.mem_cons_of_mem _ hy)]
theorem less_same {p q : ByteArray} (h : ¬ less p q = true) (g : ¬ less q p = true) : p = q := by
  rcases less_tri p q with e | e | e
  · exact absurd e h
  · exact e
  · exact absurd e g
/-- all of two lists lie behind a path -/
def Behind (p : ByteArray) (a : List File) : Prop := ∀ x ∈ a, less p x.path = true
theorem Behind.trans {p q : ByteArray} {a : List File} (h : Behind q a) (g : less p q = true) : Behind p a := fun x hx => less_trans g (h x hx)
theorem Behind.cons {p : ByteArray} {x : File} {a : List File} (h : Behind p a) (g : less p x.path = true) : Behind p (x :: a) := fun y hy => by
  rcases List.mem_cons.1 hy with rfl | hy
  · exact g
  · exact h y hy
theorem Behind.none {p : ByteArray} {a : List File} (h : Behind p a) : look a p = none := look_none fun x hx => (less_ne (h x hx)).symm
theorem sorted_cons {x : File} {a : List File} (h : Sorted (x :: a)) : Behind x.path a ∧ Sorted a := List.pairwise_cons.1 h
theorem merge_behind (p : ByteArray) : ∀ (a b : List File), Behind p a → Behind p b → Behind p (mergeT a b)
  | [], [], _, _ => by rw [mergeT]; exact fun x hx => by cases hx
  | x :: a, [], h, g => by
    rw [mergeT]
    exact Behind.cons (merge_behind p a [] (fun y hy => h y (List.mem_cons_of_mem _ hy)) g) (h x (List.mem_cons_self ..))
  | [], y :: b, h, g => by
    rw [mergeT]
    exact Behind.cons (merge_behind p [] b h (fun z hz => g z (List.mem_cons_of_mem _ hz))) (g y (List.mem_cons_self ..))
  | x :: a, y :: b, h, g => by
    have h1 : Behind p a := fun y hy => h y (List.mem_cons_of_mem _ hy)
    have g1 : Behind p b := fun y hy => g y (List.mem_cons_of_mem _ hy)
    rw [mergeT]
    split
    · exact Behind.cons (merge_behind p a (y :: b) h1 g) (h x (List.mem_cons_self ..))
    · split
      · exact Behind.cons (merge_behind p (x :: a) b h g1) (g y (List.mem_cons_self ..))
      · exact Behind.cons (merge_behind p a b h1 g1) (g y (List.mem_cons_self ..))
termination_by a b => a.length + b.length
theorem merge_sorted : ∀ (a b : List File), Sorted a → Sorted b → Sorted (mergeT a b)
  | [], [], _, _ => by rw [mergeT]; exact List.Pairwise.nil
  | x :: a, [], h, g => by
    rw [mergeT]
    exact List.Pairwise.cons (merge_behind x.path a [] (sorted_cons h).1 (fun y hy => by cases hy)) (merge_sorted a [] (sorted_cons h).2 g)
  | [], y :: b, h, g => by
    rw [mergeT]
    exact List.Pairwise.cons (merge_behind y.path [] b (fun y hy => by cases hy) (sorted_cons g).1) (merge_sorted [] b h (sorted_cons g).2)
  | x :: a, y :: b, h, g => by
    obtain ⟨h1, h2⟩ := sorted_cons h
    obtain ⟨g1, g2⟩ := sorted_cons g
    rw [mergeT]
    split
    · rename_i l1
      exact List.Pairwise.cons (merge_behind x.path a (y :: b) h1 ((g1.trans l1).cons l1)) (merge_sorted a (y :: b) h2 g)
    · rename_i l1
      split
      · rename_i l2
        exact List.Pairwise.cons (merge_behind y.path (x :: a) b ((h1.trans l2).cons l2) g1) (merge_sorted (x :: a) b h g2)
      · rename_i l2
        have e := less_same l1 l2
        exact List.Pairwise.cons (merge_behind y.path a b (by rw [← e]; exact h1) g1) (merge_sorted a b h2 g2)
termination_by a b => a.length + b.length
theorem merge_look (p : ByteArray) : ∀ (a b : List File), Sorted a → Sorted b → look (mergeT a b) p = (look b p).or (look a p)
  | [], [], _, _ => by rw [mergeT]; rfl
  | x :: a, [], h, g => by
    rw [mergeT, look_cons, look_cons, merge_look p a [] (sorted_cons h).2 g]
    rw [look_nil]; rfl
  | [], y :: b, h, g => by
    rw [mergeT, look_cons, look_cons, merge_look p [] b h (sorted_cons g).2]
    by_cases e : y.path = p
    · rw [if_pos e, if_pos e]; rfl
    · rw [if_neg e, if_neg e]
  | x :: a, y :: b, h, g => by
    obtain ⟨h1, h2⟩ := sorted_cons h
    obtain ⟨g1, g2⟩ := sorted_cons g
    rw [mergeT]
    split
    · rename_i l1
      rw [look_cons, merge_look p a (y :: b) h2 g, look_cons x a]
      by_cases e : x.path = p
      · rw [if_pos e, if_pos e, Behind.none (p := p) (by rw [← e]; exact (g1.trans l1).cons l1)]; rfl
      · rw [if_neg e, if_neg e]
    · rename_i l1
      split
      · rename_i l2
        rw [look_cons, merge_look p (x :: a) b h g2, look_cons y b]
        by_cases e : y.path = p
        · rw [if_pos e, if_pos e]; rfl
        · rw [if_neg e, if_neg e]
      · rename_i l2
        have e := less_same l1 l2
        rw [look_cons, merge_look p a b h2 g2, look_cons y b, look_cons x a]
        by_cases q : y.path = p
        · rw [if_pos q, if_pos q]; rfl
        · rw [if_neg q, if_neg q, if_neg (by rw [e]; exact q)]
termination_by a b => a.length + b.length
theorem all_sorted : ∀ (b a : List File), Sorted a → Sorted (allOf a b)
  | [], _, h => h
  | x :: r, a, h => all_sorted r (putAt a x) (putAt_sorted h x)
theorem all_look (p : ByteArray) : ∀ (b a : List File), Sorted a → Sorted b → look (allOf a b) p = (look b p).or (look a p)
  | [], a, _, _ => rfl
  | x :: r, a, h, g => by
    obtain ⟨g1, g2⟩ := sorted_cons g
    have := all_look p r (putAt a x) (putAt_sorted h x) g2
    rw [show allOf a (x :: r) = allOf (putAt a x) r from rfl, this, putAt_look h, look_cons]
    by_cases e : x.path = p
    · rw [if_pos e, if_pos e, Behind.none (p := p) (by rw [← e]; exact g1)]; rfl
    · rw [if_neg e, if_neg e]
theorem all_merge {a b : List File} (h : Sorted a) (g : Sorted b) : allOf a b = mergeT a b :=
  sorted_ext (all_sorted b a h) (merge_sorted a b h g) fun p => by rw [all_look p b a h g, merge_look p a b h g]
theorem merge_diff (n : Int) : ∀ (a b : List File), Sorted a → Sorted b → ((mergeT a b).flatMap fun f => chg n f.path (look a f.path) (look b f.path)) = diffL n a b
  | [], [], _, _ => by rw [mergeT, diffL]; rfl
  | x :: a, [], h, g => by
    obtain ⟨h1, h2⟩ := sorted_cons h
    rw [mergeT, diffL, List.flatMap_cons, ← merge_diff n a [] h2 g, look_cons, if_pos rfl, look_nil]
    refine congrArg (fun l => _ :: l) (flat_congr fun f hf => ?_)
    rw [look_cons, if_neg (less_ne (merge_behind x.path a [] h1 (fun y hy => by cases hy) f hf))]
  | [], y :: b, h, g => by
    obtain ⟨g1, g2⟩ := sorted_cons g
    rw [mergeT, diffL, List.flatMap_cons, ← merge_diff n [] b h g2, look_cons, if_pos rfl, look_nil]
    refine congrArg (fun l => _ :: l) (flat_congr fun f hf => ?_)
    rw [look_cons, if_neg (less_ne (merge_behind y.path [] b (fun y hy => by cases hy) g1 f hf))]
  | x :: a, y :: b, h, g => by
    obtain ⟨h1, h2⟩ := sorted_cons h
    obtain ⟨g1, g2⟩ := sorted_cons g
    rw [mergeT, diffL]
    by_cases l1 : less x.path y.path = true
    · have q := (g1.trans l1).cons l1
      rw [if_pos l1, if_pos l1, List.flatMap_cons, ← merge_diff n a (y :: b) h2 g, q.none, look_cons, if_pos rfl]
      refine congrArg (fun l => _ :: l) (flat_congr fun f hf => ?_)
      rw [look_cons x a, if_neg (less_ne (merge_behind x.path a (y :: b) h1 q f hf))]
    · rw [if_neg l1, if_neg l1]
      by_cases l2 : less y.path x.path = true
      · have q := (h1.trans l2).cons l2
        rw [if_pos l2, if_pos l2, List.flatMap_cons, ← merge_diff n (x :: a) b h g2, q.none, look_cons, if_pos rfl]
        refine congrArg (fun l => _ :: l) (flat_congr fun f hf => ?_)
        rw [look_cons y b, if_neg (less_ne (merge_behind y.path (x :: a) b q g1 f hf))]
      · have e := less_same l1 l2
        rw [if_neg l2, if_neg l2, List.flatMap_cons, ← merge_diff n a b h2 g2, look_cons, if_pos e, look_cons, if_pos rfl, e]
        refine congrArg (fun l => _ ++ l) (flat_congr fun f hf => ?_)
        have q := less_ne (merge_behind y.path a b (by rw [← e]; exact h1) g1 f hf)
        rw [look_cons y b, look_cons x a, if_neg (by rw [e]; exact q), if_neg q]
termination_by a b => a.length + b.length
theorem diff_same {a b : List File} (n : Int) (h : Sorted a) (g : Sorted b) : refDiff a b n = diffL n a b := by
  unfold refDiff
  rw [all_merge h g, merge_diff n a b h g]
end Go.Proofs.YtmojaahkcpgfkaaGreatDoor
namespace Go.Proofs.YtmojaahkcpgfkaaGreatDoor

def wholeB (l : List Hunk) (s : Int) : Bool :=
  match l with
  | [] => true
  | [h] => decide (h.old = 0) && decide (h.new = 0) && h.marks.all fun m => decide (m.sign = s)
  | _ => false
def shapeB (c : Change) : Bool := if c.what = 2 then wholeB c.hunks 43 else if c.what = 3 then wholeB c.hunks 45 else !c.hunks.isEmpty
def changeFault (c : Change) : Int :=
  if c.what < 1 ∨ 3 < c.what then 1 else if pathFault c.path ≠ 0 then pathFault c.path else if (hunksFault c.hunks).2 ≠ 0 then (hunksFault c.hunks).2 else if shapeB c = true then 0 else 2
def patchGo : Nat → Option ByteArray → List Change → Nat × Int
  | _, _, [] => (0, 0)
  | i, prev, c :: r => if changeFault c ≠ 0 then (i, changeFault c) else if prev.any (fun p => leqB c.path p) = true then (i, 2) else patchGo (i + 1) (some c.path) r
def patchFault (p : List Change) : Nat × Int := if 16 < p.length then (0, 3) else patchGo 0 none p
def SortedC (p : List Change) : Prop := p.Pairwise fun c d => less c.path d.path = true
def Patch (p : List Change) : Prop := p.length ≤ 16 ∧ (∀ c ∈ p, changeFault c = 0) ∧ SortedC p

theorem patchGo_zero : ∀ (t : List Change) (i : Nat) (prev : Option ByteArray), (patchGo i prev t).2 = 0 → (∀ f ∈ t, changeFault f = 0) ∧ SortedC t ∧ (∀ p f, prev = some p → f ∈ t → less p f.path = true) ∧ patchGo i prev t = (0, 0)
  | [], _, _, _ => ⟨by simp, List.Pairwise.nil, by simp, rfl⟩
  | f :: r, i, prev, h => by
    rw [patchGo] at h ⊢
    by_cases h1 : changeFault f ≠ 0
    · rw [if_pos h1] at h; exact absurd h h1
    · rw [if_neg h1] at h ⊢
      by_cases h2 : prev.any (fun p => leqB f.path p) = true
      · rw [if_pos h2] at h; cases h
      · rw [if_neg h2] at h ⊢
        obtain ⟨i1, i2, i3, i4⟩ := patchGo_zero r (i + 1) (some f.path) h
        refine ⟨?_, ?_, ?_, i4⟩
        · intro x hx
          rcases List.mem_cons.1 hx with rfl | hx
          · simpa using h1
          · exact i1 x hx
        · exact List.Pairwise.cons (fun g hg => i3 f.path g rfl hg) i2
        · rintro p x rfl hx
          have hp : less p f.path = true := by
            simp only [Option.any_some] at h2
            rcases less_tri p f.path with g | g | g
            · exact g
            · exact absurd (leqB_true.2 (by rw [g]; exact less_irrefl _)) h2
            · exact absurd (leqB_true.2 (less_asymm g)) h2
          rcases List.mem_cons.1 hx with rfl | hx
          · exact hp
          · exact less_trans hp (i3 f.path x rfl hx)
theorem patchGo_ok : ∀ (t : List Change) (i : Nat) (prev : Option ByteArray), (∀ f ∈ t, changeFault f = 0) → SortedC t → (∀ p f, prev = some p → f ∈ t → less p f.path = true) → patchGo i prev t = (0, 0)
  | [], _, _, _, _, _ => rfl
  | f :: r, i, prev, h1, h2, h3 => by
    obtain ⟨g1, g2⟩ := List.pairwise_cons.1 h2
    have hp : ¬ prev.any (fun p => leqB f.path p) = true := by
      cases prev with
      | none => simp
      | some p =>
        simp only [Option.any_some]
        intro e
        have := leqB_true.1 e
        rw [h3 p f rfl (List.mem_cons_self ..)] at this
        cases this
    rw [patchGo, if_neg (by rw [h1 f (List.mem_cons_self ..)]; simp), if_neg hp]
    exact patchGo_ok r (i + 1) (some f.path) (fun x hx => h1 x (List.mem_cons_of_mem _ hx)) g2 (fun p x hp hx => by cases hp; exact g1 x hx)
theorem patch_ok {p : List Change} (h : Patch p) : patchFault p = (0, 0) := by
  unfold patchFault
  rw [if_neg (by have := h.1; omega)]
  exact patchGo_ok p 0 none h.2.1 h.2.2 (by simp)
theorem patch_of {p : List Change} (h : (patchFault p).2 = 0) : Patch p := by
  unfold patchFault at h
  by_cases h1 : 16 < p.length
  · rw [if_pos h1] at h; cases h
  · rw [if_neg h1] at h
    obtain ⟨i1, i2, _, _⟩ := patchGo_zero p 0 none h
    exact ⟨by omega, i1, i2⟩
theorem patch_zero {p : List Change} (h : (patchFault p).2 = 0) : patchFault p = (0, 0) := patch_ok (patch_of h)

/-! ### what a change does to what a path reads -/
def stepOf (x : Option (List ByteArray)) (c : Change) : Option (List ByteArray) × Int :=
  if c.what = 2 ∧ x.isSome = true then (none, 6)
  else if c.what ≠ 2 ∧ x.isSome = false then (none, 4)
  else if (strict (x.getD []) c.hunks).2.2 ≠ 0 then (none, (strict (x.getD []) c.hunks).2.2)
  else if c.what = 3 then (if (strict (x.getD []) c.hunks).1 = [] then (none, 0) else (none, 6))
  else (some (strict (x.getD []) c.hunks).1, 0)
def setAt (t : List File) (p : ByteArray) (y : Option (List ByteArray)) : List File :=
  match y with
  | some l => putAt t ⟨p, l⟩
  | none => dropAt t (posOf t p)
def applyGo : Nat → List File → List Change → List File × Nat × Int
  | _, t, [] => (t, 0, 0)
  | i, t, c :: r => if (stepOf (look t c.path) c).2 ≠ 0 then ([], i, (stepOf (look t c.path) c).2) else applyGo (i + 1) (setAt t c.path (stepOf (look t c.path) c).1) r
def applyR (t : List File) (p : List Change) : List File × Nat × Int :=
  if (treeFault t).2 ≠ 0 then ([], 0, (treeFault t).2)
  else if (patchFault p).2 ≠ 0 then ([], (patchFault p).1, (patchFault p).2)
  else if (applyGo 0 t p).2.2 ≠ 0 then applyGo 0 t p
  else if 8 < (applyGo 0 t p).1.length then ([], 0, 3)
  else ((applyGo 0 t p).1, 0, 0)

theorem step_none {x : Option (List ByteArray)} {c : Change} (h : stepOf x c = (none, 0)) : x.isSome = true := by
  unfold stepOf at h
  by_cases h1 : c.what = 2 ∧ x.isSome = true
  · exact h1.2
  · rw [if_neg h1] at h
    by_cases h2 : c.what ≠ 2 ∧ x.isSome = false
    · rw [if_pos h2] at h; cases h
    · rw [if_neg h2] at h
      by_cases h3 : (strict (x.getD []) c.hunks).2.2 ≠ 0
      · rw [if_pos h3] at h; exact absurd (Prod.mk.inj h).2 h3
      · rw [if_neg h3] at h
        by_cases h4 : c.what = 3
        · cases hx : x.isSome with
          | true => rfl
          | false => exact absurd ⟨by omega, hx⟩ h2
        · rw [if_neg h4] at h; cases h
theorem setAt_look {t : List File} (hs : Sorted t) {p : ByteArray} {y : Option (List ByteArray)} (hy : y = none → isAt t p = true) (q : ByteArray) : look (setAt t p y) q = if p = q then y else look t q := by
  cases y with
  | some l => exact putAt_look hs ⟨p, l⟩ q
  | none => exact dropAt_look hs (hy rfl) q
theorem setAt_sorted {t : List File} (hs : Sorted t) {p : ByteArray} {y : Option (List ByteArray)} (hy : y = none → isAt t p = true) : Sorted (setAt t p y) := by
  cases y with
  | some l => exact putAt_sorted hs ⟨p, l⟩
  | none => exact dropAt_sorted hs (hy rfl)
theorem step_at {t : List File} (hs : Sorted t) {c : Change} {y : Option (List ByteArray)} (h : stepOf (look t c.path) c = (y, 0)) : y = none → isAt t c.path = true := by
  rintro rfl
  rw [isAt_look hs]
  exact step_none h

/-- a patch leads from tree to tree: by what each path reads -/
def Leads (t : List File) (p : List Change) (b : List File) : Prop :=
  (∀ c ∈ p, stepOf (look t c.path) c = (look b c.path, 0)) ∧ ∀ q, (∀ c ∈ p, c.path ≠ q) → look b q = look t q
theorem apply_of : ∀ (p : List Change) (t b : List File) (i : Nat), Sorted t → Sorted b → SortedC p → Leads t p b → applyGo i t p = (b, 0, 0)
  | [], t, b, _, ht, hb, _, h => by
    rw [applyGo, sorted_ext ht hb fun q => (h.2 q (by simp)).symm]
  | c :: r, t, b, i, ht, hb, hp, h => by
    obtain ⟨p1, p2⟩ := List.pairwise_cons.1 hp
    have hc := h.1 c (List.mem_cons_self ..)
    have hy := step_at ht hc
    rw [applyGo, hc, if_neg (by simp)]
    refine apply_of r _ b (i + 1) (setAt_sorted ht hy) hb p2 ⟨fun d hd => ?_, fun q hq => ?_⟩
    · rw [setAt_look ht hy, if_neg (less_ne (p1 d hd))]
      exact h.1 d (List.mem_cons_of_mem _ hd)
    · rw [setAt_look ht hy]
      by_cases e : c.path = q
      · rw [if_pos e, e]
      · rw [if_neg e]
        refine h.2 q fun d hd => ?_
        rcases List.mem_cons.1 hd with rfl | hd
        · exact e
        · exact hq d hd
theorem apply_inv : ∀ (p : List Change) (t b : List File) (k i : Nat), Sorted t → SortedC p → applyGo i t p = (b, k, 0) → k = 0 ∧ Sorted b ∧ Leads t p b
  | [], t, b, k, _, ht, _, h => by
    rw [applyGo] at h
    cases h
    exact ⟨rfl, ht, by simp, fun _ _ => rfl⟩
  | c :: r, t, b, k, i, ht, hp, h => by
    obtain ⟨p1, p2⟩ := List.pairwise_cons.1 hp
    rw [applyGo] at h
    by_cases z : (stepOf (look t c.path) c).2 ≠ 0
    · rw [if_pos z] at h
      simp only [Prod.mk.injEq] at h
      exact absurd h.2.2 z
    · rw [if_neg z] at h
      have hc : stepOf (look t c.path) c = ((stepOf (look t c.path) c).1, 0) := by
        rw [Prod.ext_iff]; exact ⟨rfl, by simpa using z⟩
      generalize (stepOf (look t c.path) c).1 = y at h hc
      have hy := step_at ht hc
      obtain ⟨k0, sb, l1, l2⟩ := apply_inv r _ b k (i + 1) (setAt_sorted ht hy) p2 h
      have hcb : look b c.path = y := by
        rw [l2 c.path fun d hd => (less_ne (p1 d hd)).symm, setAt_look ht hy, if_pos rfl]
      refine ⟨k0, sb, fun d hd => ?_, fun q hq => ?_⟩
      · rcases List.mem_cons.1 hd with rfl | hd
        · rw [hc, hcb]
        · have := l1 d hd
          rwa [setAt_look ht hy, if_neg (less_ne (p1 d hd))] at this
      · rw [l2 q fun d hd => hq d (List.mem_cons_of_mem _ hd), setAt_look ht hy, if_neg (hq c (List.mem_cons_self ..))]
theorem applyR_of {t b : List File} {p : List Change} (ht : Tree t) (hp : Patch p) (hb : Sorted b) (h8 : b.length ≤ 8) (h : Leads t p b) : applyR t p = (b, 0, 0) := by
  have e := apply_of p t b 0 ht.2.2 hb hp.2.2 h
  unfold applyR
  rw [if_neg (by rw [tree_iff.1 ht]; simp), if_neg (by rw [patch_ok hp]; simp), e, if_neg (by simp), if_neg (by simp only; omega)]
theorem applyR_inv {t b : List File} {p : List Change} {k : Nat} (h : applyR t p = (b, k, 0)) : k = 0 ∧ Tree t ∧ Patch p ∧ Sorted b ∧ b.length ≤ 8 ∧ Leads t p b := by
  unfold applyR at h
  by_cases h1 : (treeFault t).2 ≠ 0
  · rw [if_pos h1] at h; simp only [Prod.mk.injEq] at h; exact absurd h.2.2 h1
  · rw [if_neg h1] at h
    by_cases h2 : (patchFault p).2 ≠ 0
    · rw [if_pos h2] at h; simp only [Prod.mk.injEq] at h; exact absurd h.2.2 h2
    · rw [if_neg h2] at h
      have ht : Tree t := tree_iff.2 (by simpa using h1)
      have hp : Patch p := patch_of (by simpa using h2)
      by_cases h3 : (applyGo 0 t p).2.2 ≠ 0
      · rw [if_pos h3] at h; rw [h] at h3; exact absurd rfl h3
      · rw [if_neg h3] at h
        by_cases h4 : 8 < (applyGo 0 t p).1.length
        · rw [if_pos h4] at h; cases h
        · rw [if_neg h4] at h
          have e : applyGo 0 t p = ((applyGo 0 t p).1, (applyGo 0 t p).2.1, 0) := by
            rw [Prod.ext_iff, Prod.ext_iff]; exact ⟨rfl, rfl, by simpa using h3⟩
          obtain ⟨_, q2, q3⟩ := apply_inv p t _ _ 0 ht.2.2 hp.2.2 e
          cases h
          exact ⟨rfl, ht, hp, q2, by omega, q3⟩

/-! ### turned -/
def turnW (k : Int) : Int := if k = 2 then 3 else if k = 3 then 2 else k
def turnC (c : Change) : Change := ⟨turnW c.what, c.path, turnHunks c.hunks⟩
def turnP (p : List Change) : List Change := p.map turnC
theorem changeFault_zero {c : Change} (h : changeFault c = 0) : 1 ≤ c.what ∧ c.what ≤ 3 ∧ pathFault c.path = 0 ∧ hunksFault c.hunks = (0, 0) ∧ shapeB c = true := by
  unfold changeFault at h
  by_cases h1 : c.what < 1 ∨ 3 < c.what
  · rw [if_pos h1] at h; cases h
  · rw [if_neg h1] at h
    by_cases h2 : pathFault c.path ≠ 0
    · rw [if_pos h2] at h; exact absurd h h2
    · rw [if_neg h2] at h
      by_cases h3 : (hunksFault c.hunks).2 ≠ 0
      · rw [if_pos h3] at h; exact absurd h h3
      · rw [if_neg h3] at h
        by_cases h4 : shapeB c = true
        · exact ⟨by omega, by omega, by simpa using h2, hunksFault_first (by simpa using h3), h4⟩
        · rw [if_neg h4] at h; cases h
theorem changeFault_of {c : Change} (h1 : 1 ≤ c.what) (h2 : c.what ≤ 3) (h3 : pathFault c.path = 0) (h4 : hunksFault c.hunks = (0, 0)) (h5 : shapeB c = true) : changeFault c = 0 := by
  unfold changeFault
  rw [if_neg (by omega), if_neg (by simp [h3]), if_neg (by simp [h4]), if_pos h5]
theorem wholeB_turn {l : List Hunk} {s : Int} (hs : s = 43 ∨ s = 45) (h : wholeB l s = true) : wholeB (turnHunks l) (88 - s) = true := by
  match l with
  | [] => rfl
  | [q] =>
    unfold wholeB at h
    simp only [Bool.and_eq_true, decide_eq_true_eq, List.all_eq_true] at h
    obtain ⟨⟨h1, h2⟩, h3⟩ := h
    show (decide (q.new = 0) && decide (q.old = 0) && (q.marks.map turnMark).all fun m => decide (m.sign = 88 - s)) = true
    rw [Bool.and_eq_true, Bool.and_eq_true]
    refine ⟨⟨decide_eq_true h2, decide_eq_true h1⟩, List.all_eq_true.2 fun m hm => ?_⟩
    obtain ⟨x, hx, rfl⟩ := List.mem_map.1 hm
    have := h3 x hx
    refine decide_eq_true ?_
    unfold turnMark
    rcases hs with rfl | rfl
    · simp [this]
    · simp [this]
  | _ :: _ :: _ => cases h
theorem turnC_ok {c : Change} (h : changeFault c = 0) : changeFault (turnC c) = 0 := by
  obtain ⟨h1, h2, h3, h4, h5⟩ := changeFault_zero h
  have hw : c.what = 1 ∨ c.what = 2 ∨ c.what = 3 := by omega
  refine changeFault_of ?_ ?_ h3 (turn_ok h4) ?_
  · show 1 ≤ turnW c.what
    rcases hw with e | e | e <;> rw [e] <;> decide
  · show turnW c.what ≤ 3
    rcases hw with e | e | e <;> rw [e] <;> decide
  · unfold shapeB at h5 ⊢
    show (if turnW c.what = 2 then wholeB (turnHunks c.hunks) 43 else if turnW c.what = 3 then wholeB (turnHunks c.hunks) 45 else !(turnHunks c.hunks).isEmpty) = true
    rcases hw with e | e | e
    · rw [e, if_neg (by decide), if_neg (by decide)] at h5
      rw [e, if_neg (by decide), if_neg (by decide)]
      unfold turnHunks
      cases hh : c.hunks with
      | nil => rw [hh] at h5; cases h5
      | cons a b => rfl
    · rw [e, if_pos rfl] at h5
      rw [e, if_neg (by decide), if_pos (by decide)]
      exact wholeB_turn (.inl rfl) h5
    · rw [e, if_neg (by decide), if_pos rfl] at h5
      rw [e, if_pos (by decide)]
      exact wholeB_turn (.inr rfl) h5
theorem turnC_turnC (c : Change) : turnC (turnC c) = c := by
  cases c with
  | mk k p l =>
    unfold turnC
    simp only [turn_turn]
    congr 1
    unfold turnW
    by_cases h2 : k = 2
    · simp [h2]
    · by_cases h3 : k = 3
      · simp [h3]
      · simp [h2, h3]
theorem turnP_turnP (p : List Change) : turnP (turnP p) = p := by
  unfold turnP
  rw [List.map_map]
  conv => rhs; rw [← List.map_id p]
  exact List.map_congr_left fun c _ => turnC_turnC c
theorem patch_turn {p : List Change} (h : Patch p) : Patch (turnP p) := by
  refine ⟨by unfold turnP; rw [List.length_map]; exact h.1, fun c hc => ?_, ?_⟩
  · obtain ⟨x, hx, rfl⟩ := List.mem_map.1 hc
    exact turnC_ok (h.2.1 x hx)
  · unfold SortedC turnP
    rw [List.pairwise_map]
    exact h.2.2
theorem strict_nil {a : List ByteArray} {l : List Hunk} {y : List ByteArray} {k : Nat} (h : strict a l = (y, k, 0)) : k = 0 := (fits_of_strict h).1
theorem step_undo {x y : Option (List ByteArray)} {c : Change} (hc : changeFault c = 0) (h : stepOf x c = (y, 0)) : stepOf y (turnC c) = (x, 0) := by
  obtain ⟨c1, c2, _, _, _⟩ := changeFault_zero hc
  have hw : c.what = 1 ∨ c.what = 2 ∨ c.what = 3 := by omega
  unfold stepOf at h
  by_cases h1 : c.what = 2 ∧ x.isSome = true
  · rw [if_pos h1] at h; cases h
  · rw [if_neg h1] at h
    by_cases h2 : c.what ≠ 2 ∧ x.isSome = false
    · rw [if_pos h2] at h; cases h
    · rw [if_neg h2] at h
      by_cases h3 : (strict (x.getD []) c.hunks).2.2 ≠ 0
      · rw [if_pos h3] at h; simp only [Prod.mk.injEq] at h; exact absurd h.2 h3
      · rw [if_neg h3] at h
        have e : strict (x.getD []) c.hunks = ((strict (x.getD []) c.hunks).1, (strict (x.getD []) c.hunks).2.1, 0) := by
          rw [Prod.ext_iff, Prod.ext_iff]; exact ⟨rfl, rfl, by simpa using h3⟩
        have u := (strict_undo e).1
        rcases hw with w | w | w
        · rw [if_neg (by omega)] at h
          have hy := (Prod.mk.inj h).1
          cases x with
          | none => exact absurd ⟨by omega, rfl⟩ h2
          | some l =>
            subst hy
            unfold stepOf turnC turnW
            simp only [w, Option.getD_some] at u ⊢
            simp [u]
        · rw [if_neg (by omega)] at h
          have hy := (Prod.mk.inj h).1
          cases x with
          | some l => exact absurd ⟨w, rfl⟩ h1
          | none =>
            subst hy
            unfold stepOf turnC turnW
            simp only [w, Option.getD_some, Option.getD_none] at u ⊢
            simp [u]
        · rw [if_pos w] at h
          cases x with
          | none => exact absurd ⟨by omega, rfl⟩ h2
          | some l =>
            by_cases q : (strict ((some l).getD []) c.hunks).1 = []
            · rw [if_pos q] at h
              have hy := (Prod.mk.inj h).1
              subst hy
              rw [q] at u
              unfold stepOf turnC turnW
              simp only [w, Option.getD_some, Option.getD_none] at u ⊢
              simp [u]
            · rw [if_neg q] at h; cases h
theorem leads_turn {t b : List File} {p : List Change} (hp : ∀ c ∈ p, changeFault c = 0) (h : Leads t p b) : Leads b (turnP p) t := by
  refine ⟨fun c hc => ?_, fun q hq => ?_⟩
  · obtain ⟨x, hx, rfl⟩ := List.mem_map.1 hc
    exact step_undo (hp x hx) (h.1 x hx)
  · exact (h.2 q fun c hc => hq (turnC c) (List.mem_map_of_mem hc)).symm
theorem step_lines {x y : Option (List ByteArray)} {c : Change} (h : stepOf x c = (y, 0)) : ∀ l, y = some l → linesFault l = 0 := by
  rintro l rfl
  unfold stepOf at h
  by_cases h1 : c.what = 2 ∧ x.isSome = true
  · rw [if_pos h1] at h; cases h
  · rw [if_neg h1] at h
    by_cases h2 : c.what ≠ 2 ∧ x.isSome = false
    · rw [if_pos h2] at h; cases h
    · rw [if_neg h2] at h
      by_cases h3 : (strict (x.getD []) c.hunks).2.2 ≠ 0
      · rw [if_pos h3] at h; cases h
      · rw [if_neg h3] at h
        have e : strict (x.getD []) c.hunks = ((strict (x.getD []) c.hunks).1, (strict (x.getD []) c.hunks).2.1, 0) := by
          rw [Prod.ext_iff, Prod.ext_iff]; exact ⟨rfl, rfl, by simpa using h3⟩
        by_cases h4 : c.what = 3
        · rw [if_pos h4] at h
          split at h <;> cases h
        · rw [if_neg h4] at h
          have := Option.some.inj (Prod.mk.inj h).1
          rw [← this]
          exact (strict_undo e).2
/-- what comes of a tree is one -/
theorem leads_tree {t b : List File} {p : List Change} (ht : Tree t) (hp : Patch p) (hb : Sorted b) (h8 : b.length ≤ 8) (h : Leads t p b) : Tree b := by
  refine ⟨h8, fun f hf => ?_, hb⟩
  have hl := look_mem hb hf
  by_cases e : ∃ c ∈ p, c.path = f.path
  · obtain ⟨c, hc, e⟩ := e
    have hs := h.1 c hc
    rw [e, hl] at hs
    unfold fileFault
    rw [if_pos (by rw [← e]; exact (changeFault_zero (hp.2.1 c hc)).2.2.1)]
    exact step_lines hs _ rfl
  · have := h.2 f.path fun c hc g => e ⟨c, hc, g⟩
    rw [hl] at this
    obtain ⟨x, hx, e1, e2⟩ := look_some this.symm
    have q : x = f := by cases x; cases f; simp only at e1 e2; rw [e1, e2]
    exact q ▸ ht.2.1 x hx
/-- what was done is undone -/
theorem apply_back {t b : List File} {p : List Change} {k : Nat} (h : applyR t p = (b, k, 0)) : applyR b (turnP p) = (t, 0, 0) := by
  obtain ⟨_, ht, hp, hb, h8, hl⟩ := applyR_inv h
  exact applyR_of (leads_tree ht hp hb h8 hl) (patch_turn hp) ht.2.2 ht.1 (leads_turn hp.2.1 hl)
end Go.Proofs.YtmojaahkcpgfkaaGreatDoor
namespace Go.Proofs.YtmojaahkcpgfkaaGreatDoor

def textG (p : List Change) : List UInt8 := textL (linesG p)
def parseG (s : List UInt8) : List Change × Int :=
  if 400000 < s.length then ([], 5) else match changesG (parts 10 s).dropLast.length (parts 10 s).dropLast with
  | none => ([], 5)
  | some p => if (parts 10 s).getLast? ≠ some [] then ([], 5) else if (patchFault p).2 ≠ 0 then ([], (patchFault p).2) else (p, 0)
theorem parts_has {d c : UInt8} : ∀ {s : List UInt8}, c ∈ s → c = d ∨ ∃ x ∈ parts d s, c ∈ x
  | [], h => by cases h
  | e :: r, h => by
    obtain ⟨h', t, er⟩ := List.exists_cons_of_ne_nil (parts_ne d r)
    by_cases he : e = d
    · subst he
      rw [parts_sep]
      rcases List.mem_cons.1 h with rfl | h
      · exact .inl rfl
      · rcases parts_has (d := e) h with q | ⟨x, hx, q⟩
        · exact .inl q
        · exact .inr ⟨x, List.mem_cons_of_mem _ hx, q⟩
    · rw [parts_other he er]
      rcases List.mem_cons.1 h with rfl | h
      · exact .inr ⟨c :: h', List.mem_cons_self .., List.mem_cons_self ..⟩
      · rcases parts_has (d := d) h with q | ⟨x, hx, q⟩
        · exact .inl q
        · rw [er] at hx
          rcases List.mem_cons.1 hx with rfl | hx
          · exact .inr ⟨e :: x, List.mem_cons_self .., List.mem_cons_of_mem _ q⟩
          · exact .inr ⟨x, List.mem_cons_of_mem _ hx, q⟩
theorem path_fine {s : ByteArray} (h : pathFault s = 0) : s.data.toList.length ≤ 20 ∧ ∀ c ∈ s.data.toList, c ≠ 10 := by
  unfold pathFault at h
  by_cases hl : 20 < s.size
  · rw [if_pos hl] at h; cases h
  · rw [if_neg hl] at h
    refine ⟨by simpa using Nat.le_of_not_lt hl, fun c hc e => ?_⟩
    by_cases ha : (parts 47 s.data.toList).all nameOk = true
    · subst e
      rcases parts_has (d := 47) hc with q | ⟨x, hx, q⟩
      · exact absurd q (by decide)
      · have := List.all_eq_true.1 ha x hx
        unfold nameOk at this
        rw [Bool.and_eq_true] at this
        exact absurd (List.all_eq_true.1 this.2 10 q) (by decide)
    · rw [if_neg ha] at h; cases h
theorem change_ok {c : Change} (h : changeFault c = 0) : (c.what = 1 ∨ c.what = 2 ∨ c.what = 3) ∧ pathFault c.path = 0 ∧ (hunksFault c.hunks).2 = 0 := by
  unfold changeFault at h
  by_cases h1 : c.what < 1 ∨ 3 < c.what
  · rw [if_pos h1] at h; cases h
  · rw [if_neg h1] at h
    by_cases h2 : pathFault c.path ≠ 0
    · rw [if_pos h2] at h; exact absurd h h2
    · rw [if_neg h2] at h
      by_cases h3 : (hunksFault c.hunks).2 ≠ 0
      · rw [if_pos h3] at h; exact absurd h h3
      · exact ⟨by omega, by simpa using h2, by simpa using h3⟩
theorem hunks_short {l : List Hunk} (e : (hunksFault l).2 = 0) : (textL (linesU l)).length ≤ 11280 := by
  unfold hunksFault at e
  by_cases hl : 60 < l.length
  · rw [if_pos hl] at e; cases e
  · rw [if_neg hl] at e
    obtain ⟨_, _, h3⟩ := go_ok l 0 0 0 (by decide) (by decide) e
    omega
theorem noneL_10 : ∀ c ∈ noneL, c ≠ 10 := by decide
theorem from_fine (w : Int) {p : List UInt8} (h : p.length ≤ 20 ∧ ∀ c ∈ p, c ≠ 10) : (mmL ++ fromL w p).length ≤ 26 ∧ (∀ c ∈ mmL ++ fromL w p, c ≠ 10) ∧ (ppL ++ toL w p).length ≤ 26 ∧ (∀ c ∈ ppL ++ toL w p, c ≠ 10) := by
  have ha : ∀ c ∈ mmL, c ≠ 10 := by decide
  have hb : ∀ c ∈ ppL, c ≠ 10 := by decide
  have h1 : (fromL w p).length ≤ 22 ∧ ∀ c ∈ fromL w p, c ≠ 10 := by
    unfold fromL
    by_cases e : w = 2
    · rw [if_pos e]; exact ⟨by decide, noneL_10⟩
    · rw [if_neg e]
      refine ⟨by simp; omega, fun c hc => ?_⟩
      rcases List.mem_append.1 hc with q | q
      · exact (by decide : ∀ c ∈ ([97, 47] : List UInt8), c ≠ 10) c q
      · exact h.2 c q
  have h2 : (toL w p).length ≤ 22 ∧ ∀ c ∈ toL w p, c ≠ 10 := by
    unfold toL
    by_cases e : w = 3
    · rw [if_pos e]; exact ⟨by decide, noneL_10⟩
    · rw [if_neg e]
      refine ⟨by simp; omega, fun c hc => ?_⟩
      rcases List.mem_append.1 hc with q | q
      · exact (by decide : ∀ c ∈ ([98, 47] : List UInt8), c ≠ 10) c q
      · exact h.2 c q
  refine ⟨?_, fun c hc => ?_, ?_, fun c hc => ?_⟩
  · rw [List.length_append, show mmL.length = 4 from rfl]; omega
  · rcases List.mem_append.1 hc with q | q
    · exact ha c q
    · exact h1.2 c q
  · rw [List.length_append, show ppL.length = 4 from rfl]; omega
  · rcases List.mem_append.1 hc with q | q
    · exact hb c q
    · exact h2.2 c q
theorem changes_ok : ∀ (p : List Change), (∀ c ∈ p, changeFault c = 0) → (∀ x ∈ linesG p, ∀ c ∈ x, c ≠ 10) ∧ (textG p).length ≤ 11340 * p.length
  | [], _ => ⟨fun _ h => (by cases h), by show (0 : Nat) ≤ 0; omega⟩
  | c :: p, h => by
    obtain ⟨i1, i2⟩ := changes_ok p fun d hd => h d (List.mem_cons_of_mem _ hd)
    obtain ⟨_, q2, q3⟩ := change_ok (h c (List.mem_cons_self ..))
    obtain ⟨f1, f2, f3, f4⟩ := from_fine c.what (path_fine q2)
    have hs := hunks_short q3
    have hn := (hunks_ok q3).2.1
    have e : linesG (c :: p) = (mmL ++ fromL c.what c.path.data.toList) :: (ppL ++ toL c.what c.path.data.toList) :: (linesU c.hunks ++ linesG p) := rfl
    have et : (textG (c :: p)).length = (mmL ++ fromL c.what c.path.data.toList).length + 1 + ((ppL ++ toL c.what c.path.data.toList).length + 1 + ((textL (linesU c.hunks)).length + (textG p).length)) := by
      unfold textG
      rw [e]
      show ((mmL ++ fromL c.what c.path.data.toList) ++ [10] ++ ((ppL ++ toL c.what c.path.data.toList) ++ [10] ++ textL (linesU c.hunks ++ linesG p))).length = _
      rw [textL_app]
      simp only [List.length_append, List.length_singleton]
    refine ⟨fun x hx => ?_, by rw [et, List.length_cons]; omega⟩
    rw [e] at hx
    rcases List.mem_cons.1 hx with rfl | hx
    · exact f2
    · rcases List.mem_cons.1 hx with rfl | hx
      · exact f4
      · rcases List.mem_append.1 hx with hx | hx
        · exact hn x hx
        · exact i1 x hx
/-- what is printed is read -/
theorem git_back {p : List Change} (e : (patchFault p).2 = 0) : parseG (textG p) = (p, 0) := by
  have hlen : p.length ≤ 16 ∧ ∀ c ∈ p, changeFault c = 0 := by
    unfold patchFault at e
    by_cases h : 16 < p.length
    · rw [if_pos h] at e; cases e
    · rw [if_neg h] at e
      exact ⟨by omega, (patchGo_zero p 0 none e).1⟩
  obtain ⟨h1, h2⟩ := changes_ok p hlen.2
  have hp : parts 10 (textG p) = linesG p ++ [[]] := by
    have := parts_text (linesG p) [] h1
    rwa [List.append_nil] at this
  unfold parseG
  rw [if_neg (by omega), hp, List.dropLast_concat, changes_back p _ (Nat.le_refl _) fun c hc => ⟨(change_ok (hlen.2 c hc)).1, (hunks_ok (change_ok (hlen.2 c hc)).2.2).1⟩]
  simp only
  rw [if_neg (by rw [List.getLast?_append]; simp), if_neg (by rw [e]; simp)]
/-- what is read is printed so -/
theorem git_some {s : List UInt8} {p : List Change} (h : parseG s = (p, 0)) : textG p = s ∧ (patchFault p).2 = 0 := by
  unfold parseG at h
  by_cases hl : 400000 < s.length
  · rw [if_pos hl] at h
    injection h with _ h
    cases h
  · rw [if_neg hl] at h
    cases hc : changesG (parts 10 s).dropLast.length (parts 10 s).dropLast with
    | none =>
      rw [hc] at h
      injection h with _ h
      cases h
    | some q =>
      rw [hc] at h
      simp only at h
      by_cases hg : (parts 10 s).getLast? ≠ some []
      · rw [if_pos hg] at h
        injection h with _ h
        cases h
      · rw [if_neg hg] at h
        by_cases hf : (patchFault q).2 ≠ 0
        · rw [if_pos hf] at h
          injection h with _ h
          exact absurd h hf
        · rw [if_neg hf] at h
          injection h with h _
          subst h
          have hlast : (parts 10 s).getLast? = some [] := by
            by_cases z : (parts 10 s).getLast? = some []
            · exact z
            · exact absurd z hg
          refine ⟨?_, by simpa using hf⟩
          have := parts_flat 10 s
          rw [hlast, ← changes_some _ _ _ hc] at this
          simpa [textG, textL] using this
/-- how many lines it has -/
theorem git_lines : ∀ (p : List Change), (linesG p).length = (p.map fun c => 2 + (c.hunks.map fun h => 1 + h.marks.length).sum).sum
  | [] => rfl
  | c :: p => by
    have hu : ∀ l : List Hunk, (linesU l).length = (l.map fun h => 1 + h.marks.length).sum := fun l => by
      induction l with
      | nil => rfl
      | cons h l ih =>
        show (hunkL h ++ linesU l).length = _
        rw [List.length_append, ih, List.map_cons, List.sum_cons]
        unfold hunkL
        rw [List.length_cons, List.length_map, Nat.add_comm 1]
    show ((mmL ++ fromL c.what c.path.data.toList) :: (ppL ++ toL c.what c.path.data.toList) :: (linesU c.hunks ++ linesG p)).length = _
    rw [List.length_cons, List.length_cons, List.length_append, git_lines p, hu, List.map_cons, List.sum_cons]
    omega
end Go.Proofs.YtmojaahkcpgfkaaGreatDoor
namespace Go.Proofs.YtmojaahkcpgfkaaGreatDoor

def mmA : List UInt8 := [45, 45, 45, 32, 97, 47]
def ppB : List UInt8 := [43, 43, 43, 32, 98, 47]
def mmN : List UInt8 := [45, 45, 45, 32, 47, 100, 101, 118, 47, 110, 117, 108, 108]
def ppN : List UInt8 := [43, 43, 43, 32, 47, 100, 101, 118, 47, 110, 117, 108, 108]
theorem pre_pre (p q a : List UInt8) : dropPre (p ++ q) a = match dropPre p a with
    | none => none
    | some r => dropPre q r := by
  cases h : dropPre p a with
  | none =>
    simp only
    unfold dropPre at h ⊢
    rw [if_neg]
    intro e
    rw [if_pos] at h
    · cases h
    · obtain ⟨t, ht⟩ := List.isPrefixOf_iff_prefix.1 e
      exact List.isPrefixOf_iff_prefix.2 ⟨q ++ t, by rw [← ht]; simp⟩
  | some r =>
    have e := pre_some h
    subst e
    simp only
    unfold dropPre
    by_cases hq : q.isPrefixOf r = true
    · obtain ⟨t, ht⟩ := List.isPrefixOf_iff_prefix.1 hq
      rw [if_pos hq, if_pos (List.isPrefixOf_iff_prefix.2 ⟨t, by rw [← ht]; simp⟩), List.length_append, ← List.drop_drop, List.drop_left]
    · rw [if_neg hq, if_neg]
      intro e
      obtain ⟨t, ht⟩ := List.isPrefixOf_iff_prefix.1 e
      rw [List.append_assoc] at ht
      exact hq (List.isPrefixOf_iff_prefix.2 ⟨t, List.append_cancel_left ht⟩)
theorem pre_eq {p a x : List UInt8} (h : dropPre p a = some x) (n : List UInt8) : x = n ↔ a = p ++ n := by
  rw [pre_some h]
  exact ⟨fun e => by rw [e], fun e => List.append_cancel_left e⟩
theorem headed_ref (a b : List UInt8) : headedL a b =
    if mmA.isPrefixOf a = true ∧ ppB.isPrefixOf b = true ∧ a.drop 6 = b.drop 6 then some (1, a.drop 6)
    else if a = mmN ∧ ppB.isPrefixOf b = true then some (2, b.drop 6)
    else if mmA.isPrefixOf a = true ∧ b = ppN then some (3, a.drop 6) else none := by
  have hA : dropPre mmA a = match dropPre mmL a with
    | none => none
    | some r => dropPre [97, 47] r := pre_pre mmL [97, 47] a
  have hB : dropPre ppB b = match dropPre ppL b with
    | none => none
    | some r => dropPre [98, 47] r := pre_pre ppL [98, 47] b
  have iA : ∀ f, dropPre mmA a = some f → mmA.isPrefixOf a = true ∧ a.drop 6 = f := fun f e => by
    unfold dropPre at e
    by_cases q : mmA.isPrefixOf a = true
    · rw [if_pos q] at e
      injection e with e
      exact ⟨q, e⟩
    · rw [if_neg q] at e; cases e
  have nA : dropPre mmA a = none → ¬ mmA.isPrefixOf a = true := fun e q => by
    unfold dropPre at e
    rw [if_pos q] at e; cases e
  have iB : ∀ f, dropPre ppB b = some f → ppB.isPrefixOf b = true ∧ b.drop 6 = f := fun f e => by
    unfold dropPre at e
    by_cases q : ppB.isPrefixOf b = true
    · rw [if_pos q] at e
      injection e with e
      exact ⟨q, e⟩
    · rw [if_neg q] at e; cases e
  have nB : dropPre ppB b = none → ¬ ppB.isPrefixOf b = true := fun e q => by
    unfold dropPre at e
    rw [if_pos q] at e; cases e
  have mA : a = mmN → ¬ mmA.isPrefixOf a = true := fun e => by rw [e]; decide
  have mB : b = ppN → ¬ ppB.isPrefixOf b = true := fun e => by rw [e]; decide
  have hmN : mmN = mmL ++ noneL := rfl
  have hpN : ppN = ppL ++ noneL := rfl
  unfold headedL
  cases ha : dropPre mmL a with
  | none =>
    rw [ha] at hA
    have q1 := nA hA
    have q2 : a ≠ mmN := fun e => by rw [e, hmN, pre_app] at ha; cases ha
    rw [if_neg (fun q => q1 q.1), if_neg (fun q => q2 q.1), if_neg (fun q => q1 q.1)]
  | some x =>
    rw [ha] at hA
    simp only at hA
    cases hb : dropPre ppL b with
    | none =>
      rw [hb] at hB
      have q1 := nB hB
      have q2 : b ≠ ppN := fun e => by rw [e, hpN, pre_app] at hb; cases hb
      rw [if_neg (fun q => q1 q.2.1), if_neg (fun q => q1 q.2), if_neg (fun q => q2 q.2)]
    | some y =>
      rw [hb] at hB
      simp only at hB ⊢
      unfold headedR
      cases hf : dropPre [97, 47] x with
      | none =>
        rw [hf] at hA
        have q1 := nA hA
        rw [if_neg (fun q => q1 q.1), if_neg (c := _ ∧ b = ppN) (fun q => q1 q.1)]
        cases ht : dropPre [98, 47] y with
        | none =>
          rw [ht] at hB
          rw [if_neg (fun q => nB hB q.2)]
        | some t =>
          rw [ht] at hB
          obtain ⟨q2, q3⟩ := iB _ hB
          simp only
          by_cases e : x = noneL
          · rw [if_pos e, if_pos ⟨(pre_eq ha noneL).1 e, q2⟩, q3]
          · rw [if_neg e, if_neg (fun q => e ((pre_eq ha noneL).2 q.1))]
      | some f =>
        rw [hf] at hA
        obtain ⟨q1, q4⟩ := iA _ hA
        have q5 : ¬ (a = mmN ∧ ppB.isPrefixOf b = true) := fun q => mA q.1 q1
        cases ht : dropPre [98, 47] y with
        | none =>
          rw [ht] at hB
          have q2 := nB hB
          simp only
          have q6 : ¬ (mmA.isPrefixOf a = true ∧ ppB.isPrefixOf b = true ∧ a.drop 6 = b.drop 6) := fun q => q2 q.2.1
          by_cases e : y = noneL
          · rw [if_pos e, if_neg q6, if_neg q5, if_pos ⟨q1, (pre_eq hb noneL).1 e⟩, q4]
          · have q7 : ¬ (mmA.isPrefixOf a = true ∧ b = ppN) := fun q => e ((pre_eq hb noneL).2 q.2)
            rw [if_neg e, if_neg q6, if_neg q5, if_neg q7]
        | some t =>
          rw [ht] at hB
          obtain ⟨q2, q3⟩ := iB _ hB
          simp only
          rw [q3, q4]
          by_cases e : f = t
          · rw [if_pos e, if_pos ⟨q1, q2, e⟩]
          · rw [if_neg e, if_neg (fun q => e q.2.2), if_neg q5, if_neg (fun q => mB q.2 q2)]
/-! ### the loop -/
/-- what is read from a place on, behind what has been read -/
def ChgsInv (l : List (List UInt8)) (at_ : Nat) (L : List Change) : Prop := ∃ k, (l.drop at_).length ≤ k ∧ (changesG k (l.drop at_)).map (L ++ ·) = changesG l.length l
theorem cinv_start (l : List (List UInt8)) : ChgsInv l 0 [] := ⟨l.length, by simp, by simp⟩
theorem cinv_end {l : List (List UInt8)} {i : Nat} {L : List Change} (h : ChgsInv l i L) (hi : l.length ≤ i) : changesG l.length l = some L := by
  obtain ⟨k, _, h⟩ := h
  rw [List.drop_of_length_le hi, changesG] at h
  rw [← h]; simp
theorem cinv_one {l : List (List UInt8)} {i : Nat} {L : List Change} (h : ChgsInv l i L) (hi : i + 1 = l.length) : changesG l.length l = none := by
  obtain ⟨k, hk, h⟩ := h
  have hx : (l.drop i).length = 1 := by rw [List.length_drop]; omega
  obtain ⟨x, hx⟩ := List.length_eq_one_iff.1 hx
  rw [hx] at h hk
  obtain ⟨k, rfl⟩ : ∃ j, k = j + 1 := ⟨k - 1, by simp at hk; omega⟩
  rw [← h, changesG]; rfl
theorem cinv_head {l : List (List UInt8)} {i : Nat} {L : List Change} (h : ChgsInv l i L) {a b : List UInt8} {r : List (List UInt8)} (hd : l.drop i = a :: b :: r) (hh : headedL a b = none) : changesG l.length l = none := by
  obtain ⟨k, hk, h⟩ := h
  rw [hd] at h hk
  obtain ⟨k, rfl⟩ : ∃ j, k = j + 1 := ⟨k - 1, by simp at hk; omega⟩
  rw [← h, changesG, hh]; rfl
theorem cinv_take {l : List (List UInt8)} {i : Nat} {L : List Change} (h : ChgsInv l i L) {a b : List UInt8} {r : List (List UInt8)} (hd : l.drop i = a :: b :: r) {w : Int} {p : List UInt8} (hh : headedL a b = some (w, p)) (ht : takeU r [] 0 0 = none) : changesG l.length l = none := by
  obtain ⟨k, hk, h⟩ := h
  rw [hd] at h hk
  obtain ⟨k, rfl⟩ : ∃ j, k = j + 1 := ⟨k - 1, by simp at hk; omega⟩
  rw [← h, changesG, hh]
  simp only
  rw [ht]; rfl
theorem cinv_step {l : List (List UInt8)} {i j : Nat} {L : List Change} (h : ChgsInv l i L) {a b : List UInt8} {r : List (List UInt8)} (hd : l.drop i = a :: b :: r) {w : Int} {p : List UInt8} (hh : headedL a b = some (w, p)) {hs : List Hunk} (ht : takeU r [] 0 0 = some (hs, l.drop j)) (hj : i + 2 ≤ j) : ChgsInv l j (L ++ [⟨w, toB p, hs⟩]) := by
  obtain ⟨k, hk, h⟩ := h
  have hl : (l.drop i).length = r.length + 2 := by rw [hd]; rfl
  rw [hd] at h hk
  obtain ⟨k, rfl⟩ : ∃ j, k = j + 1 := ⟨k - 1, by simp at hk; omega⟩
  refine ⟨k, ?_, ?_⟩
  · rw [List.length_drop] at hl ⊢
    simp at hk
    omega
  · rw [← h, changesG, hh]
    simp only
    rw [ht]
    simp only
    cases changesG k (l.drop j) with
    | none => rfl
    | some q => simp
theorem parseG_none {s : List UInt8} (h : changesG (parts 10 s).dropLast.length (parts 10 s).dropLast = none) : parseG s = ([], 5) := by
  unfold parseG
  by_cases hl : 400000 < s.length
  · rw [if_pos hl]
  · rw [if_neg hl, h]
theorem parseG_some {s : List UInt8} {p : List Change} (hl : s.length ≤ 400000) (h : changesG (parts 10 s).dropLast.length (parts 10 s).dropLast = some p) (hx : (parts 10 s).getLast? = some []) : parseG s = if (patchFault p).2 ≠ 0 then ([], (patchFault p).2) else (p, 0) := by
  unfold parseG
  rw [if_neg (by omega), h]
  simp only
  rw [if_neg (by simpa using hx)]
theorem parseG_last {s : List UInt8} (hx : (parts 10 s).getLast? ≠ some []) : parseG s = ([], 5) := by
  unfold parseG
  by_cases hl : 400000 < s.length
  · rw [if_pos hl]
  · rw [if_neg hl]
    cases changesG (parts 10 s).dropLast.length (parts 10 s).dropLast with
    | none => rfl
    | some p => simp only; rw [if_pos hx]
end Go.Proofs.YtmojaahkcpgfkaaGreatDoor
namespace Go.Proofs.YtmojaahkcpgfkaaGreatDoor

theorem spanOf_lt {s : List UInt8} {a : Int} {x : Nat} (h : spanOf s = some (a, x)) : x < 1000 := by
  unfold spanOf at h
  cases hc : cutSub [44] s with
  | none => rw [hc] at h; cases h
  | some p =>
    obtain ⟨u, v⟩ := p
    rw [hc] at h
    simp only at h
    cases hu : numOf u with
    | none => rw [hu] at h; cases h
    | some y =>
      cases hv : numOf v with
      | none => rw [hu, hv] at h; cases h
      | some z =>
        have := numOf_lt hv
        rw [hu, hv] at h
        simp only at h
        split at h
        · split at h
          · cases h
          · injection h with h; injection h with _ h; omega
        · injection h with h; injection h with _ h; omega
theorem headOf_lt {s : List UInt8} {a b : Int} {x y : Nat} (h : headOf s = some (a, x, b, y)) : x < 1000 ∧ y < 1000 := by
  unfold headOf at h
  cases h1 : dropPre atAt s with
  | none => rw [h1] at h; cases h
  | some r =>
    rw [h1] at h
    simp only at h
    cases h2 : dropSuf endAt r with
    | none => rw [h2] at h; cases h
    | some m =>
      rw [h2] at h
      simp only at h
      cases h3 : cutSub [32, 43] m with
      | none => rw [h3] at h; cases h
      | some p =>
        obtain ⟨u, v⟩ := p
        rw [h3] at h
        simp only at h
        cases h4 : spanOf u with
        | none => rw [h4] at h; cases h
        | some p =>
          obtain ⟨a', x'⟩ := p
          rw [h4] at h
          simp only at h
          cases h5 : spanOf v with
          | none => rw [h5] at h; cases h
          | some p =>
            obtain ⟨b', y'⟩ := p
            rw [h5] at h
            simp only [Option.some.injEq, Prod.mk.injEq] at h
            obtain ⟨-, rfl, -, rfl⟩ := h
            exact ⟨spanOf_lt h4, spanOf_lt h5⟩
theorem addMark_len : ∀ (hs : List Hunk) (m : Mark), (addMark hs m).length = hs.length
  | [], _ => rfl
  | [_], _ => rfl
  | h :: k :: r, m => by
    show (h :: addMark (k :: r) m).length = _
    rw [List.length_cons, addMark_len (k :: r) m]; rfl
theorem addMark_marks : ∀ (hs : List Hunk) (m : Mark) (j : Nat), (∀ h ∈ hs, h.marks.length ≤ j) → ∀ h ∈ addMark hs m, h.marks.length ≤ j + 1
  | [], _, _, _, _, hh => by cases hh
  | [h], m, j, hb, x, hx => by
    have := hb h (List.mem_cons_self ..)
    simp only [addMark, List.mem_cons, List.not_mem_nil, or_false] at hx
    subst hx
    simp only [List.length_append, List.length_cons, List.length_nil]
    omega
  | h :: k :: r, m, j, hb, x, hx => by
    rcases List.mem_cons.1 (show x ∈ h :: addMark (k :: r) m from hx) with rfl | hx
    · have := hb x (List.mem_cons_self ..); omega
    · exact addMark_marks (k :: r) m j (fun y hy => hb y (List.mem_cons_of_mem _ hy)) x hx
/-- what a reader holds behind j lines -/
structure RdB (hs : List Hunk) (o n j : Nat) : Prop where
  ok : RdOk hs o n
  len : hs.length ≤ j
  marks : ∀ h ∈ hs, h.marks.length ≤ j
  on : o < 1000 ∧ n < 1000
theorem rdB_start : RdB [] 0 0 0 := ⟨rdOk_start, Nat.le_refl _, fun _ h => (by cases h), by decide, by decide⟩
theorem rdB_step {hs hs' : List Hunk} {o n o' n' j : Nat} {s : List UInt8} (h : RdB hs o n j) (hr : readLine hs o n s = some (hs', o', n')) : RdB hs' o' n' (j + 1) := by
  have hok := readLine_ok h.ok hr
  refine ⟨fun _ => hok, ?_, ?_, ?_⟩
  all_goals
    have hl := h.len
    have hm := h.marks
    have hon := h.on
    unfold readLine at hr
    by_cases q : 0 < o ∨ 0 < n
    · rw [if_pos q] at hr
      cases s with
      | nil => cases hr
      | cons c r =>
        simp only at hr
        split at hr
        · injection hr with hr; injection hr with h1 h2; injection h2 with h2 h3; subst h1; subst h2; subst h3
          first | (rw [addMark_len]; omega) | exact addMark_marks _ _ _ hm | (constructor <;> omega)
        · split at hr
          · injection hr with hr; injection hr with h1 h2; injection h2 with h2 h3; subst h1; subst h2; subst h3
            first | (rw [addMark_len]; omega) | exact addMark_marks _ _ _ hm | (constructor <;> omega)
          · split at hr
            · injection hr with hr; injection hr with h1 h2; injection h2 with h2 h3; subst h1; subst h2; subst h3
              first | (rw [addMark_len]; omega) | exact addMark_marks _ _ _ hm | (constructor <;> omega)
            · cases hr
    · rw [if_neg q] at hr
      cases hd : headOf s with
      | none => rw [hd] at hr; cases hr
      | some p =>
        obtain ⟨a, x, b, y⟩ := p
        have hxy := headOf_lt hd
        rw [hd] at hr
        simp only [Option.some.injEq, Prod.mk.injEq] at hr
        obtain ⟨rfl, rfl, rfl⟩ := hr
        first
          | (rw [List.length_append]; simp only [List.length_cons, List.length_nil]; omega)
          | exact hxy
          | (intro k hk
             rcases List.mem_append.1 hk with hk | hk
             · have := hm k hk; omega
             · simp only [List.mem_cons, List.not_mem_nil, or_false] at hk
               subst hk
               exact Nat.zero_le _)
/-- the hunks of a change: what is read from here on is what was read from the start -/
structure TakeInv (R l : List (List UInt8)) (hs : List Hunk) (o n : Nat) : Prop where
  take : takeU l hs o n = takeU R [] 0 0
theorem tinv_start (R : List (List UInt8)) : TakeInv R R [] 0 0 := ⟨rfl⟩
theorem tinv_step {R l : List (List UInt8)} {hs hs' : List Hunk} {o n o' n' : Nat} {s : List UInt8} (h : TakeInv R (s :: l) hs o n) (hc : (0 < o ∨ 0 < n) ∨ hunkHead s = true) (hr : readLine hs o n s = some (hs', o', n')) : TakeInv R l hs' o' n' :=
  ⟨by rw [← h.take, take_cons hc hr]⟩
theorem tinv_bad {R l : List (List UInt8)} {hs : List Hunk} {o n : Nat} {s : List UInt8} (h : TakeInv R (s :: l) hs o n) (hc : (0 < o ∨ 0 < n) ∨ hunkHead s = true) (hr : readLine hs o n s = none) : takeU R [] 0 0 = none := by
  rw [← h.take, takeU, if_pos hc, hr]
theorem tinv_open {R : List (List UInt8)} {hs : List Hunk} {o n : Nat} (h : TakeInv R [] hs o n) (hc : 0 < o ∨ 0 < n) : takeU R [] 0 0 = none := by
  rw [← h.take, takeU, if_pos hc]
theorem tinv_end {R l : List (List UInt8)} {hs : List Hunk} {o n : Nat} (h : TakeInv R l hs o n) (hc : ¬ (0 < o ∨ 0 < n)) (hl : ∀ s r, l = s :: r → hunkHead s = false) : takeU R [] 0 0 = some (hs, l) := by
  rw [← h.take]
  cases l with
  | nil => rw [takeU, if_neg hc]
  | cons s r => rw [takeU, if_neg (fun q => q.elim hc (fun q => by rw [hl s r rfl] at q; cases q))]
end Go.Proofs.YtmojaahkcpgfkaaGreatDoor
namespace Go.Proofs.YtmojaahkcpgfkaaGreatDoor

def GoInv (D : List (List UInt8)) (k : Nat) (hs : List Hunk) (o n : Nat) : Prop := goU (D.drop k) k hs o n = goU D 0 [] 0 0
theorem ginv_start (D : List (List UInt8)) : GoInv D 0 [] 0 0 := rfl
theorem ginv_step {D : List (List UInt8)} {k : Nat} {hs hs' : List Hunk} {o n o' n' : Nat} {s : List UInt8} (h : GoInv D k hs o n) (hx : D[k]? = some s) (hr : readLine hs o n s = some (hs', o', n')) : GoInv D (k + 1) hs' o' n' := by
  unfold GoInv at *
  obtain ⟨hk, rfl⟩ := List.getElem?_eq_some_iff.1 hx
  rw [List.drop_eq_getElem_cons hk, goU, hr] at h
  exact h
theorem ginv_bad {D : List (List UInt8)} {k : Nat} {hs : List Hunk} {o n : Nat} {s : List UInt8} (h : GoInv D k hs o n) (hx : D[k]? = some s) (hr : readLine hs o n s = none) : goU D 0 [] 0 0 = (some k, hs, o, n) := by
  unfold GoInv at h
  obtain ⟨hk, rfl⟩ := List.getElem?_eq_some_iff.1 hx
  rw [List.drop_eq_getElem_cons hk, goU, hr] at h
  exact h.symm
theorem ginv_end {D : List (List UInt8)} {k : Nat} {hs : List Hunk} {o n : Nat} (h : GoInv D k hs o n) (hk : D.length ≤ k) : goU D 0 [] 0 0 = (none, hs, o, n) := by
  unfold GoInv at h
  rw [List.drop_of_length_le hk, goU] at h
  exact h.symm
/-! ### the text whole: its lines I, what stands behind the last end of line: z -/
theorem pu_long {s : List UInt8} (h : 400000 < s.length) : parseU s = ([], 0, 5) := by unfold parseU; rw [if_pos h]
theorem pu_bad {s z : List UInt8} {I : List (List UInt8)} {k : Nat} {hs : List Hunk} {o n : Nat} (h : s.length ≤ 400000) (hp : parts 10 s = I ++ [z]) (hg : goU I 0 [] 0 0 = (some k, hs, o, n)) : parseU s = ([], k, 5) := by
  unfold parseU
  rw [if_neg (by omega), hp, List.dropLast_concat, hg]
theorem pu_open {s z : List UInt8} {I : List (List UInt8)} {hs : List Hunk} {o n : Nat} (h : s.length ≤ 400000) (hp : parts 10 s = I ++ [z]) (hg : goU I 0 [] 0 0 = (none, hs, o, n)) (ho : 0 < o ∨ 0 < n) : parseU s = ([], I.length, 5) := by
  unfold parseU
  rw [if_neg (by omega), hp, List.dropLast_concat, hg]
  simp only
  rw [if_pos (ho.imp_right .inl), List.length_append]; rfl
theorem pu_last {s z : List UInt8} {I : List (List UInt8)} {hs : List Hunk} {o n : Nat} (h : s.length ≤ 400000) (hp : parts 10 s = I ++ [z]) (hg : goU I 0 [] 0 0 = (none, hs, o, n)) (hz : z ≠ []) : parseU s = ([], I.length, 5) := by
  unfold parseU
  rw [if_neg (by omega), hp, List.dropLast_concat, hg]
  simp only
  rw [if_pos (.inr (.inr (by simpa using hz))), List.length_append]; rfl
theorem pu_fine {s : List UInt8} {I : List (List UInt8)} {hs : List Hunk} {o n : Nat} (h : s.length ≤ 400000) (hp : parts 10 s = I ++ [[]]) (hg : goU I 0 [] 0 0 = (none, hs, o, n)) (ho : ¬ (0 < o ∨ 0 < n)) : parseU s = if (hunksFault hs).2 ≠ 0 then ([], 0, (hunksFault hs).2) else (hs, 0, 0) := by
  unfold parseU
  rw [if_neg (by omega), hp, List.dropLast_concat, hg]
  simp only
  rw [if_neg (by rintro (q | q | q)
                 · exact ho (.inl q)
                 · exact ho (.inr q)
                 · exact q (by simp))]
end Go.Proofs.YtmojaahkcpgfkaaGreatDoor
namespace Go.Proofs.YtmojaahkcpgfkaaGreatDoor
open Go.RowKit

/-- 's[i:j]' as a run, at whatever element type -/
theorem slice_g {P : Program} {t : TypeId} (ht : P.underlying t = some (.slice (P.elem t))) {α : Type} [Dat α] (hsz : ∀ w, (sizeOf (P.elem t)).run P w = .ok (Dat.n α) w) {w0 : World} {O : Nat → Prop} {a : Option Addr} {cap : Nat} {l : List α} (h : Rdv w0 O (.slice a l.length cap) l) (i j : Nat) (hij : i ≤ j) (hj : j ≤ l.length) :
    ∃ b, (∀ (x y : Int) (w : World), x = i → y = j → (Instr.slice t (.slice a l.length cap) (some (.int .i64 x)) (some (.int .i64 y)) none).run P w = .ok (.slice b (j - i) (cap - i)) w) ∧
      (∀ (x : Int) (w : World), x = i → j = l.length → (Instr.slice t (.slice a l.length cap) (some (.int .i64 x)) none none).run P w = .ok (.slice b (j - i) (cap - i)) w) ∧
      (∀ (y : Int) (w : World), i = 0 → y = j → (Instr.slice t (.slice a l.length cap) none (some (.int .i64 y)) none).run P w = .ok (.slice b (j - i) (cap - i)) w) ∧
      Rdv w0 O (.slice b (j - i) (cap - i)) ((l.drop i).take (j - i)) := by
  have hr := rdv_sliced h i j hij hj
  obtain ⟨b, hb⟩ := sliced_isSlice a i j cap (Dat.n α)
  obtain ⟨a', cap', e, h1, h2, h3⟩ := rdv_slice h
  simp only [Value.slice.injEq, true_and] at e
  obtain ⟨rfl, rfl⟩ := e
  refine ⟨b, ?_, ?_, ?_, hb ▸ hr⟩
  · rintro x y w rfl rfl
    rw [run_slice_lh w t a l.length cap ht .i64 .i64 _ _ (by omega) (by omega) (by omega), hsz]
    simp only [Result.andThen_ok, Int.toNat_natCast]
    rw [hb]
  · rintro x w rfl rfl
    rw [run_slice_l w t a l.length cap ht .i64 _ (by omega) (by omega), hsz]
    simp only [Result.andThen_ok, Int.toNat_natCast]
    rw [hb]
  · rintro y w rfl rfl
    rw [run_slice_h w t a l.length cap ht .i64 _ (by omega) (by omega), hsz]
    simp only [Result.andThen_ok, Int.toNat_natCast]
    rw [hb]
end Go.Proofs.YtmojaahkcpgfkaaGreatDoor
namespace Go.Proofs.YtmojaahkcpgfkaaGreatDoor
open Go.RowKit

theorem byte_at {s : ByteArray} {k : Nat} (h : k < s.size) : s.data.toList[k]? = some (s[k]'h) := by
  rw [Array.getElem?_toList, Array.getElem?_eq_getElem h]; rfl
theorem byte_eq {c d : UInt8} {n : Int} (h : ((c.toNat : Int) == n) = true) (hd : (d.toNat : Int) = n) : c = d := by
  have := eq_of_beq h
  exact UInt8.toNat_inj.1 (by omega)
theorem byte_ne {c d : UInt8} {n : Int} (h : ((c.toNat : Int) == n) = false) (hd : (d.toNat : Int) = n) : c ≠ d := by
  rintro rfl
  rw [hd] at h
  simp at h
/-- how far a text has been parted -/
def PartsInv (d : UInt8) (s : ByteArray) (q k : Nat) (L : List ByteArray) : Prop :=
  parts d s.data.toList = L.map (·.data.toList) ++ parts d (s.data.toList.drop q) ∧ ∀ j, q ≤ j → j < k → s.data.toList[j]? ≠ some d
theorem pinv_start (d : UInt8) (s : ByteArray) : PartsInv d s 0 0 [] := ⟨by simp, fun j _ h => absurd h (Nat.not_lt_zero j)⟩
theorem PartsInv.step {d : UInt8} {s : ByteArray} {q k : Nat} {L : List ByteArray} {c : UInt8} (h : PartsInv d s q k L) (hk : s.data.toList[k]? = some c) (hc : c ≠ d) : PartsInv d s q (k + 1) L :=
  ⟨h.1, fun j h1 h2 e => by
    by_cases hj : j = k
    · subst hj; rw [hk] at e; injection e with e; exact hc e
    · exact h.2 j h1 (by omega) e⟩
theorem no_sep {d : UInt8} {s : List UInt8} {q k : Nat} (h : ∀ j, q ≤ j → j < k → s[j]? ≠ some d) : ∀ x ∈ (s.drop q).take (k - q), x ≠ d := by
  rintro x hx rfl
  obtain ⟨i, hi⟩ := List.getElem?_of_mem hx
  rw [List.getElem?_take] at hi
  split at hi
  · rw [List.getElem?_drop] at hi
    exact h (q + i) (by omega) (by omega) hi
  · cases hi
theorem PartsInv.cut {d : UInt8} {s : ByteArray} {q k : Nat} {L : List ByteArray} (h : PartsInv d s q k L) (hq : q ≤ k) (hk : s.data.toList[k]? = some d) : PartsInv d s (k + 1) (k + 1) (L ++ [s.extract q k]) := by
  refine ⟨?_, fun j h1 h2 => by omega⟩
  have e : s.data.toList.drop q = (s.data.toList.drop q).take (k - q) ++ d :: s.data.toList.drop (k + 1) := by
    conv => lhs; rw [← List.take_append_drop (k - q) (s.data.toList.drop q), List.drop_drop, show q + (k - q) = k by omega, drop_eq hk]
  rw [h.1, e, parts_cut _ (no_sep h.2), List.map_append, List.append_assoc]
  simp only [List.map_cons, List.map_nil, List.singleton_append]
  rw [Lib.extract_data]
theorem PartsInv.fin {d : UInt8} {s : ByteArray} {q : Nat} {L : List ByteArray} (h : PartsInv d s q s.size L) : (parts d s.data.toList).map toB = L ++ [s.extract q s.size] := by
  have hl : s.data.toList.length = s.size := (Lib.size_eq s).symm
  have e : (s.data.toList.drop q).take (s.size - q) = s.data.toList.drop q := List.take_of_length_le (by rw [List.length_drop, hl]; exact Nat.le_refl _)
  have hn := no_sep h.2
  rw [e] at hn
  have e2 : toB (s.data.toList.drop q) = s.extract q s.size := by rw [← e, ← Lib.extract_data, toB_of]
  rw [h.1, parts_none hn, List.map_append, List.map_map, map_toB, List.map_cons, List.map_nil, e2]

theorem elemOk_parts : ElemOk Tryz.prog 56 9 1 := elemOk_of Tryz.underlying56 (z := .string ⟨#[]⟩) (b := 16) (by kernel_rfl) rfl (by decide)
set_option maxHeartbeats 1000000 in
set_option maxRecDepth 100000 in
theorem refParts_any (s : ByteArray) (w : World) (hs : s.size ≤ 100000000) :
    Calls Tryz.prog 29 #[.string s] w fun e w' => ∃ r, e = .returned r ∧ Chg Never w w' ∧ Rdv w' (Old w.heap.size) r ((parts 10 s.data.toList).map toB) := by
  go_enter Tryz.func29, Tryz.ntmps29
  go_wp2_with fail
  go_loopw [3, 4, 5] (fun o fr i wr => ∃ (q k : Nat) (L : List ByteArray), fr = .int .i64 q ∧ i = .int .i64 k ∧ q ≤ k ∧ k ≤ s.size ∧ Chg Never w wr ∧ Own 9 wr (Old w.heap.size) o L ∧ L.length ≤ k ∧ Hid (PartsInv 10 s q k L)) (fun _ _ i _ => s.size - (intOf i).toNat)
  case atStart => exact ⟨0, 0, [], rfl, rfl, Nat.le_refl _, Nat.zero_le _, Chg.refl _ _, own_nil _ _ _, Nat.le_refl _, pinv_start _ _⟩
  case round =>
    obtain ⟨q, k, L, rfl, rfl, hqk, hk, hc, hown, hL, hP⟩ := hrel
    by_cases hlt : k < s.size
    · have HB := Lib.hid (byte_at hlt)
      cases hq : (((s[k]'hlt).toNat : Int) == 10) with
      | true =>
        have HC : Hid (PartsInv 10 s (k + 1) (k + 1) (L ++ [s.extract q k])) := hP.out.cut hqk (by rw [HB.out, byte_eq (d := 10) hq rfl])
        have hes : (s.extract q k).size ≤ maxLen := by rw [ByteArray.size_extract]; unfold maxLen; omega
        go_wp2_with (at_builtin; refine wpList_push (by rfl) _ _ 56 (by rfl) elemOk_parts (O := Old w.heap.size) (l := L) (y := s.extract q k) (by rfl) (by rfl) (by simp) hown ⟨rfl, hes⟩ (old_lt hc) (by omega) ?_; intro v' w2 hown2 hc2 _)
        have hc3 := own_step hc hown hc2
        clear hc2 hown hc
        go_wp2_with fail
        go_roundw
        case rel => exact ⟨k + 1, k + 1, _, by go_num, by go_num, Nat.le_refl _, by omega, hc3, hown2, by simp; omega, HC⟩
        case measure => simp [intOf] <;> omega
      | false =>
        have HC : Hid (PartsInv 10 s q (k + 1) L) := hP.out.step HB.out (byte_ne hq rfl)
        go_wp2_with fail
        go_roundw
        case rel => exact ⟨q, k + 1, L, rfl, by go_num, by omega, by omega, hc, hown, by omega, HC⟩
        case measure => simp [intOf] <;> omega
    · obtain rfl : k = s.size := by omega
      have HC := Lib.hid hP.out.fin
      have hes : (s.extract q s.size).size ≤ maxLen := by rw [ByteArray.size_extract]; unfold maxLen; omega
      go_wp2_with (at_builtin; refine wpList_push (by rfl) _ _ 56 (by rfl) elemOk_parts (O := Old w.heap.size) (l := L) (y := s.extract q s.size) (by rfl) (by rfl) (by simp) hown ⟨rfl, hes⟩ (old_lt hc) (by omega) ?_; intro v' w2 hown2 hc2 _)
      have hc3 := own_step hc hown hc2
      clear hc2 hown hc
      go_wp2_with fail
      go_ret
      exact ⟨_, rfl, hc3, by rw [HC.out]; exact hown2.rdv⟩

end Go.Proofs.YtmojaahkcpgfkaaGreatDoor
