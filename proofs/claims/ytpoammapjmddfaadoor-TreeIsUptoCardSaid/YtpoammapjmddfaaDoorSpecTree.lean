/-
  TREES, in plain Lean (chapter 2): files by path, in order.
-/
import Derived.Test.YtpoammapjmddfaaDoorSpecLine
import Derived.Lib.Bytealg
import GoSem.Op.String
namespace Go.Proofs.YtpoammapjmddfaaDoor

/-! ### the order of paths -/
theorem bl_cons (a b : UInt8) (x y : List UInt8) : Op.bytesLess (a :: x) (b :: y) = (decide (a < b) || (a == b && Op.bytesLess x y)) := by rw [Op.bytesLess]
theorem bl_nil_r (x : List UInt8) : Op.bytesLess x [] = false := by cases x <;> rfl
theorem bl_nil_l (b : UInt8) (y : List UInt8) : Op.bytesLess [] (b :: y) = true := rfl
theorem bl_irrefl : ∀ x : List UInt8, Op.bytesLess x x = false
  | [] => rfl
  | a :: x => by rw [bl_cons, bl_irrefl x]; simp
theorem bl_trans : ∀ {x y z : List UInt8}, Op.bytesLess x y = true → Op.bytesLess y z = true → Op.bytesLess x z = true
  | _, [], _, h, _ => by rw [bl_nil_r] at h; cases h
  | _, _ :: _, [], _, h => by rw [bl_nil_r] at h; cases h
  | [], _ :: _, _ :: _, _, _ => rfl
  | a :: x, b :: y, c :: z, h, g => by
    rw [bl_cons] at h g ⊢
    simp only [Bool.or_eq_true, decide_eq_true_eq, Bool.and_eq_true, beq_iff_eq] at h g ⊢
    rcases h with h | ⟨rfl, h⟩
    · rcases g with g | ⟨rfl, g⟩
      · exact .inl (UInt8.lt_trans h g)
      · exact .inl h
    · rcases g with g | ⟨rfl, g⟩
      · exact .inl g
      · exact .inr ⟨rfl, bl_trans h g⟩
theorem bl_tri : ∀ x y : List UInt8, Op.bytesLess x y = true ∨ x = y ∨ Op.bytesLess y x = true
  | [], [] => .inr (.inl rfl)
  | [], _ :: _ => .inl rfl
  | _ :: _, [] => .inr (.inr rfl)
  | a :: x, b :: y => by
    rw [bl_cons, bl_cons]
    simp only [Bool.or_eq_true, decide_eq_true_eq, Bool.and_eq_true, beq_iff_eq, List.cons.injEq]
    rcases Nat.lt_trichotomy a.toNat b.toNat with h | h | h
    · exact .inl (.inl (UInt8.lt_iff_toNat_lt.2 h))
    · have hab : a = b := UInt8.toNat_inj.1 h
      subst hab
      rcases bl_tri x y with h | h | h
      · exact .inl (.inr ⟨rfl, h⟩)
      · exact .inr (.inl ⟨rfl, h⟩)
      · exact .inr (.inr (.inr ⟨rfl, h⟩))
    · exact .inr (.inr (.inl (UInt8.lt_iff_toNat_lt.2 h)))
theorem compare_bl : ∀ x y : List UInt8, (Lib.compareBytes x y < 0 ↔ Op.bytesLess x y = true) ∧ (Lib.compareBytes x y = 0 ↔ x = y)
  | [], [] => by simp [Lib.compareBytes, Op.bytesLess]
  | [], _ :: _ => by simp [Lib.compareBytes, Op.bytesLess]
  | _ :: _, [] => by simp [Lib.compareBytes, Op.bytesLess]
  | a :: x, b :: y => by
    obtain ⟨i1, i2⟩ := compare_bl x y
    rw [bl_cons, Lib.compareBytes]
    by_cases h1 : a < b
    · have : a ≠ b := by rintro rfl; exact absurd h1 (UInt8.lt_irrefl a)
      simp [h1, this]
    · by_cases h2 : b < a
      · have : a ≠ b := by rintro rfl; exact absurd h2 (UInt8.lt_irrefl a)
        simp [h1, h2, this]
      · have hab : a = b := by
          have n1 : ¬ a.toNat < b.toNat := fun h => h1 (UInt8.lt_iff_toNat_lt.2 h)
          have n2 : ¬ b.toNat < a.toNat := fun h => h2 (UInt8.lt_iff_toNat_lt.2 h)
          exact UInt8.toNat_inj.1 (by omega)
        subst hab
        simp [h1, i1, i2]
def less (a b : ByteArray) : Bool := Op.bytesLess a.toList b.toList
theorem toList_inj {a b : ByteArray} (h : a.toList = b.toList) : a = b := by
  rw [Lib.toList_data, Lib.toList_data] at h
  exact ByteArray.ext (Array.toList_inj.1 h)
theorem less_irrefl (a : ByteArray) : less a a = false := bl_irrefl _
theorem less_trans {a b c : ByteArray} (h : less a b = true) (g : less b c = true) : less a c = true := bl_trans h g
theorem less_tri (a b : ByteArray) : less a b = true ∨ a = b ∨ less b a = true := by
  rcases bl_tri a.toList b.toList with h | h | h
  · exact .inl h
  · exact .inr (.inl (toList_inj h))
  · exact .inr (.inr h)
theorem less_asymm {a b : ByteArray} (h : less a b = true) : less b a = false := by
  cases hb : less b a with
  | false => rfl
  | true =>
    have := less_trans h hb
    rw [less_irrefl] at this
    cases this
theorem less_ne {a b : ByteArray} (h : less a b = true) : a ≠ b := by
  rintro rfl
  rw [less_irrefl] at h
  cases h
/-- the walk's 'a <= b' -/
def leqB (a b : ByteArray) : Bool := Op.bytesLess a.toList b.toList || a.toList == b.toList
theorem leqB_true {a b : ByteArray} : leqB a b = true ↔ less b a = false := by
  unfold leqB
  rw [Bool.or_eq_true, beq_iff_eq]
  constructor
  · rintro (h | h)
    · exact less_asymm h
    · rw [toList_inj h]; exact less_irrefl b
  · intro h
    rcases less_tri a b with g | g | g
    · exact .inl g
    · exact .inr (by rw [g])
    · rw [g] at h; cases h

/-! ### trees -/
def fileFault (f : File) : Int := if pathFault f.path = 0 then linesFault f.lines else pathFault f.path
def treeGo : Nat → Option ByteArray → List File → Nat × Int
  | _, _, [] => (0, 0)
  | i, prev, f :: r => if fileFault f ≠ 0 then (i, fileFault f) else if prev.any (fun p => leqB f.path p) = true then (i, 2) else treeGo (i + 1) (some f.path) r
def treeFault (t : List File) : Nat × Int := if 8 < t.length then (0, 3) else treeGo 0 none t
def Sorted (t : List File) : Prop := t.Pairwise fun f g => less f.path g.path = true

theorem treeGo_zero : ∀ (t : List File) (i : Nat) (prev : Option ByteArray), (treeGo i prev t).2 = 0 → (∀ f ∈ t, fileFault f = 0) ∧ Sorted t ∧ (∀ p f, prev = some p → f ∈ t → less p f.path = true) ∧ treeGo i prev t = (0, 0)
  | [], _, _, _ => ⟨by simp, List.Pairwise.nil, by simp, rfl⟩
  | f :: r, i, prev, h => by
    rw [treeGo] at h ⊢
    by_cases h1 : fileFault f ≠ 0
    · rw [if_pos h1] at h; exact absurd h h1
    · rw [if_neg h1] at h ⊢
      by_cases h2 : prev.any (fun p => leqB f.path p) = true
      · rw [if_pos h2] at h; cases h
      · rw [if_neg h2] at h ⊢
        obtain ⟨i1, i2, i3, i4⟩ := treeGo_zero r (i + 1) (some f.path) h
        refine ⟨?_, ?_, ?_, i4⟩
        · intro x hx
          rcases List.mem_cons.1 hx with rfl | hx
          · simpa using h1
          · exact i1 x hx
        · exact List.Pairwise.cons (fun g hg => i3 f.path g rfl hg) i2
        · rintro p x rfl hx
          have hp : less p f.path = true := by
            simp only [Option.any_some] at h2
            rcases less_tri p f.path with g | g | g
            · exact g
            · exact absurd (leqB_true.2 (by rw [g]; exact less_irrefl _)) h2
            · exact absurd (leqB_true.2 (less_asymm g)) h2
          rcases List.mem_cons.1 hx with rfl | hx
          · exact hp
          · exact less_trans hp (i3 f.path x rfl hx)
theorem treeFault_zero {t : List File} (h : (treeFault t).2 = 0) : t.length ≤ 8 ∧ (∀ f ∈ t, fileFault f = 0) ∧ Sorted t ∧ treeFault t = (0, 0) := by
  unfold treeFault at h ⊢
  by_cases h1 : 8 < t.length
  · rw [if_pos h1] at h; cases h
  · rw [if_neg h1] at h ⊢
    obtain ⟨i1, i2, _, i4⟩ := treeGo_zero t 0 none h
    exact ⟨by omega, i1, i2, i4⟩
theorem fileFault_zero {f : File} (h : fileFault f = 0) : pathFault f.path = 0 ∧ linesFault f.lines = 0 := by
  unfold fileFault at h
  by_cases h1 : pathFault f.path = 0
  · rw [if_pos h1] at h; exact ⟨h1, h⟩
  · rw [if_neg h1] at h; exact absurd h h1

/-- where a path is, or would be -/
def posOf (t : List File) (p : ByteArray) : Nat := (t.takeWhile fun f => less f.path p).length
def isAt (t : List File) (p : ByteArray) : Bool := (t[posOf t p]?).any fun f => decide (f.path = p)
def placeOf (t : List File) (p : ByteArray) : Option Nat := t.findIdx? fun f => decide (f.path = p)
def putAt (t : List File) (f : File) : List File := t.take (posOf t f.path) ++ f :: t.drop (if isAt t f.path = true then posOf t f.path + 1 else posOf t f.path)
def dropAt (t : List File) (k : Nat) : List File := t.take k ++ t.drop (k + 1)
/-- the document's way to put -/
def putLoop (f : File) : Bool → List File → List File
  | done, [] => if done then [] else [f]
  | done, x :: r => (if !done && leqB f.path x.path then [f] else []) ++ (if x.path = f.path then [] else [x]) ++ putLoop f (done || leqB f.path x.path) r

theorem posOf_le (t : List File) (p : ByteArray) : posOf t p ≤ t.length := by
  unfold posOf
  exact (List.takeWhile_prefix _).length_le
theorem pos_unique {t : List File} {p : ByteArray} {i : Nat} (h1 : ∀ q f, q < i → t[q]? = some f → less f.path p = true) (h2 : ∀ f, t[i]? = some f → less f.path p = false) (hi : i ≤ t.length) : posOf t p = i := by
  induction t generalizing i with
  | nil => simp at hi; subst hi; rfl
  | cons x t ih =>
    unfold posOf at ih ⊢
    cases i with
    | zero =>
      have := h2 x rfl
      rw [List.takeWhile_cons, this]; rfl
    | succ i =>
      have := h1 0 x (Nat.succ_pos i) rfl
      rw [List.takeWhile_cons, this]
      simp only [if_true, List.length_cons]
      congr 1
      exact ih (fun q f hq hf => h1 (q + 1) f (by omega) (by simpa using hf)) (fun f hf => h2 f (by simpa using hf)) (by simpa using hi)
theorem sorted_mono {t : List File} (h : Sorted t) {i j : Nat} {f g : File} (hij : i < j) (hi : t[i]? = some f) (hj : t[j]? = some g) : less f.path g.path = true := by
  obtain ⟨hi1, hi2⟩ := List.getElem?_eq_some_iff.1 hi
  obtain ⟨hj1, hj2⟩ := List.getElem?_eq_some_iff.1 hj
  have := List.pairwise_iff_getElem.1 h i j hi1 hj1 hij
  rw [hi2, hj2] at this
  exact this
theorem putLoop_done (f : File) : ∀ t : List File, (∀ x ∈ t, less f.path x.path = true) → putLoop f true t = t
  | [], _ => rfl
  | x :: r, h => by
    have hx := h x (List.mem_cons_self ..)
    rw [putLoop, Bool.true_or, putLoop_done f r (fun y hy => h y (List.mem_cons_of_mem _ hy))]
    simp [(less_ne hx).symm]
theorem putLoop_sorted (f : File) : ∀ t : List File, Sorted t → putLoop f false t = putAt t f
  | [], _ => rfl
  | x :: r, h => by
    obtain ⟨h1, h2⟩ := List.pairwise_cons.1 h
    have ih := putLoop_sorted f r h2
    rcases less_tri x.path f.path with g | g | g
    · have e1 : leqB f.path x.path = false := by
        rw [Bool.eq_false_iff]; intro e
        rw [leqB_true.1 e] at g; cases g
      have e2 : posOf (x :: r) f.path = posOf r f.path + 1 := by unfold posOf; rw [List.takeWhile_cons, g]; rfl
      have e3 : isAt (x :: r) f.path = isAt r f.path := by unfold isAt; rw [e2, List.getElem?_cons_succ]
      rw [putLoop, e1, if_neg (less_ne g)]
      unfold putAt at ih ⊢
      rw [e2, e3, List.take_succ_cons]
      simp only [Bool.not_false, Bool.and_false, Bool.false_eq_true, if_false, List.nil_append, Bool.or_false, List.cons_append, List.cons.injEq, true_and]
      rw [ih]
      by_cases hi : isAt r f.path = true
      · rw [if_pos hi, if_pos hi]; rfl
      · rw [if_neg hi, if_neg hi]; rfl
    · have e1 : leqB f.path x.path = true := leqB_true.2 (by rw [g]; exact less_irrefl _)
      have e2 : posOf (x :: r) f.path = 0 := by unfold posOf; rw [List.takeWhile_cons, g, less_irrefl]; rfl
      have e3 : isAt (x :: r) f.path = true := by unfold isAt; rw [e2]; simp [g]
      rw [putLoop, e1, if_pos g, Bool.false_or, putLoop_done f r (fun y hy => by rw [← g]; exact h1 y hy)]
      unfold putAt
      rw [e2, if_pos e3]
      rfl
    · have e1 : leqB f.path x.path = true := leqB_true.2 (less_asymm g)
      have e2 : posOf (x :: r) f.path = 0 := by unfold posOf; rw [List.takeWhile_cons, less_asymm g]; rfl
      have e3 : isAt (x :: r) f.path = false := by unfold isAt; rw [e2]; simp [(less_ne g).symm]
      rw [putLoop, e1, if_neg (less_ne g).symm, Bool.false_or, putLoop_done f r (fun y hy => less_trans g (h1 y hy))]
      unfold putAt
      have e4 : (if isAt (x :: r) f.path = true then 0 + 1 else 0) = 0 := if_neg (by rw [e3]; decide)
      rw [e2, e4]
      rfl
theorem placeOf_sorted {t : List File} (h : Sorted t) (p : ByteArray) : placeOf t p = if isAt t p = true then some (posOf t p) else none := by
  induction t with
  | nil => rfl
  | cons x r ih =>
    obtain ⟨h1, h2⟩ := List.pairwise_cons.1 h
    have ih := ih h2
    unfold placeOf at ih ⊢
    rw [List.findIdx?_cons]
    rcases less_tri x.path p with g | g | g
    · have e2 : posOf (x :: r) p = posOf r p + 1 := by unfold posOf; rw [List.takeWhile_cons, g]; rfl
      have e3 : isAt (x :: r) p = isAt r p := by unfold isAt; rw [e2, List.getElem?_cons_succ]
      rw [decide_eq_false (less_ne g), e2, e3, ih]
      by_cases hi : isAt r p = true
      · simp [hi]
      · simp [hi]
    · have e2 : posOf (x :: r) p = 0 := by unfold posOf; rw [List.takeWhile_cons, g, less_irrefl]; rfl
      have e3 : isAt (x :: r) p = true := by unfold isAt; rw [e2]; simp [g]
      rw [decide_eq_true g, e2, e3]; rfl
    · have e2 : posOf (x :: r) p = 0 := by unfold posOf; rw [List.takeWhile_cons, less_asymm g]; rfl
      have e3 : isAt (x :: r) p = false := by unfold isAt; rw [e2]; simp [(less_ne g).symm]
      have hr : isAt r p = false := by
        unfold isAt
        cases hf : r[posOf r p]? with
        | none => rfl
        | some y => simp [(less_ne (less_trans g (h1 y (List.mem_of_getElem? hf)))).symm]
      rw [decide_eq_false (less_ne g).symm, e3, ih, hr]; rfl
theorem dropAt_is {t : List File} (p : ByteArray) : dropAt t (posOf t p) = t.take (posOf t p) ++ t.drop (posOf t p + 1) := rfl
end Go.Proofs.YtpoammapjmddfaaDoor
