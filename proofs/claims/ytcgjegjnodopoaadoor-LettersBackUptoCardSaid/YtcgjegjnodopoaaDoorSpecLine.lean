/-
  TEXTS AS LINES, PATHS, in plain Lean (chapter 1).
-/
import Derived.Test.YtcgjegjnodopoaaDoorSpec
import Derived.Lib.Split
namespace Go.Proofs.YtcgjegjnodopoaaDoor

def toB (x : List UInt8) : ByteArray := ⟨x.toArray⟩
theorem toB_data (x : List UInt8) : (toB x).data.toList = x := by simp [toB]
theorem toB_of (s : ByteArray) : toB s.data.toList = s := by cases s; simp [toB]
theorem toB_inj {x y : List UInt8} (h : toB x = toB y) : x = y := by rw [← toB_data x, ← toB_data y, h]
theorem toB_append (x y : List UInt8) : toB (x ++ y) = toB x ++ toB y := by
  apply ByteArray.ext
  simp [toB, ByteArray.data_append]
theorem bytes_append (s t : ByteArray) : (s ++ t).data.toList = s.data.toList ++ t.data.toList := by simp [ByteArray.data_append]

theorem map_toB : ∀ l : List ByteArray, l.map (toB ∘ fun x => x.data.toList) = l
  | [] => rfl
  | x :: l => by rw [List.map_cons, map_toB l]; rfl
/-- what stands between separators -/
def parts (d : UInt8) : List UInt8 → List (List UInt8)
  | [] => [[]]
  | c :: r => if c = d then [] :: parts d r else (c :: (parts d r).headD []) :: (parts d r).tail
theorem parts_ne (d : UInt8) : ∀ s, parts d s ≠ []
  | [] => by simp [parts]
  | c :: r => by rw [parts]; split <;> simp
theorem parts_sep (d : UInt8) (r : List UInt8) : parts d (d :: r) = [] :: parts d r := by rw [parts, if_pos rfl]
theorem parts_other {d c : UInt8} (h : c ≠ d) {r h' : List UInt8} {t : List (List UInt8)} (e : parts d r = h' :: t) : parts d (c :: r) = (c :: h') :: t := by
  rw [parts, if_neg h, e]; rfl
theorem parts_cut {d : UInt8} : ∀ {a : List UInt8} (r : List UInt8), (∀ x ∈ a, x ≠ d) → parts d (a ++ d :: r) = a :: parts d r
  | [], r, _ => parts_sep d r
  | c :: a, r, h => parts_other (h c (List.mem_cons_self ..)) (parts_cut r (fun x hx => h x (List.mem_cons_of_mem _ hx)))
theorem parts_none {d : UInt8} : ∀ {a : List UInt8}, (∀ x ∈ a, x ≠ d) → parts d a = [a]
  | [], _ => rfl
  | c :: a, h => parts_other (h c (List.mem_cons_self ..)) (parts_none (fun x hx => h x (List.mem_cons_of_mem _ hx)))
theorem parts_snoc (d : UInt8) : ∀ s, parts d (s ++ [d]) = parts d s ++ [[]]
  | [] => by rw [List.nil_append, parts_sep]; rfl
  | c :: r => by
    by_cases h : c = d
    · subst h
      rw [List.cons_append, parts_sep, parts_sep, parts_snoc, List.cons_append]
    · obtain ⟨h', t, e⟩ := List.exists_cons_of_ne_nil (parts_ne d r)
      rw [List.cons_append, parts_other h e, parts_other (h' := h') (t := t ++ [[]]) h (by rw [parts_snoc, e]; rfl), List.cons_append]
theorem parts_last {d : UInt8} {c : UInt8} (hc : c ≠ d) : ∀ s, (parts d (s ++ [c])).getLast? ≠ some []
  | [] => by rw [List.nil_append, parts_none (by simpa using hc)]; simp
  | x :: r => by
    obtain ⟨h', t, e⟩ := List.exists_cons_of_ne_nil (parts_ne d (r ++ [c]))
    have ih := parts_last hc r
    by_cases h : x = d
    · subst h
      rw [List.cons_append, parts_sep, e, List.getLast?_cons_cons, ← e]
      exact ih
    · rw [List.cons_append, parts_other h e]
      rw [e] at ih
      cases t with
      | nil => simp
      | cons y t => rw [List.getLast?_cons_cons] at ih ⊢; exact ih
theorem parts_flat (d : UInt8) : ∀ s, ((parts d s).dropLast.map fun x => x ++ [d]).flatten ++ ((parts d s).getLast?.getD []) = s
  | [] => by simp [parts]
  | c :: r => by
    obtain ⟨h', t, e⟩ := List.exists_cons_of_ne_nil (parts_ne d r)
    have ih := parts_flat d r
    rw [e] at ih
    by_cases h : c = d
    · subst h
      rw [parts_sep, e, List.dropLast_cons_of_ne_nil (by simp), List.getLast?_cons_cons]
      simp only [List.map_cons, List.flatten_cons, List.nil_append, List.cons_append]
      rw [ih]
    · rw [parts_other h e]
      cases t with
      | nil =>
        simp only [List.dropLast_singleton, List.map_nil, List.flatten_nil, List.nil_append, List.getLast?_singleton, Option.getD_some] at ih ⊢
        rw [ih]
      | cons y t =>
        simp only [List.dropLast_cons_of_ne_nil (l := y :: t) (by simp), List.getLast?_cons_cons, List.map_cons, List.flatten_cons, List.cons_append] at ih ⊢
        rw [ih]
theorem split_parts (d : UInt8) : ∀ s, Lib.split s [d] = parts d s
  | [] => by
    have : Lib.index [] [d] = -1 := rfl
    unfold Lib.split
    rw [Lib.count_miss this]; rfl
  | c :: r => by
    have ih := split_parts d r
    by_cases h : c = d
    · subst h
      have e : Lib.index (c :: r) [c] = (0 : Nat) := by rw [Lib.index_one]; simp [Lib.indexByte]
      unfold Lib.split at ih ⊢
      rw [Lib.count_hit (by simp) e, parts_sep, Nat.add_comm, Lib.splitK, if_neg (by rw [e]; decide), e]
      simp only [Int.toNat_natCast, Nat.zero_add, List.take_zero, List.length_cons, List.length_nil, List.drop_succ_cons, List.drop_zero]
      rw [ih]
    · have e : Lib.index (c :: r) [d] = if Lib.index r [d] == -1 then -1 else Lib.index r [d] + 1 := by
        rw [Lib.index_one, Lib.index_one, Lib.indexByte, if_neg (by simpa using h)]
      by_cases hm : Lib.index r [d] = -1
      · have e2 : Lib.index (c :: r) [d] = -1 := by rw [e, hm]; rfl
        unfold Lib.split at ih ⊢
        rw [Lib.count_miss hm] at ih
        rw [Lib.count_miss e2]
        exact (parts_other h ih.symm).symm
      · have hge := Lib.index_ge r [d]
        obtain ⟨i, hi⟩ : ∃ i : Nat, Lib.index r [d] = i := ⟨(Lib.index r [d]).toNat, by omega⟩
        have e2 : Lib.index (c :: r) [d] = ((i + 1 : Nat) : Int) := by
          rw [e, if_neg (by simpa using hm), hi]; rfl
        unfold Lib.split at ih ⊢
        rw [Lib.count_hit (by simp) hi, Nat.add_comm, Lib.splitK, if_neg (by rw [hi]; simp), hi] at ih
        rw [Lib.count_hit (by simp) e2, Nat.add_comm, Lib.splitK, if_neg (by rw [e2]; intro hh; have := eq_of_beq hh; omega), e2]
        simp only [Int.toNat_natCast, List.length_cons, List.length_nil] at ih ⊢
        rw [parts_other h ih.symm]
        rfl
theorem splitB_parts (d : UInt8) (s : ByteArray) : Lib.splitB ⟨#[d]⟩ 0 (Lib.countB s ⟨#[d]⟩) s = (parts d s.data.toList).map toB := by
  have e := Lib.splitB_data ⟨#[d]⟩ 0 (Lib.countB s ⟨#[d]⟩) s
  have e2 : Lib.splitK [d] 0 (Lib.countB s ⟨#[d]⟩) s.data.toList = parts d s.data.toList := split_parts d _
  have e3 : ((Lib.splitB ⟨#[d]⟩ 0 (Lib.countB s ⟨#[d]⟩) s).map (·.data.toList)).map toB = Lib.splitB ⟨#[d]⟩ 0 (Lib.countB s ⟨#[d]⟩) s := by
    rw [List.map_map]
    exact map_toB _
  rw [← e3, e]
  congr 1

/-! ### texts -/
def joinL (l : List ByteArray) : List UInt8 := (l.map fun x => x.data.toList ++ [10]).flatten
def joinOf (l : List ByteArray) : ByteArray := toB (joinL l)
def joinR (l : List ByteArray) : ByteArray := if linesFault l = 0 then joinOf l else ByteArray.empty
def linesOf (s : ByteArray) : List ByteArray := (parts 10 s.data.toList).dropLast.map toB
def splitFault (s : ByteArray) : Int := if (parts 10 s.data.toList).getLast? = some [] then linesFault (linesOf s) else 5
def splitR (s : ByteArray) : List ByteArray := if splitFault s = 0 then linesOf s else []

theorem hasNl_not {s : ByteArray} (h : hasNl s = false) : ∀ x ∈ s.data.toList, x ≠ 10 := by
  intro x hx e
  subst e
  unfold hasNl at h
  rw [List.contains_eq_mem, decide_eq_false_iff_not] at h
  exact h hx
theorem joinL_nil : joinL [] = [] := rfl
theorem joinL_cons (x : ByteArray) (l : List ByteArray) : joinL (x :: l) = x.data.toList ++ 10 :: joinL l := by simp [joinL]
theorem joinL_append (l m : List ByteArray) : joinL (l ++ m) = joinL l ++ joinL m := by simp [joinL]
theorem parts_join : ∀ l : List ByteArray, (∀ x ∈ l, hasNl x = false) → parts 10 (joinL l) = l.map (·.data.toList) ++ [[]]
  | [], _ => rfl
  | x :: l, h => by
    rw [joinL_cons, parts_cut _ (hasNl_not (h x (List.mem_cons_self ..))), parts_join l (fun y hy => h y (List.mem_cons_of_mem _ hy))]
    rfl
theorem linesOf_join {l : List ByteArray} (h : ∀ x ∈ l, hasNl x = false) : linesOf (joinOf l) = l := by
  unfold linesOf joinOf
  rw [toB_data, parts_join l h, List.dropLast_concat, List.map_map]
  exact map_toB l
theorem lineFault_nl {x : ByteArray} (h : lineFault x = 0) : hasNl x = false := by
  unfold lineFault at h
  by_cases e : hasNl x = true
  · rw [if_pos e] at h; cases h
  · simpa using e
theorem split_join {l : List ByteArray} (h : linesFault l = 0) : splitFault (joinOf l) = 0 ∧ splitR (joinOf l) = l := by
  have hl : ∀ x ∈ l, hasNl x = false := by
    unfold linesFault at h
    by_cases e : 60 < l.length
    · rw [if_pos e] at h; cases h
    · rw [if_neg e, firstOf_zero] at h
      exact fun x hx => lineFault_nl (h x hx)
  have e1 : splitFault (joinOf l) = 0 := by
    unfold splitFault
    rw [if_pos (by unfold joinOf; rw [toB_data, parts_join l hl]; simp), linesOf_join hl]
    exact h
  exact ⟨e1, by unfold splitR; rw [if_pos e1, linesOf_join hl]⟩
theorem join_lines {s : ByteArray} (h : (parts 10 s.data.toList).getLast? = some []) : joinOf (linesOf s) = s := by
  unfold joinOf joinL linesOf
  have := parts_flat 10 s.data.toList
  rw [h] at this
  simp only [Option.getD_some, List.append_nil] at this
  rw [List.map_map]
  have e : ((fun x : ByteArray => x.data.toList ++ [10]) ∘ toB) = fun x => x ++ [10] := by
    funext x
    simp [toB_data]
  rw [e, this, toB_of]
theorem join_split {s : ByteArray} (h : splitFault s = 0) : linesFault (splitR s) = 0 ∧ joinOf (splitR s) = s := by
  have h' := h
  unfold splitFault at h'
  by_cases e : (parts 10 s.data.toList).getLast? = some []
  · rw [if_pos e] at h'
    unfold splitR
    rw [if_pos h]
    exact ⟨h', join_lines e⟩
  · rw [if_neg e] at h'; cases h'
theorem splitFault_empty : splitFault ByteArray.empty = 0 := by decide
theorem splitR_empty : splitR ByteArray.empty = [] := by decide

/-! ### paths -/
def letterB (c : UInt8) : Bool := decide (97 ≤ c.toNat) && decide (c.toNat ≤ 122) || decide (48 ≤ c.toNat) && decide (c.toNat ≤ 57) || decide (c.toNat = 46) || decide (c.toNat = 45)
def nameOk (x : List UInt8) : Bool := !(x == []) && !(x == [46]) && !(x == [46, 46]) && x.all letterB
def pathFault (s : ByteArray) : Int := if 20 < s.size then 3 else if (parts 47 s.data.toList).all nameOk then 0 else 5
end Go.Proofs.YtcgjegjnodopoaaDoor
