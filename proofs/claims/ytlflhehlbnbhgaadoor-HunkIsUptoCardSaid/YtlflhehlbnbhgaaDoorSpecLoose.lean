/-
  HUNKS DONE AS NEAR AS MAY BE, in plain Lean (chapter 4, A2): what Loose answers.
-/
import Derived.Test.YtlflhehlbnbhgaaDoorFits
namespace Go.Proofs.YtlflhehlbnbhgaaDoor

/-- how many kept marks stand at the beginning, at most so many -/
def headN : Nat → List Mark → Nat
  | 0, _ => 0
  | _ + 1, [] => 0
  | f + 1, m :: r => if m.sign = 32 then headN f r + 1 else 0
def trimTail (f : Nat) (r : List Mark) : List Mark := r.take (r.length - headN f r.reverse)
def trimmedOf (f : Nat) (s : List Mark) : List Mark := trimTail f (s.drop (headN f s))
/-- a file that is worked on -/
structure Loose where
  lines : List ByteArray
  fin : Int
  more : Int
def okAt (st : Loose) (at_ : Int) (old : List ByteArray) : Bool := decide (st.fin ≤ at_) && standsB st.lines at_ old
/-- by how much, nearest first -/
def offsFrom : Nat → Int → List Int
  | 0, _ => []
  | n + 1, d => -d :: d :: offsFrom n (d + 1)
def wantedAt (st : Loose) (h : Hunk) (f : Nat) : Int := h.old + st.more + headN f h.marks
def findOff (st : Loose) (h : Hunk) (f far : Nat) : Option Int :=
  (offsFrom (far + 1) 0).find? fun o => okAt st (wantedAt st h f + o) (oldOf (trimmedOf f h.marks))
def roomB (st : Loose) (t : List Mark) : Bool := decide ((st.lines.length : Int) - oldN t + newN t ≤ 60)
/-- from so many let go on: how many are, and by how much it is moved -/
def tryFrom (st : Loose) (h : Hunk) (far : Nat) : Nat → Nat → Option (Nat × Int)
  | 0, _ => none
  | n + 1, f =>
    if roomB st (trimmedOf f h.marks) then
      match findOff st h f far with
      | some o => some (f, o)
      | none => tryFrom st h far n (f + 1)
    else none
def doneAt (st : Loose) (h : Hunk) (f : Nat) (o : Int) : Loose :=
  let t := trimmedOf f h.marks
  let a := (wantedAt st h f + o).toNat
  ⟨st.lines.take a ++ newOf t ++ st.lines.drop (a + oldN t), a + newN t, st.more + newN t - oldN t⟩
def tryOf (st : Loose) (h : Hunk) (fuzz far : Nat) : Loose × Option Int :=
  match tryFrom st h far (fuzz + 1) 0 with
  | some (f, o) => (doneAt st h f o, some o)
  | none => (st, none)
def looseGo (fuzz far : Nat) : Loose → List Hunk → Loose × List Hunk × List Int
  | st, [] => (st, [], [])
  | st, h :: r =>
    let q := tryOf st h fuzz far
    let z := looseGo fuzz far q.1 r
    (z.1, (if q.2 = none then h :: z.2.1 else z.2.1), q.2.getD (-1000) :: z.2.2)
def looseFault (a : List ByteArray) (l : List Hunk) (fuzz far : Int) : Int :=
  if linesFault a ≠ 0 then linesFault a else if (hunksFault l).2 ≠ 0 then (hunksFault l).2 else if fuzz < 0 ∨ 3 < fuzz ∨ far < 0 ∨ 60 < far then 1 else 0
def looseOf (a : List ByteArray) (l : List Hunk) (fuzz far : Int) : List ByteArray × List Hunk × List Int :=
  let z := looseGo fuzz.toNat far.toNat ⟨a, 0, 0⟩ l
  (z.1.lines, z.2.1, z.2.2)
def looseR (a : List ByteArray) (l : List Hunk) (fuzz far : Int) : List ByteArray × List Hunk × List Int :=
  if looseFault a l fuzz far = 0 then looseOf a l fuzz far else ([], [], [])

/-! ### what holds of it -/
theorem headN_zero (s : List Mark) : headN 0 s = 0 := by cases s <;> rfl
theorem trimmedOf_zero (s : List Mark) : trimmedOf 0 s = s := by
  unfold trimmedOf trimTail
  simp [headN_zero]
theorem headN_le : ∀ (f : Nat) (s : List Mark), headN f s ≤ s.length ∧ headN f s ≤ f
  | 0, s => by rw [headN_zero]; exact ⟨Nat.zero_le _, Nat.zero_le _⟩
  | f + 1, [] => by simp [headN]
  | f + 1, m :: r => by
    rw [headN]
    have := headN_le f r
    split
    · exact ⟨by simp; exact this.1, by omega⟩
    · exact ⟨Nat.zero_le _, Nat.zero_le _⟩
theorem offsFrom_le : ∀ (n : Nat) (d : Int) (x : Int), 0 ≤ d → x ∈ offsFrom n d → -(d + n - 1) ≤ x ∧ x ≤ d + n - 1
  | 0, d, x, _, h => by simp [offsFrom] at h
  | n + 1, d, x, h0, h => by
    simp only [offsFrom, List.mem_cons] at h
    rcases h with rfl | rfl | h
    · push_cast; omega
    · push_cast; omega
    · have := offsFrom_le n (d + 1) x (by omega) h
      push_cast; omega
theorem findOff_le {st : Loose} {h : Hunk} {f far : Nat} {o : Int} (e : findOff st h f far = some o) : -(far : Int) ≤ o ∧ o ≤ far ∧ okAt st (wantedAt st h f + o) (oldOf (trimmedOf f h.marks)) = true := by
  unfold findOff at e
  have h1 := List.mem_of_find?_eq_some e
  have h2 := List.find?_some e
  have := offsFrom_le _ _ _ (Int.le_refl 0) h1
  push_cast at this
  exact ⟨by omega, by omega, h2⟩
theorem tryFrom_some {st : Loose} {h : Hunk} {far : Nat} : ∀ (n f : Nat) {g : Nat} {o : Int}, tryFrom st h far n f = some (g, o) → f ≤ g ∧ g < f + n ∧ roomB st (trimmedOf g h.marks) = true ∧ findOff st h g far = some o
  | 0, _, _, _, e => by simp [tryFrom] at e
  | n + 1, f, g, o, e => by
    rw [tryFrom] at e
    by_cases hr : roomB st (trimmedOf f h.marks) = true
    · rw [if_pos hr] at e
      cases hf : findOff st h f far with
      | some o' =>
        rw [hf] at e
        simp only [Option.some.injEq, Prod.mk.injEq] at e
        obtain ⟨rfl, rfl⟩ := e
        exact ⟨Nat.le_refl _, by omega, hr, hf⟩
      | none =>
        rw [hf] at e
        obtain ⟨h1, h2, h3, h4⟩ := tryFrom_some n (f + 1) e
        exact ⟨by omega, by omega, h3, h4⟩
    · rw [if_neg hr] at e; cases e
theorem tryOf_off {st : Loose} {h : Hunk} {fuzz far : Nat} {o : Int} (e : (tryOf st h fuzz far).2 = some o) : -(far : Int) ≤ o ∧ o ≤ far := by
  unfold tryOf at e
  split at e
  · rename_i g o' hf
    simp only [Option.some.injEq] at e
    subst e
    obtain ⟨_, _, _, h4⟩ := tryFrom_some _ _ hf
    exact ⟨(findOff_le h4).1, (findOff_le h4).2.1⟩
  · cases e
theorem tryOf_none {st : Loose} {h : Hunk} {fuzz far : Nat} (e : (tryOf st h fuzz far).2 = none) : (tryOf st h fuzz far).1 = st := by
  unfold tryOf at e ⊢
  split
  · rename_i g o' hf
    rw [hf] at e
    cases e
  · rfl

/-- what is left, by the places -/
def leftBy : List Hunk → List Int → List Hunk
  | h :: r, w :: q => if w = -1000 then h :: leftBy r q else leftBy r q
  | _, _ => []
theorem looseGo_facts (fuzz far : Nat) (hfar : far ≤ 60) : ∀ (l : List Hunk) (st : Loose),
    (looseGo fuzz far st l).2.2.length = l.length ∧ (looseGo fuzz far st l).2.1 = leftBy l (looseGo fuzz far st l).2.2 ∧
    (∀ x ∈ (looseGo fuzz far st l).2.2, x = -1000 ∨ (-(far : Int) ≤ x ∧ x ≤ far)) ∧ ((looseGo fuzz far st l).2.1.length ≤ l.length) ∧ ((looseGo fuzz far st l).2.1.length = l.length → (looseGo fuzz far st l).1 = st)
  | [], st => by simp [looseGo, leftBy]
  | h :: r, st => by
    obtain ⟨i1, i2, i3, i4, i5⟩ := looseGo_facts fuzz far hfar r (tryOf st h fuzz far).1
    simp only [looseGo]
    cases hq : (tryOf st h fuzz far).2 with
    | none =>
      simp only [if_true, Option.getD_none]
      refine ⟨by simp [i1], by rw [leftBy, if_pos rfl, ← i2], ?_, by simp; exact i4, ?_⟩
      · intro x hx
        rcases List.mem_cons.1 hx with rfl | hx
        · exact .inl rfl
        · exact i3 x hx
      · intro e
        simp only [List.length_cons, Nat.add_right_cancel_iff] at e
        rw [i5 e]
        exact tryOf_none hq
    | some o =>
      have ho := tryOf_off hq
      simp only [reduceCtorEq, if_false, Option.getD_some]
      refine ⟨by simp [i1], by rw [leftBy, if_neg (by omega), ← i2], ?_, by simp; omega, ?_⟩
      · intro x hx
        rcases List.mem_cons.1 hx with rfl | hx
        · exact .inr ho
        · exact i3 x hx
      · intro e
        simp only [List.length_cons] at e
        omega

/-! ### what fits is done where it is said -/
theorem find_first {st : Loose} {h : Hunk} {far : Nat} (hok : okAt st (h.old + st.more) (oldOf h.marks) = true) : findOff st h 0 far = some 0 := by
  unfold findOff wantedAt
  rw [headN_zero, trimmedOf_zero, offsFrom]
  have : okAt st (h.old + st.more + (0 : Nat) + (-0)) (oldOf h.marks) = true := by
    rw [show h.old + st.more + ((0 : Nat) : Int) + (-0) = h.old + st.more by simp]
    exact hok
  simp only [List.find?_cons, this]
  rfl
theorem tryOf_exact {st : Loose} {h : Hunk} {fuzz far : Nat} (hok : okAt st (h.old + st.more) (oldOf h.marks) = true) (hroom : roomB st h.marks = true) : tryOf st h fuzz far = (doneAt st h 0 0, some 0) := by
  unfold tryOf
  rw [tryFrom, trimmedOf_zero, if_pos hroom, find_first hok]

theorem loose_exact (fuzz far : Nat) (a : List ByteArray) : ∀ (r : List Hunk) (fr fr' : Nat) (out out' : List ByteArray) (more : Int), fr ≤ a.length → more = (out.length : Int) - fr → hOk fr more r → doAll a fr out r = some (fr', out') →
    out.length + (a.length - fr) + (r.map fun h => newN h.marks).sum ≤ 60 →
    looseGo fuzz far ⟨out ++ a.drop fr, out.length, more⟩ r = (⟨out' ++ a.drop fr', out'.length, (out'.length : Int) - fr'⟩, [], r.map fun _ => 0)
  | [], fr, fr', out, out', more, h1, h2, _, hd, _ => by
    simp only [doAll, Option.some.injEq, Prod.mk.injEq] at hd
    obtain ⟨rfl, rfl⟩ := hd
    rw [looseGo, h2]; rfl
  | h :: r, fr, fr', out, out', more, h1, h2, hk, hd, hroom => by
    rw [doAll] at hd
    by_cases hs : standsB a h.old (oldOf h.marks) = true
    · rw [if_pos hs] at hd
      obtain ⟨z1, z2, z3, z4, z5, z6, z7, z8⟩ := oneFault_zero hk.1
      obtain ⟨s1, s2, s3⟩ := stands_split hs
      have hon : oldN h.marks = (oldOf h.marks).length := rfl
      have hnn : newN h.marks = (newOf h.marks).length := rfl
      obtain ⟨o, ho⟩ := Int.eq_ofNat_of_zero_le z3
      rw [ho, Int.toNat_natCast] at hd s2
      have hfo : fr ≤ o := by omega
      simp only [List.map_cons, List.sum_cons] at hroom
      have hgl : ((a.drop fr).take (o - fr)).length = o - fr := by rw [List.length_take, List.length_drop]; omega
      have hat : h.old + more = ((out.length + (o - fr) : Nat) : Int) := by omega
      have hsplit : a.drop fr = (a.drop fr).take (o - fr) ++ (oldOf h.marks ++ a.drop (o + oldN h.marks)) := by
        have e1 : a.drop o = oldOf h.marks ++ a.drop (o + oldN h.marks) := by
          rw [ho, Int.toNat_natCast] at s3
          conv => lhs; rw [s3]
          rw [List.append_assoc, List.drop_left' (by rw [List.length_take]; omega), hon]
        rw [← e1]
        conv => lhs; rw [← List.take_append_drop (o - fr) (a.drop fr), List.drop_drop, show fr + (o - fr) = o by omega]
      have hlines : out ++ a.drop fr = (out ++ (a.drop fr).take (o - fr)) ++ oldOf h.marks ++ a.drop (o + oldN h.marks) := by
        conv => lhs; rw [hsplit]
        simp [List.append_assoc]
      have hlen : (out ++ (a.drop fr).take (o - fr)).length = out.length + (o - fr) := by rw [List.length_append, hgl]
      have hok : okAt ⟨out ++ a.drop fr, out.length, more⟩ (h.old + more) (oldOf h.marks) = true := by
        unfold okAt
        rw [Bool.and_eq_true]
        refine ⟨by simp; omega, ?_⟩
        simp only []
        rw [hat, hlines, ← hlen]
        exact stands_mid _ _ _
      have hrm : roomB ⟨out ++ a.drop fr, out.length, more⟩ h.marks = true := by
        unfold roomB
        rw [decide_eq_true_eq]
        simp only [List.length_append, List.length_drop]
        omega
      have hst : doneAt ⟨out ++ a.drop fr, out.length, more⟩ h 0 0 = ⟨out ++ (a.drop fr).take (o - fr) ++ newOf h.marks ++ a.drop (o + oldN h.marks), (out ++ (a.drop fr).take (o - fr) ++ newOf h.marks).length, more + newN h.marks - oldN h.marks⟩ := by
        unfold doneAt wantedAt
        simp only [headN_zero, trimmedOf_zero]
        have e1 : (h.old + more + ((0 : Nat) : Int) + 0).toNat = out.length + (o - fr) := by rw [Int.add_zero, Int.natCast_zero, Int.add_zero, hat, Int.toNat_natCast]
        rw [e1]
        congr 1
        · have t1 : (out ++ a.drop fr).take (out.length + (o - fr)) = out ++ (a.drop fr).take (o - fr) := by
            rw [hlines, List.append_assoc, List.take_left' hlen]
          have t2 : (out ++ a.drop fr).drop (out.length + (o - fr) + oldN h.marks) = a.drop (o + oldN h.marks) := by
            rw [hlines, List.drop_left' (by rw [List.length_append, hlen, hon])]
          rw [t1, t2]
        · rw [List.length_append, hlen, hnn]; push_cast; rfl
      have hnext := loose_exact fuzz far a r (o + oldN h.marks) fr' _ out' (more + newN h.marks - oldN h.marks) (by omega) (by rw [List.length_append, List.length_append, hgl]; push_cast; omega)
        (by have := hk.2; rw [ho] at this; push_cast; exact this) hd (by rw [List.length_append, List.length_append, hgl]; omega)
      rw [looseGo, tryOf_exact hok hrm]
      simp only [hst, hnext, reduceCtorEq, if_false, Option.getD_some, List.map_cons]
    · rw [if_neg hs] at hd; cases hd
end Go.Proofs.YtlflhehlbnbhgaaDoor
