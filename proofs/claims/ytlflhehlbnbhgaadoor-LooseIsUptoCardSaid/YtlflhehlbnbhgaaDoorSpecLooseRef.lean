/-
  THE DOCUMENT's WAY TO DO HUNKS AS NEAR AS MAY BE, in plain Lean: the same places in the same order; the room that is asked is the same however much context is let go.
-/
import Derived.Test.YtlflhehlbnbhgaaDoorSpecLoose
namespace Go.Proofs.YtlflhehlbnbhgaaDoor

/-- the document's number d: 0, -1, 1, -2, 2 .. -/
def offOf (d : Nat) : Int := if d % 2 = 1 then -(((d + 1) / 2 : Nat) : Int) else (((d + 1) / 2 : Nat) : Int)
def refOffs (far : Nat) : List Int := 0 :: offsFrom far 1
theorem offsFrom_length : ∀ (n : Nat) (c : Int), (offsFrom n c).length = 2 * n
  | 0, _ => rfl
  | n + 1, c => by rw [offsFrom]; simp only [List.length_cons]; rw [offsFrom_length n (c + 1)]; omega
theorem offsFrom_get : ∀ (n : Nat) (c : Int) (i : Nat), i < n → (offsFrom n c)[2 * i]? = some (-(c + i)) ∧ (offsFrom n c)[2 * i + 1]? = some (c + i)
  | 0, _, _, h => absurd h (Nat.not_lt_zero _)
  | n + 1, c, 0, _ => by rw [offsFrom]; simp
  | n + 1, c, i + 1, h => by
    obtain ⟨h1, h2⟩ := offsFrom_get n (c + 1) i (by omega)
    rw [offsFrom]
    constructor
    · rw [show 2 * (i + 1) = 2 * i + 1 + 1 by omega, List.getElem?_cons_succ, List.getElem?_cons_succ, h1]
      push_cast; congr 1; omega
    · rw [show 2 * (i + 1) + 1 = 2 * i + 1 + 1 + 1 by omega, List.getElem?_cons_succ, List.getElem?_cons_succ, h2]
      push_cast; congr 1; omega
theorem refOffs_length (far : Nat) : (refOffs far).length = 2 * far + 1 := by rw [refOffs, List.length_cons, offsFrom_length]
theorem refOffs_get (far d : Nat) (h : d ≤ 2 * far) : (refOffs far)[d]? = some (offOf d) := by
  unfold refOffs offOf
  cases d with
  | zero => simp
  | succ d =>
    rw [List.getElem?_cons_succ]
    rcases Nat.mod_two_eq_zero_or_one d with e | e
    · obtain ⟨h1, _⟩ := offsFrom_get far 1 (d / 2) (by omega)
      rw [show 2 * (d / 2) = d by omega] at h1
      rw [h1, if_pos (by omega)]
      congr 2
      omega
    · obtain ⟨_, h1⟩ := offsFrom_get far 1 (d / 2) (by omega)
      rw [show 2 * (d / 2) + 1 = d by omega] at h1
      rw [h1, if_neg (by omega)]
      congr 1
      omega
theorem findOff_ref (st : Loose) (h : Hunk) (f far : Nat) : findOff st h f far = (refOffs far).find? fun o => okAt st (wantedAt st h f + o) (oldOf (trimmedOf f h.marks)) := by
  unfold findOff refOffs
  rw [offsFrom]
  simp only [Int.neg_zero, Int.zero_add, List.find?_cons]
  cases okAt st (wantedAt st h f + 0) (oldOf (trimmedOf f h.marks)) <;> rfl
/-- the first that will do, as a loop finds it -/
theorem find_take_none {α : Type} {p : α → Bool} {l : List α} (h : ∀ (d : Nat) (x : α), l[d]? = some x → p x = false) : l.find? p = none := by
  rw [List.find?_eq_none]
  intro x hx
  obtain ⟨d, hd⟩ := List.getElem?_of_mem hx
  simp [h d x hd]
theorem find_at {α : Type} {p : α → Bool} : ∀ {l : List α} {k : Nat} {x : α}, (∀ (d : Nat) (y : α), d < k → l[d]? = some y → p y = false) → l[k]? = some x → p x = true → l.find? p = some x
  | [], k, x, _, h, _ => by simp at h
  | y :: r, 0, x, _, h, hp => by
    simp only [List.getElem?_cons_zero, Option.some.injEq] at h
    subst h
    rw [List.find?_cons, hp]
  | y :: r, k + 1, x, hn, h, hp => by
    rw [List.find?_cons, hn 0 y (Nat.succ_pos k) (by simp)]
    exact find_at (k := k) (fun d z hd hz => hn (d + 1) z (Nat.succ_lt_succ hd) (by simpa using hz)) (by simpa using h) hp

/-! ### what context that is let go leaves -/
theorem trim_head (f : Nat) : ∀ s : List Mark, (newN (s.drop (headN f s)) : Int) - oldN (s.drop (headN f s)) = (newN s : Int) - oldN s := by
  induction f with
  | zero => intro s; rw [headN_zero, List.drop_zero]
  | succ f ih =>
    intro s
    cases s with
    | nil => simp [headN]
    | cons m r =>
      rw [headN]
      by_cases h : m.sign = 32
      · rw [if_pos h, List.drop_succ_cons, ih r]
        have e1 : newN (m :: r) = newN r + 1 := by simp [newN, those, h]
        have e2 : oldN (m :: r) = oldN r + 1 := by simp [oldN, those, h]
        rw [e1, e2]; push_cast; omega
      · rw [if_neg h, List.drop_zero]
theorem those_reverse (s : List Mark) (no : Int) : (those s.reverse no).length = (those s no).length := by
  unfold those
  rw [List.filter_reverse, List.map_reverse, List.length_reverse]
theorem trim_tail (f : Nat) (r : List Mark) : (newN (trimTail f r) : Int) - oldN (trimTail f r) = (newN r : Int) - oldN r := by
  have h := trim_head f r.reverse
  have e : r.reverse.drop (headN f r.reverse) = (trimTail f r).reverse := by
    unfold trimTail
    rw [List.drop_reverse]
  rw [e] at h
  unfold newN oldN at *
  rw [those_reverse, those_reverse, those_reverse, those_reverse] at h
  exact h
theorem trimmed_more (f : Nat) (s : List Mark) : (newN (trimmedOf f s) : Int) - oldN (trimmedOf f s) = (newN s : Int) - oldN s := by
  unfold trimmedOf
  rw [trim_tail, trim_head]
theorem room_same (st : Loose) (f : Nat) (s : List Mark) : roomB st (trimmedOf f s) = roomB st s := by
  unfold roomB
  have := trimmed_more f s
  rw [decide_eq_decide]
  omega
/-- where there is no room, none is done -/
theorem tryFrom_full {st : Loose} {h : Hunk} {far : Nat} (hr : roomB st h.marks = false) : ∀ n f, tryFrom st h far n f = none
  | 0, _ => rfl
  | n + 1, f => by rw [tryFrom, room_same, hr]; rfl
end Go.Proofs.YtlflhehlbnbhgaaDoor
