/-
  THE LAWS OF THE DISTANCE AND OF THE SCRIPT, in plain Lean (chapter 2, E2): symmetric, a triangle, 0 just of the same, attained by the script, no script is shorter.
-/
import Derived.Test.YtpoammapjmddfaaDoorSpec
namespace Go.Proofs.YtpoammapjmddfaaDoor

theorem far_nil (b : List ByteArray) : far [] b = b.length := by rw [far]
theorem far_nil' (a : List ByteArray) : far a [] = a.length := by cases a <;> rw [far] <;> rfl
theorem far_cons (x y : ByteArray) (a b : List ByteArray) : far (x :: a) (y :: b) = if x = y then far a b else 1 + min (far a (y :: b)) (far (x :: a) b) := by rw [far]
theorem far_same (x : ByteArray) (a b : List ByteArray) : far (x :: a) (x :: b) = far a b := by rw [far_cons, if_pos rfl]

theorem far_comm : ∀ (n : Nat) (a b : List ByteArray), a.length + b.length = n → far a b = far b a := by
  intro n
  induction n using Nat.strongRecOn with
  | _ n ih =>
    intro a b hn
    match a, b with
    | [], b => rw [far_nil, far_nil']
    | x :: a, [] => rw [far_nil, far_nil']
    | x :: a, y :: b =>
      simp only [List.length_cons] at hn
      rw [far_cons, far_cons, ih _ (by omega) a b rfl, ih _ (by simp only [List.length_cons]; omega) a (y :: b) rfl, ih _ (by simp only [List.length_cons]; omega) (x :: a) b rfl]
      by_cases h : x = y
      · subst h; simp
      · rw [if_neg h, if_neg (fun e => h e.symm), Nat.min_comm]
theorem far_symm (a b : List ByteArray) : far a b = far b a := far_comm _ a b rfl

/-- one line more at either head: at most one further, at most one nearer -/
theorem far_step : ∀ (n : Nat) (x : ByteArray) (a c : List ByteArray), a.length + c.length = n → far (x :: a) c ≤ 1 + far a c ∧ far a c ≤ 1 + far (x :: a) c := by
  intro n
  induction n using Nat.strongRecOn with
  | _ n ih =>
    intro x a c hn
    match c with
    | [] => rw [far_nil', far_nil']; simp only [List.length_cons]; omega
    | z :: c =>
      simp only [List.length_cons] at hn
      have h1 := ih (a.length + c.length) (by omega) z c a (by omega)
      rw [far_symm (z :: c) a, far_symm c a] at h1
      have h2 := ih (a.length + c.length) (by omega) x a c rfl
      rw [far_cons]
      by_cases h : x = z
      · rw [if_pos h]; omega
      · rw [if_neg h]; omega

theorem far_take (x : ByteArray) (a c : List ByteArray) : far (x :: a) c ≤ 1 + far a c := (far_step _ x a c rfl).1
theorem far_untake (x : ByteArray) (a c : List ByteArray) : far a c ≤ 1 + far (x :: a) c := (far_step _ x a c rfl).2
theorem far_put (x : ByteArray) (a c : List ByteArray) : far a (x :: c) ≤ 1 + far a c := by rw [far_symm a, far_symm a]; exact far_take x c a
theorem far_unput (x : ByteArray) (a c : List ByteArray) : far a c ≤ 1 + far a (x :: c) := by rw [far_symm a, far_symm a]; exact far_untake x c a

theorem far_le : ∀ (a b : List ByteArray), far a b ≤ a.length + b.length
  | [], b => by rw [far_nil]; simp
  | x :: a, b => by have := far_take x a b; have := far_le a b; simp only [List.length_cons]; omega
theorem far_ge : ∀ (a b : List ByteArray), a.length ≤ far a b + b.length
  | a, [] => by rw [far_nil']; simp
  | a, y :: b => by have := far_unput y a b; have := far_ge a b; simp only [List.length_cons]; omega

theorem far_tri (a b c : List ByteArray) : far a c ≤ far a b + far b c := by
  suffices h : ∀ n (a b c : List ByteArray), a.length + b.length + c.length = n → far a c ≤ far a b + far b c from h _ a b c rfl
  intro n
  induction n using Nat.strongRecOn with
  | _ n ih =>
    intro a b c hn
    match a, b, c with
    | [], b, c => rw [far_nil, far_nil]; have := far_ge c b; rw [far_symm c b] at this; omega
    | a, [], c => rw [far_nil', far_nil]; exact far_le a c
    | a, b, [] => rw [far_nil', far_nil']; have := far_ge a b; omega
    | x :: a, y :: b, z :: c =>
      simp only [List.length_cons] at hn
      by_cases hxy : x = y
      · subst hxy
        rw [far_same]
        by_cases hyz : x = z
        · subst hyz
          rw [far_same, far_same]
          exact ih _ (by omega) a b c rfl
        · have e : far (x :: b) (z :: c) = 1 + min (far b (z :: c)) (far (x :: b) c) := by rw [far_cons, if_neg hyz]
          have h1 := ih _ (by simp only [List.length_cons]; omega) a b (z :: c) rfl
          have h2 := ih _ (by simp only [List.length_cons]; omega) (x :: a) (x :: b) c rfl
          rw [far_same] at h2
          have h3 := far_take x a (z :: c)
          have h4 := far_put z (x :: a) c
          omega
      · have e : far (x :: a) (y :: b) = 1 + min (far a (y :: b)) (far (x :: a) b) := by rw [far_cons, if_neg hxy]
        have h1 := ih _ (by simp only [List.length_cons]; omega) a (y :: b) (z :: c) rfl
        have h2 := ih _ (by simp only [List.length_cons]; omega) (x :: a) b (z :: c) rfl
        have h3 := far_take x a (z :: c)
        have h4 := far_untake y b (z :: c)
        omega

theorem far_self : ∀ (a : List ByteArray), far a a = 0
  | [] => by rw [far_nil]; rfl
  | x :: a => by rw [far_same]; exact far_self a

theorem far_zero : ∀ (n : Nat) (a b : List ByteArray), a.length + b.length = n → far a b = 0 → a = b := by
  intro n
  induction n using Nat.strongRecOn with
  | _ n ih =>
    intro a b hn h
    match a, b with
    | [], b => rw [far_nil] at h; exact (List.eq_nil_of_length_eq_zero h).symm
    | x :: a, [] => rw [far_nil'] at h; simp at h
    | x :: a, y :: b =>
      simp only [List.length_cons] at hn
      rw [far_cons] at h
      by_cases hxy : x = y
      · rw [if_pos hxy] at h; rw [hxy, ih _ (by omega) a b rfl h]
      · rw [if_neg hxy] at h; omega
theorem far_eq_zero (a b : List ByteArray) : far a b = 0 ↔ a = b := ⟨far_zero _ a b rfl, fun h => h ▸ far_self a⟩

theorem far_parity : ∀ (n : Nat) (a b : List ByteArray), a.length + b.length = n → far a b % 2 = (a.length + b.length) % 2 := by
  intro n
  induction n using Nat.strongRecOn with
  | _ n ih =>
    intro a b hn
    match a, b with
    | [], b => rw [far_nil]; simp
    | x :: a, [] => rw [far_nil']; simp
    | x :: a, y :: b =>
      simp only [List.length_cons] at hn
      have h0 := ih _ (by omega) a b rfl
      have h1 := ih _ (by simp only [List.length_cons]; omega) a (y :: b) rfl
      have h2 := ih _ (by simp only [List.length_cons]; omega) (x :: a) b rfl
      rw [far_cons]
      simp only [List.length_cons] at *
      by_cases hxy : x = y
      · rw [if_pos hxy]; omega
      · rw [if_neg hxy]; omega

/-! ### scripts -/
def signsOk (s : List Mark) : Prop := ∀ m ∈ s, m.sign = 32 ∨ m.sign = 45 ∨ m.sign = 43

theorem oldOf_cons (m : Mark) (s : List Mark) : oldOf (m :: s) = if m.sign = 43 then oldOf s else m.text :: oldOf s := by
  by_cases h : m.sign = 43 <;> simp [oldOf, those, h]
theorem newOf_cons (m : Mark) (s : List Mark) : newOf (m :: s) = if m.sign = 45 then newOf s else m.text :: newOf s := by
  by_cases h : m.sign = 45 <;> simp [newOf, those, h]
theorem changes_cons (m : Mark) (s : List Mark) : changes (m :: s) = if m.sign = 32 then changes s else changes s + 1 := by
  by_cases h : m.sign = 32 <;> simp [changes, h]

/-- any script that leads there takes and puts no fewer lines than it is far -/
theorem far_le_changes : ∀ (s : List Mark), signsOk s → far (oldOf s) (newOf s) ≤ changes s
  | [], _ => by simp [oldOf, newOf, those, far_nil]
  | m :: s, h => by
    have ih := far_le_changes s (fun x hx => h x (List.mem_cons_of_mem _ hx))
    rw [oldOf_cons, newOf_cons, changes_cons]
    rcases h m (List.mem_cons_self ..) with e | e | e <;> rw [e] <;> simp only [Int.reduceEq, if_true, if_false]
    · rw [far_same]; exact ih
    · have := far_take m.text (oldOf s) (newOf s); omega
    · have := far_put m.text (oldOf s) (newOf s); omega

theorem script_facts : ∀ (n : Nat) (a b : List ByteArray), a.length + b.length = n →
    oldOf (script a b) = a ∧ newOf (script a b) = b ∧ changes (script a b) = far a b ∧ signsOk (script a b) := by
  intro n
  induction n using Nat.strongRecOn with
  | _ n ih =>
    intro a b hn
    match a, b with
    | [], [] => rw [script, far_nil]; simp [oldOf, newOf, those, changes, signsOk]
    | x :: a, [] =>
      obtain ⟨h1, h2, h3, h4⟩ := ih _ (by simp only [List.length_cons, List.length_nil] at hn ⊢; omega) a [] rfl
      rw [script, oldOf_cons, newOf_cons, changes_cons, h1, h2, h3, far_nil', far_nil']
      refine ⟨by simp, by simp, by simp, ?_⟩
      intro m hm
      rcases List.mem_cons.1 hm with rfl | hm
      · simp
      · exact h4 m hm
    | [], y :: b =>
      obtain ⟨h1, h2, h3, h4⟩ := ih _ (by simp only [List.length_cons, List.length_nil] at hn ⊢; omega) [] b rfl
      rw [script, oldOf_cons, newOf_cons, changes_cons, h1, h2, h3, far_nil, far_nil]
      refine ⟨by simp, by simp, by simp, ?_⟩
      intro m hm
      rcases List.mem_cons.1 hm with rfl | hm
      · simp
      · exact h4 m hm
    | x :: a, y :: b =>
      simp only [List.length_cons] at hn
      obtain ⟨p1, p2, p3, p4⟩ := ih _ (by omega) a b rfl
      obtain ⟨q1, q2, q3, q4⟩ := ih _ (by simp only [List.length_cons]; omega) a (y :: b) rfl
      obtain ⟨r1, r2, r3, r4⟩ := ih _ (by simp only [List.length_cons]; omega) (x :: a) b rfl
      have e := far_cons x y a b
      rw [script]
      by_cases hxy : x = y
      · subst hxy
        rw [if_pos rfl] at e ⊢
        rw [oldOf_cons, newOf_cons, changes_cons, p1, p2, p3, e]
        refine ⟨by simp, by simp, by simp, ?_⟩
        intro m hm
        rcases List.mem_cons.1 hm with rfl | hm
        · simp
        · exact p4 m hm
      · rw [if_neg hxy] at e ⊢
        by_cases ht : far a (y :: b) + 1 = far (x :: a) (y :: b)
        · rw [if_pos ht, oldOf_cons, newOf_cons, changes_cons, q1, q2, q3]
          refine ⟨by simp, by simp, by simp; omega, ?_⟩
          intro m hm
          rcases List.mem_cons.1 hm with rfl | hm
          · simp
          · exact q4 m hm
        · rw [if_neg ht, oldOf_cons, newOf_cons, changes_cons, r1, r2, r3]
          refine ⟨by simp, by simp, by simp; omega, ?_⟩
          intro m hm
          rcases List.mem_cons.1 hm with rfl | hm
          · simp
          · exact r4 m hm
theorem script_old (a b : List ByteArray) : oldOf (script a b) = a := (script_facts _ a b rfl).1
theorem script_new (a b : List ByteArray) : newOf (script a b) = b := (script_facts _ a b rfl).2.1
theorem script_changes (a b : List ByteArray) : changes (script a b) = far a b := (script_facts _ a b rfl).2.2.1
theorem script_signs (a b : List ByteArray) : signsOk (script a b) := (script_facts _ a b rfl).2.2.2
end Go.Proofs.YtpoammapjmddfaaDoor
