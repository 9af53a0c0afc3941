/-
  HUNKS DONE FROM THE LAST ONE ON, in plain Lean: it comes to the same as from the first one on.
-/
import Derived.Test.YtlflhehlbnbhgaaDoorFits
namespace Go.Proofs.YtlflhehlbnbhgaaDoor

def repl (a : List ByteArray) (at_ n : Nat) (l : List ByteArray) : List ByteArray := a.take at_ ++ l ++ a.drop (at_ + n)
def backDo (a : List ByteArray) (r : List Hunk) : List ByteArray := r.foldr (fun h acc => repl acc h.old.toNat (oldN h.marks) (newOf h.marks)) a
theorem backDo_cons (a : List ByteArray) (h : Hunk) (r : List Hunk) : backDo a (h :: r) = repl (backDo a r) h.old.toNat (oldN h.marks) (newOf h.marks) := rfl
/-- the number of the first hunk whose old lines do not stand where it says -/
def firstClash (a : List ByteArray) : Nat → List Hunk → Option Nat
  | _, [] => none
  | i, h :: r => if standsB a h.old (oldOf h.marks) then firstClash a (i + 1) r else some i
theorem stands_bound {a : List ByteArray} {h : Hunk} (hs : standsB a h.old (oldOf h.marks) = true) : 0 ≤ h.old ∧ h.old.toNat + oldN h.marks ≤ a.length := by
  obtain ⟨s1, s2, _⟩ := stands_split hs
  exact ⟨s1, s2⟩
theorem back_take (a : List ByteArray) : ∀ (r : List Hunk) (i fr : Nat) (more : Int), fr ≤ a.length → hOk fr more r → firstClash a i r = none → (backDo a r).take fr = a.take fr ∧ fr ≤ (backDo a r).length
  | [], _, fr, _, h1, _, _ => ⟨rfl, h1⟩
  | h :: r, i, fr, more, h1, hk, hf => by
    rw [firstClash] at hf
    by_cases hs : standsB a h.old (oldOf h.marks) = true
    · rw [if_pos hs] at hf
      obtain ⟨b0, b1⟩ := stands_bound hs
      obtain ⟨_, _, _, _, _, _, z7, _⟩ := oneFault_zero hk.1
      obtain ⟨o, ho⟩ := Int.eq_ofNat_of_zero_le b0
      rw [ho, Int.toNat_natCast] at b1
      have hfo : fr ≤ o := by omega
      obtain ⟨i1, i2⟩ := back_take a r (i + 1) (o + oldN h.marks) (more + newN h.marks - oldN h.marks) b1 (by have := hk.2; rw [ho] at this; push_cast; exact this) hf
      rw [backDo_cons, ho, Int.toNat_natCast, repl]
      have e1 : (backDo a r).take fr = a.take fr := by
        have := congrArg (List.take fr) i1
        rwa [List.take_take, List.take_take, Nat.min_eq_left (by omega)] at this
      constructor
      · rw [List.append_assoc, List.take_append_of_le_length (by rw [List.length_take]; omega), List.take_take, Nat.min_eq_left hfo, e1]
      · rw [List.length_append, List.length_append, List.length_take]; omega
    · rw [if_neg hs] at hf; cases hf
theorem strictGo_back (a : List ByteArray) : ∀ (r : List Hunk) (i fr : Nat) (out : List ByteArray) (more : Int), fr ≤ a.length → hOk fr more r →
    strictGo a i fr out r = match firstClash a i r with
      | some k => ([], k, 6)
      | none => if 60 < (out ++ (backDo a r).drop fr).length then ([], 0, 3) else (out ++ (backDo a r).drop fr, 0, 0)
  | [], i, fr, out, more, h1, hk => by rw [firstClash, strictGo]; rfl
  | h :: r, i, fr, out, more, h1, hk => by
    rw [firstClash, strictGo]
    by_cases hs : standsB a h.old (oldOf h.marks) = true
    · rw [if_pos hs, if_pos hs]
      obtain ⟨b0, b1⟩ := stands_bound hs
      obtain ⟨_, _, _, _, _, _, z7, _⟩ := oneFault_zero hk.1
      obtain ⟨o, ho⟩ := Int.eq_ofNat_of_zero_le b0
      rw [ho, Int.toNat_natCast] at b1
      have hfo : fr ≤ o := by omega
      have hk2 : hOk ((o + oldN h.marks : Nat) : Int) (more + newN h.marks - oldN h.marks) r := by have := hk.2; rw [ho] at this; push_cast; exact this
      rw [ho, Int.toNat_natCast, strictGo_back a r (i + 1) (o + oldN h.marks) _ _ b1 hk2]
      cases hf : firstClash a (i + 1) r with
      | some k => rfl
      | none =>
        obtain ⟨i1, i2⟩ := back_take a r (i + 1) (o + oldN h.marks) _ b1 hk2 hf
        have e : out ++ (a.drop fr).take (o - fr) ++ newOf h.marks ++ (backDo a r).drop (o + oldN h.marks) = out ++ (backDo a (h :: r)).drop fr := by
          rw [backDo_cons, ho, Int.toNat_natCast, repl]
          have e1 : (backDo a r).take o = a.take o := by
            have := congrArg (List.take o) i1
            rwa [List.take_take, List.take_take, Nat.min_eq_left (by omega)] at this
          rw [e1, List.append_assoc, List.append_assoc, List.append_assoc, List.drop_append_of_le_length (by rw [List.length_take]; omega), List.drop_take]
        simp only [e]
    · rw [if_neg hs, if_neg hs]
theorem repl_length (a : List ByteArray) (at_ n : Nat) (l : List ByteArray) : (repl a at_ n l).length ≤ a.length + l.length := by
  unfold repl
  rw [List.length_append, List.length_append, List.length_take, List.length_drop]
  omega
theorem backDo_length (a : List ByteArray) : ∀ (r : List Hunk), (∀ x ∈ r, newN x.marks ≤ 120) → (backDo a r).length ≤ a.length + 120 * r.length
  | [], _ => by simp [backDo]
  | h :: r, hn => by
    have h1 := backDo_length a r (fun x hx => hn x (List.mem_cons_of_mem _ hx))
    have h2 := hn h (List.mem_cons_self ..)
    have h3 := repl_length (backDo a r) h.old.toNat (oldN h.marks) (newOf h.marks)
    rw [backDo_cons]
    have e : newN h.marks = (newOf h.marks).length := rfl
    simp only [List.length_cons]
    omega
theorem firstClash_none (a : List ByteArray) : ∀ (r : List Hunk) (i : Nat), firstClash a i r = none → ∀ x ∈ r, standsB a x.old (oldOf x.marks) = true
  | [], _, _, x, hx => by simp at hx
  | h :: r, i, hf, x, hx => by
    rw [firstClash] at hf
    by_cases hs : standsB a h.old (oldOf h.marks) = true
    · rw [if_pos hs] at hf
      rcases List.mem_cons.1 hx with rfl | hx
      · exact hs
      · exact firstClash_none a r (i + 1) hf x hx
    · rw [if_neg hs] at hf; cases hf
theorem hOk_drop : ∀ (l : List Hunk) (fin more : Int) (k : Nat), hOk fin more l → ∃ fin' more', hOk fin' more' (l.drop k) ∧ (0 ≤ fin → 0 ≤ fin')
  | [], fin, more, k, h => ⟨fin, more, by simpa using h, fun h => h⟩
  | x :: r, fin, more, 0, h => ⟨fin, more, h, fun h => h⟩
  | x :: r, fin, more, k + 1, h => by
    obtain ⟨_, _, z3, _⟩ := oneFault_zero h.1
    obtain ⟨f, m, h1, h2⟩ := hOk_drop r _ _ k h.2
    exact ⟨f, m, h1, fun _ => h2 (by omega)⟩
theorem hOk_old : ∀ (l : List Hunk) (fin more : Int), hOk fin more l → ∀ h ∈ l, 0 ≤ h.old ∧ h.old ≤ 60
  | [], _, _, _, h, hh => by simp at hh
  | x :: r, fin, more, hk, h, hh => by
    rcases List.mem_cons.1 hh with rfl | hh
    · obtain ⟨_, _, z3, _, z5, _⟩ := oneFault_zero hk.1
      exact ⟨z3, by omega⟩
    · exact hOk_old r _ _ hk.2 h hh
end Go.Proofs.YtlflhehlbnbhgaaDoor
