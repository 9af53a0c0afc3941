/-
  LINES PUT AHEAD OF A FILE WHOSE LINES ARE NO TWO THE SAME, in plain Lean: hunks that are done strictly are done that much further behind.
-/
import Derived.Test.YtlflhehlbnbhgaaSpecLoose
namespace Go.Proofs.Ytlflhehlbnbhgaa

/-- no two lines are the same -/
def Inj (a : List ByteArray) : Prop := ∀ (i j : Nat) (x : ByteArray), a[i]? = some x → a[j]? = some x → i = j
theorem offsFrom_mem : ∀ (n : Nat) (d x : Int), d ≤ x → x < d + n → x ∈ offsFrom n d
  | 0, d, x, h1, h2 => by simp at h2; omega
  | n + 1, d, x, h1, h2 => by
    rw [offsFrom]
    by_cases e : x = d
    · subst e; simp
    · refine List.mem_cons_of_mem _ (List.mem_cons_of_mem _ (offsFrom_mem n (d + 1) x (by omega) (by push_cast at h2; omega)))
theorem find_only {α : Type} {p : α → Bool} {l : List α} {b : α} (hb : b ∈ l) (hp : p b = true) (hu : ∀ x, p x = true → x = b) : l.find? p = some b := by
  cases h : l.find? p with
  | none => exact absurd hp (by simpa using List.find?_eq_none.1 h b hb)
  | some y => rw [hu y (List.find?_some h)]
theorem doAll_len (a : List ByteArray) : ∀ (r : List Hunk) (fr fr' : Nat) (out out' : List ByteArray), doAll a fr out r = some (fr', out') → out.length ≤ out'.length
  | [], fr, fr', out, out', h => by
    simp only [doAll, Option.some.injEq, Prod.mk.injEq] at h
    rw [h.2]; exact Nat.le_refl _
  | h :: r, fr, fr', out, out', hd => by
    rw [doAll] at hd
    by_cases hs : standsB a h.old (oldOf h.marks) = true
    · rw [if_pos hs] at hd
      have := doAll_len a r _ _ _ _ hd
      simp only [List.length_append] at this
      omega
    · rw [if_neg hs] at hd; cases hd
theorem first_at {L : List ByteArray} {q : Int} {old : List ByteArray} {x : ByteArray} (h : standsB L q old = true) (hx : old[0]? = some x) : 0 ≤ q ∧ L[q.toNat]? = some x := by
  obtain ⟨s1, s2, s3⟩ := stands_split h
  refine ⟨s1, ?_⟩
  have hl : 0 < old.length := (List.getElem?_eq_some_iff.1 hx).1
  rw [s3, List.append_assoc, List.getElem?_append_right (by rw [List.length_take]; omega), List.length_take, Nat.min_eq_left (by omega), Nat.sub_self, List.getElem?_append_left hl]
  exact hx

theorem loose_moves (pre a : List ByteArray) (hpre : ∀ x ∈ pre, x ∉ a) (hinj : Inj a) : ∀ (r : List Hunk) (fr fr' : Nat) (out out' : List ByteArray) (more fin : Int), fr ≤ a.length → more = (out.length : Int) - fr → hOk fr more r → doAll a fr out r = some (fr', out') →
    (fin = (pre.length : Int) + out.length ∨ (fin = 0 ∧ out = [] ∧ fr = 0)) → (∀ h ∈ r, oldOf h.marks ≠ []) → pre.length + out'.length + a.length ≤ 60 →
    ∃ fin', looseGo 0 pre.length ⟨pre ++ out ++ a.drop fr, fin, more⟩ r = (⟨pre ++ out' ++ a.drop fr', fin', (out'.length : Int) - fr'⟩, [], r.map fun _ => (pre.length : Int))
  | [], fr, fr', out, out', more, fin, h1, h2, _, hd, _, _, _ => by
    simp only [doAll, Option.some.injEq, Prod.mk.injEq] at hd
    obtain ⟨rfl, rfl⟩ := hd
    exact ⟨fin, by rw [looseGo, h2]; rfl⟩
  | h :: r, fr, fr', out, out', more, fin, h1, h2, hk, hd, hfin, hne, hroom => by
    rw [doAll] at hd
    by_cases hs : standsB a h.old (oldOf h.marks) = true
    · rw [if_pos hs] at hd
      obtain ⟨z1, z2, z3, z4, z5, z6, z7, z8⟩ := oneFault_zero hk.1
      obtain ⟨s1, s2, s3⟩ := stands_split hs
      have hon : oldN h.marks = (oldOf h.marks).length := rfl
      have hnn : newN h.marks = (newOf h.marks).length := rfl
      obtain ⟨o, ho⟩ := Int.eq_ofNat_of_zero_le z3
      have hlen := doAll_len a r _ _ _ _ hd
      simp only [List.length_append] at hlen
      have hox : ∃ x, (oldOf h.marks)[0]? = some x := by
        have := hne h (List.mem_cons_self ..)
        cases e : oldOf h.marks with
        | nil => exact absurd e this
        | cons y t => exact ⟨y, rfl⟩
      obtain ⟨x, hx⟩ := hox
      have hax := (first_at hs hx).2
      rw [ho, Int.toNat_natCast] at hd s2 hax
      have hfo : fr ≤ o := by omega
      have hxa : x ∈ a := List.mem_of_getElem? hax
      have hgl : ((a.drop fr).take (o - fr)).length = o - fr := by rw [List.length_take, List.length_drop]; omega
      have hsplit : a.drop fr = (a.drop fr).take (o - fr) ++ (oldOf h.marks ++ a.drop (o + oldN h.marks)) := by
        have e1 : a.drop o = oldOf h.marks ++ a.drop (o + oldN h.marks) := by
          rw [ho, Int.toNat_natCast] at s3
          conv => lhs; rw [s3]
          rw [List.append_assoc, List.drop_left' (by rw [List.length_take]; omega), hon]
        rw [← e1]
        conv => lhs; rw [← List.take_append_drop (o - fr) (a.drop fr), List.drop_drop, show fr + (o - fr) = o by omega]
      have hlines : pre ++ out ++ a.drop fr = (pre ++ out ++ (a.drop fr).take (o - fr)) ++ oldOf h.marks ++ a.drop (o + oldN h.marks) := by
        conv => lhs; rw [hsplit]
        simp [List.append_assoc]
      have hpl : (pre ++ out ++ (a.drop fr).take (o - fr)).length = pre.length + out.length + (o - fr) := by rw [List.length_append, List.length_append, hgl]
      have hat : h.old + more + pre.length = ((pre.length + out.length + (o - fr) : Nat) : Int) := by omega
      have hok : okAt ⟨pre ++ out ++ a.drop fr, fin, more⟩ (h.old + more + pre.length) (oldOf h.marks) = true := by
        unfold okAt
        rw [Bool.and_eq_true]
        refine ⟨by simp only [decide_eq_true_eq]; rcases hfin with hf | ⟨hf, _, _⟩ <;> omega, ?_⟩
        simp only []
        rw [hat, hlines, ← hpl]
        exact stands_mid _ _ _
      have huni : ∀ q : Int, okAt ⟨pre ++ out ++ a.drop fr, fin, more⟩ (h.old + more + q) (oldOf h.marks) = true → q = pre.length := by
        intro q hq
        unfold okAt at hq
        rw [Bool.and_eq_true, decide_eq_true_eq] at hq
        obtain ⟨hq1, hq2⟩ := hq
        simp only [] at hq1 hq2
        obtain ⟨q0, q1⟩ := first_at hq2 hx
        obtain ⟨p, hp⟩ := Int.eq_ofNat_of_zero_le q0
        rw [hp, Int.toNat_natCast] at q1
        have hge : pre.length + out.length ≤ p := by
          rcases hfin with hf | ⟨hf, ho', hr'⟩
          · omega
          · subst ho'
            subst hr'
            rcases Nat.lt_or_ge p pre.length with hlt | hge
            · rw [List.append_nil, List.getElem?_append_left hlt] at q1
              exact absurd hxa (hpre x (List.mem_of_getElem? q1))
            · simpa using hge
        rw [List.getElem?_append_right (by rw [List.length_append]; exact hge), List.getElem?_drop, List.length_append] at q1
        have := hinj _ _ _ q1 hax
        omega
      have hfind : findOff ⟨pre ++ out ++ a.drop fr, fin, more⟩ h 0 pre.length = some (pre.length : Int) := by
        unfold findOff wantedAt
        simp only [headN_zero, trimmedOf_zero, Int.natCast_zero, Int.add_zero]
        exact find_only (offsFrom_mem _ _ _ (by omega) (by push_cast; omega)) hok huni
      have hrm : roomB ⟨pre ++ out ++ a.drop fr, fin, more⟩ h.marks = true := by
        unfold roomB
        rw [decide_eq_true_eq]
        simp only [List.length_append, List.length_drop]
        omega
      have htry : tryOf ⟨pre ++ out ++ a.drop fr, fin, more⟩ h 0 pre.length = (doneAt ⟨pre ++ out ++ a.drop fr, fin, more⟩ h 0 pre.length, some (pre.length : Int)) := by
        unfold tryOf
        rw [tryFrom, trimmedOf_zero, if_pos hrm, hfind]
      have hst : doneAt ⟨pre ++ out ++ a.drop fr, fin, more⟩ h 0 pre.length = ⟨pre ++ (out ++ (a.drop fr).take (o - fr) ++ newOf h.marks) ++ a.drop (o + oldN h.marks), (pre.length : Int) + (out ++ (a.drop fr).take (o - fr) ++ newOf h.marks).length, more + newN h.marks - oldN h.marks⟩ := by
        unfold doneAt wantedAt
        simp only [headN_zero, trimmedOf_zero]
        have e1 : (h.old + more + ((0 : Nat) : Int) + (pre.length : Int)).toNat = pre.length + out.length + (o - fr) := by rw [Int.natCast_zero, Int.add_zero, hat, Int.toNat_natCast]
        rw [e1]
        congr 1
        · have t1 : (pre ++ out ++ a.drop fr).take (pre.length + out.length + (o - fr)) = pre ++ out ++ (a.drop fr).take (o - fr) := by
            rw [hlines, List.append_assoc, List.take_left' hpl]
          have t2 : (pre ++ out ++ a.drop fr).drop (pre.length + out.length + (o - fr) + oldN h.marks) = a.drop (o + oldN h.marks) := by
            rw [hlines, List.drop_left' (by rw [List.length_append, hpl, hon])]
          rw [t1, t2]
          simp [List.append_assoc]
        · rw [List.length_append, List.length_append, hgl, hnn]; push_cast; omega
      obtain ⟨fin', hnext⟩ := loose_moves pre a hpre hinj r (o + oldN h.marks) fr' _ out' (more + newN h.marks - oldN h.marks) _ (by omega) (by rw [List.length_append, List.length_append, hgl]; push_cast; omega)
        (by have := hk.2; rw [ho] at this; push_cast; exact this) hd (.inl rfl) (fun q hq => hne q (List.mem_cons_of_mem _ hq)) hroom
      refine ⟨fin', ?_⟩
      rw [looseGo, htry]
      simp only [hst, hnext, reduceCtorEq, if_false, Option.getD_some, List.map_cons]
    · rw [if_neg hs] at hd; cases hd
end Go.Proofs.Ytlflhehlbnbhgaa
