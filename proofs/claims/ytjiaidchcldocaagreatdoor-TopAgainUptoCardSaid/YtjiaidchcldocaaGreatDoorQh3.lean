/-
  PARTS: SENT AGAIN, EACH IS KNOWN, in plain Lean (TopAgain): texts of patches differ by more than what they cost alone; of a series with one less the choice is each with itself.; THE WALK of handstitchsame.Ints.; BITS OF SMALL NUMBERS at int. No program in sight.; THE WALK of match.least.
-/
import Derived.Test.YtjiaidchcldocaaGreatDoorPg1
import Derived.Test.YtjiaidchcldocaaGreatDoorPg2
import Derived.Test.YtjiaidchcldocaaGreatDoorPg3
import Derived.Test.YtjiaidchcldocaaGreatDoorPg4
import Derived.Test.YtjiaidchcldocaaGreatDoorPg5
import Derived.Test.YtjiaidchcldocaaGreatDoorPg6
import Derived.Test.YtjiaidchcldocaaGreatDoorPg7
import Derived.Test.YtjiaidchcldocaaGreatDoorPg8
import Derived.Test.YtjiaidchcldocaaGreatDoorPg9
import Derived.Test.YtjiaidchcldocaaGreatDoorPg10
import Derived.Test.YtjiaidchcldocaaGreatDoorPg11
import Derived.Test.YtjiaidchcldocaaGreatDoorPg12
import Derived.Test.YtjiaidchcldocaaGreatDoorPg13
import Derived.Test.YtjiaidchcldocaaGreatDoorPg14
import Derived.Test.YtjiaidchcldocaaGreatDoorPg15
import Derived.Test.YtjiaidchcldocaaGreatDoorPg16
import Derived.Test.YtjiaidchcldocaaGreatDoorPg17
import Derived.Test.YtjiaidchcldocaaGreatDoorPg18
import Derived.Test.YtjiaidchcldocaaGreatDoorPg19
import Derived.Test.YtjiaidchcldocaaGreatDoorPg20
import Derived.Test.YtjiaidchcldocaaGreatDoorPg21
import Derived.Test.YtjiaidchcldocaaGreatDoorPg22
import Derived.Test.YtjiaidchcldocaaGreatDoorPg23
import Derived.Test.YtjiaidchcldocaaGreatDoorPg24
import Derived.Test.YtjiaidchcldocaaGreatDoorPg25
import Derived.Test.YtjiaidchcldocaaGreatDoorPg26
import Derived.Test.YtjiaidchcldocaaGreatDoorPg27
import Derived.Test.YtjiaidchcldocaaGreatDoorPg28
import Derived.Test.YtjiaidchcldocaaGreatDoorPg29
import Derived.Test.YtjiaidchcldocaaGreatDoorPg30
import Derived.Test.YtjiaidchcldocaaGreatDoorPg31
import Derived.Test.YtjiaidchcldocaaGreatDoorPg32
import Derived.Test.YtjiaidchcldocaaGreatDoorPg33
import Derived.Test.YtjiaidchcldocaaGreatDoorPg34
import Derived.Test.YtjiaidchcldocaaGreatDoorPg35
import Derived.Test.YtjiaidchcldocaaGreatDoorPg36
import Derived.Test.YtjiaidchcldocaaGreatDoorPg37
import Derived.Test.YtjiaidchcldocaaGreatDoorPg38
import Derived.Test.YtjiaidchcldocaaGreatDoorQh2
import Derived.Laws.Entries
set_option linter.unusedVariables false
set_option linter.unusedSimpArgs false
namespace Go.Proofs.YtjiaidchcldocaaGreatDoor

theorem take_all (rest : List (List UInt8)) : ∀ (l hs : List Hunk), (∀ h ∈ l, HeadOk h) → takeU (linesU l ++ rest) hs 0 0 = takeU rest (hs ++ l) 0 0
  | [], hs, _ => by rw [List.append_nil]; rfl
  | h :: l, hs, hl => by
    have e : linesU (h :: l) = hunkL h ++ linesU l := rfl
    rw [e, List.append_assoc, take_hunk (hl h (List.mem_cons_self ..)), take_all rest l (hs ++ [h]) (fun k hk => hl k (List.mem_cons_of_mem _ hk)), List.append_assoc]
    rfl
theorem marks_nn : ∀ (l : List Hunk) (i : Nat) (fin more : Int), (hunksGo i fin more l).2 = 0 → ∀ h ∈ l, h.marks ≠ []
  | [], _, _, _, _, h, hh => by cases hh
  | k :: r, i, fin, more, e, h, hh => by
    rw [hunksGo] at e
    by_cases h0 : oneFault k fin more = 0
    · rw [if_pos h0] at e
      rcases List.mem_cons.1 hh with rfl | hh
      · intro q
        unfold oneFault at h0
        rw [q, if_neg (by decide : ¬ scriptFault [] ≠ 0), if_pos (by decide)] at h0
        cases h0
      · exact marks_nn r _ _ _ e h hh
    · rw [if_neg h0] at e
      exact absurd e h0
theorem hunks_ne {l : List Hunk} (e : (hunksFault l).2 = 0) : ∀ h ∈ l, h.marks ≠ [] := by
  unfold hunksFault at e
  by_cases h : 60 < l.length
  · rw [if_pos h] at e; cases e
  · rw [if_neg h] at e
    exact marks_nn l _ _ _ e
theorem linesG_head {d : Change} {q : List Change} : ∃ s r, linesG (d :: q) = s :: r ∧ hunkHead s = false := ⟨_, _, rfl, rfl⟩
theorem lines_more {x : List UInt8} : ∀ (q p : List Change), (∀ c ∈ p, changeFault c = 0) → (∀ c ∈ q, changeFault c = 0) → linesG p = linesG q ++ [x] → False
  | [], [], _, _, h => by cases h
  | [], c :: p, _, _, h => by
    have e : linesG (c :: p) = (mmL ++ fromL c.what c.path.data.toList) :: (ppL ++ toL c.what c.path.data.toList) :: (linesU c.hunks ++ linesG p) := rfl
    rw [e] at h
    injection h with _ h
    cases h
  | d :: q, [], _, _, h => by
    have := congrArg List.length h
    rw [List.length_append] at this
    simp [linesG] at this
  | d :: q, c :: p, hp, hq, h => by
    have e : linesG (c :: p) = (mmL ++ fromL c.what c.path.data.toList) :: (ppL ++ toL c.what c.path.data.toList) :: (linesU c.hunks ++ linesG p) := rfl
    have e2 : linesG (d :: q) = (mmL ++ fromL d.what d.path.data.toList) :: (ppL ++ toL d.what d.path.data.toList) :: (linesU d.hunks ++ linesG q) := rfl
    rw [e, e2, List.cons_append, List.cons_append, List.append_assoc] at h
    injection h with _ h
    injection h with _ h
    have hcf := change_ok (hp c (List.mem_cons_self ..))
    have hdf := change_ok (hq d (List.mem_cons_self ..))
    have hr : ∀ s r, linesG p = s :: r → hunkHead s = false := fun s r w => by
      cases p with
      | nil => cases w
      | cons d p =>
        have w' : (mmL ++ fromL d.what d.path.data.toList) :: _ = s :: r := w
        injection w' with w1 _
        rw [← w1]; rfl
    have t1 := take_hunks hr c.hunks [] (hunks_ok hcf.2.2).1
    rw [h, take_all _ d.hunks [] (hunks_ok hdf.2.2).1, List.nil_append, List.nil_append] at t1
    cases q with
    | nil =>
      rw [show linesG [] ++ [x] = [x] from rfl] at t1
      by_cases hh : hunkHead x = true
      · rw [takeU, if_pos (.inr hh)] at t1
        unfold readLine at t1
        rw [if_neg (by omega)] at t1
        cases eh : headOf x with
        | none => rw [eh] at t1; cases t1
        | some w =>
          obtain ⟨a, y, b, z⟩ := w
          rw [eh] at t1
          simp only at t1
          rw [takeU] at t1
          split at t1
          · cases t1
          · injection t1 with t1
            injection t1 with t1 t2
            exact hunks_ne hcf.2.2 ⟨a, b, []⟩ (by rw [← t1]; simp) rfl
      · rw [takeU, if_neg (by simp; simpa using hh)] at t1
        injection t1 with t1
        injection t1 with t1 t2
        exact lines_more [] p (fun c hc => hp c (List.mem_cons_of_mem _ hc)) (fun c hc => by cases hc) t2.symm
    | cons d2 q =>
      obtain ⟨s, r, es, hs⟩ := @linesG_head d2 q
      rw [es, List.cons_append, takeU, if_neg (by simp; simpa using hs)] at t1
      injection t1 with t1
      injection t1 with t1 t2
      exact lines_more (d2 :: q) p (fun c hc => hp c (List.mem_cons_of_mem _ hc)) (fun c hc => hq c (List.mem_cons_of_mem _ hc)) (by rw [es]; exact t2.symm)
theorem patch_every {p : List Change} (e : (patchFault p).2 = 0) : ∀ c ∈ p, changeFault c = 0 := by
  unfold patchFault at e
  by_cases h : 16 < p.length
  · rw [if_pos h] at e; cases e
  · rw [if_neg h] at e
    exact (patchGo_zero p 0 none e).1
theorem lines_inj {p q : List Change} (hp : (patchFault p).2 = 0) (hq : (patchFault q).2 = 0) (h : linesG p = linesG q) : p = q := by
  have a := git_back hp
  have b := git_back hq
  unfold textG at a b
  rw [h, b] at a
  injection a with a _
  exact a.symm
theorem again_toB {l : List (List UInt8)} : (l.map toB).map (fun s => s.data.toList) = l := by
  rw [List.map_map]
  conv => rhs; rw [← List.map_id l]
  refine List.map_congr_left fun x _ => ?_
  exact toB_data x
theorem diffZ_pre : ∀ (a b : List ByteArray), diffZ a b = 0 → b.length ≤ a.length → ∃ r, a = b ++ r
  | a, [], _, _ => ⟨a, rfl⟩
  | [], y :: b, _, h => by simp at h
  | x :: a, y :: b, h, hl => by
    rw [diffZ] at h
    by_cases e : x = y
    · obtain ⟨r, hr⟩ := diffZ_pre a b (by omega) (by simpa using hl)
      exact ⟨r, by rw [e, hr]; rfl⟩
    · rw [if_neg e] at h; omega
theorem alone_gap {c d : List Change} (hc : (patchFault c).2 = 0) (hd : (patchFault d).2 = 0) (hne : c ≠ d) : aloneN (rtextOf c) < diffN (rtextOf c) (rtextOf d) + aloneN (rtextOf d) := by
  have hab : rtextOf c ≠ rtextOf d := fun e => hne (lines_inj hc hd (by
    have := congrArg (List.map fun (s : ByteArray) => s.data.toList) e
    unfold rtextOf at this
    rwa [again_toB, again_toB] at this))
  have h0 : diffN (rtextOf c) (rtextOf d) ≠ 0 := fun e => hab (diffN_zero _ _ e)
  have h1 := diffN_eq (rtextOf c) (rtextOf d)
  have h2 : (rtextOf c).length = (rtextOf d).length + 1 → diffZ (rtextOf c) (rtextOf d) ≠ 0 := fun hl hz => by
    obtain ⟨r, hr⟩ := diffZ_pre _ _ hz (by omega)
    have hrl : r.length = 1 := by
      have := congrArg List.length hr
      rw [List.length_append] at this
      omega
    match r, hrl, hr with
    | [x], _, hr =>
      have := congrArg (List.map fun (s : ByteArray) => s.data.toList) hr
      unfold rtextOf at this
      rw [List.map_append, again_toB, again_toB] at this
      exact lines_more d c (patch_every hc) (patch_every hd) this
  unfold aloneN
  omega

def redSum (F : Nat → List Int) (u : Nat → Int) (v : Int → Int) : Nat → List Int → Int
  | _, [] => 0
  | r, k :: m => ((F r).getD k.toNat 0 - u r - v k) + redSum F u v (r + 1) m
theorem cost_pot {n : Nat} {F : Nat → List Int} {u : Nat → Int} {v : Int → Int} : ∀ (m : List Int) (r : Nat) (seen : List Int) (s t : Int), costGo n ((List.range' r m.length).map F) m seen s = some t →
    t = s + ((List.range' r m.length).map u).sum + (m.map v).sum + redSum F u v r m
  | [], r, seen, s, t, h => by
    rw [costGo] at h
    injection h with h
    simp [redSum, h]
  | k :: m, r, seen, s, t, h => by
    rw [List.length_cons, List.range'_succ, List.map_cons, costGo] at h
    split at h
    · cases h
    · have := cost_pot (u := u) (v := v) m (r + 1) _ _ _ h
      rw [List.length_cons, List.range'_succ, List.map_cons, List.map_cons, List.sum_cons, List.sum_cons, redSum, this]
      generalize (F r).getD k.toNat 0 = z
      omega
theorem cost_some {n : Nat} : ∀ (rows : List (List Int)) (m seen : List Int) (s : Int), rows.length = m.length → (∀ k ∈ m, 0 ≤ k ∧ k < n) → m.Nodup → (∀ k ∈ m, k ∉ seen) → ∃ t, costGo n rows m seen s = some t
  | _, [], seen, s, _, _, _, _ => ⟨s, by rw [costGo]⟩
  | [], _ :: _, _, _, h, _, _, _ => by simp at h
  | row :: rows, k :: m, seen, s, hl, hb, hn, hs => by
    rw [List.nodup_cons] at hn
    have hk := hb k (List.mem_cons_self ..)
    obtain ⟨t, ht⟩ := cost_some (n := n) rows m (seen ++ [k]) (s + row.getD k.toNat 0) (by simpa using hl) (fun j hj => hb j (List.mem_cons_of_mem _ hj)) hn.2 (fun j hj hq => by
      rcases List.mem_append.1 hq with hq | hq
      · exact hs j (List.mem_cons_of_mem _ hj) hq
      · rw [List.mem_singleton] at hq
        subst hq
        exact hn.1 hj)
    refine ⟨t, ?_⟩
    rw [costGo, if_neg, ht]
    rintro (q | q | q)
    · omega
    · omega
    · exact hs k (List.mem_cons_self ..) q
theorem red_pos {F : Nat → List Int} {u : Nat → Int} {v : Int → Int} : ∀ (m : List Int) (r : Nat), (∀ j k, m[j]? = some k → 0 ≤ (F (r + j)).getD k.toNat 0 - u (r + j) - v k) → 0 ≤ redSum F u v r m
  | [], _, _ => Int.le_refl _
  | k :: m, r, h => by
    have h0 := h 0 k rfl
    have h1 := red_pos m (r + 1) fun j k' hk => by
      have := h (j + 1) k' (by simpa using hk)
      rwa [show r + (j + 1) = r + 1 + j by omega] at this
    rw [Nat.add_zero] at h0
    rw [redSum]
    omega
theorem red_zero {F : Nat → List Int} {u : Nat → Int} {v : Int → Int} : ∀ (m : List Int) (r : Nat), (∀ j k, m[j]? = some k → 0 ≤ (F (r + j)).getD k.toNat 0 - u (r + j) - v k) → redSum F u v r m ≤ 0 →
    ∀ j k, m[j]? = some k → (F (r + j)).getD k.toNat 0 - u (r + j) - v k = 0
  | [], _, _, _, j, k, hk => by simp at hk
  | k :: m, r, h, hz, j, k', hk => by
    have h0 := h 0 k rfl
    have ht : ∀ j k', m[j]? = some k' → 0 ≤ (F (r + 1 + j)).getD k'.toNat 0 - u (r + 1 + j) - v k' := fun j k' hk => by
      have := h (j + 1) k' (by simpa using hk)
      rwa [show r + (j + 1) = r + 1 + j by omega] at this
    have h1 := red_pos m (r + 1) ht
    rw [Nat.add_zero] at h0
    rw [redSum] at hz
    cases j with
    | zero =>
      simp only [List.getElem?_cons_zero, Option.some.injEq] at hk
      subst hk
      rw [Nat.add_zero]
      omega
    | succ j =>
      rw [List.getElem?_cons_succ] at hk
      have := red_zero m (r + 1) ht (by omega) j k' hk
      rwa [show r + (j + 1) = r + 1 + j by omega]
theorem red_nil {F : Nat → List Int} {u : Nat → Int} {v : Int → Int} : ∀ (m : List Int) (r : Nat), (∀ j k, m[j]? = some k → (F (r + j)).getD k.toNat 0 - u (r + j) - v k = 0) → redSum F u v r m = 0
  | [], _, _ => rfl
  | k :: m, r, h => by
    have h0 := h 0 k rfl
    have h1 := red_nil m (r + 1) fun j k' hk => by
      have := h (j + 1) k' (by simpa using hk)
      rwa [show r + (j + 1) = r + 1 + j by omega] at this
    rw [Nat.add_zero] at h0
    rw [redSum]
    omega
theorem perm_of : ∀ {l r : List Int}, l.Nodup → (∀ x ∈ l, x ∈ r) → l.length = r.length → l.Perm r
  | [], r, _, _, h => by
    have : r = [] := List.eq_nil_of_length_eq_zero (by simpa using h.symm)
    rw [this]
  | x :: l, r, hn, hs, hl => by
    rw [List.nodup_cons] at hn
    have hx := hs x (List.mem_cons_self ..)
    have := List.length_pos_of_mem hx
    refine List.Perm.trans (List.Perm.cons x (perm_of (r := r.erase x) hn.2 (fun y hy => (List.mem_erase_of_ne (by rintro rfl; exact hn.1 hy)).2 (hs y (List.mem_cons_of_mem _ hy))) ?_)) (List.perm_cons_erase hx).symm
    rw [List.length_erase_of_mem hx]
    rw [List.length_cons] at hl
    omega
theorem perm_sum (v : Int → Int) {l r : List Int} (h : l.Perm r) : (l.map v).sum = (r.map v).sum := by
  induction h with
  | nil => rfl
  | cons x _ ih => rw [List.map_cons, List.map_cons, List.sum_cons, List.sum_cons, ih]
  | swap x y l => simp only [List.map_cons, List.sum_cons]; omega
  | trans _ _ h1 h2 => exact h1.trans h2

def potU (A : List (List ByteArray)) (r : Nat) : Int := match A[r]? with
  | some x => (aloneN x : Nat)
  | none => 0
def potV (B : List (List ByteArray)) (k : Int) : Int := match B[k.toNat]? with
  | some y => -((aloneN y : Nat) : Int)
  | none => 0
/-- the text at a place stands, where one is left out -/
def skipI (i c : Nat) : Nat := if c < i then c else c + 1
structure Again (A B : List (List ByteArray)) (i : Nat) : Prop where
  lt : i < A.length
  len : B.length + 1 = A.length
  at' : ∀ c, B[c]? = A[skipI i c]?
  only : ∀ (j k : Nat) (x : List ByteArray), A[j]? = some x → A[k]? = some x → j = k
  gap : ∀ x ∈ A, ∀ y ∈ A, x ≠ y → aloneN x < diffN x y + aloneN y
theorem red_is {A B : List (List ByteArray)} {i : Nat} (h : Again A B i) (r : Nat) (k : Int) :
    0 ≤ rangeCost A B r k.toNat - potU A r - potV B k ∧ (rangeCost A B r k.toNat - potU A r - potV B k = 0 → B[k.toNat]? = none ∨ (B[k.toNat]? ≠ none ∧ A[r]? = B[k.toNat]?)) ∧
      ((B[k.toNat]? = none ∨ A[r]? = B[k.toNat]?) → rangeCost A B r k.toNat - potU A r - potV B k = 0) := by
  unfold rangeCost potU potV
  cases ha : A[r]? with
  | none =>
    cases hb : B[k.toNat]? with
    | none => simp
    | some y => simp only [aloneN]; refine ⟨by omega, fun q => by omega, fun q => ?_⟩; rcases q with q | q <;> cases q
  | some x =>
    cases hb : B[k.toNat]? with
    | none => simp
    | some y =>
      have hx := List.mem_of_getElem? ha
      have hy : y ∈ A := by rw [h.at'] at hb; exact List.mem_of_getElem? hb
      simp only
      by_cases e : x = y
      · subst e
        rw [diffN_self]
        refine ⟨by omega, fun _ => .inr ⟨by simp, rfl⟩, fun _ => by omega⟩
      · have := h.gap x hx y hy e
        refine ⟨by omega, fun q => by omega, fun q => ?_⟩
        rcases q with q | q
        · cases q
        · injection q with q; exact absurd q e
def homeS (A : List (List ByteArray)) (i r : Nat) : Nat := if r < i then r else if r = i then A.length - 1 else if r < A.length then r - 1 else r
theorem row_at {A B : List (List ByteArray)} {r c : Nat} (hc : c < A.length + B.length) : (rowOf A B r).getD c 0 = rangeCost A B r c := by
  unfold rowOf
  rw [List.getD_eq_getElem?_getD, List.getElem?_map, List.getElem?_range hc]; rfl
theorem again_choice {A B : List (List ByteArray)} {i : Nat} (h : Again A B i) (ha : ∀ x ∈ A, x.length ≤ 99000) (hb : ∀ x ∈ B, x.length ≤ 99000) :
    ∀ (r : Nat) (k : Int), (chooseS (costsOf A B) (bitsOf (2 ^ (costsOf A B).length - 1)))[r]? = some k → B[k.toNat]? = none ∨ (B[k.toNat]? ≠ none ∧ A[r]? = B[k.toNat]?) := by
  have hC := choice_of ha hb
  have hq := (costs_bd ha hb).ok
  have hl := costs_len A B
  have hcc := @cost_choose (costsOf A B).length (costsOf A B) [] (bitsOf (2 ^ (costsOf A B).length - 1)) 0 hq cnt_all (fun k hk => by rw [bits_full]; simp [hk])
  generalize hm : chooseS (costsOf A B) (bitsOf (2 ^ (costsOf A B).length - 1)) = m at hC hcc ⊢
  have hlt := h.lt
  have hle := h.len
  have hinj : ∀ r r', r < A.length + B.length → r' < A.length + B.length → homeS A i r = homeS A i r' → r = r' := fun r r' h1 h2 e => by
    unfold homeS at e
    repeat' split at e
    all_goals omega
  have hhome : ∀ r, r < A.length + B.length → homeS A i r < A.length + B.length := fun r hr => by
    unfold homeS
    repeat' split
    all_goals omega
  have h0 : Choice (A.length + B.length) ((List.range (A.length + B.length)).map fun r => ((homeS A i r : Nat) : Int)) := by
    refine ⟨by simp, ?_, fun c hc => ?_⟩
    · unfold List.Nodup
      rw [List.pairwise_map]
      refine List.Pairwise.imp_of_mem ?_ List.nodup_range
      intro a b hma hmb hne e
      exact hne (hinj a b (List.mem_range.1 hma) (List.mem_range.1 hmb) (by omega))
    · obtain ⟨r, hr, rfl⟩ := List.mem_map.1 hc
      exact ⟨_, rfl, hhome r (List.mem_range.1 hr)⟩
  generalize hm0 : (List.range (A.length + B.length)).map (fun r => ((homeS A i r : Nat) : Int)) = m0 at h0
  have hat0 : ∀ (r : Nat) (k : Int), m0[r]? = some k → k = homeS A i r ∧ r < A.length + B.length := fun r k hk => by
    rw [← hm0, List.getElem?_map] at hk
    by_cases hr : r < A.length + B.length
    · rw [List.getElem?_range hr] at hk
      injection hk with hk
      exact ⟨hk.symm, hr⟩
    · rw [List.getElem?_eq_none (by simpa using hr)] at hk
      cases hk
  have hrows : ∀ m' : List Int, m'.length = A.length + B.length → costsOf A B = (List.range' 0 m'.length).map (rowOf A B) := fun m' e => by
    rw [e, ← List.range_eq_range']; rfl
  obtain ⟨t0, ht0⟩ := @cost_some (costsOf A B).length (costsOf A B) m0 [] 0 (by rw [hl, h0.len]) (fun k hk => by obtain ⟨j, rfl, hj⟩ := h0.mem k hk; rw [hl]; omega) h0.nodup (fun _ _ q => by cases q)
  have hge := cost_ge hq cnt_all (by rw [hl, h0.len]) (fun k hk => by rw [bits_full]; simp [hk]) ht0
  have e1 := cost_pot (n := (costsOf A B).length) (F := rowOf A B) (u := potU A) (v := potV B) m 0 [] 0 _ (by rw [← hrows m hC.len]; exact hcc)
  have e0 := cost_pot (n := (costsOf A B).length) (F := rowOf A B) (u := potU A) (v := potV B) m0 0 [] 0 _ (by rw [← hrows m0 h0.len]; exact ht0)
  have hred : ∀ m' : List Int, Choice (A.length + B.length) m' → ∀ j k, m'[j]? = some k → (rowOf A B (0 + j)).getD k.toNat 0 = rangeCost A B j k.toNat := fun m' hc j k hk => by
    obtain ⟨c, rfl, hcn⟩ := hc.mem k (List.mem_of_getElem? hk)
    rw [Nat.zero_add]
    exact row_at hcn
  have z0 : redSum (rowOf A B) (potU A) (potV B) 0 m0 = 0 := red_nil m0 0 fun j k hk => by
    rw [hred m0 h0 j k hk, Nat.zero_add]
    refine (red_is h j k).2.2 ?_
    obtain ⟨rfl, hj⟩ := hat0 j k hk
    rw [Int.toNat_natCast, h.at']
    unfold homeS skipI
    by_cases q1 : j < i
    · rw [if_pos q1, if_pos q1]; exact .inr rfl
    · rw [if_neg q1]
      by_cases q2 : j = i
      · rw [if_pos q2, if_neg (by omega)]
        exact .inl (List.getElem?_eq_none (by omega))
      · rw [if_neg q2]
        by_cases q3 : j < A.length
        · rw [if_pos q3, if_neg (by omega), show j - 1 + 1 = j by omega]; exact .inr rfl
        · rw [if_neg q3, if_neg (by omega)]
          exact .inl (List.getElem?_eq_none (by omega))
  have hp : m.Perm m0 := perm_of hC.nodup (fun x hx => by
    obtain ⟨k, rfl, hk⟩ := hC.mem x hx
    exact nodup_all h0.nodup h0.mem h0.len hk) (by rw [hC.len, h0.len])
  have hs := perm_sum (potV B) hp
  have hle1 : redSum (rowOf A B) (potU A) (potV B) 0 m ≤ 0 := by
    rw [hC.len] at e1
    rw [h0.len] at e0
    rw [hs] at e1
    generalize ((List.range' 0 (A.length + B.length)).map (potU A)).sum = a1 at e0 e1
    generalize (m0.map (potV B)).sum = a2 at e0 e1
    omega
  intro r k hk
  have hz := red_zero m 0 (fun j k hk => by rw [hred m hC j k hk, Nat.zero_add]; exact (red_is h j k).1) hle1 r k hk
  rw [hred m hC r k hk, Nat.zero_add] at hz
  exact (red_is h r k).2.1 hz
/-- where a place is told to be -/
def wantI (i j : Nat) : Int := if j = i then -1 else if i < j then (j : Int) - 1 else j
theorem again_out {A B : List (List ByteArray)} {i : Nat} (h : Again A B i) (ha : ∀ x ∈ A, x.length ≤ 99000) (hb : ∀ x ∈ B, x.length ≤ 99000) :
    rangeOut A.length B.length (chooseS (costsOf A B) (bitsOf (2 ^ (costsOf A B).length - 1))) = (List.range A.length).map fun (j : Nat) => ((j : Int), wantI i j) := by
  have hC := choice_of ha hb
  have hA := again_choice h ha hb
  generalize chooseS (costsOf A B) (bitsOf (2 ^ (costsOf A B).length - 1)) = m at hC hA ⊢
  have hlt := h.lt
  have hle := h.len
  have hin : ∀ c : Nat, c < B.length → B[c]? ≠ none := fun c hc q => by rw [List.getElem?_eq_none_iff] at q; omega
  have hown : ∀ (r : Nat) (c : Nat), c < B.length → m[r]? = some (c : Int) → r = skipI i c := fun r c hc hk => by
    rcases hA r c hk with q | ⟨_, q⟩
    · rw [Int.toNat_natCast] at q; exact absurd q (hin c hc)
    · rw [Int.toNat_natCast, h.at'] at q
      cases e : A[r]? with
      | none => rw [e] at q; exact absurd (by rw [h.at']; exact q.symm) (hin c hc)
      | some x => exact h.only r _ x e (by rw [← q]; exact e)
  unfold rangeOut
  have e2 : ((List.range B.length).filter fun (k : Nat) => decide ((k : Int) ∈ m.drop A.length)) = [] := by
    rw [List.filter_eq_nil_iff]
    intro c hc
    have hc := List.mem_range.1 hc
    simp only [decide_eq_true_eq]
    intro hm
    obtain ⟨j, hj⟩ := List.mem_iff_getElem?.1 hm
    rw [List.getElem?_drop] at hj
    have := hown _ c hc hj
    unfold skipI at this
    split at this <;> omega
  rw [e2, List.map_nil, List.append_nil]
  refine List.map_congr_left fun j hj => ?_
  have hj := List.mem_range.1 hj
  unfold firstsOf wantI
  congr 1
  have hg : m[j]? = some (m.getD j 0) := by rw [List.getD_eq_getElem?_getD, List.getElem?_eq_getElem (by rw [hC.len]; omega)]; rfl
  by_cases e : j = i
  · subst e
    rw [if_pos rfl]
    obtain ⟨k, hk, _⟩ := hC.mem _ (List.mem_of_getElem? hg)
    rw [hk] at hg ⊢
    rw [if_neg]
    intro q
    have := hown j k (by omega) hg
    unfold skipI at this
    split at this <;> omega
  · rw [if_neg e]
    obtain ⟨c, hc, hcb, hs⟩ : ∃ c : Nat, (if i < j then (j : Int) - 1 else (j : Int)) = c ∧ c < B.length ∧ skipI i c = j := by
      unfold skipI
      by_cases q : i < j
      · exact ⟨j - 1, by rw [if_pos q]; omega, by omega, by rw [if_neg (by omega)]; omega⟩
      · exact ⟨j, by rw [if_neg q], by omega, by rw [if_pos (by omega)]⟩
    rw [hc]
    obtain ⟨r, hr⟩ := List.mem_iff_getElem?.1 (nodup_all hC.nodup hC.mem hC.len (show c < A.length + B.length by omega))
    have := hown r c hcb hr
    rw [hs] at this
    subst this
    rw [hg] at hr
    injection hr with hr
    rw [hr, if_pos (by omega)]
theorem less_get {α : Type} (p : List α) (i c : Nat) (hi : i < p.length) : (p.take i ++ p.drop (i + 1))[c]? = p[skipI i c]? := by
  unfold skipI
  by_cases h : c < i
  · rw [if_pos h, List.getElem?_append_left (by rw [List.length_take]; omega), List.getElem?_take, if_pos h]
  · rw [if_neg h, List.getElem?_append_right (by rw [List.length_take]; omega), List.length_take, List.getElem?_drop]
    congr 1
    omega
/-- of a series of which no two patches are the same, with one less: each is with itself -/
theorem again_range {p : List (List Change)} {i : Nat} (hi : i < p.length) (h4 : p.length ≤ 4) (hf : ∀ c ∈ p, (patchFault c).2 = 0) (hl : ∀ c ∈ p, (rtextOf c).length ≤ 99000) (hd : ∀ (j k : Nat) (c : List Change), p[j]? = some c → p[k]? = some c → j = k) :
    rangeFault p (p.take i ++ p.drop (i + 1)) = 0 ∧ rangeL p (p.take i ++ p.drop (i + 1)) = (List.range p.length).map fun (j : Nat) => ((j : Int), wantI i j) := by
  have hsub : ∀ c ∈ p.take i ++ p.drop (i + 1), c ∈ p := fun c hc => by
    rcases List.mem_append.1 hc with hc | hc
    · exact List.mem_of_mem_take hc
    · exact List.mem_of_mem_drop hc
  have hll : (p.take i ++ p.drop (i + 1)).length + 1 = p.length := by rw [List.length_append, List.length_take, List.length_drop]; omega
  have hz : rangeFault p (p.take i ++ p.drop (i + 1)) = 0 := by
    unfold rangeFault
    rw [if_neg (by omega), firstOf_zero]
    intro c hc
    rcases List.mem_append.1 hc with hc | hc
    · exact hf c hc
    · exact hf c (hsub c hc)
  have hA : Again (p.map rtextOf) ((p.take i ++ p.drop (i + 1)).map rtextOf) i := by
    refine ⟨by rw [List.length_map]; exact hi, by rw [List.length_map, List.length_map]; exact hll, fun c => by rw [List.getElem?_map, List.getElem?_map, less_get p i c hi], ?_, ?_⟩
    · intro j k x hj hk
      rw [List.getElem?_map] at hj hk
      cases ej : p[j]? with
      | none => rw [ej] at hj; cases hj
      | some c =>
        cases ek : p[k]? with
        | none => rw [ek] at hk; cases hk
        | some d =>
          rw [ej] at hj
          rw [ek] at hk
          simp only [Option.map_some, Option.some.injEq] at hj hk
          have e : c = d := by
            by_cases e : c = d
            · exact e
            · have := alone_gap (hf c (List.mem_of_getElem? ej)) (hf d (List.mem_of_getElem? ek)) e
              rw [hj, hk, diffN_self] at this
              omega
          subst e
          exact hd j k c ej ek
    · intro x hx y hy hne
      obtain ⟨c, hc, rfl⟩ := List.mem_map.1 hx
      obtain ⟨d, hd, rfl⟩ := List.mem_map.1 hy
      exact alone_gap (hf c hc) (hf d hd) (fun e => hne (by rw [e]))
  refine ⟨hz, ?_⟩
  have h1 := again_out hA (fun x hx => by obtain ⟨c, hc, rfl⟩ := List.mem_map.1 hx; exact hl c hc) (fun x hx => by obtain ⟨c, hc, rfl⟩ := List.mem_map.1 hx; exact hl c (hsub c hc))
  rw [List.length_map, List.length_map] at h1
  unfold rangeL rangeM
  rw [if_pos hz, h1]
end Go.Proofs.YtjiaidchcldocaaGreatDoor
namespace Go.Proofs.YtjiaidchcldocaaGreatDoor
open Go.RowKit

theorem elems_ints {w : World} {O : Nat → Prop} {a : Option Addr} {l : List Int} (h : Elems w O a l) {i : Nat} {x : Int} (hx : l[i]? = some x) :
    ∃ b off, a = some ⟨b, off, none⟩ ∧ ¬ O b ∧ w.cell? ⟨b, off + i, none⟩ = some (.int .i64 x) ∧ I64 x := by
  obtain ⟨b, off, es, ha, hb, hc, rfl, hr⟩ := h i x hx
  refine ⟨b, off, ha, hb, ?_, hr⟩
  have := hc 0 _ rfl
  rw [show off + i * Dat.n Int + 0 = off + i by show off + i * 1 + 0 = _; omega] at this
  exact this
end Go.Proofs.YtjiaidchcldocaaGreatDoor
namespace Go.Proofs.YtjiaidchcldocaaGreatDoor
theorem bits_del64 : ∀ s : Nat, s < 256 → ∀ k : Nat, k < 8 → s.testBit k = true → bits .andNot .i64 (s : Int) ((2 ^ k : Nat) : Int) = ((s - 2 ^ k : Nat) : Int) := by decide +kernel
theorem bits_low64 : ∀ s : Nat, s < 256 → 0 < s → bits .and .i64 (s : Int) ((s : Int) - 1) = ((s &&& (s - 1) : Nat) : Int) := by decide +kernel
theorem bits_at64 : ∀ s : Nat, s < 256 → ∀ k : Nat, k < 8 → (bits .and .i64 ((s : Int) / 2 ^ k) 1 == 1) = s.testBit k := by decide +kernel
end Go.Proofs.YtjiaidchcldocaaGreatDoor
namespace Go.Proofs.YtjiaidchcldocaaGreatDoor
open Go.RowKit

def FOk (rows : List (List Int)) (F : Int → Int) (s : Nat) : Prop := ∀ t : Nat, t < s → F t = bestN rows t
theorem pow_wrap {n : Nat} (h : n ≤ 8) : wrap64 ((2 : Int) ^ n) = ((2 ^ n : Nat) : Int) := by
  have : 2 ^ n ≤ 256 := Nat.pow_le_pow_right (n := 2) (by decide) h
  have e : ((2 : Int) ^ n) = ((2 ^ n : Nat) : Int) := by rw [Int.natCast_pow]; rfl
  rw [e]
  generalize 2 ^ n = m at this
  unfold wrap64
  omega

theorem del_step {l : List (List Int)} {F : Int → Int} {s k rr : Nat} (hq : SqBd l.length l) (hn : l.length ≤ 8) (hs : s < 2 ^ l.length) (hk : k < 8) (hb : s.testBit k = true) (hr : rr + cntN s = l.length) (hF : ∀ d : Nat, d < s → F d = bestN l d) :
    ∃ d : Nat, d < s ∧ bits .andNot .i64 (s : Int) (wrap64 (2 ^ k)) = (d : Int) ∧ F d = bestS (l.drop (rr + 1)) (delC (bitsOf s) k) ∧ 0 ≤ F d ∧ F d ≤ 800000 ∧ s - 2 ^ k = d := by
  have h256 := pow_small hs hn
  have hbo : bitsOf s k = true := hb
  obtain ⟨_, h2⟩ := cntN_del h256 hk hbo
  have hp := Nat.two_pow_pos k
  have hd : s - 2 ^ k < s := by omega
  have hbd := bestN_bd hq hn (s := s - 2 ^ k) (by omega)
  have e := hF _ hd
  refine ⟨s - 2 ^ k, hd, ?_, ?_, ?_, ?_, rfl⟩
  · rw [pow_wrap (n := k) (by omega)]
    exact bits_del64 s h256 k hk hb
  · rw [e, bestN_del h256 hk hbo hr]
  · rw [e]; exact hbd.1
  · rw [e]; exact hbd.2

set_option maxHeartbeats 1000000 in
set_option maxRecDepth 100000 in
theorem least_any (l : List (List Int)) (v : Value) (w : World) (h : Rdv w Never v l) (hn : l.length ≤ 8) (hq : SqBd l.length l) :
    Calls Tryz.prog 134 #[v] w fun e w' => ∃ b F, e = .returned (.map (some b)) ∧ Chg Never w w' ∧ w.heap.size ≤ b ∧ IntMap w' b 256 F ∧ FOk l F (2 ^ l.length) := by
  obtain ⟨a, cap, rfl, h1, h2, h3⟩ := rdv_slice h
  unfold maxLen at h2
  have hmm := @run_makeMap Tryz.prog
  have hp1 : 1 ≤ 2 ^ l.length := Nat.two_pow_pos _
  have hp2 : 2 ^ l.length ≤ 256 := Nat.pow_le_pow_right (n := 2) (by decide) hn
  obtain ⟨w1, hrun, hm1, hc1⟩ := (intMap_made w).put (j := 0) (c := 0) (by decide) (by unfold I64; omega) (by unfold I64; omega)
  go_enter Tryz.func134, Tryz.ntmps134
  have hA : Chg Never w w1 := ((Chg.refl Never w).alloc _).trans' hc1 (fun k hk hh => by subst hh; exact absurd hk (Nat.lt_irrefl _))
  have hF1 : Hid (FOk l (fun i => if i = 0 then 0 else (fun _ => 0) i) 1) := fun t ht => by
    obtain rfl : t = 0 := by omega
    rw [bestN_zero]; rfl
  generalize (fun i : Int => if i = 0 then (0 : Int) else (fun _ => 0) i) = F1 at hm1 hF1
  have hm1 := hm1.mono (n' := 1) (by decide)
  go_wp2_with fail
  clear hc1 hmm hrun
  go_loopw [5] (fun i wr => ∃ (s : Nat) (F : Int → Int), 1 ≤ s ∧ s ≤ 2 ^ l.length ∧ i = .int .i64 s ∧ Chg Never w wr ∧ IntMap wr w.heap.size s F ∧ Hid (FOk l F s)) (fun i _ => 256 - (intOf i).toNat)
  case atStart => exact ⟨1, F1, by omega, by omega, rfl, hA, hm1, hF1⟩
  case round =>
    obtain ⟨s, F, hs1, hs2, rfl, hw, hm, hF⟩ := hrel
    have hpw := pow_wrap hn
    by_cases hlt : s < 2 ^ l.length
    · have hs256 : s < 256 := by omega
      have t1 : decide ((s : Int) < wrap64 (2 ^ l.length)) = true := by rw [hpw]; exact decide_eq_true (by omega)
      clear hpw
      go_wp2_with fail
      go_loop [6, 7] (fun r t => ∃ (rr tt : Nat), r = .int .i64 rr ∧ t = .int .i64 tt ∧ tt ≤ s ∧ rr ≤ l.length ∧ Hid (rr + cntN s = l.length + cntN tt)) (fun _ t => (intOf t).toNat)
      case atStart => exact ⟨l.length, s, rfl, rfl, Nat.le_refl _, Nat.le_refl _, rfl⟩
      case round =>
        obtain ⟨rr, tt, rfl, rfl, hts, hrn, hrt⟩ := hrel
        by_cases ht0 : 0 < tt
        · have t2 : decide (0 < (tt : Int)) = true := decide_eq_true (by omega)
          have hlow := bits_low64 tt (by omega) ht0
          have hcl := cntN_low (s := tt) (by omega) ht0
          have hr1 : 1 ≤ rr := by have := hrt.out; have := cntN_le hlt hn; omega
          have hw1 : wrap64 ((rr : Int) - 1) = ((rr - 1 : Nat) : Int) := by unfold wrap64; omega
          go_wp2_with fail
          go_round
          case rel => exact ⟨rr - 1, tt &&& (tt - 1), by congr 1; omega, by first | rfl | assumption, by omega, by omega, by have := hrt.out; unfold Hid; omega⟩
          case measure => simp [intOf]; omega
        · obtain rfl : tt = 0 := by omega
          have hcs := cntN_le hlt hn
          have hcp := cntN_pos hs256 hs1
          have hrs : rr + cntN s = l.length := by have := hrt.out; rw [cntN_zero] at this; exact this
          have hrl : rr < l.length := by omega
          clear hrt
          obtain ⟨x, hx⟩ : ∃ x, l[rr]? = some x := ⟨l[rr], by simp [hrl]⟩
          have hxl : x.length = l.length := (hq x (List.mem_of_getElem? hx)).1
          obtain ⟨b, off, xv, rfl, _, _, hcx, hxr⟩ := elems_row h3 hx
          have hcx := hw.cellNever hcx
          have hxr := hxr.never hw
          clear h3 h
          obtain ⟨a', cap', rfl, g1, g2, g3⟩ := rdv_slice hxr
          unfold maxLen at g2
          clear hxr
          have HX := Lib.hid hx
          have HS := Lib.hid hrs
          have HL := Lib.hid hxl
          clear hx hrs hxl hcs hcp
          go_wp2_with fail
          go_loopw [8, 32] (fun be i wx => ∃ k : Nat, k ≤ l.length ∧ i = .int .i64 k ∧ be = .int .i64 (minGo (fun k => x.getD k 0 + bestS (l.drop (rr + 1)) (delC (bitsOf s) k)) (bitsOf s) k) ∧ Chg Never wr wx) (fun _ i _ => l.length - (intOf i).toNat)
          case atStart => exact ⟨0, Nat.zero_le _, rfl, rfl, Chg.refl _ _⟩
          case round =>
            obtain ⟨k, hk, rfl, rfl, hwx⟩ := hrel
            rename World => wx
            by_cases hkl : k < l.length
            · have hbt := bits_at64 s hs256 k (by omega)
              cases hb : s.testBit k with
              | false =>
                have HM : Hid (minGo (fun k => x.getD k 0 + bestS (l.drop (rr + 1)) (delC (bitsOf s) k)) (bitsOf s) (k + 1) = minGo (fun k => x.getD k 0 + bestS (l.drop (rr + 1)) (delC (bitsOf s) k)) (bitsOf s) k) := by
                  rw [Hid, minGo, if_neg]
                  rintro ⟨q, _⟩
                  unfold bitsOf at q
                  rw [hb] at q; cases q
                rw [hb] at hbt
                clear hb
                go_wp2_with fail
                go_roundw
                case rel => exact ⟨k + 1, by omega, by go_num, by rw [HM.out], hwx⟩
                case measure => simp [intOf]; omega
              | true =>
                rw [hb] at hbt
                have hbo : bitsOf s k = true := hb
                obtain ⟨d, hds, hdl, hFd, hF0, hF8, _⟩ := del_step hq hn hlt (by omega) hb HS.out hF.out
                have hlk : ∀ q, (Instr.lookup 163 (.map (some w.heap.size)) (.int .i64 (d : Int)) false).run Tryz.prog (wx.drewN q) = .ok (.int .i64 (F d)) (wx.drewN q) := fun q => (hm.keep (hwx.drewN q) (fun q => q)).look (j := (d : Int)) (by unfold I64; omega)
                obtain ⟨y, hy⟩ : ∃ y, x[k]? = some y := ⟨x[k]'(by rw [HL.out]; exact hkl), by simp [HL.out ▸ hkl]⟩
                obtain ⟨b', off', rfl, _, hcy, hyi⟩ := elems_ints g3 hy
                have hcx := hwx.cellNever hcx
                have hcy := hwx.cellNever hcy
                have hyb := (hq x (List.mem_of_getElem? HX.out)).2 y (List.mem_of_getElem? hy)
                have hyd : x.getD k 0 = y := by rw [List.getD_eq_getElem?_getD, hy]; rfl
                have hkx : k < x.length := by rw [HL.out]; exact hkl
                have HY := Lib.hid hyd
                have HB := Lib.hid hbo
                have HF := Lib.hid hFd
                clear g3 hy hyd hbo hb hFd
                obtain ⟨m, hmm⟩ : ∃ m, minGo (fun k => x.getD k 0 + bestS (l.drop (rr + 1)) (delC (bitsOf s) k)) (bitsOf s) k = m := ⟨_, rfl⟩
                have HM := Lib.hid hmm
                rw [hmm]
                clear hmm
                have hsum : wrap64 (y + F d) = y + F d := by unfold wrap64; omega
                by_cases hm0 : m < 0
                · have HN : Hid (minGo (fun k => x.getD k 0 + bestS (l.drop (rr + 1)) (delC (bitsOf s) k)) (bitsOf s) (k + 1) = y + F d) := by
                    rw [Hid, minGo, if_pos ⟨HB.out, .inl (by rw [HM.out]; exact hm0)⟩, HY.out, HF.out]
                  go_wp2_with fail
                  go_quiet (fail)
                  go_wp2_with fail
                  go_roundw
                  case rel => exact ⟨k + 1, by omega, by go_num, by rw [HN.out], hwx.drewN _⟩
                  case measure => simp [intOf]; omega
                · by_cases hlm : y + F d < m
                  · have HN : Hid (minGo (fun k => x.getD k 0 + bestS (l.drop (rr + 1)) (delC (bitsOf s) k)) (bitsOf s) (k + 1) = y + F d) := by
                      rw [Hid, minGo, if_pos ⟨HB.out, .inr (by rw [HM.out, HY.out, ← HF.out]; exact hlm)⟩, HY.out, HF.out]
                    go_wp2_with fail
                    go_quiet (fail)
                    go_wp2_with fail
                    go_roundw
                    case rel => exact ⟨k + 1, by omega, by go_num, by rw [HN.out], hwx.drewN _⟩
                    case measure => simp [intOf]; omega
                  · have HN : Hid (minGo (fun k => x.getD k 0 + bestS (l.drop (rr + 1)) (delC (bitsOf s) k)) (bitsOf s) (k + 1) = m) := by
                      rw [Hid, minGo, if_neg, HM.out]
                      rw [HM.out, HY.out, ← HF.out]
                      rintro ⟨_, q | q⟩
                      · exact hm0 q
                      · exact hlm q
                    go_wp2_with fail
                    go_quiet (fail)
                    go_wp2_with fail
                    go_roundw
                    case rel => exact ⟨k + 1, by omega, by go_num, by rw [HN.out], hwx.drewN _⟩
                    case measure => simp [intOf]; omega
            · obtain rfl : k = x.length := by have := HL.out; omega
              have HV : Hid (bestN l s = minGo (fun k => x.getD k 0 + bestS (l.drop (rr + 1)) (delC (bitsOf s) k)) (bitsOf s) x.length) := bestN_step HS.out HX.out
              have hbd := bestN_bd hq hn hlt
              rw [← HV.out]
              have hmx := hm.keep hwx (fun q => q)
              obtain ⟨w2, hrun, hm2, hc2⟩ := hmx.put (j := (s : Int)) (c := bestN l s) (by unfold maxLen; omega) (by unfold I64; omega) (by unfold I64; omega)
              have hw2 : Chg Never w w2 := (hw.trans hwx).trans' hc2 (fun k hk hh => by subst hh; exact absurd hk (Nat.lt_irrefl _))
              have hF2 : Hid (FOk l (fun i => if i = (s : Int) then bestN l s else F i) (s + 1)) := fun t ht => by
                by_cases e : t = s
                · subst e; exact if_pos rfl
                · show (if (t : Int) = s then _ else _) = _
                  rw [if_neg (by omega)]
                  exact hF.out t (by omega)
              clear HV hc2 hmx
              go_wp2_with fail
              go_roundw
              case rel => exact ⟨s + 1, _, by omega, by omega, by go_num, hw2, hm2, hF2⟩
              case measure => simp [intOf]; omega
    · have t1 : decide ((s : Int) < wrap64 (2 ^ l.length)) = false := by rw [hpw]; exact decide_eq_false (by omega)
      clear hpw
      go_wp2_with fail
      go_ret
      refine ⟨_, F, rfl, hw, Nat.le_refl _, hm.mono (by omega), ?_⟩
      rw [show 2 ^ l.length = s by omega]
      exact hF.out
end Go.Proofs.YtjiaidchcldocaaGreatDoor
