/-
  PARTS: THE PIECES OF A PATCH, ONE BEHIND THE OTHER, LEAD WHERE IT LEADS, in plain Lean.; HUNKS DONE AS NEAR AS MAY BE, in plain Lean (chapter 4, A2): what Loose answers.; THE WALKS of tree.at, Get, Drop, Put.; THE WALKS of tree.Drop, Put.; THE FAULTS OF Get, Drop, Put BY PLACES, in plain Lean.; WHAT IS PUT IS THERE, in plain Lean.; A FILE AT A TIME, in plain Lean (TopPieces): each change of a patch by itself.; THE LAW AlgebraSplits, walked.
-/
import Derived.Test.YtjiaidchcldocaaGreatDoorPg1
import Derived.Test.YtjiaidchcldocaaGreatDoorPg2
import Derived.Test.YtjiaidchcldocaaGreatDoorPg3
import Derived.Test.YtjiaidchcldocaaGreatDoorPg4
import Derived.Test.YtjiaidchcldocaaGreatDoorPg5
import Derived.Test.YtjiaidchcldocaaGreatDoorPg6
import Derived.Test.YtjiaidchcldocaaGreatDoorPg7
import Derived.Test.YtjiaidchcldocaaGreatDoorPg8
import Derived.Test.YtjiaidchcldocaaGreatDoorPg9
import Derived.Test.YtjiaidchcldocaaGreatDoorPg10
import Derived.Test.YtjiaidchcldocaaGreatDoorPg11
import Derived.Test.YtjiaidchcldocaaGreatDoorPg12
import Derived.Test.YtjiaidchcldocaaGreatDoorPg13
import Derived.Test.YtjiaidchcldocaaGreatDoorPg14
import Derived.Test.YtjiaidchcldocaaGreatDoorPg15
import Derived.Test.YtjiaidchcldocaaGreatDoorPg16
import Derived.Test.YtjiaidchcldocaaGreatDoorPg17
import Derived.Test.YtjiaidchcldocaaGreatDoorPg18
import Derived.Test.YtjiaidchcldocaaGreatDoorPg19
import Derived.Test.YtjiaidchcldocaaGreatDoorPg20
import Derived.Test.YtjiaidchcldocaaGreatDoorPg21
import Derived.Test.YtjiaidchcldocaaGreatDoorPg22
import Derived.Test.YtjiaidchcldocaaGreatDoorPg23
import Derived.Test.YtjiaidchcldocaaGreatDoorPg24
import Derived.Test.YtjiaidchcldocaaGreatDoorPg25
import Derived.Test.YtjiaidchcldocaaGreatDoorPg26
import Derived.Test.YtjiaidchcldocaaGreatDoorPg27
import Derived.Test.YtjiaidchcldocaaGreatDoorPg28
import Derived.Test.YtjiaidchcldocaaGreatDoorPg29
import Derived.Test.YtjiaidchcldocaaGreatDoorPg30
import Derived.Test.YtjiaidchcldocaaGreatDoorPg31
import Derived.Test.YtjiaidchcldocaaGreatDoorPg32
import Derived.Test.YtjiaidchcldocaaGreatDoorPg33
import Derived.Test.YtjiaidchcldocaaGreatDoorPg34
import Derived.Test.YtjiaidchcldocaaGreatDoorPg35
import Derived.Test.YtjiaidchcldocaaGreatDoorPg36
import Derived.Test.YtjiaidchcldocaaGreatDoorPg37
import Derived.Test.YtjiaidchcldocaaGreatDoorPg38
import Derived.Test.YtjiaidchcldocaaGreatDoorQj1
import Derived.Deep.RegionHeld3
set_option linter.unusedVariables false
set_option linter.unusedSimpArgs false
namespace Go.Proofs.YtjiaidchcldocaaGreatDoor

/-- piece by piece: each is done, or there is no room -/
def Good : List File → List (List Change) → List File → Prop
  | x, [], b => x = b
  | x, e :: r, b => (applyR x e).2.2 = 3 ∨ ((applyR x e).2.2 = 0 ∧ Good (applyR x e).1 r b)

theorem tree_read {a : List File} (ha : Tree a) {p : ByteArray} {l : List ByteArray} (h : look a p = some l) : linesFault l = 0 := by
  obtain ⟨x, hx, rfl, rfl⟩ := look_some h
  exact (fileFault_zero (ha.2.1 x hx)).2
theorem apply_one {x : List File} {c : Change} (hx : Tree x) (hc : changeFault c = 0) : applyR x [c] = if (stepOf (look x c.path) c).2 ≠ 0 then ([], 0, (stepOf (look x c.path) c).2) else if 8 < (setAt x c.path (stepOf (look x c.path) c).1).length then ([], 0, 3) else (setAt x c.path (stepOf (look x c.path) c).1, 0, 0) := by
  unfold applyR
  have hp : (patchFault [c]).2 = 0 := pcF_ok hc
  rw [if_neg (by rw [tree_iff.1 hx]; decide), if_neg (by rw [hp]; decide), applyGo]
  by_cases h : (stepOf (look x c.path) c).2 ≠ 0
  · rw [if_pos h, if_pos h, if_pos h]
  · rw [if_neg h, if_neg h, applyGo, if_neg (fun h => h rfl)]
theorem go_one {T b : List File} {c : Change} {r : List Change} {R : List (List Change)} {i k : Nat} (hT : Tree T) (hc : changeFault c = 0) (h : applyGo i T (c :: r) = (b, k, 0))
    (cont : Tree (setAt T c.path (stepOf (look T c.path) c).1) → applyGo (i + 1) (setAt T c.path (stepOf (look T c.path) c).1) r = (b, k, 0) → Good (setAt T c.path (stepOf (look T c.path) c).1) R b) : Good T ([c] :: R) b := by
  rw [applyGo] at h
  by_cases e : (stepOf (look T c.path) c).2 ≠ 0
  · rw [if_pos e] at h
    injection h with _ h
    injection h with _ h
    exact absurd h e
  · rw [if_neg e] at h
    have ha := apply_one hT hc
    rw [if_neg e] at ha
    by_cases h8 : 8 < (setAt T c.path (stepOf (look T c.path) c).1).length
    · rw [if_pos h8] at ha
      exact .inl (by rw [ha])
    · rw [if_neg h8] at ha
      have hz : (applyR T [c]).2.2 = 0 := by rw [ha]
      have ht := (apply_tree hz).2
      rw [ha] at ht
      refine .inr ⟨hz, ?_⟩
      rw [ha]
      exact cont ht h
theorem piece_stands {a out : List ByteArray} {fr : Nat} {h : Hunk} {more : Int} (hs : standsB a h.old (oldOf h.marks) = true) (h0 : (fr : Int) ≤ h.old) (hn : h.new = h.old + more) (ho : (out.length : Int) = fr + more) (hfr : fr ≤ a.length) :
    strictGo (out ++ a.drop fr) 0 0 [] [⟨h.new, h.new, h.marks⟩] = if 60 < ((out ++ (a.drop fr).take (h.old.toNat - fr) ++ newOf h.marks) ++ a.drop (h.old.toNat + oldN h.marks)).length then ([], 0, 3) else ((out ++ (a.drop fr).take (h.old.toNat - fr) ++ newOf h.marks) ++ a.drop (h.old.toNat + oldN h.marks), 0, 0) := by
  have eo : (oldOf h.marks).length = oldN h.marks := rfl
  unfold standsB at hs
  simp only [Bool.and_eq_true, decide_eq_true_eq] at hs
  obtain ⟨⟨s0, s1⟩, s2⟩ := hs
  obtain ⟨o, ho'⟩ : ∃ o : Nat, h.old = o := ⟨h.old.toNat, by omega⟩
  have hN : h.new.toNat = out.length + (o - fr) := by omega
  rw [ho'] at s0 s1 s2 h0 ⊢
  simp only [Int.toNat_natCast] at s2 ⊢
  have hd : (out ++ a.drop fr).drop (out.length + (o - fr)) = a.drop o := by
    rw [← List.drop_drop, List.drop_left, List.drop_drop, show fr + (o - fr) = o by omega]
  have ht : (out ++ a.drop fr).take (out.length + (o - fr)) = out ++ (a.drop fr).take (o - fr) := by
    rw [List.take_length_add_append]
  have hst : standsB (out ++ a.drop fr) h.new (oldOf h.marks) = true := by
    unfold standsB
    simp only [Bool.and_eq_true, decide_eq_true_eq]
    refine ⟨⟨by omega, ?_⟩, ?_⟩
    · rw [List.length_append, List.length_drop]; omega
    · rw [hN, hd]; exact s2
  have hd2 : (out ++ a.drop fr).drop (out.length + (o - fr) + oldN h.marks) = a.drop (o + oldN h.marks) := by
    rw [← List.drop_drop, hd, List.drop_drop]
  rw [strictGo]
  simp only
  rw [if_pos hst, strictGo, hN, List.drop_zero, Nat.sub_zero, List.nil_append, ht, hd2]
theorem set_same {x : List File} (hs : Sorted x) {p : ByteArray} {l : List ByteArray} (h : look x p = some l) : setAt x p (some l) = x := by
  refine sorted_ext (setAt_sorted hs (fun e => by cases e)) hs fun q => ?_
  rw [setAt_look hs (fun e => by cases e)]
  by_cases e : p = q
  · rw [if_pos e, ← e, h]
  · rw [if_neg e]
theorem set_set {x : List File} (hs : Sorted x) {p : ByteArray} {l m : List ByteArray} : setAt (setAt x p (some l)) p (some m) = setAt x p (some m) := by
  have h1 := setAt_sorted (y := some l) hs (p := p) (fun e => by cases e)
  refine sorted_ext (setAt_sorted h1 (fun e => by cases e)) (setAt_sorted hs (fun e => by cases e)) fun q => ?_
  rw [setAt_look h1 (fun e => by cases e), setAt_look hs (fun e => by cases e), setAt_look hs (fun e => by cases e)]
  by_cases e : p = q
  · rw [if_pos e, if_pos e]
  · rw [if_neg e, if_neg e, if_neg e]
theorem pcF_zero {e : List Change} (h : pcF e = 0) : ∀ c ∈ e, changeFault c = 0 := (patch_of h).2.1
theorem edit_go (a z : List ByteArray) (path : ByteArray) (b ZT : List File) (fr' : Nat) (out' : List ByteArray) (hz : z = out' ++ a.drop fr') (R : List (List Change)) (cont : Tree ZT → Good ZT R b) :
    ∀ (rest : List Hunk) (fr : Nat) (out : List ByteArray) (more : Int) (x : List File), Tree x → look x path = some (out ++ a.drop fr) → setAt x path (some z) = ZT → fr ≤ a.length → (out.length : Int) = fr + more → hOk fr more rest → doAll a fr out rest = some (fr', out') →
      (∀ e ∈ rest.map (hpieceOf 1 path), pcF e = 0) → Good x (rest.map (hpieceOf 1 path) ++ R) b
  | [], fr, out, more, x, hx, hl, hst, _, _, _, hd, _ => by
    rw [doAll] at hd
    injection hd with hd
    injection hd with h1 h2
    subst h1
    subst h2
    rw [← hz] at hl
    have e : x = ZT := by rw [← hst, set_same hx.2.2 hl]
    show Good x R b
    rw [e] at hx ⊢
    exact cont hx
  | h :: rest, fr, out, more, x, hx, hl, hst, hfr, ho, hk, hd, hp => by
    obtain ⟨k1, k2⟩ := hk
    obtain ⟨_, _, q1, q2, q3, q4, q5, q6⟩ := oneFault_zero k1
    rw [doAll] at hd
    by_cases hsd : standsB a h.old (oldOf h.marks) = true
    · rw [if_pos hsd] at hd
      have hpc := hp (hpieceOf 1 path h) (by rw [List.map_cons]; exact List.mem_cons_self ..)
      have hcf := pcF_zero hpc ⟨1, path, [⟨h.new, h.new, h.marks⟩]⟩ (List.mem_singleton.2 rfl)
      have hsg := piece_stands (more := more) hsd q5 q6 ho hfr
      have hlf := tree_read hx hl
      have hh0 := (changeFault_zero hcf).2.2.2.1
      have hstr : strict (out ++ a.drop fr) [⟨h.new, h.new, h.marks⟩] = if 60 < ((out ++ (a.drop fr).take (h.old.toNat - fr) ++ newOf h.marks) ++ a.drop (h.old.toNat + oldN h.marks)).length then ([], 0, 3) else ((out ++ (a.drop fr).take (h.old.toNat - fr) ++ newOf h.marks) ++ a.drop (h.old.toNat + oldN h.marks), 0, 0) := by
        unfold strict
        rw [if_neg (by rw [hlf]; decide), if_neg (by rw [show (hunksFault [(⟨h.new, h.new, h.marks⟩ : Hunk)]) = (0, 0) from hh0]; decide)]
        exact hsg
      have ha := apply_one hx hcf
      have hstep : stepOf (look x path) ⟨1, path, [⟨h.new, h.new, h.marks⟩]⟩ = if 60 < ((out ++ (a.drop fr).take (h.old.toNat - fr) ++ newOf h.marks) ++ a.drop (h.old.toNat + oldN h.marks)).length then (none, 3) else (some ((out ++ (a.drop fr).take (h.old.toNat - fr) ++ newOf h.marks) ++ a.drop (h.old.toNat + oldN h.marks)), 0) := by
        rw [hl]
        unfold stepOf
        rw [if_neg (fun e => by cases e.1), if_neg (fun e => by cases e.2)]
        show (if (strict (out ++ a.drop fr) [⟨h.new, h.new, h.marks⟩]).2.2 ≠ 0 then _ else _) = _
        rw [show (some (out ++ a.drop fr)).getD [] = out ++ a.drop fr from rfl, hstr]
        by_cases h60 : 60 < ((out ++ (a.drop fr).take (h.old.toNat - fr) ++ newOf h.marks) ++ a.drop (h.old.toNat + oldN h.marks)).length
        · rw [if_pos h60, if_pos h60]; rfl
        · rw [if_neg h60, if_neg h60]; rfl
      rw [show (⟨1, path, [⟨h.new, h.new, h.marks⟩]⟩ : Change).path = path from rfl, hstep] at ha
      rw [List.map_cons, List.cons_append]
      by_cases h60 : 60 < ((out ++ (a.drop fr).take (h.old.toNat - fr) ++ newOf h.marks) ++ a.drop (h.old.toNat + oldN h.marks)).length
      · rw [if_pos h60] at ha
        refine .inl ?_
        show (applyR x [⟨1, path, [⟨h.new, h.new, h.marks⟩]⟩]).2.2 = 3
        rw [ha]; rfl
      · rw [if_neg h60] at ha
        rw [if_neg (fun h => h rfl)] at ha
        generalize hy : (out ++ (a.drop fr).take (h.old.toNat - fr) ++ newOf h.marks) ++ a.drop (h.old.toNat + oldN h.marks) = y at ha
        by_cases h8 : 8 < (setAt x path (some y)).length
        · rw [if_pos h8] at ha
          refine .inl ?_
          show (applyR x [⟨1, path, [⟨h.new, h.new, h.marks⟩]⟩]).2.2 = 3
          rw [ha]
        · rw [if_neg h8] at ha
          have hzz : (applyR x (hpieceOf 1 path h)).2.2 = 0 := by
            show (applyR x [⟨1, path, [⟨h.new, h.new, h.marks⟩]⟩]).2.2 = 0
            rw [ha]
          have ht := (apply_tree hzz).2
          have ha1 : (applyR x (hpieceOf 1 path h)).1 = setAt x path (some y) := by
            show (applyR x [⟨1, path, [⟨h.new, h.new, h.marks⟩]⟩]).1 = _
            rw [ha]
          rw [ha1] at ht
          refine .inr ⟨hzz, ?_⟩
          rw [ha1]
          have hle : h.old.toNat + oldN h.marks ≤ a.length := by
            unfold standsB at hsd
            simp only [Bool.and_eq_true, decide_eq_true_eq] at hsd
            have := hsd.1.2
            have e1 : (oldOf h.marks).length = oldN h.marks := rfl
            omega
          have eo : ((h.old.toNat + oldN h.marks : Nat) : Int) = h.old + oldN h.marks := by omega
          refine edit_go a z path b ZT fr' out' hz R cont rest (h.old.toNat + oldN h.marks) (out ++ (a.drop fr).take (h.old.toNat - fr) ++ newOf h.marks) (more + newN h.marks - oldN h.marks) (setAt x path (some y)) ht ?_ ?_ hle ?_ (by rw [eo]; exact k2) hd (fun e he => hp e (by rw [List.map_cons]; exact List.mem_cons_of_mem _ he))
          · rw [setAt_look hx.2.2 (fun e => by cases e), if_pos rfl, hy]
          · rw [set_set hx.2.2]; exact hst
          · have e1 : (newOf h.marks).length = newN h.marks := rfl
            rw [List.length_append, List.length_append, List.length_take, List.length_drop, e1]
            omega
    · rw [if_neg hsd] at hd; cases hd
theorem wholeB_is {l : List Hunk} {s : Int} (h : wholeB l s = true) (hn : l ≠ []) : ∃ m, l = [⟨0, 0, m⟩] := by
  match l, hn with
  | [x], _ =>
    obtain ⟨o, n, mk⟩ := x
    have h' : (decide (o = 0) && decide (n = 0) && mk.all fun m => decide (m.sign = s)) = true := h
    simp only [Bool.and_eq_true, decide_eq_true_eq] at h'
    obtain ⟨⟨rfl, rfl⟩, _⟩ := h'
    exact ⟨mk, rfl⟩
  | _ :: _ :: _, _ => cases h
theorem good_go (b : List File) : ∀ (p : List Change) (T : List File) (i k : Nat), Tree T → (∀ c ∈ p, changeFault c = 0) → (∀ e ∈ pieces p, pcF e = 0) → applyGo i T p = (b, k, 0) → Good T (pieces p) b
  | [], T, i, k, _, _, _, h => by
    rw [applyGo] at h
    injection h with h _
  | c :: r, T, i, k, hT, hc, hp, h => by
    have hc0 := hc c (List.mem_cons_self ..)
    have e : pieces (c :: r) = piecesC c ++ pieces r := rfl
    have hpr : ∀ e ∈ pieces r, pcF e = 0 := fun x hx => hp x (by rw [e]; exact List.mem_append_right _ hx)
    have hcr : ∀ d ∈ r, changeFault d = 0 := fun d hd => hc d (List.mem_cons_of_mem _ hd)
    have cont : Tree (setAt T c.path (stepOf (look T c.path) c).1) → applyGo (i + 1) (setAt T c.path (stepOf (look T c.path) c).1) r = (b, k, 0) → Good (setAt T c.path (stepOf (look T c.path) c).1) (pieces r) b := fun h1 h2 => good_go b r _ (i + 1) k h1 hcr hpr h2
    obtain ⟨w1, w3, _, hh, hsh⟩ := changeFault_zero hc0
    by_cases h0 : c.hunks = []
    · have e1 : piecesC c = [[c]] := if_pos h0
      rw [e, e1]
      exact go_one hT hc0 h cont
    · have e1 : piecesC c = c.hunks.map (hpieceOf c.what c.path) := if_neg h0
      by_cases hw : c.what = 1
      · rw [e, e1, hw]
        rw [applyGo] at h
        by_cases hf : (stepOf (look T c.path) c).2 ≠ 0
        · rw [if_pos hf] at h
          injection h with _ h
          injection h with _ h
          exact absurd h hf
        · rw [if_neg hf] at h
          have hf0 : (stepOf (look T c.path) c).2 = 0 := by simpa using hf
          cases hl : look T c.path with
          | none =>
            rw [hl] at hf0
            unfold stepOf at hf0
            rw [if_neg (fun e => by cases e.2), if_pos ⟨by rw [hw]; decide, rfl⟩] at hf0
            cases hf0
          | some a =>
            have hs : (strict a c.hunks).2.2 = 0 ∧ stepOf (some a) c = (some (strict a c.hunks).1, 0) := by
              rw [hl] at hf0
              unfold stepOf at hf0 ⊢
              rw [if_neg (fun e => by rw [hw] at e; exact absurd e.1 (by decide)), if_neg (fun e => by cases e.2)] at hf0 ⊢
              by_cases hst : (strict a c.hunks).2.2 ≠ 0
              · rw [show (some a).getD [] = a from rfl, if_pos hst] at hf0
                exact absurd hf0 hst
              · rw [show (some a).getD [] = a from rfl, if_neg hst, if_neg (by rw [hw]; decide)]
                exact ⟨by simpa using hst, rfl⟩
            obtain ⟨z0, _, z2⟩ := strict_zero (a := a) (l := c.hunks) (y := (strict a c.hunks).1) (k := (strict a c.hunks).2.1) (Prod.ext rfl (Prod.ext rfl hs.1))
            obtain ⟨fr', out', d1, d2, _, _⟩ := strictGo_inv _ _ _ _ _ _ _ z2
            have hok := (hunksFault_zero (by rw [hh])).2
            rw [hl, hs.2] at h cont
            refine edit_go a (strict a c.hunks).1 c.path b (setAt T c.path (some (strict a c.hunks).1)) fr' out' d2 (pieces r) (fun ht => cont ht h) c.hunks 0 [] 0 T hT (by rw [hl]; rfl) rfl (Nat.zero_le _) (by simp) hok d1 (fun x hx => hp x ?_)
            rw [e, e1, hw]
            exact List.mem_append_left _ hx
      · have hsB : ∃ s, wholeB c.hunks s = true := by
          unfold shapeB at hsh
          by_cases h2 : c.what = 2
          · rw [if_pos h2] at hsh; exact ⟨_, hsh⟩
          · have h3 : c.what = 3 := by omega
            rw [if_neg h2, if_pos h3] at hsh; exact ⟨_, hsh⟩
        obtain ⟨s, hsB⟩ := hsB
        obtain ⟨mk, hmk⟩ := wholeB_is hsB h0
        have e2 : piecesC c = [[c]] := by
          rw [e1, hmk]
          show [hpieceOf c.what c.path ⟨0, 0, mk⟩] = [[c]]
          unfold hpieceOf
          obtain ⟨cw, cp, ch⟩ := c
          simp only at hmk
          subst hmk
          rfl
        rw [e, e2]
        exact go_one hT hc0 h cont
theorem first_mem {α : Type} {f : α → Int} {l : List α} (h : firstOf f l = 0) : ∀ x ∈ l, f x = 0 := (firstOf_zero f l).1 h
theorem split_good {t b : List File} {p : List Change} {k : Nat} (hs : splitPF p = 0) (h : applyR t p = (b, k, 0)) : Good t (pieces p) b := by
  obtain ⟨_, hT, hP, _, _, _⟩ := applyR_inv h
  have hf : firstOf pcF (pieces p) = 0 := by
    unfold splitPF at hs
    rwa [if_neg (by rw [patch_ok hP]; decide)] at hs
  unfold applyR at h
  rw [if_neg (by rw [tree_iff.1 hT]; decide), if_neg (by rw [patch_ok hP]; decide)] at h
  by_cases h1 : (applyGo 0 t p).2.2 ≠ 0
  · rw [if_pos h1] at h
    rw [h] at h1
    exact absurd rfl h1
  · rw [if_neg h1] at h
    by_cases h2 : 8 < (applyGo 0 t p).1.length
    · rw [if_pos h2] at h
      injection h with _ h
      injection h with _ h
      cases h
    · rw [if_neg h2] at h
      injection h with h _
      refine good_go b p t 0 (applyGo 0 t p).2.1 hT hP.2.1 (first_mem hf) ?_
      exact Prod.ext h (Prod.ext rfl (by simpa using h1))
/-- each piece is one change of one hunk at most -/
theorem pieces_shape {p : List Change} {e : List Change} (h : e ∈ pieces p) : ∃ c, e = [c] ∧ c.hunks.length ≤ 1 := by
  obtain ⟨c, _, hc⟩ := List.mem_flatMap.1 h
  unfold piecesC at hc
  by_cases h0 : c.hunks = []
  · rw [if_pos h0] at hc
    exact ⟨c, List.mem_singleton.1 hc, by rw [h0]; simp⟩
  · rw [if_neg h0] at hc
    obtain ⟨x, _, rfl⟩ := List.mem_map.1 hc
    exact ⟨_, rfl, by simp⟩
end Go.Proofs.YtjiaidchcldocaaGreatDoor
namespace Go.Proofs.YtjiaidchcldocaaGreatDoor

/-- how many kept marks stand at the beginning, at most so many -/
def headN : Nat → List Mark → Nat
  | 0, _ => 0
  | _ + 1, [] => 0
  | f + 1, m :: r => if m.sign = 32 then headN f r + 1 else 0
def trimTail (f : Nat) (r : List Mark) : List Mark := r.take (r.length - headN f r.reverse)
def trimmedOf (f : Nat) (s : List Mark) : List Mark := trimTail f (s.drop (headN f s))
/-- a file that is worked on -/
structure Loose where
  lines : List ByteArray
  fin : Int
  more : Int
def okAt (st : Loose) (at_ : Int) (old : List ByteArray) : Bool := decide (st.fin ≤ at_) && standsB st.lines at_ old
/-- by how much, nearest first -/
def offsFrom : Nat → Int → List Int
  | 0, _ => []
  | n + 1, d => -d :: d :: offsFrom n (d + 1)
def wantedAt (st : Loose) (h : Hunk) (f : Nat) : Int := h.old + st.more + headN f h.marks
def findOff (st : Loose) (h : Hunk) (f far : Nat) : Option Int :=
  (offsFrom (far + 1) 0).find? fun o => okAt st (wantedAt st h f + o) (oldOf (trimmedOf f h.marks))
def roomB (st : Loose) (t : List Mark) : Bool := decide ((st.lines.length : Int) - oldN t + newN t ≤ 60)
/-- from so many let go on: how many are, and by how much it is moved -/
def tryFrom (st : Loose) (h : Hunk) (far : Nat) : Nat → Nat → Option (Nat × Int)
  | 0, _ => none
  | n + 1, f =>
    if roomB st (trimmedOf f h.marks) then
      match findOff st h f far with
      | some o => some (f, o)
      | none => tryFrom st h far n (f + 1)
    else none
def doneAt (st : Loose) (h : Hunk) (f : Nat) (o : Int) : Loose :=
  let t := trimmedOf f h.marks
  let a := (wantedAt st h f + o).toNat
  ⟨st.lines.take a ++ newOf t ++ st.lines.drop (a + oldN t), a + newN t, st.more + newN t - oldN t⟩
def tryOf (st : Loose) (h : Hunk) (fuzz far : Nat) : Loose × Option Int :=
  match tryFrom st h far (fuzz + 1) 0 with
  | some (f, o) => (doneAt st h f o, some o)
  | none => (st, none)
def looseGo (fuzz far : Nat) : Loose → List Hunk → Loose × List Hunk × List Int
  | st, [] => (st, [], [])
  | st, h :: r =>
    let q := tryOf st h fuzz far
    let z := looseGo fuzz far q.1 r
    (z.1, (if q.2 = none then h :: z.2.1 else z.2.1), q.2.getD (-1000) :: z.2.2)
def looseFault (a : List ByteArray) (l : List Hunk) (fuzz far : Int) : Int :=
  if linesFault a ≠ 0 then linesFault a else if (hunksFault l).2 ≠ 0 then (hunksFault l).2 else if fuzz < 0 ∨ 3 < fuzz ∨ far < 0 ∨ 60 < far then 1 else 0
def looseOf (a : List ByteArray) (l : List Hunk) (fuzz far : Int) : List ByteArray × List Hunk × List Int :=
  let z := looseGo fuzz.toNat far.toNat ⟨a, 0, 0⟩ l
  (z.1.lines, z.2.1, z.2.2)
def looseR (a : List ByteArray) (l : List Hunk) (fuzz far : Int) : List ByteArray × List Hunk × List Int :=
  if looseFault a l fuzz far = 0 then looseOf a l fuzz far else ([], [], [])

theorem headN_zero (s : List Mark) : headN 0 s = 0 := by cases s <;> rfl
theorem trimmedOf_zero (s : List Mark) : trimmedOf 0 s = s := by
  unfold trimmedOf trimTail
  simp [headN_zero]
theorem headN_le : ∀ (f : Nat) (s : List Mark), headN f s ≤ s.length ∧ headN f s ≤ f
  | 0, s => by rw [headN_zero]; exact ⟨Nat.zero_le _, Nat.zero_le _⟩
  | f + 1, [] => by simp [headN]
  | f + 1, m :: r => by
    rw [headN]
    have := headN_le f r
    split
    · exact ⟨by simp; exact this.1, by omega⟩
    · exact ⟨Nat.zero_le _, Nat.zero_le _⟩
theorem offsFrom_le : ∀ (n : Nat) (d : Int) (x : Int), 0 ≤ d → x ∈ offsFrom n d → -(d + n - 1) ≤ x ∧ x ≤ d + n - 1
  | 0, d, x, _, h => by simp [offsFrom] at h
  | n + 1, d, x, h0, h => by
    simp only [offsFrom, List.mem_cons] at h
    rcases h with rfl | rfl | h
    · push_cast; omega
    · push_cast; omega
    · have := offsFrom_le n (d + 1) x (by omega) h
      push_cast; omega
theorem findOff_le {st : Loose} {h : Hunk} {f far : Nat} {o : Int} (e : findOff st h f far = some o) : -(far : Int) ≤ o ∧ o ≤ far ∧ okAt st (wantedAt st h f + o) (oldOf (trimmedOf f h.marks)) = true := by
  unfold findOff at e
  have h1 := List.mem_of_find?_eq_some e
  have h2 := List.find?_some e
  have := offsFrom_le _ _ _ (Int.le_refl 0) h1
  push_cast at this
  exact ⟨by omega, by omega, h2⟩
theorem tryFrom_some {st : Loose} {h : Hunk} {far : Nat} : ∀ (n f : Nat) {g : Nat} {o : Int}, tryFrom st h far n f = some (g, o) → f ≤ g ∧ g < f + n ∧ roomB st (trimmedOf g h.marks) = true ∧ findOff st h g far = some o
  | 0, _, _, _, e => by simp [tryFrom] at e
  | n + 1, f, g, o, e => by
    rw [tryFrom] at e
    by_cases hr : roomB st (trimmedOf f h.marks) = true
    · rw [if_pos hr] at e
      cases hf : findOff st h f far with
      | some o' =>
        rw [hf] at e
        simp only [Option.some.injEq, Prod.mk.injEq] at e
        obtain ⟨rfl, rfl⟩ := e
        exact ⟨Nat.le_refl _, by omega, hr, hf⟩
      | none =>
        rw [hf] at e
        obtain ⟨h1, h2, h3, h4⟩ := tryFrom_some n (f + 1) e
        exact ⟨by omega, by omega, h3, h4⟩
    · rw [if_neg hr] at e; cases e
theorem tryOf_off {st : Loose} {h : Hunk} {fuzz far : Nat} {o : Int} (e : (tryOf st h fuzz far).2 = some o) : -(far : Int) ≤ o ∧ o ≤ far := by
  unfold tryOf at e
  split at e
  · rename_i g o' hf
    simp only [Option.some.injEq] at e
    subst e
    obtain ⟨_, _, _, h4⟩ := tryFrom_some _ _ hf
    exact ⟨(findOff_le h4).1, (findOff_le h4).2.1⟩
  · cases e
theorem find_first {st : Loose} {h : Hunk} {far : Nat} (hok : okAt st (h.old + st.more) (oldOf h.marks) = true) : findOff st h 0 far = some 0 := by
  unfold findOff wantedAt
  rw [headN_zero, trimmedOf_zero, offsFrom]
  have : okAt st (h.old + st.more + (0 : Nat) + (-0)) (oldOf h.marks) = true := by
    rw [show h.old + st.more + ((0 : Nat) : Int) + (-0) = h.old + st.more by simp]
    exact hok
  simp only [List.find?_cons, this]
  rfl
theorem tryOf_exact {st : Loose} {h : Hunk} {fuzz far : Nat} (hok : okAt st (h.old + st.more) (oldOf h.marks) = true) (hroom : roomB st h.marks = true) : tryOf st h fuzz far = (doneAt st h 0 0, some 0) := by
  unfold tryOf
  rw [tryFrom, trimmedOf_zero, if_pos hroom, find_first hok]

theorem loose_exact (fuzz far : Nat) (a : List ByteArray) : ∀ (r : List Hunk) (fr fr' : Nat) (out out' : List ByteArray) (more : Int), fr ≤ a.length → more = (out.length : Int) - fr → hOk fr more r → doAll a fr out r = some (fr', out') →
    out.length + (a.length - fr) + (r.map fun h => newN h.marks).sum ≤ 60 →
    looseGo fuzz far ⟨out ++ a.drop fr, out.length, more⟩ r = (⟨out' ++ a.drop fr', out'.length, (out'.length : Int) - fr'⟩, [], r.map fun _ => 0)
  | [], fr, fr', out, out', more, h1, h2, _, hd, _ => by
    simp only [doAll, Option.some.injEq, Prod.mk.injEq] at hd
    obtain ⟨rfl, rfl⟩ := hd
    rw [looseGo, h2]; rfl
  | h :: r, fr, fr', out, out', more, h1, h2, hk, hd, hroom => by
    rw [doAll] at hd
    by_cases hs : standsB a h.old (oldOf h.marks) = true
    · rw [if_pos hs] at hd
      obtain ⟨z1, z2, z3, z4, z5, z6, z7, z8⟩ := oneFault_zero hk.1
      obtain ⟨s1, s2, s3⟩ := stands_split hs
      have hon : oldN h.marks = (oldOf h.marks).length := rfl
      have hnn : newN h.marks = (newOf h.marks).length := rfl
      obtain ⟨o, ho⟩ := Int.eq_ofNat_of_zero_le z3
      rw [ho, Int.toNat_natCast] at hd s2
      have hfo : fr ≤ o := by omega
      simp only [List.map_cons, List.sum_cons] at hroom
      have hgl : ((a.drop fr).take (o - fr)).length = o - fr := by rw [List.length_take, List.length_drop]; omega
      have hat : h.old + more = ((out.length + (o - fr) : Nat) : Int) := by omega
      have hsplit : a.drop fr = (a.drop fr).take (o - fr) ++ (oldOf h.marks ++ a.drop (o + oldN h.marks)) := by
        have e1 : a.drop o = oldOf h.marks ++ a.drop (o + oldN h.marks) := by
          rw [ho, Int.toNat_natCast] at s3
          conv => lhs; rw [s3]
          rw [List.append_assoc, List.drop_left' (by rw [List.length_take]; omega), hon]
        rw [← e1]
        conv => lhs; rw [← List.take_append_drop (o - fr) (a.drop fr), List.drop_drop, show fr + (o - fr) = o by omega]
      have hlines : out ++ a.drop fr = (out ++ (a.drop fr).take (o - fr)) ++ oldOf h.marks ++ a.drop (o + oldN h.marks) := by
        conv => lhs; rw [hsplit]
        simp [List.append_assoc]
      have hlen : (out ++ (a.drop fr).take (o - fr)).length = out.length + (o - fr) := by rw [List.length_append, hgl]
      have hok : okAt ⟨out ++ a.drop fr, out.length, more⟩ (h.old + more) (oldOf h.marks) = true := by
        unfold okAt
        rw [Bool.and_eq_true]
        refine ⟨by simp; omega, ?_⟩
        simp only []
        rw [hat, hlines, ← hlen]
        exact stands_mid _ _ _
      have hrm : roomB ⟨out ++ a.drop fr, out.length, more⟩ h.marks = true := by
        unfold roomB
        rw [decide_eq_true_eq]
        simp only [List.length_append, List.length_drop]
        omega
      have hst : doneAt ⟨out ++ a.drop fr, out.length, more⟩ h 0 0 = ⟨out ++ (a.drop fr).take (o - fr) ++ newOf h.marks ++ a.drop (o + oldN h.marks), (out ++ (a.drop fr).take (o - fr) ++ newOf h.marks).length, more + newN h.marks - oldN h.marks⟩ := by
        unfold doneAt wantedAt
        simp only [headN_zero, trimmedOf_zero]
        have e1 : (h.old + more + ((0 : Nat) : Int) + 0).toNat = out.length + (o - fr) := by rw [Int.add_zero, Int.natCast_zero, Int.add_zero, hat, Int.toNat_natCast]
        rw [e1]
        congr 1
        · have t1 : (out ++ a.drop fr).take (out.length + (o - fr)) = out ++ (a.drop fr).take (o - fr) := by
            rw [hlines, List.append_assoc, List.take_left' hlen]
          have t2 : (out ++ a.drop fr).drop (out.length + (o - fr) + oldN h.marks) = a.drop (o + oldN h.marks) := by
            rw [hlines, List.drop_left' (by rw [List.length_append, hlen, hon])]
          rw [t1, t2]
        · rw [List.length_append, hlen, hnn]; push_cast; rfl
      have hnext := loose_exact fuzz far a r (o + oldN h.marks) fr' _ out' (more + newN h.marks - oldN h.marks) (by omega) (by rw [List.length_append, List.length_append, hgl]; push_cast; omega)
        (by have := hk.2; rw [ho] at this; push_cast; exact this) hd (by rw [List.length_append, List.length_append, hgl]; omega)
      rw [looseGo, tryOf_exact hok hrm]
      simp only [hst, hnext, reduceCtorEq, if_false, Option.getD_some, List.map_cons]
    · rw [if_neg hs] at hd; cases hd
end Go.Proofs.YtjiaidchcldocaaGreatDoor
namespace Go.Proofs.YtjiaidchcldocaaGreatDoor
open Go.RowKit

def atFault (t : List File) (p : ByteArray) : Int := if (treeFault t).2 = 0 then pathFault p else (treeFault t).2
def atPos (t : List File) (p : ByteArray) : Int := if atFault t p = 0 then (posOf t p : Int) else 0
def atIs (t : List File) (p : ByteArray) : Bool := if atFault t p = 0 then isAt t p else false
def getFault (t : List File) (p : ByteArray) : Int := if atFault t p = 0 then (if isAt t p = true then 0 else 4) else atFault t p
def linesAt (t : List File) (p : ByteArray) : List ByteArray := ((t[posOf t p]?).map (·.lines)).getD []
def getR (t : List File) (p : ByteArray) : List ByteArray := if getFault t p = 0 then linesAt t p else []
def dropR (t : List File) (p : ByteArray) : List File := if getFault t p = 0 then dropAt t (posOf t p) else []
def putFault (t : List File) (f : File) : Int :=
  if atFault t f.path = 0 then (if linesFault f.lines = 0 then (if isAt t f.path = false ∧ t.length = 8 then 3 else 0) else linesFault f.lines) else atFault t f.path
def putR (t : List File) (f : File) : List File := if putFault t f = 0 then putAt t f else []
theorem isAt_get {t : List File} {p : ByteArray} (h : isAt t p = true) : ∃ x, t[posOf t p]? = some x ∧ x.path = p := by
  unfold isAt at h
  cases hx : t[posOf t p]? with
  | none => rw [hx] at h; cases h
  | some x =>
    rw [hx] at h
    simp only [Option.any_some, decide_eq_true_eq] at h
    exact ⟨x, rfl, h⟩

set_option maxHeartbeats 1000000 in
set_option maxRecDepth 100000 in
theorem tree_at_any (t : List File) (p : ByteArray) (v : Value) (w : World) (h : Rdv w Never v t) (m : Int) (hm : w.cell? ⟨1, 0, none⟩ = some (.int .i64 m)) :
    Calls Tryz.prog 91 #[v, .string p] w fun e w' => e = .returned (.tuple #[.int .i64 (atPos t p), .bool (atIs t p), errV (atFault t p)]) ∧ Chg Never w w' := by
  by_cases z : (treeFault t).2 = 0
  · have Z := Lib.hid z
    obtain ⟨hl8, _, hs, _⟩ := treeFault_zero z
    have HS := Lib.hid hs
    by_cases zp : pathFault p = 0
    · have HA : Hid (atFault t p = 0) := by unfold Hid atFault; rw [if_pos z, zp]
      have ZP := Lib.hid zp
      clear z zp hs
      go_enter Tryz.func91, Tryz.ntmps91
      go_wp2_with fail
      refine (tree_check_any t _ _ h m hm).mono ?_
      rintro e w1 ⟨rfl, hw⟩
      rw [Z.out, errV_zero]
      go_wp2_with fail
      refine (line_path_any p _ m (hw.cellNever hm)).mono ?_
      rintro e w2 ⟨rfl, hc2⟩
      have hw := hw.trans hc2
      clear hc2
      rw [ZP.out, errV_zero]
      go_wp2_with fail
      refine (treefind_any t p _ _ (h.never hw) HS.out (by omega)).mono ?_
      rintro e w3 ⟨rfl, hc3⟩
      have hw := hw.trans hc3
      clear hc3
      go_wp2_with fail
      go_ret3
      exact ⟨by rw [show atPos t p = posOf t p from if_pos HA.out, show atIs t p = isAt t p from if_pos HA.out, HA.out]; rfl, hw⟩
    · have HA : Hid (atFault t p = pathFault p) := if_pos z
      have ZP := Lib.hid zp
      clear z hs
      go_enter Tryz.func91, Tryz.ntmps91
      go_wp2_with fail
      refine (tree_check_any t _ _ h m hm).mono ?_
      rintro e w1 ⟨rfl, hw⟩
      rw [Z.out, errV_zero]
      go_wp2_with fail
      refine (line_path_any p _ m (hw.cellNever hm)).mono ?_
      rintro e w2 ⟨rfl, hc2⟩
      have hw := hw.trans hc2
      clear hc2
      rw [errV_pos zp]
      clear zp
      go_wp2_with fail
      go_ret3
      exact ⟨by rw [show atPos t p = 0 from if_neg (by rw [HA.out]; exact ZP.out), show atIs t p = false from if_neg (by rw [HA.out]; exact ZP.out), HA.out, errV_pos ZP.out]; rfl, hw⟩
  · have HA : Hid (atFault t p = (treeFault t).2) := if_neg z
    have Z := Lib.hid z
    go_enter Tryz.func91, Tryz.ntmps91
    go_wp2_with fail
    refine (tree_check_any t _ _ h m hm).mono ?_
    rintro e w1 ⟨rfl, hw⟩
    rw [errV_pos z]
    clear z
    go_wp2_with fail
    go_ret3
    exact ⟨by rw [show atPos t p = 0 from if_neg (by rw [HA.out]; exact Z.out), show atIs t p = false from if_neg (by rw [HA.out]; exact Z.out), HA.out, errV_pos Z.out]; rfl, hw⟩

set_option maxHeartbeats 1000000 in
set_option maxRecDepth 100000 in
theorem tree_get_any (t : List File) (p : ByteArray) (v : Value) (w : World) (h : Rdv w Never v t) (m : Int) (hm : w.cell? ⟨1, 0, none⟩ = some (.int .i64 m)) :
    Calls Tryz.prog 39 #[v, .string p] w fun e w' => ∃ r, e = .returned (.tuple #[r, errV (getFault t p)]) ∧ Chg Never w w' ∧ Rdv w' (Old w.heap.size) r (getR t p) := by
  obtain ⟨a, cap, rfl, h1, h2, _⟩ := rdv_slice h
  unfold maxLen at h2
  by_cases z : atFault t p = 0
  · have Z := Lib.hid z
    by_cases zi : isAt t p = true
    · have ZI := Lib.hid zi
      have HF : Hid (getFault t p = 0) := by unfold Hid getFault; rw [if_pos z, if_pos zi]
      have HR : Hid (getR t p = linesAt t p) := if_pos HF.out
      obtain ⟨x, hx, _⟩ := isAt_get zi
      have HL : Hid (linesAt t p = x.lines) := by unfold Hid linesAt; rw [hx]; rfl
      have hlt := (List.getElem?_eq_some_iff.1 hx).1
      have hz8 : (treeFault t).2 = 0 := by
        unfold atFault at z
        by_cases e : (treeFault t).2 = 0
        · exact e
        · rw [if_neg e] at z; exact absurd z e
      have hxl := linesFault_len (fileFault_zero ((treeFault_zero hz8).2.1 x (List.mem_of_getElem? hx))).2
      have HX := Lib.hid hx
      clear z zi hx hz8
      go_enter Tryz.func39, Tryz.ntmps39
      go_wp2_with fail
      refine (tree_at_any t p _ _ h m hm).mono ?_
      rintro e w1 ⟨rfl, hw⟩
      rw [show atPos t p = posOf t p from if_pos Z.out, show atIs t p = isAt t p from if_pos Z.out, Z.out, ZI.out, errV_zero]
      obtain ⟨_, _, hav, _, _, h3⟩ := rdv_slice (h.never hw)
      simp only [Value.slice.injEq, true_and] at hav
      obtain ⟨rfl, rfl⟩ := hav
      obtain ⟨b, off, lv, rfl, _, _, c0, c1, hps, hlv⟩ := elems_file h3 HX.out
      obtain ⟨la, lcap, rfl, _, _, _⟩ := rdv_slice hlv
      generalize posOf t p = k at hlt c0 c1 ⊢
      clear h3 c0
      go_wp2_with fail
      refine (clone_str Never x.lines _ _ hlv (by omega)).mono ?_
      rintro e w2 ⟨r2, rfl, hc2, hown2⟩
      obtain ⟨ra, rn, rc, rfl⟩ := own_isSlice hown2
      have hsz := hw.size
      have hr := hown2.rdv.sub (O' := Old w.heap.size) (fun j _ hj => Nat.lt_of_lt_of_le hj hsz)
      go_wp2_with fail
      go_ret2
      exact ⟨_, by rw [HF.out]; rfl, hw.trans hc2, by rw [HR.out, HL.out]; exact hr⟩
    · have ZI : Hid (isAt t p = false) := Bool.eq_false_iff.2 zi
      have HF : Hid (getFault t p = 4) := by unfold Hid getFault; rw [if_pos z, if_neg zi]
      have HR : Hid (getR t p = []) := if_neg (by rw [HF.out]; decide)
      clear z zi
      go_enter Tryz.func39, Tryz.ntmps39
      go_wp2_with fail
      refine (tree_at_any t p _ _ h m hm).mono ?_
      rintro e w1 ⟨rfl, hw⟩
      rw [show atPos t p = posOf t p from if_pos Z.out, show atIs t p = isAt t p from if_pos Z.out, Z.out, ZI.out, errV_zero]
      go_wp2_with fail
      go_ret2
      exact ⟨_, by rw [HF.out]; rfl, hw, by rw [HR.out]; exact rdv_nil _ _⟩
  · have Z := Lib.hid z
    have HF : Hid (getFault t p = atFault t p) := if_neg z
    have HR : Hid (getR t p = []) := if_neg (by rw [HF.out]; exact z)
    go_enter Tryz.func39, Tryz.ntmps39
    go_wp2_with fail
    refine (tree_at_any t p _ _ h m hm).mono ?_
    rintro e w1 ⟨rfl, hw⟩
    rw [show atPos t p = 0 from if_neg Z.out, show atIs t p = false from if_neg Z.out, errV_pos Z.out]
    clear z
    go_wp2_with fail
    go_ret2
    exact ⟨_, by rw [HF.out, errV_pos Z.out]; rfl, hw, by rw [HR.out]; exact rdv_nil _ _⟩
end Go.Proofs.YtjiaidchcldocaaGreatDoor
namespace Go.Proofs.YtjiaidchcldocaaGreatDoor
open Go.RowKit

theorem atFault_zero {t : List File} {p : ByteArray} (h : atFault t p = 0) : (treeFault t).2 = 0 ∧ pathFault p = 0 := by
  unfold atFault at h
  by_cases e : (treeFault t).2 = 0
  · rw [if_pos e] at h; exact ⟨e, h⟩
  · rw [if_neg e] at h; exact absurd h e
end Go.Proofs.YtjiaidchcldocaaGreatDoor
namespace Go.Proofs.YtjiaidchcldocaaGreatDoor

theorem putFault_zero {t : List File} {f : File} (h : putFault t f = 0) : atFault t f.path = 0 := by
  unfold putFault at h
  by_cases e : atFault t f.path = 0
  · exact e
  · rw [if_neg e] at h; exact absurd h e
end Go.Proofs.YtjiaidchcldocaaGreatDoor
namespace Go.Proofs.YtjiaidchcldocaaGreatDoor

theorem fileFault_is {f : File} (h1 : pathFault f.path = 0) (h2 : linesFault f.lines = 0) : fileFault f = 0 := by unfold fileFault; rw [if_pos h1, h2]
theorem putFault_parts {t : List File} {f : File} (h : putFault t f = 0) : Tree t ∧ fileFault f = 0 ∧ (isAt t f.path = false → t.length < 8) := by
  have ha := putFault_zero h
  unfold putFault at h
  rw [if_pos ha] at h
  by_cases e : linesFault f.lines = 0
  · rw [if_pos e] at h
    obtain ⟨z1, z2⟩ := atFault_zero ha
    have hT := tree_iff.2 z1
    refine ⟨hT, fileFault_is z2 e, fun hi => ?_⟩
    by_cases h8 : t.length = 8
    · rw [if_pos ⟨hi, h8⟩] at h; cases h
    · have := hT.1; omega
  · rw [if_neg e] at h; exact absurd h e
theorem putR_tree {t : List File} {f : File} (h : putFault t f = 0) : Tree (putR t f) := by
  obtain ⟨⟨t1, t2, t3⟩, hf, h8⟩ := putFault_parts h
  rw [putR, if_pos h]
  refine ⟨?_, ?_, putAt_sorted t3 f⟩
  · rw [putAt_len t3]
    by_cases e : isAt t f.path = true
    · rw [if_pos e]; exact t1
    · rw [if_neg e]; have := h8 (by simpa using e); omega
  · intro x hx
    rcases putAt_mem hx with rfl | hx
    · exact hf
    · exact t2 x hx
theorem getFault_look {t : List File} (h : Tree t) (p : ByteArray) : getFault t p = if pathFault p = 0 then (if (look t p).isSome = true then 0 else 4) else pathFault p := by
  unfold getFault atFault
  rw [if_pos (tree_iff.1 h), isAt_look h.2.2]
theorem getR_look {t : List File} (h : Tree t) {p : ByteArray} (hp : pathFault p = 0) : getR t p = (look t p).getD [] := by
  unfold getR
  rw [getFault_look h, if_pos hp]
  cases e : look t p with
  | none => rfl
  | some l =>
    rw [Option.isSome_some, if_pos rfl, if_pos rfl]
    unfold linesAt
    rcases posOf_look h.2.2 p with h' | h'
    · rw [h', e]
    · rw [isAt_look h.2.2, e] at h'; cases h'
/-- what the law asks behind put -/
theorem stays {t : List File} {f : File} (h : putFault t f = 0) :
    getFault (putR t f) f.path = 0 ∧ getR (putR t f) f.path = f.lines ∧ (treeFault (putR t f)).2 = 0 ∧ getFault (dropR (putR t f) f.path) f.path = 4 := by
  obtain ⟨hT, hf, h8⟩ := putFault_parts h
  have hX := putR_tree h
  have hp := (fileFault_zero hf).1
  have hl : look (putR t f) f.path = some f.lines := by rw [putR, if_pos h, putAt_look hT.2.2, if_pos rfl]
  have g0 : getFault (putR t f) f.path = 0 := by rw [getFault_look hX, if_pos hp, hl]; rfl
  have hi : isAt (putR t f) f.path = true := by rw [isAt_look hX.2.2, hl]; rfl
  refine ⟨g0, by rw [getR_look hX hp, hl]; rfl, tree_iff.1 hX, ?_⟩
  have hY : Tree (dropR (putR t f) f.path) := by
    rw [dropR, if_pos g0]
    refine ⟨?_, fun x hx => hX.2.1 x (dropAt_mem hx), dropAt_sorted hX.2.2 hi⟩
    have := dropAt_len hX.2.2 hi
    have := hX.1
    omega
  rw [getFault_look hY, if_pos hp, dropR, if_pos g0, dropAt_look hX.2.2 hi, if_pos rfl]; rfl
end Go.Proofs.YtjiaidchcldocaaGreatDoor
namespace Go.Proofs.YtjiaidchcldocaaGreatDoor

def onesOf (p : List Change) : List (List Change) := p.map fun c => [c]
theorem ones_go (b : List File) : ∀ (p : List Change) (T : List File) (i k : Nat), Tree T → (∀ c ∈ p, changeFault c = 0) → applyGo i T p = (b, k, 0) → Good T (onesOf p) b
  | [], T, i, k, _, _, h => by
    rw [applyGo] at h
    injection h with h _
  | c :: r, T, i, k, hT, hc, h => go_one hT (hc c (List.mem_cons_self ..)) h fun h1 h2 => ones_go b r _ (i + 1) k h1 (fun d hd => hc d (List.mem_cons_of_mem _ hd)) h2
theorem ones_good {t b : List File} {p : List Change} {k : Nat} (h : applyR t p = (b, k, 0)) : Good t (onesOf p) b := by
  obtain ⟨_, hT, hP, _, _, _⟩ := applyR_inv h
  unfold applyR at h
  rw [if_neg (by rw [tree_iff.1 hT]; decide), if_neg (by rw [patch_ok hP]; decide)] at h
  by_cases h1 : (applyGo 0 t p).2.2 ≠ 0
  · rw [if_pos h1] at h
    rw [h] at h1
    exact absurd rfl h1
  · rw [if_neg h1] at h
    by_cases h2 : 8 < (applyGo 0 t p).1.length
    · rw [if_pos h2] at h
      injection h with _ h
      injection h with _ h
      cases h
    · rw [if_neg h2] at h
      injection h with h _
      refine ones_go b p t 0 (applyGo 0 t p).2.1 hT hP.2.1 ?_
      exact Prod.ext h (Prod.ext rfl (by simpa using h1))
theorem ones_drop {p : List Change} {x b : List File} {k : Nat} {c : Change} (hx : p[k]? = some c) (h : Good x ((onesOf p).drop k) b) : (applyR x [c]).2.2 = 3 ∨ ((applyR x [c]).2.2 = 0 ∧ Good (applyR x [c]).1 ((onesOf p).drop (k + 1)) b) := by
  have e : (onesOf p).drop k = [c] :: (onesOf p).drop (k + 1) := drop_eq (by unfold onesOf; rw [List.getElem?_map, hx]; rfl)
  rw [e] at h
  exact h
theorem edit_mem {n : Int} {a b : List File} (ha : Tree a) (hb : Tree b) {c : Change} (hc : c ∈ diffL n a b) (h1 : c.what = 1) : ∃ x y, look a c.path = some x ∧ look b c.path = some y ∧ c.hunks = cutOf (script x y) n := by
  rw [← diff_same n ha.2.2 hb.2.2] at hc
  unfold refDiff at hc
  obtain ⟨f, _, hf⟩ := List.mem_flatMap.1 hc
  cases e1 : look a f.path with
  | none =>
    cases e2 : look b f.path with
    | none => rw [e1, e2] at hf; cases hf
    | some y =>
      rw [e1, e2] at hf
      rw [List.mem_singleton.1 hf] at h1
      cases h1
  | some x =>
    cases e2 : look b f.path with
    | none =>
      rw [e1, e2] at hf
      rw [List.mem_singleton.1 hf] at h1
      cases h1
    | some y =>
      rw [e1, e2] at hf
      by_cases hn : cutOf (script x y) n = []
      · rw [chg_none hn] at hf; cases hf
      · rw [chg_some hn] at hf
        rw [List.mem_singleton.1 hf]
        exact ⟨x, y, e1, e2, rfl⟩
theorem doAll_new (a : List ByteArray) : ∀ (r : List Hunk) (fr fr' : Nat) (out out' : List ByteArray), doAll a fr out r = some (fr', out') → out.length + (r.map fun h => newN h.marks).sum ≤ out'.length
  | [], fr, fr', out, out', h => by
    rw [doAll] at h
    injection h with h
    injection h with _ h
    rw [h]; simp
  | h :: r, fr, fr', out, out', e => by
    rw [doAll] at e
    split at e
    · have := doAll_new a r _ _ _ _ e
      have en : (newOf h.marks).length = newN h.marks := rfl
      rw [List.length_append, List.length_append, en] at this
      rw [List.map_cons, List.sum_cons]
      omega
    · cases e
theorem exact_new {a y : List ByteArray} {l : List Hunk} {k : Nat} {fuzz far : Int} (hs : strict a l = (y, k, 0)) (hroom : a.length + y.length ≤ 60) : (looseOf a l fuzz far).1 = y ∧ (looseOf a l fuzz far).2.1 = [] := by
  obtain ⟨_, z2, z3⟩ := strict_zero hs
  obtain ⟨fr, out, d1, d2, _, _⟩ := strictGo_inv a l 0 0 [] y k z3
  have hok := (hunksFault_zero (l := l) (by rw [z2])).2
  have hsum := doAll_new a l 0 fr [] out d1
  have hy : out.length ≤ y.length := by rw [d2, List.length_append]; omega
  have := loose_exact fuzz.toNat far.toNat a l 0 fr [] out 0 (Nat.zero_le _) (by simp) hok d1 (by simp only [List.length_nil] at hsum; simp; omega)
  unfold looseOf
  simp only [List.nil_append, List.drop_zero, List.length_nil, Int.natCast_zero] at this
  simp only [this, d2]
  exact ⟨trivial, trivial⟩
/-- what the law asks of an edit -/
theorem edit_done {n : Int} {a b : List File} (ha : Tree a) (hb : Tree b) (h0 : 0 ≤ n) (hn : n ≤ 1000) {c : Change} (hc : c ∈ diffL n a b) (h1 : c.what = 1) :
    ∃ x y, getFault a c.path = 0 ∧ getR a c.path = x ∧ getFault b c.path = 0 ∧ getR b c.path = y ∧ x.length ≤ 60 ∧ y.length ≤ 60 ∧ ∀ fuzz far : Int, looseFault x c.hunks fuzz far = 0 → x.length + y.length ≤ 60 → (looseR x c.hunks fuzz far).1 = y ∧ (looseR x c.hunks fuzz far).2.1 = [] := by
  obtain ⟨x, y, l1, l2, l3⟩ := edit_mem ha hb hc h1
  have hcf := (patch_of (by rw [patch_ok (diff_leads ha hb h0 hn).1])).2.1 c hc
  have hp : pathFault c.path = 0 := (changeFault_zero hcf).2.2.1
  refine ⟨x, y, by rw [getFault_look ha, if_pos hp, l1]; rfl, by rw [getR_look ha hp, l1]; rfl, by rw [getFault_look hb, if_pos hp, l2]; rfl, by rw [getR_look hb hp, l2]; rfl, linesFault_len (tree_read ha l1), linesFault_len (tree_read hb l2), fun fuzz far hf hr => ?_⟩
  have hs := (strict_cut (a := x) (b := y) (n := n) (checked_zero (tree_read ha l1) (tree_read hb l2)) h0 hn).2.1
  unfold looseR
  rw [if_pos hf, l3]
  exact exact_new hs hr
end Go.Proofs.YtjiaidchcldocaaGreatDoor
namespace Go.Proofs.YtjiaidchcldocaaGreatDoor
open Go.RowKit

theorem splitPR_ok {p : List Change} (h : splitPF p = 0) : splitPR p = pieces p := if_pos h
theorem elems_lists {w : World} {O : Nat → Prop} {a : Option Addr} {l : List (List Change)} (h : Elems w O a l) {i : Nat} {x : List Change} (hx : l[i]? = some x) :
    ∃ b off v, a = some ⟨b, off, none⟩ ∧ ¬ O b ∧ b < w.heap.size ∧ w.cell? ⟨b, off + i, none⟩ = some v ∧ Rdv w O v x := by
  obtain ⟨b, off, es, ha, hb, hcs, a', cap', rfl, h1, h2, h3⟩ := h i x hx
  refine ⟨b, off, _, ha, hb, hcs.lt (by simp), ?_, a', cap', rfl, h1, h2, h3⟩
  have := hcs 0 _ rfl
  simpa [Dat.n] using this
theorem good_drop {x b : List File} {L : List (List Change)} {i : Nat} {e : List Change} (hd : L.drop i = e :: L.drop (i + 1)) (h : Good x (L.drop i) b) : (applyR x e).2.2 = 3 ∨ ((applyR x e).2.2 = 0 ∧ Good (applyR x e).1 (L.drop (i + 1)) b) := by
  rw [hd] at h; exact h
end Go.Proofs.YtjiaidchcldocaaGreatDoor
