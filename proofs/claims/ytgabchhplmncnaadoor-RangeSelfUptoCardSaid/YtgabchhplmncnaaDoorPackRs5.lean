/-
  PARTS: THE WALKS of strings.Builder's methods once more, saying that every block that holds no bytes (but the builder's own) stays.; HUNKS AS TEXTS, in plain Lean: the document's reading (hunk by hunk) is the program's (line by line).; NUMBERS AS TEXTS, in plain Lean: a text that is the decimal numeral of its number; the document's reading of one.; HUNKS AS TEXTS, in plain Lean: what the program's functions compute, as the walks want it.; THE WALKS of unified.span and Write.; THE PACKAGE VARIABLES that strconv and strings read, as the walks want them.; BYTES AS LETTERS, in plain Lean: what is written is read; 57 bytes more ahead are a line more ahead.; MAILS AS TEXTS, in plain Lean (chapter 12): one mail.; BOXES, in plain Lean (chapter 12): one mail behind the other.; PARTS BETWEEN CUTS, in plain Lean: the library's splits are those of the plain laws.; THE WALKS of unified.number and read.; A SLICE OF HUNKS THAT THE CALL ITSELF BUILDS, OF WHICH THE LAST ONE STILL GROWS ('OwnLast'): pushed onto, its last one's marks pushed onto, closed. No program in sight.; A READER OF HUNKS IN MEMORY ('RdrAt'): a box of three cells: the hunks that have been read (the last one still grows), how many marks it needs.; THE WALKS: the laws' Hunk, Hunks.
-/
import Derived.Test.YtgabchhplmncnaaDoorPackRs4
import Derived.Test.YtgabchhplmncnaaDoorPackRs2
import Derived.Test.YtgabchhplmncnaaDoorPackRs3
import Derived.StillTailTactics
import Derived.Test.YtgabchhplmncnaaDoorShelf
import Derived.Test.YtgabchhplmncnaaDoorPackRs1
import Derived.Lib.AppendIntMem
import Derived.Lib.SplitLaws
import Derived.Lib.IndexMore
import Derived.WalkLawsBesides
namespace Go.Proofs.YtgabchhplmncnaaDoor
open Go.RowKit

/-- each block of cells that are no bytes, but for block b, stays -/
def Keeps (b : Nat) (w w' : World) : Prop := ∀ (k : Nat) (c : Array Value) (T : TypeId) (fz : Nat × Nat), k ≠ b → w.heap[k]? = some (.cells c T fz) → T ≠ 5 → w'.heap[k]? = some (.cells c T fz)
theorem Keeps.trans {b : Nat} {x y z : World} (h : Keeps b x y) (g : Keeps b y z) : Keeps b x z := fun k c T fz h1 h2 h3 => g k c T fz h1 (h k c T fz h1 h2 h3) h3
theorem keeps_set {b : Nat} (w : World) (j : Nat) (u : Value) : Keeps b w (w.setCell ⟨b, j, none⟩ u) := fun k c T fz h1 h2 _ => by
  rw [Below.heap_setCell _ _ _ _ (fun e => h1 e)]; exact h2
theorem keeps_alloc {b : Nat} (w : World) (o : Obj) : Keeps b w (w.alloc o) := fun k c T fz _ h2 _ => by
  rw [Below.heap_alloc _ _ _ (Array.getElem?_eq_some_iff.1 h2).1]; exact h2
theorem keeps_chg {b : Nat} {w w' : World} (h : Chg Never w w') : Keeps b w w' := fun k c T fz _ h2 _ => by
  rw [h.block k (Array.getElem?_eq_some_iff.1 h2).1 (fun x => x)]; exact h2
theorem keeps_grow {b B n : Nat} {w w' : World} {v : Value} {bs : List Value} (hown : w.ownsRowF B 5 1 v n bs) (h : w.grownBy w' v.ownBlock) : Keeps b w w' := fun k c T fz _ h2 h3 => by
  rw [h.block k (Array.getElem?_eq_some_iff.1 h2).1 ?_]
  · exact h2
  · intro e
    rcases hown.2 with ⟨rfl, _⟩ | ⟨g, cap, cur, f, rfl, _, hg, _⟩
    · cases e
    · injection e with e
      subst e
      rw [h2] at hg
      injection hg with hg
      injection hg with _ hg _
      exact h3 hg
theorem Keeps.blk3 {b B : Nat} {w w' : World} {t : TypeId} {x y z : Value} (h : Keeps b w w') (hb : Blk3 w B t x y z) (hne : B ≠ b) (ht : t ≠ 5) : Blk3 w' B t x y z := h B _ t _ hne hb ht
theorem Keeps.blk2 {b B : Nat} {w w' : World} {t : TypeId} {x y : Value} (h : Keeps b w w') (hb : Blk2 w B t x y) (hne : B ≠ b) (ht : t ≠ 5) : Blk2 w' B t x y := h B _ t _ hne hb ht

set_option maxHeartbeats 1000000 in
set_option maxRecDepth 100000 in
theorem bldk_check (B b : Nat) (bs : List Value) (w : World) (h : IsB B b bs w) :
    Calls Tryd.prog 28 #[.pointer (some ⟨b, 0, none⟩)] w fun e w' => e = .returned (.tuple #[]) ∧ BAt B b bs w' ∧ Below B w w' ∧ Keeps b w w' := by
  obtain ⟨j, hj, hjs⟩ := Option.map_eq_some_iff.1 bld_info
  rcases h with h | h
  · have c0 := h.cell0
    have hsh := h.shape
    have hfz := h.frozen0
    have hfin : BAt B b bs (w.setCell ⟨b, 0, none⟩ (.pointer (some ⟨b, 0, none⟩))) ∧ Below B w (w.setCell ⟨b, 0, none⟩ (.pointer (some ⟨b, 0, none⟩))) ∧ Keeps b w (w.setCell ⟨b, 0, none⟩ (.pointer (some ⟨b, 0, none⟩))) := ⟨h.used _, (Below.refl B w).setCell (p := ⟨b, 0, none⟩) h.1 _, keeps_set _ _ _⟩
    clear h
    go_enter Tryd.func28, Tryd.ntmps28
    go_wp2_with fail
    rw [Lib.run_to_unsafe w ⟨b, 0, none⟩ Tryd.underlying65 Tryd.underlying84 hj (by rw [hjs]; decide) hsh (Nat.zero_lt_succ 1)]
    simp only [Result.andThen]
    rw [Oper.upon_value]
    go_wp2_with fail
    rw [run_callFunc_extern Tryd.func38 (by kernel_rfl) (by kernel_rfl) (by kernel_rfl) (e := Extern.AbiNoEscape.same) (by kernel_rfl)]
    rw [Lib.run_noEscape]
    simp only [Result.andThen]
    rw [Oper.upon_value]
    go_wp2_with fail
    rw [Lib.run_from_unsafe w ⟨b, 0, none⟩ Tryd.underlying84 Tryd.underlying65 hj hsh bld_lies]
    simp only [Result.andThen]
    rw [Oper.upon_value]
    go_wp2_with fail
    go_end0
    exact ⟨rfl, hfin.1, hfin.2⟩
  · have c0 := h.cell0
    go_enter Tryd.func28, Tryd.ntmps28
    go_wp2_with fail
    rw [Lib.run_neq_ptr_same w _ Tryd.underlying65 hj]
    go_wp2_with fail
    go_end0
    exact ⟨rfl, h, Below.refl B _, fun _ _ _ _ _ h _ => h⟩
set_option maxHeartbeats 1000000 in
set_option maxRecDepth 100000 in
theorem bldk_string (B b : Nat) (bs : List Value) (s : ByteArray) (w : World) (h : IsB B b bs w) (hlen : bs.length + s.size ≤ 140737488355328) (hBw : B ≤ w.heap.size) :
    Calls Tryd.prog 22 #[.pointer (some ⟨b, 0, none⟩), .string s] w fun e w' => e = .returned (.tuple #[.int .i64 s.size, .nilIface]) ∧ BAt B b (bs ++ Lib.strCells s) w' ∧ Below B w w' ∧ Keeps b w w' := by
  obtain ⟨i0, hi, hz0, hz1, hz2⟩ := info_parts bld_byte
  go_enter Tryd.func22, Tryd.ntmps22
  go_wp2_with fail
  refine (bldk_check B b bs _ h).mono ?_
  rintro e w1 ⟨rfl, h1, hb1, hk1⟩
  obtain ⟨hB, v, hbk, hown, hne⟩ := h1
  have c0 : w1.cell? ⟨b, 0, none⟩ = some (.pointer (some ⟨b, 0, none⟩)) := by rw [Lib.cell_of_heap hbk]; rfl
  have c1 : w1.cell? ⟨b, 1, none⟩ = some v := by rw [Lib.cell_of_heap hbk]; rfl
  have hlt : b < w1.heap.size := (Array.getElem?_eq_some_iff.1 hbk).1
  have hs1 := hb1.size
  go_wp2_with (at_builtin; refine Lib.wpList_append_own_stringF _ rfl _ _ 66 9 rfl B 5 i0 Tryd.underlying66 Tryd.underlying9 hi hz0 hz1 hz2 _ _ _ rfl hown s rfl (by unfold maxLen; omega) (by omega) (by omega) ?_)
  intro v' w2 hown' hgrow _
  have hb2 : w2.heap[b]? = some (.cells #[.pointer (some ⟨b, 0, none⟩), v] 68 (0, 0)) := (hgrow.block b hlt (fun e => hne e.symm)).trans hbk
  have d0 : w2.cell? ⟨b, 0, none⟩ = some (.pointer (some ⟨b, 0, none⟩)) := by rw [Lib.cell_of_heap hb2]; rfl
  have d1 : w2.cell? ⟨b, 1, none⟩ = some v := by rw [Lib.cell_of_heap hb2]; rfl
  have f1 : w2.frozen? ⟨b, 1, none⟩ = false := Lib.frozen_of_heap hb2 1
  have hfin := Lib.BuilderAtF.put (T := 68) (e := 5) (v' := v') hB hb2 (bs' := bs ++ Lib.strCells s) (by simpa [Lib.strCells_length] using hown') (by decide)
  have hfin2 := (hb1.grown hgrow (by omega) (fun k hk => (hown.lt k hk).1)).setCell (p := ⟨b, 1, none⟩) hB v'
  have hk3 : Keeps b _ (w2.setCell ⟨b, 1, none⟩ v') := (hk1.trans (keeps_grow hown hgrow)).trans (keeps_set _ _ _)
  obtain ⟨ao, n', cap, rfl⟩ : ∃ ao n' cap, v' = .slice ao n' cap := by
    rcases hown'.2 with ⟨hv, _⟩ | ⟨g, cap, cur, fz, hv, _⟩
    · exact ⟨_, _, _, hv⟩
    · exact ⟨_, _, _, hv⟩
  clear hgrow hown hown' hbk hb2 c0 c1 hk1
  go_wp2_with fail
  go_ret2
  exact ⟨rfl, hfin, hfin2, hk3⟩
set_option maxHeartbeats 1000000 in
set_option maxRecDepth 100000 in
theorem bldk_byte1 (B b : Nat) (bs : List Value) (c : Int) (w : World) (h : IsB B b bs w) (hlen : bs.length + 1 ≤ 140737488355328) (hBw : B ≤ w.heap.size) :
    Calls Tryd.prog 31 #[.pointer (some ⟨b, 0, none⟩), .int .u8 c] w fun e w' => e = .returned .nilIface ∧ BAt B b (bs ++ [.int .u8 c]) w' ∧ Below B w w' ∧ Keeps b w w' := by
  obtain ⟨i0, hi, hz0, hz1, hz2⟩ := info_parts bld_byte
  go_enter Tryd.func31, Tryd.ntmps31
  go_wp2_with fail
  refine (bldk_check B b bs _ h).mono ?_
  rintro e w1 ⟨rfl, h1, hb1, hk1⟩
  obtain ⟨hB, v, hbk, hown, hne⟩ := h1
  have c0 : w1.cell? ⟨b, 0, none⟩ = some (.pointer (some ⟨b, 0, none⟩)) := by rw [Lib.cell_of_heap hbk]; rfl
  have c1 : w1.cell? ⟨b, 1, none⟩ = some v := by rw [Lib.cell_of_heap hbk]; rfl
  have hlt : b < w1.heap.size := (Array.getElem?_eq_some_iff.1 hbk).1
  have hs1 := hb1.size
  go_wp2_with (at_builtin; refine wpList_append_ownF _ rfl _ _ 66 rfl B 5 i0 (.int .u8 0) 1 1 Tryd.underlying66 hi hz0 hz1 hz2 rfl (by decide) _ _ _ rfl (hown.alloc _) ⟨w1.heap.size, 0, none⟩ 1 1 [.int .u8 c] rfl rfl ?c1 ?c2 (by unfold maxLen; omega) (by omega) (by simp; omega) ?_)
  case c1 =>
    intro j u hj
    match j, hj with
    | 0, hj => simp at hj; subst hj; simp [Addr.add]
  case c2 => intro u hu; simp at hu; subst hu; rfl
  intro v' w2 hown' hgrow _
  have hb2 : w2.heap[b]? = some (.cells #[.pointer (some ⟨b, 0, none⟩), v] 68 (0, 0)) := ((hgrow.block b (by simp; omega) (fun e => hne e.symm)).trans (Lib.alloc_old w1 _ b hlt)).trans hbk
  have d0 : w2.cell? ⟨b, 0, none⟩ = some (.pointer (some ⟨b, 0, none⟩)) := by rw [Lib.cell_of_heap hb2]; rfl
  have d1 : w2.cell? ⟨b, 1, none⟩ = some v := by rw [Lib.cell_of_heap hb2]; rfl
  have f1 : w2.frozen? ⟨b, 1, none⟩ = false := Lib.frozen_of_heap hb2 1
  have hfin := Lib.BuilderAtF.put (T := 68) (e := 5) (v' := v') hB hb2 (bs' := bs ++ [.int .u8 c]) (by simpa using hown') (by decide)
  have hfin2 := ((hb1.alloc (by omega) _).grown hgrow (by simp; omega) (fun k hk => (hown.lt k hk).1)).setCell (p := ⟨b, 1, none⟩) hB v'
  have hk3 : Keeps b _ (w2.setCell ⟨b, 1, none⟩ v') := ((hk1.trans (keeps_alloc _ _)).trans (keeps_grow (hown.alloc _) hgrow)).trans (keeps_set _ _ _)
  obtain ⟨ao, n', cap, rfl⟩ : ∃ ao n' cap, v' = .slice ao n' cap := by
    rcases hown'.2 with ⟨hv, _⟩ | ⟨g, cap, cur, fz, hv, _⟩
    · exact ⟨_, _, _, hv⟩
    · exact ⟨_, _, _, hv⟩
  clear hgrow hown hown' hbk hb2 c0 c1 hk1
  go_wp2_with fail
  go_ret
  exact ⟨rfl, hfin, hfin2, hk3⟩
end Go.Proofs.YtgabchhplmncnaaDoor
namespace Go.Proofs.YtgabchhplmncnaaDoor

/-- hunks are read from a number on as long as there are some: these, the number behind (or of the line that is wrong), whether all is well -/
def refTake : List (List UInt8) → Nat → List Hunk → Nat → Nat → List Hunk × Nat × Bool
  | [], i, hs, o, n => if 0 < o ∨ 0 < n then ([], i, false) else (hs, i, true)
  | s :: r, i, hs, o, n => if (0 < o ∨ 0 < n) ∨ hunkHead s = true then match readLine hs o n s with
      | none => ([], i, false)
      | some (hs', o', n') => refTake r (i + 1) hs' o' n'
    else (hs, i, true)
theorem refTake_take : ∀ (l : List (List UInt8)) (i : Nat) (hs : List Hunk) (o n : Nat), match takeU l hs o n with
    | none => ∃ j, refTake l i hs o n = ([], j, false)
    | some (hs', rest) => ∃ j, refTake l i hs o n = (hs', j, true) ∧ i ≤ j ∧ j ≤ i + l.length ∧ rest = l.drop (j - i)
  | [], i, hs, o, n => by
    rw [takeU, refTake]
    by_cases h : 0 < o ∨ 0 < n
    · rw [if_pos h, if_pos h]; exact ⟨i, rfl⟩
    · rw [if_neg h, if_neg h]; exact ⟨i, rfl, Nat.le_refl _, by simp, by simp⟩
  | s :: r, i, hs, o, n => by
    rw [takeU, refTake]
    by_cases h : (0 < o ∨ 0 < n) ∨ hunkHead s = true
    · rw [if_pos h, if_pos h]
      cases hr : readLine hs o n s with
      | none => exact ⟨i, rfl⟩
      | some p =>
        obtain ⟨hs', o', n'⟩ := p
        simp only
        have ih := refTake_take r (i + 1) hs' o' n'
        cases ht : takeU r hs' o' n' with
        | none => rw [ht] at ih; exact ih
        | some q =>
          obtain ⟨q1, q2⟩ := q
          rw [ht] at ih
          obtain ⟨j, h1, h2, h3, h4⟩ := ih
          refine ⟨j, h1, by omega, by rw [List.length_cons]; omega, ?_⟩
          rw [h4, show j - i = (j - (i + 1)) + 1 by omega, List.drop_succ_cons]
    · rw [if_neg h, if_neg h]
      exact ⟨i, rfl, Nat.le_refl _, by omega, by simp⟩
theorem head_head {s : List UInt8} {x : Int × Nat × Int × Nat} (h : headOf s = some x) : hunkHead s = true := by
  unfold headOf at h
  cases hp : dropPre atAt s with
  | none => rw [hp] at h; cases h
  | some r => rw [pre_some hp]; rfl
theorem go_refTake : ∀ (l : List (List UInt8)) (i : Nat) (hs : List Hunk) (o n : Nat), match goU l i hs o n with
    | (some j, _) => refTake l i hs o n = ([], j, false) ∨ ∃ hs', refTake l i hs o n = (hs', j, true) ∧ j < i + l.length
    | (none, hs', o', n') => if 0 < o' ∨ 0 < n' then refTake l i hs o n = ([], i + l.length, false) else refTake l i hs o n = (hs', i + l.length, true)
  | [], i, hs, o, n => by
    rw [goU, refTake]
    simp only
    by_cases h : 0 < o ∨ 0 < n
    · rw [if_pos h, if_pos h]; rfl
    · rw [if_neg h, if_neg h]; rfl
  | s :: r, i, hs, o, n => by
    rw [goU, refTake]
    cases hr : readLine hs o n s with
    | none =>
      simp only
      by_cases h : (0 < o ∨ 0 < n) ∨ hunkHead s = true
      · rw [if_pos h]; exact .inl rfl
      · rw [if_neg h]; exact .inr ⟨hs, rfl, by rw [List.length_cons]; omega⟩
    | some p =>
      obtain ⟨hs', o', n'⟩ := p
      have hh : (0 < o ∨ 0 < n) ∨ hunkHead s = true := by
        by_cases h : 0 < o ∨ 0 < n
        · exact .inl h
        · right
          unfold readLine at hr
          rw [if_neg h] at hr
          cases hd : headOf s with
          | none => rw [hd] at hr; cases hr
          | some x => exact head_head hd
      rw [if_pos hh]
      simp only
      have ih := go_refTake r (i + 1) hs' o' n'
      rw [show i + 1 + r.length = i + (s :: r).length by rw [List.length_cons]; omega] at ih
      exact ih
def refHunks (s : List UInt8) : List Hunk × Nat × Int :=
  if 400000 < s.length then ([], 0, 5) else match refTake (parts 10 s).dropLast 0 [] 0 0 with
  | (_, j, false) => ([], j, 5)
  | (hs, j, true) => if j < (parts 10 s).length - 1 then ([], j, 5) else if (parts 10 s).getLast? ≠ some [] then ([], (parts 10 s).length - 1, 5) else if (hunksFault hs).2 ≠ 0 then ([], 0, (hunksFault hs).2) else (hs, 0, 0)
theorem refHunks_eq (s : List UInt8) : refHunks s = parseU s := by
  unfold refHunks parseU
  by_cases hl : 400000 < s.length
  · rw [if_pos hl, if_pos hl]
  · rw [if_neg hl, if_neg hl]
    have h := go_refTake (parts 10 s).dropLast 0 [] 0 0
    have hlen : (parts 10 s).dropLast.length = (parts 10 s).length - 1 := List.length_dropLast
    cases hg : goU (parts 10 s).dropLast 0 [] 0 0 with
    | mk a b =>
      obtain ⟨hs', o', n'⟩ := b
      rw [hg] at h
      cases a with
      | some j =>
        simp only at h
        rcases h with h | ⟨hs2, h, hj⟩
        · rw [h]
        · rw [h]
          simp only
          rw [if_pos (by omega)]
      | none =>
        simp only at h ⊢
        by_cases ho : 0 < o' ∨ 0 < n'
        · rw [if_pos ho] at h
          rw [h, if_pos (by rcases ho with q | q; exact .inl q; exact .inr (.inl q))]
          simp only
          rw [Nat.zero_add, hlen]
        · rw [if_neg ho] at h
          rw [h]
          simp only
          rw [if_neg (by omega)]
          by_cases hx : (parts 10 s).getLast? ≠ some []
          · rw [if_pos hx, if_pos (.inr (.inr hx))]
          · rw [if_neg hx, if_neg (c := 0 < o' ∨ 0 < n' ∨ (parts 10 s).getLast? ≠ some []) (by rintro (q | q | q); exact ho (.inl q); exact ho (.inr q); exact hx q)]
/-- a head, as the document reads it -/
theorem head_ref (s : List UInt8) : headOf s = if atAt.isPrefixOf s = true ∧ endAt.isSuffixOf s = true ∧ 7 ≤ s.length then match cutSub [32, 43] ((s.drop 4).take (s.length - 7)) with
        | none => none
        | some (u, v) => match spanOf u with
          | none => none
          | some (a, x) => match spanOf v with
            | none => none
            | some (b, y) => some (a, x, b, y)
      else none := by
  unfold headOf
  by_cases hp : atAt.isPrefixOf s = true
  · have e1 : dropPre atAt s = some (s.drop 4) := if_pos hp
    rw [e1]
    simp only
    have hpl : 4 ≤ s.length := (List.isPrefixOf_iff_prefix.1 hp).length_le
    by_cases hc : endAt.isSuffixOf s = true ∧ 7 ≤ s.length
    · obtain ⟨h1, h2⟩ := hc
      have hs : endAt.isSuffixOf (s.drop 4) = true := by
        rw [List.isSuffixOf_iff_suffix] at h1 ⊢
        exact List.suffix_of_suffix_length_le h1 (List.drop_suffix 4 s) (by rw [List.length_drop]; show 3 ≤ _; omega)
      have e2 : dropSuf endAt (s.drop 4) = some ((s.drop 4).take (s.length - 7)) := by
        unfold dropSuf
        rw [if_pos hs, List.length_drop, show s.length - 4 - endAt.length = s.length - 7 by show s.length - 4 - 3 = _; omega]
      rw [e2, if_pos ⟨hp, h1, h2⟩]
      try rfl
    · rw [if_neg (fun q => hc q.2)]
      have hs : ¬ endAt.isSuffixOf (s.drop 4) = true := by
        intro q
        apply hc
        rw [List.isSuffixOf_iff_suffix] at q ⊢
        have hl := q.length_le
        rw [List.length_drop] at hl
        exact ⟨q.trans (List.drop_suffix 4 s), by have : endAt.length = 3 := rfl; omega⟩
      have e2 : dropSuf endAt (s.drop 4) = none := if_neg hs
      rw [e2]
  · have e1 : dropPre atAt s = none := if_neg hp
    rw [e1, if_neg (fun q => hp q.1)]
end Go.Proofs.YtgabchhplmncnaaDoor
namespace Go.Proofs.YtgabchhplmncnaaDoor

/-- a number of at most so many digits, written as it is -/
def numM (k : Nat) (s : List UInt8) : Option Nat := if s.length ≤ k then match Lib.decNat s with
  | some n => if Lib.decDigits n = s then some n else none
  | none => none
  else none
theorem numM_3 (s : List UInt8) : numM 3 s = numOf s := rfl
theorem dig_char {c : UInt8} {d : Nat} (h : Lib.digitVal c = some d) : d < 10 ∧ UInt8.ofNat (48 + d) = c ∧ c.toNat = 48 + d := by
  unfold Lib.digitVal at h
  by_cases hc : 48 ≤ c.toNat ∧ c.toNat ≤ 57
  · rw [if_pos hc] at h
    injection h with h
    subst h
    refine ⟨by omega, ?_, by omega⟩
    apply UInt8.toNat_inj.1
    rw [UInt8.toNat_ofNat']; omega
  · rw [if_neg hc] at h; cases h
theorem dec_from : ∀ (s : List UInt8) (acc n : Nat), 0 < acc → Lib.decFrom acc s = some n → Lib.decDigits n = Lib.decDigits acc ++ s ∧ 0 < n
  | [], acc, n, ha, h => by
    rw [Lib.decFrom] at h
    injection h with h
    subst h
    exact ⟨by simp, ha⟩
  | c :: r, acc, n, ha, h => by
    rw [Lib.decFrom] at h
    cases hd : Lib.digitVal c with
    | none => rw [hd] at h; cases h
    | some d =>
      rw [hd] at h
      obtain ⟨h1, h2, _⟩ := dig_char hd
      obtain ⟨h3, h4⟩ := dec_from r (acc * 10 + d) n (by omega) h
      refine ⟨?_, h4⟩
      rw [h3, Lib.decDigits, dif_neg (by omega : ¬ acc * 10 + d < 10), show (acc * 10 + d) / 10 = acc by omega, show (acc * 10 + d) % 10 = d by omega, h2]
      simp
theorem dec_head : ∀ (n : Nat), 0 < n → ∀ r, Lib.decDigits n ≠ 48 :: r := fun n => by
  induction n using Nat.strongRecOn with
  | _ n ih =>
    intro hn r h
    rw [Lib.decDigits] at h
    by_cases h10 : n < 10
    · rw [dif_pos h10] at h
      injection h with h _
      have := congrArg UInt8.toNat h
      rw [UInt8.toNat_ofNat'] at this
      have h48 : (48 : UInt8).toNat = 48 := rfl
      omega
    · rw [dif_neg h10] at h
      cases hq : Lib.decDigits (n / 10) with
      | nil =>
        have := Lib.decDigits_length (n / 10)
        rw [hq] at this
        have := Lib.nDigits_pos (n / 10)
        simp at *
        omega
      | cons a b =>
        rw [hq] at h
        injection h with h _
        exact ih (n / 10) (by omega) (by omega) b (by rw [hq, h])
/-- a text of digits is its number's numeral where it has no 0 ahead -/
theorem dec_canon {s : List UInt8} {n : Nat} (h : Lib.decNat s = some n) : Lib.decDigits n = s ↔ ¬ (1 < s.length ∧ s.head? = some 48) := by
  unfold Lib.decNat at h
  cases s with
  | nil => cases h
  | cons c r =>
    rw [if_neg (by simp), Lib.decFrom] at h
    cases hd : Lib.digitVal c with
    | none => rw [hd] at h; cases h
    | some d =>
      rw [hd] at h
      simp only [Nat.zero_mul, Nat.zero_add] at h
      obtain ⟨h1, h2, h3⟩ := dig_char hd
      by_cases h0 : d = 0
      · subst h0
        have hc : c = 48 := h2.symm
        subst hc
        constructor
        · rintro e ⟨hl, _⟩
          by_cases hn : 0 < n
          · exact dec_head n hn r e
          · have : n = 0 := by omega
            subst this
            rw [Lib.decDigits_one (by omega)] at e
            have := congrArg List.length e
            simp only [List.length_cons, List.length_nil] at this hl
            omega
        · intro e
          cases r with
          | nil =>
            rw [Lib.decFrom] at h
            injection h with h
            subst h
            rw [Lib.decDigits_one (by omega)]; rfl
          | cons a b => exact absurd ⟨by simp, rfl⟩ e
      · obtain ⟨h4, h5⟩ := dec_from r d n (by omega) h
        have e : Lib.decDigits n = c :: r := by rw [h4, Lib.decDigits_one h1, h2]; rfl
        refine ⟨fun _ ⟨_, q⟩ => ?_, fun _ => e⟩
        injection q with q
        subst q
        have h48 : (48 : UInt8).toNat = 48 := rfl
        omega
/-- the document's reading of a number -/
theorem num_ref (k : Nat) (s : List UInt8) : numM k s = if s.length < 1 ∨ k < s.length ∨ (1 < s.length ∧ s.head? = some 48) then none else Lib.decFrom 0 s := by
  unfold numM
  by_cases hk : k < s.length
  · rw [if_neg (by omega), if_pos (.inr (.inl hk))]
  · rw [if_pos (by omega)]
    cases s with
    | nil => rw [if_pos (.inl (by simp))]; rfl
    | cons c r =>
      have e : Lib.decNat (c :: r) = Lib.decFrom 0 (c :: r) := rfl
      rw [← e]
      cases hd : Lib.decNat (c :: r) with
      | none =>
        show none = _
        rw [ite_self]
      | some n =>
        have hcan := dec_canon hd
        simp only
        by_cases hc : 1 < (c :: r).length ∧ (c :: r).head? = some 48
        · rw [if_neg (fun q => hcan.1 q hc), if_pos (.inr (.inr hc))]
        · rw [if_pos (hcan.2 hc), if_neg]
          rintro (q | q | q)
          · simp at q
          · exact hk q
          · exact hc q
theorem numM_lt {k n : Nat} {s : List UInt8} (h : numM k s = some n) : n < 10 ^ k ∧ Lib.decDigits n = s := by
  unfold numM at h
  by_cases hl : s.length ≤ k
  · rw [if_pos hl] at h
    cases hd : Lib.decNat s with
    | none => rw [hd] at h; cases h
    | some q =>
      rw [hd] at h
      simp only at h
      by_cases he : Lib.decDigits q = s
      · rw [if_pos he] at h
        injection h with h
        subst h
        refine ⟨?_, he⟩
        have h1 := Lib.decFrom_lt _ _ _ (Lib.decNat_some hd).2
        have : (10 : Nat) ^ s.length ≤ 10 ^ k := Nat.pow_le_pow_right (by decide) hl
        omega
      · rw [if_neg he] at h; cases h
  · rw [if_neg hl] at h; cases h
end Go.Proofs.YtgabchhplmncnaaDoor
namespace Go.Proofs.YtgabchhplmncnaaDoor

/-- the reader's hunks, with marks wanted only behind one -/
def RdOk (hs : List Hunk) (o n : Nat) : Prop := 0 < o ∨ 0 < n → hs ≠ []
theorem rdOk_start : RdOk [] 0 0 := fun h => by omega
theorem addMark_ne {hs : List Hunk} (m : Mark) (h : hs ≠ []) : addMark hs m ≠ [] := by
  cases hs with
  | nil => exact absurd rfl h
  | cons a l => cases l <;> simp [addMark]
theorem readLine_ok {hs hs' : List Hunk} {o n o' n' : Nat} {s : List UInt8} (hk : RdOk hs o n) (h : readLine hs o n s = some (hs', o', n')) : hs' ≠ [] := by
  unfold readLine at h
  by_cases hon : 0 < o ∨ 0 < n
  · have hne := hk hon
    rw [if_pos hon] at h
    cases s with
    | nil => cases h
    | cons c r =>
      simp only at h
      split at h
      · injection h with h; injection h with h1 _; rw [← h1]; exact addMark_ne _ hne
      · split at h
        · injection h with h; injection h with h1 _; rw [← h1]; exact addMark_ne _ hne
        · split at h
          · injection h with h; injection h with h1 _; rw [← h1]; exact addMark_ne _ hne
          · cases h
  · rw [if_neg hon] at h
    cases hd : headOf s with
    | none => rw [hd] at h; cases h
    | some x =>
      obtain ⟨a, x, b, y⟩ := x
      rw [hd] at h
      injection h with h; injection h with h1 _; rw [← h1]; simp
theorem numOf_lt {s : List UInt8} {n : Nat} (h : numOf s = some n) : n < 1000 := (num_some h).1
end Go.Proofs.YtgabchhplmncnaaDoor
namespace Go.Proofs.YtgabchhplmncnaaDoor
open Go.RowKit

theorem toB_size' (X : List UInt8) : (toB X).size = X.length := by rw [Lib.size_eq, toB_data]
theorem toB_three (a b c : List UInt8) : toB a ++ toB b ++ toB c = toB (a ++ b ++ c) := by
  apply ByteArray.ext
  apply Array.toList_inj.1
  rw [bytes_append, bytes_append, toB_data, toB_data, toB_data, toB_data]
theorem itoa_any (x : Int) (n : Nat) (hx : x = n) (h : n < 100) (w : World) :
    Calls Tryd.prog 39 #[.int .i64 x] w fun e w' => e = .returned (.string (toB (Lib.itoa x))) ∧ w' = w := by
  subst hx
  rw [itoa_nat]
  exact Tryd.strconv_Itoa_small n h w
set_option maxHeartbeats 1000000 in
set_option maxRecDepth 100000 in
theorem span_any (a : Int) (n : Nat) (h0 : 0 ≤ a) (h1 : a < 99) (hn : n < 100) (w : World) :
    Calls Tryd.prog 30 #[.int .i64 a, .int .i64 n] w fun e w' => e = .returned (.string (toB (spanL a n))) ∧ w' = w := by
  have hs2 : (toB (Lib.itoa (n : Int))).size ≤ 20 := by
    rw [toB_size', itoa_nat]
    have := dec_len (n := n) (by omega)
    omega
  by_cases hp : 0 < n
  · have HE : Hid (spanL a n = Lib.itoa (a + 1) ++ [44] ++ Lib.itoa n) := by unfold Hid spanL; rw [if_pos hp]
    have t1 : decide ((0 : Int) < (n : Int)) = true := decide_eq_true (by omega)
    have t1n : decide (0 < n) = true := decide_eq_true hp
    have F1 : ∀ wx, Calls Tryd.prog 39 #[.int .i64 (a + 1)] wx fun e w' => e = .returned (.string (toB (Lib.itoa (a + 1)))) ∧ w' = wx := fun wx => itoa_any (a + 1) (a + 1).toNat (by omega) (by omega) wx
    have hs1 : (toB (Lib.itoa (a + 1))).size ≤ 20 := by
      obtain ⟨k, hk⟩ : ∃ k : Nat, a + 1 = k := ⟨(a + 1).toNat, by omega⟩
      rw [toB_size', hk, itoa_nat]
      have := dec_len (n := k) (by omega)
      omega
    clear hp
    go_enter Tryd.func30, Tryd.ntmps30
    go_wp2_with fail
    refine (F1 _).mono ?_
    rintro e w1 ⟨rfl, rfl⟩
    go_wp2_with fail
    refine (itoa_any n n rfl hn _).mono ?_
    rintro e w1 ⟨rfl, rfl⟩
    go_wp2_with fail
    go_ret
    exact ⟨by rw [HE.out]; exact congrArg (fun x => Ending.returned (Value.string x)) (toB_three _ _ _), rfl⟩
  · obtain rfl : n = 0 := by omega
    have HE : Hid (spanL a 0 = Lib.itoa a ++ [44] ++ Lib.itoa 0) := by unfold Hid spanL; rw [if_neg hp]; rfl
    have F1 : ∀ wx, Calls Tryd.prog 39 #[.int .i64 a] wx fun e w' => e = .returned (.string (toB (Lib.itoa a))) ∧ w' = wx := fun wx => itoa_any a a.toNat (by omega) (by omega) wx
    have F2 : ∀ wx, Calls Tryd.prog 39 #[.int .i64 0] wx fun e w' => e = .returned (.string (toB (Lib.itoa 0))) ∧ w' = wx := fun wx => itoa_any 0 0 rfl (by omega) wx
    have hs1 : (toB (Lib.itoa a)).size ≤ 20 := by
      obtain ⟨k, hk⟩ : ∃ k : Nat, a = k := ⟨a.toNat, by omega⟩
      rw [toB_size', hk, itoa_nat]
      have := dec_len (n := k) (by omega)
      omega
    have hs2 : (toB (Lib.itoa 0)).size ≤ 20 := hs2
    clear hp
    go_enter Tryd.func30, Tryd.ntmps30
    go_wp2_with fail
    refine (F1 _).mono ?_
    rintro e w1 ⟨rfl, rfl⟩
    go_wp2_with fail
    refine (F2 _).mono ?_
    rintro e w1 ⟨rfl, rfl⟩
    go_wp2_with fail
    go_ret
    exact ⟨by rw [HE.out]; exact congrArg (fun x => Ending.returned (Value.string x)) (toB_three _ _ _), rfl⟩

theorem chg_below {B : Nat} {w w' : World} (h : Below B w w') : Chg (From B) w w' :=
  ⟨h.os, h.tape, h.output, h.size, fun k hk hn => h.block k (by unfold From at hn; omega)⟩
theorem hunkR_head (h : Hunk) : textL (hunkL h) = headL h.old (oldN h.marks) h.new (newN h.marks) ++ [10] ++ textL (h.marks.map markL) := rfl
theorem textU_take {l : List Hunk} {k : Nat} {x : Hunk} (hx : l[k]? = some x) : textU (l.take (k + 1)) = textU (l.take k) ++ textL (hunkL x) := by
  unfold textU linesU
  rw [List.take_add_one, hx, Option.toList_some, List.flatMap_append, textL_app]
  simp
theorem textM_take {l : List Mark} {k : Nat} {x : Mark} (hx : l[k]? = some x) : textL ((l.take (k + 1)).map markL) = textL ((l.take k).map markL) ++ (signOf x :: (x.text.data.toList ++ [10])) := by
  rw [List.take_add_one, hx, Option.toList_some, List.map_append, textL_app]
  simp [textL, markL]
/-- what each of the hunks that may be is -/
def EachH (x : Hunk) : Prop := scriptFault x.marks = 0 ∧ 0 ≤ x.old ∧ x.old ≤ 60 ∧ 0 ≤ x.new ∧ x.new ≤ 60 ∧ oldN x.marks ≤ 60 ∧ newN x.marks ≤ 60
theorem one_scr {h : Hunk} {fin more : Int} (e : oneFault h fin more = 0) : scriptFault h.marks = 0 := by
  unfold oneFault at e
  by_cases h1 : scriptFault h.marks ≠ 0
  · rw [if_pos h1] at e; exact absurd e h1
  · simpa using h1
theorem go_each : ∀ (l : List Hunk) (i : Nat) (fin more : Int), (hunksGo i fin more l).2 = 0 → ∀ x ∈ l, EachH x
  | [], _, _, _, _ => fun _ h => by cases h
  | h :: l, i, fin, more, e => by
    rw [hunksGo] at e
    by_cases h0 : oneFault h fin more = 0
    · rw [if_pos h0] at e
      obtain ⟨q1, q2, q3, q4, q5, q6, q7⟩ := one_ok h0
      intro x hx
      rcases List.mem_cons.1 hx with rfl | hx
      · exact ⟨one_scr h0, q2, by omega, q3, by omega, by omega, by omega⟩
      · exact go_each l _ _ _ e x hx
    · rw [if_neg h0] at e
      exact absurd e h0
theorem hunks_each {l : List Hunk} (h : (hunksFault l).2 = 0) : ∀ x ∈ l, EachH x := by
  unfold hunksFault at h
  by_cases hl : 60 < l.length
  · rw [if_pos hl] at h; cases h
  · rw [if_neg hl] at h
    exact go_each l _ _ _ h
theorem textU_mono {l : List Hunk} {k : Nat} : (textU (l.take k)).length ≤ (textU l).length := by
  conv => rhs; rw [← List.take_append_drop k l]
  unfold textU linesU
  rw [List.flatMap_append, textL_app, List.length_append]
  omega
theorem cells_toB (x : List UInt8) : Lib.strCells (toB x) = Lib.byteCells x := by rw [Lib.strCells_eq, toB_data]
/-- a head, as the walk writes it -/
theorem head_row (a b : Int) (x y : Nat) : toB [64, 64, 32, 45] ++ toB (spanL a x) ++ toB [32, 43] ++ toB (spanL b y) ++ toB [32, 64, 64, 10] = toB (headL a x b y ++ [10]) := by
  apply ByteArray.ext
  apply Array.toList_inj.1
  simp only [bytes_append, toB_data]
  unfold headL atAt endAt
  simp
theorem mark_cells {m : Mark} (h : SignOk m) : [.int .u8 m.sign] ++ Lib.strCells (m.text ++ toB [10]) = Lib.byteCells (signOf m :: (m.text.data.toList ++ [10])) := by
  rw [Lib.strCells_eq, bytes_append, toB_data]
  unfold signOf
  rcases h with e | e | e <;> rw [e] <;> rfl
theorem marks_take_len {ms : List Mark} {q : Nat} (h : ∀ m ∈ ms, markFault m = 0) (hl : ms.length ≤ 120) : (textL ((ms.take q).map markL)).length ≤ 82 * 120 := by
  have : ∀ (k : List Mark), (∀ m ∈ k, markFault m = 0) → (textL (k.map markL)).length ≤ 82 * k.length := fun k hk => by
    induction k with
    | nil => simp [textL]
    | cons m k ih =>
      obtain ⟨-, -, q3⟩ := mark_ok (hk m (List.mem_cons_self ..))
      have := ih fun x hx => hk x (List.mem_cons_of_mem _ hx)
      have e : (textL ((m :: k).map markL)).length = m.text.size + 2 + (textL (k.map markL)).length := by
        show (markL m ++ [10] ++ textL (k.map markL)).length = _
        unfold markL
        simp only [List.length_append, List.length_cons, List.length_nil, Array.length_toList, ByteArray.size_data]
      rw [e, List.length_cons]; omega
  have h1 := this (ms.take q) (fun m hm => h m (List.mem_of_mem_take hm))
  rw [List.length_take] at h1
  omega
set_option maxHeartbeats 1000000 in
set_option maxRecDepth 100000 in
theorem write_any (B b : Nat) (bs : List Value) (l : List Hunk) (v : Value) (w : World) (h : Rdv w (From B) v l) (hI : IsB B b bs w) (hz : (hunksFault l).2 = 0) (hlen : bs.length ≤ 1000000000) (hBw : B ≤ w.heap.size) :
    Calls Tryd.prog 23 #[.pointer (some ⟨b, 0, none⟩), v] w fun e w' => e = .returned (.tuple #[]) ∧ IsB B b (bs ++ Lib.byteCells (textU l)) w' ∧ Below B w w' := by
  obtain ⟨a, cap, rfl, h1, h2, h3⟩ := rdv_slice h
  unfold maxLen at h2
  have hTL := Lib.hid (hunks_ok hz).2.2
  have hH := Lib.hid (hunks_each hz)
  clear hz
  go_enter Tryd.func23, Tryd.ntmps23
  go_wp2_with fail
  go_loopw [12] (fun i wr => ∃ k : Nat, k ≤ l.length ∧ i = .int .i64 k ∧ IsB B b (bs ++ Lib.byteCells (textU (l.take k))) wr ∧ Below B w wr) (fun i _ => l.length - (intOf i).toNat)
  case atStart => exact ⟨0, Nat.zero_le _, rfl, by simpa [textU, textL, linesU, Lib.byteCells] using hI, Below.refl _ _⟩
  case round =>
    clear hI
    obtain ⟨k, hk, rfl, hI, hb⟩ := hrel
    rename World => wr
    have hbs := hb.size
    by_cases hlt : k < l.length
    · obtain ⟨x, hx⟩ : ∃ x, l[k]? = some x := ⟨l[k], by simp [hlt]⟩
      obtain ⟨b', off, mv, rfl, hnb, -, c0, c1, c2, hmv⟩ := elems_hunk h3 hx
      have hcb := chg_below hb
      have hbne : wr.heap.size ≠ b := by
        have : b < wr.heap.size := hI.elim (fun q => q.lt) (fun q => q.lt)
        omega
      obtain ⟨e1, e2, e3, e4, e5, e6, e7⟩ := hH.out x (List.mem_of_getElem? hx)
      have E1 := Lib.hid e1
      have hml := scriptFault_len e1
      have HT := Lib.hid (textU_take hx)
      have hTk := @textU_mono l k
      have hTk1 := @textU_mono l (k + 1)
      have hTLo := hTL.out
      obtain ⟨ma, mc, rfl, -, -, hme⟩ := rdv_slice hmv
      have c0 := hcb.cell c0 hnb
      have c1 := hcb.cell c1 hnb
      have c2 := hcb.cell c2 hnb
      have hmr : Rdv wr (From B) (.slice ma x.marks.length mc) x.marks := hmv.keep hcb (fun _ _ h => h) (fun _ _ h => h)
      have hA : Chg Never wr (wr.alloc (.cells #[.int .i64 x.old, .int .i64 x.new, .slice ma x.marks.length mc] 50)) := (Chg.refl Never wr).alloc _
      have hbox := Blk3.new wr 50 (.int .i64 x.old) (.int .i64 x.new) (.slice ma x.marks.length mc)
      obtain ⟨g0, g1, g2⟩ := hbox.cell
      have hIA := bld_keep hI hA
      have hmA := hmr.never hA
      have hbA : Below B w (wr.alloc (.cells #[.int .i64 x.old, .int .i64 x.new, .slice ma x.marks.length mc] 50)) := hb.alloc (by omega) _
      clear hx h3 h hI hmr hmv e1
      go_wp2_with fail
      clear c0 c1 c2
      generalize wr.alloc (.cells #[.int .i64 x.old, .int .i64 x.new, .slice ma x.marks.length mc] 50) = wA at hA hbox g0 g1 g2 hIA hmA hbA ⊢
      refine (size_any x _ _ (hmA.sub (fun _ _ h => h.elim))).mono ?_
      rintro e w2 ⟨rfl, hc2⟩
      have g0 := hc2.cellNever g0
      have g1 := hc2.cellNever g1
      have g2 := hc2.cellNever g2
      have hI2 := bld_keep hIA hc2
      have hm2 := hmA.never hc2
      have hb2 := hbA.trans (hc2.never.mono (Nat.le_trans hBw hbA.size))
      have hwsz := hb2.size
      have hl1 : (spanL x.old (oldN x.marks)).length ≤ 7 := span_len e2 (by omega) (by omega)
      have hl2 : (spanL x.new (newN x.marks)).length ≤ 7 := span_len e4 (by omega) (by omega)
      have FS1 : ∀ wx, Calls Tryd.prog 30 #[.int .i64 x.old, .int .i64 (oldN x.marks : Nat)] wx fun e w' => e = .returned (.string (toB (spanL x.old (oldN x.marks)))) ∧ w' = wx := fun wx => span_any _ _ e2 (by omega) (by omega) wx
      have FS2 : ∀ wx, Calls Tryd.prog 30 #[.int .i64 x.new, .int .i64 (newN x.marks : Nat)] wx fun e w' => e = .returned (.string (toB (spanL x.new (newN x.marks)))) ∧ w' = wx := fun wx => span_any _ _ e4 (by omega) (by omega) wx
      have HR := Lib.hid (head_row x.old x.new (oldN x.marks) (newN x.marks))
      have HUL := Lib.hid (hunkR_head x)
      obtain ⟨S1, hS1⟩ : ∃ S1, toB (spanL x.old (oldN x.marks)) = S1 := ⟨_, rfl⟩
      obtain ⟨S2, hS2⟩ : ∃ S2, toB (spanL x.new (newN x.marks)) = S2 := ⟨_, rfl⟩
      obtain ⟨HD, hHD⟩ : ∃ HD, headL x.old (oldN x.marks) x.new (newN x.marks) ++ [10] = HD := ⟨_, rfl⟩
      have hz1 : S1.size ≤ 7 := by rw [← hS1, toB_size']; exact hl1
      have hz2 : S2.size ≤ 7 := by rw [← hS2, toB_size']; exact hl2
      have hbl : (bs ++ Lib.byteCells (textU (l.take k))).length ≤ 1000400000 := by rw [List.length_append, Lib.byteCells_length]; omega
      rw [hS1, hS2, hHD] at HR
      rw [hHD] at HUL
      rw [hS1] at FS1
      rw [hS2] at FS2
      obtain ⟨bs1, hbs1⟩ : ∃ bs1, bs ++ Lib.byteCells (textU (l.take k)) = bs1 := ⟨_, rfl⟩
      rw [hbs1] at hI2 hbl
      have HB1 := Lib.hid hbs1
      clear hbs1
      clear hS1 hS2 hl1 hl2 hIA hmA hbA hA hb hH hTL hTk hTk1
      go_wp2_with fail
      have n1 : ¬ (9223372036854775807 < 4 + S1.size) := by omega
      have n2 : ¬ (9223372036854775807 < 4 + S1.size + 2) := by omega
      have n3 : ¬ (9223372036854775807 < 4 + S1.size + 2 + S2.size) := by omega
      have n4 : ¬ (9223372036854775807 < 4 + S1.size + 2 + S2.size + 4) := by omega
      refine wp_region_still_tail 13 (by kernel_rfl) (by kernel_rfl) ?_
      simp only [List.take_succ_cons, List.take_zero, List.drop_succ_cons, List.drop_zero]
      change wpStill _ _ w2.drew _ _ _
      still_step
      still_step
      still_step
      still_step
      refine wpStill_step (fun K hK => ?_)
      go_simp
      refine ⟨.string S1, FS1 _, ?_⟩
      refine hK _ ?_
      clear hK K
      still_step
      still_step
      still_step
      still_step
      still_step
      refine wpStill_step (fun K hK => ?_)
      go_simp
      refine ⟨.string S2, FS2 _, ?_⟩
      refine hK _ ?_
      clear hK K
      still_step
      still_step
      refine wpStill_nil ?_
      change wpList _ _ _ _ _ w2.drew
      have hbox2 := hbox.keep hc2 (fun h => h)
      have hcd : Chg Never w2 w2.drew := (Chg.refl Never w2).drew
      have hbox3 := hbox2.keep hcd (fun h => h)
      have hI3 := bld_keep hI2 hcd
      have hm3 := hm2.never hcd
      have hb3 := hb2.trans (hcd.never.mono (Nat.le_trans hBw hb2.size))
      have hw3s : B ≤ w2.drew.heap.size := Nat.le_trans hBw hb3.size
      have hHl : HD.length ≤ 24 := by
        have := head_len ⟨e2, by omega, e4, by omega, by omega, by omega, fun m hm => (mark_ok (marks_ok E1.out m hm)).1⟩
        rw [← hHD, List.length_append]; simp; omega
      generalize w2.drew = w3 at hI3 hm3 hb3 hw3s hbox3
      clear hcd hI2 hm2 hb2 g0 g1 g2 hHD n1 n2 n3 n4 FS1 FS2 hbox hbox2 hc2 hwsz
      go_wp2_with fail
      refine (bldk_string B b bs1 _ _ hI3 (by rw [ByteArray.size_append, ByteArray.size_append, ByteArray.size_append, ByteArray.size_append]; show _ + (4 + S1.size + 2 + S2.size + 4) ≤ _; omega) hw3s).mono ?_
      rintro e w4 ⟨rfl, hI4, b4, k4⟩
      have hI4 : BAt B b (bs1 ++ Lib.byteCells HD) w4 := by rw [← cells_toB, ← HR.out]; exact hI4
      have hb4 := hb3.trans b4
      have hc4 := chg_below b4
      have hm4 : Rdv w4 (From B) (.slice ma x.marks.length mc) x.marks := hm3.keep hc4 (fun _ _ h => h) (fun _ _ h => h)
      obtain ⟨-, -, g2⟩ := (k4.blk3 hbox3 hbne (by decide)).cell
      have hbl2 : (bs1 ++ Lib.byteCells HD).length ≤ 1000500000 := by rw [List.length_append, Lib.byteCells_length]; omega
      obtain ⟨bs2, hbs2⟩ : ∃ bs2, bs1 ++ Lib.byteCells HD = bs2 := ⟨_, rfl⟩
      rw [hbs2] at hI4 hbl2
      have HB2 := Lib.hid hbs2
      clear hI3 hm3 hb3 b4 hc4 HR hbs2 hz1 hz2 k4 hbox3
      have hme4 := (rdv_slice hm4)
      obtain ⟨ma', mc', hq, -, -, hme⟩ := hme4
      injection hq with hq1 _ hq2
      subst hq1 hq2
      have hMK := Lib.hid (marks_ok E1.out)
      have hw4s := Nat.le_trans hBw hb4.size
      have hst0 : bs2 ++ Lib.byteCells (textL ((x.marks.take 0).map markL)) = bs2 := by simp [textL, Lib.byteCells]
      unfold maxLen at *
      go_wp2_with fail
      clear g2
      go_loopw [38] (fun i wi => ∃ q : Nat, q ≤ x.marks.length ∧ i = .int .i64 q ∧ IsB B b (bs2 ++ Lib.byteCells (textL ((x.marks.take q).map markL))) wi ∧ Below B w4 wi) (fun i _ => x.marks.length - (intOf i).toNat)
      case atStart => exact ⟨0, Nat.zero_le _, rfl, by rw [hst0]; exact .inr hI4, Below.refl _ _⟩
      case round =>
        clear hI4
        obtain ⟨q, hq, rfl, hJ, hbi⟩ := hrel
        rename World => wi
        by_cases hql : q < x.marks.length
        · obtain ⟨y, hy⟩ : ∃ y, x.marks[q]? = some y := ⟨x.marks[q], by simp [hql]⟩
          obtain ⟨yb, yoff, rfl, hynb, -, d0, d1, s0, s1, hys⟩ := elems_mark hme hy
          have hci := chg_below hbi
          have d0 := hci.cell d0 hynb
          have d1 := hci.cell d1 hynb
          obtain ⟨m1, m2, m3⟩ := mark_ok (hMK.out y (List.mem_of_getElem? hy))
          have HMT := Lib.hid (textM_take hy)
          have hA : Chg Never wi (wi.alloc (.cells #[.int .u8 y.sign, .string y.text] 61)) := (Chg.refl Never wi).alloc _
          have hbx := Blk2.new wi 61 (.int .u8 y.sign) (.string y.text)
          have hbn : wi.heap.size ≠ b := by
            have : b < wi.heap.size := hJ.elim (fun q => q.lt) (fun q => q.lt)
            omega
          obtain ⟨f0, f1⟩ := hbx.cell
          have hJA := bld_keep hJ hA
          have hbA := hbi.trans (hA.never.mono (Nat.le_trans hw4s hbi.size))
          have hsA := Nat.le_trans hw4s hbA.size
          have hmt : (textL ((x.marks.take q).map markL)).length ≤ 82 * 120 := marks_take_len hMK.out hml
          have hbl3 : (bs2 ++ Lib.byteCells (textL ((x.marks.take q).map markL))).length ≤ 1000600000 := by rw [List.length_append, Lib.byteCells_length]; omega
          have HJ2 : Hid (bs2 ++ Lib.byteCells (textL ((x.marks.take q).map markL)) ++ [.int .u8 y.sign] ++ Lib.strCells (y.text ++ toB [10]) = bs2 ++ Lib.byteCells (textL ((x.marks.take (q + 1)).map markL))) := by
            rw [Hid, HMT.out, Lib.byteCells_append, List.append_assoc, List.append_assoc, mark_cells m1]
          generalize bs2 ++ Lib.byteCells (textL ((x.marks.take q).map markL)) = bs3 at hJA hbl3 HJ2
          clear hy hJ hmt
          go_wp2_with fail
          clear d0 d1
          refine (bldk_byte1 B b bs3 y.sign _ hJA (by omega) hsA).mono ?_
          rintro e w5 ⟨rfl, hJ5, b5, k5⟩
          obtain ⟨f0, f1⟩ := (k5.blk2 hbx hbn (by decide)).cell
          have hb5 := hbA.trans b5
          clear hJA hbx b5 k5 hA
          go_wp2_with fail
          refine (bldk_string B b _ _ _ (.inr hJ5) (by rw [List.length_append, ByteArray.size_append]; show bs3.length + 1 + (y.text.size + 1) ≤ _; omega) (Nat.le_trans hw4s hb5.size)).mono ?_
          rintro e w6 ⟨rfl, hJ6, b6, -⟩
          go_wp2_with fail
          go_roundw
          case rel => exact ⟨q + 1, by omega, by go_num, .inr (by rw [← HJ2.out]; exact hJ6), hb5.trans b6⟩
          case measure => simp [intOf]; omega
        · rw [List.take_of_length_le (by omega)] at hJ
          have hfin : IsB B b (bs ++ Lib.byteCells (textU (l.take (k + 1)))) wi := by
            rw [HT.out, Lib.byteCells_append, ← List.append_assoc, HB1.out, HUL.out, Lib.byteCells_append, ← List.append_assoc, HB2.out]
            exact hJ
          have hbf := hb4.trans hbi
          clear hJ hbi hme hMK
          go_wp2_with fail
          go_roundw
          case rel => exact ⟨k + 1, by omega, by go_num, hfin, hbf⟩
          case measure => simp [intOf]; omega
    · rw [List.take_of_length_le (by omega)] at hI
      go_wp2_with fail
      go_end0
      exact ⟨rfl, hI, hb⟩
end Go.Proofs.YtgabchhplmncnaaDoor
namespace Go.Proofs.YtgabchhplmncnaaDoor
open Go.RowKit Go.Sort
end Go.Proofs.YtgabchhplmncnaaDoor
namespace Go.Proofs.YtgabchhplmncnaaDoor

/-- the 64 letters -/
def letters : List UInt8 := [65, 66, 67, 68, 69, 70, 71, 72, 73, 74, 75, 76, 77, 78, 79, 80, 81, 82, 83, 84, 85, 86, 87, 88, 89, 90, 97, 98, 99, 100, 101, 102, 103, 104, 105, 106, 107, 108, 109, 110, 111, 112, 113, 114, 115, 116, 117, 118, 119, 120, 121, 122, 48, 49, 50, 51, 52, 53, 54, 55, 56, 57, 43, 47]
def letterAt (k : Nat) : UInt8 := letters.getD k 0
def idxOf (c : UInt8) : Option Nat := letters.findIdx? (· == c)
/-- up to three bytes as a number -/
def num3 : List UInt8 → Nat
  | [] => 0
  | [a] => a.toNat * 65536
  | [a, b] => a.toNat * 65536 + b.toNat * 256
  | a :: b :: c :: _ => a.toNat * 65536 + b.toNat * 256 + c.toNat
/-- four letters of at most three bytes -/
def fourOf (l : List UInt8) : List UInt8 :=
  (List.range 4).map fun i => if l.length < i then 61 else letterAt (num3 l / 2 ^ (18 - 6 * i) % 64)
/-- the letters of some bytes, so many of them written before -/
def encGo : List UInt8 → Nat → List UInt8
  | [], _ => []
  | x :: r, n => fourOf ((x :: r).take 3) ++ (if (n + 4) % 76 = 0 ∨ (x :: r).drop 3 = [] then [10] else []) ++ encGo ((x :: r).drop 3) (n + 4)
termination_by l _ => l.length
decreasing_by simp; omega
def encL (l : List UInt8) : List UInt8 := encGo l 0
/-- letter by letter: bytes that come of them -/
def decGo : List UInt8 → Nat → Nat → List UInt8 → List UInt8
  | [], _, _, out => out
  | c :: r, n, bits, out => match idxOf c with
    | none => out
    | some k => if 8 ≤ bits + 6 then decGo r ((n * 64 + k) % 2 ^ (bits + 6 - 8)) (bits + 6 - 8) (out ++ [UInt8.ofNat ((n * 64 + k) / 2 ^ (bits + 6 - 8))]) else decGo r (n * 64 + k) (bits + 6) out
def decL (s : List UInt8) : List UInt8 := decGo (s.filter (· ≠ 10)) 0 0 []

theorem idx_letter : ∀ k, k < 64 → idxOf (letterAt k) = some k := by decide +kernel
theorem letter_nl : ∀ k, k < 64 → letterAt k ≠ 10 := by decide +kernel
theorem four_nl (l : List UInt8) : ∀ c ∈ fourOf l, c ≠ 10 := by
  intro c hc
  unfold fourOf at hc
  obtain ⟨i, _, rfl⟩ := List.mem_map.1 hc
  split
  · decide
  · exact letter_nl _ (Nat.mod_lt _ (by decide))
theorem four_len (l : List UInt8) : (fourOf l).length = 4 := by simp [fourOf]
theorem num3_0 (a b c : UInt8) : num3 [a, b, c] = a.toNat * 65536 + b.toNat * 256 + c.toNat := rfl
theorem four_3 (a b c : UInt8) : fourOf [a, b, c] = [letterAt (a.toNat / 4), letterAt (a.toNat % 4 * 16 + b.toNat / 16), letterAt (b.toNat % 16 * 4 + c.toNat / 64), letterAt (c.toNat % 64)] := by
  have ha := a.toNat_lt
  have hb := b.toNat_lt
  have hc := c.toNat_lt
  have e0 : (a.toNat * 65536 + b.toNat * 256 + c.toNat) / 262144 % 64 = a.toNat / 4 := by omega
  have e1 : (a.toNat * 65536 + b.toNat * 256 + c.toNat) / 4096 % 64 = a.toNat % 4 * 16 + b.toNat / 16 := by omega
  have e2 : (a.toNat * 65536 + b.toNat * 256 + c.toNat) / 64 % 64 = b.toNat % 16 * 4 + c.toNat / 64 := by omega
  have e3 : (a.toNat * 65536 + b.toNat * 256 + c.toNat) / 1 % 64 = c.toNat % 64 := by omega
  show [letterAt ((a.toNat * 65536 + b.toNat * 256 + c.toNat) / 262144 % 64), letterAt ((a.toNat * 65536 + b.toNat * 256 + c.toNat) / 4096 % 64), letterAt ((a.toNat * 65536 + b.toNat * 256 + c.toNat) / 64 % 64), letterAt ((a.toNat * 65536 + b.toNat * 256 + c.toNat) / 1 % 64)] = _
  rw [e0, e1, e2, e3]
theorem four_2 (a b : UInt8) : fourOf [a, b] = [letterAt (a.toNat / 4), letterAt (a.toNat % 4 * 16 + b.toNat / 16), letterAt (b.toNat % 16 * 4), 61] := by
  have ha := a.toNat_lt
  have hb := b.toNat_lt
  have e0 : (a.toNat * 65536 + b.toNat * 256) / 262144 % 64 = a.toNat / 4 := by omega
  have e1 : (a.toNat * 65536 + b.toNat * 256) / 4096 % 64 = a.toNat % 4 * 16 + b.toNat / 16 := by omega
  have e2 : (a.toNat * 65536 + b.toNat * 256) / 64 % 64 = b.toNat % 16 * 4 := by omega
  show [letterAt ((a.toNat * 65536 + b.toNat * 256) / 262144 % 64), letterAt ((a.toNat * 65536 + b.toNat * 256) / 4096 % 64), letterAt ((a.toNat * 65536 + b.toNat * 256) / 64 % 64), 61] = _
  rw [e0, e1, e2]
theorem four_1 (a : UInt8) : fourOf [a] = [letterAt (a.toNat / 4), letterAt (a.toNat % 4 * 16), 61, 61] := by
  have ha := a.toNat_lt
  have e0 : (a.toNat * 65536) / 262144 % 64 = a.toNat / 4 := by omega
  have e1 : (a.toNat * 65536) / 4096 % 64 = a.toNat % 4 * 16 := by omega
  show [letterAt ((a.toNat * 65536) / 262144 % 64), letterAt ((a.toNat * 65536) / 4096 % 64), 61, 61] = _
  rw [e0, e1]
theorem dec_step {k n bits : Nat} (hk : k < 64) (r out : List UInt8) : decGo (letterAt k :: r) n bits out = if 8 ≤ bits + 6 then decGo r ((n * 64 + k) % 2 ^ (bits + 6 - 8)) (bits + 6 - 8) (out ++ [UInt8.ofNat ((n * 64 + k) / 2 ^ (bits + 6 - 8))]) else decGo r (n * 64 + k) (bits + 6) out := by
  rw [decGo, idx_letter k hk]
theorem dec_stop (r : List UInt8) (n bits : Nat) (out : List UInt8) : decGo (61 :: r) n bits out = out := by
  rw [decGo, show idxOf 61 = none by decide +kernel]
theorem ofNat_is {a : UInt8} {n : Nat} (h : n = a.toNat) : UInt8.ofNat n = a := by rw [h]; simp
theorem dec_two (a : UInt8) {k : Nat} (hk : k < 16) (r out : List UInt8) : decGo (letterAt (a.toNat / 4) :: letterAt (a.toNat % 4 * 16 + k) :: r) 0 0 out = decGo r k 4 (out ++ [a]) := by
  have ha := a.toNat_lt
  rw [dec_step (by omega), if_neg (by decide), dec_step (by omega), if_pos (by decide)]
  show decGo r (((0 * 64 + a.toNat / 4) * 64 + (a.toNat % 4 * 16 + k)) % 16) 4 (out ++ [UInt8.ofNat (((0 * 64 + a.toNat / 4) * 64 + (a.toNat % 4 * 16 + k)) / 16)]) = _
  rw [show ((0 * 64 + a.toNat / 4) * 64 + (a.toNat % 4 * 16 + k)) % 16 = k by omega, ofNat_is (a := a) (by omega)]
theorem dec_three (b : UInt8) {k : Nat} (hk : k < 4) (r out : List UInt8) : decGo (letterAt (b.toNat % 16 * 4 + k) :: r) (b.toNat / 16) 4 out = decGo r k 2 (out ++ [b]) := by
  have hb := b.toNat_lt
  rw [dec_step (by omega), if_pos (by decide)]
  show decGo r ((b.toNat / 16 * 64 + (b.toNat % 16 * 4 + k)) % 4) 2 (out ++ [UInt8.ofNat ((b.toNat / 16 * 64 + (b.toNat % 16 * 4 + k)) / 4)]) = _
  rw [show (b.toNat / 16 * 64 + (b.toNat % 16 * 4 + k)) % 4 = k by omega, ofNat_is (a := b) (by omega)]
theorem dec_four (c : UInt8) (r out : List UInt8) : decGo (letterAt (c.toNat % 64) :: r) (c.toNat / 64) 2 out = decGo r 0 0 (out ++ [c]) := by
  have hc := c.toNat_lt
  rw [dec_step (by omega), if_pos (by decide)]
  show decGo r ((c.toNat / 64 * 64 + c.toNat % 64) % 1) 0 (out ++ [UInt8.ofNat ((c.toNat / 64 * 64 + c.toNat % 64) / 1)]) = _
  rw [show (c.toNat / 64 * 64 + c.toNat % 64) % 1 = 0 by omega, ofNat_is (a := c) (by omega)]
theorem filter_four (l : List UInt8) : (fourOf l).filter (· ≠ 10) = fourOf l := List.filter_eq_self.2 fun c hc => by simpa using four_nl l c hc
theorem filter_nl (p : Prop) [Decidable p] : (if p then [(10 : UInt8)] else []).filter (· ≠ 10) = [] := by split <;> rfl
theorem dec_enc : ∀ (k : Nat) (l : List UInt8) (n : Nat) (out : List UInt8), l.length ≤ k → decGo ((encGo l n).filter (· ≠ 10)) 0 0 out = out ++ l
  | _, [], n, out, _ => by rw [encGo]; simp [decGo]
  | 0, _ :: _, _, _, h => by simp at h
  | _ + 1, [a], n, out, _ => by
    have ha := a.toNat_lt
    rw [encGo]
    simp only [List.take_succ_cons, List.take_nil, List.drop_succ_cons, List.drop_nil, List.filter_append, filter_four, filter_nl, List.append_nil]
    rw [encGo, four_1, show a.toNat % 4 * 16 = a.toNat % 4 * 16 + 0 by omega]
    simp only [List.filter_nil, List.append_nil]
    rw [dec_two a (by decide), dec_stop]
  | _ + 1, [a, b], n, out, _ => by
    have ha := a.toNat_lt
    have hb := b.toNat_lt
    rw [encGo]
    simp only [List.take_succ_cons, List.take_nil, List.drop_succ_cons, List.drop_nil, List.filter_append, filter_four, filter_nl, List.append_nil]
    rw [encGo, four_2, show b.toNat % 16 * 4 = b.toNat % 16 * 4 + 0 by omega]
    simp only [List.filter_nil, List.append_nil]
    rw [dec_two a (by omega), dec_three b (by decide), dec_stop]
    simp
  | k + 1, a :: b :: c :: r, n, out, h => by
    have ha := a.toNat_lt
    have hb := b.toNat_lt
    have hc := c.toNat_lt
    rw [encGo]
    simp only [List.take_succ_cons, List.take_zero, List.drop_succ_cons, List.drop_zero, List.filter_append, filter_four, filter_nl, List.append_nil]
    rw [four_3]
    simp only [List.cons_append, List.nil_append]
    rw [dec_two a (by omega), dec_three b (by omega), dec_four c, dec_enc k r (n + 4) _ (by simp at h; omega)]
    simp
/-- what is written is read -/
theorem dec_encL (l : List UInt8) : decL (encL l) = l := by
  unfold decL encL
  rw [dec_enc l.length l 0 [] (Nat.le_refl _), List.nil_append]
/-! ### lines -/
theorem enc_mod : ∀ (k : Nat) (l : List UInt8) (n m : Nat), l.length ≤ k → n % 76 = m % 76 → encGo l n = encGo l m
  | _, [], n, m, _, _ => by rw [encGo, encGo]
  | 0, _ :: _, _, _, h, _ => by simp at h
  | k + 1, x :: r, n, m, h, e => by
    rw [encGo, encGo]
    have e2 : (n + 4) % 76 = (m + 4) % 76 := by omega
    rw [enc_mod k ((x :: r).drop 3) (n + 4) (m + 4) (by simp at h ⊢; omega) e2, e2]
/-- so many groups of three ahead, and more behind -/
theorem enc_ahead : ∀ (k : Nat) (m : List UInt8) (b : List UInt8) (n : Nat), m.length = 3 * k → b ≠ [] → n + 4 * k ≤ 76 → ∃ s, encGo (m ++ b) n = s ++ (if n + 4 * k = 76 ∧ 0 < k then [10] else []) ++ encGo b (n + 4 * k) ∧ (0 < k → encGo m n = s ++ [10])
  | 0, m, b, n, h, _, _ => by
    have : m = [] := List.eq_nil_of_length_eq_zero h
    subst this
    exact ⟨[], by simp, fun h => absurd h (by decide)⟩
  | k + 1, m, b, n, h, hb, hn => by
    match m, h with
    | x :: y :: z :: r, h =>
      have hr : r.length = 3 * k := by simp at h; omega
      obtain ⟨s, h1, h2⟩ := enc_ahead k r b (n + 4) hr hb (by omega)
      have e1 : ((x :: y :: z :: r) ++ b).take 3 = [x, y, z] := rfl
      have e2 : ((x :: y :: z :: r) ++ b).drop 3 = r ++ b := rfl
      have e3 : (x :: y :: z :: r).take 3 = [x, y, z] := rfl
      have e4 : (x :: y :: z :: r).drop 3 = r := rfl
      have hne : r ++ b ≠ [] := by simp [hb]
      rw [List.cons_append, encGo, encGo]
      rw [show (x :: (y :: z :: r ++ b)) = (x :: y :: z :: r) ++ b from rfl, e1, e2, e3, e4, h1]
      by_cases hk : k = 0
      · subst hk
        have hr0 : r = [] := List.eq_nil_of_length_eq_zero hr
        subst hr0
        have hs : s = [] := by
          have := congrArg List.length h1
          simp at this
          exact this
        subst hs
        refine ⟨fourOf [x, y, z], ?_, fun _ => by rw [encGo, if_pos (.inr rfl)]; simp⟩
        by_cases h76 : n + 4 = 76
        · rw [if_pos (.inl (by rw [h76])), if_neg (by simp), if_pos ⟨by omega, by decide⟩]; simp
        · rw [if_neg (by rintro (h | h); · omega
                         · exact hne h), if_neg (by simp), if_neg (by rintro ⟨h, _⟩; omega)]; simp
      · have hn4 : ¬ (n + 4) % 76 = 0 := by omega
        have hrn : r ≠ [] := fun e => by rw [e] at hr; simp at hr; omega
        rw [if_neg (by rintro (h | h); · exact hn4 h
                       · exact hne h)]
        refine ⟨fourOf [x, y, z] ++ s, ?_, fun _ => ?_⟩
        · have e5 : n + 4 + 4 * k = n + 4 * (k + 1) := by omega
          rw [e5]
          have e6 : (n + 4 * (k + 1) = 76 ∧ 0 < k) ↔ (n + 4 * (k + 1) = 76 ∧ 0 < k + 1) := by omega
          simp only [e6, List.append_assoc, List.nil_append]
        · rw [if_neg (by rintro (h | h); · exact hn4 h
                         · exact hrn h), h2 (by omega)]
          simp
/-- 57 bytes more ahead are a line more ahead -/
theorem enc_line (m b : List UInt8) (h : m.length = 57) : encL (m ++ b) = encL m ++ encL b := by
  unfold encL
  by_cases hb : b = []
  · subst hb
    rw [List.append_nil, show encGo [] 0 = [] by rw [encGo], List.append_nil]
  · obtain ⟨s, h1, h2⟩ := enc_ahead 19 m b 0 (by omega) hb (by omega)
    rw [h1, h2 (by decide), enc_mod b.length b (0 + 4 * 19) 0 (Nat.le_refl _) (by decide)]
    simp
end Go.Proofs.YtgabchhplmncnaaDoor
namespace Go.Proofs.YtgabchhplmncnaaDoor

def wordB (s : List UInt8) : Bool := !(s == []) && decide (s.length ≤ 40) && s.all fun c => decide (32 ≤ c.toNat) && decide (c.toNat ≤ 126)
def mailFault (m : Mail) : Int :=
  if wordB m.sender.data.toList = false ∨ wordB m.subject.data.toList = false ∨ wordB m.ident.data.toList = false ∨ 60 ∈ m.ident.data.toList ∨ 62 ∈ m.ident.data.toList then 5
  else if 40000 < m.body.length then 3 else 0
def fromW : List UInt8 := [70, 114, 111, 109, 58, 32]
def subjW : List UInt8 := [83, 117, 98, 106, 101, 99, 116, 58, 32]
def idW : List UInt8 := [77, 101, 115, 115, 97, 103, 101, 45, 73, 68, 58, 32, 60]
def codW : List UInt8 := [67, 111, 110, 116, 101, 110, 116, 45, 84, 114, 97, 110, 115, 102, 101, 114, 45, 69, 110, 99, 111, 100, 105, 110, 103, 58, 32, 98, 97, 115, 101, 54, 52]
def mailText (m : Mail) : List UInt8 :=
  (fromW ++ m.sender.data.toList) ++ [10] ++ ((subjW ++ m.subject.data.toList) ++ [10] ++ ((idW ++ (m.ident.data.toList ++ [62])) ++ [10] ++ (codW ++ [10] ++ ([] ++ [10] ++ encL m.body))))
/-- so many cuts at most -/
def splitN : Nat → List UInt8 → List (List UInt8)
  | 0, s => [s]
  | k + 1, s => match cutSub [10] s with
    | none => [s]
    | some (a, b) => a :: splitN k b
def fieldL (p q s : List UInt8) : List UInt8 := (dropSuf q ((dropPre p s).getD s)).getD ((dropPre p s).getD s)
def parseM (s : List UInt8) : Option Mail := match splitN 5 s with
  | [a, b, c, _, _, z] => if encL (decL z) = z ∧ (decL z).length ≤ 40000 then
      if mailFault ⟨toB (fieldL fromW [] a), toB (fieldL subjW [] b), toB (fieldL idW [62] c), decL z⟩ = 0 ∧ mailText ⟨toB (fieldL fromW [] a), toB (fieldL subjW [] b), toB (fieldL idW [62] c), decL z⟩ = s then
        some ⟨toB (fieldL fromW [] a), toB (fieldL subjW [] b), toB (fieldL idW [62] c), decL z⟩ else none
      else none
  | _ => none
theorem split_next {a : List UInt8} (k : Nat) (b : List UInt8) (h : ∀ c ∈ a, c ≠ 10) : splitN (k + 1) (a ++ [10] ++ b) = a :: splitN k b := by
  rw [splitN, cut_at (x := 10) (t := []) b h]
theorem word_nl {s : List UInt8} (h : wordB s = true) : ∀ c ∈ s, c ≠ 10 := fun c hc e => by
  unfold wordB at h
  rw [Bool.and_eq_true] at h
  have := List.all_eq_true.1 h.2 c hc
  rw [e] at this
  exact absurd this (by decide)
theorem field_back (p q r : List UInt8) : fieldL p q (p ++ (r ++ q)) = r := by
  unfold fieldL
  rw [pre_app]
  show (dropSuf q (r ++ q)).getD (r ++ q) = r
  rw [suf_app]; rfl
/-- what is printed is read -/
theorem mail_back {m : Mail} (h : mailFault m = 0) : parseM (mailText m) = some m := by
  have h0 := h
  unfold mailFault at h
  by_cases h1 : wordB m.sender.data.toList = false ∨ wordB m.subject.data.toList = false ∨ wordB m.ident.data.toList = false ∨ 60 ∈ m.ident.data.toList ∨ 62 ∈ m.ident.data.toList
  · rw [if_pos h1] at h; cases h
  · rw [if_neg h1] at h
    by_cases h2 : 40000 < m.body.length
    · rw [if_pos h2] at h; cases h
    · have w1 : wordB m.sender.data.toList = true := by
        cases e : wordB m.sender.data.toList with
        | true => rfl
        | false => exact absurd (.inl e) h1
      have w2 : wordB m.subject.data.toList = true := by
        cases e : wordB m.subject.data.toList with
        | true => rfl
        | false => exact absurd (.inr (.inl e)) h1
      have w3 : wordB m.ident.data.toList = true := by
        cases e : wordB m.ident.data.toList with
        | true => rfl
        | false => exact absurd (.inr (.inr (.inl e))) h1
      have join : ∀ {a b : List UInt8}, (∀ c ∈ a, c ≠ 10) → (∀ c ∈ b, c ≠ 10) → ∀ c ∈ a ++ b, c ≠ 10 := fun ha hb c hc => by
        rcases List.mem_append.1 hc with q | q
        · exact ha c q
        · exact hb c q
      have es : splitN 5 (mailText m) = [fromW ++ m.sender.data.toList, subjW ++ m.subject.data.toList, idW ++ (m.ident.data.toList ++ [62]), codW, [], encL m.body] := by
        unfold mailText
        rw [split_next 4 _ (join (by decide) (word_nl w1)), split_next 3 _ (join (by decide) (word_nl w2)), split_next 2 _ (join (by decide) (join (word_nl w3) (by decide))), split_next 1 _ (by decide), split_next 0 _ (by simp), splitN]
      have f1 : fieldL fromW [] (fromW ++ m.sender.data.toList) = m.sender.data.toList := by
        have := field_back fromW [] m.sender.data.toList
        rwa [List.append_nil] at this
      have f2 : fieldL subjW [] (subjW ++ m.subject.data.toList) = m.subject.data.toList := by
        have := field_back subjW [] m.subject.data.toList
        rwa [List.append_nil] at this
      unfold parseM
      rw [es]
      simp only
      rw [f1, f2, field_back, dec_encL, toB_of, toB_of, toB_of, if_pos ⟨rfl, by omega⟩, if_pos ⟨h0, rfl⟩]
/-- what is read is printed so -/
theorem mail_some {s : List UInt8} {m : Mail} (h : parseM s = some m) : mailText m = s ∧ mailFault m = 0 := by
  unfold parseM at h
  split at h
  · split at h
    · split at h
      · rename_i q
        injection h with h
        subst h
        exact ⟨q.2, q.1⟩
      · cases h
    · cases h
  · cases h
end Go.Proofs.YtgabchhplmncnaaDoor
namespace Go.Proofs.YtgabchhplmncnaaDoor

def markW : List UInt8 := [70, 114, 111, 109, 32, 45, 32, 10]
def sepW : List UInt8 := 10 :: markW
def boxText (l : List Mail) : List UInt8 := l.flatMap fun m => markW ++ (mailText m ++ [10])
def splitAll : Nat → List UInt8 → List (List UInt8)
  | 0, s => [s]
  | k + 1, s => match cutSub sepW s with
    | none => [s]
    | some (a, b) => a :: splitAll k b
/-- no newline of a text has the mark behind it -/
def Clean (t : List UInt8) : Prop := ∀ u v r, t = u ++ 10 :: v → markW.isPrefixOf (v ++ 10 :: r) = false
theorem clean_tail {c : UInt8} {t : List UInt8} (h : Clean (c :: t)) : Clean t := fun u v r e => h (c :: u) v r (by rw [e]; rfl)
theorem cut_clean (b : List UInt8) : ∀ {t : List UInt8}, Clean t → cutSub sepW (t ++ sepW ++ b) = some (t, b)
  | [], _ => by
    rw [List.nil_append]
    show cutSub sepW (10 :: (markW ++ b)) = _
    rw [cutSub, if_pos (by rw [List.isPrefixOf_iff_prefix]; exact ⟨b, rfl⟩)]
    show some ([], (sepW ++ b).drop sepW.length) = _
    rw [List.drop_left]
  | c :: t, h => by
    rw [List.cons_append, List.cons_append, cutSub, if_neg, cut_clean b (clean_tail h)]
    · rfl
    · intro q
      unfold sepW at q
      rw [List.isPrefixOf, Bool.and_eq_true] at q
      obtain ⟨q1, q2⟩ := q
      have q1 : c = 10 := (eq_of_beq q1).symm
      subst q1
      have := h [] t (markW ++ b) rfl
      rw [show t ++ 10 :: (markW ++ b) = t ++ 10 :: markW ++ b by simp] at this
      rw [q2] at this; cases this
theorem cut_last : ∀ {t : List UInt8}, Clean t → cutSub sepW (t ++ [10]) = none
  | [], _ => rfl
  | c :: t, h => by
    rw [List.cons_append, cutSub, if_neg, cut_last (t := t) (clean_tail h)]
    · rfl
    · intro q
      unfold sepW at q
      rw [List.isPrefixOf, Bool.and_eq_true] at q
      obtain ⟨q1, q2⟩ := q
      have q1 : c = 10 := (eq_of_beq q1).symm
      subst q1
      rw [h [] t [] rfl] at q2; cases q2
theorem clean_line {t : List UInt8} (ht : ∀ r, markW.isPrefixOf (t ++ 10 :: r) = false) (hc : Clean t) : ∀ {a : List UInt8}, (∀ c ∈ a, c ≠ 10) → Clean (a ++ [10] ++ t)
  | [], _, u, v, r, e => by
    cases u with
    | nil =>
      injection e with _ e
      rw [← e]; exact ht r
    | cons x u =>
      injection e with _ e
      exact hc u v r e
  | c :: a, h, u, v, r, e => by
    cases u with
    | nil =>
      injection e with e _
      exact absurd e (h c (List.mem_cons_self ..))
    | cons x u =>
      injection e with _ e
      exact clean_line ht hc (fun d hd => h d (List.mem_cons_of_mem _ hd)) u v r e
theorem mark_space (r : List UInt8) : ∀ (v : List UInt8), (∀ c ∈ v, c ≠ 32) → markW.isPrefixOf (v ++ 10 :: r) = false
  | [], _ => rfl
  | [a], _ => by simp [markW, List.isPrefixOf]
  | [a, b], _ => by simp [markW, List.isPrefixOf]
  | [a, b, c], _ => by simp [markW, List.isPrefixOf]
  | [a, b, c, d], _ => by simp [markW, List.isPrefixOf]
  | a :: b :: c :: d :: e :: v, h => by
    have he : e ≠ 32 := h e (by simp)
    have : (32 == e) = false := by simpa using fun q => he q.symm
    simp [markW, List.isPrefixOf, this]
theorem clean_space {t : List UInt8} (h : ∀ c ∈ t, c ≠ 32) : Clean t := fun u v r e => mark_space r v fun c hc => h c (by rw [e]; simp [hc])
theorem letter_sp : ∀ k, k < 64 → letterAt k ≠ 32 := by decide +kernel
theorem enc_sp : ∀ (k : Nat) (l : List UInt8) (n : Nat), l.length ≤ k → ∀ c ∈ encGo l n, c ≠ 32
  | _, [], n, _, c, hc => by rw [encGo] at hc; cases hc
  | 0, _ :: _, _, h, _, _ => by simp at h
  | k + 1, x :: r, n, h, c, hc => by
    rw [encGo] at hc
    rcases List.mem_append.1 hc with hc | hc
    · rcases List.mem_append.1 hc with hc | hc
      · unfold fourOf at hc
        obtain ⟨i, _, rfl⟩ := List.mem_map.1 hc
        split
        · decide
        · exact letter_sp _ (Nat.mod_lt _ (by decide))
      · split at hc
        · rw [List.mem_singleton.1 hc]; decide
        · cases hc
    · exact enc_sp k _ _ (by simp at h ⊢; omega) c hc
theorem mail_clean {m : Mail} (h : mailFault m = 0) : Clean (mailText m) := by
  unfold mailFault at h
  by_cases h1 : wordB m.sender.data.toList = false ∨ wordB m.subject.data.toList = false ∨ wordB m.ident.data.toList = false ∨ 60 ∈ m.ident.data.toList ∨ 62 ∈ m.ident.data.toList
  · rw [if_pos h1] at h; cases h
  · have w1 : wordB m.sender.data.toList = true := by
      cases e : wordB m.sender.data.toList with
      | true => rfl
      | false => exact absurd (.inl e) h1
    have w2 : wordB m.subject.data.toList = true := by
      cases e : wordB m.subject.data.toList with
      | true => rfl
      | false => exact absurd (.inr (.inl e)) h1
    have w3 : wordB m.ident.data.toList = true := by
      cases e : wordB m.ident.data.toList with
      | true => rfl
      | false => exact absurd (.inr (.inr (.inl e))) h1
    have join : ∀ {a b : List UInt8}, (∀ c ∈ a, c ≠ 10) → (∀ c ∈ b, c ≠ 10) → ∀ c ∈ a ++ b, c ≠ 10 := fun ha hb c hc => by
      rcases List.mem_append.1 hc with q | q
      · exact ha c q
      · exact hb c q
    have he : Clean (encL m.body) := clean_space (enc_sp _ _ _ (Nat.le_refl _))
    have h5 : Clean ([] ++ [10] ++ encL m.body) := clean_line (fun r => mark_space r _ (enc_sp _ _ _ (Nat.le_refl _))) he (by simp)
    have h4 : Clean (codW ++ [10] ++ ([] ++ [10] ++ encL m.body)) := clean_line (fun r => rfl) h5 (by decide)
    have h3 := clean_line (a := idW ++ (m.ident.data.toList ++ [62])) (fun r => rfl) h4 (join (by decide) (join (word_nl w3) (by decide)))
    have h2 := clean_line (a := subjW ++ m.subject.data.toList) (fun r => rfl) h3 (join (by decide) (word_nl w2))
    exact clean_line (a := fromW ++ m.sender.data.toList) (fun r => rfl) h2 (join (by decide) (word_nl w1))
def allM : List (List UInt8) → Option (List Mail)
  | [] => some []
  | s :: r => match parseM s with
    | none => none
    | some m => (allM r).map fun l => m :: l
def parseBox (s : List UInt8) : Option (List Mail) :=
  if s = [] then some [] else match dropPre markW s with
  | none => none
  | some r => if 16 < (splitAll r.length r).length then none else match dropSuf [10] ((splitAll r.length r).getLastD []) with
    | none => none
    | some y => allM ((splitAll r.length r).dropLast ++ [y])
def tailB (m : Mail) (l : List Mail) : List UInt8 := mailText m ++ [10] ++ boxText l
theorem box_cons (m : Mail) (l : List Mail) : boxText (m :: l) = markW ++ tailB m l := by
  show (markW ++ (mailText m ++ [10])) ++ boxText l = _
  unfold tailB
  simp
theorem split_box : ∀ (l : List Mail) (m : Mail) (k : Nat), l.length ≤ k → mailFault m = 0 → (∀ x ∈ l, mailFault x = 0) → ∃ a z, splitAll k (tailB m l) = a ++ [z ++ [10]] ∧ a ++ [z] = (m :: l).map mailText
  | [], m, k, _, hm, _ => by
    refine ⟨[], mailText m, ?_, rfl⟩
    have e : tailB m [] = mailText m ++ [10] := by unfold tailB boxText; simp
    rw [e]
    cases k with
    | zero => rfl
    | succ k => rw [splitAll, cut_last (mail_clean hm)]; rfl
  | x :: l, m, k, hk, hm, hl => by
    obtain ⟨k, rfl⟩ : ∃ j, k = j + 1 := ⟨k - 1, by simp at hk; omega⟩
    obtain ⟨a, z, h1, h2⟩ := split_box l x k (by simpa using hk) (hl x (List.mem_cons_self ..)) fun y hy => hl y (List.mem_cons_of_mem _ hy)
    refine ⟨mailText m :: a, z, ?_, by rw [List.cons_append, h2]; rfl⟩
    have e : tailB m (x :: l) = mailText m ++ sepW ++ tailB x l := by
      show mailText m ++ [10] ++ boxText (x :: l) = _
      rw [box_cons]
      unfold sepW
      simp
    rw [e, splitAll, cut_clean _ (mail_clean hm)]
    simp only
    rw [h1]; rfl
theorem all_back : ∀ (l : List Mail), (∀ x ∈ l, mailFault x = 0) → allM (l.map mailText) = some l
  | [], _ => rfl
  | m :: l, h => by
    rw [List.map_cons, allM, mail_back (h m (List.mem_cons_self ..))]
    simp only
    rw [all_back l fun x hx => h x (List.mem_cons_of_mem _ hx)]; rfl
theorem box_len : ∀ (l : List Mail), l.length ≤ (boxText l).length
  | [] => Nat.le_refl _
  | m :: l => by
    rw [box_cons]
    unfold tailB markW
    have := box_len l
    simp only [List.length_append, List.length_cons, List.length_nil]
    omega
/-- what is boxed is opened -/
theorem box_back {l : List Mail} (hl : l.length ≤ 16) (h : ∀ x ∈ l, mailFault x = 0) : parseBox (boxText l) = some l := by
  cases l with
  | nil => rfl
  | cons m l =>
    have hk : l.length ≤ (tailB m l).length := by
      have := box_len l
      unfold tailB
      simp only [List.length_append, List.length_cons, List.length_nil]
      omega
    obtain ⟨a, z, h1, h2⟩ := split_box l m _ hk (h m (List.mem_cons_self ..)) fun y hy => h y (List.mem_cons_of_mem _ hy)
    have hlen : (a ++ [z ++ [10]]).length = (m :: l).length := by
      have := congrArg List.length h2
      rw [List.length_map] at this
      rw [← this]
      simp
    rw [box_cons]
    unfold parseBox
    rw [if_neg (by unfold markW; simp), pre_app]
    simp only
    rw [h1, if_neg (by omega), List.getLastD_concat, suf_app, List.dropLast_concat]
    simp only
    rw [h2, all_back _ h]
theorem box_app (l k : List Mail) : boxText (l ++ k) = boxText l ++ boxText k := List.flatMap_append ..
end Go.Proofs.YtgabchhplmncnaaDoor
namespace Go.Proofs.YtgabchhplmncnaaDoor

theorem cut_index {t : List UInt8} (ht : t ≠ []) : ∀ (s : List UInt8), match cutSub t s with
    | none => Lib.index s t = -1
    | some p => Lib.index s t = (p.1.length : Int) ∧ p.1 = s.take p.1.length ∧ p.2 = s.drop (p.1.length + t.length)
  | [] => by
    rw [cutSub, if_neg ht]
    show Lib.index [] t = -1
    unfold Lib.index
    rw [if_neg (by simpa using ht)]
  | c :: r => by
    have ih := cut_index ht r
    rw [cutSub]
    by_cases hp : t.isPrefixOf (c :: r) = true
    · rw [if_pos hp]
      refine ⟨?_, rfl, by simp⟩
      unfold Lib.index
      rw [if_pos hp]; rfl
    · rw [if_neg hp]
      cases hc : cutSub t r with
      | none =>
        rw [hc] at ih
        show Lib.index (c :: r) t = -1
        unfold Lib.index
        rw [if_neg hp, ih]; rfl
      | some p =>
        rw [hc] at ih
        obtain ⟨h1, h2, h3⟩ := ih
        show Lib.index (c :: r) t = ((c :: p.1).length : Int) ∧ c :: p.1 = (c :: r).take (c :: p.1).length ∧ p.2 = (c :: r).drop ((c :: p.1).length + t.length)
        refine ⟨?_, ?_, ?_⟩
        · unfold Lib.index
          rw [if_neg hp, h1, if_neg (by simp), List.length_cons]; omega
        · rw [List.length_cons, List.take_succ_cons, ← h2]
        · rw [List.length_cons, show p.1.length + 1 + t.length = p.1.length + t.length + 1 by omega, List.drop_succ_cons]; exact h3
/-- cut so many times at most -/
def cutsK (t : List UInt8) : Nat → List UInt8 → List (List UInt8)
  | 0, s => [s]
  | k + 1, s => match cutSub t s with
    | none => [s]
    | some (a, b) => a :: cutsK t k b
theorem splitK_cuts {t : List UInt8} (ht : t ≠ []) : ∀ (k : Nat) (s : List UInt8), Lib.splitK t 0 k s = cutsK t k s
  | 0, s => rfl
  | k + 1, s => by
    have h := cut_index ht s
    rw [Lib.splitK, cutsK]
    cases hc : cutSub t s with
    | none =>
      rw [hc] at h
      rw [if_pos (by rw [h]; rfl)]
    | some p =>
      rw [hc] at h
      obtain ⟨h1, h2, h3⟩ := h
      rw [if_neg (by rw [h1]; simp), h1]
      simp only [Int.toNat_natCast, Nat.add_zero]
      rw [← h2, ← h3, splitK_cuts ht k p.2]
theorem splitN_cuts : ∀ (k : Nat) (s : List UInt8), splitN k s = cutsK [10] k s
  | 0, s => rfl
  | k + 1, s => by
    rw [splitN, cutsK]
    cases cutSub [10] s with
    | none => rfl
    | some p => simp only; rw [splitN_cuts k p.2]
theorem splitAll_cuts : ∀ (k : Nat) (s : List UInt8), splitAll k s = cutsK sepW k s
  | 0, s => rfl
  | k + 1, s => by
    rw [splitAll, cutsK]
    cases cutSub sepW s with
    | none => rfl
    | some p => simp only; rw [splitAll_cuts k p.2]
theorem cut_shorter {t s : List UInt8} {p : List UInt8 × List UInt8} (ht : t ≠ []) (h : cutSub t s = some p) : p.2.length < s.length := by
  have := cut_some (a := p.1) (b := p.2) h
  have hl := congrArg List.length this
  simp only [List.length_append] at hl
  have := List.length_pos_iff.2 ht
  omega
/-- so many cuts are enough -/
theorem cuts_enough {t : List UInt8} (ht : t ≠ []) : ∀ (n k j : Nat) (s : List UInt8), s.length ≤ n → Lib.count s t ≤ k → Lib.count s t ≤ j → cutsK t k s = cutsK t j s
  | n, k, j, s, hn, hk, hj => by
    have h := cut_index ht s
    cases hc : cutSub t s with
    | none =>
      match k, j with
      | 0, 0 => rfl
      | 0, j + 1 => rw [cutsK, cutsK, hc]
      | k + 1, 0 => rw [cutsK, cutsK, hc]
      | k + 1, j + 1 => rw [cutsK, cutsK, hc]
    | some p =>
      rw [hc] at h
      obtain ⟨h1, h2, h3⟩ := h
      have hcnt := Lib.count_hit ht h1
      rw [← h3] at hcnt
      have hsh := cut_shorter ht hc
      match n, k, j, hn, hk, hj with
      | 0, _, _, hn, _, _ => omega
      | n + 1, 0, _, _, hk, _ => omega
      | n + 1, k + 1, 0, _, _, hj => omega
      | n + 1, k + 1, j + 1, hn, hk, hj =>
        rw [cutsK, cutsK, hc]
        simp only
        rw [cuts_enough ht n k j p.2 (by omega) (by omega) (by omega)]
theorem count_len {t : List UInt8} (ht : t ≠ []) : ∀ (n : Nat) (s : List UInt8), s.length ≤ n → Lib.count s t ≤ s.length
  | n, s, hn => by
    have h := cut_index ht s
    cases hc : cutSub t s with
    | none => rw [hc] at h; rw [Lib.count_miss h]; exact Nat.zero_le _
    | some p =>
      rw [hc] at h
      obtain ⟨h1, h2, h3⟩ := h
      have hcnt := Lib.count_hit ht h1
      rw [← h3] at hcnt
      have hsh := cut_shorter ht hc
      match n, hn with
      | 0, hn => omega
      | n + 1, hn =>
        have := count_len ht n p.2 (by omega)
        omega
/-- strings.SplitN(s, "\n", 6) -/
theorem splitN_6 (s : List UInt8) : Lib.splitK [10] 0 (min 6 (s.length + 1) - 1) s = splitN 5 s := by
  rw [splitK_cuts (by simp), splitN_cuts]
  by_cases h : 5 ≤ s.length
  · rw [show min 6 (s.length + 1) - 1 = 5 by omega]
  · have hc := count_len (t := [10]) (by simp) s.length s (Nat.le_refl _)
    exact cuts_enough (by simp) s.length _ _ s (Nat.le_refl _) (by omega) (by omega)
/-- strings.Split(s, "\nFrom - \n") -/
theorem split_sep (s : List UInt8) : Lib.splitK sepW 0 (Lib.count s sepW) s = splitAll s.length s := by
  rw [splitK_cuts (by decide), splitAll_cuts]
  exact cuts_enough (by decide) s.length _ _ s (Nat.le_refl _) (Nat.le_refl _) (count_len (by decide) s.length s (Nat.le_refl _))
theorem pos_of_index {t s : List UInt8} (ht : t ≠ []) : (cutSub t s = none ∧ Lib.index s t = -1) ∨ ∃ a b, cutSub t s = some (a, b) ∧ Lib.index s t = (a.length : Int) ∧ s = a ++ t ++ b := by
  have h := cut_index ht s
  cases hc : cutSub t s with
  | none => rw [hc] at h; exact .inl ⟨rfl, h⟩
  | some p =>
    rw [hc] at h
    exact .inr ⟨p.1, p.2, rfl, h.1, cut_some hc⟩
end Go.Proofs.YtgabchhplmncnaaDoor
namespace Go.Proofs.YtgabchhplmncnaaDoor
open Go.RowKit
end Go.Proofs.YtgabchhplmncnaaDoor
namespace Go.Proofs.YtgabchhplmncnaaDoor
open Go.RowKit

/-- append of one element to a row of the call's own, in raw cells -/
theorem run_push_raw {P : Program} {n : Nat} (hn : 0 < n) {t ty e : TypeId} (hP : ElemOk P t e n) {w0 : World} {v : Value} {m : Nat} {xs es : List Value} (E' : TypeId)
    (hx : w0.ownsRow 0 e n v m xs) (hl : es.length = n) (h1 : ∀ u ∈ es, u.oneCell' = true) (hlen : m ≤ 1000000000) :
    ∃ v' w', (Builtin.append_ #[t, t] ty #[v, .slice (some ⟨w0.heap.size, 0, none⟩) 1 1]).run P (w0.alloc (.cells es.toArray E')) = .ok v' w' ∧ w'.ownsRow 0 e n v' (m + 1) (xs ++ es) ∧ Chg (OwnB v) w0 w' ∧ (∃ k, v'.ownBlock = some k ∧ (v.ownBlock = some k ∨ w0.heap.size ≤ k)) := by
  obtain ⟨i, z, hi, hz, hsz, hzs, hby⟩ := hP.info
  have hnl : es.length = 1 * n := by omega
  have hcells : ∀ j u, es[j]? = some u → (w0.alloc (.cells es.toArray E')).cell? ((⟨w0.heap.size, 0, none⟩ : Addr).add j) = some u := by
    intro j u hj
    have e1 : (⟨w0.heap.size, 0, none⟩ : Addr).add j = ⟨w0.heap.size, j, none⟩ := by unfold Addr.add; split <;> simp_all
    rw [e1, World.cell?, heap_alloc_new]
    simpa using hj
  have hx' := hx.alloc (.cells es.toArray E')
  have hbound : (m + 1) * i.bytes ≤ 140737488355328 := by
    have := Nat.mul_le_mul (show m + 1 ≤ 1000000001 by omega) hby
    omega
  obtain ⟨v', w', hrun, hown', hgrow, hnil⟩ := run_append_own (P := P) (w0.alloc (.cells es.toArray E')) 0 t ty e i z n i.bytes hP.ht hi hz hsz rfl hzs hn v m xs hx'
    ⟨w0.heap.size, 0, none⟩ 1 1 es hnl hcells h1 (by unfold maxLen; omega) hbound (Nat.zero_le _)
  obtain ⟨kb, hkb, hkb'⟩ := append_block (P := P) (w0.alloc (.cells es.toArray E')) 0 t ty e i z n i.bytes hP.ht hi hz hsz rfl v m xs hx'
    ⟨w0.heap.size, 0, none⟩ 1 1 es hnl hcells h1 (by unfold maxLen; omega) hbound (by omega) hrun
  have hkb2 : v.ownBlock = some kb ∨ w0.heap.size ≤ kb := by
    rcases hkb' with h | h
    · exact .inl h
    · right; rw [h]; simp
  exact ⟨v', w', hrun, hown', ((Chg.refl (OwnB v) w0).alloc _).trans' (Chg.of_grown hgrow) (fun k _ hk => hk), kb, hkb, hkb2⟩

structure OwnLast (e em : TypeId) (w : World) (O : Nat → Prop) (v : Value) (init : List Hunk) (h : Hunk) (mv : Value) (xs : List Value) : Prop where
  row : w.ownsRow 0 e 3 v (init.length + 1) xs
  out : ∀ k, v.ownBlock = some k → ¬ O k
  firsts : ∀ (i : Nat) (x : Hunk), init[i]? = some x → Dat.rd w (fun k => (O k ∨ v.ownBlock = some k) ∨ mv.ownBlock = some k) ((xs.drop (i * 3)).take 3) x
  last : xs.drop (init.length * 3) = [.int .i64 h.old, .int .i64 h.new, mv]
  marks : Own em w (fun k => O k ∨ v.ownBlock = some k) mv h.marks

/-- closed, it is a slice as any other -/
theorem OwnLast.own {e em : TypeId} {w : World} {O : Nat → Prop} {v : Value} {init : List Hunk} {h : Hunk} {mv : Value} {xs : List Value} (hl : OwnLast e em w O v init h mv xs) : Own e w O v (init ++ [h]) := by
  obtain ⟨h1, h2, h3, h4, h5⟩ := hl
  refine ⟨xs, by rw [List.length_append]; exact h1, h2, ?_⟩
  intro i x hx
  rcases Nat.lt_or_ge i init.length with hi | hi
  · rw [List.getElem?_append_left hi] at hx
    exact Dat.keep (h3 i x hx) (Chg.refl Never w) (fun _ _ h => h.elim) (fun k _ ho => .inl ho)
  · have hil : i = init.length := by
      have := (List.getElem?_eq_some_iff.1 hx).1
      simp at this
      omega
    subst hil
    simp at hx
    subst hx
    show Dat.rd w _ ((xs.drop (init.length * 3)).take 3) h
    rw [h4]
    exact ⟨mv, rfl, h5.rdv⟩

/-- its shape, and the place of the last one's marks -/
theorem OwnLast.shape {e em : TypeId} {w : World} {O : Nat → Prop} {v : Value} {init : List Hunk} {h : Hunk} {mv : Value} {xs : List Value} (hl : OwnLast e em w O v init h mv xs) :
    ∃ g cap, v = .slice (some ⟨g, 0, none⟩) (init.length + 1) cap ∧ g < w.heap.size ∧ ¬ O g ∧ init.length + 1 ≤ cap ∧ cap ≤ maxLen ∧ w.cell? ⟨g, init.length * 3 + 2, none⟩ = some mv ∧ w.cell? ⟨g, init.length * 3, none⟩ = some (.int .i64 h.old) ∧ w.cell? ⟨g, init.length * 3 + 1, none⟩ = some (.int .i64 h.new) ∧ ∀ j, w.frozen? ⟨g, j, none⟩ = false := by
  obtain ⟨h1, h2, h3, h4, h5⟩ := hl
  have h1' := h1
  rcases h1.2 with ⟨rfl, h0⟩ | ⟨g, cap, cur, rfl, hg, hh, hnc, hm, hcs, htake⟩
  · cases h0
  · have hc : ∀ j, j < 3 → w.cell? ⟨g, init.length * 3 + j, none⟩ = (xs.drop (init.length * 3))[j]? := by
      intro j hj
      rw [h1'.cellAt (init.length * 3 + j) (by omega), List.getElem?_drop]
    refine ⟨g, cap, rfl, (h1'.lt g rfl).2, h2 g rfl, hnc, hm, ?_, ?_, ?_, fun j => h1'.frozenAt j⟩
    · rw [hc 2 (by omega), h4]; rfl
    · rw [← Nat.add_zero (init.length * 3), hc 0 (by omega), h4]; rfl
    · rw [hc 1 (by omega), h4]; rfl

/-- a hunk more, without marks -/
theorem run_push_last {P : Program} {t ty e em : TypeId} (hP : ElemOk P t e 3) {w0 : World} {O : Nat → Prop} {v : Value} {l : List Hunk} {o n : Int} (E' : TypeId)
    (hown : Own e w0 O v l) (hO : ∀ k, O k → k < w0.heap.size) (hlen : l.length ≤ 1000000000) :
    ∃ v' w', (Builtin.append_ #[t, t] ty #[v, .slice (some ⟨w0.heap.size, 0, none⟩) 1 1]).run P (w0.alloc (.cells #[.int .i64 o, .int .i64 n, .slice none 0 0] E')) = .ok v' w' ∧ (∃ xs, OwnLast e em w' O v' l ⟨o, n, []⟩ (.slice none 0 0) xs) ∧ Chg (OwnB v) w0 w' := by
  obtain ⟨xs, hx, hb, hel⟩ := id hown
  obtain ⟨v', w', hrun, hrow, hc, kb, hkb, hkb2⟩ := run_push_raw (by decide) hP (ty := ty) (es := [.int .i64 o, .int .i64 n, .slice none 0 0]) E' hx rfl (by intro u hu; simp at hu; rcases hu with rfl | rfl | rfl <;> rfl) hlen
  have hxl : xs.length = l.length * 3 := hx.1
  have hout : ∀ k, v'.ownBlock = some k → ¬ O k := by
    intro k hk ho
    rw [hkb] at hk
    injection hk with hk
    subst hk
    rcases hkb2 with h | h
    · exact hb _ h ho
    · exact absurd (hO _ ho) (by omega)
  refine ⟨v', w', hrun, ⟨xs ++ [.int .i64 o, .int .i64 n, .slice none 0 0], hrow, hout, ?_, ?_, own_nil _ _ _⟩, hc⟩
  · intro i x hi
    have hil := (List.getElem?_eq_some_iff.1 hi).1
    have hr := hel i x hi
    have hle : i * 3 + 3 ≤ xs.length := by omega
    rw [List.drop_append_of_le_length (by omega), List.take_append_of_le_length (by rw [List.length_drop]; omega)]
    refine Dat.keep hr hc (fun k _ hk => .inr hk) ?_
    rintro k hk ((h | h) | h)
    · exact .inl h
    · rw [hkb] at h
      injection h with h
      subst h
      rcases hkb2 with h | h
      · exact .inr h
      · omega
    · cases h
  · rw [← hxl, List.drop_left]
theorem wpList_push_last {P : Program} {ops : Array Oper} {rest : List Oper} {o : Oper} {a : Act} {Q : Exit → Act → World → Prop} (hgd : o.guard = none) (s x : Operand) (t : TypeId)
    (ho : o.op = .call { callee := .builtin .append, args := #[s, x], argTypes := #[t, t] }) {e : TypeId} (em : TypeId) (hP : ElemOk P t e 3) {w0 : World} {O : Nat → Prop} {v : Value} {l : List Hunk} {old new : Int} {E' : TypeId} {B : Nat}
    (hs : a.eval s = v) (hx : a.eval x = .slice (some ⟨B, 0, none⟩) 1 1) (hB : B = w0.heap.size)
    (hown : Own e w0 O v l) (hO : ∀ k, O k → k < w0.heap.size) (hlen : l.length ≤ 1000000000)
    (h : ∀ v' w' xs, OwnLast e em w' O v' l ⟨old, new, []⟩ (.slice none 0 0) xs → Chg (OwnB v) w0 w' → wpList P ops Q rest (a.put o.dst v') w') :
    wpList P ops Q (o :: rest) a (w0.alloc (.cells #[.int .i64 old, .int .i64 new, .slice none 0 0] E')) := by
  subst hB
  refine wpList_plain hgd fun K hK => ?_
  obtain ⟨v', w', hrun, ⟨xs, h1⟩, h2⟩ := run_push_last (ty := o.type) (em := em) (o := old) (n := new) hP E' hown hO hlen
  unfold Oper.wp execOp
  simp only [ho, resolve, invoke, builtin, Sem.run_bind, Sem.run_pure, Result.andThen_ok, List.map_toArray, List.map_cons, List.map_nil, hs, hx, hrun]
  exact hK _ _ (h v' w' xs h1 h2)

/-- the last one's marks, grown by an append in w0 → w1, are stored back -/
theorem OwnLast.stored {e em : TypeId} {w0 w1 : World} {O : Nat → Prop} {g n cap : Nat} {init : List Hunk} {h : Hunk} {mv mv' : Value} {xs : List Value} {ms : List Mark}
    (hl : OwnLast e em w0 O (.slice (some ⟨g, 0, none⟩) n cap) init h mv xs)
    (hown : Own em w1 (fun k => O k ∨ (Value.slice (some ⟨g, 0, none⟩) n cap).ownBlock = some k) mv' ms) (hc : Chg (OwnB mv) w0 w1) (hk : ∃ k, mv'.ownBlock = some k ∧ (mv.ownBlock = some k ∨ w0.heap.size ≤ k)) :
    OwnLast e em (w1.setCell ⟨g, init.length * 3 + 2, none⟩ mv') O (.slice (some ⟨g, 0, none⟩) n cap) init ⟨h.old, h.new, ms⟩ mv' (xs.set (init.length * 3 + 2) mv') := by
  obtain ⟨h1, h2, h3, h4, h5⟩ := hl
  obtain ⟨kb, hkb, hkb2⟩ := hk
  have hn : n = init.length + 1 := by
    rcases h1.2 with ⟨h, _⟩ | ⟨g', cap', cur, h, _⟩
    · cases h
    · simp only [Value.slice.injEq] at h
      exact h.2.1
  subst hn
  have hg0 : g < w0.heap.size := (h1.lt g rfl).2
  have hgm : ¬ OwnB mv g := by
    obtain ⟨_, _, q, _⟩ := h5
    exact fun hh => q g hh (.inr rfl)
  have row1 : w1.ownsRow 0 e 3 (.slice (some ⟨g, 0, none⟩) (init.length + 1) cap) (init.length + 1) xs := by
    refine ⟨h1.1, ?_⟩
    rcases h1.2 with h | ⟨g', cap', cur, hv, r1, r2, r3⟩
    · exact .inl h
    · simp only [Value.slice.injEq, Option.some.injEq, Addr.mk.injEq, and_true, true_and] at hv
      obtain ⟨rfl, rfl⟩ := hv
      exact .inr ⟨g, cap, cur, rfl, r1, (hc.block g hg0 hgm).trans r2, r3⟩
  have hst := (row1.stored (init.length * 3 + 2) mv').1
  have hc2 : Chg (fun k => k = g) w1 (w1.setCell ⟨g, init.length * 3 + 2, none⟩ mv') := (Chg.refl (fun k => k = g) w1).setCell (p := ⟨g, init.length * 3 + 2, none⟩) (.inr rfl) mv'
  have hxl : xs.length = (init.length + 1) * 3 := h1.1
  refine ⟨hst, h2, ?_, ?_, ?_⟩
  · intro i x hi
    have hil := (List.getElem?_eq_some_iff.1 hi).1
    have hr := h3 i x hi
    have e1 : ((xs.set (init.length * 3 + 2) mv').drop (i * 3)).take 3 = (xs.drop (i * 3)).take 3 := by
      apply List.ext_getElem?
      intro j
      rw [List.getElem?_take, List.getElem?_take]
      by_cases hj : j < 3
      · rw [if_pos hj, if_pos hj, List.getElem?_drop, List.getElem?_drop, List.getElem?_set_ne (by omega)]
      · rw [if_neg hj, if_neg hj]
    rw [e1]
    refine Dat.keep (Dat.keep hr hc (O'' := fun k => (O k ∨ (Value.slice (some ⟨g, 0, none⟩) (init.length + 1) cap).ownBlock = some k) ∨ mv'.ownBlock = some k) (fun k _ hk => .inr hk) ?_) hc2 ?_ (fun k _ h => h)
    · rintro k hk (h | h)
      · exact .inl h
      · rw [hkb] at h
        injection h with h
        subst h
        rcases hkb2 with h | h
        · exact .inr h
        · omega
    · rintro k _ rfl
      exact .inl (.inr rfl)
  · apply List.ext_getElem?
    intro j
    have h4j : xs[init.length * 3 + j]? = [Value.int .i64 h.old, .int .i64 h.new, mv][j]? := by rw [← List.getElem?_drop, h4]
    rw [List.getElem?_drop]
    match j with
    | 0 => rw [List.getElem?_set_ne (by omega), h4j]; rfl
    | 1 => rw [List.getElem?_set_ne (by omega), h4j]; rfl
    | 2 => rw [List.getElem?_set_self (by omega)]; rfl
    | j + 3 => rw [List.getElem?_set_ne (by omega), h4j]; rfl
  · refine hown.keep hc2 ?_ (fun k _ h => h)
    rintro k _ rfl
    exact .inr rfl

theorem OwnLast.keep {e em : TypeId} {w w' : World} {O : Nat → Prop} {v : Value} {init : List Hunk} {h : Hunk} {mv : Value} {xs : List Value} (hl : OwnLast e em w O v init h mv xs) (hc : Chg Never w w') : OwnLast e em w' O v init h mv xs := by
  obtain ⟨h1, h2, h3, h4, h5⟩ := hl
  refine ⟨⟨h1.1, ?_⟩, h2, fun i x hi => Dat.never (h3 i x hi) hc, h4, h5.never hc⟩
  rcases h1.2 with h | ⟨g', cap', cur, hv, r1, r2, r3⟩
  · exact .inl h
  · subst hv
    exact .inr ⟨g', cap', cur, rfl, r1, (hc.block g' (h1.lt g' rfl).2 (fun x => x)).trans r2, r3⟩
end Go.Proofs.YtgabchhplmncnaaDoor
namespace Go.Proofs.YtgabchhplmncnaaDoor
open Go.RowKit
end Go.Proofs.YtgabchhplmncnaaDoor
namespace Go.Proofs.YtgabchhplmncnaaDoor
open Go.RowKit

theorem box3' {w w1 : World} {x y z x' y' z' : Value} {t t' : TypeId} (hc : Chg Never ((w.alloc (.cells #[x, y, z] t)).alloc (.cells #[x', y', z'] t')) w1) :
    (w1.cell? ⟨w.heap.size, 0, none⟩ = some x ∧ w1.cell? ⟨w.heap.size, 1, none⟩ = some y ∧ w1.cell? ⟨w.heap.size, 2, none⟩ = some z) ∧
    (w1.cell? ⟨w.heap.size + 1, 0, none⟩ = some x' ∧ w1.cell? ⟨w.heap.size + 1, 1, none⟩ = some y' ∧ w1.cell? ⟨w.heap.size + 1, 2, none⟩ = some z') := by
  have h1 := box3 (((Chg.refl Never _).alloc (.cells #[x', y', z'] t')).trans hc)
  have h2 := box3 hc
  simp only [World.size_alloc] at h2
  exact ⟨h1, h2⟩


end Go.Proofs.YtgabchhplmncnaaDoor
