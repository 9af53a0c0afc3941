/-
  PARTS: THE WALK of hunk.near.; A SLICE OF HUNKS THAT THE CALL ITSELF BUILDS, OF WHICH THE LAST ONE STILL GROWS ('OwnLast'): pushed onto, its last one's marks pushed onto, closed. No program in sight.; PIECES OF A SCRIPT, plain laws: what Cut answers is pieces in order ('Pcs'), valid hunks, has all changes; turned; of a great context one piece; with more context no more pieces.; THE WALK of hunk.cut.; HUNKS DONE STRICTLY, plain laws: what Strict answers; hunks that lead from a file to another one; turned they lead back.; A BOX OF TWO CELLS, and of three (Blk3). No program in sight.; THE WALKS of hunk.Cut, Turned, Turn.; append OF A WHOLE SLICE to one of the call's own; a slice's slice. No program in sight.; THE WALKS OF LAYER 4: hunk.Make, sides, slices.Equal, stands.; THE WALKS OF LAYER 4: slices.Grow of nil, slices.Concat.; THE WALK of apply.Strict.; THE WALKS of the document's NewOf, OldOf.; THE WALKS of the document's LineFault, LinesFault, ScriptFault.
-/
import Derived.Test.YtjiaidchcldocaaGreatDoorPf2
import Derived.WalkLawsBesides
import Derived.Deep.RegionLaw
import Derived.Deep.DrawnRows
import Derived.Lib.Walk
import Derived.Lib.SliceRun
import Derived.Lib.AppendZerosOnto
set_option linter.unusedVariables false
set_option linter.unusedSimpArgs false
namespace Go.Proofs.YtjiaidchcldocaaGreatDoor
open Go.RowKit

def BoolRow (B : Nat) (wr : World) (len : Nat) (f : Nat → Bool) : Prop :=
  ∃ c : Array Value, wr.heap[B]? = some (.cells c 4 (0, 0)) ∧ c.size = len ∧ ∀ k, k < len → c[k]? = some (.bool (f k))

theorem BoolRow.cell {B : Nat} {wr : World} {len : Nat} {f : Nat → Bool} (h : BoolRow B wr len f) {k : Nat} (hk : k < len) : wr.cell? ⟨B, k, none⟩ = some (.bool (f k)) := by
  obtain ⟨c, h1, h2, h3⟩ := h
  simp only [World.cell?, h1]
  exact h3 k hk
theorem BoolRow.free {B : Nat} {wr : World} {len : Nat} {f : Nat → Bool} (h : BoolRow B wr len f) (k : Nat) : wr.frozen? ⟨B, k, none⟩ = false := by
  obtain ⟨c, h1, h2, h3⟩ := h
  simp [World.frozen?, h1]
theorem BoolRow.keep {B : Nat} {wr w' : World} {len : Nat} {f : Nat → Bool} {O : Nat → Prop} (h : BoolRow B wr len f) (hc : Chg O wr w') (hB : ¬ O B) : BoolRow B w' len f := by
  obtain ⟨c, h1, h2⟩ := h
  refine ⟨c, ?_, h2⟩
  rw [hc.block B (Array.getElem?_eq_some_iff.1 h1).1 hB]
  exact h1
theorem BoolRow.set {B : Nat} {wr : World} {len : Nat} {f : Nat → Bool} (h : BoolRow B wr len f) {k : Nat} (hk : k < len) (b : Bool) {g : Nat → Bool} (hg : ∀ j, j < len → g j = if j = k then b else f j) :
    BoolRow B (wr.setCell ⟨B, k, none⟩ (.bool b)) len g := by
  obtain ⟨c, h1, h2, h3⟩ := h
  refine ⟨c.setIfInBounds k (.bool b), ?_, by simpa using h2, ?_⟩
  · simp [World.setCell, Array.getElem?_modify, h1]
  · intro j hj
    rw [Array.getElem?_setIfInBounds, hg j hj]
    by_cases e : j = k
    · subst e; simp [h2, hj]
    · rw [if_neg (fun h => e h.symm), if_neg e]; exact h3 j hj

end Go.Proofs.YtjiaidchcldocaaGreatDoor
namespace Go.Proofs.YtjiaidchcldocaaGreatDoor
open Go.RowKit

theorem run_push_raw {P : Program} {n : Nat} (hn : 0 < n) {t ty e : TypeId} (hP : ElemOk P t e n) {w0 : World} {v : Value} {m : Nat} {xs es : List Value} (E' : TypeId)
    (hx : w0.ownsRow 0 e n v m xs) (hl : es.length = n) (h1 : ∀ u ∈ es, u.oneCell' = true) (hlen : m ≤ 1000000000) :
    ∃ v' w', (Builtin.append_ #[t, t] ty #[v, .slice (some ⟨w0.heap.size, 0, none⟩) 1 1]).run P (w0.alloc (.cells es.toArray E')) = .ok v' w' ∧ w'.ownsRow 0 e n v' (m + 1) (xs ++ es) ∧ Chg (OwnB v) w0 w' ∧ (∃ k, v'.ownBlock = some k ∧ (v.ownBlock = some k ∨ w0.heap.size ≤ k)) := by
  obtain ⟨i, z, hi, hz, hsz, hzs, hby⟩ := hP.info
  have hnl : es.length = 1 * n := by omega
  have hcells : ∀ j u, es[j]? = some u → (w0.alloc (.cells es.toArray E')).cell? ((⟨w0.heap.size, 0, none⟩ : Addr).add j) = some u := by
    intro j u hj
    have e1 : (⟨w0.heap.size, 0, none⟩ : Addr).add j = ⟨w0.heap.size, j, none⟩ := by unfold Addr.add; split <;> simp_all
    rw [e1, World.cell?, heap_alloc_new]
    simpa using hj
  have hx' := hx.alloc (.cells es.toArray E')
  have hbound : (m + 1) * i.bytes ≤ 140737488355328 := by
    have := Nat.mul_le_mul (show m + 1 ≤ 1000000001 by omega) hby
    omega
  obtain ⟨v', w', hrun, hown', hgrow, hnil⟩ := run_append_own (P := P) (w0.alloc (.cells es.toArray E')) 0 t ty e i z n i.bytes hP.ht hi hz hsz rfl hzs hn v m xs hx'
    ⟨w0.heap.size, 0, none⟩ 1 1 es hnl hcells h1 (by unfold maxLen; omega) hbound (Nat.zero_le _)
  obtain ⟨kb, hkb, hkb'⟩ := append_block (P := P) (w0.alloc (.cells es.toArray E')) 0 t ty e i z n i.bytes hP.ht hi hz hsz rfl v m xs hx'
    ⟨w0.heap.size, 0, none⟩ 1 1 es hnl hcells h1 (by unfold maxLen; omega) hbound (by omega) hrun
  have hkb2 : v.ownBlock = some kb ∨ w0.heap.size ≤ kb := by
    rcases hkb' with h | h
    · exact .inl h
    · right; rw [h]; simp
  exact ⟨v', w', hrun, hown', ((Chg.refl (OwnB v) w0).alloc _).trans' (Chg.of_grown hgrow) (fun k _ hk => hk), kb, hkb, hkb2⟩

structure OwnLast (e em : TypeId) (w : World) (O : Nat → Prop) (v : Value) (init : List Hunk) (h : Hunk) (mv : Value) (xs : List Value) : Prop where
  row : w.ownsRow 0 e 3 v (init.length + 1) xs
  out : ∀ k, v.ownBlock = some k → ¬ O k
  firsts : ∀ (i : Nat) (x : Hunk), init[i]? = some x → Dat.rd w (fun k => (O k ∨ v.ownBlock = some k) ∨ mv.ownBlock = some k) ((xs.drop (i * 3)).take 3) x
  last : xs.drop (init.length * 3) = [.int .i64 h.old, .int .i64 h.new, mv]
  marks : Own em w (fun k => O k ∨ v.ownBlock = some k) mv h.marks

theorem OwnLast.own {e em : TypeId} {w : World} {O : Nat → Prop} {v : Value} {init : List Hunk} {h : Hunk} {mv : Value} {xs : List Value} (hl : OwnLast e em w O v init h mv xs) : Own e w O v (init ++ [h]) := by
  obtain ⟨h1, h2, h3, h4, h5⟩ := hl
  refine ⟨xs, by rw [List.length_append]; exact h1, h2, ?_⟩
  intro i x hx
  rcases Nat.lt_or_ge i init.length with hi | hi
  · rw [List.getElem?_append_left hi] at hx
    exact Dat.keep (h3 i x hx) (Chg.refl Never w) (fun _ _ h => h.elim) (fun k _ ho => .inl ho)
  · have hil : i = init.length := by
      have := (List.getElem?_eq_some_iff.1 hx).1
      simp at this
      omega
    subst hil
    simp at hx
    subst hx
    show Dat.rd w _ ((xs.drop (init.length * 3)).take 3) h
    rw [h4]
    exact ⟨mv, rfl, h5.rdv⟩

theorem OwnLast.shape {e em : TypeId} {w : World} {O : Nat → Prop} {v : Value} {init : List Hunk} {h : Hunk} {mv : Value} {xs : List Value} (hl : OwnLast e em w O v init h mv xs) :
    ∃ g cap, v = .slice (some ⟨g, 0, none⟩) (init.length + 1) cap ∧ g < w.heap.size ∧ ¬ O g ∧ init.length + 1 ≤ cap ∧ cap ≤ maxLen ∧ w.cell? ⟨g, init.length * 3 + 2, none⟩ = some mv ∧ w.cell? ⟨g, init.length * 3, none⟩ = some (.int .i64 h.old) ∧ w.cell? ⟨g, init.length * 3 + 1, none⟩ = some (.int .i64 h.new) ∧ ∀ j, w.frozen? ⟨g, j, none⟩ = false := by
  obtain ⟨h1, h2, h3, h4, h5⟩ := hl
  have h1' := h1
  rcases h1.2 with ⟨rfl, h0⟩ | ⟨g, cap, cur, rfl, hg, hh, hnc, hm, hcs, htake⟩
  · cases h0
  · have hc : ∀ j, j < 3 → w.cell? ⟨g, init.length * 3 + j, none⟩ = (xs.drop (init.length * 3))[j]? := by
      intro j hj
      rw [h1'.cellAt (init.length * 3 + j) (by omega), List.getElem?_drop]
    refine ⟨g, cap, rfl, (h1'.lt g rfl).2, h2 g rfl, hnc, hm, ?_, ?_, ?_, fun j => h1'.frozenAt j⟩
    · rw [hc 2 (by omega), h4]; rfl
    · rw [← Nat.add_zero (init.length * 3), hc 0 (by omega), h4]; rfl
    · rw [hc 1 (by omega), h4]; rfl

theorem run_push_last {P : Program} {t ty e em : TypeId} (hP : ElemOk P t e 3) {w0 : World} {O : Nat → Prop} {v : Value} {l : List Hunk} {o n : Int} (E' : TypeId)
    (hown : Own e w0 O v l) (hO : ∀ k, O k → k < w0.heap.size) (hlen : l.length ≤ 1000000000) :
    ∃ v' w', (Builtin.append_ #[t, t] ty #[v, .slice (some ⟨w0.heap.size, 0, none⟩) 1 1]).run P (w0.alloc (.cells #[.int .i64 o, .int .i64 n, .slice none 0 0] E')) = .ok v' w' ∧ (∃ xs, OwnLast e em w' O v' l ⟨o, n, []⟩ (.slice none 0 0) xs) ∧ Chg (OwnB v) w0 w' := by
  obtain ⟨xs, hx, hb, hel⟩ := id hown
  obtain ⟨v', w', hrun, hrow, hc, kb, hkb, hkb2⟩ := run_push_raw (by decide) hP (ty := ty) (es := [.int .i64 o, .int .i64 n, .slice none 0 0]) E' hx rfl (by intro u hu; simp at hu; rcases hu with rfl | rfl | rfl <;> rfl) hlen
  have hxl : xs.length = l.length * 3 := hx.1
  have hout : ∀ k, v'.ownBlock = some k → ¬ O k := by
    intro k hk ho
    rw [hkb] at hk
    injection hk with hk
    subst hk
    rcases hkb2 with h | h
    · exact hb _ h ho
    · exact absurd (hO _ ho) (by omega)
  refine ⟨v', w', hrun, ⟨xs ++ [.int .i64 o, .int .i64 n, .slice none 0 0], hrow, hout, ?_, ?_, own_nil _ _ _⟩, hc⟩
  · intro i x hi
    have hil := (List.getElem?_eq_some_iff.1 hi).1
    have hr := hel i x hi
    have hle : i * 3 + 3 ≤ xs.length := by omega
    rw [List.drop_append_of_le_length (by omega), List.take_append_of_le_length (by rw [List.length_drop]; omega)]
    refine Dat.keep hr hc (fun k _ hk => .inr hk) ?_
    rintro k hk ((h | h) | h)
    · exact .inl h
    · rw [hkb] at h
      injection h with h
      subst h
      rcases hkb2 with h | h
      · exact .inr h
      · omega
    · cases h
  · rw [← hxl, List.drop_left]
theorem wpList_push_last {P : Program} {ops : Array Oper} {rest : List Oper} {o : Oper} {a : Act} {Q : Exit → Act → World → Prop} (hgd : o.guard = none) (s x : Operand) (t : TypeId)
    (ho : o.op = .call { callee := .builtin .append, args := #[s, x], argTypes := #[t, t] }) {e : TypeId} (em : TypeId) (hP : ElemOk P t e 3) {w0 : World} {O : Nat → Prop} {v : Value} {l : List Hunk} {old new : Int} {E' : TypeId} {B : Nat}
    (hs : a.eval s = v) (hx : a.eval x = .slice (some ⟨B, 0, none⟩) 1 1) (hB : B = w0.heap.size)
    (hown : Own e w0 O v l) (hO : ∀ k, O k → k < w0.heap.size) (hlen : l.length ≤ 1000000000)
    (h : ∀ v' w' xs, OwnLast e em w' O v' l ⟨old, new, []⟩ (.slice none 0 0) xs → Chg (OwnB v) w0 w' → wpList P ops Q rest (a.put o.dst v') w') :
    wpList P ops Q (o :: rest) a (w0.alloc (.cells #[.int .i64 old, .int .i64 new, .slice none 0 0] E')) := by
  subst hB
  refine wpList_plain hgd fun K hK => ?_
  obtain ⟨v', w', hrun, ⟨xs, h1⟩, h2⟩ := run_push_last (ty := o.type) (em := em) (o := old) (n := new) hP E' hown hO hlen
  unfold Oper.wp execOp
  simp only [ho, resolve, invoke, builtin, Sem.run_bind, Sem.run_pure, Result.andThen_ok, List.map_toArray, List.map_cons, List.map_nil, hs, hx, hrun]
  exact hK _ _ (h v' w' xs h1 h2)

theorem OwnLast.stored {e em : TypeId} {w0 w1 : World} {O : Nat → Prop} {g n cap : Nat} {init : List Hunk} {h : Hunk} {mv mv' : Value} {xs : List Value} {ms : List Mark}
    (hl : OwnLast e em w0 O (.slice (some ⟨g, 0, none⟩) n cap) init h mv xs)
    (hown : Own em w1 (fun k => O k ∨ (Value.slice (some ⟨g, 0, none⟩) n cap).ownBlock = some k) mv' ms) (hc : Chg (OwnB mv) w0 w1) (hk : ∃ k, mv'.ownBlock = some k ∧ (mv.ownBlock = some k ∨ w0.heap.size ≤ k)) :
    OwnLast e em (w1.setCell ⟨g, init.length * 3 + 2, none⟩ mv') O (.slice (some ⟨g, 0, none⟩) n cap) init ⟨h.old, h.new, ms⟩ mv' (xs.set (init.length * 3 + 2) mv') := by
  obtain ⟨h1, h2, h3, h4, h5⟩ := hl
  obtain ⟨kb, hkb, hkb2⟩ := hk
  have hn : n = init.length + 1 := by
    rcases h1.2 with ⟨h, _⟩ | ⟨g', cap', cur, h, _⟩
    · cases h
    · simp only [Value.slice.injEq] at h
      exact h.2.1
  subst hn
  have hg0 : g < w0.heap.size := (h1.lt g rfl).2
  have hgm : ¬ OwnB mv g := by
    obtain ⟨_, _, q, _⟩ := h5
    exact fun hh => q g hh (.inr rfl)
  have row1 : w1.ownsRow 0 e 3 (.slice (some ⟨g, 0, none⟩) (init.length + 1) cap) (init.length + 1) xs := by
    refine ⟨h1.1, ?_⟩
    rcases h1.2 with h | ⟨g', cap', cur, hv, r1, r2, r3⟩
    · exact .inl h
    · simp only [Value.slice.injEq, Option.some.injEq, Addr.mk.injEq, and_true, true_and] at hv
      obtain ⟨rfl, rfl⟩ := hv
      exact .inr ⟨g, cap, cur, rfl, r1, (hc.block g hg0 hgm).trans r2, r3⟩
  have hst := (row1.stored (init.length * 3 + 2) mv').1
  have hc2 : Chg (fun k => k = g) w1 (w1.setCell ⟨g, init.length * 3 + 2, none⟩ mv') := (Chg.refl (fun k => k = g) w1).setCell (p := ⟨g, init.length * 3 + 2, none⟩) (.inr rfl) mv'
  have hxl : xs.length = (init.length + 1) * 3 := h1.1
  refine ⟨hst, h2, ?_, ?_, ?_⟩
  · intro i x hi
    have hil := (List.getElem?_eq_some_iff.1 hi).1
    have hr := h3 i x hi
    have e1 : ((xs.set (init.length * 3 + 2) mv').drop (i * 3)).take 3 = (xs.drop (i * 3)).take 3 := by
      apply List.ext_getElem?
      intro j
      rw [List.getElem?_take, List.getElem?_take]
      by_cases hj : j < 3
      · rw [if_pos hj, if_pos hj, List.getElem?_drop, List.getElem?_drop, List.getElem?_set_ne (by omega)]
      · rw [if_neg hj, if_neg hj]
    rw [e1]
    refine Dat.keep (Dat.keep hr hc (O'' := fun k => (O k ∨ (Value.slice (some ⟨g, 0, none⟩) (init.length + 1) cap).ownBlock = some k) ∨ mv'.ownBlock = some k) (fun k _ hk => .inr hk) ?_) hc2 ?_ (fun k _ h => h)
    · rintro k hk (h | h)
      · exact .inl h
      · rw [hkb] at h
        injection h with h
        subst h
        rcases hkb2 with h | h
        · exact .inr h
        · omega
    · rintro k _ rfl
      exact .inl (.inr rfl)
  · apply List.ext_getElem?
    intro j
    have h4j : xs[init.length * 3 + j]? = [Value.int .i64 h.old, .int .i64 h.new, mv][j]? := by rw [← List.getElem?_drop, h4]
    rw [List.getElem?_drop]
    match j with
    | 0 => rw [List.getElem?_set_ne (by omega), h4j]; rfl
    | 1 => rw [List.getElem?_set_ne (by omega), h4j]; rfl
    | 2 => rw [List.getElem?_set_self (by omega)]; rfl
    | j + 3 => rw [List.getElem?_set_ne (by omega), h4j]; rfl
  · refine hown.keep hc2 ?_ (fun k _ h => h)
    rintro k _ rfl
    exact .inr rfl

theorem OwnLast.keep {e em : TypeId} {w w' : World} {O : Nat → Prop} {v : Value} {init : List Hunk} {h : Hunk} {mv : Value} {xs : List Value} (hl : OwnLast e em w O v init h mv xs) (hc : Chg Never w w') : OwnLast e em w' O v init h mv xs := by
  obtain ⟨h1, h2, h3, h4, h5⟩ := hl
  refine ⟨⟨h1.1, ?_⟩, h2, fun i x hi => Dat.never (h3 i x hi) hc, h4, h5.never hc⟩
  rcases h1.2 with h | ⟨g', cap', cur, hv, r1, r2, r3⟩
  · exact .inl h
  · subst hv
    exact .inr ⟨g', cap', cur, rfl, r1, (hc.block g' (h1.lt g' rfl).2 (fun x => x)).trans r2, r3⟩
end Go.Proofs.YtjiaidchcldocaaGreatDoor
namespace Go.Proofs.YtjiaidchcldocaaGreatDoor

inductive Pcs : Bool → List Mark → List Hunk → Prop
  | nil : Pcs true [] []
  | keep {b : Bool} {p : List Mark} {l : List Hunk} {m : Mark} : Pcs b p l → m.sign = 32 → Pcs true (p ++ [m]) l
  | hunk {p : List Mark} {l : List Hunk} (m : List Mark) : Pcs true p l → hasChange m = true → Pcs false (p ++ m) (l ++ [⟨oldN p, newN p, m⟩])

theorem inAt_iff {s : List Mark} {n : Int} {k : Nat} : inAt s n k = true ↔ ∃ (i : Nat) (x : Mark), s[i]? = some x ∧ x.sign ≠ 32 ∧ (k : Int) ≤ i + n ∧ (i : Int) ≤ k + n := by
  unfold inAt
  rw [List.any_eq_true]
  constructor
  · rintro ⟨i, hi, hp⟩
    rw [List.mem_range] at hi
    have hx : s[i]? = some s[i] := by simp [hi]
    rw [hx] at hp
    simp only [Option.any_some, isChange, Bool.and_eq_true, decide_eq_true_eq, Bool.not_eq_true', beq_eq_false_iff_ne] at hp
    exact ⟨i, _, hx, hp.1.1, hp.1.2, hp.2⟩
  · rintro ⟨i, x, hx, h1, h2, h3⟩
    refine ⟨i, List.mem_range.2 (List.getElem?_eq_some_iff.1 hx).1, ?_⟩
    rw [hx]
    simp only [Option.any_some, isChange, Bool.and_eq_true, decide_eq_true_eq, Bool.not_eq_true', beq_eq_false_iff_ne]
    exact ⟨⟨h1, h2⟩, h3⟩

structure PieceOpen (s : List Mark) (n : Int) (k : Nat) (p m : List Mark) (l : List Hunk) : Prop where
  eq : s.take k = p ++ m
  pcs : Pcs true p l
  cut : cutTo s n k = l ++ [⟨oldN p, newN p, m⟩]
  lt : p.length < k
  inn : ∀ j, p.length ≤ j → j < k → inAt s n j = true
  out : p.length = 0 ∨ inAt s n (p.length - 1) = false

theorem PieceOpen.change {s : List Mark} {n : Int} (hn : 0 ≤ n) {k : Nat} {p m : List Mark} {l : List Hunk} (h : PieceOpen s n k p m l) (_hk : k ≤ s.length) (hk' : k = s.length ∨ inAt s n k = false) : hasChange m = true := by
  obtain ⟨e, _, _, hlt, hin, hout⟩ := h
  obtain ⟨i, x, hx, h1, h2, h3⟩ := inAt_iff.1 (hin (k - 1) (by omega) (by omega))
  have hil := (List.getElem?_eq_some_iff.1 hx).1
  have c1 : i < k := by
    rcases Nat.lt_or_ge i k with h | h
    · exact h
    · rcases hk' with h' | h'
      · omega
      · have : inAt s n k = true := inAt_iff.2 ⟨i, x, hx, h1, by omega, by omega⟩
        rw [this] at h'; cases h'
  have c2 : p.length ≤ i := by
    rcases Nat.lt_or_ge i p.length with h | h
    · rcases hout with h' | h'
      · omega
      · have : inAt s n (p.length - 1) = true := inAt_iff.2 ⟨i, x, hx, h1, by omega, by omega⟩
        rw [this] at h'; cases h'
    · exact h
  have hm : m[i - p.length]? = some x := by
    have : (s.take k)[i]? = some x := by rw [List.getElem?_take, if_pos c1, hx]
    rw [e, List.getElem?_append_right c2] at this
    exact this
  unfold hasChange
  rw [List.any_eq_true]
  exact ⟨x, List.mem_of_getElem? hm, by simpa using h1⟩

theorem oldN_append (p m : List Mark) : oldN (p ++ m) = oldN p + oldN m := by simp [oldN, those, List.filter_append]
theorem newN_append (p m : List Mark) : newN (p ++ m) = newN p + newN m := by simp [newN, those, List.filter_append]
theorem changes_append (p m : List Mark) : changes (p ++ m) = changes p + changes m := by simp [changes, List.filter_append]
theorem oldN_keep {m : Mark} (h : m.sign = 32) : oldN [m] = 1 := by simp [oldN, those, h]
theorem newN_keep {m : Mark} (h : m.sign = 32) : newN [m] = 1 := by simp [newN, those, h]
theorem changes_keep {m : Mark} (h : m.sign = 32) : changes [m] = 0 := by simp [changes, h]

def manyChanges (l : List Hunk) : Nat := (l.map fun h => changes h.marks).sum
theorem Pcs.many {b : Bool} {p : List Mark} {l : List Hunk} (h : Pcs b p l) : manyChanges l = changes p := by
  induction h with
  | nil => rfl
  | keep h hs ih => rw [changes_append, changes_keep hs, ih]; rfl
  | hunk m h hc ih => rw [changes_append, ← ih]; simp [manyChanges]
def hOk : Int → Int → List Hunk → Prop
  | _, _, [] => True
  | fin, more, h :: r => oneFault h fin more = 0 ∧ hOk (h.old + oldN h.marks) (more + newN h.marks - oldN h.marks) r
def hFin : Int → Int → List Hunk → Int × Int
  | fin, more, [] => (fin, more)
  | _, more, h :: r => hFin (h.old + oldN h.marks) (more + newN h.marks - oldN h.marks) r
theorem hunksGo_ok : ∀ (l : List Hunk) (i : Nat) (fin more : Int), hOk fin more l → hunksGo i fin more l = (0, 0)
  | [], _, _, _, _ => rfl
  | h :: r, i, fin, more, hk => by
    rw [hunksGo, if_pos hk.1]
    exact hunksGo_ok r _ _ _ hk.2
theorem hunksGo_zero : ∀ (l : List Hunk) (i : Nat) (fin more : Int), (hunksGo i fin more l).2 = 0 → hOk fin more l
  | [], _, _, _, _ => trivial
  | h :: r, i, fin, more, hk => by
    rw [hunksGo] at hk
    by_cases h0 : oneFault h fin more = 0
    · rw [if_pos h0] at hk
      exact ⟨h0, hunksGo_zero r _ _ _ hk⟩
    · rw [if_neg h0] at hk
      exact absurd hk h0
theorem hunksFault_ok {l : List Hunk} (h : l.length ≤ 60) (hk : hOk 0 0 l) : hunksFault l = (0, 0) := by
  unfold hunksFault
  rw [if_neg (by omega), hunksGo_ok l _ _ _ hk]
theorem hunksFault_zero {l : List Hunk} (h : (hunksFault l).2 = 0) : l.length ≤ 60 ∧ hOk 0 0 l := by
  unfold hunksFault at h
  by_cases h1 : 60 < l.length
  · rw [if_pos h1] at h; simp at h
  · rw [if_neg h1] at h
    exact ⟨by omega, hunksGo_zero _ _ _ _ h⟩
theorem hunksFault_first {l : List Hunk} (h : (hunksFault l).2 = 0) : hunksFault l = (0, 0) := by
  obtain ⟨h1, h2⟩ := hunksFault_zero h
  exact hunksFault_ok h1 h2
theorem hOk_snoc : ∀ (l : List Hunk) (h : Hunk) (fin more : Int), hOk fin more l → oneFault h (hFin fin more l).1 (hFin fin more l).2 = 0 → hOk fin more (l ++ [h])
  | [], _h, _, _, _, h2 => ⟨h2, trivial⟩
  | _x :: r, h, _fin, _more, h1, h2 => ⟨h1.1, hOk_snoc r h _ _ h1.2 h2⟩
theorem hFin_snoc : ∀ (l : List Hunk) (h : Hunk) (fin more : Int), hFin fin more (l ++ [h]) = (h.old + oldN h.marks, (hFin fin more l).2 + newN h.marks - oldN h.marks)
  | [], _h, _fin, _more => rfl
  | _x :: r, h, _fin, _more => hFin_snoc r h _ _

theorem scriptFault_sub {s m : List Mark} (h : scriptFault s = 0) (hm : ∀ x ∈ m, x ∈ s) (hl : m.length ≤ s.length) : scriptFault m = 0 := by
  rw [scriptFault_zero] at h ⊢
  exact ⟨by omega, fun x hx => h.2 x (hm x hx)⟩
theorem oneFault_of {h : Hunk} {fin more : Int} (h1 : scriptFault h.marks = 0) (h2 : hasChange h.marks = true) (h3 : 0 ≤ h.old) (h4 : 0 ≤ h.new) (h5 : h.old + oldN h.marks ≤ 60) (h6 : h.new + newN h.marks ≤ 60) (h7 : fin ≤ h.old) (h8 : h.new = h.old + more) : oneFault h fin more = 0 := by
  unfold oneFault
  rw [if_neg (by simp [h1]), if_neg (by simp [h2]), if_neg (by omega), if_neg (by omega)]

theorem Pcs.ok {b : Bool} {p : List Mark} {l : List Hunk} (h : Pcs b p l) : scriptFault p = 0 → oldN p ≤ 60 → newN p ≤ 60 → hOk 0 0 l ∧ (hFin 0 0 l).1 ≤ oldN p ∧ (hFin 0 0 l).2 = (newN p : Int) - oldN p := by
  induction h with
  | nil => intro _ _ _; exact ⟨trivial, by simp [hFin], by simp [hFin, oldN, newN, those]⟩
  | @keep b p l m h hs ih =>
    intro s0 s1 s2
    rw [oldN_append, oldN_keep hs] at s1 ⊢
    rw [newN_append, newN_keep hs] at s2 ⊢
    obtain ⟨i1, i2, i3⟩ := ih (scriptFault_sub s0 (fun x hx => List.mem_append_left _ hx) (by simp)) (by omega) (by omega)
    exact ⟨i1, by omega, by omega⟩
  | @hunk p l m h hc ih =>
    intro s0 s1 s2
    rw [oldN_append] at s1 ⊢
    rw [newN_append] at s2 ⊢
    obtain ⟨i1, i2, i3⟩ := ih (scriptFault_sub s0 (fun x hx => List.mem_append_left _ hx) (by simp)) (by omega) (by omega)
    have hm := scriptFault_sub (m := m) s0 (fun x hx => List.mem_append_right _ hx) (by simp)
    rw [hFin_snoc]
    refine ⟨hOk_snoc _ _ _ _ i1 (oneFault_of hm hc ?_ ?_ ?_ ?_ ?_ ?_), ?_, ?_⟩
    all_goals simp only []
    all_goals omega

end Go.Proofs.YtjiaidchcldocaaGreatDoor
namespace Go.Proofs.YtjiaidchcldocaaGreatDoor
open Go.RowKit

theorem elemOk_hunk : ElemOk Tryz.prog 83 129 3 := elemOk_of Tryz.underlying83 (z := .agg #[.int .i64 0, .int .i64 0, .slice none 0 0]) (b := 40) (by kernel_rfl) rfl (by decide)

theorem step_push {P : Program} {ops : Array Oper} {o : Oper} {a : Act} {K : Act → World → Prop} {Q : Exit → Act → World → Prop} {E : Prop} (hgd : o.guard = none) (s x : Operand) (t : TypeId)
    (ho : o.op = .call { callee := .builtin .append, args := #[s, x], argTypes := #[t, t] }) {α : Type} [Dat α] {e : TypeId} (hP : ElemOk P t e (Dat.n α)) {w0 : World} {O : Nat → Prop} {v : Value} {l : List α} {y : α} {es : List Value} {E' : TypeId} {B : Nat}
    (hs : a.eval s = v) (hx : a.eval x = .slice (some ⟨B, 0, none⟩) 1 1) (hB : B = w0.heap.size)
    (hown : Own e w0 O v l) (hy : Dat.rd w0 (fun k => O k ∨ v.ownBlock = some k) es y) (hO : ∀ k, O k → k < w0.heap.size) (hlen : l.length ≤ 1000000000)
    (h : ∀ v' w', Own e w' O v' (l ++ [y]) → Chg (OwnB v) w0 w' → (∃ k, v'.ownBlock = some k ∧ (v.ownBlock = some k ∨ w0.heap.size ≤ k)) → K (a.put o.dst v') w') :
    if Region.wanted o (yielded ops a.tmps) = true then Oper.wp P o a (w0.alloc (.cells es.toArray E')) K Q else E := by
  have hw : Region.wanted o (yielded ops a.tmps) = true := by simp [Region.wanted, hgd]
  rw [if_pos hw]
  subst hB
  obtain ⟨v', w', hrun, h1, h2, h3⟩ := run_push (ty := o.type) hP E' hown hy hO hlen
  unfold Oper.wp execOp
  simp only [ho, resolve, invoke, builtin, Sem.run_bind, Sem.run_pure, Result.andThen_ok, List.map_toArray, List.map_cons, List.map_nil, hs, hx, hrun]
  exact h v' w' h1 h2 h3

theorem own_slice {v : Value} {p : Nat → Prop} (h : ∃ k, v.ownBlock = some k ∧ p k) : ∃ a n c, v = .slice (some a) n c := by
  obtain ⟨k, hk, _⟩ := h
  unfold Value.ownBlock at hk
  split at hk
  · exact ⟨_, _, _, rfl⟩
  · cases hk

def CutOwn (w : World) (O : Nat → Prop) (v : Value) (l : List Hunk) (was : Bool) : Prop :=
  if was = true then ∃ init h mv xs, l = init ++ [h] ∧ OwnLast 129 126 w O v init h mv xs else Own 129 w O v l
theorem CutOwn.own {w : World} {O : Nat → Prop} {v : Value} {l : List Hunk} {was : Bool} (h : CutOwn w O v l was) : Own 129 w O v l := by
  unfold CutOwn at h
  split at h
  · obtain ⟨init, q, mv, xs, rfl, hl⟩ := h
    exact hl.own
  · exact h


end Go.Proofs.YtjiaidchcldocaaGreatDoor
namespace Go.Proofs.YtjiaidchcldocaaGreatDoor

def standsB (a : List ByteArray) (at_ : Int) (l : List ByteArray) : Bool :=
  decide (0 ≤ at_) && decide (at_ + l.length ≤ a.length) && decide ((a.drop at_.toNat).take l.length = l)
def strictGo (a : List ByteArray) : Nat → Nat → List ByteArray → List Hunk → List ByteArray × Nat × Int
  | _, fr, out, [] => if 60 < (out ++ a.drop fr).length then ([], 0, 3) else (out ++ a.drop fr, 0, 0)
  | i, fr, out, h :: r =>
    if standsB a h.old (oldOf h.marks) then strictGo a (i + 1) (h.old.toNat + oldN h.marks) (out ++ (a.drop fr).take (h.old.toNat - fr) ++ newOf h.marks) r
    else ([], i, 6)
def strict (a : List ByteArray) (l : List Hunk) : List ByteArray × Nat × Int :=
  if linesFault a ≠ 0 then ([], 0, linesFault a) else if (hunksFault l).2 ≠ 0 then ([], (hunksFault l).1, (hunksFault l).2) else strictGo a 0 0 [] l

inductive Fits : List Mark → List Hunk → Prop
  | nil : Fits [] []
  | keep {p : List Mark} {l : List Hunk} {m : Mark} : Fits p l → m.sign = 32 → Fits (p ++ [m]) l
  | hunk {p : List Mark} {l : List Hunk} (m : List Mark) : Fits p l → hasChange m = true → Fits (p ++ m) (l ++ [⟨oldN p, newN p, m⟩])
theorem those_append (p m : List Mark) (no : Int) : those (p ++ m) no = those p no ++ those m no := by simp [those, List.filter_append]
theorem those_keep {m : Mark} (h : m.sign = 32) : those [m] 43 = [m.text] ∧ those [m] 45 = [m.text] := by simp [those, h]
theorem oldN_eq (p : List Mark) : oldN p = (those p 43).length := rfl
theorem newN_eq (p : List Mark) : newN p = (those p 45).length := rfl

def doAll (a : List ByteArray) : Nat → List ByteArray → List Hunk → Option (Nat × List ByteArray)
  | fr, out, [] => some (fr, out)
  | fr, out, h :: r => if standsB a h.old (oldOf h.marks) then doAll a (h.old.toNat + oldN h.marks) (out ++ (a.drop fr).take (h.old.toNat - fr) ++ newOf h.marks) r else none
theorem doAll_snoc (a : List ByteArray) : ∀ (l : List Hunk) (h : Hunk) (fr fr' : Nat) (out out' : List ByteArray), doAll a fr out l = some (fr', out') → standsB a h.old (oldOf h.marks) = true →
    doAll a fr out (l ++ [h]) = some (h.old.toNat + oldN h.marks, out' ++ (a.drop fr').take (h.old.toNat - fr') ++ newOf h.marks)
  | [], h, fr, fr', out, out', e, hs => by
    simp only [doAll, Option.some.injEq, Prod.mk.injEq] at e
    obtain ⟨rfl, rfl⟩ := e
    simp [doAll, hs]
  | x :: r, h, fr, fr', out, out', e, hs => by
    simp only [doAll, List.cons_append] at e ⊢
    by_cases hx : standsB a x.old (oldOf x.marks) = true
    · rw [if_pos hx] at e ⊢
      exact doAll_snoc a r h _ _ _ _ e hs
    · rw [if_neg hx] at e; cases e
theorem strictGo_of (a : List ByteArray) : ∀ (l : List Hunk) (i fr fr' : Nat) (out out' : List ByteArray), doAll a fr out l = some (fr', out') → (out' ++ a.drop fr').length ≤ 60 → strictGo a i fr out l = (out' ++ a.drop fr', 0, 0)
  | [], i, fr, fr', out, out', e, h60 => by
    simp only [doAll, Option.some.injEq, Prod.mk.injEq] at e
    obtain ⟨rfl, rfl⟩ := e
    rw [strictGo, if_neg (by omega)]
  | x :: r, i, fr, fr', out, out', e, h60 => by
    rw [doAll] at e
    by_cases hx : standsB a x.old (oldOf x.marks) = true
    · rw [if_pos hx] at e
      rw [strictGo, if_pos hx]
      exact strictGo_of a r _ _ _ _ _ e h60
    · rw [if_neg hx] at e; cases e
theorem stands_mid (x y z : List ByteArray) : standsB (x ++ y ++ z) (x.length : Int) y = true := by
  unfold standsB
  simp only [Bool.and_eq_true, decide_eq_true_eq, Int.toNat_natCast]
  refine ⟨⟨by omega, by simp; omega⟩, ?_⟩
  rw [List.append_assoc, List.drop_left, List.take_left]

theorem Fits.doAll {p : List Mark} {l : List Hunk} (h : Fits p l) : ∀ t : List ByteArray, ∃ fr out, doAll (those p 43 ++ t) 0 [] l = some (fr, out) ∧ fr ≤ oldN p ∧ out ++ (those p 43).drop fr = those p 45 := by
  induction h with
  | nil => intro t; exact ⟨0, [], rfl, Nat.zero_le _, rfl⟩
  | @keep p l m h hs ih =>
    intro t
    obtain ⟨fr, out, h1, h2, h3⟩ := ih ([m.text] ++ t)
    refine ⟨fr, out, ?_, ?_, ?_⟩
    · rw [those_append, (those_keep hs).1, List.append_assoc]; exact h1
    · rw [oldN_append]; omega
    · rw [those_append, those_append, (those_keep hs).1, (those_keep hs).2, List.drop_append_of_le_length (by rw [← oldN_eq]; exact h2), ← List.append_assoc, h3]
  | @hunk p l m h hc ih =>
    intro t
    obtain ⟨fr, out, h1, h2, h3⟩ := ih (those m 43 ++ t)
    refine ⟨oldN p + oldN m, those p 45 ++ those m 45, ?_, ?_, ?_⟩
    · rw [those_append, List.append_assoc]
      have hs : standsB (those p 43 ++ (those m 43 ++ t)) ((oldN p : Nat) : Int) (oldOf m) = true := by
        rw [← List.append_assoc]
        exact stands_mid (those p 43) (those m 43) t
      rw [doAll_snoc _ l ⟨oldN p, newN p, m⟩ _ _ _ _ h1 hs]
      have e1 : ((those p 43 ++ (those m 43 ++ t)).drop fr).take (oldN p - fr) = (those p 43).drop fr := by
        rw [List.drop_append_of_le_length (by rw [← oldN_eq]; exact h2), List.take_left' (by rw [List.length_drop, ← oldN_eq])]
      simp only [Int.toNat_natCast]
      rw [e1, h3]
      rfl
    · rw [oldN_append]; omega
    · rw [those_append, those_append, List.drop_of_length_le (by rw [List.length_append, ← oldN_eq, ← oldN_eq]; omega), List.append_nil]

theorem Fits.ok {p : List Mark} {l : List Hunk} (h : Fits p l) : (∀ x ∈ p, markFault x = 0) → (∀ q ∈ l, q.marks.length ≤ 120) → oldN p ≤ 60 → newN p ≤ 60 → hOk 0 0 l ∧ (hFin 0 0 l).1 ≤ oldN p ∧ (hFin 0 0 l).2 = (newN p : Int) - oldN p := by
  induction h with
  | nil => intro _ _ _ _; exact ⟨trivial, by simp [hFin], by simp [hFin, oldN, newN, those]⟩
  | @keep p l m h hs ih =>
    intro s0 s3 s1 s2
    rw [oldN_append, oldN_keep hs] at s1 ⊢
    rw [newN_append, newN_keep hs] at s2 ⊢
    obtain ⟨i1, i2, i3⟩ := ih (fun x hx => s0 x (List.mem_append_left _ hx)) s3 (by omega) (by omega)
    exact ⟨i1, by omega, by omega⟩
  | @hunk p l m h hc ih =>
    intro s0 s3 s1 s2
    rw [oldN_append] at s1 ⊢
    rw [newN_append] at s2 ⊢
    obtain ⟨i1, i2, i3⟩ := ih (fun x hx => s0 x (List.mem_append_left _ hx)) (fun q hq => s3 q (List.mem_append_left _ hq)) (by omega) (by omega)
    have hm : scriptFault m = 0 := scriptFault_zero.2 ⟨s3 ⟨oldN p, newN p, m⟩ (by simp), fun x hx => s0 x (List.mem_append_right _ hx)⟩
    rw [hFin_snoc]
    refine ⟨hOk_snoc _ _ _ _ i1 (oneFault_of hm hc ?_ ?_ ?_ ?_ ?_ ?_), ?_, ?_⟩
    all_goals simp only []
    all_goals omega

theorem Fits.strict {p : List Mark} {l : List Hunk} (h : Fits p l) (h1 : linesFault (those p 43) = 0) (h2 : (hunksFault l).2 = 0) (h3 : newN p ≤ 60) : strict (those p 43) l = (those p 45, 0, 0) := by
  unfold Proofs.YtjiaidchcldocaaGreatDoor.strict
  rw [if_neg (by simp [h1]), if_neg (by simp [h2])]
  obtain ⟨fr, out, e1, e2, e3⟩ := h.doAll []
  rw [List.append_nil] at e1
  rw [strictGo_of _ l 0 0 fr [] out e1 (by rw [e3, ← newN_eq]; exact h3), e3]

theorem stands_split {a : List ByteArray} {at_ : Int} {l : List ByteArray} (h : standsB a at_ l = true) : 0 ≤ at_ ∧ at_.toNat + l.length ≤ a.length ∧ a = a.take at_.toNat ++ l ++ a.drop (at_.toNat + l.length) := by
  unfold standsB at h
  simp only [Bool.and_eq_true, decide_eq_true_eq] at h
  obtain ⟨⟨h1, h2⟩, h3⟩ := h
  refine ⟨h1, by omega, ?_⟩
  conv => lhs; rw [← List.take_append_drop at_.toNat a, ← List.take_append_drop l.length (a.drop at_.toNat), h3, List.drop_drop]
  rw [List.append_assoc]

theorem hOk_mem : ∀ (l : List Hunk) (fin more : Int), hOk fin more l → ∀ h ∈ l, scriptFault h.marks = 0
  | [], _, _, _, h, hh => by simp at hh
  | x :: r, fin, more, hk, h, hh => by
    rcases List.mem_cons.1 hh with rfl | hh
    · exact (oneFault_zero hk.1).1
    · exact hOk_mem r _ _ hk.2 h hh
theorem markFault_line {m : Mark} (h : markFault m = 0) : lineFault m.text = 0 := by
  unfold markFault at h
  by_cases h1 : m.sign ≠ 32 ∧ m.sign ≠ 45 ∧ m.sign ≠ 43
  · rw [if_pos h1] at h; simp at h
  · rw [if_neg h1] at h; exact h
theorem Fits.lines {p : List Mark} {l : List Hunk} (h : Fits p l) (ha : ∀ x ∈ those p 43, lineFault x = 0) (hl : ∀ q ∈ l, scriptFault q.marks = 0) : ∀ x ∈ those p 45, lineFault x = 0 := by
  induction h with
  | nil => intro x hx; simp [those] at hx
  | @keep p l m h hs ih =>
    intro x hx
    rw [those_append, (those_keep hs).2] at hx
    rw [those_append, (those_keep hs).1] at ha
    rcases List.mem_append.1 hx with hx | hx
    · exact ih (fun y hy => ha y (List.mem_append_left _ hy)) hl x hx
    · exact ha x (List.mem_append_right _ hx)
  | @hunk p l m h hc ih =>
    intro x hx
    rw [those_append] at hx ha
    rcases List.mem_append.1 hx with hx | hx
    · exact ih (fun y hy => ha y (List.mem_append_left _ hy)) (fun q hq => hl q (List.mem_append_left _ hq)) x hx
    · have := scriptFault_zero.1 (hl ⟨oldN p, newN p, m⟩ (by simp))
      unfold those at hx
      obtain ⟨y, hy, rfl⟩ := List.mem_map.1 hx
      exact markFault_line (this.2 y (List.mem_filter.1 hy).1)

end Go.Proofs.YtjiaidchcldocaaGreatDoor
namespace Go.Proofs.YtjiaidchcldocaaGreatDoor
open Go.RowKit

def Blk2 (w : World) (B : Nat) (t : TypeId) (x y : Value) : Prop := w.heap[B]? = some (.cells #[x, y] t (0, 0))
theorem Blk2.cell {w : World} {B : Nat} {t : TypeId} {x y : Value} (h : Blk2 w B t x y) : w.cell? ⟨B, 0, none⟩ = some x ∧ w.cell? ⟨B, 1, none⟩ = some y := by
  unfold Blk2 at h
  refine ⟨?_, ?_⟩ <;> (unfold World.cell?; rw [h]; rfl)
theorem Blk2.free {w : World} {B : Nat} {t : TypeId} {x y : Value} (h : Blk2 w B t x y) (j : Nat) : w.frozen? ⟨B, j, none⟩ = false := by
  unfold Blk2 at h
  unfold World.frozen?; rw [h]; simp
theorem Blk2.lt {w : World} {B : Nat} {t : TypeId} {x y : Value} (h : Blk2 w B t x y) : B < w.heap.size := (Array.getElem?_eq_some_iff.1 h).1
theorem Blk2.keep {w w' : World} {B : Nat} {t : TypeId} {x y : Value} {O : Nat → Prop} (h : Blk2 w B t x y) (hc : Chg O w w') (hB : ¬ O B) : Blk2 w' B t x y := by
  unfold Blk2 at *
  rw [hc.block B (Array.getElem?_eq_some_iff.1 h).1 hB]
  exact h
theorem Blk2.set1 {w : World} {B : Nat} {t : TypeId} {x y : Value} (h : Blk2 w B t x y) (u : Value) : Blk2 (w.setCell ⟨B, 1, none⟩ u) B t x u := by
  unfold Blk2 at *
  simp [World.setCell, Array.getElem?_modify, h]
theorem Blk2.new (w : World) (t : TypeId) (x y : Value) : Blk2 (w.alloc (.cells #[x, y] t)) w.heap.size t x y := heap_alloc_new _ _
def Blk3 (w : World) (B : Nat) (t : TypeId) (x y z : Value) : Prop := w.heap[B]? = some (.cells #[x, y, z] t (0, 0))
theorem Blk3.cell {w : World} {B : Nat} {t : TypeId} {x y z : Value} (h : Blk3 w B t x y z) : w.cell? ⟨B, 0, none⟩ = some x ∧ w.cell? ⟨B, 1, none⟩ = some y ∧ w.cell? ⟨B, 2, none⟩ = some z := by
  unfold Blk3 at h
  simp [World.cell?, h]
theorem Blk3.free {w : World} {B : Nat} {t : TypeId} {x y z : Value} (h : Blk3 w B t x y z) (j : Nat) : w.frozen? ⟨B, j, none⟩ = false := by
  unfold Blk3 at h
  simp [World.frozen?, h]
theorem Blk3.lt {w : World} {B : Nat} {t : TypeId} {x y z : Value} (h : Blk3 w B t x y z) : B < w.heap.size := (Array.getElem?_eq_some_iff.1 h).1
theorem Blk3.keep {w w' : World} {B : Nat} {t : TypeId} {x y z : Value} {O : Nat → Prop} (h : Blk3 w B t x y z) (hc : Chg O w w') (hB : ¬ O B) : Blk3 w' B t x y z := by
  have := hc.block B h.lt hB
  unfold Blk3 at *
  rw [this]
  exact h
theorem Blk3.set2 {w : World} {B : Nat} {t : TypeId} {x y z : Value} (h : Blk3 w B t x y z) (u : Value) : Blk3 (w.setCell ⟨B, 2, none⟩ u) B t x y u := by
  unfold Blk3 at *
  simp [World.setCell, Array.getElem?_modify, h]
theorem Blk3.set0 {w : World} {B : Nat} {t : TypeId} {x y z : Value} (h : Blk3 w B t x y z) (u : Value) : Blk3 (w.setCell ⟨B, 0, none⟩ u) B t u y z := by
  unfold Blk3 at *
  simp [World.setCell, Array.getElem?_modify, h]
theorem Blk3.set1 {w : World} {B : Nat} {t : TypeId} {x y z : Value} (h : Blk3 w B t x y z) (u : Value) : Blk3 (w.setCell ⟨B, 1, none⟩ u) B t x u z := by
  unfold Blk3 at *
  simp [World.setCell, Array.getElem?_modify, h]
theorem Blk3.new (w : World) (t : TypeId) (x y z : Value) : Blk3 (w.alloc (.cells #[x, y, z] t)) w.heap.size t x y z := heap_alloc_new _ _
theorem own_isSlice {α : Type} [Dat α] {e : TypeId} {w : World} {O : Nat → Prop} {v : Value} {l : List α} (h : Own e w O v l) : ∃ a n c, v = .slice a n c := by
  obtain ⟨xs, hx, _⟩ := h
  rcases hx.2 with ⟨h, _⟩ | ⟨g, cap, cur, h, _⟩
  · exact ⟨_, _, _, h⟩
  · exact ⟨_, _, _, h⟩
theorem cell_put_eq {w : World} {p : Addr} {v : Value} (h : w.cell? p = some v) : w.setCell p v = w := by
  have e : (w.setCell p v).heap = w.heap := by
    unfold World.setCell World.cell? at *
    apply Array.ext_getElem?
    intro i
    simp only [Array.getElem?_modify]
    by_cases hi : p.block = i
    · subst hi
      rw [if_pos rfl]
      cases hb : w.heap[p.block]? with
      | none => rfl
      | some ob =>
        rw [hb] at h
        cases ob with
        | cells c e f =>
          simp only at h
          by_cases hs : p.spot.isSome = true
          · rw [if_pos hs] at h; cases h
          · rw [if_neg hs] at h
            simp only [Option.map_some, hs]
            congr 2
            apply Array.ext_getElem?
            intro j
            simp only [Bool.false_eq_true, if_false]
            rw [Array.getElem?_setIfInBounds]
            by_cases hj : p.off = j
            · subst hj
              rw [if_pos rfl]
              split
              · exact h.symm
              · rw [Array.getElem?_eq_none (by omega)]
            · rw [if_neg hj]
        | _ => rfl
    · rw [if_neg hi]
  have : w.setCell p v = { w with heap := (w.setCell p v).heap } := rfl
  rw [this, e]
end Go.Proofs.YtjiaidchcldocaaGreatDoor
namespace Go.Proofs.YtjiaidchcldocaaGreatDoor
open Go.RowKit


end Go.Proofs.YtjiaidchcldocaaGreatDoor
namespace Go.Proofs.YtjiaidchcldocaaGreatDoor
open Go.RowKit

theorem elems_cells {α : Type} [Dat α] {w : World} {O : Nat → Prop} {b off : Nat} {m : List α} (h : Elems w O (some ⟨b, off, none⟩) m) : ∀ k, k ≤ m.length →
    ∃ news : List Value, news.length = k * Dat.n α ∧ (∀ (j : Nat) (u : Value), news[j]? = some u → w.cell? ⟨b, off + j, none⟩ = some u) ∧ (∀ u ∈ news, u.oneCell' = true) ∧
      (∀ (i : Nat) (x : α), i < k → m[i]? = some x → Dat.rd w O ((news.drop (i * Dat.n α)).take (Dat.n α)) x) := by
  intro k
  induction k with
  | zero => intro _; exact ⟨[], by simp, by simp, by simp, fun i x hi => by omega⟩
  | succ k ih =>
    intro hk
    obtain ⟨news, h1, h2, h3, h4⟩ := ih (by omega)
    have hx : m[k]? = some m[k] := by simp
    obtain ⟨b', off', es, he, hb, hcs, hr⟩ := h k m[k] hx
    simp only [Option.some.injEq, Addr.mk.injEq, and_true] at he
    obtain ⟨rfl, rfl⟩ := he
    have hes := Dat.len hr
    refine ⟨news ++ es, by rw [List.length_append, h1, hes, Nat.succ_mul], ?_, ?_, ?_⟩
    · intro j u hj
      rcases Nat.lt_or_ge j news.length with hl | hl
      · rw [List.getElem?_append_left hl] at hj
        exact h2 j u hj
      · rw [List.getElem?_append_right hl] at hj
        have := hcs _ u hj
        rw [show off + k * Dat.n α + (j - news.length) = off + j by omega] at this
        exact this
    · intro u hu
      rcases List.mem_append.1 hu with hu | hu
      · exact h3 u hu
      · exact Dat.one hr u hu
    · intro i x hi hxi
      rcases Nat.lt_or_ge i k with hl | hl
      · have hle : i * Dat.n α + Dat.n α ≤ news.length := by rw [h1, ← Nat.succ_mul]; exact Nat.mul_le_mul_right _ hl
        rw [List.drop_append_of_le_length (by omega), List.take_append_of_le_length (by rw [List.length_drop]; omega)]
        exact h4 i x hl hxi
      · obtain rfl : i = k := by omega
        rw [hx] at hxi
        injection hxi with hxi
        subst hxi
        rw [← h1, List.drop_left, List.take_of_length_le (by omega)]
        exact hr

theorem run_append_empty {P : Program} {t ty e : TypeId} {n : Nat} (hP : ElemOk P t e n) {w : World} {v : Value} {m : Nat} {xs : List Value} (hown : w.ownsRow 0 e n v m xs) (a : Option Addr) (c : Nat) :
    (Builtin.append_ #[t, t] ty #[v, .slice a 0 c]).run P w = .ok v w := by
  obtain ⟨i, z, hi, _⟩ := hP.info
  have ht := hP.ht
  cases a with
  | none =>
    rcases hown.2 with ⟨rfl, rfl⟩ | ⟨g, cap, cur, rfl, _, _, hnc, _⟩
    · simp [Builtin.append_, run_underlying ht, sizeOf, typeInfo, hi, Builtin.lenOf, Builtin.firstCells]
    · simp [Builtin.append_, run_underlying ht, sizeOf, typeInfo, hi, Builtin.lenOf, Builtin.firstCells, hnc, storeCells]
  | some a =>
    rcases hown.2 with ⟨rfl, rfl⟩ | ⟨g, cap, cur, rfl, _, _, hnc, _⟩
    · simp [Builtin.append_, run_underlying ht, sizeOf, typeInfo, hi, Builtin.lenOf, Builtin.firstCells, loadCells, loadCellsFrom]
    · simp [Builtin.append_, run_underlying ht, sizeOf, typeInfo, hi, Builtin.lenOf, Builtin.firstCells, loadCells, loadCellsFrom, hnc, storeCells]

theorem run_many {P : Program} {α : Type} [Dat α] {t ty e : TypeId} (hP : ElemOk P t e (Dat.n α)) {w0 : World} {O : Nat → Prop} {v x : Value} {l m : List α}
    (hown : Own e w0 O v l) (hx : Rdv w0 Never x m) (hd : ∀ cs y, Dat.rd w0 Never cs (y : α) → Dat.rd w0 (fun k => O k ∨ v.ownBlock = some k) cs y) (hO : ∀ k, O k → k < w0.heap.size) (hlen : l.length + m.length ≤ 1000000000) :
    ∃ v' w', (Builtin.append_ #[t, t] ty #[v, x]).run P w0 = .ok v' w' ∧ Own e w' O v' (l ++ m) ∧ Chg (OwnB v) w0 w' := by
  obtain ⟨a, cap, rfl, c1, c2, hel⟩ := rdv_slice hx
  rcases Nat.eq_zero_or_pos m.length with h0 | hpos
  · have : m = [] := List.eq_nil_of_length_eq_zero h0
    subst this
    refine ⟨v, w0, ?_, by rw [List.append_nil]; exact hown, Chg.refl _ _⟩
    obtain ⟨xs, hrow, _⟩ := hown
    exact run_append_empty hP hrow a cap
  · obtain ⟨b, off, rfl⟩ : ∃ b off, a = some ⟨b, off, none⟩ := by
      obtain ⟨b, off, es, ha, _⟩ := hel 0 m[0] (by simp [hpos])
      exact ⟨b, off, ha⟩
    obtain ⟨i, z, hi, hz, hsz, hzs, hby⟩ := hP.info
    obtain ⟨xs, hrow, hb, hels⟩ := id hown
    obtain ⟨news, n1, n2, n3, n4⟩ := elems_cells hel m.length (Nat.le_refl _)
    have hpos' := Dat.pos (α := α)
    have hcells : ∀ j u, news[j]? = some u → w0.cell? ((⟨b, off, none⟩ : Addr).add j) = some u := by
      intro j u hj
      have e1 : (⟨b, off, none⟩ : Addr).add j = ⟨b, off + j, none⟩ := by unfold Addr.add; split <;> simp_all
      rw [e1]
      exact n2 j u hj
    have hbound : (l.length + m.length) * i.bytes ≤ 140737488355328 := by
      have := Nat.mul_le_mul hlen hby
      omega
    obtain ⟨v', w', hrun, hown', hgrow, hnil⟩ := run_append_own (P := P) w0 0 t ty e i z (Dat.n α) i.bytes hP.ht hi hz hsz rfl hzs hpos' v l.length xs hrow
      ⟨b, off, none⟩ m.length cap news n1 hcells n3 (by unfold maxLen; omega) hbound (Nat.zero_le _)
    obtain ⟨kb, hkb, hkb'⟩ := append_block (P := P) w0 0 t ty e i z (Dat.n α) i.bytes hP.ht hi hz hsz rfl v l.length xs hrow
      ⟨b, off, none⟩ m.length cap news n1 hcells n3 (by unfold maxLen; omega) hbound (by omega) hrun
    have hc : Chg (OwnB v) w0 w' := Chg.of_grown hgrow
    have hsub : ∀ k, k < w0.heap.size → (O k ∨ v'.ownBlock = some k) → (O k ∨ v.ownBlock = some k) := by
      rintro k hk (h | h)
      · exact .inl h
      · rw [hkb] at h
        injection h with h
        subst h
        rcases hkb' with h | h
        · exact .inr h
        · omega
    refine ⟨v', w', hrun, ⟨xs ++ news, ?_, ?_, ?_⟩, hc⟩
    · rw [List.length_append]; exact hown'
    · intro k hk ho
      rw [hkb] at hk
      injection hk with hk
      subst hk
      rcases hkb' with h | h
      · exact hb _ h ho
      · exact absurd (hO _ ho) (by omega)
    · intro j y hj
      have hxl : xs.length = l.length * Dat.n α := hrow.1
      rcases Nat.lt_or_ge j l.length with hjl | hjl
      · rw [List.getElem?_append_left hjl] at hj
        have hle : j * Dat.n α + Dat.n α ≤ xs.length := by rw [hxl, ← Nat.succ_mul]; exact Nat.mul_le_mul_right _ hjl
        rw [List.drop_append_of_le_length (by omega), List.take_append_of_le_length (by rw [List.length_drop]; omega)]
        exact Dat.keep (hels j y hj) hc (fun k _ hk => .inr hk) hsub
      · rw [List.getElem?_append_right hjl] at hj
        have hjm := (List.getElem?_eq_some_iff.1 hj).1
        have e1 : (xs ++ news).drop (j * Dat.n α) = news.drop ((j - l.length) * Dat.n α) := by
          have e2 : j * Dat.n α = xs.length + (j - l.length) * Dat.n α := by rw [hxl, ← Nat.add_mul]; congr 1; omega
          rw [e2, List.drop_append]
          simp
        rw [e1]
        exact Dat.keep (hd _ _ (n4 _ y hjm hj)) hc (fun k _ hk => .inr hk) hsub

theorem wpList_many {P : Program} {ops : Array Oper} {rest : List Oper} {o : Oper} {a : Act} {Q : Exit → Act → World → Prop} (hgd : o.guard = none) (s x : Operand) (t : TypeId)
    (ho : o.op = .call { callee := .builtin .append, args := #[s, x], argTypes := #[t, t] }) {α : Type} [Dat α] {e : TypeId} (hP : ElemOk P t e (Dat.n α)) {w0 : World} {O : Nat → Prop} {v u : Value} {l m : List α}
    (hs : a.eval s = v) (hx : a.eval x = u) (hown : Own e w0 O v l) (hu : Rdv w0 Never u m) (hd : ∀ cs y, Dat.rd w0 Never cs (y : α) → Dat.rd w0 (fun k => O k ∨ v.ownBlock = some k) cs y) (hO : ∀ k, O k → k < w0.heap.size) (hlen : l.length + m.length ≤ 1000000000)
    (h : ∀ v' w', Own e w' O v' (l ++ m) → Chg (OwnB v) w0 w' → wpList P ops Q rest (a.put o.dst v') w') :
    wpList P ops Q (o :: rest) a w0 := by
  refine wpList_plain hgd fun K hK => ?_
  obtain ⟨v', w', hrun, h1, h2⟩ := run_many (ty := o.type) hP hown hu hd hO hlen
  unfold Oper.wp execOp
  simp only [ho, resolve, invoke, builtin, Sem.run_bind, Sem.run_pure, Result.andThen_ok, List.map_toArray, List.map_cons, List.map_nil, hs, hx, hrun]
  exact hK _ _ (h v' w' h1 h2)

theorem elems_sub {α : Type} [Dat α] {w : World} {O : Nat → Prop} {b off : Nat} {l : List α} (h : Elems w O (some ⟨b, off, none⟩) l) (i k : Nat) : Elems w O (some ⟨b, off + i * Dat.n α, none⟩) ((l.drop i).take k) := by
  intro q x hx
  rw [List.getElem?_take] at hx
  split at hx
  · rw [List.getElem?_drop] at hx
    obtain ⟨b', off', es, he, hb, hcs, hr⟩ := h (i + q) x hx
    simp only [Option.some.injEq, Addr.mk.injEq, and_true] at he
    obtain ⟨rfl, rfl⟩ := he
    refine ⟨b, _, es, rfl, hb, ?_, hr⟩
    rw [Nat.add_assoc, ← Nat.add_mul]
    exact hcs
  · cases hx
theorem rdv_sliced {α : Type} [Dat α] {w : World} {O : Nat → Prop} {a : Option Addr} {cap : Nat} {l : List α} (h : Rdv w O (.slice a l.length cap) l) (i j : Nat) (hij : i ≤ j) (hj : j ≤ l.length) :
    Rdv w O (sliced a i j cap (Dat.n α)) ((l.drop i).take (j - i)) := by
  obtain ⟨a', cap', e, h1, h2, h3⟩ := rdv_slice h
  simp only [Value.slice.injEq, true_and] at e
  obtain ⟨rfl, rfl⟩ := e
  have hl : ((l.drop i).take (j - i)).length = j - i := by rw [List.length_take, List.length_drop]; omega
  refine ⟨if cap = i then a else a.map (·.add (i * Dat.n α)), cap - i, by rw [hl]; rfl, by rw [hl]; omega, by omega, ?_⟩
  by_cases hc : cap = i
  · have : (l.drop i).take (j - i) = [] := List.eq_nil_of_length_eq_zero (by rw [hl]; omega)
    rw [this]
    intro q x hx
    simp at hx
  · rw [if_neg hc]
    intro q x hx
    have hq := (List.getElem?_eq_some_iff.1 hx).1
    have hpos : 0 < l.length := by rw [hl] at hq; omega
    obtain ⟨b, off, es, ha, _⟩ := h3 0 l[0] (by simp [hpos])
    subst ha
    have e1 : (some (⟨b, off, none⟩ : Addr)).map (·.add (i * Dat.n α)) = some ⟨b, off + i * Dat.n α, none⟩ := by
      simp only [Option.map_some]
      unfold Addr.add
      split <;> simp_all
    rw [e1]
    exact elems_sub h3 i (j - i) q x hx
theorem sliced_isSlice (a : Option Addr) (i j cap s : Nat) : ∃ b, sliced a i j cap s = .slice b (j - i) (cap - i) := ⟨_, rfl⟩
end Go.Proofs.YtjiaidchcldocaaGreatDoor
namespace Go.Proofs.YtjiaidchcldocaaGreatDoor
open Go.RowKit

theorem sides_any (l : List Mark) (v : Value) (w : World) (h : Rdv w Never v l) (hz : scriptFault l = 0) :
    Calls Tryz.prog 143 #[v] w fun e w' => ∃ r s, e = .returned (.tuple #[r, s, .nilIface]) ∧ Chg Never w w' ∧ Rdv w' (Old w.heap.size) r (oldOf l) ∧ Rdv w' (Old w.heap.size) s (newOf l) := by
  have HZ := Lib.hid hz
  have H1 : Hid (thoseR l 43 = oldOf l) := if_pos hz
  have H2 : Hid (thoseR l 45 = newOf l) := if_pos hz
  clear hz
  go_enter Tryz.func143, Tryz.ntmps143
  go_wp2_with fail
  refine (old_any l _ _ h).mono ?_
  rintro e w1 ⟨r1, rfl, hc1, hr1⟩
  rw [HZ.out, errV_zero]
  rw [H1.out] at hr1
  go_wp2_with fail
  refine (new_any l _ _ (h.never hc1)).mono ?_
  rintro e w2 ⟨r2, rfl, hc2, hr2⟩
  rw [HZ.out, errV_zero]
  rw [H2.out] at hr2
  go_wp2_with fail
  go_ret3
  exact ⟨r1, r2, rfl, hc1.trans hc2, hr1.never hc2, hr2.sub (fun k hk h => Nat.lt_of_lt_of_le h hc1.size)⟩

theorem str_bne_true {x y : ByteArray} (h : x ≠ y) : (x.toList != y.toList) = true := by
  have := str_beq_false h
  simp only [bne, this, Bool.not_false]
theorem equal_any (l m : List ByteArray) (v u : Value) (w : World) (h : Rdv w Never v l) (g : Rdv w Never u m) :
    Calls Tryz.prog 186 #[v, u] w fun e w' => e = .returned (.bool (decide (l = m))) ∧ Chg Never w w' := by
  obtain ⟨a, cap, rfl, h1, h2, h3⟩ := rdv_slice h
  obtain ⟨c, cap', rfl, g1, g2, g3⟩ := rdv_slice g
  unfold maxLen at h2 g2
  by_cases h4 : l.length = m.length
  · have h4' : ((l.length : Int) != m.length) = false := by simp [h4]
    have H4 := Lib.hid h4
    clear h4
    go_enter Tryz.func186, Tryz.ntmps186
    go_wp2
    go_loopw [13] (fun i wr => ∃ k : Nat, k ≤ l.length ∧ i = .int .i64 k ∧ Hid (l.take k = m.take k) ∧ Chg Never w wr) (fun i _ => l.length - (intOf i).toNat)
    case atStart => exact ⟨0, Nat.zero_le _, rfl, by simp [Hid], Chg.refl _ _⟩
    case round =>
      obtain ⟨k, hk, rfl, hf, hc⟩ := hrel
      by_cases hlt : k < l.length
      · obtain ⟨x, hx⟩ : ∃ x, l[k]? = some x := ⟨l[k], by simp [hlt]⟩
        obtain ⟨y, hy⟩ : ∃ y, m[k]? = some y := ⟨m[k]'(by rw [← H4.out]; exact hlt), by simp [H4.out ▸ hlt]⟩
        obtain ⟨b, off, rfl, _, _, hcx, hxs⟩ := elems_str h3 hx
        obtain ⟨b', off', rfl, _, _, hcy, hys⟩ := elems_str g3 hy
        have hcx := hc.cellNever hcx
        have hcy := hc.cellNever hcy
        clear h3 g3 h g
        have hlm : k < m.length := by rw [← H4.out]; exact hlt
        have HX := Lib.hid hx
        have HY := Lib.hid hy
        clear hx hy
        have b1 : (k : Int) < l.length := by omega
        have b2 : (k : Int) < m.length := by omega
        by_cases hxy : x = y
        · subst hxy
          go_wp2
          go_quiet (fail)
          go_wp2
          go_roundw
          case rel => exact ⟨k + 1, by omega, by go_num, take_same hf HX.out HY.out, hc.drewN _⟩
          case measure => simp [intOf]; omega
        · have hne := str_beq_false hxy
          have hne' := str_bne_true hxy
          go_wp2
          go_quiet (fail)
          go_wp2
          go_ret
          exact ⟨by rw [decide_eq_false (ne_of_get HX.out HY.out hxy)]; rfl, hc.drewN _⟩
      · go_wp2
        go_ret
        have E : l = m := by
          have := hf.out
          rwa [List.take_of_length_le (by omega), List.take_of_length_le (by rw [← H4.out]; omega)] at this
        exact ⟨by rw [decide_eq_true E]; rfl, hc⟩
  · have h4' : ((l.length : Int) != m.length) = true := by simp; omega
    go_enter Tryz.func186, Tryz.ntmps186
    go_wp2
    go_ret
    exact ⟨by rw [decide_eq_false (fun e => h4 (by rw [e]))]; rfl, Chg.refl _ _⟩

theorem size_str (w : World) : (sizeOf (Tryz.prog.elem 86)).run Tryz.prog w = .ok 1 w := by kernel_rfl
theorem slice_str {w0 : World} {O : Nat → Prop} {a : Option Addr} {cap : Nat} {l : List ByteArray} (h : Rdv w0 O (.slice a l.length cap) l) (i j : Nat) (hij : i ≤ j) (hj : j ≤ l.length) :
    ∃ b, (∀ (x y : Int) (w : World), x = i → y = j → (Instr.slice 86 (.slice a l.length cap) (some (.int .i64 x)) (some (.int .i64 y)) none).run Tryz.prog w = .ok (.slice b (j - i) (cap - i)) w) ∧
      (∀ (x : Int) (w : World), x = i → j = l.length → (Instr.slice 86 (.slice a l.length cap) (some (.int .i64 x)) none none).run Tryz.prog w = .ok (.slice b (j - i) (cap - i)) w) ∧
      Rdv w0 O (.slice b (j - i) (cap - i)) ((l.drop i).take (j - i)) := by
  have hr := rdv_sliced h i j hij hj
  obtain ⟨b, hb⟩ := sliced_isSlice a i j cap 1
  obtain ⟨a', cap', e, h1, h2, h3⟩ := rdv_slice h
  simp only [Value.slice.injEq, true_and] at e
  obtain ⟨rfl, rfl⟩ := e
  refine ⟨b, ?_, ?_, hb ▸ hr⟩
  · rintro x y w rfl rfl
    rw [run_slice_lh w 86 a l.length cap (by kernel_rfl) .i64 .i64 _ _ (by omega) (by omega) (by omega), size_str]
    simp only [Result.andThen_ok, Int.toNat_natCast]
    rw [hb]
  · rintro x w rfl rfl
    rw [run_slice_l w 86 a l.length cap (by kernel_rfl) .i64 _ (by omega) (by omega), size_str]
    simp only [Result.andThen_ok, Int.toNat_natCast]
    rw [hb]

theorem stands_any (a l : List ByteArray) (at_ : Int) (v u : Value) (w : World) (ha : Rdv w Never v a) (hl : Rdv w Never u l) (h0 : -1000000 ≤ at_) (h1 : at_ ≤ 1000000) (hla : a.length ≤ 1000000) (hll : l.length ≤ 1000000) :
    Calls Tryz.prog 144 #[v, .int .i64 at_, u] w fun e w' => e = .returned (.bool (standsB a at_ l)) ∧ Chg Never w w' := by
  obtain ⟨b, cap, rfl, _, hcap, _⟩ := rdv_slice ha
  obtain ⟨c, cap', rfl, _, _, _⟩ := rdv_slice hl
  unfold maxLen at hcap
  by_cases c1 : at_ < 0
  · have E : standsB a at_ l = false := by unfold standsB; simp; omega
    rw [E]
    go_enter Tryz.func144, Tryz.ntmps144
    go_wp2_with fail
    go_ret
    exact ⟨rfl, Chg.refl _ _⟩
  · obtain ⟨n, rfl⟩ := Int.eq_ofNat_of_zero_le (show 0 ≤ at_ by omega)
    by_cases c2 : a.length < n + l.length
    · have E : standsB a n l = false := by unfold standsB; simp; omega
      rw [E]
      have t1 : decide ((n : Int) + l.length ≤ a.length) = false := by simp; omega
      go_enter Tryz.func144, Tryz.ntmps144
      go_wp2_with fail
      go_ret
      exact ⟨rfl, Chg.refl _ _⟩
    · have E : Hid (standsB a n l = decide ((a.drop n).take l.length = l)) := by
        unfold Hid standsB
        have e1 : decide ((0 : Int) ≤ n) = true := by simp
        have e2 : decide ((n : Int) + l.length ≤ a.length) = true := by simp; omega
        rw [e1, e2]; simp
      obtain ⟨sb, hrun, _, hsub⟩ := slice_str ha n (n + l.length) (by omega) (by omega)
      have hrun := fun (wx : World) => hrun n ((n : Int) + l.length) wx rfl (by push_cast; rfl)
      rw [show n + l.length - n = l.length by omega] at hrun hsub
      have t1 : decide ((n : Int) + l.length ≤ a.length) = true := by simp; omega
      clear c2
      go_enter Tryz.func144, Tryz.ntmps144
      go_wp2_with fail
      refine (equal_any ((a.drop n).take l.length) l _ _ _ hsub hl).mono ?_
      rintro e w1 ⟨rfl, hc1⟩
      go_wp2_with fail
      go_ret
      exact ⟨by rw [E.out]; rfl, hc1⟩
end Go.Proofs.YtjiaidchcldocaaGreatDoor
namespace Go.Proofs.YtjiaidchcldocaaGreatDoor
open Go.RowKit

set_option maxRecDepth 100000 in
theorem grow_nil (n : Nat) (w : World) (hn : n ≤ 1000000) :
    Calls Tryz.prog 187 #[.slice none 0 0, .int .i64 n] w fun e w' => ∃ r, e = .returned r ∧ Chg Never w w' ∧ Own 9 w' (Old w.heap.size) r ([] : List ByteArray) := by
  rcases Nat.eq_zero_or_pos n with h0 | hpos
  · subst h0
    go_enter Tryz.func187, Tryz.ntmps187
    go_wp2_with fail
    go_ret
    exact ⟨_, rfl, Chg.refl _ _, own_nil _ _ _⟩
  · obtain ⟨i0, hi0, hz0, hs0, hb0⟩ := info_parts (show (Tryz.prog.info? 9).map (fun i => (i.zero, i.size, i.bytes)) = some (some (.string ⟨#[]⟩), 1, 16) by kernel_rfl)
    have hold : (Builtin.firstCells i0.size 0 (.slice none 0 0)).run Tryz.prog w.drew = .ok ([] : List Value).toArray w.drew := run_firstCells_none w.drew i0.size 0 0 0
    have hrz : ∀ ty, (Builtin.append_ #[86, 3] ty #[.slice none 0 0, .int .i64 (n : Int)]).run Tryz.prog w = .ok (.slice (some ⟨w.heap.size, 0, none⟩) n (grownCap w n 0 9))
        (w.drew.alloc (.cells (([] : List Value).toArray ++ Builtin.zeroCells (Value.string ⟨#[]⟩).cells n ++ Builtin.zeroCells (Value.string ⟨#[]⟩).cells (grownCap w n 0 9 - n)) 9)) := fun ty => by
      have h := Lib.run_append_grow_zeros w 86 3 ty 9 i0 (.string ⟨#[]⟩) .i64 .i64 Tryz.underlying86 Tryz.underlying3 hi0 hz0 none 0 0 [] hold n hpos (by omega) (by omega) (by omega) (by rw [hb0]; omega)
        (growslice_fits (by omega) (by rw [hb0]; omega))
      rw [Nat.zero_add] at h
      exact h
    have hGn : n ≤ grownCap w n 0 9 := grownCap_ge w _ _ _
    have hGm : grownCap w n 0 9 ≤ maxLen := grownCap_le_maxLen w n 0 9 (by unfold maxLen; omega)
    generalize grownCap w n 0 9 = G at hrz hGn hGm
    have hG63 : G ≤ 9223372036854775807 := by unfold maxLen at hGm; omega
    obtain ⟨cur, hcur⟩ : ∃ cur, cur = ([] : List Value).toArray ++ Builtin.zeroCells (Value.string ⟨#[]⟩).cells n ++ Builtin.zeroCells (Value.string ⟨#[]⟩).cells (G - n) := ⟨_, rfl⟩
    rw [← hcur] at hrz
    have hcs : cur.size = G * 1 := by rw [hcur]; simp [Builtin.zeroCells, Value.cells]; omega
    clear hcur
    have hmade : (w.drew.alloc (.cells cur 9)).ownsRow 0 9 1 (.slice (some ⟨w.heap.size, 0, none⟩) 0 G) 0 [] :=
      World.ownsRow_made w.drew _ G (Nat.zero_le _) hGm hcs
    have hcw : Chg Never w (w.drew.alloc (.cells cur 9)) := (Chg.refl Never w).drew.alloc _
    clear hcs
    have HM := Lib.hid hmade
    have HC := Lib.hid hcw
    clear hmade hcw hold hi0 hz0 hs0 hb0 hGm
    go_enter Tryz.func187, Tryz.ntmps187
    go_wp2_with (at_builtin; refine Lib.wpList_append_run _ rfl _ _ _ _ rfl _ _ rfl rfl _ _ (hrz _) ?_)
    all_goals
      go_ret
      have HO : ∀ k, (Value.slice (some ⟨w.heap.size, 0, none⟩) 0 G).ownBlock = some k → ¬ Old w.heap.size k := by
        intro k hk ho
        simp only [Value.ownBlock, Option.some.injEq] at hk
        subst hk
        unfold Old at ho
        omega
      exact ⟨.slice (some ⟨w.heap.size, 0, none⟩) 0 G, rfl, HC.out, [], HM.out, HO, fun i x hi => by simp at hi⟩

theorem elems_list {α : Type} [Dat α] {w : World} {O : Nat → Prop} {a : Option Addr} {l : List (List α)} (h : Elems w O a l) {i : Nat} {x : List α} (hx : l[i]? = some x) :
    ∃ b off v, a = some ⟨b, off, none⟩ ∧ ¬ O b ∧ b < w.heap.size ∧ w.cell? ⟨b, off + i, none⟩ = some v ∧ Rdv w O v x := by
  obtain ⟨b, off, es, ha, hb, hcs, hr⟩ := h i x hx
  obtain ⟨v, rfl⟩ : ∃ v, es = [v] := by
    have hl : es.length = 1 := Dat.len hr
    match es, hl with
    | [v], _ => exact ⟨v, rfl⟩
  refine ⟨b, off, v, ha, hb, hcs.lt (by simp), ?_, hr⟩
  have := hcs 0 v rfl
  simpa [Dat.n] using this
theorem flatten_take {l : List (List ByteArray)} {k : Nat} {x : List ByteArray} (hx : l[k]? = some x) : (l.take (k + 1)).flatten = (l.take k).flatten ++ x := by
  rw [List.take_add_one, hx]; simp
def totalOf (l : List (List ByteArray)) (k : Nat) : Nat := (l.take k).flatten.length
theorem flatten_take_le (l : List (List ByteArray)) (k : Nat) : (l.take k).flatten.length ≤ l.flatten.length := by
  have h : ((l.take k) ++ (l.drop k)).flatten.length = l.flatten.length := by rw [List.take_append_drop]
  rw [List.flatten_append, List.length_append] at h
  omega
theorem rd_str_any (w : World) (O O' : Nat → Prop) : ∀ cs (y : ByteArray), Dat.rd w O cs y → Dat.rd w O' cs y := fun _ _ h => h

set_option maxHeartbeats 800000 in
set_option maxRecDepth 100000 in
theorem concat_any (ls : List (List ByteArray)) (v : Value) (w : World) (h : Rdv w Never v ls) (hb : ls.flatten.length ≤ 1000000) :
    Calls Tryz.prog 145 #[v] w fun e w' => ∃ r, e = .returned r ∧ Chg Never w w' ∧ Own 9 w' (Old w.heap.size) r ls.flatten := by
  obtain ⟨a, cap, rfl, h1, h2, h3⟩ := rdv_slice h
  unfold maxLen at h2
  go_enter Tryz.func145, Tryz.ntmps145
  go_wp2_with fail
  go_loop [3, 5, 11] (fun sz _ i => ∃ k : Nat, k ≤ ls.length ∧ i = .int .i64 k ∧ sz = .int .i64 (totalOf ls k)) (fun _ _ i => ls.length - (intOf i).toNat)
  case atStart => exact ⟨0, Nat.zero_le _, rfl, rfl⟩
  case round =>
    obtain ⟨k, hk, rfl, rfl⟩ := hrel
    by_cases hlt : k < ls.length
    · obtain ⟨x, hx⟩ : ∃ x, ls[k]? = some x := ⟨ls[k], by simp [hlt]⟩
      obtain ⟨b, off, sv, rfl, _, _, c0, hsv⟩ := elems_list h3 hx
      obtain ⟨xa, xcap, rfl, _, _, _⟩ := rdv_slice hsv
      have HT : Hid (totalOf ls (k + 1) = totalOf ls k + x.length) := by rw [Hid, totalOf, flatten_take hx, List.length_append]; rfl
      have hle : totalOf ls k + x.length ≤ 1000000 := by
        have h1 : totalOf ls (k + 1) ≤ ls.flatten.length := flatten_take_le ls (k + 1)
        rw [HT.out] at h1
        omega
      clear hx h3 h hsv
      go_wp2_with fail
      go_round
      case rel => exact ⟨k + 1, by omega, by go_num, by rw [HT.out]; go_num⟩
      case measure => simp [intOf] <;> omega
    · obtain rfl : k = ls.length := by omega
      have hb' : totalOf ls ls.length ≤ 1000000 := Nat.le_trans (flatten_take_le ls _) hb
      go_wp2_with fail
      refine (grow_nil (totalOf ls ls.length) _ hb').mono ?_
      rintro e w1 ⟨r1, rfl, hc1, hown1⟩
      go_wp2_with fail
      go_loopw [6, 8, 27] (fun o _ i wr => ∃ k : Nat, k ≤ ls.length ∧ i = .int .i64 k ∧ Chg Never w wr ∧ Own 9 wr (Old w.heap.size) o (ls.take k).flatten) (fun _ _ i _ => ls.length - (intOf i).toNat)
      case atStart => exact ⟨0, Nat.zero_le _, rfl, hc1, hown1⟩
      case round =>
        clear hc1 hown1
        obtain ⟨k, hk, rfl, hc, hown⟩ := hrel
        by_cases hlt : k < ls.length
        · obtain ⟨x, hx⟩ : ∃ x, ls[k]? = some x := ⟨ls[k], by simp [hlt]⟩
          obtain ⟨b, off, sv, rfl, _, _, c0, hsv⟩ := elems_list h3 hx
          obtain ⟨xa, xcap, rfl, _, _, _⟩ := rdv_slice hsv
          have c0 := hc.cellNever c0
          have hsv := hsv.never hc
          have HF := Lib.hid (flatten_take hx)
          have hle : (ls.take k).flatten.length + x.length ≤ 1000000000 := by
            have := flatten_take_le ls (k + 1)
            rw [HF.out, List.length_append] at this
            omega
          clear hx h3 h
          go_wp2_with (at_builtin; refine wpList_many (by rfl) _ _ 86 (by rfl) elemOk_str (O := Old w.heap.size) (by rfl) (by rfl) hown hsv (rd_str_any _ _ _) (old_lt hc) hle ?_; intro v' w5 hown2 hc2)
          have hc3 := own_step hc hown hc2
          clear hc2 hown
          go_wp2_with fail
          go_roundw
          case rel => exact ⟨k + 1, by omega, by go_num, hc3, by rw [HF.out]; exact hown2⟩
          case measure => simp [intOf] <;> omega
        · obtain rfl : k = ls.length := by omega
          rw [List.take_length] at hown
          go_wp2_with fail
          go_ret
          exact ⟨_, rfl, hc, hown⟩
end Go.Proofs.YtjiaidchcldocaaGreatDoor
namespace Go.Proofs.YtjiaidchcldocaaGreatDoor
open Go.RowKit

theorem own_shape {α : Type} [Dat α] {e : TypeId} {w : World} {O : Nat → Prop} {v : Value} {l : List α} (h : Own e w O v l) : ∃ a c, v = .slice a l.length c ∧ c ≤ maxLen := by
  obtain ⟨xs, hx, _⟩ := h
  rcases hx.2 with ⟨h, h0⟩ | ⟨g, cap, cur, h, _, _, _, hm, _⟩
  · exact ⟨none, 0, by rw [h, h0], Nat.zero_le _⟩
  · exact ⟨_, _, h, hm⟩

set_option maxHeartbeats 1600000 in
set_option maxRecDepth 100000 in
theorem strict_ok (a : List ByteArray) (l : List Hunk) (va vl : Value) (w : World) (ha : Rdv w Never va a) (hl : Rdv w Never vl l) (h1 : linesFault a = 0) (h2 : hunksFault l = (0, 0)) :
    Calls Tryz.prog 126 #[va, vl] w fun e w' => ∃ r, e = .returned (.tuple #[r, .int .i64 (strict a l).2.1, errV (strict a l).2.2]) ∧ Chg Never w w' ∧ Rdv w' (Old w.heap.size) r (strict a l).1 := by
  have HS : Hid (strict a l = strictGo a 0 0 [] l) := by unfold Hid strict; rw [if_neg (by simp [h1]), if_neg (by simp [h2])]
  have hla := linesFault_len h1
  obtain ⟨hl60, hok⟩ := hunksFault_zero (l := l) (by rw [h2])
  have H1 := Lib.hid h1
  have H2 := Lib.hid h2
  have HK := Lib.hid hok
  obtain ⟨aa, acap, rfl, a1, a2, _⟩ := rdv_slice ha
  obtain ⟨ll, lcap, rfl, l1, l2, l3⟩ := rdv_slice hl
  unfold maxLen at a2 l2
  clear h1 h2 hok
  go_enter Tryz.func126, Tryz.ntmps126
  go_wp2_with fail
  refine (check_any a _ _ ha).mono ?_
  rintro e w1 ⟨rfl, rfl⟩
  rw [H1.out, errV_zero]
  go_wp2_with fail
  refine (hunk_check_any l _ _ hl).mono ?_
  rintro e w1 ⟨rfl, hc1⟩
  rw [H2.out, errV_zero]
  go_wp2_with fail
  go_loopw [10, 11, 33] (fun o fr i wr => ∃ (k frn : Nat) (outl : List ByteArray) (more : Int), k ≤ l.length ∧ i = .int .i64 k ∧ fr = .int .i64 frn ∧ Chg Never w wr ∧ Own 9 wr (Old w.heap.size) o outl ∧ frn ≤ a.length ∧ outl.length ≤ 200 * k ∧
      Hid (hOk frn more (l.drop k)) ∧ Hid (strictGo a k frn outl (l.drop k) = strict a l)) (fun _ _ i _ => l.length - (intOf i).toNat)
  case atStart => exact ⟨0, 0, [], 0, Nat.zero_le _, rfl, rfl, hc1, own_nil _ _ _, Nat.zero_le _, Nat.zero_le _, HK.out, HS.out.symm⟩
  case round =>
    clear hc1 HK HS
    obtain ⟨k, frn, outl, more, hk, rfl, rfl, hc, hown, hfr, hol, hok, hst⟩ := hrel
    by_cases hlt : k < l.length
    · obtain ⟨x, hx⟩ : ∃ x, l[k]? = some x := ⟨l[k], by simp [hlt]⟩
      obtain ⟨b, off, mv, rfl, _, _, c0, c1, c2, hmv⟩ := elems_hunk l3 hx
      have hd := drop_eq hx
      have HK1 := hok.out
      have HS1 := hst.out
      rw [hd] at HK1 HS1
      obtain ⟨z1, z2, z3, z4, z5, z6, z7, z8⟩ := oneFault_zero HK1.1
      have HK2 := Lib.hid HK1.2
      obtain ⟨xo, xn, xm⟩ := x
      simp only at c0 c1 c2 hmv z1 z3 z5 z7
      obtain ⟨o, rfl⟩ := Int.eq_ofNat_of_zero_le z3
      rw [strictGo] at HS1
      have HS2 := Lib.hid HS1
      have hmv := hmv.never hc
      have c0 := hc.cellNever c0
      have c1 := hc.cellNever c1
      have c2 := hc.cellNever c2
      obtain ⟨ma, mcap, rfl, _, _, _⟩ := rdv_slice hmv
      have HZ1 := Lib.hid z1
      have ln : (oldOf xm).length ≤ 120 := Nat.le_trans (those_le _ _) (scriptFault_len z1)
      have lm : (newOf xm).length ≤ 120 := Nat.le_trans (those_le _ _) (scriptFault_len z1)
      have E1 : Hid (oldN xm = (oldOf xm).length) := rfl
      clear hd HK1 HS1 z1 z2 z4 z6 z8 hx l3 hl hok hst
      have hA : Chg Never wr (wr.alloc (.cells #[.int .i64 o, .int .i64 xn, .slice ma xm.length mcap] 129)) := (Chg.refl Never wr).alloc _
      go_wp2_with fail
      refine (sides_any xm _ _ (hmv.never hA) HZ1.out).mono ?_
      rintro e w2 ⟨r, s, rfl, hc2, hr, hs⟩
      have hA2 := hA.trans hc2
      obtain ⟨x0, x1, x2⟩ := box3 hc2
      have ha2 := ha.never (hc.trans hA2)
      have hr2 := hr.sub (O' := Never) (fun _ _ h => h.elim)
      have hs2 := hs.sub (O' := Never) (fun _ _ h => h.elim)
      obtain ⟨ra, rcap, rfl, _, _, _⟩ := rdv_slice hr2
      obtain ⟨sa, scap, rfl, _, _, _⟩ := rdv_slice hs2
      clear hc2 hr hs hA
      go_wp2_with fail
      refine (stands_any a (oldOf xm) (o : Int) _ _ _ ha2 hr2 (by omega) (by omega) (by omega) (by omega)).mono ?_
      rintro e w3 ⟨rfl, hc3⟩
      have hA3 := hA2.trans hc3
      have x0 := hc3.cellNever x0
      have hs3 := hs2.never hc3
      have ha3 := ha2.never hc3
      clear hc3 hA2 hs2 ha2 hr2 x1 x2
      cases hsd : standsB a (o : Int) (oldOf xm) with
      | false =>
        have E := HS2.out
        rw [hsd] at E
        rw [if_neg (by decide)] at E
        have HE := Lib.hid E
        clear E hsd
        go_wp2_with fail
        go_ret3
        exact ⟨.slice none 0 0, by rw [← HE.out]; rfl, hc.trans hA3, by rw [← HE.out]; exact rdv_nil _ _⟩
      | true =>
        have s2 := (stands_split hsd).2.1
        simp only [Int.toNat_natCast] at s2
        have E := HS2.out
        rw [hsd, if_pos rfl] at E
        simp only [Int.toNat_natCast] at E
        have HE := Lib.hid E
        have hfo : frn ≤ o := by omega
        obtain ⟨sb, hrun0, hrun1, hsub⟩ := slice_str ha3 frn o hfo (by omega)
        have hrun := fun (wx : World) => hrun0 (frn : Int) (o : Int) wx rfl rfl
        clear hrun0 hrun1
        have lsub : ((a.drop frn).take (o - frn)).length = o - frn := by rw [List.length_take, List.length_drop]; omega
        have hsub' : Rdv w3 Never (.slice sb (o - frn) (acap - frn)) ((a.drop frn).take (o - frn)) := hsub
        have hown3 := hown.never hA3
        have hown3r := (hown3.rdv).sub (O' := Never) (fun _ _ h => h.elim)
        have hfl : ([outl, (a.drop frn).take (o - frn), newOf xm] : List (List ByteArray)).flatten = outl ++ (a.drop frn).take (o - frn) ++ newOf xm := by simp
        have HFL := Lib.hid hfl
        have LS := Lib.hid lsub
        have hb : ([outl, (a.drop frn).take (o - frn), newOf xm] : List (List ByteArray)).flatten.length ≤ 1000000 := by
          rw [hfl, List.length_append, List.length_append, lsub]; omega
        have HB2 : Hid ((outl ++ (a.drop frn).take (o - frn) ++ newOf xm).length ≤ 200 * (k + 1)) := by
          rw [Hid, List.length_append, List.length_append, lsub]; omega
        obtain ⟨oa, ocap, rfl, _⟩ := own_shape hown3
        have HB := Lib.hid hb
        clear E hsd hsub lsub hfl hown hb
        go_wp2_with fail
        refine (concat_any [outl, (a.drop frn).take (o - frn), newOf xm] _ _ (rdv_lit (e := 86) (cs := [_, _, _]) (heap_alloc_new _ _) rfl (by simp) ⟨hown3r.never ((Chg.refl Never _).alloc _), hsub'.never ((Chg.refl Never _).alloc _), hs3.never ((Chg.refl Never _).alloc _), trivial⟩) HB.out).mono ?_
        rintro e w4 ⟨r4, rfl, hc4, hown4⟩
        have hA4 := ((hc.trans hA3).alloc _).trans hc4
        have x0 := (((Chg.refl Never w3).alloc _).trans hc4).cellNever x0
        have hown5 := hown4.keep (O'' := Old w.heap.size) (Chg.refl Never _) (fun _ _ h => h.elim) (fun j _ hj => by
          have := (hc.trans hA3).size
          unfold Old at *
          simp only [World.size_alloc]
          omega)
        clear hown4 hc4 hown3 hown3r hsub'
        go_wp2_with fail
        go_roundw
        case rel => exact ⟨k + 1, o + oldN xm, _, _, by omega, by go_num, by rw [E1.out]; go_num, hA4, hown5, by rw [E1.out]; exact s2, by rw [HFL.out]; exact HB2.out, by
          have := HK2.out
          rw [Hid]
          push_cast
          exact this, by rw [Hid, HFL.out]; exact HE.out⟩
        case measure => simp [intOf] <;> omega
    · obtain rfl : k = l.length := by omega
      obtain ⟨sb, hrun0, hrun1, hsub⟩ := slice_str (ha.never hc) frn a.length hfr (Nat.le_refl _)
      have hrun := fun (wx : World) => hrun1 (frn : Int) wx rfl rfl
      clear hrun0 hrun1
      rw [List.take_of_length_le (by rw [List.length_drop]; omega)] at hsub
      have ht := hst.out
      rw [List.drop_length, strictGo] at ht
      have HT := Lib.hid ht
      have hle : outl.length + (a.drop frn).length ≤ 1000000000 := by rw [List.length_drop]; omega
      clear ht hst hok hl l3
      by_cases h60 : 60 < (outl ++ a.drop frn).length
      · have E := HT.out
        rw [if_pos h60] at E
        have HE := Lib.hid E
        clear E HT
        go_wp2_with (at_builtin; refine wpList_many (by rfl) _ _ 86 (by rfl) elemOk_str (O := Old w.heap.size) (by rfl) (by rfl) hown hsub (rd_str_any _ _ _) (old_lt hc) hle ?_; intro v' w5 hown2 hc2; have hc3 := own_step hc hown hc2; generalize outl ++ a.drop frn = RL at hown2 HE h60; obtain ⟨va', vc', rfl, _⟩ := own_shape hown2)
        go_ret3
        exact ⟨.slice none 0 0, by rw [← HE.out]; rfl, hc3, by rw [← HE.out]; exact rdv_nil _ _⟩
      · have E := HT.out
        rw [if_neg h60] at E
        have HE := Lib.hid E
        clear E HT
        go_wp2_with (at_builtin; refine wpList_many (by rfl) _ _ 86 (by rfl) elemOk_str (O := Old w.heap.size) (by rfl) (by rfl) hown hsub (rd_str_any _ _ _) (old_lt hc) hle ?_; intro v' w5 hown2 hc2; have hc3 := own_step hc hown hc2; generalize outl ++ a.drop frn = RL at hown2 HE h60; obtain ⟨va', vc', rfl, _⟩ := own_shape hown2)
        go_ret3
        exact ⟨_, by rw [← HE.out]; rfl, hc3, by rw [← HE.out]; exact hown2.rdv⟩

theorem strict_any (a : List ByteArray) (l : List Hunk) (va vl : Value) (w : World) (ha : Rdv w Never va a) (hl : Rdv w Never vl l) :
    Calls Tryz.prog 126 #[va, vl] w fun e w' => ∃ r, e = .returned (.tuple #[r, .int .i64 (strict a l).2.1, errV (strict a l).2.2]) ∧ Chg Never w w' ∧ Rdv w' (Old w.heap.size) r (strict a l).1 := by
  by_cases h1 : linesFault a = 0
  · by_cases h2 : (hunksFault l).2 = 0
    · exact strict_ok a l va vl w ha hl h1 (hunksFault_first h2)
    · have HS : Hid (strict a l = ([], (hunksFault l).1, (hunksFault l).2)) := by unfold Hid strict; rw [if_neg (by simp [h1]), if_pos h2]
      have H1 := Lib.hid h1
      have H2 := Lib.hid h2
      clear h1 h2
      go_enter Tryz.func126, Tryz.ntmps126
      go_wp2_with fail
      refine (check_any a _ _ ha).mono ?_
      rintro e w1 ⟨rfl, rfl⟩
      rw [H1.out, errV_zero]
      go_wp2_with fail
      refine (hunk_check_any l _ _ hl).mono ?_
      rintro e w1 ⟨rfl, hc1⟩
      rw [errV_pos H2.out]
      go_wp2_with fail
      go_ret3
      exact ⟨.slice none 0 0, by rw [HS.out, errV_pos H2.out]; rfl, hc1, by rw [HS.out]; exact rdv_nil _ _⟩
  · have HS : Hid (strict a l = ([], 0, linesFault a)) := if_pos h1
    have H1 := Lib.hid h1
    clear h1
    go_enter Tryz.func126, Tryz.ntmps126
    go_wp2_with fail
    refine (check_any a _ _ ha).mono ?_
    rintro e w1 ⟨rfl, rfl⟩
    rw [errV_pos H1.out]
    go_wp2_with fail
    go_ret3
    exact ⟨.slice none 0 0, by rw [HS.out, errV_pos H1.out]; rfl, Chg.refl _ _, by rw [HS.out]; exact rdv_nil _ _⟩
end Go.Proofs.YtjiaidchcldocaaGreatDoor
namespace Go.Proofs.YtjiaidchcldocaaGreatDoor
open Go.RowKit

theorem those_signs {l : List Mark} (h : scriptFault l = 0) {k : Nat} {x : Mark} (hx : l[k]? = some x) : x.sign = 32 ∨ x.sign = 45 ∨ x.sign = 43 := by
  have := (scriptFault_zero.1 h).2 x (List.mem_of_getElem? hx)
  unfold markFault at this
  by_cases h1 : x.sign ≠ 32 ∧ x.sign ≠ 45 ∧ x.sign ≠ 43
  · rw [if_pos h1] at this; simp at this
  · omega

set_option maxHeartbeats 1000000 in
set_option maxRecDepth 100000 in
theorem refNew_any (l : List Mark) (v : Value) (w : World) (h : Rdv w Never v l) (hz : scriptFault l = 0) :
    Calls Tryz.prog 103 #[v] w fun e w' => ∃ r, e = .returned r ∧ Chg Never w w' ∧ Rdv w' (Old w.heap.size) r (those l 45) := by
  have hlen := scriptFault_len hz
  have HZ := Lib.hid hz
  clear hz
  obtain ⟨a, cap, rfl, h1, h2, h3⟩ := rdv_slice h
  unfold maxLen at h2
  go_enter Tryz.func103, Tryz.ntmps103
  go_wp2_with fail
  go_loopw [3, 4] (fun o i wr => ∃ k : Nat, k ≤ l.length ∧ i = .int .i64 k ∧ Chg Never w wr ∧ Own 9 wr (Old w.heap.size) o (those (l.take k) 45)) (fun _ i _ => l.length - (intOf i).toNat)
  case atStart => exact ⟨0, Nat.zero_le _, rfl, Chg.refl _ _, own_nil _ _ _⟩
  case round =>
    obtain ⟨k, hk, rfl, hc, hown⟩ := hrel
    by_cases hlt : k < l.length
    · obtain ⟨x, hx⟩ : ∃ x, l[k]? = some x := ⟨l[k], by simp [hlt]⟩
      obtain ⟨b, off, rfl, _, _, c0, c1, s0, s1, hxs⟩ := elems_mark h3 hx
      have c0 := hc.cellNever c0
      have c1 := hc.cellNever c1
      have ht := Lib.hid (those_take (no := 45) hx)
      have hle := those_le (l.take k) 45
      have hle2 : (l.take k).length ≤ 120 := by simp; omega
      have hsg := those_signs HZ.out hx
      clear hx h3 h
      obtain ⟨sg, tx⟩ := x
      simp only at c0 c1 s0 s1 hxs hsg
      rcases hsg with rfl | rfl | rfl
      all_goals
        first
          | (have hno : Hid ((32 : Int) ≠ 45 ∧ True) := ⟨by decide, trivial⟩
             go_wp2_with (at_builtin; refine wpList_push (by rfl) _ _ 86 (by rfl) elemOk_str (O := Old w.heap.size) (l := those (l.take k) 45) (y := tx) (by rfl) (by rfl) (by simp) hown ⟨rfl, hxs⟩ (old_lt hc) (by omega) ?_; intro v' w2 hown2 hc2 _)
             have hc3 := own_step hc hown hc2
             clear hc2 hle hle2
             go_wp2_with fail
             go_roundw
             case rel => exact ⟨k + 1, by omega, by go_num, hc3, by rw [ht.out, if_neg (by simp)]; exact hown2⟩
             case measure => simp [intOf] <;> omega)
          | (clear hle hle2
             go_wp2_with fail
             go_roundw
             case rel => exact ⟨k + 1, by omega, by go_num, hc, by rw [ht.out, if_pos (by simp)]; exact hown⟩
             case measure => simp [intOf] <;> omega)
    · go_wp2_with fail
      go_ret
      rw [List.take_of_length_le (by omega)] at hown
      exact ⟨_, rfl, hc, hown.rdv⟩
set_option maxHeartbeats 1000000 in
set_option maxRecDepth 100000 in
theorem refOld_any (l : List Mark) (v : Value) (w : World) (h : Rdv w Never v l) (hz : scriptFault l = 0) :
    Calls Tryz.prog 102 #[v] w fun e w' => ∃ r, e = .returned r ∧ Chg Never w w' ∧ Rdv w' (Old w.heap.size) r (those l 43) := by
  have hlen := scriptFault_len hz
  have HZ := Lib.hid hz
  clear hz
  obtain ⟨a, cap, rfl, h1, h2, h3⟩ := rdv_slice h
  unfold maxLen at h2
  go_enter Tryz.func102, Tryz.ntmps102
  go_wp2_with fail
  go_loopw [3, 4] (fun o i wr => ∃ k : Nat, k ≤ l.length ∧ i = .int .i64 k ∧ Chg Never w wr ∧ Own 9 wr (Old w.heap.size) o (those (l.take k) 43)) (fun _ i _ => l.length - (intOf i).toNat)
  case atStart => exact ⟨0, Nat.zero_le _, rfl, Chg.refl _ _, own_nil _ _ _⟩
  case round =>
    obtain ⟨k, hk, rfl, hc, hown⟩ := hrel
    by_cases hlt : k < l.length
    · obtain ⟨x, hx⟩ : ∃ x, l[k]? = some x := ⟨l[k], by simp [hlt]⟩
      obtain ⟨b, off, rfl, _, _, c0, c1, s0, s1, hxs⟩ := elems_mark h3 hx
      have c0 := hc.cellNever c0
      have c1 := hc.cellNever c1
      have ht := Lib.hid (those_take (no := 43) hx)
      have hle := those_le (l.take k) 43
      have hle2 : (l.take k).length ≤ 120 := by simp; omega
      have hsg := those_signs HZ.out hx
      clear hx h3 h
      obtain ⟨sg, tx⟩ := x
      simp only at c0 c1 s0 s1 hxs hsg
      rcases hsg with rfl | rfl | rfl
      all_goals
        first
          | (have hno : Hid ((32 : Int) ≠ 43 ∧ True) := ⟨by decide, trivial⟩
             go_wp2_with (at_builtin; refine wpList_push (by rfl) _ _ 86 (by rfl) elemOk_str (O := Old w.heap.size) (l := those (l.take k) 43) (y := tx) (by rfl) (by rfl) (by simp) hown ⟨rfl, hxs⟩ (old_lt hc) (by omega) ?_; intro v' w2 hown2 hc2 _)
             have hc3 := own_step hc hown hc2
             clear hc2 hle hle2
             go_wp2_with fail
             go_roundw
             case rel => exact ⟨k + 1, by omega, by go_num, hc3, by rw [ht.out, if_neg (by simp)]; exact hown2⟩
             case measure => simp [intOf] <;> omega)
          | (clear hle hle2
             go_wp2_with fail
             go_roundw
             case rel => exact ⟨k + 1, by omega, by go_num, hc, by rw [ht.out, if_pos (by simp)]; exact hown⟩
             case measure => simp [intOf] <;> omega)
    · go_wp2_with fail
      go_ret
      rw [List.take_of_length_le (by omega)] at hown
      exact ⟨_, rfl, hc, hown.rdv⟩
end Go.Proofs.YtjiaidchcldocaaGreatDoor
namespace Go.Proofs.YtjiaidchcldocaaGreatDoor
open Go.RowKit

theorem nl_mem {s : ByteArray} {k : Nat} (hlt : k < s.size) (h : (((s[k]'hlt).toNat : Int) == 10) = true) : hasNl s = true := by
  unfold hasNl
  have h1 : (s[k]'hlt).toNat = 10 := by have := eq_of_beq h; omega
  have h2 : s[k]'hlt = (10 : UInt8) := UInt8.toNat_inj.1 h1
  have h3 : s.data[k]'hlt = (10 : UInt8) := h2
  rw [List.contains_iff_mem, Array.mem_toList_iff]
  rw [← h3]
  exact Array.getElem_mem _
theorem nl_none {s : ByteArray} (h : ∀ (j : Nat) (hj : j < s.size), (((s[j]'hj).toNat : Int) == 10) = false) : hasNl s = false := by
  unfold hasNl
  rw [Bool.eq_false_iff]
  intro e
  rw [List.contains_iff_mem, Array.mem_toList_iff] at e
  obtain ⟨j, hj, e⟩ := Array.mem_iff_getElem.1 e
  have := h j hj
  have h2 : s[j]'hj = (10 : UInt8) := e
  rw [h2] at this
  exact absurd this (by decide)

set_option maxHeartbeats 1000000 in
set_option maxRecDepth 100000 in
theorem refLine_any (s : ByteArray) (w : World) (hs : s.size ≤ maxLen) :
    Calls Tryz.prog 107 #[.string s] w fun e w' => e = .returned (.int .i64 (lineFault s)) ∧ Chg Never w w' := by
  unfold maxLen at hs
  go_enter Tryz.func107, Tryz.ntmps107
  go_wp2_with fail
  go_loopw [3] (fun i wr => ∃ k : Nat, k ≤ s.size ∧ i = .int .i64 k ∧ Chg Never w wr ∧ Hid (∀ (j : Nat), j < k → ∀ (hj : j < s.size), (((s[j]'hj).toNat : Int) == 10) = false)) (fun i _ => s.size - (intOf i).toNat)
  case atStart => exact ⟨0, Nat.zero_le _, rfl, Chg.refl _ _, fun j h => absurd h (Nat.not_lt_zero j)⟩
  case round =>
    obtain ⟨k, hk, rfl, hc, hf⟩ := hrel
    by_cases hlt : k < s.size
    · cases hq : (((s[k]'hlt).toNat : Int) == 10) with
      | true =>
        have HN := Lib.hid (nl_mem hlt hq)
        go_wp2_with fail
        go_ret
        exact ⟨by rw [lineFault, if_pos HN.out]; rfl, hc⟩
      | false =>
        have HQ : Hid ((((s[k]'hlt).toNat : Int) == 10) = false) := hq
        go_wp2_with fail
        go_roundw
        case rel => exact ⟨k + 1, by omega, by go_num, hc, fun j hj hj' => by
          by_cases e : j = k
          · subst e; exact HQ.out
          · exact hf.out j (by omega) hj'⟩
        case measure => simp [intOf] <;> omega
    · have HN := Lib.hid (nl_none (fun j hj => hf.out j (by omega) hj))
      clear hf
      by_cases h80 : 80 < s.size
      · go_wp2_with fail
        go_ret
        exact ⟨by rw [lineFault, if_neg (by rw [HN.out]; decide), if_pos h80]; rfl, hc⟩
      · go_wp2_with fail
        go_ret
        exact ⟨by rw [lineFault, if_neg (by rw [HN.out]; decide), if_neg h80]; rfl, hc⟩

theorem firstOf_bad {α : Type} (f : α → Int) : ∀ (l : List α) (k : Nat) (x : α), (∀ y ∈ l.take k, f y = 0) → l[k]? = some x → f x ≠ 0 → firstOf f l = f x
  | [], _, _, _, h, _ => by simp at h
  | y :: r, 0, x, _, h, hx => by
    simp only [List.getElem?_cons_zero, Option.some.injEq] at h
    subst h
    rw [firstOf, if_neg hx]
  | y :: r, k + 1, x, ha, h, hx => by
    rw [firstOf, if_pos (ha y (by simp))]
    exact firstOf_bad f r k x (fun z hz => ha z (by simp [hz])) (by simpa using h) hx
theorem take_all_succ {α : Type} {p : α → Prop} {l : List α} {k : Nat} {x : α} (h : ∀ y ∈ l.take k, p y) (hx : l[k]? = some x) (hp : p x) : ∀ y ∈ l.take (k + 1), p y := by
  intro y hy
  rw [List.take_add_one, hx] at hy
  rcases List.mem_append.1 hy with h' | h'
  · exact h y h'
  · simp at h'; rw [h']; exact hp

set_option maxHeartbeats 1000000 in
set_option maxRecDepth 100000 in
theorem refLines_any (l : List ByteArray) (v : Value) (w : World) (h : Rdv w Never v l) :
    Calls Tryz.prog 58 #[v] w fun e w' => e = .returned (.int .i64 (linesFault l)) ∧ Chg Never w w' := by
  obtain ⟨a, cap, rfl, h1, h2, h3⟩ := rdv_slice h
  unfold maxLen at h2
  by_cases h60 : 60 < l.length
  · have HF : Hid (linesFault l = 3) := if_pos h60
    go_enter Tryz.func58, Tryz.ntmps58
    go_wp2_with fail
    go_ret
    exact ⟨by rw [HF.out]; rfl, Chg.refl _ _⟩
  · have HF : Hid (linesFault l = firstOf lineFault l) := if_neg h60
    go_enter Tryz.func58, Tryz.ntmps58
    go_wp2_with fail
    go_loopw [3] (fun i wr => ∃ k : Nat, k ≤ l.length ∧ i = .int .i64 k ∧ Chg Never w wr ∧ Hid (∀ y ∈ l.take k, lineFault y = 0)) (fun i _ => l.length - (intOf i).toNat)
    case atStart => exact ⟨0, Nat.zero_le _, rfl, Chg.refl _ _, fun y hy => by simp at hy⟩
    case round =>
      obtain ⟨k, hk, rfl, hc, hf⟩ := hrel
      by_cases hlt : k < l.length
      · obtain ⟨x, hx⟩ : ∃ x, l[k]? = some x := ⟨l[k], by simp [hlt]⟩
        obtain ⟨b, off, rfl, _, _, hcx, hxs⟩ := elems_str h3 hx
        have hcx := hc.cellNever hcx
        have HX := Lib.hid hx
        clear hx h3 h
        by_cases hz : lineFault x = 0
        · have HZ := Lib.hid hz
          clear hz
          go_wp2_with fail
          refine (refLine_any x _ hxs).mono ?_
          rintro e w2 ⟨rfl, hc2⟩
          rw [HZ.out]
          have hc := hc.trans hc2
          go_wp2_with fail
          go_roundw
          case rel => exact ⟨k + 1, by omega, by go_num, hc, take_all_succ hf.out HX.out HZ.out⟩
          case measure => simp [intOf] <;> omega
        · have HB := Lib.hid (firstOf_bad lineFault l k x hf.out HX.out hz)
          have t1 : (lineFault x == 0) = false := by simp [hz]
          have t2 : (lineFault x != 0) = true := by simp [hz]
          clear hz
          go_wp2_with fail
          refine (refLine_any x _ hxs).mono ?_
          rintro e w2 ⟨rfl, hc2⟩
          have hc := hc.trans hc2
          go_wp2_with fail
          go_ret
          exact ⟨by rw [HF.out, HB.out]; rfl, hc⟩
      · have HZ := Lib.hid ((firstOf_zero lineFault l).2 (fun y hy => hf.out y (by rw [List.take_of_length_le (by omega)]; exact hy)))
        go_wp2_with fail
        go_ret
        exact ⟨by rw [HF.out, HZ.out]; rfl, hc⟩

theorem markFault_line' {sg : Int} (h : sg = 32 ∨ sg = 45 ∨ sg = 43) (tx : ByteArray) : markFault ⟨sg, tx⟩ = lineFault tx := by
  unfold markFault
  rw [if_neg (by simp only []; omega)]
set_option maxHeartbeats 2000000 in
set_option maxRecDepth 100000 in
theorem refScript_any (l : List Mark) (v : Value) (w : World) (h : Rdv w Never v l) :
    Calls Tryz.prog 157 #[v] w fun e w' => e = .returned (.int .i64 (scriptFault l)) ∧ Chg Never w w' := by
  obtain ⟨a, cap, rfl, h1, h2, h3⟩ := rdv_slice h
  unfold maxLen at h2
  by_cases h60 : 120 < l.length
  · have HF : Hid (scriptFault l = 3) := if_pos h60
    go_enter Tryz.func157, Tryz.ntmps157
    go_wp2_with fail
    go_ret
    exact ⟨by rw [HF.out]; rfl, Chg.refl _ _⟩
  · have HF : Hid (scriptFault l = firstOf markFault l) := if_neg h60
    go_enter Tryz.func157, Tryz.ntmps157
    go_wp2_with fail
    go_loopw [3] (fun i wr => ∃ k : Nat, k ≤ l.length ∧ i = .int .i64 k ∧ Chg Never w wr ∧ Hid (∀ y ∈ l.take k, markFault y = 0)) (fun i _ => l.length - (intOf i).toNat)
    case atStart => exact ⟨0, Nat.zero_le _, rfl, Chg.refl _ _, fun y hy => by simp at hy⟩
    case round =>
      obtain ⟨k, hk, rfl, hc, hf⟩ := hrel
      by_cases hlt : k < l.length
      · obtain ⟨x, hx⟩ : ∃ x, l[k]? = some x := ⟨l[k], by simp [hlt]⟩
        obtain ⟨b, off, rfl, _, _, c0, c1, s0, s1, hxs⟩ := elems_mark h3 hx
        have c0 := hc.cellNever c0
        have c1 := hc.cellNever c1
        obtain ⟨sg, tx⟩ := x
        simp only at c0 c1 s0 s1 hxs
        have HX := Lib.hid hx
        clear hx h3 h
        by_cases hs : sg = 32 ∨ sg = 45 ∨ sg = 43
        · have HM := Lib.hid (markFault_line' hs tx)
          by_cases hz : lineFault tx = 0
          · have HZ : Hid (markFault ⟨sg, tx⟩ = 0) := by rw [Hid, HM.out, hz]
            have HL := Lib.hid hz
            clear hz
            rcases hs with rfl | rfl | rfl
            all_goals
              go_wp2_with fail
              refine (refLine_any tx _ hxs).mono ?_
              rintro e w2 ⟨rfl, hc2⟩
              rw [HL.out]
              have hc := hc.trans hc2
              go_wp2_with fail
              go_roundw
              case rel => exact ⟨k + 1, by omega, by go_num, hc, take_all_succ hf.out HX.out HZ.out⟩
              case measure => simp [intOf] <;> omega
          · have HB := Lib.hid (firstOf_bad markFault l k _ hf.out HX.out (by rw [HM.out]; exact hz))
            have t1 : (lineFault tx == 0) = false := by simp [hz]
            have t2 : (lineFault tx != 0) = true := by simp [hz]
            clear hz
            rcases hs with rfl | rfl | rfl
            all_goals
              go_wp2_with fail
              refine (refLine_any tx _ hxs).mono ?_
              rintro e w2 ⟨rfl, hc2⟩
              have hc := hc.trans hc2
              go_wp2_with fail
              go_ret
              exact ⟨by rw [HF.out, HB.out, HM.out]; rfl, hc⟩
        · have HZ : Hid (markFault ⟨sg, tx⟩ = 1) := by unfold Hid markFault; rw [if_pos (by simp only []; omega)]
          have HB := Lib.hid (firstOf_bad markFault l k _ hf.out HX.out (by rw [HZ.out]; decide))
          have t1 : (sg != 32) = true := by simp; omega
          have t2 : (sg != 45) = true := by simp; omega
          have t3 : (sg != 43) = true := by simp; omega
          clear hs
          go_wp2_with fail
          go_ret
          exact ⟨by rw [HF.out, HB.out, HZ.out]; rfl, hc⟩
      · have HZ := Lib.hid ((firstOf_zero markFault l).2 (fun y hy => hf.out y (by rw [List.take_of_length_le (by omega)]; exact hy)))
        go_wp2_with fail
        go_ret
        exact ⟨by rw [HF.out, HZ.out]; rfl, hc⟩
end Go.Proofs.YtjiaidchcldocaaGreatDoor
