/-
  A SLICE OF HUNKS THAT THE CALL ITSELF BUILDS, OF WHICH THE LAST ONE STILL GROWS ('OwnLast'): pushed onto, its last one's marks pushed onto, closed. No program in sight.
-/
import Derived.Test.YtpoammapjmddfaaDoorOwn
import Derived.WalkLawsBesides
namespace Go.Proofs.YtpoammapjmddfaaDoor
open Go.RowKit

/-- append of one element to a row of the call's own, in raw cells -/
theorem run_push_raw {P : Program} {n : Nat} (hn : 0 < n) {t ty e : TypeId} (hP : ElemOk P t e n) {w0 : World} {v : Value} {m : Nat} {xs es : List Value} (E' : TypeId)
    (hx : w0.ownsRow 0 e n v m xs) (hl : es.length = n) (h1 : ∀ u ∈ es, u.oneCell' = true) (hlen : m ≤ 1000000000) :
    ∃ v' w', (Builtin.append_ #[t, t] ty #[v, .slice (some ⟨w0.heap.size, 0, none⟩) 1 1]).run P (w0.alloc (.cells es.toArray E')) = .ok v' w' ∧ w'.ownsRow 0 e n v' (m + 1) (xs ++ es) ∧ Chg (OwnB v) w0 w' ∧ (∃ k, v'.ownBlock = some k ∧ (v.ownBlock = some k ∨ w0.heap.size ≤ k)) := by
  obtain ⟨i, z, hi, hz, hsz, hzs, hby⟩ := hP.info
  have hnl : es.length = 1 * n := by omega
  have hcells : ∀ j u, es[j]? = some u → (w0.alloc (.cells es.toArray E')).cell? ((⟨w0.heap.size, 0, none⟩ : Addr).add j) = some u := by
    intro j u hj
    have e1 : (⟨w0.heap.size, 0, none⟩ : Addr).add j = ⟨w0.heap.size, j, none⟩ := by unfold Addr.add; split <;> simp_all
    rw [e1, World.cell?, heap_alloc_new]
    simpa using hj
  have hx' := hx.alloc (.cells es.toArray E')
  have hbound : (m + 1) * i.bytes ≤ 140737488355328 := by
    have := Nat.mul_le_mul (show m + 1 ≤ 1000000001 by omega) hby
    omega
  obtain ⟨v', w', hrun, hown', hgrow, hnil⟩ := run_append_own (P := P) (w0.alloc (.cells es.toArray E')) 0 t ty e i z n i.bytes hP.ht hi hz hsz rfl hzs hn v m xs hx'
    ⟨w0.heap.size, 0, none⟩ 1 1 es hnl hcells h1 (by unfold maxLen; omega) hbound (Nat.zero_le _)
  obtain ⟨kb, hkb, hkb'⟩ := append_block (P := P) (w0.alloc (.cells es.toArray E')) 0 t ty e i z n i.bytes hP.ht hi hz hsz rfl v m xs hx'
    ⟨w0.heap.size, 0, none⟩ 1 1 es hnl hcells h1 (by unfold maxLen; omega) hbound (by omega) hrun
  have hkb2 : v.ownBlock = some kb ∨ w0.heap.size ≤ kb := by
    rcases hkb' with h | h
    · exact .inl h
    · right; rw [h]; simp
  exact ⟨v', w', hrun, hown', ((Chg.refl (OwnB v) w0).alloc _).trans' (Chg.of_grown hgrow) (fun k _ hk => hk), kb, hkb, hkb2⟩

structure OwnLast (e em : TypeId) (w : World) (O : Nat → Prop) (v : Value) (init : List Hunk) (h : Hunk) (mv : Value) (xs : List Value) : Prop where
  row : w.ownsRow 0 e 3 v (init.length + 1) xs
  out : ∀ k, v.ownBlock = some k → ¬ O k
  firsts : ∀ (i : Nat) (x : Hunk), init[i]? = some x → Dat.rd w (fun k => (O k ∨ v.ownBlock = some k) ∨ mv.ownBlock = some k) ((xs.drop (i * 3)).take 3) x
  last : xs.drop (init.length * 3) = [.int .i64 h.old, .int .i64 h.new, mv]
  marks : Own em w (fun k => O k ∨ v.ownBlock = some k) mv h.marks

/-- closed, it is a slice as any other -/
theorem OwnLast.own {e em : TypeId} {w : World} {O : Nat → Prop} {v : Value} {init : List Hunk} {h : Hunk} {mv : Value} {xs : List Value} (hl : OwnLast e em w O v init h mv xs) : Own e w O v (init ++ [h]) := by
  obtain ⟨h1, h2, h3, h4, h5⟩ := hl
  refine ⟨xs, by rw [List.length_append]; exact h1, h2, ?_⟩
  intro i x hx
  rcases Nat.lt_or_ge i init.length with hi | hi
  · rw [List.getElem?_append_left hi] at hx
    exact Dat.keep (h3 i x hx) (Chg.refl Never w) (fun _ _ h => h.elim) (fun k _ ho => .inl ho)
  · have hil : i = init.length := by
      have := (List.getElem?_eq_some_iff.1 hx).1
      simp at this
      omega
    subst hil
    simp at hx
    subst hx
    show Dat.rd w _ ((xs.drop (init.length * 3)).take 3) h
    rw [h4]
    exact ⟨mv, rfl, h5.rdv⟩

/-- its shape, and the place of the last one's marks -/
theorem OwnLast.shape {e em : TypeId} {w : World} {O : Nat → Prop} {v : Value} {init : List Hunk} {h : Hunk} {mv : Value} {xs : List Value} (hl : OwnLast e em w O v init h mv xs) :
    ∃ g cap, v = .slice (some ⟨g, 0, none⟩) (init.length + 1) cap ∧ g < w.heap.size ∧ ¬ O g ∧ init.length + 1 ≤ cap ∧ cap ≤ maxLen ∧ w.cell? ⟨g, init.length * 3 + 2, none⟩ = some mv ∧ w.cell? ⟨g, init.length * 3, none⟩ = some (.int .i64 h.old) ∧ w.cell? ⟨g, init.length * 3 + 1, none⟩ = some (.int .i64 h.new) ∧ ∀ j, w.frozen? ⟨g, j, none⟩ = false := by
  obtain ⟨h1, h2, h3, h4, h5⟩ := hl
  have h1' := h1
  rcases h1.2 with ⟨rfl, h0⟩ | ⟨g, cap, cur, rfl, hg, hh, hnc, hm, hcs, htake⟩
  · cases h0
  · have hc : ∀ j, j < 3 → w.cell? ⟨g, init.length * 3 + j, none⟩ = (xs.drop (init.length * 3))[j]? := by
      intro j hj
      rw [h1'.cellAt (init.length * 3 + j) (by omega), List.getElem?_drop]
    refine ⟨g, cap, rfl, (h1'.lt g rfl).2, h2 g rfl, hnc, hm, ?_, ?_, ?_, fun j => h1'.frozenAt j⟩
    · rw [hc 2 (by omega), h4]; rfl
    · rw [← Nat.add_zero (init.length * 3), hc 0 (by omega), h4]; rfl
    · rw [hc 1 (by omega), h4]; rfl

/-- a hunk more, without marks -/
theorem run_push_last {P : Program} {t ty e em : TypeId} (hP : ElemOk P t e 3) {w0 : World} {O : Nat → Prop} {v : Value} {l : List Hunk} {o n : Int} (E' : TypeId)
    (hown : Own e w0 O v l) (hO : ∀ k, O k → k < w0.heap.size) (hlen : l.length ≤ 1000000000) :
    ∃ v' w', (Builtin.append_ #[t, t] ty #[v, .slice (some ⟨w0.heap.size, 0, none⟩) 1 1]).run P (w0.alloc (.cells #[.int .i64 o, .int .i64 n, .slice none 0 0] E')) = .ok v' w' ∧ (∃ xs, OwnLast e em w' O v' l ⟨o, n, []⟩ (.slice none 0 0) xs) ∧ Chg (OwnB v) w0 w' := by
  obtain ⟨xs, hx, hb, hel⟩ := id hown
  obtain ⟨v', w', hrun, hrow, hc, kb, hkb, hkb2⟩ := run_push_raw (by decide) hP (ty := ty) (es := [.int .i64 o, .int .i64 n, .slice none 0 0]) E' hx rfl (by intro u hu; simp at hu; rcases hu with rfl | rfl | rfl <;> rfl) hlen
  have hxl : xs.length = l.length * 3 := hx.1
  have hout : ∀ k, v'.ownBlock = some k → ¬ O k := by
    intro k hk ho
    rw [hkb] at hk
    injection hk with hk
    subst hk
    rcases hkb2 with h | h
    · exact hb _ h ho
    · exact absurd (hO _ ho) (by omega)
  refine ⟨v', w', hrun, ⟨xs ++ [.int .i64 o, .int .i64 n, .slice none 0 0], hrow, hout, ?_, ?_, own_nil _ _ _⟩, hc⟩
  · intro i x hi
    have hil := (List.getElem?_eq_some_iff.1 hi).1
    have hr := hel i x hi
    have hle : i * 3 + 3 ≤ xs.length := by omega
    rw [List.drop_append_of_le_length (by omega), List.take_append_of_le_length (by rw [List.length_drop]; omega)]
    refine Dat.keep hr hc (fun k _ hk => .inr hk) ?_
    rintro k hk ((h | h) | h)
    · exact .inl h
    · rw [hkb] at h
      injection h with h
      subst h
      rcases hkb2 with h | h
      · exact .inr h
      · omega
    · cases h
  · rw [← hxl, List.drop_left]
theorem wpList_push_last {P : Program} {ops : Array Oper} {rest : List Oper} {o : Oper} {a : Act} {Q : Exit → Act → World → Prop} (hgd : o.guard = none) (s x : Operand) (t : TypeId)
    (ho : o.op = .call { callee := .builtin .append, args := #[s, x], argTypes := #[t, t] }) {e : TypeId} (em : TypeId) (hP : ElemOk P t e 3) {w0 : World} {O : Nat → Prop} {v : Value} {l : List Hunk} {old new : Int} {E' : TypeId} {B : Nat}
    (hs : a.eval s = v) (hx : a.eval x = .slice (some ⟨B, 0, none⟩) 1 1) (hB : B = w0.heap.size)
    (hown : Own e w0 O v l) (hO : ∀ k, O k → k < w0.heap.size) (hlen : l.length ≤ 1000000000)
    (h : ∀ v' w' xs, OwnLast e em w' O v' l ⟨old, new, []⟩ (.slice none 0 0) xs → Chg (OwnB v) w0 w' → wpList P ops Q rest (a.put o.dst v') w') :
    wpList P ops Q (o :: rest) a (w0.alloc (.cells #[.int .i64 old, .int .i64 new, .slice none 0 0] E')) := by
  subst hB
  refine wpList_plain hgd fun K hK => ?_
  obtain ⟨v', w', hrun, ⟨xs, h1⟩, h2⟩ := run_push_last (ty := o.type) (em := em) (o := old) (n := new) hP E' hown hO hlen
  unfold Oper.wp execOp
  simp only [ho, resolve, invoke, builtin, Sem.run_bind, Sem.run_pure, Result.andThen_ok, List.map_toArray, List.map_cons, List.map_nil, hs, hx, hrun]
  exact hK _ _ (h v' w' xs h1 h2)

/-- the last one's marks, grown by an append in w0 → w1, are stored back -/
theorem OwnLast.stored {e em : TypeId} {w0 w1 : World} {O : Nat → Prop} {g n cap : Nat} {init : List Hunk} {h : Hunk} {mv mv' : Value} {xs : List Value} {ms : List Mark}
    (hl : OwnLast e em w0 O (.slice (some ⟨g, 0, none⟩) n cap) init h mv xs)
    (hown : Own em w1 (fun k => O k ∨ (Value.slice (some ⟨g, 0, none⟩) n cap).ownBlock = some k) mv' ms) (hc : Chg (OwnB mv) w0 w1) (hk : ∃ k, mv'.ownBlock = some k ∧ (mv.ownBlock = some k ∨ w0.heap.size ≤ k)) :
    OwnLast e em (w1.setCell ⟨g, init.length * 3 + 2, none⟩ mv') O (.slice (some ⟨g, 0, none⟩) n cap) init ⟨h.old, h.new, ms⟩ mv' (xs.set (init.length * 3 + 2) mv') := by
  obtain ⟨h1, h2, h3, h4, h5⟩ := hl
  obtain ⟨kb, hkb, hkb2⟩ := hk
  have hn : n = init.length + 1 := by
    rcases h1.2 with ⟨h, _⟩ | ⟨g', cap', cur, h, _⟩
    · cases h
    · simp only [Value.slice.injEq] at h
      exact h.2.1
  subst hn
  have hg0 : g < w0.heap.size := (h1.lt g rfl).2
  have hgm : ¬ OwnB mv g := by
    obtain ⟨_, _, q, _⟩ := h5
    exact fun hh => q g hh (.inr rfl)
  have row1 : w1.ownsRow 0 e 3 (.slice (some ⟨g, 0, none⟩) (init.length + 1) cap) (init.length + 1) xs := by
    refine ⟨h1.1, ?_⟩
    rcases h1.2 with h | ⟨g', cap', cur, hv, r1, r2, r3⟩
    · exact .inl h
    · simp only [Value.slice.injEq, Option.some.injEq, Addr.mk.injEq, and_true, true_and] at hv
      obtain ⟨rfl, rfl⟩ := hv
      exact .inr ⟨g, cap, cur, rfl, r1, (hc.block g hg0 hgm).trans r2, r3⟩
  have hst := (row1.stored (init.length * 3 + 2) mv').1
  have hc2 : Chg (fun k => k = g) w1 (w1.setCell ⟨g, init.length * 3 + 2, none⟩ mv') := (Chg.refl (fun k => k = g) w1).setCell (p := ⟨g, init.length * 3 + 2, none⟩) (.inr rfl) mv'
  have hxl : xs.length = (init.length + 1) * 3 := h1.1
  refine ⟨hst, h2, ?_, ?_, ?_⟩
  · intro i x hi
    have hil := (List.getElem?_eq_some_iff.1 hi).1
    have hr := h3 i x hi
    have e1 : ((xs.set (init.length * 3 + 2) mv').drop (i * 3)).take 3 = (xs.drop (i * 3)).take 3 := by
      apply List.ext_getElem?
      intro j
      rw [List.getElem?_take, List.getElem?_take]
      by_cases hj : j < 3
      · rw [if_pos hj, if_pos hj, List.getElem?_drop, List.getElem?_drop, List.getElem?_set_ne (by omega)]
      · rw [if_neg hj, if_neg hj]
    rw [e1]
    refine Dat.keep (Dat.keep hr hc (O'' := fun k => (O k ∨ (Value.slice (some ⟨g, 0, none⟩) (init.length + 1) cap).ownBlock = some k) ∨ mv'.ownBlock = some k) (fun k _ hk => .inr hk) ?_) hc2 ?_ (fun k _ h => h)
    · rintro k hk (h | h)
      · exact .inl h
      · rw [hkb] at h
        injection h with h
        subst h
        rcases hkb2 with h | h
        · exact .inr h
        · omega
    · rintro k _ rfl
      exact .inl (.inr rfl)
  · apply List.ext_getElem?
    intro j
    have h4j : xs[init.length * 3 + j]? = [Value.int .i64 h.old, .int .i64 h.new, mv][j]? := by rw [← List.getElem?_drop, h4]
    rw [List.getElem?_drop]
    match j with
    | 0 => rw [List.getElem?_set_ne (by omega), h4j]; rfl
    | 1 => rw [List.getElem?_set_ne (by omega), h4j]; rfl
    | 2 => rw [List.getElem?_set_self (by omega)]; rfl
    | j + 3 => rw [List.getElem?_set_ne (by omega), h4j]; rfl
  · refine hown.keep hc2 ?_ (fun k _ h => h)
    rintro k _ rfl
    exact .inr rfl

theorem OwnLast.keep {e em : TypeId} {w w' : World} {O : Nat → Prop} {v : Value} {init : List Hunk} {h : Hunk} {mv : Value} {xs : List Value} (hl : OwnLast e em w O v init h mv xs) (hc : Chg Never w w') : OwnLast e em w' O v init h mv xs := by
  obtain ⟨h1, h2, h3, h4, h5⟩ := hl
  refine ⟨⟨h1.1, ?_⟩, h2, fun i x hi => Dat.never (h3 i x hi) hc, h4, h5.never hc⟩
  rcases h1.2 with h | ⟨g', cap', cur, hv, r1, r2, r3⟩
  · exact .inl h
  · subst hv
    exact .inr ⟨g', cap', cur, rfl, r1, (hc.block g' (h1.lt g' rfl).2 (fun x => x)).trans r2, r3⟩
end Go.Proofs.YtpoammapjmddfaaDoor
