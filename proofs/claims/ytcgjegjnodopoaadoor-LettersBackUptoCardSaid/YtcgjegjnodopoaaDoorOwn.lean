/-
  A SLICE THAT THE CALL ITSELF BUILDS BY append ('Own'): kept, pushed onto, read. No program in sight.
-/
import Derived.Test.YtcgjegjnodopoaaDoorDat
namespace Go.Proofs.YtcgjegjnodopoaaDoor
open Go.RowKit

theorem own_block_lt {α : Type} [Dat α] {e : TypeId} {w : World} {O : Nat → Prop} {v : Value} {l : List α} (h : Own e w O v l) : ∀ k, v.ownBlock = some k → k < w.heap.size := by
  obtain ⟨xs, h1, _⟩ := h
  exact fun k hk => (h1.lt k hk).2

theorem Own.keep {α : Type} [Dat α] {e : TypeId} {w w' : World} {O O' O'' : Nat → Prop} {v : Value} {l : List α} (h : Own e w O v l) (hc : Chg O' w w')
    (h1 : ∀ k, k < w.heap.size → O' k → O k) (h2 : ∀ k, k < w.heap.size → O'' k → O k) : Own e w' O'' v l := by
  obtain ⟨xs, hx, hb, hel⟩ := h
  have hlt := fun k hk => (hx.lt k hk).2
  refine ⟨xs, ?_, fun k hk ho => hb k hk (h2 k (hlt k hk) ho), ?_⟩
  · refine ⟨hx.1, ?_⟩
    rcases hx.2 with h | ⟨g, cap, cur, rfl, hg, hh, r⟩
    · exact .inl h
    · refine .inr ⟨g, cap, cur, rfl, hg, ?_, r⟩
      rw [hc.block g (hlt g rfl) (fun ho => hb g rfl (h1 g (hlt g rfl) ho))]
      exact hh
  · intro i x hi
    refine Dat.keep (hel i x hi) hc (fun k hk ho => .inl (h1 k hk ho)) ?_
    rintro k hk (ho | ho)
    · exact .inl (h2 k hk ho)
    · exact .inr ho
theorem Own.never {α : Type} [Dat α] {e : TypeId} {w w' : World} {O : Nat → Prop} {v : Value} {l : List α} (h : Own e w O v l) (hc : Chg Never w w') : Own e w' O v l :=
  h.keep hc (fun _ _ h => h.elim) (fun _ _ h => h)

/-- an owned slice reads as any other -/
theorem Own.rdv {α : Type} [Dat α] {e : TypeId} {w : World} {O : Nat → Prop} {v : Value} {l : List α} (h : Own e w O v l) : Rdv w O v l := by
  obtain ⟨xs, hx, hb, hel⟩ := h
  have hlen := hx.1
  rcases hx.2 with ⟨rfl, h0⟩ | ⟨g, cap, cur, rfl, hg, hh, hn, hm, hcs, htake⟩
  · have : l = [] := List.eq_nil_of_length_eq_zero h0
    subst this
    exact rdv_nil _ _
  · refine ⟨some ⟨g, 0, none⟩, cap, rfl, hn, hm, ?_⟩
    intro i x hi
    have hil := (List.getElem?_eq_some_iff.1 hi).1
    have hel' := hel i x hi
    have hel2 : Dat.rd w O _ x := Dat.keep hel' (Chg.refl Never w) (fun _ _ h => h.elim) (fun k _ ho => .inl ho)
    refine ⟨g, 0, _, rfl, hb g rfl, ?_, hel2⟩
    intro j u hj
    have hcell := World.ownsRow.cells hx (g := g) rfl (i * Dat.n α + j) u ?_
    · rw [← hcell]
      unfold Addr.add
      split <;> simp_all
    · rw [List.getElem?_take] at hj
      split at hj
      · rw [List.getElem?_drop] at hj; exact hj
      · cases hj

theorem append_block {P : Program} (w : World) (base : Nat) (t ty e : TypeId) (i : TypeInfo) (z : Value) (size bytes : Nat) (ht : P.underlying t = some (.slice e)) (hi : P.info? e = some i) (hz : i.zero = some z)
    (hsize : i.size = size) (hby : i.bytes = bytes)
    (v : Value) (n : Nat) (xs : List Value) (hown : w.ownsRow base e size v n xs)
    (a : Addr) (m c : Nat) (news : List Value) (hl : news.length = m * size) (hnews : ∀ j u, news[j]? = some u → w.cell? (a.add j) = some u) (h1 : ∀ u ∈ news, u.oneCell' = true)
    (h63 : n + m ≤ maxLen) (hbytes : (n + m) * bytes ≤ 140737488355328) (hm : m ≠ 0) {v' : Value} {w' : World} (hrun : (Builtin.append_ #[t, t] ty #[v, .slice (some a) m c]).run P w = .ok v' w') :
    ∃ k, v'.ownBlock = some k ∧ (v.ownBlock = some k ∨ k = w.heap.size) := by
  subst hsize
  subst hby
  have hsmall : n + m ≤ 9223372036854775807 := by simp only [maxLen] at h63; omega
  rcases hown.2 with ⟨rfl, rfl⟩ | ⟨g, cap, cur, rfl, hbg, hg, hnc, hcm, hcs, htake⟩
  · have hr := run_append_nil (P := P) w t ty e i z ht hi hz a m c news hl hnews (by omega) (by omega) (by have hb := hbytes; simp only [Nat.zero_add] at hb; omega)
    rw [hr] at hrun
    injection hrun with hv _
    subst hv
    exact ⟨_, rfl, .inr rfl⟩
  · by_cases hroom : n + m ≤ cap
    · have hfit : n * i.size + news.length ≤ cur.size := by rw [hl, hcs, ← Nat.add_mul]; exact Nat.mul_le_mul_right _ hroom
      have hr := run_append_room (P := P) w t ty e i ht hi g n cap cur hg a m c news hl hnews h1 hroom hfit
      rw [hr] at hrun
      injection hrun with hv _
      subst hv
      exact ⟨_, rfl, .inl rfl⟩
    · have holds : ∀ j u, xs[j]? = some u → w.cell? ((⟨g, 0, none⟩ : Addr).add j) = some u := hown.cells (g := g) rfl
      have hr := run_append_grow (P := P) w t ty e i z ht hi hz ⟨g, 0, none⟩ n cap xs hown.1 holds a m c news hl hnews (by omega) (by omega) (growslice_fits (by omega) hbytes)
      rw [hr] at hrun
      injection hrun with hv _
      subst hv
      exact ⟨_, rfl, .inr rfl⟩

/-- what a slice's element type asks of the program's table -/
structure ElemOk (P : Program) (t e : TypeId) (n : Nat) : Prop where
  ht : P.underlying t = some (.slice e)
  info : ∃ i z, P.info? e = some i ∧ i.zero = some z ∧ i.size = n ∧ z.cells.size = n ∧ i.bytes ≤ 128

theorem run_push {P : Program} {α : Type} [Dat α] {t ty e : TypeId} (hP : ElemOk P t e (Dat.n α)) {w0 : World} {O : Nat → Prop} {v : Value} {l : List α} {y : α} {es : List Value} (E' : TypeId)
    (hown : Own e w0 O v l) (hy : Dat.rd w0 (fun k => O k ∨ v.ownBlock = some k) es y) (hO : ∀ k, O k → k < w0.heap.size) (hlen : l.length ≤ 1000000000) :
    ∃ v' w', (Builtin.append_ #[t, t] ty #[v, .slice (some ⟨w0.heap.size, 0, none⟩) 1 1]).run P (w0.alloc (.cells es.toArray E')) = .ok v' w' ∧ Own e w' O v' (l ++ [y]) ∧ Chg (OwnB v) w0 w' ∧ (∃ k, v'.ownBlock = some k ∧ (v.ownBlock = some k ∨ w0.heap.size ≤ k)) := by
  obtain ⟨i, z, hi, hz, hsz, hzs, hby⟩ := hP.info
  have hlt := own_block_lt hown
  obtain ⟨xs, hx, hb, hel⟩ := id hown
  have hnl : es.length = 1 * Dat.n α := by rw [Dat.len hy]; omega
  have hpos := Dat.pos (α := α)
  have hcells : ∀ j u, es[j]? = some u → (w0.alloc (.cells es.toArray E')).cell? ((⟨w0.heap.size, 0, none⟩ : Addr).add j) = some u := by
    intro j u hj
    have e1 : (⟨w0.heap.size, 0, none⟩ : Addr).add j = ⟨w0.heap.size, j, none⟩ := by unfold Addr.add; split <;> simp_all
    rw [e1, World.cell?, heap_alloc_new]
    simpa using hj
  have hx' := hx.alloc (.cells es.toArray E')
  have hbound : (l.length + 1) * i.bytes ≤ 140737488355328 := by
    have := Nat.mul_le_mul (show l.length + 1 ≤ 1000000001 by omega) hby
    omega
  obtain ⟨v', w', hrun, hown', hgrow, hnil⟩ := run_append_own (P := P) (w0.alloc (.cells es.toArray E')) 0 t ty e i z (Dat.n α) i.bytes hP.ht hi hz hsz rfl hzs hpos v l.length xs hx'
    ⟨w0.heap.size, 0, none⟩ 1 1 es hnl hcells (Dat.one hy) (by unfold maxLen; omega) hbound (Nat.zero_le _)
  obtain ⟨kb, hkb, hkb'⟩ := append_block (P := P) (w0.alloc (.cells es.toArray E')) 0 t ty e i z (Dat.n α) i.bytes hP.ht hi hz hsz rfl v l.length xs hx'
    ⟨w0.heap.size, 0, none⟩ 1 1 es hnl hcells (Dat.one hy) (by unfold maxLen; omega) hbound (by omega) hrun
  have hkb2 : v.ownBlock = some kb ∨ w0.heap.size ≤ kb := by
    rcases hkb' with h | h
    · exact .inl h
    · right; rw [h]; simp
  have hc : Chg (OwnB v) w0 w' := ((Chg.refl (OwnB v) w0).alloc _).trans' (Chg.of_grown hgrow) (fun k _ hk => hk)
  refine ⟨v', w', hrun, ⟨xs ++ es, ?_, ?_, ?_⟩, hc, kb, hkb, hkb2⟩
  · simpa using hown'
  · intro k hk ho
    rw [hkb] at hk
    injection hk with hk
    subst hk
    rcases hkb2 with h | h
    · exact hb _ h ho
    · exact absurd (hO _ ho) (by omega)
  · have hsub : ∀ k, k < w0.heap.size → (O k ∨ v'.ownBlock = some k) → (O k ∨ v.ownBlock = some k) := by
      rintro k hk (h | h)
      · exact .inl h
      · rw [hkb] at h
        injection h with h
        subst h
        rcases hkb2 with h | h
        · exact .inr h
        · omega
    intro j x hj
    have hxl := hx.1
    rcases Nat.lt_or_ge j l.length with hjl | hjl
    · rw [List.getElem?_append_left hjl] at hj
      have h := Dat.keep (hel j x hj) hc (fun k _ hk => .inr hk) hsub
      have hle : j * Dat.n α + Dat.n α ≤ xs.length := by rw [hxl, ← Nat.succ_mul]; exact Nat.mul_le_mul_right _ hjl
      rw [List.drop_append_of_le_length (by omega), List.take_append_of_le_length (by rw [List.length_drop]; omega)]
      exact h
    · have e : j = l.length := by
        have := (List.getElem?_eq_some_iff.1 hj).1
        simp at this
        omega
      subst e
      simp at hj
      subst hj
      rw [← hxl, List.drop_left, List.take_of_length_le (by omega)]
      exact Dat.keep hy hc (fun k _ hk => .inr hk) hsub

/-- 'out = append(out, y)': y's cells have just been laid in a block of their own -/
theorem wpList_push {P : Program} {ops : Array Oper} {rest : List Oper} {o : Oper} {a : Act} {Q : Exit → Act → World → Prop} (hgd : o.guard = none) (s x : Operand) (t : TypeId)
    (ho : o.op = .call { callee := .builtin .append, args := #[s, x], argTypes := #[t, t] }) {α : Type} [Dat α] {e : TypeId} (hP : ElemOk P t e (Dat.n α)) {w0 : World} {O : Nat → Prop} {v : Value} {l : List α} {y : α} {es : List Value} {E' : TypeId} {B : Nat}
    (hs : a.eval s = v) (hx : a.eval x = .slice (some ⟨B, 0, none⟩) 1 1) (hB : B = w0.heap.size)
    (hown : Own e w0 O v l) (hy : Dat.rd w0 (fun k => O k ∨ v.ownBlock = some k) es y) (hO : ∀ k, O k → k < w0.heap.size) (hlen : l.length ≤ 1000000000)
    (h : ∀ v' w', Own e w' O v' (l ++ [y]) → Chg (OwnB v) w0 w' → (∃ k, v'.ownBlock = some k ∧ (v.ownBlock = some k ∨ w0.heap.size ≤ k)) → wpList P ops Q rest (a.put o.dst v') w') :
    wpList P ops Q (o :: rest) a (w0.alloc (.cells es.toArray E')) := by
  subst hB
  refine wpList_plain hgd fun K hK => ?_
  obtain ⟨v', w', hrun, h1, h2, h3⟩ := run_push (ty := o.type) hP E' hown hy hO hlen
  unfold Oper.wp execOp
  simp only [ho, resolve, invoke, builtin, Sem.run_bind, Sem.run_pure, Result.andThen_ok, List.map_toArray, List.map_cons, List.map_nil, hs, hx, hrun]
  exact hK _ _ (h v' w' h1 h2 h3)

theorem elemOk_of {P : Program} {t e : TypeId} {n b : Nat} {z : Value} (ht : P.underlying t = some (.slice e)) (h : (P.info? e).map (fun i => (i.zero, i.size, i.bytes)) = some (some z, n, b)) (hz : z.cells.size = n) (hb : b ≤ 128) : ElemOk P t e n := by
  obtain ⟨i, h1, h2, h3, h4⟩ := info_parts h
  exact ⟨ht, i, z, h1, h2, h3, hz, by omega⟩

/-- a step that may have changed the call's own row leaves what was there before the call -/
theorem own_step {α : Type} [Dat α] {e : TypeId} {w wr w' : World} {v : Value} {l : List α} (hc : Chg Never w wr) (hown : Own e wr (Old w.heap.size) v l) (hc' : Chg (OwnB v) wr w') : Chg Never w w' := by
  refine hc.trans' hc' ?_
  intro i hi ho
  obtain ⟨xs, _, hb, _⟩ := hown
  exact (hb i ho hi).elim
theorem old_lt {w wr : World} (hc : Chg Never w wr) : ∀ k, Old w.heap.size k → k < wr.heap.size := fun _ hk => Nat.lt_of_lt_of_le hk hc.size
end Go.Proofs.YtcgjegjnodopoaaDoor
